/- The walks of package bitio's reader: numbers. -/
import Derived.Test.YtlohplopomfjhaaWI
namespace Go.Proofs.Ytlohplopomfjhaa
set_option linter.unusedVariables false
set_option linter.unusedSimpArgs false
open Go.RowKit Go.Own Go.Bits

theorem or64 (k x : Nat) (hk : k < 64) (hx : x < 2 ^ k) : bits BinOp.or IntKind.u64 (x : Int) (IntKind.u64.wrap ((2 : Int) ^ k)) = ((x + 2 ^ k : Nat) : Int) := by
  rw [IntKind.wrap_u64]
  have h1 : 2 ^ k < 18446744073709551616 := by
    have := Nat.pow_lt_pow_right (a := 2) (by omega) hk
    exact this
  have e : (2 : Int) ^ k % 18446744073709551616 = ((2 ^ k : Nat) : Int) := by
    have : ((2 : Int) ^ k) = ((2 ^ k : Nat) : Int) := by norm_cast
    rw [this]
    omega
  have h3 := Nat.two_pow_add_eq_or_of_lt hx 1
  rw [Nat.mul_one] at h3
  rw [e, bits_or_u64_nat x (2 ^ k) (by omega) h1, Nat.or_comm, ← h3, Nat.add_comm]

theorem or64_one (x : Nat) (hx : x < 9223372036854775808) : bits BinOp.or IntKind.u64 ((x : Int) * 2) 1 = ((2 * x + 1 : Nat) : Int) := by
  have e : (x : Int) * 2 = ((2 * x : Nat) : Int) := by omega
  have h := bits_or_u64_nat (2 * x) 1 (by omega) (by omega)
  rw [e]
  have h2 : 2 * x ||| 1 = 2 * x + 1 := by
    have := Nat.two_pow_add_eq_or_of_lt (i := 1) (b := 1) (by omega) x
    simpa using this.symm
  rw [h2] at h
  exact h

section
variable (g : Nat) (L : List Bool) (t : Bool) (w : World)

set_option maxHeartbeats 1600000 in
theorem rdbits_any (n : Int) (h : RdS w g L t) : Calls Try.prog 28 #[.pointer (some ⟨g, 0, none⟩), .int .i64 n] w fun e w' =>
    e = .returned (.int .u64 (val (L.take (nb n)) : Nat)) ∧ w.grownBy w' (some g) ∧ RdS w' g (L.drop (nb n)) (t || decide (L.length < nb n)) := by
  rcases nb_cases n with ⟨h1, h2⟩ | ⟨m, rfl, h1, h2⟩ | ⟨h1, h2⟩
  · rw [h2]
    clear h2
    go_enter Try.func28, Try.ntmps28
    go_wp2_with fail
    go_loopw [5, 10] (fun v5 v10 wi => ∃ k : Nat, v5 = .int .u64 (val (L.take k) : Nat) ∧ v10 = .int .i64 k ∧ k ≤ 0 ∧ w.grownBy wi (some g) ∧ RdS wi g (L.drop k) (t || decide (L.length < k)))
      (fun _ v10 _ => 0 - (intOf v10).toNat)
    case atStart => exact ⟨0, rfl, rfl, Nat.zero_le _, gb_refl _ _, by simpa using h⟩
    case round =>
      obtain ⟨k, rfl, rfl, hk, hg, hr⟩ := hrel
      by_cases hkm : k < 0
      · first
          | (exfalso; omega)
          | (
            have hx := val_take_lt L k
            have hk64 : k < 64 := by omega
            have hvt := val_take L k
            have hb := rbit_any g (L.drop k) (t || decide (L.length < k)) wr hr
            rw [head_drop, tail_drop, torn_drop] at hb
            have hor := or64 k (val (L.take k)) hk64 hx
            generalize val (L.take k) = x at *
            have HF := Lib.hid (⟨hvt, hx⟩ : _ ∧ _)
            clear hvt hx
            generalize L.getD k false = b at *
            have hkz : (k : Int) ≤ 64 := by omega
            go_wp2_with fail
            refine hb.mono ?_
            rintro e w2 ⟨rfl, hg2, hr2⟩
            clear hb
            cases b
            all_goals
              go_wp2_with fail
              go_roundw
              case rel => exact ⟨k + 1, by rw [HF.out.1]; simp [hor], by go_num, by omega, gb_trans hg hg2, hr2⟩
              case measure => first | (simp [intOf]; done) | (simp [intOf]; omega))
      · have hkm2 : k = 0 := by omega
        subst hkm2
        go_wp2_with fail
        go_ret
        exact ⟨rfl, hg, hr⟩
  · rw [h2]
    clear h2
    go_enter Try.func28, Try.ntmps28
    go_wp2_with fail
    go_loopw [5, 10] (fun v5 v10 wi => ∃ k : Nat, v5 = .int .u64 (val (L.take k) : Nat) ∧ v10 = .int .i64 k ∧ k ≤ m ∧ w.grownBy wi (some g) ∧ RdS wi g (L.drop k) (t || decide (L.length < k)))
      (fun _ v10 _ => m - (intOf v10).toNat)
    case atStart => exact ⟨0, rfl, rfl, Nat.zero_le _, gb_refl _ _, by simpa using h⟩
    case round =>
      obtain ⟨k, rfl, rfl, hk, hg, hr⟩ := hrel
      by_cases hkm : k < m
      · first
          | (exfalso; omega)
          | (
            have hx := val_take_lt L k
            have hk64 : k < 64 := by omega
            have hvt := val_take L k
            have hb := rbit_any g (L.drop k) (t || decide (L.length < k)) wr hr
            rw [head_drop, tail_drop, torn_drop] at hb
            have hor := or64 k (val (L.take k)) hk64 hx
            generalize val (L.take k) = x at *
            have HF := Lib.hid (⟨hvt, hx⟩ : _ ∧ _)
            clear hvt hx
            generalize L.getD k false = b at *
            have hkz : (k : Int) ≤ 64 := by omega
            go_wp2_with fail
            refine hb.mono ?_
            rintro e w2 ⟨rfl, hg2, hr2⟩
            clear hb
            cases b
            all_goals
              go_wp2_with fail
              go_roundw
              case rel => exact ⟨k + 1, by rw [HF.out.1]; simp [hor], by go_num, by omega, gb_trans hg hg2, hr2⟩
              case measure => first | (simp [intOf]; done) | (simp [intOf]; omega))
      · have hkm2 : k = m := by omega
        subst hkm2
        go_wp2_with fail
        go_ret
        exact ⟨rfl, hg, hr⟩
  · rw [h2]
    clear h2
    go_enter Try.func28, Try.ntmps28
    go_wp2_with fail
    go_loopw [5, 10] (fun v5 v10 wi => ∃ k : Nat, v5 = .int .u64 (val (L.take k) : Nat) ∧ v10 = .int .i64 k ∧ k ≤ 64 ∧ w.grownBy wi (some g) ∧ RdS wi g (L.drop k) (t || decide (L.length < k)))
      (fun _ v10 _ => 64 - (intOf v10).toNat)
    case atStart => exact ⟨0, rfl, rfl, Nat.zero_le _, gb_refl _ _, by simpa using h⟩
    case round =>
      obtain ⟨k, rfl, rfl, hk, hg, hr⟩ := hrel
      by_cases hkm : k < 64
      · first
          | (exfalso; omega)
          | (
            have hx := val_take_lt L k
            have hk64 : k < 64 := by omega
            have hvt := val_take L k
            have hb := rbit_any g (L.drop k) (t || decide (L.length < k)) wr hr
            rw [head_drop, tail_drop, torn_drop] at hb
            have hor := or64 k (val (L.take k)) hk64 hx
            generalize val (L.take k) = x at *
            have HF := Lib.hid (⟨hvt, hx⟩ : _ ∧ _)
            clear hvt hx
            generalize L.getD k false = b at *
            have hkz : (k : Int) ≤ 64 := by omega
            go_wp2_with fail
            refine hb.mono ?_
            rintro e w2 ⟨rfl, hg2, hr2⟩
            clear hb
            cases b
            all_goals
              go_wp2_with fail
              go_roundw
              case rel => exact ⟨k + 1, by rw [HF.out.1]; simp [hor], by go_num, by omega, gb_trans hg hg2, hr2⟩
              case measure => first | (simp [intOf]; done) | (simp [intOf]; omega))
      · have hkm2 : k = 64 := by omega
        subst hkm2
        go_wp2_with fail
        go_ret
        exact ⟨rfl, hg, hr⟩

set_option maxHeartbeats 1600000 in
theorem rdbits_nil (n : Int) : Calls Try.prog 28 #[.pointer none, .int .i64 n] w fun e w' => e = .returned (.int .u64 0) ∧ w.grownBy w' none := by
  rcases nb_cases n with ⟨h1, h2⟩ | ⟨m, rfl, h1, h2⟩ | ⟨h1, h2⟩
  · clear h2
    go_enter Try.func28, Try.ntmps28
    go_wp2_with fail
    go_loopw [5, 10] (fun v5 v10 wi => ∃ k : Nat, v5 = .int .u64 0 ∧ v10 = .int .i64 k ∧ k ≤ 0 ∧ w.grownBy wi none)
      (fun _ v10 _ => 0 - (intOf v10).toNat)
    case atStart => exact ⟨0, rfl, rfl, Nat.zero_le _, gb_refl _ _⟩
    case round =>
      obtain ⟨k, rfl, rfl, hk, hg⟩ := hrel
      by_cases hkm : k < 0
      · first
          | (exfalso; omega)
          | (
            go_wp2_with fail
            refine (rbit_nil wr).mono ?_
            rintro e w2 ⟨rfl, hg2⟩
            go_wp2_with fail
            go_roundw
            case rel => exact ⟨k + 1, rfl, by go_num, by omega, gb_trans hg hg2⟩
            case measure => first | (simp [intOf]; done) | (simp [intOf]; omega))
      · have hkm2 : k = 0 := by omega
        subst hkm2
        go_wp2_with fail
        go_ret
        exact ⟨rfl, hg⟩
  · clear h2
    go_enter Try.func28, Try.ntmps28
    go_wp2_with fail
    go_loopw [5, 10] (fun v5 v10 wi => ∃ k : Nat, v5 = .int .u64 0 ∧ v10 = .int .i64 k ∧ k ≤ m ∧ w.grownBy wi none)
      (fun _ v10 _ => m - (intOf v10).toNat)
    case atStart => exact ⟨0, rfl, rfl, Nat.zero_le _, gb_refl _ _⟩
    case round =>
      obtain ⟨k, rfl, rfl, hk, hg⟩ := hrel
      by_cases hkm : k < m
      · first
          | (exfalso; omega)
          | (
            go_wp2_with fail
            refine (rbit_nil wr).mono ?_
            rintro e w2 ⟨rfl, hg2⟩
            go_wp2_with fail
            go_roundw
            case rel => exact ⟨k + 1, rfl, by go_num, by omega, gb_trans hg hg2⟩
            case measure => first | (simp [intOf]; done) | (simp [intOf]; omega))
      · have hkm2 : k = m := by omega
        subst hkm2
        go_wp2_with fail
        go_ret
        exact ⟨rfl, hg⟩
  · clear h2
    go_enter Try.func28, Try.ntmps28
    go_wp2_with fail
    go_loopw [5, 10] (fun v5 v10 wi => ∃ k : Nat, v5 = .int .u64 0 ∧ v10 = .int .i64 k ∧ k ≤ 64 ∧ w.grownBy wi none)
      (fun _ v10 _ => 64 - (intOf v10).toNat)
    case atStart => exact ⟨0, rfl, rfl, Nat.zero_le _, gb_refl _ _⟩
    case round =>
      obtain ⟨k, rfl, rfl, hk, hg⟩ := hrel
      by_cases hkm : k < 64
      · first
          | (exfalso; omega)
          | (
            go_wp2_with fail
            refine (rbit_nil wr).mono ?_
            rintro e w2 ⟨rfl, hg2⟩
            go_wp2_with fail
            go_roundw
            case rel => exact ⟨k + 1, rfl, by go_num, by omega, gb_trans hg hg2⟩
            case measure => first | (simp [intOf]; done) | (simp [intOf]; omega))
      · have hkm2 : k = 64 := by omega
        subst hkm2
        go_wp2_with fail
        go_ret
        exact ⟨rfl, hg⟩

set_option maxHeartbeats 1600000 in
set_option maxRecDepth 100000 in
theorem rdturned_any (n : Int) (h : RdS w g L t) : Calls Try.prog 44 #[.pointer (some ⟨g, 0, none⟩), .int .i64 n] w fun e w' =>
    e = .returned (.int .u64 (tv L (nb n) : Nat)) ∧ w.grownBy w' (some g) ∧ RdS w' g (L.drop (nb n)) (t || decide (L.length < nb n)) := by
  rcases nb_cases n with ⟨h1, h2⟩ | ⟨m, rfl, h1, h2⟩ | ⟨h1, h2⟩
  · rw [h2]
    clear h2
    go_enter Try.func44, Try.ntmps44
    go_wp2_with fail
    go_loopw [5, 9] (fun v5 v9 wi => ∃ k : Nat, v5 = .int .u64 (tv L k : Nat) ∧ v9 = .int .i64 k ∧ k ≤ 0 ∧ w.grownBy wi (some g) ∧ RdS wi g (L.drop k) (t || decide (L.length < k)))
      (fun _ v9 _ => 0 - (intOf v9).toNat)
    case atStart => exact ⟨0, rfl, rfl, Nat.zero_le _, gb_refl _ _, by simpa using h⟩
    case round =>
      obtain ⟨k, rfl, rfl, hk, hg, hr⟩ := hrel
      by_cases hkm : k < 0
      · first
          | (exfalso; omega)
          | (
            have hx : tv L k < 9223372036854775808 := Nat.lt_of_lt_of_le (tv_lt L k) (Nat.pow_le_pow_right (n := 2) (by omega) (show k ≤ 63 by omega))
            have hvt : tv L (k + 1) = 2 * tv L k + (L.getD k false).toNat := rfl
            have hb := rbit_any g (L.drop k) (t || decide (L.length < k)) wr hr
            rw [head_drop, tail_drop, torn_drop] at hb
            have hor := or64_one (tv L k) hx
            generalize tv L k = x at *
            have hxi : (x : Int) * 2 < 18446744073709551616 := by omega
            have hk64 : (k : Int) < 64 := by omega
            have HF := Lib.hid hvt
            clear hvt
            generalize L.getD k false = b at *
            go_wp2_with fail
            refine hb.mono ?_
            rintro e w2 ⟨rfl, hg2, hr2⟩
            clear hb
            cases b
            all_goals
              go_wp2_with fail
              go_roundw
              case rel => exact ⟨k + 1, by rw [HF.out]; first | (simp [hor]; done) | (simp [hor]; omega), by go_num, by omega, gb_trans hg hg2, hr2⟩
              case measure => first | (simp [intOf]; done) | (simp [intOf]; omega))
      · have hkm2 : k = 0 := by omega
        subst hkm2
        go_wp2_with fail
        go_ret
        exact ⟨rfl, hg, hr⟩
  · rw [h2]
    clear h2
    go_enter Try.func44, Try.ntmps44
    go_wp2_with fail
    go_loopw [5, 9] (fun v5 v9 wi => ∃ k : Nat, v5 = .int .u64 (tv L k : Nat) ∧ v9 = .int .i64 k ∧ k ≤ m ∧ w.grownBy wi (some g) ∧ RdS wi g (L.drop k) (t || decide (L.length < k)))
      (fun _ v9 _ => m - (intOf v9).toNat)
    case atStart => exact ⟨0, rfl, rfl, Nat.zero_le _, gb_refl _ _, by simpa using h⟩
    case round =>
      obtain ⟨k, rfl, rfl, hk, hg, hr⟩ := hrel
      by_cases hkm : k < m
      · first
          | (exfalso; omega)
          | (
            have hx : tv L k < 9223372036854775808 := Nat.lt_of_lt_of_le (tv_lt L k) (Nat.pow_le_pow_right (n := 2) (by omega) (show k ≤ 63 by omega))
            have hvt : tv L (k + 1) = 2 * tv L k + (L.getD k false).toNat := rfl
            have hb := rbit_any g (L.drop k) (t || decide (L.length < k)) wr hr
            rw [head_drop, tail_drop, torn_drop] at hb
            have hor := or64_one (tv L k) hx
            generalize tv L k = x at *
            have hxi : (x : Int) * 2 < 18446744073709551616 := by omega
            have hk64 : (k : Int) < 64 := by omega
            have HF := Lib.hid hvt
            clear hvt
            generalize L.getD k false = b at *
            go_wp2_with fail
            refine hb.mono ?_
            rintro e w2 ⟨rfl, hg2, hr2⟩
            clear hb
            cases b
            all_goals
              go_wp2_with fail
              go_roundw
              case rel => exact ⟨k + 1, by rw [HF.out]; first | (simp [hor]; done) | (simp [hor]; omega), by go_num, by omega, gb_trans hg hg2, hr2⟩
              case measure => first | (simp [intOf]; done) | (simp [intOf]; omega))
      · have hkm2 : k = m := by omega
        subst hkm2
        go_wp2_with fail
        go_ret
        exact ⟨rfl, hg, hr⟩
  · skip
    generalize hM : nb n = M at *
    have hM1 : M ≤ 64 := by omega
    have hM2 : 64 ≤ M := by omega
    clear hM h2
    go_enter Try.func44, Try.ntmps44
    go_wp2_with fail
    go_loopw [5, 9] (fun v5 v9 wi => ∃ k : Nat, v5 = .int .u64 (tv L k : Nat) ∧ v9 = .int .i64 k ∧ k ≤ M ∧ w.grownBy wi (some g) ∧ RdS wi g (L.drop k) (t || decide (L.length < k)))
      (fun _ v9 _ => M - (intOf v9).toNat)
    case atStart => exact ⟨0, rfl, rfl, Nat.zero_le _, gb_refl _ _, by simpa using h⟩
    case round =>
      obtain ⟨k, rfl, rfl, hk, hg, hr⟩ := hrel
      by_cases hkm : k < M
      · first
          | (exfalso; omega)
          | (
            have hx : tv L k < 9223372036854775808 := Nat.lt_of_lt_of_le (tv_lt L k) (Nat.pow_le_pow_right (n := 2) (by omega) (show k ≤ 63 by omega))
            have hvt : tv L (k + 1) = 2 * tv L k + (L.getD k false).toNat := rfl
            have hb := rbit_any g (L.drop k) (t || decide (L.length < k)) wr hr
            rw [head_drop, tail_drop, torn_drop] at hb
            have hor := or64_one (tv L k) hx
            generalize tv L k = x at *
            have hxi : (x : Int) * 2 < 18446744073709551616 := by omega
            have hk64 : (k : Int) < 64 := by omega
            have HF := Lib.hid hvt
            clear hvt
            generalize L.getD k false = b at *
            go_wp2_with fail
            refine hb.mono ?_
            rintro e w2 ⟨rfl, hg2, hr2⟩
            clear hb
            cases b
            all_goals
              go_wp2_with fail
              go_roundw
              case rel => exact ⟨k + 1, by rw [HF.out]; first | (simp [hor]; done) | (simp [hor]; omega), by go_num, by omega, gb_trans hg hg2, hr2⟩
              case measure => first | (simp [intOf]; done) | (simp [intOf]; omega))
      · have hkm2 : k = M := by omega
        subst hkm2
        go_wp2_with fail
        go_ret
        exact ⟨rfl, hg, hr⟩

end
end Go.Proofs.Ytlohplopomfjhaa
