/- The walks of the document's Take: numbers. -/
import Derived.Test.YtlohplopomfjhaaWL
namespace Go.Proofs.Ytlohplopomfjhaa
set_option linter.unusedVariables false
set_option linter.unusedSimpArgs false
open Go.RowKit Go.Own Go.Bits

section
variable (g : Nat) (L : List Bool) (t : Bool) (w : World)

set_option maxHeartbeats 3200000 in
theorem tturned_any (n : Int) (h : TkS w g L t) : Calls Try.prog 21 #[.pointer (some ⟨g, 0, none⟩), .int .i64 n] w fun e w' =>
    e = .returned (.int .u64 (tv L (nb n) : Nat)) ∧ w.grownBy w' (some g) ∧ TkS w' g (L.drop (nb n)) (t || decide (L.length < nb n)) := by
  rcases nb_cases n with ⟨h1, h2⟩ | ⟨m, rfl, h1, h2⟩ | ⟨h1, h2⟩
  · rw [h2]
    clear h2
    go_enter Try.func21, Try.ntmps21
    go_wp2_with fail
    go_loopw [5, 6] (fun v5 v6 wi => ∃ k : Nat, v5 = .int .u64 (tv L k : Nat) ∧ v6 = .int .i64 k ∧ k ≤ 0 ∧ w.grownBy wi (some g) ∧ TkS wi g (L.drop k) (t || decide (L.length < k)))
      (fun _ v6 _ => 0 - (intOf v6).toNat)
    case atStart => exact ⟨0, rfl, rfl, Nat.zero_le _, gb_refl _ _, by simpa using h⟩
    case round =>
      obtain ⟨k, rfl, rfl, hk, hg, hr⟩ := hrel
      by_cases hkm : k < 0
      · first
          | (exfalso; omega)
          | (
            have hx : tv L k < 9223372036854775808 := Nat.lt_of_lt_of_le (tv_lt L k) (Nat.pow_le_pow_right (n := 2) (by omega) (show k ≤ 63 by omega))
            have hvt : tv L (k + 1) = 2 * tv L k + (L.getD k false).toNat := rfl
            have hb := tbit_any g (L.drop k) (t || decide (L.length < k)) wr hr
            rw [head_drop, tail_drop, torn_drop] at hb
            generalize tv L k = x at *
            have hxi : (x : Int) * 2 < 18446744073709551615 := by omega
            have hkz : (k : Int) < 64 := by omega
            have HF := Lib.hid hvt
            clear hvt
            generalize L.getD k false = b at *
            go_wp2_with fail
            refine hb.mono ?_
            rintro e w2 ⟨rfl, hg2, hr2⟩
            clear hb
            cases b
            all_goals
              go_wp2_with fail
              go_roundw
              case rel => exact ⟨k + 1, by rw [HF.out]; first | (simp; done) | (simp; omega), by go_num, by omega, gb_trans hg hg2, hr2⟩
              case measure => first | (simp [intOf]; done) | (simp [intOf]; omega))
      · have hkm2 : k = 0 := by omega
        subst hkm2
        first
          | (
            go_wp2_with fail
            go_ret
            exact ⟨rfl, hg, by simpa using hr⟩)
          | (
            have hk64 : decide ((k : Int) < 64) = false := by simp; omega
            go_wp2_with fail
            go_ret
            exact ⟨rfl, hg, hr⟩)
  · rw [h2]
    clear h2
    go_enter Try.func21, Try.ntmps21
    go_wp2_with fail
    go_loopw [5, 6] (fun v5 v6 wi => ∃ k : Nat, v5 = .int .u64 (tv L k : Nat) ∧ v6 = .int .i64 k ∧ k ≤ m ∧ w.grownBy wi (some g) ∧ TkS wi g (L.drop k) (t || decide (L.length < k)))
      (fun _ v6 _ => m - (intOf v6).toNat)
    case atStart => exact ⟨0, rfl, rfl, Nat.zero_le _, gb_refl _ _, by simpa using h⟩
    case round =>
      obtain ⟨k, rfl, rfl, hk, hg, hr⟩ := hrel
      by_cases hkm : k < m
      · first
          | (exfalso; omega)
          | (
            have hx : tv L k < 9223372036854775808 := Nat.lt_of_lt_of_le (tv_lt L k) (Nat.pow_le_pow_right (n := 2) (by omega) (show k ≤ 63 by omega))
            have hvt : tv L (k + 1) = 2 * tv L k + (L.getD k false).toNat := rfl
            have hb := tbit_any g (L.drop k) (t || decide (L.length < k)) wr hr
            rw [head_drop, tail_drop, torn_drop] at hb
            generalize tv L k = x at *
            have hxi : (x : Int) * 2 < 18446744073709551615 := by omega
            have hkz : (k : Int) < 64 := by omega
            have HF := Lib.hid hvt
            clear hvt
            generalize L.getD k false = b at *
            go_wp2_with fail
            refine hb.mono ?_
            rintro e w2 ⟨rfl, hg2, hr2⟩
            clear hb
            cases b
            all_goals
              go_wp2_with fail
              go_roundw
              case rel => exact ⟨k + 1, by rw [HF.out]; first | (simp; done) | (simp; omega), by go_num, by omega, gb_trans hg hg2, hr2⟩
              case measure => first | (simp [intOf]; done) | (simp [intOf]; omega))
      · have hkm2 : k = m := by omega
        subst hkm2
        first
          | (
            go_wp2_with fail
            go_ret
            exact ⟨rfl, hg, by simpa using hr⟩)
          | (
            have hk64 : decide ((k : Int) < 64) = false := by simp; omega
            go_wp2_with fail
            go_ret
            exact ⟨rfl, hg, hr⟩)
  · rw [h2]
    clear h2
    go_enter Try.func21, Try.ntmps21
    go_wp2_with fail
    go_loopw [5, 6] (fun v5 v6 wi => ∃ k : Nat, v5 = .int .u64 (tv L k : Nat) ∧ v6 = .int .i64 k ∧ k ≤ 64 ∧ w.grownBy wi (some g) ∧ TkS wi g (L.drop k) (t || decide (L.length < k)))
      (fun _ v6 _ => 64 - (intOf v6).toNat)
    case atStart => exact ⟨0, rfl, rfl, Nat.zero_le _, gb_refl _ _, by simpa using h⟩
    case round =>
      obtain ⟨k, rfl, rfl, hk, hg, hr⟩ := hrel
      by_cases hkm : k < 64
      · first
          | (exfalso; omega)
          | (
            have hx : tv L k < 9223372036854775808 := Nat.lt_of_lt_of_le (tv_lt L k) (Nat.pow_le_pow_right (n := 2) (by omega) (show k ≤ 63 by omega))
            have hvt : tv L (k + 1) = 2 * tv L k + (L.getD k false).toNat := rfl
            have hb := tbit_any g (L.drop k) (t || decide (L.length < k)) wr hr
            rw [head_drop, tail_drop, torn_drop] at hb
            generalize tv L k = x at *
            have hxi : (x : Int) * 2 < 18446744073709551615 := by omega
            have hkz : (k : Int) < 64 := by omega
            have HF := Lib.hid hvt
            clear hvt
            generalize L.getD k false = b at *
            have hkn : (k : Int) < n := by omega
            go_wp2_with fail
            refine hb.mono ?_
            rintro e w2 ⟨rfl, hg2, hr2⟩
            clear hb
            cases b
            all_goals
              go_wp2_with fail
              go_roundw
              case rel => exact ⟨k + 1, by rw [HF.out]; first | (simp; done) | (simp; omega), by go_num, by omega, gb_trans hg hg2, hr2⟩
              case measure => first | (simp [intOf]; done) | (simp [intOf]; omega))
      · have hkm2 : k = 64 := by omega
        subst hkm2
        first
          | (
            go_wp2_with fail
            go_ret
            exact ⟨rfl, hg, by simpa using hr⟩)
          | (
            have hk64 : decide ((k : Int) < 64) = false := by simp; omega
            go_wp2_with fail
            go_ret
            exact ⟨rfl, hg, hr⟩)

theorem TkS.torn {w : World} {g : Nat} {L : List Bool} {t : Bool} (h : TkS w g L t) : w.cell? ⟨g, 1, none⟩ = some (.bool t) ∧ w.frozen? ⟨g, 1, none⟩ = false := by
  obtain ⟨A, c, hB, _⟩ := h
  exact ⟨hB.cell 1 rfl, hB.free 1⟩

theorem TkS.tear {w : World} {g : Nat} {L : List Bool} {t : Bool} (h : TkS w g L t) (b : Bool) : TkS (w.setCell ⟨g, 1, none⟩ (.bool b)) g L b := by
  obtain ⟨A, c, hB, h2, h3, h4⟩ := h
  refine ⟨A, c, hB.set 1 (.bool b), h2, h3, fun hn => ?_⟩
  obtain ⟨gr, off, arr, e, hb, hc⟩ := h4 hn
  exact ⟨gr, off, arr, e, hb.other (hb.ne_type hB (by decide)), hc⟩

end
end Go.Proofs.Ytlohplopomfjhaa
