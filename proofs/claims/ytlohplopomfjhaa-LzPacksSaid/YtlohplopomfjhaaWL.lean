/- The walks of the document's Take: a bit from the front. -/
import Derived.Test.YtlohplopomfjhaaWK
namespace Go.Proofs.Ytlohplopomfjhaa
set_option linter.unusedVariables false
set_option linter.unusedSimpArgs false
open Go.RowKit Go.Own Go.Bits

/-- The document's Take: what is left, and is it torn. -/
def TkS (w : World) (g : Nat) (L : List Bool) (t : Bool) : Prop :=
  ∃ (A : Option Addr) (c : Nat), Blk w g #[.slice A L.length c, .bool t] 45 ∧ L.length ≤ c ∧ c ≤ 9223372036854775807 ∧
    (0 < L.length → ∃ (gr off : Nat) (arr : Array Value), A = some ⟨gr, off, none⟩ ∧ Blk w gr arr 4 ∧ ∀ i, i < L.length → arr[off + i]? = some (.bool (L.getD i false)))

theorem TkS.tch {S : Nat → Prop} {w w' : World} {g : Nat} {L : List Bool} {t : Bool} (h : TkS w g L t) (ht : Tch S w w') (hS : ∀ k cs ty, S k → Blk w k cs ty → ty ≠ 45 ∧ ty ≠ 4) : TkS w' g L t := by
  obtain ⟨A, c, h1, h2, h3, h4⟩ := h
  refine ⟨A, c, h1.tch ht (fun e => (hS g _ _ e h1).1 rfl), h2, h3, fun hn => ?_⟩
  obtain ⟨gr, off, arr, e, hb, hc⟩ := h4 hn
  exact ⟨gr, off, arr, e, hb.tch ht (fun e => (hS gr _ _ e hb).2 rfl), hc⟩

theorem TkS.later {w w' : World} {g : Nat} {L : List Bool} {t : Bool} (h : TkS w g L t) (hg : w.grownBy w' none) : TkS w' g L t :=
  h.tch (S := fun _ => False) (tch_gb hg) (fun _ _ _ e => by cases e)

section
variable (g : Nat) (L : List Bool) (t : Bool) (w : World)

set_option maxHeartbeats 1600000 in
theorem tbit_any (h : TkS w g L t) : Calls Try.prog 23 #[.pointer (some ⟨g, 0, none⟩)] w fun e w' => e = .returned (.bool (L.headD false)) ∧ w.grownBy w' (some g) ∧ TkS w' g L.tail (t || L.isEmpty) := by
  obtain ⟨A, c, hB, hlc, hc, hcell⟩ := h
  have c0 := hB.cell 0 rfl
  have c1 := hB.cell 1 rfl
  have f0 := hB.free 0
  have f1 := hB.free 1
  match L with
  | [] =>
    go_enter Try.func23, Try.ntmps23
    go_wp2_with fail
    go_ret
    refine ⟨rfl, gb_set (gb_refl _ _), A, c, ?_, hlc, hc, by simp⟩
    have e : (t || ([] : List Bool).isEmpty) = true := by simp
    rw [e]
    exact hB.set 1 (.bool true)
  | b :: L2 =>
    obtain ⟨gr, off, arr, rfl, hr, hi⟩ := hcell (by simp)
    have hne : gr ≠ g := hr.ne_type hB (by decide)
    have hl : (b :: L2).length = L2.length + 1 := rfl
    have cb : w.cell? ⟨gr, off, none⟩ = some (.bool b) := hr.cell off (by have := hi 0 (by simp); simpa using this)
    have hl0 : ((0 : Int) < ((b :: L2).length : Int)) := by rw [hl]; omega
    have hcc : 1 ≤ c := by rw [hl] at hlc; omega
    rw [hl] at c0 hl0 hlc hB
    by_cases hc1 : c = 1
    · subst hc1
      have hL2 : L2 = [] := List.eq_nil_of_length_eq_zero (by omega)
      subst hL2
      go_enter Try.func23, Try.ntmps23
      go_wp2_with fail
      go_ret
      refine ⟨rfl, gb_set (gb_refl _ _), some ⟨gr, off, none⟩, 0, ?_, by simp, by omega, by simp⟩
      have e : (t || ([b] : List Bool).isEmpty) = t := by simp
      rw [e]
      exact hB.set 0 (.slice (some ⟨gr, off, none⟩) 0 0)
    · go_enter Try.func23, Try.ntmps23
      go_wp2_with fail
      go_ret
      have e : (t || (b :: L2).isEmpty) = t := by simp
      refine ⟨rfl, gb_set (gb_refl _ _), some ⟨gr, off + 1, none⟩, c - 1, ?_, by simp; omega, by omega, fun _ => ⟨gr, off + 1, arr, rfl, hr.other hne, fun i hil => ?_⟩⟩
      · rw [e]
        exact hB.set 0 (.slice (some ⟨gr, off + 1, none⟩) L2.length (c - 1))
      · have := hi (i + 1) (by simp at hil ⊢; omega)
        rw [List.getD_cons_succ] at this
        show arr[off + 1 + i]? = some (.bool (L2.getD i false))
        rw [← this]
        congr 1
        omega
end

section
variable (g : Nat) (L : List Bool) (t : Bool) (w : World)

set_option maxHeartbeats 3200000 in
theorem tbits_any (n : Int) (h : TkS w g L t) : Calls Try.prog 20 #[.pointer (some ⟨g, 0, none⟩), .int .i64 n] w fun e w' =>
    e = .returned (.int .u64 (val (L.take (nb n)) : Nat)) ∧ w.grownBy w' (some g) ∧ TkS w' g (L.drop (nb n)) (t || decide (L.length < nb n)) := by
  rcases nb_cases n with ⟨h1, h2⟩ | ⟨m, rfl, h1, h2⟩ | ⟨h1, h2⟩
  · rw [h2]
    clear h2
    go_enter Try.func20, Try.ntmps20
    go_wp2_with fail
    go_loopw [5, 6, 7] (fun v5 v6 v7 wi => ∃ k o : Nat, v5 = .int .u64 (val (L.take k) : Nat) ∧ v6 = .int .u64 (o : Nat) ∧ (k < 64 → o = 2 ^ k) ∧ o < 18446744073709551616 ∧ v7 = .int .i64 k ∧ k ≤ 0 ∧ w.grownBy wi (some g) ∧ TkS wi g (L.drop k) (t || decide (L.length < k)))
      (fun _ _ v7 _ => 0 - (intOf v7).toNat)
    case atStart => exact ⟨0, 1, rfl, rfl, by simp, by omega, rfl, Nat.zero_le _, gb_refl _ _, by simpa using h⟩
    case round =>
      obtain ⟨k, o, rfl, rfl, ho, ho2, rfl, hk, hg, hr⟩ := hrel
      by_cases hkm : k < 0
      · first
          | (exfalso; omega)
          | (
            have hx := val_take_lt L k
            have hk64 : k < 64 := by omega
            have hvt := val_take L k
            have ho3 := ho hk64
            have hb := tbit_any g (L.drop k) (t || decide (L.length < k)) wr hr
            rw [head_drop, tail_drop, torn_drop] at hb
            have hsum : val (L.take k) + o < 18446744073709551616 := by
              have h3 : 2 ^ (k + 1) ≤ 2 ^ 64 := Nat.pow_le_pow_right (by omega) (by omega)
              rw [Nat.pow_succ] at h3
              omega
            have hnx : k + 1 < 64 → o * 2 % 18446744073709551616 = 2 ^ (k + 1) := by
              intro h4
              have h3 : 2 ^ (k + 1) ≤ 2 ^ 63 := Nat.pow_le_pow_right (by omega) (by omega)
              rw [ho3, ← Nat.pow_succ]
              omega
            rw [← ho3] at hvt
            generalize val (L.take k) = x at *
            have HF := Lib.hid (⟨hvt, hnx⟩ : _ ∧ _)
            clear hvt hx ho ho3 hnx
            generalize L.getD k false = b at *
            have hsi : (x : Int) + (o : Int) < 18446744073709551616 := by omega
            have hkz : (k : Int) < 64 := by omega
            have hoi : (o : Int) < 18446744073709551616 := by omega
            have HO2 := Lib.hid ho2
            clear hsum ho2
            go_wp2_with fail
            refine hb.mono ?_
            rintro e w2 ⟨rfl, hg2, hr2⟩
            clear hb
            cases b
            all_goals
              go_wp2_with fail
              go_roundw
              case rel => exact ⟨k + 1, o * 2 % 18446744073709551616, by rw [HF.out.1]; simp, by go_num, HF.out.2, by omega, by go_num, by omega, gb_trans hg hg2, hr2⟩
              case measure => first | (simp [intOf]; done) | (simp [intOf]; omega))
      · have hkm2 : k = 0 := by omega
        subst hkm2
        first
          | (
            go_wp2_with fail
            go_ret
            exact ⟨rfl, hg, by simpa using hr⟩)
          | (
            have hk64 : decide ((k : Int) < 64) = false := by simp; omega
            go_wp2_with fail
            go_ret
            exact ⟨rfl, hg, hr⟩)
  · rw [h2]
    clear h2
    go_enter Try.func20, Try.ntmps20
    go_wp2_with fail
    go_loopw [5, 6, 7] (fun v5 v6 v7 wi => ∃ k o : Nat, v5 = .int .u64 (val (L.take k) : Nat) ∧ v6 = .int .u64 (o : Nat) ∧ (k < 64 → o = 2 ^ k) ∧ o < 18446744073709551616 ∧ v7 = .int .i64 k ∧ k ≤ m ∧ w.grownBy wi (some g) ∧ TkS wi g (L.drop k) (t || decide (L.length < k)))
      (fun _ _ v7 _ => m - (intOf v7).toNat)
    case atStart => exact ⟨0, 1, rfl, rfl, by simp, by omega, rfl, Nat.zero_le _, gb_refl _ _, by simpa using h⟩
    case round =>
      obtain ⟨k, o, rfl, rfl, ho, ho2, rfl, hk, hg, hr⟩ := hrel
      by_cases hkm : k < m
      · first
          | (exfalso; omega)
          | (
            have hx := val_take_lt L k
            have hk64 : k < 64 := by omega
            have hvt := val_take L k
            have ho3 := ho hk64
            have hb := tbit_any g (L.drop k) (t || decide (L.length < k)) wr hr
            rw [head_drop, tail_drop, torn_drop] at hb
            have hsum : val (L.take k) + o < 18446744073709551616 := by
              have h3 : 2 ^ (k + 1) ≤ 2 ^ 64 := Nat.pow_le_pow_right (by omega) (by omega)
              rw [Nat.pow_succ] at h3
              omega
            have hnx : k + 1 < 64 → o * 2 % 18446744073709551616 = 2 ^ (k + 1) := by
              intro h4
              have h3 : 2 ^ (k + 1) ≤ 2 ^ 63 := Nat.pow_le_pow_right (by omega) (by omega)
              rw [ho3, ← Nat.pow_succ]
              omega
            rw [← ho3] at hvt
            generalize val (L.take k) = x at *
            have HF := Lib.hid (⟨hvt, hnx⟩ : _ ∧ _)
            clear hvt hx ho ho3 hnx
            generalize L.getD k false = b at *
            have hsi : (x : Int) + (o : Int) < 18446744073709551616 := by omega
            have hkz : (k : Int) < 64 := by omega
            have hoi : (o : Int) < 18446744073709551616 := by omega
            have HO2 := Lib.hid ho2
            clear hsum ho2
            go_wp2_with fail
            refine hb.mono ?_
            rintro e w2 ⟨rfl, hg2, hr2⟩
            clear hb
            cases b
            all_goals
              go_wp2_with fail
              go_roundw
              case rel => exact ⟨k + 1, o * 2 % 18446744073709551616, by rw [HF.out.1]; simp, by go_num, HF.out.2, by omega, by go_num, by omega, gb_trans hg hg2, hr2⟩
              case measure => first | (simp [intOf]; done) | (simp [intOf]; omega))
      · have hkm2 : k = m := by omega
        subst hkm2
        first
          | (
            go_wp2_with fail
            go_ret
            exact ⟨rfl, hg, by simpa using hr⟩)
          | (
            have hk64 : decide ((k : Int) < 64) = false := by simp; omega
            go_wp2_with fail
            go_ret
            exact ⟨rfl, hg, hr⟩)
  · rw [h2]
    clear h2
    go_enter Try.func20, Try.ntmps20
    go_wp2_with fail
    go_loopw [5, 6, 7] (fun v5 v6 v7 wi => ∃ k o : Nat, v5 = .int .u64 (val (L.take k) : Nat) ∧ v6 = .int .u64 (o : Nat) ∧ (k < 64 → o = 2 ^ k) ∧ o < 18446744073709551616 ∧ v7 = .int .i64 k ∧ k ≤ 64 ∧ w.grownBy wi (some g) ∧ TkS wi g (L.drop k) (t || decide (L.length < k)))
      (fun _ _ v7 _ => 64 - (intOf v7).toNat)
    case atStart => exact ⟨0, 1, rfl, rfl, by simp, by omega, rfl, Nat.zero_le _, gb_refl _ _, by simpa using h⟩
    case round =>
      obtain ⟨k, o, rfl, rfl, ho, ho2, rfl, hk, hg, hr⟩ := hrel
      by_cases hkm : k < 64
      · first
          | (exfalso; omega)
          | (
            have hx := val_take_lt L k
            have hk64 : k < 64 := by omega
            have hvt := val_take L k
            have ho3 := ho hk64
            have hb := tbit_any g (L.drop k) (t || decide (L.length < k)) wr hr
            rw [head_drop, tail_drop, torn_drop] at hb
            have hsum : val (L.take k) + o < 18446744073709551616 := by
              have h3 : 2 ^ (k + 1) ≤ 2 ^ 64 := Nat.pow_le_pow_right (by omega) (by omega)
              rw [Nat.pow_succ] at h3
              omega
            have hnx : k + 1 < 64 → o * 2 % 18446744073709551616 = 2 ^ (k + 1) := by
              intro h4
              have h3 : 2 ^ (k + 1) ≤ 2 ^ 63 := Nat.pow_le_pow_right (by omega) (by omega)
              rw [ho3, ← Nat.pow_succ]
              omega
            rw [← ho3] at hvt
            generalize val (L.take k) = x at *
            have HF := Lib.hid (⟨hvt, hnx⟩ : _ ∧ _)
            clear hvt hx ho ho3 hnx
            generalize L.getD k false = b at *
            have hsi : (x : Int) + (o : Int) < 18446744073709551616 := by omega
            have hkz : (k : Int) < 64 := by omega
            have hoi : (o : Int) < 18446744073709551616 := by omega
            have hkn : (k : Int) < n := by omega
            have HO2 := Lib.hid ho2
            clear hsum ho2
            go_wp2_with fail
            refine hb.mono ?_
            rintro e w2 ⟨rfl, hg2, hr2⟩
            clear hb
            cases b
            all_goals
              go_wp2_with fail
              go_roundw
              case rel => exact ⟨k + 1, o * 2 % 18446744073709551616, by rw [HF.out.1]; simp, by go_num, HF.out.2, by omega, by go_num, by omega, gb_trans hg hg2, hr2⟩
              case measure => first | (simp [intOf]; done) | (simp [intOf]; omega))
      · have hkm2 : k = 64 := by omega
        subst hkm2
        first
          | (
            go_wp2_with fail
            go_ret
            exact ⟨rfl, hg, by simpa using hr⟩)
          | (
            have hk64 : decide ((k : Int) < 64) = false := by simp; omega
            go_wp2_with fail
            go_ret
            exact ⟨rfl, hg, hr⟩)

end
end Go.Proofs.Ytlohplopomfjhaa
