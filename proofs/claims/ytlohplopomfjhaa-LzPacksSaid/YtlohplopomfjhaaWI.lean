/- The walks of package bitio's reader. -/
import Derived.Test.YtlohplopomfjhaaWH
import Derived.Test.YtlohplopomfjhaaSB
namespace Go.Proofs.Ytlohplopomfjhaa
set_option linter.unusedVariables false
set_option linter.unusedSimpArgs false
open Go.RowKit Go.Own Go.Bits

/-- A reader: what is left of its bits, and is it torn. -/
def RdS (w : World) (g : Nat) (L : List Bool) (t : Bool) : Prop :=
  ∃ (A : Option Addr) (c n : Nat) (bl : List Nat), Blk w g #[.slice A bl.length c, .int .i64 (n : Int), .bool t] 75 ∧ Own w 0 5 1 A c bl.length (bl.map bv) ∧ n ≤ 8 * bl.length ∧ bl.length ≤ 100000 ∧ (∀ v ∈ bl, v < 256) ∧ L = (ofB bl).drop n

theorem RdS.tch {S : Nat → Prop} {w w' : World} {g : Nat} {L : List Bool} {t : Bool} (h : RdS w g L t) (ht : Tch S w w') (hS : ∀ k cs ty, S k → Blk w k cs ty → ty ≠ 75 ∧ ty ≠ 5) : RdS w' g L t := by
  obtain ⟨A, c, n, bl, h1, h2, h3⟩ := h
  refine ⟨A, c, n, bl, h1.tch ht (fun e => (hS g _ _ e h1).1 rfl), Own.tch h2 ht (fun k hk e => ?_), h3⟩
  rcases h2.2 with ⟨hv, _⟩ | ⟨g', cap, cur, hv, _, hh, _⟩
  · have e : A = none := by injection hv
    rw [e] at hk; simp [blk] at hk
  · have e' : A = some ⟨g', 0, none⟩ := by injection hv
    rw [e'] at hk
    have e2 : g' = k := by simpa [blk] using hk
    subst e2
    exact (hS g' _ _ e hh).2 rfl

theorem RdS.later {w w' : World} {g : Nat} {L : List Bool} {t : Bool} (h : RdS w g L t) (hg : w.grownBy w' none) : RdS w' g L t :=
  h.tch (S := fun _ => False) (tch_gb hg) (fun _ _ _ e => by cases e)

theorem ret_bool' {a b : Bool} (h : a = b) : Ending.returned (.bool a) = .returned (.bool b) := by rw [h]

theorem bitb8 (x k : Nat) (h : x < 256) : (bits BinOp.and IntKind.u8 ((x : Int) / 2 ^ k) 1 == 1) = (x / 2 ^ k % 2 == 1) := by
  have e : (x : Int) / 2 ^ k = ((x / 2 ^ k : Nat) : Int) := by norm_cast
  have hle : x / 2 ^ k ≤ x := Nat.div_le_self _ _
  rw [e]
  generalize x / 2 ^ k = y at *
  have hy : y < 256 := by omega
  have : ∀ y : Fin 256, (bits BinOp.and IntKind.u8 (y.val : Int) 1 == 1) = (y.val % 2 == 1) := by decide +kernel
  exact this ⟨y, hy⟩

section
variable (g : Nat) (L : List Bool) (t : Bool) (w : World)

set_option maxHeartbeats 1600000 in
theorem rbit_nil : Calls Try.prog 27 #[.pointer none] w fun e w' => e = .returned (.bool false) ∧ w.grownBy w' none := by
  go_enter Try.func27, Try.ntmps27
  go_wp2
  go_quiet (fail)
  go_wp2
  go_ret
  exact ⟨rfl, gb_drewN (gb_refl _ _) _⟩

set_option maxHeartbeats 1600000 in
theorem rbit_any (h : RdS w g L t) : Calls Try.prog 27 #[.pointer (some ⟨g, 0, none⟩)] w fun e w' => e = .returned (.bool (L.headD false)) ∧ w.grownBy w' (some g) ∧ RdS w' g L.tail (t || L.isEmpty) := by
  obtain ⟨A, c, n, bl, hB, hO, hn, hbl, hv, hL⟩ := h
  have c0 := hB.cell 0 rfl
  have c1 := hB.cell 1 rfl
  have c2 := hB.cell 2 rfl
  have f1 := hB.free 1
  have f2 := hB.free 2
  have hol := ofB_len bl
  by_cases hend : 8 * bl.length ≤ n
  · have hL0 : L = [] := by rw [hL]; exact List.drop_eq_nil_of_le (by omega)
    subst hL0
    have hd : ((8 * bl.length : Nat) : Int) ≤ (n : Int) := by omega
    have HL := Lib.hid hL
    clear hL hol
    go_enter Try.func27, Try.ntmps27
    go_wp2
    go_quiet (fail)
    go_wp2
    go_ret
    refine ⟨rfl, gb_set (gb_drewN (gb_refl _ _) _), A, c, n, bl, ?_, ?_, hn, hbl, hv, HL.out⟩
    · have e : (t || ([] : List Bool).isEmpty) = true := by simp
      rw [e]
      exact (Blk.drewN hB _).set 2 (.bool true)
    · exact (Own.drewN hO _).other (fun e => own_ne_blk hO hB (by decide) e) _
  · have hi : n / 8 < bl.length := by omega
    obtain ⟨ga, rfl, _, hgl⟩ := hO.form (by omega)
    have hne : ga ≠ g := fun e => own_ne_blk hO hB (by decide) (by rw [e]; rfl)
    have ce := hO.cell rfl (j := n / 8) (u := bv (bl.getD (n / 8) 0)) (by omega) (by simp [hi])
    have hy : bl.getD (n / 8) 0 < 256 := by
      have : bl.getD (n / 8) 0 = bl[n / 8] := by simp [hi]
      rw [this]; exact hv _ (List.getElem_mem hi)
    have hget := ofB_get bl n (by omega)
    have hhd : L.headD false = (bl.getD (n / 8) 0 / 2 ^ (n % 8) % 2 == 1) := by rw [hL, head_drop, hget]
    have htl : L.tail = (ofB bl).drop (n + 1) := by rw [hL, tail_drop]
    have hne2 : (t || L.isEmpty) = t := by
      have : L.isEmpty = false := by
        rw [hL]; simp [List.drop_eq_nil_iff]; omega
      rw [this]; simp
    unfold bv at ce
    generalize bl.getD (n / 8) 0 = y at *
    have hb := bitb8 y (n % 8) hy
    have HF := Lib.hid (⟨hhd, htl, hne2⟩ : _ ∧ _ ∧ _)
    have hk90 : (0 : Int) ≤ (n : Int) % 8 := by omega
    have hk91 : (n : Int) % 8 ≤ 8 := by omega
    have hk80 : (0 : Int) ≤ (n : Int) / 8 := by omega
    have hk81 : (n : Int) / 8 < (bl.length : Int) := by omega
    have hkn : ((n : Int) / 8).toNat = n / 8 := by omega
    have hkm : ((n : Int) % 8).toNat = n % 8 := by omega
    have hd : ¬ ((8 * bl.length : Nat) : Int) ≤ (n : Int) := by omega
    clear hhd htl hne2 hL hget hol
    go_enter Try.func27, Try.ntmps27
    go_wp2
    go_quiet (fail)
    go_wp2
    go_quiet (fail)
    go_wp2
    go_ret
    obtain ⟨hhd, htl, hne2⟩ := HF.out
    refine ⟨ret_bool hhd.symm, gb_set (gb_drewN (gb_refl _ _) _), some ⟨ga, 0, none⟩, c, n + 1, bl, ?_, ?_, by omega, hbl, hv, htl⟩
    · rw [hne2]
      exact (Blk.drewN hB _).set 1 (.int .i64 ((n : Int) + 1))
    · exact (Own.drewN hO _).other (fun e => hne (by injection e)) _

set_option maxHeartbeats 800000 in
theorem rleft_nil : Calls Try.prog 25 #[.pointer none] w fun e w' => e = .returned (.int .i64 0) ∧ w = w' := by
  go_enter Try.func25, Try.ntmps25
  go_wp2
  go_ret
  exact ⟨rfl, rfl⟩

set_option maxHeartbeats 800000 in
theorem rtorn_nil : Calls Try.prog 26 #[.pointer none] w fun e w' => e = .returned (.bool true) ∧ w = w' := by
  go_enter Try.func26, Try.ntmps26
  go_wp2
  go_ret
  exact ⟨rfl, rfl⟩

set_option maxHeartbeats 800000 in
theorem rtorn_any (h : RdS w g L t) : Calls Try.prog 26 #[.pointer (some ⟨g, 0, none⟩)] w fun e w' => e = .returned (.bool t) ∧ w = w' := by
  obtain ⟨A, c, n, bl, hB, _⟩ := h
  have c2 := hB.cell 2 rfl
  go_enter Try.func26, Try.ntmps26
  go_wp2
  go_ret
  exact ⟨rfl, rfl⟩

set_option maxHeartbeats 800000 in
theorem rleft_any (h : RdS w g L t) : Calls Try.prog 25 #[.pointer (some ⟨g, 0, none⟩)] w fun e w' => e = .returned (.int .i64 L.length) ∧ w.grownBy w' none := by
  obtain ⟨A, c, n, bl, hB, hO, hn, hbl, hv, hL⟩ := h
  have c0 := hB.cell 0 rfl
  have c1 := hB.cell 1 rfl
  have hol := ofB_len bl
  have hll : ((8 * bl.length : Nat) : Int) - (n : Int) = (L.length : Int) := by rw [hL, List.length_drop, hol]; omega
  have HLL := Lib.hid hll
  clear hL hol hll
  go_enter Try.func25, Try.ntmps25
  go_wp2
  go_quiet (fail)
  go_wp2
  go_ret
  exact ⟨ret_int (by rw [← HLL.out]; push_cast; rfl), gb_drewN (gb_refl _ _) _⟩
end
end Go.Proofs.Ytlohplopomfjhaa
