/- The walk of the law LzUnpacks. -/
import Derived.Test.YtlohplopomfjhaaVL
namespace Go.Proofs.Ytlohplopomfjhaa
set_option linter.unusedVariables false
set_option linter.unusedSimpArgs false
open Go.RowKit Go.Own Go.Bits Go.Lz

set_option maxHeartbeats 6400000 in
theorem law_lzunpacks (A0 : Option Addr) (c0 : Nat) (b : List Nat) (most : Int) (w : World) (hS : Rd w w.heap.size 1 A0 b.length (b.map bv)) (hbm : b.length ≤ 9223372036854775807) (hb : ∀ t ∈ b, t < 256) (hm0 : -9223372036854775808 ≤ most) (hm1 : most ≤ 9223372036854775807) :
    Calls Try.prog 8 #[.slice A0 b.length c0, .int .i64 most] w fun e w' => e = .returned (.bool true) ∧ w.grownBy w' none := by
  by_cases hl : 200 < b.length
  · go_enter Try.func8, Try.ntmps8
    go_wp2_with fail
    refine (awake35 _).mono ?_
    rintro e w5 ⟨rfl, hg5⟩
    go_wp2_with fail
    go_ret
    exact ⟨rfl, hg5⟩
  · have hmn : min most 5000 = if most ≤ 5000 then most else 5000 := rfl
    obtain ⟨m, hm⟩ : ∃ m, m = min most 5000 := ⟨_, rfl⟩
    have h36 := unpack_any b A0 c0 _ m w (Nat.le_refl _) hS hb (by omega) (by omega) (by omega)
    have h37 := fun (W : World) (hg : w.grownBy W none) => runpack_any b A0 c0 _ m W hg.size (hS.later hg (Nat.le_refl _)) hb (by omega) (by omega) (by omega)
    generalize ansU m b = r at *
    by_cases h5 : most ≤ 5000
    · have hm2 : m = most := by omega
      subst hm2
      clear hmn hm
      go_enter Try.func8, Try.ntmps8
      go_wp2_with fail
      refine h36.mono ?_
      rintro e w2 ⟨A2, c2, rfl, hO2, hg2⟩
      go_wp2_with fail
      refine (h37 _ hg2).mono ?_
      rintro e w3 ⟨A3, c3, rfl, hO3, hg3⟩
      have hv1 := conv_any c2 (hO2.grown0 hg3).rd (by simp)
      have hv2 := conv_any c3 hO3.rd (by simp)
      go_wp2_with fail
      refine (awake35 _).mono ?_
      rintro e w4 ⟨rfl, hg4⟩
      go_wp2_with fail
      go_ret
      exact ⟨rfl, gb_trans (gb_trans hg2 hg3) hg4⟩
    · have hm2 : m = 5000 := by omega
      subst hm2
      clear hmn hm
      go_enter Try.func8, Try.ntmps8
      go_wp2_with fail
      refine h36.mono ?_
      rintro e w2 ⟨A2, c2, rfl, hO2, hg2⟩
      go_wp2_with fail
      refine (h37 _ hg2).mono ?_
      rintro e w3 ⟨A3, c3, rfl, hO3, hg3⟩
      have hv1 := conv_any c2 (hO2.grown0 hg3).rd (by simp)
      have hv2 := conv_any c3 hO3.rd (by simp)
      go_wp2_with fail
      refine (awake35 _).mono ?_
      rintro e w4 ⟨rfl, hg4⟩
      go_wp2_with fail
      go_ret
      exact ⟨rfl, gb_trans (gb_trans hg2 hg3) hg4⟩

section
open Go.ChangeShapes Go.WideShapes Go.ChangeAt
theorem lzunpacks_main {H : Type} {enc : TypeId × Value → H} {base : Nat} {v0 v1 : Value} {d0 d1 : DataW H} {p0 p1 : List MemPlace} (W : World)
    (k0 : Value.okWide Try.prog W .any base 24 v0) (h0 : DataW.Trod enc Try.prog W 0 (fun _ => true) true 24 v0 d0 p0)
    (k1 : Value.okWide Try.prog W .any base 3 v1) (h1 : DataW.Trod enc Try.prog W 0 (fun _ => true) true 3 v1 d1 p1) :
    Calls Try.prog 8 #[v0, v1] W fun e w' => e = .returned (.bool true) ∧ W.grownBy w' none := by
  obtain ⟨A0, c0, bl, rfl, hlc, hcm, hR, hv⟩ := open_bytes k0 h0
  obtain ⟨a1, rfl, _, _, w1⟩ := open_int Try.underlying3 k1 h1
  have := bounds_i64 w1
  exact law_lzunpacks A0 c0 bl a1 W hR (by unfold maxLen at hcm; omega) hv this.1 this.2
end
end Go.Proofs.Ytlohplopomfjhaa
