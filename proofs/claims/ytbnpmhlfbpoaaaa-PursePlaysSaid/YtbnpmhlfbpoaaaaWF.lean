/- The arguments of PurseBounds and PursePlays, opened. -/
import Derived.Test.YtbnpmhlfbpoaaaaWE
import Derived.Test.YtbnpmhlfbpoaaaaPost
namespace Go.Proofs.Ytbnpmhlfbpoaaaa
set_option linter.unusedVariables false
set_option linter.unusedSimpArgs false
open Go.RowKit Go.Own Go.PurseBounds

theorem cells41 : Try.prog.cellsOf 41 = 2 := by kernel_rfl

section
open Go.ChangeShapes Go.WideShapes Go.ChangeAt
variable {H : Type} {enc : TypeId × Value → H}

theorem open_acts {W : World} {base : Nat} {v : Value} {d : DataW H} {p : List MemPlace} (k : Value.okWide Try.prog W .any base 38 v) (h : DataW.Trod enc Try.prog W 0 (fun _ => true) true 38 v d p) :
    ∃ A len cap K N, v = .slice A len cap ∧ Acts W A len K N := by
  obtain ⟨A, len, cap, F, rfl, h1, h2, h3⟩ := open_structs (ks := [.i64, .u64]) Try.underlying38 Try.underlying41 (by kernel_rfl) cells41 rfl (by decide)
    (by
      intro j f k hf hk
      match j, hf, hk with
      | 0, hf, hk => simp at hf hk; subst hf; subst hk; exact Try.underlying3
      | 1, hf, hk => simp at hf hk; subst hf; subst hk; exact Try.underlying22) k h
  refine ⟨A, len, cap, fun i => F i 0, fun i => F i 1, rfl, by unfold maxLen at h2; omega, fun hn => ?_⟩
  obtain ⟨g, off, hA, hg, hc⟩ := h3 hn
  refine ⟨g, off, hA, hg, fun i hi => ?_⟩
  have a0 := hc i hi 0 .i64 rfl
  have a1 := hc i hi 1 .u64 rfl
  exact ⟨a0.1, a1.1, u64_U a1.2⟩

theorem bounds_main {base : Nat} {v0 v1 v2 : Value} {d0 d1 d2 : DataW H} {p0 p1 p2 : List MemPlace} (W : World)
    (k0 : Value.okWide Try.prog W .any base 37 v0) (h0 : DataW.Trod enc Try.prog W 0 (fun _ => true) true 37 v0 d0 p0)
    (k1 : Value.okWide Try.prog W .any base 37 v1) (h1 : DataW.Trod enc Try.prog W 0 (fun _ => true) true 37 v1 d1 p1)
    (k2 : Value.okWide Try.prog W .any base 38 v2) (h2 : DataW.Trod enc Try.prog W 0 (fun _ => true) true 38 v2 d2 p2) :
    Calls Try.prog 4 #[v0, v1, v2] W fun e w' => e = .returned (.bool true) ∧ W.grownBy w' none := by
  obtain ⟨a0, rfl, _, _, w0⟩ := open_int Try.underlying37 k0 h0
  obtain ⟨a1, rfl, _, _, w1⟩ := open_int Try.underlying37 k1 h1
  obtain ⟨A, len, cap, K, N, rfl, hA⟩ := open_acts k2 h2
  have b0 := bounds_u32 w0
  have b1 := bounds_u32 w1
  exact bounds_any _ _ (by omega) (by omega) A len cap K N W hA
end
end Go.Proofs.Ytbnpmhlfbpoaaaa
