/- The walk of the law LzTokens. -/
import Derived.Test.YtlohplopomfjhaaVH
import Derived.Test.YtlohplopomfjhaaWP
namespace Go.Proofs.Ytlohplopomfjhaa
set_option linter.unusedVariables false
set_option linter.unusedSimpArgs false
open Go.RowKit Go.Own Go.Bits Go.Lz

set_option maxHeartbeats 6400000 in
set_option maxRecDepth 100000 in
theorem law_lztokens (A0 : Option Addr) (c0 : Nat) (b : List Nat) (w : World) (hS : Rd w w.heap.size 1 A0 b.length (b.map bv)) (hbm : b.length ≤ 9223372036854775807) (hb : ∀ t ∈ b, t < 256) :
    Calls Try.prog 6 #[.slice A0 b.length c0] w fun e w' => e = .returned (.bool true) ∧ w.grownBy w' none := by
  by_cases hl : 600 < b.length
  · go_enter Try.func6, Try.ntmps6
    go_wp2_with fail
    refine (awake35 _).mono ?_
    rintro e w5 ⟨rfl, hg5⟩
    go_wp2_with fail
    go_ret
    exact ⟨rfl, hg5⟩
  · have h32 := tokens_any b A0 c0 _ w hS (Nat.le_refl _) (by omega) hb
    have hans := ansB_tokens b
    go_enter Try.func6, Try.ntmps6
    go_wp2_with fail
    refine h32.mono ?_
    rintro e w1 ⟨A1, c1, rfl, hO1, hg1⟩
    have h33 := rtokens_any b A0 c0 _ w1 (hS.later hg1 (Nat.le_refl _)) hg1.size (by omega) hb
    go_wp2_with fail
    refine h33.mono ?_
    rintro e w2 ⟨A2, c2, rfl, hO2, hg2⟩
    have hO12 := hO1.grown0 hg2
    have hg12 := gb_trans hg1 hg2
    have hTl : (tokens b).length ≤ 600 := by
      have : ∀ f p, (toks b f p).length ≤ f := by
        intro f
        induction f with
        | zero => intro p; simp [toks]
        | succ f ih =>
          intro p
          rw [toks]
          split
          · have := ih (p + stepAt b p)
            simp
            omega
          · simp
      have := this b.length 0
      unfold tokens
      omega
    have hTb : ∀ t ∈ tokens b, t.b < 256 := by
      have : ∀ f p, ∀ t ∈ toks b f p, t.b < 256 := by
        intro f
        induction f with
        | zero => intro p t ht; simp [toks] at ht
        | succ f ih =>
          intro p t ht
          rw [toks] at ht
          split at ht
          · rename_i hp
            rcases List.mem_cons.1 ht with rfl | ht
            · unfold tokAt
              dsimp only
              split
              · have : b.getD p 0 = b[p] := by simp [hp]
                dsimp only
                rw [this]
                exact hb _ (List.getElem_mem hp)
              · dsimp only; omega
            · exact ih _ t ht
          · simp at ht
      exact this _ _
    have h34 := fun W (hR : Rd W w2.heap.size 3 A1 (tokens b).length ((tokens b).flatMap tkC)) (hW : w2.heap.size ≤ W.heap.size) => bytes34_any (tokens b) A1 c1 _ (b.length : Int) W hW hR (by omega) (by omega) (by omega) hTb
    rw [hans] at h34
    generalize tokens b = T at *
    clear hans hTb h32 h33
    go_wp2_with fail
    go_loopw [5] (fun v5 wi => ∃ k : Nat, v5 = .int .i64 k ∧ k ≤ T.length ∧ w2.grownBy wi none) (fun v5 _ => T.length - (intOf v5).toNat)
    case atStart => exact ⟨0, rfl, by omega, gb_refl _ _⟩
    case round =>
      obtain ⟨k, rfl, hk, hg⟩ := hrel
      by_cases hkl : k < T.length
      · obtain ⟨s1, o1, rfl, hs1, p0, p1, p2⟩ := rd_tok (hO12.rd.later hg (Nat.le_refl _)) hkl
        obtain ⟨s2, o2, rfl, hs2, q0, q1, q2⟩ := rd_tok (hO2.rd.later hg (Nat.le_refl _)) hkl
        have hki : (k : Int) < (T.length : Int) := by omega
        generalize T[k] = t at *
        obtain ⟨x, f, l⟩ := t
        dsimp only at p0 p1 p2 q0 q1 q2
        go_wp2
        go_quiet (fail)
        go_wp2
        go_roundw
        case rel => exact ⟨k + 1, by go_num, by omega, gb_drewN hg _⟩
        case measure => first | (simp [intOf]; done) | (simp [intOf]; omega)
      · have hk2 : k = T.length := by omega
        subst hk2
        go_wp2_with fail
        refine (h34 _ (hO12.rd.later hg (Nat.le_refl _)) hg.size).mono ?_
        rintro e w3 ⟨A3, c3, rfl, hO3, hg3⟩
        have hv1 := conv_any c3 hO3.rd (by simp)
        have hv2 := conv_any c0 (hS.later (gb_trans (gb_trans hg12 hg) hg3) (Nat.le_refl _)) rfl
        go_wp2_with fail
        refine (awake35 _).mono ?_
        rintro e w4 ⟨rfl, hg5⟩
        go_wp2_with fail
        go_ret
        exact ⟨rfl, gb_trans (gb_trans (gb_trans hg12 hg) hg3) hg5⟩

section
open Go.ChangeShapes Go.WideShapes Go.ChangeAt
theorem lztokens_main {H : Type} {enc : TypeId × Value → H} {base : Nat} {v0 : Value} {d0 : DataW H} {p0 : List MemPlace} (W : World)
    (k0 : Value.okWide Try.prog W .any base 24 v0) (h0 : DataW.Trod enc Try.prog W 0 (fun _ => true) true 24 v0 d0 p0) :
    Calls Try.prog 6 #[v0] W fun e w' => e = .returned (.bool true) ∧ W.grownBy w' none := by
  obtain ⟨A0, c0, bl, rfl, hlc, hcm, hR, hv⟩ := open_bytes k0 h0
  exact law_lztokens A0 c0 bl W hR (by unfold maxLen at hcm; omega) hv
end
end Go.Proofs.Ytlohplopomfjhaa
