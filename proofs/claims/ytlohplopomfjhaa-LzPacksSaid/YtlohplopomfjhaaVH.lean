/- The walk of the law LzBytes. -/
import Derived.Test.YtlohplopomfjhaaVG
namespace Go.Proofs.Ytlohplopomfjhaa
set_option linter.unusedVariables false
set_option linter.unusedSimpArgs false
open Go.RowKit Go.Own Go.Bits Go.Lz

theorem cells57 : Try.prog.cellsOf 57 = 3 := by kernel_rfl

section
open Go.ChangeShapes Go.WideShapes Go.ChangeAt
variable {H : Type} {enc : TypeId × Value → H}

theorem open_toks {W : World} {base : Nat} {v : Value} {d : DataW H} {p : List MemPlace} (k : Value.okWide Try.prog W .any base 53 v) (h : DataW.Trod enc Try.prog W 0 (fun _ => true) true 53 v d p) :
    ∃ (A : Option Addr) (cap : Nat) (T : List Tok), v = .slice A T.length cap ∧ T.length ≤ 9223372036854775807 ∧ Rd W W.heap.size 3 A T.length (T.flatMap tkC) ∧ ∀ t ∈ T, t.b < 256 := by
  obtain ⟨A, len, cap, F, rfl, h1, h2, h3⟩ := open_structs (ks := [.u8, .i64, .i64]) Try.underlying53 Try.underlying57 (by kernel_rfl) cells57 rfl (by decide)
    (by
      intro j f k hf hk
      match j, hf, hk with
      | 0, hf, hk => simp at hf hk; subst hf; subst hk; exact Try.underlying5
      | 1, hf, hk => simp at hf hk; subst hf; subst hk; exact Try.underlying3
      | 2, hf, hk => simp at hf hk; subst hf; subst hk; exact Try.underlying3) k h
  have hbnd : ∀ i, i < len → 0 ≤ F i 0 ∧ F i 0 ≤ 255 := fun i hi => by
    obtain ⟨g, off, hA, hg, hc⟩ := h3 (by omega)
    exact bounds_u8 (hc i hi 0 .u8 rfl).2
  refine ⟨A, cap, (List.range len).map fun i => ⟨(F i 0).toNat, F i 1, F i 2⟩, by simp, by simp; unfold maxLen at h2; omega, ⟨by rw [tkC_len], fun hn => ?_⟩, ?_⟩
  · simp at hn
    obtain ⟨g, off, hA, hg, hc⟩ := h3 hn
    refine ⟨g, off, hA, hg, fun j u hu => ?_⟩
    have hj : j < len * 3 := by
      have := (List.getElem?_eq_some_iff.1 hu).1
      rw [tkC_len] at this
      simpa using this
    have hj3 : j / 3 < len := by omega
    have hT : ((List.range len).map fun i => (⟨(F i 0).toNat, F i 1, F i 2⟩ : Tok))[j / 3]? = some ⟨(F (j / 3) 0).toNat, F (j / 3) 1, F (j / 3) 2⟩ := by simp [hj3]
    have hg3 := tkC_get _ (j / 3) (j % 3) (by omega) _ hT
    rw [show j / 3 * 3 + j % 3 = j by omega] at hg3
    rw [hg3] at hu
    have hb := hbnd _ hj3
    have a0 := (hc _ hj3 0 .u8 rfl).1
    have a1 := (hc _ hj3 1 .i64 rfl).1
    have a2 := (hc _ hj3 2 .i64 rfl).1
    have hm : j % 3 = 0 ∨ j % 3 = 1 ∨ j % 3 = 2 := by omega
    rcases hm with hm | hm | hm
    · rw [hm] at hu
      simp [tkC] at hu
      rw [← hu, show j = j / 3 * 3 + 0 by omega]
      rw [show (j / 3 * 3 + 0) / 3 = j / 3 by omega]
      rw [show max (F (j / 3) 0) 0 = F (j / 3) 0 by omega]
      exact a0
    · rw [hm] at hu
      simp [tkC] at hu
      rw [← hu]
      rw [show off + j = off + (j / 3 * 3 + 1) by omega]
      exact a1
    · rw [hm] at hu
      simp [tkC] at hu
      rw [← hu]
      rw [show off + j = off + (j / 3 * 3 + 2) by omega]
      exact a2
  · intro t ht
    obtain ⟨i, hi, rfl⟩ := List.mem_map.1 ht
    have := hbnd i (List.mem_range.1 hi)
    dsimp only
    omega
end

set_option maxHeartbeats 6400000 in
set_option maxRecDepth 100000 in
theorem law_lzbytes (A0 : Option Addr) (c0 : Nat) (T : List Tok) (most : Int) (w : World) (hS : Rd w w.heap.size 3 A0 T.length (T.flatMap tkC)) (hTm : T.length ≤ 9223372036854775807) (hb : ∀ t ∈ T, t.b < 256) (hm0 : -9223372036854775808 ≤ most) (hm1 : most ≤ 9223372036854775807) :
    Calls Try.prog 7 #[.slice A0 T.length c0, .int .i64 most] w fun e w' => e = .returned (.bool true) ∧ w.grownBy w' none := by
  obtain ⟨it, hi, hz0, hz1, hz2⟩ := info_parts info56
  by_cases hl : 60 < T.length
  · go_enter Try.func7, Try.ntmps7
    go_wp2_with fail
    refine (awake35 _).mono ?_
    rintro e w5 ⟨rfl, hg5⟩
    go_wp2_with fail
    go_ret
    exact ⟨rfl, hg5⟩
  · go_enter Try.func7, Try.ntmps7
    go_wp2_with fail
    go_loopw [5, 6] (fun v5 v6 wi => ∃ (k n : Nat) (A : Option Addr) (c : Nat), v5 = .slice A n c ∧ v6 = .int .i64 k ∧ n = k ∧ k ≤ T.length ∧ Own wi w.heap.size 56 3 A c n ((T.take k).flatMap tkC) ∧ w.grownBy wi none)
      (fun _ v6 _ => T.length - (intOf v6).toNat)
    case atStart => exact ⟨0, 0, none, 0, rfl, rfl, rfl, by omega, Own.nil _ _ _ _, gb_refl _ _⟩
    case round =>
      obtain ⟨k, n, A, c, rfl, rfl, hnk, hk, hO, hg⟩ := hrel
      by_cases hkl : k < T.length
      · obtain ⟨sg, off, rfl, hsg, p0, p1, p2⟩ := rd_tok hS hkl
        have hgd := gb_drew hg
        have d0 := hgd.cell p0 (by simp)
        have d1 := hgd.cell p1 (by simp)
        have d2 := hgd.cell p2 (by simp)
        have hOd : Own wr.drew w.heap.size 56 3 A c n ((T.take k).flatMap tkC) := hO
        have hs := hgd.size
        have htk : T.take (k + 1) = T.take k ++ [T[k]] := List.take_succ_eq_append_getElem hkl
        have HT := Lib.hid htk
        have HN := Lib.hid hnk
        have hn60 : n ≤ 60 := by omega
        clear htk hnk
        generalize T[k] = t at *
        have hone := tkC_one t
        obtain ⟨b, f, g⟩ := t
        dsimp only at d0 d1 d2 p0 p1 p2
        have hby : (n + 1) * 24 ≤ 140737488355328 := by omega
        have h63 : n + 1 ≤ maxLen := by simp only [maxLen]; omega
        have hOa := hOd.alloc (.cells #[.int .u8 (b : Int), .int .i64 f, .int .i64 g] 56)
        have hRn : Rd (wr.drew.alloc (.cells #[.int .u8 (b : Int), .int .i64 f, .int .i64 g] 56)) (wr.drew.heap.size + 1) 3 (some ⟨wr.drew.heap.size, 0, none⟩) 1 (tkC ⟨b, f, g⟩) := ⟨rfl, fun _ => ⟨wr.drew.heap.size, 0, rfl, by omega, fun j u hu => by
          rw [Nat.zero_add]
          exact cells_new wr.drew (tkC ⟨b, f, g⟩) 56 j u hu⟩⟩
        have hsa : w.heap.size ≤ (wr.drew.alloc (.cells #[.int .u8 (b : Int), .int .i64 f, .int .i64 g] 56)).heap.size := by have : wr.drew.heap.size = wr.heap.size := rfl; simp; omega
        have k0 := (gb_alloc (gb_refl wr.drew none) (.cells #[.int .u8 (b : Int), .int .i64 f, .int .i64 g] 56)).cell d0 (by simp)
        have k1 := (gb_alloc (gb_refl wr.drew none) (.cells #[.int .u8 (b : Int), .int .i64 f, .int .i64 g] 56)).cell d1 (by simp)
        have k2 := (gb_alloc (gb_refl wr.drew none) (.cells #[.int .u8 (b : Int), .int .i64 f, .int .i64 g] 56)).cell d2 (by simp)
        have hga := gb_alloc hgd (.cells #[.int .u8 (b : Int), .int .i64 f, .int .i64 g] 56)
        go_wp2_with fail
        go_region_held3 (fun W => W.cell? ⟨sg, off + k * 3, none⟩ = some (.int .u8 (b : Int)) ∧ W.cell? ⟨sg, off + k * 3 + 1, none⟩ = some (.int .i64 f) ∧ W.cell? ⟨sg, off + k * 3 + 2, none⟩ = some (.int .i64 g)) (first | with_reducible exact ⟨d0, d1, d2⟩ | exact ⟨k0, k1, k2⟩ | with_reducible exact ⟨m0, m1, m2⟩) (first
          | (refine step_appN _ (by rfl) (.tmp 21) (.tmp 38) 51 (by rfl) w.heap.size 56 Try.underlying51 hi hz0 hz1 hz2 rfl (by decide) A c n ((T.take k).flatMap tkC) (by rfl) hOa (wr.drew.heap.size + 1) (some ⟨wr.drew.heap.size, 0, none⟩) 1 1 (tkC ⟨b, f, g⟩) (by rfl) hRn hone h63 hby hsa ?_; intro A5 c5 w5 hO5 hg5 hloc; (have hg6 := gb_own hga hg5 (fun g hg' => (hOa.lt g hg').1)); (have m0 := hg6.cell p0 (by simp)); (have m1 := hg6.cell p1 (by simp)); (have m2 := hg6.cell p2 (by simp)))
          | fail)
        go_wp2_with fail
        go_roundw
        case rel =>
          refine ⟨k + 1, n + 1, A5, c5, rfl, by go_num, by have := HN.out; omega, by omega, ?_, hg6⟩
          rw [HT.out, List.flatMap_append]
          simpa using hO5
        case measure => first | (simp [intOf]; done) | (simp [intOf]; omega)
      · have hk2 : k = T.length := by omega
        subst hk2
        subst hnk
        rw [List.take_length] at hO
        have h34 := bytes34_any T A c _ most wr (Nat.le_refl _) hO.rd (by omega) hm0 hm1 hb
        generalize hr : ansB most T [] = r at *
        go_wp2_with fail
        refine h34.mono ?_
        rintro e w2 ⟨A2, c2, rfl, hO2, hg2⟩
        have hg3 := gb_trans hg hg2
        have h35 := bytes35_any T A0 c0 _ most w2 (by exact hg3.size) (hS.later hg3 (Nat.le_refl _)) (by omega) hm0 hm1 hb
        rw [hr] at h35
        go_wp2_with fail
        refine h35.mono ?_
        rintro e w3 ⟨A3, c3, rfl, hO3, hg4⟩
        have hv1 := conv_any c2 (hO2.grown0 hg4).rd (by simp)
        have hv2 := conv_any c3 hO3.rd (by simp)
        go_wp2_with fail
        refine (awake35 _).mono ?_
        rintro e w4 ⟨rfl, hg5⟩
        go_wp2_with fail
        go_ret
        exact ⟨rfl, gb_trans (gb_trans hg3 hg4) hg5⟩

section
open Go.ChangeShapes Go.WideShapes Go.ChangeAt
theorem lzbytes_main {H : Type} {enc : TypeId × Value → H} {base : Nat} {v0 v1 : Value} {d0 d1 : DataW H} {p0 p1 : List MemPlace} (W : World)
    (k0 : Value.okWide Try.prog W .any base 53 v0) (h0 : DataW.Trod enc Try.prog W 0 (fun _ => true) true 53 v0 d0 p0)
    (k1 : Value.okWide Try.prog W .any base 3 v1) (h1 : DataW.Trod enc Try.prog W 0 (fun _ => true) true 3 v1 d1 p1) :
    Calls Try.prog 7 #[v0, v1] W fun e w' => e = .returned (.bool true) ∧ W.grownBy w' none := by
  obtain ⟨A, cap, T, rfl, hT, hR, hb⟩ := open_toks k0 h0
  obtain ⟨a1, rfl, _, _, w1⟩ := open_int Try.underlying3 k1 h1
  have := bounds_i64 w1
  exact law_lzbytes A cap T a1 W hR hT hb this.1 this.2
end
end Go.Proofs.Ytlohplopomfjhaa
