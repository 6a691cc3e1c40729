/- The walk of package lz's Unpack. -/
import Derived.Test.YtlohplopomfjhaaVJ
namespace Go.Proofs.Ytlohplopomfjhaa
set_option linter.unusedVariables false
set_option linter.unusedSimpArgs false
open Go.RowKit Go.Own Go.Bits Go.Lz

theorem RdS.row56 {w w' : World} {g base c n : Nat} {L : List Bool} {t : Bool} {A : Option Addr} {xs : List Value} (h : RdS w g L t) (hO : Own w base 56 3 A c n xs) (hg : w.grownBy w' (blk A)) : RdS w' g L t := by
  refine h.tch (S := fun k => blk A = some k) (tch_row hg (fun j hj => hj)) (fun k cs ty e hb => ?_)
  have h56 : ty = 56 := by
    by_cases he : 56 = ty
    · exact he.symm
    · exact absurd e (own_ne_blk hO hb he)
  subst h56
  decide

theorem token_none {g : Nat} {L : List Bool} {w : World} (h : RdS w g L false) (ht : tokR L = none) : Calls Try.prog 47 #[.pointer (some ⟨g, 0, none⟩)] w fun e w' => e = .returned (.tuple #[.agg #[.int .u8 0, .int .i64 0, .int .i64 0], .bool false, .int .i64 21]) ∧ w.grownBy w' (some g) := by
  refine (token_any g L w h).mono ?_
  rw [ht]
  rintro e w' ⟨rfl, hg, _⟩
  exact ⟨rfl, hg⟩

theorem token_end {g : Nat} {L R : List Bool} {w : World} (h : RdS w g L false) (ht : tokR L = some (none, R)) : Calls Try.prog 47 #[.pointer (some ⟨g, 0, none⟩)] w fun e w' => e = .returned (.tuple #[.agg #[.int .u8 0, .int .i64 0, .int .i64 0], .bool true, .int .i64 0]) ∧ w.grownBy w' (some g) ∧ RdS w' g R false := by
  refine (token_any g L w h).mono ?_
  rw [ht]
  rintro e w' ⟨rfl, hg, hR⟩
  exact ⟨rfl, hg, hR _ _ rfl⟩

theorem token_tok {g tb : Nat} {tf tl : Int} {L R : List Bool} {w : World} (h : RdS w g L false) (ht : tokR L = some (some ⟨tb, tf, tl⟩, R)) : Calls Try.prog 47 #[.pointer (some ⟨g, 0, none⟩)] w fun e w' => e = .returned (.tuple #[.agg #[.int .u8 (tb : Int), .int .i64 tf, .int .i64 tl], .bool false, .int .i64 0]) ∧ w.grownBy w' (some g) ∧ RdS w' g R false := by
  refine (token_any g L w h).mono ?_
  rw [ht]
  rintro e w' ⟨rfl, hg, hR⟩
  exact ⟨rfl, hg, hR _ _ rfl⟩

/-- The measure of a loop that gathers tokens. -/
def lenOf : Value → Nat
  | .slice _ n _ => n
  | _ => 0

set_option maxHeartbeats 6400000 in
set_option maxRecDepth 100000 in
theorem unpack_any (bl : List Nat) (S : Option Addr) (cs B : Nat) (most : Int) (w : World) (hB : B ≤ w.heap.size) (hS : Rd w B 1 S bl.length (bl.map bv)) (hv : ∀ v ∈ bl, v < 256) (hl : bl.length ≤ 12000) (hm0 : -9223372036854775808 ≤ most) (hm1 : most ≤ 9223372036854775807) :
    Calls Try.prog 36 #[.slice S bl.length cs, .int .i64 most] w (GivesB w (ansU most bl)) := by
  obtain ⟨it, hi, hz0, hz1, hz2⟩ := info_parts info56
  have hrd := read_any bl S cs B w hB hS hv (by omega)
  have hol := ofB_len bl
  go_enter Try.func36, Try.ntmps36
  go_wp2_with fail
  refine hrd.mono ?_
  rintro e w1 ⟨g, rfl, hgl, hg1, hR1⟩
  have hans : ansU most bl = finU most (unp (ofB bl) []) := rfl
  have HANS := Lib.hid hans
  have hL0 : (ofB bl).length ≤ 96000 := by omega
  clear hans hol hrd
  generalize ofB bl = L0 at *
  go_wp2_with fail
  go_loopw [7] (fun v7 wi => ∃ (L : List Bool) (T : List Tok) (A : Option Addr) (c : Nat), v7 = .slice A T.length c ∧ RdS wi g L false ∧ unp L0 [] = unp L T ∧ T.length + L.length ≤ L0.length ∧ (∀ t ∈ T, t.b < 256) ∧ Own wi w.heap.size 56 3 A c T.length (T.flatMap tkC) ∧ Below w.heap.size w wi)
    (fun v7 _ => L0.length + 1 - lenOf v7)
  case atStart => exact ⟨L0, [], none, 0, rfl, hR1, rfl, by simp, by simp, Own.nil _ _ _ _, below_gb hg1⟩
  case round =>
    obtain ⟨L, T, A, c, rfl, hR, hun, hTL, hTb, hO, hbel⟩ := hrel
    have hbs := hbel.size
    obtain ⟨cb, hBg⟩ := hR.isBlk
    have hAg := own_ne_blk hO hBg (by decide)
    have HUN := Lib.hid hun
    clear hun hR1 hg1
    cases hto : tokR L with
    | none =>
      have htk := token_none hR hto
      have HE := Lib.hid (HANS.out.trans (congrArg (finU most) (HUN.out.trans (unp_bad hto))))
      go_wp2_with fail
      refine htk.mono ?_
      rintro e w2 ⟨rfl, hg2⟩
      go_wp2_with fail
      go_ret2
      rw [HE.out]
      exact ⟨none, 0, rfl, Own.nil _ _ _ _, gb_below ((below_step hbel hbs hg2 hgl).alloc (below_step hbel hbs hg2 hgl).size _)⟩
    | some p =>
      obtain ⟨o, R⟩ := p
      have htl := tokR_len hto
      cases o with
      | none =>
        have htk := token_end hR hto
        have hfin : ansU most bl = if 8 ≤ R.length ∨ val R ≠ 0 then ([], 21) else ansB most T [] := HANS.out.trans (congrArg (finU most) (HUN.out.trans (unp_end hto)))
        have HF := Lib.hid hfin
        clear hfin
        go_wp2_with fail
        refine htk.mono ?_
        rintro e w2 ⟨rfl, hg2, hRR⟩
        have hR2 := hRR.later (gb_alloc (gb_refl _ none) (.cells #[.int .u8 0, .int .i64 0, .int .i64 0] 56))
        have hbel2 := (below_step hbel hbs hg2 hgl).alloc (below_step hbel hbs hg2 hgl).size (.cells #[.int .u8 0, .int .i64 0, .int .i64 0] 56)
        have hO2 := (hO.grown hg2 (.inr hAg)).alloc (.cells #[.int .u8 0, .int .i64 0, .int .i64 0] 56)
        go_wp2_with fail
        refine (rleft_any g R false _ hR2).mono ?_
        rintro e w3 ⟨rfl, hg3⟩
        have hR3 := hR2.later hg3
        have hb3 := below_step0 hbel2 hbel2.size hg3
        by_cases h8 : 8 ≤ R.length
        · have h8i : (8 : Int) ≤ (R.length : Int) := by omega
          have HE := Lib.hid (HF.out.trans (if_pos (.inl h8)))
          go_wp2_with fail
          go_ret2
          rw [HE.out]
          exact ⟨none, 0, rfl, Own.nil _ _ _ _, gb_below hb3⟩
        · have h8i : ¬ ((8 : Int) ≤ (R.length : Int)) := by omega
          have hbits := fun (W : World) (h : RdS W g R false) => rdbits_any g R false W (R.length : Int) h
          have hnb := nb_nat R.length (by omega)
          rw [hnb, List.take_length] at hbits
          go_wp2_with fail
          refine (rleft_any g R false _ hR3).mono ?_
          rintro e w4 ⟨rfl, hg4⟩
          have hR4 := hR3.later hg4
          have hb4 := below_step0 hb3 hb3.size hg4
          go_wp2_with fail
          refine (hbits _ hR4).mono ?_
          rintro e w5 ⟨rfl, hg5, hR5⟩
          have hb5 := below_step hb4 hb4.size hg5 hgl
          by_cases hv0 : val R = 0
          · have HE := Lib.hid (HF.out.trans (if_neg (by omega)))
            rw [hv0]
            obtain ⟨cb4, hBg4⟩ := hR4.isBlk
            have hO4 := (hO2.grown0 hg3).grown0 hg4
            have hO5 := hO4.grown hg5 (.inr (own_ne_blk hO4 hBg4 (by decide)))
            go_wp2_with fail
            refine (bytes34_any T A c _ most w5 (Nat.le_refl _) hO5.rd (by omega) hm0 hm1 hTb).mono ?_
            rintro e w6 ⟨A6, c6, rfl, hO6, hg6⟩
            go_wp2_with fail
            go_ret2
            rw [HE.out]
            exact ⟨A6, c6, rfl, hO6.mono hb5.size, gb_below (below_step0 hb5 hb5.size hg6)⟩
          · have HE := Lib.hid (HF.out.trans (if_pos (.inr hv0)))
            have hv1 : ((val R : Int) != 0) = true := by simp; omega
            generalize val R = vr at *
            go_wp2_with fail
            go_ret2
            rw [HE.out]
            exact ⟨none, 0, rfl, Own.nil _ _ _ _, gb_below hb5⟩
      | some t =>
        have hnx := unp_tok (T := T) hto
        have hby := tokR_byte hto
        have HNX := Lib.hid (HUN.out.trans hnx)
        have hone := tkC_one t
        obtain ⟨tb, tf, tl⟩ := t
        dsimp only at hby
        have htk := token_tok hR hto
        have hbyt : (T.length + 1) * 24 ≤ 140737488355328 := by omega
        clear hnx
        go_wp2_with fail
        refine htk.mono ?_
        rintro e w2 ⟨rfl, hg2, hRR⟩
        have hR2 := hRR.later (gb_alloc (gb_refl _ none) (.cells #[.int .u8 (tb : Int), .int .i64 tf, .int .i64 tl] 56))
        have hbel2 := (below_step hbel hbs hg2 hgl).alloc (below_step hbel hbs hg2 hgl).size (.cells #[.int .u8 (tb : Int), .int .i64 tf, .int .i64 tl] 56)
        have hO2 := (hO.grown hg2 (.inr hAg)).alloc (.cells #[.int .u8 (tb : Int), .int .i64 tf, .int .i64 tl] 56)
        have hsa2 := hbel2.size
        go_wp2_with (
          at_builtin
          refine wpList_app1 (w2.alloc (.cells #[.int .u8 (tb : Int), .int .i64 tf, .int .i64 tl] 56)) rfl (.tmp 44) (.tmp 46) 51 rfl w.heap.size 56 Try.underlying51 hi hz0 hz1 hz2 rfl (by decide) A c T.length (T.flatMap tkC) rfl hO2 (tkC ⟨tb, tf, tl⟩) 56 1 (by show Value.slice (some ⟨w2.heap.size + 1, 0, none⟩) 1 1 = _; simp) rfl hone hbyt (by decide) hsa2 ?_
          intro g1 c1 w6 hO6 hgr hloc hbg1 hlt1)
        go_roundw
        case rel =>
          refine ⟨R, T ++ [⟨tb, tf, tl⟩], some ⟨g1, 0, none⟩, c1, by simp, hR2.row56 hO2 hgr, HNX.out, by simp; omega, ?_, ?_, below_tch hbel2 hsa2 (tch_row (S := fun j => blk A = some j) hgr (fun j hj => hj)) (fun j hj => (hO2.lt j hj).1)⟩
          · intro t ht
            rcases List.mem_append.1 ht with ht | ht
            · exact hTb t ht
            · simp at ht
              subst ht
              exact hby
          · rw [List.length_append, List.flatMap_append]
            simpa using hO6
        case measure => simp only [lenOf]; omega
end Go.Proofs.Ytlohplopomfjhaa
