/- The walk of the document's Unpack. -/
import Derived.Test.YtlohplopomfjhaaVK
namespace Go.Proofs.Ytlohplopomfjhaa
set_option linter.unusedVariables false
set_option linter.unusedSimpArgs false
open Go.RowKit Go.Own Go.Bits Go.Lz

theorem TkS.isBlk {w : World} {g : Nat} {L : List Bool} {t : Bool} (h : TkS w g L t) : ∃ cs, Blk w g cs 45 := by
  obtain ⟨A, c, h1, _⟩ := h
  exact ⟨_, h1⟩

theorem TkS.row57 {w w' : World} {g base c n : Nat} {L : List Bool} {t : Bool} {A : Option Addr} {xs : List Value} (h : TkS w g L t) (hO : Own w base 57 3 A c n xs) (hg : w.grownBy w' (blk A)) : TkS w' g L t := by
  refine h.tch (S := fun k => blk A = some k) (tch_row hg (fun j hj => hj)) (fun k cs ty e hb => ?_)
  have h57 : ty = 57 := by
    by_cases he : 57 = ty
    · exact he.symm
    · exact absurd e (own_ne_blk hO hb he)
  subst h57
  decide

/-- What the document's Unpack has gathered. -/
def UInv (w0 : World) (g : Nat) (L0 L : List Bool) (T : List Tok) (A : Option Addr) (c i : Nat) (wi : World) : Prop :=
  TkS wi g L false ∧ unp L0 [] = unp L T ∧ i + L.length ≤ L0.length ∧ T.length ≤ i ∧ (∀ t ∈ T, t.b < 256) ∧ Own wi w0.heap.size 57 3 A c T.length (T.flatMap tkC) ∧ Below w0.heap.size w0 wi

theorem app_byte {T : List Tok} {t : Tok} (h : ∀ t ∈ T, t.b < 256) (hb : t.b < 256) : ∀ x ∈ T ++ [t], x.b < 256 := by
  intro x hx
  rcases List.mem_append.1 hx with hx | hx
  · exact h x hx
  · simp at hx
    subst hx
    exact hb

set_option maxHeartbeats 6400000 in
set_option maxRecDepth 100000 in
theorem runpack_any (bl : List Nat) (S : Option Addr) (cs B : Nat) (most : Int) (w : World) (hB : B ≤ w.heap.size) (hS : Rd w B 1 S bl.length (bl.map bv)) (hv : ∀ v ∈ bl, v < 256) (hl : bl.length ≤ 12000) (hm0 : -9223372036854775808 ≤ most) (hm1 : most ≤ 9223372036854775807) :
    Calls Try.prog 37 #[.slice S bl.length cs, .int .i64 most] w (GivesB w (ansU most bl)) := by
  obtain ⟨it, hi, hz0, hz1, hz2⟩ := info_parts info57
  have hrd := rof_any bl S cs B w hB hS hv (by omega)
  have hol := ofB_len bl
  have h8 : nb 8 = 8 := by decide
  go_enter Try.func37, Try.ntmps37
  go_wp2_with fail
  refine hrd.mono ?_
  rintro e w1 ⟨Aq, cq, rfl, hOq, hg1⟩
  have hT1 := TkS.new hOq
  have hgl : w.heap.size ≤ w1.heap.size := hg1.size
  have hg2 := gb_alloc hg1 (.cells #[.slice Aq (ofB bl).length cq, .bool false] 45)
  have hans : ansU most bl = finU most (unp (ofB bl) []) := rfl
  have HANS := Lib.hid hans
  have hL0 : (ofB bl).length ≤ 96000 := by omega
  have HOL := Lib.hid hol
  clear hans hol hrd hOq
  generalize ofB bl = L0 at *
  go_wp2_with fail
  generalize w1.heap.size = g at *
  go_loopw [7, 8] (fun v7 v8 wi => ∃ (L : List Bool) (T : List Tok) (A : Option Addr) (c i : Nat), v7 = .slice A T.length c ∧ v8 = .int .i64 i ∧ UInv w g L0 L T A c i wi)
    (fun _ v8 _ => L0.length + 1 - (intOf v8).toNat)
  case atStart => exact ⟨L0, [], none, 0, 0, rfl, rfl, hT1, rfl, by simp, by simp, by simp, Own.nil _ _ _ _, below_gb hg2⟩
  case round =>
    obtain ⟨L, T, A, c, i, rfl, rfl, hR, hun, hiL, hTi, hTb, hO, hbel⟩ := hrel
    have hbs := hbel.size
    obtain ⟨cb, hBg⟩ := hR.isBlk
    have hAg := own_ne_blk hO hBg (by decide)
    have HUN := Lib.hid hun
    have hol := HOL.out
    have hile : (i : Int) ≤ 8 * (bl.length : Int) := by omega
    have hbyt : (T.length + 1) * 24 ≤ 140737488355328 := by omega
    clear hun hT1 hg2 hol
    match L with
    | [] =>
      have hb := tbit_any g [] false _ hR
      have HE := Lib.hid (HANS.out.trans (congrArg (finU most) (HUN.out.trans (unp_bad (L := []) rfl))))
      go_wp2_with fail
      refine hb.mono ?_
      rintro e w2 ⟨rfl, hg2, hR2⟩
      have hR2' : TkS w2 g [] true := hR2
      go_wp2_with fail
      refine (tbits_any g [] true _ 8 hR2').mono ?_
      rintro e w3 ⟨rfl, hg3, hR3⟩
      have hR3' : TkS w3 g ([].drop (nb 8)) true := hR3
      obtain ⟨ct, cf⟩ := hR3'.torn
      go_wp2_with fail
      go_ret2
      rw [HE.out]
      exact ⟨none, 0, rfl, Own.nil _ _ _ _, gb_below (below_step (below_step hbel hbs hg2 hgl) (below_step hbel hbs hg2 hgl).size hg3 hgl)⟩
    | false :: M =>
      have hb := tbit_any g (false :: M) false _ hR
      have hv256 : val (M.take 8) < 256 := val_take_lt M 8
      by_cases hlen : M.length < 8
      · have hd : decide (M.length < 8) = true := by simpa using hlen
        have HE := Lib.hid (HANS.out.trans (congrArg (finU most) (HUN.out.trans (unp_bad (L := false :: M) (by rw [tokR_f, if_pos hlen])))))
        have hbits := fun (W : World) (h : TkS W g M false) => tbits_any g M false W 8 h
        simp only [h8, hd, Bool.false_or] at hbits
        generalize val (M.take 8) = v at *
        have hmod : (v : Int) % 256 = v := by omega
        have hvl : (v : Int) ≤ 255 := by omega
        clear hlen hd
        go_wp2_with fail
        refine hb.mono ?_
        rintro e w2 ⟨rfl, hg2, hR2⟩
        have hR2' : TkS w2 g M false := hR2
        obtain ⟨ck2, hBk2⟩ := hR2'.isBlk
        go_wp2_with fail
        refine (hbits _ hR2').mono ?_
        rintro e w3 ⟨rfl, hg3, hR3⟩
        obtain ⟨ct, cf⟩ := hR3.torn
        go_wp2_with fail
        go_ret2
        rw [HE.out]
        exact ⟨none, 0, rfl, Own.nil _ _ _ _, gb_below (below_step (below_step hbel hbs hg2 hgl) (below_step hbel hbs hg2 hgl).size hg3 hgl)⟩
      · have hd : decide (M.length < 8) = false := by simpa using hlen
        have HE := Lib.hid (HUN.out.trans (unp_tok (T := T) (L := false :: M) (by rw [tokR_f, if_neg hlen])))
        have hone := tkC_one ⟨val (M.take 8), 0, 0⟩
        have hbits := fun (W : World) (h : TkS W g M false) => tbits_any g M false W 8 h
        simp only [h8, hd, Bool.false_or] at hbits
        generalize val (M.take 8) = v at *
        have hmod : (v : Int) % 256 = v := by omega
        have hvl : (v : Int) ≤ 255 := by omega
        clear hlen hd
        go_wp2_with fail
        refine hb.mono ?_
        rintro e w2 ⟨rfl, hg2, hR2⟩
        have hR2' : TkS w2 g M false := hR2
        obtain ⟨ck2, hBk2⟩ := hR2'.isBlk
        go_wp2_with fail
        refine (hbits _ hR2').mono ?_
        rintro e w3 ⟨rfl, hg3, hR3⟩
        obtain ⟨ct, cf⟩ := hR3.torn
        have hO3 := (hO.grown hg2 (.inr hAg)).grown hg3 (.inr (own_ne_blk (hO.grown hg2 (.inr hAg)) hBk2 (by decide)))
        have hb3 := below_step (below_step hbel hbs hg2 hgl) (below_step hbel hbs hg2 hgl).size hg3 hgl
        have hs3 := hb3.size
        have hMl : (M.drop 8).length < (false :: M).length := by simp; omega
        go_wp2_with (
          at_builtin
          refine wpList_app1 w3 rfl (.tmp 33) (.tmp 37) 53 rfl w.heap.size 57 Try.underlying53 hi hz0 hz1 hz2 rfl (by decide) A c T.length (T.flatMap tkC) rfl hO3 (tkC ⟨v, 0, 0⟩) 57 1 (by rfl) rfl hone hbyt (by decide) hs3 ?_
          intro g1 c1 w6 hO6 hgr hloc hbg1 hlt1)
        go_roundw
        case rel =>
          refine ⟨M.drop 8, T ++ [⟨v, 0, 0⟩], some ⟨g1, 0, none⟩, c1, i + 1, by simp, by go_num, hR3.row57 hO3 hgr, HE.out, by omega, by simp; omega, app_byte hTb hv256, ?_, below_tch hb3 hs3 (tch_row (S := fun j => blk A = some j) hgr (fun j hj => hj)) (fun j hj => (hO3.lt j hj).1)⟩
          rw [List.length_append, List.flatMap_append]
          simpa using hO6
        case measure => first | (simp [intOf]; done) | (simp [intOf]; omega)
    | true :: M =>
      have hb := tbit_any g (true :: M) false _ hR
      have hgm := fun (W : World) (h : TkS W g M false) => tgamma_any g M false W h
      have htr := tokR_t M
      have hlen1 := gamS_len M false
      rcases hr : gamS M false with ⟨fv, R1, t1⟩
      rw [hr] at htr hgm hlen1
      dsimp only at htr hgm hlen1
      cases t1
      · rw [if_neg (by decide)] at htr
        by_cases h97 : fv = 4097
        · rw [if_pos h97] at htr
          subst h97
          have hfin : ansU most bl = if 8 ≤ R1.length ∨ val R1 ≠ 0 then ([], 21) else ansB most T [] := HANS.out.trans (congrArg (finU most) (HUN.out.trans (unp_end htr)))
          have HF := Lib.hid hfin
          clear hfin htr
          go_wp2_with fail
          refine hb.mono ?_
          rintro e w2 ⟨rfl, hg2, hR2⟩
          have hR2' : TkS w2 g M false := hR2
          obtain ⟨ck2, hBk2⟩ := hR2'.isBlk
          have hO2 := hO.grown hg2 (.inr hAg)
          go_wp2_with fail
          refine (hgm _ hR2').mono ?_
          rintro e w3 ⟨rfl, hg3, hR3⟩
          obtain ⟨ct, cf⟩ := hR3.torn
          have hO3 := hO2.grown hg3 (.inr (own_ne_blk hO2 hBk2 (by decide)))
          have hb3 := below_step (below_step hbel hbs hg2 hgl) (below_step hbel hbs hg2 hgl).size hg3 hgl
          obtain ⟨Ar, cr, hBr, hlc, hcm, hrow⟩ := hR3
          have r0 := hBr.cell 0 rfl
          by_cases h8 : 8 ≤ R1.length
          · have h8i : (8 : Int) ≤ (R1.length : Int) := by omega
            have HE := Lib.hid (HF.out.trans (if_pos (.inl h8)))
            go_wp2_with fail
            go_ret2
            rw [HE.out]
            exact ⟨none, 0, rfl, Own.nil _ _ _ _, gb_below hb3⟩
          · have h8i : ¬ ((8 : Int) ≤ (R1.length : Int)) := by omega
            go_wp2_with fail
            go_loopw [12] (fun v12 wi => ∃ k : Nat, v12 = .int .i64 k ∧ k ≤ R1.length ∧ (∀ j, j < k → R1.getD j false = false) ∧ w3 = wi) (fun v12 _ => R1.length - (intOf v12).toNat)
            case atStart => exact ⟨0, rfl, by omega, by intro j hj; omega, rfl⟩
            case round =>
              obtain ⟨k, rfl, hk, hz, rfl⟩ := hrel
              by_cases hkl : k < R1.length
              · have hki : (k : Int) < (R1.length : Int) := by omega
                obtain ⟨gr, off, arr, rfl, hBa, hca⟩ := hrow (by omega)
                have r1 := hBa.cell (off + k) (hca k hkl)
                cases hbit : R1.getD k false
                · rw [hbit] at r1
                  go_wp2_with fail
                  go_roundw
                  case rel =>
                    refine ⟨k + 1, by go_num, by omega, fun j hj => ?_, by trivial⟩
                    by_cases hjk : j = k
                    · subst hjk; exact hbit
                    · exact hz j (by omega)
                  case measure => first | (simp [intOf]; done) | (simp [intOf]; omega)
                · rw [hbit] at r1
                  have HE := Lib.hid (HF.out.trans (if_pos (.inr (val_one R1 k hbit))))
                  go_wp2_with fail
                  go_ret2
                  rw [HE.out]
                  exact ⟨none, 0, rfl, Own.nil _ _ _ _, gb_below hb3⟩
              · have hk2 : k = R1.length := by omega
                subst hk2
                have hv0 := val_zero R1 hz
                have HE := Lib.hid (HF.out.trans (if_neg (by omega)))
                have hTl : T.length ≤ 100000 := by omega
                go_wp2_with fail
                refine (bytes35_any T A c _ most w3 (Nat.le_refl _) hO3.rd hTl hm0 hm1 hTb).mono ?_
                rintro e w6 ⟨A6, c6, rfl, hO6, hg6⟩
                go_wp2_with fail
                go_ret2
                rw [HE.out]
                exact ⟨A6, c6, rfl, hO6.mono hb3.size, gb_below (below_step0 hb3 hb3.size hg6)⟩
        · rw [if_neg h97] at htr
          have b97 : ((fv : Int) == 4097) = false := by simp; omega
          have hgm2 := fun (W : World) (h : TkS W g R1 false) => tgamma_any g R1 false W h
          have hlen2 := gamS_len R1 false
          rcases hq : gamS R1 false with ⟨qv, R2, t2⟩
          rw [hq] at htr hgm2 hlen2
          dsimp only at htr hgm2 hlen2
          cases t2
          · by_cases hfar : 4096 < fv
            · rw [if_pos (.inr (.inl hfar))] at htr
              have HE := Lib.hid (HANS.out.trans (congrArg (finU most) (HUN.out.trans (unp_bad htr))))
              have bfar : decide ((4096 : Int) < (fv : Int)) = true := by simp; omega
              clear htr h97
              go_wp2_with fail
              refine hb.mono ?_
              rintro e w2 ⟨rfl, hg2, hR2⟩
              have hR2' : TkS w2 g M false := hR2
              obtain ⟨ck2, hBk2⟩ := hR2'.isBlk
              have hO2 := hO.grown hg2 (.inr hAg)
              go_wp2_with fail
              refine (hgm _ hR2').mono ?_
              rintro e w3 ⟨rfl, hg3, hR3⟩
              obtain ⟨ct, cf⟩ := hR3.torn
              have hO3 := hO2.grown hg3 (.inr (own_ne_blk hO2 hBk2 (by decide)))
              have hb3 := below_step (below_step hbel hbs hg2 hgl) (below_step hbel hbs hg2 hgl).size hg3 hgl
              obtain ⟨ck3, hBk3⟩ := hR3.isBlk
              go_wp2_with fail
              refine (hgm2 _ hR3).mono ?_
              rintro e w4 ⟨rfl, hg4, hR4⟩
              obtain ⟨ct4, cf4⟩ := hR4.torn
              have hO4 := hO3.grown hg4 (.inr (own_ne_blk hO3 hBk3 (by decide)))
              have hb4 := below_step hb3 hb3.size hg4 hgl
              go_wp2_with fail
              go_ret2
              rw [HE.out]
              exact ⟨none, 0, rfl, Own.nil _ _ _ _, gb_below hb4⟩
            · have bfar : decide ((4096 : Int) < (fv : Int)) = false := by simp; omega
              by_cases hlong : 1022 < qv
              · rw [if_pos (.inr (.inr hlong))] at htr
                have HE := Lib.hid (HANS.out.trans (congrArg (finU most) (HUN.out.trans (unp_bad htr))))
                have blong : decide ((1022 : Int) < (qv : Int)) = true := by simp; omega
                clear htr h97
                go_wp2_with fail
                refine hb.mono ?_
                rintro e w2 ⟨rfl, hg2, hR2⟩
                have hR2' : TkS w2 g M false := hR2
                obtain ⟨ck2, hBk2⟩ := hR2'.isBlk
                have hO2 := hO.grown hg2 (.inr hAg)
                go_wp2_with fail
                refine (hgm _ hR2').mono ?_
                rintro e w3 ⟨rfl, hg3, hR3⟩
                obtain ⟨ct, cf⟩ := hR3.torn
                have hO3 := hO2.grown hg3 (.inr (own_ne_blk hO2 hBk2 (by decide)))
                have hb3 := below_step (below_step hbel hbs hg2 hgl) (below_step hbel hbs hg2 hgl).size hg3 hgl
                obtain ⟨ck3, hBk3⟩ := hR3.isBlk
                go_wp2_with fail
                refine (hgm2 _ hR3).mono ?_
                rintro e w4 ⟨rfl, hg4, hR4⟩
                obtain ⟨ct4, cf4⟩ := hR4.torn
                have hO4 := hO3.grown hg4 (.inr (own_ne_blk hO3 hBk3 (by decide)))
                have hb4 := below_step hb3 hb3.size hg4 hgl
                go_wp2_with fail
                go_ret2
                rw [HE.out]
                exact ⟨none, 0, rfl, Own.nil _ _ _ _, gb_below hb4⟩
              · have blong : decide ((1022 : Int) < (qv : Int)) = false := by simp; omega
                have bf2 : (fv : Int) ≤ 4096 := by omega
                have bq2 : (qv : Int) ≤ 1022 := by omega
                rw [if_neg (by simp; omega)] at htr
                have HE := Lib.hid (HUN.out.trans (unp_tok (T := T) htr))
                have hone := tkC_one ⟨0, fv, (qv : Int) + 2⟩
                clear htr h97
                go_wp2_with fail
                refine hb.mono ?_
                rintro e w2 ⟨rfl, hg2, hR2⟩
                have hR2' : TkS w2 g M false := hR2
                obtain ⟨ck2, hBk2⟩ := hR2'.isBlk
                have hO2 := hO.grown hg2 (.inr hAg)
                go_wp2_with fail
                refine (hgm _ hR2').mono ?_
                rintro e w3 ⟨rfl, hg3, hR3⟩
                obtain ⟨ct, cf⟩ := hR3.torn
                have hO3 := hO2.grown hg3 (.inr (own_ne_blk hO2 hBk2 (by decide)))
                have hb3 := below_step (below_step hbel hbs hg2 hgl) (below_step hbel hbs hg2 hgl).size hg3 hgl
                obtain ⟨ck3, hBk3⟩ := hR3.isBlk
                go_wp2_with fail
                refine (hgm2 _ hR3).mono ?_
                rintro e w4 ⟨rfl, hg4, hR4⟩
                obtain ⟨ct4, cf4⟩ := hR4.torn
                have hO4 := hO3.grown hg4 (.inr (own_ne_blk hO3 hBk3 (by decide)))
                have hb4 := below_step hb3 hb3.size hg4 hgl
                have hs4 := hb4.size
                have hMl : R2.length < (true :: M).length := by simp; omega
                go_wp2_with (
                  at_builtin
                  refine wpList_app1 w4 rfl (.tmp 61) (.tmp 68) 53 rfl w.heap.size 57 Try.underlying53 hi hz0 hz1 hz2 rfl (by decide) A c T.length (T.flatMap tkC) rfl hO4 (tkC ⟨0, fv, (qv : Int) + 2⟩) 57 1 (by rfl) rfl hone hbyt (by decide) hs4 ?_
                  intro g1 c1 w6 hO6 hgr hloc hbg1 hlt1)
                go_roundw
                case rel =>
                  refine ⟨R2, T ++ [⟨0, fv, (qv : Int) + 2⟩], some ⟨g1, 0, none⟩, c1, i + 1, by simp, by go_num, hR4.row57 hO4 hgr, HE.out, by omega, by simp; omega, app_byte hTb (by dsimp only; omega), ?_, below_tch hb4 hs4 (tch_row (S := fun j => blk A = some j) hgr (fun j hj => hj)) (fun j hj => (hO4.lt j hj).1)⟩
                  rw [List.length_append, List.flatMap_append]
                  simpa using hO6
                case measure => first | (simp [intOf]; done) | (simp [intOf]; omega)
          · rw [if_pos (.inl rfl)] at htr
            have HE := Lib.hid (HANS.out.trans (congrArg (finU most) (HUN.out.trans (unp_bad htr))))
            clear htr h97
            go_wp2_with fail
            refine hb.mono ?_
            rintro e w2 ⟨rfl, hg2, hR2⟩
            have hR2' : TkS w2 g M false := hR2
            obtain ⟨ck2, hBk2⟩ := hR2'.isBlk
            have hO2 := hO.grown hg2 (.inr hAg)
            go_wp2_with fail
            refine (hgm _ hR2').mono ?_
            rintro e w3 ⟨rfl, hg3, hR3⟩
            obtain ⟨ct, cf⟩ := hR3.torn
            have hO3 := hO2.grown hg3 (.inr (own_ne_blk hO2 hBk2 (by decide)))
            have hb3 := below_step (below_step hbel hbs hg2 hgl) (below_step hbel hbs hg2 hgl).size hg3 hgl
            obtain ⟨ck3, hBk3⟩ := hR3.isBlk
            go_wp2_with fail
            refine (hgm2 _ hR3).mono ?_
            rintro e w4 ⟨rfl, hg4, hR4⟩
            obtain ⟨ct4, cf4⟩ := hR4.torn
            have hO4 := hO3.grown hg4 (.inr (own_ne_blk hO3 hBk3 (by decide)))
            have hb4 := below_step hb3 hb3.size hg4 hgl
            go_wp2_with fail
            go_ret2
            rw [HE.out]
            exact ⟨none, 0, rfl, Own.nil _ _ _ _, gb_below hb4⟩
      · rw [if_pos rfl] at htr
        have HE := Lib.hid (HANS.out.trans (congrArg (finU most) (HUN.out.trans (unp_bad htr))))
        clear htr
        go_wp2_with fail
        refine hb.mono ?_
        rintro e w2 ⟨rfl, hg2, hR2⟩
        have hR2' : TkS w2 g M false := hR2
        obtain ⟨ck2, hBk2⟩ := hR2'.isBlk
        have hO2 := hO.grown hg2 (.inr hAg)
        go_wp2_with fail
        refine (hgm _ hR2').mono ?_
        rintro e w3 ⟨rfl, hg3, hR3⟩
        obtain ⟨ct, cf⟩ := hR3.torn
        have hO3 := hO2.grown hg3 (.inr (own_ne_blk hO2 hBk2 (by decide)))
        have hb3 := below_step (below_step hbel hbs hg2 hgl) (below_step hbel hbs hg2 hgl).size hg3 hgl
        go_wp2_with fail
        go_ret2
        rw [HE.out]
        exact ⟨none, 0, rfl, Own.nil _ _ _ _, gb_below hb3⟩
end Go.Proofs.Ytlohplopomfjhaa
