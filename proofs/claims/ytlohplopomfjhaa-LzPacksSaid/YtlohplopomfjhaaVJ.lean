/- The walk of package lz's token reader. -/
import Derived.Test.YtlohplopomfjhaaVI
import Derived.Test.YtlohplopomfjhaaLC
namespace Go.Proofs.Ytlohplopomfjhaa
set_option linter.unusedVariables false
set_option linter.unusedSimpArgs false
open Go.RowKit Go.Own Go.Bits Go.Lz

/-- A result that is a struct, and two more. -/
theorem res_struct3 {P : Program} {fn : Func} {p u u2 : Tmp} {ty : TypeId} (h : fn.results = #[.cell p ty, .tmp u, .tmp u2]) {tmps : Array Value} {w : World} {g : Nat} {t : TypeId} {cs : Array Value} (hB : Blk w g cs t) {d : TypeDesc} {v v2 : Value}
    (hp : tmps.getD p undef = .pointer (some ⟨g, 0, none⟩)) (hv : tmps.getD u undef = v) (hv2 : tmps.getD u2 undef = v2)
    (hu : P.underlying ty = some d) (hd : (match d with | .struct _ | .array _ _ => true | _ => false) = true) (hi : (P.info? ty).map (·.size) = some cs.size) :
    (results fn tmps).run P w = .ok (.tuple #[.agg cs, v, v2]) w := by
  have e : (results fn tmps).run P w = ((asAddr (tmps.getD p undef)).run P w).andThen fun a w₁ => ((loadVar ty a).run P w₁).andThen fun v' w₂ => .ok (.tuple #[v', tmps.getD u undef, tmps.getD u2 undef]) w₂ := by
    simp only [results, h]
    simp [Sem.run_bind, Result.andThen]
  rw [e, hp]
  simp [asAddr, run_loadVar_row w g t ty cs (0, 0) d hB hu hd hi]
  exact ⟨by simpa using hv, by simpa using hv2⟩

/-- What the token reader tells. -/
def tokRes : Option (Option Tok × List Bool) → Tok × Bool × Int
  | none => (⟨0, 0, 0⟩, false, 21)
  | some (none, _) => (⟨0, 0, 0⟩, true, 0)
  | some (some t, _) => (t, false, 0)

def TokPost (w : World) (g : Nat) (o : Option (Option Tok × List Bool)) (e : Ending) (w' : World) : Prop :=
  e = .returned (.tuple #[.agg (tkC (tokRes o).1).toArray, .bool (tokRes o).2.1, .int .i64 (tokRes o).2.2]) ∧ w.grownBy w' (some g) ∧ ∀ t R, o = some (t, R) → RdS w' g R false

theorem RdS.isBlk {w : World} {g : Nat} {L : List Bool} {t : Bool} (h : RdS w g L t) : ∃ cs, Blk w g cs 75 := by
  obtain ⟨A, c, n, bl, h1, _⟩ := h
  exact ⟨_, h1⟩

theorem RdS.new_set {w : World} {g j i : Nat} {L : List Bool} {t : Bool} {cs : Array Value} (h : RdS w g L t) (hB : Blk w j cs 56) (v : Value) : RdS (w.setCell ⟨j, i, none⟩ v) g L t := by
  refine h.tch (S := fun k => k = j) (tch_set (tch_refl _ _) (.inl rfl)) (fun k cs' ty e hb => ?_)
  subst e
  unfold Blk at hb hB
  rw [hB] at hb
  simp at hb
  rw [← hb.2]
  decide

set_option maxHeartbeats 6400000 in
theorem token_any (g : Nat) (L : List Bool) (w : World) (h : RdS w g L false) : Calls Try.prog 47 #[.pointer (some ⟨g, 0, none⟩)] w (TokPost w g (tokR L)) := by
  have hgl : g < w.heap.size := by
    obtain ⟨cs, hb⟩ := h.isBlk
    exact hb.lt
  have hne : g ≠ w.heap.size := by omega
  have hg0 := gb_alloc (gb_refl w (some g)) (.cells #[.int .u8 0, .int .i64 0, .int .i64 0] 56)
  have hB0 := Blk.new w #[.int .u8 0, .int .i64 0, .int .i64 0] 56
  have hR0 := h.later (gb_alloc (gb_refl w none) (.cells #[.int .u8 0, .int .i64 0, .int .i64 0] 56))
  have h8 : nb 8 = 8 := by decide
  match L with
  | [] =>
    have hb := rbit_any g [] false _ hR0
    go_enter Try.func47, Try.ntmps47
    go_wp2_with fail
    refine hb.mono ?_
    rintro e w1 ⟨rfl, hg1, hR1⟩
    have hR1' : RdS w1 g [] true := hR1
    go_wp2_with fail
    refine (rdbits_any g [] true _ 8 hR1').mono ?_
    rintro e w2 ⟨rfl, hg2, hR2⟩
    have hB2 := (hB0.grown hg1 (by simp; omega)).grown hg2 (by simp; omega)
    have c0 := hB2.cell 0 rfl
    have f0 := hB2.free 0
    have hv : val (([] : List Bool).take (nb 8)) = 0 := by simp [val]
    rw [hv]
    have hR3 := hR2.new_set (i := 0) hB2 (.int .u8 0)
    have hB3 := hB2.set 0 (.int .u8 0)
    have hg3 := gb_new_set (p := ⟨w.heap.size, 0, none⟩) (v := .int .u8 0) (gb_trans hg0 (gb_trans hg1 hg2)) (Nat.le_refl _)
    go_wp2_with fail
    refine (rtorn_any g _ _ _ hR3).mono ?_
    rintro e w9 ⟨rfl, rfl⟩
    have z0 := hB3.free 0
    have z1 := hB3.free 1
    have z2 := hB3.free 2
    have y0 := hB3.cell 0 rfl
    have y1 := hB3.cell 1 rfl
    have y2 := hB3.cell 2 rfl
    have HB := ((hB3.set 0 (.int .u8 0)).set 1 (.int .i64 0)).set 2 (.int .i64 0)
    go_wp2_with fail
    refine bodyPost_ret (res_struct3 rfl HB rfl rfl rfl Try.underlying56 rfl (by kernel_rfl)) rfl ⟨by rfl, ?_, fun t R h => by cases h⟩
    exact gb_new_set (p := ⟨w.heap.size, 2, none⟩) (gb_new_set (p := ⟨w.heap.size, 1, none⟩) (gb_new_set (p := ⟨w.heap.size, 0, none⟩) (hg3) (Nat.le_refl _)) (Nat.le_refl _)) (Nat.le_refl _)
  | false :: M =>
    by_cases hlen : M.length < 8
    · have ht : tokR (false :: M) = none := by rw [tokR_f, if_pos hlen]
      have hd : decide (M.length < 8) = true := by simpa using hlen
      rw [ht]
      clear ht hlen
      have hb := rbit_any g (false :: M) false _ hR0
      have hv256 : val (M.take 8) < 256 := val_take_lt M 8
      go_enter Try.func47, Try.ntmps47
      go_wp2_with fail
      refine hb.mono ?_
      rintro e w1 ⟨rfl, hg1, hR1⟩
      have hR1' : RdS w1 g M false := hR1
      have hbits := rdbits_any g M false _ 8 hR1'
      rw [h8] at hbits
      generalize val (M.take 8) = v at *
      have hmod : (v : Int) % 256 = v := by omega
      have hvl : (v : Int) ≤ 255 := by omega
      go_wp2_with fail
      refine hbits.mono ?_
      rintro e w2 ⟨rfl, hg2, hR2⟩
      rw [Bool.false_or, hd] at hR2
      have hB2 := (hB0.grown hg1 (by simp; omega)).grown hg2 (by simp; omega)
      have c0 := hB2.cell 0 rfl
      have f0 := hB2.free 0
      have hR3 := hR2.new_set (i := 0) hB2 (.int .u8 (v : Int))
      have hB3 := hB2.set 0 (.int .u8 (v : Int))
      have hg3 := gb_new_set (p := ⟨w.heap.size, 0, none⟩) (v := .int .u8 (v : Int)) (gb_trans hg0 (gb_trans hg1 hg2)) (Nat.le_refl _)
      go_wp2_with fail
      refine (rtorn_any g _ _ _ hR3).mono ?_
      rintro e w9 ⟨rfl, rfl⟩
      have z0 := hB3.free 0
      have z1 := hB3.free 1
      have z2 := hB3.free 2
      have y0 := hB3.cell 0 rfl
      have y1 := hB3.cell 1 rfl
      have y2 := hB3.cell 2 rfl
      have HB := ((hB3.set 0 (.int .u8 0)).set 1 (.int .i64 0)).set 2 (.int .i64 0)
      go_wp2_with fail
      refine bodyPost_ret (res_struct3 rfl HB rfl rfl rfl Try.underlying56 rfl (by kernel_rfl)) rfl ⟨by rfl, ?_, fun t R h => by cases h⟩
      exact gb_new_set (p := ⟨w.heap.size, 2, none⟩) (gb_new_set (p := ⟨w.heap.size, 1, none⟩) (gb_new_set (p := ⟨w.heap.size, 0, none⟩) (hg3) (Nat.le_refl _)) (Nat.le_refl _)) (Nat.le_refl _)
    · have ht : tokR (false :: M) = some (some ⟨val (M.take 8), 0, 0⟩, M.drop 8) := by rw [tokR_f, if_neg hlen]
      have hd : decide (M.length < 8) = false := by simpa using hlen
      rw [ht]
      clear ht hlen
      have hb := rbit_any g (false :: M) false _ hR0
      have hv256 : val (M.take 8) < 256 := val_take_lt M 8
      go_enter Try.func47, Try.ntmps47
      go_wp2_with fail
      refine hb.mono ?_
      rintro e w1 ⟨rfl, hg1, hR1⟩
      have hR1' : RdS w1 g M false := hR1
      have hbits := rdbits_any g M false _ 8 hR1'
      rw [h8] at hbits
      generalize val (M.take 8) = v at *
      have hmod : (v : Int) % 256 = v := by omega
      have hvl : (v : Int) ≤ 255 := by omega
      go_wp2_with fail
      refine hbits.mono ?_
      rintro e w2 ⟨rfl, hg2, hR2⟩
      rw [Bool.false_or, hd] at hR2
      have hB2 := (hB0.grown hg1 (by simp; omega)).grown hg2 (by simp; omega)
      have c0 := hB2.cell 0 rfl
      have f0 := hB2.free 0
      have hR3 := hR2.new_set (i := 0) hB2 (.int .u8 (v : Int))
      have hB3 := hB2.set 0 (.int .u8 (v : Int))
      have hg3 := gb_new_set (p := ⟨w.heap.size, 0, none⟩) (v := .int .u8 (v : Int)) (gb_trans hg0 (gb_trans hg1 hg2)) (Nat.le_refl _)
      go_wp2_with fail
      refine (rtorn_any g _ _ _ hR3).mono ?_
      rintro e w9 ⟨rfl, rfl⟩
      have z0 := hB3.free 0
      have z1 := hB3.free 1
      have z2 := hB3.free 2
      have y0 := hB3.cell 0 rfl
      have y1 := hB3.cell 1 rfl
      have y2 := hB3.cell 2 rfl
      have HB := ((hB3.set 0 (.int .u8 (v : Int))).set 1 (.int .i64 0)).set 2 (.int .i64 0)
      have hR4 := ((hR3.new_set (i := 0) hB3 (.int .u8 (v : Int))).new_set (i := 1) (hB3.set 0 (.int .u8 (v : Int))) (.int .i64 0)).new_set (i := 2) ((hB3.set 0 (.int .u8 (v : Int))).set 1 (.int .i64 0)) (.int .i64 0)
      go_wp2_with fail
      refine bodyPost_ret (res_struct3 rfl HB rfl rfl rfl Try.underlying56 rfl (by kernel_rfl)) rfl ⟨by rfl, ?_, fun t R h => by
        simp only [Option.some.injEq, Prod.mk.injEq] at h
        rw [← h.2]
        exact hR4⟩
      exact gb_new_set (p := ⟨w.heap.size, 2, none⟩) (gb_new_set (p := ⟨w.heap.size, 1, none⟩) (gb_new_set (p := ⟨w.heap.size, 0, none⟩) (hg3) (Nat.le_refl _)) (Nat.le_refl _)) (Nat.le_refl _)
  | true :: M =>
    have htr := tokR_t M
    have htn := gamS_torn M false
    rcases hr : gamS M false with ⟨fv, R1, t1⟩
    rw [hr] at htr htn
    dsimp only at htr htn
    cases t1
    · clear htn
      rw [if_neg (by decide)] at htr
      by_cases h97 : fv = 4097
      · rw [if_pos h97] at htr
        subst h97
        rw [htr]
        clear htr
        have hb := rbit_any g (true :: M) false _ hR0
        have hgm := fun (W : World) (h : RdS W g M false) => rdgamma_any g M false W h
        go_enter Try.func47, Try.ntmps47
        go_wp2_with fail
        refine hb.mono ?_
        rintro e w1 ⟨rfl, hg1, hR1⟩
        have hR1' : RdS w1 g M false := hR1
        have hgm1 := hgm _ hR1'
        rw [hr] at hgm1
        dsimp only at hgm1
        go_wp2_with fail
        refine hgm1.mono ?_
        rintro e w2 ⟨rfl, hg2, hR2⟩
        have hB2 := (hB0.grown hg1 (by simp; omega)).grown hg2 (by simp; omega)
        have hg3 := gb_trans hg0 (gb_trans hg1 hg2)
        go_wp2_with fail
        refine (rtorn_any g _ _ _ hR2).mono ?_
        rintro e w9 ⟨rfl, rfl⟩
        have z0 := hB2.free 0
        have z1 := hB2.free 1
        have z2 := hB2.free 2
        have y0 := hB2.cell 0 rfl
        have y1 := hB2.cell 1 rfl
        have y2 := hB2.cell 2 rfl
        have HB := ((hB2.set 0 (.int .u8 0)).set 1 (.int .i64 0)).set 2 (.int .i64 0)
        have hR4 := ((hR2.new_set (i := 0) hB2 (.int .u8 0)).new_set (i := 1) (hB2.set 0 (.int .u8 0)) (.int .i64 0)).new_set (i := 2) ((hB2.set 0 (.int .u8 0)).set 1 (.int .i64 0)) (.int .i64 0)
        go_wp2_with fail
        refine bodyPost_ret (res_struct3 rfl HB rfl rfl rfl Try.underlying56 rfl (by kernel_rfl)) rfl ⟨by rfl, ?_, fun t R h => by
          simp only [Option.some.injEq, Prod.mk.injEq] at h
          rw [← h.2]
          exact hR4⟩
        exact gb_new_set (p := ⟨w.heap.size, 2, none⟩) (gb_new_set (p := ⟨w.heap.size, 1, none⟩) (gb_new_set (p := ⟨w.heap.size, 0, none⟩) (hg3) (Nat.le_refl _)) (Nat.le_refl _)) (Nat.le_refl _)
      · rw [if_neg h97] at htr
        have b97 : ((fv : Int) == 4097) = false := by simp; omega
        have htn2 := gamS_torn R1 false
        rcases hq : gamS R1 false with ⟨qv, R2, t2⟩
        rw [hq] at htr htn2
        dsimp only at htr htn2
        by_cases hfar : 4096 < fv
        · rw [if_pos (.inr (.inl hfar))] at htr
          rw [htr]
          have bfar : (4096 : Int) < (fv : Int) := by omega
          clear htr htn2 h97
          have hb := rbit_any g (true :: M) false _ hR0
          have hgm := fun (W : World) (h : RdS W g M false) => rdgamma_any g M false W h
          go_enter Try.func47, Try.ntmps47
          go_wp2_with fail
          refine hb.mono ?_
          rintro e w1 ⟨rfl, hg1, hR1⟩
          have hR1' : RdS w1 g M false := hR1
          have hgm1 := hgm _ hR1'
          rw [hr] at hgm1
          dsimp only at hgm1
          go_wp2_with fail
          refine hgm1.mono ?_
          rintro e w2 ⟨rfl, hg2, hR2⟩
          have hB2 := (hB0.grown hg1 (by simp; omega)).grown hg2 (by simp; omega)
          have hg3 := gb_trans hg0 (gb_trans hg1 hg2)
          go_wp2_with fail
          have hgm2 := rdgamma_any g R1 false w2 hR2
          rw [hq] at hgm2
          dsimp only at hgm2
          refine hgm2.mono ?_
          rintro e w3 ⟨rfl, hg4, hR4⟩
          have hB4 := hB2.grown hg4 (by simp; omega)
          have hg5 := gb_trans hg3 hg4
          have z0 := hB4.free 0
          have z1 := hB4.free 1
          have z2 := hB4.free 2
          have y0 := hB4.cell 0 rfl
          have y1 := hB4.cell 1 rfl
          have y2 := hB4.cell 2 rfl
          have HB := ((hB4.set 0 (.int .u8 0)).set 1 (.int .i64 0)).set 2 (.int .i64 0)
          go_wp2_with fail
          refine bodyPost_ret (res_struct3 rfl HB rfl rfl rfl Try.underlying56 rfl (by kernel_rfl)) rfl ⟨by rfl, ?_, fun t R h => by cases h⟩
          exact gb_new_set (p := ⟨w.heap.size, 2, none⟩) (gb_new_set (p := ⟨w.heap.size, 1, none⟩) (gb_new_set (p := ⟨w.heap.size, 0, none⟩) (hg5) (Nat.le_refl _)) (Nat.le_refl _)) (Nat.le_refl _)
        · have bfar : ¬ ((4096 : Int) < (fv : Int)) := by omega
          by_cases hlong : 1022 < qv
          · rw [if_pos (.inr (.inr hlong))] at htr
            rw [htr]
            have blong : (1022 : Int) < (qv : Int) := by omega
            clear htr htn2 h97
            have hb := rbit_any g (true :: M) false _ hR0
            have hgm := fun (W : World) (h : RdS W g M false) => rdgamma_any g M false W h
            go_enter Try.func47, Try.ntmps47
            go_wp2_with fail
            refine hb.mono ?_
            rintro e w1 ⟨rfl, hg1, hR1⟩
            have hR1' : RdS w1 g M false := hR1
            have hgm1 := hgm _ hR1'
            rw [hr] at hgm1
            dsimp only at hgm1
            go_wp2_with fail
            refine hgm1.mono ?_
            rintro e w2 ⟨rfl, hg2, hR2⟩
            have hB2 := (hB0.grown hg1 (by simp; omega)).grown hg2 (by simp; omega)
            have hg3 := gb_trans hg0 (gb_trans hg1 hg2)
            go_wp2_with fail
            have hgm2 := rdgamma_any g R1 false w2 hR2
            rw [hq] at hgm2
            dsimp only at hgm2
            refine hgm2.mono ?_
            rintro e w3 ⟨rfl, hg4, hR4⟩
            have hB4 := hB2.grown hg4 (by simp; omega)
            have hg5 := gb_trans hg3 hg4
            have z0 := hB4.free 0
            have z1 := hB4.free 1
            have z2 := hB4.free 2
            have y0 := hB4.cell 0 rfl
            have y1 := hB4.cell 1 rfl
            have y2 := hB4.cell 2 rfl
            have HB := ((hB4.set 0 (.int .u8 0)).set 1 (.int .i64 0)).set 2 (.int .i64 0)
            go_wp2_with fail
            refine bodyPost_ret (res_struct3 rfl HB rfl rfl rfl Try.underlying56 rfl (by kernel_rfl)) rfl ⟨by rfl, ?_, fun t R h => by cases h⟩
            exact gb_new_set (p := ⟨w.heap.size, 2, none⟩) (gb_new_set (p := ⟨w.heap.size, 1, none⟩) (gb_new_set (p := ⟨w.heap.size, 0, none⟩) (hg5) (Nat.le_refl _)) (Nat.le_refl _)) (Nat.le_refl _)
          · have blong : ¬ ((1022 : Int) < (qv : Int)) := by omega
            have bf2 : (fv : Int) ≤ 4096 := by omega
            have bq2 : (qv : Int) ≤ 1022 := by omega
            cases t2
            · rw [if_neg (by simp; omega)] at htr
              rw [htr]
              clear htr htn2 h97
              have hb := rbit_any g (true :: M) false _ hR0
              have hgm := fun (W : World) (h : RdS W g M false) => rdgamma_any g M false W h
              go_enter Try.func47, Try.ntmps47
              go_wp2_with fail
              refine hb.mono ?_
              rintro e w1 ⟨rfl, hg1, hR1⟩
              have hR1' : RdS w1 g M false := hR1
              have hgm1 := hgm _ hR1'
              rw [hr] at hgm1
              dsimp only at hgm1
              go_wp2_with fail
              refine hgm1.mono ?_
              rintro e w2 ⟨rfl, hg2, hR2⟩
              have hB2 := (hB0.grown hg1 (by simp; omega)).grown hg2 (by simp; omega)
              have hg3 := gb_trans hg0 (gb_trans hg1 hg2)
              go_wp2_with fail
              have hgm2 := rdgamma_any g R1 false w2 hR2
              rw [hq] at hgm2
              dsimp only at hgm2
              refine hgm2.mono ?_
              rintro e w3 ⟨rfl, hg4, hR4⟩
              have hB4 := hB2.grown hg4 (by simp; omega)
              have hg5 := gb_trans hg3 hg4
              have c1 := hB4.cell 1 rfl
              have c2 := hB4.cell 2 rfl
              have f1 := hB4.free 1
              have f2 := hB4.free 2
              have hB5 := (hB4.set 1 (.int .i64 (fv : Int))).set 2 (.int .i64 ((qv : Int) + 2))
              have hR5 := (hR4.new_set (i := 1) hB4 (.int .i64 (fv : Int))).new_set (i := 2) (hB4.set 1 (.int .i64 (fv : Int))) (.int .i64 ((qv : Int) + 2))
              have hg6 := gb_new_set (p := ⟨w.heap.size, 2, none⟩) (v := .int .i64 ((qv : Int) + 2)) (gb_new_set (p := ⟨w.heap.size, 1, none⟩) (v := .int .i64 (fv : Int)) hg5 (Nat.le_refl _)) (Nat.le_refl _)
              have hq3 : (qv : Int) + 3 - 1 = (qv : Int) + 2 := by omega
              go_wp2_with fail
              refine (rtorn_any g _ _ _ hR5).mono ?_
              rintro e w9 ⟨rfl, rfl⟩
              have z0 := hB5.free 0
              have z1 := hB5.free 1
              have z2 := hB5.free 2
              have y0 := hB5.cell 0 rfl
              have y1 := hB5.cell 1 rfl
              have y2 := hB5.cell 2 rfl
              have HB := ((hB5.set 0 (.int .u8 0)).set 1 (.int .i64 (fv : Int))).set 2 (.int .i64 ((qv : Int) + 2))
              have hR6 := ((hR5.new_set (i := 0) hB5 (.int .u8 0)).new_set (i := 1) (hB5.set 0 (.int .u8 0)) (.int .i64 (fv : Int))).new_set (i := 2) ((hB5.set 0 (.int .u8 0)).set 1 (.int .i64 (fv : Int))) (.int .i64 ((qv : Int) + 2))
              go_wp2_with fail
              refine bodyPost_ret (res_struct3 rfl HB rfl rfl rfl Try.underlying56 rfl (by kernel_rfl)) rfl ⟨by rfl, ?_, fun t R h => by
                simp only [Option.some.injEq, Prod.mk.injEq] at h
                rw [← h.2]
                exact hR6⟩
              exact gb_new_set (p := ⟨w.heap.size, 2, none⟩) (gb_new_set (p := ⟨w.heap.size, 1, none⟩) (gb_new_set (p := ⟨w.heap.size, 0, none⟩) (hg6) (Nat.le_refl _)) (Nat.le_refl _)) (Nat.le_refl _)
            · rw [if_pos (.inl rfl)] at htr
              rw [htr]
              clear htr htn2 h97
              have hb := rbit_any g (true :: M) false _ hR0
              have hgm := fun (W : World) (h : RdS W g M false) => rdgamma_any g M false W h
              go_enter Try.func47, Try.ntmps47
              go_wp2_with fail
              refine hb.mono ?_
              rintro e w1 ⟨rfl, hg1, hR1⟩
              have hR1' : RdS w1 g M false := hR1
              have hgm1 := hgm _ hR1'
              rw [hr] at hgm1
              dsimp only at hgm1
              go_wp2_with fail
              refine hgm1.mono ?_
              rintro e w2 ⟨rfl, hg2, hR2⟩
              have hB2 := (hB0.grown hg1 (by simp; omega)).grown hg2 (by simp; omega)
              have hg3 := gb_trans hg0 (gb_trans hg1 hg2)
              go_wp2_with fail
              have hgm2 := rdgamma_any g R1 false w2 hR2
              rw [hq] at hgm2
              dsimp only at hgm2
              refine hgm2.mono ?_
              rintro e w3 ⟨rfl, hg4, hR4⟩
              have hB4 := hB2.grown hg4 (by simp; omega)
              have hg5 := gb_trans hg3 hg4
              have c1 := hB4.cell 1 rfl
              have c2 := hB4.cell 2 rfl
              have f1 := hB4.free 1
              have f2 := hB4.free 2
              have hB5 := (hB4.set 1 (.int .i64 (fv : Int))).set 2 (.int .i64 ((qv : Int) + 2))
              have hR5 := (hR4.new_set (i := 1) hB4 (.int .i64 (fv : Int))).new_set (i := 2) (hB4.set 1 (.int .i64 (fv : Int))) (.int .i64 ((qv : Int) + 2))
              have hg6 := gb_new_set (p := ⟨w.heap.size, 2, none⟩) (v := .int .i64 ((qv : Int) + 2)) (gb_new_set (p := ⟨w.heap.size, 1, none⟩) (v := .int .i64 (fv : Int)) hg5 (Nat.le_refl _)) (Nat.le_refl _)
              have hq3 : (qv : Int) + 3 - 1 = (qv : Int) + 2 := by omega
              go_wp2_with fail
              refine (rtorn_any g _ _ _ hR5).mono ?_
              rintro e w9 ⟨rfl, rfl⟩
              have z0 := hB5.free 0
              have z1 := hB5.free 1
              have z2 := hB5.free 2
              have y0 := hB5.cell 0 rfl
              have y1 := hB5.cell 1 rfl
              have y2 := hB5.cell 2 rfl
              have HB := ((hB5.set 0 (.int .u8 0)).set 1 (.int .i64 0)).set 2 (.int .i64 0)
              go_wp2_with fail
              refine bodyPost_ret (res_struct3 rfl HB rfl rfl rfl Try.underlying56 rfl (by kernel_rfl)) rfl ⟨by rfl, ?_, fun t R h => by cases h⟩
              exact gb_new_set (p := ⟨w.heap.size, 2, none⟩) (gb_new_set (p := ⟨w.heap.size, 1, none⟩) (gb_new_set (p := ⟨w.heap.size, 0, none⟩) (hg6) (Nat.le_refl _)) (Nat.le_refl _)) (Nat.le_refl _)
    · have hf0 := htn rfl
      subst hf0
      rw [if_pos rfl] at htr
      rw [htr]
      clear htr htn
      have hb := rbit_any g (true :: M) false _ hR0
      have hgm := fun (W : World) (h : RdS W g M false) => rdgamma_any g M false W h
      go_enter Try.func47, Try.ntmps47
      go_wp2_with fail
      refine hb.mono ?_
      rintro e w1 ⟨rfl, hg1, hR1⟩
      have hR1' : RdS w1 g M false := hR1
      have hgm1 := hgm _ hR1'
      rw [hr] at hgm1
      dsimp only at hgm1
      go_wp2_with fail
      refine hgm1.mono ?_
      rintro e w2 ⟨rfl, hg2, hR2⟩
      have hB2 := (hB0.grown hg1 (by simp; omega)).grown hg2 (by simp; omega)
      have hg3 := gb_trans hg0 (gb_trans hg1 hg2)
      go_wp2_with fail
      have hgm2 := rdgamma_any g R1 true w2 hR2
      have hgt : gamS R1 true = (0, R1, true) := by unfold gamS; rw [if_pos rfl]
      rw [hgt] at hgm2
      dsimp only at hgm2
      refine hgm2.mono ?_
      rintro e w3 ⟨rfl, hg4, hR4⟩
      have hB4 := hB2.grown hg4 (by simp; omega)
      have c1 := hB4.cell 1 rfl
      have c2 := hB4.cell 2 rfl
      have f1 := hB4.free 1
      have f2 := hB4.free 2
      have hB5 := (hB4.set 1 (.int .i64 0)).set 2 (.int .i64 2)
      have hR5 := (hR4.new_set (i := 1) hB4 (.int .i64 0)).new_set (i := 2) (hB4.set 1 (.int .i64 0)) (.int .i64 2)
      have hg5 := gb_new_set (p := ⟨w.heap.size, 2, none⟩) (v := .int .i64 2) (gb_new_set (p := ⟨w.heap.size, 1, none⟩) (v := .int .i64 0) (gb_trans hg3 hg4) (Nat.le_refl _)) (Nat.le_refl _)
      go_wp2_with fail
      refine (rtorn_any g _ _ _ hR5).mono ?_
      rintro e w9 ⟨rfl, rfl⟩
      have z0 := hB5.free 0
      have z1 := hB5.free 1
      have z2 := hB5.free 2
      have y0 := hB5.cell 0 rfl
      have y1 := hB5.cell 1 rfl
      have y2 := hB5.cell 2 rfl
      have HB := ((hB5.set 0 (.int .u8 0)).set 1 (.int .i64 0)).set 2 (.int .i64 0)
      go_wp2_with fail
      refine bodyPost_ret (res_struct3 rfl HB rfl rfl rfl Try.underlying56 rfl (by kernel_rfl)) rfl ⟨by rfl, ?_, fun t R h => by cases h⟩
      exact gb_new_set (p := ⟨w.heap.size, 2, none⟩) (gb_new_set (p := ⟨w.heap.size, 1, none⟩) (gb_new_set (p := ⟨w.heap.size, 0, none⟩) (hg5) (Nat.le_refl _)) (Nat.le_refl _)) (Nat.le_refl _)
end Go.Proofs.Ytlohplopomfjhaa
