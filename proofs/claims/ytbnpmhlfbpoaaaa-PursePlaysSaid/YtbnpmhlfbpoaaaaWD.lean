/- The walk of the law PurseWaits. -/
import Derived.Test.YtbnpmhlfbpoaaaaWB
import Derived.Test.YtbnpmhlfbpoaaaaWC
import Derived.Test.YtbnpmhlfbpoaaaaPost
namespace Go.Proofs.Ytbnpmhlfbpoaaaa
set_option linter.unusedVariables false
set_option linter.unusedSimpArgs false
open Go.RowKit Go.Own Go.Proofs.Ytbnpmhlfbpoaaaa.PPursePlays

theorem U_of {x : Int} (h0 : 0 ≤ x) (h1 : x ≤ 18446744073709551615) : U x := ⟨h0, h1⟩

set_option maxHeartbeats 400000 in
theorem awake_any (w : World) : Calls Try.prog 6 #[] w fun e w' => e = .returned (.bool true) ∧ w.grownBy w' none := by
  go_enter Try.func6, Try.ntmps6
  go_wp2_with fail
  refine (new_yes 2 5 _ (by omega) (by omega)).mono ?_
  rintro e w1 ⟨rfl, hP1, hg1⟩
  go_wp2_with fail
  refine (spend_yes _ _ _ _ _ _ _ hP1 (by omega) (by omega) (U_of (by omega) (by omega)) (U_of (by omega) (by omega))).mono ?_
  rintro e w2 ⟨rfl, hP2, hg2⟩
  go_wp2_with fail
  refine (wait_any _ _ _ _ _ _ _ hP2 (by omega) (by omega) (by omega)).mono ?_
  rintro e w3 ⟨rfl, hg3⟩
  have hn : waitN 2 5 (5 - 5) 3 = 2 := by decide
  have hb : waitB 2 5 (5 - 5) 3 = true := by decide
  rw [hn, hb]
  go_wp2
  go_ret
  refine ⟨rfl, gb_below ?_⟩
  have b1 := below_gb hg1
  have b2 := below_step b1 b1.size hg2 (Nat.le_refl _)
  exact below_step0 b2 b2.size hg3

/-- What is left, and what is spent, behind a try to spend. -/
def lvl (level n : Int) : Int := if level < n then level else level - n
def spt (level spent n : Int) : Int := if level < n then spent else sat (spent + n)

theorem spend_any (g : Nat) (rate burst level spent n : Int) (w : World) (hP : IsPurse w g rate burst level spent) (n0 : 0 ≤ n) (hl : U level) (hs : U spent) :
    Calls Try.prog 8 #[.pointer (some ⟨g, 0, none⟩), .int .u64 n] w fun e w' =>
      e = .returned (.bool (decide (n ≤ level))) ∧ IsPurse w' g rate burst (lvl level n) (spt level spent n) ∧ w.grownBy w' (some g) := by
  by_cases h : level < n
  · refine (spend_no _ _ _ _ _ _ _ hP h).mono ?_
    rintro e w' ⟨rfl, rfl⟩
    refine ⟨ret_bool (by simp; omega), ?_, gb_refl _ _⟩
    rw [lvl, spt, if_pos h, if_pos h]
    exact hP
  · refine (spend_yes _ _ _ _ _ _ _ hP (by omega) n0 hl hs).mono ?_
    rintro e w' ⟨rfl, h1, h2⟩
    refine ⟨ret_bool (by simp; omega), ?_, h2⟩
    rw [lvl, spt, if_neg h, if_neg h]
    exact h1

theorem rspend_any (rate burst level spent n : Int) (w : World) (hl : U level) (hs : U spent) (hn : U n) :
    Calls Try.prog 9 #[.agg #[.int .u64 rate, .int .u64 burst, .int .u64 level, .int .u64 spent], .int .u64 n] w fun e w' =>
      e = .returned (.tuple #[.agg #[.int .u64 rate, .int .u64 burst, .int .u64 (lvl level n), .int .u64 (spt level spent n)], .bool (decide (n ≤ level))]) ∧ w.grownBy w' none := by
  refine (coldframeref18_Spend.calls rate burst level spent n rate burst (lvl level n) (spt level spent n) (decide (n ≤ level)) w ?_).mono ?_
  · rw [Wide.spend_eq _ _ _ _ _ hl hs hn]
    unfold lvl spt
    by_cases h : level < n
    · rw [if_pos h, if_pos h, if_pos h, decide_eq_false (by omega)]
    · rw [if_neg h, if_neg h, if_neg h, decide_eq_true (by omega)]
  · rintro e w' ⟨rfl, h⟩
    exact ⟨rfl, gb_below h⟩

theorem rtick_any (rate burst level spent n : Int) (w : World) (hr : U rate) (hb : U burst) (hl : U level) (hn : U n) :
    Calls Try.prog 11 #[.agg #[.int .u64 rate, .int .u64 burst, .int .u64 level, .int .u64 spent], .int .u64 n] w fun e w' =>
      e = .returned (.agg #[.int .u64 rate, .int .u64 burst, .int .u64 (min burst (level + rate * n)), .int .u64 spent]) ∧ w.grownBy w' none := by
  refine (coldframeref18_Tick.calls 65 rate burst level spent n rate burst (min burst (level + rate * n)) spent w (Wide.tick_eq _ _ _ _ _ hr hb hl hn)).mono ?_
  rintro e w' ⟨rfl, h⟩
  exact ⟨rfl, gb_below h⟩

theorem field29 (a b c d : Int) (w : World) : (Instr.field 29 (.agg #[.int .u64 a, .int .u64 b, .int .u64 c, .int .u64 d]) 2).run Try.prog w = .ok (.int .u64 c) w := by kernel_rfl

set_option maxHeartbeats 1600000 in
theorem waits_any (rate burst spend n : Int) (hr : U rate) (hb : U burst) (hs : U spend) (hn : U n) (w : World) :
    Calls Try.prog 3 #[.int .u64 rate, .int .u64 burst, .int .u64 spend, .int .u64 n] w fun e w' => e = .returned (.bool true) ∧ w.grownBy w' none := by
  by_cases hbig : 1152921504606846976 < rate ∨ 1152921504606846976 < burst
  · by_cases h1 : 1152921504606846976 < rate
    · clear hbig
      go_enter Try.func3, Try.ntmps3
      go_wp2_with fail
      refine (awake_any _).mono ?_
      rintro e w1 ⟨rfl, hg1⟩
      go_wp2_with fail
      refine (awake_any _).mono ?_
      rintro e w2 ⟨rfl, hg2⟩
      go_wp2_with fail
      go_ret
      exact ⟨rfl, gb_trans hg1 hg2⟩
    · have h2 : 1152921504606846976 < burst := by omega
      clear hbig
      go_enter Try.func3, Try.ntmps3
      go_wp2_with fail
      refine (awake_any _).mono ?_
      rintro e w1 ⟨rfl, hg1⟩
      go_wp2_with fail
      refine (awake_any _).mono ?_
      rintro e w2 ⟨rfl, hg2⟩
      go_wp2_with fail
      go_ret
      exact ⟨rfl, gb_trans hg1 hg2⟩
  · have h1 : rate ≤ 1152921504606846976 := by omega
    have h2 : burst ≤ 1152921504606846976 := by omega
    clear hbig
    go_enter Try.func3, Try.ntmps3
    go_wp2_with fail
    refine (awake_any _).mono ?_
    rintro e w1 ⟨rfl, hg1⟩
    go_wp2_with fail
    refine (new_yes _ _ _ h1 h2).mono ?_
    rintro e w2 ⟨rfl, hP2, hg2⟩
    go_wp2_with fail
    have hne : w2.heap.size ≠ w1.heap.size := by have := hP2.lt; omega
    have U0 : U 0 := U_of (by omega) (by omega)
    refine (spend_any _ _ _ _ _ _ _ (hP2.alloc _) hs.1 hb U0).mono ?_
    rintro e w3 ⟨rfl, hP3, hg3⟩
    have hB3 : Blk w3 w2.heap.size #[.int .u64 rate, .int .u64 burst, .int .u64 burst, .int .u64 0] 29 := (Blk.new w2 _ _).grown hg3 (by simpa using hne)
    have c0 := hB3.cell 0 rfl
    have c1 := hB3.cell 1 rfl
    have c2 := hB3.cell 2 rfl
    have c3 := hB3.cell 3 rfl
    go_wp2_with fail
    clear c0 c1 c2 c3
    refine (rspend_any _ _ _ _ _ _ hb U0 hs).mono ?_
    rintro e w4 ⟨rfl, hg4⟩
    have hB4 := hB3.grown hg4 (by simp)
    have hP4 : IsPurse w4 w1.heap.size rate burst _ _ := hP3.grown hg4 (by simp)
    have hL : lvl burst spend ≤ burst := by have := hs.1; unfold lvl; split <;> omega
    have hL0 : 0 ≤ lvl burst spend := by have := hb.1; unfold lvl; split <;> omega
    generalize lvl burst spend = L at *
    generalize spt burst 0 spend = S at *
    have c0 := hB4.cell 0 rfl
    have c1 := hB4.cell 1 rfl
    have c2 := hB4.cell 2 rfl
    have c3 := hB4.cell 3 rfl
    have f0 := hB4.free 0
    have f1 := hB4.free 1
    have f2 := hB4.free 2
    have f3 := hB4.free 3
    go_wp2_with fail
    clear c0 c1 c2 c3 f0 f1 f2 f3
    have hB5 := (((hB4.set 0 (.int .u64 rate)).set 1 (.int .u64 burst)).set 2 (.int .u64 L)).set 3 (.int .u64 S)
    have hP5 : IsPurse _ w1.heap.size rate burst L S := (((hP4.other (i := 0) (v := .int .u64 rate) hne.symm).other (i := 1) (v := .int .u64 burst) hne.symm).other (i := 2) (v := .int .u64 L) hne.symm).other (i := 3) (v := .int .u64 S) hne.symm
    have hb1 := below_gb hg1
    have hb2 := below_step0 hb1 hb1.size hg2
    have hb3 := below_step (hb2.alloc hb2.size (.cells #[.int .u64 rate, .int .u64 burst, .int .u64 burst, .int .u64 0] 29)) (by simp; have := hb2.size; omega) hg3 hb1.size
    have hb4 := below_step0 hb3 hb3.size hg4
    have hb5 := (((hb4.setCell (p := ⟨w2.heap.size, 0, none⟩) hb2.size (.int .u64 rate)).setCell (p := ⟨w2.heap.size, 1, none⟩) hb2.size (.int .u64 burst)).setCell (p := ⟨w2.heap.size, 2, none⟩) hb2.size (.int .u64 L)).setCell (p := ⟨w2.heap.size, 3, none⟩) hb2.size (.int .u64 S)
    refine (wait_any _ _ _ _ _ _ _ hP5 hr.1 hL0 (by omega)).mono ?_
    rintro e w6 ⟨rfl, hg6⟩
    have hB6 : Blk w6 w2.heap.size #[.int .u64 rate, .int .u64 burst, .int .u64 L, .int .u64 S] 29 := hB5.grown hg6 (by simp)
    have hb6 := below_step0 hb5 hb5.size hg6
    generalize w2.heap.size = b at *
    clear hg6 hP5 hB5 hb5 hb4 hb3 hb2 hb1 hP4 hB4 hg4 hP3 hB3 hg3 hg2 hP2 hg1 hne
    have c0 := hB6.cell 0 rfl
    have c1 := hB6.cell 1 rfl
    have c2 := hB6.cell 2 rfl
    have c3 := hB6.cell 3 rfl
    by_cases a1 : burst < n
    · rw [waitN, if_pos a1, waitB, if_pos a1]
      go_wp2_with fail
      refine (awake_any _).mono ?_
      rintro e w7 ⟨rfl, hg7⟩
      go_wp2_with fail
      go_ret
      exact ⟨rfl, gb_below (below_step0 hb6 hb6.size hg7)⟩
    have hfd := field29
    have hLU : U L := U_of hL0 (by have := hb.2; omega)
    by_cases a2 : n ≤ L
    · rw [waitN, if_neg a1, if_pos a2, waitB, if_neg a1, if_pos a2]
      have e0 : min burst (L + rate * 0) = L := by rw [Int.mul_zero]; omega
      have E0 := Lib.hid e0
      clear e0
      have d2 : decide (L < n) = false := by simp; omega
      cases hz : (rate == 0)
      all_goals
        go_wp2_with fail
        refine (rtick_any _ _ _ _ _ _ hr hb hLU U0).mono ?_
        rintro e w7 ⟨rfl, hg7⟩
        rw [E0.out]
        go_wp2_with fail
        refine (awake_any _).mono ?_
        rintro e w8 ⟨rfl, hg8⟩
        go_wp2_with fail
        go_ret
        exact ⟨rfl, gb_below (below_step0 (below_step0 hb6 hb6.size hg7) (by have := hb6.size; have := hg7.size; omega) hg8)⟩
    have d2 : decide (L < n) = true := by simp; omega
    by_cases a3 : rate = 0
    · rw [waitN, if_neg a1, if_neg a2, if_pos a3, waitB, if_neg a1, if_neg a2, if_pos a3]
      subst a3
      go_wp2_with fail
      refine (awake_any _).mono ?_
      rintro e w7 ⟨rfl, hg7⟩
      go_wp2_with fail
      go_ret
      exact ⟨rfl, gb_below (below_step0 hb6 hb6.size hg7)⟩
    · rw [waitN, if_neg a1, if_neg a2, if_neg a3, waitB, if_neg a1, if_neg a2, if_neg a3]
      have hr0 := hr.1
      have hq0 : 0 ≤ (n - L - 1) / rate := Int.ediv_nonneg (by omega) (by omega)
      have hq1 : (n - L - 1) / rate ≤ n - L - 1 := Int.ediv_le_self _ (by omega)
      have hm1 := Int.emod_add_mul_ediv (n - L - 1) rate
      have hm2 := Int.emod_lt_of_pos (n - L - 1) (show 0 < rate by omega)
      have hm3 := Int.emod_nonneg (n - L - 1) a3
      have hx : rate * ((n - L - 1) / rate + 1) = rate * ((n - L - 1) / rate) + rate := by rw [Int.mul_add, Int.mul_one]
      generalize (n - L - 1) / rate = k at *
      have e1 : ∃ X, min burst (L + rate * (k + 1)) = X ∧ n ≤ X := ⟨_, rfl, by omega⟩
      have e2 : ∃ Y, min burst (L + rate * k) = Y ∧ Y < n := ⟨_, rfl, by omega⟩
      obtain ⟨X, hX, hX1⟩ := e1
      obtain ⟨Y, hY, hY1⟩ := e2
      have HX := Lib.hid hX
      have HY := Lib.hid hY
      clear hX hY hx hm1 hm2 hm3
      have a3' : (rate == 0) = false := by simpa using a3
      have a4 : (k + 1 == 0) = false := by simp; omega
      go_wp2_with fail
      refine (rtick_any _ _ _ _ _ _ hr hb hLU (U_of (by omega) (by omega))).mono ?_
      rintro e w7 ⟨rfl, hg7⟩
      rw [HX.out]
      have hB7 : Blk w7 b #[.int .u64 rate, .int .u64 burst, .int .u64 L, .int .u64 S] 29 := hB6.grown hg7 (by simp)
      have hb7 := below_step0 hb6 hb6.size hg7
      clear c0 c1 c2 c3
      have c0 := hB7.cell 0 rfl
      have c1 := hB7.cell 1 rfl
      have c2 := hB7.cell 2 rfl
      have c3 := hB7.cell 3 rfl
      go_wp2_with fail
      refine (rtick_any _ _ _ _ _ _ hr hb hLU (U_of (by omega) (by omega))).mono ?_
      rintro e w8 ⟨rfl, hg8⟩
      rw [HY.out]
      have hb8 := below_step0 hb7 hb7.size hg8
      go_wp2_with fail
      refine (awake_any _).mono ?_
      rintro e w9 ⟨rfl, hg9⟩
      have hb9 := below_step0 hb8 hb8.size hg9
      go_wp2_with fail
      go_ret
      exact ⟨rfl, gb_below hb9⟩
theorem u64_U {x : Int} (h : (Lit.int .u64 x).wf = true) : U x := by
  have := bounds_u64 h
  exact U_of (by omega) (by omega)

section
open Go.ChangeShapes Go.WideShapes Go.ChangeAt
variable {H : Type} {enc : TypeId × Value → H}
theorem waits_main {base : Nat} {v0 v1 v2 v3 : Value} {d0 d1 d2 d3 : DataW H} {p0 p1 p2 p3 : List MemPlace} (W : World)
    (k0 : Value.okWide Try.prog W .any base 22 v0) (h0 : DataW.Trod enc Try.prog W 0 (fun _ => true) true 22 v0 d0 p0)
    (k1 : Value.okWide Try.prog W .any base 22 v1) (h1 : DataW.Trod enc Try.prog W 0 (fun _ => true) true 22 v1 d1 p1)
    (k2 : Value.okWide Try.prog W .any base 22 v2) (h2 : DataW.Trod enc Try.prog W 0 (fun _ => true) true 22 v2 d2 p2)
    (k3 : Value.okWide Try.prog W .any base 22 v3) (h3 : DataW.Trod enc Try.prog W 0 (fun _ => true) true 22 v3 d3 p3) :
    Calls Try.prog 3 #[v0, v1, v2, v3] W fun e w' => e = .returned (.bool true) ∧ W.grownBy w' none := by
  obtain ⟨a0, rfl, _, _, w0⟩ := open_int Try.underlying22 k0 h0
  obtain ⟨a1, rfl, _, _, w1⟩ := open_int Try.underlying22 k1 h1
  obtain ⟨a2, rfl, _, _, w2⟩ := open_int Try.underlying22 k2 h2
  obtain ⟨a3, rfl, _, _, w3⟩ := open_int Try.underlying22 k3 h3
  exact waits_any _ _ _ _ (u64_U w0) (u64_U w1) (u64_U w2) (u64_U w3) W
end
end Go.Proofs.Ytbnpmhlfbpoaaaa
