/- The walk of the law PursePlays. -/
import Derived.Test.YtbnpmhlfbpoaaaaWH
import Derived.Test.YtbnpmhlfbpoaaaaWF
import Derived.Test.YtbnpmhlfbpoaaaaQTail
namespace Go.Proofs.Ytbnpmhlfbpoaaaa
set_option linter.unusedVariables false
set_option linter.unusedSimpArgs false
open Go.RowKit Go.Own

/-- What holds at the loop's head: both purses are alike. -/
def Alike2 (w0 : World) (g b : Nat) (rate burst level spent : Int) (wr : World) : Prop :=
  U level ∧ level ≤ burst ∧ U spent ∧ IsPurse wr g rate burst level spent ∧ Blk wr b #[.int .u64 rate, .int .u64 burst, .int .u64 level, .int .u64 spent] 29 ∧ Below w0.heap.size w0 wr ∧ w0.heap.size ≤ g ∧ w0.heap.size ≤ b ∧ g ≠ b

theorem bound_same (g : Nat) (rate burst level spent n : Int) (w : World) (hP : IsPurse w g rate burst level spent) (hr : U rate) (hb : U burst) (hn : U n) :
    Calls Try.prog 13 #[.pointer (some ⟨g, 0, none⟩), .int .u64 n] w fun e w' => e = .returned (.int .u64 (sat (burst + rate * n))) ∧ w.grownBy w' none := by
  have e : sat (burst + sat (rate * n)) = sat (burst + rate * n) := by
    have h0 := Int.mul_nonneg hr.1 hn.1
    have h1 := hb.1
    unfold sat; (repeat' split) <;> omega
  have := bound_any g rate burst level spent n w hP hr hb hn
  rw [e] at this
  exact this

set_option maxHeartbeats 3200000 in
set_option maxRecDepth 100000 in
theorem plays_any (rate burst ticks : Int) (hr : U rate) (hb : U burst) (ht : U ticks) (A : Option Addr) (len cap : Nat) (K N : Nat → Int) (w : World) (hA : Acts w A len K N) :
    Calls Try.prog 5 #[.int .u64 rate, .int .u64 burst, .slice A len cap, .int .u64 ticks] w fun e w' => e = .returned (.bool true) ∧ w.grownBy w' none := by
  have hlen := hA.1
  have hr0 := hr.1
  have hb0 := hb.1
  by_cases hbig : 1152921504606846976 < rate ∨ 1152921504606846976 < burst
  · have h12 : decide (1152921504606846976 < rate) = true ∨ decide (1152921504606846976 < rate) = false ∧ decide (1152921504606846976 < burst) = true := by
      simp; omega
    rcases h12 with h1 | ⟨h1, h2⟩
    all_goals
      have HB := Lib.hid hbig
      clear hbig
      go_enter Try.func5, Try.ntmps5
      go_wp2_with fail
      refine (awake_any _).mono ?_
      rintro e w1 ⟨rfl, hg1⟩
      go_wp2_with fail
      refine (new_no _ _ _ HB.out).mono ?_
      rintro e w2 ⟨rfl, rfl⟩
      go_wp2_with (first | (go_at_call 12; refine (tick_nil _ _).mono ?_; rintro e w2 ⟨rfl, rfl⟩) | (go_at_call 14; refine (back_nil _ _).mono ?_; rintro e w2 ⟨rfl, rfl⟩) | (go_at_call 10; refine (wait_nil _ _).mono ?_; rintro e w2 ⟨rfl, rfl⟩) | (go_at_call 15; refine (level_nil _).mono ?_; rintro e w2 ⟨rfl, rfl⟩) | (go_at_call 16; refine (spent_nil _).mono ?_; rintro e w2 ⟨rfl, rfl⟩) | (go_at_call 13; refine (bound_nil _ _).mono ?_; rintro e w2 ⟨rfl, rfl⟩) | (go_at_call 8; refine (spend_nil _ _).mono ?_; rintro e w2 ⟨rfl, rfl⟩) | (go_at_call 6; refine (awake_any _).mono ?_; rintro e w3 ⟨rfl, hg3⟩))
      go_ret
      exact ⟨rfl, gb_trans hg1 hg3⟩
  · have h1 : rate ≤ 1152921504606846976 := by omega
    have h2 : burst ≤ 1152921504606846976 := by omega
    clear hbig
    go_enter Try.func5, Try.ntmps5
    go_wp2_with fail
    refine (awake_any _).mono ?_
    rintro e w1 ⟨rfl, hg1⟩
    go_wp2_with fail
    refine (new_yes _ _ _ h1 h2).mono ?_
    rintro e w2 ⟨rfl, hP2, hg2⟩
    go_wp2_with (first | (go_at_call 12; refine (tick_nil _ _).mono ?_; rintro e w2 ⟨rfl, rfl⟩) | (go_at_call 14; refine (back_nil _ _).mono ?_; rintro e w2 ⟨rfl, rfl⟩) | (go_at_call 10; refine (wait_nil _ _).mono ?_; rintro e w2 ⟨rfl, rfl⟩) | (go_at_call 15; refine (level_nil _).mono ?_; rintro e w2 ⟨rfl, rfl⟩) | (go_at_call 16; refine (spent_nil _).mono ?_; rintro e w2 ⟨rfl, rfl⟩) | (go_at_call 13; refine (bound_nil _ _).mono ?_; rintro e w2 ⟨rfl, rfl⟩) | (go_at_call 8; refine (spend_nil _ _).mono ?_; rintro e w2 ⟨rfl, rfl⟩))
    have hb1 := below_gb hg1
    have hb2 := below_step0 hb1 hb1.size hg2
    have hne : w1.heap.size ≠ w2.heap.size := by have := hP2.lt; omega
    have hg := hb1.size
    have hgb := hb2.size
    have hB2 := Blk.new w2 #[.int .u64 rate, .int .u64 burst, .int .u64 burst, .int .u64 0] 29
    have hP2' : IsPurse _ w1.heap.size rate burst burst 0 := hP2.alloc (.cells #[.int .u64 rate, .int .u64 burst, .int .u64 burst, .int .u64 0] 29)
    have hb3 := hb2.alloc hgb (.cells #[.int .u64 rate, .int .u64 burst, .int .u64 burst, .int .u64 0] 29)
    generalize w1.heap.size = g at *
    generalize w2.heap.size = b at *
    clear hg1 hg2 hb1 hb2 hP2
    go_loopw [15] (fun v15 wr => ∃ (level spent : Int) (k : Nat), v15 = .int .i64 k ∧ k ≤ len ∧ k ≤ 60 ∧ Alike2 w g b rate burst level spent wr)
      (fun v15 _ => len - (intOf v15).toNat)
    case atStart =>
      exact ⟨burst, 0, 0, rfl, Nat.zero_le _, by omega, hb, Int.le_refl _, U_of (by omega) (by omega), hP2', hB2, hb3, hg, hgb, hne⟩
    case round =>
      obtain ⟨level, spent, k, rfl, hk, hk60, hUl, hlb, hUs, hP, hB, hbel, _, _, _⟩ := hrel
      by_cases h1 : k < len
      · by_cases h2 : k < 60
        · obtain ⟨ga, off, rfl, hga, hc⟩ := hA.2 (by omega)
          obtain ⟨ck, cn, hUn⟩ := hc k h1
          have ck' := (hbel.cell (p := ⟨ga, off + k * 2, none⟩) hga).trans ck
          have cn' := (hbel.cell (p := ⟨ga, off + k * 2 + 1, none⟩) hga).trans cn
          clear ck cn hc
          have hUn0 := hUn.1
          have hUn1 := hUn.2
          by_cases hK : K k = 1
          · have hK' : (K k == 1) = true := by simpa using hK
            clear hK
            go_wp2_with fail
            refine (tick_any _ _ _ _ _ _ _ hP hr hUl hUn).mono ?_
            rintro e w3 ⟨rfl, hP3, hg3⟩
            have hm0 : 0 ≤ rate * N k := Int.mul_nonneg hr0 hUn0
            have hl0 := hUl.1
            have el : min burst (sat (level + sat (rate * N k))) = min burst (level + rate * N k) := by
              unfold sat; split <;> split <;> omega
            rw [el] at hP3
            have hU3 : U (min burst (level + rate * N k)) := U_of (by omega) (by have := hb.2; omega)
            clear el
            have cn3 := hg3.cell cn' (by simp; omega)
            have hB3 := hB.grown hg3 (by simp; omega)
            have hb3 := below_step hbel hbel.size hg3 (by omega)
            have hc0 := fun x => (Later.blk hB3 x).cell 0 rfl
            have hc1 := fun x => (Later.blk hB3 x).cell 1 rfl
            have hc2 := fun x => (Later.blk hB3 x).cell 2 rfl
            have hc3 := fun x => (Later.blk hB3 x).cell 3 rfl
            have hf0 := fun x => (Later.blk hB3 x).free 0
            have hf1 := fun x => (Later.blk hB3 x).free 1
            have hf2 := fun x => (Later.blk hB3 x).free 2
            have hf3 := fun x => (Later.blk hB3 x).free 3
            have hcn := fun x => Later.cell cn3 x
            go_wp2_with fail
            refine wp_region_in_tail 7 (Later w3) (by kernel_rfl) (by kernel_rfl) (Later.start _) ?_
            simp only [List.take_succ_cons, List.take_zero, List.drop_succ_cons, List.drop_zero]
            repeat (go_big_quiet_step ((first | rfl | (go_at_call 11; exact later_call _ (rtick_any _ _ _ _ _ _ hr hb hUl hUn)))))
            refine wpQuiet_nil ?_
            rintro _ ⟨x, rfl⟩
            have hBz : Blk _ b #[.int .u64 rate, .int .u64 burst, .int .u64 (min burst (level + rate * N k)), .int .u64 (spent)] 29 := ((((Later.blk hB3 x).set 0 (.int .u64 rate)).set 1 (.int .u64 burst)).set 2 (.int .u64 (min burst (level + rate * N k)))).set 3 (.int .u64 (spent))
            have hPz : IsPurse _ g rate burst (min burst (level + rate * N k)) (spent) := ((((Later.blk hP3 x).other (i := 0) (v := .int .u64 rate) (by assumption)).other (i := 1) (v := .int .u64 burst) (by assumption)).other (i := 2) (v := .int .u64 (min burst (level + rate * N k))) (by assumption)).other (i := 3) (v := .int .u64 (spent)) (by assumption)
            have hbz := ((((below_step0 hb3 hb3.size x.ok).setCell (p := ⟨b, 0, none⟩) (by assumption) (.int .u64 rate)).setCell (p := ⟨b, 1, none⟩) (by assumption) (.int .u64 burst)).setCell (p := ⟨b, 2, none⟩) (by assumption) (.int .u64 (min burst (level + rate * N k)))).setCell (p := ⟨b, 3, none⟩) (by assumption) (.int .u64 (spent))
            go_wp2_with fail
            clear hc0 hc1 hc2 hc3 hf0 hf1 hf2 hf3 hcn
            have hzc2 := hBz.cell 2 rfl
            have hzc3 := hBz.cell 3 rfl
            go_quiet ((first | (go_at_call 15; exact quiet_same (level_any _ _ _ _ _ _ (Blk.drewN hPz _))) | (go_at_call 16; exact quiet_same (spent_any _ _ _ _ _ _ (Blk.drewN hPz _)))))
            go_wp2_with fail
            go_roundw
            case rel => exact ⟨_, _, k + 1, by go_num, by omega, by omega, hU3, by omega, hUs, Blk.drewN hPz _, Blk.drewN hBz _, below_drewN hbz _, by assumption, by assumption, by assumption⟩
            case measure => simp [intOf]; omega
          have hK0 := Lib.hid hK
          have hK' : (K k == 1) = false := by simpa using hK
          clear hK
          by_cases hK2 : K k = 2
          · have hK2' : (K k == 2) = true := by simpa using hK2
            clear hK2
            go_wp2_with fail
            refine (back_any _ _ _ _ _ _ _ hP hUn hUl hb hUs hlb).mono ?_
            rintro e w3 ⟨rfl, hP3, hg3⟩
            have hl0 := hUl.1
            have hs0 := hUs.1
            have hs1 := hUs.2
            have hl1 := hb.2
            have hm0 : 0 ≤ min (N k) (min spent (burst - level)) ∧ min (N k) (min spent (burst - level)) ≤ spent ∧ min (N k) (min spent (burst - level)) ≤ burst - level := by omega
            obtain ⟨hm0, hm1, hm2⟩ := hm0
            have cn3 := hg3.cell cn' (by simp; omega)
            have hB3 := hB.grown hg3 (by simp; omega)
            have hb3 := below_step hbel hbel.size hg3 (by omega)
            have hc0 := fun x => (Later.blk hB3 x).cell 0 rfl
            have hc1 := fun x => (Later.blk hB3 x).cell 1 rfl
            have hc2 := fun x => (Later.blk hB3 x).cell 2 rfl
            have hc3 := fun x => (Later.blk hB3 x).cell 3 rfl
            have hf0 := fun x => (Later.blk hB3 x).free 0
            have hf1 := fun x => (Later.blk hB3 x).free 1
            have hf2 := fun x => (Later.blk hB3 x).free 2
            have hf3 := fun x => (Later.blk hB3 x).free 3
            have hcn := fun x => Later.cell cn3 x
            go_wp2_with fail
            refine wp_region_in_tail 7 (Later w3) (by kernel_rfl) (by kernel_rfl) (Later.start _) ?_
            simp only [List.take_succ_cons, List.take_zero, List.drop_succ_cons, List.drop_zero]
            repeat (go_big_quiet_step ((first | rfl | (go_at_call 17; exact later_call _ (rback_any _ _ _ _ _ _ hUn hUl hb hUs hlb)))))
            refine wpQuiet_nil ?_
            rintro _ ⟨x, rfl⟩
            have hBz : Blk _ b #[.int .u64 rate, .int .u64 burst, .int .u64 (level + min (N k) (min spent (burst - level))), .int .u64 (spent - min (N k) (min spent (burst - level)))] 29 := ((((Later.blk hB3 x).set 0 (.int .u64 rate)).set 1 (.int .u64 burst)).set 2 (.int .u64 (level + min (N k) (min spent (burst - level))))).set 3 (.int .u64 (spent - min (N k) (min spent (burst - level))))
            have hPz : IsPurse _ g rate burst (level + min (N k) (min spent (burst - level))) (spent - min (N k) (min spent (burst - level))) := ((((Later.blk hP3 x).other (i := 0) (v := .int .u64 rate) (by assumption)).other (i := 1) (v := .int .u64 burst) (by assumption)).other (i := 2) (v := .int .u64 (level + min (N k) (min spent (burst - level)))) (by assumption)).other (i := 3) (v := .int .u64 (spent - min (N k) (min spent (burst - level)))) (by assumption)
            have hbz := ((((below_step0 hb3 hb3.size x.ok).setCell (p := ⟨b, 0, none⟩) (by assumption) (.int .u64 rate)).setCell (p := ⟨b, 1, none⟩) (by assumption) (.int .u64 burst)).setCell (p := ⟨b, 2, none⟩) (by assumption) (.int .u64 (level + min (N k) (min spent (burst - level))))).setCell (p := ⟨b, 3, none⟩) (by assumption) (.int .u64 (spent - min (N k) (min spent (burst - level))))
            go_wp2_with fail
            clear hc0 hc1 hc2 hc3 hf0 hf1 hf2 hf3 hcn
            have hzc2 := hBz.cell 2 rfl
            have hzc3 := hBz.cell 3 rfl
            go_quiet ((first | (go_at_call 15; exact quiet_same (level_any _ _ _ _ _ _ (Blk.drewN hPz _))) | (go_at_call 16; exact quiet_same (spent_any _ _ _ _ _ _ (Blk.drewN hPz _)))))
            go_wp2_with fail
            go_roundw
            case rel => exact ⟨_, _, k + 1, by go_num, by omega, by omega, U_of (by omega) (by omega), by omega, U_of (by omega) (by omega), Blk.drewN hPz _, Blk.drewN hBz _, below_drewN hbz _, by assumption, by assumption, by assumption⟩
            case measure => simp [intOf]; omega
          · have hK2' : (K k == 2) = false := by simpa using hK2
            clear hK2
            have c0 := fun w' (h : wr.grownBy w' none) => (hB.grown h (by simp)).cell 0 rfl
            have c1 := fun w' (h : wr.grownBy w' none) => (hB.grown h (by simp)).cell 1 rfl
            have c2 := fun w' (h : wr.grownBy w' none) => (hB.grown h (by simp)).cell 2 rfl
            have c3 := fun w' (h : wr.grownBy w' none) => (hB.grown h (by simp)).cell 3 rfl
            have c4 := fun w' (h : wr.grownBy w' none) => h.cell cn' (by simp)
            go_wp2_with fail
            go_region_held3 (fun w' => wr.grownBy w' none)
              (repeat' (first | assumption | exact gb_refl _ _ | exact Nat.le_refl _ | refine gb_new_set ?_ (Nat.le_refl _) | refine gb_alloc ?_ _ | refine gb_drew ?_ | refine gb_trans ?_ hg3))
              (first | (go_at_call 9; refine (rspend_any _ _ _ _ _ _ hUl hUs hUn).mono ?_; rintro e w3 ⟨rfl, hg3⟩; (try (have hNB : Blk w3 wr.heap.size #[.int .u64 0, .int .u64 0, .int .u64 0, .int .u64 0] 29 := new_after_drew hg3; have k0 := hNB.cell 0 rfl; have k1 := hNB.cell 1 rfl; have k2 := hNB.cell 2 rfl; have k3 := hNB.cell 3 rfl; have q0 := hNB.free 0; have q1 := hNB.free 1; have q2 := hNB.free 2; have q3 := hNB.free 3))))
            · have hq : Blk (w3.alloc (.cells #[.int .u64 rate, .int .u64 burst, .int .u64 (lvl level (N k)), .int .u64 (spt level spent (N k))] 29)) w3.heap.size #[.int .u64 rate, .int .u64 burst, .int .u64 (lvl level (N k)), .int .u64 (spt level spent (N k))] 29 := Blk.new _ _ _
              have hgz := gb_alloc (gb_trans (gb_drew (gb_refl wr none)) hg3) (.cells #[.int .u64 rate, .int .u64 burst, .int .u64 (lvl level (N k)), .int .u64 (spt level spent (N k))] 29)
              have hqb : w3.heap.size ≠ b := by have := hB.lt; have := hg3.size; simp at this; omega
              have hqg : w3.heap.size ≠ g := by have := hP.lt; have := hg3.size; simp at this; omega
              generalize w3.alloc (.cells #[.int .u64 rate, .int .u64 burst, .int .u64 (lvl level (N k)), .int .u64 (spt level spent (N k))] 29) = wz at *
              generalize w3.heap.size = q at *
              clear hg3
              have hBq := hB.grown hgz (by simp)
              have hPq : IsPurse _ g rate burst level spent := Blk.grown hP hgz (by simp)
              have cnq := hgz.cell cn' (by simp)
              have hbq := below_step0 hbel hbel.size hgz
              have hL : lvl level (N k) ≤ burst := by unfold lvl; split <;> omega
              have hL0 : U (lvl level (N k)) := by have h1 := hUl.1; have h2 := hUl.2; unfold lvl U; split <;> omega
              have hS : U (spt level spent (N k)) := by have h1 := hUs.1; have h2 := hUs.2; unfold spt; split; exact hUs; exact sat_U (by omega)
              clear c0 c1 c2 c3 c4
              have z0 := hq.cell 0 rfl
              have z1 := hq.cell 1 rfl
              have z2 := hq.cell 2 rfl
              have z3 := hq.cell 3 rfl
              have y0 := hBq.cell 0 rfl
              have y1 := hBq.cell 1 rfl
              have y2 := hBq.cell 2 rfl
              have y3 := hBq.cell 3 rfl
              have f0 := hBq.free 0
              have f1 := hBq.free 1
              have f2 := hBq.free 2
              have f3 := hBq.free 3
              go_wp2_with fail
              clear z0 z1 z2 z3 y0 y1 y2 y3 f0 f1 f2 f3
              have hB4 : Blk _ b #[.int .u64 rate, .int .u64 burst, .int .u64 (lvl level (N k)), .int .u64 (spt level spent (N k))] 29 := (((hBq.set 0 (.int .u64 rate)).set 1 (.int .u64 burst)).set 2 (.int .u64 (lvl level (N k)))).set 3 (.int .u64 (spt level spent (N k)))
              have hP4 : IsPurse _ g rate burst level spent := (((hPq.other (i := 0) (v := .int .u64 rate) (by assumption)).other (i := 1) (v := .int .u64 burst) (by assumption)).other (i := 2) (v := .int .u64 (lvl level (N k))) (by assumption)).other (i := 3) (v := .int .u64 (spt level spent (N k))) (by assumption)
              have hb4 := (((hbq.setCell (p := ⟨b, 0, none⟩) (by assumption) (.int .u64 rate)).setCell (p := ⟨b, 1, none⟩) (by assumption) (.int .u64 burst)).setCell (p := ⟨b, 2, none⟩) (by assumption) (.int .u64 (lvl level (N k)))).setCell (p := ⟨b, 3, none⟩) (by assumption) (.int .u64 (spt level spent (N k)))
              refine (spend_any _ _ _ _ _ _ _ hP4 hUn0 hUl hUs).mono ?_
              rintro e w5 ⟨rfl, hPz, hg5⟩
              have hBz : Blk w5 b #[.int .u64 rate, .int .u64 burst, .int .u64 (lvl level (N k)), .int .u64 (spt level spent (N k))] 29 := hB4.grown hg5 (by simp; omega)
              have hbz := below_step hb4 hb4.size hg5 (by assumption)
              clear hB4 hP4 hb4 hg5 hBq hPq cnq hbq hgz
              go_wp2_with fail

              have hzc2 := hBz.cell 2 rfl
              have hzc3 := hBz.cell 3 rfl
              go_quiet ((first | (go_at_call 15; exact quiet_same (level_any _ _ _ _ _ _ (Blk.drewN hPz _))) | (go_at_call 16; exact quiet_same (spent_any _ _ _ _ _ _ (Blk.drewN hPz _)))))
              go_wp2_with fail
              go_roundw
              case rel => exact ⟨_, _, k + 1, by go_num, by omega, by omega, hL0, hL, hS, Blk.drewN hPz _, Blk.drewN hBz _, below_drewN hbz _, by assumption, by assumption, by assumption⟩
              case measure => simp [intOf]; omega
            · have hNB : Blk w3 wr.heap.size #[.int .u64 0, .int .u64 0, .int .u64 0, .int .u64 0] 29 := new_after_drew hg3
              have hq : Blk ((((w3.setCell ⟨wr.heap.size, 0, none⟩ (.int .u64 rate)).setCell ⟨wr.heap.size, 1, none⟩ (.int .u64 burst)).setCell ⟨wr.heap.size, 2, none⟩ (.int .u64 (lvl level (N k)))).setCell ⟨wr.heap.size, 3, none⟩ (.int .u64 (spt level spent (N k)))) wr.heap.size #[.int .u64 rate, .int .u64 burst, .int .u64 (lvl level (N k)), .int .u64 (spt level spent (N k))] 29 := (((hNB.set 0 _).set 1 _).set 2 _).set 3 _
              have hgz := gb_new_set (p := ⟨wr.heap.size, 3, none⟩) (v := .int .u64 (spt level spent (N k))) (gb_new_set (p := ⟨wr.heap.size, 2, none⟩) (v := .int .u64 (lvl level (N k))) (gb_new_set (p := ⟨wr.heap.size, 1, none⟩) (v := .int .u64 burst) (gb_new_set (p := ⟨wr.heap.size, 0, none⟩) (v := .int .u64 rate) (gb_trans (gb_drew (gb_alloc (gb_refl wr none) _)) hg3) (Nat.le_refl _)) (Nat.le_refl _)) (Nat.le_refl _)) (Nat.le_refl _)
              have hqb : wr.heap.size ≠ b := by have := hB.lt; omega
              have hqg : wr.heap.size ≠ g := by have := hP.lt; omega
              clear hNB hg3
              generalize (((w3.setCell ⟨wr.heap.size, 0, none⟩ (.int .u64 rate)).setCell ⟨wr.heap.size, 1, none⟩ (.int .u64 burst)).setCell ⟨wr.heap.size, 2, none⟩ (.int .u64 (lvl level (N k)))).setCell ⟨wr.heap.size, 3, none⟩ (.int .u64 (spt level spent (N k))) = wz at *
              generalize wr.heap.size = q at *
              have hBq := hB.grown hgz (by simp)
              have hPq : IsPurse _ g rate burst level spent := Blk.grown hP hgz (by simp)
              have cnq := hgz.cell cn' (by simp)
              have hbq := below_step0 hbel hbel.size hgz
              have hL : lvl level (N k) ≤ burst := by unfold lvl; split <;> omega
              have hL0 : U (lvl level (N k)) := by have h1 := hUl.1; have h2 := hUl.2; unfold lvl U; split <;> omega
              have hS : U (spt level spent (N k)) := by have h1 := hUs.1; have h2 := hUs.2; unfold spt; split; exact hUs; exact sat_U (by omega)
              clear c0 c1 c2 c3 c4
              have z0 := hq.cell 0 rfl
              have z1 := hq.cell 1 rfl
              have z2 := hq.cell 2 rfl
              have z3 := hq.cell 3 rfl
              have y0 := hBq.cell 0 rfl
              have y1 := hBq.cell 1 rfl
              have y2 := hBq.cell 2 rfl
              have y3 := hBq.cell 3 rfl
              have f0 := hBq.free 0
              have f1 := hBq.free 1
              have f2 := hBq.free 2
              have f3 := hBq.free 3
              go_wp2_with fail
              clear z0 z1 z2 z3 y0 y1 y2 y3 f0 f1 f2 f3
              have hB4 : Blk _ b #[.int .u64 rate, .int .u64 burst, .int .u64 (lvl level (N k)), .int .u64 (spt level spent (N k))] 29 := (((hBq.set 0 (.int .u64 rate)).set 1 (.int .u64 burst)).set 2 (.int .u64 (lvl level (N k)))).set 3 (.int .u64 (spt level spent (N k)))
              have hP4 : IsPurse _ g rate burst level spent := (((hPq.other (i := 0) (v := .int .u64 rate) (by assumption)).other (i := 1) (v := .int .u64 burst) (by assumption)).other (i := 2) (v := .int .u64 (lvl level (N k))) (by assumption)).other (i := 3) (v := .int .u64 (spt level spent (N k))) (by assumption)
              have hb4 := (((hbq.setCell (p := ⟨b, 0, none⟩) (by assumption) (.int .u64 rate)).setCell (p := ⟨b, 1, none⟩) (by assumption) (.int .u64 burst)).setCell (p := ⟨b, 2, none⟩) (by assumption) (.int .u64 (lvl level (N k)))).setCell (p := ⟨b, 3, none⟩) (by assumption) (.int .u64 (spt level spent (N k)))
              refine (spend_any _ _ _ _ _ _ _ hP4 hUn0 hUl hUs).mono ?_
              rintro e w5 ⟨rfl, hPz, hg5⟩
              have hBz : Blk w5 b #[.int .u64 rate, .int .u64 burst, .int .u64 (lvl level (N k)), .int .u64 (spt level spent (N k))] 29 := hB4.grown hg5 (by simp; omega)
              have hbz := below_step hb4 hb4.size hg5 (by assumption)
              clear hB4 hP4 hb4 hg5 hBq hPq cnq hbq hgz
              go_wp2_with fail

              have hzc2 := hBz.cell 2 rfl
              have hzc3 := hBz.cell 3 rfl
              go_quiet ((first | (go_at_call 15; exact quiet_same (level_any _ _ _ _ _ _ (Blk.drewN hPz _))) | (go_at_call 16; exact quiet_same (spent_any _ _ _ _ _ _ (Blk.drewN hPz _)))))
              go_wp2_with fail
              go_roundw
              case rel => exact ⟨_, _, k + 1, by go_num, by omega, by omega, hL0, hL, hS, Blk.drewN hPz _, Blk.drewN hBz _, below_drewN hbz _, by assumption, by assumption, by assumption⟩
              case measure => simp [intOf]; omega
        · have h2' : decide ((k : Int) < 60) = false := by simp; omega
          have hc0 := fun x => (Later.blk hB x).cell 0 rfl
          have hc1 := fun x => (Later.blk hB x).cell 1 rfl
          have hc2 := fun x => (Later.blk hB x).cell 2 rfl
          have hc3 := fun x => (Later.blk hB x).cell 3 rfl
          go_wp2_with fail
          refine wp_region_in (Later wr) (by kernel_rfl) (by kernel_rfl) (Later.start _) ?_
          repeat (go_big_quiet_step ((first | rfl | (go_at_call 13; exact later_call _ (bound_same _ _ _ _ _ _ _ (Later.blk hP _) hr hb ht)) | (go_at_call 18; exact later_call _ (rbound_any _ _ _ _ _ _ hr hb ht)) | (go_at_call 6; exact later_call _ (awake_any _)))))
          refine wpQuiet_nil ?_
          rintro _ ⟨x, rfl⟩
          go_wp2_with fail
          go_ret
          exact ⟨rfl, gb_below (below_step0 hbel hbel.size x.ok)⟩
      · skip
        have hc0 := fun x => (Later.blk hB x).cell 0 rfl
        have hc1 := fun x => (Later.blk hB x).cell 1 rfl
        have hc2 := fun x => (Later.blk hB x).cell 2 rfl
        have hc3 := fun x => (Later.blk hB x).cell 3 rfl
        go_wp2_with fail
        refine wp_region_in (Later wr) (by kernel_rfl) (by kernel_rfl) (Later.start _) ?_
        repeat (go_big_quiet_step ((first | rfl | (go_at_call 13; exact later_call _ (bound_same _ _ _ _ _ _ _ (Later.blk hP _) hr hb ht)) | (go_at_call 18; exact later_call _ (rbound_any _ _ _ _ _ _ hr hb ht)) | (go_at_call 6; exact later_call _ (awake_any _)))))
        refine wpQuiet_nil ?_
        rintro _ ⟨x, rfl⟩
        go_wp2_with fail
        go_ret
        exact ⟨rfl, gb_below (below_step0 hbel hbel.size x.ok)⟩

section
open Go.ChangeShapes Go.WideShapes Go.ChangeAt
variable {H : Type} {enc : TypeId × Value → H}
theorem plays_main {base : Nat} {v0 v1 v2 v3 : Value} {d0 d1 d2 d3 : DataW H} {p0 p1 p2 p3 : List MemPlace} (W : World)
    (k0 : Value.okWide Try.prog W .any base 22 v0) (h0 : DataW.Trod enc Try.prog W 0 (fun _ => true) true 22 v0 d0 p0)
    (k1 : Value.okWide Try.prog W .any base 22 v1) (h1 : DataW.Trod enc Try.prog W 0 (fun _ => true) true 22 v1 d1 p1)
    (k2 : Value.okWide Try.prog W .any base 38 v2) (h2 : DataW.Trod enc Try.prog W 0 (fun _ => true) true 38 v2 d2 p2)
    (k3 : Value.okWide Try.prog W .any base 22 v3) (h3 : DataW.Trod enc Try.prog W 0 (fun _ => true) true 22 v3 d3 p3) :
    Calls Try.prog 5 #[v0, v1, v2, v3] W fun e w' => e = .returned (.bool true) ∧ W.grownBy w' none := by
  obtain ⟨a0, rfl, _, _, w0⟩ := open_int Try.underlying22 k0 h0
  obtain ⟨a1, rfl, _, _, w1⟩ := open_int Try.underlying22 k1 h1
  obtain ⟨A, len, cap, K, N, rfl, hA⟩ := open_acts k2 h2
  obtain ⟨a3, rfl, _, _, w3⟩ := open_int Try.underlying22 k3 h3
  exact plays_any _ _ _ (u64_U w0) (u64_U w1) (u64_U w3) A len cap K N W hA
end
end Go.Proofs.Ytbnpmhlfbpoaaaa
