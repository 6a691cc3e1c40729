/- The walk of the chapter's example and of the law WatchStays. -/
import Derived.Test.YtgadcikgnndmjaaWC
import Derived.Test.YtgadcikgnndmjaaOwn
namespace Go.Proofs.Ytgadcikgnndmjaa
set_option linter.unusedVariables false
set_option linter.unusedSimpArgs false
open Go.RowKit Go.Own

theorem ws_le {B g hb sb : Nat} (h1 : B ≤ g) (h2 : B ≤ hb) (h3 : B ≤ sb) : ∀ k, WS g hb sb k → B ≤ k := by
  intro k hk
  rcases hk with rfl | rfl | rfl <;> assumption

theorem one_ok {x n : Int} (h0 : 0 ≤ x) (h1 : x ≤ n) : ∀ k, k < [x].length → 0 ≤ [x].getD k 0 ∧ [x].getD k 0 ≤ n := by
  intro k hk
  have : k = 0 := by simp at hk; omega
  subst this
  exact ⟨h0, h1⟩

set_option maxHeartbeats 1600000 in
theorem awake_any (w : World) : Calls Try.prog 6 #[] w fun e w' => e = .returned (.bool true) ∧ w.grownBy w' none := by
  go_enter Try.func6, Try.ntmps6
  go_wp2_with fail
  refine (new_yes 1 2 4 _ (by omega) (by omega) (by omega) (by omega) (by omega)).mono ?_
  rintro e w1 ⟨g, hb, sb, rfl, hi1, hg1, l1, l2, l3⟩
  have hb1 := below_gb hg1
  have hS := ws_le l1 l2 l3
  have e1 : List.replicate 1 (0 : Int) = [0] := rfl
  rw [e1] at hi1
  clear e1
  go_wp2_with fail
  refine (tick_yes _ _ _ _ _ _ _ _ _ _ 2 hi1 (by decide) (by omega) (by omega) (by omega) (one_ok (by omega) (by omega)) (by omega)).mono ?_
  rintro e w2 ⟨rfl, hi2, ht2⟩
  have hb2 := below_tch hb1 hb1.size ht2 hS
  have e2 : epn 2 4 (0 + 2) 0 [0] [0] = 1 := by decide
  have e3 : [(0 : Int)].map (thk 2 4 (0 + 2)) = [1] := by decide
  rw [e2, e3] at hi2
  clear e2 e3
  go_wp2_with fail
  refine (of_any _ _ _ _ _ _ _ _ _ _ 0 hi2 (by decide)).mono ?_
  rintro e w3 ⟨rfl, rfl⟩
  have e4 : ofN [1] 0 = 1 := by decide
  rw [e4]
  clear e4
  go_wp2_with fail
  refine (tick_yes _ _ _ _ _ _ _ _ _ _ 2 hi2 (by decide) (by omega) (by omega) (by omega) (one_ok (by omega) (by omega)) (by omega)).mono ?_
  rintro e w3 ⟨rfl, hi3, ht3⟩
  have hb3 := below_tch hb2 hb2.size ht3 hS
  have e2 : epn 2 4 (0 + 2 + 2) 1 [0] [1] = 2 := by decide
  have e3 : [(0 : Int)].map (thk 2 4 (0 + 2 + 2)) = [2] := by decide
  rw [e2, e3] at hi3
  clear e2 e3
  go_wp2_with fail
  refine (of_any _ _ _ _ _ _ _ _ _ _ 0 hi3 (by decide)).mono ?_
  rintro e w4 ⟨rfl, rfl⟩
  have e4 : ofN [2] 0 = 2 := by decide
  rw [e4]
  clear e4
  go_wp2_with fail
  refine (heard_yes _ _ _ _ _ _ _ _ _ _ 0 (by decide) hi3 (by decide) (by omega) (one_ok (by omega) (by omega)) (by omega)).mono ?_
  rintro e w4 ⟨rfl, hi4, ht4⟩
  have hb4 := below_tch hb3 hb3.size ht4 hS
  have e2 : epn 2 4 (0 + 2 + 2) 2 (([0] : List Int).set 0 (0 + 2 + 2)) [2] = 3 := by decide
  have e3 : ([(0 : Int)].set 0 (0 + 2 + 2)).map (thk 2 4 (0 + 2 + 2)) = [0] := by decide
  have e5 : [(0 : Int)].set 0 (0 + 2 + 2) = [4] := by decide
  rw [e2, e3, e5] at hi4
  clear e2 e3 e5
  go_wp2_with fail
  refine (now_any _ _ _ _ _ _ _ _ _ _ hi4).mono ?_
  rintro e w5 ⟨rfl, hg5⟩
  have hi5 := hi4.later hg5
  have hb5 := below_step0 hb4 hb4.size hg5
  go_wp2_with fail
  refine (of_any _ _ _ _ _ _ _ _ _ _ 0 hi5 (by decide)).mono ?_
  rintro e w6 ⟨rfl, rfl⟩
  have e4 : ofN [0] 0 = 0 := by decide
  rw [e4]
  clear e4
  go_wp2_with fail
  go_ret
  exact ⟨rfl, gb_below hb5⟩
end Go.Proofs.Ytgadcikgnndmjaa
