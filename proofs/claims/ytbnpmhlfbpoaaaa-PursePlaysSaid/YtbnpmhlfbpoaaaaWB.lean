/- The walks of package purse, the second part: Tick, Back, Level, Spent, Bound. -/
import Derived.Test.YtbnpmhlfbpoaaaaWA
import Derived.Deep.RegionHeld3
namespace Go.Proofs.Ytbnpmhlfbpoaaaa
set_option linter.unusedVariables false
set_option linter.unusedSimpArgs false
open Go.RowKit Go.Own

theorem IsPurse.eq {w : World} {g : Nat} {rate burst l s l' s' : Int} (h : IsPurse w g rate burst l s) (h1 : l = l') (h2 : s = s') : IsPurse w g rate burst l' s' := by
  rw [← h1, ← h2]; exact h

section
variable (g : Nat) (rate burst level spent n : Int) (w : World)

set_option maxHeartbeats 400000 in
theorem level_nil : Calls Try.prog 15 #[.pointer none] w fun e w' => e = .returned (.int .u64 0) ∧ w = w' := by
  go_enter Try.func15, Try.ntmps15
  go_wp2
  go_ret
  exact ⟨rfl, rfl⟩

set_option maxHeartbeats 400000 in
theorem level_any (h : IsPurse w g rate burst level spent) : Calls Try.prog 15 #[.pointer (some ⟨g, 0, none⟩)] w fun e w' => e = .returned (.int .u64 level) ∧ w = w' := by
  have c2 := h.cell 2 rfl
  go_enter Try.func15, Try.ntmps15
  go_wp2
  go_ret
  exact ⟨rfl, rfl⟩

set_option maxHeartbeats 400000 in
theorem spent_nil : Calls Try.prog 16 #[.pointer none] w fun e w' => e = .returned (.int .u64 0) ∧ w = w' := by
  go_enter Try.func16, Try.ntmps16
  go_wp2
  go_ret
  exact ⟨rfl, rfl⟩

set_option maxHeartbeats 400000 in
theorem spent_any (h : IsPurse w g rate burst level spent) : Calls Try.prog 16 #[.pointer (some ⟨g, 0, none⟩)] w fun e w' => e = .returned (.int .u64 spent) ∧ w = w' := by
  have c3 := h.cell 3 rfl
  go_enter Try.func16, Try.ntmps16
  go_wp2
  go_ret
  exact ⟨rfl, rfl⟩

set_option maxHeartbeats 400000 in
theorem bound_nil : Calls Try.prog 13 #[.pointer none, .int .u64 n] w fun e w' => e = .returned (.int .u64 0) ∧ w = w' := by
  go_enter Try.func13, Try.ntmps13
  go_wp2
  go_ret
  exact ⟨rfl, rfl⟩

set_option maxHeartbeats 400000 in
theorem tick_nil : Calls Try.prog 12 #[.pointer none, .int .u64 n] w fun e w' => e = .returned (.tuple #[]) ∧ w = w' := by
  go_enter Try.func12, Try.ntmps12
  go_wp2
  go_end0
  exact ⟨rfl, rfl⟩

set_option maxHeartbeats 400000 in
theorem back_nil : Calls Try.prog 14 #[.pointer none, .int .u64 n] w fun e w' => e = .returned (.tuple #[]) ∧ w = w' := by
  go_enter Try.func14, Try.ntmps14
  go_wp2
  exact bodyPost_ret (results_none rfl _ _ _) rfl ⟨rfl, rfl⟩

set_option maxHeartbeats 800000 in
theorem bound_any (h : IsPurse w g rate burst level spent) (hr : U rate) (hb : U burst) (hn : U n) :
    Calls Try.prog 13 #[.pointer (some ⟨g, 0, none⟩), .int .u64 n] w fun e w' => e = .returned (.int .u64 (sat (burst + sat (rate * n)))) ∧ w.grownBy w' none := by
  have c0 := h.cell 0 rfl
  have c1 := h.cell 1 rfl
  have hU : U (sat (rate * n)) := sat_U (Int.mul_nonneg hr.1 hn.1)
  clear h
  go_enter Try.func13, Try.ntmps13
  go_wp2
  go_quiet ((first | (go_at_call 23; refine quiet_same (times_any _ _ _ hr hn)) | (go_at_call 19; refine quiet_same (plus_any _ _ _ hb hU))))
  go_wp2
  go_ret
  exact ⟨rfl, gb_drewN (gb_refl _ _) _⟩

set_option maxHeartbeats 1600000 in
theorem tick_any (hP : IsPurse w g rate burst level spent) (hr : U rate) (hl : U level) (hn : U n) :
    Calls Try.prog 12 #[.pointer (some ⟨g, 0, none⟩), .int .u64 n] w fun e w' =>
      e = .returned (.tuple #[]) ∧ IsPurse w' g rate burst (min burst (sat (level + sat (rate * n)))) spent ∧ w.grownBy w' (some g) := by
  have c0 := hP.cell 0 rfl
  have c1 := hP.cell 1 rfl
  have c2 := hP.cell 2 rfl
  have f2 := hP.free 2
  have hU : U (sat (rate * n)) := sat_U (Int.mul_nonneg hr.1 hn.1)
  go_enter Try.func12, Try.ntmps12
  go_wp2
  go_still_tail 19, (by kernel_rfl)
  still_call (still_of (times_any _ _ _ hr hn))
  repeat still_step
  still_call (still_of (plus_any _ _ _ hl hU))
  repeat still_step
  refine wpStill_nil ?_
  change wpList _ _ _ _ _ w.drew
  go_wp2
  all_goals
    go_end0
    refine ⟨rfl, (IsPurse.eq (hP.set 2 _) ?_ rfl), gb_drew (gb_set (gb_refl _ _))⟩
  all_goals omega

set_option maxHeartbeats 1600000 in
theorem back_any (hP : IsPurse w g rate burst level spent) (hn : U n) (hl : U level) (hb : U burst) (hs : U spent) (hlb : level ≤ burst) :
    Calls Try.prog 14 #[.pointer (some ⟨g, 0, none⟩), .int .u64 n] w fun e w' =>
      e = .returned (.tuple #[]) ∧ IsPurse w' g rate burst (level + min n (min spent (burst - level))) (spent - min n (min spent (burst - level))) ∧ w.grownBy w' (some g) := by
  have c1 := hP.cell 1 rfl
  have c2 := hP.cell 2 rfl
  have c3 := hP.cell 3 rfl
  have f2 := hP.free 2
  have f3 := hP.free 3
  obtain ⟨hn0, hn1⟩ := hn
  obtain ⟨hl0, hl1⟩ := hl
  obtain ⟨hb0, hb1⟩ := hb
  obtain ⟨hs0, hs1⟩ := hs
  go_enter Try.func14, Try.ntmps14
  go_wp2
  go_quiet (fail)
  go_wp2
  all_goals
    go_end0
    refine ⟨rfl, (IsPurse.eq ((hP.set 2 _).set 3 _) ?_ ?_), gb_set (gb_set (gb_drewN (gb_refl _ _) _))⟩
  all_goals omega
end
end Go.Proofs.Ytbnpmhlfbpoaaaa
