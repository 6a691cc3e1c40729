/- The document's Back. -/
import Derived.Test.YtbnpmhlfbpoaaaaWD
import Derived.Test.YtbnpmhlfbpoaaaaWG
namespace Go.Proofs.Ytbnpmhlfbpoaaaa
set_option linter.unusedVariables false
set_option linter.unusedSimpArgs false
open Go.RowKit Go.Own

theorem agg4 {a b c d a' b' c' d' : Int} (h1 : a = a') (h2 : b = b') (h3 : c = c') (h4 : d = d') :
    Value.agg #[.int .u64 a, .int .u64 b, .int .u64 c, .int .u64 d] = .agg #[.int .u64 a', .int .u64 b', .int .u64 c', .int .u64 d'] := by rw [h1, h2, h3, h4]

set_option maxHeartbeats 800000 in
theorem rback_any (rate burst level spent n : Int) (w : World) (hn : U n) (hl : U level) (hb : U burst) (hs : U spent) (hlb : level ≤ burst) :
    Calls Try.prog 17 #[.agg #[.int .u64 rate, .int .u64 burst, .int .u64 level, .int .u64 spent], .int .u64 n] w fun e w' =>
      e = .returned (.agg #[.int .u64 rate, .int .u64 burst, .int .u64 (level + min n (min spent (burst - level))), .int .u64 (spent - min n (min spent (burst - level)))]) ∧ w.grownBy w' none := by
  obtain ⟨hn0, hn1⟩ := hn
  obtain ⟨hl0, hl1⟩ := hl
  obtain ⟨hb0, hb1⟩ := hb
  obtain ⟨hs0, hs1⟩ := hs
  by_cases h1 : spent < n
  · by_cases h2 : burst - level < spent
    · go_enter Try.func17, Try.ntmps17
      go_wp2
      refine bodyPost_ret (v := .agg #[.int .u64 rate, .int .u64 burst, .int .u64 (level + (burst - level)), .int .u64 (spent - (burst - level))]) ?hr rfl ⟨ret_val (agg4 rfl rfl ?_ ?_), ?_⟩
      case hr => simp [results, Try.results17, go_sem]
      all_goals first | omega | exact gb_alloc (gb_alloc (gb_refl _ _) _) _
    · go_enter Try.func17, Try.ntmps17
      go_wp2
      refine bodyPost_ret (v := .agg #[.int .u64 rate, .int .u64 burst, .int .u64 (level + spent), .int .u64 (spent - spent)]) ?hr rfl ⟨ret_val (agg4 rfl rfl ?_ ?_), ?_⟩
      case hr => simp [results, Try.results17, go_sem]
      all_goals first | omega | exact gb_alloc (gb_alloc (gb_refl _ _) _) _
  · by_cases h2 : burst - level < n
    · go_enter Try.func17, Try.ntmps17
      go_wp2
      refine bodyPost_ret (v := .agg #[.int .u64 rate, .int .u64 burst, .int .u64 (level + (burst - level)), .int .u64 (spent - (burst - level))]) ?hr rfl ⟨ret_val (agg4 rfl rfl ?_ ?_), ?_⟩
      case hr => simp [results, Try.results17, go_sem]
      all_goals first | omega | exact gb_alloc (gb_alloc (gb_refl _ _) _) _
    · go_enter Try.func17, Try.ntmps17
      go_wp2
      refine bodyPost_ret (v := .agg #[.int .u64 rate, .int .u64 burst, .int .u64 (level + n), .int .u64 (spent - n)]) ?hr rfl ⟨ret_val (agg4 rfl rfl ?_ ?_), ?_⟩
      case hr => simp [results, Try.results17, go_sem]
      all_goals first | omega | exact gb_alloc (gb_alloc (gb_refl _ _) _) _

theorem rbound_any (rate burst level spent n : Int) (w : World) (hr : U rate) (hb : U burst) (hn : U n) :
    Calls Try.prog 18 #[.agg #[.int .u64 rate, .int .u64 burst, .int .u64 level, .int .u64 spent], .int .u64 n] w fun e w' =>
      e = .returned (.int .u64 (sat (burst + rate * n))) ∧ w.grownBy w' none := by
  have hm := Wide.mul_lt hr hn
  have hm0 := Int.mul_nonneg hr.1 hn.1
  obtain ⟨h, l, e, r1, r2, r3, r4, r5⟩ := Wide.times_eq rate n hr hn
  obtain ⟨hb0, hb1⟩ := hb
  obtain ⟨h2, l2, e2, q1, q2, q3, q4, q5⟩ := Wide.plus_eq 0 burst h l (by omega) (by omega) (by omega) (by omega) (by omega)
  rw [r5] at q5
  refine (PPursePlays.coldframeref18_Bound.calls 65 rate burst level spent n (sat (burst + rate * n)) w ?_).mono ?_
  · unfold PPursePlays.coldframeref18_Bound.f
    rw [e]
    simp only [Option.bind_some]
    rw [e2]
    simp only [Option.bind_some]
    unfold PPursePlays.coldframeref18_Cut.f sat
    by_cases g : h2 > 0
    · rw [if_pos g, if_neg (by omega)]; rfl
    · rw [if_neg g, if_pos (by omega)]
      simp only [Option.bind_some]
      congr 1; omega
  · rintro e w' ⟨rfl, h⟩
    exact ⟨rfl, gb_below h⟩
end Go.Proofs.Ytbnpmhlfbpoaaaa
