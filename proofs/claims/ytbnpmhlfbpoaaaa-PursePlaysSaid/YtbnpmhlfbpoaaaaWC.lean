/- What the document's numbers of two halves come to: plain facts on the printed functions. -/
import Derived.Test.YtbnpmhlfbpoaaaaPPursePlaysx1
import Derived.Test.YtbnpmhlfbpoaaaaPPursePlaysx2
import Derived.Test.YtbnpmhlfbpoaaaaWA
namespace Go.Proofs.Ytbnpmhlfbpoaaaa.Wide
set_option linter.unusedVariables false
set_option linter.unusedSimpArgs false
open Go.RowKit Go.Proofs.Ytbnpmhlfbpoaaaa Go.Proofs.Ytbnpmhlfbpoaaaa.PPursePlays

theorem plus_eq (a b c d : Int) (ha : 0 ≤ a ∧ a < 18446744073709551616) (hb : 0 ≤ b ∧ b < 18446744073709551616) (hc : 0 ≤ c ∧ c < 18446744073709551616) (hd : 0 ≤ d ∧ d < 18446744073709551616)
    (hs : a * 18446744073709551616 + b + (c * 18446744073709551616 + d) < 340282366920938463463374607431768211456) :
    ∃ h l, coldframeref18_Plus.f a b c d = some (h, l) ∧ 0 ≤ h ∧ h < 18446744073709551616 ∧ 0 ≤ l ∧ l < 18446744073709551616 ∧
      h * 18446744073709551616 + l = a * 18446744073709551616 + b + (c * 18446744073709551616 + d) := by
  unfold coldframeref18_Plus.f
  simp only [IntKind.wrap_u64]
  split
  · refine ⟨_, _, rfl, ?_, ?_, ?_, ?_, ?_⟩ <;> omega
  · refine ⟨_, _, rfl, ?_, ?_, ?_, ?_, ?_⟩ <;> omega

theorem half (b x : Int) : b * x = b / 2 * (x + x) + b % 2 * x := by
  have h : b = 2 * (b / 2) + b % 2 := by omega
  have h2 : b * x = (2 * (b / 2) + b % 2) * x := by rw [← h]
  rw [h2, Int.add_mul, Int.mul_assoc, Int.mul_add]
  have : b / 2 * x + b / 2 * x = 2 * (b / 2 * x) := by omega
  omega

theorem times_loop (d : Nat) : ∀ (k : Nat) (b i sh sl xh xl : Int), 0 ≤ i → (i + d = 64) → d < k → 0 ≤ b → b < 2 ^ d →
    (0 ≤ sh ∧ sh < 18446744073709551616) → (0 ≤ sl ∧ sl < 18446744073709551616) → (0 ≤ xh ∧ xh < 18446744073709551616) → (0 ≤ xl ∧ xl < 18446744073709551616) →
    (xh * 18446744073709551616 + xl) * 2 ^ d < 340282366920938463463374607431768211456 →
    sh * 18446744073709551616 + sl + b * (xh * 18446744073709551616 + xl) < 340282366920938463463374607431768211456 →
    ∃ h l, coldframeref18_Times.l0 k b i sh sl xh xl = some (h, l) ∧ 0 ≤ h ∧ h < 18446744073709551616 ∧ 0 ≤ l ∧ l < 18446744073709551616 ∧
      h * 18446744073709551616 + l = sh * 18446744073709551616 + sl + b * (xh * 18446744073709551616 + xl) := by
  induction d with
  | zero =>
    intro k b i sh sl xh xl hi0 hi hk hb0 hb1 hsh hsl hxh hxl hx hs
    obtain ⟨k, rfl⟩ : ∃ m, k = m + 1 := ⟨k - 1, by omega⟩
    have hb : b = 0 := by simp at hb1; omega
    subst hb
    refine ⟨sh, sl, ?_, hsh.1, hsh.2, hsl.1, hsl.2, by omega⟩
    simp only [coldframeref18_Times.l0]
    rw [if_neg (by omega)]
  | succ d ih =>
    intro k b i sh sl xh xl hi0 hi hk hb0 hb1 hsh hsl hxh hxl hx hs
    obtain ⟨k, rfl⟩ : ∃ m, k = m + 1 := ⟨k - 1, by omega⟩
    have hp : (1 : Int) ≤ 2 ^ d := by
      have : (0 : Int) < 2 ^ d := Int.pow_pos (by omega)
      omega
    have hX0 : 0 ≤ xh * 18446744073709551616 + xl := by omega
    have hpow : (2 : Int) ^ (d + 1) = 2 ^ d * 2 := Int.pow_succ 2 d
    have hxx : (xh * 18446744073709551616 + xl) * 2 ^ (d + 1) = (xh * 18446744073709551616 + xl + (xh * 18446744073709551616 + xl)) * 2 ^ d := by
      rw [hpow, Int.mul_comm (2 ^ d) 2, ← Int.mul_assoc]
      congr 1; omega
    rw [hxx] at hx
    have h2x : xh * 18446744073709551616 + xl + (xh * 18446744073709551616 + xl) < 340282366920938463463374607431768211456 := by
      have : (xh * 18446744073709551616 + xl + (xh * 18446744073709551616 + xl)) * 1 ≤ (xh * 18446744073709551616 + xl + (xh * 18446744073709551616 + xl)) * 2 ^ d := Int.mul_le_mul_of_nonneg_left hp (by omega)
      omega
    obtain ⟨yh, yl, hy, hyh0, hyh1, hyl0, hyl1, hye⟩ := plus_eq xh xl xh xl hxh hxl hxh hxl h2x
    have hh := half b (xh * 18446744073709551616 + xl)
    have hq0 : 0 ≤ b / 2 := by omega
    have hq1 : b / 2 < 2 ^ d := by omega
    have hqx : 0 ≤ b / 2 * (xh * 18446744073709551616 + xl + (xh * 18446744073709551616 + xl)) := Int.mul_nonneg hq0 (by omega)
    have hwi : wrap64 (i + 1) = i + 1 := by unfold wrap64; omega
    have hbb : b < 18446744073709551616 := by
      have h64 : (2 : Int) ^ (d + 1) ≤ 2 ^ 64 := by
        have : (2 : Nat) ^ (d + 1) ≤ 2 ^ 64 := Nat.pow_le_pow_right (by omega) (by omega)
        exact_mod_cast this
      omega
    have htd : IntKind.u64.wrap (Int.tdiv b 2) = b / 2 := by
      rw [Int.tdiv_eq_ediv_of_nonneg hb0, IntKind.wrap_u64]; omega
    have htm : Int.tmod b 2 = b % 2 := Int.tmod_eq_emod_of_nonneg hb0
    simp only [coldframeref18_Times.l0]
    rw [if_pos (by omega), htm, htd, hwi, hy]
    by_cases h1 : b % 2 = 1
    · rw [if_pos h1]
      rw [h1, Int.one_mul] at hh
      obtain ⟨th, tl, ht, hth0, hth1, htl0, htl1, hte⟩ := plus_eq sh sl xh xl hsh hsl hxh hxl (by omega)
      rw [ht]
      simp only [Option.bind_some]
      obtain ⟨h, l, e, r1, r2, r3, r4, r5⟩ := ih k (b / 2) (i + 1) th tl yh yl (by omega) (by omega) (by omega) hq0 hq1 ⟨hth0, hth1⟩ ⟨htl0, htl1⟩ ⟨hyh0, hyh1⟩ ⟨hyl0, hyl1⟩ (by rw [hye]; exact hx) (by rw [hye]; omega)
      exact ⟨h, l, e, r1, r2, r3, r4, by rw [r5, hye]; omega⟩
    · rw [if_neg h1]
      have h0 : b % 2 = 0 := by omega
      rw [h0, Int.zero_mul] at hh
      simp only [Option.bind_some]
      obtain ⟨h, l, e, r1, r2, r3, r4, r5⟩ := ih k (b / 2) (i + 1) sh sl yh yl (by omega) (by omega) (by omega) hq0 hq1 hsh hsl ⟨hyh0, hyh1⟩ ⟨hyl0, hyl1⟩ (by rw [hye]; exact hx) (by rw [hye]; omega)
      exact ⟨h, l, e, r1, r2, r3, r4, by rw [r5, hye]; omega⟩

theorem mul_lt {a b : Int} (ha : U a) (hb : U b) : a * b ≤ 340282366920938463426481119284349108225 := by
  have h1 : a * b ≤ 18446744073709551615 * 18446744073709551615 :=
    Int.mul_le_mul ha.2 hb.2 hb.1 (by omega)
  omega

theorem times_eq (a b : Int) (ha : U a) (hb : U b) :
    ∃ h l, coldframeref18_Times.f 65 a b = some (h, l) ∧ 0 ≤ h ∧ h < 18446744073709551616 ∧ 0 ≤ l ∧ l < 18446744073709551616 ∧ h * 18446744073709551616 + l = a * b := by
  have hm := mul_lt ha hb
  obtain ⟨ha0, ha1⟩ := ha
  obtain ⟨hb0, hb1⟩ := hb
  have z : (0 : Int) * 18446744073709551616 + a = a := by omega
  obtain ⟨h, l, e, r1, r2, r3, r4, r5⟩ := times_loop 64 65 b 0 0 0 0 a (by omega) (by omega) (by omega) hb0 (by omega) (by omega) (by omega) (by omega) (by omega) (by omega)
    (by rw [z, Int.mul_comm b]; omega)
  exact ⟨h, l, e, r1, r2, r3, r4, by rw [r5, z, Int.mul_comm b]; omega⟩

/-- A tick of the document's purse. -/
theorem tick_eq (rate burst level spent n : Int) (hr : U rate) (hb : U burst) (hl : U level) (hn : U n) :
    coldframeref18_Tick.f 65 rate burst level spent n = some (rate, burst, min burst (level + rate * n), spent) := by
  have hm := mul_lt hr hn
  have hm0 := Int.mul_nonneg hr.1 hn.1
  obtain ⟨h, l, e, r1, r2, r3, r4, r5⟩ := times_eq rate n hr hn
  obtain ⟨hl0, hl1⟩ := hl
  obtain ⟨hb0, hb1⟩ := hb
  obtain ⟨h2, l2, e2, q1, q2, q3, q4, q5⟩ := plus_eq 0 level h l (by omega) (by omega) (by omega) (by omega) (by omega)
  unfold coldframeref18_Tick.f
  rw [e]
  simp only [Option.bind_some]
  rw [e2]
  simp only [Option.bind_some]
  rw [r5] at q5
  by_cases c1 : h2 > 0
  · rw [if_pos c1, Int.min_def, if_pos (by omega)]
  · rw [if_neg c1]
    by_cases c2 : l2 > burst
    · rw [if_pos c2, Int.min_def, if_pos (by omega)]
    · rw [if_neg c2]
      have : l2 = level + rate * n := by omega
      rw [this, Int.min_def]
      split
      · have : burst = level + rate * n := by omega
        rw [this]
      · rfl

/-- A spending of the document's purse. -/
theorem spend_eq (rate burst level spent n : Int) (hl : U level) (hs : U spent) (hn : U n) :
    coldframeref18_Spend.f rate burst level spent n = some (if level < n then (rate, burst, level, spent, false) else (rate, burst, level - n, sat (spent + n), true)) := by
  obtain ⟨hl0, hl1⟩ := hl
  obtain ⟨hs0, hs1⟩ := hs
  obtain ⟨hn0, hn1⟩ := hn
  unfold coldframeref18_Spend.f
  by_cases c : level < n
  · rw [if_pos c, if_pos c]
  · rw [if_neg c, if_neg c]
    obtain ⟨h2, l2, e2, q1, q2, q3, q4, q5⟩ := plus_eq 0 spent 0 n (by omega) (by omega) (by omega) (by omega) (by omega)
    rw [e2]
    have e3 : coldframeref18_Cut.f h2 l2 = some (sat (spent + n)) := by
      unfold coldframeref18_Cut.f sat
      by_cases g : h2 > 0
      · rw [if_pos g, if_neg (by omega)]
      · rw [if_neg g, if_pos (by omega)]
        congr 1; omega
    have e4 : IntKind.u64.wrap (level - n) = level - n := by rw [IntKind.wrap_u64]; omega
    simp only [Option.bind_some]
    rw [e3, e4]
    rfl

end Go.Proofs.Ytbnpmhlfbpoaaaa.Wide
