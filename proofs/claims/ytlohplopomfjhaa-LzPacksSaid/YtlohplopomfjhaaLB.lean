/- Where rows of three bytes stood, in plain Lean: the chain of places finds the longest match. -/
import Derived.Test.YtlohplopomfjhaaLA
namespace Go.Lz
set_option linter.unusedVariables false
set_option linter.unusedSimpArgs false

/-- The last place ahead of m at which three bytes stand. -/
def lastKey (b : List Nat) (x y z : Nat) : Nat → Option Nat
  | 0 => none
  | m + 1 => if m + 3 ≤ b.length ∧ b.getD m 0 = x ∧ b.getD (m + 1) 0 = y ∧ b.getD (m + 2) 0 = z then some m else lastKey b x y z m

/-- The last place ahead of a place at which the same three bytes stand. -/
def lastAt (b : List Nat) (p m : Nat) : Option Nat := lastKey b (b.getD p 0) (b.getD (p + 1) 0) (b.getD (p + 2) 0) m

def numO : Option Nat → Int
  | some q => q
  | none => -1

/-- What is noted of a place. -/
def prevOf (b : List Nat) (p : Nat) : Int := if p + 3 ≤ b.length then numO (lastAt b p p) else -1

def Same3 (b : List Nat) (q p : Nat) : Prop := b.getD q 0 = b.getD p 0 ∧ b.getD (q + 1) 0 = b.getD (p + 1) 0 ∧ b.getD (q + 2) 0 = b.getD (p + 2) 0

theorem lastAt_some {b : List Nat} {p m q : Nat} (h : lastAt b p m = some q) : q < m ∧ q + 3 ≤ b.length ∧ Same3 b q p ∧ ∀ j, q < j → j < m → j + 3 ≤ b.length → ¬ Same3 b j p := by
  unfold lastAt at h
  induction m with
  | zero => cases h
  | succ m ih =>
    rw [lastKey] at h
    split at h
    · rename_i hc
      injection h with h
      subst h
      exact ⟨by omega, hc.1, ⟨hc.2.1, hc.2.2.1, hc.2.2.2⟩, fun j h1 h2 => by omega⟩
    · rename_i hc
      obtain ⟨h1, h2, h3, h4⟩ := ih h
      refine ⟨by omega, h2, h3, fun j hj1 hj2 hj3 hs => ?_⟩
      by_cases e : j = m
      · subst e; exact hc ⟨hj3, hs.1, hs.2.1, hs.2.2⟩
      · exact h4 j hj1 (by omega) hj3 hs

theorem lastAt_none {b : List Nat} {p m : Nat} (h : lastAt b p m = none) : ∀ j, j < m → j + 3 ≤ b.length → ¬ Same3 b j p := by
  unfold lastAt at h
  induction m with
  | zero => intro j hj; omega
  | succ m ih =>
    rw [lastKey] at h
    split at h
    · cases h
    · rename_i hc
      intro j hj hj3 hs
      by_cases e : j = m
      · subst e; exact hc ⟨hj3, hs.1, hs.2.1, hs.2.2⟩
      · exact ih h j (by omega) hj3 hs

theorem lastAt_same {b : List Nat} {p q m : Nat} (h : Same3 b q p) : lastAt b q m = lastAt b p m := by
  unfold lastAt
  rw [h.1, h.2.1, h.2.2]

theorem match_ge {b : List Nat} {p q : Nat} (hq : q < p) (hp : p + 3 ≤ b.length) (h : Same3 b q p) : 3 ≤ matchLen b p (p - q) := by
  have e0 : p + 0 - (p - q) = q := by omega
  have e1 : p + (0 + 1) - (p - q) = q + 1 := by omega
  have e2 : p + (0 + 1 + 1) - (p - q) = q + 2 := by omega
  unfold matchLen
  rw [show (1024 : Nat) = 1021 + 1 + 1 + 1 from rfl, mlen, if_pos ⟨by omega, by omega, by rw [e0]; exact h.1.symm⟩, mlen, if_pos ⟨by omega, by omega, by rw [e1]; exact h.2.1.symm⟩,
    mlen, if_pos ⟨by omega, by omega, by rw [e2]; exact h.2.2.symm⟩]
  exact mlen_ge _ _ _ _ _

theorem match_lt {b : List Nat} {p q : Nat} (hq : q < p) (h : ¬ Same3 b q p) : matchLen b p (p - q) ≤ 2 := by
  rcases Nat.lt_or_ge (matchLen b p (p - q)) 3 with h3 | h3
  · omega
  · exfalso
    have hm := mlen_eq b p (p - q) 1024 0
    unfold matchLen at h3
    have h0 := hm 0 (by omega) (by omega)
    have h1 := hm 1 (by omega) (by omega)
    have h2 := hm 2 (by omega) (by omega)
    rw [show p + 0 - (p - q) = q by omega] at h0
    rw [show p + 1 - (p - q) = q + 1 by omega] at h1
    rw [show p + 2 - (p - q) = q + 2 by omega] at h2
    exact h ⟨h0.symm, h1.symm, h2.symm⟩

theorem match_short {b : List Nat} {p far : Nat} (hp : p ≤ b.length) (h : ¬ p + 3 ≤ b.length) : matchLen b p far ≤ 2 := by
  have := (mlen_le b p far 1024 0 (by omega) (by omega)).2
  unfold matchLen
  omega

theorem best_short {b : List Nat} {p : Nat} (hp : p ≤ b.length) (h : ¬ p + 3 ≤ b.length) (m : Nat) : bestTo b p m = (0, 0) := by
  have := bestTo_skip b p 0 m (fun j _ _ => match_short hp h)
  rw [Nat.zero_add] at this
  rw [this]; rfl

/-- The chain's state: what was found up to m back, and the next place of the same three bytes (none: no more). -/
def Chain (b : List Nat) (p m : Nat) (r : Nat × Nat) : Option Nat → Prop
  | some q => r = bestTo b p m ∧ q < p ∧ m < p - q ∧ Same3 b q p ∧ q + 3 ≤ b.length ∧ ∀ j, q < j → j < p - m → ¬ Same3 b j p
  | none => r = bestTo b p m ∧ ∀ j, j < p - m → ¬ Same3 b j p

theorem chain_first {b : List Nat} {p : Nat} (hp : p + 3 ≤ b.length) : Chain b p 0 (0, 0) (lastAt b p p) := by
  cases h : lastAt b p p with
  | none => exact ⟨rfl, fun j hj => lastAt_none h j (by omega) (by omega)⟩
  | some q =>
    obtain ⟨h1, h2, h3, h4⟩ := lastAt_some h
    exact ⟨rfl, h1, by omega, h3, h2, fun j hj1 hj2 => h4 j hj1 (by omega) (by omega)⟩

theorem chain_skip {b : List Nat} {p m q : Nat} (hq : m < p - q) (h : ∀ j, q < j → j < p - m → ¬ Same3 b j p) : bestTo b p (p - q - 1) = bestTo b p m := by
  have := bestTo_skip b p m (p - q - 1 - m) (fun j h1 h2 => by
    have h3 := match_lt (b := b) (p := p) (q := p - j) (by omega) (h (p - j) (by omega) (by omega))
    rwa [show p - (p - j) = j by omega] at h3)
  rwa [show m + (p - q - 1 - m) = p - q - 1 by omega] at this

theorem chain_next {b : List Nat} {p m q : Nat} {r : Nat × Nat} (hp : p + 3 ≤ b.length) (h : Chain b p m r (some q)) :
    Chain b p (p - q) (if r.2 < matchLen b p (p - q) then (p - q, matchLen b p (p - q)) else r) (lastAt b q q) := by
  obtain ⟨hr, h1, h2, h3, h4, h5⟩ := h
  have h6 := match_ge h1 hp h3
  have hs := chain_skip h2 h5
  have hr2 : (if r.2 < matchLen b p (p - q) then (p - q, matchLen b p (p - q)) else r) = bestTo b p (p - q) := by
    obtain ⟨d, hd⟩ : ∃ d, p - q = d + 1 := ⟨p - q - 1, by omega⟩
    rw [hd] at hs h6 ⊢
    rw [Nat.add_sub_cancel] at hs
    rw [bestTo, hs, ← hr]
    by_cases hc : r.2 < matchLen b p (d + 1)
    · rw [if_pos hc, if_pos (by omega)]
    · rw [if_neg hc, if_neg (by omega)]
  rw [hr2]
  have e := lastAt_same (m := q) h3
  cases hl : lastAt b q q with
  | none => exact ⟨rfl, fun j hj => by
      rw [e] at hl
      exact lastAt_none hl j (by omega) (by omega)⟩
  | some q2 =>
    rw [e] at hl
    obtain ⟨k1, k2, k3, k4⟩ := lastAt_some hl
    exact ⟨rfl, by omega, by omega, k3, k2, fun j hj1 hj2 => k4 j hj1 (by omega) (by omega)⟩

theorem chain_end_none {b : List Nat} {p m : Nat} {r : Nat × Nat} (hm : m ≤ 4096) (hmp : m ≤ p) (h : Chain b p m r none) : r = bestTo b p (min p 4096) := by
  obtain ⟨hr, h1⟩ := h
  have := bestTo_skip b p m (min p 4096 - m) (fun j h2 h3 => by
    have h4 := match_lt (b := b) (p := p) (q := p - j) (by omega) (h1 (p - j) (by omega))
    rwa [show p - (p - j) = j by omega] at h4)
  rw [hr, ← this]
  congr 1
  omega

theorem chain_end_far {b : List Nat} {p m q : Nat} {r : Nat × Nat} (hm : m ≤ 4096) (h : Chain b p m r (some q)) (hf : 4096 < p - q) : r = bestTo b p (min p 4096) := by
  obtain ⟨hr, h1, h2, h3, h4, h5⟩ := h
  have := bestTo_skip b p m (min p 4096 - m) (fun j h6 h7 => by
    have h8 := match_lt (b := b) (p := p) (q := p - j) (by omega) (h5 (p - j) (by omega) (by omega))
    rwa [show p - (p - j) = j by omega] at h8)
  rw [hr, ← this]
  congr 1
  omega
end Go.Lz
