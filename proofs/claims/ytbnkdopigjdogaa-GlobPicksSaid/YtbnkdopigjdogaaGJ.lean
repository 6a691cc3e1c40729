/- Matching by beginnings, in plain Lean. -/
import Derived.Test.YtbnkdopigjdogaaGM
namespace Go.Glob
set_option linter.unusedVariables false
set_option linter.unusedSimpArgs false

theorem mt_append : ∀ (l r : List Part) (s : List Nat), mt (l ++ r) s = true ↔ ∃ k, k ≤ s.length ∧ mt l (s.take k) = true ∧ mt r (s.drop k) = true := by
  intro l
  induction l with
  | nil =>
    intro r s
    constructor
    · intro h; exact ⟨0, Nat.zero_le _, by rw [List.take_zero, mt], h⟩
    · rintro ⟨k, hk, h1, h2⟩
      rw [mt_nil] at h1
      have h0 : s.take k = [] := by simpa using h1
      have : k = 0 ∨ s = [] := by simpa using h0
      rcases this with rfl | rfl
      · simpa using h2
      · simpa using h2
  | cons p l ih =>
    intro r s
    by_cases hp : p.kind = 2
    · rw [List.cons_append, mt_star p _ hp]
      constructor
      · rintro ⟨k, hk, h⟩
        obtain ⟨m, hm, h1, h2⟩ := (ih r _).1 h
        rw [List.length_drop] at hm
        refine ⟨k + m, by omega, ?_, by rw [← List.drop_drop]; exact h2⟩
        rw [mt_star p _ hp]
        refine ⟨k, by rw [List.length_take]; omega, ?_⟩
        rw [List.drop_take, show k + m - k = m by omega]
        exact h1
      · rintro ⟨k, hk, h1, h2⟩
        rw [mt_star p _ hp] at h1
        obtain ⟨m, hm, h1⟩ := h1
        rw [List.length_take, Nat.min_eq_left hk] at hm
        refine ⟨m, by omega, (ih r _).2 ⟨k - m, by rw [List.length_drop]; omega, ?_, ?_⟩⟩
        · rw [← List.drop_take]; exact h1
        · rw [List.drop_drop, show m + (k - m) = k by omega]; exact h2
    · cases s with
      | nil =>
        rw [List.cons_append, mt_one_nil p _ hp]
        constructor
        · intro h; cases h
        · rintro ⟨k, hk, h1, _⟩
          rw [List.take_nil, mt_one_nil p _ hp] at h1
          cases h1
      | cons c s =>
        rw [List.cons_append, mt_one p _ hp, Bool.and_eq_true, ih]
        constructor
        · rintro ⟨hf, k, hk, h1, h2⟩
          refine ⟨k + 1, by simpa using hk, ?_, by simpa using h2⟩
          rw [List.take_succ_cons, mt_one p _ hp, hf, h1]; rfl
        · rintro ⟨k, hk, h1, h2⟩
          cases k with
          | zero => rw [List.take_zero, mt_one_nil p _ hp] at h1; cases h1
          | succ k =>
            rw [List.take_succ_cons, mt_one p _ hp, Bool.and_eq_true] at h1
            exact ⟨h1.1, k, by simpa using hk, h1.2, by simpa using h2⟩

/-- Do the first parts take a beginning? -/
def pre (l : List Part) (s : List Nat) (i j : Nat) : Bool := mt (l.take i) (s.take j)

theorem pre_zero (l : List Part) (s : List Nat) (j : Nat) (hj : j ≤ s.length) : pre l s 0 j = (j == 0) := by
  unfold pre
  rw [List.take_zero, mt_nil]
  cases j with
  | zero => simp
  | succ j =>
    cases s with
    | nil => simp at hj
    | cons c s => simp
theorem pre_all (l : List Part) (s : List Nat) : pre l s l.length s.length = mt l s := by unfold pre; rw [List.take_length, List.take_length]

theorem take_part (l : List Part) (i : Nat) (h : i < l.length) : l.take (i + 1) = l.take i ++ [l.getD i ⟨0, 0, false, none0⟩] := by
  rw [List.take_add_one]
  simp [h]

theorem mt_star1 {p : Part} (h : p.kind = 2) (t : List Nat) : mt [p] t = true := by
  rw [mt_star p [] h]
  exact ⟨t.length, Nat.le_refl _, by rw [List.drop_length, mt]⟩

theorem pre_star {l : List Part} {s : List Nat} {i j : Nat} (hi : i < l.length) (hj : j ≤ s.length) (hk : (l.getD i ⟨0, 0, false, none0⟩).kind = 2) :
    pre l s (i + 1) j = (pre l s i j || (decide (0 < j) && pre l s (i + 1) (j - 1))) := by
  have key : ∀ j, j ≤ s.length → (pre l s (i + 1) j = true ↔ ∃ k, k ≤ j ∧ pre l s i k = true) := by
    intro j hj
    unfold pre
    rw [take_part l i hi, mt_append]
    constructor
    · rintro ⟨k, hk', h1, _⟩
      rw [List.length_take, Nat.min_eq_left hj] at hk'
      rw [List.take_take, Nat.min_eq_left hk'] at h1
      exact ⟨k, hk', h1⟩
    · rintro ⟨k, hk', h1⟩
      exact ⟨k, by rw [List.length_take]; omega, by rw [List.take_take, Nat.min_eq_left hk']; exact h1, mt_star1 hk _⟩
  rw [Bool.eq_iff_iff, key j hj, Bool.or_eq_true, Bool.and_eq_true, decide_eq_true_eq]
  constructor
  · rintro ⟨k, hk', h1⟩
    by_cases e : k = j
    · subst e; exact .inl h1
    · exact .inr ⟨by omega, (key (j - 1) (by omega)).2 ⟨k, by omega, h1⟩⟩
  · rintro (h | ⟨h0, h⟩)
    · exact ⟨j, Nat.le_refl _, h⟩
    · obtain ⟨k, hk', h1⟩ := (key (j - 1) (by omega)).1 h
      exact ⟨k, by omega, h1⟩

theorem pre_one {l : List Part} {s : List Nat} {i j : Nat} (hi : i < l.length) (hj : j ≤ s.length) (hk : (l.getD i ⟨0, 0, false, none0⟩).kind ≠ 2) :
    pre l s (i + 1) j = (decide (0 < j) && pre l s i (j - 1) && fits (l.getD i ⟨0, 0, false, none0⟩) (s.getD (j - 1) 0)) := by
  have one : ∀ t : List Nat, mt [l.getD i ⟨0, 0, false, none0⟩] t = true → ∃ c, t = [c] ∧ fits (l.getD i ⟨0, 0, false, none0⟩) c = true := by
    intro t h
    cases t with
    | nil => rw [mt_one_nil _ _ hk] at h; cases h
    | cons c t =>
      rw [mt_one _ _ hk, Bool.and_eq_true, mt_nil] at h
      have : t = [] := by simpa using h.2
      subst this
      exact ⟨c, rfl, h.1⟩
  rw [Bool.eq_iff_iff]
  unfold pre
  rw [take_part l i hi, mt_append, Bool.and_eq_true, Bool.and_eq_true, decide_eq_true_eq]
  constructor
  · rintro ⟨k, hk', h1, h2⟩
    rw [List.length_take, Nat.min_eq_left hj] at hk'
    obtain ⟨c, e, hf⟩ := one _ h2
    have hlen := congrArg List.length e
    rw [List.length_drop, List.length_take, Nat.min_eq_left hj] at hlen
    simp at hlen
    have ek : k = j - 1 := by omega
    subst ek
    rw [List.take_take, Nat.min_eq_left (by omega)] at h1
    refine ⟨⟨by omega, h1⟩, ?_⟩
    have ec : c = s.getD (j - 1) 0 := by
      have := congrArg (fun t : List Nat => t.getD 0 0) e
      simp [List.getD_eq_getElem?_getD, List.getElem?_take] at this
      rw [← this, List.getD_eq_getElem?_getD]
      split
      · rfl
      · omega
    rw [← ec]; exact hf
  · rintro ⟨⟨h0, h1⟩, hf⟩
    refine ⟨j - 1, by rw [List.length_take]; omega, by rw [List.take_take, Nat.min_eq_left (by omega)]; exact h1, ?_⟩
    have e : (s.take j).drop (j - 1) = [s.getD (j - 1) 0] := by
      rw [List.drop_take, show j - (j - 1) = 1 by omega, drop_byte s (j - 1) (by omega)]
      rfl
    rw [e, mt_one _ _ hk, hf, mt_nil]
    rfl
end Go.Glob
