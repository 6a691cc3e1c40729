/- Matching with one star to come back to, in plain Lean; and quoting. -/
import Derived.Test.YtbnkdopigjdogaaGA
namespace Go.Glob
set_option linter.unusedVariables false
set_option linter.unusedSimpArgs false

/-- Where the matcher stands. -/
structure MI (l : List Part) (s : List Nat) (T : Bool) (i a : Nat) (star : Int) (back : Nat) : Prop where
  hi : i ≤ l.length
  ha : a ≤ s.length
  h : (star = -1 ∧ T = mt (l.drop i) (s.drop a)) ∨ ∃ st : Nat, star = (st : Int) ∧ st < i ∧ back + i = a + st + 1 ∧ (l.getD st ⟨0, 0, false, none0⟩).kind = 2 ∧ NoStar ((l.drop (st + 1)).take (i - (st + 1))) ∧
    T = mt (l.drop st) (s.drop back) ∧ mt (l.drop (st + 1)) (s.drop back) = mt (l.drop i) (s.drop a)

section
variable {l : List Part} {s : List Nat} {T : Bool} {i a back : Nat} {star : Int}

theorem drop_at (l : List Part) (i : Nat) (h : i < l.length) : l.drop i = l.getD i ⟨0, 0, false, none0⟩ :: l.drop (i + 1) := by
  rw [List.drop_eq_getElem_cons h]
  simp [h]
theorem drop_byte (s : List Nat) (i : Nat) (h : i < s.length) : s.drop i = s.getD i 0 :: s.drop (i + 1) := by
  rw [List.drop_eq_getElem_cons h]
  simp [h]

theorem mid_split (l : List Part) (st i : Nat) (h : st < i) : l.drop (st + 1) = (l.drop (st + 1)).take (i - (st + 1)) ++ l.drop i := by
  conv => lhs; rw [← List.take_append_drop (i - (st + 1)) (l.drop (st + 1))]
  rw [List.drop_drop, show st + 1 + (i - (st + 1)) = i by omega]
theorem mid_len (l : List Part) (st i : Nat) (h : st < i) (hi : i ≤ l.length) : ((l.drop (st + 1)).take (i - (st + 1))).length = i - (st + 1) := by
  rw [List.length_take, List.length_drop]
  omega

/-- What a star that has been met leaves: the parts behind it, from a place on. -/
theorem back_front {st : Nat} (h : st < i) (hi : i ≤ l.length) (hk : (l.getD st ⟨0, 0, false, none0⟩).kind = 2) (hn : NoStar ((l.drop (st + 1)).take (i - (st + 1)))) (hm : mt (l.drop st) (s.drop back) = true) (hb : back ≤ s.length) :
    ∃ k, back + k + (i - (st + 1)) ≤ s.length ∧ mt (l.drop i) (s.drop (back + k + (i - (st + 1)))) = true := by
  rw [drop_at l st (by omega), mt_star _ _ hk] at hm
  obtain ⟨k, hk1, hm⟩ := hm
  rw [List.drop_drop, mid_split l st i h] at hm
  obtain ⟨h1, h2⟩ := mt_front _ _ _ hn hm
  rw [mid_len l st i h hi, List.length_drop] at h1
  rw [List.length_drop] at hk1
  rw [mid_len l st i h hi, List.drop_drop] at h2
  exact ⟨k, by omega, h2⟩

theorem MI.back_le (h : MI l s T i a star back) {st : Nat} (e : star = (st : Int)) : back ≤ a := by
  rcases h.h with ⟨h1, _⟩ | ⟨st', h1, h2, h3, _⟩
  · omega
  · omega

theorem MI.start (l : List Part) (s : List Nat) : MI l s (mt l s) 0 0 (-1) 0 := ⟨Nat.zero_le _, Nat.zero_le _, .inl ⟨rfl, rfl⟩⟩

/-- A star. -/
theorem MI.atStar (h : MI l s T i a star back) (hi : i < l.length) (hk : (l.getD i ⟨0, 0, false, none0⟩).kind = 2) : MI l s T (i + 1) a (i : Int) a := by
  refine ⟨hi, h.ha, .inr ⟨i, rfl, by omega, by omega, hk, ?_, ?_, rfl⟩⟩
  · rw [show i + 1 - (i + 1) = 0 by omega, List.take_zero]
    intro p hp; cases hp
  · rcases h.h with ⟨_, h2⟩ | ⟨st, h1, h2, h3, h4, h5, h6, h7⟩
    · exact h2
    · rw [Bool.eq_iff_iff]
      constructor
      · intro hT
        rw [h6] at hT
        obtain ⟨k, hk1, hm⟩ := back_front h2 h.hi h4 h5 hT (by have := h.ha; omega)
        rw [drop_at l i hi] at hm ⊢
        exact mt_star_back _ _ hk s a _ (by omega) hk1 hm
      · intro hm
        rw [h6, drop_at l st (by omega), mt_star _ _ h4]
        exact ⟨0, Nat.zero_le _, by rw [List.drop_zero, h7]; exact hm⟩

/-- A byte that fits. -/
theorem MI.fit (h : MI l s T i a star back) (hi : i < l.length) (ha : a < s.length) (hk : (l.getD i ⟨0, 0, false, none0⟩).kind ≠ 2) (hf : fits (l.getD i ⟨0, 0, false, none0⟩) (s.getD a 0) = true) : MI l s T (i + 1) (a + 1) star back := by
  have e : mt (l.drop i) (s.drop a) = mt (l.drop (i + 1)) (s.drop (a + 1)) := by
    rw [drop_at l i hi, drop_byte s a ha, mt_one _ _ hk, hf, Bool.true_and]
  refine ⟨hi, ha, ?_⟩
  rcases h.h with ⟨h1, h2⟩ | ⟨st, h1, h2, h3, h4, h5, h6, h7⟩
  · exact .inl ⟨h1, h2.trans e⟩
  · refine .inr ⟨st, h1, by omega, by omega, h4, ?_, h6, h7.trans e⟩
    rw [show i + 1 - (st + 1) = i - (st + 1) + 1 by omega]
    intro p hp
    rw [List.take_add_one, List.mem_append] at hp
    rcases hp with hp | hp
    · exact h5 p hp
    · rw [List.getElem?_drop, show st + 1 + (i - (st + 1)) = i by omega] at hp
      have : l[i]? = some (l.getD i ⟨0, 0, false, none0⟩) := by simp [hi]
      rw [this] at hp
      simp at hp
      subst hp
      simpa [hi] using hk

/-- No part, or one that does not fit. -/
theorem no_fit (hk : i < l.length → (l.getD i ⟨0, 0, false, none0⟩).kind ≠ 2) (hf : i < l.length → fits (l.getD i ⟨0, 0, false, none0⟩) (s.getD a 0) = false) (ha : a < s.length) : mt (l.drop i) (s.drop a) = false := by
  rw [drop_byte s a ha]
  by_cases hi : i < l.length
  · rw [drop_at l i hi, mt_one _ _ (hk hi), hf hi, Bool.false_and]
  · rw [List.drop_of_length_le (by omega), mt]

/-- The star takes one more. -/
theorem MI.again {st : Nat} (h : MI l s T i a (st : Int) back) (ha : a < s.length) (hn : mt (l.drop i) (s.drop a) = false) : MI l s T (st + 1) (back + 1) (st : Int) (back + 1) ∧ back < s.length ∧ st + 1 ≤ l.length := by
  have hb := h.back_le rfl
  have hil := h.hi
  rcases h.h with ⟨h1, _⟩ | ⟨st', h1, h2, h3, h4, h5, h6, h7⟩
  · omega
  · have e : st' = st := by omega
    subst e
    refine ⟨⟨by omega, by omega, .inr ⟨st', rfl, by omega, by omega, h4, ?_, ?_, rfl⟩⟩, by omega, by omega⟩
    · rw [show st' + 1 - (st' + 1) = 0 by omega, List.take_zero]
      intro p hp; cases hp
    · rw [h6, drop_at l st' (by omega), drop_byte s back (by omega), mt, if_pos h4]
      rw [← drop_byte s back (by omega), h7, hn, Bool.false_or]

theorem MI.none (h : MI l s T i a (-1) back) (hn : mt (l.drop i) (s.drop a) = false) : T = false := by
  rcases h.h with ⟨_, h2⟩ | ⟨st', h1, _⟩
  · rw [h2, hn]
  · omega

theorem MI.star_cases (h : MI l s T i a star back) : star = -1 ∨ ∃ st : Nat, star = (st : Int) := by
  rcases h.h with ⟨h1, _⟩ | ⟨st', h1, _⟩
  · exact .inl h1
  · exact .inr ⟨st', h1⟩

/-- At the name's end. -/
theorem MI.end' (h : MI l s T i a star back) (ha : a = s.length) : T = mt (l.drop i) [] := by
  subst ha
  have hd : s.drop s.length = [] := List.drop_length
  rcases h.h with ⟨_, h2⟩ | ⟨st, h1, h2, h3, h4, h5, h6, h7⟩
  · rw [h2, hd]
  · rw [hd] at h7
    rw [Bool.eq_iff_iff]
    have hil := h.hi
    constructor
    · intro hT
      rw [h6] at hT
      obtain ⟨k, hk1, hm⟩ := back_front h2 h.hi h4 h5 hT (by omega)
      rw [show back + k + (i - (st + 1)) = s.length by omega, hd] at hm
      exact hm
    · intro hm
      rw [h6, drop_at l st (by omega), mt_star _ _ h4]
      exact ⟨0, Nat.zero_le _, by rw [List.drop_zero, h7]; exact hm⟩

theorem mt_rest_star (hi : i < l.length) (hk : (l.getD i ⟨0, 0, false, none0⟩).kind = 2) : mt (l.drop i) [] = mt (l.drop (i + 1)) [] := by
  rw [drop_at l i hi, mt, hk]
  rfl
theorem mt_rest_end (hi : i ≤ l.length) (hk : i < l.length → (l.getD i ⟨0, 0, false, none0⟩).kind ≠ 2) : mt (l.drop i) [] = (i == l.length) := by
  by_cases h : i < l.length
  · rw [drop_at l i h, mt_one_nil _ _ (hk h)]
    symm
    rw [beq_eq_false_iff_ne]
    omega
  · have : i = l.length := by omega
    subst this
    rw [List.drop_length]
    simp [mt]
end

/-! ### The measure -/
theorem meas_up {S L b b' i : Nat} (hb : b ≤ b') (hi : i < L) : (S + 1 - b') * (L + 2) + (L - (i + 1)) < (S + 1 - b) * (L + 2) + (L - i) := by
  have := Nat.mul_le_mul_right (L + 2) (show S + 1 - b' ≤ S + 1 - b by omega)
  omega
theorem meas_back {S L b i j : Nat} (hb : b < S) (hi : i ≤ L) : (S + 1 - (b + 1)) * (L + 2) + (L - j) < (S + 1 - b) * (L + 2) + (L - i) := by
  rw [show S + 1 - b = (S + 1 - (b + 1)) + 1 by omega, Nat.succ_mul]
  omega

/-! ### Quoting -/
def special (c : Nat) : Bool := c == 63 || c == 42 || c == 91 || c == 92
def quote1 (c : Nat) : List Nat := if special c then [92, c] else [c]
def quote (s : List Nat) : List Nat := s.flatMap quote1
def lit (c : Nat) : Part := ⟨0, c, false, none0⟩

theorem quote_cons (c : Nat) (s : List Nat) : quote (c :: s) = quote1 c ++ quote s := by unfold quote; rw [List.flatMap_cons]
theorem quote_snoc (s : List Nat) (c : Nat) : quote (s ++ [c]) = quote s ++ quote1 c := by unfold quote; rw [List.flatMap_append]; simp
theorem quote1_len (c : Nat) : 1 ≤ (quote1 c).length ∧ (quote1 c).length ≤ 2 := by
  unfold quote1
  split <;> simp
theorem quote_len (s : List Nat) : s.length ≤ (quote s).length ∧ (quote s).length ≤ 2 * s.length := by
  induction s with
  | nil => simp [quote]
  | cons c s ih =>
    rw [quote_cons, List.length_append, List.length_cons]
    have := quote1_len c
    omega
theorem quote_lt {s : List Nat} (h : ∀ v ∈ s, v < 256) : ∀ v ∈ quote s, v < 256 := by
  intro v hv
  unfold quote at hv
  rw [List.mem_flatMap] at hv
  obtain ⟨c, hc, hv⟩ := hv
  have := h c hc
  unfold quote1 at hv
  split at hv
  · simp at hv; omega
  · simp at hv; omega

/-- Reading a list from a place on is reading what lies there. -/
theorem parse_quote_at (t : List Nat) : ∀ (s : List Nat) (a n : Nat), t.drop a = quote s → (quote s).length ≤ n → a ≤ t.length → parseGo t n a = some (s.map lit) := by
  intro s
  induction s with
  | nil =>
    intro a n h hn ha
    have : t.length ≤ a := by
      have := congrArg List.length h
      rw [List.length_drop] at this
      simp [quote] at this
      omega
    cases n with
    | zero => rfl
    | succ n => rw [parseGo, if_pos this]; rfl
  | cons c s ih =>
    intro a n h hn ha
    rw [quote_cons] at h hn
    have hl := congrArg List.length h
    rw [List.length_drop, List.length_append] at hl
    have hq := quote1_len c
    rw [List.length_append] at hn
    obtain ⟨n, rfl⟩ : ∃ m, n = m + 1 := ⟨n - 1, by omega⟩
    have h0 : t.getD a 0 = (quote1 c ++ quote s).getD 0 0 := by rw [← h]; simp [List.getD_eq_getElem?_getD]
    have h1 : t.getD (a + 1) 0 = (quote1 c ++ quote s).getD 1 0 := by rw [← h]; simp [List.getD_eq_getElem?_getD]
    rw [parseGo, if_neg (by omega)]
    by_cases hs : special c = true
    · have e : quote1 c = [92, c] := by unfold quote1; rw [if_pos hs]
      rw [e] at h h0 h1 hl hn
      simp at h0 h1 hl hn
      have h2 : t.drop (a + 2) = quote s := by
        rw [← List.drop_drop, h]; rfl
      have hsg : single t a = some (c, a + 2) := by
        unfold single
        rw [if_neg (by omega), List.getD_eq_getElem?_getD, h0, if_pos rfl, if_pos (by omega), List.getD_eq_getElem?_getD, h1]
      rw [List.getD_eq_getElem?_getD, h0, if_neg (by decide), if_neg (by decide), if_neg (by decide), hsg]
      dsimp only
      rw [ih (a + 2) n h2 (by omega) (by omega)]
      rfl
    · have e : quote1 c = [c] := by unfold quote1; rw [if_neg hs]
      rw [e] at h h0 hl hn
      simp at h0 hl hn
      have h2 : t.drop (a + 1) = quote s := by
        rw [← List.drop_drop, h]; rfl
      have hc : c ≠ 63 ∧ c ≠ 42 ∧ c ≠ 91 ∧ c ≠ 92 := by
        unfold special at hs
        simp at hs
        omega
      have hsg : single t a = some (c, a + 1) := by
        unfold single
        rw [if_neg (by omega), List.getD_eq_getElem?_getD, h0, if_neg hc.2.2.2]
      rw [List.getD_eq_getElem?_getD, h0, if_neg hc.1, if_neg hc.2.1, if_neg hc.2.2.1, hsg]
      dsimp only
      rw [ih (a + 1) n h2 (by omega) (by omega)]
      rfl

theorem parse_quote (s : List Nat) : parse (quote s) = some (s.map lit) := parse_quote_at (quote s) s 0 _ (by simp) (Nat.le_refl _) (Nat.zero_le _)

theorem mt_lit : ∀ (s t : List Nat), mt (s.map lit) t = (s == t) := by
  intro s
  induction s with
  | nil =>
    intro t
    cases t <;> (rw [List.map_nil, mt]; rfl)
  | cons c s ih =>
    intro t
    cases t with
    | nil => rw [List.map_cons, mt_one_nil _ _ (by simp [lit])]; rfl
    | cons d t =>
      rw [List.map_cons, mt_one _ _ (by simp [lit]), ih]
      rfl
end Go.Glob
