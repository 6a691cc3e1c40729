/- Patterns of names, in plain Lean: reading them, and which names are theirs. -/
namespace Go.Glob
set_option linter.unusedVariables false
set_option linter.unusedSimpArgs false

/-- A part of a pattern. -/
structure Part where
  kind : Nat
  byte : Nat
  neg : Bool
  set : Nat → Bool

def fits (p : Part) (c : Nat) : Bool := if p.kind = 0 then p.byte == c else if p.kind = 1 then true else if p.kind = 3 then p.set c != p.neg else false

/-- Is a name one of a pattern's? -/
def mt : List Part → List Nat → Bool
  | [], [] => true
  | [], _ :: _ => false
  | p :: l, [] => p.kind == 2 && mt l []
  | p :: l, c :: s => if p.kind = 2 then mt l (c :: s) || mt (p :: l) s else fits p c && mt l s

/-- A byte, perhaps behind a backslash: the byte, and where it ends. -/
def single (s : List Nat) (at' : Nat) : Option (Nat × Nat) :=
  if s.length ≤ at' then none
  else if s.getD at' 0 = 92 then (if at' + 1 < s.length then some (s.getD (at' + 1) 0, at' + 2) else none)
  else some (s.getD at' 0, at' + 1)

/-- The end of a range. -/
def upper (s : List Nat) (lo a1 : Nat) : Option (Nat × Nat) :=
  if a1 + 1 < s.length ∧ s.getD a1 0 = 45 ∧ s.getD (a1 + 1) 0 ≠ 93 then single s (a1 + 1) else some (lo, a1)

/-- The bytes of a range, beside others. -/
def fill (f : Nat → Bool) (lo hi : Nat) : Nat → Bool := fun c => f c || (decide (lo ≤ c) && decide (c ≤ hi))

/-- A set, from a place on: its bytes, and where it ends. -/
def setGo (s : List Nat) : Nat → Nat → Bool → (Nat → Bool) → Option ((Nat → Bool) × Nat)
  | 0, _, _, _ => none
  | n + 1, at', some', f =>
    if s.length ≤ at' then none
    else if s.getD at' 0 = 93 then (if some' = true then some (f, at' + 1) else none)
    else match single s at' with
      | none => none
      | some (lo, a1) =>
        match upper s lo a1 with
        | none => none
        | some (hi, a2) => if hi < lo then none else setGo s n a2 true (fill f lo hi)

def isNot (s : List Nat) : Bool := decide (0 < s.length) && s.getD 0 0 == 33

def setS (s : List Nat) : Option (Part × Nat) :=
  match setGo s (s.length + 1) (if isNot s then 1 else 0) false (fun _ => false) with
  | none => none
  | some (f, k) => some (⟨3, 0, isNot s, f⟩, k)

def none0 : Nat → Bool := fun _ => false

/-- A pattern, from a place on. -/
def parseGo (s : List Nat) : Nat → Nat → Option (List Part)
  | 0, _ => some []
  | n + 1, at' =>
    if s.length ≤ at' then some []
    else if s.getD at' 0 = 63 then (parseGo s n (at' + 1)).map (⟨1, 0, false, none0⟩ :: ·)
    else if s.getD at' 0 = 42 then (parseGo s n (at' + 1)).map (⟨2, 0, false, none0⟩ :: ·)
    else if s.getD at' 0 = 91 then
      match setS (s.drop (at' + 1)) with
      | none => none
      | some (p, k) => (parseGo s n (at' + 1 + k)).map (p :: ·)
    else match single s at' with
      | none => none
      | some (c, a1) => (parseGo s n a1).map (⟨0, c, false, none0⟩ :: ·)

def parse (s : List Nat) : Option (List Part) := parseGo s s.length 0

theorem single_pos {s : List Nat} {a c a1 : Nat} (h : single s a = some (c, a1)) : a < a1 ∧ a1 ≤ s.length ∧ a < s.length := by
  unfold single at h
  split at h
  · cases h
  · split at h
    · split at h
      · injection h with h; injection h with _ h; omega
      · cases h
    · injection h with h; injection h with _ h; omega

theorem upper_pos {s : List Nat} {lo a1 hi a2 : Nat} (h : upper s lo a1 = some (hi, a2)) (h1 : a1 ≤ s.length) : a1 ≤ a2 ∧ a2 ≤ s.length := by
  unfold upper at h
  split at h
  · have := single_pos h; omega
  · injection h with h; injection h with _ h; omega

theorem setGo_more (s : List Nat) : ∀ (n m at' : Nat) (b : Bool) (f : Nat → Bool), s.length - at' < n → s.length - at' < m → setGo s n at' b f = setGo s m at' b f := by
  intro n
  induction n with
  | zero => intro m at' b f h; omega
  | succ n ih =>
    intro m at' b f hn hm
    obtain ⟨m, rfl⟩ : ∃ k, m = k + 1 := ⟨m - 1, by omega⟩
    rw [setGo, setGo]
    split
    · rfl
    · split
      · rfl
      · cases hs : single s at' with
        | none => rfl
        | some x =>
          obtain ⟨lo, a1⟩ := x
          have h1 := single_pos hs
          dsimp only
          cases hu : upper s lo a1 with
          | none => rfl
          | some y =>
            obtain ⟨hi, a2⟩ := y
            have h2 := upper_pos hu h1.2.1
            dsimp only
            split
            · rfl
            · exact ih _ _ _ _ (by omega) (by omega)

theorem setGo_end {s : List Nat} : ∀ (n at' : Nat) (b : Bool) (f g : Nat → Bool) (k : Nat), setGo s n at' b f = some (g, k) → at' < k ∧ k ≤ s.length := by
  intro n
  induction n with
  | zero => intro at' b f g k h; cases h
  | succ n ih =>
    intro at' b f g k h
    rw [setGo] at h
    split at h
    · cases h
    · split at h
      · split at h
        · injection h with h; injection h with _ h; omega
        · cases h
      · cases hs : single s at' with
        | none => rw [hs] at h; cases h
        | some x =>
          obtain ⟨lo, a1⟩ := x
          have h1 := single_pos hs
          rw [hs] at h
          dsimp only at h
          cases hu : upper s lo a1 with
          | none => rw [hu] at h; cases h
          | some y =>
            obtain ⟨hi, a2⟩ := y
            have h2 := upper_pos hu h1.2.1
            rw [hu] at h
            dsimp only at h
            split at h
            · cases h
            · have := ih _ _ _ _ _ h
              omega

theorem setS_end {s : List Nat} {p : Part} {k : Nat} (h : setS s = some (p, k)) : 0 < k ∧ k ≤ s.length := by
  unfold setS at h
  split at h
  · cases h
  · rename_i f k' hg
    injection h with h
    injection h with _ h
    subst h
    have := setGo_end _ _ _ _ _ _ hg
    omega

theorem parseGo_more (s : List Nat) : ∀ (n m at' : Nat), s.length - at' ≤ n → s.length - at' ≤ m → parseGo s n at' = parseGo s m at' := by
  intro n
  induction n with
  | zero =>
    intro m at' hn hm
    cases m with
    | zero => rfl
    | succ m => rw [parseGo, parseGo, if_pos (by omega)]
  | succ n ih =>
    intro m at' hn hm
    by_cases hl : s.length ≤ at'
    · cases m with
      | zero => rw [parseGo, parseGo, if_pos hl]
      | succ m => rw [parseGo, parseGo, if_pos hl, if_pos hl]
    · obtain ⟨m, rfl⟩ : ∃ k, m = k + 1 := ⟨m - 1, by omega⟩
      rw [parseGo, parseGo, if_neg hl, if_neg hl]
      rw [ih m (at' + 1) (by omega) (by omega)]
      cases hs : setS (s.drop (at' + 1)) with
      | none =>
        cases h1 : single s at' with
        | none => rfl
        | some x =>
          obtain ⟨c, a1⟩ := x
          have := single_pos h1
          dsimp only
          rw [ih m a1 (by omega) (by omega)]
      | some y =>
        obtain ⟨p, k⟩ := y
        have hk := setS_end hs
        rw [List.length_drop] at hk
        dsimp only
        rw [ih m (at' + 1 + k) (by omega) (by omega)]
        cases h1 : single s at' with
        | none => rfl
        | some x =>
          obtain ⟨c, a1⟩ := x
          have := single_pos h1
          dsimp only
          rw [ih m a1 (by omega) (by omega)]

/-! ### What names are a pattern's: from the front, and by beginnings -/

theorem mt_nil (s : List Nat) : mt [] s = s.isEmpty := by cases s <;> simp [mt]

theorem mt_one (p : Part) (l : List Part) (h : p.kind ≠ 2) (c : Nat) (s : List Nat) : mt (p :: l) (c :: s) = (fits p c && mt l s) := by rw [mt, if_neg h]
theorem mt_one_nil (p : Part) (l : List Part) (h : p.kind ≠ 2) : mt (p :: l) [] = false := by rw [mt]; simp [h]

theorem mt_star (p : Part) (l : List Part) (h : p.kind = 2) : ∀ s, mt (p :: l) s = true ↔ ∃ k, k ≤ s.length ∧ mt l (s.drop k) = true := by
  intro s
  induction s with
  | nil =>
    rw [mt]
    simp only [h, beq_self_eq_true, Bool.true_and]
    constructor
    · intro hh; exact ⟨0, Nat.le_refl _, hh⟩
    · rintro ⟨k, _, hh⟩; simpa using hh
  | cons c s ih =>
    rw [mt, if_pos h, Bool.or_eq_true, ih]
    constructor
    · rintro (hh | ⟨k, hk, hh⟩)
      · exact ⟨0, Nat.zero_le _, hh⟩
      · exact ⟨k + 1, by simpa using hk, by simpa using hh⟩
    · rintro ⟨k, hk, hh⟩
      cases k with
      | zero => exact .inl hh
      | succ k => exact .inr ⟨k, by simpa using hk, by simpa using hh⟩

/-- A star takes more. -/
theorem mt_star_back (p : Part) (l : List Part) (h : p.kind = 2) (s : List Nat) (j k : Nat) (hjk : j ≤ k) (hk : k ≤ s.length) (hm : mt (p :: l) (s.drop k) = true) : mt (p :: l) (s.drop j) = true := by
  rw [mt_star p l h] at hm ⊢
  obtain ⟨q, hq, hm⟩ := hm
  rw [List.length_drop] at hq
  refine ⟨k - j + q, by rw [List.length_drop]; omega, ?_⟩
  rw [List.drop_drop] at hm ⊢
  rw [show j + (k - j + q) = k + q by omega]
  exact hm

/-- No part of these is a star. -/
def NoStar (l : List Part) : Prop := ∀ p ∈ l, p.kind ≠ 2

/-- Parts that are no stars take a byte each. -/
theorem mt_front : ∀ (l r : List Part) (s : List Nat), NoStar l → mt (l ++ r) s = true → l.length ≤ s.length ∧ mt r (s.drop l.length) = true := by
  intro l
  induction l with
  | nil => intro r s _ h; exact ⟨Nat.zero_le _, h⟩
  | cons p l ih =>
    intro r s hn h
    have hp := hn p (by simp)
    cases s with
    | nil => rw [List.cons_append, mt_one_nil p _ hp] at h; cases h
    | cons c s =>
      rw [List.cons_append, mt_one p _ hp, Bool.and_eq_true] at h
      obtain ⟨h1, h2⟩ := ih r s (fun q hq => hn q (by simp [hq])) h.2
      exact ⟨by simp; omega, by simpa using h2⟩
end Go.Glob
