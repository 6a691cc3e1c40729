/- Bytes told by blocks of others, in plain Lean. -/
namespace Go.Delta
set_option linter.unusedVariables false
set_option linter.unusedSimpArgs false


/-- The two sums of bytes, going on. -/
def wkF : List Nat → Nat → Nat → Nat × Nat
  | [], a, b => (a, b)
  | c :: l, a, b => wkF l ((a + c) % 4294967296) ((b + (a + c) % 4294967296) % 4294967296)

def wk (l : List Nat) : Nat × Nat := wkF l 0 0

theorem wkF_lt (l : List Nat) (a b : Nat) (ha : a < 4294967296) (hb : b < 4294967296) : (wkF l a b).1 < 4294967296 ∧ (wkF l a b).2 < 4294967296 := by
  induction l generalizing a b with
  | nil => exact ⟨ha, hb⟩
  | cons c l ih => exact ih _ _ (Nat.mod_lt _ (by decide)) (Nat.mod_lt _ (by decide))

theorem wk_lt (l : List Nat) : (wk l).1 < 4294967296 ∧ (wk l).2 < 4294967296 := wkF_lt l 0 0 (by decide) (by decide)

theorem wkF_snoc (l : List Nat) (c a b : Nat) : wkF (l ++ [c]) a b = (((wkF l a b).1 + c) % 4294967296, ((wkF l a b).2 + ((wkF l a b).1 + c) % 4294967296) % 4294967296) := by
  induction l generalizing a b with
  | nil => rfl
  | cons d l ih => exact ih _ _

theorem wk_snoc (l : List Nat) (c : Nat) : wk (l ++ [c]) = (((wk l).1 + c) % 4294967296, ((wk l).2 + ((wk l).1 + c) % 4294967296) % 4294967296) := wkF_snoc l c 0 0

/-- What stands where the sums begin. -/
theorem wkF_from (l : List Nat) (a b : Nat) : (wkF l a b).1 % 4294967296 = (a + l.sum) % 4294967296 ∧ ((wkF l a b).2) % 4294967296 = (b + l.length * a + (wkF l 0 0).2) % 4294967296 := by
  have key : ∀ (l : List Nat) (a b : Nat), (wkF l a b).1 % 4294967296 = (a + l.sum) % 4294967296 := by
    intro l
    induction l with
    | nil => intro a b; simp [wkF]
    | cons c l ih =>
      intro a b
      rw [wkF, ih]
      simp only [List.sum_cons]
      omega
  refine ⟨key l a b, ?_⟩
  induction l generalizing a b with
  | nil => simp [wkF]
  | cons c l ih =>
    have h1 := ih ((a + c) % 4294967296) ((b + (a + c) % 4294967296) % 4294967296)
    have h2 := ih ((0 + c) % 4294967296) ((0 + (0 + c) % 4294967296) % 4294967296)
    have e1 : wkF (c :: l) a b = wkF l ((a + c) % 4294967296) ((b + (a + c) % 4294967296) % 4294967296) := rfl
    have e2 : wkF (c :: l) 0 0 = wkF l ((0 + c) % 4294967296) ((0 + (0 + c) % 4294967296) % 4294967296) := rfl
    rw [e1, e2, h1, List.length_cons]
    have h2' : ((wkF l ((0 + c) % 4294967296) ((0 + (0 + c) % 4294967296) % 4294967296)).2) % 4294967296 = (c + l.length * c + (wkF l 0 0).2) % 4294967296 := by
      rw [h2, Nat.zero_add, Nat.zero_add]
      have m1 : c % 4294967296 % 4294967296 = c % 4294967296 := Nat.mod_mod _ _
      rw [m1]
      have m2 : l.length * (c % 4294967296) % 4294967296 = l.length * c % 4294967296 := by rw [Nat.mul_mod, Nat.mod_mod, ← Nat.mul_mod]
      generalize l.length * (c % 4294967296) = p at *
      generalize l.length * c = q at *
      omega
    have m3 : l.length * ((a + c) % 4294967296) % 4294967296 = l.length * (a + c) % 4294967296 := by rw [Nat.mul_mod, Nat.mod_mod, ← Nat.mul_mod]
    have m4 : l.length * (a + c) = l.length * a + l.length * c := Nat.mul_add _ _ _
    have m5 : (l.length + 1) * a = l.length * a + a := by rw [Nat.add_mul, Nat.one_mul]
    rw [m5]
    rw [m4] at m3
    generalize l.length * ((a + c) % 4294967296) = p at *
    generalize l.length * a = u at *
    generalize l.length * c = v at *
    generalize (wkF l ((0 + c) % 4294967296) ((0 + (0 + c) % 4294967296) % 4294967296)).2 = z at *
    generalize (wkF l 0 0).2 = y at *
    omega

/-- A byte goes, another one comes. -/
def roll (s : Nat × Nat) (n out inn : Nat) : Nat × Nat :=
  let a := (s.1 + (inn + (4294967296 - out))) % 4294967296
  (a, (s.2 + (a + (4294967296 - n * out % 4294967296))) % 4294967296)

theorem wk_roll (x : Nat) (l : List Nat) (c : Nat) (hx : x < 256) : roll (wk (x :: l)) (l.length + 1) x c = wk (l ++ [c]) := by
  have hl := wk_lt (x :: l)
  have hl2 := wk_lt l
  have h1 := wkF_from l ((0 + x) % 4294967296) ((0 + (0 + x) % 4294967296) % 4294967296)
  have h0 := (wkF_from l 0 0).1
  have e1 : wk (x :: l) = wkF l ((0 + x) % 4294967296) ((0 + (0 + x) % 4294967296) % 4294967296) := rfl
  have m : x % 4294967296 = x := Nat.mod_eq_of_lt (by omega)
  rw [Nat.zero_add, m] at h1 e1
  rw [Nat.zero_add] at h1 e1
  rw [m] at h1 e1
  rw [← e1] at h1
  rw [wk_snoc]
  have e2 : wk l = wkF l 0 0 := rfl
  rw [e2] at hl2 ⊢
  unfold roll
  dsimp only
  have m5 : (l.length + 1) * x = l.length * x + x := by rw [Nat.add_mul, Nat.one_mul]
  rw [m5]
  obtain ⟨h1a, h1b⟩ := h1
  rw [Nat.zero_add] at h0
  generalize l.length * x = u at *
  generalize l.sum = t at *
  generalize wk (x :: l) = s at *
  generalize wkF l 0 0 = r at *
  obtain ⟨sa, sb⟩ := s
  obtain ⟨ra, rb⟩ := r
  dsimp only at *

  refine Prod.ext ?_ ?_
  · dsimp only; omega
  · dsimp only; omega
end Go.Delta
