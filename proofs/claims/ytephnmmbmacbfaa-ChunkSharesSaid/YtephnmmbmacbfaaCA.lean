/- Bytes cut where their sums say, in plain Lean. -/
namespace Go.Chunk
set_option linter.unusedVariables false
set_option linter.unusedSimpArgs false

abbrev M : Int := 18446744073709551616
abbrev F : Int := 1099511628211

/-- The sum of bytes, each spread by sp, going on. -/
def sumF (sp : Nat → Int) : List Nat → Int → Int
  | [], s => s
  | c :: l, s => sumF sp l ((s * F % M + sp c) % M)

def sumB (sp : Nat → Int) (l : List Nat) : Int := sumF sp l 0

theorem sumF_snoc (sp : Nat → Int) (l : List Nat) (c : Nat) (s : Int) : sumF sp (l ++ [c]) s = (sumF sp l s * F % M + sp c) % M := by
  induction l generalizing s with
  | nil => rfl
  | cons d l ih => exact ih _

theorem sumB_snoc (sp : Nat → Int) (l : List Nat) (c : Nat) : sumB sp (l ++ [c]) = (sumB sp l * F % M + sp c) % M := sumF_snoc sp l c 0

theorem sumF_range (sp : Nat → Int) (l : List Nat) (s : Int) (h : 0 ≤ s ∧ s < M) : 0 ≤ sumF sp l s ∧ sumF sp l s < M := by
  induction l generalizing s with
  | nil => exact h
  | cons c l ih => exact ih _ ⟨Int.emod_nonneg _ (by decide), Int.emod_lt_of_pos _ (by decide)⟩

theorem sumB_range (sp : Nat → Int) (l : List Nat) : 0 ≤ sumB sp l ∧ sumB sp l < M := sumF_range sp l 0 ⟨by decide, by decide⟩

theorem mod_wit (x : Int) : ∃ k, x % M = x + M * k := ⟨-(x / M), by rw [Int.emod_def, Int.mul_neg]; rfl⟩

/-- What stands ahead counts by a power. -/
theorem sumF_from (sp : Nat → Int) (l : List Nat) : ∀ s : Int, ∃ k, sumF sp l s = s * F ^ l.length + sumF sp l 0 + M * k := by
  induction l with
  | nil => intro s; exact ⟨0, by simp [sumF]⟩
  | cons c l ih =>
    intro s
    rw [sumF, sumF, List.length_cons]
    obtain ⟨k1, e1⟩ := mod_wit (s * F)
    obtain ⟨k2, e2⟩ := mod_wit (s * F % M + sp c)
    obtain ⟨k3, e3⟩ := mod_wit (0 * F)
    obtain ⟨k4, e4⟩ := mod_wit (0 * F % M + sp c)
    obtain ⟨k5, e5⟩ := ih ((s * F % M + sp c) % M)
    obtain ⟨k6, e6⟩ := ih ((0 * F % M + sp c) % M)
    rw [e5, e6, e2, e4, e1, e3]
    have hp : F ^ (l.length + 1) = F ^ l.length * F := Int.pow_succ _ _
    rw [hp]
    generalize F ^ l.length = P
    generalize sumF sp l 0 = S
    refine ⟨(k1 + k2 - k3 - k4) * P + k5 - k6, ?_⟩
    generalize F = f
    generalize M = m
    grind

/-- A byte goes, another one comes. -/
theorem sumB_roll (sp : Nat → Int) (x : Nat) (l : List Nat) (c : Nat) (s g : Int) (hs : s = sumB sp (x :: l)) (hg : g % M = F ^ (l.length + 1) % M) :
    sumB sp (l ++ [c]) = (s * F + sp c - sp x * g) % M := by
  rw [sumB_snoc, hs]
  unfold sumB
  rw [sumF]
  obtain ⟨k1, e1⟩ := sumF_from sp l ((0 * F % M + sp x) % M)
  obtain ⟨k2, e2⟩ := mod_wit (0 * F % M + sp x)
  obtain ⟨k3, e3⟩ := mod_wit (0 * F)
  obtain ⟨k4, e4⟩ := mod_wit g
  obtain ⟨k5, e5⟩ := mod_wit (F ^ (l.length + 1))
  obtain ⟨k6, e6⟩ := mod_wit (sumF sp l 0 * F)
  rw [e1, e2, e3, e6]
  rw [e4, e5] at hg
  have hp : F ^ (l.length + 1) = F ^ l.length * F := Int.pow_succ _ _
  rw [hp] at hg
  generalize F ^ l.length = P at *
  generalize sumF sp l 0 = S at *
  have key : ∃ k, (S * F + M * k6 + sp c) = ((((0 * F + M * k3 + sp x) + M * k2) * P + S + M * k1) * F + sp c - sp x * g) + M * k := by
    refine ⟨k6 - (k3 + k2) * P * F - k1 * F + sp x * (k5 - k4), ?_⟩
    have hg' : g = P * F + M * k5 - M * k4 := by omega
    rw [hg']
    generalize F = f
    generalize M = m
    grind
  obtain ⟨k, hk⟩ := key
  rw [hk, Int.add_mul_emod_self_left]

/-- Do bytes of this sum end a piece? -/
def stops (bits : Nat) (s : Int) : Bool := s / 1048576 % (2 ^ bits : Nat) == 0

/-- The sum of the sixteen bytes ahead of a place. -/
def win (sp : Nat → Int) (b : List Nat) (n : Nat) : Int := sumB sp ((b.drop (n - 16)).take 16)

/-- Where the piece ends, from n on. -/
def scan (sp : Nat → Int) (most bits : Nat) (b : List Nat) : Nat → Nat → Nat
  | 0, n => n
  | f + 1, n => if n = most ∨ n = b.length ∨ stops bits (win sp b n) = true then n else scan sp most bits b f (n + 1)

def next (sp : Nat → Int) (least most bits : Nat) (b : List Nat) : Nat :=
  if b.length ≤ least then b.length else scan sp most bits b (b.length - least) least

theorem scan_le (sp : Nat → Int) (most bits : Nat) (b : List Nat) (f n : Nat) (h : n + f ≤ b.length) : n ≤ scan sp most bits b f n ∧ scan sp most bits b f n ≤ b.length := by
  induction f generalizing n with
  | zero => exact ⟨Nat.le_refl _, h⟩
  | succ f ih =>
    rw [scan]
    split
    · exact ⟨Nat.le_refl _, by omega⟩
    · have := ih (n + 1) (by omega)
      exact ⟨by omega, this.2⟩

theorem next_le (sp : Nat → Int) (least most bits : Nat) (b : List Nat) : next sp least most bits b ≤ b.length := by
  unfold next
  split
  · exact Nat.le_refl _
  · exact (scan_le sp most bits b _ _ (by omega)).2

theorem next_pos (sp : Nat → Int) (least most bits : Nat) (b : List Nat) (h : 0 < least) (hb : b ≠ []) : 0 < next sp least most bits b := by
  have hl : 0 < b.length := List.length_pos_iff.2 hb
  unfold next
  split
  · exact hl
  · have := (scan_le sp most bits b (b.length - least) least (by omega)).1
    omega

/-- The pieces' lengths. -/
def cutF (sp : Nat → Int) (least most bits : Nat) : Nat → List Nat → List Nat
  | 0, _ => []
  | f + 1, b => if b = [] then [] else next sp least most bits b :: cutF sp least most bits f (b.drop (next sp least most bits b))

def cut (sp : Nat → Int) (least most bits : Nat) (b : List Nat) : List Nat := cutF sp least most bits b.length b

theorem cutF_more (sp : Nat → Int) (least most bits : Nat) (hl : 0 < least) (f g : Nat) (b : List Nat) (hf : b.length ≤ f) (hg : b.length ≤ g) : cutF sp least most bits f b = cutF sp least most bits g b := by
  induction f generalizing g b with
  | zero =>
    have : b = [] := List.eq_nil_of_length_eq_zero (by omega)
    subst this
    cases g <;> simp [cutF]
  | succ f ih =>
    by_cases hb : b = []
    · subst hb; cases g <;> simp [cutF]
    · have hlen : 0 < b.length := List.length_pos_iff.2 hb
      obtain ⟨g, rfl⟩ : ∃ g', g = g' + 1 := ⟨g - 1, by omega⟩
      rw [cutF, cutF, if_neg hb, if_neg hb]
      have h1 := next_pos sp least most bits b hl hb
      have h2 := next_le sp least most bits b
      rw [ih g _ (by simp; omega) (by simp; omega)]

theorem cut_nil (sp : Nat → Int) (least most bits : Nat) : cut sp least most bits [] = [] := rfl

theorem cut_cons (sp : Nat → Int) (least most bits : Nat) (b : List Nat) (hl : 0 < least) (hb : b ≠ []) : cut sp least most bits b = next sp least most bits b :: cut sp least most bits (b.drop (next sp least most bits b)) := by
  have hlen : 0 < b.length := List.length_pos_iff.2 hb
  have h1 := next_pos sp least most bits b hl hb
  have h2 := next_le sp least most bits b
  unfold cut
  obtain ⟨k, hk⟩ : ∃ k, b.length = k + 1 := ⟨b.length - 1, by omega⟩
  rw [hk, cutF, if_neg hb]
  congr 1
  exact cutF_more sp least most bits hl _ _ _ (by simp; omega) (by simp)

theorem cut_sum (sp : Nat → Int) (least most bits : Nat) (hl : 0 < least) : ∀ (n : Nat) (b : List Nat), b.length = n → (cut sp least most bits b).sum = b.length := by
  intro n
  induction n using Nat.strongRecOn with
  | _ n ih =>
    intro b hn
    by_cases hb : b = []
    · subst hb; rfl
    · have h1 := next_pos sp least most bits b hl hb
      have h2 := next_le sp least most bits b
      have hlen : 0 < b.length := List.length_pos_iff.2 hb
      rw [cut_cons sp least most bits b hl hb, List.sum_cons, ih (b.length - next sp least most bits b) (by omega) _ (by simp)]
      simp
      omega

/-- The pieces from a place on. -/
def cutsAt (sp : Nat → Int) (least most bits : Nat) (b : List Nat) (at' : Nat) : List (Nat × Nat) :=
  (List.range (cut sp least most bits (b.drop at')).length).map fun i => (at' + ((cut sp least most bits (b.drop at')).take i).sum, (cut sp least most bits (b.drop at')).getD i 0)

theorem scan_step (sp : Nat → Int) (most bits : Nat) (b : List Nat) (f n : Nat) (h : ¬ (n = most ∨ n = b.length ∨ stops bits (win sp b n) = true)) : scan sp most bits b (f + 1) n = scan sp most bits b f (n + 1) := by
  rw [scan, if_neg h]

theorem scan_here (sp : Nat → Int) (most bits : Nat) (b : List Nat) (f n : Nat) (h : n = most ∨ n = b.length ∨ stops bits (win sp b n) = true) : scan sp most bits b f n = n := by
  cases f with
  | zero => rfl
  | succ f => rw [scan, if_pos h]

theorem win_next (sp : Nat → Int) (b : List Nat) (n : Nat) (g : Int) (h16 : 16 ≤ n) (hn : n < b.length) (hg : g % M = F ^ 16 % M) : win sp b (n + 1) = (win sp b n * F + sp (b.getD n 0) - sp (b.getD (n - 16) 0) * g) % M := by
  unfold win
  obtain ⟨k, rfl⟩ : ∃ k, n = k + 16 := ⟨n - 16, by omega⟩
  rw [show k + 16 + 1 - 16 = k + 1 by omega, show k + 16 - 16 = k by omega]
  have e : b.drop k = b.getD k 0 :: b.drop (k + 1) := by
    rw [List.drop_eq_getElem_cons (by omega)]
    have hk : k < b.length := by omega
    simp [hk]
  rw [e, List.take_succ_cons]
  have hl : ((b.drop (k + 1)).take 15).length = 15 := by rw [List.length_take, List.length_drop]; omega
  have h1 := sumB_roll sp (b.getD k 0) ((b.drop (k + 1)).take 15) (b.getD (k + 16) 0) _ g rfl (by rw [hl]; exact hg)
  rw [← h1]
  congr 1
  have h15 : 15 < (b.drop (k + 1)).length := by rw [List.length_drop]; omega
  rw [List.take_succ_eq_append_getElem h15]
  congr 2
  have hk : k + 16 < b.length := by omega
  simp [hk, Nat.add_assoc, Nat.add_comm]
end Go.Chunk
