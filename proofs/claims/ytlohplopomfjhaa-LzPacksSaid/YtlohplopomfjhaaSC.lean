/- What is put is taken again, in plain Lean. -/
import Derived.Test.YtlohplopomfjhaaSB
namespace Go.Bits
set_option linter.unusedVariables false
set_option linter.unusedSimpArgs false

theorem tv_app (A R : List Bool) (k : Nat) (h : k ≤ A.length) : tv (A ++ R) k = tv A k := by
  induction k with
  | zero => rfl
  | succ k ih =>
    simp only [tv]
    rw [ih (by omega)]
    congr 2
    simp only [List.getD_eq_getElem?_getD]
    rw [List.getElem?_append_left (by omega)]

theorem tv_all (A : List Bool) : tv A A.length = val A.reverse := by
  have h : ∀ B : List Bool, tv B.reverse B.length = val B := by
    intro B
    induction B with
    | nil => rfl
    | cons b B ih =>
      have hl : B.length ≤ B.reverse.length := by simp
      simp only [List.reverse_cons, List.length_cons, tv, val]
      rw [tv_app _ _ _ hl, ih]
      have e : (B.reverse ++ [b]).getD B.length false = b := by
        simp only [List.getD_eq_getElem?_getD]
        rw [List.getElem?_append_right (by simp)]
        simp
      rw [e]
      omega
  have := h A.reverse
  simpa using this

theorem tv_row (A R : List Bool) : tv (A ++ R) A.length = val A.reverse := by
  rw [tv_app _ _ _ (Nat.le_refl _), tv_all]

theorem tv_back (x n : Nat) (R : List Bool) : tv ((bitsN x n).reverse ++ R) n = x % 2 ^ n := by
  have h := tv_row (bitsN x n).reverse R
  rw [List.length_reverse, bitsN_len, List.reverse_reverse, val_bitsN] at h
  exact h

theorem val_front (x n : Nat) (R : List Bool) : val ((bitsN x n ++ R).take n) = x % 2 ^ n := by
  have h : (bitsN x n ++ R).take n = bitsN x n := by
    rw [List.take_append_of_le_length (by rw [bitsN_len]; omega), List.take_of_length_le (by rw [bitsN_len]; omega)]
  rw [h, val_bitsN]

theorem drop_front (x n : Nat) (R : List Bool) : (bitsN x n ++ R).drop n = R := by
  have := List.drop_left (l₁ := bitsN x n) (l₂ := R)
  rwa [bitsN_len] at this

theorem drop_back (x n : Nat) (R : List Bool) : ((bitsN x n).reverse ++ R).drop n = R := by
  have := List.drop_left (l₁ := (bitsN x n).reverse) (l₂ := R)
  rwa [List.length_reverse, bitsN_len] at this

theorem gz_row (k f s : Nat) (R : List Bool) (h : k < f) : gz f (List.replicate k false ++ true :: R) s = (true, s + k, R) := by
  induction k generalizing f s with
  | zero =>
    obtain ⟨f, rfl⟩ : ∃ f', f = f' + 1 := ⟨f - 1, by omega⟩
    rfl
  | succ k ih =>
    obtain ⟨f, rfl⟩ : ∃ f', f = f' + 1 := ⟨f - 1, by omega⟩
    rw [List.replicate_succ, List.cons_append]
    show gz f (List.replicate k false ++ true :: R) (s + 1) = _
    rw [ih f (s + 1) (by omega)]
    congr 2
    omega

theorem gam_zero : gam 0 = [] := by simp [gam, size_zero, bitsN]

theorem gam_eq (x : Nat) (h : 0 < x) : gam x = List.replicate (size x - 1) false ++ true :: (bitsN x (size x - 1)).reverse := by
  have h1 := size_ge x h
  have h2 := lt_size x
  have h3 : size x = size x - 1 + 1 := by rw [size_pos x h]; omega
  unfold gam
  congr 1
  generalize size x - 1 = n at *
  rw [h3] at h2 ⊢
  rw [bitsN_snoc]
  have e : x / 2 ^ n = 1 := by
    rw [Nat.pow_succ] at h2
    have hp : 0 < 2 ^ n := Nat.pos_of_ne_zero (by simp)
    exact Nat.div_eq_of_lt_le (by omega) (by omega)
  rw [e]
  simp

theorem gamS_back (x : Nat) (h : 0 < x) (hx : x < 18446744073709551616) (R : List Bool) : gamS (gam x ++ R) false = (x, R, false) := by
  have h1 := size_ge x h
  have h2 := lt_size x
  have h3 : size x = size x - 1 + 1 := by rw [size_pos x h]; omega
  have h4 := size_le x 64 hx
  have hz := gz_row (size x - 1) 64 0 ((bitsN x (size x - 1)).reverse ++ R) (by omega)
  have hg : gam x ++ R = List.replicate (size x - 1) false ++ true :: ((bitsN x (size x - 1)).reverse ++ R) := by
    rw [gam_eq x h]; simp
  generalize size x - 1 = n at *
  rw [hg]
  unfold gamS
  simp only [hz, Nat.zero_add]
  have hl : ¬ ((bitsN x n).reverse ++ R).length < n := by simp [bitsN_len]
  rw [tv_back, drop_back]
  simp only [if_neg hl, Bool.false_eq_true, if_false, if_true]
  congr 1
  rw [h3, Nat.pow_succ] at h2
  have hp : 0 < 2 ^ n := Nat.pos_of_ne_zero (by simp)
  rw [Nat.mod_eq_sub_mod h1, Nat.mod_eq_of_lt (by omega)]
  omega

theorem ofB_pk_app (l : List Bool) : ∃ p : List Bool, ofB (pk l) = l ++ p ∧ p.length < 8 := by
  refine ⟨(ofB (pk l)).drop l.length, ?_, ?_⟩
  · have h : (ofB (pk l)).take l.length = l := by
      apply List.ext_getElem
      · rw [List.length_take, ofB_len, pk_len]; omega
      intro i h1 h2
      have := ofB_pk l i h2
      have hi : i < (ofB (pk l)).length := by rw [ofB_len, pk_len]; omega
      rw [List.getElem_take]
      simpa [hi, h2] using this
    conv => lhs; rw [← List.take_append_drop l.length (ofB (pk l)), h]
  · rw [List.length_drop, ofB_len, pk_len]; omega
end Go.Bits
