/- Rows of bits, in plain Lean: a number's bits, bits in bytes, what is taken from the front. -/
namespace Go.Bits
set_option linter.unusedVariables false
set_option linter.unusedSimpArgs false

/-- A number's bits, so many, the least first. -/
def bitsN : Nat → Nat → List Bool
  | _, 0 => []
  | x, n + 1 => (x % 2 == 1) :: bitsN (x / 2) n

theorem bitsN_len (x n : Nat) : (bitsN x n).length = n := by
  induction n generalizing x with
  | zero => rfl
  | succ n ih => simp [bitsN, ih]

theorem bitsN_get (x n k : Nat) (h : k < n) : (bitsN x n).getD k false = (x / 2 ^ k % 2 == 1) := by
  induction n generalizing x k with
  | zero => omega
  | succ n ih =>
    cases k with
    | zero => simp [bitsN]
    | succ k =>
      simp only [bitsN, List.getD_cons_succ]
      rw [ih _ _ (by omega), Nat.div_div_eq_div_mul, Nat.pow_succ, Nat.mul_comm 2]

theorem bitsN_snoc (x n : Nat) : bitsN x (n + 1) = bitsN x n ++ [x / 2 ^ n % 2 == 1] := by
  induction n generalizing x with
  | zero => simp [bitsN]
  | succ n ih =>
    rw [bitsN, ih, bitsN, List.cons_append, Nat.div_div_eq_div_mul, Nat.pow_succ, Nat.mul_comm 2]

/-- A row of bits as a number, the least first. -/
def val : List Bool → Nat
  | [] => 0
  | b :: l => b.toNat + 2 * val l

theorem val_lt (l : List Bool) : val l < 2 ^ l.length := by
  induction l with
  | nil => simp [val]
  | cons b l ih =>
    have hb : b.toNat ≤ 1 := by cases b <;> simp
    simp only [val, List.length_cons, Nat.pow_succ]
    omega

theorem val_snoc (l : List Bool) (b : Bool) : val (l ++ [b]) = val l + b.toNat * 2 ^ l.length := by
  induction l with
  | nil => simp [val]
  | cons c l ih =>
    simp only [List.cons_append, val, ih, List.length_cons, Nat.pow_succ]
    have e : 2 * (b.toNat * 2 ^ l.length) = b.toNat * (2 ^ l.length * 2) := by rw [Nat.mul_left_comm, Nat.mul_comm 2]
    rw [Nat.mul_add, e]
    omega

theorem val_bitsN (x n : Nat) : val (bitsN x n) = x % 2 ^ n := by
  induction n generalizing x with
  | zero => simp [bitsN, val, Nat.mod_one]
  | succ n ih =>
    simp only [bitsN, val, ih]
    have h : (x % 2 == 1).toNat = x % 2 := by
      rcases Nat.mod_two_eq_zero_or_one x with h | h <;> simp [h]
    rw [h, Nat.pow_succ, Nat.mul_comm (2 ^ n), Nat.mod_mul]

/-- Bits in bytes. -/
def pk (l : List Bool) : List Nat := (List.range ((l.length + 7) / 8)).map fun i => val ((l.drop (8 * i)).take 8)

theorem pk_len (l : List Bool) : (pk l).length = (l.length + 7) / 8 := by simp [pk]

theorem pk_get (l : List Bool) (i : Nat) (h : i < (l.length + 7) / 8) : (pk l).getD i 0 = val ((l.drop (8 * i)).take 8) := by
  simp [pk, h]

theorem pk_lt (l : List Bool) (i : Nat) : (pk l).getD i 0 < 256 := by
  by_cases h : i < (l.length + 7) / 8
  · rw [pk_get _ _ h]
    refine Nat.lt_of_lt_of_le (val_lt _) ?_
    have hl : ((l.drop (8 * i)).take 8).length ≤ 8 := List.length_take_le _ _
    exact Nat.le_trans (Nat.pow_le_pow_right (n := 2) (by omega) hl) (by decide)
  · have : (pk l).getD i 0 = 0 := by
      simp [pk, h]
    omega

theorem pk_mem {l : List Bool} {v : Nat} (h : v ∈ pk l) : v < 256 := by
  obtain ⟨i, hi, rfl⟩ := List.mem_iff_getElem.1 h
  have := pk_lt l i
  simpa [hi] using this

/-- The last byte, not yet full. -/
theorem pk_part (l : List Bool) (h : l.length % 8 ≠ 0) : (pk l).getD (l.length / 8) 0 < 2 ^ (l.length % 8) := by
  rw [pk_get _ _ (by omega)]
  have := val_lt ((l.drop (8 * (l.length / 8))).take 8)
  rw [List.length_take, List.length_drop, Nat.min_eq_right (by omega)] at this
  have e : l.length - 8 * (l.length / 8) = l.length % 8 := by omega
  rwa [e] at this

theorem pk_snoc0 (l : List Bool) (b : Bool) (h : l.length % 8 = 0) : pk (l ++ [b]) = pk l ++ [b.toNat] := by
  have e1 : ((l ++ [b]).length + 7) / 8 = (l.length + 7) / 8 + 1 := by simp; omega
  have e2 : 8 * ((l.length + 7) / 8) = l.length := by omega
  unfold pk
  rw [e1, List.range_succ, List.map_append]
  congr 1
  · refine List.map_congr_left fun i hi => ?_
    have hi' := List.mem_range.1 hi
    rw [List.drop_append_of_le_length (by omega), List.take_append_of_le_length (by simp; omega)]
  · simp [e2, val]

theorem pk_snoc1 (l : List Bool) (b : Bool) (h : l.length % 8 ≠ 0) : pk (l ++ [b]) = (pk l).set (l.length / 8) ((pk l).getD (l.length / 8) 0 + b.toNat * 2 ^ (l.length % 8)) := by
  have e1 : ((l ++ [b]).length + 7) / 8 = (l.length + 7) / 8 := by simp; omega
  apply List.ext_getElem
  · simp [pk_len]; omega
  intro i h1 h2
  have hi : i < (l.length + 7) / 8 := by rw [pk_len, e1] at h1; exact h1
  rw [List.getElem_set]
  split
  · rename_i e
    subst e
    rw [pk_get _ _ hi]
    simp only [pk, List.getElem_map, List.getElem_range]
    rw [List.drop_append_of_le_length (by omega)]
    have e3 : (List.drop (8 * (l.length / 8)) l).length = l.length % 8 := by simp; omega
    rw [List.take_of_length_le (by simp; omega), List.take_of_length_le (by omega), val_snoc, e3]
  · rename_i e
    simp only [pk, List.getElem_map, List.getElem_range]
    rw [List.drop_append_of_le_length (by omega), List.take_append_of_le_length (by simp; omega)]

/-- The bits of bytes. -/
def ofB (l : List Nat) : List Bool := l.flatMap fun v => bitsN v 8

theorem ofB_len (l : List Nat) : (ofB l).length = 8 * l.length := by
  induction l with
  | nil => rfl
  | cons v l ih => simp only [ofB, List.flatMap_cons, List.length_append, bitsN_len, List.length_cons] at *; omega

theorem ofB_get (l : List Nat) (k : Nat) (h : k < 8 * l.length) : (ofB l).getD k false = (l.getD (k / 8) 0 / 2 ^ (k % 8) % 2 == 1) := by
  induction l generalizing k with
  | nil => simp at h
  | cons v l ih =>
    have e : ofB (v :: l) = bitsN v 8 ++ ofB l := rfl
    rw [e]
    by_cases hk : k < 8
    · rw [List.getD_eq_getElem?_getD, List.getElem?_append_left (by rw [bitsN_len]; exact hk), ← List.getD_eq_getElem?_getD, bitsN_get _ _ _ hk]
      have e1 : k / 8 = 0 := by omega
      have e2 : k % 8 = k := by omega
      rw [e1, e2]
      rfl
    · rw [List.getD_eq_getElem?_getD, List.getElem?_append_right (by rw [bitsN_len]; omega), ← List.getD_eq_getElem?_getD, bitsN_len, ih _ (by simp at h; omega)]
      have e1 : k / 8 = (k - 8) / 8 + 1 := by omega
      have e2 : k % 8 = (k - 8) % 8 := by omega
      rw [e1, e2, List.getD_cons_succ]

/-- What has been put can be taken. -/
theorem ofB_pk (l : List Bool) (k : Nat) (h : k < l.length) : (ofB (pk l)).getD k false = l.getD k false := by
  rw [ofB_get _ _ (by rw [pk_len]; omega), pk_get _ _ (by omega)]
  have h1 : k % 8 < ((l.drop (8 * (k / 8))).take 8).length := by simp; omega
  have h2 := bitsN_get (val ((l.drop (8 * (k / 8))).take 8)) ((l.drop (8 * (k / 8))).take 8).length (k % 8) h1
  have h3 : ∀ l : List Bool, bitsN (val l) l.length = l := by
    intro l
    induction l with
    | nil => rfl
    | cons b l ih =>
      simp only [val, List.length_cons, bitsN]
      have e1 : (b.toNat + 2 * val l) / 2 = val l := by cases b <;> simp <;> omega
      have e2 : ((b.toNat + 2 * val l) % 2 == 1) = b := by cases b <;> simp <;> omega
      rw [e1, e2, ih]
  rw [h3] at h2
  rw [← h2]
  simp only [List.getD_eq_getElem?_getD]
  rw [List.getElem?_take_of_lt (by omega), List.getElem?_drop]
  congr 2
  omega

/-- How many bits a number has. -/
def size : Nat → Nat
  | 0 => 0
  | x + 1 => size ((x + 1) / 2) + 1
termination_by x => x
decreasing_by omega

theorem size_pos (x : Nat) (h : 0 < x) : size x = size (x / 2) + 1 := by
  cases x with
  | zero => omega
  | succ x => rw [size]

theorem size_zero : size 0 = 0 := by rw [size]

theorem lt_size (x : Nat) : x < 2 ^ size x := by
  induction x using Nat.strongRecOn with
  | _ x ih =>
    by_cases h : 0 < x
    · rw [size_pos x h, Nat.pow_succ]
      have := ih (x / 2) (by omega)
      omega
    · have : x = 0 := by omega
      subst this
      simp [size_zero]

theorem size_le (x n : Nat) (h : x < 2 ^ n) : size x ≤ n := by
  induction n generalizing x with
  | zero =>
    have : x = 0 := by simpa using h
    subst this
    simp [size_zero]
  | succ n ih =>
    by_cases hx : 0 < x
    · rw [size_pos x hx]
      have := ih (x / 2) (by rw [Nat.pow_succ] at h; omega)
      omega
    · have : x = 0 := by omega
      subst this
      simp [size_zero]

theorem size_ge (x : Nat) (h : 0 < x) : 2 ^ (size x - 1) ≤ x := by
  induction x using Nat.strongRecOn with
  | _ x ih =>
    rw [size_pos x h, Nat.add_sub_cancel]
    by_cases h2 : 0 < x / 2
    · have := ih (x / 2) (by omega) h2
      have hp : 0 < size (x / 2) := by rw [size_pos _ h2]; omega
      have e : size (x / 2) = (size (x / 2) - 1) + 1 := by omega
      rw [e, Nat.pow_succ]
      omega
    · have e : x / 2 = 0 := by omega
      rw [e, size_zero]
      simp
      omega

/-- A number from 1 on. -/
def gam (x : Nat) : List Bool := List.replicate (size x - 1) false ++ (bitsN x (size x)).reverse
end Go.Bits
