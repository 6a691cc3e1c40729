/- What is taken from the front of a row of bits, in plain Lean. -/
import Derived.Test.YtlohplopomfjhaaSA
namespace Go.Bits
set_option linter.unusedVariables false
set_option linter.unusedSimpArgs false

/-- So many bits from the front as a number, the greatest first; what is not there counts as nought. -/
def tv (L : List Bool) : Nat → Nat
  | 0 => 0
  | k + 1 => 2 * tv L k + (L.getD k false).toNat

theorem toNat_le (b : Bool) : b.toNat ≤ 1 := by cases b <;> simp

theorem tv_lt (L : List Bool) (k : Nat) : tv L k < 2 ^ k := by
  induction k with
  | zero => simp [tv]
  | succ k ih =>
    have := toNat_le (L.getD k false)
    simp only [tv, Nat.pow_succ]
    omega

theorem val_take (L : List Bool) (k : Nat) : val (L.take (k + 1)) = val (L.take k) + (L.getD k false).toNat * 2 ^ k := by
  by_cases h : k < L.length
  · have e : L.getD k false = L[k] := by simp [h]
    rw [List.take_succ_eq_append_getElem h, val_snoc, e, List.length_take, Nat.min_eq_left (by omega)]
  · rw [List.take_of_length_le (by omega), List.take_of_length_le (by omega)]
    have e : L.getD k false = false := by simp [List.getElem?_eq_none (show L.length ≤ k by omega)]
    rw [e]; simp

theorem val_take_lt (L : List Bool) (k : Nat) : val (L.take k) < 2 ^ k := by
  refine Nat.lt_of_lt_of_le (val_lt _) (Nat.pow_le_pow_right (n := 2) (by omega) (by simp; omega))

theorem head_drop (L : List Bool) (k : Nat) : (L.drop k).headD false = L.getD k false := by
  by_cases h : k < L.length
  · rw [List.drop_eq_getElem_cons h]; simp [h]
  · rw [List.drop_eq_nil_of_le (by omega)]; simp [List.getElem?_eq_none (show L.length ≤ k by omega)]

theorem tail_drop (L : List Bool) (k : Nat) : (L.drop k).tail = L.drop (k + 1) := by simp

theorem torn_drop (L : List Bool) (k : Nat) (t : Bool) : ((t || decide (L.length < k)) || (L.drop k).isEmpty) = (t || decide (L.length < k + 1)) := by
  cases t
  · rw [Bool.eq_iff_iff]
    simp only [Bool.or_eq_true, decide_eq_true_eq, List.isEmpty_iff, List.drop_eq_nil_iff, Bool.false_eq_true, false_or]
    omega
  · simp

/-- The noughts ahead of the first one, at most so many: is there a one, how many noughts, what stands behind. -/
def gz : Nat → List Bool → Nat → Bool × Nat × List Bool
  | 0, L, s => (false, s, L)
  | _ + 1, [], s => (false, s, [])
  | _ + 1, true :: L, s => (true, s, L)
  | f + 1, false :: L, s => gz f L (s + 1)

theorem gz_le (f : Nat) (L : List Bool) (s : Nat) : (gz f L s).1 = true → (gz f L s).2.1 < s + f := by
  induction f generalizing L s with
  | zero => simp [gz]
  | succ f ih =>
    match L with
    | [] => simp [gz]
    | true :: L => simp [gz]
    | false :: L =>
      intro h
      have := ih L (s + 1) (by simpa [gz] using h)
      simp only [gz]
      omega

/-- What is told when a number from 1 on is taken: the number, what is left, is it torn. -/
def gamS (L : List Bool) (t : Bool) : Nat × List Bool × Bool :=
  if t then (0, L, true) else
    let r := gz 64 L 0
    if r.1 then
      if r.2.2.length < r.2.1 then (0, r.2.2.drop r.2.1, true) else (2 ^ r.2.1 + tv r.2.2 r.2.1, r.2.2.drop r.2.1, false)
    else (0, r.2.2, true)
end Go.Bits
