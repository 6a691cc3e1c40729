/- Bytes that end alike are cut alike, in plain Lean. -/
import Derived.Test.YtephnmmbmacbfaaCB
namespace Go.Chunk
set_option linter.unusedVariables false
set_option linter.unusedSimpArgs false

/-- Where pieces end. -/
def endsOf (L : List Nat) : List Nat := (List.range L.length).map fun i => at' L (i + 1)

theorem endsOf_length (L : List Nat) : (endsOf L).length = L.length := by simp [endsOf]
theorem endsOf_get (L : List Nat) (i : Nat) (h : i < L.length) : (endsOf L).getD i 0 = at' L (i + 1) := by simp [endsOf, h]

theorem drop_tail (a s : List Nat) (e : Nat) (h1 : e ≤ (a ++ s).length) (h2 : (a ++ s).length - e ≤ s.length) : (a ++ s).drop e = s.drop (s.length - ((a ++ s).length - e)) := by
  rw [List.length_append] at *
  rw [List.drop_append, List.drop_eq_nil_of_le (by omega), List.nil_append]
  congr 1
  omega

theorem at_add (L : List Nat) (i j : Nat) : at' L (i + j) = at' L i + at' (L.drop i) j := by
  unfold at'
  rw [List.take_add, List.sum_append]

section
variable (sp : Nat → Int) (least most bits : Nat) (hl : 0 < least) (a b s : List Nat)
include hl

theorem at_le_length (c : List Nat) (j : Nat) : at' (cut sp least most bits c) j ≤ c.length := by
  have := at_le (cut sp least most bits c) j
  rwa [cut_sum sp least most bits hl _ c rfl] at this

theorem alike_drop (i k : Nat) (h : (a ++ s).length - at' (cut sp least most bits (a ++ s)) i = (b ++ s).length - at' (cut sp least most bits (b ++ s)) k) (hr : (a ++ s).length - at' (cut sp least most bits (a ++ s)) i ≤ s.length) :
    (cut sp least most bits (a ++ s)).drop i = (cut sp least most bits (b ++ s)).drop k := by
  have h1 := cut_drop sp least most bits hl i (a ++ s)
  have h2 := cut_drop sp least most bits hl k (b ++ s)
  have e1 := drop_tail a s _ (at_le_length sp least most bits hl (a ++ s) i) hr
  have e2 := drop_tail b s _ (at_le_length sp least most bits hl (b ++ s) k) (by rw [← h]; exact hr)
  rw [← h1, ← h2]
  show cut sp least most bits ((a ++ s).drop (at' _ i)) = cut sp least most bits ((b ++ s).drop (at' _ k))
  rw [e1, e2, h]

/-- From a place on where both are cut, counted from the end, both are cut alike. -/
theorem alike_law (i k : Nat) (hi : i < (cut sp least most bits (a ++ s)).length) (hk : k < (cut sp least most bits (b ++ s)).length)
    (h : (a ++ s).length - at' (cut sp least most bits (a ++ s)) (i + 1) = (b ++ s).length - at' (cut sp least most bits (b ++ s)) (k + 1)) (hr : (a ++ s).length - at' (cut sp least most bits (a ++ s)) (i + 1) ≤ s.length) :
    (cut sp least most bits (a ++ s)).length - i = (cut sp least most bits (b ++ s)).length - k ∧
      ∀ j, (a ++ s).length - at' (cut sp least most bits (a ++ s)) (i + j + 1) = (b ++ s).length - at' (cut sp least most bits (b ++ s)) (k + j + 1) := by
  have hd := alike_drop sp least most bits hl a b s (i + 1) (k + 1) h hr
  refine ⟨?_, fun j => ?_⟩
  · have := congrArg List.length hd
    rw [List.length_drop, List.length_drop] at this
    omega
  · have e1 := at_add (cut sp least most bits (a ++ s)) (i + 1) j
    have e2 := at_add (cut sp least most bits (b ++ s)) (k + 1) j
    rw [show i + j + 1 = i + 1 + j by omega, show k + j + 1 = k + 1 + j by omega, e1, e2, hd]
    omega
end
end Go.Chunk
