/- The pieces in their order, in plain Lean. -/
import Derived.Test.YtephnmmbmacbfaaCA
namespace Go.Chunk
set_option linter.unusedVariables false
set_option linter.unusedSimpArgs false

theorem cut_drop (sp : Nat → Int) (least most bits : Nat) (hl : 0 < least) : ∀ (j : Nat) (b : List Nat), cut sp least most bits (b.drop ((cut sp least most bits b).take j).sum) = (cut sp least most bits b).drop j := by
  intro j
  induction j with
  | zero => intro b; simp
  | succ j ih =>
    intro b
    by_cases hb : b = []
    · subst hb; simp [cut_nil]
    · rw [cut_cons sp least most bits b hl hb, List.take_succ_cons, List.sum_cons, List.drop_succ_cons, ← List.drop_drop]
      exact ih _

/-- Where piece j begins. -/
def at' (L : List Nat) (j : Nat) : Nat := (L.take j).sum

theorem at_zero (L : List Nat) : at' L 0 = 0 := rfl
theorem at_succ (L : List Nat) (j : Nat) (h : j < L.length) : at' L (j + 1) = at' L j + L.getD j 0 := by
  unfold at'
  rw [List.take_succ_eq_append_getElem h, List.sum_append]
  simp [h]

theorem sum_take_le (L : List Nat) (j : Nat) : (L.take j).sum ≤ L.sum := by
  have : L.sum = (L.take j).sum + (L.drop j).sum := by rw [← List.sum_append, List.take_append_drop]
  omega

theorem at_all (L : List Nat) : at' L L.length = L.sum := by unfold at'; rw [List.take_length]
theorem at_le (L : List Nat) (j : Nat) : at' L j ≤ L.sum := sum_take_le L j

section
variable (sp : Nat → Int) (least most bits : Nat) (b : List Nat) (hl : 0 < least)
include hl

theorem piece_more {j : Nat} (h : j < (cut sp least most bits b).length) : at' (cut sp least most bits b) j < b.length ∧ next sp least most bits (b.drop (at' (cut sp least most bits b) j)) = (cut sp least most bits b).getD j 0 := by
  have hd := cut_drop sp least most bits hl j b
  have hne : b.drop (at' (cut sp least most bits b) j) ≠ [] := by
    intro e
    unfold at' at e
    rw [e, cut_nil] at hd
    have := congrArg List.length hd
    rw [List.length_drop] at this
    simp at this
    omega
  have hlt : 0 < (b.drop (at' (cut sp least most bits b) j)).length := List.length_pos_iff.2 hne
  rw [List.length_drop] at hlt
  refine ⟨by omega, ?_⟩
  have hc := cut_cons sp least most bits _ hl hne
  unfold at' at hc ⊢
  rw [hd] at hc
  have : (cut sp least most bits b).drop j = (cut sp least most bits b).getD j 0 :: (cut sp least most bits b).drop (j + 1) := by
    rw [List.drop_eq_getElem_cons h]
    simp [h]
  rw [this] at hc
  injection hc with h1 _
  exact h1.symm

theorem piece_end : at' (cut sp least most bits b) (cut sp least most bits b).length = b.length := by
  rw [at_all]
  exact cut_sum sp least most bits hl _ b rfl

theorem piece_fits {j : Nat} (h : j < (cut sp least most bits b).length) : at' (cut sp least most bits b) j + (cut sp least most bits b).getD j 0 ≤ b.length := by
  rw [← at_succ _ _ h, ← piece_end sp least most bits b hl, at_all]
  exact at_le _ _

theorem cut_length : (cut sp least most bits b).length ≤ b.length := by
  have hpos : ∀ (n : Nat) (b : List Nat), b.length = n → (cut sp least most bits b).length ≤ b.length := by
    intro n
    induction n using Nat.strongRecOn with
    | _ n ih =>
      intro b hn
      by_cases hb : b = []
      · subst hb; exact Nat.le_refl _
      · have h1 := next_pos sp least most bits b hl hb
        have h2 := next_le sp least most bits b
        have hlen : 0 < b.length := List.length_pos_iff.2 hb
        rw [cut_cons sp least most bits b hl hb, List.length_cons]
        have := ih (b.length - next sp least most bits b) (by omega) (b.drop (next sp least most bits b)) (by rw [List.length_drop])
        rw [List.length_drop] at this
        omega
  exact hpos _ b rfl
end

/-- The first k pieces: where each begins, how long it is. -/
def pcs (L : List Nat) (k : Nat) : List (Nat × Nat) := (List.range k).map fun j => (at' L j, L.getD j 0)

theorem pcs_succ (L : List Nat) (k : Nat) : pcs L (k + 1) = pcs L k ++ [(at' L k, L.getD k 0)] := by simp [pcs, List.range_succ]
theorem pcs_length (L : List Nat) (k : Nat) : (pcs L k).length = k := by simp [pcs]
end Go.Chunk
