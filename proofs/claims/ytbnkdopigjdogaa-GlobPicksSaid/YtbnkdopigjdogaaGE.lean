/- The walk of the document's set. -/
import Derived.Test.YtbnkdopigjdogaaGD
namespace Go.Proofs.Ytbnkdopigjdogaa
set_option linter.unusedVariables false
set_option linter.unusedSimpArgs false
open Go.RowKit Go.Own Go.Glob

theorem size45 : (Try.prog.info? 45).map (·.size) = some 257 := (zero_of_info info45).2
theorem size45q (x : Bool × (Nat → Bool)) : (Try.prog.info? 45).map (·.size) = some (qA x).size := by rw [qA_size]; exact size45
theorem qA_one (x : Bool × (Nat → Bool)) : ∀ u ∈ (qA x).toList, u.oneCell' = true := fun u hu => qL_one x u (by simpa [qA] using hu)
theorem qblk_in {w : World} {g : Nat} {x : Bool × (Nat → Bool)} (h : Blk w g (qA x) 45) (c : Nat) (hc : c < 256) : w.cell? ⟨g, 1 + c, none⟩ = some (.bool (x.2 c)) := h.cell (1 + c) (by
  have := qL_in x c hc
  simpa [qA] using this)
theorem qblk_any {w : World} {g : Nat} {x : Bool × (Nat → Bool)} (h : Blk w g (qA x) 45) : w.cell? ⟨g, 0, none⟩ = some (.bool x.1) := h.cell 0 (by simp [qA, qL])
theorem qA_set (x : Bool × (Nat → Bool)) (c : Nat) (b : Bool) : (qA x).setIfInBounds (1 + c) (.bool b) = qA (x.1, fun d => if d = c then b else x.2 d) := by
  unfold qA qL
  rw [List.setIfInBounds_toArray, Nat.add_comm 1 c]
  simp only [List.set_cons_succ]
  rw [boolL_set]

/-- Turned below a byte. -/
def flip (f : Nat → Bool) (ng : Bool) (x : Nat) : Nat → Bool := fun c => if c < x then f c != ng else f c
theorem flip_start (f : Nat → Bool) (ng : Bool) : flip f ng 0 = f := by funext c; unfold flip; rw [if_neg (by omega)]
theorem flip_at (f : Nat → Bool) (ng : Bool) (x : Nat) : flip f ng x x = f x := by unfold flip; rw [if_neg (by omega)]
theorem flip_step (f : Nat → Bool) (ng : Bool) (x : Nat) : (fun c => if c = x then (f x != ng) else flip f ng x c) = flip f ng (x + 1) := by
  funext c
  unfold flip
  by_cases hc : c = x
  · subst hc
    rw [if_pos rfl, if_pos (by omega)]
  · rw [if_neg hc]
    by_cases h : c < x
    · rw [if_pos h, if_pos (by omega)]
    · rw [if_neg h, if_neg (by omega)]
theorem flip_end (f : Nat → Bool) (ng : Bool) : qA (false, flip f ng 256) = qA (false, fun c => f c != ng) := by
  unfold qA qL
  dsimp only
  rw [boolL_congr (f := flip f ng 256) (g := fun c => f c != ng) (fun c hc => by unfold flip; rw [if_pos hc])]

/-- What the document's set answers. -/
def RSetGives (w : World) (T : Option (Part × Nat)) (e : Ending) (w' : World) : Prop :=
  ∃ (x : Bool × (Nat → Bool)) (z : Int), e = .returned (.tuple #[.agg (qA x), .int .i64 z]) ∧
    ((T = none ∧ z = 0) ∨ ∃ (p : Part) (k : Nat), T = some (p, k) ∧ z = (k : Int) ∧ qA x = qA (false, fun c => p.set c != p.neg)) ∧ w.grownBy w' none

/-- Two blocks of the call's own. -/
def TwoQ (w wi : World) (f : Nat → Bool) : Prop := Blk wi (w.heap.size + 1) (qA (false, f)) 45 ∧ Blk wi w.heap.size (qA (false, none0)) 45 ∧ w.grownBy wi none

theorem sgl_none {s : List Nat} {a : Nat} (h : single s a = none) : sglV (s.drop a) 0 = (0, 0) := by
  unfold sglV
  have : single (s.drop a) 0 = none := by
    unfold single at h ⊢
    rw [List.length_drop]
    split at h
    · rw [if_pos (by omega)]
    · rename_i h0
      rw [if_neg (by omega)]
      have e : (s.drop a).getD 0 0 = s.getD a 0 := by simp [List.getD_eq_getElem?_getD]
      rw [e]
      split at h
      · rename_i h1
        rw [if_pos h1]
        split at h
        · cases h
        · rw [if_neg (by omega)]
      · cases h
  rw [this]; rfl
theorem sgl_some {s : List Nat} {a c a1 : Nat} (h : single s a = some (c, a1)) : ∃ n : Nat, sglV (s.drop a) 0 = (c, n) ∧ a + n = a1 ∧ 0 < n ∧ a1 ≤ s.length := by
  have hp := single_pos h
  refine ⟨a1 - a, ?_, by omega, by omega, by omega⟩
  unfold sglV
  have : single (s.drop a) 0 = some (c, a1 - a) := by
    unfold single at h ⊢
    rw [List.length_drop]
    rw [if_neg (by omega)] at h
    rw [if_neg (by omega)]
    have e : (s.drop a).getD 0 0 = s.getD a 0 := by simp [List.getD_eq_getElem?_getD]
    have e1 : (s.drop a).getD 1 0 = s.getD (a + 1) 0 := by simp [List.getD_eq_getElem?_getD]
    rw [e]
    split at h
    · rename_i h1
      rw [if_pos h1]
      split at h
      · rename_i h2
        rw [if_pos (by omega)]
        injection h with h
        injection h with h3 h4
        rw [← h3, ← h4, show 0 + 1 = 1 from rfl, e1, show a + 2 - a = 0 + 2 by omega]
      · cases h
    · rename_i h1
      rw [if_neg h1]
      injection h with h
      injection h with h3 h4
      rw [← h3, ← h4, show a + 1 - a = 0 + 1 by omega]
  rw [this]; rfl
theorem single_byte {s : List Nat} (hs : ∀ v ∈ s, v < 256) {a c a1 : Nat} (h : single s a = some (c, a1)) : c < 256 := by
  have hp := single_pos h
  unfold single at h
  split at h
  · cases h
  · split at h
    · split at h
      · rename_i h2
        injection h with h
        injection h with h3 h4
        rw [← h3]; exact byte_lt hs h2
      · cases h
    · rename_i h0 _
      injection h with h
      injection h with h3 h4
      rw [← h3]; exact byte_lt hs (by omega)
theorem upper_at {s : List Nat} {lo a hi a2 : Nat} (h1 : a + 1 < s.length) (h2 : s.getD a 0 = 45) (h3 : s.getD (a + 1) 0 ≠ 93) : upper s lo a = single s (a + 1) := upper_yes h1 h2 h3

end Go.Proofs.Ytbnkdopigjdogaa
