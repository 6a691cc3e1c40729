/- Parts in memory: glob's, of 259 cells, and the document's, of 257. -/
import Derived.Test.YtbnkdopigjdogaaGT
import Derived.Test.YtbnkdopigjdogaaGA
import Derived.Deep.WholeRow
namespace Go.Proofs.Ytbnkdopigjdogaa
set_option linter.unusedVariables false
set_option linter.unusedSimpArgs false
open Go.RowKit Go.Own Go.Glob

/-- 256 bools. -/
def boolL (f : Nat → Bool) : List Value := (List.range 256).map fun c => .bool (f c)

theorem boolL_len (f : Nat → Bool) : (boolL f).length = 256 := by simp [boolL]
theorem boolL_get (f : Nat → Bool) (c : Nat) (h : c < 256) : (boolL f)[c]? = some (.bool (f c)) := by simp [boolL, h]
theorem boolL_one (f : Nat → Bool) : ∀ u ∈ boolL f, u.oneCell' = true := by
  intro u hu
  obtain ⟨c, _, rfl⟩ := List.mem_map.1 hu
  rfl
theorem boolL_set (f : Nat → Bool) (c : Nat) (b : Bool) : (boolL f).set c (.bool b) = boolL fun d => if d = c then b else f d := by
  apply List.ext_getElem?
  intro i
  by_cases hi : i < 256
  · rw [boolL_get _ i hi]
    by_cases hc : i = c
    · subst hc
      rw [List.getElem?_set_self (by rw [boolL_len]; exact hi), if_pos rfl]
    · rw [List.getElem?_set_ne (Ne.symm hc), boolL_get _ i hi, if_neg hc]
  · rw [List.getElem?_eq_none (by rw [List.length_set, boolL_len]; omega), List.getElem?_eq_none (by rw [boolL_len]; omega)]
theorem boolL_congr {f g : Nat → Bool} (h : ∀ c, c < 256 → f c = g c) : boolL f = boolL g := by
  unfold boolL
  refine List.map_congr_left fun c hc => ?_
  rw [h c (by simpa using hc)]

/-- A part's cells. -/
def pL (p : Part) : List Value := .int .i64 (p.kind : Int) :: .int .u8 (p.byte : Int) :: .bool p.neg :: boolL p.set
def pA (p : Part) : Array Value := (pL p).toArray
theorem pL_len (p : Part) : (pL p).length = 259 := by simp [pL, boolL_len]
theorem pA_size (p : Part) : (pA p).size = 259 := by simp [pA, pL_len]
theorem pL_one (p : Part) : ∀ u ∈ pL p, u.oneCell' = true := by
  intro u hu
  simp only [pL, List.mem_cons] at hu
  rcases hu with rfl | rfl | rfl | hu
  · rfl
  · rfl
  · rfl
  · exact boolL_one _ u hu
theorem pL_kind (p : Part) : (pL p)[0]? = some (.int .i64 (p.kind : Int)) := rfl
theorem pL_byte (p : Part) : (pL p)[1]? = some (.int .u8 (p.byte : Int)) := rfl
theorem pL_neg (p : Part) : (pL p)[2]? = some (.bool p.neg) := rfl
theorem pL_set (p : Part) (c : Nat) (h : c < 256) : (pL p)[3 + c]? = some (.bool (p.set c)) := by
  rw [Nat.add_comm 3 c]
  exact boolL_get _ c h

/-- A part of the document's. -/
def qL (x : Bool × (Nat → Bool)) : List Value := .bool x.1 :: boolL x.2
def qA (x : Bool × (Nat → Bool)) : Array Value := (qL x).toArray
theorem qL_len (x : Bool × (Nat → Bool)) : (qL x).length = 257 := by simp [qL, boolL_len]
theorem qA_size (x : Bool × (Nat → Bool)) : (qA x).size = 257 := by simp [qA, qL_len]
theorem qL_one (x : Bool × (Nat → Bool)) : ∀ u ∈ qL x, u.oneCell' = true := by
  intro u hu
  simp only [qL, List.mem_cons] at hu
  rcases hu with rfl | hu
  · rfl
  · exact boolL_one _ u hu
theorem qL_in (x : Bool × (Nat → Bool)) (c : Nat) (h : c < 256) : (qL x)[1 + c]? = some (.bool (x.2 c)) := by
  rw [Nat.add_comm 1 c]
  exact boolL_get _ c h

theorem info41 : (Try.prog.info? 41).map (fun i => (i.zero, i.size)) = some (some (.agg (pA ⟨0, 0, false, none0⟩)), 259) := by kernel_rfl
theorem info41b : (Try.prog.info? 41).map (fun i => (i.zero, i.size, i.bytes)) = some (some (.agg (pA ⟨0, 0, false, none0⟩)), 259, 272) := by kernel_rfl
theorem info45 : (Try.prog.info? 45).map (fun i => (i.zero, i.size)) = some (some (.agg (qA (false, none0))), 257) := by kernel_rfl
theorem info45b : (Try.prog.info? 45).map (fun i => (i.zero, i.size, i.bytes)) = some (some (.agg (qA (false, none0))), 257, 257) := by kernel_rfl
theorem zero41 (w : World) : (zeroValue 41).run Try.prog w = .ok (.agg (pA ⟨0, 0, false, none0⟩)) w := (zero_of_info info41).1 w
theorem zero45 (w : World) : (zeroValue 45).run Try.prog w = .ok (.agg (qA (false, none0))) w := (zero_of_info info45).1 w
theorem build41_byte (c : Nat) (w : World) : (Instr.build 41 #[(1, .int .u8 (c : Int))]).run Try.prog w = .ok (.agg (pA ⟨0, c, false, none0⟩)) w := by kernel_rfl
theorem build41_kind (k : Nat) (w : World) : (Instr.build 41 #[(0, .int .i64 (k : Int))]).run Try.prog w = .ok (.agg (pA ⟨k, 0, false, none0⟩)) w := by kernel_rfl
theorem build45 (w : World) : (Instr.build 45 #[]).run Try.prog w = .ok (.agg (qA (false, none0))) w := by kernel_rfl
theorem buildSlice24 (p : Part) (w : World) : (Instr.buildSlice 24 1 #[(0, .agg (pA p))]).run Try.prog w = .ok (.slice (some ⟨w.heap.size, 0, none⟩) 1 1) (w.alloc (.cells (pA p) 41)) := by kernel_rfl
theorem buildSlice30 (x : Bool × (Nat → Bool)) (w : World) : (Instr.buildSlice 30 1 #[(0, .agg (qA x))]).run Try.prog w = .ok (.slice (some ⟨w.heap.size, 0, none⟩) 1 1) (w.alloc (.cells (qA x) 45)) := by kernel_rfl
end Go.Proofs.Ytbnkdopigjdogaa
