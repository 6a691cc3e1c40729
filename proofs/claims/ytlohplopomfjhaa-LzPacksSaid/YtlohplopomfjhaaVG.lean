/- The walk of chapter 35's example. -/
import Derived.Test.YtlohplopomfjhaaVF
import Derived.Lib.SlBytesConst
namespace Go.Proofs.Ytlohplopomfjhaa
set_option linter.unusedVariables false
set_option linter.unusedSimpArgs false
open Go.RowKit Go.Own Go.Bits Go.Lz

theorem tokens5 : tokens [97, 97, 97, 97, 97] = [⟨97, 0, 0⟩, ⟨0, 1, 4⟩] := by decide +kernel

/-- A text written out, as bytes: the row of a new block. -/
theorem rd_const (w : World) (bl : List Nat) : Rd (w.alloc (.cells (bl.map bv).toArray 5 ((bl.map bv).toArray.size, (bl.map bv).toArray.size + 1))) (w.heap.size + 1) 1 (some ⟨w.heap.size, 0, none⟩) bl.length (bl.map bv) := by
  refine ⟨by simp, fun _ => ⟨w.heap.size, 0, rfl, by omega, fun j u hu => ?_⟩⟩
  have hb : (w.alloc (.cells (bl.map bv).toArray 5 ((bl.map bv).toArray.size, (bl.map bv).toArray.size + 1))).heap[w.heap.size]? = some (.cells (bl.map bv).toArray 5 ((bl.map bv).toArray.size, (bl.map bv).toArray.size + 1)) := heap_alloc_new w _
  rw [Nat.zero_add]
  simp only [World.cell?, hb]
  simpa using hu

abbrev a5 : Array Value := #[.int .u8 97, .int .u8 97, .int .u8 97, .int .u8 97, .int .u8 97]

set_option maxHeartbeats 1600000 in
theorem awake35 (w : World) : Calls Try.prog 31 #[] w fun e w' => e = .returned (.bool true) ∧ w.grownBy w' none := by
  have hg1 := gb_alloc (gb_refl w none) (.cells #[.int .u8 97, .int .u8 97, .int .u8 97, .int .u8 97, .int .u8 97] 5 (5, 6))
  have hRd : Rd (w.alloc (.cells #[.int .u8 97, .int .u8 97, .int .u8 97, .int .u8 97, .int .u8 97] 5 (5, 6))) (w.heap.size + 1) 1 (some ⟨w.heap.size, 0, none⟩) 5 ([97, 97, 97, 97, 97].map bv) := rd_const w [97, 97, 97, 97, 97]
  have htk := tokens_any [97, 97, 97, 97, 97] _ 5 _ _ hRd (by simp) (by decide) (by decide)
  rw [tokens5] at htk
  have hcv : (convert 24 24 (.slice (some ⟨w.heap.size, 0, none⟩) 5 5)).run Try.prog (w.alloc (.cells #[.int .u8 97, .int .u8 97, .int .u8 97, .int .u8 97, .int .u8 97] 5)) = .ok (.slice (some ⟨w.heap.size, 0, none⟩) 5 5) (w.alloc (.cells #[.int .u8 97, .int .u8 97, .int .u8 97, .int .u8 97, .int .u8 97] 5 (5, 6))) :=
    Lib.run_convert_bytes_const w 24 5 #[.int .u8 97, .int .u8 97, .int .u8 97, .int .u8 97, .int .u8 97] 5 5 Try.underlying24 Try.underlying5
  go_enter Try.func31, Try.ntmps31
  go_wp2_with fail
  refine htk.mono ?_
  rintro e w2 ⟨A, c, rfl, hO, hg2⟩
  obtain ⟨g, rfl, hbg, hgl⟩ := hO.form (by decide)
  have e0 := hO.cell rfl (j := 0) (u := .int .u8 97) (by decide) rfl
  have e1 := hO.cell rfl (j := 1) (u := .int .i64 0) (by decide) rfl
  have e2 := hO.cell rfl (j := 2) (u := .int .i64 0) (by decide) rfl
  have e3 := hO.cell rfl (j := 3) (u := .int .u8 0) (by decide) rfl
  have e4 := hO.cell rfl (j := 4) (u := .int .i64 1) (by decide) rfl
  have e5 := hO.cell rfl (j := 5) (u := .int .i64 4) (by decide) rfl
  go_wp2_with fail
  go_ret
  exact ⟨rfl, gb_trans hg1 hg2⟩
end Go.Proofs.Ytlohplopomfjhaa
