/- The walk of chapter 36's example. -/
import Derived.Test.YtgahefehnhggjaaEE
namespace Go.Proofs.Ytgahefehnhggjaa
set_option linter.unusedVariables false
set_option linter.unusedSimpArgs false
open Go.RowKit Go.Own Go.Delta Go.ChangeShapes

theorem diff36 : diffS [97, 98, 99, 100, 101, 102] [120, 99, 100, 101, 102] 2 = [(-1, [120]), (1, []), (2, [])] := by decide +kernel

/-- A text written out, as bytes: the row of a new block. -/
theorem rd_const (w : World) (bl : List Nat) : Rd (w.alloc (.cells (bl.map bv).toArray 5 ((bl.map bv).toArray.size, (bl.map bv).toArray.size + 1))) (w.heap.size + 1) 1 (some ⟨w.heap.size, 0, none⟩) bl.length (bl.map bv) := by
  refine ⟨by simp, fun _ => ⟨w.heap.size, 0, rfl, by omega, fun j u hu => ?_⟩⟩
  have hb : (w.alloc (.cells (bl.map bv).toArray 5 ((bl.map bv).toArray.size, (bl.map bv).toArray.size + 1))).heap[w.heap.size]? = some (.cells (bl.map bv).toArray 5 ((bl.map bv).toArray.size, (bl.map bv).toArray.size + 1)) := heap_alloc_new w _
  rw [Nat.zero_add]
  simp only [World.cell?, hb]
  simpa using hu

theorem three_parts {l : List Pt} {a b c : Prt} (h : l.map prt = [a, b, c]) : ∃ p q r, l = [p, q, r] ∧ prt p = a ∧ prt q = b ∧ prt r = c := by
  match l, h with
  | [p, q, r], h =>
    simp at h
    exact ⟨p, q, r, rfl, h.1, h.2.1, h.2.2⟩

set_option maxHeartbeats 1600000 in
theorem awake36 (w : World) : Calls Try.prog 5 #[] w fun e w' => e = .returned (.bool true) ∧ w.grownBy w' none := by
  have hga := gb_alloc (gb_refl w none) (.cells #[.int .u8 97, .int .u8 98, .int .u8 99, .int .u8 100, .int .u8 101, .int .u8 102] 5 (6, 7))
  have hRa : Rd (w.alloc (.cells #[.int .u8 97, .int .u8 98, .int .u8 99, .int .u8 100, .int .u8 101, .int .u8 102] 5 (6, 7))) (w.heap.size + 1) 1 (some ⟨w.heap.size, 0, none⟩) 6 ([97, 98, 99, 100, 101, 102].map bv) := rd_const w [97, 98, 99, 100, 101, 102]
  have hca : (convert 22 22 (.slice (some ⟨w.heap.size, 0, none⟩) 6 6)).run Try.prog (w.alloc (.cells #[.int .u8 97, .int .u8 98, .int .u8 99, .int .u8 100, .int .u8 101, .int .u8 102] 5)) = .ok (.slice (some ⟨w.heap.size, 0, none⟩) 6 6) (w.alloc (.cells #[.int .u8 97, .int .u8 98, .int .u8 99, .int .u8 100, .int .u8 101, .int .u8 102] 5 (6, 7))) :=
    Lib.run_convert_bytes_const w 22 5 #[.int .u8 97, .int .u8 98, .int .u8 99, .int .u8 100, .int .u8 101, .int .u8 102] 6 6 Try.underlying22 Try.underlying5
  obtain ⟨w1, hw1⟩ : ∃ w1, w1 = w.alloc (.cells #[.int .u8 97, .int .u8 98, .int .u8 99, .int .u8 100, .int .u8 101, .int .u8 102] 5 (6, 7)) := ⟨_, rfl⟩
  rw [← hw1] at hga hRa hca
  have hs1 : w1.heap.size = w.heap.size + 1 := by rw [hw1]; simp
  clear hw1
  have hgb := gb_alloc (gb_refl w1 none) (.cells #[.int .u8 120, .int .u8 99, .int .u8 100, .int .u8 101, .int .u8 102] 5 (5, 6))
  have hRb : Rd (w1.alloc (.cells #[.int .u8 120, .int .u8 99, .int .u8 100, .int .u8 101, .int .u8 102] 5 (5, 6))) (w1.heap.size + 1) 1 (some ⟨w1.heap.size, 0, none⟩) 5 ([120, 99, 100, 101, 102].map bv) := rd_const w1 [120, 99, 100, 101, 102]
  have hcb : (convert 22 22 (.slice (some ⟨w1.heap.size, 0, none⟩) 5 5)).run Try.prog (w1.alloc (.cells #[.int .u8 120, .int .u8 99, .int .u8 100, .int .u8 101, .int .u8 102] 5)) = .ok (.slice (some ⟨w1.heap.size, 0, none⟩) 5 5) (w1.alloc (.cells #[.int .u8 120, .int .u8 99, .int .u8 100, .int .u8 101, .int .u8 102] 5 (5, 6))) :=
    Lib.run_convert_bytes_const w1 22 5 #[.int .u8 120, .int .u8 99, .int .u8 100, .int .u8 101, .int .u8 102] 5 5 Try.underlying22 Try.underlying5
  have hdf := diff_any [97, 98, 99, 100, 101, 102] [120, 99, 100, 101, 102] _ _ 6 5 (w1.heap.size + 1) 2 _ ((hRa.later hgb (by omega)).mono (by omega)) hRb (by simp) (by decide) (by decide) (by decide) (by decide) (by decide) (by decide) (by decide) (by decide) (by decide) (by decide)
  rw [diff36] at hdf
  rw [hs1] at hdf hcb
  go_enter Try.func5, Try.ntmps5
  go_wp2_with fail
  refine hdf.mono ?_
  rintro e w2 ⟨A, c, l, rfl, hl, hO, hP, hg2⟩
  obtain ⟨p, q, r, rfl, hp, hq, hr⟩ := three_parts hl
  obtain ⟨pb, pf, pA, pc⟩ := p
  obtain ⟨qb, qf, qA, qc⟩ := q
  obtain ⟨rb, rf, rA, rc⟩ := r
  simp only [prt, Prod.mk.injEq] at hp hq hr
  obtain ⟨rfl, rfl⟩ := hp
  obtain ⟨rfl, rfl⟩ := hq
  obtain ⟨rfl, rfl⟩ := hr
  obtain ⟨g, off, rfl, hgl, a0, a1⟩ := rd_pt hO.rd (show 0 < 3 by decide)
  have b0 : w2.cell? ⟨g, off + 1 * 2, none⟩ = some (.int .i64 1) := by
    obtain ⟨g', off', e, _, h, _⟩ := rd_pt hO.rd (show 1 < 3 by decide)
    injection e with e; injection e with e1 e2; subst e1; subst e2; exact h
  have c0 : w2.cell? ⟨g, off + 2 * 2, none⟩ = some (.int .i64 2) := by
    obtain ⟨g', off', e, _, h, _⟩ := rd_pt hO.rd (show 2 < 3 by decide)
    injection e with e; injection e with e1 e2; subst e1; subst e2; exact h
  have hcv := conv_any pc (hP ⟨-1, [120], pA, pc⟩ (by simp)).1 rfl
  have hsb : strB [120] = ⟨#[120]⟩ := by decide
  rw [hsb] at hcv
  simp only [List.getElem_cons_zero, Nat.zero_mul, Nat.add_zero, List.length_cons, List.length_nil, Nat.zero_add, Nat.one_mul] at a0 a1 b0 hcv
  clear hO hP hl hRa hRb
  go_wp2_with fail
  go_ret
  exact ⟨rfl, gb_trans hga (gb_trans hgb hg2)⟩
end Go.Proofs.Ytgahefehnhggjaa
