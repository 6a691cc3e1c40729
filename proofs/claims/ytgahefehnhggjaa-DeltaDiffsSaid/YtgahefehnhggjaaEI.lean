/- The walk of the law DeltaPatches. -/
import Derived.Test.YtgahefehnhggjaaEH
namespace Go.Proofs.Ytgahefehnhggjaa
set_option linter.unusedVariables false
set_option linter.unusedSimpArgs false
open Go.RowKit Go.Own Go.Delta Go.ChangeShapes

section
open Go.ChangeShapes Go.WideShapes Go.ChangeAt Go.Deep
variable {H : Type} {enc : TypeId × Value → H}

/-- The argument is some bytes. -/
theorem open_bytes {W : World} {base : Nat} {v : Value} {d : DataW H} {p : List MemPlace} (k : Value.okWide Try.prog W .any base 22 v) (h : DataW.Trod enc Try.prog W 0 (fun _ => true) true 22 v d p) :
    ∃ (A : Option Addr) (cap : Nat) (bl : List Nat), v = .slice A bl.length cap ∧ bl.length ≤ cap ∧ cap ≤ maxLen ∧ Rd W W.heap.size 1 A bl.length (bl.map bv) ∧ ∀ x ∈ bl, x < 256 := by
  obtain ⟨A, len, cap, zs, rfl, h1, h2, h3, hR, hz⟩ := open_nums Try.underlying22 Try.underlying5 (by kernel_rfl) k h
  have hzz : ∀ z ∈ zs, 0 ≤ z ∧ z < 256 := by
    intro z hz'
    have := hz z hz'
    have := bounds_u8 this
    omega
  have e : (zs.map Int.toNat).map bv = zs.map (Value.int .u8) := by
    rw [List.map_map]
    refine List.map_congr_left fun z hz' => ?_
    have := hzz z hz'
    simp only [Function.comp, bv]
    congr 1
    omega
  refine ⟨A, cap, zs.map Int.toNat, by simp [h3], by simp [h3]; omega, h2, ?_, ?_⟩
  · rw [e, List.length_map, h3]; exact hR
  · intro x hx
    obtain ⟨z, hz', rfl⟩ := List.mem_map.1 hx
    have := hzz z hz'
    omega

/-- The same of a field that is some bytes. -/
theorem field_bytes {W : World} {n : Nat} {cs : List Value} {x : DataW H × List MemPlace} (hf : DataW.trod enc Try.prog W 0 (fun _ => true) true n 22 cs = some x) :
    ∃ (A : Option Addr) (cap : Nat) (bl : List Nat), cs = [.slice A bl.length cap] ∧ Rd W W.heap.size 1 A bl.length (bl.map bv) ∧ ∀ x ∈ bl, x < 256 := by
  rcases open_ints Try.underlying22 Try.underlying5 (by kernel_rfl) hf with ⟨hcs, _⟩ | ⟨a, len, cap, zs, hcs, _, hl, hm, hz, _, hcell, hwz⟩
  · exact ⟨none, 0, [], hcs, Rd.nil _ _ _ _, by simp⟩
  · simp only [if_true] at hz
    have hzz : ∀ z ∈ zs, 0 ≤ z ∧ z < 256 := by
      intro z hz'
      have := hwz z hz'
      have := bounds_u8 this
      omega
    have hlen : ((zs.map Int.toNat).take len).length = len := by simp; omega
    refine ⟨some a, cap, (zs.map Int.toNat).take len, by rw [hlen, hcs], ⟨by simp, fun hn => ?_⟩, fun y hy => ?_⟩
    · obtain ⟨b, off, rfl, hc⟩ := ints_at hcell (by omega)
      have h0 := hc 0 (by omega)
      refine ⟨b, off, rfl, World.block_lt_of_cell? W _ h0, fun j u hu => ?_⟩
      have hj : j < len := by
        have := (List.getElem?_eq_some_iff.1 hu).1
        simp at this; omega
      have := hc j (by omega)
      rw [this, ← hu]
      have hjz : j < zs.length := by omega
      have h3 := hzz _ (List.getElem_mem hjz)
      simp [List.getElem?_take_of_lt hj, hjz, bv]
      omega
    · obtain ⟨z, hz', rfl⟩ := List.mem_map.1 (List.mem_of_mem_take hy)
      have := hzz z hz'
      omega

theorem list_of {α : Type} {Q : Nat → α → Prop} : ∀ (n : Nat), (∀ i, i < n → ∃ p, Q i p) → ∃ l : List α, l.length = n ∧ ∀ i (h : i < l.length), Q i l[i]
  | 0, _ => ⟨[], rfl, fun i h => by simp at h⟩
  | n + 1, h => by
    obtain ⟨l, hl, hq⟩ := list_of n (fun i hi => h i (by omega))
    obtain ⟨p, hp⟩ := h n (by omega)
    refine ⟨l ++ [p], by simp [hl], fun i hi => ?_⟩
    by_cases h2 : i < l.length
    · rw [List.getElem_append_left h2]; exact hq i h2
    · have : i = n := by simp at hi; omega
      subst this
      rw [List.getElem_append_right (by omega)]
      simpa [hl] using hp

theorem rd_of_cells {W : World} {g off n : Nat} {l : List Pt} (hn : l.length = n) (hg : g < W.heap.size) (h : ∀ i (h : i < l.length), W.cell? ⟨g, off + i * 2, none⟩ = some (.int .i64 l[i].b) ∧ W.cell? ⟨g, off + i * 2 + 1, none⟩ = some (.slice l[i].A l[i].f.length l[i].c)) :
    Rd W W.heap.size 2 (some ⟨g, off, none⟩) n (l.flatMap ptC) := by
  refine ⟨by rw [ptC_len, hn], fun _ => ⟨g, off, rfl, hg, fun j u hu => ?_⟩⟩
  have hj : j < l.length * 2 := by
    have := (List.getElem?_eq_some_iff.1 hu).1
    rw [ptC_len] at this
    exact this
  have hi : j / 2 < l.length := by omega
  have hl : l[j / 2]? = some l[j / 2] := by simp [hi]
  obtain ⟨h0, h1⟩ := h (j / 2) hi
  rcases Nat.mod_two_eq_zero_or_one j with hm | hm
  · have := ptC_get l (j / 2) 0 (by omega) _ hl
    rw [show j / 2 * 2 + 0 = j by omega, hu] at this
    simp [ptC] at this
    subst this
    rw [← h0]
    congr 2
    omega
  · have := ptC_get l (j / 2) 1 (by omega) _ hl
    rw [show j / 2 * 2 + 1 = j by omega, hu] at this
    simp [ptC] at this
    subst this
    rw [← h1]
    congr 2
    omega

set_option maxHeartbeats 1600000 in
/-- The argument is some parts. -/
theorem open_parts {W : World} {base : Nat} {v : Value} {d : DataW H} {p : List MemPlace} (k : Value.okWide Try.prog W .any base 23 v) (h : DataW.Trod enc Try.prog W 0 (fun _ => true) true 23 v d p) :
    ∃ (A : Option Addr) (cap : Nat) (l : List Pt), v = .slice A l.length cap ∧ l.length ≤ cap ∧ cap ≤ maxLen ∧ Rd W W.heap.size 2 A l.length (l.flatMap ptC) ∧ PtOk W W.heap.size l := by
  obtain ⟨a0, len, cap, rfl⟩ := okWide_slice Try.underlying23 k
  obtain ⟨fuel, hf⟩ := h
  rcases open_slice Try.underlying23 hf with h0 | ⟨a, len', cap', m, n, D, Pl, hcs, hb, hl, hm, hmm, hx, hi⟩
  · obtain ⟨hv, _⟩ := h0
    simp only [Value.cells, List.cons.injEq, and_true] at hv
    injection hv with h1 h2 h3
    subst h1; subst h2; subst h3
    exact ⟨none, 0, [], rfl, Nat.le_refl _, by simp [maxLen], Rd.nil _ _ _ _, fun p hp => by simp at hp⟩
  · simp only [Value.cells, List.cons.injEq, and_true] at hcs
    injection hcs with h1 h2 h3
    subst h1; subst h2; subst h3
    have hC : Try.prog.cellsOf 26 = 2 := by kernel_rfl
    have hcell : ∀ i, i < len → ∃ p : Pt, (W.cell? (a.add (i * 2)) = some (.int .i64 p.b) ∧ W.cell? (a.add (i * 2 + 1)) = some (.slice p.A p.f.length p.c)) ∧ Rd W W.heap.size 1 p.A p.f.length (p.f.map bv) ∧ ∀ v ∈ p.f, v < 256 := by
      intro i hil
      have him : i < m := by
        rw [hmm]
        simp only [if_true]
        omega
      obtain ⟨cs', hc, ht'⟩ := hi i him
      rw [hC] at hc
      obtain ⟨ys, n', hn', hy, hlen, hyl, hfld⟩ := DataW.trod_struct Try.underlying26 ht'
      obtain ⟨_, hcl, hat⟩ := World.cells?_some hc
      rw [hC] at hlen
      obtain ⟨c0, c1, rfl⟩ : ∃ c0 c1, cs' = [c0, c1] := by
        match cs', hlen with
        | [c0, c1], _ => exact ⟨c0, c1, rfl⟩
      have h0 := hfld 0 _ rfl
      have h1 := hfld 1 _ rfl
      have hy0 : ys[0]? = some (ys[0]'(by rw [hyl]; decide)) := List.getElem?_eq_getElem _
      have hy1 : ys[1]? = some (ys[1]'(by rw [hyl]; decide)) := List.getElem?_eq_getElem _
      rw [hy0] at h0
      rw [hy1] at h1
      obtain ⟨x, ex, _, wx⟩ := DataW.trod_int (k := .i64) Try.underlying3 h0
      obtain ⟨fA, fc, f, ef, hR, hv⟩ := field_bytes h1
      have hC3 : Try.prog.cellsOf 3 = 1 := by kernel_rfl
      have hC22 : Try.prog.cellsOf 22 = 1 := by kernel_rfl
      have e0 : c0 = .int .i64 x := by
        have ex' : [c0] = [Value.int .i64 x] := ex
        injection ex'
      have e1 : c1 = .slice fA f.length fc := by
        have ef' : [c1] = [Value.slice fA f.length fc] := ef
        injection ef'
      subst e0; subst e1
      have hat0 := hat 0 (by decide)
      have hat1 := hat 1 (by decide)
      refine ⟨⟨x, f, fA, fc⟩, ⟨?_, ?_⟩, hR, hv⟩
      · have : (a.add (i * 2)).add 0 = a.add (i * 2) := by simp [Addr.add]
        rw [this] at hat0
        exact hat0
      · rw [Go.Deep.add_add] at hat1
        exact hat1
    obtain ⟨l, hll, hq⟩ := list_of len hcell
    subst hll
    refine ⟨some a, cap, l, rfl, hl, hm, ?_, ?_⟩
    · by_cases hn : 0 < l.length
      · have hx0 := (hq 0 hn).1.1
        simp only [Nat.zero_mul] at hx0
        have ha0 : a.add 0 = a := by simp [Addr.add]
        rw [ha0] at hx0
        have hlt := World.block_lt_of_cell? W a hx0
        obtain ⟨g, off, spot⟩ := a
        have hs : spot = none := by
          cases spot with
          | none => rfl
          | some s =>
            simp only [World.cell?] at hx0
            split at hx0
            · simp at hx0
            · cases hx0
        subst hs
        refine rd_of_cells rfl hlt (fun i hi => ?_)
        have := (hq i hi).1
        rw [Go.WideShapes.add_plain, Go.WideShapes.add_plain] at this
        simpa [Nat.add_assoc] using this
      · have : l = [] := List.eq_nil_of_length_eq_zero (by omega)
        subst this
        exact Rd.nil _ _ _ _
    · intro p hp
      obtain ⟨i, hi, rfl⟩ := List.getElem_of_mem hp
      exact (hq i hi).2
end
end Go.Proofs.Ytgahefehnhggjaa
