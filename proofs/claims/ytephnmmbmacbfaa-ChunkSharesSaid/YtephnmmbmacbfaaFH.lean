/- The law ChunkCuts: its arguments, its walk. -/
import Derived.Test.YtephnmmbmacbfaaFG
import Derived.Laws.BytesArg
import Derived.Lib.SlBytesConst
namespace Go.Proofs.Ytephnmmbmacbfaa
set_option linter.unusedVariables false
set_option linter.unusedSimpArgs false
open Go.RowKit Go.Own Go.Chunk

/-- Bytes as a string. -/
def strB (l : List Nat) : ByteArray := strOfNums (l.map Int.ofNat)

theorem conv_any {w : World} {B n : Nat} {A : Option Addr} (c : Nat) {l : List Nat} (h : Rd w B 1 A n (l.map bv)) (hn : l.length = n) : (convert 24 9 (.slice A n c)).run Try.prog w = .ok (.string (strB l)) w := by
  rcases Nat.eq_zero_or_pos n with h0 | h0
  · subst h0
    have hl : l = [] := List.eq_nil_of_length_eq_zero hn
    subst hl
    cases A with
    | none => exact run_convert_bytes_nil _ 24 5 Try.underlying24 Try.underlying5 0 c 9 Try.underlying9
    | some a =>
      have hr := run_convert_bytes_back (P := Try.prog) w 24 9 5 a c [] Try.underlying24 Try.underlying5 Try.underlying9 (fun j hj => by simp at hj)
      simpa [strB, strOfNums] using hr
  · obtain ⟨g, off, rfl, _, hc⟩ := h.2 h0
    refine run_convert_bytes_arg w 24 5 Try.underlying24 Try.underlying5 g off n c (l.map Int.ofNat) (by simpa using hn) (fun i hi => ?_) 9 Try.underlying9
    have hil : i < l.length := by omega
    have := hc i (bv l[i]) (by simp [hil])
    rw [this]
    simp [hil, bv]

theorem strB_data {l : List Nat} (hl : ∀ v ∈ l, v < 256) : (strB l).data.toList.map UInt8.toNat = l := by
  unfold strB
  rw [strOfNums_data, List.map_map, List.map_map]
  conv => rhs; rw [← List.map_id l]
  refine List.map_congr_left fun v hv => ?_
  have := hl v hv
  simp [Function.comp]
  omega

theorem strB_inj {a b : List Nat} (ha : ∀ v ∈ a, v < 256) (hb : ∀ v ∈ b, v < 256) (h : strB a = strB b) : a = b := by
  rw [← strB_data ha, ← strB_data hb, h]

theorem beq_strB {a b : List Nat} (ha : ∀ v ∈ a, v < 256) (hb : ∀ v ∈ b, v < 256) (h : a ≠ b) : ((strB a).toList == (strB b).toList) = false := by
  rw [beq_eq_false_iff_ne]
  intro e
  rw [ByteArray.toList_eq, ByteArray.toList_eq] at e
  exact h (by rw [← strB_data ha, ← strB_data hb, e])

section
open Go.ChangeShapes Go.WideShapes Go.ChangeAt
variable {H : Type} {enc : TypeId × Value → H}

/-- A slice of bytes, as numbers from 0 on. -/
theorem open_bytes {W : World} {base : Nat} {v : Value} {d : DataW H} {p : List MemPlace} (k : Value.okWide Try.prog W .any base 24 v) (h : DataW.Trod enc Try.prog W 0 (fun _ => true) true 24 v d p) :
    ∃ (A : Option Addr) (cap : Nat) (bl : List Nat), v = .slice A bl.length cap ∧ bl.length ≤ cap ∧ cap ≤ maxLen ∧ Rd W W.heap.size 1 A bl.length (bl.map bv) ∧ ∀ x ∈ bl, x < 256 := by
  obtain ⟨A, len, cap, zs, rfl, h1, h2, h3, hR, hz⟩ := open_nums Try.underlying24 Try.underlying5 (by kernel_rfl) k h
  have hzz : ∀ z ∈ zs, 0 ≤ z ∧ z < 256 := by
    intro z hz'
    have := hz z hz'
    have := bounds_u8 this
    omega
  have e : (zs.map Int.toNat).map bv = zs.map (Value.int .u8) := by
    rw [List.map_map]
    refine List.map_congr_left fun z hz' => ?_
    have := hzz z hz'
    simp only [Function.comp, bv]
    congr 1
    omega
  refine ⟨A, cap, zs.map Int.toNat, by simp [h3], by simp [h3]; omega, h2, ?_, ?_⟩
  · rw [e, List.length_map, h3]; exact hR
  · intro x hx
    obtain ⟨z, hz', rfl⟩ := List.mem_map.1 hx
    have := hzz z hz'
    omega

/-- A case: three bytes. -/
theorem open_case {W : World} {base : Nat} {v : Value} {d : DataW H} {p : List MemPlace} (k : Value.okWide Try.prog W .any base 23 v) (h : DataW.Trod enc Try.prog W 0 (fun _ => true) true 23 v d p) :
    ∃ a b c : Nat, v = .agg #[.int .u8 a, .int .u8 b, .int .u8 c] ∧ a < 256 ∧ b < 256 ∧ c < 256 := by
  obtain ⟨cs, rfl, hsz⟩ := okWide_struct Try.underlying23 k
  obtain ⟨fuel, hf⟩ := h
  obtain ⟨ys, n', hn', hy, hlen, hyl, hfld⟩ := DataW.trod_struct Try.underlying23 hf
  have hC : Try.prog.cellsOf 23 = 3 := by kernel_rfl
  rw [hC] at hsz
  obtain ⟨c0, c1, c2, rfl⟩ : ∃ c0 c1 c2, cs = #[c0, c1, c2] := by
    obtain ⟨l⟩ := cs
    match l, hsz with
    | [c0, c1, c2], _ => exact ⟨c0, c1, c2, rfl⟩
  have h0 := hfld 0 _ rfl
  have h1 := hfld 1 _ rfl
  have h2 := hfld 2 _ rfl
  have hy0 : ys[0]? = some (ys[0]'(by rw [hyl]; decide)) := List.getElem?_eq_getElem _
  have hy1 : ys[1]? = some (ys[1]'(by rw [hyl]; decide)) := List.getElem?_eq_getElem _
  have hy2 : ys[2]? = some (ys[2]'(by rw [hyl]; decide)) := List.getElem?_eq_getElem _
  rw [hy0] at h0
  rw [hy1] at h1
  rw [hy2] at h2
  obtain ⟨x0, e0, _, w0⟩ := DataW.trod_int (k := .u8) Try.underlying5 h0
  obtain ⟨x1, e1, _, w1⟩ := DataW.trod_int (k := .u8) Try.underlying5 h1
  obtain ⟨x2, e2, _, w2⟩ := DataW.trod_int (k := .u8) Try.underlying5 h2
  have f0 : c0 = .int .u8 x0 := by have e : [c0] = [Value.int .u8 x0] := e0; injection e
  have f1 : c1 = .int .u8 x1 := by have e : [c1] = [Value.int .u8 x1] := e1; injection e
  have f2 : c2 = .int .u8 x2 := by have e : [c2] = [Value.int .u8 x2] := e2; injection e
  have b0 := bounds_u8 w0
  have b1 := bounds_u8 w1
  have b2 := bounds_u8 w2
  subst f0; subst f1; subst f2
  refine ⟨x0.toNat, x1.toNat, x2.toNat, ?_, by omega, by omega, by omega⟩
  rw [Int.toNat_of_nonneg (by omega), Int.toNat_of_nonneg (by omega), Int.toNat_of_nonneg (by omega)]
end

end Go.Proofs.Ytephnmmbmacbfaa
