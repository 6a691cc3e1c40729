/- Strings as lists of bytes. -/
import Derived.Test.YtbnkdopigjdogaaGB
namespace Go.Proofs.Ytbnkdopigjdogaa
set_option linter.unusedVariables false
set_option linter.unusedSimpArgs false
open Go.RowKit Go.Own Go.Glob

/-- A byte. -/
def bv (v : Nat) : Value := .int .u8 (v : Int)

theorem bv_one {l : List Nat} : ∀ u ∈ l.map bv, u.oneCell' = true := by
  intro u hu
  obtain ⟨x, _, rfl⟩ := List.mem_map.1 hu
  rfl

/-- Bytes as a string. -/
def strB (l : List Nat) : ByteArray := strOfNums (l.map Int.ofNat)

theorem conv_any {w : World} {B n : Nat} {A : Option Addr} (c : Nat) {l : List Nat} (h : Rd w B 1 A n (l.map bv)) (hn : l.length = n) : (convert 51 9 (.slice A n c)).run Try.prog w = .ok (.string (strB l)) w := by
  rcases Nat.eq_zero_or_pos n with h0 | h0
  · subst h0
    have hl : l = [] := List.eq_nil_of_length_eq_zero hn
    subst hl
    cases A with
    | none => exact run_convert_bytes_nil _ 51 5 Try.underlying51 Try.underlying5 0 c 9 Try.underlying9
    | some a =>
      have hr := run_convert_bytes_back (P := Try.prog) w 51 9 5 a c [] Try.underlying51 Try.underlying5 Try.underlying9 (fun j hj => by simp at hj)
      simpa [strB, strOfNums] using hr
  · obtain ⟨g, off, rfl, _, hc⟩ := h.2 h0
    refine run_convert_bytes_arg w 51 5 Try.underlying51 Try.underlying5 g off n c (l.map Int.ofNat) (by simpa using hn) (fun i hi => ?_) 9 Try.underlying9
    have hil : i < l.length := by omega
    have := hc i (bv l[i]) (by simp [hil])
    rw [this]
    simp [hil, bv]

theorem strB_data {l : List Nat} (hl : ∀ v ∈ l, v < 256) : (strB l).data.toList.map UInt8.toNat = l := by
  unfold strB
  rw [strOfNums_data, List.map_map, List.map_map]
  conv => rhs; rw [← List.map_id l]
  refine List.map_congr_left fun v hv => ?_
  have := hl v hv
  simp [Function.comp]
  omega

theorem strB_inj {a b : List Nat} (ha : ∀ v ∈ a, v < 256) (hb : ∀ v ∈ b, v < 256) (h : strB a = strB b) : a = b := by
  rw [← strB_data ha, ← strB_data hb, h]

theorem beq_strB {a b : List Nat} (ha : ∀ v ∈ a, v < 256) (hb : ∀ v ∈ b, v < 256) (h : a ≠ b) : ((strB a).toList == (strB b).toList) = false := by
  rw [beq_eq_false_iff_ne]
  intro e
  rw [ByteArray.toList_eq, ByteArray.toList_eq] at e
  exact h (by rw [← strB_data ha, ← strB_data hb, e])


theorem strB_size (l : List Nat) : (strB l).size = l.length := by
  have : (strB l).data.toList.length = l.length := by
    unfold strB
    rw [strOfNums_data, List.length_map, List.length_map]
  show (strB l).data.size = l.length
  rw [← Array.length_toList]
  exact this

theorem strB_get {l : List Nat} (hl : ∀ v ∈ l, v < 256) (i : Nat) (h : i < (strB l).size) : ((strB l)[i]'h).toNat = l.getD i 0 := by
  have hi : i < l.length := by rw [strB_size] at h; exact h
  have e : ((strB l).data.toList.map UInt8.toNat)[i]? = some (((strB l)[i]'h).toNat) := by
    rw [List.getElem?_map, Array.getElem?_toList]
    have : (strB l).data[i]? = some ((strB l)[i]'h) := Array.getElem?_eq_getElem _
    rw [this]
    rfl
  rw [strB_data hl] at e
  simp [List.getD_eq_getElem?_getD, e]

theorem strB_mk (l : List Nat) : strB l = ⟨(l.map fun v => UInt8.ofNat v).toArray⟩ := by
  unfold strB strOfNums
  rw [List.map_map]
  rfl

theorem strB_drop (l : List Nat) (i : Nat) (n : Nat) (hn : n = l.length) : (strB l).extract i n = strB (l.drop i) := by
  subst hn
  rw [strB_mk, strB_mk, ByteArray.extract_mk]
  congr 2
  rw [List.map_drop, List.take_of_length_le (by simp)]

theorem strB_one (l : List Nat) (i : Nat) (h : i < l.length) : (strB l).extract i (i + 1) = strB [l.getD i 0] := by
  rw [strB_mk, strB_mk, ByteArray.extract_mk]
  congr 2
  rw [show i + 1 - i = 1 by omega, List.drop_eq_getElem_cons (by simpa using h)]
  simp [h]

theorem strB_append (a b : List Nat) : strB a ++ strB b = strB (a ++ b) := by
  rw [strB_mk, strB_mk, strB_mk, ByteArray.mk_append_mk, List.map_append]

theorem beq_self_strB (a : List Nat) : ((strB a).toList == (strB a).toList) = true := by simp

/-- Any string is the string of its bytes. -/
theorem strB_of (s : ByteArray) : ∃ l : List Nat, s = strB l ∧ ∀ v ∈ l, v < 256 := by
  refine ⟨s.data.toList.map UInt8.toNat, ?_, ?_⟩
  · rw [strB_mk, List.map_map]
    have : (s.data.toList.map ((fun v => UInt8.ofNat v) ∘ UInt8.toNat)) = s.data.toList := by
      conv => rhs; rw [← List.map_id s.data.toList]
      refine List.map_congr_left fun v _ => ?_
      simp [Function.comp]
    rw [this]
  · intro v hv
    obtain ⟨u, _, rfl⟩ := List.mem_map.1 hv
    exact u.toNat_lt

theorem byte_lt {b : List Nat} (hb : ∀ v ∈ b, v < 256) {i : Nat} (hi : i < b.length) : b.getD i 0 < 256 := by
  have : b.getD i 0 = b[i] := by simp [hi]
  rw [this]; exact hb _ (List.getElem_mem hi)

/-- What single gives. -/
def sglV (s : List Nat) (a : Nat) : Nat × Nat := (single s a).getD (0, 0)

set_option maxHeartbeats 1600000 in
theorem single_any (s : List Nat) (w : World) (hs : ∀ v ∈ s, v < 256) (hl : s.length ≤ 1000000) :
    Calls Try.prog 15 #[.string (strB s)] w fun e w' => e = .returned (.tuple #[.int .u8 ((sglV s 0).1 : Int), .int .i64 ((sglV s 0).2 : Int)]) ∧ w' = w := by
  have hz := strB_size s
  have hx := strB_get hs
  by_cases h0 : s = []
  · subst h0
    go_enter Try.func15, Try.ntmps15
    go_wp2_with fail
    go_ret2
    exact ⟨rfl, rfl⟩
  · have hl0 : 0 < s.length := List.length_pos_iff.2 h0
    have hl0i : ((s.length : Int) == 0) = false := by simp; omega
    have h92 : strB [92] = ⟨#[92]⟩ := by decide
    by_cases h1 : s = [92]
    · subst h1
      rw [h92]
      clear hx hz
      go_enter Try.func15, Try.ntmps15
      go_wp2_with fail
      go_ret2
      exact ⟨rfl, rfl⟩
    · have hne := beq_strB hs (by simp) h1
      rw [h92, ByteArray.toList_eq (⟨#[92]⟩ : ByteArray)] at hne
      replace hne : ((strB s).toList == [92]) = false := hne
      have hc := byte_lt hs hl0
      have hc0 := hx 0 (by rw [hz]; exact hl0)
      by_cases hb : s.getD 0 0 = 92
      · have hl1 : 1 < s.length := by
          rcases s with _ | ⟨x, _ | ⟨y, t⟩⟩
          · simp at hl0
          · simp at hb; subst hb; exact absurd rfl h1
          · simp
        have hv : sglV s 0 = (s.getD 1 0, 2) := by unfold sglV single; rw [if_neg (by omega), if_pos hb, if_pos (by omega)]; rfl
        rw [hv]
        have hc1 := hx 1 (by rw [hz]; exact hl1)
        have hb1 := byte_lt hs hl1
        rw [hb] at hc0
        generalize s.getD 1 0 = y at *
        clear hv hx
        go_enter Try.func15, Try.ntmps15
        go_wp2_with fail
        go_ret2
        exact ⟨rfl, rfl⟩
      · have hv : sglV s 0 = (s.getD 0 0, 1) := by unfold sglV single; rw [if_neg (by omega), if_neg hb]; rfl
        rw [hv]
        generalize s.getD 0 0 = y at *
        have hyi : ((y : Int) == 92) = false := by simp; omega
        clear hv hx hb
        go_enter Try.func15, Try.ntmps15
        go_wp2_with fail
        go_ret2
        exact ⟨rfl, rfl⟩
end Go.Proofs.Ytbnkdopigjdogaa
