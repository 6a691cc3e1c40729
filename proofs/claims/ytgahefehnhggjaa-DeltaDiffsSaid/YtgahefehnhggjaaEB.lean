/- The walks of package delta's search among blocks, and of its parts. -/
import Derived.Test.YtgahefehnhggjaaEA
import Derived.Test.YtgahefehnhggjaaDB
import Derived.Laws.BytesArg
import Derived.Lib.SlBytesConst
namespace Go.Proofs.Ytgahefehnhggjaa
set_option linter.unusedVariables false
set_option linter.unusedSimpArgs false
open Go.RowKit Go.Own Go.Delta

/-- Bytes as a string. -/
def strB (l : List Nat) : ByteArray := strOfNums (l.map Int.ofNat)

theorem conv_any {w : World} {B n : Nat} {A : Option Addr} (c : Nat) {l : List Nat} (h : Rd w B 1 A n (l.map bv)) (hn : l.length = n) : (convert 22 9 (.slice A n c)).run Try.prog w = .ok (.string (strB l)) w := by
  rcases Nat.eq_zero_or_pos n with h0 | h0
  · subst h0
    have hl : l = [] := List.eq_nil_of_length_eq_zero hn
    subst hl
    cases A with
    | none => exact run_convert_bytes_nil _ 22 5 Try.underlying22 Try.underlying5 0 c 9 Try.underlying9
    | some a =>
      have hr := run_convert_bytes_back (P := Try.prog) w 22 9 5 a c [] Try.underlying22 Try.underlying5 Try.underlying9 (fun j hj => by simp at hj)
      simpa [strB, strOfNums] using hr
  · obtain ⟨g, off, rfl, _, hc⟩ := h.2 h0
    refine run_convert_bytes_arg w 22 5 Try.underlying22 Try.underlying5 g off n c (l.map Int.ofNat) (by simpa using hn) (fun i hi => ?_) 9 Try.underlying9
    have hil : i < l.length := by omega
    have := hc i (bv l[i]) (by simp [hil])
    rw [this]
    simp [hil, bv]

theorem strB_data {l : List Nat} (hl : ∀ v ∈ l, v < 256) : (strB l).data.toList.map UInt8.toNat = l := by
  unfold strB
  rw [strOfNums_data, List.map_map, List.map_map]
  conv => rhs; rw [← List.map_id l]
  refine List.map_congr_left fun v hv => ?_
  have := hl v hv
  simp [Function.comp]
  omega

theorem strB_inj {a b : List Nat} (ha : ∀ v ∈ a, v < 256) (hb : ∀ v ∈ b, v < 256) (h : strB a = strB b) : a = b := by
  rw [← strB_data ha, ← strB_data hb, h]

theorem beq_strB {a b : List Nat} (ha : ∀ v ∈ a, v < 256) (hb : ∀ v ∈ b, v < 256) (h : a ≠ b) : ((strB a).toList == (strB b).toList) = false := by
  rw [beq_eq_false_iff_ne]
  intro e
  rw [ByteArray.toList_eq, ByteArray.toList_eq] at e
  exact h (by rw [← strB_data ha, ← strB_data hb, e])

/-- Part of a row of bytes. -/
theorem rd_part {w : World} {B : Nat} {g off : Nat} {b : List Nat} (h : Rd w B 1 (some ⟨g, off, none⟩) b.length (b.map bv)) (lo n : Nat) (hl : lo + n ≤ b.length) : Rd w B 1 (some ⟨g, off + lo, none⟩) n (((b.drop lo).take n).map bv) := by
  refine ⟨by simp; omega, fun hn => ?_⟩
  obtain ⟨g', off', e, hg, hc⟩ := h.2 (by omega)
  injection e with e
  injection e with e1 e2
  subst e1; subst e2
  refine ⟨g, off + lo, rfl, hg, fun j u hu => ?_⟩
  have hj : j < n := by
    have := (List.getElem?_eq_some_iff.1 hu).1
    simp at this; omega
  rw [show off + lo + j = off + (lo + j) by omega]
  refine hc (lo + j) u ?_
  rw [← hu, List.getElem?_map, List.getElem?_map, List.getElem?_take_of_lt hj, List.getElem?_drop]

theorem blk_lt {b : List Nat} (hb : ∀ v ∈ b, v < 256) (size i : Nat) : ∀ v ∈ blkOf b size i, v < 256 := fun v hv => hb v (List.mem_of_mem_drop (List.mem_of_mem_take hv))

set_option maxHeartbeats 3200000 in
theorem found_any (old here zs : List Nat) (L So Sh : Option Addr) (cl co ch B : Nat) (w : World) (hL : Rd w B 1 L zs.length (zs.map fun i => .int .i64 ((i : Nat) : Int))) (hO : Rd w B 1 So old.length (old.map bv)) (hH : Rd w B 1 Sh here.length (here.map bv)) (hB : B ≤ w.heap.size)
    (hz : ∀ i ∈ zs, i < nbl old here.length) (hzl : zs.length ≤ 1000000) (hh : 0 < here.length) (hol : old.length ≤ 1000000) (hhl : here.length ≤ 1000000) (hco : old.length ≤ co) (hcm : co ≤ 9223372036854775807) (hbo : ∀ v ∈ old, v < 256) (hbh : ∀ v ∈ here, v < 256) :
    Calls Try.prog 16 #[.slice L zs.length cl, .slice So old.length co, .slice Sh here.length ch] w fun e w' => e = .returned (.int .i64 (firstIn old here zs)) ∧ w.grownBy w' none := by
  go_enter Try.func16, Try.ntmps16
  go_wp2_with fail
  go_loopw [11] (fun v11 wi => ∃ k : Nat, v11 = .int .i64 k ∧ k ≤ zs.length ∧ firstIn old here zs = firstIn old here (zs.drop k) ∧ w.grownBy wi none)
    (fun v11 _ => zs.length - (intOf v11).toNat)
  case atStart => exact ⟨0, rfl, by omega, by simp, gb_refl _ _⟩
  case round =>
    obtain ⟨k, rfl, hk, hf, hg⟩ := hrel
    have HF := Lib.hid hf
    clear hf
    by_cases hkl : k < zs.length
    · have hki : (k : Int) < (zs.length : Int) := by omega
      have hk6 : k ≤ 1000000 := by omega
      obtain ⟨lg, lo', rfl, hlg, hlc⟩ := hL.form (by omega)
      have hmem : zs[k] ∈ zs := List.getElem_mem hkl
      have c0 := hg.cell (hlc k (.int .i64 ((zs[k] : Nat) : Int)) (by simp [hkl])) (by simp)
      have hdr : zs.drop k = zs[k] :: zs.drop (k + 1) := List.drop_eq_getElem_cons hkl
      have hin := hz _ hmem
      have HD := Lib.hid hdr
      clear hdr hmem
      generalize zs[k] = i at *
      have hle := (nbl_iff old here.length i hh).1 hin
      obtain ⟨lo, hlo⟩ : ∃ lo, lo = i * here.length := ⟨_, rfl⟩
      have hm1 : (i + 1) * here.length = lo + here.length := by rw [Nat.add_mul, Nat.one_mul, hlo]
      rw [hm1] at hle
      have hi1 : ((i : Int)) * (here.length : Int) = (lo : Int) := by rw [hlo]; push_cast; rfl
      have hi2 : ((i : Int) + 1) * (here.length : Int) = (lo : Int) + (here.length : Int) := by rw [Int.add_mul, Int.one_mul, hi1]
      have hil : (i : Int) ≤ 1000000 := by
        have : i ≤ i * here.length := Nat.le_mul_of_pos_right _ hh
        omega
      obtain ⟨og, oo, rfl, hog, hoc⟩ := rd_byte hO (show 0 < old.length by omega)
      have hpart := rd_part hO lo here.length (by omega)
      have hbe : (old.drop lo).take here.length = blkOf old here.length i := by unfold blkOf; rw [hlo]
      rw [hbe] at hpart
      have hv1 := fun n => conv_any (co - lo) (hpart.later (gb_drewN (row := none) hg n) hB) (by rw [blkOf_len]; rw [hm1]; omega)
      have hv2 := fun n => conv_any ch (hH.later (gb_drewN (row := none) hg n) hB) rfl
      have hblt := blk_lt hbo here.length i
      have hb2 : (lo : Int) + (here.length : Int) ≤ (co : Int) := by omega
      have hfd : firstIn old here (i :: zs.drop (k + 1)) = if blkOf old here.length i = here then (i : Int) else firstIn old here (zs.drop (k + 1)) := rfl
      have HFD := Lib.hid (HF.out.trans ((congrArg (firstIn old here) HD.out).trans hfd))
      have HLO := Lib.hid hlo
      clear hfd hbe hpart hm1 hlo hoc
      by_cases hb : blkOf old here.length i = here
      · rw [hb] at hv1
        have HE := Lib.hid (HFD.out.trans (if_pos hb))
        clear hb hblt
        go_wp2
        go_quiet (fail)
        go_wp2
        go_ret
        exact ⟨ret_int (by rw [HE.out]), gb_drewN hg _⟩
      · have HE := Lib.hid (HFD.out.trans (if_neg hb))
        have hne := beq_strB hblt hbh hb
        clear hb hblt
        go_wp2
        go_quiet (fail)
        clear hi1 hi2 hb2 hle hv1 hv2
        go_wp2_with fail
        go_roundw
        case rel => exact ⟨k + 1, by go_num, by omega, HE.out, gb_drewN hg _⟩
        case measure => first | (simp [intOf]; done) | (simp [intOf]; omega)
    · have hk2 : k = zs.length := by omega
      subst hk2
      rw [List.drop_length] at HF
      go_wp2_with fail
      go_ret
      exact ⟨by rw [HF.out]; rfl, hg⟩

/-- A part in memory: its number, and the slice of its bytes. -/
structure Pt where
  b : Int
  f : List Nat
  A : Option Addr
  c : Nat

def ptC (p : Pt) : List Value := [.int .i64 p.b, .slice p.A p.f.length p.c]
def prt (p : Pt) : Prt := (p.b, p.f)

/-- The parts' bytes lie below block B. -/
def PtOk (w : World) (B : Nat) (l : List Pt) : Prop := ∀ p ∈ l, Rd w B 1 p.A p.f.length (p.f.map bv) ∧ ∀ v ∈ p.f, v < 256

theorem PtOk.below {w w' : World} {B : Nat} {l : List Pt} (h : PtOk w B l) (hb : Below B w w') : PtOk w' B l := fun p hp => ⟨(h p hp).1.below hb, (h p hp).2⟩
theorem PtOk.mono {w : World} {B B' : Nat} {l : List Pt} (h : PtOk w B l) (hb : B ≤ B') : PtOk w B' l := fun p hp => ⟨(h p hp).1.mono hb, (h p hp).2⟩

theorem ptC_len (l : List Pt) : (l.flatMap ptC).length = l.length * 2 := by
  induction l with
  | nil => rfl
  | cons t l ih => simp only [List.flatMap_cons, List.length_append, ih, List.length_cons]; simp [ptC]; omega

theorem ptC_get (l : List Pt) (i k : Nat) (hk : k < 2) (t : Pt) (h : l[i]? = some t) : (l.flatMap ptC)[i * 2 + k]? = (ptC t)[k]? := by
  induction l generalizing i with
  | nil => simp at h
  | cons t' l ih =>
    rw [List.flatMap_cons]
    cases i with
    | zero =>
      simp at h
      subst h
      rw [List.getElem?_append_left (by simp [ptC]; omega)]
      congr 1
      omega
    | succ i =>
      have hl : (ptC t').length = 2 := rfl
      rw [List.getElem?_append_right (by rw [hl]; omega), hl]
      rw [show (i + 1) * 2 + k - 2 = i * 2 + k by omega]
      exact ih i (by simpa using h)

theorem ptC_one (t : Pt) : ∀ u ∈ ptC t, u.oneCell' = true := by
  intro u hu
  simp [ptC] at hu
  rcases hu with rfl | rfl <;> rfl

theorem rd_pt {w : World} {B : Nat} {S : Option Addr} {l : List Pt} (h : Rd w B 2 S l.length (l.flatMap ptC)) {k : Nat} (hk : k < l.length) :
    ∃ g off, S = some ⟨g, off, none⟩ ∧ g < B ∧ w.cell? ⟨g, off + k * 2, none⟩ = some (.int .i64 l[k].b) ∧ w.cell? ⟨g, off + k * 2 + 1, none⟩ = some (.slice l[k].A l[k].f.length l[k].c) := by
  obtain ⟨g, off, hS, hg, hc⟩ := h.form (by omega)
  have hl : l[k]? = some l[k] := by simp [hk]
  refine ⟨g, off, hS, hg, ?_, ?_⟩
  · have := hc (k * 2 + 0) (.int .i64 l[k].b) (by rw [ptC_get l k 0 (by omega) _ hl]; rfl)
    simpa using this
  · have := hc (k * 2 + 1) (.slice l[k].A l[k].f.length l[k].c) (by rw [ptC_get l k 1 (by omega) _ hl]; rfl)
    simpa [Nat.add_assoc] using this

theorem info37 : (Try.prog.info? 37).map (fun i => (i.zero, i.size, i.bytes)) = some (some (.agg #[.int .i64 0, .slice none 0 0]), 2, 32) := by kernel_rfl

/-- What shut makes of parts in memory. -/
def shutP (out : List Pt) (run : List Nat) (A : Option Addr) (c : Nat) : List Pt := if run = [] then out else out ++ [⟨-1, run, A, c⟩]

theorem shutP_prt (out : List Pt) (run : List Nat) (A : Option Addr) (c : Nat) : (shutP out run A c).map prt = shutS (out.map prt) run := by
  unfold shutP shutS
  split <;> simp [prt]

set_option maxHeartbeats 1600000 in
theorem shut_any (base : Nat) (out : List Pt) (run : List Nat) (Ao Ar : Option Addr) (co cr : Nat) (w : World) (hO : Own w base 37 2 Ao co out.length (out.flatMap ptC)) (hbw : base ≤ w.heap.size) (hol : out.length ≤ 1000000) :
    Calls Try.prog 18 #[.slice Ao out.length co, .slice Ar run.length cr] w fun e w' => ∃ A' c', e = .returned (.slice A' (shutP out run Ar cr).length c') ∧ Own w' base 37 2 A' c' (shutP out run Ar cr).length ((shutP out run Ar cr).flatMap ptC) ∧ w.grownBy w' (blk Ao) ∧ (blk A' = blk Ao ∨ ∀ k, blk A' = some k → w.heap.size ≤ k) := by
  obtain ⟨it, hi, hz0, hz1, hz2⟩ := info_parts info37
  by_cases hr : run = []
  · subst hr
    have e : shutP out [] Ar cr = out := by unfold shutP; rw [if_pos rfl]
    rw [e]
    go_enter Try.func18, Try.ntmps18
    go_wp2_with fail
    go_ret
    exact ⟨Ao, co, rfl, hO, gb_refl _ _, .inl rfl⟩
  · have e : shutP out run Ar cr = out ++ [⟨-1, run, Ar, cr⟩] := by unfold shutP; rw [if_neg hr]
    rw [e]
    have hrl : ((run.length : Int) == 0) = false := by
      have : run.length ≠ 0 := fun h => hr (List.eq_nil_of_length_eq_zero h)
      simp; omega
    have hone := ptC_one ⟨-1, run, Ar, cr⟩
    have hby : (out.length + 1) * 32 ≤ 140737488355328 := by omega
    clear e
    go_enter Try.func18, Try.ntmps18
    go_wp2_with (
      at_builtin
      refine wpList_app1 w rfl (.tmp 9) (.tmp 12) 30 rfl base 37 Try.underlying30 hi hz0 hz1 hz2 rfl (by decide) Ao co out.length (out.flatMap ptC) rfl hO (ptC ⟨-1, run, Ar, cr⟩) 37 1 (by rfl) rfl hone hby (by decide) hbw ?_
      intro g1 c1 w6 hO6 hgr hloc hbg1 hlt1)
    go_ret
    refine ⟨some ⟨g1, 0, none⟩, c1, by simp, ?_, hgr, ?_⟩
    · rw [List.length_append, List.flatMap_append]
      simpa using hO6
    · rcases hloc with h | h
      · exact .inl h.symm
      · exact .inr (fun k hk => by simp [blk] at hk; omega)
end Go.Proofs.Ytgahefehnhggjaa
