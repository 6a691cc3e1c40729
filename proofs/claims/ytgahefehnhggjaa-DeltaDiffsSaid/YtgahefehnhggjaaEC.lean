/- The walk of package delta's blocks by their sums. -/
import Derived.Test.YtgahefehnhggjaaEB
import Derived.Maps.OwnRows
import Derived.Maps.GroupsBeside
import Derived.Carry
namespace Go.Proofs.Ytgahefehnhggjaa
set_option linter.unusedVariables false
set_option linter.unusedSimpArgs false
open Go.RowKit Go.Own Go.Delta Go.ChangeShapes

theorem info3 : (Try.prog.info? 3).map (fun i => (i.zero, i.size, i.bytes)) = some (some (.int .i64 0), 1, 8) := by kernel_rfl

/-- The first n blocks with a sum. -/
def grp (old : List Nat) (size n : Nat) (κ : Int) : List Int := ((List.range n).filter fun i => keyI (wk (blkOf old size i)) == κ).map Int.ofNat

theorem grp_snoc_yes {old : List Nat} {size n : Nat} {κ : Int} (h : keyI (wk (blkOf old size n)) = κ) : grp old size (n + 1) κ = grp old size n κ ++ [(n : Int)] := by
  unfold grp
  rw [List.range_succ, List.filter_append, List.map_append]
  congr 1
  simp [h]
theorem grp_snoc_no {old : List Nat} {size n : Nat} {κ : Int} (h : keyI (wk (blkOf old size n)) ≠ κ) : grp old size (n + 1) κ = grp old size n κ := by
  unfold grp
  rw [List.range_succ, List.filter_append, List.map_append]
  simp [h]

/-- How numbers read: nil, or a slice. -/
def rowD (zs : List Int) : DataW Unit := match zs with
  | [] => .nil
  | _ => .slice (lits .i64 zs) []

/-- What the map tells. -/
def MapG (old : List Nat) (size n : Nat) (D : DataW Unit) : Prop := ∀ κ, D.atKey (.int .u32 κ) .nil = rowD (grp old size n κ)

theorem lits_inj {a b : List Int} (h : (lits .i64 a : List (DataW Unit)) = lits .i64 b) : a = b := by
  unfold lits at h
  exact (List.map_inj_right (fun a b hab => by cases hab; rfl)).1 h

theorem row_is {w : World} {base e : Nat} {v : Value} {zs L : List Int} (ho : w.ownsInts base e .i64 v zs) (h : rowD L = rowDatum .i64 v zs) : zs = L := by
  rcases World.ownsInts.datum (H := Unit) ho with ⟨h1, h2⟩ | h1
  · rw [h1] at h
    cases L with
    | nil => exact h2
    | cons a L => cases h
  · rw [h1] at h
    cases L with
    | nil => cases h
    | cons a L =>
      have : (lits .i64 (a :: L) : List (DataW Unit)) = lits .i64 zs := by
        have h' : (DataW.slice (lits .i64 (a :: L)) [] : DataW Unit) = .slice (lits .i64 zs) [] := h
        injection h'
      exact (lits_inj this).symm

theorem gb_row {a b c : World} {row : Option Nat} (h : a.grownBy b none) (k : b.grownBy c row) (hA : ∀ g, row = some g → a.heap.size ≤ g) : a.grownBy c none :=
  ⟨k.os.trans h.os, k.tape.trans h.tape, k.output.trans h.output, Nat.le_trans h.size k.size,
    fun i hi _ => (k.block i (Nat.lt_of_lt_of_le hi h.size) (fun e => by have := hA i e.symm; omega)).trans (h.block i hi (by simp))⟩

theorem groups_isMap {w : World} {base mb n : Nat} {D : DataW Unit} (h : w.ownsGroups Try.prog 45 base 3 .i64 mb n D) : Maps.IsMap D := by
  obtain ⟨es, clock, _, _, _, rfl, _⟩ := h
  exact ⟨_, rfl⟩

theorem groups_size {w : World} {base mb n : Nat} {D : DataW Unit} (h : w.ownsGroups Try.prog 45 base 3 .i64 mb n D) : mb + 1 ≤ w.heap.size := by
  obtain ⟨es, clock, hb, _⟩ := h
  exact (Array.getElem?_eq_some_iff.1 hb).1

theorem key_lit_i (κ : Int) : WideAt.IsKeyLit (.int .u32 κ) := trivial

theorem mapg_step {old : List Nat} {size n : Nat} {D : DataW Unit} (hM : MapG old size n D) (hi : Maps.IsMap D) {g c : Nat} :
    MapG old size (n + 1) (D.put (.int .u32 (keyI (wk (blkOf old size n)))) (rowDatum .i64 (.slice (some ⟨g, 0, none⟩) ((grp old size n (keyI (wk (blkOf old size n)))).length + 1) c) (grp old size n (keyI (wk (blkOf old size n))) ++ [(n : Int)]))) := by
  intro κ
  by_cases h : keyI (wk (blkOf old size n)) = κ
  · subst h
    rw [Maps.atKey_put_same hi (key_lit_i _), grp_snoc_yes rfl]
    generalize grp old size n (keyI (wk (blkOf old size n))) = L
    cases L <;> rfl
  · rw [Maps.atKey_put_other (by intro e; injection e with _ e; exact h e.symm), grp_snoc_no h]
    exact hM κ

theorem nat_wf {n : Nat} (h : n ≤ 1000000) : (Lit.int .i64 (n : Int)).wf = true := by
  simp [Lit.wf, IntKind.min, IntKind.max, IntKind.signed, IntKind.bits]; omega

/-- The blocks by their sums, in a map of the call's own. -/
def BlkMap (w : World) (old : List Nat) (size mb : Nat) : Prop := ∃ n D, w.ownsGroups Try.prog 45 (mb + 1) 3 .i64 mb n D ∧ n ≤ 1000000 ∧ MapG old size (nbl old size) D

set_option maxHeartbeats 6400000 in
set_option maxRecDepth 100000 in
theorem blocks_any (old : List Nat) (So : Option Addr) (co B size : Nat) (w : World) (hO : Rd w B 1 So old.length (old.map bv)) (hB : B ≤ w.heap.size) (hs : 1 ≤ size) (hs4 : size ≤ 4096) (hol : old.length ≤ 100000) (hco : old.length ≤ co) (hcm : co ≤ 9223372036854775807) (hbo : ∀ v ∈ old, v < 256) :
    Calls Try.prog 14 #[.slice So old.length co, .int .i64 size] w fun e w' => e = .returned (.map (some w.heap.size)) ∧ BlkMap w' old size w.heap.size ∧ w.grownBy w' none := by
  obtain ⟨it, hi, hz0, hz1, hz2⟩ := info_parts info3
  have hmm := @run_makeMap Try.prog
  have hnew := World.ownsGroups_made (H := Unit) w Try.prog 45 3 .i64
  have hzero : ∀ W : World, (zeroValue 50).run Try.prog W = .ok (.slice none 0 0) W := fun W => by rfl
  have hnb : nbl old size ≤ 100000 := Nat.le_trans (Nat.div_le_self _ _) hol
  go_enter Try.func14, Try.ntmps14
  go_wp2_with fail
  go_loopw [6] (fun v6 wi => ∃ (i n : Nat) (D : DataW Unit), v6 = .int .i64 i ∧ i ≤ nbl old size ∧ n ≤ i ∧ wi.ownsGroups Try.prog 45 (w.heap.size + 1) 3 .i64 w.heap.size n D ∧ MapG old size i D ∧ w.grownBy wi none)
    (fun v6 _ => nbl old size - (intOf v6).toNat)
  case atStart => exact ⟨0, 0, .map [], rfl, by omega, by omega, hnew, fun κ => rfl, gb_alloc (gb_refl _ _) _⟩
  case round =>
    obtain ⟨i, n, D, rfl, hin, hni, hown, hM, hg⟩ := hrel
    by_cases hil : i < nbl old size
    · have hle := (nbl_iff old size i hs).1 hil
      obtain ⟨lo, hlo⟩ : ∃ lo, lo = i * size := ⟨_, rfl⟩
      have hm1 : (i + 1) * size = lo + size := by rw [Nat.add_mul, Nat.one_mul, hlo]
      rw [hm1] at hle
      have hi1 : ((i : Int)) * (size : Int) = (lo : Int) := by rw [hlo]; push_cast; rfl
      have hi2 : ((i : Int) + 1) * (size : Int) = (lo : Int) + (size : Int) := by rw [Int.add_mul, Int.one_mul, hi1]
      have hi6 : i ≤ 100000 := by omega
      have hle2 : (lo : Int) + (size : Int) ≤ (old.length : Int) := by omega
      have hb2 : (lo : Int) + (size : Int) ≤ (co : Int) := by omega
      obtain ⟨og, oo, rfl, hog, hoc⟩ := rd_byte hO (show 0 < old.length by omega)
      have hpart := rd_part (hO.later hg hB) lo size (by omega)
      have hbe : (old.drop lo).take size = blkOf old size i := by unfold blkOf; rw [hlo]
      rw [hbe] at hpart
      have hbl : (blkOf old size i).length = size := blkOf_len old size i (by rw [hm1]; exact hle)
      have hblt := blk_lt hbo size i
      have hwk := weak_any (blkOf old size i) (some ⟨og, oo + lo, none⟩) (co - lo) B wr (by have := hg.size; omega) (by rw [hbl]; exact hpart) hblt (by omega)
      rw [hbl] at hwk
      have hkl := wk_lt (blkOf old size i)
      have hkey := fun W => key_any (wk (blkOf old size i)) size W hkl.1 hkl.2
      have hkwf := keyI_wf (wk (blkOf old size i))
      have hky : keyOf Try.prog 45 (.int .u32 (keyI (wk (blkOf old size i)))) = some (.int .u32 (keyI (wk (blkOf old size i)))) := Maps.keyOf_int_mk Try.underlying45 hkwf
      have hat0 := hM (keyI (wk (blkOf old size i)))
      have hstep := fun g c => mapg_step (g := g) (c := c) hM (groups_isMap hown)
      have HLO := Lib.hid hlo
      clear hm1 hlo hbe hpart hbl hblt hkl hoc hbo
      generalize keyI (wk (blkOf old size i)) = κ at *
      go_wp2_with fail
      refine hwk.mono ?_
      rintro e w2 ⟨rfl, hg2⟩
      go_wp2_with fail
      refine (hkey _).mono ?_
      rintro e w3 ⟨rfl, hg3⟩
      have hg23 := gb_trans hg2 hg3
      have hown3 := hown.kept hg23 (by simp) (fun _ _ _ x _ => by cases x.val.ownBlock <;> simp)
      have hgw := gb_trans hg hg23
      have hsw := hgw.size
      clear hown hM hwk hkey
      go_wp2_with (first
        | (at_lookup
           refine wpList_lookup_groups w3 rfl _ _ 43 rfl 45 50 3 .i64 (Maps.int_keyed Try.underlying45) Try.underlying43 (hzero _) (w.heap.size + 1) w.heap.size n D rfl hown3 (by simp only [maxLen]; omega) _ _ rfl hky ?_
           intro v zs hat hoi hzl hback
           obtain ⟨A, c, rfl⟩ := own_value hoi.1
           have hzs := Lib.hid (row_is hoi (hat0.symm.trans hat))
           clear hat0 hat
           have hOz : Own w3 (w.heap.size + 1) 3 1 A c zs.length (zs.map (Value.int .i64)) := hoi.1
           have hone : ∀ u ∈ [Value.int .i64 (i : Int)], u.oneCell' = true := by intro u hu; simp at hu; subst hu; rfl
           have hby : (zs.length + 1) * 8 ≤ 140737488355328 := by omega
           have hs3 : w.heap.size + 1 ≤ w3.heap.size := groups_size hown3)
        | (at_builtin
           refine wpList_app1 w3 rfl (.tmp 33) (.tmp 35) 50 rfl (w.heap.size + 1) 3 Try.underlying50 hi hz0 hz1 hz2 rfl (by decide) A c zs.length (zs.map (Value.int .i64)) rfl hOz [.int .i64 (i : Int)] 3 1 (by rfl) rfl hone hby (by decide) hs3 ?_
           intro g1 c1 w4 hO4 hgr hloc hbg1 hlt1)
        | (at_mapUpdate
           go_loud (refine wpList_mapUpdate_back w4 rfl _ _ _ 43 rfl hback rfl rfl rfl (by rw [ownBlock_eq]; exact hgr) (v' := .slice (some ⟨g1, 0, none⟩) (zs.length + 1) c1) (zs' := zs ++ [(i : Int)]) ⟨by
             simp only [List.length_append, List.length_cons, List.length_nil, List.map_append, List.map_cons, List.map_nil, Nat.zero_add]
             exact hO4, by
             intro z hz
             rcases List.mem_append.1 hz with hz | hz
             · exact hoi.2 z hz
             · simp at hz; subst hz; exact nat_wf (by omega)⟩ (by simp; omega) (by
             rw [ownBlock_eq, ownBlock_eq]
             rcases hloc with h | h
             · exact .inl h.symm
             · exact .inr ⟨g1, rfl, h⟩) ?_)
           intro w5 hown5 hg5))
      go_roundw
      case rel =>
        refine ⟨i + 1, n + 1, _, by go_num, by omega, by omega, hown5, ?_, gb_row (gb_row hgw hgr (fun g hg' => by have := (hOz.lt g hg').1; omega)) hg5 (fun g hg' => by simp at hg'; omega)⟩
        have := hstep g1 c1
        rw [← hzs.out] at this
        exact this
      case measure => first | (simp [intOf]; done) | (simp [intOf]; omega)
    · have hiq : i = nbl old size := by omega
      have hnle : ¬ ((i + 1) * size ≤ old.length) := fun h => hil ((nbl_iff old size _ hs).2 h)
      have hi2 : ((i : Int) + 1) * (size : Int) = (((i + 1) * size : Nat) : Int) := by push_cast; rfl
      have hi4 : (i + 1) * size ≤ 1000000000 := Nat.le_trans (Nat.mul_le_mul (show i + 1 ≤ 100001 by omega) hs4) (by decide)
      have hi6 : i ≤ 100000 := by omega
      generalize (i + 1) * size = z at *
      have hi3 : ¬ ((z : Int) ≤ (old.length : Int)) := by omega
      replace hiq := Lib.hid hiq
      clear hil hin
      go_wp2_with fail
      go_ret
      rw [hiq.out] at hM
      exact ⟨rfl, ⟨n, D, hown, by omega, hM⟩, hg⟩
end Go.Proofs.Ytgahefehnhggjaa
