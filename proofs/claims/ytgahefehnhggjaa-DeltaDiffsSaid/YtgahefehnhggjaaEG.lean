/- The walks of package delta's Patch, and of the document's. -/
import Derived.Test.YtgahefehnhggjaaEF
namespace Go.Proofs.Ytgahefehnhggjaa
set_option linter.unusedVariables false
set_option linter.unusedSimpArgs false
open Go.RowKit Go.Own Go.Delta Go.ChangeShapes

/-- What a Patch answers. -/
def PatGives (w : World) (r : Option (List Nat)) (bad ok : Value) (e : Ending) (w' : World) : Prop := (match r with
  | none => e = .returned (.tuple #[.slice none 0 0, bad])
  | some o => ∃ (A : Option Addr) (c : Nat), e = .returned (.tuple #[.slice A o.length c, ok]) ∧ Own w' w.heap.size 5 1 A c o.length (o.map bv)) ∧ w.grownBy w' none

theorem patchF_cons {old : List Nat} {size : Nat} {l : List Pt} {t : Pt} {k : Nat} {o : List Nat} (h : l.drop k = t :: l.drop (k + 1)) : patchF old size ((l.drop k).map prt) o = (match patch1 old size (prt t) o with
    | none => none
    | some o2 => patchF old size ((l.drop (k + 1)).map prt) o2) := by
  rw [h]
  rfl

theorem patch1_none1 {old : List Nat} {size : Nat} {t : Pt} {o : List Nat} (h : t.b < 0) (hf : t.f.length = 0) : patch1 old size (prt t) o = none := by
  unfold patch1
  rw [if_pos (.inl ⟨h, List.eq_nil_of_length_eq_zero hf⟩)]
theorem patch1_none2 {old : List Nat} {size : Nat} {t : Pt} {o : List Nat} (h : ((nbl old size : Nat) : Int) ≤ t.b) : patch1 old size (prt t) o = none := by
  unfold patch1
  rw [if_pos (.inr (.inl h))]
theorem patch1_none3 {old : List Nat} {size : Nat} {t : Pt} {o : List Nat} (h : 0 ≤ t.b) (hf : 0 < t.f.length) : patch1 old size (prt t) o = none := by
  unfold patch1
  rw [if_pos (.inr (.inr ⟨h, fun e => by simp [prt] at e; rw [e] at hf; simp at hf⟩))]
theorem patch1_new {old : List Nat} {size : Nat} {t : Pt} {o : List Nat} (h : t.b < 0) (hf : 0 < t.f.length) : patch1 old size (prt t) o = some (o ++ t.f) := by
  unfold patch1
  rw [if_neg, if_pos (show (prt t).1 < 0 from h)]
  · rfl
  · simp only [prt]
    rintro (⟨_, e⟩ | e | ⟨e, _⟩)
    · rw [e] at hf; simp at hf
    · omega
    · omega
theorem patch1_blk {old : List Nat} {size : Nat} {t : Pt} {o : List Nat} (h : 0 ≤ t.b) (hn : ¬ ((nbl old size : Nat) : Int) ≤ t.b) (hf : t.f.length = 0) : patch1 old size (prt t) o = some (o ++ blkOf old size t.b.toNat) := by
  unfold patch1
  rw [if_neg, if_neg (show ¬ (prt t).1 < 0 by simp only [prt]; omega)]
  · rfl
  · simp only [prt]
    rintro (⟨e, _⟩ | e | ⟨_, e⟩)
    · omega
    · exact hn e
    · exact e (List.eq_nil_of_length_eq_zero hf)

set_option maxHeartbeats 12800000 in
set_option maxRecDepth 100000 in
theorem patch_any (old : List Nat) (l : List Pt) (So SL : Option Addr) (co cl B size : Nat) (w : World) (hO : Rd w B 1 So old.length (old.map bv)) (hL : Rd w B 2 SL l.length (l.flatMap ptC)) (hP : PtOk w B l) (hB : B ≤ w.heap.size) (hs : 1 ≤ size) (hs4 : size ≤ 4096) (hol : old.length ≤ 4000) (hll : l.length ≤ 4000) (hfl : ∀ t ∈ l, t.f.length ≤ 4096) (hco : old.length ≤ co) (hcm : co ≤ 9223372036854775807) :
    Calls Try.prog 6 #[.slice So old.length co, .slice SL l.length cl, .int .i64 size] w (PatGives w (patchF old size (l.map prt) []) (.int .i64 21) (.int .i64 0)) := by
  obtain ⟨i5, hi5, hz50, hz51, hz52⟩ := info_parts info5
  obtain ⟨target, htg⟩ : ∃ t, t = patchF old size (l.map prt) [] := ⟨_, rfl⟩
  have HT0 := Lib.hid htg
  rw [← htg]
  clear htg
  have hnb : nbl old size ≤ 4000 := Nat.le_trans (Nat.div_le_self _ _) hol
  have hquo : (old.length : Int).tdiv (size : Int) = (nbl old size : Int) := by
    unfold nbl
    rw [Int.natCast_ediv]
    exact Int.tdiv_eq_ediv_of_nonneg (by omega)
  have hnbi : ∀ i, i < nbl old size → (i + 1) * size ≤ old.length := fun i h => (nbl_iff old size i hs).1 h
  replace hnbi := Lib.hid hnbi
  go_enter Try.func6, Try.ntmps6
  go_wp2_with fail
  go_loopw [8, 19] (fun v8 v19 wi => ∃ (k : Nat) (o : List Nat) (A : Option Addr) (c : Nat), v19 = .int .i64 k ∧ v8 = .slice A o.length c ∧ k ≤ l.length ∧ o.length ≤ k * 4096 ∧ Own wi w.heap.size 5 1 A c o.length (o.map bv) ∧ Hid (target = patchF old size ((l.drop k).map prt) o) ∧ w.grownBy wi none)
    (fun v8 v19 _ => l.length - (intOf v19).toNat)
  case atStart => exact ⟨0, [], none, 0, rfl, rfl, by omega, by simp, Own.nil _ _ _ _, HT0, gb_refl _ _⟩
  case round =>
    obtain ⟨k, o, A, c, rfl, rfl, hk, hoc, hOw, HT, hg⟩ := hrel
    have hgs := hg.size
    by_cases hkl : k < l.length
    · have hki : (k : Int) < (l.length : Int) := by omega
      obtain ⟨lg, lo, rfl, hlg, hc0, hc1⟩ := rd_pt hL hkl
      have hmem : l[k] ∈ l := List.getElem_mem hkl
      have hpt := hP _ hmem
      have hpl := hfl _ hmem
      have hdr : l.drop k = l[k] :: l.drop (k + 1) := List.drop_eq_getElem_cons hkl
      have hstep := HT.out.trans (patchF_cons hdr)
      clear hdr hmem
      replace hc0 := hg.cell hc0 (by simp)
      replace hc1 := hg.cell hc1 (by simp)
      obtain ⟨t, ht⟩ : ∃ t, t = l[k] := ⟨_, rfl⟩
      rw [← ht] at hc0 hc1 hstep hpt hpl
      clear ht
      have n1 := @patch1_none1 old size t o
      have n2 := @patch1_none2 old size t o
      have n3 := @patch1_none3 old size t o
      have n4 := @patch1_new old size t o
      have n5 := @patch1_blk old size t o
      obtain ⟨b, f, fA, fc⟩ := t
      dsimp only at *
      have hBt := Blk.new wr #[.int .i64 b, .slice fA f.length fc] 37
      have hga := gb_alloc (gb_refl wr none) (.cells #[.int .i64 b, .slice fA f.length fc] 37)
      have hRf := hpt.1.later (gb_trans hg hga) hB
      have hRo := hO.later (gb_trans hg hga) hB
      have hOa := hOw.alloc (.cells #[.int .i64 b, .slice fA f.length fc] 37)
      have k0 := hBt.cell 0 rfl
      have k1 := hBt.cell 1 rfl
      have hga2 := gb_trans hg hga
      have hsa : w.heap.size ≤ (wr.alloc (.cells #[.int .i64 b, .slice fA f.length fc] 37)).heap.size := hga2.size
      generalize hnn : nbl old size = nb at *
      replace hnn := Lib.hid hnn
      generalize hml : f.length = m at *
      replace hml := Lib.hid hml
      have hmi : (m : Int) ≤ 4096 := by omega
      have hoi : (o.length : Int) ≤ 20000000 := by omega
      replace hpt := Lib.hid hpt
      by_cases hb : b < 0
      · by_cases hm : m = 0
        · subst hm
          have HS := Lib.hid (by rw [n1 hb rfl] at hstep; exact hstep)
          clear n1 n2 n3 n4 n5 hstep
          go_wp2_with fail
          go_ret2
          rw [HS.out]
          exact ⟨rfl, hga2⟩
        · have HS := Lib.hid (by rw [n4 hb (by omega)] at hstep; exact hstep)
          have hq1 : ¬ ((m : Int) = 0) := by omega
          have hq2 : (0 : Int) < (m : Int) := by omega
          have hq3 : decide (0 < m) = true := by simp; omega
          have hbn : ¬ ((nb : Int) ≤ b) := by omega
          clear n1 n2 n3 n4 n5 hstep
          have h63 : o.length + m ≤ maxLen := by simp only [maxLen]; omega
          have hby : (o.length + m) * 1 ≤ 140737488355328 := by omega
          have hel := Lib.hid (show o.length + m = (o ++ f).length by simp [hml.out])
          go_wp2_with fail
          go_quiet (fail)
          go_wp2_with (
            at_builtin
            refine wpList_appN _ rfl (.tmp 66) (.tmp 68) 22 rfl w.heap.size 5 Try.underlying22 hi5 hz50 hz51 hz52 rfl (by decide) A c o.length (o.map bv) rfl (hOa.drewN _) B fA m fc (f.map bv) rfl hRf bv_one h63 hby hsa ?_
            intro A2 c2 w2 hO2 hgr hloc)
          go_roundw
          case rel =>
            refine ⟨k + 1, o ++ f, A2, c2, by go_num, by rw [hel.out], by omega, by rw [← hel.out]; omega, ?_, HS, gb_own (gb_drewN hga2 _) hgr (fun g h => (hOa.lt g h).1)⟩
            rw [List.map_append, ← hel.out]
            exact hO2
          case measure => first | (simp [intOf]; done) | (simp [intOf]; omega)
      · have hdb : decide (b < 0) = false := by simp; omega
        by_cases hn : (nb : Int) ≤ b
        · have HS := Lib.hid (by rw [n2 hn] at hstep; exact hstep)
          clear n1 n2 n3 n4 n5 hstep
          by_cases hm : m = 0
          · subst hm
            go_wp2_with fail
            go_quiet (fail)
            go_wp2_with fail
            go_ret2
            rw [HS.out]
            exact ⟨rfl, gb_drewN hga2 _⟩
          · have hq1 : ¬ ((m : Int) = 0) := by omega
            have hq2 : (0 : Int) < (m : Int) := by omega
            have hq3 : decide (0 < m) = true := by simp; omega
            go_wp2_with fail
            go_quiet (fail)
            go_wp2_with fail
            go_ret2
            rw [HS.out]
            exact ⟨rfl, gb_drewN hga2 _⟩
        · by_cases hm : m = 0
          · subst hm
            have HS := Lib.hid (by rw [n5 (by omega) hn rfl] at hstep; exact hstep)
            clear n1 n2 n3 n4 n5 hstep
            obtain ⟨i, rfl⟩ : ∃ i : Nat, b = (i : Int) := ⟨b.toNat, by omega⟩
            have hle := hnbi.out i (by omega)
            obtain ⟨z, hz⟩ : ∃ z, z = i * size := ⟨_, rfl⟩
            have hm1 : (i + 1) * size = z + size := by rw [Nat.add_mul, Nat.one_mul, hz]
            rw [hm1] at hle
            have hi1 : ((i : Int)) * (size : Int) = (z : Int) := by rw [hz]; push_cast; rfl
            have hi2 : ((i : Int) + 1) * (size : Int) = (z : Int) + (size : Int) := by rw [Int.add_mul, Int.one_mul, hi1]
            have hle2 : (z : Int) + (size : Int) ≤ (old.length : Int) := by omega
            have hb2 : (z : Int) + (size : Int) ≤ (co : Int) := by omega
            have hii : (i : Int) ≤ 4000 := by omega
            obtain ⟨og, oo, rfl, hog, hoc2⟩ := rd_byte hO (show 0 < old.length by omega)
            have hpart := rd_part hRo z size hle
            have hbl : (blkOf old size i).length = size := blkOf_len old size i (by rw [hm1]; exact hle)
            have hbe : (old.drop z).take size = blkOf old size i := by unfold blkOf; rw [hz]
            rw [hbe] at hpart
            have hel := Lib.hid (show o.length + size = (o ++ blkOf old size i).length by simp [hbl])
            have HZ := Lib.hid hz
            have h63 : o.length + size ≤ maxLen := by simp only [maxLen]; omega
            have hby : (o.length + size) * 1 ≤ 140737488355328 := by omega
            rw [Int.toNat_natCast] at HS
            clear hz hm1 hbe hbl hoc2 hRo
            generalize blkOf old size i = bk at *
            go_wp2_with fail
            go_quiet (fail)
            go_wp2_with (
              at_builtin
              refine wpList_appN _ rfl (.tmp 23) (.tmp 34) 22 rfl w.heap.size 5 Try.underlying22 hi5 hz50 hz51 hz52 rfl (by decide) A c o.length (o.map bv) rfl (hOa.drewN _) B (some ⟨og, oo + z, none⟩) size (co - z) (bk.map bv) (by show Value.slice (some ⟨og, oo + z, none⟩) (z + size - z) (co - z) = _; rw [Nat.add_sub_cancel_left]) hpart bv_one h63 hby hsa ?_
              intro A2 c2 w2 hO2 hgr hloc)
            go_roundw
            case rel =>
              refine ⟨k + 1, o ++ bk, A2, c2, by go_num, by rw [hel.out], by omega, by rw [← hel.out]; omega, ?_, HS, gb_own (gb_drewN hga2 _) hgr (fun g h => (hOa.lt g h).1)⟩
              rw [List.map_append, ← hel.out]
              exact hO2
            case measure => first | (simp [intOf]; done) | (simp [intOf]; omega)
          · have HS := Lib.hid (by rw [n3 (by omega) (by omega)] at hstep; exact hstep)
            have hq1 : ¬ ((m : Int) = 0) := by omega
            have hq2 : (0 : Int) < (m : Int) := by omega
            have hq3 : decide (0 < m) = true := by simp; omega
            clear n1 n2 n3 n4 n5 hstep
            go_wp2_with fail
            go_quiet (fail)
            go_wp2_with fail
            go_ret2
            rw [HS.out]
            exact ⟨rfl, gb_drewN hga2 _⟩
    · have hk2 : k = l.length := by omega
      subst hk2
      rw [List.drop_length] at HT
      go_wp2_with fail
      go_ret2
      rw [HT.out]
      exact ⟨⟨A, c, rfl, hOw⟩, hg⟩

set_option maxHeartbeats 12800000 in
set_option maxRecDepth 100000 in
theorem rpatch_any (old : List Nat) (l : List Pt) (So SL : Option Addr) (co cl B size : Nat) (w : World) (hO : Rd w B 1 So old.length (old.map bv)) (hL : Rd w B 2 SL l.length (l.flatMap ptC)) (hP : PtOk w B l) (hB : B ≤ w.heap.size) (hs : 1 ≤ size) (hs4 : size ≤ 4096) (hol : old.length ≤ 4000) (hll : l.length ≤ 4000) (hfl : ∀ t ∈ l, t.f.length ≤ 4096) (hco : old.length ≤ co) (hcm : co ≤ 9223372036854775807) :
    Calls Try.prog 8 #[.slice So old.length co, .slice SL l.length cl, .int .i64 size] w (PatGives w (patchF old size (l.map prt) []) (.bool false) (.bool true)) := by
  obtain ⟨i5, hi5, hz50, hz51, hz52⟩ := info_parts info5
  obtain ⟨target, htg⟩ : ∃ t, t = patchF old size (l.map prt) [] := ⟨_, rfl⟩
  have HT0 := Lib.hid htg
  rw [← htg]
  clear htg
  have hnb : nbl old size ≤ 4000 := Nat.le_trans (Nat.div_le_self _ _) hol
  have hquo : (old.length : Int).tdiv (size : Int) = (nbl old size : Int) := by
    unfold nbl
    rw [Int.natCast_ediv]
    exact Int.tdiv_eq_ediv_of_nonneg (by omega)
  have hnbi : ∀ i, i < nbl old size → (i + 1) * size ≤ old.length := fun i h => (nbl_iff old size i hs).1 h
  replace hnbi := Lib.hid hnbi
  go_enter Try.func8, Try.ntmps8
  go_wp2_with fail
  go_loopw [8, 9] (fun v8 v9 wi => ∃ (k : Nat) (o : List Nat) (A : Option Addr) (c : Nat), v9 = .int .i64 k ∧ v8 = .slice A o.length c ∧ k ≤ l.length ∧ o.length ≤ k * 4096 ∧ Own wi w.heap.size 5 1 A c o.length (o.map bv) ∧ Hid (target = patchF old size ((l.drop k).map prt) o) ∧ w.grownBy wi none)
    (fun v8 v9 _ => l.length - (intOf v9).toNat)
  case atStart => exact ⟨0, [], none, 0, rfl, rfl, by omega, by simp, Own.nil _ _ _ _, HT0, gb_refl _ _⟩
  case round =>
    obtain ⟨k, o, A, c, rfl, rfl, hk, hoc, hOw, HT, hg⟩ := hrel
    have hgs := hg.size
    by_cases hkl : k < l.length
    · have hki : (k : Int) < (l.length : Int) := by omega
      obtain ⟨lg, lo, rfl, hlg, hc0, hc1⟩ := rd_pt hL hkl
      have hmem : l[k] ∈ l := List.getElem_mem hkl
      have hpt := hP _ hmem
      have hpl := hfl _ hmem
      have hdr : l.drop k = l[k] :: l.drop (k + 1) := List.drop_eq_getElem_cons hkl
      have hstep := HT.out.trans (patchF_cons hdr)
      clear hdr hmem
      replace hc0 := hg.cell hc0 (by simp)
      replace hc1 := hg.cell hc1 (by simp)
      obtain ⟨t, ht⟩ : ∃ t, t = l[k] := ⟨_, rfl⟩
      rw [← ht] at hc0 hc1 hstep hpt hpl
      clear ht
      have n1 := @patch1_none1 old size t o
      have n2 := @patch1_none2 old size t o
      have n3 := @patch1_none3 old size t o
      have n4 := @patch1_new old size t o
      have n5 := @patch1_blk old size t o
      obtain ⟨b, f, fA, fc⟩ := t
      dsimp only at *
      have hBt := Blk.new wr #[.int .i64 b, .slice fA f.length fc] 26
      have hga := gb_alloc (gb_refl wr none) (.cells #[.int .i64 b, .slice fA f.length fc] 26)
      have hRf := hpt.1.later (gb_trans hg hga) hB
      have hRo := hO.later (gb_trans hg hga) hB
      have hOa := hOw.alloc (.cells #[.int .i64 b, .slice fA f.length fc] 26)
      have k0 := hBt.cell 0 rfl
      have k1 := hBt.cell 1 rfl
      have hga2 := gb_trans hg hga
      have hsa : w.heap.size ≤ (wr.alloc (.cells #[.int .i64 b, .slice fA f.length fc] 26)).heap.size := hga2.size
      generalize hnn : nbl old size = nb at *
      replace hnn := Lib.hid hnn
      generalize hml : f.length = m at *
      replace hml := Lib.hid hml
      have hmi : (m : Int) ≤ 4096 := by omega
      have hoi : (o.length : Int) ≤ 20000000 := by omega
      replace hpt := Lib.hid hpt
      by_cases hb : b < 0
      · by_cases hm : m = 0
        · subst hm
          have HS := Lib.hid (by rw [n1 hb rfl] at hstep; exact hstep)
          clear n1 n2 n3 n4 n5 hstep
          go_wp2_with fail
          go_quiet (fail)
          go_wp2_with fail
          go_ret2
          rw [HS.out]
          exact ⟨rfl, gb_drewN hga2 _⟩
        · have HS := Lib.hid (by rw [n4 hb (by omega)] at hstep; exact hstep)
          have hq1 : ¬ ((m : Int) = 0) := by omega
          have hq2 : (0 : Int) < (m : Int) := by omega
          have hq3 : decide (0 < m) = true := by simp; omega
          have hbn : ¬ ((nb : Int) ≤ b) := by omega
          clear n1 n2 n3 n4 n5 hstep
          have h63 : o.length + m ≤ maxLen := by simp only [maxLen]; omega
          have hby : (o.length + m) * 1 ≤ 140737488355328 := by omega
          have hel := Lib.hid (show o.length + m = (o ++ f).length by simp [hml.out])
          go_wp2_with fail
          go_quiet (fail)
          go_wp2_with (
            at_builtin
            refine wpList_appN _ rfl (.tmp 41) (.tmp 43) 22 rfl w.heap.size 5 Try.underlying22 hi5 hz50 hz51 hz52 rfl (by decide) A c o.length (o.map bv) rfl (hOa.drewN _) B fA m fc (f.map bv) rfl hRf bv_one h63 hby hsa ?_
            intro A2 c2 w2 hO2 hgr hloc)
          go_roundw
          case rel =>
            refine ⟨k + 1, o ++ f, A2, c2, by go_num, by rw [hel.out], by omega, by rw [← hel.out]; omega, ?_, HS, gb_own (gb_drewN hga2 _) hgr (fun g h => (hOa.lt g h).1)⟩
            rw [List.map_append, ← hel.out]
            exact hO2
          case measure => first | (simp [intOf]; done) | (simp [intOf]; omega)
      · have hdb : decide (b < 0) = false := by simp; omega
        by_cases hn : (nb : Int) ≤ b
        · have HS := Lib.hid (by rw [n2 hn] at hstep; exact hstep)
          clear n1 n2 n3 n4 n5 hstep
          by_cases hm : m = 0
          · subst hm
            go_wp2_with fail
            go_quiet (fail)
            go_wp2_with fail
            go_ret2
            rw [HS.out]
            exact ⟨rfl, gb_drewN hga2 _⟩
          · have hq1 : ¬ ((m : Int) = 0) := by omega
            have hq2 : (0 : Int) < (m : Int) := by omega
            have hq3 : decide (0 < m) = true := by simp; omega
            go_wp2_with fail
            go_quiet (fail)
            go_wp2_with fail
            go_ret2
            rw [HS.out]
            exact ⟨rfl, gb_drewN hga2 _⟩
        · by_cases hm : m = 0
          · subst hm
            have HS := Lib.hid (by rw [n5 (by omega) hn rfl] at hstep; exact hstep)
            clear n1 n2 n3 n4 n5 hstep
            obtain ⟨i, rfl⟩ : ∃ i : Nat, b = (i : Int) := ⟨b.toNat, by omega⟩
            have hle := hnbi.out i (by omega)
            obtain ⟨z, hz⟩ : ∃ z, z = i * size := ⟨_, rfl⟩
            have hm1 : (i + 1) * size = z + size := by rw [Nat.add_mul, Nat.one_mul, hz]
            rw [hm1] at hle
            have hi1 : ((i : Int)) * (size : Int) = (z : Int) := by rw [hz]; push_cast; rfl
            have hi2 : ((i : Int) + 1) * (size : Int) = (z : Int) + (size : Int) := by rw [Int.add_mul, Int.one_mul, hi1]
            have hle2 : (z : Int) + (size : Int) ≤ (old.length : Int) := by omega
            have hb2 : (z : Int) + (size : Int) ≤ (co : Int) := by omega
            have hii : (i : Int) ≤ 4000 := by omega
            obtain ⟨og, oo, rfl, hog, hoc2⟩ := rd_byte hO (show 0 < old.length by omega)
            have hpart := rd_part hRo z size hle
            have hbl : (blkOf old size i).length = size := blkOf_len old size i (by rw [hm1]; exact hle)
            have hbe : (old.drop z).take size = blkOf old size i := by unfold blkOf; rw [hz]
            rw [hbe] at hpart
            have hel := Lib.hid (show o.length + size = (o ++ blkOf old size i).length by simp [hbl])
            have HZ := Lib.hid hz
            have h63 : o.length + size ≤ maxLen := by simp only [maxLen]; omega
            have hby : (o.length + size) * 1 ≤ 140737488355328 := by omega
            rw [Int.toNat_natCast] at HS
            clear hz hm1 hbe hbl hoc2 hRo
            generalize blkOf old size i = bk at *
            go_wp2_with fail
            go_quiet (fail)
            go_wp2_with (
              at_builtin
              refine wpList_appN _ rfl (.tmp 45) (.tmp 56) 22 rfl w.heap.size 5 Try.underlying22 hi5 hz50 hz51 hz52 rfl (by decide) A c o.length (o.map bv) rfl (hOa.drewN _) B (some ⟨og, oo + z, none⟩) size (co - z) (bk.map bv) (by show Value.slice (some ⟨og, oo + z, none⟩) (z + size - z) (co - z) = _; rw [Nat.add_sub_cancel_left]) hpart bv_one h63 hby hsa ?_
              intro A2 c2 w2 hO2 hgr hloc)
            go_roundw
            case rel =>
              refine ⟨k + 1, o ++ bk, A2, c2, by go_num, by rw [hel.out], by omega, by rw [← hel.out]; omega, ?_, HS, gb_own (gb_drewN hga2 _) hgr (fun g h => (hOa.lt g h).1)⟩
              rw [List.map_append, ← hel.out]
              exact hO2
            case measure => first | (simp [intOf]; done) | (simp [intOf]; omega)
          · have HS := Lib.hid (by rw [n3 (by omega) (by omega)] at hstep; exact hstep)
            have hq1 : ¬ ((m : Int) = 0) := by omega
            have hq2 : (0 : Int) < (m : Int) := by omega
            have hq3 : decide (0 < m) = true := by simp; omega
            clear n1 n2 n3 n4 n5 hstep
            go_wp2_with fail
            go_quiet (fail)
            go_wp2_with fail
            go_ret2
            rw [HS.out]
            exact ⟨rfl, gb_drewN hga2 _⟩
    · have hk2 : k = l.length := by omega
      subst hk2
      rw [List.drop_length] at HT
      go_wp2_with fail
      go_ret2
      rw [HT.out]
      exact ⟨⟨A, c, rfl, hOw⟩, hg⟩
end Go.Proofs.Ytgahefehnhggjaa
