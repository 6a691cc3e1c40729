/- The walks of Tick, Heard, New, Count, Name. -/
import Derived.Test.YtgadcikgnndmjaaWB
import Derived.Laws.MakeOwn
namespace Go.Proofs.Ytgadcikgnndmjaa
set_option linter.unusedVariables false
set_option linter.unusedSimpArgs false
open Go.RowKit Go.Own

section
variable (g hb sb : Nat) (late gone now epoch : Int) (hs ss : List Int) (w : World)

set_option maxHeartbeats 400000 in
theorem tick_nil (n : Int) : Calls Try.prog 8 #[.pointer none, .int .i64 n] w fun e w' => e = .returned (.bool false) ∧ w = w' := by
  go_enter Try.func8, Try.ntmps8
  go_wp2
  go_ret
  exact ⟨rfl, rfl⟩

set_option maxHeartbeats 800000 in
theorem tick_no (n : Int) (h : IsW w g hb sb late gone now epoch hs ss) (hn : 0 ≤ now ∧ now ≤ 1099511627776) (hno : n < 1 ∨ 1099511627776 - now < n) :
    Calls Try.prog 8 #[.pointer (some ⟨g, 0, none⟩), .int .i64 n] w fun e w' => e = .returned (.bool false) ∧ w = w' := by
  have c2 := h.1.cell 2 rfl
  obtain ⟨hn0, hn1⟩ := hn
  by_cases h1 : n < 1
  · clear hno
    go_enter Try.func8, Try.ntmps8
    go_wp2
    go_ret
    exact ⟨rfl, rfl⟩
  · have h2 : 1099511627776 - now < n := by omega
    clear hno
    go_enter Try.func8, Try.ntmps8
    go_wp2
    go_ret
    exact ⟨rfl, rfl⟩

theorem IsW.setNow {w : World} {g hb sb : Nat} {late gone now epoch : Int} {hs ss : List Int} (h : IsW w g hb sb late gone now epoch hs ss) (v : Int) :
    IsW (w.setCell ⟨g, 2, none⟩ (.int .i64 v)) g hb sb late gone v epoch hs ss := by
  refine ⟨?_, Blk.other h.2.1 (h.1.ne_type h.2.1 (by decide)).symm, Blk.other h.2.2.1 (h.1.ne_type h.2.2.1 (by decide)).symm, h.2.2.2⟩
  have := h.1.set 2 (.int .i64 v)
  simpa using this

theorem IsW.setHeard {w : World} {g hb sb : Nat} {late gone now epoch : Int} {hs ss : List Int} (h : IsW w g hb sb late gone now epoch hs ss) (k : Nat) (v : Int) :
    IsW (w.setCell ⟨hb, k, none⟩ (.int .i64 v)) g hb sb late gone now epoch (hs.set k v) ss := by
  refine ⟨?_, h.2.1.set k v, Blk.other h.2.2.1 (Blk.ne_type h.2.1 h.2.2.1 (by decide)).symm, by simpa using h.2.2.2⟩
  have := h.1.other (b := hb) (i := k) (v := .int .i64 v) (h.1.ne_type h.2.1 (by decide))
  simpa using this

set_option maxHeartbeats 800000 in
theorem tick_yes (n : Int) (h : IsW w g hb sb late gone now epoch hs ss) (hl : hs.length ≤ 32) (hn : 0 ≤ now ∧ now ≤ 1099511627776) (h1 : 1 ≤ n) (h2 : n ≤ 1099511627776 - now) (hh : ∀ k, k < hs.length → 0 ≤ hs.getD k 0 ∧ hs.getD k 0 ≤ now) (he : 0 ≤ epoch ∧ epoch ≤ 1000000) :
    Calls Try.prog 8 #[.pointer (some ⟨g, 0, none⟩), .int .i64 n] w fun e w' => e = .returned (.bool true) ∧
      IsW w' g hb sb late gone (now + n) (epn late gone (now + n) epoch hs ss) hs (hs.map (thk late gone (now + n))) ∧ Tch (WS g hb sb) w w' := by
  have c2 := h.1.cell 2 rfl
  have f2 := h.1.free 2
  obtain ⟨hn0, hn1⟩ := hn
  go_enter Try.func8, Try.ntmps8
  go_wp2_with fail
  refine (settle_any _ _ _ _ _ _ _ _ _ _ (h.setNow (now + n)) hl ⟨by omega, by omega⟩ (fun k hk => by have := hh k hk; omega) he).mono ?_
  rintro e w1 ⟨rfl, hi, ht⟩
  go_wp2_with fail
  go_ret
  exact ⟨rfl, hi, tch_trans (tch_set (tch_refl _ _) (.inl (.inl rfl))) ht⟩

set_option maxHeartbeats 400000 in
theorem heard_nil (k : Int) : Calls Try.prog 10 #[.pointer none, .int .i64 k] w fun e w' => e = .returned (.bool false) ∧ w = w' := by
  by_cases hk : k < 0
  · go_enter Try.func10, Try.ntmps10
    go_wp2
    go_ret
    exact ⟨rfl, rfl⟩
  · go_enter Try.func10, Try.ntmps10
    go_wp2_with (go_at_call 12; refine (len_nil _).mono ?_; rintro e w' ⟨rfl, rfl⟩)
    go_ret
    exact ⟨rfl, rfl⟩

set_option maxHeartbeats 800000 in
theorem heard_no (k : Int) (h : IsW w g hb sb late gone now epoch hs ss) (hk : k < 0 ∨ (hs.length : Int) ≤ k) :
    Calls Try.prog 10 #[.pointer (some ⟨g, 0, none⟩), .int .i64 k] w fun e w' => e = .returned (.bool false) ∧ w = w' := by
  by_cases h1 : k < 0
  · clear hk
    go_enter Try.func10, Try.ntmps10
    go_wp2
    go_ret
    exact ⟨rfl, rfl⟩
  · have h2 : (hs.length : Int) ≤ k := by omega
    clear hk
    go_enter Try.func10, Try.ntmps10
    go_wp2_with (go_at_call 12; refine (len_any _ _ _ _ _ _ _ _ _ _ h).mono ?_; rintro e w' ⟨rfl, rfl⟩)
    go_ret
    exact ⟨rfl, rfl⟩

set_option maxHeartbeats 1600000 in
theorem heard_yes (k : Nat) (hk : k < hs.length) (h : IsW w g hb sb late gone now epoch hs ss) (hl : hs.length ≤ 32) (hn : 0 ≤ now ∧ now ≤ 1099511627776) (hh : ∀ k, k < hs.length → 0 ≤ hs.getD k 0 ∧ hs.getD k 0 ≤ now) (he : 0 ≤ epoch ∧ epoch ≤ 1000000) :
    Calls Try.prog 10 #[.pointer (some ⟨g, 0, none⟩), .int .i64 k] w fun e w' => e = .returned (.bool true) ∧
      IsW w' g hb sb late gone now (epn late gone now epoch (hs.set k now) ss) (hs.set k now) ((hs.set k now).map (thk late gone now)) ∧ Tch (WS g hb sb) w w' := by
  have c2 := h.1.cell 2 rfl
  have c4 := h.1.cell 4 rfl
  have ck := h.2.1.cell hk
  have fk := h.2.1.free k
  obtain ⟨hn0, hn1⟩ := hn
  have hh2 : ∀ j, j < (hs.set k now).length → 0 ≤ (hs.set k now).getD j 0 ∧ (hs.set k now).getD j 0 ≤ now := by
    intro j hj
    simp only [List.length_set] at hj
    rw [List.getD_eq_getElem?_getD, List.getElem?_set]
    by_cases e : k = j
    · subst e; simp [hk, hn0]
    · rw [if_neg e]; have := hh j hj; rw [List.getD_eq_getElem?_getD] at this; exact this
  have HH := Lib.hid hh2
  clear hh hh2
  have hk0 : (0 : Int) ≤ (k : Int) := Int.natCast_nonneg _
  have hk1 : (k : Int) < (hs.length : Int) := by omega
  generalize hs.getD k 0 = x at *
  go_enter Try.func10, Try.ntmps10
  go_wp2_with (go_at_call 12; refine (len_any _ _ _ _ _ _ _ _ _ _ h).mono ?_; rintro e w' ⟨rfl, rfl⟩)
  go_still_tail 10, (by kernel_rfl)
  change wpList _ _ _ _ _ w.drew
  go_wp2_with fail
  have hi0 := h.setHeard k now
  have hi1 : IsW (w.setCell ⟨hb, k, none⟩ (.int .i64 now)).drew g hb sb late gone now epoch (hs.set k now) ss := hi0.later (gb_drew (gb_refl _ _))
  refine (settle_any _ _ _ _ _ _ _ _ _ _ hi1 (by simpa using hl) ⟨hn0, hn1⟩ HH.out he).mono ?_
  rintro e w1 ⟨rfl, hi, ht⟩
  go_wp2_with fail
  go_ret
  exact ⟨rfl, hi, tch_trans (tch_drew (tch_set (tch_refl _ _) (.inl (.inr (.inl rfl))))) ht⟩

/-- How many of the first k are in state s. -/
def cnt (ss : List Int) (s : Int) : Nat := (ss.filter (· == s)).length

theorem cnt_le (ss : List Int) (s : Int) : cnt ss s ≤ ss.length := List.length_filter_le _ _

theorem cnt_succ (ss : List Int) (s : Int) (k : Nat) (h : k < ss.length) : cnt (ss.take (k + 1)) s = cnt (ss.take k) s + if ss.getD k 0 == s then 1 else 0 := by
  unfold cnt
  rw [List.take_succ_eq_append_getElem h, List.filter_append, List.length_append]
  have e : ss.getD k 0 = ss[k] := by simp [h]
  rw [e]
  congr 1
  by_cases hs : ss[k] = s <;> simp [hs]

set_option maxHeartbeats 800000 in
theorem count_any (s : Int) (h : IsW w g hb sb late gone now epoch hs ss) (hl : hs.length ≤ 32) :
    Calls Try.prog 17 #[.pointer (some ⟨g, 0, none⟩), .int .i64 s] w fun e w' => e = .returned (.int .i64 (cnt ss s)) ∧ w = w' := by
  have c5 := h.1.cell 5 rfl
  have hlen := Lib.hid h.2.2.2
  go_enter Try.func17, Try.ntmps17
  go_wp2_with (go_at_call 12; refine (len_any _ _ _ _ _ _ _ _ _ _ h).mono ?_; rintro e w' ⟨rfl, rfl⟩)
  go_loop [5, 9] (fun v5 v9 => ∃ k : Nat, v5 = .int .i64 (cnt (ss.take k) s) ∧ v9 = .int .i64 k ∧ k ≤ hs.length) (fun _ v9 => hs.length - (intOf v9).toNat)
  case atStart => exact ⟨0, rfl, rfl, Nat.zero_le _⟩
  case round =>
    obtain ⟨k, rfl, rfl, hk⟩ := hrel
    have hcl := cnt_le (ss.take k) s
    have hcl2 : (ss.take k).length ≤ k := List.length_take_le _ _
    by_cases hlt : k < hs.length
    · have hk2 : k < ss.length := by rw [hlen.out]; exact hlt
      have ck := h.2.2.1.cell hk2
      have hc := cnt_succ ss s k hk2
      generalize ss.getD k 0 = x at *
      have HC := Lib.hid hc
      clear hc
      rcases Bool.eq_false_or_eq_true (x == s) with hb1 | hb1
      · go_wp2_with fail
        go_round
        case rel => exact ⟨k + 1, by rw [HC.out, hb1]; go_num, by go_num, by omega⟩
        case measure => simp [intOf]; omega
      · go_wp2_with fail
        go_round
        case rel => exact ⟨k + 1, by rw [HC.out, hb1]; go_num, by go_num, by omega⟩
        case measure => simp [intOf]; omega
    · go_wp2_with fail
      go_ret
      exact ⟨ret_int (by rw [List.take_of_length_le (by rw [hlen.out]; omega)]), rfl⟩

set_option maxHeartbeats 400000 in
theorem count_nil (s : Int) : Calls Try.prog 17 #[.pointer none, .int .i64 s] w fun e w' => e = .returned (.int .i64 0) ∧ w = w' := by
  go_enter Try.func17, Try.ntmps17
  go_wp2_with (go_at_call 12; refine (len_nil _).mono ?_; rintro e w' ⟨rfl, rfl⟩)
  go_loop [5, 9] (fun v5 v9 => v5 = .int .i64 0 ∧ v9 = .int .i64 0) (fun _ _ => 0)
  case atStart => exact ⟨rfl, rfl⟩
  case round =>
    obtain ⟨rfl, rfl⟩ := hrel
    go_wp2_with fail
    go_ret
    exact ⟨rfl, rfl⟩
end

theorem info3 : (Try.prog.info? 3).map (fun i => (i.zero, i.size, i.bytes)) = some (some (.int .i64 0), 1, 8) := by kernel_rfl
theorem info29 : (Try.prog.info? 29).map (fun i => (i.zero, i.size, i.bytes)) = some (some (.int .i64 0), 1, 8) := by kernel_rfl

/-- make([]T, n) of whole numbers. -/
theorem run_make_ints {t e : TypeId} (ht : Try.prog.underlying t = some (.slice e)) (hinfo : (Try.prog.info? e).map (fun i => (i.zero, i.size, i.bytes)) = some (some (.int .i64 0), 1, 8)) (n : Nat) (hn : n ≤ 1000000) (w : World) :
    (Instr.makeSlice t (.int .i64 (n : Int)) (.int .i64 (n : Int))).run Try.prog w = .ok (.slice (some ⟨w.heap.size, 0, none⟩) n n) (w.alloc (.cells ((List.replicate n (0 : Int)).map (Value.int .i64)).toArray e)) := by
  obtain ⟨i, hi, hz, hs, hb⟩ := info_parts hinfo
  have hr := run_make (P := Try.prog) w t e i (.int .i64 0) ht hi hz .i64 .i64 (n : Int) (n : Int) (by omega) (by omega) (by rw [hb]; omega) (by omega)
  rw [hr]
  simp only [Int.toNat_natCast]
  have e1 : madeCells (Value.int .i64 0).cells (n * i.size) = ((List.replicate n (0 : Int)).map (Value.int .i64)).toArray := by
    have := toList_madeCells_one (.int .i64 0) n
    apply Array.ext'
    rw [hs, Nat.mul_one]
    simp only [Value.cells]
    rw [this]
    simp
  rw [e1]

theorem three_new (w : World) (c1 c2 c3 : Array Value) (t1 t2 t3 : TypeId) :
    Blk (((w.alloc (.cells c1 t1)).alloc (.cells c2 t2)).alloc (.cells c3 t3)).drew w.heap.size c1 t1 ∧ Blk (((w.alloc (.cells c1 t1)).alloc (.cells c2 t2)).alloc (.cells c3 t3)).drew (w.heap.size + 1) c2 t2 ∧
      Blk (((w.alloc (.cells c1 t1)).alloc (.cells c2 t2)).alloc (.cells c3 t3)).drew (w.heap.size + 1 + 1) c3 t3 ∧ w.grownBy (((w.alloc (.cells c1 t1)).alloc (.cells c2 t2)).alloc (.cells c3 t3)).drew none := by
  refine ⟨((Blk.new w c1 t1).alloc _).alloc _, ?_, ?_, gb_drew (gb_alloc (gb_alloc (gb_alloc (gb_refl _ _) _) _) _)⟩
  · have := (Blk.new (w.alloc (.cells c1 t1)) c2 t2).alloc (.cells c3 t3)
    exact Blk.drew (by simpa using this)
  · have := Blk.new ((w.alloc (.cells c1 t1)).alloc (.cells c2 t2)) c3 t3
    exact Blk.drew (by simpa using this)

theorem rep_eq (n : Nat) : ((List.replicate n (0 : Int)).map (Value.int .i64)).toArray = Array.replicate n (Value.int .i64 0) := by simp

def NewOk (w : World) (late gone : Int) (n : Nat) (e : Ending) (w' : World) : Prop :=
  ∃ g hb sb, e = .returned (.tuple #[.pointer (some ⟨g, 0, none⟩), .int .i64 0]) ∧ IsW w' g hb sb late gone 0 0 (List.replicate n 0) (List.replicate n 0) ∧ w.grownBy w' none ∧ w.heap.size ≤ g ∧ w.heap.size ≤ hb ∧ w.heap.size ≤ sb

set_option maxHeartbeats 1600000 in
theorem new_yes (n : Nat) (late gone : Int) (w : World) (h1 : 1 ≤ n) (h2 : n ≤ 32) (h3 : 1 ≤ late) (h4 : late < gone) (h5 : gone ≤ 1099511627776) :
    Calls Try.prog 7 #[.int .i64 n, .int .i64 late, .int .i64 gone] w (NewOk w late gone n) := by
  have m1 := fun W => run_make_ints Try.underlying34 info3 n (by omega) W
  have m2 := fun W => run_make_ints Try.underlying50 info29 n (by omega) W
  go_enter Try.func7, Try.ntmps7
  go_wp2
  go_region
  · go_wp2
    go_ret2
    obtain ⟨b1, b2, b3, hg⟩ := three_new w (Array.replicate n (Value.int .i64 0)) (Array.replicate n (Value.int .i64 0))
      #[.int .i64 late, .int .i64 gone, .int .i64 0, .int .i64 0, .slice (some ⟨w.heap.size, 0, none⟩) n n, .slice (some ⟨w.heap.size + 1, 0, none⟩) n n] 3 29 52
    exact ⟨w.heap.size + 1 + 1, w.heap.size, w.heap.size + 1, rfl, ⟨by simpa using b3, by unfold Row; rw [rep_eq]; exact b1, by unfold Row; rw [rep_eq]; exact b2, rfl⟩, hg, by omega, by omega, by omega⟩
  · go_wp2
    go_ret2
    obtain ⟨b1, b2, b3, hg⟩ := three_new w (Array.replicate n (Value.int .i64 0)) (Array.replicate n (Value.int .i64 0))
      #[.int .i64 late, .int .i64 gone, .int .i64 0, .int .i64 0, .slice (some ⟨w.heap.size + 1, 0, none⟩) n n, .slice (some ⟨w.heap.size, 0, none⟩) n n] 29 3 52
    exact ⟨w.heap.size + 1 + 1, w.heap.size + 1, w.heap.size, rfl, ⟨by simpa using b3, by unfold Row; rw [rep_eq]; exact b2, by unfold Row; rw [rep_eq]; exact b1, rfl⟩, hg, by omega, by omega, by omega⟩

/-- Is there a watch of such numbers? -/
def rightB (nodes late gone : Int) : Bool := decide (1 ≤ nodes ∧ nodes ≤ 32 ∧ 1 ≤ late ∧ late < gone ∧ gone ≤ 1099511627776)

set_option maxHeartbeats 1600000 in
theorem new_no (nodes late gone : Int) (w : World) (h : rightB nodes late gone = false) :
    Calls Try.prog 7 #[.int .i64 nodes, .int .i64 late, .int .i64 gone] w fun e w' => e = .returned (.tuple #[.pointer none, .int .i64 1]) ∧ w = w' := by
  have h' : ¬ (1 ≤ nodes ∧ nodes ≤ 32 ∧ 1 ≤ late ∧ late < gone ∧ gone ≤ 1099511627776) := by unfold rightB at h; simpa using h
  clear h
  by_cases h1 : nodes < 1
  · clear h'
    go_enter Try.func7, Try.ntmps7
    go_wp2
    go_ret2
    exact ⟨rfl, rfl⟩
  by_cases h2 : 32 < nodes
  · clear h'
    go_enter Try.func7, Try.ntmps7
    go_wp2
    go_ret2
    exact ⟨rfl, rfl⟩
  by_cases h3 : late < 1
  · clear h'
    go_enter Try.func7, Try.ntmps7
    go_wp2
    go_ret2
    exact ⟨rfl, rfl⟩
  by_cases h4 : gone ≤ late
  · clear h'
    go_enter Try.func7, Try.ntmps7
    go_wp2
    go_ret2
    exact ⟨rfl, rfl⟩
  · have h5 : 1099511627776 < gone := by omega
    clear h'
    go_enter Try.func7, Try.ntmps7
    go_wp2
    go_ret2
    exact ⟨rfl, rfl⟩

set_option maxHeartbeats 1600000 in
theorem right_any (nodes late gone : Int) (w : World) :
    Calls Try.prog 11 #[.int .i64 nodes, .int .i64 late, .int .i64 gone] w fun e w' => e = .returned (.bool (rightB nodes late gone)) ∧ w = w' := by
  unfold rightB
  by_cases h1 : 1 ≤ nodes
  · by_cases h2 : nodes ≤ 32
    · by_cases h3 : 1 ≤ late
      · by_cases h4 : late < gone
        · by_cases h5 : gone ≤ 1099511627776
          · go_enter Try.func11, Try.ntmps11
            go_wp2
            go_ret
            exact ⟨ret_bool (by simp; omega), rfl⟩
          · go_enter Try.func11, Try.ntmps11
            go_wp2
            go_ret
            exact ⟨ret_bool (by simp; omega), rfl⟩
        · go_enter Try.func11, Try.ntmps11
          go_wp2
          go_ret
          exact ⟨ret_bool (by simp; omega), rfl⟩
      · go_enter Try.func11, Try.ntmps11
        go_wp2
        go_ret
        exact ⟨ret_bool (by simp; omega), rfl⟩
    · go_enter Try.func11, Try.ntmps11
      go_wp2
      go_ret
      exact ⟨ret_bool (by simp; omega), rfl⟩
  · go_enter Try.func11, Try.ntmps11
    go_wp2
    go_ret
    exact ⟨ret_bool (by simp; omega), rfl⟩
end Go.Proofs.Ytgadcikgnndmjaa
