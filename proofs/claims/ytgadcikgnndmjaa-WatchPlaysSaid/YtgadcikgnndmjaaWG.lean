/- The walks of the document's answer for layer 17. -/
import Derived.Test.YtgadcikgnndmjaaWD
import Derived.Test.YtgadcikgnndmjaaQTail
namespace Go.Proofs.Ytgadcikgnndmjaa
set_option linter.unusedVariables false
set_option linter.unusedSimpArgs false
open Go.RowKit Go.Own

/-- A row that is only read: when each node was heard. -/
def HRow (w : World) (q : Nat) (hs : List Int) : Prop := q < w.heap.size ∧ ∀ k, k < hs.length → w.cell? ⟨q, k, none⟩ = some (.int .i64 (hs.getD k 0))

theorem HRow.tch {S : Nat → Prop} {w w' : World} {q : Nat} {hs : List Int} (h : HRow w q hs) (ht : Tch S w w') (hq : ¬ S q) : HRow w' q hs :=
  ⟨Nat.lt_of_lt_of_le h.1 ht.size, fun k hk => (World.cell?_of_block (ht.block q h.1 hq)).trans (h.2 k hk)⟩
theorem HRow.later {w w' : World} {q : Nat} {hs : List Int} (h : HRow w q hs) (hg : w.grownBy w' none) : HRow w' q hs := h.tch (S := fun _ => False) (tch_gb hg) (by simp)

/-- The document's watch as a value. -/
def rv (late gone now epoch : Int) (q n c : Nat) : Value := .agg #[.int .i64 late, .int .i64 gone, .int .i64 now, .int .i64 epoch, .slice (some ⟨q, 0, none⟩) n c]

/-- Each was heard by now. -/
def Heard (now : Int) (hs : List Int) : Prop := ∀ k, k < hs.length → 0 ≤ hs.getD k 0 ∧ hs.getD k 0 ≤ now

theorem ofN_map (late gone now : Int) (hs : List Int) (k : Nat) (h : k < hs.length) : ofN (hs.map (thk late gone now)) k = thk late gone now (hs.getD k 0) := by
  rw [ofN, if_neg (by simp; omega)]
  simp [h]

theorem ofN_out (late gone now : Int) (hs : List Int) (node : Int) (h : node < 0 ∨ (hs.length : Int) ≤ node) : ofN (hs.map (thk late gone now)) node = 2 := by
  rw [ofN, if_pos (by simpa using h)]

section
variable (late gone now epoch : Int) (q c : Nat) (hs : List Int) (w : World)

set_option maxHeartbeats 1600000 in
theorem state_any (node : Int) (hR : HRow w q hs) (hl : hs.length ≤ 32) (hn : 0 ≤ now ∧ now ≤ 1099511627776) (hh : Heard now hs) :
    Calls Try.prog 16 #[rv late gone now epoch q hs.length c, .int .i64 node] w fun e w' => e = .returned (.int .i64 (ofN (hs.map (thk late gone now)) node)) ∧ w.grownBy w' none := by
  obtain ⟨hn0, hn1⟩ := hn
  unfold rv
  by_cases h1 : node < 0
  · go_enter Try.func16, Try.ntmps16
    go_wp2
    go_ret
    exact ⟨ret_int (ofN_out _ _ _ _ _ (.inl h1)).symm, gb_alloc (gb_refl _ _) _⟩
  by_cases h2 : (hs.length : Int) ≤ node
  · go_enter Try.func16, Try.ntmps16
    go_wp2
    go_ret
    exact ⟨ret_int (ofN_out _ _ _ _ _ (.inr h2)).symm, gb_alloc (gb_refl _ _) _⟩
  · obtain ⟨k, rfl⟩ := Int.eq_ofNat_of_zero_le (show 0 ≤ node by omega)
    have hk : k < hs.length := by omega
    have ck : (w.alloc (.cells #[.int .i64 late, .int .i64 gone, .int .i64 now, .int .i64 epoch, .slice (some ⟨q, 0, none⟩) hs.length c] 36)).cell? ⟨q, k, none⟩ = some (.int .i64 (hs.getD k 0)) :=
      (hR.later (gb_alloc (gb_refl _ _) _)).2 k hk
    have hx := hh k hk
    have ho := ofN_map late gone now hs k hk
    have HO := Lib.hid ho
    have hk0 : (0 : Int) ≤ (k : Int) := Int.natCast_nonneg _
    have hk1 : (k : Int) < (hs.length : Int) := by omega
    clear ho hh
    generalize hs.getD k 0 = x at *
    obtain ⟨hx0, hx1⟩ := hx
    by_cases h3 : gone ≤ now - x
    · go_enter Try.func16, Try.ntmps16
      go_wp2
      go_quiet (fail)
      go_wp2
      go_ret
      exact ⟨ret_int (by rw [HO.out, thk, if_pos h3]), gb_drewN (gb_alloc (gb_refl _ _) _) _⟩
    by_cases h4 : late ≤ now - x
    · go_enter Try.func16, Try.ntmps16
      go_wp2
      go_quiet (fail)
      go_wp2
      go_quiet (fail)
      go_wp2
      go_ret
      exact ⟨ret_int (by rw [HO.out, thk, if_neg (by omega), if_pos h4]), by repeat (first | exact gb_refl _ _ | apply gb_drewN | apply gb_alloc)⟩
    · go_enter Try.func16, Try.ntmps16
      go_wp2
      go_quiet (fail)
      go_wp2
      go_quiet (fail)
      go_wp2
      go_ret
      exact ⟨ret_int (by rw [HO.out, thk, if_neg (by omega), if_neg (by omega)]), by repeat (first | exact gb_refl _ _ | apply gb_drewN | apply gb_alloc)⟩
end

/-- Do the first k states differ? -/
def difB (s1 s2 : List Int) (k : Nat) : Bool := decide (s2.take k ≠ s1.take k)

theorem difB_succ {s1 s2 : List Int} {k : Nat} (h1 : k < s1.length) (h2 : k < s2.length) : difB s1 s2 (k + 1) = (difB s1 s2 k || (s1.getD k 0 != s2.getD k 0)) := by
  unfold difB
  rw [List.take_succ_eq_append_getElem h1, List.take_succ_eq_append_getElem h2]
  have e1 : s1.getD k 0 = s1[k] := by simp [h1]
  have e2 : s2.getD k 0 = s2[k] := by simp [h2]
  rw [e1, e2, Bool.eq_iff_iff]
  simp only [decide_eq_true_eq, Bool.or_eq_true, bne_iff_ne, ne_eq]
  have hlen : (s2.take k).length = (s1.take k).length := by simp; omega
  constructor
  · intro h
    by_cases h3 : s2.take k = s1.take k
    · right
      intro h4
      exact h (by rw [h3, h4])
    · exact .inl h3
  · intro h h3
    have h4 := List.append_inj h3 hlen
    rcases h with h | h
    · exact h h4.1
    · exact h (by have := h4.2; simp at this; exact this.symm)

def epd (epoch : Int) (b : Bool) : Int := if b then epoch + 1 else epoch

set_option maxHeartbeats 3200000 in
theorem next_any (late gone now1 now2 epoch1 epoch2 : Int) (q1 q2 c1 c2 : Nat) (hs1 hs2 : List Int) (w : World) (hR1 : HRow w q1 hs1) (hR2 : HRow w q2 hs2) (hl : hs2.length = hs1.length) (hl2 : hs1.length ≤ 32)
    (hn1 : 0 ≤ now1 ∧ now1 ≤ 1099511627776) (hh1 : Heard now1 hs1) (hn2 : 0 ≤ now2 ∧ now2 ≤ 1099511627776) (hh2 : Heard now2 hs2) (he : 0 ≤ epoch2 ∧ epoch2 ≤ 1000000) :
    Calls Try.prog 20 #[rv late gone now1 epoch1 q1 hs1.length c1, rv late gone now2 epoch2 q2 hs2.length c2] w fun e w' =>
      e = .returned (rv late gone now2 (epd epoch2 (difB (hs1.map (thk late gone now1)) (hs2.map (thk late gone now2)) hs2.length)) q2 hs2.length c2) ∧ w.grownBy w' none := by
  obtain ⟨he0, he1⟩ := he
  have HL := Lib.hid hl
  have hls : hs2.length ≤ 32 := by omega
  clear hl
  unfold rv
  go_enter Try.func20, Try.ntmps20
  go_wp2_with fail
  obtain ⟨B1, B2, B3, hg0⟩ := three_new w #[.int .i64 late, .int .i64 gone, .int .i64 now1, .int .i64 epoch1, .slice (some ⟨q1, 0, none⟩) hs1.length c1] #[.int .i64 late, .int .i64 gone, .int .i64 now2, .int .i64 epoch2, .slice (some ⟨q2, 0, none⟩) hs2.length c2]
    #[.int .i64 0, .int .i64 0, .int .i64 0, .int .i64 0, .slice none 0 0] 36 36 36
  have B1' : Blk _ w.heap.size _ 36 := Blk.of_heap B1 (w' := ((w.alloc (.cells #[.int .i64 late, .int .i64 gone, .int .i64 now1, .int .i64 epoch1, .slice (some ⟨q1, 0, none⟩) hs1.length c1] 36)).alloc (.cells #[.int .i64 late, .int .i64 gone, .int .i64 now2, .int .i64 epoch2, .slice (some ⟨q2, 0, none⟩) hs2.length c2] 36)).alloc (.cells #[.int .i64 0, .int .i64 0, .int .i64 0, .int .i64 0, .slice none 0 0] 36)) rfl
  have B2' : Blk _ (w.heap.size + 1) _ 36 := Blk.of_heap B2 (w' := ((w.alloc (.cells #[.int .i64 late, .int .i64 gone, .int .i64 now1, .int .i64 epoch1, .slice (some ⟨q1, 0, none⟩) hs1.length c1] 36)).alloc (.cells #[.int .i64 late, .int .i64 gone, .int .i64 now2, .int .i64 epoch2, .slice (some ⟨q2, 0, none⟩) hs2.length c2] 36)).alloc (.cells #[.int .i64 0, .int .i64 0, .int .i64 0, .int .i64 0, .slice none 0 0] 36)) rfl
  have B3' : Blk _ (w.heap.size + 1 + 1) _ 36 := Blk.of_heap B3 (w' := ((w.alloc (.cells #[.int .i64 late, .int .i64 gone, .int .i64 now1, .int .i64 epoch1, .slice (some ⟨q1, 0, none⟩) hs1.length c1] 36)).alloc (.cells #[.int .i64 late, .int .i64 gone, .int .i64 now2, .int .i64 epoch2, .slice (some ⟨q2, 0, none⟩) hs2.length c2] 36)).alloc (.cells #[.int .i64 0, .int .i64 0, .int .i64 0, .int .i64 0, .slice none 0 0] 36)) rfl
  have hgw : w.grownBy (((w.alloc (.cells #[.int .i64 late, .int .i64 gone, .int .i64 now1, .int .i64 epoch1, .slice (some ⟨q1, 0, none⟩) hs1.length c1] 36)).alloc (.cells #[.int .i64 late, .int .i64 gone, .int .i64 now2, .int .i64 epoch2, .slice (some ⟨q2, 0, none⟩) hs2.length c2] 36)).alloc (.cells #[.int .i64 0, .int .i64 0, .int .i64 0, .int .i64 0, .slice none 0 0] 36)) none := gb_alloc (gb_alloc (gb_alloc (gb_refl _ _) _) _) _
  clear B1 B2 B3 hg0
  generalize (((w.alloc (.cells #[.int .i64 late, .int .i64 gone, .int .i64 now1, .int .i64 epoch1, .slice (some ⟨q1, 0, none⟩) hs1.length c1] 36)).alloc (.cells #[.int .i64 late, .int .i64 gone, .int .i64 now2, .int .i64 epoch2, .slice (some ⟨q2, 0, none⟩) hs2.length c2] 36)).alloc (.cells #[.int .i64 0, .int .i64 0, .int .i64 0, .int .i64 0, .slice none 0 0] 36)) = W0 at *
  have hR10 := hR1.later hgw
  have hR20 := hR2.later hgw
  have hsz : w.heap.size ≤ w.heap.size := Nat.le_refl _
  clear hR1 hR2
  go_loopw [5, 6] (fun v5 v6 wi => ∃ (k : Nat) (tb : Bool), v5 = .bool tb ∧ Hid (tb = difB (hs1.map (thk late gone now1)) (hs2.map (thk late gone now2)) k) ∧ v6 = .int .i64 k ∧ k ≤ hs2.length ∧ W0.grownBy wi none)
    (fun _ v6 _ => hs2.length - (intOf v6).toNat)
  case atStart => exact ⟨0, false, rfl, Lib.hid (by simp [difB]), rfl, Nat.zero_le _, gb_refl _ _⟩
  case round =>
    obtain ⟨k, tb, rfl, htb, rfl, hk, hgi⟩ := hrel
    have C1 := B1'.grown hgi (by simp)
    have C2 := B2'.grown hgi (by simp)
    have C3 := B3'.grown hgi (by simp)
    have D4 := C2.cell 4 rfl
    by_cases hlt : k < hs2.length
    · have hR1i := hR10.later hgi
      have hR2i := hR20.later hgi
      have e1 : ofN (hs1.map (thk late gone now1)) k = (hs1.map (thk late gone now1)).getD k 0 := by
        rw [ofN, if_neg (by simp; have := HL.out; omega)]; simp
      have e2 : ofN (hs2.map (thk late gone now2)) k = (hs2.map (thk late gone now2)).getD k 0 := by
        rw [ofN, if_neg (by simp; omega)]; simp
      have hds := difB_succ (s1 := hs1.map (thk late gone now1)) (s2 := hs2.map (thk late gone now2)) (k := k) (by simp; have := HL.out; omega) (by simp; omega)
      rw [← e1, ← e2] at hds
      clear e1 e2
      have HD := Lib.hid hds
      clear hds
      have S1 := fun (x : In (Later wr)) => state_any late gone now1 epoch1 q1 c1 hs1 x.w k (hR1i.later x.ok) hl2 hn1 hh1
      have S2 := fun (x : In (Later wr)) => state_any late gone now2 epoch2 q2 c2 hs2 x.w k (hR2i.later x.ok) hls hn2 hh2
      have HS1 := Lib.hid S1
      have HS2 := Lib.hid S2
      clear S1 S2
      have d0 := fun x => (Later.blk C1 x).cell 0 rfl
      have d1 := fun x => (Later.blk C1 x).cell 1 rfl
      have d2 := fun x => (Later.blk C1 x).cell 2 rfl
      have d3 := fun x => (Later.blk C1 x).cell 3 rfl
      have d4 := fun x => (Later.blk C1 x).cell 4 rfl
      have f0 := fun x => (Later.blk C2 x).cell 0 rfl
      have f1 := fun x => (Later.blk C2 x).cell 1 rfl
      have f2 := fun x => (Later.blk C2 x).cell 2 rfl
      have f3 := fun x => (Later.blk C2 x).cell 3 rfl
      have f4 := fun x => (Later.blk C2 x).cell 4 rfl
      generalize ofN (hs1.map (thk late gone now1)) k = y1 at *
      generalize ofN (hs2.map (thk late gone now2)) k = y2 at *
      cases tb
      all_goals
        go_wp2_with fail
        refine wp_region_in (Later wr) (by kernel_rfl) (by kernel_rfl) (Later.start _) ?_
        repeat (go_big_quiet_step ((first | rfl | (go_at_call_of 16 epoch1; exact later_call _ (HS1.out _)) | (go_at_call_of 16 epoch2; exact later_call _ (HS2.out _)))))
        refine wpQuiet_nil ?_
        rintro _ ⟨x, rfl⟩
        go_wp2_with fail
        go_roundw
        case rel =>
          refine ⟨k + 1, _, rfl, Lib.hid ?_, by go_num, by omega, gb_trans hgi x.ok⟩
          rw [HD.out, ← htb.out]; simp
        case measure => simp [intOf]; omega
    · have hkl : k = hs2.length := by omega
      subst hkl
      have g0 := C2.cell 0 rfl
      have g1 := C2.cell 1 rfl
      have g2 := C2.cell 2 rfl
      have g3 := C2.cell 3 rfl
      have gf := C2.free 3
      have r0 := C3.cell 0 rfl
      have r1 := C3.cell 1 rfl
      have r2 := C3.cell 2 rfl
      have r3 := C3.cell 3 rfl
      have r4 := C3.cell 4 rfl
      have q0 := C3.free 0
      have q1' := C3.free 1
      have q2' := C3.free 2
      have q3 := C3.free 3
      have q4 := C3.free 4
      cases tb
      · have he : epd epoch2 (difB (hs1.map (thk late gone now1)) (hs2.map (thk late gone now2)) hs2.length) = epoch2 := by rw [← htb.out]; rfl
        have HE := Lib.hid he
        clear he
        go_wp2_with fail
        have HB : Blk _ (w.heap.size + 1 + 1) #[.int .i64 late, .int .i64 gone, .int .i64 now2, .int .i64 epoch2, .slice (some ⟨q2, 0, none⟩) hs2.length c2] 36 := ((((C3.set 0 (.int .i64 late)).set 1 (.int .i64 gone)).set 2 (.int .i64 now2)).set 3 (.int .i64 epoch2)).set 4 (.slice (some ⟨q2, 0, none⟩) hs2.length c2)
        refine bodyPost_ret (res_struct rfl HB rfl Try.underlying36 rfl (by kernel_rfl)) rfl ⟨by rw [HE.out], ?_⟩
        exact gb_new_set (p := ⟨w.heap.size + 1 + 1, 4, none⟩) (gb_new_set (p := ⟨w.heap.size + 1 + 1, 3, none⟩) (gb_new_set (p := ⟨w.heap.size + 1 + 1, 2, none⟩) (gb_new_set (p := ⟨w.heap.size + 1 + 1, 1, none⟩) (gb_new_set (p := ⟨w.heap.size + 1 + 1, 0, none⟩) (gb_trans hgw hgi) (by simp; omega)) (by simp; omega)) (by simp; omega)) (by simp; omega)) (by simp; omega)
      · have he : epd epoch2 (difB (hs1.map (thk late gone now1)) (hs2.map (thk late gone now2)) hs2.length) = epoch2 + 1 := by rw [← htb.out]; rfl
        have HE := Lib.hid he
        clear he
        have hlt1 : w.heap.size + 1 < wr.heap.size := C2.lt
        go_wp2_with fail
        have HB : Blk _ (w.heap.size + 1 + 1) #[.int .i64 late, .int .i64 gone, .int .i64 now2, .int .i64 (epoch2 + 1), .slice (some ⟨q2, 0, none⟩) hs2.length c2] 36 := (((((C3.other (b := w.heap.size + 1) (i := 3) (v := .int .i64 (epoch2 + 1)) (by omega)).set 0 (.int .i64 late)).set 1 (.int .i64 gone)).set 2 (.int .i64 now2)).set 3 (.int .i64 (epoch2 + 1))).set 4 (.slice (some ⟨q2, 0, none⟩) hs2.length c2)
        refine bodyPost_ret (res_struct rfl HB rfl Try.underlying36 rfl (by kernel_rfl)) rfl ⟨by rw [HE.out], ?_⟩
        exact gb_new_set (p := ⟨w.heap.size + 1 + 1, 4, none⟩) (gb_new_set (p := ⟨w.heap.size + 1 + 1, 3, none⟩) (gb_new_set (p := ⟨w.heap.size + 1 + 1, 2, none⟩) (gb_new_set (p := ⟨w.heap.size + 1 + 1, 1, none⟩) (gb_new_set (p := ⟨w.heap.size + 1 + 1, 0, none⟩) (gb_new_set (p := ⟨w.heap.size + 1, 3, none⟩) (gb_trans hgw hgi) (by simp)) (by simp; omega)) (by simp; omega)) (by simp; omega)) (by simp; omega)) (by simp; omega)
end Go.Proofs.Ytgadcikgnndmjaa
