/- The walks of the document's Tick and Heard for layer 17. -/
import Derived.Test.YtgadcikgnndmjaaWG
import Derived.Test.YtgadcikgnndmjaaOwn
namespace Go.Proofs.Ytgadcikgnndmjaa
set_option linter.unusedVariables false
set_option linter.unusedSimpArgs false
open Go.RowKit Go.Own

theorem gb_fresh {a b : World} {g : Nat} (h : a.grownBy b (some g)) (hg : a.heap.size ≤ g) : a.grownBy b none :=
  ⟨h.os, h.tape, h.output, h.size, fun k hk _ => h.block k hk (fun e => by injection e with e; omega)⟩

theorem gb_new1 (w : World) (o : Obj) : w.grownBy (w.alloc o) none := gb_alloc (gb_refl _ _) _

section
variable (late gone now epoch : Int) (q c : Nat) (hs : List Int) (w : World)

set_option maxHeartbeats 1600000 in
theorem rtick_no (m : Int) (hn : 0 ≤ now ∧ now ≤ 1099511627776) (hno : m < 1 ∨ 1099511627776 - now < m) :
    Calls Try.prog 13 #[rv late gone now epoch q hs.length c, .int .i64 m] w fun e w' => e = .returned (.tuple #[rv late gone now epoch q hs.length c, .bool false]) ∧ w.grownBy w' none := by
  obtain ⟨hn0, hn1⟩ := hn
  unfold rv
  by_cases h1 : m < 1
  · clear hno
    go_enter Try.func13, Try.ntmps13
    go_wp2_with fail
    refine bodyPost_ret (res_struct2 rfl (Blk.new _ _ _) (by first | rfl | simp) rfl Try.underlying36 rfl (by kernel_rfl)) rfl ⟨rfl, ?_⟩
    repeat (first | exact gb_refl _ _ | apply gb_drewN | apply gb_drew | apply gb_alloc)
  · have h2 : 1099511627776 - now < m := by omega
    clear hno
    go_enter Try.func13, Try.ntmps13
    go_wp2_with fail
    refine bodyPost_ret (res_struct2 rfl (Blk.new _ _ _) (by first | rfl | simp) rfl Try.underlying36 rfl (by kernel_rfl)) rfl ⟨rfl, ?_⟩
    repeat (first | exact gb_refl _ _ | apply gb_drewN | apply gb_drew | apply gb_alloc)

set_option maxHeartbeats 1600000 in
theorem rtick_yes (m : Int) (hR : HRow w q hs) (hl : hs.length ≤ 32) (hn : 0 ≤ now ∧ now ≤ 1099511627776) (hh : Heard now hs) (he : 0 ≤ epoch ∧ epoch ≤ 1000000) (h1 : 1 ≤ m) (h2 : m ≤ 1099511627776 - now) :
    Calls Try.prog 13 #[rv late gone now epoch q hs.length c, .int .i64 m] w fun e w' =>
      e = .returned (.tuple #[rv late gone (now + m) (epd epoch (difB (hs.map (thk late gone now)) (hs.map (thk late gone (now + m))) hs.length)) q hs.length c, .bool true]) ∧ w.grownBy w' none := by
  obtain ⟨hn0, hn1⟩ := hn
  unfold rv
  go_enter Try.func13, Try.ntmps13
  go_wp2_with fail
  have hg0 : w.grownBy ((((w.alloc (.cells #[.int .i64 late, .int .i64 gone, .int .i64 now, .int .i64 epoch, .slice (some ⟨q, 0, none⟩) hs.length c] 36)).alloc (.cells #[.int .i64 0, .int .i64 0, .int .i64 0, .int .i64 0, .slice none 0 0] 36)).alloc (.cells #[.int .i64 late, .int .i64 gone, .int .i64 (now + m), .int .i64 epoch, .slice (some ⟨q, 0, none⟩) hs.length c] 36))) none :=
    gb_alloc (gb_alloc (gb_alloc (gb_refl _ _) _) _) _
  refine (next_any late gone now (now + m) epoch epoch q q c c hs hs _ (hR.later hg0) (hR.later hg0) rfl hl ⟨hn0, hn1⟩ hh ⟨by omega, by omega⟩ (fun k hk => ⟨(hh k hk).1, by have := (hh k hk).2; omega⟩) he).mono ?_
  rintro e w3 ⟨rfl, hg3⟩
  have C3 : Blk w3 (w.heap.size + 1) #[.int .i64 0, .int .i64 0, .int .i64 0, .int .i64 0, .slice none 0 0] 36 := by
    have := ((Blk.new (w.alloc (.cells #[.int .i64 late, .int .i64 gone, .int .i64 now, .int .i64 epoch, .slice (some ⟨q, 0, none⟩) hs.length c] 36)) #[.int .i64 0, .int .i64 0, .int .i64 0, .int .i64 0, .slice none 0 0] 36).alloc (.cells #[.int .i64 late, .int .i64 gone, .int .i64 (now + m), .int .i64 epoch, .slice (some ⟨q, 0, none⟩) hs.length c] 36)).grown hg3 (by simp)
    simpa using this
  have hg := gb_trans hg0 hg3
  clear hg0 hg3 hR hh
  have r0 := C3.cell 0 rfl
  have r1 := C3.cell 1 rfl
  have r2 := C3.cell 2 rfl
  have r3 := C3.cell 3 rfl
  have r4 := C3.cell 4 rfl
  have q0 := C3.free 0
  have q1' := C3.free 1
  have q2' := C3.free 2
  have q3 := C3.free 3
  have q4 := C3.free 4
  generalize hE : epd epoch (difB (hs.map (thk late gone now)) (hs.map (thk late gone (now + m))) hs.length) = ep
  have HE := Lib.hid hE
  clear hE
  unfold rv
  go_wp2_with fail
  have HB : Blk _ (w.heap.size + 1) #[.int .i64 late, .int .i64 gone, .int .i64 (now + m), .int .i64 ep, .slice (some ⟨q, 0, none⟩) hs.length c] 36 := ((((C3.set 0 (.int .i64 late)).set 1 (.int .i64 gone)).set 2 (.int .i64 (now + m))).set 3 (.int .i64 ep)).set 4 (.slice (some ⟨q, 0, none⟩) hs.length c)
  refine bodyPost_ret (res_struct2 rfl HB rfl rfl Try.underlying36 rfl (by kernel_rfl)) rfl ⟨by rw [HE.out]; rfl, ?_⟩
  repeat (first | exact hg | (refine gb_new_set (p := ⟨w.heap.size + 1, _, none⟩) ?_ (by simp)))

set_option maxHeartbeats 1600000 in
theorem rheard_no (m : Int) (hl : hs.length ≤ 32) (hno : m < 0 ∨ (hs.length : Int) ≤ m) :
    Calls Try.prog 14 #[rv late gone now epoch q hs.length c, .int .i64 m] w fun e w' => e = .returned (.tuple #[rv late gone now epoch q hs.length c, .bool false]) ∧ w.grownBy w' none := by
  unfold rv
  by_cases h1 : m < 0
  · clear hno
    go_enter Try.func14, Try.ntmps14
    go_wp2_with fail
    refine bodyPost_ret (res_struct2 rfl (Blk.new _ _ _) (by first | rfl | simp) rfl Try.underlying36 rfl (by kernel_rfl)) rfl ⟨rfl, ?_⟩
    repeat (first | exact gb_refl _ _ | apply gb_drewN | apply gb_drew | apply gb_alloc)
  · have h2 : (hs.length : Int) ≤ m := by omega
    clear hno
    go_enter Try.func14, Try.ntmps14
    go_wp2_with fail
    refine bodyPost_ret (res_struct2 rfl (Blk.new _ _ _) (by first | rfl | simp) rfl Try.underlying36 rfl (by kernel_rfl)) rfl ⟨rfl, ?_⟩
    repeat (first | exact gb_refl _ _ | apply gb_drewN | apply gb_drew | apply gb_alloc)

set_option maxHeartbeats 1600000 in
theorem rheard_yes (m : Nat) (hR : HRow w q hs) (hl : hs.length ≤ 32) (hn : 0 ≤ now ∧ now ≤ 1099511627776) (hh : Heard now hs) (he : 0 ≤ epoch ∧ epoch ≤ 1000000) (h2 : m < hs.length) :
    Calls Try.prog 14 #[rv late gone now epoch q hs.length c, .int .i64 m] w fun e w' => ∃ q' c',
      e = .returned (.tuple #[rv late gone now (epd epoch (difB (hs.map (thk late gone now)) ((hs.set m now).map (thk late gone now)) hs.length)) q' hs.length c', .bool true]) ∧ w.grownBy w' none ∧ HRow w' q' (hs.set m now) ∧ w.heap.size ≤ q' := by
  obtain ⟨hn0, hn1⟩ := hn
  obtain ⟨it, hit, hz0, hz1, hz2⟩ := info_parts info3
  have hlen : (hs.map (Value.int .i64)).length = hs.length * 1 := by simp
  have hone : ∀ u ∈ hs.map (Value.int .i64), u.oneCell' = true := by
    intro u hu
    obtain ⟨x, _, rfl⟩ := List.mem_map.1 hu
    rfl
  have hgA : w.grownBy ((((w.alloc (.cells #[.int .i64 late, .int .i64 gone, .int .i64 now, .int .i64 epoch, .slice (some ⟨q, 0, none⟩) hs.length c] 36)).alloc (.cells #[.int .i64 0, .int .i64 0, .int .i64 0, .int .i64 0, .slice none 0 0] 36)).alloc (.cells #[.int .i64 late, .int .i64 gone, .int .i64 now, .int .i64 epoch, .slice (some ⟨q, 0, none⟩) hs.length c] 36)).alloc (.cells #[] 3)) none :=
    gb_alloc (gb_alloc (gb_alloc (gb_alloc (gb_refl _ _) _) _) _) _
  have hRA := hR.later hgA
  have P1 : Blk ((((w.alloc (.cells #[.int .i64 late, .int .i64 gone, .int .i64 now, .int .i64 epoch, .slice (some ⟨q, 0, none⟩) hs.length c] 36)).alloc (.cells #[.int .i64 0, .int .i64 0, .int .i64 0, .int .i64 0, .slice none 0 0] 36)).alloc (.cells #[.int .i64 late, .int .i64 gone, .int .i64 now, .int .i64 epoch, .slice (some ⟨q, 0, none⟩) hs.length c] 36)).alloc (.cells #[] 3)) w.heap.size #[.int .i64 late, .int .i64 gone, .int .i64 now, .int .i64 epoch, .slice (some ⟨q, 0, none⟩) hs.length c] 36 := (((Blk.new _ _ _).alloc _).alloc _).alloc _
  have P2 : Blk ((((w.alloc (.cells #[.int .i64 late, .int .i64 gone, .int .i64 now, .int .i64 epoch, .slice (some ⟨q, 0, none⟩) hs.length c] 36)).alloc (.cells #[.int .i64 0, .int .i64 0, .int .i64 0, .int .i64 0, .slice none 0 0] 36)).alloc (.cells #[.int .i64 late, .int .i64 gone, .int .i64 now, .int .i64 epoch, .slice (some ⟨q, 0, none⟩) hs.length c] 36)).alloc (.cells #[] 3)) (w.heap.size + 1) #[.int .i64 0, .int .i64 0, .int .i64 0, .int .i64 0, .slice none 0 0] 36 := by
    have := (((Blk.new (w.alloc (.cells #[.int .i64 late, .int .i64 gone, .int .i64 now, .int .i64 epoch, .slice (some ⟨q, 0, none⟩) hs.length c] 36)) #[.int .i64 0, .int .i64 0, .int .i64 0, .int .i64 0, .slice none 0 0] 36).alloc (.cells #[.int .i64 late, .int .i64 gone, .int .i64 now, .int .i64 epoch, .slice (some ⟨q, 0, none⟩) hs.length c] 36)).alloc (.cells #[] 3))
    simpa using this
  have P3 : Blk ((((w.alloc (.cells #[.int .i64 late, .int .i64 gone, .int .i64 now, .int .i64 epoch, .slice (some ⟨q, 0, none⟩) hs.length c] 36)).alloc (.cells #[.int .i64 0, .int .i64 0, .int .i64 0, .int .i64 0, .slice none 0 0] 36)).alloc (.cells #[.int .i64 late, .int .i64 gone, .int .i64 now, .int .i64 epoch, .slice (some ⟨q, 0, none⟩) hs.length c] 36)).alloc (.cells #[] 3)) (w.heap.size + 1 + 1) #[.int .i64 late, .int .i64 gone, .int .i64 now, .int .i64 epoch, .slice (some ⟨q, 0, none⟩) hs.length c] 36 := by
    have := ((Blk.new ((w.alloc (.cells #[.int .i64 late, .int .i64 gone, .int .i64 now, .int .i64 epoch, .slice (some ⟨q, 0, none⟩) hs.length c] 36)).alloc (.cells #[.int .i64 0, .int .i64 0, .int .i64 0, .int .i64 0, .slice none 0 0] 36)) #[.int .i64 late, .int .i64 gone, .int .i64 now, .int .i64 epoch, .slice (some ⟨q, 0, none⟩) hs.length c] 36).alloc (.cells #[] 3))
    simpa using this
  have P4 : Own ((((w.alloc (.cells #[.int .i64 late, .int .i64 gone, .int .i64 now, .int .i64 epoch, .slice (some ⟨q, 0, none⟩) hs.length c] 36)).alloc (.cells #[.int .i64 0, .int .i64 0, .int .i64 0, .int .i64 0, .slice none 0 0] 36)).alloc (.cells #[.int .i64 late, .int .i64 gone, .int .i64 now, .int .i64 epoch, .slice (some ⟨q, 0, none⟩) hs.length c] 36)).alloc (.cells #[] 3)) (w.heap.size + 1 + 1 + 1) 3 1 (some ⟨w.heap.size + 1 + 1 + 1, 0, none⟩) 0 0 [] := by
    have h := Own.of_blk (base := w.heap.size + 1 + 1 + 1) (size := 1) (n := 0) (c := 0) (Blk.new (((w.alloc (.cells #[.int .i64 late, .int .i64 gone, .int .i64 now, .int .i64 epoch, .slice (some ⟨q, 0, none⟩) hs.length c] 36)).alloc (.cells #[.int .i64 0, .int .i64 0, .int .i64 0, .int .i64 0, .slice none 0 0] 36)).alloc (.cells #[.int .i64 late, .int .i64 gone, .int .i64 now, .int .i64 epoch, .slice (some ⟨q, 0, none⟩) hs.length c] 36)) #[] 3) (by simp) (by simp [maxLen]) (by omega) (by simp)
    simpa using h
  have hnews : ∀ j u, (hs.map (Value.int .i64))[j]? = some u → ((((w.alloc (.cells #[.int .i64 late, .int .i64 gone, .int .i64 now, .int .i64 epoch, .slice (some ⟨q, 0, none⟩) hs.length c] 36)).alloc (.cells #[.int .i64 0, .int .i64 0, .int .i64 0, .int .i64 0, .slice none 0 0] 36)).alloc (.cells #[.int .i64 late, .int .i64 gone, .int .i64 now, .int .i64 epoch, .slice (some ⟨q, 0, none⟩) hs.length c] 36)).alloc (.cells #[] 3)).cell? ⟨q, j, none⟩ = some u := by
    intro j u hj
    have hjl : j < hs.length := by
      have := (List.getElem?_eq_some_iff.1 hj).1
      simpa using this
    rw [hRA.2 j hjl]
    rw [List.getElem?_map, List.getElem?_eq_getElem hjl] at hj
    simp only [Option.map_some, Option.some.injEq] at hj
    rw [← hj]
    simp [hjl]
  have hsz : w.heap.size + 1 + 1 + 1 ≤ ((((w.alloc (.cells #[.int .i64 late, .int .i64 gone, .int .i64 now, .int .i64 epoch, .slice (some ⟨q, 0, none⟩) hs.length c] 36)).alloc (.cells #[.int .i64 0, .int .i64 0, .int .i64 0, .int .i64 0, .slice none 0 0] 36)).alloc (.cells #[.int .i64 late, .int .i64 gone, .int .i64 now, .int .i64 epoch, .slice (some ⟨q, 0, none⟩) hs.length c] 36)).alloc (.cells #[] 3)).heap.size := by simp
  unfold rv
  go_enter Try.func14, Try.ntmps14
  go_wp2_with (
    at_builtin
    refine wpList_app ((((w.alloc (.cells #[.int .i64 late, .int .i64 gone, .int .i64 now, .int .i64 epoch, .slice (some ⟨q, 0, none⟩) hs.length c] 36)).alloc (.cells #[.int .i64 0, .int .i64 0, .int .i64 0, .int .i64 0, .slice none 0 0] 36)).alloc (.cells #[.int .i64 late, .int .i64 gone, .int .i64 now, .int .i64 epoch, .slice (some ⟨q, 0, none⟩) hs.length c] 36)).alloc (.cells #[] 3)) rfl (.tmp 18) (.tmp 20) 34 rfl (w.heap.size + 1 + 1 + 1) 3 Try.underlying34 hit hz0 hz1 hz2 rfl (by decide) (some ⟨w.heap.size + 1 + 1 + 1, 0, none⟩) 0 0 [] rfl P4 q hs.length c (hs.map (Value.int .i64)) rfl hlen (by omega) hnews hone (by simp only [maxLen]; omega) (by omega) hsz ?_
    intro g c2 w2 hO hgr hloc hb hlt
    have hgr2 : World.grownBy _ w2 (some (w.heap.size + 1 + 1 + 1)) := hgr
    have hg2 := (gb_trans (gb_none hgA) hgr2)
    have Q1 := P1.grown hgr2 (fun e => by injection e with e; omega)
    have Q2 := P2.grown hgr2 (fun e => by injection e with e; omega)
    have Q3 := P3.grown hgr2 (fun e => by injection e with e; omega)
    have HO := Lib.hid hO
    have HGR := Lib.hid hg2
    have cg := hO.cell rfl (j := m) (u := .int .i64 (hs.getD m 0)) (by omega) (by simp [h2])
    have fg := hO.free rfl m
    clear hgr hgr2 hg2 hloc hO P1 P2 P3 P4 hnews hgA hRA hsz hone hlen
    have k0 := Q1.cell 0 rfl
    have k1 := Q1.cell 1 rfl
    have k2 := Q1.cell 2 rfl
    have k3 := Q1.cell 3 rfl
    have k4 := Q1.cell 4 rfl
    have l0 := Q3.cell 0 rfl
    have l1 := Q3.cell 1 rfl
    have l2 := Q3.cell 2 rfl
    have l3 := Q3.cell 3 rfl
    have l4 := Q3.cell 4 rfl
    have lf := Q3.free 4
    have hgn : g ≠ w.heap.size + 1 + 1 := by omega
    have hgn1 : g ≠ w.heap.size := by omega)
  have hg3 : w.grownBy ((w2.setCell ⟨w.heap.size + 1 + 1, 4, none⟩ (.slice (some ⟨g, 0, none⟩) hs.length c2)).setCell ⟨g, m, none⟩ (.int .i64 now)) none :=
    gb_new_set (p := ⟨g, m, none⟩) (gb_new_set (p := ⟨w.heap.size + 1 + 1, 4, none⟩) (gb_fresh HGR.out (by omega)) (by simp; omega)) (by simp; omega)
  have hO3 := ((HO.out.other (p := ⟨w.heap.size + 1 + 1, 4, none⟩) (fun e => by injection e with e; exact hgn e) (.slice (some ⟨g, 0, none⟩) hs.length c2)).set m (.int .i64 now))
  have hR3 : HRow ((w2.setCell ⟨w.heap.size + 1 + 1, 4, none⟩ (.slice (some ⟨g, 0, none⟩) hs.length c2)).setCell ⟨g, m, none⟩ (.int .i64 now)) g (hs.set m now) := by
    refine ⟨by simpa [World.setCell] using hlt, fun k hk => ?_⟩
    simp at hk
    refine hO3.cell rfl (by omega) ?_
    have hk2 : k < (hs.set m now).length := by simpa using hk
    have e : (hs.set m now).getD k 0 = (hs.set m now)[k] := by simp [hk]
    rw [List.nil_append, ← List.map_set, List.getElem?_map, List.getElem?_eq_getElem hk2, e]
    rfl
  have C3 : Blk ((w2.setCell ⟨w.heap.size + 1 + 1, 4, none⟩ (.slice (some ⟨g, 0, none⟩) hs.length c2)).setCell ⟨g, m, none⟩ (.int .i64 now)) (w.heap.size + 1) _ 36 := (Q2.other (b := w.heap.size + 1 + 1) (i := 4) (v := .slice (some ⟨g, 0, none⟩) hs.length c2) (by omega)).other (b := g) (i := m) (v := .int .i64 now) (by omega)
  have hlt3 := hg3.size
  clear HO HGR hO3 Q1 Q2 Q3 k0 k1 k2 k3 k4 l0 l1 l2 l3 l4 lf cg fg
  have hh3 : Heard now (hs.set m now) := by
    intro k hk
    simp at hk
    by_cases e : k = m
    · subst e
      simp [hk]; omega
    · have := hh k hk
      have e2 : (hs.set m now).getD k 0 = hs.getD k 0 := by
        simp [List.getElem?_set, Ne.symm e]
      rw [e2]
      exact this
  generalize ((w2.setCell ⟨w.heap.size + 1 + 1, 4, none⟩ (.slice (some ⟨g, 0, none⟩) hs.length c2)).setCell ⟨g, m, none⟩ (.int .i64 now)) = W3 at *
  have hlen2 : (hs.set m now).length = hs.length := by simp
  have hn' := next_any late gone now now epoch epoch q g c c2 hs (hs.set m now) W3 (hR.later hg3) hR3 hlen2 hl ⟨hn0, hn1⟩ hh ⟨hn0, hn1⟩ hh3 he
  rw [hlen2] at hn'
  refine hn'.mono ?_
  rintro e w4 ⟨rfl, hg4⟩
  have C4 := C3.grown hg4 (by simp)
  have hR4 := hR3.later hg4
  have hg := gb_trans hg3 hg4
  clear hg3 hg4 hR hh hh3 hn' hR3 C3
  have r0 := C4.cell 0 rfl
  have r1 := C4.cell 1 rfl
  have r2 := C4.cell 2 rfl
  have r3 := C4.cell 3 rfl
  have r4 := C4.cell 4 rfl
  have q0 := C4.free 0
  have q1' := C4.free 1
  have q2' := C4.free 2
  have q3 := C4.free 3
  have q4 := C4.free 4
  generalize hE : epd epoch (difB (hs.map (thk late gone now)) ((hs.set m now).map (thk late gone now)) hs.length) = ep
  have HE := Lib.hid hE
  clear hE
  have HR4 := Lib.hid hR4
  clear hR4
  unfold rv
  go_wp2_with fail
  have HB : Blk _ (w.heap.size + 1) #[.int .i64 late, .int .i64 gone, .int .i64 now, .int .i64 ep, .slice (some ⟨g, 0, none⟩) hs.length c2] 36 := ((((C4.set 0 (.int .i64 late)).set 1 (.int .i64 gone)).set 2 (.int .i64 now)).set 3 (.int .i64 ep)).set 4 (.slice (some ⟨g, 0, none⟩) hs.length c2)
  refine bodyPost_ret (res_struct2 rfl HB rfl rfl Try.underlying36 rfl (by kernel_rfl)) rfl ⟨g, c2, by rw [HE.out]; rfl, ?_, ?_, by omega⟩
  · repeat (first | exact hg | (refine gb_new_set (p := ⟨w.heap.size + 1, _, none⟩) ?_ (by simp)))
  · refine HR4.out.tch (S := fun k => k = w.heap.size + 1) ?_ (by omega)
    repeat (first | exact tch_refl _ _ | (refine tch_set (p := ⟨w.heap.size + 1, _, none⟩) ?_ (.inl rfl)))
end
end Go.Proofs.Ytgadcikgnndmjaa
