/- The walks of the document's Same, and of Cost; the document's Diff in plain Lean. -/
import Derived.Test.YtgahefehnhggjaaEJ
import Derived.Test.YtgahefehnhggjaaXTail
namespace Go.Proofs.Ytgahefehnhggjaa
set_option linter.unusedVariables false
set_option linter.unusedSimpArgs false
open Go.RowKit Go.Own Go.Delta Go.ChangeShapes

theorem diffT_step {old fresh : List Nat} {size p : Nat} {run : List Nat} {out : List Prt} (hs : 0 < size) (h : p < fresh.length) (hk : fresh.length < p + size ∨ ¬ 0 ≤ find old ((fresh.drop p).take size)) :
    diffT old fresh size p run out = diffT old fresh size (p + 1) (run ++ [fresh.getD p 0]) out := by
  by_cases h2 : fresh.length < p + size
  · rw [diffT_tail h h2, drop_cons_nat fresh p h]
    by_cases h3 : p + 1 < fresh.length
    · rw [diffT_tail h3 (by omega)]
      simp
    · rw [diffT_end (by omega), List.drop_eq_nil_of_le (by omega)]
  · exact diffT_byte hs h h2 (by rcases hk with hk | hk; exact absurd hk h2; exact hk)

/-- A row of new memory stays where another one grows. -/
theorem rd_row {w w' : World} {B size n g off : Nat} {row : Option Nat} {xs : List Value} (h : Rd w B size (some ⟨g, off, none⟩) n xs) (hg : w.grownBy w' row) (hne : some g ≠ row) (hB : B ≤ w.heap.size) : Rd w' B size (some ⟨g, off, none⟩) n xs := by
  refine ⟨h.1, fun hn => ?_⟩
  obtain ⟨g', off', e, hgb, hc⟩ := h.2 hn
  injection e with e
  injection e with e1 e2
  subst e1; subst e2
  exact ⟨g, off, rfl, hgb, fun j u hu => hg.cell (hc j u hu) hne⟩

/-- The first of the blocks from i on that is just some bytes. -/
def scan (old here : List Nat) (i m : Nat) : Int := firstIn old here (List.range' i m)

theorem scan_find (old here : List Nat) : find old here = scan old here 0 (nbl old here.length) := by
  unfold find scan
  rw [List.range_eq_range']

theorem scan_yes {old here : List Nat} {i m : Nat} (h : blkOf old here.length i = here) : scan old here i (m + 1) = i := by
  unfold scan
  rw [List.range'_succ, firstIn, if_pos h]

theorem scan_no {old here : List Nat} {i m : Nat} (h : blkOf old here.length i ≠ here) : scan old here i (m + 1) = scan old here (i + 1) m := by
  unfold scan
  rw [List.range'_succ, firstIn, if_neg h]

theorem scan_end {old here : List Nat} {i : Nat} : scan old here i 0 = -1 := rfl

/-- How many new bytes parts have. -/
def cost (l : List Pt) : Nat := (l.map fun t => t.f.length).sum

theorem cost_take {l : List Pt} {k : Nat} (h : k < l.length) : cost (l.take (k + 1)) = cost (l.take k) + l[k].f.length := by
  unfold cost
  rw [List.take_succ_eq_append_getElem h, List.map_append, List.sum_append]
  simp

set_option maxHeartbeats 3200000 in
theorem cost_any (l : List Pt) (SL : Option Addr) (cl B : Nat) (w : World) (hL : Rd w B 2 SL l.length (l.flatMap ptC)) (hB : B ≤ w.heap.size) (hll : l.length ≤ 4000) (hfl : ∀ t ∈ l, t.f.length ≤ 4096) :
    Calls Try.prog 13 #[.slice SL l.length cl] w fun e w' => e = .returned (.int .i64 (cost l : Nat)) ∧ w.grownBy w' none := by
  go_enter Try.func13, Try.ntmps13
  go_wp2_with fail
  go_loopw [3, 8] (fun v3 v8 wi => ∃ (k s : Nat), v8 = .int .i64 k ∧ v3 = .int .i64 s ∧ k ≤ l.length ∧ Hid (s = cost (l.take k)) ∧ s ≤ k * 4096 ∧ w.grownBy wi none)
    (fun _ v8 _ => l.length - (intOf v8).toNat)
  case atStart => exact ⟨0, 0, rfl, rfl, by omega, Lib.hid rfl, by omega, gb_refl _ _⟩
  case round =>
    obtain ⟨k, s, rfl, rfl, hk, hs, hsb, hg⟩ := hrel
    by_cases hkl : k < l.length
    · have hki : (k : Int) < (l.length : Int) := by omega
      obtain ⟨lg, lo, rfl, hlg, hc0, hc1⟩ := rd_pt hL hkl
      have hpl := hfl _ (List.getElem_mem hkl)
      have hst := Lib.hid ((cost_take hkl).trans (by rw [← hs.out]))
      replace hc0 := hg.cell hc0 (by simp)
      replace hc1 := hg.cell hc1 (by simp)
      generalize l[k] = t at *
      obtain ⟨b, f, fA, fc⟩ := t
      dsimp only at *
      generalize hml : f.length = m at *
      replace hml := Lib.hid hml
      have hBt := Blk.new wr #[.int .i64 b, .slice fA m fc] 37
      have k0 := hBt.cell 0 rfl
      have k1 := hBt.cell 1 rfl
      have hga := gb_alloc hg (.cells #[.int .i64 b, .slice fA m fc] 37)
      go_wp2_with fail
      go_roundw
      case rel => exact ⟨k + 1, s + m, by go_num, by go_num, by omega, Lib.hid hst.out.symm, by omega, hga⟩
      case measure => first | (simp [intOf]; done) | (simp [intOf]; omega)
    · have hk2 : k = l.length := by omega
      subst hk2
      rw [List.take_length] at hs
      go_wp2_with fail
      go_ret
      rw [hs.out]
      exact ⟨rfl, hg⟩

set_option maxHeartbeats 3200000 in
theorem same_any (l l2 : List Pt) (S1 S2 : Option Addr) (c1 c2 B : Nat) (w : World) (h1 : Rd w B 2 S1 l.length (l.flatMap ptC)) (h2 : Rd w B 2 S2 l2.length (l2.flatMap ptC)) (hP1 : PtOk w B l) (hP2 : PtOk w B l2) (hB : B ≤ w.heap.size) (hll : l.length ≤ 4000) (he : l.map prt = l2.map prt) :
    Calls Try.prog 10 #[.slice S1 l.length c1, .slice S2 l2.length c2] w fun e w' => e = .returned (.bool true) ∧ w.grownBy w' none := by
  have hlen : l2.length = l.length := by
    have := congrArg List.length he
    simpa using this.symm
  have hget : ∀ k (h : k < l.length), prt (l[k]) = prt (l2[k]'(by omega)) := fun k h => by
    have h3 : (l.map prt)[k]? = (l2.map prt)[k]? := by rw [he]
    rw [List.getElem?_map, List.getElem?_map, List.getElem?_eq_getElem h, List.getElem?_eq_getElem (by omega)] at h3
    simpa using h3
  have hget' : ∀ k (h : k < l.length), ∃ t2, t2 ∈ l2 ∧ prt t2 = prt l[k] ∧ ∃ g off, S2 = some ⟨g, off, none⟩ ∧ g < B ∧ w.cell? ⟨g, off + k * 2, none⟩ = some (.int .i64 t2.b) ∧ w.cell? ⟨g, off + k * 2 + 1, none⟩ = some (.slice t2.A t2.f.length t2.c) := fun k h =>
    ⟨l2[k]'(by omega), List.getElem_mem _, (hget k h).symm, rd_pt h2 (by omega)⟩
  rw [hlen]
  clear h2 hget he hlen
  go_enter Try.func10, Try.ntmps10
  go_wp2_with fail
  go_loopw [5] (fun v5 wi => ∃ k : Nat, v5 = .int .i64 k ∧ k ≤ l.length ∧ w.grownBy wi none) (fun v5 _ => l.length - (intOf v5).toNat)
  case atStart => exact ⟨0, rfl, by omega, gb_refl _ _⟩
  case round =>
    obtain ⟨k, rfl, hk, hg⟩ := hrel
    by_cases hkl : k < l.length
    · have hki : (k : Int) < (l.length : Int) := by omega
      obtain ⟨lg, lo, rfl, hlg, hc0, hc1⟩ := rd_pt h1 hkl
      obtain ⟨t2, hm2, hp, mg, mo, rfl, hmg, hd0, hd1⟩ := hget' k hkl
      have hp1 := hP1 _ (List.getElem_mem hkl)
      have hp2 := hP2 _ hm2
      replace hc0 := hg.cell hc0 (by simp)
      replace hc1 := hg.cell hc1 (by simp)
      replace hd0 := hg.cell hd0 (by simp)
      replace hd1 := hg.cell hd1 (by simp)
      clear hget' hP1 hP2 hm2
      generalize l[k] = t at *
      obtain ⟨b, f, fA, fc⟩ := t
      obtain ⟨b2, f2, gA, gc⟩ := t2
      simp only [prt, Prod.mk.injEq] at hp
      dsimp only at *
      obtain ⟨rfl, rfl⟩ := hp
      have hv1 := fun n => conv_any fc (hp1.1.later (gb_drewN (row := none) hg n) hB) rfl
      have hv2 := fun n => conv_any gc (hp2.1.later (gb_drewN (row := none) hg n) hB) rfl
      clear hp1 hp2
      go_wp2
      go_quiet (fail)
      go_wp2
      go_roundw
      case rel => exact ⟨k + 1, by go_num, by omega, gb_drewN hg _⟩
      case measure => first | (simp [intOf]; done) | (simp [intOf]; omega)
    · have hk2 : k = l.length := by omega
      subst hk2
      go_wp2_with fail
      go_ret
      exact ⟨rfl, hg⟩
end Go.Proofs.Ytgahefehnhggjaa
