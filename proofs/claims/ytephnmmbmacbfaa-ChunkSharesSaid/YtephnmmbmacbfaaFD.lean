/- The walk of package chunk's iterator. -/
import Derived.RangeFuncNested
import Derived.RangeFuncBound
import Derived.RangeFuncCalls
import Derived.RangeFuncLeaves
import Derived.RangeFuncBox
import Derived.Shelf.Abstract
import Derived.Shelf.RegionOpen
import Derived.WalkKit
import Derived.OwnWalkIn
import Derived.TacticsInMore
import Derived.LoopNIn
import Derived.LoopIn
import Derived.Test.YtephnmmbmacbfaaRound
import Derived.Test.YtephnmmbmacbfaaCB
import Derived.Test.YtephnmmbmacbfaaFC
namespace Go.Proofs.Ytephnmmbmacbfaa
set_option linter.unusedVariables false
set_option linter.unusedSimpArgs false
open Go.RowKit Go.Own Go.Chunk Go.Shelf
attribute [local go_sem] Oper.semAt_some

/-- Where a piece begins, and how long it is. -/
def pv (x : Nat × Nat) : Array Value := #[.int .i64 (x.1 : Int), .int .i64 (x.2 : Int)]

/-- What a round keeps: what lay below n₀, and the two boxes. -/
def Kept (n₀ Bb Bc : Nat) (W W' : World) : Prop := Below n₀ W W' ∧ W'.heap[Bb]? = W.heap[Bb]? ∧ W'.heap[Bc]? = W.heap[Bc]?

theorem Kept.refl (n₀ Bb Bc : Nat) (W : World) : Kept n₀ Bb Bc W W := ⟨Below.refl _ _, rfl, rfl⟩
theorem Kept.trans {n₀ Bb Bc : Nat} {A B C : World} (h : Kept n₀ Bb Bc A B) (k : Kept n₀ Bb Bc B C) : Kept n₀ Bb Bc A C := ⟨h.1.trans k.1, k.2.1.trans h.2.1, k.2.2.trans h.2.2⟩
theorem Kept.grown0 {n₀ Bb Bc : Nat} {A B C : World} (h : Kept n₀ Bb Bc A B) (hn : n₀ ≤ B.heap.size) (hb : Bb < B.heap.size) (hc : Bc < B.heap.size) (hg : B.grownBy C none) : Kept n₀ Bb Bc A C :=
  h.trans ⟨below_step0 (Below.refl _ _) hn hg, hg.block Bb hb (by simp), hg.block Bc hc (by simp)⟩
theorem Kept.of_below {n₀ Bb Bc : Nat} {A B : World} (h : Below n₀ A B) (hb : Bb < n₀) (hc : Bc < n₀) : Kept n₀ Bb Bc A B := ⟨h, h.block Bb hb, h.block Bc hc⟩
theorem Kept.put {n₀ Bb Bc : Nat} {w : World} (hn : n₀ ≤ w.heap.size) (hb : Bb < w.heap.size) (hc : Bc < w.heap.size) (W : World) (l : Nat) (o o' : Obj) (hl : w.heap.size ≤ l) (h : W.heap[l]? = some o) (h1 : o.isCells = false) (h2 : o.isWalk = false) : Kept n₀ Bb Bc W (W.putObj l o') :=
  ⟨belowK_b hn W l o o' hl h h1 h2, World.putObj_heap_other (by omega), World.putObj_heap_other (by omega)⟩

theorem AbidesFrom_none {β : Type} {B : Nat} {J : β → World → Prop} (h : AbidesFrom B J) {s : β} {W W' : World} (hs : J s W) (hg : W.grownBy W' none) : J s W' :=
  h s W W' none hs hg (fun r e => by cases e)

set_option maxRecDepth 100000 in
set_option maxHeartbeats 2000000 in
theorem pieces1_in (least most k : Nat) (b : List Nat) (S : Option Addr) (cs B n₀ Bb Bc l n : Nat) (hn : 1 ≤ n) (J Jx : List (Nat × Nat) → World → Prop) (W : World)
    (hS : Rd W B 1 S b.length (b.map bv)) (hB : B ≤ n₀) (hnW : n₀ ≤ W.heap.size) (hv : ∀ v ∈ b, v < 256) (hl : b.length ≤ 1000000) (hlc : b.length ≤ cs) (hcm : cs ≤ 9223372036854775807)
    (h16 : 16 ≤ least) (hlm : least ≤ most) (hm : most ≤ 1048576) (hk : k ≤ 20)
    (hBb : Blk W Bb #[.slice S b.length cs] 24) (hBc : Blk W Bc #[.int .i64 least, .int .i64 most, .int .i64 k] 29) 
    (hJ : AbidesFrom W.heap.size J)
    (hY : ∀ pre x W1, J pre W1 → pre.length < (cut spc least most k b).length → x = (at' (cut spc least most k b) pre.length, (cut spc least most k b).getD pre.length 0) → YieldAt Fence.wide (n - 1) Try.prog l (pv x) W1 fun e W' =>
      (e = .returned (.bool true) ∧ J (pre ++ [x]) W' ∧ Kept n₀ Bb Bc W1 W') ∨ (e = .returned (.bool false) ∧ Jx (pre ++ [x]) W'))
    (h0 : J [] W) :
    CallsIn Fence.wide n Try.prog 19 #[.func (.yield l) #[] #[], .pointer (some ⟨Bb, 0, none⟩), .pointer (some ⟨Bc, 0, none⟩)] W fun e W' => (∃ v, e = .returned v) ∧
      ((∃ ys, ys = pcs (cut spc least most k b) (cut spc least most k b).length ∧ J ys W') ∨ (∃ pre, (∃ j, j ≤ (cut spc least most k b).length ∧ pre = pcs (cut spc least most k b) j) ∧ Jx pre W')) := by
  have hmore := fun j => @piece_more spc least most k b (by omega) j
  have hend := piece_end spc least most k b (by omega)
  have hfit := fun j => @piece_fits spc least most k b (by omega) j
  obtain ⟨L, hL⟩ : ∃ L, L = cut spc least most k b := ⟨_, rfl⟩
  rw [← hL] at hmore hend hfit hY ⊢
  clear hL
  have hmi : (0 : Int) < (most : Int) := by omega
  replace hmore := Lib.hid hmore
  replace hend := Lib.hid hend
  replace hfit := Lib.hid hfit
  replace hY := Lib.hid hY
  refine callsIn_of_wp Try.func19 rfl trivial ?_ rfl
  simp only [Try.ntmps19, List.size_toArray, List.length_cons, List.length_nil, Nat.reduceAdd, Nat.reduceSub, Array.replicate_succ, Array.replicate_zero, List.push_toArray, List.append_toArray, List.nil_append, List.cons_append]
  gi_wp2
  gi_loopw [4] (fun i wr => ∃ j a : Nat, j ≤ L.length ∧ i = .int .i64 (a : Int) ∧ Hid (a = at' L j) ∧ Hid (J (pcs L j) wr) ∧ Kept n₀ Bb Bc W wr)
    (fun i _ => b.length - (intOf i).toNat)
  case atStart => exact ⟨0, 0, Nat.zero_le _, rfl, Lib.hid rfl, Lib.hid h0, Kept.refl _ _ _ _⟩
  case round =>
    obtain ⟨j, a, hj, rfl, haq', hJs, hkp⟩ := hrel
    have hbel := hkp.1
    have haq := haq'.out
    have hBb' := hBb.of_heap hkp.2.1
    have hBc' := hBc.of_heap hkp.2.2
    have hcb := hBb'.cell 0 rfl
    have hc1 := hBc'.cell 1 rfl
    have hws := hbel.size
    by_cases hlt : j < L.length
    · obtain ⟨ha, hnx⟩ := hmore.out j hlt
      have hf := hfit.out j hlt
      have has := at_succ L j hlt
      have hps := pcs_succ L j
      obtain ⟨p, hpq⟩ : ∃ p, p = L.getD j 0 := ⟨_, rfl⟩
      rw [← haq, ← hpq] at has hps hf
      rw [← haq] at ha
      rw [← haq, ← hpq] at hnx
      have hxap : (a, p) = (at' L j, L.getD j 0) := by rw [haq, hpq]
      replace hxap := Lib.hid hxap
      clear haq haq' hpq
      have hai : (a : Int) < (b.length : Int) := by omega
      have hac : (a : Int) ≤ (cs : Int) := by omega
      obtain ⟨g, off, rfl, hgB, hcell⟩ := rd_byte hS (show 0 < b.length by omega)
      clear hcell
      have hdr := rd_drop hS a (by omega)
      have hnw := fun (x : In (Later wr)) => next_any least most k (b.drop a) (some ⟨g, off + a, none⟩) (cs - a) B x.w ((hdr.below (hbel.mono hB)).later x.ok (by omega)) (by have := x.ok.size; omega) (fun v h => hv v (List.mem_of_mem_drop h)) (by rw [List.length_drop]; omega) (by rw [List.length_drop]; omega) (by omega) h16 hlm hm hk
      have hp0 : 0 < p := by
        rw [← hnx]
        exact next_pos spc least most k _ (by omega) (by intro e; have := congrArg List.length e; rw [List.length_drop] at this; simp at this; omega)
      rw [hnx, List.length_drop] at hnw
      replace hnw := Lib.hid hnw
      have d0 := fun x => (Later.blk hBb' x).cell 0 rfl
      have e0 := fun x => (Later.blk hBc' x).cell 0 rfl
      have e1 := fun x => (Later.blk hBc' x).cell 1 rfl
      have e2 := fun x => (Later.blk hBc' x).cell 2 rfl
      gi_wp2
      refine wpIn_wide.2 ?_
      refine wp_region_in_tail 5 (Later wr) (by kernel_rfl) (by kernel_rfl) (Later.start _) ?_
      simp only [List.take_succ_cons, List.take_zero, List.drop_succ_cons, List.drop_zero]
      repeat (go_big_quiet_step ((first | rfl | (go_at_call 20; exact later_call _ (hnw.out _)))))
      refine wpQuiet_nil ?_
      rintro _ ⟨x, rfl⟩
      have hxs := x.ok.size
      have hJ2 : J (pcs L j) x.w := by
        refine AbidesFrom_none hJ hJs.out x.ok
      obtain ⟨fn, tmps, assign, body, hy, hR⟩ := hY.out _ (a, p) x.w hJ2 (by rw [pcs_length]; exact hlt) (by rw [pcs_length]; exact hxap.out)
      dsimp only [pv] at hy
      have hbx := hkp.grown0 (by omega) hBb'.lt hBc'.lt x.ok
      go_wp2_with fail
      gi_wp2
      refine hR.mono ?_
      rintro e W3 (⟨rfl, hJ3, hk3⟩ | ⟨rfl, hJx3⟩)
      · gi_wp2
        go_roundw
        case rel => exact ⟨j + 1, a + p, by omega, by go_num, Lib.hid has.symm, Lib.hid (by rw [hps]; exact hJ3), hbx.trans hk3⟩
        case measure => simp [intOf]; omega
      · gi_wp2
        refine bodyPost_ret (results_none rfl _ _ _) rfl ?_
        exact ⟨⟨_, rfl⟩, .inr ⟨_, ⟨j + 1, by omega, hps.symm⟩, hJx3⟩⟩
    · obtain rfl : j = L.length := by omega
      have hae := haq.trans hend.out
      subst hae
      gi_wp2
      go_end0
      exact ⟨⟨_, rfl⟩, .inl ⟨_, rfl, hJs.out⟩⟩

set_option maxRecDepth 100000 in
set_option maxHeartbeats 2000000 in
/-- The zero cutter goes through nothing. -/
theorem pieces0_in {α : Type} (n Bb Bc l blen cs : Nat) (S : Option Addr) (J : List α → World → Prop) (W : World)
    (hBb : Blk W Bb #[.slice S blen cs] 24) (hBc : Blk W Bc #[.int .i64 0, .int .i64 0, .int .i64 0] 29) (h0 : J [] W) :
    CallsIn Fence.wide n Try.prog 19 #[.func (.yield l) #[] #[], .pointer (some ⟨Bb, 0, none⟩), .pointer (some ⟨Bc, 0, none⟩)] W fun e W' => (∃ v, e = .returned v) ∧ J [] W' := by
  have hcb := hBb.cell 0 rfl
  have hc1 := hBc.cell 1 rfl
  refine callsIn_of_wp Try.func19 rfl trivial ?_ rfl
  simp only [Try.ntmps19, List.size_toArray, List.length_cons, List.length_nil, Nat.reduceAdd, Nat.reduceSub, Array.replicate_succ, Array.replicate_zero, List.push_toArray, List.append_toArray, List.nil_append, List.cons_append]
  gi_wp2
  gi_loopw [4] (fun i wr => i = .int .i64 0 ∧ W = wr) (fun _ _ => 0)
  case atStart => exact ⟨rfl, rfl⟩
  case round =>
    obtain ⟨rfl, rfl⟩ := hrel
    by_cases hb : 0 < blen
    · have hbi : (0 : Int) < (blen : Int) := by omega
      gi_wp2
      go_end0
      exact ⟨⟨_, rfl⟩, h0⟩
    · have hbi : ¬ ((0 : Int) < (blen : Int)) := by omega
      gi_wp2
      go_end0
      exact ⟨⟨_, rfl⟩, h0⟩

set_option maxHeartbeats 1000000 in
/-- Pieces: both are boxed; the function value captures the boxes. -/
theorem pieces_any (v0 v1 v2 : Int) (S : Option Addr) (len cs : Nat) (w : World) :
    Calls Try.prog 11 #[cv v0 v1 v2, .slice S len cs] w fun e w' => e = .returned (.func (.func 19) #[] #[.pointer (some ⟨w.heap.size + 1, 0, none⟩), .pointer (some ⟨w.heap.size, 0, none⟩)]) ∧
      w' = (w.alloc (.cells #[.int .i64 v0, .int .i64 v1, .int .i64 v2] 29)).alloc (.cells #[.slice S len cs] 24) := by
  unfold cv
  go_enter Try.func11, Try.ntmps11
  go_wp2_with fail
  go_ret
  exact ⟨rfl, rfl⟩

/-- The pieces, one by one. -/
theorem pieces_stops (least most k : Nat) (b : List Nat) (S : Option Addr) (cs B n₀ Bb Bc n : Nat) (hn : 1 ≤ n) (w : World)
    (hS : Rd w B 1 S b.length (b.map bv)) (hB : B ≤ n₀) (hnW : n₀ ≤ w.heap.size) (hv : ∀ v ∈ b, v < 256) (hl : b.length ≤ 1000000) (hlc : b.length ≤ cs) (hcm : cs ≤ 9223372036854775807)
    (h16 : 16 ≤ least) (hlm : least ≤ most) (hm : most ≤ 1048576) (hk : k ≤ 20)
    (hBb : Blk w Bb #[.slice S b.length cs] 24) (hBc : Blk w Bc #[.int .i64 least, .int .i64 most, .int .i64 k] 29) (hbn : Bb < n₀) (hcn : Bc < n₀) :
    SeqStopsK Fence.wide n Try.prog 19 #[.pointer (some ⟨Bb, 0, none⟩), .pointer (some ⟨Bc, 0, none⟩)] pv (Below n₀) (fun ys => ys = pcs (cut spc least most k b) (cut spc least most k b).length)
      (fun pre => ∃ j, j ≤ (cut spc least most k b).length ∧ pre = pcs (cut spc least most k b) j) (cut spc least most k b).length w := fun l J Jx W hW hJ _ hY h0 =>
  pieces1_in least most k b S cs B n₀ Bb Bc l n hn J Jx W (hS.below (hW.mono (by omega))) hB (Nat.le_trans hnW hW.size) hv hl hlc hcm h16 hlm hm hk (hBb.below hW hBb.lt) (hBc.below hW hBc.lt) hJ (fun pre x W1 h1 h2 _ => by
    obtain ⟨fn, tmps, assign, body, hy, hR⟩ := hY pre x W1 h1 h2
    refine ⟨fn, tmps, assign, body, hy, hR.mono ?_⟩
    rintro e W' (⟨he, h1, h2⟩ | h)
    · exact .inl ⟨he, h1, Kept.of_below h2 hbn hcn⟩
    · exact .inr h) h0

/-- A piece that lies within so many bytes. -/
abbrev PieceIn (len : Nat) := { x : Nat × Nat // 0 < x.2 ∧ x.1 + x.2 ≤ len }

/-- The pieces, one by one, each known to be one. -/
theorem pieces_stops_in (least most k : Nat) (b : List Nat) (S : Option Addr) (cs B n₀ Bb Bc n : Nat) (hn : 1 ≤ n) (w : World)
    (hS : Rd w B 1 S b.length (b.map bv)) (hB : B ≤ n₀) (hnW : n₀ ≤ w.heap.size) (hv : ∀ v ∈ b, v < 256) (hl : b.length ≤ 1000000) (hlc : b.length ≤ cs) (hcm : cs ≤ 9223372036854775807)
    (h16 : 16 ≤ least) (hlm : least ≤ most) (hm : most ≤ 1048576) (hk : k ≤ 20)
    (hBb : Blk w Bb #[.slice S b.length cs] 24) (hBc : Blk w Bc #[.int .i64 least, .int .i64 most, .int .i64 k] 29):
    SeqStopsK Fence.wide n Try.prog 19 #[.pointer (some ⟨Bb, 0, none⟩), .pointer (some ⟨Bc, 0, none⟩)] (fun x : PieceIn b.length => pv x.1) (Kept n₀ Bb Bc) (fun ys => ys.map (·.1) = pcs (cut spc least most k b) (cut spc least most k b).length)
      (fun pre => ∃ j, j ≤ (cut spc least most k b).length ∧ pre.map (·.1) = pcs (cut spc least most k b) j) (cut spc least most k b).length w := fun l J Jx W hW hJ _ hY h0 => by
  refine (pieces1_in least most k b S cs B n₀ Bb Bc l n hn (fun pre W => ∃ pre' : List (PieceIn b.length), pre'.map (·.1) = pre ∧ J pre' W) (fun pre W => ∃ pre' : List (PieceIn b.length), pre'.map (·.1) = pre ∧ Jx pre' W) W (hS.below (hW.mono (by omega))) hB (Nat.le_trans hnW hW.size) hv hl hlc hcm h16 hlm hm hk (hBb.below hW hBb.lt) (hBc.below hW hBc.lt) ?_ ?_ ⟨[], rfl, h0⟩).mono ?_
  · rintro s W1 W2 row ⟨pre', e, h⟩ hg hr
    exact ⟨pre', e, hJ pre' W1 W2 row h hg hr⟩
  · rintro pre x W1 ⟨pre', rfl, h⟩ hlt hx
    rw [List.length_map] at hlt hx
    have hfit := piece_fits spc least most k b (by omega) hlt
    obtain ⟨hat, hnx⟩ := piece_more spc least most k b (by omega) hlt
    have hpos : 0 < (cut spc least most k b).getD pre'.length 0 := by
      rw [← hnx]
      exact next_pos spc least most k _ (by omega) (by intro e; have := congrArg List.length e; rw [List.length_drop] at this; simp at this; omega)
    obtain ⟨fn, tmps, assign, body, hy, hR⟩ := hY pre' ⟨x, by rw [hx]; exact ⟨hpos, hfit⟩⟩ W1 h hlt
    refine ⟨fn, tmps, assign, body, hy, hR.mono ?_⟩
    rintro e W' (⟨he, h1, h2⟩ | ⟨he, h1⟩)
    · exact .inl ⟨he, ⟨_, by simp, h1⟩, h2⟩
    · exact .inr ⟨he, ⟨_, by simp, h1⟩⟩
  · rintro e W' ⟨he, ⟨_, rfl, pre', e1, h1⟩ | ⟨_, ⟨j, hj, rfl⟩, pre', e1, h1⟩⟩
    · exact ⟨he, .inl ⟨pre', e1, h1⟩⟩
    · exact ⟨he, .inr ⟨pre', ⟨j, hj, e1⟩, h1⟩⟩

/-- The zero cutter's pieces: none. -/
theorem pieces0_stops {α : Type} (encs : α → Array Value) (Kp : World → World → Prop) (S : Option Addr) (len cs Bb Bc n : Nat) (w : World) (hBb : Blk w Bb #[.slice S len cs] 24) (hBc : Blk w Bc #[.int .i64 0, .int .i64 0, .int .i64 0] 29) :
    SeqStopsK Fence.wide n Try.prog 19 #[.pointer (some ⟨Bb, 0, none⟩), .pointer (some ⟨Bc, 0, none⟩)] encs Kp (fun ys => ys = []) (fun _ => False) 0 w := fun l J Jx W hW hJ _ hY h0 =>
  (pieces0_in (α := α) n Bb Bc l len cs S J W (hBb.below hW hBb.lt) (hBc.below hW hBc.lt) h0).mono fun e W' ⟨he, hj⟩ => ⟨he, .inl ⟨_, rfl, hj⟩⟩
end Go.Proofs.Ytephnmmbmacbfaa
