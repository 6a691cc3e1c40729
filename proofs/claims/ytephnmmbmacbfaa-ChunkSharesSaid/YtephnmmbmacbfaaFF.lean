/- The walk of package chunk's Cut. -/
import Derived.Test.YtephnmmbmacbfaaFE
namespace Go.Proofs.Ytephnmmbmacbfaa
set_option linter.unusedVariables false
set_option linter.unusedSimpArgs false
open Go.RowKit Go.Own Go.Chunk Go.Shelf
attribute [local go_sem] Oper.semAt_some

theorem info24 : (Try.prog.info? 24).map (fun i => (i.zero, i.size, i.bytes)) = some (some (.slice none 0 0), 1, 24) := by kernel_rfl

/-- A piece, as a slice of its own room. -/
def cutV (S : Option Addr) (x : Nat × Nat) : Value := .slice (S.map fun a => ⟨a.block, a.off + x.1, none⟩) x.2 x.2

/-- What an iterator is that goes through the pieces of these lengths, each known to lie within so many bytes. -/
def GoesIn (w W : World) (lb : Array Value) (len : Nat) (L : List Nat) : Prop := ∀ n, 1 ≤ n → SeqStopsK Fence.wide n Try.prog 19 lb (fun x : PieceIn len => pv x.1) (Kept w.heap.size (w.heap.size + 4) (w.heap.size + 3)) (fun ys => ys.map (·.1) = pcs L L.length) (fun pre => ∃ j, j ≤ L.length ∧ pre.map (·.1) = pcs L j) L.length W

theorem boxed_app {W w1 : World} {n₀ n1 B : Nat} {t e : TypeId} {size k c m g' c' : Nat} {A : Option Addr} {xs ys : List Value}
    (hv : Boxed W B t (.slice A k c)) (hte : t ≠ e) (hrow : Own.Own W n1 e size A c k xs) (hn1 : n₀ ≤ n1) (hn₀ : n₀ ≤ W.heap.size) (hB : n₀ ≤ B)
    (hown' : Own.Own w1 n1 e size (some ⟨g', 0, none⟩) c' m ys) (hgr : W.grownBy w1 (blk A)) :
    Boxed w1 B t (.slice A k c) ∧ Boxed (w1.setCell ⟨B, 0, none⟩ (.slice (some ⟨g', 0, none⟩) m c')) B t (.slice (some ⟨g', 0, none⟩) m c') ∧ Own.Own (w1.setCell ⟨B, 0, none⟩ (.slice (some ⟨g', 0, none⟩) m c')) n1 e size (some ⟨g', 0, none⟩) c' m ys ∧
      KeepsOthers W (w1.setCell ⟨B, 0, none⟩ (.slice (some ⟨g', 0, none⟩) m c')) ∧ Below n₀ W (w1.setCell ⟨B, 0, none⟩ (.slice (some ⟨g', 0, none⟩) m c')) := by
  have hv1 : Boxed w1 B t (.slice A k c) := hv.kept hgr (by rw [← ownBlock_eq A k c]; exact hv.not_row hte hrow)
  refine ⟨hv1, hv1.set _, ?_, ?_, ?_⟩
  · exact World.ownsRow.kept hown' (grownBy_setCell' w1 B _) (.inr (hv1.not_row hte hown').symm)
  · refine (KeepsOthers.of_grownBy hgr fun j o ej hj => ?_).trans (KeepsOthers.setCell _ _ _)
    rcases hrow.2 with ⟨h, _⟩ | ⟨g, cap, cur, h, _, hgb, _⟩
    · injection h with h; subst h; simp [blk] at ej
    · injection h with h; subst h
      obtain rfl : g = j := by simpa [blk] using ej
      rw [hgb] at hj; cases hj; rfl
  · refine ((Below.refl n₀ W).grown hgr hn₀ fun j ej => ?_).setCell (p := ⟨B, 0, none⟩) hB _
    exact Nat.le_trans hn1 (Own.lt hrow j ej).1

theorem boxed_kept2 {W w1 : World} {B B' : Nat} {t e : TypeId} {n₀ size k c : Nat} {u v' : Value} {A : Option Addr} {xs : List Value} (h : Boxed W B t u) (hrow : Own.Own W n₀ e size A c k xs) (hgr : W.grownBy w1 (blk A))
    (hne : B ≠ B') (hte : t ≠ e ∨ B < n₀) : Boxed (w1.setCell ⟨B', 0, none⟩ v') B t u := by
  refine (h.kept hgr ?_).kept (grownBy_setCell' w1 B' v') (by simp; exact hne)
  rcases hte with hte | hlt
  · rw [← ownBlock_eq A k c]; exact h.not_row hte hrow
  · intro e'
    have := (Own.lt hrow B e'.symm).1
    omega

theorem rd_new1 (w : World) (u : Value) (t : TypeId) : Rd (w.alloc (.cells #[u] t)) (w.heap.size + 1) 1 (some ⟨w.heap.size, 0, none⟩) 1 [u] := by
  refine ⟨rfl, fun _ => ⟨w.heap.size, 0, rfl, by omega, fun j v hv => ?_⟩⟩
  have hj : j = 0 := by
    have := (List.getElem?_eq_some_iff.1 hv).1
    simpa using this
  subst hj
  simp at hv
  subst hv
  exact (Blk.new w #[u] t).cell 0 rfl

set_option maxRecDepth 100000 in
set_option maxHeartbeats 2000000 in
theorem cutall_any (v0 v1 v2 : Int) (S : Option Addr) (len cs : Nat) (L : List Nat) (w : World) (hL : L.length ≤ 1000000) (hlc : len ≤ cs) (hcm : cs ≤ 9223372036854775807) (hS : 0 < len → ∃ g off, S = some ⟨g, off, none⟩ ∧ g < w.heap.size)
    (hseq : GoesIn w (((((w.alloc (.cells #[.int .i64 v0, .int .i64 v1, .int .i64 v2] 29)).alloc (.cells #[.slice S len cs] 24)).alloc (.cells #[.slice none 0 0] 40)).alloc (.cells #[.int .i64 v0, .int .i64 v1, .int .i64 v2] 29)).alloc (.cells #[.slice S len cs] 24))
      #[.pointer (some ⟨w.heap.size + 4, 0, none⟩), .pointer (some ⟨w.heap.size + 3, 0, none⟩)] len L) :
    Calls Try.prog 12 #[cv v0 v1 v2, .slice S len cs] w (Gives w 24 1 L.length ((pcs L L.length).map (cutV S))) := by
  obtain ⟨i0, hi, hz0, hz1, hz2⟩ := info_parts info24
  have hpc := fun (V : World) => (callsIn_wide (n := 3 - 1)).2 (pieces_any v0 v1 v2 S len cs V)
  unfold cv at hpc ⊢
  replace hpc := Lib.hid hpc
  have HB0 := Blk.new w #[.int .i64 v0, .int .i64 v1, .int .i64 v2] 29
  have HB1 := (HB0.alloc (.cells #[.slice S len cs] 24)).alloc (.cells #[.slice none 0 0] 40)
  have c0 := HB1.cell 0 rfl
  have c1 := HB1.cell 1 rfl
  have c2 := HB1.cell 2 rfl
  refine (callsIn_wide (n := 3)).1 ?_
  refine callsIn_of_wp_marks Try.func12 rfl trivial ?_ rfl
  simp only [Try.ntmps12, List.size_toArray, List.length_cons, List.length_nil, Nat.reduceAdd, Nat.reduceSub, Array.replicate_succ, Array.replicate_zero, List.push_toArray, List.append_toArray, List.nil_append, List.cons_append]
  gi_wp2_with (refine ⟨trivial, ?_⟩; gi_at_call 11; refine (hpc.out _).mono ?_; rintro e w' ⟨rfl, rfl⟩)
  clear hpc c0 c1 c2 HB1 HB0
  have bB := ((((Boxed.new (w.alloc (.cells #[.int .i64 v0, .int .i64 v1, .int .i64 v2] 29)) 24 (.slice S len cs)).alloc (.cells #[.slice none 0 0] 40)).alloc (.cells #[.int .i64 v0, .int .i64 v1, .int .i64 v2] 29)).alloc (.cells #[.slice S len cs] 24))
  have bO := ((Boxed.new ((w.alloc (.cells #[.int .i64 v0, .int .i64 v1, .int .i64 v2] 29)).alloc (.cells #[.slice S len cs] 24)) 40 (.slice none 0 0)).alloc (.cells #[.int .i64 v0, .int .i64 v1, .int .i64 v2] 29)).alloc (.cells #[.slice S len cs] 24)
  rw [World.size_alloc] at bB
  rw [World.size_alloc, World.size_alloc] at bO
  have hB0 : Below w.heap.size w (((((w.alloc (.cells #[.int .i64 v0, .int .i64 v1, .int .i64 v2] 29)).alloc (.cells #[.slice S len cs] 24)).alloc (.cells #[.slice none 0 0] 40)).alloc (.cells #[.int .i64 v0, .int .i64 v1, .int .i64 v2] 29)).alloc (.cells #[.slice S len cs] 24)) :=
    below_gb (gb_alloc (gb_alloc (gb_alloc (gb_alloc (gb_alloc (gb_refl _ _) _) _) _) _) _)
  have h1 : (1 : Nat) ≤ 3 := by omega
  refine wpIn_rangeFunc_ownG rfl h1 (gf := 19) (lb := #[.pointer (some ⟨w.heap.size + 4, 0, none⟩), .pointer (some ⟨w.heap.size + 3, 0, none⟩)]) rfl trivial (enters_of Try.func19 (by kernel_rfl) rfl)
    (hseq (3 - 1) (by omega)) Kept.trans (Kept.put (by simp; omega) (by simp) (by simp)) (Below.refl _ _) (fun _ => rfl)
    (fun pre W => (∃ v, Boxed W (w.heap.size + 2) 40 v ∧ W.ownsRow (w.heap.size + 5) 24 1 v pre.length ((pre.map (·.1)).map (cutV S)) ∧ True) ∧ Boxed W (w.heap.size + 1) 24 (.slice S len cs) ∧ w.heap.size + 5 ≤ W.heap.size ∧ Below w.heap.size w W)
    (fun _ _ _ => False)
    (OwnFrom.and (Own.from (holdsRow_own (w.heap.size + 5) (w.heap.size + 2) 40 24 1 (fun pre : List (PieceIn len) => pre.length) (fun pre => (pre.map (·.1)).map (cutV S)) (fun _ _ => True)) _) (OwnFrom.and (Own.from (boxed_own (β := List (PieceIn len)) (w.heap.size + 1) 24 (fun _ => .slice S len cs)) _) (OwnFrom.and (fun _ _ _ _ h hg _ => Nat.le_trans h hg.size) (ownFrom_below (Nat.le_refl _) (by simp; omega)))))
    (fun _ _ _ _ _ hs _ _ => hs) ⟨⟨_, bO, World.ownsRow_nil _ _ _ _, trivial⟩, bB, by simp, hB0⟩
    (fun x => { tmps := #[.agg #[.int .i64 v0, .int .i64 v1, .int .i64 v2], .slice S len cs, .pointer (some ⟨w.heap.size, 0, none⟩), .pointer (some ⟨w.heap.size + 1, 0, none⟩), .slice none 0 0, .pointer (some ⟨w.heap.size + 2, 0, none⟩), .int .i64 (x.1.1 : Int), .int .i64 (x.1.2 : Int), .agg #[.int .i64 v0, .int .i64 v1, .int .i64 v2], .slice S len cs, .func (.func 19) #[] #[.pointer (some ⟨w.heap.size + 4, 0, none⟩), .pointer (some ⟨w.heap.size + 3, 0, none⟩)], .int .i64 (x.1.1 : Int), .int .i64 (x.1.2 : Int), undef, undef, undef, undef, undef, undef, undef, undef, undef, undef, undef, undef, undef], defers := [] }) ?assign ?body ?done ?stop
  case assign =>
    intro l x W K hK
    unfold pv
    gi_wp2
    exact hK
  case body =>
    rintro l pre x W ⟨⟨v, hv, hrow, _⟩, hbb, hsz, hB⟩ hlt
    obtain ⟨⟨a, n⟩, hx0, hx1⟩ := x
    dsimp only at hx0 hx1 ⊢
    obtain ⟨g, off, rfl, hgw⟩ := hS (by omega)
    obtain ⟨A, c, rfl⟩ := own_value hrow
    obtain ⟨s, hs⟩ : ∃ s, s = a + n := ⟨_, rfl⟩
    have hw : IntKind.i64.wrap ((a : Int) + (n : Int)) = (s : Int) := by rw [IntKind.wrap_i64]; omega
    have hsc : s ≤ cs := by omega
    have hsi : (s : Int) ≤ (cs : Int) := by omega
    have has : a ≤ s := by omega
    have hsn : s - a = n := by omega
    have hsa : ¬ (s = a) := by omega
    clear hs
    have hO : Own.Own W.drew (w.heap.size + 5) 24 1 A c pre.length ((pre.map (·.1)).map (cutV (some ⟨g, off, none⟩))) := hrow
    replace hsz : w.heap.size + 5 ≤ W.drew.heap.size := hsz
    have hby : (pre.length + 1) * 24 ≤ 140737488355328 := by omega
    have h63 : pre.length + 1 ≤ maxLen := by simp only [maxLen]; omega
    have hSS : (fun V => Boxed V (w.heap.size + 2) 40 (.slice A pre.length c) ∧ Boxed V (w.heap.size + 1) 24 (.slice (some ⟨g, off, none⟩) len cs)) W.drew := ⟨hv, hbb⟩
    clear hrow
    refine wpIn_block ?_
    refine wpIn_region_round_X 12 (fun V => Boxed V (w.heap.size + 2) 40 (.slice A pre.length c) ∧ Boxed V (w.heap.size + 1) 24 (.slice (some ⟨g, off, none⟩) len cs)) (by kernel_rfl) (by kernel_rfl) (by rintro ⟨_, _, h⟩; exact h) (by decide) hSS (fun hHeld => ?_)
    refine' takeX (i := 0) (d := 13) (v := _) rfl rfl (by kernel_rfl) (fun _ _ _ h => h) (Or.inl ⟨by rfl, ?hy0⟩) (by assumption) ?rest0
    case hy0 => (intro V hSw; (have k1 := hSw.1.cell); (have k2 := hSw.2.cell); go_simp; (try with_reducible rfl))
    case rest0 =>
    try simp only [Act.put, List.setIfInBounds_toArray, List.set_cons_zero, List.set_cons_succ]
    refine' takeX (i := 1) (d := 14) (v := _) rfl rfl (by kernel_rfl) (fun _ _ _ h => h) (Or.inl ⟨by rfl, ?hy1⟩) (by assumption) ?rest1
    case hy1 => (intro V hSw; (have k1 := hSw.1.cell); (have k2 := hSw.2.cell); go_simp; (try with_reducible rfl))
    case rest1 =>
    try simp only [Act.put, List.setIfInBounds_toArray, List.set_cons_zero, List.set_cons_succ]
    refine' takeX (i := 2) (d := 15) (v := _) rfl rfl (by kernel_rfl) (fun _ _ _ h => h) (Or.inl ⟨by rfl, ?hy2⟩) (by assumption) ?rest2
    case hy2 => (intro V hSw; (have k1 := hSw.1.cell); (have k2 := hSw.2.cell); go_simp; (try with_reducible rfl))
    case rest2 =>
    try simp only [Act.put, List.setIfInBounds_toArray, List.set_cons_zero, List.set_cons_succ]
    refine' takeX (i := 3) (d := 16) (v := _) rfl rfl (by kernel_rfl) (fun _ _ _ h => h) (Or.inl ⟨by rfl, ?hy3⟩) (by assumption) ?rest3
    case hy3 => (intro V hSw; (have k1 := hSw.1.cell); (have k2 := hSw.2.cell); go_simp; (try with_reducible rfl))
    case rest3 =>
    try simp only [Act.put, List.setIfInBounds_toArray, List.set_cons_zero, List.set_cons_succ]
    refine' takeX (i := 4) (d := 17) (v := _) rfl rfl (by kernel_rfl) (fun _ _ _ h => h) (Or.inl ⟨by rfl, ?hy4⟩) (by assumption) ?rest4
    case hy4 => (intro V hSw; (have k1 := hSw.1.cell); (have k2 := hSw.2.cell); go_simp; (try with_reducible rfl))
    case rest4 =>
    try simp only [Act.put, List.setIfInBounds_toArray, List.set_cons_zero, List.set_cons_succ]
    refine' takeX (i := 5) (d := 18) (v := _) rfl rfl (by kernel_rfl) (fun _ _ _ h => h) (Or.inl ⟨by rfl, ?hy5⟩) (by assumption) ?rest5
    case hy5 => (intro V hSw; (have k1 := hSw.1.cell); (have k2 := hSw.2.cell); go_simp; (try with_reducible rfl))
    case rest5 =>
    try simp only [Act.put, List.setIfInBounds_toArray, List.set_cons_zero, List.set_cons_succ]
    refine' takeX (i := 6) (d := 19) (v := _) rfl rfl (by kernel_rfl) (fun _ _ _ h => h) (Or.inl ⟨by rfl, ?hy6⟩) (by assumption) ?rest6
    case hy6 => (intro V hSw; (have k1 := hSw.1.cell); (have k2 := hSw.2.cell); go_simp; (try with_reducible rfl))
    case rest6 =>
    try simp only [Act.put, List.setIfInBounds_toArray, List.set_cons_zero, List.set_cons_succ]
    refine' takeX (i := 7) (d := 20) (v := _) rfl rfl (by kernel_rfl) (fun _ _ _ h => h) (Or.inl ⟨by rfl, ?hy7⟩) (by assumption) ?rest7
    case hy7 => (intro V hSw; (have k1 := hSw.1.cell); (have k2 := hSw.2.cell); go_simp; (try with_reducible rfl))
    case rest7 =>
    try simp only [Act.put, List.setIfInBounds_toArray, List.set_cons_zero, List.set_cons_succ]
    refine' takeX (i := 8) (d := 21) (v := _) rfl rfl (by kernel_rfl) (fun _ _ _ h => h) (Or.inl ⟨by rfl, ?hy8⟩) (by assumption) ?rest8
    case hy8 => (intro V hSw; (have k1 := hSw.1.cell); (have k2 := hSw.2.cell); go_simp; (try with_reducible rfl))
    case rest8 =>
    try simp only [Act.put, List.setIfInBounds_toArray, List.set_cons_zero, List.set_cons_succ]
    refine' takeX (i := 9) (d := 22) (v := .slice (some ⟨g, off + a, none⟩) n n) rfl rfl (by kernel_rfl) (fun _ _ _ h => h) (Or.inl ⟨by rfl, ?hy9⟩) (by assumption) ?rest9
    case hy9 => (intro V hSw; (have k1 := hSw.1.cell); (have k2 := hSw.2.cell); go_simp; (try with_reducible rfl))
    case rest9 =>
    try simp only [Act.put, List.setIfInBounds_toArray, List.set_cons_zero, List.set_cons_succ]
    refine readyX (rs := [10]) (by kernel_rfl) (by rfl) ?_
    refine AllReadyX.cons rfl (fun K hK => ?_) AllReadyX.nil
    go_simp
    have hH1 := And.intro (hHeld.1.alloc (.cells #[.slice (some ⟨g, off + a, none⟩) n n] 24)) (hHeld.2.alloc (.cells #[.slice (some ⟨g, off + a, none⟩) n n] 24))
    refine hK.out _ _ hH1 ?_
    clear hK K
    try simp only [List.getElem_toArray, List.getElem_cons_zero, List.getElem_cons_succ, Act.put, List.setIfInBounds_toArray, List.set_cons_zero, List.set_cons_succ]
    replace hHeld := hH1
    refine readyX (rs := [11]) (by kernel_rfl) (by rfl) ?_
    refine AllReadyX.cons rfl (fun K hK => ?_) AllReadyX.nil
    refine step_appN _ (by rfl) (.tmp 13) (.tmp 23) 40 (by rfl) (w.heap.size + 5) 24 Try.underlying40 hi hz0 hz1 hz2 rfl (by decide) A c pre.length _ (by rfl) (hO.alloc _) _ _ 1 1 [.slice (some ⟨g, off + a, none⟩) n n] (by rfl) (rd_new1 _ _ 24) (by intro u hu; simp at hu; subst hu; rfl) h63 hby (by have := hsz; simp at this ⊢; omega) ?_
    intro A6 c6 w6 hO6 hgr _
    obtain ⟨g6, rfl, hbg6, hlt6⟩ := Own.form hO6 (by omega)
    have hgr2 : W.drew.grownBy w6 (blk A) := gb_trans (gb_alloc (gb_refl _ _) _) hgr
    obtain ⟨hv1, hv2, hr2, hk2, hb2⟩ := boxed_app (n₀ := w.heap.size) (B := w.heap.size + 2) (W := W.drew) hv (by decide) hO (by omega) (by omega) (by omega) hO6 hgr2
    have hb1 := hHeld.2.kept hgr (by intro e'; have := (hO.lt _ e'.symm).1; omega)
    refine hK.out _ _ ⟨hv1, hb1⟩ ?_
    clear hK K
    try simp only [List.getElem_toArray, List.getElem_cons_zero, List.getElem_cons_succ, Act.put, List.setIfInBounds_toArray, List.set_cons_zero, List.set_cons_succ]
    refine ⟨?_, by kernel_rfl⟩
    show wpAny _ _ _ _ 1 _ _ _
    have hc1 := hv1.cell
    have hf1 := hv1.frozen
    refine wpAny_ready (rs := [12]) (by kernel_rfl) (by simp) ?_
    refine AllReady.cons rfl (fun K hK => ?_) AllReady.nil
    go_simp
    refine hK _ _ ?_
    clear hK K
    refine wpAny_done (by kernel_rfl) ?_ _
    have hkd := KeepsOthers.drew W
    have hbd : Below w.heap.size W W.drew := below_step0 (Below.refl _ _) hB.size (gb_drew (gb_refl _ _))
    have hkeep : ∀ i, w.heap.size + 3 ≤ i → i < w.heap.size + 5 → (w6.setCell ⟨w.heap.size + 2, 0, none⟩ (.slice (some ⟨g6, 0, none⟩) (pre.length + 1) c6)).heap[i]? = W.heap[i]? := fun i h1 h2 =>
      (Below.heap_setCell _ _ _ _ (by dsimp only; omega)).trans (hgr2.block i (Nat.lt_of_lt_of_le h2 hsz) (fun e => by have := (hO.lt _ e.symm).1; omega))
    have hsz6 : w.heap.size + 5 ≤ w6.heap.size := Nat.le_trans hsz hgr2.size
    refine ⟨(hkd.trans hk2).from _, ⟨hbd.trans hb2, hkeep _ (by omega) (by omega), hkeep _ (by omega) (by omega)⟩, ⟨_, hv2, ?_, trivial⟩, hb1.kept (grownBy_setCell' w6 (w.heap.size + 2) _) (by simp), by simpa [World.setCell] using hsz6, (hB.trans hbd).trans hb2⟩
    rw [List.map_append, List.map_append, List.length_append]
    exact hr2
  case done =>
    rintro D ys W hD hys ⟨⟨v, hv, hrow, _⟩, hbb, hsz, hB⟩ hK
    have hc := hv.cell
    gi_wp2
    refine ⟨by simp, .inl ⟨_, _, rfl, run_takeDeferred hK, ?_⟩⟩
    have hr := ownsRow_putObj hrow (.deferred none) hK rfl
    have hlen : ys.length = L.length := by
      have := congrArg List.length hys
      rwa [List.length_map, pcs_length] at this
    rw [hys, hlen] at hr
    obtain ⟨A, c, rfl⟩ := own_value hr
    exact ⟨_, results_tmp rfl _ _ _, A, c, rfl, Own.mono hr (by omega), gb_below (hB.trans (belowK_b (w := w) (Nat.le_refl _) W D _ _ (by simp at hD; omega) hK rfl rfl))⟩
  case stop =>
    rintro D c pre W _ _ h _
    exact h.elim
end Go.Proofs.Ytephnmmbmacbfaa
