/- The walk of the law's gone: what an iterator goes through. -/
import Derived.Test.YtephnmmbmacbfaaFD
import Derived.Maps.AppendAt
namespace Go.Proofs.Ytephnmmbmacbfaa
set_option linter.unusedVariables false
set_option linter.unusedSimpArgs false
open Go.RowKit Go.Own Go.Chunk Go.Shelf
attribute [local go_sem] Oper.semAt_some

theorem info42 : (Try.prog.info? 42).map (fun i => (i.zero, i.size, i.bytes)) = some (some (.agg #[.int .i64 0, .int .i64 0]), 2, 16) := by kernel_rfl

/-- A pair's cells. -/
def pcC (x : Nat × Nat) : List Value := [.int .i64 (x.1 : Int), .int .i64 (x.2 : Int)]

theorem pcC_len (l : List (Nat × Nat)) : (l.flatMap pcC).length = l.length * 2 := by
  induction l with
  | nil => rfl
  | cons t l ih => simp only [List.flatMap_cons, List.length_append, ih, List.length_cons]; simp [pcC]; omega

theorem cells_at_new (w : World) (us : List Value) (t : TypeId) : ∀ j u, us[j]? = some u → (w.alloc (.cells us.toArray t)).cell? ((⟨w.heap.size, 0, none⟩ : Addr).add j) = some u := by
  intro j u hj
  have := cells_new w us t j u hj
  cases j with
  | zero => simpa [Addr.add] using this
  | succ j => simpa [Addr.add] using this

/-- What the box of a list of pairs holds. -/
def GBox (w W : World) (D : Nat) (pre : List (Nat × Nat)) : Prop := ∃ v, Boxed W D 35 v ∧ W.ownsRow w.heap.size 42 2 v pre.length (pre.flatMap pcC) ∧ True

theorem GBox.gives {w W W' : World} {D : Nat} {pre : List (Nat × Nat)} {v : Value} (hr : W'.ownsRow w.heap.size 42 2 v pre.length (pre.flatMap pcC)) (hb : Below w.heap.size w W') : Gives w 42 2 pre.length (pre.flatMap pcC) (.returned v) W' := by
  obtain ⟨A, c, rfl⟩ := own_value hr
  exact ⟨A, c, rfl, hr, gb_below hb⟩

theorem boxed_kept {W w1 : World} {B B' : Nat} {t t' e base size k : Nat} {u v v' : Value} {xs : List Value} {tmp : Obj} (h : Boxed W B t u) (hv : Boxed W B' t' v) (hrow : W.ownsRow base e size v k xs) (hgrow : (W.alloc tmp).grownBy w1 v.ownBlock)
    (hne : B ≠ B' := by omega) (hte : t ≠ e := by decide) : Boxed (w1.setCell ⟨B', 0, none⟩ v') B t u :=
  ((h.alloc tmp).kept hgrow (h.not_row hte hrow)).kept (grownBy_setCell' w1 B' v') (by simp; exact hne)

/-- What an iterator is that goes through the pieces of these lengths. -/
def Goes (w W : World) (lb : Array Value) (L : List Nat) : Prop := ∀ n, 1 ≤ n → SeqStopsK Fence.wide n Try.prog 19 lb pv (Below w.heap.size) (fun ys => ys = pcs L L.length) (fun pre => ∃ j, j ≤ L.length ∧ pre = pcs L j) L.length W

set_option maxRecDepth 100000 in
set_option maxHeartbeats 2000000 in
theorem gone_any (L : List Nat) (lb : Array Value) (m : Nat) (w : World) (hL : L.length ≤ 1000000) (hm : m ≤ 1000000)
    (hseq : Goes w ((w.alloc (.cells #[.int .i64 (m : Int)] 3)).alloc (.cells #[.slice none 0 0] 35)) lb L) :
    Calls Try.prog 10 #[.func (.func 19) #[] lb, .int .i64 m] w (Gives w 42 2 (min m L.length) ((pcs L (min m L.length)).flatMap pcC)) := by
  obtain ⟨i0, hi, hz0, hz1, hz2⟩ := info_parts info42
  have hne : ∀ W : World, (binOp BinOp.eql 38 (.func (.func 19) #[] lb) .nilFunc).run Try.prog W = .ok (.bool false) W := fun W => by rfl
  refine (callsIn_wide (n := 3)).1 ?_
  refine callsIn_of_wp_marks Try.func10 rfl trivial ?_ rfl
  simp only [Try.ntmps10, List.size_toArray, List.length_cons, List.length_nil, Nat.reduceAdd, Nat.reduceSub, Array.replicate_succ, Array.replicate_zero, List.push_toArray, List.append_toArray, List.nil_append, List.cons_append]
  gi_wp2
  have bM := (Boxed.new w 3 (.int .i64 (m : Int))).alloc (.cells #[.slice none 0 0] 35)
  have bO := Boxed.new (w.alloc (.cells #[.int .i64 (m : Int)] 3)) 35 (.slice none 0 0)
  rw [World.size_alloc] at bO
  have hB0 : Below w.heap.size w ((w.alloc (.cells #[.int .i64 (m : Int)] 3)).alloc (.cells #[.slice none 0 0] 35)) := ((Below.refl _ w).alloc (Nat.le_refl _) _).alloc (by simp) _
  have h1 : (1 : Nat) ≤ 3 := by omega
  refine wpIn_rangeFunc_ownG rfl h1 (gf := 19) (lb := lb) rfl trivial (enters_of Try.func19 (by kernel_rfl) rfl)
    (hseq (3 - 1) (by omega)) belowK_t (belowK_b (by simp; omega)) (Below.refl _ _) (fun _ => rfl)
    (fun pre W => GBox w W (w.heap.size + 1) pre ∧ Boxed W w.heap.size 3 (.int .i64 (m : Int)) ∧ pre.length ≤ m ∧ Below w.heap.size w W)
    (fun c pre W => (∃ init last, pre = init ++ [last] ∧ init.length = m ∧ c = .exit 0 ∧ GBox w W (w.heap.size + 1) init) ∧ Below w.heap.size w W)
    ?own ?ownx ⟨⟨_, bO, World.ownsRow_nil _ _ _ _, trivial⟩, bM, by simp, hB0⟩
    (fun x => { tmps := #[.func (.func 19) #[] lb, .int .i64 (m : Int), undef, .pointer (some ⟨w.heap.size, 0, none⟩), .slice none 0 0, .pointer (some ⟨w.heap.size + 1, 0, none⟩), .int .i64 (x.1 : Int), .int .i64 (x.2 : Int), .func (.func 19) #[] lb, .bool false, .func (.func 19) #[] lb, .int .i64 (x.1 : Int), .int .i64 (x.2 : Int), undef, undef, undef, undef, undef, undef, undef, undef, undef, undef, undef], defers := [] }) ?assign ?body ?done ?stop
  case own =>
    refine OwnFrom.and (Own.from (holdsRow_own w.heap.size (w.heap.size + 1) 35 42 2 (fun pre : List (Nat × Nat) => pre.length) (fun pre => pre.flatMap pcC) (fun _ _ => True)) _) (OwnFrom.and (Own.from (boxed_own (β := List (Nat × Nat)) w.heap.size 3 (fun _ => .int .i64 (m : Int))) _) (OwnFrom.and (ownFrom_pure _ _) (ownFrom_below (Nat.le_refl _) (by simp; omega))))
  case ownx =>
    intro c
    refine OwnFrom.and (fun s A B row hs hg hr => ?_) (ownFrom_below (Nat.le_refl _) (by simp; omega))
    obtain ⟨init, last, e1, e2, e3, hb⟩ := hs
    exact ⟨init, last, e1, e2, e3, holdsRow_own w.heap.size (w.heap.size + 1) 35 42 2 (fun pre : List (Nat × Nat) => pre.length) (fun pre => pre.flatMap pcC) (fun _ _ => True) init A B row hb hg (fun r e => (hr r e).2)⟩
  case assign =>
    intro l x W K hK
    unfold pv
    gi_wp2
    exact hK
  case body =>
    rintro l pre x W ⟨⟨v, hv, hrow, _⟩, hbm, hpm, hB⟩ hlt
    have hc := hv.cell
    have hcm := hbm.cell
    obtain ⟨A, c, rfl⟩ := own_value hrow
    have hpl : pre.length ≤ 1000000 := by omega
    by_cases hbrk : pre.length = m
    · have hmi : (m : Int) ≤ (pre.length : Int) := by omega
      gi_wp2
      exact ⟨KeepsFrom.refl _ _, ⟨pre, x, rfl, hbrk, rfl, ⟨_, hv, hrow, trivial⟩⟩, hB⟩
    · have hmi : ¬ ((m : Int) ≤ (pre.length : Int)) := by omega
      gi_wp2_with (gi_at_builtin; refine wpListIn_append_own _ rfl _ _ 35 rfl w.heap.size 42 i0 (.agg #[.int .i64 0, .int .i64 0]) 2 16 Try.underlying35 hi hz0 hz1 hz2 rfl (by decide) _ _ _ rfl (hrow.alloc _) ⟨W.heap.size, 0, none⟩ 1 1 (pcC x) rfl rfl (cells_at_new _ _ _) (by simp [pcC, Value.oneCell']) (by simp only [maxLen]; omega) (by omega) (by have := hB.size; simp; omega) ?_; intro v' w1 hown' hgrow _; obtain ⟨g', cap', rfl⟩ := ownsRow_succ hown'; obtain ⟨hv1, hv2, hr2, hk2, hb2⟩ := hv.appended (by decide) hrow hB.size (Nat.le_succ _) hown' hgrow; have hc1 := hv1.cell; have hf1 := hv1.frozen)
      refine ⟨hk2.from _, hb2, ⟨_, hv2, ?_, trivial⟩, boxed_kept hbm hv hrow hgrow, ?_, hB.trans hb2⟩
      · rw [List.flatMap_append, List.length_append]
        simpa using hr2
      · simp; omega
  case done =>
    rintro D ys W hD rfl ⟨⟨v, hv, hrow, _⟩, hbm, hpm, hB⟩ hK
    have hc := hv.cell
    rw [pcs_length] at hpm
    gi_wp2
    refine ⟨by simp, .inl ⟨_, _, rfl, run_takeDeferred hK, ?_⟩⟩
    rw [Nat.min_eq_right hpm]
    have hr := ownsRow_putObj hrow (.deferred none) hK rfl
    rw [pcs_length] at hr
    obtain ⟨A, c, rfl⟩ := own_value hr
    exact ⟨_, results_tmp rfl _ _ _, A, c, rfl, hr, gb_below (hB.trans (belowK_b (w := w) (Nat.le_refl _) W D _ _ (by simp at hD; omega) hK rfl rfl))⟩
  case stop =>
    rintro D c pre W hD ⟨j, hj, rfl⟩ ⟨⟨init, last, e1, e2, rfl, v, hv, hrow, _⟩, hB⟩ hK
    have hc := hv.cell
    obtain ⟨j', rfl⟩ : ∃ j', j = j' + 1 := by
      cases j with
      | zero => simp [pcs] at e1
      | succ j' => exact ⟨j', rfl⟩
    rw [pcs_succ] at e1
    obtain ⟨rfl, _⟩ := List.append_inj' e1 rfl
    rw [pcs_length] at e2
    subst e2
    gi_wp2
    refine ⟨by simp, .inl ⟨_, _, rfl, run_takeDeferred hK, ?_⟩⟩
    rw [Nat.min_eq_left (by omega)]
    have hr := ownsRow_putObj hrow (.deferred none) hK rfl
    rw [pcs_length] at hr
    obtain ⟨A, c, rfl⟩ := own_value hr
    exact ⟨_, results_tmp rfl _ _ _, A, c, rfl, hr, gb_below (hB.trans (belowK_b (w := w) (Nat.le_refl _) W D _ _ (by simp at hD; omega) hK rfl rfl))⟩
end Go.Proofs.Ytephnmmbmacbfaa
