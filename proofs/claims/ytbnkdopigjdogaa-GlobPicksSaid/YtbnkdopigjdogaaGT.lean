/- Values of many cells in blocks of their own: made, stored, loaded, appended, without looking at the cells. -/
import Derived.Test.YtbnkdopigjdogaaChecked
import Derived.Test.YtbnkdopigjdogaaOwnN
import Derived.Test.YtbnkdopigjdogaaXTail
import Derived.Test.YtbnkdopigjdogaaOpen
import Derived.Deep.MidRow
import Derived.WalkSmall
import Derived.Laws.BytesArg
import Derived.Lib.SlBytesConst
namespace Go.Proofs.Ytbnkdopigjdogaa
set_option linter.unusedVariables false
set_option linter.unusedSimpArgs false
open Go.RowKit Go.Own

section
variable {P : Program} {ops : Array Oper} {rest : List Oper} {o : Oper} {a : Act} {w : World} {Q : Exit → Act → World → Prop}

/-- An operation that is wanted, by the equation of its run. -/
theorem wpList_run {v : Value} {w' : World} (hw : Region.wanted o (yielded ops a.tmps) = true) (hr : (execOp a.eval o).run P w = .ok (.value v) w') (h : wpList P ops Q rest (a.put o.dst v) w') : wpList P ops Q (o :: rest) a w := by
  unfold wpList
  rw [if_pos hw]
  left
  unfold Oper.wp
  rw [hr]
  exact h

theorem wpList_run_skip {w' : World} (hw : Region.wanted o (yielded ops a.tmps) = true) (hr : (execOp a.eval o).run P w = .ok .skip w') (h : wpList P ops Q rest (a.put o.dst undef) w') : wpList P ops Q (o :: rest) a w := by
  unfold wpList
  rw [if_pos hw]
  left
  unfold Oper.wp
  rw [hr]
  exact h

/-- A whole block, read. -/
theorem wpList_load_blk (hw : Region.wanted o (yielded ops a.tmps) = true) (ty : TypeId) (x : Operand) (ho : o.op = .load ty x) (g : Nat) (hx : a.eval x = .pointer (some ⟨g, 0, none⟩)) {cs : Array Value} {t : TypeId} (hB : Blk w g cs t) {d : TypeDesc}
    (hu : P.underlying ty = some d) (hd : d.isRow = true) (hi : (P.info? ty).map (·.size) = some cs.size)
    (h : wpList P ops Q rest (a.put o.dst (.agg cs)) w) : wpList P ops Q (o :: rest) a w := by
  refine wpList_run hw ?_ h
  have := run_loadAt_mid (P := P) w g 0 ty cs.toList d (fun j v hv => by rw [Nat.zero_add]; exact hB.cell j (by simpa using hv)) hu hd (by simpa using hi)
  simp only [execOp, ho, hx, Sem.run_bind, Sem.run_pure, this, Result.andThen_ok]

/-- A whole block, written. -/
theorem wpList_store_blk (hw : Region.wanted o (yielded ops a.tmps) = true) (ty : TypeId) (x y : Operand) (ho : o.op = .store ty x y) (g : Nat) (hx : a.eval x = .pointer (some ⟨g, 0, none⟩)) {old cs : Array Value} {t : TypeId} (hy : a.eval y = .agg cs) (hB : Blk w g old t)
    (hi : (P.info? ty).map (·.size) = some cs.size) (hs : old.size = cs.size) (h1 : ∀ u ∈ cs.toList, u.oneCell' = true)
    (h : ∀ w', Blk w' g cs t → w.grownBy w' (some g) → wpList P ops Q rest (a.put o.dst undef) w') : wpList P ops Q (o :: rest) a w := by
  have h2 : cs.all (·.oneCell') = true := Array.all_eq_true_iff_forall_mem.2 (fun v hv => h1 v (by simpa using hv))
  have hr := run_storeVar_row (P := P) w g t ty old cs hB hi hs h2
  refine wpList_run_skip hw ?_ (h (w.setRow g cs) ?_ ?_)
  · simp only [execOp, ho, hx, hy, Instr.storeAt, Instr.sureAddr, Sem.run_bind, Sem.run_pure, Result.andThen_ok, hr]
  · unfold Blk at hB ⊢
    simp [World.setRow, Array.getElem?_modify, hB]
  · exact ⟨rfl, rfl, rfl, by simp [World.setRow], fun k _ hk => by
      have : g ≠ k := fun e => hk (by rw [e])
      simp [World.setRow, Array.getElem?_modify, this]⟩

/-- A new block of zeros. -/
theorem wpList_alloc_blk (hw : Region.wanted o (yielded ops a.tmps) = true) (ty : TypeId) (ho : o.op = .alloc ty) {cs : Array Value} (hz : ∀ w, (zeroValue ty).run P w = .ok (.agg cs) w)
    (h : wpList P ops Q rest (a.put o.dst (.pointer (some ⟨w.heap.size, 0, none⟩))) (w.alloc (.cells cs ty))) : wpList P ops Q (o :: rest) a w := by
  refine wpList_run hw ?_ h
  simp [execOp, ho, Instr.alloc, Sem.run_bind, hz, newVar, newRow, Value.cells]

/-- A struct built. -/
theorem wpList_build_blk (hw : Region.wanted o (yielded ops a.tmps) = true) (ty : TypeId) (ps : List (Nat × Operand)) (ho : o.op = .build ty ps.toArray) {cs : Array Value} (hb : ∀ w, (Instr.build ty (ps.map fun x => (x.1, a.eval x.2)).toArray).run P w = .ok (.agg cs) w)
    (h : wpList P ops Q rest (a.put o.dst (.agg cs)) w) : wpList P ops Q (o :: rest) a w := by
  refine wpList_run hw ?_ h
  have e : (ps.toArray.map fun (x : Nat × Operand) => match x with | (i, x) => (i, a.eval x)) = (ps.map fun x => (x.1, a.eval x.2)).toArray := by
    rw [List.map_toArray]
  simp only [execOp, ho, Sem.run_bind, Sem.run_pure]
  rw [e, hb]
  rfl

/-- One element laid in a block of its own. -/
theorem wpList_buildSlice_blk (hw : Region.wanted o (yielded ops a.tmps) = true) (ty : TypeId) (n : Nat) (ps : List (Nat × Operand)) (ho : o.op = .buildSlice ty n ps.toArray) {v : Value} {w' : World} (hb : (Instr.buildSlice ty n (ps.map fun x => (x.1, a.eval x.2)).toArray).run P w = .ok v w')
    (h : wpList P ops Q rest (a.put o.dst v) w') : wpList P ops Q (o :: rest) a w := by
  refine wpList_run hw ?_ h
  have e : (ps.toArray.map fun (x : Nat × Operand) => match x with | (i, x) => (i, a.eval x)) = (ps.map fun x => (x.1, a.eval x.2)).toArray := by
    rw [List.map_toArray]
  simp only [execOp, ho, Sem.run_bind, Sem.run_pure]
  rw [e, hb]
  rfl

theorem fill_all (n : Nat) (cs zs : List Value) (hl : cs.length = zs.length) : (cs.zipIdx.foldl (fun (r : Array Value) (x : Value × Nat) => r.setIfInBounds x.2 x.1) zs.toArray) = cs.toArray := by
  have key : ∀ (k : Nat) (cs : List Value) (r : Array Value), k + cs.length = r.size → (∀ j, j < k → True) → (cs.zipIdx k).foldl (fun (r : Array Value) (x : Value × Nat) => r.setIfInBounds x.2 x.1) r = (r.toList.take k ++ cs).toArray := by
    intro k cs
    induction cs generalizing k with
    | nil =>
      intro r hk _
      simp only [List.zipIdx_nil, List.foldl_nil, List.append_nil]
      rw [List.take_of_length_le (by simp at hk ⊢; omega)]
    | cons c cs ih =>
      intro r hk _
      rw [List.zipIdx_cons, List.foldl_cons, ih (k + 1) (r.setIfInBounds k c) (by simp at hk ⊢; omega) (fun _ _ => trivial)]
      congr 1
      have hlt : k < r.size := by simp at hk; omega
      apply List.ext_getElem?
      intro j
      simp only [Array.toList_setIfInBounds]
      by_cases hj : j < k
      · rw [List.getElem?_append_left (by simp; omega), List.getElem?_append_left (by simp; omega), List.getElem?_take_of_lt (by omega), List.getElem?_take_of_lt hj, List.getElem?_set_ne (by omega)]
      · by_cases hjk : j = k
        · subst hjk
          rw [List.getElem?_append_left (by simp; omega), List.getElem?_take_of_lt (by omega), List.getElem?_set_self (by simpa using hlt), List.getElem?_append_right (by rw [List.length_take, Array.length_toList]; exact Nat.min_le_left _ _)]
          simp [Nat.min_eq_left (Nat.le_of_lt hlt)]
        · rw [List.getElem?_append_right (by simp; omega), List.getElem?_append_right (by simp; omega)]
          simp only [List.length_take, List.length_set, Array.length_toList]
          rw [Nat.min_eq_left (by omega), Nat.min_eq_left (by omega)]
          obtain ⟨q, rfl⟩ : ∃ q, j = k + 1 + q := ⟨j - (k + 1), by omega⟩
          rw [show k + 1 + q - (k + 1) = q by omega, show k + 1 + q - k = q + 1 by omega]
          rfl
  have := key 0 cs zs.toArray (by simpa using hl) (fun _ _ => trivial)
  simpa using this
end
end Go.Proofs.Ytbnkdopigjdogaa
