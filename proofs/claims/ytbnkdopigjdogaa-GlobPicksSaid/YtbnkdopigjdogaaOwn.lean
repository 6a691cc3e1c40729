/- Slices: one that the call itself has made (Own), and one that is only read (Rd). -/
import Derived.Test.YtbnkdopigjdogaaBase
import Derived.Maps.AppendAt
import Derived.Deep.AppendLies
import Derived.OwnWalk
import Derived.Deep.Slices
import Derived.Deep.Fields
import Derived.ChangeSame
namespace Go.Own
set_option linter.unusedVariables false
set_option linter.unusedSimpArgs false
open Go Go.RowKit

/-- The slice A, of n elements of 'size' cells each, reads as xs, and lies below block B. -/
def Rd (w : World) (B size : Nat) (A : Option Addr) (n : Nat) (xs : List Value) : Prop :=
  xs.length = n * size ∧ (0 < n → ∃ g off, A = some ⟨g, off, none⟩ ∧ g < B ∧ ∀ j u, xs[j]? = some u → w.cell? ⟨g, off + j, none⟩ = some u)

/-- The slice A, of n elements, is the call's own, and reads as xs. -/
def Own (w : World) (base e size : Nat) (A : Option Addr) (c n : Nat) (xs : List Value) : Prop := w.ownsRow base e size (.slice A n c) n xs

/-- The block of an address. -/
def blk (A : Option Addr) : Option Nat := A.map (·.block)

theorem ownBlock_eq (A : Option Addr) (n c : Nat) : (Value.slice A n c).ownBlock = blk A := by cases A <;> rfl

section
variable {w w' : World} {base e size n c : Nat} {A : Option Addr} {xs : List Value}

theorem Own.nil (w : World) (base e size : Nat) : Own w base e size none 0 0 [] := World.ownsRow_nil _ _ _ _

theorem Own.len (h : Own w base e size A c n xs) : xs.length = n * size := h.1

theorem Own.form (h : Own w base e size A c n xs) (hn : 0 < n) : ∃ g, A = some ⟨g, 0, none⟩ ∧ base ≤ g ∧ g < w.heap.size := by
  obtain ⟨g, cap, hv, h1, h2⟩ := World.ownsRow.form h hn
  injection hv with hA
  exact ⟨g, hA, h1, h2⟩

theorem Own.lt (h : Own w base e size A c n xs) : ∀ k, blk A = some k → base ≤ k ∧ k < w.heap.size := by
  intro k hk
  exact World.ownsRow.lt h k (by rw [ownBlock_eq]; exact hk)

theorem Own.cell (h : Own w base e size A c n xs) {g : Nat} (hA : A = some ⟨g, 0, none⟩) {j : Nat} (hj : j < n * size) {u : Value} (hu : xs[j]? = some u) : w.cell? ⟨g, j, none⟩ = some u := by
  subst hA
  rw [World.ownsRow.cellAt h j hj, hu]

theorem Own.free (h : Own w base e size A c n xs) {g : Nat} (hA : A = some ⟨g, 0, none⟩) (j : Nat) : w.frozen? ⟨g, j, none⟩ = false := by
  subst hA
  exact World.ownsRow.frozenAt h j

theorem Own.rd (h : Own w base e size A c n xs) : Rd w w.heap.size size A n xs := by
  refine ⟨h.1, fun hn => ?_⟩
  obtain ⟨g, hA, _, hlt⟩ := h.form hn
  refine ⟨g, 0, hA, hlt, fun j u hu => ?_⟩
  have hj : j < n * size := by
    have := (List.getElem?_eq_some_iff.1 hu).1
    rw [h.1] at this
    exact this
  simpa using h.cell hA hj hu

theorem Own.grown {row : Option Nat} (h : Own w base e size A c n xs) (hg : w.grownBy w' row) (hne : blk A = none ∨ blk A ≠ row) : Own w' base e size A c n xs :=
  World.ownsRow.kept h hg (by rw [ownBlock_eq]; exact hne)

theorem Own.grown0 (h : Own w base e size A c n xs) (hg : w.grownBy w' none) : Own w' base e size A c n xs :=
  h.grown hg (by cases A <;> simp [blk])

theorem Own.alloc (h : Own w base e size A c n xs) (o : Obj) : Own (w.alloc o) base e size A c n xs := World.ownsRow.alloc h o
theorem Own.drew (h : Own w base e size A c n xs) : Own w.drew base e size A c n xs := h
theorem Own.drewN (h : Own w base e size A c n xs) (k : Nat) : Own (w.drewN k) base e size A c n xs := h

theorem Own.other (h : Own w base e size A c n xs) {p : Addr} (hne : blk A ≠ some p.block) (v : Value) : Own (w.setCell p v) base e size A c n xs :=
  ownsRow_setCell_other h (by rw [ownBlock_eq]; exact hne) v

theorem Own.mono (h : Own w base e size A c n xs) {base' : Nat} (hb : base' ≤ base) : Own w base' e size A c n xs := by
  obtain ⟨h1, h2⟩ := h
  refine ⟨h1, ?_⟩
  rcases h2 with h2 | ⟨g, cap, cur, hv, hg, r⟩
  · exact .inl h2
  · exact .inr ⟨g, cap, cur, hv, Nat.le_trans hb hg, r⟩

/-- A row that is all of a new block. -/
theorem Own.of_blk {cs : Array Value} {g : Nat} (h : Blk w g cs e) (hb : base ≤ g) (hc : c ≤ maxLen) (hn : n ≤ c) (hs : cs.size = c * size) : Own w base e size (some ⟨g, 0, none⟩) c n (cs.toList.take (n * size)) := by
  refine ⟨?_, .inr ⟨g, c, cs, rfl, hb, h, hn, hc, hs, rfl⟩⟩
  rw [List.length_take, Array.length_toList, hs]
  exact Nat.min_eq_left (Nat.mul_le_mul_right _ hn)

/-- One element's cell written. -/
theorem Own.set {g : Nat} (h : Own w base e size (some ⟨g, 0, none⟩) c n xs) (j : Nat) (u : Value) : Own (w.setCell ⟨g, j, none⟩ u) base e size (some ⟨g, 0, none⟩) c n (xs.set j u) := by
  exact (World.ownsRow.stored h j u).1

variable {B : Nat}
theorem Rd.len (h : Rd w B size A n xs) : xs.length = n * size := h.1
theorem Rd.form (h : Rd w B size A n xs) (hn : 0 < n) : ∃ g off, A = some ⟨g, off, none⟩ ∧ g < B ∧ ∀ j u, xs[j]? = some u → w.cell? ⟨g, off + j, none⟩ = some u := h.2 hn
theorem Rd.keep (h : Rd w B size A n xs) (hk : ∀ p : Addr, p.block < B → w'.cell? p = w.cell? p) : Rd w' B size A n xs :=
  ⟨h.1, fun hn => by
    obtain ⟨g, off, hA, hlt, hc⟩ := h.2 hn
    exact ⟨g, off, hA, hlt, fun j u hu => (hk _ hlt).trans (hc j u hu)⟩⟩
theorem Rd.below (h : Rd w B size A n xs) (hb : Below B w w') : Rd w' B size A n xs := h.keep fun _ hp => hb.cell hp
theorem Rd.mono {B' : Nat} (h : Rd w B size A n xs) (hB : B ≤ B') : Rd w B' size A n xs :=
  ⟨h.1, fun hn => by
    obtain ⟨g, off, hA, hlt, hc⟩ := h.2 hn
    exact ⟨g, off, hA, by omega, hc⟩⟩
theorem Rd.nil (w : World) (B size : Nat) (A : Option Addr) : Rd w B size A 0 [] := ⟨by simp, fun h => absurd h (by omega)⟩
end

/-- append of one element (of 'size' cells) to a slice of the call's own. -/
theorem wpList_app {P : Program} (w : World) {ops : Array Oper} {rest : List Oper} {o : Oper} {a : Act} {Q : Exit → Act → World → Prop} (hgd : o.guard = none) (s x : Operand) (t : TypeId)
    (ho : o.op = .call { callee := .builtin .append, args := #[s, x], argTypes := #[t, t] })
    (base e : Nat) {i : TypeInfo} {z : Value} {size bytes : Nat} (ht : P.underlying t = some (.slice e)) (hi : P.info? e = some i) (hz : i.zero = some z)
    (hsize : i.size = size) (hby : i.bytes = bytes) (hzs : z.cells.size = size) (hsz : 0 < size)
    (A : Option Addr) (c n : Nat) (xs : List Value) (hs : a.eval s = .slice A n c) (hown : Own w base e size A c n xs)
    (b m c' : Nat) (news : List Value) (hx : a.eval x = .slice (some ⟨b, 0, none⟩) m c') (hl : news.length = m * size) (hm : 0 < m) (hnews : ∀ j u, news[j]? = some u → w.cell? ⟨b, j, none⟩ = some u) (h1 : ∀ u ∈ news, u.oneCell' = true)
    (h63 : n + m ≤ maxLen) (hbytes : (n + m) * bytes ≤ 140737488355328) (hbase : base ≤ w.heap.size)
    (h : ∀ g c'' w', Own w' base e size (some ⟨g, 0, none⟩) c'' (n + m) (xs ++ news) → w.grownBy w' (blk A) → (blk A = some g ∨ g = w.heap.size) → base ≤ g → g < w'.heap.size → wpList P ops Q rest (a.put o.dst (.slice (some ⟨g, 0, none⟩) (n + m) c'')) w') :
    wpList P ops Q (o :: rest) a w := by
  refine wpList_append_own_at w hgd s x t ho base e i z size bytes ht hi hz hsize hby hzs hsz (.slice A n c) n xs hs hown ⟨b, 0, none⟩ m c' news hx hl ?_ h1 h63 hbytes hbase ?_
  · intro j u hj
    have := hnews j u hj
    cases j with
    | zero => simpa [Addr.add] using this
    | succ j => simpa [Addr.add] using this
  · intro v' w' hown' hg _ hloc
    obtain ⟨g, cap, rfl, hb, hlt⟩ := World.ownsRow.form hown' (by omega)
    refine h g cap w' hown' (by rw [← ownBlock_eq A n c]; exact hg) ?_ hb hlt
    rcases hloc with hloc | hloc
    · left
      rw [ownBlock_eq, ownBlock_eq] at hloc
      exact hloc.symm
    · right
      rw [ownBlock_eq] at hloc
      simpa [blk] using hloc


theorem cells_new (w : World) (us : List Value) (t : TypeId) : ∀ (j : Nat) (u : Value), us[j]? = some u → (w.alloc (.cells us.toArray t)).cell? ⟨w.heap.size, j, none⟩ = some u := by
  intro j u hj
  have := (Blk.new w us.toArray t).cell j (v := u) (by simpa using hj)
  exact this

/-- append of one element that has just been laid in a block of its own. -/
theorem wpList_app1 {P : Program} (w : World) {ops : Array Oper} {rest : List Oper} {o : Oper} {a : Act} {Q : Exit → Act → World → Prop} (hgd : o.guard = none) (s x : Operand) (t : TypeId)
    (ho : o.op = .call { callee := .builtin .append, args := #[s, x], argTypes := #[t, t] })
    (base e : Nat) {i : TypeInfo} {z : Value} {size bytes : Nat} (ht : P.underlying t = some (.slice e)) (hi : P.info? e = some i) (hz : i.zero = some z)
    (hsize : i.size = size) (hby : i.bytes = bytes) (hzs : z.cells.size = size) (hsz : 0 < size)
    (A : Option Addr) (c n : Nat) (xs : List Value) (hs : a.eval s = .slice A n c) (hown : Own w base e size A c n xs)
    (us : List Value) (e2 c' : Nat) (hx : a.eval x = .slice (some ⟨w.heap.size, 0, none⟩) 1 c') (hl : us.length = size) (h1 : ∀ u ∈ us, u.oneCell' = true)
    (hbytes : (n + 1) * bytes ≤ 140737488355328) (hb1 : 1 ≤ bytes) (hbase : base ≤ w.heap.size)
    (h : ∀ g c'' w', Own w' base e size (some ⟨g, 0, none⟩) c'' (n + 1) (xs ++ us) → w.grownBy w' (blk A) → (blk A = some g ∨ w.heap.size ≤ g) → base ≤ g → g < w'.heap.size → wpList P ops Q rest (a.put o.dst (.slice (some ⟨g, 0, none⟩) (n + 1) c'')) w') :
    wpList P ops Q (o :: rest) a (w.alloc (.cells us.toArray e2)) := by
  have hn : n + 1 ≤ (n + 1) * bytes := Nat.le_mul_of_pos_right _ hb1
  refine wpList_app _ hgd s x t ho base e ht hi hz hsize hby hzs hsz A c n xs hs (hown.alloc _) w.heap.size 1 c' us hx (by omega) (by omega) (cells_new w us e2) h1
    (by simp only [maxLen]; omega) hbytes (by simp; omega) ?_
  intro g c'' w' ho' hg hloc hb hlt
  refine h g c'' w' ho' (gb_trans (gb_alloc (gb_refl _ _) _) hg) ?_ hb hlt
  rcases hloc with hloc | hloc
  · exact .inl hloc
  · right; simp at hloc; omega

section
open Go.ChangeShapes Go.WideShapes Go.Deep
variable {H : Type} {enc : TypeId × Value → H} {P : Program}

/-- The number in a cell. -/
def numOf : Option Value → Int
  | some (.int _ x) => x
  | _ => 0

/-- The argument is a slice of structs whose fields are whole numbers: element i's field j is the number F i j. -/
theorem open_structs {W : World} {r : Reach} {b0 : Nat} {t e : TypeId} {fs : Array Field} {ks : List IntKind} {v : Value} {d : DataW H} {ps : List MemPlace}
    (ht : P.underlying t = some (.slice e)) (he : P.underlying e = some (.struct fs)) (hone : oneCellFields P fs = true) (hC : P.cellsOf e = fs.size)
    (hks : ks.length = fs.size) (hz : 0 < ks.length) (hk : ∀ (j : Nat) (f : Field) (k : IntKind), fs[j]? = some f → ks[j]? = some k → P.underlying f.type = some (.int k))
    (hval : Value.okWide P W r b0 t v) (h : DataW.Trod enc P W 0 (fun _ => true) true t v d ps) :
    ∃ (A : Option Addr) (len cap : Nat) (F : Nat → Nat → Int), v = .slice A len cap ∧ len ≤ cap ∧ cap ≤ maxLen ∧
      (0 < len → ∃ g off, A = some ⟨g, off, none⟩ ∧ g < W.heap.size ∧ ∀ i, i < len → ∀ j k, ks[j]? = some k → W.cell? ⟨g, off + (i * fs.size + j), none⟩ = some (.int k (F i j)) ∧ (Lit.int k (F i j)).wf = true) := by
  obtain ⟨a0, len, cap, rfl⟩ := okWide_slice ht hval
  obtain ⟨fuel, hf⟩ := h
  rcases open_slice ht hf with h0 | ⟨a, len', cap', m, n, D, Pl, hcs, hb, hl, hm, hmm, hx, hi⟩
  · obtain ⟨hv, _⟩ := h0
    simp only [Value.cells, List.cons.injEq, and_true] at hv
    injection hv with h1 h2 h3
    subst h1; subst h2; subst h3
    exact ⟨none, 0, 0, fun _ _ => 0, rfl, Nat.le_refl _, by simp [maxLen], fun h => absurd h (by omega)⟩
  · simp only [Value.cells, List.cons.injEq, and_true] at hcs
    injection hcs with h1 h2 h3
    subst h1; subst h2; subst h3
    have hcell : ∀ i, i < len → ∀ j k, ks[j]? = some k → ∃ x : Int, W.cell? (a.add (i * fs.size + j)) = some (.int k x) ∧ (Lit.int k x).wf = true := by
      intro i hil j k hjk
      have him : i < m := by
        rw [hmm]
        simp only [if_true]
        omega
      obtain ⟨cs', hc, ht'⟩ := hi i him
      rw [hC] at hc
      obtain ⟨ys, n', hn', hy, hlen, hyl, hfld⟩ := DataW.trod_struct he ht'
      obtain ⟨_, hcl, hat⟩ := World.cells?_some hc
      have hjl : j < fs.size := by
        have := (List.getElem?_eq_some_iff.1 hjk).1
        omega
      have hj : fs[j]? = some fs[j] := by simp [hjl]
      obtain ⟨ho, hkk⟩ := hone_of hone j _ hj
      have hcellj := hat j hjl
      have hv : cs'[j]? = some (cs'[j]'(by omega)) := List.getElem?_eq_getElem (by omega)
      have h1 := hfld j _ hj
      rw [ho, hkk] at h1
      have hone' : (cs'.drop j).take 1 = [cs'[j]'(by omega)] := by
        rw [List.drop_eq_getElem_cons (by omega)]
        rfl
      rw [hone'] at h1
      have hys : ys[j]? = some (ys[j]'(by omega)) := List.getElem?_eq_getElem (by omega)
      rw [hys] at h1
      obtain ⟨x, ex, _, wx⟩ := DataW.trod_int (hk j _ k hj hjk) h1
      refine ⟨x, ?_, wx⟩
      rw [← Go.Deep.add_add, hcellj, hv]
      simp only [List.cons.injEq, and_true] at ex
      rw [ex]
    refine ⟨some a, len, cap, fun i j => numOf (W.cell? (a.add (i * fs.size + j))), rfl, hl, hm, fun hn => ?_⟩
    have hk0 : ks[0]? = some (ks[0]'hz) := List.getElem?_eq_getElem hz
    obtain ⟨x0, hx0, _⟩ := hcell 0 hn 0 _ hk0
    simp only [Nat.zero_mul, Nat.add_zero] at hx0
    have ha0 : a.add 0 = a := by simp [Addr.add]
    rw [ha0] at hx0
    have hlt := World.block_lt_of_cell? W a hx0
    obtain ⟨g, off, spot⟩ := a
    have hs : spot = none := by
      cases spot with
      | none => rfl
      | some s =>
        simp only [World.cell?] at hx0
        split at hx0
        · simp at hx0
        · cases hx0
    subst hs
    refine ⟨g, off, rfl, hlt, fun i hil j k hjk => ?_⟩
    obtain ⟨x, hxx, hwx⟩ := hcell i hil j k hjk
    have hadd : (⟨g, off, none⟩ : Addr).add (i * fs.size + j) = ⟨g, off + (i * fs.size + j), none⟩ := by
      unfold Addr.add
      split
      · rename_i h0; rw [h0]; rfl
      · rfl
    dsimp only
    rw [hxx]
    rw [hadd] at hxx
    exact ⟨hxx, hwx⟩
end
end Go.Own
