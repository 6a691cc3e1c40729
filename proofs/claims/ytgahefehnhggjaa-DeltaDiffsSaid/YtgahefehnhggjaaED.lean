/- Package delta's Diff: what stands between two steps. -/
import Derived.Test.YtgahefehnhggjaaEC
namespace Go.Proofs.Ytgahefehnhggjaa
set_option linter.unusedVariables false
set_option linter.unusedSimpArgs false
open Go.RowKit Go.Own Go.Delta Go.ChangeShapes

theorem Blk_ne_type {w : World} {g g' : Nat} {cs cs' : Array Value} {t t' : TypeId} (h : Blk w g cs t) (h' : Blk w g' cs' t') (hne : t ≠ t') : g ≠ g' := by
  intro e
  subst e
  unfold Blk at h h'
  rw [h] at h'
  injection h' with h'
  injection h' with _ h'
  exact hne h'

theorem own_ne_blk {w : World} {base e size n c g : Nat} {A : Option Addr} {xs : List Value} {cs : Array Value} {t : TypeId} (h : Own w base e size A c n xs) (hB : Blk w g cs t) (hne : e ≠ t) : blk A ≠ some g := by
  rcases h.2 with ⟨hv, _⟩ | ⟨g', cap, cur, hv, _, hh, _⟩
  · have e : A = none := by injection hv
    rw [e]; simp [blk]
  · have e : A = some ⟨g', 0, none⟩ := by injection hv
    rw [e]
    intro he
    have : g' = g := by simpa [blk] using he
    exact Blk_ne_type (w := w) (g := g') (g' := g) hh hB hne this

theorem own_ne_own {w : World} {b e s n c b' e' s' n' c' : Nat} {A A' : Option Addr} {xs xs' : List Value} (h : Own w b e s A c n xs) (h' : Own w b' e' s' A' c' n' xs') (hne : e ≠ e') {k : Nat} (hk : blk A = some k) : blk A' ≠ some k := by
  rcases h.2 with ⟨hv, _⟩ | ⟨g', cap, cur, hv, _, hh, _⟩
  · have e : A = none := by injection hv
    rw [e] at hk; simp [blk] at hk
  · have e : A = some ⟨g', 0, none⟩ := by injection hv
    rw [e] at hk
    have e2 : g' = k := by simpa [blk] using hk
    subst e2
    exact own_ne_blk h' (cs := cur) (t := _) (g := g') hh (Ne.symm hne)

/-- A row stays where a row of another type grows. -/
theorem own_aside {w w' : World} {b e s n c b' e' s' n' c' : Nat} {A A' : Option Addr} {xs xs' : List Value} (h : Own w b e s A c n xs) (h' : Own w b' e' s' A' c' n' xs') (hne : e ≠ e') (hg : w.grownBy w' (blk A')) : Own w' b e s A c n xs := by
  refine Own.grown h hg ?_
  cases hA : blk A with
  | none => exact .inl rfl
  | some k => exact .inr (fun e2 => own_ne_own h h' hne hA e2.symm)

theorem Blk_aside {w w' : World} {g t : Nat} {cs : Array Value} {b' e' s' n' c' : Nat} {A' : Option Addr} {xs' : List Value} (h : Blk w g cs t) (h' : Own w b' e' s' A' c' n' xs') (hne : e' ≠ t) (hg : w.grownBy w' (blk A')) : Blk w' g cs t :=
  h.grown hg (fun e => own_ne_blk h' h hne e.symm)

/-- The parts' bytes are rows of the call's own, and none of them is the one at A. -/
def PtA (w : World) (base : Nat) (l : List Pt) (A : Option Addr) : Prop := ∀ p ∈ l, Own w base 5 1 p.A p.c p.f.length (p.f.map bv) ∧ (∀ v ∈ p.f, v < 256) ∧ ∀ k, blk p.A = some k → blk A ≠ some k

theorem PtA.nil (w : World) (base : Nat) (A : Option Addr) : PtA w base [] A := fun p hp => by simp at hp

theorem PtA.grown0 {w w' : World} {base : Nat} {l : List Pt} {A : Option Addr} (h : PtA w base l A) (hg : w.grownBy w' none) : PtA w' base l A :=
  fun p hp => ⟨(h p hp).1.grown0 hg, (h p hp).2⟩

/-- The row at A grows. -/
theorem PtA.row {w w' : World} {base : Nat} {l : List Pt} {A A' : Option Addr} (h : PtA w base l A) (hg : w.grownBy w' (blk A)) (hA : blk A' = blk A ∨ ∀ k, blk A' = some k → w.heap.size ≤ k) : PtA w' base l A' := by
  intro p hp
  obtain ⟨h1, h2, h3⟩ := h p hp
  refine ⟨Own.grown h1 hg ?_, h2, fun k hk => ?_⟩
  · cases hb : blk p.A with
    | none => exact .inl rfl
    | some k => exact .inr (fun e => h3 k hb e.symm)
  · rcases hA with e | e
    · rw [e]; exact h3 k hk
    · intro e2
      have := e k e2
      have := (h1.lt k hk).2
      omega

/-- The row of the parts themselves grows. -/
theorem PtA.out {w w' : World} {base b' s' n' c' : Nat} {l : List Pt} {A A' : Option Addr} {xs' : List Value} (h : PtA w base l A) (h' : Own w b' 37 s' A' c' n' xs') (hg : w.grownBy w' (blk A')) : PtA w' base l A :=
  fun p hp => ⟨own_aside (h p hp).1 h' (by decide) hg, (h p hp).2⟩

theorem PtA.other {w : World} {base g i t : Nat} {v : Value} {cs : Array Value} {l : List Pt} {A : Option Addr} (h : PtA w base l A) (hB : Blk w g cs t) (ht : 5 ≠ t) : PtA (w.setCell ⟨g, i, none⟩ v) base l A :=
  fun p hp => ⟨(h p hp).1.other (own_ne_blk (h p hp).1 hB ht) v, (h p hp).2⟩

/-- The run becomes a part. -/
theorem PtA.shut {w : World} {base : Nat} {out : List Pt} {A : Option Addr} {c : Nat} {run : List Nat} (h : PtA w base out A) (hO : Own w base 5 1 A c run.length (run.map bv)) (hv : ∀ v ∈ run, v < 256) : PtA w base (shutP out run A c) none := by
  intro p hp
  unfold shutP at hp
  split at hp
  · exact ⟨(h p hp).1, (h p hp).2.1, fun k hk => by simp [blk]⟩
  · rcases List.mem_append.1 hp with hp | hp
    · exact ⟨(h p hp).1, (h p hp).2.1, fun k hk => by simp [blk]⟩
    · simp at hp
      subst hp
      exact ⟨hO, hv, fun k hk => by simp [blk]⟩

theorem PtA.snoc {w : World} {base : Nat} {out : List Pt} {A : Option Addr} {b : Int} (h : PtA w base out A) : PtA w base (out ++ [⟨b, [], none, 0⟩]) A := by
  intro p hp
  rcases List.mem_append.1 hp with hp | hp
  · exact h p hp
  · simp at hp
    subst hp
    exact ⟨Own.nil _ _ _ _, fun v hv => by simp at hv, fun k hk => by simp [blk] at hk⟩

theorem PtA.ok {w : World} {base : Nat} {l : List Pt} {A : Option Addr} (h : PtA w base l A) : PtOk w w.heap.size l := fun p hp => ⟨(h p hp).1.rd, (h p hp).2.1⟩

theorem shutP_len (out : List Pt) (run : List Nat) (A : Option Addr) (c : Nat) : (shutP out run A c).length ≤ out.length + 1 := by
  unfold shutP
  split <;> simp

/-- The numbers of the blocks with a sum. -/
def grpN (old : List Nat) (size n : Nat) (κ : Int) : List Nat := (List.range n).filter fun i => keyI (wk (blkOf old size i)) == κ

theorem grp_N (old : List Nat) (size n : Nat) (κ : Int) : grp old size n κ = (grpN old size n κ).map Int.ofNat := rfl

theorem grpN_len (old : List Nat) (size n : Nat) (κ : Int) : (grpN old size n κ).length ≤ n := by
  have := List.length_filter_le (fun i => keyI (wk (blkOf old size i)) == κ) (List.range n)
  simpa [grpN] using this

theorem grpN_mem {old : List Nat} {size n : Nat} {κ : Int} : ∀ i ∈ grpN old size n κ, i < n := by
  intro i hi
  simp [grpN] at hi
  exact hi.1

theorem grpN_find (old here : List Nat) : firstIn old here (grpN old here.length (nbl old here.length) (keyI (wk here))) = find old here :=
  firstIn_filter old here (fun l => keyI (wk l)) _

theorem row_rd {w : World} {base : Nat} {v : Value} {zs : List Int} {zn : List Nat} (ho : w.ownsInts base 3 .i64 v zs) (hz : zs = zn.map Int.ofNat) :
    ∃ A c, v = .slice A zn.length c ∧ Rd w w.heap.size 1 A zn.length (zn.map fun i => .int .i64 ((i : Nat) : Int)) := by
  subst hz
  obtain ⟨A, c, e⟩ := own_value ho.1
  rw [List.length_map] at e
  refine ⟨A, c, e, ?_⟩
  have h : Own w base 3 1 A c zn.length (zn.map fun i => .int .i64 ((i : Nat) : Int)) := by
    have h1 := ho.1
    rw [e, List.length_map, List.map_map] at h1
    exact h1
  exact h.rd

/-- Three numbers in a block. -/
theorem Blk_three {w : World} {g : Nat} {a b c v0 v1 v2 : Value} {t : TypeId} (h : Blk w g #[a, b, c] t) : Blk (((w.setCell ⟨g, 0, none⟩ v0).setCell ⟨g, 1, none⟩ v1).setCell ⟨g, 2, none⟩ v2) g #[v0, v1, v2] t :=
  ((h.set 0 v0).set 1 v1).set 2 v2

/-- What Diff answers: parts of the call's own, and no error. -/
def DiffGives (w : World) (res : List Prt) (e : Ending) (w' : World) : Prop := ∃ (A : Option Addr) (c : Nat) (l : List Pt), e = .returned (.tuple #[.slice A l.length c, .int .i64 0]) ∧ l.map prt = res ∧ Own w' w.heap.size 37 2 A c l.length (l.flatMap ptC) ∧ PtOk w' w'.heap.size l ∧ w.grownBy w' none

theorem shut_fin {w w1 wr w3 : World} {out : List Pt} {run : List Nat} {Ao Ar A3 : Option Addr} {co cr c3 : Nat} {target : List Prt} (hg1 : w.grownBy w1 none) (hg : w1.grownBy wr none) (hOo : Own wr w1.heap.size 37 2 Ao co out.length (out.flatMap ptC)) (hOr : Own wr w1.heap.size 5 1 Ar cr run.length (run.map bv))
    (hPt : PtA wr w1.heap.size out Ar) (hrv : ∀ v ∈ run, v < 256) (hO3 : Own w3 w1.heap.size 37 2 A3 c3 (shutP out run Ar cr).length ((shutP out run Ar cr).flatMap ptC)) (hg3 : wr.grownBy w3 (blk Ao)) (ht : target = shutS (out.map prt) run) :
    DiffGives w target (.returned (.tuple #[.slice A3 (shutP out run Ar cr).length c3, .int .i64 0])) w3 :=
  ⟨A3, c3, shutP out run Ar cr, rfl, (shutP_prt _ _ _ _).trans ht.symm, hO3.mono hg1.size, ((hPt.out hOo hg3).shut (own_aside hOr hOo (by decide) hg3) hrv).ok, gb_trans hg1 (gb_own hg hg3 (fun g h => (hOo.lt g h).1))⟩

theorem drop_cons_nat (l : List Nat) (p : Nat) (h : p < l.length) : l.drop p = l.getD p 0 :: l.drop (p + 1) := by
  rw [List.drop_eq_getElem_cons h]
  simp [h]

theorem roll_step (fresh : List Nat) (p size : Nat) (hs : 1 ≤ size) (h : p + size < fresh.length) (hv : ∀ v ∈ fresh, v < 256) :
    roll (wk ((fresh.drop p).take size)) size (fresh.getD p 0) (fresh.getD (p + size) 0) = wk ((fresh.drop (p + 1)).take size) := by
  obtain ⟨k, rfl⟩ : ∃ k, size = k + 1 := ⟨size - 1, by omega⟩
  rw [drop_cons_nat fresh p (by omega), List.take_succ_cons]
  have hx : fresh.getD p 0 < 256 := byte_lt hv (by omega)
  have hl : ((fresh.drop (p + 1)).take k).length = k := by simp; omega
  have h1 := wk_roll (fresh.getD p 0) ((fresh.drop (p + 1)).take k) (fresh.getD (p + (k + 1)) 0) hx
  rw [hl] at h1
  rw [h1]
  congr 1
  have h2 := take_snoc_nat (fresh.drop (p + 1)) k (by simp; omega)
  rw [h2]
  congr 2
  rw [List.getD_eq_getElem?_getD, List.getD_eq_getElem?_getD, List.getElem?_drop]
  congr 2
  omega
end Go.Proofs.Ytgahefehnhggjaa
