/- The walk of the law BitioPuts. -/
import Derived.Test.YtlohplopomfjhaaWG
import Derived.Test.YtlohplopomfjhaaOpen
namespace Go.Proofs.Ytlohplopomfjhaa
set_option linter.unusedVariables false
set_option linter.unusedSimpArgs false
open Go.RowKit Go.Own Go.Bits

/-- The acts: element i is of kind K i, of number X i, of so many bits N i. -/
def Acts (W : World) (A : Option Addr) (len : Nat) (K : Nat → Int) (X : Nat → Nat) (N : Nat → Int) : Prop :=
  len ≤ 9223372036854775807 ∧ (0 < len → ∃ g off, A = some ⟨g, off, none⟩ ∧ g < W.heap.size ∧ ∀ i, i < len →
    W.cell? ⟨g, off + i * 3, none⟩ = some (.int .i64 (K i)) ∧ W.cell? ⟨g, off + i * 3 + 1, none⟩ = some (.int .u64 (X i : Int)) ∧ W.cell? ⟨g, off + i * 3 + 2, none⟩ = some (.int .i64 (N i)) ∧ X i < 18446744073709551616)

theorem own_ne_own {w : World} {b e s n c b' e' s' n' c' : Nat} {A A' : Option Addr} {xs xs' : List Value} (h : Own w b e s A c n xs) (h' : Own w b' e' s' A' c' n' xs') (hne : e ≠ e') {k : Nat} (hk : blk A = some k) : blk A' ≠ some k := by
  rcases h.2 with ⟨hv, _⟩ | ⟨g', cap, cur, hv, _, hh, _⟩
  · have e : A = none := by injection hv
    rw [e] at hk; simp [blk] at hk
  · have e : A = some ⟨g', 0, none⟩ := by injection hv
    rw [e] at hk
    have e2 : g' = k := by simpa [blk] using hk
    subst e2
    exact own_ne_blk h' (cs := cur) (t := _) (g := g') hh (Ne.symm hne)

theorem Own.tch {S : Nat → Prop} {w w' : World} {b e s n c : Nat} {A : Option Addr} {xs : List Value} (h : Own w b e s A c n xs) (ht : Tch S w w') (hS : ∀ k, blk A = some k → ¬ S k) : Own w' b e s A c n xs := by
  obtain ⟨hx, h2⟩ := h
  refine ⟨hx, ?_⟩
  rcases h2 with h2 | ⟨g', cap, cur, hv, hg, hh, r⟩
  · exact .inl h2
  · refine .inr ⟨g', cap, cur, hv, hg, ?_, r⟩
    have e : A = some ⟨g', 0, none⟩ := by injection hv
    rw [ht.block g' (lt_of_block hh) (hS g' (by rw [e]; rfl))]
    exact hh

/-- What holds at the loop's head. -/
def PutsInv (w0 : World) (g : Nat) (A : Option Addr) (c : Nat) (Ar : Option Addr) (cr : Nat) (l : List Bool) (wr : World) : Prop :=
  Wr wr g A c l ∧ Own wr w0.heap.size 4 1 Ar cr l.length (l.map .bool) ∧ Below w0.heap.size w0 wr ∧ w0.heap.size ≤ g ∧ ∀ k, blk A = some k → w0.heap.size ≤ k

set_option maxHeartbeats 3200000 in
set_option maxRecDepth 100000 in
theorem law_puts (A0 : Option Addr) (len cap : Nat) (K : Nat → Int) (X : Nat → Nat) (N : Nat → Int) (w : World) (hA : Acts w A0 len K X N) :
    Calls Try.prog 3 #[.slice A0 len cap] w fun e w' => e = .returned (.bool true) ∧ w.grownBy w' none := by
  obtain ⟨it, hi, hz0, hz1, hz2⟩ := info_parts info4
  have hlen := hA.1
  have hnew := wr_new w
  go_enter Try.func3, Try.ntmps3
  go_wp2_with fail
  go_loopw [4, 5] (fun v4 v5 wi => ∃ (k : Nat) (l : List Bool) (A : Option Addr) (c : Nat) (Ar : Option Addr) (cr : Nat), v4 = .slice Ar l.length cr ∧ v5 = .int .i64 k ∧ k ≤ len ∧ k ≤ 40 ∧ l.length ≤ 127 * k ∧ PutsInv w w.heap.size A c Ar cr l wi)
    (fun _ v5 _ => len - (intOf v5).toNat)
  case atStart =>
    exact ⟨0, [], none, 0, none, 0, rfl, rfl, Nat.zero_le _, by omega, by simp, hnew, Own.nil _ _ _ _, (Below.refl _ _).alloc (Nat.le_refl _) _, Nat.le_refl _, by simp [blk]⟩
  case round =>
    obtain ⟨k, l, A, c, Ar, cr, rfl, rfl, hk, hk40, hl, hW, hO, hbel, hgw, hAw⟩ := hrel
    by_cases c1 : k < len
    · by_cases c2 : k < 40
      · obtain ⟨ga, off, rfl, hga, hc⟩ := hA.2 (by omega)
        obtain ⟨q0, q1, q2, hX⟩ := hc k c1
        have d0 := (hbel.cell (p := ⟨ga, off + k * 3, none⟩) hga).trans q0
        have d1 := (hbel.cell (p := ⟨ga, off + k * 3 + 1, none⟩) hga).trans q1
        have d2 := (hbel.cell (p := ⟨ga, off + k * 3 + 2, none⟩) hga).trans q2
        have hne : ∀ j, blk Ar = some j → ¬ WrS w.heap.size A j := by
          intro j hj hS
          rcases hS with e | e
          · exact own_ne_blk hO hW.1 (by decide) (by rw [hj, e])
          · exact own_ne_own hO hW.2 (by decide) hj e
        go_wp2_with fail
        refine (put_any _ A c l (K k) (X k) (N k) _ hW (by omega) hX).mono ?_
        rintro e w2 ⟨rfl, A2, c2, hW2, ht2, hn2⟩
        have hb2 := below_tch hbel hbel.size ht2 (fun j hj => by rcases hj with e | e; exact (by omega); exact hAw j e)
        have hO2 := Own.tch hO ht2 hne
        have hA2 : ∀ j, blk A2 = some j → w.heap.size ≤ j := by
          intro j hj
          rcases hn2 j hj with h | h
          · exact hAw j h
          · have := hbel.size; omega
        have hpl := putB_len (K k) (X k) (N k) hX
        have f0 := (hb2.cell (p := ⟨ga, off + k * 3, none⟩) hga).trans q0
        have f1 := (hb2.cell (p := ⟨ga, off + k * 3 + 1, none⟩) hga).trans q1
        have f2 := (hb2.cell (p := ⟨ga, off + k * 3 + 2, none⟩) hga).trans q2
        have hpu := puts_any (K k) (X k) (N k) w2 hX
        generalize putB (K k) (X k) (N k) = pb at *
        go_wp2_with fail
        refine hpu.mono ?_
        rintro e w3 ⟨A3, c3, rfl, hO3, hg3⟩
        have hW3 := hW2.later hg3
        have hO23 := hO2.grown0 hg3
        have hb3 := below_step0 hb2 hb2.size hg3
        have hby : (l.length + pb.length) * 1 ≤ 140737488355328 := by omega
        have h63 : l.length + pb.length ≤ maxLen := by simp only [maxLen]; omega
        have hone : ∀ u ∈ pb.map Value.bool, u.oneCell' = true := bools_one
        have hbs := hb3.size
        have hrd := hO3.rd
        clear f0 f1 f2 d0 d1 d2 hpu
        go_wp2_with (
          at_builtin
          refine wpList_appN w3 rfl (.tmp 25) (.tmp 30) 27 rfl w.heap.size 4 Try.underlying27 hi hz0 hz1 hz2 rfl (by decide) Ar cr l.length (l.map .bool) rfl hO23 w3.heap.size A3 pb.length c3 (pb.map .bool) rfl hrd hone h63 hby hbs ?_
          intro A4 c4 w4 hO4 hgr hloc)
        have hneA : ∀ j, WrS w.heap.size A2 j → ¬ (blk Ar = some j) := by
          intro j hS hj
          rcases hS with e | e
          · exact own_ne_blk hO23 hW3.1 (by decide) (by rw [hj, e])
          · exact own_ne_own hO23 hW3.2 (by decide) hj e
        have hW4 : Wr w4 w.heap.size A2 c2 (l ++ pb) := hW3.tch (tch_row hgr (fun j hj => hj)) hneA
        have hb4 := below_tch hb3 hb3.size (tch_row (S := fun j => blk Ar = some j) hgr (fun j hj => hj)) (fun j hj => (hO23.lt j hj).1)
        have el : l.length + pb.length = (l ++ pb).length := by simp
        rw [← List.map_append, el] at hO4
        have hl4 : (l ++ pb).length ≤ 127 * (k + 1) := by rw [← el]; omega
        rw [el]
        clear hgr hloc hW3 hO23 hb3 hO3 hrd hone h63 hby el hpl hO2 hW2 ht2 hn2 hb2 hO hW hbel hg3 hneA hne hAw
        generalize l ++ pb = l4 at *
        have hlen4 := len_any w.heap.size A2 c2 l4
        have hW4d : Wr w4.drew w.heap.size A2 c2 l4 := hW4
        have hO4d : Own w4.drew w.heap.size 4 1 A4 c4 l4.length (l4.map .bool) := hO4
        have hl4m : l4.length ≤ 1000000 := by omega
        have hinv : ∀ wz, w4.drew.grownBy wz none → PutsInv w w.heap.size A2 c2 A4 c4 l4 wz := fun wz hz => ⟨hW4d.later hz, hO4d.grown0 hz, below_step0 hb4 hb4.size (gb_trans (gb_drew (gb_refl w4 none)) hz), hgw, hA2⟩
        have HINV := Lib.hid hinv
        clear hinv
        go_wp2_with fail
        go_region_with (first
          | (go_at_call 12; refine (hlen4 _ hW4d).mono ?_; rintro e w5 ⟨rfl, rfl⟩)
          | (go_at_call 13; refine (bytes_any w.heap.size A2 c2 l4 _ (by first | exact hW4d | exact hW4d.later hg6) hl4m).mono ?_; rintro e w5 ⟨A5, c5, rfl, hO5, hg5⟩; (have hcv5 := conv_any c5 hO5.rd (by simp)); (try have hcv56 := conv_any c6 (hO6.grown0 hg5).rd (by simp)))
          | (go_at_call 14; refine (rbytes_any l4 A4 c4 _ _ (Nat.le_refl _) (by first | exact hO4d.rd | exact (hO4d.grown0 hg5).rd) hl4m).mono ?_; rintro e w6 ⟨A6, c6, rfl, hO6, hg6⟩; (have hcv6 := conv_any c6 hO6.rd (by simp)); (try have hcv65 := conv_any c5 (hO5.grown0 hg6).rd (by simp))))
        all_goals
          go_wp2_with fail
          go_roundw
          case rel =>
            refine ⟨k + 1, l4, A2, c2, A4, c4, rfl, by go_num, by omega, by omega, hl4, ?_⟩
            first
              | exact HINV.out _ (gb_trans hg5 hg6)
              | exact HINV.out _ (gb_trans hg6 hg5)
          case measure => first | (simp [intOf]; done) | (simp [intOf]; omega)
      · have c2' : decide ((k : Int) < 40) = false := by simp; omega
        go_wp2_with fail
        refine (bits_nil 5 3 _ (by decide)).mono ?_
        rintro e w2 ⟨rfl, rfl⟩
        go_wp2_with fail
        refine (gamma_nil 2 _ (by decide)).mono ?_
        rintro e w2 ⟨rfl, rfl⟩
        go_wp2_with fail
        refine (len_nil _).mono ?_
        rintro e w2 ⟨rfl, rfl⟩
        go_wp2_with fail
        refine (bytes_nil _).mono ?_
        rintro e w2 ⟨rfl, rfl⟩
        go_wp2_with fail
        refine (awake_any _).mono ?_
        rintro e w5 ⟨rfl, hg5⟩
        go_wp2_with fail
        go_ret
        exact ⟨rfl, gb_below (below_step0 hbel hbel.size hg5)⟩
    · skip
      go_wp2_with fail
      refine (bits_nil 5 3 _ (by decide)).mono ?_
      rintro e w2 ⟨rfl, rfl⟩
      go_wp2_with fail
      refine (gamma_nil 2 _ (by decide)).mono ?_
      rintro e w2 ⟨rfl, rfl⟩
      go_wp2_with fail
      refine (len_nil _).mono ?_
      rintro e w2 ⟨rfl, rfl⟩
      go_wp2_with fail
      refine (bytes_nil _).mono ?_
      rintro e w2 ⟨rfl, rfl⟩
      go_wp2_with fail
      refine (awake_any _).mono ?_
      rintro e w5 ⟨rfl, hg5⟩
      go_wp2_with fail
      go_ret
      exact ⟨rfl, gb_below (below_step0 hbel hbel.size hg5)⟩

theorem cells31 : Try.prog.cellsOf 31 = 3 := by kernel_rfl

section
open Go.ChangeShapes Go.WideShapes Go.ChangeAt
variable {H : Type} {enc : TypeId × Value → H}

theorem open_acts {W : World} {base : Nat} {v : Value} {d : DataW H} {p : List MemPlace} (k : Value.okWide Try.prog W .any base 22 v) (h : DataW.Trod enc Try.prog W 0 (fun _ => true) true 22 v d p) :
    ∃ A len cap K X N, v = .slice A len cap ∧ Acts W A len K X N := by
  obtain ⟨A, len, cap, F, rfl, h1, h2, h3⟩ := open_structs (ks := [.i64, .u64, .i64]) Try.underlying22 Try.underlying31 (by kernel_rfl) cells31 rfl (by decide)
    (by
      intro j f k hf hk
      match j, hf, hk with
      | 0, hf, hk => simp at hf hk; subst hf; subst hk; exact Try.underlying3
      | 1, hf, hk => simp at hf hk; subst hf; subst hk; exact Try.underlying29
      | 2, hf, hk => simp at hf hk; subst hf; subst hk; exact Try.underlying3) k h
  refine ⟨A, len, cap, fun i => F i 0, fun i => (F i 1).toNat, fun i => F i 2, rfl, by unfold maxLen at h2; omega, fun hn => ?_⟩
  obtain ⟨g, off, hA, hg, hc⟩ := h3 hn
  refine ⟨g, off, hA, hg, fun i hi => ?_⟩
  have a0 := hc i hi 0 .i64 rfl
  have a1 := hc i hi 1 .u64 rfl
  have a2 := hc i hi 2 .i64 rfl
  have b1 := bounds_u64 a1.2
  have e1 : ((F i 1).toNat : Int) = F i 1 := Int.toNat_of_nonneg b1.1
  have e2 : (F i 1).toNat < 18446744073709551616 := by omega
  refine ⟨a0.1, ?_, a2.1, e2⟩
  rw [e1]
  exact a1.1

theorem puts_main {base : Nat} {v0 : Value} {d0 : DataW H} {p0 : List MemPlace} (W : World)
    (k0 : Value.okWide Try.prog W .any base 22 v0) (h0 : DataW.Trod enc Try.prog W 0 (fun _ => true) true 22 v0 d0 p0) :
    Calls Try.prog 3 #[v0] W fun e w' => e = .returned (.bool true) ∧ W.grownBy w' none := by
  obtain ⟨A, len, cap, K, X, N, rfl, hA⟩ := open_acts k0 h0
  exact law_puts A len cap K X N W hA
end
end Go.Proofs.Ytlohplopomfjhaa
