/- The walk of package lz's tokens. -/
import Derived.Test.YtlohplopomfjhaaVC
import Derived.Carry
namespace Go.Proofs.Ytlohplopomfjhaa
set_option linter.unusedVariables false
set_option linter.unusedSimpArgs false
open Go.RowKit Go.Own Go.Bits Go.Lz

/-- A token's cells. -/
def tkC (t : Tok) : List Value := [.int .u8 (t.b : Int), .int .i64 t.f, .int .i64 t.l]

theorem tkC_len (l : List Tok) : (l.flatMap tkC).length = l.length * 3 := by
  induction l with
  | nil => rfl
  | cons t l ih => simp only [List.flatMap_cons, List.length_append, ih, List.length_cons]; simp [tkC]; omega

theorem tkC_get (l : List Tok) (i k : Nat) (hk : k < 3) (t : Tok) (h : l[i]? = some t) : (l.flatMap tkC)[i * 3 + k]? = (tkC t)[k]? := by
  induction l generalizing i with
  | nil => simp at h
  | cons t' l ih =>
    rw [List.flatMap_cons]
    cases i with
    | zero =>
      simp at h
      subst h
      rw [List.getElem?_append_left (by simp [tkC]; omega)]
      congr 1
      omega
    | succ i =>
      have hl : (tkC t').length = 3 := rfl
      rw [List.getElem?_append_right (by rw [hl]; omega), hl]
      rw [show (i + 1) * 3 + k - 3 = i * 3 + k by omega]
      exact ih i (by simpa using h)

theorem tkC_one (t : Tok) : ∀ u ∈ tkC t, u.oneCell' = true := by
  intro u hu
  simp [tkC] at hu
  rcases hu with rfl | rfl | rfl <;> rfl

theorem info56 : (Try.prog.info? 56).map (fun i => (i.zero, i.size, i.bytes)) = some (some (.agg #[.int .u8 0, .int .i64 0, .int .i64 0]), 3, 24) := by kernel_rfl

theorem own_blk {w : World} {base e s c n k : Nat} {A : Option Addr} {xs : List Value} (h : Own w base e s A c n xs) (hk : blk A = some k) : ∃ cs, Blk w k cs e := by
  rcases h.2 with ⟨hv, _⟩ | ⟨g', cap, cur, hv, _, hh, _⟩
  · have e : A = none := by injection hv
    rw [e] at hk; simp [blk] at hk
  · have e : A = some ⟨g', 0, none⟩ := by injection hv
    rw [e] at hk
    have e2 : g' = k := by simpa [blk] using hk
    subst e2
    exact ⟨cur, hh⟩

theorem Ch.tch {T : Nat → Prop} {base g n : Nat} {w w' : World} {b : List Nat} (h : Ch base w g b n) (ht : Tch T w w') (hT : ∀ k, T k → ∃ cs, Blk w k cs 56) : Ch base w' g b n := by
  obtain ⟨mb, A, c, D, hbg, hbm, hBk, hM, hOk, hO⟩ := h
  refine ⟨mb, A, c, D, hbg, hbm, hBk.tch ht (fun e => ?_), ?_, hOk, Own.tch hO ht (fun k hk e => ?_)⟩
  · obtain ⟨cs, hb⟩ := hT g e
    unfold Blk at hb hBk
    rw [hBk] at hb
    simp at hb
  · have hlt := hM.lt
    obtain ⟨es, clock, hb, r⟩ := hM
    refine ⟨es, clock, (ht.block mb hlt (fun e => ?_)).trans hb, r⟩
    obtain ⟨cs, hb2⟩ := hT mb e
    unfold Blk at hb2
    rw [hb] at hb2
    cases hb2
  · obtain ⟨cs, hb⟩ := hT k e
    exact own_ne_blk hO hb (by decide) hk

theorem Ch.later {base g n : Nat} {w w' : World} {b : List Nat} (h : Ch base w g b n) (hg : w.grownBy w' none) : Ch base w' g b n :=
  h.tch (T := fun _ => False) (tch_gb hg) (fun _ e => by cases e)

theorem Own.cht {base bs s c n : Nat} {w w' : World} {A : Option Addr} {xs : List Value} (h : Own w bs 56 s A c n xs) (ht : ChT base w w') : Own w' bs 56 s A c n xs := by
  obtain ⟨T, h1, h2, h3⟩ := ht
  refine Own.tch h h1 (fun k hk e => ?_)
  obtain ⟨cs, hb⟩ := own_blk h hk
  rcases h3 k cs 56 e hb with h | h <;> cases h

theorem below_cht {base : Nat} {a w w' : World} (h : Below base a w) (hB : base ≤ w.heap.size) (ht : ChT base w w') : Below base a w' := by
  obtain ⟨T, h1, h2, h3⟩ := ht
  exact below_tch h hB h1 h2

theorem ch_new (w : World) (b : List Nat) : Ch w.heap.size ((w.alloc (.map #[] 0)).alloc (.cells #[.map (some w.heap.size), .slice none 0 0] 80)) (w.heap.size + 1) b 0 := by
  refine ⟨w.heap.size, none, 0, .map [], by omega, Nat.le_refl _, ?_, (World.ownsMap_made w Try.prog 88 _).alloc _, ?_, Own.nil _ _ _ _⟩
  · have := Blk.new (w.alloc (.map #[] 0)) #[.map (some w.heap.size), .slice none 0 0] 80
    simpa using this
  · intro x y z _ _ _
    exact ⟨rfl, fun q hq => by cases hq⟩

theorem tokAt_cells (b : List Nat) (p : Nat) : (bestTo b p (min p 4096)).2 = 0 → tokAt b p = ⟨b.getD p 0, 0, 0⟩ := fun h => by unfold tokAt; rw [if_pos h]
theorem tokAt_match (b : List Nat) (p : Nat) : (bestTo b p (min p 4096)).2 ≠ 0 → tokAt b p = ⟨0, (bestTo b p (min p 4096)).1, (bestTo b p (min p 4096)).2⟩ := fun h => by unfold tokAt; rw [if_neg h]

set_option maxHeartbeats 6400000 in
set_option maxRecDepth 100000 in
theorem tokens_any (b : List Nat) (S : Option Addr) (cs B : Nat) (w : World) (hS : Rd w B 1 S b.length (b.map bv)) (hB : B ≤ w.heap.size) (hbl : b.length ≤ 1000000) (hb : ∀ v ∈ b, v < 256) :
    Calls Try.prog 32 #[.slice S b.length cs] w (Gives w 56 3 (tokens b).length ((tokens b).flatMap tkC)) := by
  obtain ⟨it, hi, hz0, hz1, hz2⟩ := info_parts info56
  have hmm := @run_makeMap Try.prog
  have hnew := ch_new w b
  have hg0 : w.grownBy ((w.alloc (.map #[] 0)).alloc (.cells #[.map (some w.heap.size), .slice none 0 0] 80)) none := gb_alloc (gb_alloc (gb_refl w none) _) _
  have hs1 : (w.alloc (.map #[] 0)).heap.size = w.heap.size + 1 := by simp
  go_enter Try.func32, Try.ntmps32
  go_wp2_with fail
  go_loopw [4, 5] (fun v4 v5 wi => ∃ (p : Nat) (T : List Tok) (A : Option Addr) (c : Nat), v4 = .slice A T.length c ∧ v5 = .int .i64 p ∧ p ≤ b.length ∧ T.length ≤ p ∧ upto b T p ∧ Ch w.heap.size wi (w.heap.size + 1) b p ∧ Own wi w.heap.size 56 3 A c T.length (T.flatMap tkC) ∧ Below w.heap.size w wi)
    (fun _ v5 _ => b.length - (intOf v5).toNat)
  case atStart => exact ⟨0, [], none, 0, rfl, rfl, by omega, by simp, upto_zero b, hnew, Own.nil _ _ _ _, below_gb hg0⟩
  case round =>
    obtain ⟨p, T, A, c, rfl, rfl, hp, hT, hup, hch, hO, hbel⟩ := hrel
    by_cases hpl : p < b.length
    · have hbs := hbel.size
      have hSi := hS.below (hbel.mono hB)
      have hbst := best_any w.heap.size wr (w.heap.size + 1) b p S cs B hch hSi hB hbs hpl hbl hb
      have hup2 := upto_step hup hpl
      have hst1 := stepAt_pos b p
      have hstl := stepAt_le b p hpl
      have hst : stepAt b p = max (bestTo b p (min p 4096)).2 1 := rfl
      have hbl2 := bestTo_le b p (min p 4096) hp
      have htc := tokAt_cells b p
      have htm := tokAt_match b p
      obtain ⟨sg, off, rfl, hsg, hsc⟩ := rd_byte hSi hpl
      have cb := hsc p hpl
      generalize bestTo b p (min p 4096) = r at *
      obtain ⟨fr, lo⟩ := r
      dsimp only at hst hbl2 htc htm hbst
      have HUP := Lib.hid hup2
      have HST := Lib.hid hst
      clear hup hup2 hst
      go_wp2_with fail
      refine hbst.mono ?_
      rintro e w5 ⟨rfl, hg5⟩
      clear hbst
      have hbel5 := below_step0 hbel hbs hg5
      have cb5 := hg5.cell cb (by simp)
      have hO5 := hO.grown0 hg5
      have hch5 := hch.later hg5
      have hs5 := hbel5.size
      have hby : (T.length + 1) * 24 ≤ 140737488355328 := by omega
      by_cases hlo : lo = 0
      · have htk := htc hlo
        have hsa : stepAt b p = 1 := by rw [HST.out, hlo]; rfl
        subst hlo
        clear htc htm
        generalize b.getD p 0 = y at *
        have hone := tkC_one ⟨y, 0, 0⟩
        have hOa := hO5.alloc (.cells #[.int .u8 (y : Int), .int .i64 0, .int .i64 0] 56)
        have hsa2 : w.heap.size ≤ (w5.alloc (.cells #[.int .u8 (y : Int), .int .i64 0, .int .i64 0] 56)).heap.size := by simp; omega
        go_wp2_with (
          at_builtin
          refine wpList_app1 (w5.alloc (.cells #[.int .u8 (y : Int), .int .i64 0, .int .i64 0] 56)) rfl (.tmp 35) (.tmp 37) 51 rfl w.heap.size 56 Try.underlying51 hi hz0 hz1 hz2 rfl (by decide) A c T.length (T.flatMap tkC) rfl hOa (tkC ⟨y, 0, 0⟩) 56 1 (by show Value.slice (some ⟨w5.heap.size + 1, 0, none⟩) 1 1 = _; simp) rfl hone hby (by decide) hsa2 ?_
          intro g1 c1 w6 hO6 hgr hloc hbg1 hlt1)
        have hOT : Own w6 w.heap.size 56 3 (some ⟨g1, 0, none⟩) c1 (T ++ [tokAt b p]).length ((T ++ [tokAt b p]).flatMap tkC) := by
          rw [htk, List.length_append, List.flatMap_append]
          simpa using hO6
        have hch6 := (hch5.later (gb_alloc (gb_refl _ none) (.cells #[.int .u8 (y : Int), .int .i64 0, .int .i64 0] 56))).tch (tch_row (S := fun j => blk A = some j) hgr (fun j hj => hj)) (fun k hk => own_blk hOa hk)
        have hb6 := below_tch (hbel5.alloc hs5 (.cells #[.int .u8 (y : Int), .int .i64 0, .int .i64 0] 56)) hsa2 (tch_row (S := fun j => blk A = some j) hgr (fun j hj => hj)) (fun j hj => (hOa.lt j hj).1)
        have hTl : (T ++ [tokAt b p]).length = T.length + 1 := by simp
        have hTn : (T ++ [tokAt b p]).length ≤ p + 1 := by omega
        have HUP2 := Lib.hid (HUP.out)
        rw [← hTl]
        generalize T ++ [tokAt b p] = T2 at *
        clear hgr hloc hOa hO6 hO5 hch5 hbel5 hO hch hTl hSi
        go_loopw [5, 40] (fun v5 v40 wi => ∃ j : Nat, v5 = .int .i64 ((p + j : Nat) : Int) ∧ v40 = .int .i64 j ∧ j ≤ 1 ∧ Ch w.heap.size wi (w.heap.size + 1) b (p + j) ∧ Own wi w.heap.size 56 3 (some ⟨g1, 0, none⟩) c1 T2.length (T2.flatMap tkC) ∧ Below w.heap.size w wi)
          (fun _ v40 _ => 1 - (intOf v40).toNat)
        case atStart => exact ⟨0, rfl, rfl, by omega, hch6, hOT, hb6⟩
        case round =>
          obtain ⟨j, rfl, rfl, hj, hchj, hOj, hbj⟩ := hrel
          by_cases hjn : j < 1
          · have hjni : (j : Int) < (1 : Nat) := by omega
            have hnt := note_any w.heap.size wr (w.heap.size + 1) b (p + j) (some ⟨sg, off, none⟩) cs B hchj (hS.below (hbj.mono hB)) hB hbj.size (by omega) hbl hb
            go_wp2_with fail
            refine hnt.mono ?_
            rintro e w7 ⟨rfl, hch7, ht7⟩
            go_wp2_with fail
            go_roundw
            case rel => exact ⟨j + 1, by go_num, by go_num, by omega, hch7, Own.cht hOj ht7, below_cht hbj hbj.size ht7⟩
            case measure => first | (simp [intOf]; done) | (simp [intOf]; omega)
          · have hjn2 : j = 1 := by omega
            subst hjn2
            go_wp2_with fail
            go_roundw
            case rel => exact ⟨p + 1, T2, some ⟨g1, 0, none⟩, c1, rfl, by go_num, by omega, by omega, by have := HUP2.out; rw [hsa] at this; exact this, hchj, hOj, hbj⟩
            case measure => first | (simp [intOf]; done) | (simp [intOf]; omega)
      · have htk := htm hlo
        have h3 : 3 ≤ lo := by omega
        have h3i : (3 : Int) ≤ (lo : Int) := by omega
        have hsa : stepAt b p = lo := by rw [HST.out]; omega
        clear htc htm
        generalize b.getD p 0 = y at *
        have hone := tkC_one ⟨0, fr, lo⟩
        have hOa := hO5.alloc (.cells #[.int .u8 0, .int .i64 (fr : Int), .int .i64 (lo : Int)] 56)
        have hsa2 : w.heap.size ≤ (w5.alloc (.cells #[.int .u8 0, .int .i64 (fr : Int), .int .i64 (lo : Int)] 56)).heap.size := by simp; omega
        go_wp2_with (
          at_builtin
          refine wpList_app1 (w5.alloc (.cells #[.int .u8 0, .int .i64 (fr : Int), .int .i64 (lo : Int)] 56)) rfl (.tmp 35) (.tmp 37) 51 rfl w.heap.size 56 Try.underlying51 hi hz0 hz1 hz2 rfl (by decide) A c T.length (T.flatMap tkC) rfl hOa (tkC ⟨0, fr, lo⟩) 56 1 (by show Value.slice (some ⟨w5.heap.size + 1, 0, none⟩) 1 1 = _; simp) rfl hone hby (by decide) hsa2 ?_
          intro g1 c1 w6 hO6 hgr hloc hbg1 hlt1)
        have hOT : Own w6 w.heap.size 56 3 (some ⟨g1, 0, none⟩) c1 (T ++ [tokAt b p]).length ((T ++ [tokAt b p]).flatMap tkC) := by
          rw [htk, List.length_append, List.flatMap_append]
          simpa using hO6
        have hch6 := (hch5.later (gb_alloc (gb_refl _ none) (.cells #[.int .u8 0, .int .i64 (fr : Int), .int .i64 (lo : Int)] 56))).tch (tch_row (S := fun j => blk A = some j) hgr (fun j hj => hj)) (fun k hk => own_blk hOa hk)
        have hb6 := below_tch (hbel5.alloc hs5 (.cells #[.int .u8 0, .int .i64 (fr : Int), .int .i64 (lo : Int)] 56)) hsa2 (tch_row (S := fun j => blk A = some j) hgr (fun j hj => hj)) (fun j hj => (hOa.lt j hj).1)
        have hTl : (T ++ [tokAt b p]).length = T.length + 1 := by simp
        have hTn : (T ++ [tokAt b p]).length ≤ p + 1 := by omega
        have HUP2 := Lib.hid (HUP.out)
        rw [← hTl]
        generalize T ++ [tokAt b p] = T2 at *
        clear hgr hloc hOa hO6 hO5 hch5 hbel5 hO hch hTl hSi
        go_loopw [5, 40] (fun v5 v40 wi => ∃ j : Nat, v5 = .int .i64 ((p + j : Nat) : Int) ∧ v40 = .int .i64 j ∧ j ≤ lo ∧ Ch w.heap.size wi (w.heap.size + 1) b (p + j) ∧ Own wi w.heap.size 56 3 (some ⟨g1, 0, none⟩) c1 T2.length (T2.flatMap tkC) ∧ Below w.heap.size w wi)
          (fun _ v40 _ => lo - (intOf v40).toNat)
        case atStart => exact ⟨0, rfl, rfl, by omega, hch6, hOT, hb6⟩
        case round =>
          obtain ⟨j, rfl, rfl, hj, hchj, hOj, hbj⟩ := hrel
          by_cases hjn : j < lo
          · have hjni : (j : Int) < (lo : Nat) := by omega
            have hnt := note_any w.heap.size wr (w.heap.size + 1) b (p + j) (some ⟨sg, off, none⟩) cs B hchj (hS.below (hbj.mono hB)) hB hbj.size (by omega) hbl hb
            go_wp2_with fail
            refine hnt.mono ?_
            rintro e w7 ⟨rfl, hch7, ht7⟩
            go_wp2_with fail
            go_roundw
            case rel => exact ⟨j + 1, by go_num, by go_num, by omega, hch7, Own.cht hOj ht7, below_cht hbj hbj.size ht7⟩
            case measure => first | (simp [intOf]; done) | (simp [intOf]; omega)
          · have hjn2 : j = lo := by omega
            subst hjn2
            go_wp2_with fail
            go_roundw
            case rel => exact ⟨p + j, T2, some ⟨g1, 0, none⟩, c1, rfl, by go_num, by omega, by omega, by have := HUP2.out; rw [hsa] at this; exact this, hchj, hOj, hbj⟩
            case measure => first | (simp [intOf]; done) | (simp [intOf]; omega)
    · have hT2 := upto_all hup (by omega)
      have HT2 := Lib.hid hT2
      clear hT2 hup
      go_wp2_with fail
      go_ret
      have h2 := HT2.out
      subst h2
      exact ⟨A, c, rfl, hO, gb_below hbel⟩
end Go.Proofs.Ytlohplopomfjhaa
