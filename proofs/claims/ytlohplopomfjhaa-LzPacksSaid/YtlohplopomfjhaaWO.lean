/- The walks of what the laws on reading stand on: an act done to a reader, the bits of bytes, a new reader. -/
import Derived.Test.YtlohplopomfjhaaWN
namespace Go.Proofs.Ytlohplopomfjhaa
set_option linter.unusedVariables false
set_option linter.unusedSimpArgs false
open Go.RowKit Go.Own Go.Bits

/-- An act done to a row of bits: what it tells, what is left, is it torn. -/
def tkS (K N : Int) (L : List Bool) (t : Bool) : Nat × List Bool × Bool :=
  if K = 1 then (val (L.take (nb N)), L.drop (nb N), t || decide (L.length < nb N))
  else if K = 2 then (tv L (nb N), L.drop (nb N), t || decide (L.length < nb N))
  else if K = 3 then gamS L t
  else ((L.headD false).toNat, L.tail, t || L.isEmpty)

theorem gb_after {a b c : World} {g : Nat} (h : a.grownBy b none) (k : b.grownBy c (some g)) : a.grownBy c (some g) := gb_trans (gb_none h) k

set_option maxHeartbeats 1600000 in
theorem take_any (g : Nat) (L : List Bool) (t : Bool) (K : Int) (X : Nat) (N : Int) (w : World) (h : RdS w g L t) (hx : X < 18446744073709551616) :
    Calls Try.prog 24 #[.pointer (some ⟨g, 0, none⟩), actV K X N] w fun e w' => e = .returned (.int .u64 ((tkS K N L t).1 : Nat)) ∧ w.grownBy w' (some g) ∧ RdS w' g (tkS K N L t).2.1 (tkS K N L t).2.2 := by
  have hg := gb_alloc (gb_refl w none) (.cells #[.int .i64 K, .int .u64 X, .int .i64 N] 31)
  have h' := h.later hg
  unfold actV tkS
  by_cases h1 : K = 1
  · subst h1
    rw [if_pos rfl]
    go_enter Try.func24, Try.ntmps24
    go_wp2_with fail
    refine (rdbits_any g L t _ N h').mono ?_
    rintro e w2 ⟨rfl, hg2, hr⟩
    go_wp2_with fail
    go_ret
    exact ⟨rfl, gb_after hg hg2, hr⟩
  by_cases h2 : K = 2
  · subst h2
    rw [if_neg (by decide), if_pos rfl]
    go_enter Try.func24, Try.ntmps24
    go_wp2_with fail
    refine (rdturned_any g L t _ N h').mono ?_
    rintro e w2 ⟨rfl, hg2, hr⟩
    go_wp2_with fail
    go_ret
    exact ⟨rfl, gb_after hg hg2, hr⟩
  by_cases h3 : K = 3
  · subst h3
    rw [if_neg (by decide), if_neg (by decide), if_pos rfl]
    go_enter Try.func24, Try.ntmps24
    go_wp2_with fail
    refine (rdgamma_any g L t _ h').mono ?_
    rintro e w2 ⟨rfl, hg2, hr⟩
    go_wp2_with fail
    go_ret
    exact ⟨rfl, gb_after hg hg2, hr⟩
  · rw [if_neg h1, if_neg h2, if_neg h3]
    have b1 : (K == 1) = false := by simpa using h1
    have b2 : (K == 2) = false := by simpa using h2
    have b3 : (K == 3) = false := by simpa using h3
    clear h1 h2 h3
    have hb := rbit_any g L t _ h'
    generalize hhd : L.headD false = b at *
    go_enter Try.func24, Try.ntmps24
    go_wp2_with fail
    refine hb.mono ?_
    rintro e w2 ⟨rfl, hg2, hr⟩
    clear hb
    cases b
    all_goals
      go_wp2_with fail
      go_ret
      exact ⟨rfl, gb_after hg hg2, hr⟩

theorem ofB_snoc (l : List Nat) (v : Nat) : ofB (l ++ [v]) = ofB l ++ bitsN v 8 := by simp [ofB]

theorem take_snoc_nat (bl : List Nat) (k : Nat) (h : k < bl.length) : bl.take (k + 1) = bl.take k ++ [bl.getD k 0] := by
  have e : bl.getD k 0 = bl[k] := by simp [h]
  rw [List.take_succ_eq_append_getElem h, e]

set_option maxHeartbeats 1600000 in
theorem rof_any (bl : List Nat) (S : Option Addr) (cs B : Nat) (w : World) (hB : B ≤ w.heap.size) (hS : Rd w B 1 S bl.length (bl.map bv)) (hv : ∀ v ∈ bl, v < 256) (hl : bl.length ≤ 100000) :
    Calls Try.prog 19 #[.slice S bl.length cs] w (Gives w 4 1 (ofB bl).length ((ofB bl).map .bool)) := by
  obtain ⟨it, hi, hz0, hz1, hz2⟩ := info_parts info4
  go_enter Try.func19, Try.ntmps19
  go_wp2_with fail
  go_loopw [3, 4] (fun v3 v4 wi => ∃ (k n : Nat) (A : Option Addr) (c : Nat), v3 = .slice A n c ∧ v4 = .int .i64 k ∧ k ≤ bl.length ∧ n = 8 * k ∧ Own wi w.heap.size 4 1 A c n ((ofB (bl.take k)).map .bool) ∧ w.grownBy wi none)
    (fun _ v4 _ => bl.length - (intOf v4).toNat)
  case atStart => exact ⟨0, 0, none, 0, rfl, rfl, by omega, by omega, by simpa [ofB] using Own.nil w w.heap.size 4 1, gb_refl _ _⟩
  case round =>
    obtain ⟨k, n, A, c, rfl, rfl, hk, hn, hO, hg⟩ := hrel
    have HN := Lib.hid hn
    have hn1 : n ≤ 800000 := by omega
    by_cases hkm : k < bl.length
    · clear hn
      obtain ⟨sg, off, rfl, hsg, hsc⟩ := hS.form (by omega)
      have cp := (hg.cell (a := ⟨sg, off + k, none⟩) (hsc k (bv (bl.getD k 0)) (by simp [hkm])) (by simp))
      have hs := hg.size
      have hts := take_snoc_nat bl k hkm
      have hvk : bl.getD k 0 < 256 := by
        have : bl.getD k 0 = bl[k] := by simp [hkm]
        rw [this]; exact hv _ (List.getElem_mem hkm)
      unfold bv at cp
      generalize bl.getD k 0 = v at *
      have hvi : (v : Int) ≤ 255 := by omega
      obtain ⟨m, hm⟩ : ∃ m, m = 8 := ⟨8, rfl⟩
      have hby : (n + m) * 1 ≤ 140737488355328 := by omega
      have h63 : n + m ≤ maxLen := by simp only [maxLen]; omega
      have hsn := ofB_snoc (bl.take k) v
      have HF := Lib.hid (⟨hts, hsn⟩ : _ ∧ _)
      have hrb := fun W => rbits_any v 8 W (by omega)
      have h8 : nb 8 = m := by rw [hm]; decide
      rw [h8] at hrb
      have HRB := Lib.hid hrb
      have HM := Lib.hid hm
      clear hts hsn hrb h8 hm
      go_wp2_with fail
      refine (HRB.out _).mono ?_
      rintro e w2 ⟨A2, c2, rfl, hO2, hg2⟩
      have hg3 := gb_trans hg hg2
      have hO3 := hO.grown0 hg2
      have hs2 := hg3.size
      have hone : ∀ u ∈ (bitsN v m).map Value.bool, u.oneCell' = true := bools_one
      have hrd := hO2.rd
      go_wp2_with (
        at_builtin
        refine wpList_appN w2 rfl (.tmp 11) (.tmp 17) 27 rfl w.heap.size 4 Try.underlying27 hi hz0 hz1 hz2 rfl (by decide) A c n ((ofB (bl.take k)).map .bool) rfl hO3 w2.heap.size A2 m c2 ((bitsN v m).map .bool) rfl hrd hone h63 hby hs2 ?_
        intro A4 c4 w4 hO4 hgr hloc)
      go_roundw
      case rel =>
        refine ⟨k + 1, n + m, A4, c4, by go_num, by go_num, by omega, by have := HN.out; have := HM.out; omega, ?_, gb_own hg3 hgr (fun g hg' => (hO.lt g hg').1)⟩
        rw [HF.out.1, HF.out.2, List.map_append, ← HM.out]
        exact hO4
      case measure => first | (simp [intOf]; done) | (simp [intOf]; omega)
    · have hk2 : k = bl.length := by omega
      subst hk2
      rw [List.take_length] at hO
      clear hn
      go_wp2_with fail
      go_ret
      have hol : n = (ofB bl).length := by rw [ofB_len, HN.out]
      subst hol
      exact ⟨A, c, rfl, hO, hg⟩

set_option maxHeartbeats 1600000 in
theorem read_any (bl : List Nat) (S : Option Addr) (cs B : Nat) (w : World) (hB : B ≤ w.heap.size) (hS : Rd w B 1 S bl.length (bl.map bv)) (hv : ∀ v ∈ bl, v < 256) (hl : bl.length ≤ 100000) :
    Calls Try.prog 18 #[.slice S bl.length cs] w fun e w' => ∃ g, e = .returned (.pointer (some ⟨g, 0, none⟩)) ∧ w.heap.size ≤ g ∧ w.grownBy w' none ∧ RdS w' g (ofB bl) false := by
  obtain ⟨it, hi, hz0, hz1, hz2⟩ := info_parts info5
  have hsrc : Rd (w.alloc (.cells #[] 5)) w.heap.size 1 S bl.length (bl.map bv) := (hS.mono hB).later (gb_alloc (gb_refl _ _) _) (Nat.le_refl _)
  have hown : Own (w.alloc (.cells #[] 5)) w.heap.size 5 1 (some ⟨w.heap.size, 0, none⟩) 0 0 [] := by
    have h := Own.of_blk (base := w.heap.size) (size := 1) (n := 0) (c := 0) (Blk.new w #[] 5) (Nat.le_refl _) (by simp [maxLen]) (by omega) (by simp)
    simpa using h
  have hb63 : 0 + bl.length ≤ maxLen := by simp only [maxLen]; omega
  have hby : (0 + bl.length) * 1 ≤ 140737488355328 := by omega
  have hbs : w.heap.size ≤ (w.alloc (.cells #[] 5)).heap.size := by simp
  go_enter Try.func18, Try.ntmps18
  go_wp2_with (
    at_builtin
    refine wpList_appN (w.alloc (.cells #[] 5)) rfl (.tmp 3) (.tmp 4) 24 rfl w.heap.size 5 Try.underlying24 hi hz0 hz1 hz2 rfl (by decide) (some ⟨w.heap.size, 0, none⟩) 0 0 [] rfl hown w.heap.size S bl.length cs (bl.map bv) rfl hsrc bv_one hb63 hby hbs ?_
    intro A2 c2 w2 hO2 hgr hloc)
  go_ret
  have e0 : 0 + bl.length = bl.length := by omega
  rw [e0, List.nil_append] at hO2
  have hg2 := gb_own (gb_alloc (gb_refl w none) (.cells #[] 5)) hgr (fun g hg => by simp [blk] at hg; omega)
  exact ⟨w2.heap.size, rfl, hg2.size, gb_alloc hg2 _, A2, c2, 0, bl, Blk.new _ _ _, (hO2.mono (Nat.zero_le _)).alloc _, by omega, hl, hv, by simp⟩
end Go.Proofs.Ytlohplopomfjhaa
