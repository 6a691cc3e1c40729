/- The walk of the law ChunkMakes. -/
import Derived.Test.YtephnmmbmacbfaaFJ
namespace Go.Proofs.Ytephnmmbmacbfaa
set_option linter.unusedVariables false
set_option linter.unusedSimpArgs false
open Go.RowKit Go.Own Go.Chunk

theorem shr_nil (a b : List Nat) : shr a b [] [] = 0 := rfl

set_option maxHeartbeats 6400000 in
set_option maxRecDepth 100000 in
theorem law_makes (least most bits : Int) (A0 : Option Addr) (c0 : Nat) (b : List Nat) (w : World)
    (hS : Rd w w.heap.size 1 A0 b.length (b.map bv)) (hv : ∀ v ∈ b, v < 256) (hlc : b.length ≤ c0) (hcm : c0 ≤ 9223372036854775807) :
    Calls Try.prog 4 #[.int .i64 least, .int .i64 most, .int .i64 bits, .slice A0 b.length c0] w fun e w' => e = .returned (.bool true) ∧ w.grownBy w' none := by
  by_cases h600 : 600 < b.length
  · have h6i : (600 : Int) < (b.length : Int) := by omega
    go_enter Try.func4, Try.ntmps4
    go_wp2_with fail
    refine (awake43 _).mono ?_
    rintro e w5 ⟨rfl, hg5⟩
    go_wp2_with fail
    go_ret
    exact ⟨rfl, hg5⟩
  · have h6i : ¬ ((600 : Int) < (b.length : Int)) := by omega
    have hform : ∀ W : World, w.grownBy W none → 0 < b.length → ∃ g off, A0 = some ⟨g, off, none⟩ ∧ g < W.heap.size := fun W hW h => by
      obtain ⟨g, off, e, hg, _⟩ := hS.form h
      exact ⟨g, off, e, Nat.lt_of_lt_of_le hg hW.size⟩
    have hct := fun W (hW : w.grownBy W none) => cut_zero (w := W) (S := A0) (cs := c0) (len := b.length) hlc hcm (hform W hW)
    have hsm := fun W (hW : w.grownBy W none) => sum_any b A0 c0 w.heap.size W (hS.later hW (Nat.le_refl _)) hv (by omega)
    have hrs := fun W (hW : w.grownBy W none) => rsum_any b A0 c0 w.heap.size W (hS.later hW (Nat.le_refl _)) hv (by omega)
    have hsh := fun W (hW : w.grownBy W none) => shared_any 0 0 0 b b [] [] A0 A0 c0 c0 W ((hS.later hW (Nat.le_refl _)).mono hW.size) ((hS.later hW (Nat.le_refl _)).mono hW.size) hv hv (by omega) (by omega) (fun x h => by simp at h) (fun x h => by simp at h) (by simp) (by simp) (fun V hV => cut_zero hlc hcm (hform V (gb_trans hW hV))) (fun V hV => cut_zero hlc hcm (hform V (gb_trans hW hV)))
    have hpcs := pieces_any 0 0 0 A0 b.length c0
    rw [shr_nil] at hsh
    unfold cv at hct hpcs hsh
    have hsr := sumB_range spc b
    generalize sumB spc b = sm at *
    replace hct := Lib.hid hct
    replace hsm := Lib.hid hsm
    replace hrs := Lib.hid hrs
    replace hsh := Lib.hid hsh
    replace hpcs := Lib.hid hpcs
    clear hform
    by_cases hf : Fine least most bits
    · have hnew := new_ok least most bits w hf
      have hrt := fun W => right_ok least most bits W hf
      unfold cv at hnew
      clear hf
      go_enter Try.func4, Try.ntmps4
      go_wp2_with fail
      refine hnew.mono ?_
      rintro e w1 ⟨rfl, hg1⟩
      go_wp2_with fail
      refine (hrt _).mono ?_
      rintro e w2 ⟨rfl, rfl⟩
      go_wp2_with fail
      have hBn := Blk.new (w1.alloc (.cells #[.int .i64 least, .int .i64 most, .int .i64 bits] 29)) #[.int .i64 0, .int .i64 0, .int .i64 0] 29
      rw [World.size_alloc] at hBn
      have hg2 := gb_alloc (gb_alloc hg1 (.cells #[.int .i64 least, .int .i64 most, .int .i64 bits] 29)) (.cells #[.int .i64 0, .int .i64 0, .int .i64 0] 29)
      generalize w1.heap.size = nb at *
      generalize (w1.alloc (.cells #[.int .i64 least, .int .i64 most, .int .i64 bits] 29)).alloc (.cells #[.int .i64 0, .int .i64 0, .int .i64 0] 29) = w2 at *
      refine (hsm.out _ hg2).mono ?_
      rintro e w3 ⟨rfl, h3⟩
      rw [h3]
      go_wp2_with fail
      refine (hrs.out _ hg2).mono ?_
      rintro e w4 ⟨rfl, h4⟩
      rw [h4]
      have n0 := hBn.cell 0 rfl
      have n1 := hBn.cell 1 rfl
      have n2 := hBn.cell 2 rfl
      go_wp2_with fail
      refine (hct.out _ hg2).mono ?_
      rintro e w5 ⟨A5, c5, rfl, _, hg5⟩
      have hBn5 := hBn.grown hg5 (by simp)
      replace hg5 := gb_trans hg2 hg5
      have n0 := hBn5.cell 0 rfl
      have n1 := hBn5.cell 1 rfl
      have n2 := hBn5.cell 2 rfl
      go_wp2_with fail
      refine (hpcs.out _).mono ?_
      rintro e w6 ⟨rfl, hw6⟩
      have hBb6 := Blk.new (w5.alloc (.cells #[.int .i64 0, .int .i64 0, .int .i64 0] 29)) #[.slice A0 b.length c0] 24
      have hBc6 := (Blk.new w5 #[.int .i64 0, .int .i64 0, .int .i64 0] 29).alloc (.cells #[.slice A0 b.length c0] 24)
      have hg6 := gb_alloc (gb_alloc (gb_refl w5 none) (.cells #[.int .i64 0, .int .i64 0, .int .i64 0] 29)) (.cells #[.slice A0 b.length c0] 24)
      rw [World.size_alloc] at hBb6
      rw [← hw6] at hBb6 hBc6 hg6
      have hBn6 := hBn5.grown hg6 (by simp)
      have hgo := gone_zero (m := 9) (by omega) hBb6 hBc6
      replace hg6 := gb_trans hg5 hg6
      clear hw6 hBb6 hBc6 n0 n1 n2
      go_wp2_with fail
      refine hgo.mono ?_
      rintro e w7 ⟨A7, c7, rfl, _, hg7⟩
      have hBn7 := hBn6.grown hg7 (by simp)
      replace hg7 := gb_trans hg6 hg7
      have n0 := hBn7.cell 0 rfl
      have n1 := hBn7.cell 1 rfl
      have n2 := hBn7.cell 2 rfl
      go_wp2_with fail
      refine (hsh.out _ hg7).mono ?_
      rintro e w8 ⟨rfl, hg8⟩
      go_wp2_with fail
      refine (awake43 _).mono ?_
      rintro e w9 ⟨rfl, hg9⟩
      go_wp2_with fail
      go_ret
      exact ⟨rfl, gb_trans (gb_trans hg7 hg8) hg9⟩
    · have hnew := new_bad least most bits w hf
      have hrt := fun W => right_bad least most bits W hf
      unfold cv at hnew
      clear hf
      go_enter Try.func4, Try.ntmps4
      go_wp2_with fail
      refine hnew.mono ?_
      rintro e w1 ⟨rfl, hg1⟩
      go_wp2_with fail
      refine (hrt _).mono ?_
      rintro e w2 ⟨rfl, rfl⟩
      go_wp2_with fail
      have hBn := Blk.new (w1.alloc (.cells #[.int .i64 0, .int .i64 0, .int .i64 0] 29)) #[.int .i64 0, .int .i64 0, .int .i64 0] 29
      rw [World.size_alloc] at hBn
      have hg2 := gb_alloc (gb_alloc hg1 (.cells #[.int .i64 0, .int .i64 0, .int .i64 0] 29)) (.cells #[.int .i64 0, .int .i64 0, .int .i64 0] 29)
      generalize w1.heap.size = nb at *
      generalize (w1.alloc (.cells #[.int .i64 0, .int .i64 0, .int .i64 0] 29)).alloc (.cells #[.int .i64 0, .int .i64 0, .int .i64 0] 29) = w2 at *
      refine (hsm.out _ hg2).mono ?_
      rintro e w3 ⟨rfl, h3⟩
      rw [h3]
      go_wp2_with fail
      refine (hrs.out _ hg2).mono ?_
      rintro e w4 ⟨rfl, h4⟩
      rw [h4]
      have n0 := hBn.cell 0 rfl
      have n1 := hBn.cell 1 rfl
      have n2 := hBn.cell 2 rfl
      go_wp2_with fail
      refine (hct.out _ hg2).mono ?_
      rintro e w5 ⟨A5, c5, rfl, _, hg5⟩
      have hBn5 := hBn.grown hg5 (by simp)
      replace hg5 := gb_trans hg2 hg5
      have n0 := hBn5.cell 0 rfl
      have n1 := hBn5.cell 1 rfl
      have n2 := hBn5.cell 2 rfl
      go_wp2_with fail
      refine (hpcs.out _).mono ?_
      rintro e w6 ⟨rfl, hw6⟩
      have hBb6 := Blk.new (w5.alloc (.cells #[.int .i64 0, .int .i64 0, .int .i64 0] 29)) #[.slice A0 b.length c0] 24
      have hBc6 := (Blk.new w5 #[.int .i64 0, .int .i64 0, .int .i64 0] 29).alloc (.cells #[.slice A0 b.length c0] 24)
      have hg6 := gb_alloc (gb_alloc (gb_refl w5 none) (.cells #[.int .i64 0, .int .i64 0, .int .i64 0] 29)) (.cells #[.slice A0 b.length c0] 24)
      rw [World.size_alloc] at hBb6
      rw [← hw6] at hBb6 hBc6 hg6
      have hBn6 := hBn5.grown hg6 (by simp)
      have hgo := gone_zero (m := 9) (by omega) hBb6 hBc6
      replace hg6 := gb_trans hg5 hg6
      clear hw6 hBb6 hBc6 n0 n1 n2
      go_wp2_with fail
      refine hgo.mono ?_
      rintro e w7 ⟨A7, c7, rfl, _, hg7⟩
      have hBn7 := hBn6.grown hg7 (by simp)
      replace hg7 := gb_trans hg6 hg7
      have n0 := hBn7.cell 0 rfl
      have n1 := hBn7.cell 1 rfl
      have n2 := hBn7.cell 2 rfl
      go_wp2_with fail
      refine (hsh.out _ hg7).mono ?_
      rintro e w8 ⟨rfl, hg8⟩
      go_wp2_with fail
      refine (awake43 _).mono ?_
      rintro e w9 ⟨rfl, hg9⟩
      go_wp2_with fail
      go_ret
      exact ⟨rfl, gb_trans (gb_trans hg7 hg8) hg9⟩

section
open Go.ChangeShapes Go.WideShapes Go.ChangeAt
theorem chunkmakes_main {H : Type} {enc : TypeId × Value → H} {base : Nat} {v0 v1 v2 v3 : Value} {d0 d1 d2 d3 : DataW H} {p0 p1 p2 p3 : List MemPlace} (W : World)
    (k0 : Value.okWide Try.prog W .any base 3 v0) (h0 : DataW.Trod enc Try.prog W 0 (fun _ => true) true 3 v0 d0 p0)
    (k1 : Value.okWide Try.prog W .any base 3 v1) (h1 : DataW.Trod enc Try.prog W 0 (fun _ => true) true 3 v1 d1 p1)
    (k2 : Value.okWide Try.prog W .any base 3 v2) (h2 : DataW.Trod enc Try.prog W 0 (fun _ => true) true 3 v2 d2 p2)
    (k3 : Value.okWide Try.prog W .any base 24 v3) (h3 : DataW.Trod enc Try.prog W 0 (fun _ => true) true 24 v3 d3 p3) :
    Calls Try.prog 4 #[v0, v1, v2, v3] W fun e w' => e = .returned (.bool true) ∧ W.grownBy w' none := by
  obtain ⟨x, rfl, _⟩ := okWide_int Try.underlying3 k0
  obtain ⟨y, rfl, _⟩ := okWide_int Try.underlying3 k1
  obtain ⟨z, rfl, _⟩ := okWide_int Try.underlying3 k2
  obtain ⟨A0, c0, b, rfl, hlc, hcm, hR, hv⟩ := open_bytes k3 h3
  exact law_makes x y z A0 c0 b W hR hv hlc (by unfold maxLen at hcm; omega)
end
end Go.Proofs.Ytephnmmbmacbfaa
