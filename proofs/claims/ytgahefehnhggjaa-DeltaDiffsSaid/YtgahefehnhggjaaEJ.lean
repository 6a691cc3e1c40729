/- The walk of the law DeltaPatches. -/
import Derived.Test.YtgahefehnhggjaaEI
namespace Go.Proofs.Ytgahefehnhggjaa
set_option linter.unusedVariables false
set_option linter.unusedSimpArgs false
open Go.RowKit Go.Own Go.Delta Go.ChangeShapes

set_option maxHeartbeats 1600000 in
theorem patch_bad (So SL : Option Addr) (lo co ll cl : Nat) (size : Int) (w : World) (hs : size < 1 ∨ 4096 < size) :
    Calls Try.prog 6 #[.slice So lo co, .slice SL ll cl, .int .i64 size] w fun e w' => e = .returned (.tuple #[.slice none 0 0, .int .i64 1]) ∧ w' = w := by
  by_cases h : size < 1
  · go_enter Try.func6, Try.ntmps6
    go_wp2_with fail
    go_ret2
    exact ⟨rfl, rfl⟩
  · have h2 : 4096 < size := by omega
    go_enter Try.func6, Try.ntmps6
    go_wp2_with fail
    go_ret2
    exact ⟨rfl, rfl⟩

set_option maxHeartbeats 12800000 in
set_option maxRecDepth 100000 in
theorem law_patches (A0 A1 : Option Addr) (c0 c1 : Nat) (old : List Nat) (l : List Pt) (size : Int) (w : World) (hO : Rd w w.heap.size 1 A0 old.length (old.map bv)) (hc0 : old.length ≤ c0) (hcm0 : c0 ≤ 9223372036854775807)
    (hL : Rd w w.heap.size 2 A1 l.length (l.flatMap ptC)) (hP : PtOk w w.heap.size l) :
    Calls Try.prog 3 #[.slice A0 old.length c0, .slice A1 l.length c1, .int .i64 size] w fun e w' => e = .returned (.bool true) ∧ w.grownBy w' none := by
  by_cases hl : 400 < old.length
  · go_enter Try.func3, Try.ntmps3
    go_wp2_with fail
    refine (awake36 _).mono ?_
    rintro e w5 ⟨rfl, hg5⟩
    go_wp2_with fail
    go_ret
    exact ⟨rfl, hg5⟩
  by_cases hl2 : 50 < l.length
  · go_enter Try.func3, Try.ntmps3
    go_wp2_with fail
    refine (awake36 _).mono ?_
    rintro e w5 ⟨rfl, hg5⟩
    go_wp2_with fail
    go_ret
    exact ⟨rfl, hg5⟩
  have hli : (old.length : Int) ≤ 400 := by omega
  have hli2 : (l.length : Int) ≤ 50 := by omega
  go_enter Try.func3, Try.ntmps3
  go_wp2_with fail
  go_loopw [7] (fun v7 wi => ∃ k : Nat, v7 = .int .i64 k ∧ k ≤ l.length ∧ (∀ i (h : i < l.length), i < k → l[i].f.length ≤ 100) ∧ w.grownBy wi none) (fun v7 _ => l.length - (intOf v7).toNat)
  case atStart => exact ⟨0, rfl, by omega, fun i h h2 => by omega, gb_refl _ _⟩
  case round =>
    obtain ⟨k, rfl, hk, hall, hg⟩ := hrel
    by_cases hkl : k < l.length
    · have hki : (k : Int) < (l.length : Int) := by omega
      obtain ⟨lg, lo, rfl, hlg, hcc0, hcc1⟩ := rd_pt hL hkl
      replace hcc1 := hg.cell hcc1 (by simp)
      clear hcc0
      by_cases hf : 100 < l[k].f.length
      · have hfi : (100 : Int) < (l[k].f.length : Int) := by omega
        generalize l[k] = t at *
        clear hall hP
        go_wp2_with fail
        refine (awake36 _).mono ?_
        rintro e w5 ⟨rfl, hg5⟩
        go_wp2_with fail
        go_ret
        exact ⟨rfl, gb_trans hg hg5⟩
      · have hfi : ¬ (100 : Int) < (l[k].f.length : Int) := by omega
        have hnx : ∀ i (h : i < l.length), i < k + 1 → l[i].f.length ≤ 100 := fun i h h2 => by
          by_cases h3 : i < k
          · exact hall i h h3
          · have : i = k := by omega
            subst this
            omega
        replace hnx := Lib.hid hnx
        clear hall hf
        generalize l[k] = t at *
        go_wp2_with fail
        go_roundw
        case rel => exact ⟨k + 1, by go_num, by omega, hnx.out, hg⟩
        case measure => first | (simp [intOf]; done) | (simp [intOf]; omega)
    · have hk2 : k = l.length := by omega
      subst hk2
      have hf100 : ∀ t ∈ l, t.f.length ≤ 4096 := fun t ht => by
        obtain ⟨i, hi, rfl⟩ := List.getElem_of_mem ht
        have := hall i hi hi
        omega
      replace hf100 := Lib.hid hf100
      clear hall
      have h7 := to_any l A1 c1 _ wr (hL.later hg (Nat.le_refl _)) hg.size (by omega)
      go_wp2_with fail
      refine h7.mono ?_
      rintro e w1 ⟨A2, c2, rfl, hO2, hg1⟩
      have hg01 := gb_trans hg hg1
      clear h7
      by_cases hsz : size < 1 ∨ 4096 < size
      · have hbad := fun W => patch_bad A0 A2 old.length c0 l.length c2 size W hsz
        by_cases hs1 : size < 1
        · go_wp2_with fail
          refine (hbad _).mono ?_
          rintro e w2 ⟨rfl, rfl⟩
          go_wp2_with fail
          refine (awake36 _).mono ?_
          rintro e w5 ⟨rfl, hg5⟩
          go_wp2_with fail
          go_ret
          exact ⟨rfl, gb_trans hg01 hg5⟩
        · have hs2 : 4096 < size := by omega
          go_wp2_with fail
          refine (hbad _).mono ?_
          rintro e w2 ⟨rfl, rfl⟩
          go_wp2_with fail
          refine (awake36 _).mono ?_
          rintro e w5 ⟨rfl, hg5⟩
          go_wp2_with fail
          go_ret
          exact ⟨rfl, gb_trans hg01 hg5⟩
      · obtain ⟨sz, rfl⟩ : ∃ n : Nat, size = (n : Int) := ⟨size.toNat, by omega⟩
        have hs1 : ¬ ((sz : Int) < 1) := by omega
        have hs2 : ¬ (4096 < (sz : Int)) := by omega
        have h6 := patch_any old l A0 A2 c0 c2 _ sz w1 ((hO.later hg01 (Nat.le_refl _)).mono hg01.size) hO2.rd (fun p hp => ⟨((hP p hp).1.later hg01 (Nat.le_refl _)).mono hg01.size, (hP p hp).2⟩) (Nat.le_refl _) (by omega) (by omega) (by omega) (by omega) hf100.out hc0 hcm0
        have h8 := fun W (hW : w.grownBy W none) => rpatch_any old l A0 A1 c0 c1 _ sz W (hO.later hW (Nat.le_refl _)) (hL.later hW (Nat.le_refl _)) (fun p hp => ⟨(hP p hp).1.later hW (Nat.le_refl _), (hP p hp).2⟩) hW.size (by omega) (by omega) (by omega) (by omega) hf100.out hc0 hcm0
        clear hsz hO2
        generalize patchF old sz (l.map prt) [] = res at *
        cases res with
        | none =>
          go_wp2_with fail
          refine h6.mono ?_
          rintro e w2 ⟨rfl, hg2⟩
          have hg02 := gb_trans hg01 hg2
          go_wp2_with fail
          refine (h8 _ hg02).mono ?_
          rintro e w3 ⟨rfl, hg3⟩
          have hg03 := gb_trans hg02 hg3
          have hv1 := conv_any 0 (Rd.nil w3 0 1 none) (l := []) rfl
          clear h6 h8
          go_wp2_with fail
          refine (awake36 _).mono ?_
          rintro e w5 ⟨rfl, hg5⟩
          go_wp2_with fail
          go_ret
          exact ⟨rfl, gb_trans hg03 hg5⟩
        | some o =>
          go_wp2_with fail
          refine h6.mono ?_
          rintro e w2 ⟨⟨A3, c3, rfl, hO3⟩, hg2⟩
          have hg02 := gb_trans hg01 hg2
          go_wp2_with fail
          refine (h8 _ hg02).mono ?_
          rintro e w3 ⟨⟨A4, c4, rfl, hO4⟩, hg3⟩
          have hg03 := gb_trans hg02 hg3
          have hv1 := conv_any c3 (hO3.grown0 hg3).rd rfl
          have hv2 := conv_any c4 hO4.rd rfl
          clear h6 h8
          go_wp2_with fail
          refine (awake36 _).mono ?_
          rintro e w5 ⟨rfl, hg5⟩
          go_wp2_with fail
          go_ret
          exact ⟨rfl, gb_trans hg03 hg5⟩

section
open Go.ChangeShapes Go.WideShapes Go.ChangeAt
theorem deltapatches_main {H : Type} {enc : TypeId × Value → H} {base : Nat} {v0 v1 v2 : Value} {d0 d1 d2 : DataW H} {p0 p1 p2 : List MemPlace} (W : World)
    (k0 : Value.okWide Try.prog W .any base 22 v0) (h0 : DataW.Trod enc Try.prog W 0 (fun _ => true) true 22 v0 d0 p0)
    (k1 : Value.okWide Try.prog W .any base 23 v1) (h1 : DataW.Trod enc Try.prog W 0 (fun _ => true) true 23 v1 d1 p1)
    (k2 : Value.okWide Try.prog W .any base 3 v2) (h2 : DataW.Trod enc Try.prog W 0 (fun _ => true) true 3 v2 d2 p2) :
    Calls Try.prog 3 #[v0, v1, v2] W fun e w' => e = .returned (.bool true) ∧ W.grownBy w' none := by
  obtain ⟨A0, c0, old, rfl, hlc, hcm, hR, hv⟩ := open_bytes k0 h0
  obtain ⟨A1, c1, l, rfl, hlc1, hcm1, hR1, hv1⟩ := open_parts k1 h1
  obtain ⟨n, rfl, _⟩ := okWide_int Try.underlying3 k2
  exact law_patches A0 A1 c0 c1 old l n W hR hlc (by unfold maxLen at hcm; omega) hR1 hv1
end
end Go.Proofs.Ytgahefehnhggjaa
