/- The walks of the law's to and of. -/
import Derived.Test.YtgahefehnhggjaaEG
import Derived.Deep.RegionHeld3
namespace Go.Proofs.Ytgahefehnhggjaa
set_option linter.unusedVariables false
set_option linter.unusedSimpArgs false
open Go.RowKit Go.Own Go.Delta Go.ChangeShapes

theorem info26 : (Try.prog.info? 26).map (fun i => (i.zero, i.size, i.bytes)) = some (some (.agg #[.int .i64 0, .slice none 0 0]), 2, 32) := by kernel_rfl

theorem rd_new (w : World) (us : List Value) (t : TypeId) : Rd (w.alloc (.cells us.toArray t)) (w.heap.size + 1) us.length (some ⟨w.heap.size, 0, none⟩) 1 us :=
  ⟨by omega, fun _ => ⟨w.heap.size, 0, rfl, by omega, fun j u hu => by rw [Nat.zero_add]; exact cells_new w us t j u hu⟩⟩

theorem ptC_snoc (l : List Pt) (k : Nat) (h : k < l.length) : (l.take (k + 1)).flatMap ptC = (l.take k).flatMap ptC ++ ptC l[k] := by
  rw [List.take_succ_eq_append_getElem h, List.flatMap_append]
  simp

set_option maxHeartbeats 3200000 in
theorem to_any (l : List Pt) (SL : Option Addr) (cl B : Nat) (w : World) (hL : Rd w B 2 SL l.length (l.flatMap ptC)) (hB : B ≤ w.heap.size) (hll : l.length ≤ 4000) :
    Calls Try.prog 7 #[.slice SL l.length cl] w fun e w' => ∃ (A : Option Addr) (c : Nat), e = .returned (.slice A l.length c) ∧ Own w' w.heap.size 37 2 A c l.length (l.flatMap ptC) ∧ w.grownBy w' none := by
  obtain ⟨it, hi, hz0, hz1, hz2⟩ := info_parts info37
  go_enter Try.func7, Try.ntmps7
  go_wp2_with fail
  go_loopw [3, 4] (fun v3 v4 wi => ∃ (k : Nat) (A : Option Addr) (c : Nat), v4 = .int .i64 k ∧ v3 = .slice A k c ∧ k ≤ l.length ∧ Own wi w.heap.size 37 2 A c k ((l.take k).flatMap ptC) ∧ w.grownBy wi none)
    (fun _ v4 _ => l.length - (intOf v4).toNat)
  case atStart => exact ⟨0, none, 0, rfl, rfl, by omega, Own.nil _ _ _ _, gb_refl _ _⟩
  case round =>
    obtain ⟨k, A, c, rfl, rfl, hk, hOw, hg⟩ := hrel
    by_cases hkl : k < l.length
    · have hki : (k : Int) < (l.length : Int) := by omega
      obtain ⟨lg, lo, rfl, hlg, hc0, hc1⟩ := rd_pt hL hkl
      have d0 := fun W (h : w.grownBy W none) => h.cell hc0 (by simp)
      have d1 := fun W (h : w.grownBy W none) => h.cell hc1 (by simp)
      have hsn := ptC_snoc l k hkl
      obtain ⟨t, ht⟩ : ∃ t, t = l[k] := ⟨_, rfl⟩
      rw [← ht] at d0 d1 hsn
      obtain ⟨b, f, fA, fc⟩ := t
      replace ht := Lib.hid ht
      replace hsn := Lib.hid hsn
      clear hc0 hc1
      dsimp only at *
      have hone := ptC_one ⟨b, f, fA, fc⟩
      have hby : (k + 1) * 32 ≤ 140737488355328 := by omega
      have hgs := hg.size
      have h63 : k + 1 ≤ maxLen := by simp only [maxLen]; omega
      go_wp2_with fail
      go_region_held3 (fun w' => w.grownBy w' none)
        (repeat' (first | assumption | exact gb_refl _ _ | refine gb_alloc ?_ _ | refine gb_drew ?_ | refine gb_own ?_ hg5 (fun g hg => (hOw.lt g hg).1)))
        (first
          | (refine step_appN _ (by rfl) (.tmp 11) (.tmp 23) 30 (by rfl) w.heap.size 37 Try.underlying30 hi hz0 hz1 hz2 rfl (by decide) A c k ((l.take k).flatMap ptC) (by rfl) (hOw.drew.alloc _) _ _ 1 _ (ptC ⟨b, f, fA, fc⟩) (by rfl) (rd_new wr.drew (ptC ⟨b, f, fA, fc⟩) 37) hone h63 hby (by simp; omega) ?_; intro A5 c5 w5 hO5 hg5 hloc))
      go_wp2_with fail
      go_roundw
      case rel =>
        refine ⟨k + 1, _, c5, by go_num, rfl, by omega, ?_, by assumption⟩
        rw [hsn.out]
        exact hO5
      case measure => first | (simp [intOf]; done) | (simp [intOf]; omega)
    · have hk2 : k = l.length := by omega
      subst hk2
      rw [List.take_length] at hOw
      go_wp2_with fail
      go_ret
      exact ⟨A, c, rfl, hOw, hg⟩

set_option maxHeartbeats 3200000 in
theorem of_any (l : List Pt) (SL : Option Addr) (cl B : Nat) (w : World) (hL : Rd w B 2 SL l.length (l.flatMap ptC)) (hB : B ≤ w.heap.size) (hll : l.length ≤ 4000) :
    Calls Try.prog 11 #[.slice SL l.length cl] w fun e w' => ∃ (A : Option Addr) (c : Nat), e = .returned (.slice A l.length c) ∧ Own w' w.heap.size 26 2 A c l.length (l.flatMap ptC) ∧ w.grownBy w' none := by
  obtain ⟨it, hi, hz0, hz1, hz2⟩ := info_parts info26
  go_enter Try.func11, Try.ntmps11
  go_wp2_with fail
  go_loopw [3, 4] (fun v3 v4 wi => ∃ (k : Nat) (A : Option Addr) (c : Nat), v4 = .int .i64 k ∧ v3 = .slice A k c ∧ k ≤ l.length ∧ Own wi w.heap.size 26 2 A c k ((l.take k).flatMap ptC) ∧ w.grownBy wi none)
    (fun _ v4 _ => l.length - (intOf v4).toNat)
  case atStart => exact ⟨0, none, 0, rfl, rfl, by omega, Own.nil _ _ _ _, gb_refl _ _⟩
  case round =>
    obtain ⟨k, A, c, rfl, rfl, hk, hOw, hg⟩ := hrel
    by_cases hkl : k < l.length
    · have hki : (k : Int) < (l.length : Int) := by omega
      obtain ⟨lg, lo, rfl, hlg, hc0, hc1⟩ := rd_pt hL hkl
      have d0 := fun W (h : w.grownBy W none) => h.cell hc0 (by simp)
      have d1 := fun W (h : w.grownBy W none) => h.cell hc1 (by simp)
      have hsn := ptC_snoc l k hkl
      obtain ⟨t, ht⟩ : ∃ t, t = l[k] := ⟨_, rfl⟩
      rw [← ht] at d0 d1 hsn
      obtain ⟨b, f, fA, fc⟩ := t
      replace ht := Lib.hid ht
      replace hsn := Lib.hid hsn
      clear hc0 hc1
      dsimp only at *
      have hone := ptC_one ⟨b, f, fA, fc⟩
      have hby : (k + 1) * 32 ≤ 140737488355328 := by omega
      have hgs := hg.size
      have h63 : k + 1 ≤ maxLen := by simp only [maxLen]; omega
      go_wp2_with fail
      go_region_held3 (fun w' => w.grownBy w' none)
        (repeat' (first | assumption | exact gb_refl _ _ | refine gb_alloc ?_ _ | refine gb_drew ?_ | refine gb_own ?_ hg5 (fun g hg => (hOw.lt g hg).1)))
        (first
          | (refine step_appN _ (by rfl) (.tmp 11) (.tmp 23) 23 (by rfl) w.heap.size 26 Try.underlying23 hi hz0 hz1 hz2 rfl (by decide) A c k ((l.take k).flatMap ptC) (by rfl) (hOw.drew.alloc _) _ _ 1 _ (ptC ⟨b, f, fA, fc⟩) (by rfl) (rd_new wr.drew (ptC ⟨b, f, fA, fc⟩) 26) hone h63 hby (by simp; omega) ?_; intro A5 c5 w5 hO5 hg5 hloc))
      go_wp2_with fail
      go_roundw
      case rel =>
        refine ⟨k + 1, _, c5, by go_num, rfl, by omega, ?_, by assumption⟩
        rw [hsn.out]
        exact hO5
      case measure => first | (simp [intOf]; done) | (simp [intOf]; omega)
    · have hk2 : k = l.length := by omega
      subst hk2
      rw [List.take_length] at hOw
      go_wp2_with fail
      go_ret
      exact ⟨A, c, rfl, hOw, hg⟩
end Go.Proofs.Ytgahefehnhggjaa
