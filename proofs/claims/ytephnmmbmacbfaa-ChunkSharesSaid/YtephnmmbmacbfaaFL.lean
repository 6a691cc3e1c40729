/- The walks of the law's ends and alike. -/
import Derived.Test.YtephnmmbmacbfaaFK
import Derived.Test.YtephnmmbmacbfaaCC
namespace Go.Proofs.Ytephnmmbmacbfaa
set_option linter.unusedVariables false
set_option linter.unusedSimpArgs false
open Go.RowKit Go.Own Go.Chunk

theorem pcs_cell {w : World} {base c g : Nat} {S : Option Addr} {L : List Nat} (h : Own.Own w base 24 1 (some ⟨g, 0, none⟩) c L.length ((pcs L L.length).map (cutV S))) {j : Nat} (hj : j < L.length) : w.cell? ⟨g, j, none⟩ = some (cutV S (at' L j, L.getD j 0)) := by
  have hp : j < (pcs L L.length).length := by rw [pcs_length]; exact hj
  have := cut_cell h hp (pcs_length _ _)
  rw [this]
  congr 2
  simp [pcs]

theorem ends_take (L : List Nat) (j : Nat) (h : j < L.length) : (endsOf L).take (j + 1) = (endsOf L).take j ++ [at' L (j + 1)] := by
  have hl : j < (endsOf L).length := by rw [endsOf_length]; exact h
  rw [List.take_succ_eq_append_getElem hl]
  congr 2
  simp [endsOf]

set_option maxHeartbeats 3200000 in
set_option maxRecDepth 100000 in
theorem ends43_any (L : List Nat) (A S : Option Addr) (c base : Nat) (w : World) (hO : Own.Own w base 24 1 A c L.length ((pcs L L.length).map (cutV S))) (hL : L.length ≤ 100000) (hs : L.sum ≤ 100000) :
    Calls Try.prog 18 #[.slice A L.length c] w (Gives w 3 1 L.length ((endsOf L).map nv)) := by
  obtain ⟨it, hi, hz0, hz1, hz2⟩ := info_parts info3
  go_enter Try.func18, Try.ntmps18
  go_wp2_with fail
  go_loopw [3, 4, 5] (fun v3 v4 v5 wi => ∃ (j a : Nat) (A' : Option Addr) (c' : Nat), v5 = .int .i64 j ∧ v3 = .int .i64 a ∧ v4 = .slice A' j c' ∧ j ≤ L.length ∧ Hid (a = at' L j) ∧ Own.Own wi w.heap.size 3 1 A' c' j (((endsOf L).take j).map nv) ∧ w.grownBy wi none)
    (fun _ _ v5 _ => L.length - (intOf v5).toNat)
  case atStart => exact ⟨0, 0, none, 0, rfl, rfl, rfl, Nat.zero_le _, Lib.hid rfl, Own.Own.nil _ _ _ _, gb_refl _ _⟩
  case round =>
    obtain ⟨j, a, A', c', rfl, rfl, rfl, hj, ha, hO', hg⟩ := hrel
    by_cases hjl : j < L.length
    · have hji : (j : Int) < (L.length : Int) := by omega
      have hOg := hO.grown0 hg
      obtain ⟨g1, rfl, hbg, hlg⟩ := hOg.form (by omega)
      have cc := pcs_cell hOg hjl
      unfold cutV at cc
      dsimp only at cc
      have has := at_succ L j hjl
      have hal := at_le L (j + 1)
      have het := ends_take L j hjl
      rw [← ha.out] at has
      obtain ⟨p, hp⟩ : ∃ p, p = L.getD j 0 := ⟨_, rfl⟩
      rw [← hp] at cc has
      obtain ⟨s, hs2⟩ : ∃ s, s = a + p := ⟨_, rfl⟩
      rw [has, ← hs2] at het hal
      have hsi : (a : Int) + (p : Int) = (s : Int) := by omega
      have hs5 : (s : Int) ≤ 100000 := by omega
      have hnx := Lib.hid (hs2.trans has.symm)
      have hby : (j + 1) * 8 ≤ 140737488355328 := by omega
      clear hp has hs2
      go_wp2_with (at_builtin; refine wpList_app1 wr rfl (.tmp 19) (.tmp 21) 33 rfl w.heap.size 3 Try.underlying33 hi hz0 hz1 hz2 rfl (by decide) A' c' j (((endsOf L).take j).map nv) rfl hO' [nv s] 3 1 rfl rfl (by intro u hu; simp at hu; subst hu; rfl) hby (by decide) hg.size ?_; intro g2 c2 w6 hO6 hgr hloc hbg2 hlt2)
      go_roundw
      case rel =>
        refine ⟨j + 1, s, some ⟨g2, 0, none⟩, c2, by go_num, rfl, rfl, by omega, hnx, ?_, gb_own hg hgr (fun g h => (hO'.lt g h).1)⟩
        rw [het, List.map_append]
        exact hO6
      case measure => first | (simp [intOf]; done) | (simp [intOf]; omega)
    · have hj2 : j = L.length := by omega
      subst hj2
      rw [List.take_of_length_le (by rw [endsOf_length]; exact Nat.le_refl _)] at hO'
      go_wp2_with fail
      go_ret
      exact ⟨A', c', rfl, hO', hg⟩

theorem rd_nv {w : World} {B : Nat} {S : Option Addr} {L : List Nat} (h : Rd w B 1 S L.length (L.map nv)) {i : Nat} (hi : i < L.length) :
    ∃ g off, S = some ⟨g, off, none⟩ ∧ g < B ∧ ∀ j, j < L.length → w.cell? ⟨g, off + j, none⟩ = some (.int .i64 (L.getD j 0 : Nat)) := by
  obtain ⟨g, off, hS, hg, hc⟩ := h.form (by omega)
  exact ⟨g, off, hS, hg, fun j hj => hc j _ (by simp [hj, nv])⟩

/-- What alike asks. -/
def AlikeL (E1 E2 : List Nat) (m n most : Nat) : Prop := ∀ i k, i < E1.length → k < E2.length → m - E1.getD i 0 = n - E2.getD k 0 → m - E1.getD i 0 ≤ most →
  E1.length - i = E2.length - k ∧ ∀ j, i + j < E1.length → k + j < E2.length → m - E1.getD (i + j) 0 = n - E2.getD (k + j) 0

set_option maxHeartbeats 6400000 in
set_option maxRecDepth 100000 in
theorem alike_any (E1 E2 : List Nat) (A1 A2 : Option Addr) (c1 c2 m n most B1 B2 : Nat) (w : World) (h1 : Rd w B1 1 A1 E1.length (E1.map nv)) (h2 : Rd w B2 1 A2 E2.length (E2.map nv)) (hB1 : B1 ≤ w.heap.size) (hB2 : B2 ≤ w.heap.size)
    (hm1 : ∀ i, i < E1.length → E1.getD i 0 ≤ m) (hn2 : ∀ i, i < E2.length → E2.getD i 0 ≤ n) (hm : m ≤ 100000) (hn : n ≤ 100000) (he1 : E1.length ≤ 100000) (he2 : E2.length ≤ 100000) (hA : AlikeL E1 E2 m n most) :
    Calls Try.prog 17 #[.slice A1 E1.length c1, .slice A2 E2.length c2, .int .i64 m, .int .i64 n, .int .i64 most] w fun e w' => e = .returned (.bool true) ∧ w.grownBy w' none := by
  replace hA := Lib.hid hA
  replace hm1 := Lib.hid hm1
  replace hn2 := Lib.hid hn2
  go_enter Try.func17, Try.ntmps17
  go_wp2_with fail
  go_loopw [11] (fun v11 wi => ∃ i : Nat, v11 = .int .i64 i ∧ i ≤ E1.length ∧ w.grownBy wi none)
    (fun v11 _ => E1.length - (intOf v11).toNat)
  case atStart => exact ⟨0, rfl, Nat.zero_le _, gb_refl _ _⟩
  case round =>
    obtain ⟨i, rfl, hi, hg⟩ := hrel
    by_cases hil : i < E1.length
    · have hii : (i : Int) < (E1.length : Int) := by omega
      have hi5 : (i : Int) ≤ 100000 := by omega
      go_wp2_with fail
      go_loopw [12] (fun v12 wi => ∃ k : Nat, v12 = .int .i64 k ∧ k ≤ E2.length ∧ wr.grownBy wi none)
        (fun v12 _ => E2.length - (intOf v12).toNat)
      case atStart => exact ⟨0, rfl, Nat.zero_le _, gb_refl _ _⟩
      case round =>
        obtain ⟨k, rfl, hk, hg2⟩ := hrel
        by_cases hkl : k < E2.length
        · have hki : (k : Int) < (E2.length : Int) := by omega
          have hk5 : (k : Int) ≤ 100000 := by omega
          have hgw := gb_trans hg hg2
          obtain ⟨g1, o1, rfl, hg1, hc1⟩ := rd_nv (h1.later hgw hB1) hil
          obtain ⟨g2, o2, rfl, hgg2, hc2⟩ := rd_nv (h2.later hgw hB2) hkl
          have ca := hc1 i hil
          have cb := hc2 k hkl
          have ea := hm1.out i hil
          have eb := hn2.out k hkl
          have hAik := hA.out i k hil hkl
          have HC1 := Lib.hid (fun W (hW : w.grownBy W none) => (rd_nv (h1.later hW hB1) hil))
          have HC2 := Lib.hid (fun W (hW : w.grownBy W none) => (rd_nv (h2.later hW hB2) hkl))
          obtain ⟨d1, hd1⟩ : ∃ d1, d1 = m - E1.getD i 0 := ⟨_, rfl⟩
          obtain ⟨d2, hd2⟩ : ∃ d2, d2 = n - E2.getD k 0 := ⟨_, rfl⟩
          rw [← hd1, ← hd2] at hAik
          replace hAik := Lib.hid hAik
          clear hc1 hc2
          generalize E1.getD i 0 = x1 at *
          generalize E2.getD k 0 = x2 at *
          have hs1 : (m : Int) - (x1 : Int) = (d1 : Int) := by omega
          have hs2 : (n : Int) - (x2 : Int) = (d2 : Int) := by omega
          have hw1 : IntKind.i64.wrap ((m : Int) - (x1 : Int)) = (d1 : Int) := by rw [IntKind.wrap_i64]; omega
          have hw2 : IntKind.i64.wrap ((n : Int) - (x2 : Int)) = (d2 : Int) := by rw [IntKind.wrap_i64]; omega
          clear hd1 hd2 hs1 hs2
          by_cases hdd : d1 = d2
          · by_cases hdm : most < d1
            · have hdmi : (most : Int) < (d1 : Int) := by omega
              have hdt : ((d1 : Int) != (d2 : Int)) = false := by simp; omega
              clear hdd
              go_wp2_with fail
              go_quiet (fail)
              go_wp2_with fail
              exact ⟨⟨k + 1, by go_num, by omega, gb_drewN hg2 _⟩, by simp [intOf]; omega⟩
            · have hdmi : ¬ ((most : Int) < (d1 : Int)) := by omega
              have hdt : ((d1 : Int) != (d2 : Int)) = false := by simp; omega
              obtain ⟨hlen, hall⟩ := hAik.out hdd (by omega)
              replace hall := Lib.hid hall
              obtain ⟨q, hq⟩ : ∃ q, q = E1.length - i := ⟨_, rfl⟩
              have hl1 : (E1.length : Int) - (i : Int) = (q : Int) := by omega
              have hl2 : (E2.length : Int) - (k : Int) = (q : Int) := by omega
              have hlenh := Lib.hid hlen
              clear hdd hq hlen
              go_wp2_with fail
              go_quiet (fail)
              go_wp2_with fail
              clear hdt hdmi hw1 hw2 ca cb hl1 hl2
              go_loopw [13] (fun v13 wi => ∃ j : Nat, v13 = .int .i64 j ∧ i + j ≤ E1.length ∧ (wr.drewN nq).grownBy wi none)
                (fun v13 _ => E1.length - (intOf v13).toNat)
              case atStart => exact ⟨0, rfl, by omega, gb_refl _ _⟩
              case round =>
                obtain ⟨j, rfl, hj, hg3⟩ := hrel
                have hg5 := gb_trans (gb_drewN hgw _) hg3
                obtain ⟨s1, hs1⟩ : ∃ s, s = i + j := ⟨_, rfl⟩
                obtain ⟨s2, hs2⟩ : ∃ s, s = k + j := ⟨_, rfl⟩
                have ha1 : (i : Int) + (j : Int) = (s1 : Int) := by omega
                have ha2 : (k : Int) + (j : Int) = (s2 : Int) := by omega
                have hj5 : (j : Int) ≤ 100000 := by omega
                have hs15 : (s1 : Int) ≤ 100000 := by omega
                have hls := hlenh.out
                by_cases hsl : s1 < E1.length
                · have hsl2 : s2 < E2.length := by omega
                  have hsi1 : (s1 : Int) < (E1.length : Int) := by omega
                  have hsi2 : (s2 : Int) < (E2.length : Int) := by omega
                  obtain ⟨g1', o1', e1', _, hc1⟩ := HC1.out _ hg5
                  obtain ⟨g2', o2', e2', _, hc2⟩ := HC2.out _ hg5
                  injection e1' with e1'; injection e1' with e11 e12; subst e11; subst e12
                  injection e2' with e2'; injection e2' with e21 e22; subst e21; subst e22
                  have ya := hc1 s1 hsl
                  have yb := hc2 s2 hsl2
                  have za := hm1.out s1 hsl
                  have zb := hn2.out s2 hsl2
                  have hall2 := hall.out j (by rw [← hs1]; exact hsl) (by rw [← hs2]; exact hsl2)
                  rw [← hs1, ← hs2] at hall2
                  obtain ⟨dd, hdd⟩ : ∃ dd, dd = m - E1.getD s1 0 := ⟨_, rfl⟩
                  rw [← hdd] at hall2
                  clear hc1 hc2
                  generalize E1.getD s1 0 = y1 at *
                  generalize E2.getD s2 0 = y2 at *
                  have hw1 : IntKind.i64.wrap ((m : Int) - (y1 : Int)) = (dd : Int) := by rw [IntKind.wrap_i64]; omega
                  have hw2 : IntKind.i64.wrap ((n : Int) - (y2 : Int)) = (dd : Int) := by rw [IntKind.wrap_i64]; omega
                  have hw3 : IntKind.i64.wrap ((i : Int) + (j : Int)) = (s1 : Int) := by rw [IntKind.wrap_i64]; omega
                  have hw4 : IntKind.i64.wrap ((k : Int) + (j : Int)) = (s2 : Int) := by rw [IntKind.wrap_i64]; omega
                  have hs1h := Lib.hid hs1
                  clear hdd hall2 hs1 hs2 hls
                  go_wp2_with fail
                  go_quiet (fail)
                  go_wp2_with fail
                  go_roundw
                  case rel => exact ⟨j + 1, by go_num, by have := hs1h.out; omega, gb_drewN hg3 _⟩
                  case measure => first | (simp [intOf]; done) | (simp [intOf]; omega)
                · have hsi1 : ¬ ((s1 : Int) < (E1.length : Int)) := by omega
                  clear hs1 hs2 hls
                  go_wp2_with fail
                  go_roundw
                  case rel => exact ⟨k + 1, by go_num, by omega, gb_trans (gb_drewN hg2 _) hg3⟩
                  case measure => first | (simp [intOf]; done) | (simp [intOf]; omega)
          · have hdt : ((d1 : Int) != (d2 : Int)) = true := by simp; omega
            clear hdd
            go_wp2_with fail
            go_quiet (fail)
            go_wp2_with fail
            exact ⟨⟨k + 1, by go_num, by omega, gb_drewN hg2 _⟩, by simp [intOf]; omega⟩
        · have hki : ¬ ((k : Int) < (E2.length : Int)) := by omega
          go_wp2_with fail
          go_roundw
          case rel => exact ⟨i + 1, by go_num, by omega, gb_trans hg hg2⟩
          case measure => first | (simp [intOf]; done) | (simp [intOf]; omega)
    · have hii : ¬ ((i : Int) < (E1.length : Int)) := by omega
      go_wp2_with fail
      go_ret
      exact ⟨rfl, hg⟩
end Go.Proofs.Ytephnmmbmacbfaa
