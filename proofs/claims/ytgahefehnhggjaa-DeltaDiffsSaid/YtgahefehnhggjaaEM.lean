/- The walk of the law DeltaDiffs. -/
import Derived.Test.YtgahefehnhggjaaEL
namespace Go.Proofs.Ytgahefehnhggjaa
set_option linter.unusedVariables false
set_option linter.unusedSimpArgs false
open Go.RowKit Go.Own Go.Delta Go.ChangeShapes

theorem shutS_bnd {out : List Prt} {run : List Nat} {n m : Nat} (ho : ∀ t ∈ out, t.2.length ≤ n) (hr : run.length ≤ n) (hm : out.length ≤ m) : (∀ t ∈ shutS out run, t.2.length ≤ n) ∧ (shutS out run).length ≤ m + 1 := by
  unfold shutS
  split
  · exact ⟨ho, by omega⟩
  · refine ⟨fun t ht => ?_, by simp; omega⟩
    rcases List.mem_append.1 ht with ht | ht
    · exact ho t ht
    · simp at ht; subst ht; exact hr

theorem diffF_bnd (old fresh : List Nat) (size : Nat) : ∀ (f p : Nat) (run : List Nat) (out : List Prt), run.length ≤ p → p ≤ fresh.length → (∀ t ∈ out, t.2.length ≤ fresh.length) →
    (∀ t ∈ diffF old fresh size f p run out, t.2.length ≤ fresh.length) ∧ (diffF old fresh size f p run out).length ≤ out.length + 2 * f + 1 := by
  intro f
  induction f with
  | zero => intro p run out h1 h2 h3; rw [diffF]; exact shutS_bnd h3 (by omega) (by omega)
  | succ f ih =>
    intro p run out h1 h2 h3
    rw [diffF]
    split
    · rename_i hp
      split
      · have := shutS_bnd (run := run ++ fresh.drop p) (m := out.length + 2 * f + 2) h3 (by simp; omega) (by omega)
        exact ⟨this.1, by omega⟩
      · rename_i h4
        dsimp only
        split
        · have h5 := shutS_bnd (run := run) (m := out.length) h3 (by omega) (Nat.le_refl _)
          have h6 := ih (p + size) [] (shutS out run ++ [(find old ((fresh.drop p).take size), [])]) (by simp) (by omega) (fun t ht => by
            rcases List.mem_append.1 ht with ht | ht
            · exact h5.1 t ht
            · simp at ht; subst ht; simp)
          refine ⟨h6.1, ?_⟩
          have := h6.2
          simp at this
          omega
        · have h6 := ih (p + 1) (run ++ [fresh.getD p 0]) out (by simp; omega) (by omega) h3
          exact ⟨h6.1, by omega⟩
    · have := shutS_bnd (run := run) (m := out.length) h3 (by omega) (Nat.le_refl _)
      exact ⟨this.1, by omega⟩

set_option maxHeartbeats 12800000 in
set_option maxRecDepth 100000 in
theorem law_diffs (A0 A1 : Option Addr) (c0 c1 : Nat) (old fresh : List Nat) (size : Int) (w : World) (hO : Rd w w.heap.size 1 A0 old.length (old.map bv)) (hc0 : old.length ≤ c0) (hcm0 : c0 ≤ 9223372036854775807) (hbo : ∀ v ∈ old, v < 256)
    (hF : Rd w w.heap.size 1 A1 fresh.length (fresh.map bv)) (hc1 : fresh.length ≤ c1) (hcm1 : c1 ≤ 9223372036854775807) (hbf : ∀ v ∈ fresh, v < 256) :
    Calls Try.prog 4 #[.slice A0 old.length c0, .slice A1 fresh.length c1, .int .i64 size] w fun e w' => e = .returned (.bool true) ∧ w.grownBy w' none := by
  by_cases hl : 400 < old.length
  · go_enter Try.func4, Try.ntmps4
    go_wp2_with fail
    refine (awake36 _).mono ?_
    rintro e w5 ⟨rfl, hg5⟩
    go_wp2_with fail
    go_ret
    exact ⟨rfl, hg5⟩
  by_cases hl2 : 400 < fresh.length
  · go_enter Try.func4, Try.ntmps4
    go_wp2_with fail
    refine (awake36 _).mono ?_
    rintro e w5 ⟨rfl, hg5⟩
    go_wp2_with fail
    go_ret
    exact ⟨rfl, hg5⟩
  have hli : (old.length : Int) ≤ 400 := by omega
  have hli2 : (fresh.length : Int) ≤ 400 := by omega
  by_cases hsz : size < 1 ∨ 4096 < size
  · have hbad := diff_bad A0 A1 old.length c0 fresh.length c1 size w hsz
    have hbad2 := fun W => patch_bad A0 none old.length c0 0 0 size W hsz
    by_cases hs1 : size < 1
    · go_enter Try.func4, Try.ntmps4
      go_wp2_with fail
      refine hbad.mono ?_
      rintro e w2 ⟨rfl, rfl⟩
      go_wp2_with fail
      refine (hbad2 _).mono ?_
      rintro e w3 ⟨rfl, rfl⟩
      go_wp2_with fail
      refine (awake36 _).mono ?_
      rintro e w5 ⟨rfl, hg5⟩
      go_wp2_with fail
      go_ret
      exact ⟨rfl, hg5⟩
    · have hs2 : 4096 < size := by omega
      go_enter Try.func4, Try.ntmps4
      go_wp2_with fail
      refine hbad.mono ?_
      rintro e w2 ⟨rfl, rfl⟩
      go_wp2_with fail
      refine (hbad2 _).mono ?_
      rintro e w3 ⟨rfl, rfl⟩
      go_wp2_with fail
      refine (awake36 _).mono ?_
      rintro e w5 ⟨rfl, hg5⟩
      go_wp2_with fail
      go_ret
      exact ⟨rfl, hg5⟩
  · obtain ⟨sz, rfl⟩ : ∃ n : Nat, size = (n : Int) := ⟨size.toNat, by omega⟩
    have hs1 : ¬ ((sz : Int) < 1) := by omega
    have hs2 : ¬ (4096 < (sz : Int)) := by omega
    have h9 := diff_any old fresh A0 A1 c0 c1 _ sz w hO hF (Nat.le_refl _) (by omega) (by omega) (by omega) (by omega) hc0 hcm0 hc1 hcm1 hbo hbf
    have hbd := diffF_bnd old fresh sz (fresh.length + 1) 0 [] [] (by simp) (by omega) (fun t ht => by simp at ht)
    have hpd := patch_diff old fresh sz (by omega)
    have hde : diffF old fresh sz (fresh.length + 1) 0 [] [] = diffS old fresh sz := rfl
    rw [hde] at hbd
    clear hde
    go_enter Try.func4, Try.ntmps4
    go_wp2_with fail
    refine h9.mono ?_
    rintro e w1 ⟨A2, c2, l, rfl, hl', hO2, hP2, hg1⟩
    clear h9
    have hll : l.length ≤ 900 := by
      have := hbd.2
      rw [← hl'] at this
      simp at this
      omega
    have hfl : ∀ t ∈ l, t.f.length ≤ 4096 := fun t ht => by
      have h := hbd.1 (prt t) (by rw [← hl']; exact List.mem_map_of_mem ht)
      have h' : t.f.length ≤ fresh.length := h
      omega
    rw [← hl'] at hpd
    have h6 := patch_any old l A0 A2 c0 c2 _ sz w1 ((hO.later hg1 (Nat.le_refl _)).mono hg1.size) hO2.rd hP2 (Nat.le_refl _) (by omega) (by omega) (by omega) (by omega) hfl hc0 hcm0
    rw [hpd] at h6
    have h12 := fun W (hW : w.grownBy W none) => rdiff_any old fresh A0 A1 c0 c1 _ sz W (hO.later hW (Nat.le_refl _)) (hF.later hW (Nat.le_refl _)) hW.size (by omega) (by omega) (by omega) (by omega) hc0 hcm0 hc1 hcm1 hbo hbf
    rw [← hl'] at h12
    replace h12 := Lib.hid h12
    replace hfl := Lib.hid hfl
    clear hpd hbd hl'
    go_wp2_with fail
    refine h6.mono ?_
    rintro e w2 ⟨⟨A3, c3, rfl, hO3⟩, hg2⟩
    clear h6
    have hg02 := gb_trans hg1 hg2
    have hO22 := hO2.grown0 hg2
    have hP22 : PtOk w2 w2.heap.size l := fun q hq => ⟨((hP2 q hq).1.later hg2 (Nat.le_refl _)).mono hg2.size, (hP2 q hq).2⟩
    clear hO2 hP2 hg1 hg2
    go_wp2_with fail
    go_loopw [11, 12] (fun v11 v12 wi => ∃ (k s : Nat), v12 = .int .i64 k ∧ v11 = .int .i64 s ∧ k ≤ l.length ∧ Hid (s = cost (l.take k)) ∧ s ≤ k * 4096 ∧ w2.grownBy wi none)
      (fun _ v12 _ => l.length - (intOf v12).toNat)
    case atStart => exact ⟨0, 0, rfl, rfl, by omega, Lib.hid rfl, by omega, gb_refl _ _⟩
    case round =>
      obtain ⟨k, s, rfl, rfl, hk, hs, hsb, hg⟩ := hrel
      by_cases hkl : k < l.length
      · have hki : (k : Int) < (l.length : Int) := by omega
        obtain ⟨lg, lo, rfl, hlg, hcc0, hcc1⟩ := rd_pt hO22.rd hkl
        have hpl := hfl.out _ (List.getElem_mem hkl)
        have hst := Lib.hid ((cost_take hkl).trans (by rw [← hs.out]))
        clear hcc0
        replace hcc1 := hg.cell hcc1 (by simp)
        generalize l[k] = t at *
        obtain ⟨b, f, fA, fc⟩ := t
        dsimp only at *
        generalize hml : f.length = m at *
        replace hml := Lib.hid hml
        go_wp2_with fail
        go_roundw
        case rel => exact ⟨k + 1, s + m, by go_num, by go_num, by omega, Lib.hid hst.out.symm, by omega, hg⟩
        case measure => first | (simp [intOf]; done) | (simp [intOf]; omega)
      · have hk2 : k = l.length := by omega
        subst hk2
        rw [List.take_length] at hs
        have h11 := of_any l A2 c2 _ wr (hO22.rd.later hg (Nat.le_refl _)) hg.size (by omega)
        go_wp2_with fail
        refine h11.mono ?_
        rintro e w3 ⟨A4, c4, rfl, hO4, hg3⟩
        have hg23 := gb_trans hg hg3
        clear h11
        go_wp2_with fail
        refine (h12.out _ (gb_trans hg02 hg23)).mono ?_
        rintro e w4 ⟨A5, c5, l5, rfl, hl5, hO5, hP5, hg4⟩
        have hg24 := gb_trans hg23 hg4
        have h10 := same_any l l5 A4 A5 c4 c5 _ w4 (hO4.grown0 hg4).rd hO5.rd (fun q hq => ⟨((hP22 q hq).1.later hg24 (Nat.le_refl _)).mono hg24.size, (hP22 q hq).2⟩) hP5 (Nat.le_refl _) (by omega) hl5.symm
        clear hl5 hO5 hP5
        go_wp2_with fail
        refine h10.mono ?_
        rintro e w5 ⟨rfl, hg5⟩
        have hg25 := gb_trans hg24 hg5
        have hv1 := conv_any c3 ((hO3.grown0 hg25).rd) rfl
        have hv2 := conv_any c1 (hF.later (gb_trans hg02 hg25) (Nat.le_refl _)) rfl
        have h13 := cost_any l A2 c2 _ w5 (hO22.rd.later hg25 (Nat.le_refl _)) hg25.size (by omega) hfl.out
        rw [← hs.out] at h13
        clear h10
        go_wp2_with fail
        refine h13.mono ?_
        rintro e w6 ⟨rfl, hg6⟩
        go_wp2_with fail
        refine (awake36 _).mono ?_
        rintro e w7 ⟨rfl, hg7⟩
        go_wp2_with fail
        go_ret
        exact ⟨rfl, gb_trans (gb_trans (gb_trans hg02 hg25) hg6) hg7⟩

section
open Go.ChangeShapes Go.WideShapes Go.ChangeAt
theorem deltadiffs_main {H : Type} {enc : TypeId × Value → H} {base : Nat} {v0 v1 v2 : Value} {d0 d1 d2 : DataW H} {p0 p1 p2 : List MemPlace} (W : World)
    (k0 : Value.okWide Try.prog W .any base 22 v0) (h0 : DataW.Trod enc Try.prog W 0 (fun _ => true) true 22 v0 d0 p0)
    (k1 : Value.okWide Try.prog W .any base 22 v1) (h1 : DataW.Trod enc Try.prog W 0 (fun _ => true) true 22 v1 d1 p1)
    (k2 : Value.okWide Try.prog W .any base 3 v2) (h2 : DataW.Trod enc Try.prog W 0 (fun _ => true) true 3 v2 d2 p2) :
    Calls Try.prog 4 #[v0, v1, v2] W fun e w' => e = .returned (.bool true) ∧ W.grownBy w' none := by
  obtain ⟨A0, c0, old, rfl, hlc, hcm, hR, hv⟩ := open_bytes k0 h0
  obtain ⟨A1, c1, fresh, rfl, hlc1, hcm1, hR1, hv1⟩ := open_bytes k1 h1
  obtain ⟨n, rfl, _⟩ := okWide_int Try.underlying3 k2
  exact law_diffs A0 A1 c0 c1 old fresh n W hR hlc (by unfold maxLen at hcm; omega) hv hR1 hlc1 (by unfold maxLen at hcm1; omega) hv1
end
end Go.Proofs.Ytgahefehnhggjaa
