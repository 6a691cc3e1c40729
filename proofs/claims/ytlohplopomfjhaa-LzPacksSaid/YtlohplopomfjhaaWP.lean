/- The walk of the law BitioTakes. -/
import Derived.Test.YtlohplopomfjhaaWO
namespace Go.Proofs.Ytlohplopomfjhaa
set_option linter.unusedVariables false
set_option linter.unusedSimpArgs false
open Go.RowKit Go.Own Go.Bits

theorem RdS.beside {w w' : World} {g g' : Nat} {L L' : List Bool} {t t' : Bool} (h : RdS w g L t) (k : TkS w g' L' t') (hg : w.grownBy w' (some g')) : RdS w' g L t := by
  obtain ⟨A, c, hB, _⟩ := k
  refine h.tch (S := fun j => j = g') (tch_some hg rfl) (fun j cs ty e hb => ?_)
  subst e
  unfold Blk at hb hB
  rw [hB] at hb
  simp at hb
  rw [← hb.2]
  decide

theorem TkS.beside {w w' : World} {g g' : Nat} {L L' : List Bool} {t t' : Bool} (h : TkS w g L t) (k : RdS w g' L' t') (hg : w.grownBy w' (some g')) : TkS w' g L t := by
  obtain ⟨A, c, n, bl, hB, _⟩ := k
  refine h.tch (S := fun j => j = g') (tch_some hg rfl) (fun j cs ty e hb => ?_)
  subst e
  unfold Blk at hb hB
  rw [hB] at hb
  simp at hb
  rw [← hb.2]
  decide

theorem TkS.row {w : World} {g : Nat} {L : List Bool} {t : Bool} (h : TkS w g L t) : ∃ (A : Option Addr) (c : Nat), w.cell? ⟨g, 0, none⟩ = some (.slice A L.length c) ∧ w.cell? ⟨g, 1, none⟩ = some (.bool t) := by
  obtain ⟨A, c, hB, _⟩ := h
  exact ⟨A, c, hB.cell 0 rfl, hB.cell 1 rfl⟩

theorem TkS.ne {w : World} {g g' : Nat} {L L' : List Bool} {t t' : Bool} (h : TkS w g L t) (k : RdS w g' L' t') : g ≠ g' := by
  obtain ⟨A, c, hB, _⟩ := h
  obtain ⟨A', c', n, bl, hB', _⟩ := k
  exact hB.ne_type hB' (by decide)

/-- A row of the call's own, laid into a Take. -/
theorem TkS.new {w : World} {A : Option Addr} {c : Nat} {L : List Bool} {base : Nat} (h : Own w base 4 1 A c L.length (L.map .bool)) : TkS (w.alloc (.cells #[.slice A L.length c, .bool false] 45)) w.heap.size L false := by
  have hlc : L.length ≤ c ∧ c ≤ 9223372036854775807 := by
    rcases h.2 with ⟨hv, _⟩ | ⟨g', cap, cur, hv, _, hh, hnc, hcm, _⟩
    · injection hv with _ h1 h2
      omega
    · injection hv with _ h1 h2
      unfold maxLen at hcm
      omega
  refine ⟨A, c, Blk.new _ _ _, hlc.1, hlc.2, fun hn => ?_⟩
  rcases h.2 with ⟨hv, _⟩ | ⟨g', cap, cur, hv, _, hh, hnc, hcm, hsz, hx⟩
  · injection hv with _ h1 h2
    omega
  · injection hv with h0 h1 h2
    refine ⟨g', 0, cur, h0, Blk.alloc hh _, fun i hi => ?_⟩
    have h1 : (L.map Value.bool)[i]? = some (.bool (L.getD i false)) := by simp [hi]
    rw [← hx] at h1
    rw [List.getElem?_take_of_lt (by omega)] at h1
    simpa using h1

section
open Go.ChangeShapes Go.WideShapes Go.ChangeAt
variable {H : Type} {enc : TypeId × Value → H}

/-- A slice of bytes, as numbers from 0 on. -/
theorem open_bytes {W : World} {base : Nat} {v : Value} {d : DataW H} {p : List MemPlace} (k : Value.okWide Try.prog W .any base 24 v) (h : DataW.Trod enc Try.prog W 0 (fun _ => true) true 24 v d p) :
    ∃ (A : Option Addr) (cap : Nat) (bl : List Nat), v = .slice A bl.length cap ∧ bl.length ≤ cap ∧ cap ≤ maxLen ∧ Rd W W.heap.size 1 A bl.length (bl.map bv) ∧ ∀ x ∈ bl, x < 256 := by
  obtain ⟨A, len, cap, zs, rfl, h1, h2, h3, hR, hz⟩ := open_nums Try.underlying24 Try.underlying5 (by kernel_rfl) k h
  have hzz : ∀ z ∈ zs, 0 ≤ z ∧ z < 256 := by
    intro z hz'
    have := hz z hz'
    have := bounds_u8 this
    omega
  have e : (zs.map Int.toNat).map bv = zs.map (Value.int .u8) := by
    rw [List.map_map]
    refine List.map_congr_left fun z hz' => ?_
    have := hzz z hz'
    simp only [Function.comp, bv]
    congr 1
    omega
  refine ⟨A, cap, zs.map Int.toNat, by simp [h3], by simp [h3]; omega, h2, ?_, ?_⟩
  · rw [e, List.length_map, h3]; exact hR
  · intro x hx
    obtain ⟨z, hz', rfl⟩ := List.mem_map.1 hx
    have := hzz z hz'
    omega
end

set_option maxHeartbeats 6400000 in
set_option maxRecDepth 100000 in
theorem law_takes (A0 : Option Addr) (c0 : Nat) (bl : List Nat) (A1 : Option Addr) (len cap : Nat) (K : Nat → Int) (X : Nat → Nat) (N : Nat → Int) (w : World)
    (hb : Rd w w.heap.size 1 A0 bl.length (bl.map bv)) (hv : ∀ v ∈ bl, v < 256) (hbm : bl.length ≤ maxLen) (hA : Acts w A1 len K X N) :
    Calls Try.prog 4 #[.slice A0 bl.length c0, .slice A1 len cap] w fun e w' => e = .returned (.bool true) ∧ w.grownBy w' none := by
  have hlen := hA.1
  unfold maxLen at hbm
  by_cases hbl : 100 < bl.length
  · go_enter Try.func4, Try.ntmps4
    go_wp2_with fail
    refine (awake_any _).mono ?_
    rintro e w5 ⟨rfl, hg5⟩
    go_wp2_with fail
    go_ret
    exact ⟨rfl, hg5⟩
  · go_enter Try.func4, Try.ntmps4
    go_wp2_with fail
    refine (read_any bl A0 c0 _ w (Nat.le_refl _) hb hv (by omega)).mono ?_
    rintro e w1 ⟨g, rfl, hgl, hg1, hR1⟩
    go_wp2_with fail
    refine (rof_any bl A0 c0 _ w1 hg1.size (hb.later hg1 (Nat.le_refl _)) hv (by omega)).mono ?_
    rintro e w2 ⟨Aq, cq, rfl, hO2, hg2⟩
    have hT2 := TkS.new hO2
    have hg3 := gb_alloc (gb_trans hg1 hg2) (.cells #[.slice Aq (ofB bl).length cq, .bool false] 45)
    have hR3 := hR1.later (gb_alloc hg2 (.cells #[.slice Aq (ofB bl).length cq, .bool false] 45))
    have hgq := (gb_trans hg1 hg2).size
    clear hO2 hg2 hR1 hg1
    generalize ofB bl = L0 at *
    go_wp2_with fail
    go_loopw [7] (fun v7 wi => ∃ (k : Nat) (L : List Bool) (t : Bool), v7 = .int .i64 k ∧ k ≤ len ∧ k ≤ 40 ∧ RdS wi g L t ∧ TkS wi w2.heap.size L t ∧ Below w.heap.size w wi)
      (fun v7 _ => len - (intOf v7).toNat)
    case atStart => exact ⟨0, L0, false, rfl, Nat.zero_le _, by omega, hR3, hT2, below_gb hg3⟩
    case round =>
      obtain ⟨k, L, t, rfl, hk, hk40, hR, hT, hbel⟩ := hrel
      generalize w2.heap.size = g2 at *
      by_cases c1 : k < len
      · by_cases c2 : k < 40
        · obtain ⟨ga, off, rfl, hga, hc⟩ := hA.2 (by omega)
          obtain ⟨q0, q1, q2, hX⟩ := hc k c1
          have d0 := (hbel.cell (p := ⟨ga, off + k * 3, none⟩) hga).trans q0
          have d1 := (hbel.cell (p := ⟨ga, off + k * 3 + 1, none⟩) hga).trans q1
          have d2 := (hbel.cell (p := ⟨ga, off + k * 3 + 2, none⟩) hga).trans q2
          have htk := fun W (h : RdS W g L t) => take_any g L t (K k) (X k) (N k) W h hX
          generalize X k = x at *
          generalize N k = nn at *
          by_cases h1 : K k = 1
          · rw [h1] at q0 d0 htk
            have htv : tkS 1 nn L t = (val (L.take (nb nn)), L.drop (nb nn), t || decide (L.length < nb nn)) := by unfold tkS; simp
            have htt := tbits_any g2 L t _ nn hT
            have htt' : Calls Try.prog 20 #[.pointer (some ⟨g2, 0, none⟩), .int .i64 nn] wr fun e w' => e = .returned (.int .u64 ((tkS 1 nn L t).1 : Nat)) ∧ wr.grownBy w' (some g2) ∧ TkS w' g2 (tkS 1 nn L t).2.1 (tkS 1 nn L t).2.2 := by rw [htv]; exact htt
            clear htt htv
            go_wp2_with fail
            refine htt'.mono ?_
            rintro e w3 ⟨rfl, hg3', hT3⟩
            clear htt'
            have hR3' := hR.beside hT hg3'
            generalize tkS 1 nn L t = R at *
            obtain ⟨rv, RL, rt⟩ := R
            have hb3 := below_step hbel hbel.size hg3' (by omega)
            have hb3d : Below w.heap.size w w3.drew := below_step0 hb3 hb3.size (gb_drew (gb_refl w3 none))
            have f0 := (hb3d.cell (p := ⟨ga, off + k * 3, none⟩) hga).trans q0
            have f1 := (hb3d.cell (p := ⟨ga, off + k * 3 + 1, none⟩) hga).trans q1
            have f2 := (hb3d.cell (p := ⟨ga, off + k * 3 + 2, none⟩) hga).trans q2
            have hR3d : RdS w3.drew g L t := hR3'
            have hT3d : TkS w3.drew g2 RL rt := hT3
            obtain ⟨aT, cT, t0, t1⟩ := hT3d.row
            have hn2 := hT3d.ne hR3d
            have hnga : ga ≠ g := by omega
            clear hR hT hbel d0 d1 d2 hb3 hR3' hT3 hg3' q0 q1 q2 hc
            go_wp2_with fail
            go_region_held3 (fun W => W.cell? ⟨ga, off + k * 3, none⟩ = some (.int .i64 (1)) ∧ W.cell? ⟨ga, off + k * 3 + 1, none⟩ = some (.int .u64 (x : Int)) ∧ W.cell? ⟨ga, off + k * 3 + 2, none⟩ = some (.int .i64 nn) ∧ W.cell? ⟨g2, 0, none⟩ = some (.slice aT RL.length cT) ∧ W.cell? ⟨g2, 1, none⟩ = some (.bool rt)) (first | with_reducible exact ⟨f0, f1, f2, t0, t1⟩ | with_reducible exact ⟨k0, k1, k2, k3, k4⟩ | with_reducible exact ⟨m0, m1, m2, m3, m4⟩) (first
              | (go_at_call 24; refine (htk _ hR3d).mono ?_; rintro e w5 ⟨rfl, hg5, hR5⟩; (have hT5 := hT3d.beside hR3d hg5); (have k0 := hg5.cell f0 (by simp; omega)); (have k1 := hg5.cell f1 (by simp; omega)); (have k2 := hg5.cell f2 (by simp; omega)); (have k3 := hg5.cell t0 (by simp; omega)); (have k4 := hg5.cell t1 (by simp; omega)))
              | (go_at_call 25; refine (rleft_any g RL rt _ hR5).mono ?_; rintro e w6 ⟨rfl, hg6⟩; (have hR6 := hR5.later hg6); (have hT6 := hT5.later hg6); (have m0 := hg6.cell k0 (by simp)); (have m1 := hg6.cell k1 (by simp)); (have m2 := hg6.cell k2 (by simp)); (have m3 := hg6.cell k3 (by simp)); (have m4 := hg6.cell k4 (by simp)))
              | (go_at_call 26; refine (rtorn_any g RL rt _ hR6).mono ?_; rintro e w7 ⟨rfl, rfl⟩))
            go_wp2_with fail
            go_roundw
            case rel => exact ⟨k + 1, RL, rt, by go_num, by omega, by omega, hR6, hT6, below_step0 (below_step hb3d hb3d.size hg5 hgl) (below_step hb3d hb3d.size hg5 hgl).size hg6⟩
            case measure => first | (simp [intOf]; done) | (simp [intOf]; omega)
          by_cases h2 : K k = 2
          · rw [h2] at q0 d0 htk
            have htv : tkS 2 nn L t = (tv L (nb nn), L.drop (nb nn), t || decide (L.length < nb nn)) := by unfold tkS; simp
            have htt := tturned_any g2 L t _ nn hT
            have htt' : Calls Try.prog 21 #[.pointer (some ⟨g2, 0, none⟩), .int .i64 nn] wr fun e w' => e = .returned (.int .u64 ((tkS 2 nn L t).1 : Nat)) ∧ wr.grownBy w' (some g2) ∧ TkS w' g2 (tkS 2 nn L t).2.1 (tkS 2 nn L t).2.2 := by rw [htv]; exact htt
            clear htt htv
            go_wp2_with fail
            refine htt'.mono ?_
            rintro e w3 ⟨rfl, hg3', hT3⟩
            clear htt'
            have hR3' := hR.beside hT hg3'
            generalize tkS 2 nn L t = R at *
            obtain ⟨rv, RL, rt⟩ := R
            have hb3 := below_step hbel hbel.size hg3' (by omega)
            have hb3d : Below w.heap.size w w3.drew := below_step0 hb3 hb3.size (gb_drew (gb_refl w3 none))
            have f0 := (hb3d.cell (p := ⟨ga, off + k * 3, none⟩) hga).trans q0
            have f1 := (hb3d.cell (p := ⟨ga, off + k * 3 + 1, none⟩) hga).trans q1
            have f2 := (hb3d.cell (p := ⟨ga, off + k * 3 + 2, none⟩) hga).trans q2
            have hR3d : RdS w3.drew g L t := hR3'
            have hT3d : TkS w3.drew g2 RL rt := hT3
            obtain ⟨aT, cT, t0, t1⟩ := hT3d.row
            have hn2 := hT3d.ne hR3d
            have hnga : ga ≠ g := by omega
            clear hR hT hbel d0 d1 d2 hb3 hR3' hT3 hg3' q0 q1 q2 hc
            go_wp2_with fail
            go_region_held3 (fun W => W.cell? ⟨ga, off + k * 3, none⟩ = some (.int .i64 (2)) ∧ W.cell? ⟨ga, off + k * 3 + 1, none⟩ = some (.int .u64 (x : Int)) ∧ W.cell? ⟨ga, off + k * 3 + 2, none⟩ = some (.int .i64 nn) ∧ W.cell? ⟨g2, 0, none⟩ = some (.slice aT RL.length cT) ∧ W.cell? ⟨g2, 1, none⟩ = some (.bool rt)) (first | with_reducible exact ⟨f0, f1, f2, t0, t1⟩ | with_reducible exact ⟨k0, k1, k2, k3, k4⟩ | with_reducible exact ⟨m0, m1, m2, m3, m4⟩) (first
              | (go_at_call 24; refine (htk _ hR3d).mono ?_; rintro e w5 ⟨rfl, hg5, hR5⟩; (have hT5 := hT3d.beside hR3d hg5); (have k0 := hg5.cell f0 (by simp; omega)); (have k1 := hg5.cell f1 (by simp; omega)); (have k2 := hg5.cell f2 (by simp; omega)); (have k3 := hg5.cell t0 (by simp; omega)); (have k4 := hg5.cell t1 (by simp; omega)))
              | (go_at_call 25; refine (rleft_any g RL rt _ hR5).mono ?_; rintro e w6 ⟨rfl, hg6⟩; (have hR6 := hR5.later hg6); (have hT6 := hT5.later hg6); (have m0 := hg6.cell k0 (by simp)); (have m1 := hg6.cell k1 (by simp)); (have m2 := hg6.cell k2 (by simp)); (have m3 := hg6.cell k3 (by simp)); (have m4 := hg6.cell k4 (by simp)))
              | (go_at_call 26; refine (rtorn_any g RL rt _ hR6).mono ?_; rintro e w7 ⟨rfl, rfl⟩))
            go_wp2_with fail
            go_roundw
            case rel => exact ⟨k + 1, RL, rt, by go_num, by omega, by omega, hR6, hT6, below_step0 (below_step hb3d hb3d.size hg5 hgl) (below_step hb3d hb3d.size hg5 hgl).size hg6⟩
            case measure => first | (simp [intOf]; done) | (simp [intOf]; omega)
          by_cases h3 : K k = 3
          · rw [h3] at q0 d0 htk
            have htv : tkS 3 nn L t = gamS L t := by unfold tkS; simp
            have htt := tgamma_any g2 L t _ hT
            have htt' : Calls Try.prog 22 #[.pointer (some ⟨g2, 0, none⟩)] wr fun e w' => e = .returned (.int .u64 ((tkS 3 nn L t).1 : Nat)) ∧ wr.grownBy w' (some g2) ∧ TkS w' g2 (tkS 3 nn L t).2.1 (tkS 3 nn L t).2.2 := by rw [htv]; exact htt
            clear htt htv
            go_wp2_with fail
            refine htt'.mono ?_
            rintro e w3 ⟨rfl, hg3', hT3⟩
            clear htt'
            have hR3' := hR.beside hT hg3'
            generalize tkS 3 nn L t = R at *
            obtain ⟨rv, RL, rt⟩ := R
            have hb3 := below_step hbel hbel.size hg3' (by omega)
            have hb3d : Below w.heap.size w w3.drew := below_step0 hb3 hb3.size (gb_drew (gb_refl w3 none))
            have f0 := (hb3d.cell (p := ⟨ga, off + k * 3, none⟩) hga).trans q0
            have f1 := (hb3d.cell (p := ⟨ga, off + k * 3 + 1, none⟩) hga).trans q1
            have f2 := (hb3d.cell (p := ⟨ga, off + k * 3 + 2, none⟩) hga).trans q2
            have hR3d : RdS w3.drew g L t := hR3'
            have hT3d : TkS w3.drew g2 RL rt := hT3
            obtain ⟨aT, cT, t0, t1⟩ := hT3d.row
            have hn2 := hT3d.ne hR3d
            have hnga : ga ≠ g := by omega
            clear hR hT hbel d0 d1 d2 hb3 hR3' hT3 hg3' q0 q1 q2 hc
            go_wp2_with fail
            go_region_held3 (fun W => W.cell? ⟨ga, off + k * 3, none⟩ = some (.int .i64 (3)) ∧ W.cell? ⟨ga, off + k * 3 + 1, none⟩ = some (.int .u64 (x : Int)) ∧ W.cell? ⟨ga, off + k * 3 + 2, none⟩ = some (.int .i64 nn) ∧ W.cell? ⟨g2, 0, none⟩ = some (.slice aT RL.length cT) ∧ W.cell? ⟨g2, 1, none⟩ = some (.bool rt)) (first | with_reducible exact ⟨f0, f1, f2, t0, t1⟩ | with_reducible exact ⟨k0, k1, k2, k3, k4⟩ | with_reducible exact ⟨m0, m1, m2, m3, m4⟩) (first
              | (go_at_call 24; refine (htk _ hR3d).mono ?_; rintro e w5 ⟨rfl, hg5, hR5⟩; (have hT5 := hT3d.beside hR3d hg5); (have k0 := hg5.cell f0 (by simp; omega)); (have k1 := hg5.cell f1 (by simp; omega)); (have k2 := hg5.cell f2 (by simp; omega)); (have k3 := hg5.cell t0 (by simp; omega)); (have k4 := hg5.cell t1 (by simp; omega)))
              | (go_at_call 25; refine (rleft_any g RL rt _ hR5).mono ?_; rintro e w6 ⟨rfl, hg6⟩; (have hR6 := hR5.later hg6); (have hT6 := hT5.later hg6); (have m0 := hg6.cell k0 (by simp)); (have m1 := hg6.cell k1 (by simp)); (have m2 := hg6.cell k2 (by simp)); (have m3 := hg6.cell k3 (by simp)); (have m4 := hg6.cell k4 (by simp)))
              | (go_at_call 26; refine (rtorn_any g RL rt _ hR6).mono ?_; rintro e w7 ⟨rfl, rfl⟩))
            go_wp2_with fail
            go_roundw
            case rel => exact ⟨k + 1, RL, rt, by go_num, by omega, by omega, hR6, hT6, below_step0 (below_step hb3d hb3d.size hg5 hgl) (below_step hb3d hb3d.size hg5 hgl).size hg6⟩
            case measure => first | (simp [intOf]; done) | (simp [intOf]; omega)
          · have b1 : (K k == 1) = false := by simpa using h1
            have b2 : (K k == 2) = false := by simpa using h2
            have b3 : (K k == 3) = false := by simpa using h3
            have htv : tkS (K k) nn L t = ((L.headD false).toNat, L.tail, t || L.isEmpty) := by unfold tkS; rw [if_neg h1, if_neg h2, if_neg h3]
            have htt := tbit_any g2 L t _ hT
            rw [htv] at htk
            clear h1 h2 h3 htv
            generalize K k = kk at *
            generalize L.tail = RL at *
            generalize (t || L.isEmpty) = rt at *
            generalize L.headD false = b at *
            go_wp2_with fail
            refine htt.mono ?_
            rintro e w3 ⟨rfl, hg3', hT3⟩
            clear htt
            have hR3' := hR.beside hT hg3'
            cases b
            all_goals
              have hb3 := below_step hbel hbel.size hg3' (by omega)
              have hb3d : Below w.heap.size w w3.drew := below_step0 hb3 hb3.size (gb_drew (gb_refl w3 none))
              have f0 := (hb3d.cell (p := ⟨ga, off + k * 3, none⟩) hga).trans q0
              have f1 := (hb3d.cell (p := ⟨ga, off + k * 3 + 1, none⟩) hga).trans q1
              have f2 := (hb3d.cell (p := ⟨ga, off + k * 3 + 2, none⟩) hga).trans q2
              have hR3d : RdS w3.drew g L t := hR3'
              have hT3d : TkS w3.drew g2 RL rt := hT3
              obtain ⟨aT, cT, t0, t1⟩ := hT3d.row
              have hn2 := hT3d.ne hR3d
              have hnga : ga ≠ g := by omega
              clear hR hT hbel d0 d1 d2 hb3 hR3' hT3 hg3' q0 q1 q2 hc
              go_wp2_with fail
              go_region_held3 (fun W => W.cell? ⟨ga, off + k * 3, none⟩ = some (.int .i64 (kk)) ∧ W.cell? ⟨ga, off + k * 3 + 1, none⟩ = some (.int .u64 (x : Int)) ∧ W.cell? ⟨ga, off + k * 3 + 2, none⟩ = some (.int .i64 nn) ∧ W.cell? ⟨g2, 0, none⟩ = some (.slice aT RL.length cT) ∧ W.cell? ⟨g2, 1, none⟩ = some (.bool rt)) (first | with_reducible exact ⟨f0, f1, f2, t0, t1⟩ | with_reducible exact ⟨k0, k1, k2, k3, k4⟩ | with_reducible exact ⟨m0, m1, m2, m3, m4⟩) (first
                | (go_at_call 24; refine (htk _ hR3d).mono ?_; rintro e w5 ⟨rfl, hg5, hR5⟩; (have hT5 := hT3d.beside hR3d hg5); (have k0 := hg5.cell f0 (by simp; omega)); (have k1 := hg5.cell f1 (by simp; omega)); (have k2 := hg5.cell f2 (by simp; omega)); (have k3 := hg5.cell t0 (by simp; omega)); (have k4 := hg5.cell t1 (by simp; omega)))
                | (go_at_call 25; refine (rleft_any g RL rt _ hR5).mono ?_; rintro e w6 ⟨rfl, hg6⟩; (have hR6 := hR5.later hg6); (have hT6 := hT5.later hg6); (have m0 := hg6.cell k0 (by simp)); (have m1 := hg6.cell k1 (by simp)); (have m2 := hg6.cell k2 (by simp)); (have m3 := hg6.cell k3 (by simp)); (have m4 := hg6.cell k4 (by simp)))
                | (go_at_call 26; refine (rtorn_any g RL rt _ hR6).mono ?_; rintro e w7 ⟨rfl, rfl⟩))
              go_wp2_with fail
              go_roundw
              case rel => exact ⟨k + 1, RL, rt, by go_num, by omega, by omega, hR6, hT6, below_step0 (below_step hb3d hb3d.size hg5 hgl) (below_step hb3d hb3d.size hg5 hgl).size hg6⟩
              case measure => first | (simp [intOf]; done) | (simp [intOf]; omega)
        · have c2' : decide ((k : Int) < 40) = false := by simp; omega
          go_wp2_with fail
          refine (rbit_nil _).mono ?_
          rintro e w5 ⟨rfl, hg5⟩
          go_wp2_with fail
          refine (rdbits_nil _ 3).mono ?_
          rintro e w6 ⟨rfl, hg6⟩
          go_wp2_with fail
          refine (rdgamma_nil _).mono ?_
          rintro e w7 ⟨rfl, hg7⟩
          go_wp2_with fail
          refine (rleft_nil _).mono ?_
          rintro e w8 ⟨rfl, rfl⟩
          go_wp2_with fail
          refine (rtorn_nil _).mono ?_
          rintro e w8 ⟨rfl, rfl⟩
          go_wp2_with fail
          refine (awake_any _).mono ?_
          rintro e w9 ⟨rfl, hg9⟩
          go_wp2_with fail
          go_ret
          exact ⟨rfl, gb_below (below_step0 hbel hbel.size (gb_trans (gb_trans (gb_trans hg5 hg6) hg7) hg9))⟩
      · skip
        go_wp2_with fail
        refine (rbit_nil _).mono ?_
        rintro e w5 ⟨rfl, hg5⟩
        go_wp2_with fail
        refine (rdbits_nil _ 3).mono ?_
        rintro e w6 ⟨rfl, hg6⟩
        go_wp2_with fail
        refine (rdgamma_nil _).mono ?_
        rintro e w7 ⟨rfl, hg7⟩
        go_wp2_with fail
        refine (rleft_nil _).mono ?_
        rintro e w8 ⟨rfl, rfl⟩
        go_wp2_with fail
        refine (rtorn_nil _).mono ?_
        rintro e w8 ⟨rfl, rfl⟩
        go_wp2_with fail
        refine (awake_any _).mono ?_
        rintro e w9 ⟨rfl, hg9⟩
        go_wp2_with fail
        go_ret
        exact ⟨rfl, gb_below (below_step0 hbel hbel.size (gb_trans (gb_trans (gb_trans hg5 hg6) hg7) hg9))⟩

section
open Go.ChangeShapes Go.WideShapes Go.ChangeAt
theorem takes_main {H : Type} {enc : TypeId × Value → H} {base : Nat} {v0 v1 : Value} {d0 d1 : DataW H} {p0 p1 : List MemPlace} (W : World)
    (k0 : Value.okWide Try.prog W .any base 24 v0) (h0 : DataW.Trod enc Try.prog W 0 (fun _ => true) true 24 v0 d0 p0)
    (k1 : Value.okWide Try.prog W .any base 22 v1) (h1 : DataW.Trod enc Try.prog W 0 (fun _ => true) true 22 v1 d1 p1) :
    Calls Try.prog 4 #[v0, v1] W fun e w' => e = .returned (.bool true) ∧ W.grownBy w' none := by
  obtain ⟨A0, c0, bl, rfl, hlc, hcm, hR, hv⟩ := open_bytes k0 h0
  obtain ⟨A, len, cap, K, X, N, rfl, hA⟩ := open_acts k1 h1
  exact law_takes A0 c0 bl A len cap K X N W hR hv (Nat.le_trans hlc hcm) hA
end
end Go.Proofs.Ytlohplopomfjhaa
