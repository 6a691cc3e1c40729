/- The walk of the law ChunkCuts. -/
import Derived.Test.YtephnmmbmacbfaaFH
import Derived.ChangeKeysEq
namespace Go.Proofs.Ytephnmmbmacbfaa
set_option linter.unusedVariables false
set_option linter.unusedSimpArgs false
open Go.RowKit Go.Own Go.Chunk

theorem neq_pair (a b a' b' : Int) (w : World) : (binOp .neq 42 (.agg #[.int .i64 a, .int .i64 b]) (.agg #[.int .i64 a', .int .i64 b'])).run Try.prog w = .ok (.bool (!(a == a' && b == b'))) w := by
  obtain ⟨it, hi, hz0, hz1, hz2⟩ := info_parts info3
  rw [run_neq_struct, run_equalIn_array w 9999 _ _ Try.underlying42 hi]
  have hC : Try.prog.cellsOf 3 = 1 := by kernel_rfl
  have he : Try.prog.plainKey 3 = true := by kernel_rfl
  rw [hC]
  have hl : List.range 2 = [0, 1] := rfl
  have h1 : (Op.eqItems 9999 3 1 #[.int .i64 a, .int .i64 b] #[.int .i64 a', .int .i64 b'] [1]).run Try.prog w = .ok (b == b') w := by
    simp only [Op.eqItems, Sem.run_bind, run_part_plain w he (xs := #[.int .i64 a, .int .i64 b]) (off := 1 * 1) (v := .int .i64 b) rfl, run_part_plain w he (xs := #[.int .i64 a', .int .i64 b']) (off := 1 * 1) (v := .int .i64 b') rfl, run_equalIn_int w 9998 3 .i64 .i64 _ _ Try.underlying3, Result.andThen_ok]
    generalize (b == b') = q
    cases q <;> simp
  have h0 : (Op.eqItems 9999 3 1 #[.int .i64 a, .int .i64 b] #[.int .i64 a', .int .i64 b'] [0, 1]).run Try.prog w = .ok (a == a' && b == b') w := by
    rw [Op.eqItems]
    simp only [Sem.run_bind, run_part_plain w he (xs := #[.int .i64 a, .int .i64 b]) (off := 0 * 1) (v := .int .i64 a) rfl, run_part_plain w he (xs := #[.int .i64 a', .int .i64 b']) (off := 0 * 1) (v := .int .i64 a') rfl, run_equalIn_int w 9998 3 .i64 .i64 _ _ Try.underlying3, Result.andThen_ok]
    generalize (a == a') = p
    cases p
    · simp
    · simpa using h1
  rw [hl, h0]
  rfl

theorem piece_pos (least most k : Nat) (b : List Nat) (hl : 0 < least) (j : Nat) (h : j < (cut spc least most k b).length) : 0 < (cut spc least most k b).getD j 0 := by
  obtain ⟨hat, hnx⟩ := piece_more spc least most k b hl h
  rw [← hnx]
  exact next_pos spc least most k _ hl (by intro e; have := congrArg List.length e; rw [List.length_drop] at this; simp at this; omega)

/-- The sizes of a case. -/
theorem case_sizes (x y z : Nat) (hy : y < 256) : 16 ≤ 16 + x % 30 ∧ 16 + x % 30 ≤ 45 ∧ 16 + x % 30 ≤ 16 + x % 30 + y ∧ 16 + x % 30 + y ≤ 1048576 ∧ z % 21 ≤ 20 := by
  have h1 : x % 30 < 30 := Nat.mod_lt _ (by decide)
  have h2 : z % 21 < 21 := Nat.mod_lt _ (by decide)
  omega

theorem pcs_get (L : List Nat) (n j : Nat) (h : j < n) : (pcs L n)[j]? = some (at' L j, L.getD j 0) := by simp [pcs, h]

theorem flat_get (l : List (Nat × Nat)) (j k : Nat) (x : Nat × Nat) (hk : k < 2) (h : l[j]? = some x) : (l.flatMap pcC)[j * 2 + k]? = (pcC x)[k]? := by
  induction l generalizing j with
  | nil => simp at h
  | cons y l ih =>
    rw [List.flatMap_cons]
    cases j with
    | zero =>
      simp at h
      subst h
      rw [List.getElem?_append_left (by simp [pcC]; omega)]
      congr 1
      omega
    | succ j =>
      have hl : (pcC y).length = 2 := rfl
      rw [List.getElem?_append_right (by rw [hl]; omega), hl]
      rw [show (j + 1) * 2 + k - 2 = j * 2 + k by omega]
      exact ih j (by simpa using h)

theorem pc_get0 (L : List Nat) (j : Nat) (h : j < L.length) : ((pcs L L.length).flatMap pcC)[j * 2]? = some (.int .i64 (at' L j : Nat)) := flat_get _ j 0 _ (by omega) (pcs_get L _ j h)
theorem pc_get1 (L : List Nat) (j : Nat) (h : j < L.length) : ((pcs L L.length).flatMap pcC)[j * 2 + 1]? = some (.int .i64 (L.getD j 0 : Nat)) := flat_get _ j 1 _ (by omega) (pcs_get L _ j h)

set_option maxHeartbeats 6400000 in
set_option maxRecDepth 100000 in
theorem law_cuts (x y z s : Nat) (hx : x < 256) (hy : y < 256) (hz : z < 256) (hs : s < 256) (A0 : Option Addr) (c0 : Nat) (b : List Nat) (w : World)
    (hS : Rd w w.heap.size 1 A0 b.length (b.map bv)) (hv : ∀ v ∈ b, v < 256) (hlc : b.length ≤ c0) (hcm : c0 ≤ 9223372036854775807) :
    Calls Try.prog 3 #[.agg #[.int .u8 x, .int .u8 y, .int .u8 z], .slice A0 b.length c0, .int .u8 s] w fun e w' => e = .returned (.bool true) ∧ w.grownBy w' none := by
  have hB0 := Blk.new w #[.int .u8 (x : Int), .int .u8 (y : Int), .int .u8 (z : Int)] 23
  have hg0 := gb_alloc (gb_refl w none) (.cells #[.int .u8 (x : Int), .int .u8 (y : Int), .int .u8 (z : Int)] 23)
  have k0 := hB0.cell 0 rfl
  have k1 := hB0.cell 1 rfl
  have k2 := hB0.cell 2 rfl
  by_cases h600 : 600 < b.length
  · have h6i : (600 : Int) < (b.length : Int) := by omega
    go_enter Try.func3, Try.ntmps3
    go_wp2_with fail
    refine (awake43 _).mono ?_
    rintro e w5 ⟨rfl, hg5⟩
    go_wp2_with fail
    go_ret
    exact ⟨rfl, gb_trans hg0 hg5⟩
  · have h6i : ¬ ((600 : Int) < (b.length : Int)) := by omega
    obtain ⟨h16, hl45, hlm, hm, hk⟩ := case_sizes x y z hy
    have hsz := sizes_any x y z (w.alloc (.cells #[.int .u8 (x : Int), .int .u8 (y : Int), .int .u8 (z : Int)] 23)) hx hy hz
    generalize 16 + x % 30 + y = most at *
    generalize 16 + x % 30 = least at *
    generalize z % 21 = k at *
    have hnew := fun W => new_ok least most k W ⟨by omega, by omega, by omega, by omega, by omega⟩
    have hrc := fun W (hW : w.grownBy W none) => rcut_any least most k b A0 c0 w.heap.size W (hS.later hW (Nat.le_refl _)) hW.size hv (by omega) hlc hcm h16 hlm hm hk
    have hct := fun W (hW : w.grownBy W none) => cut_fine (w := W) (B := w.heap.size) (S := A0) (cs := c0) (b := b) (hS.later hW (Nat.le_refl _)) hW.size hv (by omega) hlc hcm h16 hlm hm hk
    have hgn := fun W Bb Bc m (hW : w.grownBy W none) (hm6 : m ≤ 1000000) => gone_fine (w := W) (B := w.heap.size) (S := A0) (cs := c0) (b := b) (Bb := Bb) (Bc := Bc) (m := m) (hS.later hW (Nat.le_refl _)) hW.size hv (by omega) hlc hcm h16 hlm hm hk hm6
    have hcl := cut_length spc least most k b (by omega)
    have hend := piece_end spc least most k b (by omega)
    have hfit := fun j => @piece_fits spc least most k b (by omega) j
    have hpos := piece_pos least most k b (by omega)
    generalize cut spc least most k b = L at *
    have hpcs := pieces_any (least : Int) (most : Int) (k : Int) A0 b.length c0
    unfold cv at hnew hct hpcs
    replace hrc := Lib.hid hrc
    replace hct := Lib.hid hct
    replace hgn := Lib.hid hgn
    replace hnew := Lib.hid hnew
    replace hpcs := Lib.hid hpcs
    replace hend := Lib.hid hend
    replace hfit := Lib.hid hfit
    replace hpos := Lib.hid hpos
    go_enter Try.func3, Try.ntmps3
    go_wp2_with fail
    refine hsz.mono ?_
    rintro e w1 ⟨rfl, hg1⟩
    replace hg1 := gb_trans hg0 hg1
    clear hg0 hB0 k0 k1 k2 hsz
    go_wp2_with fail
    refine (hnew.out _).mono ?_
    rintro e w2 ⟨rfl, hg2⟩
    replace hg2 := gb_trans hg1 hg2
    go_wp2_with fail
    have hBc := Blk.new w2 #[.int .i64 (least : Int), .int .i64 (most : Int), .int .i64 (k : Int)] 29
    have hg3 := gb_alloc hg2 (.cells #[.int .i64 (least : Int), .int .i64 (most : Int), .int .i64 (k : Int)] 29)
    refine (hrc.out _ hg3).mono ?_
    rintro e w4 ⟨Aw, cw, rfl, hOw, hg4⟩
    have hBc4 := hBc.grown hg4 (by simp)
    have e0 := hBc4.cell 0 rfl
    have e1 := hBc4.cell 1 rfl
    have e2 := hBc4.cell 2 rfl
    replace hg4 := gb_trans hg3 hg4
    clear hBc hg3 hg2 hg1
    go_wp2_with fail
    refine (hpcs.out _).mono ?_
    rintro e w5 ⟨rfl, hw5⟩
    have hBb5 := Blk.new (w4.alloc (.cells #[.int .i64 (least : Int), .int .i64 (most : Int), .int .i64 (k : Int)] 29)) #[.slice A0 b.length c0] 24
    have hBc5 := (Blk.new w4 #[.int .i64 (least : Int), .int .i64 (most : Int), .int .i64 (k : Int)] 29).alloc (.cells #[.slice A0 b.length c0] 24)
    have hg5 := gb_alloc (gb_alloc (gb_refl w4 none) (.cells #[.int .i64 (least : Int), .int .i64 (most : Int), .int .i64 (k : Int)] 29)) (.cells #[.slice A0 b.length c0] 24)
    rw [World.size_alloc] at hBb5
    rw [← hw5] at hBb5 hBc5 hg5
    have hgo := hgn.out w5 (w4.heap.size + 1) w4.heap.size 1000 (gb_trans hg4 hg5) (by omega) hBb5 hBc5
    rw [Nat.min_eq_right (by omega)] at hgo
    have hBm5 := hBc4.grown hg5 (by simp)
    replace hOw := hOw.grown0 hg5
    replace hg5 := gb_trans hg4 hg5
    clear hg4 hBc4 e0 e1 e2 hw5 hBb5 hBc5
    go_wp2_with fail
    refine hgo.mono ?_
    rintro e w6 ⟨Ag, cg, rfl, hOg, hg6⟩
    have hBm6 := hBm5.grown hg6 (by simp)
    replace hOw := hOw.grown0 hg6
    replace hg6 := gb_trans hg5 hg6
    have e0 := hBm6.cell 0 rfl
    have e1 := hBm6.cell 1 rfl
    have e2 := hBm6.cell 2 rfl
    clear hgo hBm5 hg5
    go_wp2_with fail
    refine (hct.out _ hg6).mono ?_
    rintro e w7 ⟨Ac, cc, rfl, hOc, hg7⟩
    have hBm7 := hBm6.grown hg7 (by simp)
    replace hOw := hOw.grown0 hg7
    replace hOg := hOg.grown0 hg7
    replace hg7 := gb_trans hg6 hg7
    have f0 := hBm7.cell 0 rfl
    have f1 := hBm7.cell 1 rfl
    have f2 := hBm7.cell 2 rfl
    clear hBm6 hg6 e0 e1 e2
    go_wp2_with fail
    refine (hpcs.out _).mono ?_
    rintro e w8 ⟨rfl, hw8⟩
    have hBb5 := Blk.new (w7.alloc (.cells #[.int .i64 (least : Int), .int .i64 (most : Int), .int .i64 (k : Int)] 29)) #[.slice A0 b.length c0] 24
    have hBc5 := (Blk.new w7 #[.int .i64 (least : Int), .int .i64 (most : Int), .int .i64 (k : Int)] 29).alloc (.cells #[.slice A0 b.length c0] 24)
    have hg8 := gb_alloc (gb_alloc (gb_refl w7 none) (.cells #[.int .i64 (least : Int), .int .i64 (most : Int), .int .i64 (k : Int)] 29)) (.cells #[.slice A0 b.length c0] 24)
    rw [World.size_alloc] at hBb5
    rw [← hw8] at hBb5 hBc5 hg8
    have hgo := hgn.out w8 (w7.heap.size + 1) w7.heap.size s (gb_trans hg7 hg8) (by omega) hBb5 hBc5
    replace hOw := hOw.grown0 hg8
    replace hOg := hOg.grown0 hg8
    replace hOc := hOc.grown0 hg8
    replace hg8 := gb_trans hg7 hg8
    clear hg7 f0 f1 f2 hw8 hBb5 hBc5 hBm7
    go_wp2_with fail
    refine hgo.mono ?_
    rintro e w9 ⟨Aq, cq, rfl, hOq, hg9⟩
    replace hOw := hOw.grown0 hg9
    replace hOg := hOg.grown0 hg9
    replace hOc := hOc.grown0 hg9
    replace hg9 := gb_trans hg8 hg9
    clear hg8 hgo hOq hgn hct hrc hnew hpcs
    obtain ⟨q, hq⟩ : ∃ q, q = min s L.length := ⟨_, rfl⟩
    have hqt : (if s < L.length then (s : Int) else (L.length : Int)) = (q : Int) := by
      rw [hq]
      split
      · rw [Nat.min_eq_left (by omega)]
      · rw [Nat.min_eq_right (by omega)]
    rw [← hq]
    clear hq
    have hend2 := hend.out
    go_wp2_with fail
    clear hqt
    go_loopw [15, 16] (fun v15 v16 wi => ∃ j a : Nat, v16 = .int .i64 j ∧ v15 = .int .i64 a ∧ Hid (a = at' L j) ∧ j ≤ L.length ∧ w9.grownBy wi none)
      (fun _ v16 _ => L.length - (intOf v16).toNat)
    case atStart => exact ⟨0, 0, rfl, rfl, Lib.hid rfl, Nat.zero_le _, gb_refl _ _⟩
    case round =>
      obtain ⟨j, a, rfl, rfl, ha, hj, hg⟩ := hrel
      have hga := gb_trans hg9 hg
      by_cases hjl : j < L.length
      · have hji : (j : Int) < (L.length : Int) := by omega
        have hf := hfit.out j hjl
        have has := at_succ L j hjl
        have hp0 := hpos.out j hjl
        obtain ⟨gw, rfl, hbw, hlw⟩ := hOw.form (by omega)
        obtain ⟨gg, rfl, hbg, hlg⟩ := hOg.form (by omega)
        obtain ⟨gc, rfl, hbc, hlc2⟩ := hOc.form (by omega)
        have cw0 := hg.cell (hOw.cell rfl (j := j) (by omega) (u := nv (L.getD j 0)) (by simp [hjl])) (by simp)
        have cg0 := hg.cell (hOg.cell rfl (j := j * 2) (by omega) (u := .int .i64 (at' L j : Nat)) (pc_get0 L j hjl)) (by simp)
        have cg1 := hg.cell (hOg.cell rfl (j := j * 2 + 1) (by omega) (u := .int .i64 (L.getD j 0 : Nat)) (pc_get1 L j hjl)) (by simp)
        have cc0 := hg.cell (hOc.cell rfl (j := j) (by omega) (u := cutV A0 (at' L j, L.getD j 0)) (by simp [pcs, hjl])) (by simp)
        obtain ⟨p, hp⟩ : ∃ p, p = L.getD j 0 := ⟨_, rfl⟩
        rw [← ha.out, ← hp] at hf has cc0
        rw [← hp] at cg1
        rw [← ha.out] at cg0
        rw [← hp] at cw0 hp0
        obtain ⟨g, off, rfl, hgw, _⟩ := rd_byte hS (show 0 < b.length by omega)
        have hpart := rd_part hS a p hf
        have hpl : ((b.drop a).take p).length = p := by rw [List.length_take, List.length_drop]; exact Nat.min_eq_left (by omega)
        have hv1 := fun c n => conv_any c (hpart.later (gb_drewN (row := none) hga n) (Nat.le_refl _)) hpl
        obtain ⟨s2, hs2⟩ : ∃ s2, s2 = a + p := ⟨_, rfl⟩
        have hw2 : IntKind.i64.wrap ((a : Int) + (p : Int)) = (s2 : Int) := by rw [IntKind.wrap_i64]; omega
        have hsc : (s2 : Int) ≤ (c0 : Int) := by omega
        have hsd : a ≤ s2 := by omega
        have hsi : (a : Int) ≤ (s2 : Int) := by omega
        have hsn : s2 - a = p := by omega
        have hca : ¬ (c0 = a) := by omega
        have hs2h := Lib.hid hs2
        clear hs2
        have hnq := fun W => neq_pair a p a p W
        simp only [beq_self_eq_true, Bool.and_self, Bool.not_true] at hnq
        unfold nv at cw0
        unfold cutV at cc0
        dsimp only [Option.map_some] at cc0
        clear hp hpart hfit hpl hS
        go_wp2_with fail
        go_quiet (fail)
        go_wp2_with fail
        go_roundw
        case rel => exact ⟨j + 1, s2, by go_num, by first | rfl | go_num, Lib.hid (hs2h.out.trans has.symm), by omega, gb_drewN hg _⟩
        case measure => first | (simp [intOf]; done) | (simp [intOf]; omega)
      · have hj2 : j = L.length := by omega
        subst hj2
        have hab : a = b.length := ha.out.trans hend.out
        subst hab
        go_wp2_with fail
        refine (awake43 _).mono ?_
        rintro e w11 ⟨rfl, hg11⟩
        go_wp2_with fail
        go_ret
        exact ⟨rfl, gb_trans hga hg11⟩

section
open Go.ChangeShapes Go.WideShapes Go.ChangeAt
theorem chunkcuts_main {H : Type} {enc : TypeId × Value → H} {base : Nat} {v0 v1 v2 : Value} {d0 d1 d2 : DataW H} {p0 p1 p2 : List MemPlace} (W : World)
    (k0 : Value.okWide Try.prog W .any base 23 v0) (h0 : DataW.Trod enc Try.prog W 0 (fun _ => true) true 23 v0 d0 p0)
    (k1 : Value.okWide Try.prog W .any base 24 v1) (h1 : DataW.Trod enc Try.prog W 0 (fun _ => true) true 24 v1 d1 p1)
    (k2 : Value.okWide Try.prog W .any base 5 v2) (h2 : DataW.Trod enc Try.prog W 0 (fun _ => true) true 5 v2 d2 p2) :
    Calls Try.prog 3 #[v0, v1, v2] W fun e w' => e = .returned (.bool true) ∧ W.grownBy w' none := by
  obtain ⟨x, y, z, rfl, hx, hy, hz⟩ := open_case k0 h0
  obtain ⟨A0, c0, b, rfl, hlc, hcm, hR, hv⟩ := open_bytes k1 h1
  obtain ⟨n, rfl, _⟩ := okWide_int Try.underlying5 k2
  obtain ⟨fuel, hf⟩ := h2
  obtain ⟨m, em, _, wm⟩ := DataW.trod_int (k := .u8) Try.underlying5 hf
  have em' : [Value.int .u8 n] = [Value.int .u8 m] := em
  have hb := bounds_u8 wm
  obtain rfl : n = m := by injection em' with e1; injection e1
  obtain ⟨s, rfl⟩ : ∃ s : Nat, n = (s : Int) := ⟨n.toNat, by omega⟩
  exact law_cuts x y z s hx hy hz (by omega) A0 c0 b W hR hv hlc (by unfold maxLen at hcm; omega)
end
end Go.Proofs.Ytephnmmbmacbfaa
