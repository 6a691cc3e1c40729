/- The walk of the law PurseBounds. -/
import Derived.Test.YtbnpmhlfbpoaaaaWD
import Derived.Test.YtbnpmhlfbpoaaaaPE
import Derived.Test.YtbnpmhlfbpoaaaaOwn
namespace Go.Proofs.Ytbnpmhlfbpoaaaa
set_option linter.unusedVariables false
set_option linter.unusedSimpArgs false
open Go.RowKit Go.Own Go.PurseBounds

theorem info22 : (Try.prog.info? 22).map (fun i => (i.zero, i.size, i.bytes)) = some (some (.int .u64 0), 1, 8) := by kernel_rfl

theorem one_int {k : IntKind} {x : Int} : ∀ u ∈ [Value.int k x], u.oneCell' = true := by
  intro u hu
  simp at hu
  subst hu
  rfl

/-- The acts: element i is of kind K i, and of number N i. -/
def Acts (W : World) (A : Option Addr) (len : Nat) (K N : Nat → Int) : Prop :=
  len ≤ 9223372036854775807 ∧ (0 < len → ∃ g off, A = some ⟨g, off, none⟩ ∧ g < W.heap.size ∧ ∀ i, i < len → W.cell? ⟨g, off + i * 2, none⟩ = some (.int .i64 (K i)) ∧ W.cell? ⟨g, off + i * 2 + 1, none⟩ = some (.int .u64 (N i)) ∧ U (N i))

theorem getD_map (l : List Int) (p : Nat) (h : p < l.length) : (l.map (Value.int .u64))[p]? = some (.int .u64 (l.getD p 0)) := by
  simp [h]

/-- What holds at the outer loop's head. -/
def Outer (w0 : World) (g : Nat) (rate burst : Int) (ats tks : List Int) (now level spent : Int) (A1 A2 : Option Addr) (c1 c2 : Nat) (k : Nat) (wr : World) : Prop :=
  BInv rate burst ats tks now level k ∧ U spent ∧ IsPurse wr g rate burst level spent ∧ Own wr (g + 1) 22 1 A1 c1 tks.length (ats.map (.int .u64)) ∧ Own wr (g + 1) 22 1 A2 c2 tks.length (tks.map (.int .u64)) ∧
    (blk A1 = none ∨ blk A1 ≠ blk A2) ∧ Below w0.heap.size w0 wr ∧ w0.heap.size ≤ g

set_option maxHeartbeats 1600000 in
set_option maxRecDepth 100000 in
theorem bounds_any (rate burst : Int) (hr : 0 ≤ rate ∧ rate ≤ 4294967295) (hb : 0 ≤ burst ∧ burst ≤ 4294967295) (A : Option Addr) (len cap : Nat) (K N : Nat → Int) (w : World) (hA : Acts w A len K N) :
    Calls Try.prog 4 #[.int .u32 rate, .int .u32 burst, .slice A len cap] w fun e w' => e = .returned (.bool true) ∧ w.grownBy w' none := by
  obtain ⟨hr0, hr1⟩ := hr
  obtain ⟨hb0, hb1⟩ := hb
  have hlen := hA.1
  obtain ⟨i0, hi, hz0, hz1, hz2⟩ := info_parts info22
  go_enter Try.func4, Try.ntmps4
  go_wp2_with fail
  refine (awake_any _).mono ?_
  rintro e w1 ⟨rfl, hg1⟩
  go_wp2_with fail
  refine (new_yes _ _ _ (by omega) (by omega)).mono ?_
  rintro e w2 ⟨rfl, hP2, hg2⟩
  have hb1 := below_gb hg1
  have hb2 := below_step0 hb1 hb1.size hg2
  have hg := hb1.size
  have hgl := hP2.lt
  generalize w1.heap.size = g at *
  clear hg1 hg2 hb1
  go_wp2_with fail
  go_loopw [9, 10, 11, 12] (fun v9 v10 v11 v12 wr => ∃ (now level spent : Int) (ats tks : List Int) (A1 A2 : Option Addr) (c1 c2 k : Nat), v9 = .int .u64 now ∧ v10 = .slice A1 tks.length c1 ∧ v11 = .slice A2 tks.length c2 ∧ v12 = .int .i64 k ∧ k ≤ len ∧ k ≤ 40 ∧ Outer w g rate burst ats tks now level spent A1 A2 c1 c2 k wr)
    (fun _ _ _ v12 _ => len - (intOf v12).toNat)
  case atStart =>
    exact ⟨0, burst, 0, [], [], none, none, 0, 0, 0, rfl, rfl, rfl, rfl, Nat.zero_le _, by omega, BInv.start _ _ hb0, U_of (by omega) (by omega), hP2, Own.nil _ _ _ _, Own.nil _ _ _ _, .inl rfl, hb2, hg⟩
  case round =>
    obtain ⟨now, level, spent, ats, tks, A1, A2, c1, c2, k, rfl, rfl, rfl, rfl, hk, hk40, hO⟩ := hrel
    obtain ⟨hI, hU, hP, hO1, hO2, hne, hbel, hgw⟩ := hO
    by_cases h1 : k < len
    · by_cases h2 : k < 40
      · obtain ⟨ga, off, rfl, hga, hc⟩ := hA.2 (by omega)
        obtain ⟨ck, cn, hUn⟩ := hc k h1
        have ck' := (hbel.cell (p := ⟨ga, off + k * 2, none⟩) hga).trans ck
        have cn' := (hbel.cell (p := ⟨ga, off + k * 2 + 1, none⟩) hga).trans cn
        clear ck cn hc
        have hUn0 := hUn.1
        have hUn1 := hUn.2
        by_cases hK : K k = 1
        · have hK' : (K k == 1) = true := by simpa using hK
          clear hK
          go_wp2_with fail
          refine (tick_any _ _ _ _ _ _ _ hP (U_of hr0 (by omega)) (U_of hI.lev0 (by have := hI.lev1; omega)) (U_of (by omega) (by omega))).mono ?_
          rintro e w3 ⟨rfl, hP3, hg3⟩
          have hn0 := hI.now0
          have hn1 := hI.now1
          have cn3 := hg3.cell cn' (by simp; omega)
          have hb3 := below_step hbel hbel.size hg3 hgw
          have hO13 := hO1.grown hg3 (.inr (fun e => by have := hO1.lt _ e; omega))
          have hO23 := hO2.grown hg3 (.inr (fun e => by have := hO2.lt _ e; omega))
          have hm0 : 0 ≤ rate * (N k % 1000) := Int.mul_nonneg hr0 (by omega)
          have hI3 := hI.tick hr0 (d := N k % 1000) (l := min burst (sat (level + sat (rate * (N k % 1000))))) (by omega) (by omega)
            (by have := hI.lev0; unfold sat; split <;> split <;> omega) (by omega) (by have := hI.lev0; unfold sat; split <;> split <;> omega)
          clear hm0 hP hg3
          go_wp2_with fail
          go_roundw
          case rel => exact ⟨_, _, _, _, _, _, _, _, _, k + 1, rfl, rfl, rfl, by go_num, by omega, by omega, hI3, hU, hP3, hO13, hO23, hne, hb3, hgw⟩
          case measure => simp [intOf]; omega
        · have hK' : (K k == 1) = false := by simpa using hK
          clear hK
          go_wp2_with fail
          have hn0 : 0 ≤ N k % 8589934592 := by omega
          have hn1 : N k % 8589934592 ≤ 8589934592 := by omega
          generalize N k % 8589934592 = n at *
          refine (spend_any _ _ _ _ _ _ _ hP hn0 (U_of hI.lev0 (by have := hI.lev1; omega)) hU).mono ?_
          rintro e w3 ⟨rfl, hP3, hg3⟩
          have hb3 := below_step hbel hbel.size hg3 hgw
          have hO13 := hO1.grown hg3 (.inr (fun e => by have := hO1.lt _ e; omega))
          have hO23 := hO2.grown hg3 (.inr (fun e => by have := hO2.lt _ e; omega))
          by_cases hnl : n ≤ level
          · have hI3 := hI.spend hr0 hn0 hn1 hnl
            have hlv : lvl level n = level - n := by rw [lvl, if_neg (by omega)]
            rw [hlv] at hP3
            clear hlv
            have hU5 : U (spt level spent n) := by unfold spt; split; exact hU; exact sat_U (by have := hU.1; omega)
            have hne' : blk A2 = none ∨ blk A2 ≠ blk A1 := by
              rcases hne with e | e
              · rw [e]; cases blk A2 <;> simp
              · exact .inr (Ne.symm e)
            have hcap := hI.le
            have hb30 : g + 1 ≤ w3.heap.size := by have := hP3.lt; omega
            have hby : (tks.length + 1) * 8 ≤ 140737488355328 := by omega
            have hb40 : ∀ w4 : World, w3.heap.size ≤ w4.heap.size → g + 1 ≤ w4.heap.size := fun w4 h => Nat.le_trans hb30 h
            go_wp2_with (first
              | (at_builtin; refine wpList_app1 w3 rfl (.tmp 73) (.tmp 75) 39 rfl (g + 1) 22 Try.underlying39 hi hz0 hz1 hz2 rfl (by decide) A1 c1 tks.length (ats.map (.int .u64)) rfl hO13 [.int .u64 now] 22 1 rfl rfl one_int hby (by decide) hb30 ?_; intro g1 c1' w4 hO1n hgr1 hl1 hb1' hlt1; have hO24 := hO23.grown hgr1 hne'; have hb4 := hb40 w4 hgr1.size)
              | (at_builtin; refine wpList_app1 w4 rfl (.tmp 77) (.tmp 79) 39 rfl (g + 1) 22 Try.underlying39 hi hz0 hz1 hz2 rfl (by decide) A2 c2 tks.length (tks.map (.int .u64)) rfl hO24 [.int .u64 n] 22 1 rfl rfl one_int hby (by decide) hb4 ?_; intro g2 c2' w5 hO2n hgr2 hl2 hb2' hlt2))
            have hP5 : IsPurse w5 g rate burst (level - n) (spt level spent n) :=
              (hP3.grown hgr1 (fun e => by have := hO13.lt g e.symm; omega)).grown hgr2 (fun e => by have := hO24.lt g e.symm; omega)
            have hne12 : g1 ≠ g2 := by
              intro e
              subst e
              rcases hl1 with e1 | e1 <;> rcases hl2 with e2 | e2
              · rw [e1, e2] at hne; simp at hne
              · have := (hO13.lt _ e1).2; have := hgr1.size; omega
              · have := (hO23.lt _ e2).2; omega
              · omega
            have hO15 := hO1n.grown hgr2 (.inr (fun e => by
              have e' : blk A2 = some g1 := by rw [← e]; rfl
              rcases hl1 with e1 | e1
              · rw [e1, e'] at hne; simp at hne
              · have := (hO23.lt g1 e').2; omega))
            have hne5 : blk (some ⟨g1, 0, none⟩) = none ∨ blk (some ⟨g1, 0, none⟩) ≠ blk (some ⟨g2, 0, none⟩) := .inr (by simp [blk]; exact hne12)
            have hb5 : Below w.heap.size w w5 := ((hb3.grown hgr1 (by omega) (fun q e => by have := hO13.lt q e; omega)).grown hgr2 (by omega) (fun q e => by have := hO24.lt q e; omega))
            clear hne12 hl1 hl2 hgr1 hgr2 hO1n hO24 hO23 hO13 hP3 hb3 hO1 hO2 hP hg3 hne hne' hb4 hb40 hby hb30 hb1' hb2' hlt1 hlt2 hbel hn0 hn1
            have e3 : ats.map (Value.int .u64) ++ [Value.int .u64 now] = (ats ++ [now]).map (.int .u64) := by simp
            have e4 : tks.map (Value.int .u64) ++ [Value.int .u64 n] = (tks ++ [n]).map (.int .u64) := by simp
            rw [e3] at hO15
            rw [e4] at hO2n
            clear e3 e4
            have hM : (tks ++ [n]).length = tks.length + 1 := by simp
            rw [← hM] at hO15 hO2n
            have hle := hI3.le
            have hlen5 := hI3.len
            have hnow0 := hI3.now0
            have hnow1 := hI3.now1
            go_loopw [14, 15] (fun v14 v15 wi => ∃ q : Nat, v15 = .int .i64 ((q : Int) - 1) ∧ v14 = .int .u64 (sumL (List.drop q (tks ++ [n]))) ∧ q ≤ (tks ++ [n]).length ∧ World.grownBy w5 wi none)
              (fun _ v15 _ => (intOf v15 + 1).toNat)
            case atStart => exact ⟨(tks ++ [n]).length, congrArg (Value.int .i64) (by simp), congrArg (Value.int .u64) (by rw [List.drop_length]; rfl), Nat.le_refl _, gb_refl _ _⟩
            case round =>
              obtain ⟨q, rfl, rfl, hq, hgi⟩ := hrel
              have hPi : IsPurse _ g rate burst (level - n) (spt level spent n) := Blk.grown hP5 hgi (by simp)
              have hO1i := hO15.grown0 hgi
              have hO2i := hO2n.grown0 hgi
              have hbi := below_step0 hb5 hb5.size hgi
              rcases Nat.eq_zero_or_pos q with hq0 | hq0
              · subst hq0
                go_wp2_with fail
                go_roundw
                case rel => exact ⟨_, _, _, _, _, _, _, _, _, k + 1, rfl, by simp, by simp, by go_num, by omega, by omega, hI3, hU5, hPi, hO1i, hO2i, hne5, hbi, hgw⟩
                case measure => simp [intOf]; omega
              · obtain ⟨p, rfl⟩ : ∃ p, q = p + 1 := ⟨q - 1, by omega⟩
                have ep : (((p + 1 : Nat) : Int) - 1) = (p : Int) := by omega
                rw [ep]
                clear ep
                have hp : p < (tks ++ [n]).length := by omega
                obtain ⟨b1, hA1, _, _⟩ := hO1i.form (by omega)
                obtain ⟨b2, hA2, _, _⟩ := hO2i.form (by omega)
                have ca := hO1i.cell hA1 (j := p) (by omega) (getD_map (ats ++ [now]) p (by omega))
                have ct := hO2i.cell hA2 (j := p) (by omega) (getD_map (tks ++ [n]) p (by omega))
                have hs := hI3.sum_le (p + 1)
                have hs2 := hI3.sum_le p
                have hd := sumL_drop (tks ++ [n]) p hp
                have hat := hI3.at_ p hp
                have htk := hI3.tk_ p hp
                have hbd := hI3.bnd p hp
                have hlev := hI3.lev0
                simp only [Option.some.injEq, Addr.mk.injEq, and_true] at hA1 hA2
                subst hA1; subst hA2
                generalize (ats ++ [now]).getD p 0 = a at *
                generalize (tks ++ [n]).getD p 0 = t at *
                obtain ⟨hs0, hs1⟩ := hs
                obtain ⟨ha0, ha1⟩ := hat
                obtain ⟨ht0, ht1⟩ := htk
                have hm0 : 0 ≤ rate * (now - a) := Int.mul_nonneg hr0 (by omega)
                have hm1 : rate * (now - a) ≤ 4294967295 * 41000 := Int.mul_le_mul hr1 (by omega) (by omega) (by omega)
                have hf : decide (sat (burst + sat (rate * (now - a))) < sumL (List.drop (p + 1) (tks ++ [n])) + t) = false := by
                  have e1 : sat (rate * (now - a)) = rate * (now - a) := by rw [sat, if_pos (by omega)]
                  have e2 : sat (burst + rate * (now - a)) = burst + rate * (now - a) := by rw [sat, if_pos (by omega)]
                  rw [e1, e2]
                  simp
                  omega
                have HD := Lib.hid hd
                have hp40 : p < 41 := by omega
                clear hd hbd hm0 hm1 hs2
                have hsum : sumL (List.drop (p + 1) (tks ++ [n])) + t ≤ 18446744073709551615 := by omega
                go_wp2_with fail
                refine (bound_any _ _ _ _ _ _ _ hPi (U_of hr0 (by omega)) (U_of hb0 (by omega)) (U_of (by omega) (by omega))).mono ?_
                rintro e w7 ⟨rfl, hg7⟩
                go_wp2_with fail
                go_roundw
                case rel => exact ⟨p, rfl, congrArg (Value.int .u64) HD.out.symm, by omega, gb_trans hgi hg7⟩
                case measure => first | (simp [intOf]; done) | (simp [intOf]; omega)
          · have hlv : lvl level n = level := by rw [lvl, if_pos (by omega)]
            have hsp : spt level spent n = spent := by rw [spt, if_pos (by omega)]
            rw [hlv, hsp] at hP3
            have hU5 := hU
            have hcap := hI.le
            have hnl' : decide (n ≤ level) = false := by simp; omega
            clear hlv hsp hO1 hO2 hP hg3 hbel
            go_wp2_with fail
            have hle := hI.skip.le
            have hlen5 := hI.skip.len
            have hnow0 := hI.skip.now0
            have hnow1 := hI.skip.now1
            go_loopw [14, 15] (fun v14 v15 wi => ∃ q : Nat, v15 = .int .i64 ((q : Int) - 1) ∧ v14 = .int .u64 (sumL (List.drop q (tks))) ∧ q ≤ (tks).length ∧ World.grownBy w3 wi none)
              (fun _ v15 _ => (intOf v15 + 1).toNat)
            case atStart => exact ⟨(tks).length, congrArg (Value.int .i64) (by omega), congrArg (Value.int .u64) (by rw [List.drop_length]; rfl), Nat.le_refl _, gb_refl _ _⟩
            case round =>
              obtain ⟨q, rfl, rfl, hq, hgi⟩ := hrel
              have hPi : IsPurse _ g rate burst (level) (spent) := Blk.grown hP3 hgi (by simp)
              have hO1i := hO13.grown0 hgi
              have hO2i := hO23.grown0 hgi
              have hbi := below_step0 hb3 hb3.size hgi
              rcases Nat.eq_zero_or_pos q with hq0 | hq0
              · subst hq0
                go_wp2_with fail
                go_roundw
                case rel => exact ⟨_, _, _, _, _, _, _, _, _, k + 1, rfl, by rfl, by rfl, by go_num, by omega, by omega, hI.skip, hU5, hPi, hO1i, hO2i, hne, hbi, hgw⟩
                case measure => simp [intOf]; omega
              · obtain ⟨p, rfl⟩ : ∃ p, q = p + 1 := ⟨q - 1, by omega⟩
                have ep : (((p + 1 : Nat) : Int) - 1) = (p : Int) := by omega
                rw [ep]
                clear ep
                have hp : p < (tks).length := by omega
                obtain ⟨b1, hA1, _, _⟩ := hO1i.form (by omega)
                obtain ⟨b2, hA2, _, _⟩ := hO2i.form (by omega)
                have ca := hO1i.cell hA1 (j := p) (by omega) (getD_map (ats) p (by omega))
                have ct := hO2i.cell hA2 (j := p) (by omega) (getD_map (tks) p (by omega))
                have hs := hI.skip.sum_le (p + 1)
                have hs2 := hI.skip.sum_le p
                have hd := sumL_drop (tks) p hp
                have hat := hI.skip.at_ p hp
                have htk := hI.skip.tk_ p hp
                have hbd := hI.skip.bnd p hp
                have hlev := hI.skip.lev0
                subst hA1; subst hA2
                generalize (ats).getD p 0 = a at *
                generalize (tks).getD p 0 = t at *
                obtain ⟨hs0, hs1⟩ := hs
                obtain ⟨ha0, ha1⟩ := hat
                obtain ⟨ht0, ht1⟩ := htk
                have hm0 : 0 ≤ rate * (now - a) := Int.mul_nonneg hr0 (by omega)
                have hm1 : rate * (now - a) ≤ 4294967295 * 41000 := Int.mul_le_mul hr1 (by omega) (by omega) (by omega)
                have hf : decide (sat (burst + sat (rate * (now - a))) < sumL (List.drop (p + 1) (tks)) + t) = false := by
                  have e1 : sat (rate * (now - a)) = rate * (now - a) := by rw [sat, if_pos (by omega)]
                  have e2 : sat (burst + rate * (now - a)) = burst + rate * (now - a) := by rw [sat, if_pos (by omega)]
                  rw [e1, e2]
                  simp
                  omega
                have HD := Lib.hid hd
                have hp40 : p < 41 := by omega
                clear hd hbd hm0 hm1 hs2
                have hsum : sumL (List.drop (p + 1) (tks)) + t ≤ 18446744073709551615 := by omega
                go_wp2_with fail
                refine (bound_any _ _ _ _ _ _ _ hPi (U_of hr0 (by omega)) (U_of hb0 (by omega)) (U_of (by omega) (by omega))).mono ?_
                rintro e w7 ⟨rfl, hg7⟩
                go_wp2_with fail
                go_roundw
                case rel => exact ⟨p, rfl, congrArg (Value.int .u64) HD.out.symm, by omega, gb_trans hgi hg7⟩
                case measure => first | (simp [intOf]; done) | (simp [intOf]; omega)
      · have h2' : decide ((k : Int) < 40) = false := by simp; omega
        go_wp2_with fail
        refine (awake_any _).mono ?_
        rintro e w3 ⟨rfl, hg3⟩
        have hb3 := below_step0 hbel hbel.size hg3
        go_wp2_with fail
        go_ret
        exact ⟨rfl, gb_below hb3⟩
    · go_wp2_with fail
      refine (awake_any _).mono ?_
      rintro e w3 ⟨rfl, hg3⟩
      have hb3 := below_step0 hbel hbel.size hg3
      go_wp2_with fail
      go_ret
      exact ⟨rfl, gb_below hb3⟩
end Go.Proofs.Ytbnpmhlfbpoaaaa
