/- The walk of the document's Take: a number from 1 on. -/
import Derived.Test.YtlohplopomfjhaaWM
namespace Go.Proofs.Ytlohplopomfjhaa
set_option linter.unusedVariables false
set_option linter.unusedSimpArgs false
open Go.RowKit Go.Own Go.Bits

section
variable (g : Nat) (L : List Bool) (t : Bool) (w : World)

set_option maxHeartbeats 3200000 in
theorem tgamma_any (h : TkS w g L t) : Calls Try.prog 22 #[.pointer (some ⟨g, 0, none⟩)] w fun e w' =>
    e = .returned (.int .u64 ((gamS L t).1 : Nat)) ∧ w.grownBy w' (some g) ∧ TkS w' g (gamS L t).2.1 (gamS L t).2.2 := by
  go_enter Try.func22, Try.ntmps22
  go_wp2_with fail
  go_loopw [3, 4] (fun v3 v4 wi => ∃ (s o : Nat) (L' : List Bool) (t' : Bool), v3 = .int .i64 s ∧ v4 = .int .u64 (o : Nat) ∧ (s < 64 → o = 2 ^ s) ∧ o < 18446744073709551616 ∧ s ≤ 64 ∧ w.grownBy wi (some g) ∧ TkS wi g L' t' ∧
      (t' = false → t = false ∧ (s < 64 → gz 64 L 0 = gz (64 - s) L' s) ∧ (s = 64 → gamS L t = (0, L', true))) ∧ (t' = true → gamS L t = (0, L', true)))
    (fun v3 _ _ => 64 - (intOf v3).toNat)
  case atStart => exact ⟨0, 1, L, t, rfl, rfl, by simp, by omega, by omega, gb_refl _ _, h, fun e => ⟨e, fun _ => rfl, by simp⟩, fun e => by unfold gamS; rw [if_pos e]⟩
  case round =>
    obtain ⟨s, o, L', t', rfl, rfl, ho, ho2, hs, hg, hr, hf, ht⟩ := hrel
    have hoi : (o : Int) < 18446744073709551616 := by omega
    obtain ⟨ct0, cf0⟩ := hr.torn
    cases t'
    · obtain ⟨rfl, hgz0, hg64⟩ := hf rfl
      clear ht hf h
      by_cases hs64 : s < 64
      · have hgz := hgz0 hs64
        have ho3 := ho hs64
        have hnx : s + 1 < 64 → o * 2 % 18446744073709551616 = 2 ^ (s + 1) := by
          intro h4
          have h3 : 2 ^ (s + 1) ≤ 2 ^ 63 := Nat.pow_le_pow_right (by omega) (by omega)
          rw [ho3, ← Nat.pow_succ]
          omega
        have HNX := Lib.hid hnx
        have HO3 := Lib.hid ho3
        have HO2 := Lib.hid ho2
        have hb := tbit_any g L' false wr hr
        have hsz : (s : Int) < 64 := by omega
        clear hgz0 hg64 hnx ho3 ho ho2
        go_wp2_with fail
        match L' with
        | [] =>
          refine hb.mono ?_
          rintro e w3 ⟨rfl, hg3, hr3⟩
          have hr4 : TkS w3 g [] true := hr3
          have e1 : gz (64 - s) [] s = (false, s, []) := by
            obtain ⟨f, hf⟩ : ∃ f, 64 - s = f + 1 := ⟨63 - s, by omega⟩
            rw [hf]; rfl
          have HG := Lib.hid (gamS_of (hgz.trans e1))
          clear hgz
          go_wp2_with fail
          go_roundw
          case rel => exact ⟨s + 1, o * 2 % 18446744073709551616, [], true, by go_num, by go_num, HNX.out, by omega, by omega, gb_trans hg hg3, hr4, by simp, fun _ => HG.out⟩
          case measure => first | (simp [intOf]; done) | (simp [intOf]; omega)
        | false :: L2 =>
          refine hb.mono ?_
          rintro e w3 ⟨rfl, hg3, hr3⟩
          have hr4 : TkS w3 g L2 false := hr3
          have e1 : gz (64 - s) (false :: L2) s = gz (64 - (s + 1)) L2 (s + 1) := by
            obtain ⟨f, hf⟩ : ∃ f, 64 - s = f + 1 := ⟨63 - s, by omega⟩
            have hf2 : 64 - (s + 1) = f := by omega
            rw [hf, hf2]; rfl
          have HG := Lib.hid (hgz.trans e1)
          clear hgz
          go_wp2_with fail
          go_roundw
          case rel =>
            refine ⟨s + 1, o * 2 % 18446744073709551616, L2, false, by go_num, by go_num, HNX.out, by omega, by omega, gb_trans hg hg3, hr4, fun _ => ⟨by trivial, fun _ => HG.out, fun h64 => ?_⟩, by simp⟩
            have e2 : gz (64 - (s + 1)) L2 (s + 1) = (false, s + 1, L2) := by
              have : 64 - (s + 1) = 0 := by omega
              rw [this]; rfl
            exact gamS_of (HG.out.trans e2)
          case measure => first | (simp [intOf]; done) | (simp [intOf]; omega)
        | true :: L2 =>
          refine hb.mono ?_
          rintro e w3 ⟨rfl, hg3, hr3⟩
          have hr4 : TkS w3 g L2 false := hr3
          have e1 : gz (64 - s) (true :: L2) s = (true, s, L2) := by
            obtain ⟨f, hf⟩ : ∃ f, 64 - s = f + 1 := ⟨63 - s, by omega⟩
            rw [hf]; rfl
          have HG := Lib.hid (hgz.trans e1)
          clear hgz
          obtain ⟨ct, cf⟩ := hr4.torn
          have htu := fun W (h : TkS W g L2 false) => tturned_any g L2 false W (s : Int) h
          rw [nb_nat s hs] at htu
          have HTU := Lib.hid htu
          clear htu
          have htv := tv_lt L2 s
          rw [← HO3.out] at htv
          have hoo : 2 * o ≤ 18446744073709551616 := by
            rw [HO3.out]
            have h3 : 2 ^ (s + 1) ≤ 2 ^ 64 := Nat.pow_le_pow_right (by omega) (by omega)
            rw [Nat.pow_succ] at h3
            omega
          have hsum : (o : Int) + (tv L2 s : Int) < 18446744073709551616 := by omega
          have HSUM := Lib.hid hsum
          have hsb : decide ((64 : Int) ≤ (s : Int)) = false := by simp; omega
          clear hoo htv hsum hoi hb e1 ct0 cf0 hs hsz hs64
          go_wp2_with fail
          have hsum := HSUM.out
          refine (HTU.out _ hr4).mono ?_
          rintro e w5 ⟨rfl, hg5, hr5⟩
          rw [Bool.false_or] at hr5
          obtain ⟨ct2, cf2⟩ := hr5.torn
          by_cases htn : L2.length < s
          · have ht2 : decide (L2.length < s) = true := by simpa using htn
            rw [ht2] at hr5 ct2
            go_wp2_with fail
            go_ret
            rw [gamS_short HG.out htn]
            exact ⟨rfl, gb_trans (gb_trans hg hg3) hg5, hr5⟩
          · have ht2 : decide (L2.length < s) = false := by simpa using htn
            rw [ht2] at hr5 ct2
            go_wp2_with fail
            go_ret
            rw [gamS_full HG.out htn]
            exact ⟨ret_val (congrArg (Value.int .u64) (by rw [HO3.out]; push_cast; rfl)), gb_trans (gb_trans hg hg3) hg5, hr5⟩
      · have hs64' : s = 64 := by omega
        have HG := Lib.hid (hg64 hs64')
        subst hs64'
        clear hgz0 hg64 ho ho2
        go_wp2_with fail
        go_ret
        rw [HG.out]
        exact ⟨rfl, gb_set hg, hr.tear true⟩
    · have HG := Lib.hid (ht rfl)
      clear ht hf ho ho2
      by_cases hs64 : s < 64
      · have hsn : ¬ ((64 : Int) ≤ (s : Int)) := by omega
        go_wp2_with fail
        go_ret
        rw [HG.out]
        exact ⟨rfl, hg, hr⟩
      · have hs64' : s = 64 := by omega
        subst hs64'
        go_wp2_with fail
        go_ret
        rw [HG.out]
        exact ⟨rfl, gb_set hg, hr.tear true⟩
end
end Go.Proofs.Ytlohplopomfjhaa
