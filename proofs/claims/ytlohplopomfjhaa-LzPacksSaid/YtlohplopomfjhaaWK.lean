/- The walk of package bitio's reader: a number from 1 on. -/
import Derived.Test.YtlohplopomfjhaaWJ
namespace Go.Proofs.Ytlohplopomfjhaa
set_option linter.unusedVariables false
set_option linter.unusedSimpArgs false
open Go.RowKit Go.Own Go.Bits

theorem or64s (k x : Nat) (hk : k < 64) (hx : x < 2 ^ k) : bits BinOp.or IntKind.u64 (IntKind.u64.wrap ((2 : Int) ^ k)) (x : Int) = ((2 ^ k + x : Nat) : Int) := by
  rw [IntKind.wrap_u64]
  have h1 : 2 ^ k < 18446744073709551616 := by
    have := Nat.pow_lt_pow_right (a := 2) (by omega) hk
    exact this
  have e : (2 : Int) ^ k % 18446744073709551616 = ((2 ^ k : Nat) : Int) := by
    have : ((2 : Int) ^ k) = ((2 ^ k : Nat) : Int) := by norm_cast
    rw [this]
    omega
  have h3 := Nat.two_pow_add_eq_or_of_lt hx 1
  rw [Nat.mul_one] at h3
  rw [e, bits_or_u64_nat (2 ^ k) x h1 (by omega), ← h3]

theorem RdS.torn {w : World} {g : Nat} {L : List Bool} {t : Bool} (h : RdS w g L t) : w.cell? ⟨g, 2, none⟩ = some (.bool t) ∧ w.frozen? ⟨g, 2, none⟩ = false := by
  obtain ⟨A, c, n, bl, hB, _⟩ := h
  exact ⟨hB.cell 2 rfl, hB.free 2⟩

theorem RdS.tear {w : World} {g : Nat} {L : List Bool} {t : Bool} (h : RdS w g L t) (b : Bool) : RdS (w.setCell ⟨g, 2, none⟩ (.bool b)) g L b := by
  obtain ⟨A, c, n, bl, hB, hO, r⟩ := h
  exact ⟨A, c, n, bl, hB.set 2 (.bool b), hO.other (fun e => own_ne_blk hO hB (by decide) e) _, r⟩

theorem gamS_of {L : List Bool} {b : Bool} {s : Nat} {r : List Bool} (h : gz 64 L 0 = (b, s, r)) : gamS L false = if b then (if r.length < s then (0, r.drop s, true) else (2 ^ s + tv r s, r.drop s, false)) else (0, r, true) := by
  unfold gamS
  rw [h]
  rfl

theorem gamS_short {L : List Bool} {s : Nat} {r : List Bool} (h : gz 64 L 0 = (true, s, r)) (h2 : r.length < s) : gamS L false = (0, r.drop s, true) := by rw [gamS_of h]; simp [h2]
theorem gamS_full {L : List Bool} {s : Nat} {r : List Bool} (h : gz 64 L 0 = (true, s, r)) (h2 : ¬ r.length < s) : gamS L false = (2 ^ s + tv r s, r.drop s, false) := by rw [gamS_of h]; simp [h2]

section
variable (g : Nat) (L : List Bool) (t : Bool) (w : World)

set_option maxHeartbeats 800000 in
theorem rdgamma_nil : Calls Try.prog 29 #[.pointer none] w fun e w' => e = .returned (.int .u64 0) ∧ w.grownBy w' none := by
  go_enter Try.func29, Try.ntmps29
  go_wp2_with fail
  go_loopw [3] (fun v3 wi => v3 = .int .i64 0 ∧ w = wi) (fun _ _ => 0)
  case atStart => exact ⟨rfl, rfl⟩
  case round =>
    obtain ⟨rfl, rfl⟩ := hrel
    go_wp2_with fail
    refine (rtorn_nil _).mono ?_
    rintro e w2 ⟨rfl, rfl⟩
    go_wp2_with fail
    refine (rtorn_nil _).mono ?_
    rintro e w2 ⟨rfl, rfl⟩
    go_wp2_with fail
    go_ret
    exact ⟨rfl, gb_refl _ _⟩

set_option maxHeartbeats 3200000 in
theorem rdgamma_any (h : RdS w g L t) : Calls Try.prog 29 #[.pointer (some ⟨g, 0, none⟩)] w fun e w' =>
    e = .returned (.int .u64 ((gamS L t).1 : Nat)) ∧ w.grownBy w' (some g) ∧ RdS w' g (gamS L t).2.1 (gamS L t).2.2 := by
  go_enter Try.func29, Try.ntmps29
  go_wp2_with fail
  go_loopw [3] (fun v3 wi => ∃ (s : Nat) (L' : List Bool) (t' : Bool), v3 = .int .i64 s ∧ s ≤ 64 ∧ w.grownBy wi (some g) ∧ RdS wi g L' t' ∧ (t' = false → t = false ∧ s < 64 ∧ gz 64 L 0 = gz (64 - s) L' s) ∧ (t' = true → gamS L t = (0, L', true)))
    (fun v3 _ => 64 - (intOf v3).toNat)
  case atStart => exact ⟨0, L, t, rfl, by omega, gb_refl _ _, h, fun e => ⟨e, by omega, rfl⟩, fun e => by unfold gamS; rw [if_pos e]⟩
  case round =>
    obtain ⟨s, L', t', rfl, hs, hg, hr, hf, ht⟩ := hrel
    cases t'
    · obtain ⟨rfl, hs64, hgz⟩ := hf rfl
      clear ht hf h
      have hb := rbit_any g L' false wr hr
      have hsz : (s : Int) < 64 := by omega
      go_wp2_with fail
      refine (rtorn_any g _ _ _ hr).mono ?_
      rintro e w2 ⟨rfl, rfl⟩
      go_wp2_with fail
      match L' with
      | [] =>
        refine hb.mono ?_
        rintro e w3 ⟨rfl, hg3, hr3⟩
        have hr4 : RdS w3 g [] true := hr3
        obtain ⟨ct, cf⟩ := hr4.torn
        have e1 : gz (64 - s) [] s = (false, s, []) := by
          obtain ⟨f, hf⟩ : ∃ f, 64 - s = f + 1 := ⟨63 - s, by omega⟩
          rw [hf]; rfl
        have hgm := gamS_of (hgz.trans e1)
        have HG := Lib.hid hgm
        clear hgm hgz
        by_cases h63 : s = 63
        · go_wp2_with fail
          go_roundw
          case rel => exact ⟨s + 1, [], true, by go_num, by omega, gb_set (gb_trans hg hg3), hr4.tear true, by simp, fun _ => HG.out⟩
          case measure => first | (simp [intOf]; done) | (simp [intOf]; omega)
        · have h63' : ¬ ((63 : Int) < (s : Int) + 1) := by omega
          go_wp2_with fail
          go_roundw
          case rel => exact ⟨s + 1, [], true, by go_num, by omega, gb_trans hg hg3, hr4, by simp, fun _ => HG.out⟩
          case measure => first | (simp [intOf]; done) | (simp [intOf]; omega)
      | false :: L2 =>
        refine hb.mono ?_
        rintro e w3 ⟨rfl, hg3, hr3⟩
        have hr4 : RdS w3 g L2 false := hr3
        obtain ⟨ct, cf⟩ := hr4.torn
        have e1 : gz (64 - s) (false :: L2) s = gz (64 - (s + 1)) L2 (s + 1) := by
          obtain ⟨f, hf⟩ : ∃ f, 64 - s = f + 1 := ⟨63 - s, by omega⟩
          have hf2 : 64 - (s + 1) = f := by omega
          rw [hf, hf2]; rfl
        have HG := Lib.hid (hgz.trans e1)
        clear hgz
        by_cases h63 : s = 63
        · go_wp2_with fail
          go_roundw
          case rel =>
            refine ⟨s + 1, L2, true, by go_num, by omega, gb_set (gb_trans hg hg3), hr4.tear true, by simp, fun _ => ?_⟩
            have e2 : gz (64 - (s + 1)) L2 (s + 1) = (false, s + 1, L2) := by
              have : 64 - (s + 1) = 0 := by omega
              rw [this]; rfl
            exact gamS_of (HG.out.trans e2)
          case measure => first | (simp [intOf]; done) | (simp [intOf]; omega)
        · have h63' : ¬ ((63 : Int) < (s : Int) + 1) := by omega
          go_wp2_with fail
          go_roundw
          case rel => exact ⟨s + 1, L2, false, by go_num, by omega, gb_trans hg hg3, hr4, fun _ => ⟨by trivial, by omega, HG.out⟩, by simp⟩
          case measure => first | (simp [intOf]; done) | (simp [intOf]; omega)
      | true :: L2 =>
        refine hb.mono ?_
        rintro e w3 ⟨rfl, hg3, hr3⟩
        have hr4 : RdS w3 g L2 false := hr3
        have e1 : gz (64 - s) (true :: L2) s = (true, s, L2) := by
          obtain ⟨f, hf⟩ : ∃ f, 64 - s = f + 1 := ⟨63 - s, by omega⟩
          rw [hf]; rfl
        have HG := Lib.hid (hgz.trans e1)
        clear hgz
        go_wp2_with fail
        refine (rtorn_any g _ _ _ hr4).mono ?_
        rintro e w4 ⟨rfl, rfl⟩
        have htu := fun W (h : RdS W g L2 false) => rdturned_any g L2 false W (s : Int) h
        rw [nb_nat s hs] at htu
        have HTU := Lib.hid htu
        clear htu
        have hr4d : RdS w3.drew g L2 false := hr4.later (gb_drew (gb_refl _ _))
        have hor := or64s s (tv L2 s) hs64 (tv_lt L2 s)
        have HOR := Lib.hid hor
        clear hor
        go_wp2_with fail
        go_region_with (first
          | (go_at_call 44; refine (HTU.out _ hr4d).mono ?_; rintro e w5 ⟨rfl, hg5, hr5⟩))
        rw [HOR.out]
        rw [Bool.false_or] at hr5
        obtain ⟨ct, cf⟩ := hr5.torn
        by_cases htn : L2.length < s
        · have ht2 : decide (L2.length < s) = true := by simpa using htn
          rw [ht2] at hr5 ct
          go_wp2_with fail
          go_ret
          rw [gamS_short HG.out htn]
          exact ⟨rfl, gb_trans (gb_trans hg hg3) (gb_trans (gb_drew (gb_refl _ _)) hg5), hr5⟩
        · have ht2 : decide (L2.length < s) = false := by simpa using htn
          rw [ht2] at hr5 ct
          go_wp2_with fail
          go_ret
          rw [gamS_full HG.out htn]
          exact ⟨ret_val (congrArg (Value.int .u64) (by push_cast; rfl)), gb_trans (gb_trans hg hg3) (gb_trans (gb_drew (gb_refl _ _)) hg5), hr5⟩
    · have hgm := ht rfl
      have HG := Lib.hid hgm
      clear hgm ht hf
      go_wp2_with fail
      refine (rtorn_any g _ _ _ hr).mono ?_
      rintro e w2 ⟨rfl, rfl⟩
      go_wp2_with fail
      refine (rtorn_any g _ _ _ hr).mono ?_
      rintro e w2 ⟨rfl, rfl⟩
      go_wp2_with fail
      go_ret
      rw [HG.out]
      exact ⟨rfl, hg, hr⟩
end
end Go.Proofs.Ytlohplopomfjhaa
