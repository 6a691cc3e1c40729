/- The walks of package chunk's New, ends and next, and of the law's sizes. -/
import Derived.Test.YtephnmmbmacbfaaFA
namespace Go.Proofs.Ytephnmmbmacbfaa
set_option linter.unusedVariables false
set_option linter.unusedSimpArgs false
open Go.RowKit Go.Own Go.Chunk

/-- A cutter. -/
def cv (least most bits : Int) : Value := .agg #[.int .i64 least, .int .i64 most, .int .i64 bits]

/-- Sizes that may be. -/
def Fine (least most bits : Int) : Prop := 16 ≤ least ∧ least ≤ most ∧ most ≤ 1048576 ∧ 0 ≤ bits ∧ bits ≤ 20

set_option maxHeartbeats 1600000 in
theorem new_ok (least most bits : Int) (w : World) (h : Fine least most bits) :
    Calls Try.prog 8 #[.int .i64 least, .int .i64 most, .int .i64 bits] w fun e w' => e = .returned (.tuple #[cv least most bits, .int .i64 0]) ∧ w.grownBy w' none := by
  obtain ⟨h1, h2, h3, h4, h5⟩ := h
  unfold cv
  have HB := Blk.new w #[.int .i64 least, .int .i64 most, .int .i64 bits] 29
  go_enter Try.func8, Try.ntmps8
  go_wp2_with fail
  refine bodyPost_ret (res_struct2 rfl HB rfl rfl Try.underlying29 rfl (by kernel_rfl)) rfl ⟨rfl, ?_⟩
  exact gb_alloc (gb_refl w none) _

set_option maxHeartbeats 3200000 in
theorem new_bad (least most bits : Int) (w : World) (h : ¬ Fine least most bits) :
    Calls Try.prog 8 #[.int .i64 least, .int .i64 most, .int .i64 bits] w fun e w' => e = .returned (.tuple #[cv 0 0 0, .int .i64 1]) ∧ w.grownBy w' none := by
  unfold cv
  have HB := Blk.new w #[.int .i64 0, .int .i64 0, .int .i64 0] 29
  have hgz := gb_alloc (gb_refl w none) (.cells #[.int .i64 0, .int .i64 0, .int .i64 0] 29)
  by_cases h1 : least < 16
  · go_enter Try.func8, Try.ntmps8
    go_wp2_with fail
    exact bodyPost_ret (res_struct2 rfl HB rfl rfl Try.underlying29 rfl (by kernel_rfl)) rfl ⟨rfl, hgz⟩
  by_cases h2 : most < least
  · clear h
    go_enter Try.func8, Try.ntmps8
    go_wp2_with fail
    exact bodyPost_ret (res_struct2 rfl HB rfl rfl Try.underlying29 rfl (by kernel_rfl)) rfl ⟨rfl, hgz⟩
  by_cases h3 : 1048576 < most
  · clear h
    go_enter Try.func8, Try.ntmps8
    go_wp2_with fail
    exact bodyPost_ret (res_struct2 rfl HB rfl rfl Try.underlying29 rfl (by kernel_rfl)) rfl ⟨rfl, hgz⟩
  by_cases h4 : bits < 0
  · clear h
    go_enter Try.func8, Try.ntmps8
    go_wp2_with fail
    exact bodyPost_ret (res_struct2 rfl HB rfl rfl Try.underlying29 rfl (by kernel_rfl)) rfl ⟨rfl, hgz⟩
  · have h5 : 20 < bits := by unfold Fine at h; omega
    clear h
    go_enter Try.func8, Try.ntmps8
    go_wp2_with fail
    exact bodyPost_ret (res_struct2 rfl HB rfl rfl Try.underlying29 rfl (by kernel_rfl)) rfl ⟨rfl, hgz⟩

set_option maxHeartbeats 1600000 in
theorem right_ok (least most bits : Int) (w : World) (h : Fine least most bits) :
    Calls Try.prog 13 #[.int .i64 least, .int .i64 most, .int .i64 bits] w fun e w' => e = .returned (.bool true) ∧ w' = w := by
  obtain ⟨h1, h2, h3, h4, h5⟩ := h
  go_enter Try.func13, Try.ntmps13
  go_wp2_with fail
  go_ret
  exact ⟨rfl, rfl⟩

set_option maxHeartbeats 1600000 in
theorem right_bad (least most bits : Int) (w : World) (h : ¬ Fine least most bits) :
    Calls Try.prog 13 #[.int .i64 least, .int .i64 most, .int .i64 bits] w fun e w' => e = .returned (.bool false) ∧ w' = w := by
  by_cases h1 : least < 16
  · clear h
    go_enter Try.func13, Try.ntmps13
    go_wp2_with fail
    go_ret
    exact ⟨rfl, rfl⟩
  by_cases h2 : most < least
  · clear h
    go_enter Try.func13, Try.ntmps13
    go_wp2_with fail
    go_ret
    exact ⟨rfl, rfl⟩
  by_cases h3 : 1048576 < most
  · clear h
    go_enter Try.func13, Try.ntmps13
    go_wp2_with fail
    go_ret
    exact ⟨rfl, rfl⟩
  by_cases h4 : bits < 0
  · clear h
    go_enter Try.func13, Try.ntmps13
    go_wp2_with fail
    go_ret
    exact ⟨rfl, rfl⟩
  · have h5 : 20 < bits := by unfold Fine at h; omega
    have h6 : decide (bits ≤ 20) = false := by simp; omega
    clear h
    go_enter Try.func13, Try.ntmps13
    go_wp2_with fail
    go_ret
    exact ⟨rfl, rfl⟩

set_option maxHeartbeats 1600000 in
theorem sizes_any (a b c : Nat) (w : World) (ha : a < 256) (hb : b < 256) (hc : c < 256) :
    Calls Try.prog 7 #[.agg #[.int .u8 a, .int .u8 b, .int .u8 c]] w fun e w' => e = .returned (.tuple #[.int .i64 ((16 + a % 30 : Nat) : Int), .int .i64 ((16 + a % 30 + b : Nat) : Int), .int .i64 ((c % 21 : Nat) : Int)]) ∧ w.grownBy w' none := by
  have hB0 := Blk.new w #[.int .u8 (a : Int), .int .u8 (b : Int), .int .u8 (c : Int)] 23
  have hg0 := gb_alloc (gb_refl w none) (.cells #[.int .u8 (a : Int), .int .u8 (b : Int), .int .u8 (c : Int)] 23)
  have k0 := hB0.cell 0 rfl
  have k1 := hB0.cell 1 rfl
  have k2 := hB0.cell 2 rfl
  have e1 : (a : Int).tmod 30 = ((a % 30 : Nat) : Int) := by rw [Int.tmod_eq_emod_of_nonneg (by omega)]; omega
  have e2 : (c : Int).tmod 21 = ((c % 21 : Nat) : Int) := by rw [Int.tmod_eq_emod_of_nonneg (by omega)]; omega
  have r1 : a % 30 < 30 := Nat.mod_lt _ (by decide)
  have r2 : c % 21 < 21 := Nat.mod_lt _ (by decide)
  generalize a % 30 = a2 at *
  generalize c % 21 = c2 at *
  go_enter Try.func7, Try.ntmps7
  go_wp2_with fail
  go_quiet (fail)
  go_wp2_with fail
  go_ret3
  refine ⟨?_, gb_drewN hg0 _⟩
  first | rfl | (push_cast; rfl)

theorem mask_stops (k : Nat) (s : Int) (hk : k ≤ 20) (hs : 0 ≤ s ∧ s < 18446744073709551616) :
    (bits BinOp.and IntKind.u64 (s / 1048576) (IntKind.u64.wrap (IntKind.u64.wrap (2 ^ k) - 1)) == 0) = stops k s := by
  obtain ⟨n, rfl⟩ : ∃ n : Nat, s = (n : Int) := ⟨s.toNat, by omega⟩
  have hp : 2 ^ k ≤ 1048576 := Nat.pow_le_pow_right (n := 2) (by omega) (show k ≤ 20 from hk)
  have hp1 : 1 ≤ 2 ^ k := Nat.one_le_two_pow
  have e0 : ((2 : Int) ^ k) = ((2 ^ k : Nat) : Int) := (Int.natCast_pow 2 k).symm
  have e5 : n / 1048576 &&& (2 ^ k - 1) = n / 1048576 % 2 ^ k := Nat.and_two_pow_sub_one_eq_mod _ _
  unfold stops
  rw [e0]
  generalize 2 ^ k = q at *
  have e1 : IntKind.u64.wrap (q : Int) = (q : Int) := by rw [IntKind.wrap_u64]; omega
  have e2 : IntKind.u64.wrap ((q : Int) - 1) = ((q - 1 : Nat) : Int) := by rw [IntKind.wrap_u64]; omega
  have e3 : ((n : Int)) / 1048576 = ((n / 1048576 : Nat) : Int) := by omega
  rw [e1, e2, e3, bits_and_u64_nat _ _ (by omega) (by omega), e5]
  rfl

set_option maxHeartbeats 1600000 in
theorem ends_any (least most : Int) (k : Nat) (s : Int) (w : World) (hk : k ≤ 20) (hs : 0 ≤ s ∧ s < 18446744073709551616) :
    Calls Try.prog 24 #[cv least most k, .int .u64 s] w fun e w' => e = .returned (.bool (stops k s)) ∧ w.grownBy w' none := by
  obtain ⟨s1, s2⟩ := hs
  have hki : (k : Int) ≤ 20 := by omega
  have hB0 := Blk.new w #[.int .i64 least, .int .i64 most, .int .i64 k] 29
  have k2 := hB0.cell 2 rfl
  unfold cv
  go_enter Try.func24, Try.ntmps24
  go_wp2_with fail
  go_ret
  exact ⟨by rw [← mask_stops k s hk ⟨s1, s2⟩]; rfl, gb_alloc (gb_refl w none) _⟩

theorem spread_same (c : Nat) (w : World) (hc : c < 256) :
    Calls Try.prog 21 #[.int .u8 c] w fun e w' => e = .returned (.int .u64 (spc c)) ∧ w = w' :=
  (spread_any c w hc).mono fun _ _ h => ⟨h.1, h.2.symm⟩

theorem f16_mod : f16 % M = F ^ 16 % M := by unfold f16; exact Int.emod_emod_of_dvd _ (Int.dvd_refl M)

set_option maxHeartbeats 1600000 in
theorem next_any (least most k : Nat) (b : List Nat) (S : Option Addr) (cs B : Nat) (w : World) (hS : Rd w B 1 S b.length (b.map bv)) (hB : B ≤ w.heap.size) (hv : ∀ v ∈ b, v < 256) (hl : b.length ≤ 1000000) (hlc : b.length ≤ cs) (hcm : cs ≤ 9223372036854775807)
    (h16 : 16 ≤ least) (hlm : least ≤ most) (hm : most ≤ 1048576) (hk : k ≤ 20) :
    Calls Try.prog 20 #[cv least most k, .slice S b.length cs] w fun e w' => e = .returned (.int .i64 (next spc least most k b : Nat)) ∧ w.grownBy w' none := by
  have hB0 := Blk.new w #[.int .i64 (least : Int), .int .i64 (most : Int), .int .i64 (k : Int)] 29
  have hg0 := gb_alloc (gb_refl w none) (.cells #[.int .i64 (least : Int), .int .i64 (most : Int), .int .i64 (k : Int)] 29)
  have k0 := hB0.cell 0 rfl
  have k1 := hB0.cell 1 rfl
  have k2 := hB0.cell 2 rfl
  by_cases hle : b.length ≤ least
  · have e : next spc least most k b = b.length := by unfold next; rw [if_pos hle]
    rw [e]
    have hli : (b.length : Int) ≤ (least : Int) := by omega
    unfold cv
    go_enter Try.func20, Try.ntmps20
    go_wp2_with fail
    go_ret
    exact ⟨rfl, hg0⟩
  · have e : next spc least most k b = scan spc most k b (b.length - least) least := by unfold next; rw [if_neg hle]
    obtain ⟨target, ht⟩ : ∃ t, t = next spc least most k b := ⟨_, rfl⟩
    have HT0 := Lib.hid (ht.trans e)
    rw [← ht]
    clear e ht
    have hli : ¬ ((b.length : Int) ≤ (least : Int)) := by omega
    have hl2 : (least : Int) ≤ (b.length : Int) := by omega
    have hlc2 : (least : Int) ≤ (cs : Int) := by omega
    have h16i : (16 : Int) ≤ (least : Int) := by omega
    have hlmi : (least : Int) ≤ 1048576 := by omega
    obtain ⟨g, off, rfl, hgB, hc⟩ := rd_byte hS (show 0 < b.length by omega)
    obtain ⟨lo, hlo⟩ : ∃ lo, lo = least - 16 := ⟨_, rfl⟩
    have hloi : (least : Int) - 16 = (lo : Int) := by omega
    have hloj : least = lo + 16 := by omega
    have hpart := rd_part hS lo 16 (by omega)
    have hwl : ((b.drop lo).take 16).length = 16 := by rw [List.length_take, List.length_drop]; omega
    have hsum := fun W (hW : w.grownBy W none) => sum_any ((b.drop lo).take 16) (some ⟨g, off + lo, none⟩) (cs - lo) B W (by rw [hwl]; exact hpart.later hW hB) (fun v hv' => hv v (List.mem_of_mem_drop (List.mem_of_mem_take hv'))) (by omega)
    rw [hwl] at hsum
    have hwin : win spc b least = sumB spc ((b.drop lo).take 16) := by unfold win; rw [hlo]
    rw [← hwin] at hsum
    replace hsum := Lib.hid hsum
    have hloh := Lib.hid hloj
    have hls : least - lo = 16 := by omega
    clear hloj hlo hpart hwl hwin
    have hends := fun (s : Int) (W : World) (h : 0 ≤ s ∧ s < 18446744073709551616) => ends_any least most k s W hk h
    unfold cv at hends ⊢
    replace hends := Lib.hid hends
    go_enter Try.func20, Try.ntmps20
    go_wp2_with fail
    generalize w.alloc (.cells #[.int .i64 (least : Int), .int .i64 (most : Int), .int .i64 (k : Int)] 29) = w0 at *
    refine (old_any _).mono ?_
    rintro e w1 ⟨rfl, rfl⟩
    go_wp2_with (first
      | (go_at_call 23; refine (old_any _).mono ?_; rintro e w1 ⟨rfl, rfl⟩)
      | (go_at_call 14; refine (hsum.out _ hg0).mono ?_; rintro e w1 ⟨rfl, rfl⟩))
    go_loopw [6, 7] (fun v6 v7 wi => ∃ (n : Nat) (s : Int), v7 = .int .i64 n ∧ v6 = .int .u64 s ∧ least ≤ n ∧ n ≤ b.length ∧ n ≤ most ∧ Hid (s = win spc b n) ∧ Hid (target = scan spc most k b (b.length - n) n) ∧ w1.grownBy wi none)
      (fun _ v7 _ => b.length - (intOf v7).toNat)
    case atStart => exact ⟨least, _, rfl, rfl, Nat.le_refl _, by omega, hlm, Lib.hid rfl, HT0, gb_refl _ _⟩
    case round =>
      obtain ⟨n, s, rfl, rfl, hn1, hn2, hn3, hs, HT, hg⟩ := hrel
      have hBr := hB0.grown hg (by simp)
      have c0 := hBr.cell 0 rfl
      have c1 := hBr.cell 1 rfl
      have c2 := hBr.cell 2 rfl
      have hni : (n : Int) ≤ 1048576 := by omega
      have hsr := sumB_range spc ((b.drop (n - 16)).take 16)
      have hsr2 : 0 ≤ s ∧ s < 18446744073709551616 := by rw [hs.out]; exact hsr
      clear k0 k1 k2 hBr hsr
      by_cases h1 : n = most
      · have hT : target = n := by rw [HT.out]; exact scan_here _ _ _ _ _ _ (.inl h1)
        have h1b : ((n : Int) == (most : Int)) = true := by rw [h1]; simp
        replace h1 := Lib.hid h1
        replace hT := Lib.hid hT
        go_wp2_with fail
        go_ret
        exact ⟨ret_int (by rw [hT.out]), gb_trans hg0 hg⟩
      have h1b : ((n : Int) == (most : Int)) = false := by simp; omega
      by_cases h2 : n = b.length
      · have hT : target = n := by rw [HT.out]; exact scan_here _ _ _ _ _ _ (.inr (.inl h2))
        have h2b : ((n : Int) == (b.length : Int)) = true := by rw [h2]; simp
        replace h2 := Lib.hid h2
        replace hT := Lib.hid hT
        go_wp2_with fail
        go_ret
        exact ⟨ret_int (by rw [hT.out]), gb_trans hg0 hg⟩
      have h2b : ((n : Int) == (b.length : Int)) = false := by simp; omega
      have hnl : n < b.length := by omega
      have hnli : (n : Int) < (b.length : Int) := by omega
      have he := hends.out s wr hsr2
      cases hst : stops k s with
      | true =>
        rw [hst] at he
        have hT : target = n := by rw [HT.out]; exact scan_here _ _ _ _ _ _ (.inr (.inr (by rw [← hs.out]; exact hst)))
        replace hT := Lib.hid hT
        replace hst := Lib.hid hst
        go_wp2_with fail
        refine he.mono ?_
        rintro e w2 ⟨rfl, hg2⟩
        go_wp2_with fail
        go_ret
        exact ⟨ret_int (by rw [hT.out]), gb_trans (gb_trans hg0 hg) hg2⟩
      | false =>
        rw [hst] at he
        have hT : target = scan spc most k b (b.length - (n + 1)) (n + 1) := by
          rw [HT.out, show b.length - n = (b.length - (n + 1)) + 1 by omega]
          exact scan_step _ _ _ _ _ _ (by rw [← hs.out, hst]; simp; omega)
        have hnx := win_next spc b n f16 (by omega) hnl f16_mod
        rw [← hs.out] at hnx
        replace hnx := Lib.hid hnx
        replace hT := Lib.hid hT
        replace hst := Lib.hid hst
        have hx := byte_lt hv hnl
        have hy := byte_lt hv (show n - 16 < b.length by omega)
        have hcx := hc n hnl
        have hcy := hc (n - 16) (by omega)
        obtain ⟨m, hm16⟩ : ∃ m, m = n - 16 := ⟨_, rfl⟩
        have hmi : (n : Int) - 16 = (m : Int) := by omega
        have hmj : (m : Int) < (b.length : Int) := by omega
        have hnx' := hnx.out
        rw [← hm16] at hy hcy hnx'
        clear hnx
        have hnx := Lib.hid hnx'
        clear hnx'
        replace hm16 := Lib.hid hm16
        go_wp2_with fail
        refine he.mono ?_
        rintro e w2 ⟨rfl, hg2⟩
        have hgA := gb_trans (gb_trans hg0 hg) hg2
        have dx := hgA.cell hcx (by simp)
        have dy := hgA.cell hcy (by simp)
        generalize b.getD n 0 = x at *
        generalize b.getD m 0 = y at *
        have hxr := spc_rng x
        have hyr := spc_rng y
        clear hc hcx hcy c0 c1 c2 he
        go_wp2_with fail
        go_quiet ((first | (go_at_call 21; refine quiet_same (spread_same _ _ (by assumption)))))
        go_wp2_with fail
        go_roundw
        case rel =>
          refine ⟨n + 1, _, by go_num, rfl, by omega, by omega, by omega, Lib.hid ?_, hT, gb_drewN (gb_trans hg hg2) _⟩
          rw [hnx.out]
          simp only [IntKind.wrap_u64, M, F]
          generalize spc y * f16 = q
          omega
        case measure => first | (simp [intOf]; done) | (simp [intOf]; omega)
end Go.Proofs.Ytephnmmbmacbfaa
