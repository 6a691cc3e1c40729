/- The walk of the law WatchPlays. -/
import Derived.Test.YtgadcikgnndmjaaWH
import Derived.Test.YtgadcikgnndmjaaWF
import Derived.Test.YtgadcikgnndmjaaQTail
import Derived.Test.YtgadcikgnndmjaaOpen
import Derived.Deep.RegionHeld3
namespace Go.Proofs.Ytgadcikgnndmjaa
set_option linter.unusedVariables false
set_option linter.unusedSimpArgs false
open Go.RowKit Go.Own

/-- The acts: element i is of kind K i, and of number N i. -/
def Acts (W : World) (A : Option Addr) (len : Nat) (K N : Nat → Int) : Prop :=
  len ≤ 9223372036854775807 ∧ (0 < len → ∃ g off, A = some ⟨g, off, none⟩ ∧ g < W.heap.size ∧ ∀ i, i < len → W.cell? ⟨g, off + i * 2, none⟩ = some (.int .i64 (K i)) ∧ W.cell? ⟨g, off + i * 2 + 1, none⟩ = some (.int .i64 (N i)))

theorem epn_epd (late gone now1 now2 epoch : Int) (hs1 hs2 : List Int) (h : hs1.length = hs2.length) :
    epn late gone now2 epoch hs2 (hs1.map (thk late gone now1)) = epd epoch (difB (hs1.map (thk late gone now1)) (hs2.map (thk late gone now2)) hs2.length) := by
  unfold epn epd turnB difB
  simp only [List.map_take]

theorem thk_cases (late gone now h : Int) : thk late gone now h = 0 ∨ thk late gone now h = 1 ∨ thk late gone now h = 2 := by
  unfold thk; split <;> (try split) <;> simp

theorem epd_le (epoch : Int) (b : Bool) : epoch ≤ epd epoch b ∧ epd epoch b ≤ epoch + 1 := by unfold epd; split <;> omega

theorem heard_rep (n : Nat) : Heard 0 (List.replicate n 0) := by
  intro k hk
  simp at hk
  simp [List.getElem?_replicate, hk]

theorem map_rep (late gone : Int) (n : Nat) (h1 : 1 ≤ late) (h2 : late < gone) : (List.replicate n (0 : Int)).map (thk late gone 0) = List.replicate n 0 := by
  have : thk late gone 0 0 = 0 := by unfold thk; rw [if_neg (by omega), if_neg (by omega)]
  rw [List.map_replicate, this]

/-- What holds at the loop's head: both watches are alike. -/
def Alike (w0 : World) (g hb sb rb : Nat) (late gone now epoch : Int) (q c : Nat) (hs : List Int) (n : Nat) (wr : World) : Prop :=
  hs.length = n ∧ 0 ≤ now ∧ now ≤ 1099511627776 ∧ Heard now hs ∧ IsW wr g hb sb late gone now epoch hs (hs.map (thk late gone now)) ∧
    Blk wr rb #[.int .i64 late, .int .i64 gone, .int .i64 now, .int .i64 epoch, .slice (some ⟨q, 0, none⟩) n c] 36 ∧ HRow wr q hs ∧ Below w0.heap.size w0 wr ∧ q ≠ g ∧ q ≠ hb ∧ q ≠ sb ∧ q ≠ rb


theorem Alike.later {w0 wr w' : World} {g hb sb rb : Nat} {late gone now epoch : Int} {q c : Nat} {hs : List Int} {n : Nat} (h : Alike w0 g hb sb rb late gone now epoch q c hs n wr) (hg : wr.grownBy w' none) : Alike w0 g hb sb rb late gone now epoch q c hs n w' := by
  obtain ⟨h1, h2, h3, h4, h5, h6, h7, h8, h9⟩ := h
  exact ⟨h1, h2, h3, h4, h5.later hg, h6.grown hg (by simp), h7.later hg, below_step0 h8 h8.size hg, h9⟩

theorem fill5 {w4 : World} {rb : Nat} {a b c d e : Value} (h : Blk w4 rb #[a, b, c, d, e] 36) (v0 v1 v2 v3 v4 : Value) :
    Blk (((((w4.setCell ⟨rb, 0, none⟩ v0).setCell ⟨rb, 1, none⟩ v1).setCell ⟨rb, 2, none⟩ v2).setCell ⟨rb, 3, none⟩ v3).setCell ⟨rb, 4, none⟩ v4) rb #[v0, v1, v2, v3, v4] 36 ∧
      Tch (fun j => j = rb) w4 (((((w4.setCell ⟨rb, 0, none⟩ v0).setCell ⟨rb, 1, none⟩ v1).setCell ⟨rb, 2, none⟩ v2).setCell ⟨rb, 3, none⟩ v3).setCell ⟨rb, 4, none⟩ v4) :=
  ⟨((((h.set 0 v0).set 1 v1).set 2 v2).set 3 v3).set 4 v4, tch_set (tch_set (tch_set (tch_set (tch_set (tch_refl _ _) (.inl rfl)) (.inl rfl)) (.inl rfl)) (.inl rfl)) (.inl rfl)⟩

theorem heard_set {now : Int} {hs : List Int} (hh : Heard now hs) (m : Nat) (hn : 0 ≤ now) : Heard now (hs.set m now) := by
  intro k hk
  simp at hk
  by_cases e : k = m
  · subst e
    simp [hk]; omega
  · have := hh k hk
    have e2 : (hs.set m now).getD k 0 = hs.getD k 0 := by
      simp [List.getElem?_set, Ne.symm e]
    rw [e2]
    exact this

theorem tick_both (m late gone now epoch : Int) (g hb sb q c n : Nat) (hs : List Int) (hln : hs.length = n) (hl : hs.length ≤ 32) (hn : 0 ≤ now ∧ now ≤ 1099511627776) (hh : Heard now hs) (he : 0 ≤ epoch ∧ epoch ≤ 1000000) :
    ∃ (bo : Bool) (now' ep' : Int), (0 ≤ now' ∧ now' ≤ 1099511627776) ∧ Heard now' hs ∧ (0 ≤ ep' ∧ ep' ≤ epoch + 1) ∧
      (∀ w, IsW w g hb sb late gone now epoch hs (hs.map (thk late gone now)) → Calls Try.prog 8 #[.pointer (some ⟨g, 0, none⟩), .int .i64 m] w fun e w' => e = .returned (.bool bo) ∧
        IsW w' g hb sb late gone now' ep' hs (hs.map (thk late gone now')) ∧ Tch (WS g hb sb) w w') ∧
      (∀ w, HRow w q hs → Calls Try.prog 13 #[rv late gone now epoch q n c, .int .i64 m] w fun e w' => e = .returned (.tuple #[rv late gone now' ep' q n c, .bool bo]) ∧ w.grownBy w' none) := by
  subst hln
  by_cases hN : 1 ≤ m ∧ m ≤ 1099511627776 - now
  · refine ⟨true, now + m, epn late gone (now + m) epoch hs (hs.map (thk late gone now)), ⟨by omega, by omega⟩, fun j hj => ⟨(hh j hj).1, by have := (hh j hj).2; omega⟩, by unfold epn; split <;> omega, fun w h => tick_yes _ _ _ _ _ _ _ _ _ _ _ h hl hn hN.1 hN.2 hh he, fun w h => ?_⟩
    rw [epn_epd late gone now (now + m) epoch hs hs rfl]
    exact rtick_yes late gone now epoch q c hs w m h hl hn hh he hN.1 hN.2
  · refine ⟨false, now, epoch, hn, hh, ⟨he.1, by omega⟩, fun w h => (tick_no _ _ _ _ _ _ _ _ _ _ m h hn (by omega)).mono ?_, fun w h => rtick_no late gone now epoch q c hs w m hn (by omega)⟩
    rintro e w' ⟨rfl, rfl⟩
    exact ⟨rfl, h, tch_refl _ _⟩

theorem heard_both (m late gone now epoch : Int) (g hb sb q c n : Nat) (hs : List Int) (hln : hs.length = n) (hl : hs.length ≤ 32) (hn : 0 ≤ now ∧ now ≤ 1099511627776) (hh : Heard now hs) (he : 0 ≤ epoch ∧ epoch ≤ 1000000) :
    ∃ (bo : Bool) (hs' : List Int) (ep' : Int), hs'.length = n ∧ Heard now hs' ∧ (0 ≤ ep' ∧ ep' ≤ epoch + 1) ∧
      (∀ w, IsW w g hb sb late gone now epoch hs (hs.map (thk late gone now)) → Calls Try.prog 10 #[.pointer (some ⟨g, 0, none⟩), .int .i64 m] w fun e w' => e = .returned (.bool bo) ∧
        IsW w' g hb sb late gone now ep' hs' (hs'.map (thk late gone now)) ∧ Tch (WS g hb sb) w w') ∧
      (∀ w, HRow w q hs → Calls Try.prog 14 #[rv late gone now epoch q n c, .int .i64 m] w fun e w' => ∃ q' c', e = .returned (.tuple #[rv late gone now ep' q' n c', .bool bo]) ∧ w.grownBy w' none ∧ HRow w' q' hs' ∧ (q' = q ∨ w.heap.size ≤ q')) := by
  subst hln
  by_cases hN : 0 ≤ m ∧ m < (hs.length : Int)
  · obtain ⟨k, rfl⟩ := Int.eq_ofNat_of_zero_le hN.1
    have hk : k < hs.length := by omega
    refine ⟨true, hs.set k now, epn late gone now epoch (hs.set k now) (hs.map (thk late gone now)), by simp, heard_set hh k hn.1, by unfold epn; split <;> omega, fun w h => heard_yes _ _ _ _ _ _ _ _ _ _ k hk h hl hn hh he, fun w h => ?_⟩
    rw [epn_epd late gone now now epoch hs (hs.set k now) (by simp), List.length_set]
    refine (rheard_yes late gone now epoch q c hs w k h hl hn hh he hk).mono ?_
    rintro e w' ⟨q', c', h1, h2, h3, h4⟩
    exact ⟨q', c', h1, h2, h3, .inr h4⟩
  · refine ⟨false, hs, epoch, rfl, hh, ⟨he.1, by omega⟩, fun w h => (heard_no _ _ _ _ _ _ _ _ _ _ m h (by omega)).mono ?_, fun w h => (rheard_no late gone now epoch q c hs w m hl (by omega)).mono ?_⟩
    · rintro e w' ⟨rfl, rfl⟩
      exact ⟨rfl, h, tch_refl _ _⟩
    · rintro e w' ⟨rfl, hg⟩
      exact ⟨q, c, rfl, hg, h.later hg, .inl rfl⟩

theorem make3 (W : World) : (Instr.makeSlice 34 (.int .i64 3) (.int .i64 3)).run Try.prog W = .ok (.slice (some ⟨W.heap.size, 0, none⟩) 3 3) (W.alloc (.cells #[.int .i64 0, .int .i64 0, .int .i64 0] 3)) :=
  run_make_ints Try.underlying34 info3 3 (by omega) W


set_option maxHeartbeats 6400000 in
set_option maxRecDepth 100000 in
theorem plays_any (a0 late gone node : Int) (h0 : 0 ≤ a0 ∧ a0 ≤ 255) (A : Option Addr) (len cap : Nat) (K N : Nat → Int) (w : World) (hA : Acts w A len K N) :
    Calls Try.prog 4 #[.int .u8 a0, .int .i64 late, .int .i64 gone, .slice A len cap, .int .i64 node] w fun e w' => e = .returned (.bool true) ∧ w.grownBy w' none := by
  have hlen := hA.1
  obtain ⟨n, hn⟩ := Int.eq_ofNat_of_zero_le (show 0 ≤ 1 + a0 % 32 by omega)
  have hn1 : 1 ≤ n := by omega
  have hn2 : n ≤ 32 := by omega
  by_cases hr : rightB n late gone = true
  · have hr' := hr
    unfold rightB at hr'
    simp only [decide_eq_true_eq] at hr'
    obtain ⟨_, _, r3, r4, r5⟩ := hr'
    have HR := Lib.hid hr
    clear hr
    go_enter Try.func4, Try.ntmps4
    go_wp2_with fail
    refine (awake_any _).mono ?_
    rintro e w1 ⟨rfl, hg1⟩
    go_wp2_with fail
    refine (new_yes n _ _ _ hn1 hn2 r3 r4 r5).mono ?_
    rintro e w2 ⟨g, hb, sb, rfl, hi2, hg2, l1, l2, l3⟩
    have hb1 := below_gb hg1
    have hb2 := below_step0 hb1 hb1.size hg2
    go_wp2_with fail
    refine (right_any _ _ _ _).mono ?_
    rintro e w3 ⟨rfl, rfl⟩
    rw [HR.out]
    have m1 := fun W => run_make_ints Try.underlying34 info3 n (by omega) W
    have hi4 := hi2.later (gb_alloc (gb_alloc (gb_refl w2 none) (.cells ((List.replicate n (0 : Int)).map (Value.int .i64)).toArray 3)) (.cells #[.int .i64 late, .int .i64 gone, .int .i64 0, .int .i64 0, .slice (some ⟨w2.heap.size, 0, none⟩) n n] 36))
    go_wp2_with (go_at_call 12; refine (len_any _ _ _ _ _ _ _ _ _ _ (by simpa using hi4)).mono ?_; rintro e w5 ⟨rfl, rfl⟩; (try rw [List.length_replicate]))
    have hlg := hi2.1.lt
    have hlh := Blk.lt hi2.2.1
    have hls := Blk.lt hi2.2.2.1
    have hlb := hb2.size
    have hrep : (Array.replicate n (Value.int .i64 0)) = ((List.replicate n (0 : Int)).map (Value.int .i64)).toArray := by simp
    have B5 := Blk.new (w2.alloc (.cells (Array.replicate n (Value.int .i64 0)) 3)) #[.int .i64 late, .int .i64 gone, .int .i64 0, .int .i64 0, .slice (some ⟨w2.heap.size, 0, none⟩) n n] 36
    have esz : (w2.alloc (.cells (Array.replicate n (Value.int .i64 0)) 3)).heap.size = w2.heap.size + 1 := by simp
    rw [esz] at B5
    have R5 : HRow ((w2.alloc (.cells (Array.replicate n (Value.int .i64 0)) 3)).alloc (.cells #[.int .i64 late, .int .i64 gone, .int .i64 0, .int .i64 0, .slice (some ⟨w2.heap.size, 0, none⟩) n n] 36)) w2.heap.size (List.replicate n 0) := by
      refine ⟨by simp; omega, fun k hk => ?_⟩
      simp only [List.length_replicate] at hk
      have hx := Blk.cell ((Blk.new w2 (Array.replicate n (Value.int .i64 0)) 3).alloc (.cells #[.int .i64 late, .int .i64 gone, .int .i64 0, .int .i64 0, .slice (some ⟨w2.heap.size, 0, none⟩) n n] 36)) k (v := .int .i64 0) (by simp [hk])
      rw [hx]
      simp [List.getElem?_replicate, hk]
    rw [← hrep] at hi4
    have hb5 := (hb2.alloc hlb (.cells (Array.replicate n (Value.int .i64 0)) 3)).alloc (Nat.le_trans hlb (by simp)) (.cells #[.int .i64 late, .int .i64 gone, .int .i64 0, .int .i64 0, .slice (some ⟨w2.heap.size, 0, none⟩) n n] 36)
    have hal : Alike w g hb sb (w2.heap.size + 1) late gone 0 0 w2.heap.size n (List.replicate n 0) n ((w2.alloc (.cells (Array.replicate n (Value.int .i64 0)) 3)).alloc (.cells #[.int .i64 late, .int .i64 gone, .int .i64 0, .int .i64 0, .slice (some ⟨w2.heap.size, 0, none⟩) n n] 36)) :=
      ⟨by simp, by omega, by omega, heard_rep n, by rw [map_rep late gone n r3 r4]; exact hi4, B5, R5, hb5, by omega, by omega, by omega, by omega⟩
    have hS := ws_le (B := w.heap.size) (Nat.le_trans hb1.size l1) (Nat.le_trans hb1.size l2) (Nat.le_trans hb1.size l3)
    have hrb : w.heap.size ≤ w2.heap.size + 1 := by omega
    generalize w2.heap.size + 1 = rb at *
    clear m1 hi4 B5 R5 hrep hb5 esz hb2 hb1 hi2 hlg hlh hls hlb hg1 hg2
    go_loopw [15] (fun v15 wr => ∃ (k : Nat) (now epoch : Int) (q c : Nat) (hs : List Int), v15 = .int .i64 k ∧ k ≤ len ∧ k ≤ 60 ∧ 0 ≤ epoch ∧ epoch ≤ k ∧ Alike w g hb sb rb late gone now epoch q c hs n wr)
      (fun v15 _ => len - (intOf v15).toNat)
    case atStart => exact ⟨0, 0, 0, _, _, _, rfl, Nat.zero_le _, by omega, by omega, by omega, hal⟩
    case round =>
      obtain ⟨k, now, epoch, q, c, hs, rfl, hk, hk60, he0, he1, hln, hn0, hn9, hh, hi, hB, hRow, hbel, hq1, hq2, hq3, hq4⟩ := hrel
      clear hal
      by_cases c1 : k < len
      · by_cases c2 : k < 60
        · obtain ⟨ga, off, rfl, hga, hc⟩ := hA.2 (by omega)
          obtain ⟨ck0, cn0⟩ := hc k c1
          have ck := (hbel.cell (p := ⟨ga, off + k * 2, none⟩) hga).trans ck0
          have cn := (hbel.cell (p := ⟨ga, off + k * 2 + 1, none⟩) hga).trans cn0
          have hrga : rb ≠ ga := by omega
          have hrb1 : rb ≠ g := hB.ne_type hi.1 (by decide)
          have hrb2 : rb ≠ hb := hB.ne_type hi.2.1 (by decide)
          have hrb3 : rb ≠ sb := hB.ne_type hi.2.2.1 (by decide)
          have hWrb : ¬ WS g hb sb rb := by rintro (e | e | e) <;> omega
          have hWq : ¬ WS g hb sb q := by rintro (e | e | e) <;> omega
          have hl32 : hs.length ≤ 32 := by omega
          clear ck0 hc
          by_cases hK : K k = 1
          · have hK' : (K k == 1) = true := by simpa using hK
            clear hK
            obtain ⟨bo, now', ep', ⟨hn'0, hn'9⟩, hh', ⟨hep0, hep1⟩, hT, hRT⟩ := tick_both (N k) late gone now epoch g hb sb q c n hs hln hl32 ⟨hn0, hn9⟩ hh ⟨he0, by omega⟩
            have HT := Lib.hid hT
            have HRT := Lib.hid hRT
            have HH' := Lib.hid hh'
            have HLN := Lib.hid hln
            clear hT hRT hh hh' hln
            go_wp2_with fail
            refine (HT.out _ hi).mono ?_
            rintro e w3 ⟨rfl, hi3, ht3⟩
            have hb3 := below_tch hbel hbel.size ht3 hS
            have hR3 := hRow.tch ht3 hWq
            have hB3 := hB.tch ht3 hWrb
            have cn3 := (hb3.cell (p := ⟨ga, off + k * 2 + 1, none⟩) hga).trans cn0
            have b0 := hB3.cell 0 rfl
            have b1 := hB3.cell 1 rfl
            have b2 := hB3.cell 2 rfl
            have b3 := hB3.cell 3 rfl
            have b4 := hB3.cell 4 rfl
            have hR3d : HRow w3.drew q hs := hR3
            go_wp2_with fail
            go_region_with
              ((go_at_call 13; refine (HRT.out _ hR3d).mono ?_; rintro e w4 ⟨rfl, hg4⟩; (have hB4 := hB3.drew.grown hg4 (by simp)); (have d0 := hB4.cell 0 rfl); (have d1 := hB4.cell 1 rfl); (have d2 := hB4.cell 2 rfl); (have d3 := hB4.cell 3 rfl); (have d4 := hB4.cell 4 rfl); (have e0 := hB4.free 0); (have e1 := hB4.free 1); (have e2 := hB4.free 2); (have e3 := hB4.free 3); (have e4 := hB4.free 4); unfold rv))
            all_goals
              obtain ⟨HBz, htz⟩ := fill5 hB4 (.int .i64 late) (.int .i64 gone) (.int .i64 now') (.int .i64 ep') (.slice (some ⟨q, 0, none⟩) n c)
              have hg3z : w3.grownBy w4 none := gb_trans (gb_drew (gb_refl w3 none)) hg4
              have hbz := below_tch (below_step0 hb3 hb3.size hg3z) (below_step0 hb3 hb3.size hg3z).size htz (fun j e => by subst e; exact hrb)
              have hiz := (hi3.later hg3z).tch htz (fun e => hrb1 e.symm) (fun e => hrb2 e.symm) (fun e => hrb3 e.symm)
              have hRz := (hR3.later hg3z).tch htz hq4
              generalize ((((w4.setCell ⟨rb, 0, none⟩ (.int .i64 late)).setCell ⟨rb, 1, none⟩ (.int .i64 gone)).setCell ⟨rb, 2, none⟩ (.int .i64 now')).setCell ⟨rb, 3, none⟩ (.int .i64 ep')).setCell ⟨rb, 4, none⟩ (.slice (some ⟨q, 0, none⟩) n c) = wz at *
              have hal2 : Alike w g hb sb rb late gone now' ep' q c hs n wz := ⟨HLN.out, hn'0, hn'9, HH'.out, hiz, HBz, hRz, hbz, hq1, hq2, hq3, hq4⟩
              clear b0 b1 b2 b3 b4 hR3d hB4 d0 d1 d2 d3 d4 e0 e1 e2 e3 e4 hB3 hR3 hb3 hg4 hg3z hbz hiz htz HBz hRz HRT hi3
              obtain ⟨zl, zn0, zn9, zh, zi, zB, zR, zbel, zq⟩ := id hal2
              have ZL := Lib.hid zl
              have zl32 : hs.length ≤ 32 := by omega
              have HAL := Lib.hid hal2
              clear zl hal2 zq
              go_wp2_with fail
              refine (now_any _ _ _ _ _ _ _ _ _ _ zi).mono ?_
              rintro e wa ⟨rfl, hga2⟩
              have ai := zi.later hga2
              have aB := zB.grown hga2 (by simp)
              have aR := zR.later hga2
              clear zi zB zR
              have d0 := fun x => (Later.blk aB x).cell 0 rfl
              have d1 := fun x => (Later.blk aB x).cell 1 rfl
              have d2 := fun x => (Later.blk aB x).cell 2 rfl
              have d3 := fun x => (Later.blk aB x).cell 3 rfl
              have d4 := fun x => (Later.blk aB x).cell 4 rfl
              have S1 := fun (x : In (Later wa)) => of_any g hb sb late gone now' ep' hs (hs.map (thk late gone now')) x.w node (ai.later x.ok) (by omega)
              have S2 := fun (x : In (Later wa)) => state_any late gone now' ep' q c hs x.w node (aR.later x.ok) zl32 ⟨zn0, zn9⟩ zh
              rw [ZL.out] at S2
              generalize ofN (hs.map (thk late gone now')) node = y1 at *
              have HS1 := Lib.hid S1
              have HS2 := Lib.hid S2
              clear S1 S2
              go_wp2_with fail
              refine wp_region_in (Later wa) (by kernel_rfl) (by kernel_rfl) (Later.start _) ?_
              repeat (go_big_quiet_step ((first | rfl | (go_at_call 9; exact later_call_same _ (HS1.out _)) | (go_at_call 16; exact later_call _ (HS2.out _)))))
              refine wpQuiet_nil ?_
              rintro _ ⟨x, rfl⟩
              clear d0 d1 d2 d3 d4 HS1 HS2
              have bi := ai.later x.ok
              have bB := aB.grown x.ok (by simp)
              have bR := aR.later x.ok
              have hgb := gb_trans hga2 x.ok
              clear ai aB aR hga2
              generalize x.w = wb at *
              clear x
              have m3 := make3
              go_wp2_with fail
              clear m3
              have hgm := gb_alloc (gb_refl wb none) (.cells #[.int .i64 0, .int .i64 0, .int .i64 0] 3)
              have hCn := Blk.new wb #[.int .i64 0, .int .i64 0, .int .i64 0] 3
              have hcb : wb.heap.size ≤ wb.heap.size := Nat.le_refl _
              generalize wb.alloc (.cells #[.int .i64 0, .int .i64 0, .int .i64 0] 3) = wc at *
              generalize hcbn : wb.heap.size = cb at *
              go_loopw [21] (fun v21 wj => ∃ j : Nat, v21 = .int .i64 j ∧ j ≤ n ∧ wb.grownBy wj none ∧ Blk wj cb #[.int .i64 (cnt ((hs.map (thk late gone now')).take j) 0), .int .i64 (cnt ((hs.map (thk late gone now')).take j) 1), .int .i64 (cnt ((hs.map (thk late gone now')).take j) 2)] 3)
                (fun v21 _ => n - (intOf v21).toNat)
              case atStart => exact ⟨0, rfl, Nat.zero_le _, hgm, hCn⟩
              case round =>
                obtain ⟨j, rfl, hj, hgj, hC⟩ := hrel
                clear hgm hCn
                have ji := bi.later hgj
                have jB := bB.grown hgj (by simp)
                have jR := bR.later hgj
                have d0 := jB.cell 0 rfl
                have d1 := jB.cell 1 rfl
                have d2 := jB.cell 2 rfl
                have d3 := jB.cell 3 rfl
                have d4 := jB.cell 4 rfl
                by_cases hjn : j < n
                · have jj : j < hs.length := by rw [ZL.out]; exact hjn
                  have ev : ofN (hs.map (thk late gone now')) j = thk late gone now' (hs.getD j 0) := ofN_map _ _ _ _ _ jj
                  have eg : (hs.map (thk late gone now')).getD j 0 = thk late gone now' (hs.getD j 0) := by simp [jj]
                  have cs0 := cnt_succ (hs.map (thk late gone now')) 0 j (by simpa using jj)
                  have cs1 := cnt_succ (hs.map (thk late gone now')) 1 j (by simpa using jj)
                  have cs2 := cnt_succ (hs.map (thk late gone now')) 2 j (by simpa using jj)
                  rw [eg] at cs0 cs1 cs2
                  have le0 := Nat.le_trans (cnt_le ((hs.map (thk late gone now')).take j) 0) (by simp; omega : _ ≤ 32)
                  have le1 := Nat.le_trans (cnt_le ((hs.map (thk late gone now')).take j) 1) (by simp; omega : _ ≤ 32)
                  have le2 := Nat.le_trans (cnt_le ((hs.map (thk late gone now')).take j) 2) (by simp; omega : _ ≤ 32)
                  have S2 := fun W (h : HRow W q hs) => state_any late gone now' ep' q c hs W j h zl32 ⟨zn0, zn9⟩ zh
                  have S1 := fun W (h : IsW W g hb sb late gone now' ep' hs (hs.map (thk late gone now'))) => of_any g hb sb late gone now' ep' hs (hs.map (thk late gone now')) W j h (by omega)
                  rw [ev] at S1 S2
                  rw [ZL.out] at S2
                  clear eg ev
                  have ht := thk_cases late gone now' (hs.getD j 0)
                  have HS1 := Lib.hid S1
                  have HS2 := Lib.hid S2
                  have HC0 := Lib.hid cs0
                  have HC1 := Lib.hid cs1
                  have HC2 := Lib.hid cs2
                  clear S1 S2 cs0 cs1 cs2 jj
                  generalize thk late gone now' (hs.getD j 0) = tv at *
                  generalize cnt ((hs.map (thk late gone now')).take j) 0 = x0 at *
                  generalize cnt ((hs.map (thk late gone now')).take j) 1 = x1 at *
                  generalize cnt ((hs.map (thk late gone now')).take j) 2 = x2 at *
                  rcases ht with rfl | rfl | rfl
                  all_goals
                    go_wp2_with fail
                    refine (HS2.out _ jR).mono ?_
                    rintro e wk ⟨rfl, hgk⟩
                    have kC := hC.grown hgk (by simp)
                    have kc0 := kC.cell 0 rfl
                    have kc1 := kC.cell 1 rfl
                    have kc2 := kC.cell 2 rfl
                    have kf0 := kC.free 0
                    have kf1 := kC.free 1
                    have kf2 := kC.free 2
                    have ki := ji.later hgk
                    go_wp2_with fail
                    refine (HS1.out _ ki).mono ?_
                    rintro e wk2 ⟨rfl, rfl⟩
                    go_wp2_with fail
                    go_roundw
                    case rel =>
                      refine ⟨j + 1, by go_num, by omega, gb_new_set (gb_trans hgj hgk) (by simp [hcbn]), ?_⟩
                      rw [HC0.out, HC1.out, HC2.out]
                      first
                        | exact kC.set 0 _
                        | exact kC.set 1 _
                        | exact kC.set 2 _
                    case measure => simp [intOf]; omega
                · have hjn2 : j = n := by omega
                  have et : (hs.map (thk late gone now')).take j = hs.map (thk late gone now') := List.take_of_length_le (by simp [ZL.out, hjn2])
                  rw [et] at hC
                  clear et
                  have f0 := fun x => (Later.blk hC x).cell 0 rfl
                  have f1 := fun x => (Later.blk hC x).cell 1 rfl
                  have f2 := fun x => (Later.blk hC x).cell 2 rfl
                  have K0 := fun (x : In (Later wr)) => count_any g hb sb late gone now' ep' hs (hs.map (thk late gone now')) x.w 0 (ji.later x.ok) zl32
                  have K1 := fun (x : In (Later wr)) => count_any g hb sb late gone now' ep' hs (hs.map (thk late gone now')) x.w 1 (ji.later x.ok) zl32
                  have K2 := fun (x : In (Later wr)) => count_any g hb sb late gone now' ep' hs (hs.map (thk late gone now')) x.w 2 (ji.later x.ok) zl32
                  have HK0 := Lib.hid K0
                  have HK1 := Lib.hid K1
                  have HK2 := Lib.hid K2
                  clear K0 K1 K2 d0 d1 d2 d3 d4
                  generalize cnt (hs.map (thk late gone now')) 0 = x0 at *
                  generalize cnt (hs.map (thk late gone now')) 1 = x1 at *
                  generalize cnt (hs.map (thk late gone now')) 2 = x2 at *
                  go_wp2_with fail
                  refine wp_region_in (Later wr) (by kernel_rfl) (by kernel_rfl) (Later.start _) ?_
                  repeat (go_big_quiet_step ((first | rfl | (go_at_call_of 17 (0 : Int); exact later_call_same _ (HK0.out _)) | (go_at_call_of 17 (1 : Int); exact later_call_same _ (HK1.out _)) | (go_at_call_of 17 (2 : Int); exact later_call_same _ (HK2.out _)))))
                  refine wpQuiet_nil ?_
                  rintro _ ⟨x, rfl⟩
                  go_wp2_with fail
                  go_roundw
                  case rel => exact ⟨k + 1, _, _, _, _, _, by go_num, by omega, by omega, by omega, by omega, HAL.out.later (gb_trans (gb_trans hgb hgj) x.ok)⟩
                  case measure => simp [intOf]; omega
          · have hK' : (K k == 1) = false := by simpa using hK
            clear hK
            obtain ⟨bo, hs', ep', hln', hh', ⟨hep0, hep1⟩, hT, hRT⟩ := heard_both (N k) late gone now epoch g hb sb q c n hs hln hl32 ⟨hn0, hn9⟩ hh ⟨he0, by omega⟩
            have HT := Lib.hid hT
            have HCT := Lib.hid hRT
            have HH' := Lib.hid hh'
            have HLN := Lib.hid hln
            have HLN' := Lib.hid hln'
            clear hT hRT hh hh' hln hln'
            go_wp2_with fail
            refine (HT.out _ hi).mono ?_
            rintro e w3 ⟨rfl, hi3, ht3⟩
            have hb3 := below_tch hbel hbel.size ht3 hS
            have hR3 := hRow.tch ht3 hWq
            have hB3 := hB.tch ht3 hWrb
            have cn3 := (hb3.cell (p := ⟨ga, off + k * 2 + 1, none⟩) hga).trans cn0
            have b0 := hB3.cell 0 rfl
            have b1 := hB3.cell 1 rfl
            have b2 := hB3.cell 2 rfl
            have b3 := hB3.cell 3 rfl
            have b4 := hB3.cell 4 rfl
            have hR3d : HRow w3.drew q hs := hR3
            have lg := hi3.1.lt
            have lh := Blk.lt hi3.2.1
            have ls := Blk.lt hi3.2.2.1
            have lb := hB3.lt
            go_wp2_with fail
            go_region_with
              ((go_at_call 14; refine (HCT.out _ hR3d).mono ?_; rintro e w4 ⟨q4, c4, rfl, hg4, hR4, hq4'⟩; (have hB4 := hB3.drew.grown hg4 (by simp)); (have d0 := hB4.cell 0 rfl); (have d1 := hB4.cell 1 rfl); (have d2 := hB4.cell 2 rfl); (have d3 := hB4.cell 3 rfl); (have d4 := hB4.cell 4 rfl); (have e0 := hB4.free 0); (have e1 := hB4.free 1); (have e2 := hB4.free 2); (have e3 := hB4.free 3); (have e4 := hB4.free 4); unfold rv))
            all_goals
              have hq4n : q4 ≠ g ∧ q4 ≠ hb ∧ q4 ≠ sb ∧ q4 ≠ rb := by
                rcases hq4' with rfl | h
                · exact ⟨hq1, hq2, hq3, hq4⟩
                · have h' : w3.heap.size ≤ q4 := h
                  exact ⟨by omega, by omega, by omega, by omega⟩
              obtain ⟨HBz, htz⟩ := fill5 hB4 (.int .i64 late) (.int .i64 gone) (.int .i64 now) (.int .i64 ep') (.slice (some ⟨q4, 0, none⟩) n c4)
              have hg3z : w3.grownBy w4 none := gb_trans (gb_drew (gb_refl w3 none)) hg4
              have hbz := below_tch (below_step0 hb3 hb3.size hg3z) (below_step0 hb3 hb3.size hg3z).size htz (fun j e => by subst e; exact hrb)
              have hiz := (hi3.later hg3z).tch htz (fun e => hrb1 e.symm) (fun e => hrb2 e.symm) (fun e => hrb3 e.symm)
              have hRz := hR4.tch htz hq4n.2.2.2
              generalize ((((w4.setCell ⟨rb, 0, none⟩ (.int .i64 late)).setCell ⟨rb, 1, none⟩ (.int .i64 gone)).setCell ⟨rb, 2, none⟩ (.int .i64 now)).setCell ⟨rb, 3, none⟩ (.int .i64 ep')).setCell ⟨rb, 4, none⟩ (.slice (some ⟨q4, 0, none⟩) n c4) = wz at *
              have hal2 : Alike w g hb sb rb late gone now ep' q4 c4 hs' n wz := ⟨HLN'.out, hn0, hn9, HH'.out, hiz, HBz, hRz, hbz, hq4n.1, hq4n.2.1, hq4n.2.2.1, hq4n.2.2.2⟩
              clear b0 b1 b2 b3 b4 hR3d hB4 d0 d1 d2 d3 d4 e0 e1 e2 e3 e4 hB3 hR3 hb3 hg4 hg3z hbz hiz htz HBz hRz HCT hi3 lg lh ls lb
              obtain ⟨zl, zn0, zn9, zh, zi, zB, zR, zbel, zq⟩ := id hal2
              have ZL := Lib.hid zl
              have zl32 : hs'.length ≤ 32 := by omega
              have HAL := Lib.hid hal2
              clear zl hal2 zq
              go_wp2_with fail
              refine (now_any _ _ _ _ _ _ _ _ _ _ zi).mono ?_
              rintro e wa ⟨rfl, hga2⟩
              have ai := zi.later hga2
              have aB := zB.grown hga2 (by simp)
              have aR := zR.later hga2
              clear zi zB zR
              have d0 := fun x => (Later.blk aB x).cell 0 rfl
              have d1 := fun x => (Later.blk aB x).cell 1 rfl
              have d2 := fun x => (Later.blk aB x).cell 2 rfl
              have d3 := fun x => (Later.blk aB x).cell 3 rfl
              have d4 := fun x => (Later.blk aB x).cell 4 rfl
              have S1 := fun (x : In (Later wa)) => of_any g hb sb late gone now ep' hs' (hs'.map (thk late gone now)) x.w node (ai.later x.ok) (by omega)
              have S2 := fun (x : In (Later wa)) => state_any late gone now ep' q4 c4 hs' x.w node (aR.later x.ok) zl32 ⟨zn0, zn9⟩ zh
              rw [ZL.out] at S2
              generalize ofN (hs'.map (thk late gone now)) node = y1 at *
              have HS1 := Lib.hid S1
              have HS2 := Lib.hid S2
              clear S1 S2
              go_wp2_with fail
              refine wp_region_in (Later wa) (by kernel_rfl) (by kernel_rfl) (Later.start _) ?_
              repeat (go_big_quiet_step ((first | rfl | (go_at_call 9; exact later_call_same _ (HS1.out _)) | (go_at_call 16; exact later_call _ (HS2.out _)))))
              refine wpQuiet_nil ?_
              rintro _ ⟨x, rfl⟩
              clear d0 d1 d2 d3 d4 HS1 HS2
              have bi := ai.later x.ok
              have bB := aB.grown x.ok (by simp)
              have bR := aR.later x.ok
              have hgb := gb_trans hga2 x.ok
              clear ai aB aR hga2
              generalize x.w = wb at *
              clear x
              have m3 := make3
              go_wp2_with fail
              clear m3
              have hgm := gb_alloc (gb_refl wb none) (.cells #[.int .i64 0, .int .i64 0, .int .i64 0] 3)
              have hCn := Blk.new wb #[.int .i64 0, .int .i64 0, .int .i64 0] 3
              have hcb : wb.heap.size ≤ wb.heap.size := Nat.le_refl _
              generalize wb.alloc (.cells #[.int .i64 0, .int .i64 0, .int .i64 0] 3) = wc at *
              generalize hcbn : wb.heap.size = cb at *
              go_loopw [21] (fun v21 wj => ∃ j : Nat, v21 = .int .i64 j ∧ j ≤ n ∧ wb.grownBy wj none ∧ Blk wj cb #[.int .i64 (cnt ((hs'.map (thk late gone now)).take j) 0), .int .i64 (cnt ((hs'.map (thk late gone now)).take j) 1), .int .i64 (cnt ((hs'.map (thk late gone now)).take j) 2)] 3)
                (fun v21 _ => n - (intOf v21).toNat)
              case atStart => exact ⟨0, rfl, Nat.zero_le _, hgm, hCn⟩
              case round =>
                obtain ⟨j, rfl, hj, hgj, hC⟩ := hrel
                clear hgm hCn
                have ji := bi.later hgj
                have jB := bB.grown hgj (by simp)
                have jR := bR.later hgj
                have d0 := jB.cell 0 rfl
                have d1 := jB.cell 1 rfl
                have d2 := jB.cell 2 rfl
                have d3 := jB.cell 3 rfl
                have d4 := jB.cell 4 rfl
                by_cases hjn : j < n
                · have jj : j < hs'.length := by rw [ZL.out]; exact hjn
                  have ev : ofN (hs'.map (thk late gone now)) j = thk late gone now (hs'.getD j 0) := ofN_map _ _ _ _ _ jj
                  have eg : (hs'.map (thk late gone now)).getD j 0 = thk late gone now (hs'.getD j 0) := by simp [jj]
                  have cs0 := cnt_succ (hs'.map (thk late gone now)) 0 j (by simpa using jj)
                  have cs1 := cnt_succ (hs'.map (thk late gone now)) 1 j (by simpa using jj)
                  have cs2 := cnt_succ (hs'.map (thk late gone now)) 2 j (by simpa using jj)
                  rw [eg] at cs0 cs1 cs2
                  have le0 := Nat.le_trans (cnt_le ((hs'.map (thk late gone now)).take j) 0) (by simp; omega : _ ≤ 32)
                  have le1 := Nat.le_trans (cnt_le ((hs'.map (thk late gone now)).take j) 1) (by simp; omega : _ ≤ 32)
                  have le2 := Nat.le_trans (cnt_le ((hs'.map (thk late gone now)).take j) 2) (by simp; omega : _ ≤ 32)
                  have S2 := fun W (h : HRow W q4 hs') => state_any late gone now ep' q4 c4 hs' W j h zl32 ⟨zn0, zn9⟩ zh
                  have S1 := fun W (h : IsW W g hb sb late gone now ep' hs' (hs'.map (thk late gone now))) => of_any g hb sb late gone now ep' hs' (hs'.map (thk late gone now)) W j h (by omega)
                  rw [ev] at S1 S2
                  rw [ZL.out] at S2
                  clear eg ev
                  have ht := thk_cases late gone now (hs'.getD j 0)
                  have HS1 := Lib.hid S1
                  have HS2 := Lib.hid S2
                  have HC0 := Lib.hid cs0
                  have HC1 := Lib.hid cs1
                  have HC2 := Lib.hid cs2
                  clear S1 S2 cs0 cs1 cs2 jj
                  generalize thk late gone now (hs'.getD j 0) = tv at *
                  generalize cnt ((hs'.map (thk late gone now)).take j) 0 = x0 at *
                  generalize cnt ((hs'.map (thk late gone now)).take j) 1 = x1 at *
                  generalize cnt ((hs'.map (thk late gone now)).take j) 2 = x2 at *
                  rcases ht with rfl | rfl | rfl
                  all_goals
                    go_wp2_with fail
                    refine (HS2.out _ jR).mono ?_
                    rintro e wk ⟨rfl, hgk⟩
                    have kC := hC.grown hgk (by simp)
                    have kc0 := kC.cell 0 rfl
                    have kc1 := kC.cell 1 rfl
                    have kc2 := kC.cell 2 rfl
                    have kf0 := kC.free 0
                    have kf1 := kC.free 1
                    have kf2 := kC.free 2
                    have ki := ji.later hgk
                    go_wp2_with fail
                    refine (HS1.out _ ki).mono ?_
                    rintro e wk2 ⟨rfl, rfl⟩
                    go_wp2_with fail
                    go_roundw
                    case rel =>
                      refine ⟨j + 1, by go_num, by omega, gb_new_set (gb_trans hgj hgk) (by simp [hcbn]), ?_⟩
                      rw [HC0.out, HC1.out, HC2.out]
                      first
                        | exact kC.set 0 _
                        | exact kC.set 1 _
                        | exact kC.set 2 _
                    case measure => simp [intOf]; omega
                · have hjn2 : j = n := by omega
                  have et : (hs'.map (thk late gone now)).take j = hs'.map (thk late gone now) := List.take_of_length_le (by simp [ZL.out, hjn2])
                  rw [et] at hC
                  clear et
                  have f0 := fun x => (Later.blk hC x).cell 0 rfl
                  have f1 := fun x => (Later.blk hC x).cell 1 rfl
                  have f2 := fun x => (Later.blk hC x).cell 2 rfl
                  have K0 := fun (x : In (Later wr)) => count_any g hb sb late gone now ep' hs' (hs'.map (thk late gone now)) x.w 0 (ji.later x.ok) zl32
                  have K1 := fun (x : In (Later wr)) => count_any g hb sb late gone now ep' hs' (hs'.map (thk late gone now)) x.w 1 (ji.later x.ok) zl32
                  have K2 := fun (x : In (Later wr)) => count_any g hb sb late gone now ep' hs' (hs'.map (thk late gone now)) x.w 2 (ji.later x.ok) zl32
                  have HK0 := Lib.hid K0
                  have HK1 := Lib.hid K1
                  have HK2 := Lib.hid K2
                  clear K0 K1 K2 d0 d1 d2 d3 d4
                  generalize cnt (hs'.map (thk late gone now)) 0 = x0 at *
                  generalize cnt (hs'.map (thk late gone now)) 1 = x1 at *
                  generalize cnt (hs'.map (thk late gone now)) 2 = x2 at *
                  go_wp2_with fail
                  refine wp_region_in (Later wr) (by kernel_rfl) (by kernel_rfl) (Later.start _) ?_
                  repeat (go_big_quiet_step ((first | rfl | (go_at_call_of 17 (0 : Int); exact later_call_same _ (HK0.out _)) | (go_at_call_of 17 (1 : Int); exact later_call_same _ (HK1.out _)) | (go_at_call_of 17 (2 : Int); exact later_call_same _ (HK2.out _)))))
                  refine wpQuiet_nil ?_
                  rintro _ ⟨x, rfl⟩
                  go_wp2_with fail
                  go_roundw
                  case rel => exact ⟨k + 1, _, _, _, _, _, by go_num, by omega, by omega, by omega, by omega, HAL.out.later (gb_trans (gb_trans hgb hgj) x.ok)⟩
                  case measure => simp [intOf]; omega
        · have c2' : decide ((k : Int) < 60) = false := by simp; omega
          go_wp2_with fail
          refine (awake_any _).mono ?_
          rintro e w5 ⟨rfl, hg5⟩
          go_wp2_with fail
          go_ret
          exact ⟨rfl, gb_below (below_step0 hbel hbel.size hg5)⟩
      · skip
        go_wp2_with fail
        refine (awake_any _).mono ?_
        rintro e w5 ⟨rfl, hg5⟩
        go_wp2_with fail
        go_ret
        exact ⟨rfl, gb_below (below_step0 hbel hbel.size hg5)⟩
  · skip
    have hr' : rightB n late gone = false := by simpa using hr
    have HR := Lib.hid hr'
    clear hr hr'
    go_enter Try.func4, Try.ntmps4
    go_wp2_with fail
    refine (awake_any _).mono ?_
    rintro e w1 ⟨rfl, hg1⟩
    go_wp2_with fail
    refine (new_no n late gone w1 HR.out).mono ?_
    rintro e w2 ⟨rfl, rfl⟩
    go_wp2_with fail
    refine (right_any _ _ _ _).mono ?_
    rintro e w3 ⟨rfl, rfl⟩
    rw [HR.out]
    go_wp2_with fail
    refine (awake_any _).mono ?_
    rintro e w3 ⟨rfl, hg3⟩
    go_wp2_with fail
    go_ret
    exact ⟨rfl, gb_trans hg1 hg3⟩

theorem cells39 : Try.prog.cellsOf 39 = 2 := by kernel_rfl

section
open Go.ChangeShapes Go.WideShapes Go.ChangeAt
variable {H : Type} {enc : TypeId × Value → H}

theorem open_acts {W : World} {base : Nat} {v : Value} {d : DataW H} {p : List MemPlace} (k : Value.okWide Try.prog W .any base 32 v) (h : DataW.Trod enc Try.prog W 0 (fun _ => true) true 32 v d p) :
    ∃ A len cap K N, v = .slice A len cap ∧ Acts W A len K N := by
  obtain ⟨A, len, cap, F, rfl, h1, h2, h3⟩ := open_structs (ks := [.i64, .i64]) Try.underlying32 Try.underlying39 (by kernel_rfl) cells39 rfl (by decide)
    (by
      intro j f k hf hk
      match j, hf, hk with
      | 0, hf, hk => simp at hf hk; subst hf; subst hk; exact Try.underlying3
      | 1, hf, hk => simp at hf hk; subst hf; subst hk; exact Try.underlying3) k h
  refine ⟨A, len, cap, fun i => F i 0, fun i => F i 1, rfl, by unfold maxLen at h2; omega, fun hn => ?_⟩
  obtain ⟨g, off, hA, hg, hc⟩ := h3 hn
  refine ⟨g, off, hA, hg, fun i hi => ?_⟩
  have a0 := hc i hi 0 .i64 rfl
  have a1 := hc i hi 1 .i64 rfl
  exact ⟨a0.1, a1.1⟩

theorem plays_main {base : Nat} {v0 v1 v2 v3 v4 : Value} {d0 d1 d2 d3 d4 : DataW H} {p0 p1 p2 p3 p4 : List MemPlace} (W : World)
    (k0 : Value.okWide Try.prog W .any base 5 v0) (h0 : DataW.Trod enc Try.prog W 0 (fun _ => true) true 5 v0 d0 p0)
    (k1 : Value.okWide Try.prog W .any base 3 v1) (h1 : DataW.Trod enc Try.prog W 0 (fun _ => true) true 3 v1 d1 p1)
    (k2 : Value.okWide Try.prog W .any base 3 v2) (h2 : DataW.Trod enc Try.prog W 0 (fun _ => true) true 3 v2 d2 p2)
    (k3 : Value.okWide Try.prog W .any base 32 v3) (h3 : DataW.Trod enc Try.prog W 0 (fun _ => true) true 32 v3 d3 p3)
    (k4 : Value.okWide Try.prog W .any base 3 v4) (h4 : DataW.Trod enc Try.prog W 0 (fun _ => true) true 3 v4 d4 p4) :
    Calls Try.prog 4 #[v0, v1, v2, v3, v4] W fun e w' => e = .returned (.bool true) ∧ W.grownBy w' none := by
  obtain ⟨a0, rfl, _, _, w0⟩ := open_int Try.underlying5 k0 h0
  obtain ⟨a1, rfl, _, _, w1⟩ := open_int Try.underlying3 k1 h1
  obtain ⟨a2, rfl, _, _, w2⟩ := open_int Try.underlying3 k2 h2
  obtain ⟨A, len, cap, K, N, rfl, hA⟩ := open_acts k3 h3
  obtain ⟨a4, rfl, _, _, w4⟩ := open_int Try.underlying3 k4 h4
  have b0 := bounds_u8 w0
  exact plays_any _ _ _ _ (by omega) A len cap K N W hA
end
end Go.Proofs.Ytgadcikgnndmjaa
