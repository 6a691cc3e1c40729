/- The walk of the law WatchStays. -/
import Derived.Test.YtgadcikgnndmjaaWD
import Derived.Test.YtgadcikgnndmjaaOpen
namespace Go.Proofs.Ytgadcikgnndmjaa
set_option linter.unusedVariables false
set_option linter.unusedSimpArgs false
open Go.RowKit Go.Own

theorem two_ok {x y n : Int} (h0 : 0 ≤ x) (h1 : x ≤ n) (h2 : 0 ≤ y) (h3 : y ≤ n) : ∀ k, k < [x, y].length → 0 ≤ [x, y].getD k 0 ∧ [x, y].getD k 0 ≤ n := by
  intro k hk
  simp at hk
  match k, hk with
  | 0, _ => exact ⟨h0, h1⟩
  | 1, _ => exact ⟨h2, h3⟩

theorem epn_le (late gone now epoch : Int) (hs ss : List Int) (h : 0 ≤ epoch) : 0 ≤ epn late gone now epoch hs ss ∧ epn late gone now epoch hs ss ≤ epoch + 1 := by
  unfold epn; split <;> omega

set_option maxHeartbeats 3200000 in
theorem stays_any (a0 a1 : Int) (h0 : 0 ≤ a0 ∧ a0 ≤ 255) (h1 : 0 ≤ a1 ∧ a1 ≤ 255) (A : Option Addr) (len cap : Nat) (zs : List Int) (w : World) (hlen : len ≤ 9223372036854775807) (hz : zs.length = len) (hR : Rd w w.heap.size 1 A len (zs.map (Value.int .u8))) (hw : ∀ z ∈ zs, 0 ≤ z ∧ z ≤ 255) :
    Calls Try.prog 3 #[.int .u8 a0, .int .u8 a1, .slice A len cap] w fun e w' => e = .returned (.bool true) ∧ w.grownBy w' none := by
  obtain ⟨h00, h01⟩ := h0
  obtain ⟨h10, h11⟩ := h1
  have HZ := Lib.hid hz
  clear hz
  go_enter Try.func3, Try.ntmps3
  go_wp2_with fail
  refine (awake_any _).mono ?_
  rintro e w1 ⟨rfl, hg1⟩
  have hb1 := below_gb hg1
  go_wp2_with fail
  refine (new_yes 2 _ _ _ (by omega) (by omega) (by omega) (by omega) (by omega)).mono ?_
  rintro e w2 ⟨g, hb, sb, rfl, hi2, hg2, l1, l2, l3⟩
  have hb2 := below_step0 hb1 hb1.size hg2
  have hS := ws_le (B := w.heap.size) (Nat.le_trans hb1.size l1) (Nat.le_trans hb1.size l2) (Nat.le_trans hb1.size l3)
  have e1 : List.replicate 2 (0 : Int) = [0, 0] := rfl
  rw [e1] at hi2
  clear e1 l1 l2 l3 hg1 hg2 hb1
  go_wp2_with fail
  go_loopw [10] (fun v10 wr => ∃ (k : Nat) (x now epoch : Int) (ss : List Int), v10 = .int .i64 k ∧ k ≤ len ∧ k ≤ 60 ∧ 0 ≤ x ∧ x ≤ now ∧ now ≤ 600 * k ∧ 0 ≤ epoch ∧ epoch ≤ 2 * k ∧ ofN ss 1 = 0 ∧ IsW wr g hb sb (2 + a0) (2 + a0 + 1 + a1) now epoch [x, now] ss ∧ Below w.heap.size w wr)
    (fun v10 _ => len - (intOf v10).toNat)
  case atStart => exact ⟨0, 0, 0, 0, [0, 0], rfl, Nat.zero_le _, by omega, by omega, by omega, by omega, by omega, by omega, rfl, hi2, hb2⟩
  case round =>
    obtain ⟨k, x, now, epoch, ss, rfl, hk, hk60, hx0, hx1, hnow, he0, he1, hof, hi, hbel⟩ := hrel
    have HOF := Lib.hid hof
    clear hof
    by_cases c1 : k < len
    · by_cases c2 : k < 60
      · obtain ⟨ga, off, rfl, hga, hc⟩ := hR.form (by omega)
        have hkz : k < zs.length := by rw [HZ.out]; exact c1
        have cz := (hbel.cell (p := ⟨ga, off + k, none⟩) hga).trans (hc k (.int .u8 zs[k]) (by simp [hkz]))
        have hzk := hw zs[k] (List.getElem_mem hkz)
        generalize zs[k] = z at *
        obtain ⟨hz0, hz1⟩ := hzk
        have hm0 : 0 ≤ z % (2 + a0 - 1) := Int.emod_nonneg _ (by omega)
        have hm1 : z % (2 + a0 - 1) < 2 + a0 - 1 := Int.emod_lt_of_pos _ (by omega)
        go_wp2_with fail
        generalize z % (2 + a0 - 1) = d at *
        refine (tick_yes _ _ _ _ _ _ _ _ _ _ _ hi (by simp) (by omega) (by omega) (by omega) (two_ok hx0 hx1 (by omega) (by omega)) (by omega)).mono ?_
        rintro e w3 ⟨rfl, hi3, ht3⟩
        have hb3 := below_tch hbel hbel.size ht3 hS
        have hep := epn_le (2 + a0) (2 + a0 + 1 + a1) (now + (1 + d)) epoch [x, now] ss he0
        generalize epn (2 + a0) (2 + a0 + 1 + a1) (now + (1 + d)) epoch [x, now] ss = ep at *
        have eo : ofN ([x, now].map (thk (2 + a0) (2 + a0 + 1 + a1) (now + (1 + d)))) 1 = 0 := by
          have : ofN ([x, now].map (thk (2 + a0) (2 + a0 + 1 + a1) (now + (1 + d)))) 1 = thk (2 + a0) (2 + a0 + 1 + a1) (now + (1 + d)) now := rfl
          rw [this, thk, if_neg (by omega), if_neg (by omega)]
        have EO := Lib.hid eo
        clear eo
        go_wp2_with fail
        refine (of_any _ _ _ _ _ _ _ _ _ _ 1 hi3 (by simp)).mono ?_
        rintro e w4 ⟨rfl, rfl⟩
        rw [EO.out]
        go_wp2_with fail
        refine (heard_yes _ _ _ _ _ _ _ _ _ _ 1 (by simp) hi3 (by simp) (by omega) (two_ok hx0 (by omega) (by omega) (by omega)) (by omega)).mono ?_
        rintro e w4 ⟨rfl, hi4, ht4⟩
        have hb4 := below_tch hb3 hb3.size ht4 hS
        have e5 : ([x, now] : List Int).set 1 (now + (1 + d)) = [x, now + (1 + d)] := rfl
        rw [e5] at hi4
        clear e5
        have hep2 := epn_le (2 + a0) (2 + a0 + 1 + a1) (now + (1 + d)) ep [x, now + (1 + d)] ([x, now].map (thk (2 + a0) (2 + a0 + 1 + a1) (now + (1 + d)))) hep.1
        generalize epn (2 + a0) (2 + a0 + 1 + a1) (now + (1 + d)) ep [x, now + (1 + d)] ([x, now].map (thk (2 + a0) (2 + a0 + 1 + a1) (now + (1 + d)))) = ep2 at *
        have eo : ofN ([x, now + (1 + d)].map (thk (2 + a0) (2 + a0 + 1 + a1) (now + (1 + d)))) 1 = 0 := by
          have : ofN ([x, now + (1 + d)].map (thk (2 + a0) (2 + a0 + 1 + a1) (now + (1 + d)))) 1 = thk (2 + a0) (2 + a0 + 1 + a1) (now + (1 + d)) (now + (1 + d)) := rfl
          rw [this, thk, if_neg (by omega), if_neg (by omega)]
        have EO2 := Lib.hid eo
        clear eo
        go_wp2_with fail
        go_roundw
        case rel => exact ⟨k + 1, x, now + (1 + d), ep2, _, by go_num, by omega, by omega, hx0, by omega, by omega, by omega, by omega, EO2.out, hi4, hb4⟩
        case measure => simp [intOf]; omega
      · have c2' : decide ((k : Int) < 60) = false := by simp; omega
        go_wp2_with fail
        refine (of_any _ _ _ _ _ _ _ _ _ _ 1 hi (by simp)).mono ?_
        rintro e w4 ⟨rfl, rfl⟩
        rw [HOF.out]
        go_wp2_with fail
        refine (awake_any _).mono ?_
        rintro e w5 ⟨rfl, hg5⟩
        go_wp2_with fail
        go_ret
        exact ⟨rfl, gb_below (below_step0 hbel hbel.size hg5)⟩
    · go_wp2_with fail
      refine (of_any _ _ _ _ _ _ _ _ _ _ 1 hi (by simp)).mono ?_
      rintro e w4 ⟨rfl, rfl⟩
      rw [HOF.out]
      go_wp2_with fail
      refine (awake_any _).mono ?_
      rintro e w5 ⟨rfl, hg5⟩
      go_wp2_with fail
      go_ret
      exact ⟨rfl, gb_below (below_step0 hbel hbel.size hg5)⟩

theorem cells5 : Try.prog.cellsOf 5 = 1 := by kernel_rfl

section
open Go.ChangeShapes Go.WideShapes Go.ChangeAt
variable {H : Type} {enc : TypeId × Value → H}
theorem stays_main {base : Nat} {v0 v1 v2 : Value} {d0 d1 d2 : DataW H} {p0 p1 p2 : List MemPlace} (W : World)
    (k0 : Value.okWide Try.prog W .any base 5 v0) (h0 : DataW.Trod enc Try.prog W 0 (fun _ => true) true 5 v0 d0 p0)
    (k1 : Value.okWide Try.prog W .any base 5 v1) (h1 : DataW.Trod enc Try.prog W 0 (fun _ => true) true 5 v1 d1 p1)
    (k2 : Value.okWide Try.prog W .any base 22 v2) (h2 : DataW.Trod enc Try.prog W 0 (fun _ => true) true 22 v2 d2 p2) :
    Calls Try.prog 3 #[v0, v1, v2] W fun e w' => e = .returned (.bool true) ∧ W.grownBy w' none := by
  obtain ⟨a0, rfl, _, _, w0⟩ := open_int Try.underlying5 k0 h0
  obtain ⟨a1, rfl, _, _, w1⟩ := open_int Try.underlying5 k1 h1
  obtain ⟨A, len, cap, zs, rfl, hl, hm, hz, hR, hwf⟩ := open_nums Try.underlying22 Try.underlying5 cells5 k2 h2
  have b0 := bounds_u8 w0
  have b1 := bounds_u8 w1
  unfold maxLen at hm
  exact stays_any _ _ (by omega) (by omega) A len cap zs W (by omega) hz hR (fun z hz' => by have := bounds_u8 (hwf z hz'); omega)
end
end Go.Proofs.Ytgadcikgnndmjaa
