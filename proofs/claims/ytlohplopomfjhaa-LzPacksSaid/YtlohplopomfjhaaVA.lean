/- The walks of package lz's inner functions: how long a match is, the three bytes at a place. -/
import Derived.Test.YtlohplopomfjhaaWO
import Derived.Test.YtlohplopomfjhaaLB
import Derived.Maps.OwnSet
import Derived.WideKeyArr
namespace Go.Proofs.Ytlohplopomfjhaa
set_option linter.unusedVariables false
set_option linter.unusedSimpArgs false
open Go.RowKit Go.Own Go.Bits Go.Lz

theorem rd_byte {w : World} {B : Nat} {S : Option Addr} {b : List Nat} (h : Rd w B 1 S b.length (b.map bv)) {i : Nat} (hi : i < b.length) :
    ∃ g off, S = some ⟨g, off, none⟩ ∧ g < B ∧ ∀ j, j < b.length → w.cell? ⟨g, off + j, none⟩ = some (.int .u8 (b.getD j 0 : Nat)) := by
  obtain ⟨g, off, hS, hg, hc⟩ := h.form (by omega)
  exact ⟨g, off, hS, hg, fun j hj => hc j _ (by simp [hj, bv])⟩

set_option maxHeartbeats 3200000 in
theorem match_any (b : List Nat) (S : Option Addr) (cs B p far : Nat) (w : World) (hS : Rd w B 1 S b.length (b.map bv)) (hB : B ≤ w.heap.size) (hf1 : 1 ≤ far) (hfp : far ≤ p) (hp : p < b.length) (hbl : b.length ≤ 1000000) :
    Calls Try.prog 50 #[.slice S b.length cs, .int .i64 p, .int .i64 far] w fun e w' => e = .returned (.int .i64 (matchLen b p far : Nat)) ∧ w.grownBy w' none := by
  obtain ⟨sg, off, rfl, hsg, hsc⟩ := rd_byte hS hp
  go_enter Try.func50, Try.ntmps50
  go_wp2
  go_loopw [7] (fun v7 wi => ∃ n : Nat, v7 = .int .i64 n ∧ n ≤ 1024 ∧ p + n ≤ b.length ∧ matchLen b p far = mlen b p far (1024 - n) n ∧ w.grownBy wi none)
    (fun v7 _ => 1024 - (intOf v7).toNat)
  case atStart => exact ⟨0, rfl, by omega, by omega, rfl, gb_refl _ _⟩
  case round =>
    obtain ⟨n, rfl, hn, hpn, hm, hg⟩ := hrel
    have HM := Lib.hid hm
    clear hm
    by_cases c1 : p + n < b.length
    · have hc1 : (p : Int) + (n : Int) < (b.length : Int) := by omega
      have hc0 : (0 : Int) ≤ (p : Int) + (n : Int) := by omega
      by_cases c2 : n < 1024
      · have hc2 : (n : Int) < 1024 := by omega
        have q1 := hg.cell (hsc (p + n) (by omega)) (by simp)
        have q2 := hg.cell (hsc (p + n - far) (by omega)) (by simp)
        have hd0 : (0 : Int) ≤ (p : Int) + (n : Int) - (far : Int) := by omega
        have hd1 : (p : Int) + (n : Int) - (far : Int) < (b.length : Int) := by omega
        have ht : ((p : Int) + (n : Int) - (far : Int)).toNat = p + n - far := by omega
        have ht2 : ((p : Int) + (n : Int)).toNat = p + n := by omega
        by_cases c3 : b.getD (p + n) 0 = b.getD (p + n - far) 0
        · have HG := Lib.hid (HM.out.trans (mlen_go b p far n ⟨c1, c2, c3⟩))
          rw [← c3] at q2
          generalize b.getD (p + n) 0 = y at *
          clear c3
          go_wp2
          go_quiet (fail)
          go_wp2
          go_roundw
          case rel => exact ⟨n + 1, by go_num, by omega, by omega, HG.out, gb_drewN hg _⟩
          case measure => first | (simp [intOf]; done) | (simp [intOf]; omega)
        · have HG := Lib.hid (HM.out.trans (mlen_stop b p far (1024 - n) n (fun h => c3 h.2.2)))
          have hne : ((b.getD (p + n) 0 : Int) == (b.getD (p + n - far) 0 : Int)) = false := by simp only [beq_eq_false_iff_ne, ne_eq]; omega
          generalize b.getD (p + n) 0 = y at *
          generalize b.getD (p + n - far) 0 = z at *
          clear c3
          go_wp2
          go_quiet (fail)
          go_wp2
          go_ret
          exact ⟨ret_int (by rw [HG.out]), gb_drewN hg _⟩
      · have hc2 : decide ((n : Int) < 1024) = false := by simp; omega
        have HG := Lib.hid (HM.out.trans (mlen_stop b p far (1024 - n) n (fun h => c2 h.2.1)))
        go_wp2
        go_quiet (fail)
        go_wp2
        go_ret
        exact ⟨ret_int (by rw [HG.out]), gb_drewN hg _⟩
    · have hc1 : decide ((p : Int) + (n : Int) < (b.length : Int)) = false := by simp; omega
      have HG := Lib.hid (HM.out.trans (mlen_stop b p far (1024 - n) n (fun h => c1 h.1)))
      go_wp2
      go_quiet (fail)
      go_wp2
      go_ret
      exact ⟨ret_int (by rw [HG.out]), gb_drewN hg _⟩

/-- Three bytes as a value, and as a map's key. -/
def kV (x y z : Nat) : Value := .agg #[.int .u8 (x : Int), .int .u8 (y : Int), .int .u8 (z : Int)]
def kL (x y z : Nat) : Lit := .string (keyBytes [.int .u8 (x : Int), .int .u8 (y : Int), .int .u8 (z : Int)])

set_option maxHeartbeats 1600000 in
theorem key_any (b : List Nat) (S : Option Addr) (cs B p : Nat) (w : World) (hS : Rd w B 1 S b.length (b.map bv)) (hB : B ≤ w.heap.size) (hp : p + 3 ≤ b.length) (hbl : b.length ≤ 1000000) :
    Calls Try.prog 49 #[.slice S b.length cs, .int .i64 p] w fun e w' => e = .returned (kV (b.getD p 0) (b.getD (p + 1) 0) (b.getD (p + 2) 0)) ∧ w.grownBy w' none := by
  obtain ⟨sg, off, rfl, hsg, hsc⟩ := rd_byte hS (show p < b.length by omega)
  have hg0 := gb_alloc (gb_refl w none) (.cells #[.int .u8 0, .int .u8 0, .int .u8 0] 88)
  have q0 := hg0.cell (hsc p (by omega)) (by simp)
  have q1 := hg0.cell (hsc (p + 1) (by omega)) (by simp)
  have q2 := hg0.cell (hsc (p + 2) (by omega)) (by simp)
  have hi0 : (p : Int) < (b.length : Int) := by omega
  have hi1 : (p : Int) + 1 < (b.length : Int) := by omega
  have hi2 : (p : Int) + 2 < (b.length : Int) := by omega
  have hw1 : IntKind.i64.wrap ((p : Int) + 1) = (p : Int) + 1 := by rw [IntKind.wrap_i64]; omega
  have hw2 : IntKind.i64.wrap ((p : Int) + 2) = (p : Int) + 2 := by rw [IntKind.wrap_i64]; omega
  have ht2 : ((p : Int) + 2).toNat = p + 2 := by omega
  have hn1 : (0 : Int) ≤ (p : Int) + 1 := by omega
  have hn2 : (0 : Int) ≤ (p : Int) + 2 := by omega
  unfold kV
  generalize b.getD p 0 = x at *
  generalize b.getD (p + 1) 0 = y at *
  generalize b.getD (p + 2) 0 = z at *
  go_enter Try.func49, Try.ntmps49
  go_wp2
  have hB1 : Blk (w.alloc (.cells #[.int .u8 0, .int .u8 0, .int .u8 0] 88)) w.heap.size #[.int .u8 0, .int .u8 0, .int .u8 0] 88 := Blk.new _ _ _
  generalize (w.alloc (.cells #[.int .u8 0, .int .u8 0, .int .u8 0] 88)) = w1 at *
  go_still_tail 15, (by kernel_rfl)
  repeat still_step
  change wpList _ _ _ _ _ w1.drew
  have hB2 : Blk w1.drew w.heap.size #[.int .u8 0, .int .u8 0, .int .u8 0] 88 := hB1
  have hg2 := gb_drew (row := none) hg0
  generalize w1.drew = w2 at *
  have a0 := hB2.cell 0 rfl
  have a1 := hB2.cell 1 rfl
  have a2 := hB2.cell 2 rfl
  have b0 := hB2.free 0
  have b1 := hB2.free 1
  have b2 := hB2.free 2
  have HB := ((hB2.set 0 (.int .u8 (x : Int))).set 1 (.int .u8 (y : Int))).set 2 (.int .u8 (z : Int))
  go_wp2
  refine bodyPost_ret (res_struct rfl HB rfl Try.underlying88 rfl (by kernel_rfl)) rfl ⟨by rfl, ?_⟩
  exact gb_new_set (p := ⟨w.heap.size, 2, none⟩) (gb_new_set (p := ⟨w.heap.size, 1, none⟩) (gb_new_set (p := ⟨w.heap.size, 0, none⟩) hg2 (Nat.le_refl _)) (Nat.le_refl _)) (Nat.le_refl _)
end Go.Proofs.Ytlohplopomfjhaa
