/- The walks of package bitio's writer: numbers. -/
import Derived.Test.YtlohplopomfjhaaWA
import Derived.Test.YtlohplopomfjhaaOwnN
namespace Go.Proofs.Ytlohplopomfjhaa
set_option linter.unusedVariables false
set_option linter.unusedSimpArgs false
open Go.RowKit Go.Own Go.Bits

/-- How many bits are meant. -/
def nb (n : Int) : Nat := if n < 0 then 0 else if n ≤ 64 then n.toNat else 64

theorem nb_le (n : Int) : nb n ≤ 64 := by unfold nb; split <;> (try split) <;> omega

theorem bitb (x k : Nat) (h : x < 18446744073709551616) : (bits BinOp.and IntKind.u64 ((x : Int) / 2 ^ k) 1 == 1) = (x / 2 ^ k % 2 == 1) := by
  have e : (x : Int) / 2 ^ k = ((x / 2 ^ k : Nat) : Int) := by norm_cast
  have hle : x / 2 ^ k ≤ x := Nat.div_le_self _ _
  rw [e]
  generalize x / 2 ^ k = y at *
  rw [and_one_u64 _ (by omega) (by omega)]
  rw [Bool.eq_iff_iff]
  simp only [beq_iff_eq]
  omega

set_option maxHeartbeats 1600000 in
theorem bits_any (g : Nat) (A : Option Addr) (c : Nat) (l : List Bool) (x : Nat) (n : Int) (w : World) (h : Wr w g A c l) (hl : l.length ≤ 900000) (hx : x < 18446744073709551616) :
    Calls Try.prog 15 #[.pointer (some ⟨g, 0, none⟩), .int .u64 x, .int .i64 n] w fun e w' => e = .returned (.tuple #[]) ∧ Wst w g A (l ++ bitsN x (nb n)) w' := by
  have hx2 : (x : Int) ≤ 18446744073709551615 := by omega
  have hnb : (n < 0 ∧ nb n = 0) ∨ (∃ m : Nat, n = m ∧ m ≤ 64 ∧ nb n = m) ∨ (64 < n ∧ nb n = 64) := by
    unfold nb
    by_cases h1 : n < 0
    · exact .inl ⟨h1, if_pos h1⟩
    · by_cases h2 : n ≤ 64
      · exact .inr (.inl ⟨n.toNat, by omega, by omega, by rw [if_neg h1, if_pos h2]⟩)
      · exact .inr (.inr ⟨by omega, by rw [if_neg h1, if_neg h2]⟩)
  obtain ⟨M, hM⟩ : ∃ M : Nat, M = nb n := ⟨_, rfl⟩
  rw [← hM]
  rcases hnb with ⟨h1, h2⟩ | ⟨m, rfl, h1, h2⟩ | ⟨h1, h2⟩
  all_goals
    rw [h2] at hM
    clear h2
    have HM := hM
    go_enter Try.func15, Try.ntmps15
    go_wp2_with fail
    go_loopw [10] (fun v10 wi => ∃ k : Nat, v10 = .int .i64 k ∧ k ≤ M ∧ Wst w g A (l ++ bitsN x k) wi)
      (fun v10 _ => M - (intOf v10).toNat)
    case atStart => exact ⟨0, rfl, Nat.zero_le _, by simpa [bitsN] using Wst.refl h⟩
    case round =>
      obtain ⟨k, rfl, hk, hst⟩ := hrel
      by_cases hkm : k < M
      · first
          | (exfalso; omega)
          | (
            have hb := bitb x k hx
            go_wp2_with fail
            obtain ⟨A1, c1, hw1, ht1, hn1⟩ := hst
            refine (bit_any g A1 c1 _ _ _ hw1 (by simp [bitsN_len]; omega)).mono ?_
            rintro e w2 ⟨rfl, hst2⟩
            go_wp2_with fail
            go_roundw
            case rel =>
              refine ⟨k + 1, by go_num, by omega, ?_⟩
              rw [bitsN_snoc, ← List.append_assoc]
              exact Wst.trans ht1 hn1 hst2
            case measure => simp [intOf]; omega)
      · have hkm2 : k = M := by omega
        subst hkm2
        go_wp2_with fail
        go_end0
        exact ⟨rfl, hst⟩
end Go.Proofs.Ytlohplopomfjhaa
