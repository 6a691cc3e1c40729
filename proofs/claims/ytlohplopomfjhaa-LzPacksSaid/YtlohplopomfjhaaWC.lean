/- The walks of package bitio's writer: the greatest bit first, and numbers from 1 on. -/
import Derived.Test.YtlohplopomfjhaaWB
namespace Go.Proofs.Ytlohplopomfjhaa
set_option linter.unusedVariables false
set_option linter.unusedSimpArgs false
open Go.RowKit Go.Own Go.Bits

theorem nb_cases (n : Int) : (n < 0 ∧ nb n = 0) ∨ (∃ m : Nat, n = m ∧ m ≤ 64 ∧ nb n = m) ∨ (64 < n ∧ nb n = 64) := by
  unfold nb
  by_cases h1 : n < 0
  · exact .inl ⟨h1, if_pos h1⟩
  · by_cases h2 : n ≤ 64
    · exact .inr (.inl ⟨n.toNat, by omega, by omega, by rw [if_neg h1, if_pos h2]⟩)
    · exact .inr (.inr ⟨by omega, by rw [if_neg h1, if_neg h2]⟩)

theorem nb_nat (m : Nat) (h : m ≤ 64) : nb (m : Int) = m := by
  unfold nb; rw [if_neg (by omega), if_pos (by omega)]; omega

/-- The bits from the q-th on, the greatest first: one more. -/
theorem rev_step (x M q : Nat) (h : q + 1 ≤ M) : ((bitsN x M).drop q).reverse = ((bitsN x M).drop (q + 1)).reverse ++ [x / 2 ^ q % 2 == 1] := by
  have hl : q < (bitsN x M).length := by rw [bitsN_len]; omega
  have e : (bitsN x M)[q] = (x / 2 ^ q % 2 == 1) := by
    have := bitsN_get x M q (by omega)
    simpa [hl] using this
  rw [List.drop_eq_getElem_cons hl, List.reverse_cons, e]

set_option maxHeartbeats 1600000 in
theorem bits_nil (x : Nat) (n : Int) (w : World) (hx : x < 18446744073709551616) :
    Calls Try.prog 15 #[.pointer none, .int .u64 x, .int .i64 n] w fun e w' => e = .returned (.tuple #[]) ∧ w = w' := by
  have hx2 : (x : Int) ≤ 18446744073709551615 := by omega
  obtain ⟨M, hM⟩ : ∃ M : Nat, M = nb n := ⟨_, rfl⟩
  rcases nb_cases n with ⟨h1, h2⟩ | ⟨m, rfl, h1, h2⟩ | ⟨h1, h2⟩
  all_goals
    rw [h2] at hM
    clear h2
    have HM := hM
    go_enter Try.func15, Try.ntmps15
    go_wp2_with fail
    go_loopw [10] (fun v10 wi => ∃ k : Nat, v10 = .int .i64 k ∧ k ≤ M ∧ w = wi)
      (fun v10 _ => M - (intOf v10).toNat)
    case atStart => exact ⟨0, rfl, Nat.zero_le _, rfl⟩
    case round =>
      obtain ⟨k, rfl, hk, rfl⟩ := hrel
      by_cases hkm : k < M
      · first
          | (exfalso; omega)
          | (
            have hb := bitb x k hx
            go_wp2_with fail
            refine (bit_nil _ _).mono ?_
            rintro e w2 ⟨rfl, rfl⟩
            go_wp2_with fail
            go_roundw
            case rel => exact ⟨k + 1, by go_num, by omega, by trivial⟩
            case measure => first | (simp [intOf]; done) | (simp [intOf]; omega))
      · have hkm2 : k = M := by omega
        subst hkm2
        go_wp2_with fail
        go_end0
        exact ⟨rfl, rfl⟩

set_option maxHeartbeats 1600000 in
theorem turned_any (g : Nat) (A : Option Addr) (c : Nat) (l : List Bool) (x : Nat) (n : Int) (w : World) (h : Wr w g A c l) (hl : l.length ≤ 900000) (hx : x < 18446744073709551616) :
    Calls Try.prog 40 #[.pointer (some ⟨g, 0, none⟩), .int .u64 x, .int .i64 n] w fun e w' => e = .returned (.tuple #[]) ∧ Wst w g A (l ++ (bitsN x (nb n)).reverse) w' := by
  have hx2 : (x : Int) ≤ 18446744073709551615 := by omega
  obtain ⟨M, hM⟩ : ∃ M : Nat, M = nb n := ⟨_, rfl⟩
  rw [← hM]
  have hM64 : M ≤ 64 := by rw [hM]; exact nb_le n
  rcases nb_cases n with ⟨h1, h2⟩ | ⟨m, rfl, h1, h2⟩ | ⟨h1, h2⟩
  all_goals
    rw [h2] at hM
    clear h2
    have HM := hM
    go_enter Try.func40, Try.ntmps40
    go_wp2_with fail
    go_loopw [6] (fun v6 wi => ∃ q : Nat, v6 = .int .i64 ((q : Int) - 1) ∧ q ≤ M ∧ Wst w g A (l ++ ((bitsN x M).drop q).reverse) wi)
      (fun v6 _ => (intOf v6 + 1).toNat)
    case atStart => exact ⟨M, congrArg (Value.int .i64) (by omega), Nat.le_refl _, by rw [List.drop_of_length_le (by rw [bitsN_len]; exact Nat.le_refl _)]; simpa using Wst.refl h⟩
    case round =>
      obtain ⟨q, rfl, hq, hst⟩ := hrel
      by_cases hq0 : q = 0
      · subst hq0
        go_wp2_with fail
        go_end0
        exact ⟨rfl, hst⟩
      · first
          | (exfalso; omega)
          | (
            obtain ⟨p, rfl⟩ : ∃ p, q = p + 1 := ⟨q - 1, by omega⟩
            have e1 : ((p + 1 : Nat) : Int) - 1 = (p : Int) := by omega
            rw [e1]
            clear e1
            have hb := bitb x p hx
            have hp0 : (0 : Int) ≤ (p : Int) := by omega
            go_wp2_with fail
            obtain ⟨A1, c1, hw1, ht1, hn1⟩ := hst
            refine (bit_any g A1 c1 _ _ _ hw1 (by simp [bitsN_len]; omega)).mono ?_
            rintro e w2 ⟨rfl, hst2⟩
            go_wp2_with fail
            go_roundw
            case rel =>
              refine ⟨p, rfl, by omega, ?_⟩
              rw [rev_step x M p hq, ← List.append_assoc]
              exact Wst.trans ht1 hn1 hst2
            case measure => first | (simp [intOf]; done) | (simp [intOf]; omega))

set_option maxHeartbeats 1600000 in
theorem turned_nil (x : Nat) (n : Int) (w : World) (hx : x < 18446744073709551616) :
    Calls Try.prog 40 #[.pointer none, .int .u64 x, .int .i64 n] w fun e w' => e = .returned (.tuple #[]) ∧ w = w' := by
  have hx2 : (x : Int) ≤ 18446744073709551615 := by omega
  obtain ⟨M, hM⟩ : ∃ M : Nat, M = nb n := ⟨_, rfl⟩
  have hM64 : M ≤ 64 := by rw [hM]; exact nb_le n
  rcases nb_cases n with ⟨h1, h2⟩ | ⟨m, rfl, h1, h2⟩ | ⟨h1, h2⟩
  all_goals
    rw [h2] at hM
    clear h2
    have HM := hM
    go_enter Try.func40, Try.ntmps40
    go_wp2_with fail
    go_loopw [6] (fun v6 wi => ∃ q : Nat, v6 = .int .i64 ((q : Int) - 1) ∧ q ≤ M ∧ w = wi)
      (fun v6 _ => (intOf v6 + 1).toNat)
    case atStart => exact ⟨M, congrArg (Value.int .i64) (by omega), Nat.le_refl _, rfl⟩
    case round =>
      obtain ⟨q, rfl, hq, rfl⟩ := hrel
      by_cases hq0 : q = 0
      · subst hq0
        go_wp2_with fail
        go_end0
        exact ⟨rfl, rfl⟩
      · first
          | (exfalso; omega)
          | (
            obtain ⟨p, rfl⟩ : ∃ p, q = p + 1 := ⟨q - 1, by omega⟩
            have e1 : ((p + 1 : Nat) : Int) - 1 = (p : Int) := by omega
            rw [e1]
            clear e1
            have hb := bitb x p hx
            have hp0 : (0 : Int) ≤ (p : Int) := by omega
            go_wp2_with fail
            refine (bit_nil _ _).mono ?_
            rintro e w2 ⟨rfl, rfl⟩
            go_wp2_with fail
            go_roundw
            case rel => exact ⟨p, rfl, by omega, by trivial⟩
            case measure => first | (simp [intOf]; done) | (simp [intOf]; omega))

set_option maxHeartbeats 1600000 in
theorem gamma_any (g : Nat) (A : Option Addr) (c : Nat) (l : List Bool) (x : Nat) (w : World) (h : Wr w g A c l) (hl : l.length ≤ 800000) (hx : x < 18446744073709551616) :
    Calls Try.prog 16 #[.pointer (some ⟨g, 0, none⟩), .int .u64 x] w fun e w' => e = .returned (.tuple #[]) ∧ Wst w g A (l ++ gam x) w' := by
  have hx2 : (x : Int) ≤ 18446744073709551615 := by omega
  have hsx : size x ≤ 64 := size_le x 64 (by omega)
  go_enter Try.func16, Try.ntmps16
  go_wp2_with fail
  go_loopw [4, 5] (fun v4 v5 wi => ∃ s y : Nat, v4 = .int .i64 s ∧ v5 = .int .u64 y ∧ s + size y = size x ∧ y ≤ x ∧ w = wi)
    (fun v4 v5 _ => (intOf v5).toNat)
  case atStart => exact ⟨0, x, rfl, rfl, by omega, Nat.le_refl _, rfl⟩
  case round =>
    obtain ⟨s, y, rfl, rfl, hs, hy, rfl⟩ := hrel
    have HS := Lib.hid hs
    by_cases h0 : y = 0
    · subst h0
      rw [size_zero] at hs
      have hs2 : s = size x := by omega
      subst hs2
      clear hs
      go_wp2_with fail
      refine (bits_any g A c l 0 _ _ h (by omega) (by decide)).mono ?_
      rintro e w2 ⟨rfl, A1, c1, hw1, ht1, hn1⟩
      go_wp2_with fail
      refine (turned_any g A1 c1 _ x _ _ hw1 (by simp [bitsN_len]; have := nb_le ((size x : Int) - 1); omega) hx).mono ?_
      rintro e w3 ⟨rfl, hst⟩
      go_wp2_with fail
      go_end0
      refine ⟨rfl, ?_⟩
      have e0 : ∀ n, bitsN 0 n = List.replicate n false := by
        intro n
        induction n with
        | zero => rfl
        | succ n ih => simp [bitsN, ih, List.replicate_succ]
      have e1 : nb ((size x : Int) - 1) = size x - 1 := by unfold nb; split <;> (try split) <;> omega
      have e2 : nb (size x : Int) = size x := nb_nat _ hsx
      rw [e1, e2, e0] at hst
      have := Wst.trans ht1 hn1 hst
      unfold gam
      rw [← List.append_assoc]
      exact this
    · have hsy := size_pos y (by omega)
      have HSY := Lib.hid hsy
      clear hsy hs
      have e0 : ¬ ((y : Int) ≤ 0) := by omega
      have hs64 : s ≤ 64 := by have := HS.out; omega
      go_wp2_with fail
      go_roundw
      case rel => exact ⟨s + 1, y / 2, by go_num, by go_num, by have := HS.out; have := HSY.out; omega, by omega, by trivial⟩
      case measure => first | (simp [intOf]; done) | (simp [intOf]; omega)
end Go.Proofs.Ytlohplopomfjhaa
