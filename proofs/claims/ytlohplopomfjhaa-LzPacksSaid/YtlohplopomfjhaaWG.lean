/- The walks of the law's helpers: an act done to a writer, an act's bits, the chapter's example. -/
import Derived.Test.YtlohplopomfjhaaWF
import Derived.Laws.BytesArg
namespace Go.Proofs.Ytlohplopomfjhaa
set_option linter.unusedVariables false
set_option linter.unusedSimpArgs false
open Go.RowKit Go.Own Go.Bits

set_option maxHeartbeats 1600000 in
theorem gamma_nil (x : Nat) (w : World) (hx : x < 18446744073709551616) :
    Calls Try.prog 16 #[.pointer none, .int .u64 x] w fun e w' => e = .returned (.tuple #[]) ∧ w = w' := by
  have hx2 : (x : Int) ≤ 18446744073709551615 := by omega
  have hsx : size x ≤ 64 := size_le x 64 (by omega)
  go_enter Try.func16, Try.ntmps16
  go_wp2_with fail
  go_loopw [4, 5] (fun v4 v5 wi => ∃ s y : Nat, v4 = .int .i64 s ∧ v5 = .int .u64 y ∧ s + size y = size x ∧ y ≤ x ∧ w = wi)
    (fun v4 v5 _ => (intOf v5).toNat)
  case atStart => exact ⟨0, x, rfl, rfl, by omega, Nat.le_refl _, rfl⟩
  case round =>
    obtain ⟨s, y, rfl, rfl, hs, hy, rfl⟩ := hrel
    have HS := Lib.hid hs
    by_cases h0 : y = 0
    · subst h0
      rw [size_zero] at hs
      have hs2 : s = size x := by omega
      subst hs2
      clear hs
      go_wp2_with fail
      refine (bits_nil 0 _ _ (by decide)).mono ?_
      rintro e w2 ⟨rfl, rfl⟩
      go_wp2_with fail
      refine (turned_nil x _ _ hx).mono ?_
      rintro e w3 ⟨rfl, rfl⟩
      go_wp2_with fail
      go_end0
      exact ⟨rfl, rfl⟩
    · have hsy := size_pos y (by omega)
      have HSY := Lib.hid hsy
      clear hsy hs
      have e0 : ¬ ((y : Int) ≤ 0) := by omega
      have hs64 : s ≤ 64 := by have := HS.out; omega
      go_wp2_with fail
      go_roundw
      case rel => exact ⟨s + 1, y / 2, by go_num, by go_num, by have := HS.out; have := HSY.out; omega, by omega, by trivial⟩
      case measure => first | (simp [intOf]; done) | (simp [intOf]; omega)

/-- Bytes as a string. -/
def strB (l : List Nat) : ByteArray := strOfNums (l.map Int.ofNat)

theorem conv_any {w : World} {B n : Nat} {A : Option Addr} (c : Nat) {l : List Nat} (h : Rd w B 1 A n (l.map bv)) (hn : l.length = n) : (convert 24 9 (.slice A n c)).run Try.prog w = .ok (.string (strB l)) w := by
  rcases Nat.eq_zero_or_pos n with h0 | h0
  · subst h0
    have hl : l = [] := List.eq_nil_of_length_eq_zero hn
    subst hl
    cases A with
    | none => exact run_convert_bytes_nil _ 24 5 Try.underlying24 Try.underlying5 0 c 9 Try.underlying9
    | some a =>
      have hr := run_convert_bytes_back (P := Try.prog) w 24 9 5 a c [] Try.underlying24 Try.underlying5 Try.underlying9 (fun j hj => by simp at hj)
      simpa [strB, strOfNums] using hr
  · obtain ⟨g, off, rfl, _, hc⟩ := h.2 h0
    refine run_convert_bytes_arg w 24 5 Try.underlying24 Try.underlying5 g off n c (l.map Int.ofNat) (by simpa using hn) (fun i hi => ?_) 9 Try.underlying9
    have hil : i < l.length := by omega
    have := hc i (bv l[i]) (by simp [hil])
    rw [this]
    simp [hil, bv]

/-- An act's bits. -/
def putB (K : Int) (X : Nat) (N : Int) : List Bool := if K = 1 then bitsN X (nb N) else if K = 2 then (bitsN X (nb N)).reverse else if K = 3 then gam X else bitsN X 1

theorem gam_len (x : Nat) (h : x < 18446744073709551616) : (gam x).length ≤ 127 := by
  have := size_le x 64 (by omega)
  simp [gam, bitsN_len]; omega

theorem putB_len (K : Int) (X : Nat) (N : Int) (h : X < 18446744073709551616) : (putB K X N).length ≤ 127 := by
  have h1 := nb_le N
  have h2 := gam_len X h
  unfold putB
  split
  · rw [bitsN_len]; omega
  · split
    · rw [List.length_reverse, bitsN_len]; omega
    · split
      · exact h2
      · rw [bitsN_len]; omega

/-- An act, as a value. -/
def actV (K : Int) (X : Nat) (N : Int) : Value := .agg #[.int .i64 K, .int .u64 X, .int .i64 N]

theorem Wst.later {w w1 w2 : World} {g : Nat} {A : Option Addr} {l : List Bool} (hg : w.grownBy w1 none) (h : Wst w1 g A l w2) : Wst w g A l w2 :=
  Wst.trans (tch_gb hg) (fun _ hk => .inl hk) h

set_option maxHeartbeats 1600000 in
theorem put_any (g : Nat) (A : Option Addr) (c : Nat) (l : List Bool) (K : Int) (X : Nat) (N : Int) (w : World) (h : Wr w g A c l) (hl : l.length ≤ 800000) (hx : X < 18446744073709551616) :
    Calls Try.prog 10 #[.pointer (some ⟨g, 0, none⟩), actV K X N] w fun e w' => e = .returned (.tuple #[]) ∧ Wst w g A (l ++ putB K X N) w' := by
  have hg := gb_alloc (gb_refl w none) (.cells #[.int .i64 K, .int .u64 X, .int .i64 N] 31)
  have h' := h.later hg
  have hx2 : (X : Int) ≤ 18446744073709551615 := by omega
  unfold actV putB
  by_cases h1 : K = 1
  · subst h1
    rw [if_pos rfl]
    go_enter Try.func10, Try.ntmps10
    go_wp2_with fail
    refine (bits_any g A c l X N _ h' (by omega) hx).mono ?_
    rintro e w2 ⟨rfl, hst⟩
    go_wp2_with fail
    go_end0
    exact ⟨rfl, hst.later hg⟩
  by_cases h2 : K = 2
  · subst h2
    rw [if_neg (by decide), if_pos rfl]
    go_enter Try.func10, Try.ntmps10
    go_wp2_with fail
    refine (turned_any g A c l X N _ h' (by omega) hx).mono ?_
    rintro e w2 ⟨rfl, hst⟩
    go_wp2_with fail
    go_end0
    exact ⟨rfl, hst.later hg⟩
  by_cases h3 : K = 3
  · subst h3
    rw [if_neg (by decide), if_neg (by decide), if_pos rfl]
    go_enter Try.func10, Try.ntmps10
    go_wp2_with fail
    refine (gamma_any g A c l X _ h' (by omega) hx).mono ?_
    rintro e w2 ⟨rfl, hst⟩
    go_wp2_with fail
    go_end0
    exact ⟨rfl, hst.later hg⟩
  · rw [if_neg h1, if_neg h2, if_neg h3]
    have b1 : (K == 1) = false := by simpa using h1
    have b2 : (K == 2) = false := by simpa using h2
    have b3 : (K == 3) = false := by simpa using h3
    clear h1 h2 h3
    go_enter Try.func10, Try.ntmps10
    go_wp2_with fail
    refine (bit_any g A c l _ _ h' (by omega)).mono ?_
    rintro e w2 ⟨rfl, hst⟩
    go_wp2_with fail
    go_end0
    refine ⟨rfl, Wst.later hg ?_⟩
    have eb : ((X : Int) % 2 == 1) = (X % 2 == 1) := by rw [Bool.eq_iff_iff]; simp only [beq_iff_eq]; omega
    have e2 : bitsN X 1 = [X % 2 == 1] := rfl
    rw [e2]
    first | exact hst | (rw [eb] at hst; exact hst)

theorem Gives.later {w w1 w2 : World} {e s n : Nat} {xs : List Value} {en : Ending} (hg : w.grownBy w1 none) (h : Gives w1 e s n xs en w2) : Gives w e s n xs en w2 := by
  obtain ⟨A, c, h1, h2, h3⟩ := h
  exact ⟨A, c, h1, h2.mono hg.size, gb_trans hg h3⟩

set_option maxHeartbeats 1600000 in
theorem puts_any (K : Int) (X : Nat) (N : Int) (w : World) (hx : X < 18446744073709551616) :
    Calls Try.prog 11 #[actV K X N] w (Gives w 4 1 (putB K X N).length ((putB K X N).map .bool)) := by
  have hg := gb_alloc (gb_refl w none) (.cells #[.int .i64 K, .int .u64 X, .int .i64 N] 31)
  have hx2 : (X : Int) ≤ 18446744073709551615 := by omega
  unfold actV putB
  by_cases h1 : K = 1
  · subst h1
    rw [if_pos rfl, bitsN_len]
    go_enter Try.func11, Try.ntmps11
    go_wp2_with fail
    refine (rbits_any X N _ hx).mono ?_
    rintro e w2 ⟨A, c, rfl, hO, hg2⟩
    go_wp2_with fail
    go_ret
    exact Gives.later hg ⟨A, c, rfl, hO, hg2⟩
  by_cases h2 : K = 2
  · subst h2
    rw [if_neg (by decide), if_pos rfl, List.length_reverse]
    have hbk := fun W S cs B (hB : B ≤ W.heap.size) (h : Rd W B 1 S (bitsN X (nb N)).length ((bitsN X (nb N)).map .bool)) => rback_any (bitsN X (nb N)) S cs B W hB h (by rw [bitsN_len]; have := nb_le N; omega)
    rw [bitsN_len] at hbk
    rw [bitsN_len]
    have HBK := Lib.hid hbk
    clear hbk
    go_enter Try.func11, Try.ntmps11
    go_wp2_with fail
    refine (rbits_any X N _ hx).mono ?_
    rintro e w2 ⟨A, c, rfl, hO, hg2⟩
    go_wp2_with fail
    refine (HBK.out _ _ _ _ (Nat.le_refl _) hO.rd).mono ?_
    rintro e w3 ⟨A3, c3, rfl, hO3, hg3⟩
    go_wp2_with fail
    go_ret
    exact Gives.later (gb_trans hg hg2) ⟨A3, c3, rfl, hO3, hg3⟩
  by_cases h3 : K = 3
  · subst h3
    rw [if_neg (by decide), if_neg (by decide), if_pos rfl]
    go_enter Try.func11, Try.ntmps11
    go_wp2_with fail
    refine (rgamma_any X _ hx).mono ?_
    rintro e w2 ⟨A, c, rfl, hO, hg2⟩
    go_wp2_with fail
    go_ret
    exact Gives.later hg ⟨A, c, rfl, hO, hg2⟩
  · rw [if_neg h1, if_neg h2, if_neg h3, bitsN_len]
    have b1 : (K == 1) = false := by simpa using h1
    have b2 : (K == 2) = false := by simpa using h2
    have b3 : (K == 3) = false := by simpa using h3
    clear h1 h2 h3
    go_enter Try.func11, Try.ntmps11
    go_wp2_with fail
    refine (rbits_any X 1 _ hx).mono ?_
    rintro e w2 ⟨A, c, rfl, hO, hg2⟩
    go_wp2_with fail
    go_ret
    exact Gives.later hg ⟨A, c, rfl, hO, hg2⟩

theorem wr_new (w : World) : Wr (w.alloc (.cells #[.slice none 0 0, .int .i64 0] 26)) w.heap.size none 0 [] := ⟨Blk.new w _ _, Own.nil _ _ _ _⟩

theorem gam5 : gam 5 = [false, false, true, false, true] := by
  have h : size 5 = 3 := by
    rw [size_pos 5 (by omega), size_pos (5 / 2) (by decide), size_pos (5 / 2 / 2) (by decide)]
    simp [size_zero]
  unfold gam
  rw [h]
  rfl

set_option maxHeartbeats 1600000 in
theorem awake_any (w : World) : Calls Try.prog 17 #[] w fun e w' => e = .returned (.bool true) ∧ w.grownBy w' none := by
  have hw := wr_new w
  go_enter Try.func17, Try.ntmps17
  go_wp2_with fail
  have hg := gb_alloc (gb_refl w none) (.cells #[.slice none 0 0, .int .i64 0] 26)
  refine (gamma_any w.heap.size none 0 [] 5 _ hw (by decide) (by decide)).mono ?_
  rintro e w2 ⟨rfl, A1, c1, hw1, ht1, hn1⟩
  have hg2 : w.grownBy w2 none := ⟨ht1.os, ht1.tape, ht1.output, Nat.le_trans hg.size ht1.size, fun k hk _ => (ht1.block k (by simp; omega) (fun e => by rcases e with e | e <;> first | omega | (simp [blk] at e))).trans (hg.block k hk (by simp))⟩
  rw [List.nil_append, gam5] at hw1
  have ep : pk [false, false, true, false, true] = [20] := by decide
  go_wp2_with fail
  refine (len_any _ _ _ _ _ hw1).mono ?_
  rintro e w3 ⟨rfl, rfl⟩
  go_wp2_with fail
  refine (bytes_any _ _ _ _ _ hw1 (by decide)).mono ?_
  rintro e w4 ⟨A4, c4, rfl, hO4, hg4⟩
  rw [ep] at hO4
  have hcv : (convert 24 9 (.slice A4 1 c4)).run Try.prog w4 = .ok (.string ⟨#[20]⟩) w4 := conv_any c4 hO4.rd rfl
  rw [ep]
  go_wp2_with fail
  go_ret
  exact ⟨by trivial, gb_trans hg2 hg4⟩
end Go.Proofs.Ytlohplopomfjhaa
