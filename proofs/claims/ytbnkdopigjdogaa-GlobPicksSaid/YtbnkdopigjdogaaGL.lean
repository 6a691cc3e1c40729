/- The law's awake, and the law GlobQuotes. -/
import Derived.Test.YtbnkdopigjdogaaGF
import Derived.Test.YtbnkdopigjdogaaGG
import Derived.Test.YtbnkdopigjdogaaGQ
namespace Go.Proofs.Ytbnkdopigjdogaa
set_option linter.unusedVariables false
set_option linter.unusedSimpArgs false
open Go.RowKit Go.Own Go.Glob

theorem parse_ok {w : World} {s : List Nat} {l : List Part} {e : Ending} {w' : World} (hl : s.length ≤ 1000) (h : ParseGives w s (some l) e w') :
    ∃ A c, e = .returned (.tuple #[.agg #[.slice A l.length c], .int .i64 0]) ∧ Rd w' w'.heap.size 259 A l.length (l.flatMap pL) ∧ w.grownBy w' none ∧ l.length ≤ s.length := by
  obtain ⟨hg, h⟩ := h
  rcases h with ⟨h1, _⟩ | ⟨_, h1, _⟩ | ⟨_, l', A, c, h1, h2, h3, h4⟩
  · omega
  · cases h1
  · injection h1 with h1
    subst h1
    exact ⟨A, c, h3, h4, hg, h2⟩

theorem awake_parts : ∃ l, parse [97, 91, 98, 45, 100, 93, 42] = some l ∧ mt l [97, 99, 120, 121, 122] = true ∧ mt l [97, 101, 120, 121, 122] = false := by
  refine ⟨[⟨0, 97, false, none0⟩, ⟨3, 0, false, fill none0 98 100⟩, ⟨2, 0, false, none0⟩], by rfl, ?_, ?_⟩
  · simp [Go.Glob.mt, fits, fill, none0]
  · simp [Go.Glob.mt, fits, fill, none0]

set_option maxHeartbeats 60000000 in
set_option maxRecDepth 100000 in
theorem awake39 (w : World) : Calls Try.prog 5 #[] w fun e w' => e = .returned (.bool true) ∧ w.grownBy w' none := by
  obtain ⟨l, hl, hm1, hm2⟩ := awake_parts
  have e0 : (⟨#[97, 91, 98, 45, 100, 93, 42]⟩ : ByteArray) = strB [97, 91, 98, 45, 100, 93, 42] := by decide
  have e1 : (⟨#[97, 99, 120, 121, 122]⟩ : ByteArray) = strB [97, 99, 120, 121, 122] := by decide
  have e2 : (⟨#[97, 101, 120, 121, 122]⟩ : ByteArray) = strB [97, 101, 120, 121, 122] := by decide
  have H0 : ∀ w, Calls Try.prog 6 #[.string ⟨#[97, 91, 98, 45, 100, 93, 42]⟩] w fun e w' => ∃ A c, e = .returned (.tuple #[.agg #[.slice A l.length c], .int .i64 0]) ∧ Rd w' w'.heap.size 259 A l.length (l.flatMap pL) ∧ w.grownBy w' none ∧ l.length ≤ 7 := by
    intro w
    rw [e0]
    refine (parse6_any [97, 91, 98, 45, 100, 93, 42] w (by simp) (by simp)).mono fun e w' h => ?_
    rw [hl] at h
    exact parse_ok (by simp) h
  have H1 : ∀ (w : World) (A : Option Addr) (c B : Nat), Rd w B 259 A l.length (l.flatMap pL) → B ≤ w.heap.size → l.length ≤ 7 → Calls Try.prog 12 #[.agg #[.slice A l.length c], .string ⟨#[97, 99, 120, 121, 122]⟩] w fun e w' => e = .returned (.bool true) ∧ w.grownBy w' none := by
    intro w A c B hR hB h7
    rw [e1]
    have := match12_any l [97, 99, 120, 121, 122] A c w hR hB (by simp) (by simp) (by omega)
    rwa [hm1] at this
  have H2 : ∀ (w : World) (A : Option Addr) (c B : Nat), Rd w B 259 A l.length (l.flatMap pL) → B ≤ w.heap.size → l.length ≤ 7 → Calls Try.prog 12 #[.agg #[.slice A l.length c], .string ⟨#[97, 101, 120, 121, 122]⟩] w fun e w' => e = .returned (.bool false) ∧ w.grownBy w' none := by
    intro w A c B hR hB h7
    rw [e2]
    have := match12_any l [97, 101, 120, 121, 122] A c w hR hB (by simp) (by simp) (by omega)
    rwa [hm2] at this
  clear hl hm1 hm2 e0 e1 e2
  replace H0 := Lib.hid H0
  replace H1 := Lib.hid H1
  replace H2 := Lib.hid H2
  obtain ⟨n, hn⟩ : ∃ n, n = l.length := ⟨_, rfl⟩
  obtain ⟨xs, hxs⟩ : ∃ xs, xs = l.flatMap pL := ⟨_, rfl⟩
  rw [← hn, ← hxs] at H0 H1 H2
  clear hn hxs
  go_enter Try.func5, Try.ntmps5
  go_wp2_with (first
    | (go_at_call 6; refine (H0.out _).mono ?_; rintro e w1 ⟨A, c, rfl, hR, hg1, hn7⟩)
    | (apply bAlloc 26; (case ho => exact rfl); (case hw => exact rfl); (case hz => exact zero26))
    | (apply bStore 26 (.tmp 1) (.tmp 5); (case ho => exact rfl); (case hw => exact rfl); (case hx => exact rfl); (case hy => exact rfl); (case hB => exact (Blk.new w1 #[.slice none 0 0] 26)); (case hi => exact size26); (case hs => exact rfl); (case h1 => exact one26 _ _ _); intro w2 hB2 hg2; (have hR2 : Rd w2 w1.heap.size 259 A n xs := hR.below ⟨hg2.os, hg2.tape, hg2.output, Nat.le_trans (by simp) hg2.size, fun k hk => (hg2.block k (by simp; omega) (by intro e; injection e with e; omega)).trans (Below.heap_alloc _ _ _ hk)⟩); (have hs2 : w1.heap.size ≤ w2.heap.size := Nat.le_trans (by simp) hg2.size); (have hgg2 := gb_own_b (gb_alloc hg1 (.cells #[.slice none 0 0] 26)) hg2 (by have := hg1.size; omega)))
    | (go_at_call_of 12 (ByteArray.mk #[97, 99, 120, 121, 122]); refine (H1.out _ A c _ hR2 hs2 hn7).mono ?_; rintro e w3 ⟨rfl, hg3⟩; (have hB3 := hB2.grown hg3 (by simp)); (have hR3 := hR2.later hg3 hs2); (have hs3 : w1.heap.size ≤ w3.heap.size := Nat.le_trans hs2 hg3.size))
    | (go_at_call_of 12 (ByteArray.mk #[97, 101, 120, 121, 122]); refine (H2.out _ A c _ hR3 hs3 hn7).mono ?_; rintro e w4 ⟨rfl, hg4⟩)
    | (apply bLoad 26 (.tmp 1); (case ho => exact rfl); (case hu => exact Try.underlying26); (case hw => exact rfl); (case hx => exact rfl); (case hB => exact hB3); (case hd => exact rfl); (case hi => exact size26))
    | (apply bLoad 26 (.tmp 1); (case ho => exact rfl); (case hu => exact Try.underlying26); (case hw => exact rfl); (case hx => exact rfl); (case hB => exact hB2); (case hd => exact rfl); (case hi => exact size26))
    | fail)
  go_ret
  exact ⟨rfl, gb_trans (gb_trans hgg2 hg3) hg4⟩
end Go.Proofs.Ytbnkdopigjdogaa
