/- The law GlobQuotes. -/
import Derived.Test.YtbnkdopigjdogaaGL
import Derived.ChangeMaps5
namespace Go.Proofs.Ytbnkdopigjdogaa
set_option linter.unusedVariables false
set_option linter.unusedSimpArgs false
open Go.RowKit Go.Own Go.Glob

theorem strB_beq {s t : List Nat} (hs : ∀ v ∈ s, v < 256) (ht : ∀ v ∈ t, v < 256) : ((strB s).toList == (strB t).toList) = (s == t) := by
  by_cases h : s = t
  · subst h; simp
  · rw [beq_strB hs ht h]
    symm
    simpa using h

set_option maxHeartbeats 60000000 in
set_option maxRecDepth 100000 in
theorem law_quotes (s t : List Nat) (w : World) (hs : ∀ v ∈ s, v < 256) (ht : ∀ v ∈ t, v < 256) (hsm : s.length ≤ maxLen) (htm : t.length ≤ maxLen) :
    Calls Try.prog 4 #[.string (strB s), .string (strB t)] w fun e w' => e = .returned (.bool true) ∧ w.grownBy w' none := by
  have hz := strB_size s
  have hzt := strB_size t
  have hlen : (s.length : Int) < 9223372036854775808 := by simp only [maxLen] at hsm; omega
  have hlent : (t.length : Int) < 9223372036854775808 := by simp only [maxLen] at htm; omega
  by_cases h1 : 500 < s.length
  · have h1i : (500 : Int) < (s.length : Int) := by omega
    go_enter Try.func4, Try.ntmps4
    go_wp2_with (first | (go_at_call 5; refine (awake39 _).mono ?_; rintro e w1 ⟨rfl, hg1⟩) | fail)
    go_ret
    exact ⟨rfl, hg1⟩
  · have h1i : ¬ ((500 : Int) < (s.length : Int)) := by omega
    by_cases h2 : 500 < t.length
    · have h2i : (500 : Int) < (t.length : Int) := by omega
      go_enter Try.func4, Try.ntmps4
      go_wp2_with (first | (go_at_call 5; refine (awake39 _).mono ?_; rintro e w1 ⟨rfl, hg1⟩) | fail)
      go_ret
      exact ⟨rfl, hg1⟩
    · have h2i : ¬ ((500 : Int) < (t.length : Int)) := by omega
      have hql := quote_len s
      have H10 := fun w => quote10_any s w hs (by omega)
      have H11 := fun w => quote11_any s w hs (by omega)
      have H6 : ∀ w, Calls Try.prog 6 #[.string (strB (quote s))] w fun e w' => ∃ A c, e = .returned (.tuple #[.agg #[.slice A (s.map lit).length c], .int .i64 0]) ∧ Rd w' w'.heap.size 259 A (s.map lit).length ((s.map lit).flatMap pL) ∧ w.grownBy w' none ∧ (s.map lit).length ≤ (quote s).length := by
        intro w
        refine (parse6_any (quote s) w (quote_lt hs) (by omega)).mono fun e w' h => ?_
        rw [parse_quote] at h
        exact parse_ok (by omega) h
      have H1 : ∀ (w : World) (A : Option Addr) (c B : Nat), Rd w B 259 A (s.map lit).length ((s.map lit).flatMap pL) → B ≤ w.heap.size → Calls Try.prog 12 #[.agg #[.slice A (s.map lit).length c], .string (strB s)] w fun e w' => e = .returned (.bool true) ∧ w.grownBy w' none := by
        intro w A c B hR hB
        have := match12_any (s.map lit) s A c w hR hB hs (by omega) (by rw [List.length_map]; omega)
        rw [mt_lit] at this
        simpa using this
      have H2 : ∀ (w : World) (A : Option Addr) (c B : Nat), Rd w B 259 A (s.map lit).length ((s.map lit).flatMap pL) → B ≤ w.heap.size → Calls Try.prog 12 #[.agg #[.slice A (s.map lit).length c], .string (strB t)] w fun e w' => e = .returned (.bool (s == t)) ∧ w.grownBy w' none := by
        intro w A c B hR hB
        have := match12_any (s.map lit) t A c w hR hB ht (by omega) (by rw [List.length_map]; omega)
        rwa [mt_lit] at this
      have hbq := strB_beq hs ht
      obtain ⟨bb, hbb⟩ : ∃ bb, bb = (s == t) := ⟨_, rfl⟩
      rw [← hbb] at H2 hbq
      clear hbb hql
      replace H10 := Lib.hid H10
      replace H11 := Lib.hid H11
      replace H6 := Lib.hid H6
      replace H1 := Lib.hid H1
      replace H2 := Lib.hid H2
      obtain ⟨n, hn⟩ : ∃ n, n = (s.map lit).length := ⟨_, rfl⟩
      obtain ⟨xs, hxs⟩ : ∃ xs, xs = (s.map lit).flatMap pL := ⟨_, rfl⟩
      obtain ⟨qs, hqs⟩ : ∃ qs, qs = strB (quote s) := ⟨_, rfl⟩
      obtain ⟨m, hm⟩ : ∃ m, m = (quote s).length := ⟨_, rfl⟩
      obtain ⟨sb, hsb⟩ : ∃ sb, sb = strB s := ⟨_, rfl⟩
      obtain ⟨tb, htb⟩ : ∃ tb, tb = strB t := ⟨_, rfl⟩
      rw [← hn, ← hxs, ← hqs, ← hm] at H6
      rw [← hn, ← hxs, ← hsb] at H1
      rw [← hn, ← hxs, ← htb] at H2
      rw [← hqs, ← hsb] at H10 H11
      rw [← hsb, ← htb] at hbq
      rw [← hsb] at hz
      rw [← htb] at hzt
      rw [← hsb, ← htb]
      clear hn hxs hqs hm hsb htb
      go_enter Try.func4, Try.ntmps4
      go_wp2_with (first
        | ((have hGUARD := hR2); clear hGUARD; go_at_call 10; refine (H10.out _).mono ?_; rintro e w5 ⟨rfl, hg5⟩; (have hB5 := hB2.grown hg5 (by simp)); (have hR5 := hR2.later hg5 hs2); (have hs5 : w1.heap.size ≤ w5.heap.size := Nat.le_trans hs2 hg5.size))
        | (go_at_call 10; refine (H10.out _).mono ?_; rintro e w0 ⟨rfl, hg0⟩)
        | (go_at_call 11; refine (H11.out _).mono ?_; rintro e w6 ⟨rfl, rfl⟩)
        | (go_at_call 6; refine (H6.out _).mono ?_; rintro e w1 ⟨A, c, rfl, hR, hg1, hn7⟩)
        | (apply bAlloc 26; (case ho => exact rfl); (case hw => exact rfl); (case hz => exact zero26))
        | (apply bStore 26 (.tmp 5) (.tmp 20); (case ho => exact rfl); (case hw => exact rfl); (case hx => exact rfl); (case hy => exact rfl); (case hB => exact (Blk.new w1 #[.slice none 0 0] 26)); (case hi => exact size26); (case hs => exact rfl); (case h1 => exact one26 _ _ _); intro w2 hB2 hg2; (have hR2 : Rd w2 w1.heap.size 259 A n xs := hR.below ⟨hg2.os, hg2.tape, hg2.output, Nat.le_trans (by simp) hg2.size, fun k hk => (hg2.block k (by simp; omega) (by intro e; injection e with e; omega)).trans (Below.heap_alloc _ _ _ hk)⟩); (have hs2 : w1.heap.size ≤ w2.heap.size := Nat.le_trans (by simp) hg2.size); (have hgg2 := gb_own_b (gb_alloc (gb_trans hg0 hg1) (.cells #[.slice none 0 0] 26)) hg2 (by have := (gb_trans hg0 hg1).size; omega)))
        | (go_at_call_of 12 sb; refine (H1.out _ A c _ hR5 hs5).mono ?_; rintro e w3 ⟨rfl, hg3⟩; (have hB3 := hB5.grown hg3 (by simp)); (have hR3 := hR5.later hg3 hs5); (have hs3 : w1.heap.size ≤ w3.heap.size := Nat.le_trans hs5 hg3.size))
        | (go_at_call_of 12 tb; refine (H2.out _ A c _ hR3 hs3).mono ?_; rintro e w4 ⟨rfl, hg4⟩)
        | (go_at_call 5; refine (awake39 _).mono ?_; rintro e w7 ⟨rfl, hg7⟩)
        | (apply bLoad 26 (.tmp 5); (case ho => exact rfl); (case hu => exact Try.underlying26); (case hw => exact rfl); (case hx => exact rfl); (case hB => exact hB3); (case hd => exact rfl); (case hi => exact size26))
        | (apply bLoad 26 (.tmp 5); (case ho => exact rfl); (case hu => exact Try.underlying26); (case hw => exact rfl); (case hx => exact rfl); (case hB => exact hB5); (case hd => exact rfl); (case hi => exact size26))
        | fail)
      go_ret
      exact ⟨rfl, gb_trans (gb_trans (gb_trans (gb_trans hgg2 hg5) hg3) hg4) hg7⟩

section
open Go.ChangeShapes Go.WideShapes Go.ChangeAt
theorem open_str {H : Type} {enc : TypeId × Value → H} {base : Nat} {v : Value} {d : DataW H} {p : List MemPlace} {W : World} (k : Value.okWide Try.prog W .any base 9 v) (h : DataW.Trod enc Try.prog W 0 (fun _ => true) true 9 v d p) : ∃ s : List Nat, v = .string (strB s) ∧ (∀ x ∈ s, x < 256) ∧ s.length ≤ maxLen := by
  obtain ⟨b, rfl, _, _, hm⟩ := Go.ChangeMaps.open_string Try.underlying9 k h
  obtain ⟨l, rfl, hl⟩ := strB_of b
  rw [strB_size] at hm
  exact ⟨l, rfl, hl, hm⟩

theorem globquotes_main {H : Type} {enc : TypeId × Value → H} {base : Nat} {v0 v1 : Value} {d0 d1 : DataW H} {p0 p1 : List MemPlace} (W : World)
    (k0 : Value.okWide Try.prog W .any base 9 v0) (h0 : DataW.Trod enc Try.prog W 0 (fun _ => true) true 9 v0 d0 p0)
    (k1 : Value.okWide Try.prog W .any base 9 v1) (h1 : DataW.Trod enc Try.prog W 0 (fun _ => true) true 9 v1 d1 p1) :
    Calls Try.prog 4 #[v0, v1] W fun e w' => e = .returned (.bool true) ∧ W.grownBy w' none := by
  obtain ⟨s, rfl, hs, hsm⟩ := open_str k0 h0
  obtain ⟨t, rfl, ht, htm⟩ := open_str k1 h1
  exact law_quotes s t W hs ht hsm htm
end
end Go.Proofs.Ytbnkdopigjdogaa
