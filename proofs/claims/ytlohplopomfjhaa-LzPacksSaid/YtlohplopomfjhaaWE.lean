/- The walks of the document's rows of bits: turned round, and numbers from 1 on. -/
import Derived.Test.YtlohplopomfjhaaWD
import Derived.Deep.RegionHeld3
namespace Go.Proofs.Ytlohplopomfjhaa
set_option linter.unusedVariables false
set_option linter.unusedSimpArgs false
open Go.RowKit Go.Own Go.Bits

theorem rev_snoc (bs : List Bool) (q : Nat) (h : q < bs.length) : (bs.drop q).reverse = (bs.drop (q + 1)).reverse ++ [bs.getD q false] := by
  have e : bs.getD q false = bs[q] := by simp [h]
  rw [List.drop_eq_getElem_cons h, List.reverse_cons, e]

set_option maxHeartbeats 1600000 in
theorem rback_any (bs : List Bool) (S : Option Addr) (cs B : Nat) (w : World) (hB : B ≤ w.heap.size) (hS : Rd w B 1 S bs.length (bs.map .bool)) (hl : bs.length ≤ 1000000) :
    Calls Try.prog 42 #[.slice S bs.length cs] w (Gives w 4 1 bs.length (bs.reverse.map .bool)) := by
  obtain ⟨it, hi, hz0, hz1, hz2⟩ := info_parts info4
  go_enter Try.func42, Try.ntmps42
  go_wp2_with fail
  go_loopw [3, 4] (fun v3 v4 wi => ∃ (q n : Nat) (A : Option Addr) (c : Nat), v3 = .slice A n c ∧ v4 = .int .i64 ((q : Int) - 1) ∧ q + n = bs.length ∧ Own wi w.heap.size 4 1 A c n ((bs.drop q).reverse.map .bool) ∧ w.grownBy wi none)
    (fun _ v4 _ => (intOf v4 + 1).toNat)
  case atStart => exact ⟨bs.length, 0, none, 0, rfl, rfl, by omega, by rw [List.drop_length]; exact Own.nil _ _ _ _, gb_refl _ _⟩
  case round =>
    obtain ⟨q, n, A, c, rfl, rfl, hq, hO, hg⟩ := hrel
    by_cases hq0 : q = 0
    · subst hq0
      have hn : n = bs.length := by omega
      subst hn
      go_wp2_with fail
      go_ret
      exact ⟨A, c, rfl, hO, hg⟩
    · obtain ⟨p, rfl⟩ : ∃ p, q = p + 1 := ⟨q - 1, by omega⟩
      have e1 : ((p + 1 : Nat) : Int) - 1 = (p : Int) := by omega
      rw [e1]
      clear e1
      obtain ⟨sg, off, rfl, hsg, hsc⟩ := hS.form (by omega)
      have hp : p < bs.length := by omega
      have cp := (hg.cell (a := ⟨sg, off + p, none⟩) (hsc p (.bool (bs.getD p false)) (by simp [hp])) (by simp))
      have hs := hg.size
      have hby : (n + 1) * 1 ≤ 140737488355328 := by omega
      have hrs := rev_snoc bs p hp
      have HRS := Lib.hid hrs
      clear hrs
      generalize bs.getD p false = b at *
      have hone : ∀ u ∈ [Value.bool b], u.oneCell' = true := by intro u hu; simp at hu; subst hu; rfl
      have hp0 : (0 : Int) ≤ (p : Int) := by omega
      have hp1 : (p : Int) < (bs.length : Int) := by omega
      go_wp2_with (
        at_builtin
        refine wpList_app1 wr rfl (.tmp 12) (.tmp 17) 27 rfl w.heap.size 4 Try.underlying27 hi hz0 hz1 hz2 rfl (by decide) A c n ((bs.drop (p + 1)).reverse.map .bool) rfl hO [.bool b] 4 1 (by rfl) rfl hone hby (by decide) hs ?_
        intro g1 c1 w2 hO2 hgr hloc _ hlt)
      go_roundw
      case rel =>
        refine ⟨p, n + 1, some ⟨g1, 0, none⟩, c1, rfl, rfl, by omega, ?_, gb_own hg hgr (fun g hg' => (hO.lt g hg').1)⟩
        rw [HRS.out, List.map_append]
        exact hO2
      case measure => first | (simp [intOf]; done) | (simp [intOf]; omega)

set_option maxHeartbeats 800000 in
theorem rsize_any (x : Nat) (w : World) (hx : x < 18446744073709551616) : Calls Try.prog 48 #[.int .u64 x] w fun e w' => e = .returned (.int .i64 (size x)) ∧ w = w' := by
  have hx2 : (x : Int) ≤ 18446744073709551615 := by omega
  have hsx : size x ≤ 64 := size_le x 64 (by omega)
  go_enter Try.func48, Try.ntmps48
  go_wp2_with fail
  go_loopw [0, 3] (fun v0 v3 wi => ∃ s y : Nat, v3 = .int .i64 s ∧ v0 = .int .u64 y ∧ s + size y = size x ∧ y ≤ x ∧ w = wi)
    (fun v0 _ _ => (intOf v0).toNat)
  case atStart => exact ⟨0, x, rfl, rfl, by omega, Nat.le_refl _, rfl⟩
  case round =>
    obtain ⟨s, y, rfl, rfl, hs, hy, rfl⟩ := hrel
    have HS := Lib.hid hs
    by_cases h0 : y = 0
    · subst h0
      rw [size_zero] at hs
      have hs2 : s = size x := by omega
      subst hs2
      clear hs
      go_wp2_with fail
      go_ret
      exact ⟨rfl, rfl⟩
    · have hsy := size_pos y (by omega)
      have HSY := Lib.hid hsy
      clear hsy hs
      have e0 : ¬ ((y : Int) ≤ 0) := by omega
      have hs64 : s ≤ 64 := by have := HS.out; omega
      go_wp2_with fail
      go_roundw
      case rel => exact ⟨s + 1, y / 2, by go_num, by go_num, by have := HS.out; have := HSY.out; omega, by omega, by trivial⟩
      case measure => first | (simp [intOf]; done) | (simp [intOf]; omega)

theorem run_make_bools (n : Nat) (hn : n ≤ 1000000) (w : World) :
    (Instr.makeSlice 27 (.int .i64 (n : Int)) (.int .i64 (n : Int))).run Try.prog w = .ok (.slice (some ⟨w.heap.size, 0, none⟩) n n) (w.alloc (.cells (Array.replicate n (Value.bool false)) 4)) := by
  obtain ⟨i, hi, hz, hs, hb⟩ := info_parts info4
  have hr := run_make (P := Try.prog) w 27 4 i (.bool false) Try.underlying27 hi hz .i64 .i64 (n : Int) (n : Int) (by omega) (by omega) (by rw [hb]; omega) (by omega)
  rw [hr]
  simp only [Int.toNat_natCast]
  have e1 : madeCells (Value.bool false).cells (n * i.size) = Array.replicate n (Value.bool false) := by
    have := toList_madeCells_one (.bool false) n
    apply Array.ext'
    rw [hs, Nat.mul_one]
    show (madeCells #[Value.bool false] n).toList = _
    simpa using this
  rw [e1]

theorem own_make (w : World) (n : Nat) (hn : n ≤ 1000000) (base : Nat) (hb : base ≤ w.heap.size) : Own (w.alloc (.cells (Array.replicate n (Value.bool false)) 4)) base 4 1 (some ⟨w.heap.size, 0, none⟩) n n ((List.replicate n false).map .bool) := by
  have h := Own.of_blk (base := base) (size := 1) (n := n) (c := n) (Blk.new w (Array.replicate n (Value.bool false)) 4) hb (by simp only [maxLen]; omega) (Nat.le_refl _) (by simp)
  simpa using h

set_option maxHeartbeats 3200000 in
theorem rgamma_any (x : Nat) (w : World) (hx : x < 18446744073709551616) :
    Calls Try.prog 43 #[.int .u64 x] w (Gives w 4 1 (gam x).length ((gam x).map .bool)) := by
  obtain ⟨it, hi, hz0, hz1, hz2⟩ := info_parts info4
  have hx2 : (x : Int) ≤ 18446744073709551615 := by omega
  have hsx : size x ≤ 64 := size_le x 64 (by omega)
  have hgl : (gam x).length = (size x - 1) + size x := by simp [gam, bitsN_len]
  by_cases h0 : size x = 0
  · have hg0 : gam x = [] := List.eq_nil_of_length_eq_zero (by omega)
    rw [hg0]
    have H0 := Lib.hid h0
    go_enter Try.func43, Try.ntmps43
    go_wp2_with fail
    refine (rsize_any x _ hx).mono ?_
    rintro e w1 ⟨rfl, rfl⟩
    rw [H0.out]
    go_wp2_with fail
    go_ret
    exact ⟨none, 0, rfl, Own.nil _ _ _ _, gb_refl _ _⟩
  · obtain ⟨s, hs⟩ : ∃ s, size x = s + 1 := ⟨size x - 1, by omega⟩
    have hs63 : s ≤ 63 := by omega
    have HS := Lib.hid hs
    have hgam : (gam x).map Value.bool = (List.replicate s false).map Value.bool ++ (bitsN x (s + 1)).reverse.map Value.bool := by
      unfold gam; rw [hs, Nat.add_sub_cancel, List.map_append]
    have hgl2 : (gam x).length = s + (s + 1) := by omega
    rw [hgam, hgl2]
    have mk := fun W => run_make_bools s (by omega) W
    have hrb := fun W => rbits_any x ((s : Int) + 1) W hx
    have en : nb ((s : Int) + 1) = s + 1 := nb_nat (s + 1) (by omega)
    rw [en] at hrb
    have HRB := Lib.hid hrb
    have hbk := fun W S cs B (hB : B ≤ W.heap.size) (h : Rd W B 1 S (bitsN x (s + 1)).length ((bitsN x (s + 1)).map .bool)) => rback_any (bitsN x (s + 1)) S cs B W hB h (by rw [bitsN_len]; omega)
    rw [bitsN_len] at hbk
    have HBK := Lib.hid hbk
    have hby : (s + (s + 1)) * 1 ≤ 140737488355328 := by omega
    have h63 : s + (s + 1) ≤ maxLen := by simp only [maxLen]; omega
    have hone : ∀ u ∈ (bitsN x (s + 1)).reverse.map Value.bool, u.oneCell' = true := bools_one
    have hsn : s ≤ 1000000 := by omega
    have hwr : IntKind.i64.wrap (s : Int) = (s : Int) := by
      simp [IntKind.wrap, IntKind.bits, IntKind.signed]; omega
    clear hs h0 hgl hgam hgl2 hrb hbk en
    go_enter Try.func43, Try.ntmps43
    go_wp2_with fail
    refine (rsize_any x _ hx).mono ?_
    rintro e w1 ⟨rfl, rfl⟩
    rw [HS.out]
    have e1 : ((s + 1 : Nat) : Int) = (s : Int) + 1 := by omega
    rw [e1]
    clear e1
    go_wp2_with fail
    go_region_held3 (fun w' => w.grownBy w' none)
      (repeat' (first | assumption | exact gb_refl _ _ | exact Nat.le_refl _ | refine gb_alloc ?_ _ | refine gb_drew ?_ | refine gb_trans ?_ hg3 | refine gb_trans ?_ hg4 | refine gb_own ?_ hg5 (fun g hg => by simp [blk] at hg; have := hg3.size; have := hg4.size; simp at *; omega)))
      (first
        | (go_at_call 30; refine (HRB.out _).mono ?_; rintro e w3 ⟨A3, c3, rfl, hO3, hg3⟩)
        | (go_at_call 42; refine (HBK.out _ _ _ _ (Nat.le_refl _) (by first | exact hO3.rd | exact (hO3.alloc _).rd)).mono ?_; rintro e w4 ⟨A4, c4, rfl, hO4, hg4⟩)
        | (refine step_appN _ (by rfl) (.tmp 10) (.tmp 14) 27 (by rfl) w.heap.size 4 Try.underlying27 hi hz0 hz1 hz2 rfl (by decide) _ s s ((List.replicate s false).map .bool) (by rfl) (by first
              | exact ((own_make w.drew s hsn w.heap.size (Nat.le_refl _)).grown0 hg3).grown0 hg4
              | exact (own_make w3 s hsn w.heap.size hg3.size).grown0 hg4
              | exact own_make w4 s hsn w.heap.size (Nat.le_trans hg3.size hg4.size)) _ _ (s + 1) _ ((bitsN x (s + 1)).reverse.map .bool) (by rfl) (by first | exact hO4.rd | exact (hO4.alloc _).rd) hone h63 hby (World.grownBy.size (w := w) (row := none) (by assumption)) ?_; intro A5 c5 w5 hO5 hg5 hloc))
    all_goals
      go_wp2_with fail
      go_ret
      exact ⟨A5, c5, rfl, hO5, by assumption⟩
end Go.Proofs.Ytlohplopomfjhaa
