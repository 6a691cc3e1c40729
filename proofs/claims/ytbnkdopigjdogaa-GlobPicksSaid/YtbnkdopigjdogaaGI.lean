/- The walk of the document's Match. -/
import Derived.Test.YtbnkdopigjdogaaGH
import Derived.Test.YtbnkdopigjdogaaGJ
import Derived.OwnWalk
namespace Go.Proofs.Ytbnkdopigjdogaa
set_option linter.unusedVariables false
set_option linter.unusedSimpArgs false
open Go.RowKit Go.Own Go.Glob

def rowB (f : Nat → Bool) (N : Nat) : List Value := (List.range N).map fun j => .bool (f j)
theorem rowB_len (f : Nat → Bool) (N : Nat) : (rowB f N).length = N := by simp [rowB]
theorem rowB_get (f : Nat → Bool) (N j : Nat) (h : j < N) : (rowB f N)[j]? = some (.bool (f j)) := by simp [rowB, h]
theorem rowB_congr {f g : Nat → Bool} {N : Nat} (h : ∀ j, j < N → f j = g j) : rowB f N = rowB g N := by
  unfold rowB
  refine List.map_congr_left fun c hc => ?_
  rw [h c (by simpa using hc)]
theorem rowB_set (f : Nat → Bool) (N j : Nat) (b : Bool) : (rowB f N).set j (.bool b) = rowB (fun x => if x = j then b else f x) N := by
  apply List.ext_getElem?
  intro i
  by_cases hi : i < N
  · rw [rowB_get _ N i hi]
    by_cases hc : i = j
    · subst hc
      rw [List.getElem?_set_self (by rw [rowB_len]; exact hi), if_pos rfl]
    · rw [List.getElem?_set_ne (Ne.symm hc), rowB_get _ N i hi, if_neg hc]
  · rw [List.getElem?_eq_none (by rw [List.length_set, rowB_len]; omega), List.getElem?_eq_none (by rw [rowB_len]; omega)]
theorem made_false (N : Nat) : (madeCells (Value.bool false).cells (N * 1)).toList = rowB (fun _ => false) N := by
  unfold madeCells rowB
  rw [Nat.mul_one, Array.toList_map, Array.toList_range]
  refine List.map_congr_left fun j _ => ?_
  show (#[Value.bool false])[j % 1]! = _
  rw [Nat.mod_one]
  rfl

def part (l : List Part) (s : List Nat) (i j : Nat) : Nat → Bool := fun x => if x < j then pre l s (i + 1) x else false
theorem part_start (l : List Part) (s : List Nat) (i N : Nat) : rowB (fun _ => false) N = rowB (part l s i 0) N := rowB_congr fun j _ => by unfold part; rw [if_neg (by omega)]
theorem part_step {l : List Part} {s : List Nat} {i j N : Nat} {v : Bool} (h : pre l s (i + 1) j = v) : (rowB (part l s i j) N).set j (.bool v) = rowB (part l s i (j + 1)) N := by
  rw [rowB_set]
  refine rowB_congr fun x _ => ?_
  unfold part
  by_cases hx : x = j
  · subst hx; rw [if_pos rfl, if_pos (by omega), h]
  · rw [if_neg hx]
    by_cases h2 : x < j
    · rw [if_pos h2, if_pos (by omega)]
    · rw [if_neg h2, if_neg (by omega)]
theorem part_end (l : List Part) (s : List Nat) (i N : Nat) : rowB (part l s i N) N = rowB (pre l s (i + 1)) N := rowB_congr fun j h => by unfold part; rw [if_pos h]

theorem cell_apart {w wi : World} {gp o g j : Nat} {u v : Value} (h : wi.cell? ⟨gp, o, none⟩ = some u) (hp : gp < w.heap.size) (hg : w.heap.size ≤ g) : (wi.setCell ⟨g, j, none⟩ v).cell? ⟨gp, o, none⟩ = some u := by
  rw [← h]
  refine World.cell?_setCell_other _ _ _ _ (fun e => ?_)
  have := congrArg (fun a : Addr => a.block) e
  dsimp only at this
  omega

theorem qflat_get : ∀ (l : List Part) (i j : Nat), i < l.length → j < 257 → (ql l)[i * 257 + j]? = (qL (toRef (l.getD i ⟨0, 0, false, none0⟩)))[j]? := by
  intro l
  induction l with
  | nil => intro i j h; cases h
  | cons p l ih =>
    intro i j hi hj
    unfold ql
    rw [List.flatMap_cons]
    cases i with
    | zero =>
      rw [List.getElem?_append_left (by rw [qL_len]; omega)]
      simp
    | succ i =>
      rw [List.getElem?_append_right (by rw [qL_len]; omega), qL_len, show (i + 1) * 257 + j - 257 = i * 257 + j by omega]
      have := ih i j (by simpa using hi) hj
      unfold ql at this
      rw [this]
      simp

set_option maxHeartbeats 60000000 in
set_option maxRecDepth 100000 in
theorem match8_any (l : List Part) (s : List Nat) (A : Option Addr) (c : Nat) (w : World) {B : Nat} (hR : Rd w B 257 A l.length (ql l)) (hB : B ≤ w.heap.size) (hs : ∀ v ∈ s, v < 256) (hl : s.length ≤ 100000) (hll : l.length ≤ 100000) :
    Calls Try.prog 8 #[.slice A l.length c, .string (strB s)] w fun e w' => e = .returned (.bool (mt l s)) ∧ w.grownBy w' none := by
  have hz := strB_size s
  have hx := strB_get hs
  have hlt := fun i (h : i < s.length) => byte_lt hs h
  replace hlt := Lib.hid hlt
  replace hx := Lib.hid (fun i (h : i < s.length) => hx i (by rw [hz]; exact h))
  have hsl : s.length < 1000000 := by omega
  have hlll : l.length < 1000000 := by omega
  obtain ⟨it, hi, hz0, hz1, hz2⟩ := info_parts (P := Try.prog) (e := 4) (z := .bool false) (size := 1) (bytes := 1) (by kernel_rfl)
  replace hi := Lib.hid hi
  replace hz0 := Lib.hid hz0
  obtain ⟨N, hN⟩ : ∃ N, N = s.length + 1 := ⟨_, rfl⟩
  have hNi : (s.length : Int) + 1 = (N : Int) := by omega
  have hN0 : (0 : Int) < (N : Int) := by omega
  have hN1 : (s.length : Int) < (N : Int) := by omega
  have hb2 : it.bytes * N ≤ 281474976710656 := by rw [hz2]; omega
  have hb3 : N ≤ maxLen := by simp only [maxLen]; omega
  have hNl : N ≤ 100001 := by omega
  have hall := pre_all l s
  replace hall := Lib.hid hall
  replace hN := Lib.hid hN
  replace hb2 := Lib.hid hb2
  replace hb3 := Lib.hid hb3
  replace hR := Lib.hid hR
  go_enter Try.func8, Try.ntmps8
  go_wp2_with (first
    | (at_make; refine wpList_make_full w rfl (.tmp 11) (.tmp 11) 50 rfl w.heap.size 4 it (.bool false) 1 Try.underlying50 hi.out hz0.out hz1 .i64 .i64 N N N rfl rfl rfl rfl hb2.out hb3.out (Nat.le_refl _) ?_; intro w1 ho1 hg1; (have hO1 : Own w1 w.heap.size 4 1 (some ⟨w.heap.size, 0, none⟩) N N (rowB (fun _ => false) N) := by (rw [← made_false]; exact ho1)); (have k0 := hO1.cell rfl (j := 0) (u := .bool false) (by omega) (rowB_get _ N 0 (by omega))); (have f0 := hO1.free rfl 0))
    | fail)
  have hO2 := hO1.set 0 (.bool true)
  rw [rowB_set, rowB_congr (g := pre l s 0) (fun j hj => by rw [pre_zero l s j (by have := hN.out; omega)]; by_cases h : j = 0 <;> simp [h])] at hO2
  have hg2 := gb_new_set (p := ⟨w.heap.size, 0, none⟩) (v := .bool true) hg1 (Nat.le_refl _)
  clear hO1 k0 f0
  go_loopw [5, 6] (fun v5 v6 wi => ∃ (i g : Nat), v5 = .slice (some ⟨g, 0, none⟩) N N ∧ v6 = .int .i64 i ∧ i ≤ l.length ∧ Own wi w.heap.size 4 1 (some ⟨g, 0, none⟩) N N (rowB (pre l s i) N) ∧ w.grownBy wi none)
    (fun _ v6 _ => l.length - (intOf v6).toNat)
  case atStart => exact ⟨0, _, rfl, rfl, Nat.zero_le _, hO2, hg2⟩
  case round =>
    obtain ⟨i, g, rfl, rfl, hil, hO, hg⟩ := hrel
    clear hO2 hg2 hg1
    by_cases hie : l.length ≤ i
    · have hii : ¬ ((i : Int) < (l.length : Int)) := by omega
      have hin : i = l.length := by omega
      have ke := hO.cell rfl (j := s.length) (by omega) (rowB_get _ N s.length (by omega))
      rw [hin, hall.out] at ke
      replace hin := Lib.hid hin
      go_wp2_with fail
      go_ret
      exact ⟨rfl, hg⟩
    · have hii : (i : Int) < (l.length : Int) := by omega
      have qi : i < l.length := by omega
      have hgl := hO.lt g rfl
      have hle : w.heap.size ≤ wr.heap.size := hg.size
      have hRi := hR.out.later hg hB
      obtain ⟨gp, off, rfl, hgB, hc⟩ := hRi.form (by omega)
      have hs0 := hc (i * 257 + 0) (.bool ((l.getD i ⟨0, 0, false, none0⟩).kind == 2)) (by rw [qflat_get l i 0 qi (by omega)]; rfl)
      rw [Nat.add_zero] at hs0
      have hin : ∀ ch, ch < 256 → wr.cell? ⟨gp, off + i * 257 + 1 + ch, none⟩ = some (.bool (fits (l.getD i ⟨0, 0, false, none0⟩) ch)) := by
        intro ch hch
        have := hc (i * 257 + (1 + ch)) (.bool (fits (l.getD i ⟨0, 0, false, none0⟩) ch)) (by rw [qflat_get l i (1 + ch) qi (by omega)]; exact qL_in (toRef (l.getD i ⟨0, 0, false, none0⟩)) ch hch)
        rw [show off + (i * 257 + (1 + ch)) = off + i * 257 + 1 + ch by omega] at this
        exact this
      have hps := fun j (hj : j ≤ s.length) => @pre_star l s i j qi hj
      have hpo := fun j (hj : j ≤ s.length) => @pre_one l s i j qi hj
      obtain ⟨p, hp⟩ : ∃ p, p = l.getD i ⟨0, 0, false, none0⟩ := ⟨_, rfl⟩
      rw [← hp] at hs0 hin hps hpo
      clear hp hc
      replace hin := Lib.hid hin
      replace hps := Lib.hid hps
      replace hpo := Lib.hid hpo
      go_wp2_with (first
        | (at_make; refine wpList_make_full wr rfl (.tmp 23) (.tmp 23) 50 rfl w.heap.size 4 it (.bool false) 1 Try.underlying50 hi.out hz0.out hz1 .i64 .i64 N N N rfl rfl rfl rfl hb2.out hb3.out hle ?_; intro w1 ho1 hg1; (have hO7 : Own w1 w.heap.size 4 1 (some ⟨wr.heap.size, 0, none⟩) N N (rowB (part l s i 0) N) := by (rw [← part_start l s i N, ← made_false]; exact ho1)))
        | fail)
      have hO5 := hO.grown0 hg1
      have hg5 := gb_trans hg hg1
      have hne : g ≠ wr.heap.size := by omega
      have hs1 := World.grownBy.cell hg1 hs0 (by simp)
      have hin1 : Hid (∀ ch, ch < 256 → w1.cell? ⟨gp, off + i * 257 + 1 + ch, none⟩ = some (.bool (fits p ch))) := Lib.hid fun ch hch => World.grownBy.cell hg1 (hin.out ch hch) (by simp)
      have hgp : gp < w.heap.size := by omega
      clear hs0 hin
      go_loopw [8] (fun v8 wi => ∃ j : Nat, v8 = .int .i64 j ∧ j ≤ N ∧ Own wi w.heap.size 4 1 (some ⟨wr.heap.size, 0, none⟩) N N (rowB (part l s i j) N) ∧ Own wi w.heap.size 4 1 (some ⟨g, 0, none⟩) N N (rowB (pre l s i) N) ∧ w.grownBy wi none ∧
          wi.cell? ⟨gp, off + i * 257, none⟩ = some (.bool (p.kind == 2)) ∧ Hid (∀ ch, ch < 256 → wi.cell? ⟨gp, off + i * 257 + 1 + ch, none⟩ = some (.bool (fits p ch))))
        (fun v8 _ => N - (intOf v8).toNat)
      case atStart => exact ⟨0, rfl, by omega, hO7, hO5, hg5, hs1, hin1⟩
      case round =>
        obtain ⟨j, rfl, hjN, hP7, hP5, hgj, hsj, hinj⟩ := hrel
        clear hO7 hO5 hg5 hs1 hin1
        by_cases hje : N ≤ j
        · have hji : ¬ ((j : Int) ≤ (s.length : Int)) := by omega
          have hjq : j = N := by omega
          subst hjq
          rw [part_end] at hP7
          go_wp2_with fail
          go_roundw
          case rel => exact ⟨i + 1, _, rfl, by go_num, by omega, hP7, hgj⟩
          case measure => first | (simp [intOf]; done) | (simp [intOf]; omega)
        · have hji : (j : Int) ≤ (s.length : Int) := by omega
          have hjn : (j : Int) < (N : Int) := by omega
          have qj : j ≤ s.length := by omega
          have k5 := hP5.cell rfl (j := j) (by omega) (rowB_get _ N j (by omega))
          have k7 := hP7.cell rfl (j := j) (by omega) (rowB_get _ N j (by omega))
          have f7 := hP7.free rfl j
          have hpart : part l s i j j = false := by unfold part; rw [if_neg (by omega)]
          rw [hpart] at k7
          have hstar := hps.out j qj
          have hone := hpo.out j qj
          obtain ⟨b5, hb5⟩ : ∃ b5, b5 = pre l s i j := ⟨_, rfl⟩
          rw [← hb5] at k5 hstar
          clear hpart
          replace hstar := Lib.hid hstar
          replace hone := Lib.hid hone
          replace hb5 := Lib.hid hb5
          by_cases hk2 : p.kind = 2
          · have hsk : (p.kind == 2) = true := by simpa using hk2
            rw [hsk] at hsj
            cases b5 with
            | true =>
              have hv : pre l s (i + 1) j = true := by rw [hstar.out hk2]; rfl
              replace hk2 := Lib.hid hk2
              have hOn := hP7.set j (.bool true)
              rw [part_step hv] at hOn
              have hO5n := hP5.other (p := ⟨_, j, none⟩) (by intro e; injection e with e; exact hne e) (.bool true)
              have hsn := cell_apart (v := .bool true) hsj hgp hle (j := j)
              have hinn : Hid (∀ ch, ch < 256 → _) := Lib.hid fun ch hch => cell_apart (v := .bool true) (hinj.out ch hch) hgp hle (j := j)
              replace hv := Lib.hid hv
              go_wp2_with fail
              go_roundw
              case rel => exact ⟨j + 1, by go_num, by omega, hOn, hO5n, gb_new_set hgj hle, hsn.trans (by rw [hsk]), hinn⟩
              case measure => first | (simp [intOf]; done) | (simp [intOf]; omega)
            | false =>
              rcases Nat.eq_zero_or_pos j with h0 | h0
              · have h0i : ¬ ((0 : Int) < (j : Int)) := by omega
                have h0n : decide (0 < j) = false := by simp; omega
                have h0m : ¬ (0 < j) := by omega
                have h0k : decide ((0 : Int) < (j : Int)) = false := by simp; omega
                have hv : pre l s (i + 1) j = false := by rw [hstar.out hk2]; simp [h0]
                replace h0 := Lib.hid h0
                replace hk2 := Lib.hid hk2
                have hOn := hP7.set j (.bool false)
                rw [part_step hv] at hOn
                have hO5n := hP5.other (p := ⟨_, j, none⟩) (by intro e; injection e with e; exact hne e) (.bool false)
                have hsn := cell_apart (v := .bool false) hsj hgp hle (j := j)
                have hinn : Hid (∀ ch, ch < 256 → _) := Lib.hid fun ch hch => cell_apart (v := .bool false) (hinj.out ch hch) hgp hle (j := j)
                replace hv := Lib.hid hv
                go_wp2_with fail
                go_roundw
                case rel => exact ⟨j + 1, by go_num, by omega, hOn, hO5n, gb_new_set hgj hle, hsn.trans (by rw [hsk]), hinn⟩
                case measure => first | (simp [intOf]; done) | (simp [intOf]; omega)
              · have h0i : (0 : Int) < (j : Int) := by omega
                obtain ⟨j1, hj1⟩ : ∃ j1, j = j1 + 1 := ⟨j - 1, by omega⟩
                have hj1i : (j : Int) - 1 = (j1 : Int) := by omega
                have hj1n : (j1 : Int) < (N : Int) := by omega
                have k71 := hP7.cell rfl (j := j1) (by omega) (rowB_get _ N j1 (by omega))
                have hpt : part l s i j j1 = pre l s (i + 1) j1 := by unfold part; rw [if_pos (by omega)]
                rw [hpt] at k71
                obtain ⟨b7, hb7⟩ : ∃ b7, b7 = pre l s (i + 1) j1 := ⟨_, rfl⟩
                rw [← hb7] at k71
                have hv : pre l s (i + 1) j = b7 := by rw [hstar.out hk2, show j - 1 = j1 by omega, ← hb7]; simp [h0]
                clear hpt hb7
                replace hj1 := Lib.hid hj1
                replace hk2 := Lib.hid hk2
                have hOn := hP7.set j (.bool b7)
                rw [part_step hv] at hOn
                have hO5n := hP5.other (p := ⟨_, j, none⟩) (by intro e; injection e with e; exact hne e) (.bool b7)
                have hsn := cell_apart (v := .bool b7) hsj hgp hle (j := j)
                have hinn : Hid (∀ ch, ch < 256 → _) := Lib.hid fun ch hch => cell_apart (v := .bool b7) (hinj.out ch hch) hgp hle (j := j)
                replace hv := Lib.hid hv
                go_wp2_with fail
                go_roundw
                case rel => exact ⟨j + 1, by go_num, by omega, hOn, hO5n, gb_new_set hgj hle, hsn.trans (by rw [hsk]), hinn⟩
                case measure => first | (simp [intOf]; done) | (simp [intOf]; omega)
          · have hsk : (p.kind == 2) = false := by simpa using hk2
            rw [hsk] at hsj
            rcases Nat.eq_zero_or_pos j with h0 | h0
            · have h0i : ¬ ((0 : Int) < (j : Int)) := by omega
              have h0n : decide (0 < j) = false := by simp; omega
              have h0m : ¬ (0 < j) := by omega
              have h0k : decide ((0 : Int) < (j : Int)) = false := by simp; omega
              have hv : pre l s (i + 1) j = false := by rw [hone.out hk2]; simp [h0]
              replace h0 := Lib.hid h0
              replace hk2 := Lib.hid hk2
              replace hv := Lib.hid hv
              have k7x := fun x : In (Later wr) => Later.cell k7 x
              have f7x := fun x : In (Later wr) => (hP7.grown0 x.ok).free rfl j
              go_wp2_with fail
              refine wp_region_in_tail 23 (Later wr) (by kernel_rfl) (by kernel_rfl) (Later.start _) ?_
              simp only [List.take_succ_cons, List.take_zero, List.drop_succ_cons, List.drop_zero]
              repeat (go_big_quiet_step (rfl))
              refine wpQuiet_nil ?_
              rintro _ ⟨x, rfl⟩
              have hOn := (hP7.grown0 x.ok).set j (.bool false)
              rw [part_step hv.out] at hOn
              have hO5n := (hP5.grown0 x.ok).other (p := ⟨_, j, none⟩) (by intro e; injection e with e; exact hne e) (.bool false)
              have hsn := cell_apart (v := .bool false) (World.grownBy.cell x.ok hsj (by simp)) hgp hle (j := j)
              have hinn : Hid (∀ ch, ch < 256 → _) := Lib.hid fun ch hch => cell_apart (v := .bool false) (World.grownBy.cell x.ok (hinj.out ch hch) (by simp)) hgp hle (j := j)
              go_wp2_with fail
              go_roundw
              case rel => exact ⟨j + 1, by go_num, by omega, hOn, hO5n, gb_new_set (gb_trans hgj x.ok) hle, hsn.trans (by rw [hsk]), hinn⟩
              case measure => first | (simp [intOf]; done) | (simp [intOf]; omega)
            · have h0i : (0 : Int) < (j : Int) := by omega
              obtain ⟨j1, hj1⟩ : ∃ j1, j = j1 + 1 := ⟨j - 1, by omega⟩
              have hj1i : (j : Int) - 1 = (j1 : Int) := by omega
              have hj1n : (j1 : Int) < (N : Int) := by omega
              have hj1s : (j1 : Int) < (s.length : Int) := by omega
              have qj1 : j1 < s.length := by omega
              have k51 := hP5.cell rfl (j := j1) (by omega) (rowB_get _ N j1 (by omega))
              obtain ⟨bq, hbq⟩ : ∃ bq, bq = pre l s i j1 := ⟨_, rfl⟩
              have hon := hone.out hk2
              rw [show j - 1 = j1 by omega, ← hbq, decide_eq_true h0, Bool.true_and] at hon
              rw [← hbq] at k51
              clear hbq
              have vc := hx.out j1 qj1
              have wc := hlt.out j1 qj1
              obtain ⟨ch, hch⟩ : ∃ ch, ch = s.getD j1 0 := ⟨_, rfl⟩
              rw [← hch] at vc wc hon
              clear hch
              have kin := hinj.out ch wc
              obtain ⟨bf, hbf⟩ : ∃ bf, bf = fits p ch := ⟨_, rfl⟩
              rw [← hbf] at kin hon
              have wci : (ch : Int) < 256 := by omega
              clear hbf
              replace hj1 := Lib.hid hj1
              cases bq with
              | true =>
                have hv : pre l s (i + 1) j = bf := by rw [hon]; rfl
                clear hon
                replace hk2 := Lib.hid hk2
                replace hv := Lib.hid hv
                have k7x := fun x : In (Later wr) => Later.cell k7 x
                have f7x := fun x : In (Later wr) => (hP7.grown0 x.ok).free rfl j
                have k51x := fun x : In (Later wr) => Later.cell k51 x
                have kinx := fun x : In (Later wr) => Later.cell kin x
                go_wp2_with fail
                refine wp_region_in_tail 23 (Later wr) (by kernel_rfl) (by kernel_rfl) (Later.start _) ?_
                simp only [List.take_succ_cons, List.take_zero, List.drop_succ_cons, List.drop_zero]
                repeat (go_big_quiet_step (rfl))
                refine wpQuiet_nil ?_
                rintro _ ⟨x, rfl⟩
                have hOn := (hP7.grown0 x.ok).set j (.bool bf)
                rw [part_step hv.out] at hOn
                have hO5n := (hP5.grown0 x.ok).other (p := ⟨_, j, none⟩) (by intro e; injection e with e; exact hne e) (.bool bf)
                have hsn := cell_apart (v := .bool bf) (World.grownBy.cell x.ok hsj (by simp)) hgp hle (j := j)
                have hinn : Hid (∀ ch, ch < 256 → _) := Lib.hid fun ch hch => cell_apart (v := .bool bf) (World.grownBy.cell x.ok (hinj.out ch hch) (by simp)) hgp hle (j := j)
                go_wp2_with fail
                go_roundw
                case rel => exact ⟨j + 1, by go_num, by omega, hOn, hO5n, gb_new_set (gb_trans hgj x.ok) hle, hsn.trans (by rw [hsk]), hinn⟩
                case measure => first | (simp [intOf]; done) | (simp [intOf]; omega)
              | false =>
                have hv : pre l s (i + 1) j = false := by rw [hon]; rfl
                clear hon
                replace hk2 := Lib.hid hk2
                replace hv := Lib.hid hv
                have k7x := fun x : In (Later wr) => Later.cell k7 x
                have f7x := fun x : In (Later wr) => (hP7.grown0 x.ok).free rfl j
                have k51x := fun x : In (Later wr) => Later.cell k51 x
                have kinx := fun x : In (Later wr) => Later.cell kin x
                go_wp2_with fail
                refine wp_region_in_tail 23 (Later wr) (by kernel_rfl) (by kernel_rfl) (Later.start _) ?_
                simp only [List.take_succ_cons, List.take_zero, List.drop_succ_cons, List.drop_zero]
                repeat (go_big_quiet_step (rfl))
                refine wpQuiet_nil ?_
                rintro _ ⟨x, rfl⟩
                have hOn := (hP7.grown0 x.ok).set j (.bool false)
                rw [part_step hv.out] at hOn
                have hO5n := (hP5.grown0 x.ok).other (p := ⟨_, j, none⟩) (by intro e; injection e with e; exact hne e) (.bool false)
                have hsn := cell_apart (v := .bool false) (World.grownBy.cell x.ok hsj (by simp)) hgp hle (j := j)
                have hinn : Hid (∀ ch, ch < 256 → _) := Lib.hid fun ch hch => cell_apart (v := .bool false) (World.grownBy.cell x.ok (hinj.out ch hch) (by simp)) hgp hle (j := j)
                go_wp2_with fail
                go_roundw
                case rel => exact ⟨j + 1, by go_num, by omega, hOn, hO5n, gb_new_set (gb_trans hgj x.ok) hle, hsn.trans (by rw [hsk]), hinn⟩
                case measure => first | (simp [intOf]; done) | (simp [intOf]; omega)
end Go.Proofs.Ytbnkdopigjdogaa
