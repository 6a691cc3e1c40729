/- The walk of glob's set. -/
import Derived.Test.YtbnkdopigjdogaaGC
namespace Go.Proofs.Ytbnkdopigjdogaa
set_option linter.unusedVariables false
set_option linter.unusedSimpArgs false
open Go.RowKit Go.Own Go.Glob

theorem size41 : (Try.prog.info? 41).map (·.size) = some 259 := (zero_of_info info41).2
theorem size41p (p : Part) : (Try.prog.info? 41).map (·.size) = some (pA p).size := by rw [pA_size]; exact size41
theorem pA_one (p : Part) : ∀ u ∈ (pA p).toList, u.oneCell' = true := fun u hu => pL_one p u (by simpa [pA] using hu)

theorem setGo_unfold (s : List Nat) (a : Nat) (b : Bool) (f : Nat → Bool) : setGo s (s.length + 1) a b f =
    if s.length ≤ a then none
    else if s.getD a 0 = 93 then (if b = true then some (f, a + 1) else none)
    else match single s a with
      | none => none
      | some (lo, a1) => match upper s lo a1 with
        | none => none
        | some (hi, a2) => if hi < lo then none else setGo s (s.length + 1) a2 true (fill f lo hi) := by
  rw [setGo]
  by_cases h0 : s.length ≤ a
  · rw [if_pos h0, if_pos h0]
  · rw [if_neg h0, if_neg h0]
    by_cases h1 : s.getD a 0 = 93
    · rw [if_pos h1, if_pos h1]
    · rw [if_neg h1, if_neg h1]
      cases hs : single s a with
      | none => rfl
      | some x =>
        obtain ⟨lo, a1⟩ := x
        have e1 := single_pos hs
        dsimp only
        cases hu : upper s lo a1 with
        | none => rfl
        | some y =>
          obtain ⟨hi, a2⟩ := y
          have e2 := upper_pos hu e1.2.1
          dsimp only
          rw [setGo_more s s.length (s.length + 1) a2 true (fill f lo hi) (by omega) (by omega)]

/-- Filled up to a byte. -/
def fillTo (f : Nat → Bool) (lo x : Nat) : Nat → Bool := fun c => f c || (decide (lo ≤ c) && decide (c < x))
theorem fillTo_start (f : Nat → Bool) (lo : Nat) : fillTo f lo lo = f := by
  funext c
  unfold fillTo
  have : (decide (lo ≤ c) && decide (c < lo)) = false := by
    rw [Bool.and_eq_false_iff, decide_eq_false_iff_not, decide_eq_false_iff_not]
    omega
  rw [this, Bool.or_false]
theorem fillTo_step (f : Nat → Bool) (lo x : Nat) (h : lo ≤ x) : (fun c => if c = x then true else fillTo f lo x c) = fillTo f lo (x + 1) := by
  funext c
  unfold fillTo
  by_cases hc : c = x
  · subst hc
    simp [h]
  · rw [if_neg hc]
    have : decide (c < x) = decide (c < x + 1) := by rw [decide_eq_decide]; omega
    rw [this]
theorem fillTo_end (f : Nat → Bool) (lo hi : Nat) : fillTo f lo (hi + 1) = fill f lo hi := by
  funext c
  unfold fillTo fill
  have : decide (c < hi + 1) = decide (c ≤ hi) := by rw [decide_eq_decide]; omega
  rw [this]

theorem pA_set (p : Part) (x : Nat) : (pA p).setIfInBounds (3 + x) (.bool true) = pA { p with set := fun c => if c = x then true else p.set c } := by
  unfold pA pL
  rw [List.setIfInBounds_toArray, Nat.add_comm 3 x]
  simp only [List.set_cons_succ]
  rw [boolL_set]

theorem pA_neg (p : Part) : (pA p).setIfInBounds 2 (.bool true) = pA { p with neg := true } := by
  unfold pA pL
  rw [List.setIfInBounds_toArray]
  rfl

/-- A set of these bytes. -/
def mkS (ng : Bool) : Option ((Nat → Bool) × Nat) → Option (Part × Nat)
  | none => none
  | some (f, k) => some (⟨3, 0, ng, f⟩, k)

theorem setS_mk (s : List Nat) : setS s = mkS (isNot s) (setGo s (s.length + 1) (if isNot s then 1 else 0) false none0) := by
  unfold setS
  show (match setGo s (s.length + 1) (if isNot s then 1 else 0) false none0 with | none => none | some (f, k) => some ((⟨3, 0, isNot s, f⟩ : Part), k)) = _
  cases setGo s (s.length + 1) (if isNot s then 1 else 0) false none0 <;> rfl

/-- What set answers. -/
def SetGives (w : World) (T : Option (Part × Nat)) (e : Ending) (w' : World) : Prop :=
  ∃ (p : Part) (z : Int), e = .returned (.tuple #[.agg (pA p), .int .i64 z]) ∧ ((T = none ∧ z = -1) ∨ ∃ k : Nat, T = some (p, k) ∧ z = (k : Int)) ∧ w.grownBy w' none

/-- Two blocks of the call's own. -/
def Two (w wi : World) (p q : Part) : Prop := Blk wi (w.heap.size + 1) (pA p) 41 ∧ Blk wi w.heap.size (pA q) 41 ∧ w.grownBy wi none

theorem single_plain {s : List Nat} {a : Nat} (h : a < s.length) (hb : s.getD a 0 ≠ 92) : single s a = some (s.getD a 0, a + 1) := by unfold single; rw [if_neg (by omega), if_neg hb]
theorem single_back {s : List Nat} {a : Nat} (h : a + 1 < s.length) (hb : s.getD a 0 = 92) : single s a = some (s.getD (a + 1) 0, a + 2) := by unfold single; rw [if_neg (by omega), if_pos hb, if_pos h]
theorem single_none {s : List Nat} {a : Nat} (h : s.length ≤ a + 1) (hb : s.getD a 0 = 92) : single s a = none := by
  unfold single
  split
  · rfl
  · rw [if_neg (by omega)]
theorem upper_no {s : List Nat} {lo a : Nat} (h : s.length ≤ a + 1 ∨ s.getD a 0 ≠ 45 ∨ s.getD (a + 1) 0 = 93) : upper s lo a = some (lo, a) := by
  unfold upper
  rw [if_neg]
  rintro ⟨h1, h2, h3⟩
  rcases h with h | h | h
  · omega
  · exact h h2
  · exact h3 h
theorem upper_yes {s : List Nat} {lo a : Nat} (h1 : a + 1 < s.length) (h2 : s.getD a 0 = 45) (h3 : s.getD (a + 1) 0 ≠ 93) : upper s lo a = single s (a + 1) := by
  unfold upper
  rw [if_pos ⟨h1, h2, h3⟩]

theorem gb_own_b {a b c : World} {g : Nat} (h : a.grownBy b none) (k : b.grownBy c (some g)) (hA : a.heap.size ≤ g) : a.grownBy c none :=
  ⟨k.os.trans h.os, k.tape.trans h.tape, k.output.trans h.output, Nat.le_trans h.size k.size,
    fun i hi _ => (k.block i (Nat.lt_of_lt_of_le hi h.size) (fun e => by injection e with e; omega)).trans (h.block i hi (by simp))⟩

set_option maxHeartbeats 6400000 in
set_option maxRecDepth 100000 in
theorem set13_any (s : List Nat) (w : World) (hs : ∀ v ∈ s, v < 256) (hl : s.length ≤ 100000) :
    Calls Try.prog 13 #[.string (strB s)] w (SetGives w (setS s)) := by
  have hz := strB_size s
  have hx := strB_get hs
  have hlt := fun i (h : i < s.length) => byte_lt hs h
  replace hx := Lib.hid (fun i (h : i < s.length) => hx i (by rw [hz]; exact h))
  replace hlt := Lib.hid hlt
  have hsl : s.length < 1000000 := by omega
  obtain ⟨T, hT⟩ : ∃ T, T = setS s := ⟨_, rfl⟩
  rw [← hT]
  obtain ⟨G, hG⟩ : ∃ G, G = setGo s (s.length + 1) (if isNot s then 1 else 0) false none0 := ⟨_, rfl⟩
  have hTG : T = mkS (isNot s) G := by rw [hT, hG]; exact setS_mk s
  clear hT
  obtain ⟨ng, hng⟩ : ∃ ng, ng = isNot s := ⟨_, rfl⟩
  rw [← hng] at hTG hG
  replace hTG := Lib.hid hTG
  have hng0 : ng = true → 0 < s.length ∧ s.getD 0 0 = 33 := by
    intro h
    rw [h] at hng
    unfold isNot at hng
    have := hng.symm
    simp only [Bool.and_eq_true, decide_eq_true_eq, beq_iff_eq] at this
    exact this
  have hng1 : ng = false → 0 < s.length → s.getD 0 0 ≠ 33 := by
    intro h h0 e
    rw [h] at hng
    unfold isNot at hng
    rw [e] at hng
    simp [h0] at hng
  replace hng := Lib.hid hng
  by_cases h33 : ng = true
  · obtain ⟨h0, h33v⟩ := hng0 h33
    have h0i : (0 : Int) < (s.length : Int) := by omega
    have v0 := hx.out 0 h0
    rw [h33v] at v0
    clear hng0 hng1
    subst h33
    rw [if_pos rfl] at hG
    replace hG := Lib.hid hG
    go_enter Try.func13, Try.ntmps13
    go_wp2_with (first
      | (refine wpList_alloc_blk rfl 41 rfl zero41 ?_)
      | (refine wpList_build_blk rfl 41 _ rfl (fun w => build41_kind 3 w) ?_)
      | (refine wpList_store_blk rfl 41 (.tmp 4) (.tmp 10) rfl _ rfl rfl (Blk.new (w.alloc (.cells (pA ⟨0, 0, false, none0⟩) 41)) (pA ⟨0, 0, false, none0⟩) 41) (size41p _) (by rw [pA_size, pA_size]) (pA_one _) ?_; intro w1 hB1 hg1; (have hB1' : Blk w1 (w.heap.size + 1) (pA ⟨3, 0, false, none0⟩) 41 := by (have := hB1; rw [World.size_alloc] at this; exact this)); (have hR1 := ((Blk.new w (pA ⟨0, 0, false, none0⟩) 41).alloc (.cells (pA ⟨0, 0, false, none0⟩) 41)).grown hg1 (by simp)); (have n2 := hB1'.free 2); (have m2 := pblk_neg hB1'); (have hgg : w.grownBy w1 none := gb_own_b (gb_alloc (gb_alloc (gb_refl w none) _) _) hg1 (by simp)))
      | fail)
    have hBn0 := hB1'.set 2 (.bool true)
    rw [pA_neg] at hBn0
    have hRn := hR1.other (v := .bool true) (i := 2) (b := w.heap.size + 1) (by omega)
    have hgn := gb_new_set (p := ⟨w.heap.size + 1, 2, none⟩) (v := .bool true) hgg (by show w.heap.size ≤ w.heap.size + 1; omega)
    clear v0 hB1 hB1' hR1 hgg n2 m2 hg1
    obtain ⟨ng, hngq⟩ : ∃ ng, ng = true := ⟨_, rfl⟩
    rw [← hngq] at hTG
    have hBn := hBn0
    rw [show ({ (⟨3, 0, false, none0⟩ : Part) with neg := true } : Part) = ⟨3, 0, ng, none0⟩ by rw [hngq]] at hBn
    clear hBn0
    replace hngq := Lib.hid hngq
    go_loopw [5, 6] (fun v5 v6 wi => ∃ (a : Nat) (sm : Bool) (f : Nat → Bool), v5 = .int .i64 a ∧ v6 = .bool sm ∧ a ≤ s.length ∧ Hid (G = setGo s (s.length + 1) a sm f) ∧ Two w wi ⟨3, 0, ng, f⟩ ⟨0, 0, false, none0⟩)
      (fun v5 _ _ => s.length - (intOf v5).toNat)
    case atStart => exact ⟨1, false, none0, rfl, rfl, by omega, hG, hBn, hRn, hgn⟩
    case round =>
      obtain ⟨a, sm, f, rfl, rfl, ha, hGa, hBi, hRi, hgi⟩ := hrel
      clear hBn hRn hgn hG
      have hun := hGa.out
      rw [setGo_unfold] at hun
      by_cases hal : s.length ≤ a
      · have hali : ¬ ((a : Int) < (s.length : Int)) := by omega
        have hGn := Lib.hid (hun.trans (if_pos hal))
        clear hun
        go_wp2_with (first
          | (refine wpList_load_blk rfl 41 (.tmp 4) rfl _ rfl hBi Try.underlying41 rfl (size41p _) ?_)
          | (refine wpList_store_blk rfl 41 (.tmp 2) (.tmp 113) rfl _ rfl rfl hRi (size41p _) (by rw [pA_size, pA_size]) (pA_one _) ?_; intro w9 hR9 hg9)
          | fail)
        refine bodyPost_ret (res_struct2 (p := 2) (u := 3) (v := .int .i64 (-1)) rfl hR9 rfl rfl Try.underlying41 rfl (size41p _)) rfl ?_
        exact (⟨_, _, rfl, .inl ⟨by rw [hTG.out, hGn.out]; rfl, rfl⟩, gb_own_b hgi hg9 (Nat.le_refl _)⟩ : SetGives w T _ _)
      · have hali : (a : Int) < (s.length : Int) := by omega
        rw [if_neg hal] at hun
        have va := hx.out a (by omega)
        have wa := hlt.out a (by omega)
        have hsp := @single_plain s a
        have hsb := @single_back s a
        have hsn := @single_none s a
        obtain ⟨c0, hc0⟩ : ∃ c0, c0 = s.getD a 0 := ⟨_, rfl⟩
        rw [← hc0] at va wa hun hsp hsb hsn
        clear hc0
        obtain ⟨p1, hp1⟩ : ∃ p1, p1 = a + 1 := ⟨_, rfl⟩
        have hp1i : (a : Int) + 1 = (p1 : Int) := by omega
        by_cases h93 : c0 = 93
        · subst h93
          rw [if_pos rfl] at hun
          cases sm with
          | true =>
            rw [if_pos rfl, ← hp1] at hun
            have hGs := Lib.hid hun
            clear hun hsp hsb hsn hp1
            go_wp2_with (first
              | (refine wpList_load_blk rfl 41 (.tmp 4) rfl _ rfl hBi Try.underlying41 rfl (size41p _) ?_)
              | (refine wpList_store_blk rfl 41 (.tmp 2) (.tmp 33) rfl _ rfl rfl hRi (size41p _) (by rw [pA_size, pA_size]) (pA_one _) ?_; intro w9 hR9 hg9)
              | fail)
            refine bodyPost_ret (res_struct2 (p := 2) (u := 3) (v := .int .i64 (p1 : Nat)) rfl hR9 rfl rfl Try.underlying41 rfl (size41p _)) rfl ?_
            exact (⟨_, _, rfl, .inr ⟨p1, by rw [hTG.out, hGs.out]; rfl, rfl⟩, gb_own_b hgi hg9 (Nat.le_refl _)⟩ : SetGives w T _ _)
          | false =>
            rw [if_neg (by simp)] at hun
            have hGn := Lib.hid hun
            clear hun hsp hsb hsn hp1
            go_wp2_with (first
              | (refine wpList_load_blk rfl 41 (.tmp 4) rfl _ rfl hBi Try.underlying41 rfl (size41p _) ?_)
              | (refine wpList_store_blk rfl 41 (.tmp 2) (.tmp 58) rfl _ rfl rfl hRi (size41p _) (by rw [pA_size, pA_size]) (pA_one _) ?_; intro w9 hR9 hg9)
              | fail)
            refine bodyPost_ret (res_struct2 (p := 2) (u := 3) (v := .int .i64 (-1)) rfl hR9 rfl rfl Try.underlying41 rfl (size41p _)) rfl ?_
            exact (⟨_, _, rfl, .inl ⟨by rw [hTG.out, hGn.out]; rfl, rfl⟩, gb_own_b hgi hg9 (Nat.le_refl _)⟩ : SetGives w T _ _)
        · rw [if_neg h93] at hun
          have h93i : ((c0 : Int) == 93) = false := by simp; omega
          by_cases h92 : c0 = 92
          · subst h92
            by_cases hend : s.length ≤ p1
            · have hei : ¬ ((p1 : Int) < (s.length : Int)) := by omega
              rw [hsn (by omega) rfl] at hun
              have hGn := Lib.hid hun
              clear hun hsp hsb hsn hp1
              go_wp2_with (first
                | (refine wpList_load_blk rfl 41 (.tmp 4) rfl _ rfl hBi Try.underlying41 rfl (size41p _) ?_)
                | (refine wpList_store_blk rfl 41 (.tmp 2) (.tmp 58) rfl _ rfl rfl hRi (size41p _) (by rw [pA_size, pA_size]) (pA_one _) ?_; intro w9 hR9 hg9)
                | fail)
              refine bodyPost_ret (res_struct2 (p := 2) (u := 3) (v := .int .i64 (-1)) rfl hR9 rfl rfl Try.underlying41 rfl (size41p _)) rfl ?_
              exact (⟨_, _, rfl, .inl ⟨by rw [hTG.out, hGn.out]; rfl, rfl⟩, gb_own_b hgi hg9 (Nat.le_refl _)⟩ : SetGives w T _ _)
            · have hei : (p1 : Int) < (s.length : Int) := by omega
              rw [hsb (by omega) rfl] at hun
              have vp := hx.out p1 (by omega)
              have hc256 := hlt.out p1 (by omega)
              obtain ⟨a1, ha1q⟩ : ∃ a1, a1 = p1 + 1 := ⟨_, rfl⟩
              have ha1j : (p1 : Int) + 1 = (a1 : Int) := by omega
              have haa : a < a1 := by omega
              have ha1 : a1 ≤ s.length := by omega
              obtain ⟨c, hcq⟩ : ∃ c, c = s.getD p1 0 := ⟨_, rfl⟩
              rw [← hp1, ← hcq, show a + 2 = a1 by omega] at hun
              rw [← hcq] at vp hc256
              dsimp only at hun
              have hG1 := Lib.hid hun
              clear hun hsp hsb hsn hcq ha1q hp1
              obtain ⟨b1, hb1⟩ : ∃ b1, b1 = a1 + 1 := ⟨_, rfl⟩
              have hb1i : (a1 : Int) + 1 = (b1 : Int) := by omega
              by_cases u0 : s.length ≤ b1
              · have u0i : ¬ ((b1 : Int) < (s.length : Int)) := by omega
                clear hb1
                have hE : upper s c a1 = some (c, a1) := upper_no (.inl (by omega))
                have hG2 : Hid (G = if c < c then none else setGo s (s.length + 1) a1 true (fill f c c)) := Lib.hid (hG1.out.trans (by simp only [hE]))
                clear hE
                by_cases hlth : c < c
                · have hlti : (c : Int) < (c : Int) := by omega
                  have hGn := Lib.hid (hG2.out.trans (if_pos hlth))
                  go_wp2_with (first
                    | (refine wpList_load_blk rfl 41 (.tmp 4) rfl _ rfl hBi Try.underlying41 rfl (size41p _) ?_)
                    | (refine wpList_store_blk rfl 41 (.tmp 2) (.tmp 101) rfl _ rfl rfl hRi (size41p _) (by rw [pA_size, pA_size]) (pA_one _) ?_; intro w9 hR9 hg9)
                    | fail)
                  refine bodyPost_ret (res_struct2 (p := 2) (u := 3) (v := .int .i64 (-1)) rfl hR9 rfl rfl Try.underlying41 rfl (size41p _)) rfl ?_
                  exact (⟨_, _, rfl, .inl ⟨by rw [hTG.out, hGn.out]; rfl, rfl⟩, gb_own_b hgi hg9 (Nat.le_refl _)⟩ : SetGives w T _ _)
                · have hlti : ¬ ((c : Int) < (c : Int)) := by omega
                  have hG3 := Lib.hid (hG2.out.trans (if_neg hlth))
                  have hc5 : (c : Int) < 256 := by omega
                  go_wp2_with fail
                  go_loopw [9] (fun v9 wi => ∃ x : Nat, v9 = .int .i64 x ∧ c ≤ x ∧ x ≤ c + 1 ∧ Two w wi ⟨3, 0, ng, fillTo f c x⟩ ⟨0, 0, false, none0⟩)
                    (fun v9 _ => 300 - (intOf v9).toNat)
                  case atStart => exact ⟨c, rfl, Nat.le_refl _, by omega, by rw [fillTo_start]; exact ⟨hBi, hRi, hgi⟩⟩
                  case round =>
                    obtain ⟨x, rfl, hcx, hxh, hBx, hRx, hgx⟩ := hrel
                    by_cases hxl : x ≤ c
                    · have hxi : (x : Int) ≤ (c : Int) := by omega
                      have hx5 : (x : Int) < 256 := by omega
                      have kx := pblk_set hBx x (by omega)
                      have fx := hBx.free (3 + x)
                      have hst := pA_set ⟨3, 0, ng, fillTo f c x⟩ x
                      dsimp only at hst
                      rw [fillTo_step f c x hcx] at hst
                      have hBn := hBx.set (3 + x) (.bool true)
                      rw [hst] at hBn
                      clear hst
                      go_wp2_with fail
                      go_roundw
                      case rel => exact ⟨x + 1, by go_num, by omega, by omega, hBn, hRx.other (by omega), gb_new_set hgx (by show w.heap.size ≤ w.heap.size + 1; omega)⟩
                      case measure => first | (simp [intOf]; done) | (simp [intOf]; omega)
                    · have hxe : x = c + 1 := by omega
                      subst hxe
                      rw [fillTo_end] at hBx
                      have hxi : ¬ (((c + 1 : Nat) : Int) ≤ (c : Int)) := by omega
                      go_wp2_with fail
                      go_roundw
                      case rel => exact ⟨a1, true, _, rfl, rfl, by omega, hG3, hBx, hRx, hgx⟩
                      case measure => first | (simp [intOf]; done) | (simp [intOf]; omega)
              · have u0i : (b1 : Int) < (s.length : Int) := by omega
                have ha1i : (a1 : Int) < (s.length : Int) := by omega
                have qa1 : a1 < s.length := by omega
                have qb1 : b1 < s.length := by omega
                have va1 := hx.out a1 qa1
                have vb1 := hx.out b1 qb1
                have wa1 := hlt.out a1 (by omega)
                have wb1 := hlt.out b1 (by omega)
                have hup1 := @upper_no s c a1
                have hup2 := @upper_yes s c a1
                have hsp := @single_plain s b1
                have hsb := @single_back s b1
                have hsn := @single_none s b1
                rw [← hb1] at hup1 hup2
                clear hb1
                replace hup1 := Lib.hid hup1
                replace hup2 := Lib.hid hup2
                replace hsp := Lib.hid hsp
                replace hsb := Lib.hid hsb
                replace hsn := Lib.hid hsn
                obtain ⟨y, hy⟩ : ∃ y, y = s.getD a1 0 := ⟨_, rfl⟩
                obtain ⟨z, hzz⟩ : ∃ z, z = s.getD b1 0 := ⟨_, rfl⟩
                rw [← hy] at va1 wa1
                rw [← hzz] at vb1 wb1
                replace hy := Lib.hid hy
                replace hzz := Lib.hid hzz
                by_cases u1 : y = 45
                · subst u1
                  by_cases u2 : z = 93
                  · subst u2
                    have hE : upper s c a1 = some (c, a1) := hup1.out (.inr (.inr hzz.out.symm))
                    have hG2 : Hid (G = if c < c then none else setGo s (s.length + 1) a1 true (fill f c c)) := Lib.hid (hG1.out.trans (by simp only [hE]))
                    clear hE
                    by_cases hlth : c < c
                    · have hlti : (c : Int) < (c : Int) := by omega
                      have hGn := Lib.hid (hG2.out.trans (if_pos hlth))
                      go_wp2_with (first
                        | (refine wpList_load_blk rfl 41 (.tmp 4) rfl _ rfl hBi Try.underlying41 rfl (size41p _) ?_)
                        | (refine wpList_store_blk rfl 41 (.tmp 2) (.tmp 101) rfl _ rfl rfl hRi (size41p _) (by rw [pA_size, pA_size]) (pA_one _) ?_; intro w9 hR9 hg9)
                        | fail)
                      refine bodyPost_ret (res_struct2 (p := 2) (u := 3) (v := .int .i64 (-1)) rfl hR9 rfl rfl Try.underlying41 rfl (size41p _)) rfl ?_
                      exact (⟨_, _, rfl, .inl ⟨by rw [hTG.out, hGn.out]; rfl, rfl⟩, gb_own_b hgi hg9 (Nat.le_refl _)⟩ : SetGives w T _ _)
                    · have hlti : ¬ ((c : Int) < (c : Int)) := by omega
                      have hG3 := Lib.hid (hG2.out.trans (if_neg hlth))
                      have hc5 : (c : Int) < 256 := by omega
                      go_wp2_with fail
                      go_loopw [9] (fun v9 wi => ∃ x : Nat, v9 = .int .i64 x ∧ c ≤ x ∧ x ≤ c + 1 ∧ Two w wi ⟨3, 0, ng, fillTo f c x⟩ ⟨0, 0, false, none0⟩)
                        (fun v9 _ => 300 - (intOf v9).toNat)
                      case atStart => exact ⟨c, rfl, Nat.le_refl _, by omega, by rw [fillTo_start]; exact ⟨hBi, hRi, hgi⟩⟩
                      case round =>
                        obtain ⟨x, rfl, hcx, hxh, hBx, hRx, hgx⟩ := hrel
                        by_cases hxl : x ≤ c
                        · have hxi : (x : Int) ≤ (c : Int) := by omega
                          have hx5 : (x : Int) < 256 := by omega
                          have kx := pblk_set hBx x (by omega)
                          have fx := hBx.free (3 + x)
                          have hst := pA_set ⟨3, 0, ng, fillTo f c x⟩ x
                          dsimp only at hst
                          rw [fillTo_step f c x hcx] at hst
                          have hBn := hBx.set (3 + x) (.bool true)
                          rw [hst] at hBn
                          clear hst
                          go_wp2_with fail
                          go_roundw
                          case rel => exact ⟨x + 1, by go_num, by omega, by omega, hBn, hRx.other (by omega), gb_new_set hgx (by show w.heap.size ≤ w.heap.size + 1; omega)⟩
                          case measure => first | (simp [intOf]; done) | (simp [intOf]; omega)
                        · have hxe : x = c + 1 := by omega
                          subst hxe
                          rw [fillTo_end] at hBx
                          have hxi : ¬ (((c + 1 : Nat) : Int) ≤ (c : Int)) := by omega
                          go_wp2_with fail
                          go_roundw
                          case rel => exact ⟨a1, true, _, rfl, rfl, by omega, hG3, hBx, hRx, hgx⟩
                          case measure => first | (simp [intOf]; done) | (simp [intOf]; omega)
                  · have u2i : ((z : Int) == 93) = false := by simp; omega
                    have u2j : ((z : Int) != 93) = true := by simp; omega
                    have hU : Hid (upper s c a1 = single s b1) := Lib.hid (hup2.out (by omega) hy.out.symm (by rw [← hzz.out]; exact u2))
                    obtain ⟨b2, hb2⟩ : ∃ b2, b2 = a1 + 2 := ⟨_, rfl⟩
                    have hb2i : (a1 : Int) + 2 = (b2 : Int) := by omega
                    clear hb2
                    by_cases u3 : z = 92
                    · subst u3
                      by_cases u4 : s.length ≤ b2
                      · have u4i : (s.length : Int) ≤ (b2 : Int) := by omega
                        have hE : upper s c a1 = none := hU.out.trans (hsn.out (by omega) hzz.out.symm)
                        have hGn : Hid (G = none) := Lib.hid (hG1.out.trans (by simp only [hE]))
                        clear hE hU
                        go_wp2_with (first
                          | (refine wpList_load_blk rfl 41 (.tmp 4) rfl _ rfl hBi Try.underlying41 rfl (size41p _) ?_)
                          | (refine wpList_store_blk rfl 41 (.tmp 2) (.tmp 92) rfl _ rfl rfl hRi (size41p _) (by rw [pA_size, pA_size]) (pA_one _) ?_; intro w9 hR9 hg9)
                          | fail)
                        refine bodyPost_ret (res_struct2 (p := 2) (u := 3) (v := .int .i64 (-1)) rfl hR9 rfl rfl Try.underlying41 rfl (size41p _)) rfl ?_
                        exact (⟨_, _, rfl, .inl ⟨by rw [hTG.out, hGn.out]; rfl, rfl⟩, gb_own_b hgi hg9 (Nat.le_refl _)⟩ : SetGives w T _ _)
                      · have u4i : ¬ ((s.length : Int) ≤ (b2 : Int)) := by omega
                        have u4j : (b2 : Int) < (s.length : Int) := by omega
                        have qb2 : b2 < s.length := by omega
                        obtain ⟨b3, hb3⟩ : ∃ b3, b3 = b2 + 1 := ⟨_, rfl⟩
                        have hb3i : (b2 : Int) + 1 = (b3 : Int) := by omega
                        have vb2 := hx.out b2 qb2
                        have wb2 := hlt.out b2 (by omega)
                        obtain ⟨hi, hhi⟩ : ∃ hi, hi = s.getD b2 0 := ⟨_, rfl⟩
                        have hE := hU.out.trans (hsb.out (by omega) hzz.out.symm)
                        rw [show b1 + 1 = b2 by omega, ← hhi, show b1 + 2 = b3 by omega] at hE
                        have hG2 : Hid (G = if hi < c then none else setGo s (s.length + 1) b3 true (fill f c hi)) := Lib.hid (hG1.out.trans (by simp only [hE]))
                        rw [← hhi] at vb2 wb2
                        clear hE hU hhi hb3
                        by_cases hlth : hi < c
                        · have hlti : (hi : Int) < (c : Int) := by omega
                          have hGn := Lib.hid (hG2.out.trans (if_pos hlth))
                          go_wp2_with (first
                            | (refine wpList_load_blk rfl 41 (.tmp 4) rfl _ rfl hBi Try.underlying41 rfl (size41p _) ?_)
                            | (refine wpList_store_blk rfl 41 (.tmp 2) (.tmp 101) rfl _ rfl rfl hRi (size41p _) (by rw [pA_size, pA_size]) (pA_one _) ?_; intro w9 hR9 hg9)
                            | fail)
                          refine bodyPost_ret (res_struct2 (p := 2) (u := 3) (v := .int .i64 (-1)) rfl hR9 rfl rfl Try.underlying41 rfl (size41p _)) rfl ?_
                          exact (⟨_, _, rfl, .inl ⟨by rw [hTG.out, hGn.out]; rfl, rfl⟩, gb_own_b hgi hg9 (Nat.le_refl _)⟩ : SetGives w T _ _)
                        · have hlti : ¬ ((hi : Int) < (c : Int)) := by omega
                          have hG3 := Lib.hid (hG2.out.trans (if_neg hlth))
                          have hc5 : (c : Int) < 256 := by omega
                          go_wp2_with fail
                          go_loopw [9] (fun v9 wi => ∃ x : Nat, v9 = .int .i64 x ∧ c ≤ x ∧ x ≤ hi + 1 ∧ Two w wi ⟨3, 0, ng, fillTo f c x⟩ ⟨0, 0, false, none0⟩)
                            (fun v9 _ => 300 - (intOf v9).toNat)
                          case atStart => exact ⟨c, rfl, Nat.le_refl _, by omega, by rw [fillTo_start]; exact ⟨hBi, hRi, hgi⟩⟩
                          case round =>
                            obtain ⟨x, rfl, hcx, hxh, hBx, hRx, hgx⟩ := hrel
                            by_cases hxl : x ≤ hi
                            · have hxi : (x : Int) ≤ (hi : Int) := by omega
                              have hx5 : (x : Int) < 256 := by omega
                              have kx := pblk_set hBx x (by omega)
                              have fx := hBx.free (3 + x)
                              have hst := pA_set ⟨3, 0, ng, fillTo f c x⟩ x
                              dsimp only at hst
                              rw [fillTo_step f c x hcx] at hst
                              have hBn := hBx.set (3 + x) (.bool true)
                              rw [hst] at hBn
                              clear hst
                              go_wp2_with fail
                              go_roundw
                              case rel => exact ⟨x + 1, by go_num, by omega, by omega, hBn, hRx.other (by omega), gb_new_set hgx (by show w.heap.size ≤ w.heap.size + 1; omega)⟩
                              case measure => first | (simp [intOf]; done) | (simp [intOf]; omega)
                            · have hxe : x = hi + 1 := by omega
                              subst hxe
                              rw [fillTo_end] at hBx
                              have hxi : ¬ (((hi + 1 : Nat) : Int) ≤ (hi : Int)) := by omega
                              go_wp2_with fail
                              go_roundw
                              case rel => exact ⟨b3, true, _, rfl, rfl, by omega, hG3, hBx, hRx, hgx⟩
                              case measure => first | (simp [intOf]; done) | (simp [intOf]; omega)
                    · have u3i : ((z : Int) == 92) = false := by simp; omega
                      have hE := hU.out.trans (hsp.out (by omega) (by rw [← hzz.out]; exact u3))
                      rw [← hzz.out, show b1 + 1 = b2 by omega] at hE
                      have hG2 : Hid (G = if z < c then none else setGo s (s.length + 1) b2 true (fill f c z)) := Lib.hid (hG1.out.trans (by simp only [hE]))
                      clear hE hU
                      by_cases hlth : z < c
                      · have hlti : (z : Int) < (c : Int) := by omega
                        have hGn := Lib.hid (hG2.out.trans (if_pos hlth))
                        go_wp2_with (first
                          | (refine wpList_load_blk rfl 41 (.tmp 4) rfl _ rfl hBi Try.underlying41 rfl (size41p _) ?_)
                          | (refine wpList_store_blk rfl 41 (.tmp 2) (.tmp 101) rfl _ rfl rfl hRi (size41p _) (by rw [pA_size, pA_size]) (pA_one _) ?_; intro w9 hR9 hg9)
                          | fail)
                        refine bodyPost_ret (res_struct2 (p := 2) (u := 3) (v := .int .i64 (-1)) rfl hR9 rfl rfl Try.underlying41 rfl (size41p _)) rfl ?_
                        exact (⟨_, _, rfl, .inl ⟨by rw [hTG.out, hGn.out]; rfl, rfl⟩, gb_own_b hgi hg9 (Nat.le_refl _)⟩ : SetGives w T _ _)
                      · have hlti : ¬ ((z : Int) < (c : Int)) := by omega
                        have hG3 := Lib.hid (hG2.out.trans (if_neg hlth))
                        have hc5 : (c : Int) < 256 := by omega
                        go_wp2_with fail
                        go_loopw [9] (fun v9 wi => ∃ x : Nat, v9 = .int .i64 x ∧ c ≤ x ∧ x ≤ z + 1 ∧ Two w wi ⟨3, 0, ng, fillTo f c x⟩ ⟨0, 0, false, none0⟩)
                          (fun v9 _ => 300 - (intOf v9).toNat)
                        case atStart => exact ⟨c, rfl, Nat.le_refl _, by omega, by rw [fillTo_start]; exact ⟨hBi, hRi, hgi⟩⟩
                        case round =>
                          obtain ⟨x, rfl, hcx, hxh, hBx, hRx, hgx⟩ := hrel
                          by_cases hxl : x ≤ z
                          · have hxi : (x : Int) ≤ (z : Int) := by omega
                            have hx5 : (x : Int) < 256 := by omega
                            have kx := pblk_set hBx x (by omega)
                            have fx := hBx.free (3 + x)
                            have hst := pA_set ⟨3, 0, ng, fillTo f c x⟩ x
                            dsimp only at hst
                            rw [fillTo_step f c x hcx] at hst
                            have hBn := hBx.set (3 + x) (.bool true)
                            rw [hst] at hBn
                            clear hst
                            go_wp2_with fail
                            go_roundw
                            case rel => exact ⟨x + 1, by go_num, by omega, by omega, hBn, hRx.other (by omega), gb_new_set hgx (by show w.heap.size ≤ w.heap.size + 1; omega)⟩
                            case measure => first | (simp [intOf]; done) | (simp [intOf]; omega)
                          · have hxe : x = z + 1 := by omega
                            subst hxe
                            rw [fillTo_end] at hBx
                            have hxi : ¬ (((z + 1 : Nat) : Int) ≤ (z : Int)) := by omega
                            go_wp2_with fail
                            go_roundw
                            case rel => exact ⟨b2, true, _, rfl, rfl, by omega, hG3, hBx, hRx, hgx⟩
                            case measure => first | (simp [intOf]; done) | (simp [intOf]; omega)
                · have u1i : ((y : Int) == 45) = false := by simp; omega
                  have hE : upper s c a1 = some (c, a1) := hup1.out (.inr (.inl (by rw [← hy.out]; exact u1)))
                  have hG2 : Hid (G = if c < c then none else setGo s (s.length + 1) a1 true (fill f c c)) := Lib.hid (hG1.out.trans (by simp only [hE]))
                  clear hE
                  by_cases hlth : c < c
                  · have hlti : (c : Int) < (c : Int) := by omega
                    have hGn := Lib.hid (hG2.out.trans (if_pos hlth))
                    go_wp2_with (first
                      | (refine wpList_load_blk rfl 41 (.tmp 4) rfl _ rfl hBi Try.underlying41 rfl (size41p _) ?_)
                      | (refine wpList_store_blk rfl 41 (.tmp 2) (.tmp 101) rfl _ rfl rfl hRi (size41p _) (by rw [pA_size, pA_size]) (pA_one _) ?_; intro w9 hR9 hg9)
                      | fail)
                    refine bodyPost_ret (res_struct2 (p := 2) (u := 3) (v := .int .i64 (-1)) rfl hR9 rfl rfl Try.underlying41 rfl (size41p _)) rfl ?_
                    exact (⟨_, _, rfl, .inl ⟨by rw [hTG.out, hGn.out]; rfl, rfl⟩, gb_own_b hgi hg9 (Nat.le_refl _)⟩ : SetGives w T _ _)
                  · have hlti : ¬ ((c : Int) < (c : Int)) := by omega
                    have hG3 := Lib.hid (hG2.out.trans (if_neg hlth))
                    have hc5 : (c : Int) < 256 := by omega
                    go_wp2_with fail
                    go_loopw [9] (fun v9 wi => ∃ x : Nat, v9 = .int .i64 x ∧ c ≤ x ∧ x ≤ c + 1 ∧ Two w wi ⟨3, 0, ng, fillTo f c x⟩ ⟨0, 0, false, none0⟩)
                      (fun v9 _ => 300 - (intOf v9).toNat)
                    case atStart => exact ⟨c, rfl, Nat.le_refl _, by omega, by rw [fillTo_start]; exact ⟨hBi, hRi, hgi⟩⟩
                    case round =>
                      obtain ⟨x, rfl, hcx, hxh, hBx, hRx, hgx⟩ := hrel
                      by_cases hxl : x ≤ c
                      · have hxi : (x : Int) ≤ (c : Int) := by omega
                        have hx5 : (x : Int) < 256 := by omega
                        have kx := pblk_set hBx x (by omega)
                        have fx := hBx.free (3 + x)
                        have hst := pA_set ⟨3, 0, ng, fillTo f c x⟩ x
                        dsimp only at hst
                        rw [fillTo_step f c x hcx] at hst
                        have hBn := hBx.set (3 + x) (.bool true)
                        rw [hst] at hBn
                        clear hst
                        go_wp2_with fail
                        go_roundw
                        case rel => exact ⟨x + 1, by go_num, by omega, by omega, hBn, hRx.other (by omega), gb_new_set hgx (by show w.heap.size ≤ w.heap.size + 1; omega)⟩
                        case measure => first | (simp [intOf]; done) | (simp [intOf]; omega)
                      · have hxe : x = c + 1 := by omega
                        subst hxe
                        rw [fillTo_end] at hBx
                        have hxi : ¬ (((c + 1 : Nat) : Int) ≤ (c : Int)) := by omega
                        go_wp2_with fail
                        go_roundw
                        case rel => exact ⟨a1, true, _, rfl, rfl, by omega, hG3, hBx, hRx, hgx⟩
                        case measure => first | (simp [intOf]; done) | (simp [intOf]; omega)
          · have h92i : ((c0 : Int) == 92) = false := by simp; omega
            rw [hsp (by omega) h92, ← hp1] at hun
            dsimp only at hun
            have hG1 := Lib.hid hun
            clear hun hsp hsb hsn
            obtain ⟨a1, ha1q⟩ : ∃ a1, a1 = p1 := ⟨_, rfl⟩
            rw [← ha1q] at hp1i hG1
            have haa : a < a1 := by omega
            have ha1 : a1 ≤ s.length := by omega
            obtain ⟨c, hcq⟩ : ∃ c, c = c0 := ⟨_, rfl⟩
            rw [← hcq] at va wa h93i h92i hG1
            have hc256 := wa
            clear hcq ha1q hp1 h93 h92
            obtain ⟨b1, hb1⟩ : ∃ b1, b1 = a1 + 1 := ⟨_, rfl⟩
            have hb1i : (a1 : Int) + 1 = (b1 : Int) := by omega
            by_cases u0 : s.length ≤ b1
            · have u0i : ¬ ((b1 : Int) < (s.length : Int)) := by omega
              clear hb1
              have hE : upper s c a1 = some (c, a1) := upper_no (.inl (by omega))
              have hG2 : Hid (G = if c < c then none else setGo s (s.length + 1) a1 true (fill f c c)) := Lib.hid (hG1.out.trans (by simp only [hE]))
              clear hE
              by_cases hlth : c < c
              · have hlti : (c : Int) < (c : Int) := by omega
                have hGn := Lib.hid (hG2.out.trans (if_pos hlth))
                go_wp2_with (first
                  | (refine wpList_load_blk rfl 41 (.tmp 4) rfl _ rfl hBi Try.underlying41 rfl (size41p _) ?_)
                  | (refine wpList_store_blk rfl 41 (.tmp 2) (.tmp 101) rfl _ rfl rfl hRi (size41p _) (by rw [pA_size, pA_size]) (pA_one _) ?_; intro w9 hR9 hg9)
                  | fail)
                refine bodyPost_ret (res_struct2 (p := 2) (u := 3) (v := .int .i64 (-1)) rfl hR9 rfl rfl Try.underlying41 rfl (size41p _)) rfl ?_
                exact (⟨_, _, rfl, .inl ⟨by rw [hTG.out, hGn.out]; rfl, rfl⟩, gb_own_b hgi hg9 (Nat.le_refl _)⟩ : SetGives w T _ _)
              · have hlti : ¬ ((c : Int) < (c : Int)) := by omega
                have hG3 := Lib.hid (hG2.out.trans (if_neg hlth))
                have hc5 : (c : Int) < 256 := by omega
                go_wp2_with fail
                go_loopw [9] (fun v9 wi => ∃ x : Nat, v9 = .int .i64 x ∧ c ≤ x ∧ x ≤ c + 1 ∧ Two w wi ⟨3, 0, ng, fillTo f c x⟩ ⟨0, 0, false, none0⟩)
                  (fun v9 _ => 300 - (intOf v9).toNat)
                case atStart => exact ⟨c, rfl, Nat.le_refl _, by omega, by rw [fillTo_start]; exact ⟨hBi, hRi, hgi⟩⟩
                case round =>
                  obtain ⟨x, rfl, hcx, hxh, hBx, hRx, hgx⟩ := hrel
                  by_cases hxl : x ≤ c
                  · have hxi : (x : Int) ≤ (c : Int) := by omega
                    have hx5 : (x : Int) < 256 := by omega
                    have kx := pblk_set hBx x (by omega)
                    have fx := hBx.free (3 + x)
                    have hst := pA_set ⟨3, 0, ng, fillTo f c x⟩ x
                    dsimp only at hst
                    rw [fillTo_step f c x hcx] at hst
                    have hBn := hBx.set (3 + x) (.bool true)
                    rw [hst] at hBn
                    clear hst
                    go_wp2_with fail
                    go_roundw
                    case rel => exact ⟨x + 1, by go_num, by omega, by omega, hBn, hRx.other (by omega), gb_new_set hgx (by show w.heap.size ≤ w.heap.size + 1; omega)⟩
                    case measure => first | (simp [intOf]; done) | (simp [intOf]; omega)
                  · have hxe : x = c + 1 := by omega
                    subst hxe
                    rw [fillTo_end] at hBx
                    have hxi : ¬ (((c + 1 : Nat) : Int) ≤ (c : Int)) := by omega
                    go_wp2_with fail
                    go_roundw
                    case rel => exact ⟨a1, true, _, rfl, rfl, by omega, hG3, hBx, hRx, hgx⟩
                    case measure => first | (simp [intOf]; done) | (simp [intOf]; omega)
            · have u0i : (b1 : Int) < (s.length : Int) := by omega
              have ha1i : (a1 : Int) < (s.length : Int) := by omega
              have qa1 : a1 < s.length := by omega
              have qb1 : b1 < s.length := by omega
              have va1 := hx.out a1 qa1
              have vb1 := hx.out b1 qb1
              have wa1 := hlt.out a1 (by omega)
              have wb1 := hlt.out b1 (by omega)
              have hup1 := @upper_no s c a1
              have hup2 := @upper_yes s c a1
              have hsp := @single_plain s b1
              have hsb := @single_back s b1
              have hsn := @single_none s b1
              rw [← hb1] at hup1 hup2
              clear hb1
              replace hup1 := Lib.hid hup1
              replace hup2 := Lib.hid hup2
              replace hsp := Lib.hid hsp
              replace hsb := Lib.hid hsb
              replace hsn := Lib.hid hsn
              obtain ⟨y, hy⟩ : ∃ y, y = s.getD a1 0 := ⟨_, rfl⟩
              obtain ⟨z, hzz⟩ : ∃ z, z = s.getD b1 0 := ⟨_, rfl⟩
              rw [← hy] at va1 wa1
              rw [← hzz] at vb1 wb1
              replace hy := Lib.hid hy
              replace hzz := Lib.hid hzz
              by_cases u1 : y = 45
              · subst u1
                by_cases u2 : z = 93
                · subst u2
                  have hE : upper s c a1 = some (c, a1) := hup1.out (.inr (.inr hzz.out.symm))
                  have hG2 : Hid (G = if c < c then none else setGo s (s.length + 1) a1 true (fill f c c)) := Lib.hid (hG1.out.trans (by simp only [hE]))
                  clear hE
                  by_cases hlth : c < c
                  · have hlti : (c : Int) < (c : Int) := by omega
                    have hGn := Lib.hid (hG2.out.trans (if_pos hlth))
                    go_wp2_with (first
                      | (refine wpList_load_blk rfl 41 (.tmp 4) rfl _ rfl hBi Try.underlying41 rfl (size41p _) ?_)
                      | (refine wpList_store_blk rfl 41 (.tmp 2) (.tmp 101) rfl _ rfl rfl hRi (size41p _) (by rw [pA_size, pA_size]) (pA_one _) ?_; intro w9 hR9 hg9)
                      | fail)
                    refine bodyPost_ret (res_struct2 (p := 2) (u := 3) (v := .int .i64 (-1)) rfl hR9 rfl rfl Try.underlying41 rfl (size41p _)) rfl ?_
                    exact (⟨_, _, rfl, .inl ⟨by rw [hTG.out, hGn.out]; rfl, rfl⟩, gb_own_b hgi hg9 (Nat.le_refl _)⟩ : SetGives w T _ _)
                  · have hlti : ¬ ((c : Int) < (c : Int)) := by omega
                    have hG3 := Lib.hid (hG2.out.trans (if_neg hlth))
                    have hc5 : (c : Int) < 256 := by omega
                    go_wp2_with fail
                    go_loopw [9] (fun v9 wi => ∃ x : Nat, v9 = .int .i64 x ∧ c ≤ x ∧ x ≤ c + 1 ∧ Two w wi ⟨3, 0, ng, fillTo f c x⟩ ⟨0, 0, false, none0⟩)
                      (fun v9 _ => 300 - (intOf v9).toNat)
                    case atStart => exact ⟨c, rfl, Nat.le_refl _, by omega, by rw [fillTo_start]; exact ⟨hBi, hRi, hgi⟩⟩
                    case round =>
                      obtain ⟨x, rfl, hcx, hxh, hBx, hRx, hgx⟩ := hrel
                      by_cases hxl : x ≤ c
                      · have hxi : (x : Int) ≤ (c : Int) := by omega
                        have hx5 : (x : Int) < 256 := by omega
                        have kx := pblk_set hBx x (by omega)
                        have fx := hBx.free (3 + x)
                        have hst := pA_set ⟨3, 0, ng, fillTo f c x⟩ x
                        dsimp only at hst
                        rw [fillTo_step f c x hcx] at hst
                        have hBn := hBx.set (3 + x) (.bool true)
                        rw [hst] at hBn
                        clear hst
                        go_wp2_with fail
                        go_roundw
                        case rel => exact ⟨x + 1, by go_num, by omega, by omega, hBn, hRx.other (by omega), gb_new_set hgx (by show w.heap.size ≤ w.heap.size + 1; omega)⟩
                        case measure => first | (simp [intOf]; done) | (simp [intOf]; omega)
                      · have hxe : x = c + 1 := by omega
                        subst hxe
                        rw [fillTo_end] at hBx
                        have hxi : ¬ (((c + 1 : Nat) : Int) ≤ (c : Int)) := by omega
                        go_wp2_with fail
                        go_roundw
                        case rel => exact ⟨a1, true, _, rfl, rfl, by omega, hG3, hBx, hRx, hgx⟩
                        case measure => first | (simp [intOf]; done) | (simp [intOf]; omega)
                · have u2i : ((z : Int) == 93) = false := by simp; omega
                  have u2j : ((z : Int) != 93) = true := by simp; omega
                  have hU : Hid (upper s c a1 = single s b1) := Lib.hid (hup2.out (by omega) hy.out.symm (by rw [← hzz.out]; exact u2))
                  obtain ⟨b2, hb2⟩ : ∃ b2, b2 = a1 + 2 := ⟨_, rfl⟩
                  have hb2i : (a1 : Int) + 2 = (b2 : Int) := by omega
                  clear hb2
                  by_cases u3 : z = 92
                  · subst u3
                    by_cases u4 : s.length ≤ b2
                    · have u4i : (s.length : Int) ≤ (b2 : Int) := by omega
                      have hE : upper s c a1 = none := hU.out.trans (hsn.out (by omega) hzz.out.symm)
                      have hGn : Hid (G = none) := Lib.hid (hG1.out.trans (by simp only [hE]))
                      clear hE hU
                      go_wp2_with (first
                        | (refine wpList_load_blk rfl 41 (.tmp 4) rfl _ rfl hBi Try.underlying41 rfl (size41p _) ?_)
                        | (refine wpList_store_blk rfl 41 (.tmp 2) (.tmp 92) rfl _ rfl rfl hRi (size41p _) (by rw [pA_size, pA_size]) (pA_one _) ?_; intro w9 hR9 hg9)
                        | fail)
                      refine bodyPost_ret (res_struct2 (p := 2) (u := 3) (v := .int .i64 (-1)) rfl hR9 rfl rfl Try.underlying41 rfl (size41p _)) rfl ?_
                      exact (⟨_, _, rfl, .inl ⟨by rw [hTG.out, hGn.out]; rfl, rfl⟩, gb_own_b hgi hg9 (Nat.le_refl _)⟩ : SetGives w T _ _)
                    · have u4i : ¬ ((s.length : Int) ≤ (b2 : Int)) := by omega
                      have u4j : (b2 : Int) < (s.length : Int) := by omega
                      have qb2 : b2 < s.length := by omega
                      obtain ⟨b3, hb3⟩ : ∃ b3, b3 = b2 + 1 := ⟨_, rfl⟩
                      have hb3i : (b2 : Int) + 1 = (b3 : Int) := by omega
                      have vb2 := hx.out b2 qb2
                      have wb2 := hlt.out b2 (by omega)
                      obtain ⟨hi, hhi⟩ : ∃ hi, hi = s.getD b2 0 := ⟨_, rfl⟩
                      have hE := hU.out.trans (hsb.out (by omega) hzz.out.symm)
                      rw [show b1 + 1 = b2 by omega, ← hhi, show b1 + 2 = b3 by omega] at hE
                      have hG2 : Hid (G = if hi < c then none else setGo s (s.length + 1) b3 true (fill f c hi)) := Lib.hid (hG1.out.trans (by simp only [hE]))
                      rw [← hhi] at vb2 wb2
                      clear hE hU hhi hb3
                      by_cases hlth : hi < c
                      · have hlti : (hi : Int) < (c : Int) := by omega
                        have hGn := Lib.hid (hG2.out.trans (if_pos hlth))
                        go_wp2_with (first
                          | (refine wpList_load_blk rfl 41 (.tmp 4) rfl _ rfl hBi Try.underlying41 rfl (size41p _) ?_)
                          | (refine wpList_store_blk rfl 41 (.tmp 2) (.tmp 101) rfl _ rfl rfl hRi (size41p _) (by rw [pA_size, pA_size]) (pA_one _) ?_; intro w9 hR9 hg9)
                          | fail)
                        refine bodyPost_ret (res_struct2 (p := 2) (u := 3) (v := .int .i64 (-1)) rfl hR9 rfl rfl Try.underlying41 rfl (size41p _)) rfl ?_
                        exact (⟨_, _, rfl, .inl ⟨by rw [hTG.out, hGn.out]; rfl, rfl⟩, gb_own_b hgi hg9 (Nat.le_refl _)⟩ : SetGives w T _ _)
                      · have hlti : ¬ ((hi : Int) < (c : Int)) := by omega
                        have hG3 := Lib.hid (hG2.out.trans (if_neg hlth))
                        have hc5 : (c : Int) < 256 := by omega
                        go_wp2_with fail
                        go_loopw [9] (fun v9 wi => ∃ x : Nat, v9 = .int .i64 x ∧ c ≤ x ∧ x ≤ hi + 1 ∧ Two w wi ⟨3, 0, ng, fillTo f c x⟩ ⟨0, 0, false, none0⟩)
                          (fun v9 _ => 300 - (intOf v9).toNat)
                        case atStart => exact ⟨c, rfl, Nat.le_refl _, by omega, by rw [fillTo_start]; exact ⟨hBi, hRi, hgi⟩⟩
                        case round =>
                          obtain ⟨x, rfl, hcx, hxh, hBx, hRx, hgx⟩ := hrel
                          by_cases hxl : x ≤ hi
                          · have hxi : (x : Int) ≤ (hi : Int) := by omega
                            have hx5 : (x : Int) < 256 := by omega
                            have kx := pblk_set hBx x (by omega)
                            have fx := hBx.free (3 + x)
                            have hst := pA_set ⟨3, 0, ng, fillTo f c x⟩ x
                            dsimp only at hst
                            rw [fillTo_step f c x hcx] at hst
                            have hBn := hBx.set (3 + x) (.bool true)
                            rw [hst] at hBn
                            clear hst
                            go_wp2_with fail
                            go_roundw
                            case rel => exact ⟨x + 1, by go_num, by omega, by omega, hBn, hRx.other (by omega), gb_new_set hgx (by show w.heap.size ≤ w.heap.size + 1; omega)⟩
                            case measure => first | (simp [intOf]; done) | (simp [intOf]; omega)
                          · have hxe : x = hi + 1 := by omega
                            subst hxe
                            rw [fillTo_end] at hBx
                            have hxi : ¬ (((hi + 1 : Nat) : Int) ≤ (hi : Int)) := by omega
                            go_wp2_with fail
                            go_roundw
                            case rel => exact ⟨b3, true, _, rfl, rfl, by omega, hG3, hBx, hRx, hgx⟩
                            case measure => first | (simp [intOf]; done) | (simp [intOf]; omega)
                  · have u3i : ((z : Int) == 92) = false := by simp; omega
                    have hE := hU.out.trans (hsp.out (by omega) (by rw [← hzz.out]; exact u3))
                    rw [← hzz.out, show b1 + 1 = b2 by omega] at hE
                    have hG2 : Hid (G = if z < c then none else setGo s (s.length + 1) b2 true (fill f c z)) := Lib.hid (hG1.out.trans (by simp only [hE]))
                    clear hE hU
                    by_cases hlth : z < c
                    · have hlti : (z : Int) < (c : Int) := by omega
                      have hGn := Lib.hid (hG2.out.trans (if_pos hlth))
                      go_wp2_with (first
                        | (refine wpList_load_blk rfl 41 (.tmp 4) rfl _ rfl hBi Try.underlying41 rfl (size41p _) ?_)
                        | (refine wpList_store_blk rfl 41 (.tmp 2) (.tmp 101) rfl _ rfl rfl hRi (size41p _) (by rw [pA_size, pA_size]) (pA_one _) ?_; intro w9 hR9 hg9)
                        | fail)
                      refine bodyPost_ret (res_struct2 (p := 2) (u := 3) (v := .int .i64 (-1)) rfl hR9 rfl rfl Try.underlying41 rfl (size41p _)) rfl ?_
                      exact (⟨_, _, rfl, .inl ⟨by rw [hTG.out, hGn.out]; rfl, rfl⟩, gb_own_b hgi hg9 (Nat.le_refl _)⟩ : SetGives w T _ _)
                    · have hlti : ¬ ((z : Int) < (c : Int)) := by omega
                      have hG3 := Lib.hid (hG2.out.trans (if_neg hlth))
                      have hc5 : (c : Int) < 256 := by omega
                      go_wp2_with fail
                      go_loopw [9] (fun v9 wi => ∃ x : Nat, v9 = .int .i64 x ∧ c ≤ x ∧ x ≤ z + 1 ∧ Two w wi ⟨3, 0, ng, fillTo f c x⟩ ⟨0, 0, false, none0⟩)
                        (fun v9 _ => 300 - (intOf v9).toNat)
                      case atStart => exact ⟨c, rfl, Nat.le_refl _, by omega, by rw [fillTo_start]; exact ⟨hBi, hRi, hgi⟩⟩
                      case round =>
                        obtain ⟨x, rfl, hcx, hxh, hBx, hRx, hgx⟩ := hrel
                        by_cases hxl : x ≤ z
                        · have hxi : (x : Int) ≤ (z : Int) := by omega
                          have hx5 : (x : Int) < 256 := by omega
                          have kx := pblk_set hBx x (by omega)
                          have fx := hBx.free (3 + x)
                          have hst := pA_set ⟨3, 0, ng, fillTo f c x⟩ x
                          dsimp only at hst
                          rw [fillTo_step f c x hcx] at hst
                          have hBn := hBx.set (3 + x) (.bool true)
                          rw [hst] at hBn
                          clear hst
                          go_wp2_with fail
                          go_roundw
                          case rel => exact ⟨x + 1, by go_num, by omega, by omega, hBn, hRx.other (by omega), gb_new_set hgx (by show w.heap.size ≤ w.heap.size + 1; omega)⟩
                          case measure => first | (simp [intOf]; done) | (simp [intOf]; omega)
                        · have hxe : x = z + 1 := by omega
                          subst hxe
                          rw [fillTo_end] at hBx
                          have hxi : ¬ (((z + 1 : Nat) : Int) ≤ (z : Int)) := by omega
                          go_wp2_with fail
                          go_roundw
                          case rel => exact ⟨b2, true, _, rfl, rfl, by omega, hG3, hBx, hRx, hgx⟩
                          case measure => first | (simp [intOf]; done) | (simp [intOf]; omega)
              · have u1i : ((y : Int) == 45) = false := by simp; omega
                have hE : upper s c a1 = some (c, a1) := hup1.out (.inr (.inl (by rw [← hy.out]; exact u1)))
                have hG2 : Hid (G = if c < c then none else setGo s (s.length + 1) a1 true (fill f c c)) := Lib.hid (hG1.out.trans (by simp only [hE]))
                clear hE
                by_cases hlth : c < c
                · have hlti : (c : Int) < (c : Int) := by omega
                  have hGn := Lib.hid (hG2.out.trans (if_pos hlth))
                  go_wp2_with (first
                    | (refine wpList_load_blk rfl 41 (.tmp 4) rfl _ rfl hBi Try.underlying41 rfl (size41p _) ?_)
                    | (refine wpList_store_blk rfl 41 (.tmp 2) (.tmp 101) rfl _ rfl rfl hRi (size41p _) (by rw [pA_size, pA_size]) (pA_one _) ?_; intro w9 hR9 hg9)
                    | fail)
                  refine bodyPost_ret (res_struct2 (p := 2) (u := 3) (v := .int .i64 (-1)) rfl hR9 rfl rfl Try.underlying41 rfl (size41p _)) rfl ?_
                  exact (⟨_, _, rfl, .inl ⟨by rw [hTG.out, hGn.out]; rfl, rfl⟩, gb_own_b hgi hg9 (Nat.le_refl _)⟩ : SetGives w T _ _)
                · have hlti : ¬ ((c : Int) < (c : Int)) := by omega
                  have hG3 := Lib.hid (hG2.out.trans (if_neg hlth))
                  have hc5 : (c : Int) < 256 := by omega
                  go_wp2_with fail
                  go_loopw [9] (fun v9 wi => ∃ x : Nat, v9 = .int .i64 x ∧ c ≤ x ∧ x ≤ c + 1 ∧ Two w wi ⟨3, 0, ng, fillTo f c x⟩ ⟨0, 0, false, none0⟩)
                    (fun v9 _ => 300 - (intOf v9).toNat)
                  case atStart => exact ⟨c, rfl, Nat.le_refl _, by omega, by rw [fillTo_start]; exact ⟨hBi, hRi, hgi⟩⟩
                  case round =>
                    obtain ⟨x, rfl, hcx, hxh, hBx, hRx, hgx⟩ := hrel
                    by_cases hxl : x ≤ c
                    · have hxi : (x : Int) ≤ (c : Int) := by omega
                      have hx5 : (x : Int) < 256 := by omega
                      have kx := pblk_set hBx x (by omega)
                      have fx := hBx.free (3 + x)
                      have hst := pA_set ⟨3, 0, ng, fillTo f c x⟩ x
                      dsimp only at hst
                      rw [fillTo_step f c x hcx] at hst
                      have hBn := hBx.set (3 + x) (.bool true)
                      rw [hst] at hBn
                      clear hst
                      go_wp2_with fail
                      go_roundw
                      case rel => exact ⟨x + 1, by go_num, by omega, by omega, hBn, hRx.other (by omega), gb_new_set hgx (by show w.heap.size ≤ w.heap.size + 1; omega)⟩
                      case measure => first | (simp [intOf]; done) | (simp [intOf]; omega)
                    · have hxe : x = c + 1 := by omega
                      subst hxe
                      rw [fillTo_end] at hBx
                      have hxi : ¬ (((c + 1 : Nat) : Int) ≤ (c : Int)) := by omega
                      go_wp2_with fail
                      go_roundw
                      case rel => exact ⟨a1, true, _, rfl, rfl, by omega, hG3, hBx, hRx, hgx⟩
                      case measure => first | (simp [intOf]; done) | (simp [intOf]; omega)
  · have h33 : ng = false := by simpa using h33
    have hno := hng1 h33
    clear hng0 hng1
    subst h33
    rw [if_neg (by simp)] at hG
    replace hG := Lib.hid hG
    have hno2 : s.length = 0 ∨ (0 < s.length ∧ s.getD 0 0 ≠ 33) := by
      rcases Nat.eq_zero_or_pos s.length with h | h
      · exact .inl h
      · exact .inr ⟨h, hno h⟩
    clear hno
    rcases hno2 with h0 | ⟨h0, h33v⟩
    · have hGn := Lib.hid (hG.out.trans (by rw [setGo_unfold, if_pos (by omega)]))
      have h0i : ¬ ((0 : Int) < (s.length : Int)) := by omega
      go_enter Try.func13, Try.ntmps13
      go_wp2_with (first
        | (refine wpList_alloc_blk rfl 41 rfl zero41 ?_)
        | (refine wpList_build_blk rfl 41 _ rfl (fun w => build41_kind 3 w) ?_)
        | (refine wpList_store_blk rfl 41 (.tmp 4) (.tmp 10) rfl _ rfl rfl (Blk.new (w.alloc (.cells (pA ⟨0, 0, false, none0⟩) 41)) (pA ⟨0, 0, false, none0⟩) 41) (size41p _) (by rw [pA_size, pA_size]) (pA_one _) ?_; intro w1 hB1 hg1; (have hB1' : Blk w1 (w.heap.size + 1) (pA ⟨3, 0, false, none0⟩) 41 := by (have := hB1; rw [World.size_alloc] at this; exact this)); (have hR1 := ((Blk.new w (pA ⟨0, 0, false, none0⟩) 41).alloc (.cells (pA ⟨0, 0, false, none0⟩) 41)).grown hg1 (by simp)); (have hgg : w.grownBy w1 none := gb_own_b (gb_alloc (gb_alloc (gb_refl w none) _) _) hg1 (by simp)))
        | fail)
      have hBi := hB1'
      have hRi := hR1
      have hgi := hgg
      go_loopw [5] (fun v5 wi => v5 = .int .i64 0 ∧ wi = w1) (fun _ _ => 0)
      case atStart => exact ⟨rfl, rfl⟩
      case round =>
        obtain ⟨rfl, rfl⟩ := hrel
        go_wp2_with (first
          | (refine wpList_load_blk rfl 41 (.tmp 4) rfl _ rfl hBi Try.underlying41 rfl (size41p _) ?_)
          | (refine wpList_store_blk rfl 41 (.tmp 2) (.tmp 113) rfl _ rfl rfl hRi (size41p _) (by rw [pA_size, pA_size]) (pA_one _) ?_; intro w9 hR9 hg9)
          | fail)
        refine bodyPost_ret (res_struct2 (p := 2) (u := 3) (v := .int .i64 (-1)) rfl hR9 rfl rfl Try.underlying41 rfl (size41p _)) rfl ?_
        exact (⟨_, _, rfl, .inl ⟨by rw [hTG.out, hGn.out]; rfl, rfl⟩, gb_own_b hgi hg9 (Nat.le_refl _)⟩ : SetGives w T _ _)
    · have h0i : (0 : Int) < (s.length : Int) := by omega
      have v0 := hx.out 0 h0
      have w0 := hlt.out 0 h0
      obtain ⟨y0, hy0⟩ : ∃ y0, y0 = s.getD 0 0 := ⟨_, rfl⟩
      rw [← hy0] at v0 w0 h33v
      have h33i : ((y0 : Int) == 33) = false := by simp; omega
      clear hy0 h33v
      go_enter Try.func13, Try.ntmps13
      go_wp2_with (first
        | (refine wpList_alloc_blk rfl 41 rfl zero41 ?_)
        | (refine wpList_build_blk rfl 41 _ rfl (fun w => build41_kind 3 w) ?_)
        | (refine wpList_store_blk rfl 41 (.tmp 4) (.tmp 10) rfl _ rfl rfl (Blk.new (w.alloc (.cells (pA ⟨0, 0, false, none0⟩) 41)) (pA ⟨0, 0, false, none0⟩) 41) (size41p _) (by rw [pA_size, pA_size]) (pA_one _) ?_; intro w1 hB1 hg1; (have hB1' : Blk w1 (w.heap.size + 1) (pA ⟨3, 0, false, none0⟩) 41 := by (have := hB1; rw [World.size_alloc] at this; exact this)); (have hR1 := ((Blk.new w (pA ⟨0, 0, false, none0⟩) 41).alloc (.cells (pA ⟨0, 0, false, none0⟩) 41)).grown hg1 (by simp)); (have hgg : w.grownBy w1 none := gb_own_b (gb_alloc (gb_alloc (gb_refl w none) _) _) hg1 (by simp)))
        | fail)
      have hBn := hB1'
      have hRn := hR1
      have hgn := hgg
      clear v0 w0 hB1 hB1' hR1 hgg hg1
      obtain ⟨ng, hngq⟩ : ∃ ng, ng = false := ⟨_, rfl⟩
      rw [← hngq] at hTG hBn
      replace hngq := Lib.hid hngq
      go_loopw [5, 6] (fun v5 v6 wi => ∃ (a : Nat) (sm : Bool) (f : Nat → Bool), v5 = .int .i64 a ∧ v6 = .bool sm ∧ a ≤ s.length ∧ Hid (G = setGo s (s.length + 1) a sm f) ∧ Two w wi ⟨3, 0, ng, f⟩ ⟨0, 0, false, none0⟩)
        (fun v5 _ _ => s.length - (intOf v5).toNat)
      case atStart => exact ⟨0, false, none0, rfl, rfl, by omega, hG, hBn, hRn, hgn⟩
      case round =>
        obtain ⟨a, sm, f, rfl, rfl, ha, hGa, hBi, hRi, hgi⟩ := hrel
        clear hBn hRn hgn hG
        have hun := hGa.out
        rw [setGo_unfold] at hun
        by_cases hal : s.length ≤ a
        · have hali : ¬ ((a : Int) < (s.length : Int)) := by omega
          have hGn := Lib.hid (hun.trans (if_pos hal))
          clear hun
          go_wp2_with (first
            | (refine wpList_load_blk rfl 41 (.tmp 4) rfl _ rfl hBi Try.underlying41 rfl (size41p _) ?_)
            | (refine wpList_store_blk rfl 41 (.tmp 2) (.tmp 113) rfl _ rfl rfl hRi (size41p _) (by rw [pA_size, pA_size]) (pA_one _) ?_; intro w9 hR9 hg9)
            | fail)
          refine bodyPost_ret (res_struct2 (p := 2) (u := 3) (v := .int .i64 (-1)) rfl hR9 rfl rfl Try.underlying41 rfl (size41p _)) rfl ?_
          exact (⟨_, _, rfl, .inl ⟨by rw [hTG.out, hGn.out]; rfl, rfl⟩, gb_own_b hgi hg9 (Nat.le_refl _)⟩ : SetGives w T _ _)
        · have hali : (a : Int) < (s.length : Int) := by omega
          rw [if_neg hal] at hun
          have va := hx.out a (by omega)
          have wa := hlt.out a (by omega)
          have hsp := @single_plain s a
          have hsb := @single_back s a
          have hsn := @single_none s a
          obtain ⟨c0, hc0⟩ : ∃ c0, c0 = s.getD a 0 := ⟨_, rfl⟩
          rw [← hc0] at va wa hun hsp hsb hsn
          clear hc0
          obtain ⟨p1, hp1⟩ : ∃ p1, p1 = a + 1 := ⟨_, rfl⟩
          have hp1i : (a : Int) + 1 = (p1 : Int) := by omega
          by_cases h93 : c0 = 93
          · subst h93
            rw [if_pos rfl] at hun
            cases sm with
            | true =>
              rw [if_pos rfl, ← hp1] at hun
              have hGs := Lib.hid hun
              clear hun hsp hsb hsn hp1
              go_wp2_with (first
                | (refine wpList_load_blk rfl 41 (.tmp 4) rfl _ rfl hBi Try.underlying41 rfl (size41p _) ?_)
                | (refine wpList_store_blk rfl 41 (.tmp 2) (.tmp 33) rfl _ rfl rfl hRi (size41p _) (by rw [pA_size, pA_size]) (pA_one _) ?_; intro w9 hR9 hg9)
                | fail)
              refine bodyPost_ret (res_struct2 (p := 2) (u := 3) (v := .int .i64 (p1 : Nat)) rfl hR9 rfl rfl Try.underlying41 rfl (size41p _)) rfl ?_
              exact (⟨_, _, rfl, .inr ⟨p1, by rw [hTG.out, hGs.out]; rfl, rfl⟩, gb_own_b hgi hg9 (Nat.le_refl _)⟩ : SetGives w T _ _)
            | false =>
              rw [if_neg (by simp)] at hun
              have hGn := Lib.hid hun
              clear hun hsp hsb hsn hp1
              go_wp2_with (first
                | (refine wpList_load_blk rfl 41 (.tmp 4) rfl _ rfl hBi Try.underlying41 rfl (size41p _) ?_)
                | (refine wpList_store_blk rfl 41 (.tmp 2) (.tmp 58) rfl _ rfl rfl hRi (size41p _) (by rw [pA_size, pA_size]) (pA_one _) ?_; intro w9 hR9 hg9)
                | fail)
              refine bodyPost_ret (res_struct2 (p := 2) (u := 3) (v := .int .i64 (-1)) rfl hR9 rfl rfl Try.underlying41 rfl (size41p _)) rfl ?_
              exact (⟨_, _, rfl, .inl ⟨by rw [hTG.out, hGn.out]; rfl, rfl⟩, gb_own_b hgi hg9 (Nat.le_refl _)⟩ : SetGives w T _ _)
          · rw [if_neg h93] at hun
            have h93i : ((c0 : Int) == 93) = false := by simp; omega
            by_cases h92 : c0 = 92
            · subst h92
              by_cases hend : s.length ≤ p1
              · have hei : ¬ ((p1 : Int) < (s.length : Int)) := by omega
                rw [hsn (by omega) rfl] at hun
                have hGn := Lib.hid hun
                clear hun hsp hsb hsn hp1
                go_wp2_with (first
                  | (refine wpList_load_blk rfl 41 (.tmp 4) rfl _ rfl hBi Try.underlying41 rfl (size41p _) ?_)
                  | (refine wpList_store_blk rfl 41 (.tmp 2) (.tmp 58) rfl _ rfl rfl hRi (size41p _) (by rw [pA_size, pA_size]) (pA_one _) ?_; intro w9 hR9 hg9)
                  | fail)
                refine bodyPost_ret (res_struct2 (p := 2) (u := 3) (v := .int .i64 (-1)) rfl hR9 rfl rfl Try.underlying41 rfl (size41p _)) rfl ?_
                exact (⟨_, _, rfl, .inl ⟨by rw [hTG.out, hGn.out]; rfl, rfl⟩, gb_own_b hgi hg9 (Nat.le_refl _)⟩ : SetGives w T _ _)
              · have hei : (p1 : Int) < (s.length : Int) := by omega
                rw [hsb (by omega) rfl] at hun
                have vp := hx.out p1 (by omega)
                have hc256 := hlt.out p1 (by omega)
                obtain ⟨a1, ha1q⟩ : ∃ a1, a1 = p1 + 1 := ⟨_, rfl⟩
                have ha1j : (p1 : Int) + 1 = (a1 : Int) := by omega
                have haa : a < a1 := by omega
                have ha1 : a1 ≤ s.length := by omega
                obtain ⟨c, hcq⟩ : ∃ c, c = s.getD p1 0 := ⟨_, rfl⟩
                rw [← hp1, ← hcq, show a + 2 = a1 by omega] at hun
                rw [← hcq] at vp hc256
                dsimp only at hun
                have hG1 := Lib.hid hun
                clear hun hsp hsb hsn hcq ha1q hp1
                obtain ⟨b1, hb1⟩ : ∃ b1, b1 = a1 + 1 := ⟨_, rfl⟩
                have hb1i : (a1 : Int) + 1 = (b1 : Int) := by omega
                by_cases u0 : s.length ≤ b1
                · have u0i : ¬ ((b1 : Int) < (s.length : Int)) := by omega
                  clear hb1
                  have hE : upper s c a1 = some (c, a1) := upper_no (.inl (by omega))
                  have hG2 : Hid (G = if c < c then none else setGo s (s.length + 1) a1 true (fill f c c)) := Lib.hid (hG1.out.trans (by simp only [hE]))
                  clear hE
                  by_cases hlth : c < c
                  · have hlti : (c : Int) < (c : Int) := by omega
                    have hGn := Lib.hid (hG2.out.trans (if_pos hlth))
                    go_wp2_with (first
                      | (refine wpList_load_blk rfl 41 (.tmp 4) rfl _ rfl hBi Try.underlying41 rfl (size41p _) ?_)
                      | (refine wpList_store_blk rfl 41 (.tmp 2) (.tmp 101) rfl _ rfl rfl hRi (size41p _) (by rw [pA_size, pA_size]) (pA_one _) ?_; intro w9 hR9 hg9)
                      | fail)
                    refine bodyPost_ret (res_struct2 (p := 2) (u := 3) (v := .int .i64 (-1)) rfl hR9 rfl rfl Try.underlying41 rfl (size41p _)) rfl ?_
                    exact (⟨_, _, rfl, .inl ⟨by rw [hTG.out, hGn.out]; rfl, rfl⟩, gb_own_b hgi hg9 (Nat.le_refl _)⟩ : SetGives w T _ _)
                  · have hlti : ¬ ((c : Int) < (c : Int)) := by omega
                    have hG3 := Lib.hid (hG2.out.trans (if_neg hlth))
                    have hc5 : (c : Int) < 256 := by omega
                    go_wp2_with fail
                    go_loopw [9] (fun v9 wi => ∃ x : Nat, v9 = .int .i64 x ∧ c ≤ x ∧ x ≤ c + 1 ∧ Two w wi ⟨3, 0, ng, fillTo f c x⟩ ⟨0, 0, false, none0⟩)
                      (fun v9 _ => 300 - (intOf v9).toNat)
                    case atStart => exact ⟨c, rfl, Nat.le_refl _, by omega, by rw [fillTo_start]; exact ⟨hBi, hRi, hgi⟩⟩
                    case round =>
                      obtain ⟨x, rfl, hcx, hxh, hBx, hRx, hgx⟩ := hrel
                      by_cases hxl : x ≤ c
                      · have hxi : (x : Int) ≤ (c : Int) := by omega
                        have hx5 : (x : Int) < 256 := by omega
                        have kx := pblk_set hBx x (by omega)
                        have fx := hBx.free (3 + x)
                        have hst := pA_set ⟨3, 0, ng, fillTo f c x⟩ x
                        dsimp only at hst
                        rw [fillTo_step f c x hcx] at hst
                        have hBn := hBx.set (3 + x) (.bool true)
                        rw [hst] at hBn
                        clear hst
                        go_wp2_with fail
                        go_roundw
                        case rel => exact ⟨x + 1, by go_num, by omega, by omega, hBn, hRx.other (by omega), gb_new_set hgx (by show w.heap.size ≤ w.heap.size + 1; omega)⟩
                        case measure => first | (simp [intOf]; done) | (simp [intOf]; omega)
                      · have hxe : x = c + 1 := by omega
                        subst hxe
                        rw [fillTo_end] at hBx
                        have hxi : ¬ (((c + 1 : Nat) : Int) ≤ (c : Int)) := by omega
                        go_wp2_with fail
                        go_roundw
                        case rel => exact ⟨a1, true, _, rfl, rfl, by omega, hG3, hBx, hRx, hgx⟩
                        case measure => first | (simp [intOf]; done) | (simp [intOf]; omega)
                · have u0i : (b1 : Int) < (s.length : Int) := by omega
                  have ha1i : (a1 : Int) < (s.length : Int) := by omega
                  have qa1 : a1 < s.length := by omega
                  have qb1 : b1 < s.length := by omega
                  have va1 := hx.out a1 qa1
                  have vb1 := hx.out b1 qb1
                  have wa1 := hlt.out a1 (by omega)
                  have wb1 := hlt.out b1 (by omega)
                  have hup1 := @upper_no s c a1
                  have hup2 := @upper_yes s c a1
                  have hsp := @single_plain s b1
                  have hsb := @single_back s b1
                  have hsn := @single_none s b1
                  rw [← hb1] at hup1 hup2
                  clear hb1
                  replace hup1 := Lib.hid hup1
                  replace hup2 := Lib.hid hup2
                  replace hsp := Lib.hid hsp
                  replace hsb := Lib.hid hsb
                  replace hsn := Lib.hid hsn
                  obtain ⟨y, hy⟩ : ∃ y, y = s.getD a1 0 := ⟨_, rfl⟩
                  obtain ⟨z, hzz⟩ : ∃ z, z = s.getD b1 0 := ⟨_, rfl⟩
                  rw [← hy] at va1 wa1
                  rw [← hzz] at vb1 wb1
                  replace hy := Lib.hid hy
                  replace hzz := Lib.hid hzz
                  by_cases u1 : y = 45
                  · subst u1
                    by_cases u2 : z = 93
                    · subst u2
                      have hE : upper s c a1 = some (c, a1) := hup1.out (.inr (.inr hzz.out.symm))
                      have hG2 : Hid (G = if c < c then none else setGo s (s.length + 1) a1 true (fill f c c)) := Lib.hid (hG1.out.trans (by simp only [hE]))
                      clear hE
                      by_cases hlth : c < c
                      · have hlti : (c : Int) < (c : Int) := by omega
                        have hGn := Lib.hid (hG2.out.trans (if_pos hlth))
                        go_wp2_with (first
                          | (refine wpList_load_blk rfl 41 (.tmp 4) rfl _ rfl hBi Try.underlying41 rfl (size41p _) ?_)
                          | (refine wpList_store_blk rfl 41 (.tmp 2) (.tmp 101) rfl _ rfl rfl hRi (size41p _) (by rw [pA_size, pA_size]) (pA_one _) ?_; intro w9 hR9 hg9)
                          | fail)
                        refine bodyPost_ret (res_struct2 (p := 2) (u := 3) (v := .int .i64 (-1)) rfl hR9 rfl rfl Try.underlying41 rfl (size41p _)) rfl ?_
                        exact (⟨_, _, rfl, .inl ⟨by rw [hTG.out, hGn.out]; rfl, rfl⟩, gb_own_b hgi hg9 (Nat.le_refl _)⟩ : SetGives w T _ _)
                      · have hlti : ¬ ((c : Int) < (c : Int)) := by omega
                        have hG3 := Lib.hid (hG2.out.trans (if_neg hlth))
                        have hc5 : (c : Int) < 256 := by omega
                        go_wp2_with fail
                        go_loopw [9] (fun v9 wi => ∃ x : Nat, v9 = .int .i64 x ∧ c ≤ x ∧ x ≤ c + 1 ∧ Two w wi ⟨3, 0, ng, fillTo f c x⟩ ⟨0, 0, false, none0⟩)
                          (fun v9 _ => 300 - (intOf v9).toNat)
                        case atStart => exact ⟨c, rfl, Nat.le_refl _, by omega, by rw [fillTo_start]; exact ⟨hBi, hRi, hgi⟩⟩
                        case round =>
                          obtain ⟨x, rfl, hcx, hxh, hBx, hRx, hgx⟩ := hrel
                          by_cases hxl : x ≤ c
                          · have hxi : (x : Int) ≤ (c : Int) := by omega
                            have hx5 : (x : Int) < 256 := by omega
                            have kx := pblk_set hBx x (by omega)
                            have fx := hBx.free (3 + x)
                            have hst := pA_set ⟨3, 0, ng, fillTo f c x⟩ x
                            dsimp only at hst
                            rw [fillTo_step f c x hcx] at hst
                            have hBn := hBx.set (3 + x) (.bool true)
                            rw [hst] at hBn
                            clear hst
                            go_wp2_with fail
                            go_roundw
                            case rel => exact ⟨x + 1, by go_num, by omega, by omega, hBn, hRx.other (by omega), gb_new_set hgx (by show w.heap.size ≤ w.heap.size + 1; omega)⟩
                            case measure => first | (simp [intOf]; done) | (simp [intOf]; omega)
                          · have hxe : x = c + 1 := by omega
                            subst hxe
                            rw [fillTo_end] at hBx
                            have hxi : ¬ (((c + 1 : Nat) : Int) ≤ (c : Int)) := by omega
                            go_wp2_with fail
                            go_roundw
                            case rel => exact ⟨a1, true, _, rfl, rfl, by omega, hG3, hBx, hRx, hgx⟩
                            case measure => first | (simp [intOf]; done) | (simp [intOf]; omega)
                    · have u2i : ((z : Int) == 93) = false := by simp; omega
                      have u2j : ((z : Int) != 93) = true := by simp; omega
                      have hU : Hid (upper s c a1 = single s b1) := Lib.hid (hup2.out (by omega) hy.out.symm (by rw [← hzz.out]; exact u2))
                      obtain ⟨b2, hb2⟩ : ∃ b2, b2 = a1 + 2 := ⟨_, rfl⟩
                      have hb2i : (a1 : Int) + 2 = (b2 : Int) := by omega
                      clear hb2
                      by_cases u3 : z = 92
                      · subst u3
                        by_cases u4 : s.length ≤ b2
                        · have u4i : (s.length : Int) ≤ (b2 : Int) := by omega
                          have hE : upper s c a1 = none := hU.out.trans (hsn.out (by omega) hzz.out.symm)
                          have hGn : Hid (G = none) := Lib.hid (hG1.out.trans (by simp only [hE]))
                          clear hE hU
                          go_wp2_with (first
                            | (refine wpList_load_blk rfl 41 (.tmp 4) rfl _ rfl hBi Try.underlying41 rfl (size41p _) ?_)
                            | (refine wpList_store_blk rfl 41 (.tmp 2) (.tmp 92) rfl _ rfl rfl hRi (size41p _) (by rw [pA_size, pA_size]) (pA_one _) ?_; intro w9 hR9 hg9)
                            | fail)
                          refine bodyPost_ret (res_struct2 (p := 2) (u := 3) (v := .int .i64 (-1)) rfl hR9 rfl rfl Try.underlying41 rfl (size41p _)) rfl ?_
                          exact (⟨_, _, rfl, .inl ⟨by rw [hTG.out, hGn.out]; rfl, rfl⟩, gb_own_b hgi hg9 (Nat.le_refl _)⟩ : SetGives w T _ _)
                        · have u4i : ¬ ((s.length : Int) ≤ (b2 : Int)) := by omega
                          have u4j : (b2 : Int) < (s.length : Int) := by omega
                          have qb2 : b2 < s.length := by omega
                          obtain ⟨b3, hb3⟩ : ∃ b3, b3 = b2 + 1 := ⟨_, rfl⟩
                          have hb3i : (b2 : Int) + 1 = (b3 : Int) := by omega
                          have vb2 := hx.out b2 qb2
                          have wb2 := hlt.out b2 (by omega)
                          obtain ⟨hi, hhi⟩ : ∃ hi, hi = s.getD b2 0 := ⟨_, rfl⟩
                          have hE := hU.out.trans (hsb.out (by omega) hzz.out.symm)
                          rw [show b1 + 1 = b2 by omega, ← hhi, show b1 + 2 = b3 by omega] at hE
                          have hG2 : Hid (G = if hi < c then none else setGo s (s.length + 1) b3 true (fill f c hi)) := Lib.hid (hG1.out.trans (by simp only [hE]))
                          rw [← hhi] at vb2 wb2
                          clear hE hU hhi hb3
                          by_cases hlth : hi < c
                          · have hlti : (hi : Int) < (c : Int) := by omega
                            have hGn := Lib.hid (hG2.out.trans (if_pos hlth))
                            go_wp2_with (first
                              | (refine wpList_load_blk rfl 41 (.tmp 4) rfl _ rfl hBi Try.underlying41 rfl (size41p _) ?_)
                              | (refine wpList_store_blk rfl 41 (.tmp 2) (.tmp 101) rfl _ rfl rfl hRi (size41p _) (by rw [pA_size, pA_size]) (pA_one _) ?_; intro w9 hR9 hg9)
                              | fail)
                            refine bodyPost_ret (res_struct2 (p := 2) (u := 3) (v := .int .i64 (-1)) rfl hR9 rfl rfl Try.underlying41 rfl (size41p _)) rfl ?_
                            exact (⟨_, _, rfl, .inl ⟨by rw [hTG.out, hGn.out]; rfl, rfl⟩, gb_own_b hgi hg9 (Nat.le_refl _)⟩ : SetGives w T _ _)
                          · have hlti : ¬ ((hi : Int) < (c : Int)) := by omega
                            have hG3 := Lib.hid (hG2.out.trans (if_neg hlth))
                            have hc5 : (c : Int) < 256 := by omega
                            go_wp2_with fail
                            go_loopw [9] (fun v9 wi => ∃ x : Nat, v9 = .int .i64 x ∧ c ≤ x ∧ x ≤ hi + 1 ∧ Two w wi ⟨3, 0, ng, fillTo f c x⟩ ⟨0, 0, false, none0⟩)
                              (fun v9 _ => 300 - (intOf v9).toNat)
                            case atStart => exact ⟨c, rfl, Nat.le_refl _, by omega, by rw [fillTo_start]; exact ⟨hBi, hRi, hgi⟩⟩
                            case round =>
                              obtain ⟨x, rfl, hcx, hxh, hBx, hRx, hgx⟩ := hrel
                              by_cases hxl : x ≤ hi
                              · have hxi : (x : Int) ≤ (hi : Int) := by omega
                                have hx5 : (x : Int) < 256 := by omega
                                have kx := pblk_set hBx x (by omega)
                                have fx := hBx.free (3 + x)
                                have hst := pA_set ⟨3, 0, ng, fillTo f c x⟩ x
                                dsimp only at hst
                                rw [fillTo_step f c x hcx] at hst
                                have hBn := hBx.set (3 + x) (.bool true)
                                rw [hst] at hBn
                                clear hst
                                go_wp2_with fail
                                go_roundw
                                case rel => exact ⟨x + 1, by go_num, by omega, by omega, hBn, hRx.other (by omega), gb_new_set hgx (by show w.heap.size ≤ w.heap.size + 1; omega)⟩
                                case measure => first | (simp [intOf]; done) | (simp [intOf]; omega)
                              · have hxe : x = hi + 1 := by omega
                                subst hxe
                                rw [fillTo_end] at hBx
                                have hxi : ¬ (((hi + 1 : Nat) : Int) ≤ (hi : Int)) := by omega
                                go_wp2_with fail
                                go_roundw
                                case rel => exact ⟨b3, true, _, rfl, rfl, by omega, hG3, hBx, hRx, hgx⟩
                                case measure => first | (simp [intOf]; done) | (simp [intOf]; omega)
                      · have u3i : ((z : Int) == 92) = false := by simp; omega
                        have hE := hU.out.trans (hsp.out (by omega) (by rw [← hzz.out]; exact u3))
                        rw [← hzz.out, show b1 + 1 = b2 by omega] at hE
                        have hG2 : Hid (G = if z < c then none else setGo s (s.length + 1) b2 true (fill f c z)) := Lib.hid (hG1.out.trans (by simp only [hE]))
                        clear hE hU
                        by_cases hlth : z < c
                        · have hlti : (z : Int) < (c : Int) := by omega
                          have hGn := Lib.hid (hG2.out.trans (if_pos hlth))
                          go_wp2_with (first
                            | (refine wpList_load_blk rfl 41 (.tmp 4) rfl _ rfl hBi Try.underlying41 rfl (size41p _) ?_)
                            | (refine wpList_store_blk rfl 41 (.tmp 2) (.tmp 101) rfl _ rfl rfl hRi (size41p _) (by rw [pA_size, pA_size]) (pA_one _) ?_; intro w9 hR9 hg9)
                            | fail)
                          refine bodyPost_ret (res_struct2 (p := 2) (u := 3) (v := .int .i64 (-1)) rfl hR9 rfl rfl Try.underlying41 rfl (size41p _)) rfl ?_
                          exact (⟨_, _, rfl, .inl ⟨by rw [hTG.out, hGn.out]; rfl, rfl⟩, gb_own_b hgi hg9 (Nat.le_refl _)⟩ : SetGives w T _ _)
                        · have hlti : ¬ ((z : Int) < (c : Int)) := by omega
                          have hG3 := Lib.hid (hG2.out.trans (if_neg hlth))
                          have hc5 : (c : Int) < 256 := by omega
                          go_wp2_with fail
                          go_loopw [9] (fun v9 wi => ∃ x : Nat, v9 = .int .i64 x ∧ c ≤ x ∧ x ≤ z + 1 ∧ Two w wi ⟨3, 0, ng, fillTo f c x⟩ ⟨0, 0, false, none0⟩)
                            (fun v9 _ => 300 - (intOf v9).toNat)
                          case atStart => exact ⟨c, rfl, Nat.le_refl _, by omega, by rw [fillTo_start]; exact ⟨hBi, hRi, hgi⟩⟩
                          case round =>
                            obtain ⟨x, rfl, hcx, hxh, hBx, hRx, hgx⟩ := hrel
                            by_cases hxl : x ≤ z
                            · have hxi : (x : Int) ≤ (z : Int) := by omega
                              have hx5 : (x : Int) < 256 := by omega
                              have kx := pblk_set hBx x (by omega)
                              have fx := hBx.free (3 + x)
                              have hst := pA_set ⟨3, 0, ng, fillTo f c x⟩ x
                              dsimp only at hst
                              rw [fillTo_step f c x hcx] at hst
                              have hBn := hBx.set (3 + x) (.bool true)
                              rw [hst] at hBn
                              clear hst
                              go_wp2_with fail
                              go_roundw
                              case rel => exact ⟨x + 1, by go_num, by omega, by omega, hBn, hRx.other (by omega), gb_new_set hgx (by show w.heap.size ≤ w.heap.size + 1; omega)⟩
                              case measure => first | (simp [intOf]; done) | (simp [intOf]; omega)
                            · have hxe : x = z + 1 := by omega
                              subst hxe
                              rw [fillTo_end] at hBx
                              have hxi : ¬ (((z + 1 : Nat) : Int) ≤ (z : Int)) := by omega
                              go_wp2_with fail
                              go_roundw
                              case rel => exact ⟨b2, true, _, rfl, rfl, by omega, hG3, hBx, hRx, hgx⟩
                              case measure => first | (simp [intOf]; done) | (simp [intOf]; omega)
                  · have u1i : ((y : Int) == 45) = false := by simp; omega
                    have hE : upper s c a1 = some (c, a1) := hup1.out (.inr (.inl (by rw [← hy.out]; exact u1)))
                    have hG2 : Hid (G = if c < c then none else setGo s (s.length + 1) a1 true (fill f c c)) := Lib.hid (hG1.out.trans (by simp only [hE]))
                    clear hE
                    by_cases hlth : c < c
                    · have hlti : (c : Int) < (c : Int) := by omega
                      have hGn := Lib.hid (hG2.out.trans (if_pos hlth))
                      go_wp2_with (first
                        | (refine wpList_load_blk rfl 41 (.tmp 4) rfl _ rfl hBi Try.underlying41 rfl (size41p _) ?_)
                        | (refine wpList_store_blk rfl 41 (.tmp 2) (.tmp 101) rfl _ rfl rfl hRi (size41p _) (by rw [pA_size, pA_size]) (pA_one _) ?_; intro w9 hR9 hg9)
                        | fail)
                      refine bodyPost_ret (res_struct2 (p := 2) (u := 3) (v := .int .i64 (-1)) rfl hR9 rfl rfl Try.underlying41 rfl (size41p _)) rfl ?_
                      exact (⟨_, _, rfl, .inl ⟨by rw [hTG.out, hGn.out]; rfl, rfl⟩, gb_own_b hgi hg9 (Nat.le_refl _)⟩ : SetGives w T _ _)
                    · have hlti : ¬ ((c : Int) < (c : Int)) := by omega
                      have hG3 := Lib.hid (hG2.out.trans (if_neg hlth))
                      have hc5 : (c : Int) < 256 := by omega
                      go_wp2_with fail
                      go_loopw [9] (fun v9 wi => ∃ x : Nat, v9 = .int .i64 x ∧ c ≤ x ∧ x ≤ c + 1 ∧ Two w wi ⟨3, 0, ng, fillTo f c x⟩ ⟨0, 0, false, none0⟩)
                        (fun v9 _ => 300 - (intOf v9).toNat)
                      case atStart => exact ⟨c, rfl, Nat.le_refl _, by omega, by rw [fillTo_start]; exact ⟨hBi, hRi, hgi⟩⟩
                      case round =>
                        obtain ⟨x, rfl, hcx, hxh, hBx, hRx, hgx⟩ := hrel
                        by_cases hxl : x ≤ c
                        · have hxi : (x : Int) ≤ (c : Int) := by omega
                          have hx5 : (x : Int) < 256 := by omega
                          have kx := pblk_set hBx x (by omega)
                          have fx := hBx.free (3 + x)
                          have hst := pA_set ⟨3, 0, ng, fillTo f c x⟩ x
                          dsimp only at hst
                          rw [fillTo_step f c x hcx] at hst
                          have hBn := hBx.set (3 + x) (.bool true)
                          rw [hst] at hBn
                          clear hst
                          go_wp2_with fail
                          go_roundw
                          case rel => exact ⟨x + 1, by go_num, by omega, by omega, hBn, hRx.other (by omega), gb_new_set hgx (by show w.heap.size ≤ w.heap.size + 1; omega)⟩
                          case measure => first | (simp [intOf]; done) | (simp [intOf]; omega)
                        · have hxe : x = c + 1 := by omega
                          subst hxe
                          rw [fillTo_end] at hBx
                          have hxi : ¬ (((c + 1 : Nat) : Int) ≤ (c : Int)) := by omega
                          go_wp2_with fail
                          go_roundw
                          case rel => exact ⟨a1, true, _, rfl, rfl, by omega, hG3, hBx, hRx, hgx⟩
                          case measure => first | (simp [intOf]; done) | (simp [intOf]; omega)
            · have h92i : ((c0 : Int) == 92) = false := by simp; omega
              rw [hsp (by omega) h92, ← hp1] at hun
              dsimp only at hun
              have hG1 := Lib.hid hun
              clear hun hsp hsb hsn
              obtain ⟨a1, ha1q⟩ : ∃ a1, a1 = p1 := ⟨_, rfl⟩
              rw [← ha1q] at hp1i hG1
              have haa : a < a1 := by omega
              have ha1 : a1 ≤ s.length := by omega
              obtain ⟨c, hcq⟩ : ∃ c, c = c0 := ⟨_, rfl⟩
              rw [← hcq] at va wa h93i h92i hG1
              have hc256 := wa
              clear hcq ha1q hp1 h93 h92
              obtain ⟨b1, hb1⟩ : ∃ b1, b1 = a1 + 1 := ⟨_, rfl⟩
              have hb1i : (a1 : Int) + 1 = (b1 : Int) := by omega
              by_cases u0 : s.length ≤ b1
              · have u0i : ¬ ((b1 : Int) < (s.length : Int)) := by omega
                clear hb1
                have hE : upper s c a1 = some (c, a1) := upper_no (.inl (by omega))
                have hG2 : Hid (G = if c < c then none else setGo s (s.length + 1) a1 true (fill f c c)) := Lib.hid (hG1.out.trans (by simp only [hE]))
                clear hE
                by_cases hlth : c < c
                · have hlti : (c : Int) < (c : Int) := by omega
                  have hGn := Lib.hid (hG2.out.trans (if_pos hlth))
                  go_wp2_with (first
                    | (refine wpList_load_blk rfl 41 (.tmp 4) rfl _ rfl hBi Try.underlying41 rfl (size41p _) ?_)
                    | (refine wpList_store_blk rfl 41 (.tmp 2) (.tmp 101) rfl _ rfl rfl hRi (size41p _) (by rw [pA_size, pA_size]) (pA_one _) ?_; intro w9 hR9 hg9)
                    | fail)
                  refine bodyPost_ret (res_struct2 (p := 2) (u := 3) (v := .int .i64 (-1)) rfl hR9 rfl rfl Try.underlying41 rfl (size41p _)) rfl ?_
                  exact (⟨_, _, rfl, .inl ⟨by rw [hTG.out, hGn.out]; rfl, rfl⟩, gb_own_b hgi hg9 (Nat.le_refl _)⟩ : SetGives w T _ _)
                · have hlti : ¬ ((c : Int) < (c : Int)) := by omega
                  have hG3 := Lib.hid (hG2.out.trans (if_neg hlth))
                  have hc5 : (c : Int) < 256 := by omega
                  go_wp2_with fail
                  go_loopw [9] (fun v9 wi => ∃ x : Nat, v9 = .int .i64 x ∧ c ≤ x ∧ x ≤ c + 1 ∧ Two w wi ⟨3, 0, ng, fillTo f c x⟩ ⟨0, 0, false, none0⟩)
                    (fun v9 _ => 300 - (intOf v9).toNat)
                  case atStart => exact ⟨c, rfl, Nat.le_refl _, by omega, by rw [fillTo_start]; exact ⟨hBi, hRi, hgi⟩⟩
                  case round =>
                    obtain ⟨x, rfl, hcx, hxh, hBx, hRx, hgx⟩ := hrel
                    by_cases hxl : x ≤ c
                    · have hxi : (x : Int) ≤ (c : Int) := by omega
                      have hx5 : (x : Int) < 256 := by omega
                      have kx := pblk_set hBx x (by omega)
                      have fx := hBx.free (3 + x)
                      have hst := pA_set ⟨3, 0, ng, fillTo f c x⟩ x
                      dsimp only at hst
                      rw [fillTo_step f c x hcx] at hst
                      have hBn := hBx.set (3 + x) (.bool true)
                      rw [hst] at hBn
                      clear hst
                      go_wp2_with fail
                      go_roundw
                      case rel => exact ⟨x + 1, by go_num, by omega, by omega, hBn, hRx.other (by omega), gb_new_set hgx (by show w.heap.size ≤ w.heap.size + 1; omega)⟩
                      case measure => first | (simp [intOf]; done) | (simp [intOf]; omega)
                    · have hxe : x = c + 1 := by omega
                      subst hxe
                      rw [fillTo_end] at hBx
                      have hxi : ¬ (((c + 1 : Nat) : Int) ≤ (c : Int)) := by omega
                      go_wp2_with fail
                      go_roundw
                      case rel => exact ⟨a1, true, _, rfl, rfl, by omega, hG3, hBx, hRx, hgx⟩
                      case measure => first | (simp [intOf]; done) | (simp [intOf]; omega)
              · have u0i : (b1 : Int) < (s.length : Int) := by omega
                have ha1i : (a1 : Int) < (s.length : Int) := by omega
                have qa1 : a1 < s.length := by omega
                have qb1 : b1 < s.length := by omega
                have va1 := hx.out a1 qa1
                have vb1 := hx.out b1 qb1
                have wa1 := hlt.out a1 (by omega)
                have wb1 := hlt.out b1 (by omega)
                have hup1 := @upper_no s c a1
                have hup2 := @upper_yes s c a1
                have hsp := @single_plain s b1
                have hsb := @single_back s b1
                have hsn := @single_none s b1
                rw [← hb1] at hup1 hup2
                clear hb1
                replace hup1 := Lib.hid hup1
                replace hup2 := Lib.hid hup2
                replace hsp := Lib.hid hsp
                replace hsb := Lib.hid hsb
                replace hsn := Lib.hid hsn
                obtain ⟨y, hy⟩ : ∃ y, y = s.getD a1 0 := ⟨_, rfl⟩
                obtain ⟨z, hzz⟩ : ∃ z, z = s.getD b1 0 := ⟨_, rfl⟩
                rw [← hy] at va1 wa1
                rw [← hzz] at vb1 wb1
                replace hy := Lib.hid hy
                replace hzz := Lib.hid hzz
                by_cases u1 : y = 45
                · subst u1
                  by_cases u2 : z = 93
                  · subst u2
                    have hE : upper s c a1 = some (c, a1) := hup1.out (.inr (.inr hzz.out.symm))
                    have hG2 : Hid (G = if c < c then none else setGo s (s.length + 1) a1 true (fill f c c)) := Lib.hid (hG1.out.trans (by simp only [hE]))
                    clear hE
                    by_cases hlth : c < c
                    · have hlti : (c : Int) < (c : Int) := by omega
                      have hGn := Lib.hid (hG2.out.trans (if_pos hlth))
                      go_wp2_with (first
                        | (refine wpList_load_blk rfl 41 (.tmp 4) rfl _ rfl hBi Try.underlying41 rfl (size41p _) ?_)
                        | (refine wpList_store_blk rfl 41 (.tmp 2) (.tmp 101) rfl _ rfl rfl hRi (size41p _) (by rw [pA_size, pA_size]) (pA_one _) ?_; intro w9 hR9 hg9)
                        | fail)
                      refine bodyPost_ret (res_struct2 (p := 2) (u := 3) (v := .int .i64 (-1)) rfl hR9 rfl rfl Try.underlying41 rfl (size41p _)) rfl ?_
                      exact (⟨_, _, rfl, .inl ⟨by rw [hTG.out, hGn.out]; rfl, rfl⟩, gb_own_b hgi hg9 (Nat.le_refl _)⟩ : SetGives w T _ _)
                    · have hlti : ¬ ((c : Int) < (c : Int)) := by omega
                      have hG3 := Lib.hid (hG2.out.trans (if_neg hlth))
                      have hc5 : (c : Int) < 256 := by omega
                      go_wp2_with fail
                      go_loopw [9] (fun v9 wi => ∃ x : Nat, v9 = .int .i64 x ∧ c ≤ x ∧ x ≤ c + 1 ∧ Two w wi ⟨3, 0, ng, fillTo f c x⟩ ⟨0, 0, false, none0⟩)
                        (fun v9 _ => 300 - (intOf v9).toNat)
                      case atStart => exact ⟨c, rfl, Nat.le_refl _, by omega, by rw [fillTo_start]; exact ⟨hBi, hRi, hgi⟩⟩
                      case round =>
                        obtain ⟨x, rfl, hcx, hxh, hBx, hRx, hgx⟩ := hrel
                        by_cases hxl : x ≤ c
                        · have hxi : (x : Int) ≤ (c : Int) := by omega
                          have hx5 : (x : Int) < 256 := by omega
                          have kx := pblk_set hBx x (by omega)
                          have fx := hBx.free (3 + x)
                          have hst := pA_set ⟨3, 0, ng, fillTo f c x⟩ x
                          dsimp only at hst
                          rw [fillTo_step f c x hcx] at hst
                          have hBn := hBx.set (3 + x) (.bool true)
                          rw [hst] at hBn
                          clear hst
                          go_wp2_with fail
                          go_roundw
                          case rel => exact ⟨x + 1, by go_num, by omega, by omega, hBn, hRx.other (by omega), gb_new_set hgx (by show w.heap.size ≤ w.heap.size + 1; omega)⟩
                          case measure => first | (simp [intOf]; done) | (simp [intOf]; omega)
                        · have hxe : x = c + 1 := by omega
                          subst hxe
                          rw [fillTo_end] at hBx
                          have hxi : ¬ (((c + 1 : Nat) : Int) ≤ (c : Int)) := by omega
                          go_wp2_with fail
                          go_roundw
                          case rel => exact ⟨a1, true, _, rfl, rfl, by omega, hG3, hBx, hRx, hgx⟩
                          case measure => first | (simp [intOf]; done) | (simp [intOf]; omega)
                  · have u2i : ((z : Int) == 93) = false := by simp; omega
                    have u2j : ((z : Int) != 93) = true := by simp; omega
                    have hU : Hid (upper s c a1 = single s b1) := Lib.hid (hup2.out (by omega) hy.out.symm (by rw [← hzz.out]; exact u2))
                    obtain ⟨b2, hb2⟩ : ∃ b2, b2 = a1 + 2 := ⟨_, rfl⟩
                    have hb2i : (a1 : Int) + 2 = (b2 : Int) := by omega
                    clear hb2
                    by_cases u3 : z = 92
                    · subst u3
                      by_cases u4 : s.length ≤ b2
                      · have u4i : (s.length : Int) ≤ (b2 : Int) := by omega
                        have hE : upper s c a1 = none := hU.out.trans (hsn.out (by omega) hzz.out.symm)
                        have hGn : Hid (G = none) := Lib.hid (hG1.out.trans (by simp only [hE]))
                        clear hE hU
                        go_wp2_with (first
                          | (refine wpList_load_blk rfl 41 (.tmp 4) rfl _ rfl hBi Try.underlying41 rfl (size41p _) ?_)
                          | (refine wpList_store_blk rfl 41 (.tmp 2) (.tmp 92) rfl _ rfl rfl hRi (size41p _) (by rw [pA_size, pA_size]) (pA_one _) ?_; intro w9 hR9 hg9)
                          | fail)
                        refine bodyPost_ret (res_struct2 (p := 2) (u := 3) (v := .int .i64 (-1)) rfl hR9 rfl rfl Try.underlying41 rfl (size41p _)) rfl ?_
                        exact (⟨_, _, rfl, .inl ⟨by rw [hTG.out, hGn.out]; rfl, rfl⟩, gb_own_b hgi hg9 (Nat.le_refl _)⟩ : SetGives w T _ _)
                      · have u4i : ¬ ((s.length : Int) ≤ (b2 : Int)) := by omega
                        have u4j : (b2 : Int) < (s.length : Int) := by omega
                        have qb2 : b2 < s.length := by omega
                        obtain ⟨b3, hb3⟩ : ∃ b3, b3 = b2 + 1 := ⟨_, rfl⟩
                        have hb3i : (b2 : Int) + 1 = (b3 : Int) := by omega
                        have vb2 := hx.out b2 qb2
                        have wb2 := hlt.out b2 (by omega)
                        obtain ⟨hi, hhi⟩ : ∃ hi, hi = s.getD b2 0 := ⟨_, rfl⟩
                        have hE := hU.out.trans (hsb.out (by omega) hzz.out.symm)
                        rw [show b1 + 1 = b2 by omega, ← hhi, show b1 + 2 = b3 by omega] at hE
                        have hG2 : Hid (G = if hi < c then none else setGo s (s.length + 1) b3 true (fill f c hi)) := Lib.hid (hG1.out.trans (by simp only [hE]))
                        rw [← hhi] at vb2 wb2
                        clear hE hU hhi hb3
                        by_cases hlth : hi < c
                        · have hlti : (hi : Int) < (c : Int) := by omega
                          have hGn := Lib.hid (hG2.out.trans (if_pos hlth))
                          go_wp2_with (first
                            | (refine wpList_load_blk rfl 41 (.tmp 4) rfl _ rfl hBi Try.underlying41 rfl (size41p _) ?_)
                            | (refine wpList_store_blk rfl 41 (.tmp 2) (.tmp 101) rfl _ rfl rfl hRi (size41p _) (by rw [pA_size, pA_size]) (pA_one _) ?_; intro w9 hR9 hg9)
                            | fail)
                          refine bodyPost_ret (res_struct2 (p := 2) (u := 3) (v := .int .i64 (-1)) rfl hR9 rfl rfl Try.underlying41 rfl (size41p _)) rfl ?_
                          exact (⟨_, _, rfl, .inl ⟨by rw [hTG.out, hGn.out]; rfl, rfl⟩, gb_own_b hgi hg9 (Nat.le_refl _)⟩ : SetGives w T _ _)
                        · have hlti : ¬ ((hi : Int) < (c : Int)) := by omega
                          have hG3 := Lib.hid (hG2.out.trans (if_neg hlth))
                          have hc5 : (c : Int) < 256 := by omega
                          go_wp2_with fail
                          go_loopw [9] (fun v9 wi => ∃ x : Nat, v9 = .int .i64 x ∧ c ≤ x ∧ x ≤ hi + 1 ∧ Two w wi ⟨3, 0, ng, fillTo f c x⟩ ⟨0, 0, false, none0⟩)
                            (fun v9 _ => 300 - (intOf v9).toNat)
                          case atStart => exact ⟨c, rfl, Nat.le_refl _, by omega, by rw [fillTo_start]; exact ⟨hBi, hRi, hgi⟩⟩
                          case round =>
                            obtain ⟨x, rfl, hcx, hxh, hBx, hRx, hgx⟩ := hrel
                            by_cases hxl : x ≤ hi
                            · have hxi : (x : Int) ≤ (hi : Int) := by omega
                              have hx5 : (x : Int) < 256 := by omega
                              have kx := pblk_set hBx x (by omega)
                              have fx := hBx.free (3 + x)
                              have hst := pA_set ⟨3, 0, ng, fillTo f c x⟩ x
                              dsimp only at hst
                              rw [fillTo_step f c x hcx] at hst
                              have hBn := hBx.set (3 + x) (.bool true)
                              rw [hst] at hBn
                              clear hst
                              go_wp2_with fail
                              go_roundw
                              case rel => exact ⟨x + 1, by go_num, by omega, by omega, hBn, hRx.other (by omega), gb_new_set hgx (by show w.heap.size ≤ w.heap.size + 1; omega)⟩
                              case measure => first | (simp [intOf]; done) | (simp [intOf]; omega)
                            · have hxe : x = hi + 1 := by omega
                              subst hxe
                              rw [fillTo_end] at hBx
                              have hxi : ¬ (((hi + 1 : Nat) : Int) ≤ (hi : Int)) := by omega
                              go_wp2_with fail
                              go_roundw
                              case rel => exact ⟨b3, true, _, rfl, rfl, by omega, hG3, hBx, hRx, hgx⟩
                              case measure => first | (simp [intOf]; done) | (simp [intOf]; omega)
                    · have u3i : ((z : Int) == 92) = false := by simp; omega
                      have hE := hU.out.trans (hsp.out (by omega) (by rw [← hzz.out]; exact u3))
                      rw [← hzz.out, show b1 + 1 = b2 by omega] at hE
                      have hG2 : Hid (G = if z < c then none else setGo s (s.length + 1) b2 true (fill f c z)) := Lib.hid (hG1.out.trans (by simp only [hE]))
                      clear hE hU
                      by_cases hlth : z < c
                      · have hlti : (z : Int) < (c : Int) := by omega
                        have hGn := Lib.hid (hG2.out.trans (if_pos hlth))
                        go_wp2_with (first
                          | (refine wpList_load_blk rfl 41 (.tmp 4) rfl _ rfl hBi Try.underlying41 rfl (size41p _) ?_)
                          | (refine wpList_store_blk rfl 41 (.tmp 2) (.tmp 101) rfl _ rfl rfl hRi (size41p _) (by rw [pA_size, pA_size]) (pA_one _) ?_; intro w9 hR9 hg9)
                          | fail)
                        refine bodyPost_ret (res_struct2 (p := 2) (u := 3) (v := .int .i64 (-1)) rfl hR9 rfl rfl Try.underlying41 rfl (size41p _)) rfl ?_
                        exact (⟨_, _, rfl, .inl ⟨by rw [hTG.out, hGn.out]; rfl, rfl⟩, gb_own_b hgi hg9 (Nat.le_refl _)⟩ : SetGives w T _ _)
                      · have hlti : ¬ ((z : Int) < (c : Int)) := by omega
                        have hG3 := Lib.hid (hG2.out.trans (if_neg hlth))
                        have hc5 : (c : Int) < 256 := by omega
                        go_wp2_with fail
                        go_loopw [9] (fun v9 wi => ∃ x : Nat, v9 = .int .i64 x ∧ c ≤ x ∧ x ≤ z + 1 ∧ Two w wi ⟨3, 0, ng, fillTo f c x⟩ ⟨0, 0, false, none0⟩)
                          (fun v9 _ => 300 - (intOf v9).toNat)
                        case atStart => exact ⟨c, rfl, Nat.le_refl _, by omega, by rw [fillTo_start]; exact ⟨hBi, hRi, hgi⟩⟩
                        case round =>
                          obtain ⟨x, rfl, hcx, hxh, hBx, hRx, hgx⟩ := hrel
                          by_cases hxl : x ≤ z
                          · have hxi : (x : Int) ≤ (z : Int) := by omega
                            have hx5 : (x : Int) < 256 := by omega
                            have kx := pblk_set hBx x (by omega)
                            have fx := hBx.free (3 + x)
                            have hst := pA_set ⟨3, 0, ng, fillTo f c x⟩ x
                            dsimp only at hst
                            rw [fillTo_step f c x hcx] at hst
                            have hBn := hBx.set (3 + x) (.bool true)
                            rw [hst] at hBn
                            clear hst
                            go_wp2_with fail
                            go_roundw
                            case rel => exact ⟨x + 1, by go_num, by omega, by omega, hBn, hRx.other (by omega), gb_new_set hgx (by show w.heap.size ≤ w.heap.size + 1; omega)⟩
                            case measure => first | (simp [intOf]; done) | (simp [intOf]; omega)
                          · have hxe : x = z + 1 := by omega
                            subst hxe
                            rw [fillTo_end] at hBx
                            have hxi : ¬ (((z + 1 : Nat) : Int) ≤ (z : Int)) := by omega
                            go_wp2_with fail
                            go_roundw
                            case rel => exact ⟨b2, true, _, rfl, rfl, by omega, hG3, hBx, hRx, hgx⟩
                            case measure => first | (simp [intOf]; done) | (simp [intOf]; omega)
                · have u1i : ((y : Int) == 45) = false := by simp; omega
                  have hE : upper s c a1 = some (c, a1) := hup1.out (.inr (.inl (by rw [← hy.out]; exact u1)))
                  have hG2 : Hid (G = if c < c then none else setGo s (s.length + 1) a1 true (fill f c c)) := Lib.hid (hG1.out.trans (by simp only [hE]))
                  clear hE
                  by_cases hlth : c < c
                  · have hlti : (c : Int) < (c : Int) := by omega
                    have hGn := Lib.hid (hG2.out.trans (if_pos hlth))
                    go_wp2_with (first
                      | (refine wpList_load_blk rfl 41 (.tmp 4) rfl _ rfl hBi Try.underlying41 rfl (size41p _) ?_)
                      | (refine wpList_store_blk rfl 41 (.tmp 2) (.tmp 101) rfl _ rfl rfl hRi (size41p _) (by rw [pA_size, pA_size]) (pA_one _) ?_; intro w9 hR9 hg9)
                      | fail)
                    refine bodyPost_ret (res_struct2 (p := 2) (u := 3) (v := .int .i64 (-1)) rfl hR9 rfl rfl Try.underlying41 rfl (size41p _)) rfl ?_
                    exact (⟨_, _, rfl, .inl ⟨by rw [hTG.out, hGn.out]; rfl, rfl⟩, gb_own_b hgi hg9 (Nat.le_refl _)⟩ : SetGives w T _ _)
                  · have hlti : ¬ ((c : Int) < (c : Int)) := by omega
                    have hG3 := Lib.hid (hG2.out.trans (if_neg hlth))
                    have hc5 : (c : Int) < 256 := by omega
                    go_wp2_with fail
                    go_loopw [9] (fun v9 wi => ∃ x : Nat, v9 = .int .i64 x ∧ c ≤ x ∧ x ≤ c + 1 ∧ Two w wi ⟨3, 0, ng, fillTo f c x⟩ ⟨0, 0, false, none0⟩)
                      (fun v9 _ => 300 - (intOf v9).toNat)
                    case atStart => exact ⟨c, rfl, Nat.le_refl _, by omega, by rw [fillTo_start]; exact ⟨hBi, hRi, hgi⟩⟩
                    case round =>
                      obtain ⟨x, rfl, hcx, hxh, hBx, hRx, hgx⟩ := hrel
                      by_cases hxl : x ≤ c
                      · have hxi : (x : Int) ≤ (c : Int) := by omega
                        have hx5 : (x : Int) < 256 := by omega
                        have kx := pblk_set hBx x (by omega)
                        have fx := hBx.free (3 + x)
                        have hst := pA_set ⟨3, 0, ng, fillTo f c x⟩ x
                        dsimp only at hst
                        rw [fillTo_step f c x hcx] at hst
                        have hBn := hBx.set (3 + x) (.bool true)
                        rw [hst] at hBn
                        clear hst
                        go_wp2_with fail
                        go_roundw
                        case rel => exact ⟨x + 1, by go_num, by omega, by omega, hBn, hRx.other (by omega), gb_new_set hgx (by show w.heap.size ≤ w.heap.size + 1; omega)⟩
                        case measure => first | (simp [intOf]; done) | (simp [intOf]; omega)
                      · have hxe : x = c + 1 := by omega
                        subst hxe
                        rw [fillTo_end] at hBx
                        have hxi : ¬ (((c + 1 : Nat) : Int) ≤ (c : Int)) := by omega
                        go_wp2_with fail
                        go_roundw
                        case rel => exact ⟨a1, true, _, rfl, rfl, by omega, hG3, hBx, hRx, hgx⟩
                        case measure => first | (simp [intOf]; done) | (simp [intOf]; omega)
end Go.Proofs.Ytbnkdopigjdogaa
