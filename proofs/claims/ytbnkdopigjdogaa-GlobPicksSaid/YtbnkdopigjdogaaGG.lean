/- The walk of glob's Match. -/
import Derived.Test.YtbnkdopigjdogaaGC
import Derived.Test.YtbnkdopigjdogaaGM
import Derived.Test.YtbnkdopigjdogaaGQ
import Derived.Deep.MidRow
namespace Go.Proofs.Ytbnkdopigjdogaa
set_option linter.unusedVariables false
set_option linter.unusedSimpArgs false
open Go.RowKit Go.Own Go.Glob

theorem flat_get : ∀ (l : List Part) (i j : Nat), i < l.length → j < 259 → (l.flatMap pL)[i * 259 + j]? = (pL (l.getD i ⟨0, 0, false, none0⟩))[j]? := by
  intro l
  induction l with
  | nil => intro i j h; cases h
  | cons p l ih =>
    intro i j hi hj
    rw [List.flatMap_cons]
    cases i with
    | zero =>
      rw [List.getElem?_append_left (by rw [pL_len]; omega)]
      simp
    | succ i =>
      rw [List.getElem?_append_right (by rw [pL_len]; omega), pL_len, show (i + 1) * 259 + j - 259 = i * 259 + j by omega, ih i j (by simpa using hi) hj]
      simp

theorem size41L (p : Part) : (Try.prog.info? 41).map (·.size) = some (pL p).length := by rw [pL_len]; exact (zero_of_info info41).2

theorem quiet_load {P : Program} {ops : Array Oper} {C : World → Prop} {o : Oper} {rest : List Oper} {a : Act} {Q : Act → Prop} (hw : Region.wanted o (yielded ops a.tmps) = true) (ty : TypeId) (x : Operand) (ho : o.op = .load ty x) (p : Value) (hx : a.eval x = p) (cs : Array Value)
    (hr : ∀ w, C w → (Instr.loadAt ty p).run P w = .ok (.agg cs) w) (h : ∀ a', a' = a.put o.dst (.agg cs) → wpQuiet P ops C Q rest a') : wpQuiet P ops C Q (o :: rest) a := by
  refine quiet_is (.agg cs) hw (fun w hC => ?_) (h _ rfl)
  simp only [execOp, ho, hx, Sem.run_bind, hr w hC, Sem.run_pure, Result.andThen_ok]
  exact ⟨rfl, rfl⟩

set_option maxHeartbeats 60000000 in
set_option maxRecDepth 100000 in
theorem match12_any (l : List Part) (s : List Nat) (A : Option Addr) (c : Nat) (w : World) {B : Nat} (hR : Rd w B 259 A l.length (l.flatMap pL)) (hB : B ≤ w.heap.size) (hs : ∀ v ∈ s, v < 256) (hl : s.length ≤ 100000) (hll : l.length ≤ 100000) :
    Calls Try.prog 12 #[.agg #[.slice A l.length c], .string (strB s)] w fun e w' => e = .returned (.bool (mt l s)) ∧ w.grownBy w' none := by
  have hz := strB_size s
  have hx := strB_get hs
  have hlt := fun i (h : i < s.length) => byte_lt hs h
  replace hlt := Lib.hid hlt
  replace hx := Lib.hid (fun i (h : i < s.length) => hx i (by rw [hz]; exact h))
  have hsl : s.length < 1000000 := by omega
  have hlll : l.length < 1000000 := by omega
  obtain ⟨T, hT⟩ : ∃ T, T = mt l s := ⟨_, rfl⟩
  have hM0 : MI l s T 0 0 (-1) 0 := hT ▸ MI.start l s
  rw [← hT]
  clear hT
  have hBx := Blk.new w #[.slice A l.length c] 26
  have hgx := gb_alloc (gb_refl w none) (.cells #[.slice A l.length c] 26)
  replace hR := Lib.hid hR
  go_enter Try.func12, Try.ntmps12
  go_wp2_with fail
  go_loopw [5, 6, 7, 8] (fun v5 v6 v7 v8 wi => ∃ (i a b : Nat) (star : Int), v5 = .int .i64 i ∧ v6 = .int .i64 a ∧ v7 = .int .i64 star ∧ v8 = .int .i64 b ∧ MI l s T i a star b ∧ b ≤ a ∧ (w.alloc (.cells #[.slice A l.length c] 26)).grownBy wi none)
    (fun v5 _ _ v8 _ => (s.length + 1 - (intOf v8).toNat) * (l.length + 2) + (l.length - (intOf v5).toNat))
  case atStart => exact ⟨0, 0, 0, -1, rfl, rfl, rfl, rfl, hM0, Nat.le_refl _, gb_refl _ _⟩
  case round =>
    obtain ⟨i, a, b, star, rfl, rfl, rfl, rfl, hM, hba, hgi⟩ := hrel
    clear hM0
    have hil := hM.hi
    have hal := hM.ha
    have hBi := hBx.grown hgi (by simp)
    have kx := hBi.cell 0 (v := .slice A l.length c) rfl
    have hgw := gb_trans hgx hgi
    have hRi := hR.out.later hgw hB
    replace hM := Lib.hid hM
    by_cases has : s.length ≤ a
    · have hai : ¬ ((a : Int) < (s.length : Int)) := by omega
      have hE := hM.out.end' (by omega)
      replace hE := Lib.hid hE
      go_wp2_with fail
      go_loop [5] (fun v5 => ∃ j : Nat, v5 = .int .i64 j ∧ j ≤ l.length ∧ Hid (T = mt (l.drop j) [])) (fun v5 => l.length - (intOf v5).toNat)
      case atStart => exact ⟨i, rfl, hil, hE⟩
      case round =>
        obtain ⟨j, rfl, hjl, hTj⟩ := hrel
        by_cases hj : j < l.length
        · have hji : (j : Int) < (l.length : Int) := by omega
          obtain ⟨g, off, rfl, hgB, hc⟩ := hRi.form (by omega)
          have hkj := hc (j * 259 + 0) (.int .i64 ((l.getD j ⟨0, 0, false, none0⟩).kind : Int)) (by rw [flat_get l j 0 hj (by omega)]; rfl)
          rw [Nat.add_zero] at hkj
          have hst := @mt_rest_star l j hj
          have hen := @mt_rest_end l j hjl
          obtain ⟨p, hp⟩ : ∃ p, p = l.getD j ⟨0, 0, false, none0⟩ := ⟨_, rfl⟩
          rw [← hp] at hkj hst hen
          clear hp hc
          obtain ⟨kd, hkd⟩ : ∃ kd, kd = p.kind := ⟨_, rfl⟩
          rw [← hkd] at hkj hst hen
          clear hkd
          obtain ⟨ad, had⟩ : ∃ ad, ad = off + j * 259 := ⟨_, rfl⟩
          by_cases hk2 : kd = 2
          · have hk2i : ((kd : Int) == 2) = true := by simp; omega
            have hTn := Lib.hid (hTj.out.trans (hst hk2))
            clear hst hen had
            replace hk2 := Lib.hid hk2
            go_wp2_with fail
            go_round
            case rel => exact ⟨j + 1, by go_num, by omega, hTn⟩
            case measure => first | (simp [intOf]; done) | (simp [intOf]; omega)
          · have hk2i : ((kd : Int) == 2) = false := by simp; omega
            have hjn : ((j : Int) == (l.length : Int)) = false := by simp; omega
            have hTn := Lib.hid (hTj.out.trans (hen (fun _ => hk2)))
            clear hst hen had
            go_wp2_with fail
            go_ret
            exact ⟨ret_bool (by rw [hTn.out]; symm; simp; omega), hgw⟩
        · have hji : ¬ ((j : Int) < (l.length : Int)) := by omega
          have hje : j = l.length := by omega
          have hjn : ((j : Int) == (l.length : Int)) = true := by simp; omega
          have hTn := Lib.hid (hTj.out.trans (mt_rest_end hjl (fun h => absurd h hj)))
          replace hje := Lib.hid hje
          go_wp2_with fail
          go_ret
          exact ⟨ret_bool (by rw [hTn.out]; symm; simpa using hje.out), hgw⟩
    · have hai : (a : Int) < (s.length : Int) := by omega
      have qa : a < s.length := by omega
      have va := hx.out a qa
      have wa := hlt.out a qa
      obtain ⟨ch, hch⟩ : ∃ ch, ch = s.getD a 0 := ⟨_, rfl⟩
      rw [← hch] at va wa
      replace hch := Lib.hid hch
      by_cases hi : i < l.length
      · have hii : (i : Int) < (l.length : Int) := by omega
        obtain ⟨g, off, rfl, hgB, hc⟩ := hRi.form (by omega)
        have hkj := hc (i * 259 + 0) (.int .i64 ((l.getD i ⟨0, 0, false, none0⟩).kind : Int)) (by rw [flat_get l i 0 hi (by omega)]; rfl)
        rw [Nat.add_zero] at hkj
        have hrow : wr.rangeAt g (off + i * 259) (pL (l.getD i ⟨0, 0, false, none0⟩)) := by
          intro j v hv
          have hj : j < 259 := by
            have := (List.getElem?_eq_some_iff.1 hv).1
            rw [pL_len] at this
            exact this
          rw [Nat.add_assoc]
          exact hc _ _ (by rw [flat_get l i j hi hj]; exact hv)
        obtain ⟨p, hp⟩ : ∃ p, p = l.getD i ⟨0, 0, false, none0⟩ := ⟨_, rfl⟩
        rw [← hp] at hkj hrow
        clear hc
        replace hp := Lib.hid hp
        have hld : ∀ x : In (Later wr), (Instr.loadAt 41 (.pointer (some ⟨g, off + i * 259, none⟩))).run Try.prog x.w = .ok (.agg (pA p)) x.w := fun x =>
          run_loadAt_mid x.w g (off + i * 259) 41 (pL p) _ (fun j v hv => World.grownBy.cell x.ok (hrow j v hv) (by simp)) Try.underlying41 rfl (size41L p)
        clear hrow
        by_cases hk2 : p.kind = 2
        · have hk2i : ((p.kind : Int) == 2) = true := by simp; omega
          have hMn := hM.out.atStar hi (hp.out ▸ hk2)
          replace hk2 := Lib.hid hk2
          replace hMn := Lib.hid hMn
          clear hld
          obtain ⟨kd, hkd⟩ : ∃ kd, kd = p.kind := ⟨_, rfl⟩
          rw [← hkd] at hkj hk2i
          clear hkd
          go_wp2_with fail
          go_roundw
          case rel => exact ⟨i + 1, a, a, (i : Int), by go_num, rfl, rfl, rfl, hMn.out, Nat.le_refl _, hgi⟩
          case measure =>
            have := meas_up (S := s.length) hba hi
            simp [intOf] at *
            exact this
        · have hk2i : ((p.kind : Int) == 2) = false := by simp; omega
          have hfit := fun x : In (Later wr) => fits_any p ch x.w wa
          obtain ⟨cs, hcs⟩ : ∃ cs, cs = pA p := ⟨_, rfl⟩
          rw [← hcs] at hld hfit
          obtain ⟨kd, hkd⟩ : ∃ kd, kd = p.kind := ⟨_, rfl⟩
          rw [← hkd] at hkj hk2i
          have kxx := fun x : In (Later wr) => Later.cell kx x
          by_cases hf : fits p ch = true
          · have hMn := hM.out.fit hi qa (by rw [← hp.out]; exact hk2) (by rw [← hp.out, ← hch.out]; exact hf)
            rw [hf] at hfit
            replace hMn := Lib.hid hMn
            replace hf := Lib.hid hf
            replace hfit := Lib.hid hfit
            clear hcs hkd
            go_wp2_with fail
            refine wp_region_in (Later wr) (by kernel_rfl) (by kernel_rfl) (Later.start _) ?_
            repeat (go_big_quiet_step ((first | rfl | (go_at_call 16; exact later_call _ (hfit.out _)))))
            refine quiet_load rfl 41 (.tmp 42) rfl _ rfl cs (fun w' hw' => by obtain ⟨x, rfl⟩ := hw'; exact hld x) ?_
            intro a' ha'
            simp only [go_sem, List.setIfInBounds_toArray, List.set_cons_succ, List.set_cons_zero] at ha'
            subst ha'
            repeat (go_big_quiet_step ((first | rfl | (go_at_call 16; exact later_call _ (hfit.out _)))))
            refine wpQuiet_nil ?_
            rintro _ ⟨x, rfl⟩
            go_wp2_with fail
            go_roundw
            case rel => exact ⟨i + 1, a + 1, b, star, by go_num, by go_num, rfl, rfl, hMn.out, by omega, gb_trans hgi x.ok⟩
            case measure =>
              have := meas_up (S := s.length) (Nat.le_refl b) hi
              simp [intOf] at *
              exact this
          · have hf' : fits p ch = false := by simpa using hf
            have hn := no_fit (l := l) (s := s) (i := i) (a := a) (fun _ => by rw [← hp.out]; exact hk2) (fun _ => by rw [← hp.out, ← hch.out]; exact hf') qa
            rw [hf'] at hfit
            replace hf := Lib.hid hf
            replace hfit := Lib.hid hfit
            clear hf'
            clear hcs hkd
            rcases hM.out.star_cases with h1 | ⟨st, h1⟩
            · have hTf := MI.none (h1 ▸ hM.out) hn
              replace hn := Lib.hid hn
              clear hM
              subst h1
              go_wp2_with fail
              refine wp_region_in (Later wr) (by kernel_rfl) (by kernel_rfl) (Later.start _) ?_
              repeat (go_big_quiet_step ((first | rfl | (go_at_call 16; exact later_call _ (hfit.out _)))))
              refine quiet_load rfl 41 (.tmp 42) rfl _ rfl cs (fun w' hw' => by obtain ⟨x, rfl⟩ := hw'; exact hld x) ?_
              intro a' ha'
              simp only [go_sem, List.setIfInBounds_toArray, List.set_cons_succ, List.set_cons_zero] at ha'
              subst ha'
              repeat (go_big_quiet_step ((first | rfl | (go_at_call 16; exact later_call _ (hfit.out _)))))
              refine wpQuiet_nil ?_
              rintro _ ⟨x, rfl⟩
              go_wp2_with fail
              go_ret
              exact ⟨ret_bool hTf.symm, gb_trans hgw x.ok⟩
            · subst h1
              obtain ⟨hMn, hbs, hst⟩ := hM.out.again qa hn
              replace hn := Lib.hid hn
              replace hMn := Lib.hid hMn
              have hsti : ¬ ((st : Int) < 0) := by omega
              have hstj : (0 : Int) ≤ (st : Int) := by omega
              go_wp2_with fail
              refine wp_region_in (Later wr) (by kernel_rfl) (by kernel_rfl) (Later.start _) ?_
              repeat (go_big_quiet_step ((first | rfl | (go_at_call 16; exact later_call _ (hfit.out _)))))
              refine quiet_load rfl 41 (.tmp 42) rfl _ rfl cs (fun w' hw' => by obtain ⟨x, rfl⟩ := hw'; exact hld x) ?_
              intro a' ha'
              simp only [go_sem, List.setIfInBounds_toArray, List.set_cons_succ, List.set_cons_zero] at ha'
              subst ha'
              repeat (go_big_quiet_step ((first | rfl | (go_at_call 16; exact later_call _ (hfit.out _)))))
              refine wpQuiet_nil ?_
              rintro _ ⟨x, rfl⟩
              go_wp2_with fail
              go_roundw
              case rel => exact ⟨st + 1, b + 1, b + 1, (st : Int), by go_num, by go_num, rfl, by go_num, hMn.out, Nat.le_refl _, gb_trans hgi x.ok⟩
              case measure =>
                have := meas_back (S := s.length) (L := l.length) (j := st + 1) hbs hil
                simp [intOf] at *
                exact this
      · have hii : ¬ ((i : Int) < (l.length : Int)) := by omega
        have hn := no_fit (l := l) (s := s) (i := i) (a := a) (fun h => absurd h hi) (fun h => absurd h hi) qa
        have kxx := fun x : In (Later wr) => Later.cell kx x
        rcases hM.out.star_cases with h1 | ⟨st, h1⟩
        · have hTf := MI.none (h1 ▸ hM.out) hn
          replace hn := Lib.hid hn
          clear hM
          subst h1
          go_wp2_with fail
          refine wp_region_in (Later wr) (by kernel_rfl) (by kernel_rfl) (Later.start _) ?_
          repeat (go_big_quiet_step (rfl))
          refine wpQuiet_nil ?_
          rintro _ ⟨x, rfl⟩
          go_wp2_with fail
          go_ret
          exact ⟨ret_bool hTf.symm, gb_trans hgw x.ok⟩
        · subst h1
          obtain ⟨hMn, hbs, hst⟩ := hM.out.again qa hn
          replace hn := Lib.hid hn
          replace hMn := Lib.hid hMn
          have hsti : ¬ ((st : Int) < 0) := by omega
          have hstj : (0 : Int) ≤ (st : Int) := by omega
          go_wp2_with fail
          refine wp_region_in (Later wr) (by kernel_rfl) (by kernel_rfl) (Later.start _) ?_
          repeat (go_big_quiet_step (rfl))
          refine wpQuiet_nil ?_
          rintro _ ⟨x, rfl⟩
          go_wp2_with fail
          go_roundw
          case rel => exact ⟨st + 1, b + 1, b + 1, (st : Int), by go_num, by go_num, rfl, by go_num, hMn.out, Nat.le_refl _, gb_trans hgi x.ok⟩
          case measure =>
            have := meas_back (S := s.length) (L := l.length) (j := st + 1) hbs hil
            simp [intOf] at *
            exact this
end Go.Proofs.Ytbnkdopigjdogaa
