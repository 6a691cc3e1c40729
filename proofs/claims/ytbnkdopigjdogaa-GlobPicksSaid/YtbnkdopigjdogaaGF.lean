/- The walk of glob's Parse. -/
import Derived.Test.YtbnkdopigjdogaaGD
namespace Go.Proofs.Ytbnkdopigjdogaa
set_option linter.unusedVariables false
set_option linter.unusedSimpArgs false
open Go.RowKit Go.Own Go.Glob

section
variable {P : Program} {ops : Array Oper} {rest : List Oper} {o : Oper} {a : Act} {w : World} {Q : Exit → Act → World → Prop}
/-! The laws of whole blocks once more, the operation's form asked first: where it does not fit, that shows at once. -/
theorem bLoad (ty : TypeId) (x : Operand) (ho : o.op = .load ty x) (hw : Region.wanted o (yielded ops a.tmps) = true) (g : Nat) (hx : a.eval x = .pointer (some ⟨g, 0, none⟩)) {cs : Array Value} {t : TypeId} (hB : Blk w g cs t) {d : TypeDesc}
    (hu : P.underlying ty = some d) (hd : d.isRow = true) (hi : (P.info? ty).map (·.size) = some cs.size)
    (h : wpList P ops Q rest (a.put o.dst (.agg cs)) w) : wpList P ops Q (o :: rest) a w := wpList_load_blk hw ty x ho g hx hB hu hd hi h
theorem bStore (ty : TypeId) (x y : Operand) (ho : o.op = .store ty x y) (hw : Region.wanted o (yielded ops a.tmps) = true) (g : Nat) (hx : a.eval x = .pointer (some ⟨g, 0, none⟩)) {old cs : Array Value} {t : TypeId} (hy : a.eval y = .agg cs) (hB : Blk w g old t)
    (hi : (P.info? ty).map (·.size) = some cs.size) (hs : old.size = cs.size) (h1 : ∀ u ∈ cs.toList, u.oneCell' = true)
    (h : ∀ w', Blk w' g cs t → w.grownBy w' (some g) → wpList P ops Q rest (a.put o.dst undef) w') : wpList P ops Q (o :: rest) a w := wpList_store_blk hw ty x y ho g hx hy hB hi hs h1 h
theorem bAlloc (ty : TypeId) (ho : o.op = .alloc ty) (hw : Region.wanted o (yielded ops a.tmps) = true) {cs : Array Value} (hz : ∀ w, (zeroValue ty).run P w = .ok (.agg cs) w)
    (h : wpList P ops Q rest (a.put o.dst (.pointer (some ⟨w.heap.size, 0, none⟩))) (w.alloc (.cells cs ty))) : wpList P ops Q (o :: rest) a w := wpList_alloc_blk hw ty ho hz h
theorem bBuild (ty : TypeId) (ps : List (Nat × Operand)) (ho : o.op = .build ty ps.toArray) (hw : Region.wanted o (yielded ops a.tmps) = true) {cs : Array Value} (hb : ∀ w, (Instr.build ty (ps.map fun x => (x.1, a.eval x.2)).toArray).run P w = .ok (.agg cs) w)
    (h : wpList P ops Q rest (a.put o.dst (.agg cs)) w) : wpList P ops Q (o :: rest) a w := wpList_build_blk hw ty ps ho hb h
theorem bBuildSlice (ty : TypeId) (n : Nat) (ps : List (Nat × Operand)) (ho : o.op = .buildSlice ty n ps.toArray) (hw : Region.wanted o (yielded ops a.tmps) = true) {v : Value} {w' : World} (hb : (Instr.buildSlice ty n (ps.map fun x => (x.1, a.eval x.2)).toArray).run P w = .ok v w')
    (h : wpList P ops Q rest (a.put o.dst v) w') : wpList P ops Q (o :: rest) a w := wpList_buildSlice_blk hw ty n ps ho hb h
end

theorem info41_parts : ∃ i, Try.prog.info? 41 = some i ∧ i.zero = some (.agg (pA ⟨0, 0, false, none0⟩)) ∧ i.size = 259 ∧ i.bytes = 272 := by
  have h := info41b
  cases hi : Try.prog.info? 41 with
  | none => rw [hi] at h; cases h
  | some i =>
    rw [hi] at h
    injection h with h
    injection h with h1 h
    injection h with h2 h3
    exact ⟨i, rfl, h1, h2, h3⟩

theorem size26 : (Try.prog.info? 26).map (·.size) = some 1 := by kernel_rfl
theorem zero26 (w : World) : (zeroValue 26).run Try.prog w = .ok (.agg #[.slice none 0 0]) w := by kernel_rfl
theorem build26 (w : World) : (Instr.build 26 #[]).run Try.prog w = .ok (.agg #[.slice none 0 0]) w := by kernel_rfl

def P0 : Part := ⟨0, 0, false, none0⟩

/-- The parse under way. -/
structure PS (w wi : World) (A : Option Addr) (c : Nat) (l : List Part) : Prop where
  own : Own wi (w.heap.size + 2) 41 259 A c l.length (l.flatMap pL)
  out : Blk wi (w.heap.size + 1) #[.slice A l.length c] 26
  res : Blk wi w.heap.size #[.slice none 0 0] 26
  gb : w.grownBy wi none

section
variable {w wi w1 : World} {A : Option Addr} {c : Nat} {l : List Part}
theorem PS.lt (h : PS w wi A c l) : w.heap.size + 2 ≤ wi.heap.size := h.out.lt
theorem PS.na (h : PS w wi A c l) : blk A ≠ some wi.heap.size := fun e => by have := (h.own.lt _ e).2; omega
theorem PS.store {g : Nat} (h : PS w wi A c l) (hg : wi.grownBy w1 (some g)) (hn : blk A ≠ some g) (hb : w.heap.size + 2 ≤ g) : PS w w1 A c l :=
  ⟨h.own.grown hg (.inr hn), h.out.grown hg (by intro e; injection e with e; omega), h.res.grown hg (by intro e; injection e with e; omega), gb_own_b h.gb hg (by omega)⟩
theorem PS.first {o : Obj} (h : PS w wi A c l) (hg : (wi.alloc o).grownBy w1 (some wi.heap.size)) : PS w w1 A c l :=
  ⟨(h.own.alloc o).grown hg (.inr h.na), (h.out.alloc o).grown hg (by intro e; injection e with e; have := h.lt; omega), (h.res.alloc o).grown hg (by intro e; injection e with e; have := h.lt; omega),
    gb_own_b (gb_alloc h.gb o) hg (by have := h.lt; omega)⟩
theorem PS.later (h : PS w wi A c l) (hg : wi.grownBy w1 none) : PS w w1 A c l :=
  ⟨h.own.grown0 hg, h.out.grown hg (by simp), h.res.grown hg (by simp), gb_trans h.gb hg⟩
theorem PS.app {p : Part} {g c' : Nat} (h : PS w wi A c l) (ho : Own w1 (w.heap.size + 2) 41 259 (some ⟨g, 0, none⟩) c' (l.length + 1) (l.flatMap pL ++ pL p)) (hg : wi.grownBy w1 (blk A)) (hb : w.heap.size + 2 ≤ g) :
    PS w (w1.setCell ⟨w.heap.size + 1, 0, none⟩ (.slice (some ⟨g, 0, none⟩) (l.length + 1) c')) (some ⟨g, 0, none⟩) c' (l ++ [p]) := by
  have hA : ∀ k, blk A = some k → w.heap.size + 2 ≤ k := fun k e => (h.own.lt k e).1
  refine ⟨?_, ?_, ?_, ?_⟩
  · have := ho.other (p := ⟨w.heap.size + 1, 0, none⟩) (by intro e; injection e with e; dsimp only at e; omega) (.slice (some ⟨g, 0, none⟩) (l.length + 1) c')
    simpa using this
  · have := (h.out.grown hg (by intro e; have := hA _ e.symm; omega)).set 0 (.slice (some ⟨g, 0, none⟩) (l.length + 1) c')
    simpa using this
  · exact (h.res.grown hg (by intro e; have := hA _ e.symm; omega)).other (by omega)
  · exact gb_new_set (gb_own h.gb hg (fun k e => by have := hA k e; omega)) (by show w.heap.size ≤ w.heap.size + 1; omega)
end

theorem parseGo_unfold (s : List Nat) (a : Nat) : parseGo s s.length a =
    if s.length ≤ a then some []
    else if s.getD a 0 = 63 then (parseGo s s.length (a + 1)).map (⟨1, 0, false, none0⟩ :: ·)
    else if s.getD a 0 = 42 then (parseGo s s.length (a + 1)).map (⟨2, 0, false, none0⟩ :: ·)
    else if s.getD a 0 = 91 then
      match setS (s.drop (a + 1)) with
      | none => none
      | some (p, k) => (parseGo s s.length (a + 1 + k)).map (p :: ·)
    else match single s a with
      | none => none
      | some (c, a1) => (parseGo s s.length a1).map (⟨0, c, false, none0⟩ :: ·) := by
  by_cases h : s.length ≤ a
  · rw [if_pos h]
    cases hn : s.length with
    | zero => rw [parseGo]
    | succ n => rw [parseGo, if_pos h]
  · rw [parseGo_more s s.length (s.length + 1) a (by omega) (by omega), parseGo]
    rfl

/-- The rest of a pattern, behind what has been read. -/
def restP (s : List Nat) (a : Nat) (l : List Part) : Option (List Part) := (parseGo s s.length a).map (l ++ ·)
theorem restP_cons (s : List Nat) (a : Nat) (l : List Part) (p : Part) : ((parseGo s s.length a).map (p :: ·)).map (l ++ ·) = restP s a (l ++ [p]) := by
  unfold restP
  rw [Option.map_map]
  congr 1
  funext x
  simp
theorem restP_end {s : List Nat} {a : Nat} {l : List Part} (h : s.length ≤ a) : restP s a l = some l := by
  unfold restP
  rw [parseGo_unfold, if_pos h]
  simp
theorem restP_any {s : List Nat} {a a' : Nat} {l : List Part} {p : Part} (h : a < s.length) (hc : s.getD a 0 = 63 ∧ p = ⟨1, 0, false, none0⟩ ∨ s.getD a 0 = 42 ∧ p = ⟨2, 0, false, none0⟩) (ha : a' = a + 1) : restP s a l = restP s a' (l ++ [p]) := by
  rw [← restP_cons, restP, parseGo_unfold, if_neg (by omega), ha]
  rcases hc with ⟨h1, rfl⟩ | ⟨h1, rfl⟩
  · rw [if_pos h1]
  · rw [if_neg (by omega), if_pos h1]
theorem restP_one {s : List Nat} {a a1 c : Nat} {l : List Part} (h1 : s.getD a 0 ≠ 63) (h2 : s.getD a 0 ≠ 42) (h3 : s.getD a 0 ≠ 91) (hs : single s a = some (c, a1)) : restP s a l = restP s a1 (l ++ [⟨0, c, false, none0⟩]) := by
  have := single_pos hs
  rw [← restP_cons, restP, parseGo_unfold, if_neg (by omega), if_neg h1, if_neg h2, if_neg h3, hs]
theorem restP_bad {s : List Nat} {a : Nat} {l : List Part} (h : a < s.length) (h1 : s.getD a 0 ≠ 63) (h2 : s.getD a 0 ≠ 42) (h3 : s.getD a 0 ≠ 91) (hs : single s a = none) : restP s a l = none := by
  rw [restP, parseGo_unfold, if_neg (by omega), if_neg h1, if_neg h2, if_neg h3, hs]
  rfl
theorem restP_set {s : List Nat} {a a1 a2 k : Nat} {p : Part} {l : List Part} (h : a < s.length) (h3 : s.getD a 0 = 91) (ha : a1 = a + 1) (hs : setS (s.drop a1) = some (p, k)) (h2 : a2 = a1 + k) : restP s a l = restP s a2 (l ++ [p]) := by
  subst ha h2
  rw [← restP_cons, restP, parseGo_unfold, if_neg (by omega), if_neg (by omega), if_neg (by omega), if_pos h3, hs]
theorem restP_set_bad {s : List Nat} {a a1 : Nat} {l : List Part} (h : a < s.length) (h3 : s.getD a 0 = 91) (ha : a1 = a + 1) (hs : setS (s.drop a1) = none) : restP s a l = none := by
  subst ha
  rw [restP, parseGo_unfold, if_neg (by omega), if_neg (by omega), if_neg (by omega), if_pos h3, hs]
  rfl

/-- What Parse answers. -/
def ParseGives (w : World) (s : List Nat) (T : Option (List Part)) (e : Ending) (w' : World) : Prop :=
  w.grownBy w' none ∧ ((s.length > 1000 ∧ e = .returned (.tuple #[.agg #[.slice none 0 0], .int .i64 29])) ∨
    (s.length ≤ 1000 ∧ T = none ∧ e = .returned (.tuple #[.agg #[.slice none 0 0], .int .i64 21])) ∨
    (s.length ≤ 1000 ∧ ∃ l A c, T = some l ∧ l.length ≤ s.length ∧ e = .returned (.tuple #[.agg #[.slice A l.length c], .int .i64 0]) ∧ Rd w' w'.heap.size 259 A l.length (l.flatMap pL)))

theorem size24 : (Try.prog.info? 24).map (·.size) = some 1 := by kernel_rfl
theorem setz_none {p : Part} {z : Int} (h : ((none : Option (Part × Nat)) = none ∧ z = -1) ∨ ∃ k : Nat, (none : Option (Part × Nat)) = some (p, k) ∧ z = (k : Int)) : z = -1 := by
  rcases h with h | ⟨k, h, _⟩
  · exact h.2
  · cases h
theorem setz_some {p q : Part} {k : Nat} {z : Int} (h : (some (p, k) = none ∧ z = -1) ∨ ∃ k' : Nat, some (p, k) = some (q, k') ∧ z = (k' : Int)) : p = q ∧ z = (k : Int) := by
  rcases h with h | ⟨k', h, hz⟩
  · cases h.1
  · injection h with h
    injection h with h1 h2
    exact ⟨h1, by rw [hz, h2]⟩

theorem one26 (A : Option Addr) (n c : Nat) : ∀ u ∈ (#[.slice A n c] : Array Value).toList, u.oneCell' = true := by
  intro u hu
  simp at hu
  subst hu
  rfl

set_option maxHeartbeats 60000000 in
set_option maxRecDepth 100000 in
theorem parse6_any (s : List Nat) (w : World) (hs : ∀ v ∈ s, v < 256) (hl : s.length ≤ 100000) :
    Calls Try.prog 6 #[.string (strB s)] w (ParseGives w s (parse s)) := by
  have hz := strB_size s
  have hx := strB_get hs
  have hlt := fun i (h : i < s.length) => byte_lt hs h
  have hd := fun (a : Nat) => strB_drop s a s.length rfl
  replace hx := Lib.hid (fun i (h : i < s.length) => hx i (by rw [hz]; exact h))
  replace hlt := Lib.hid hlt
  replace hd := Lib.hid hd
  have hcc : Hid (∀ (a : Nat) (sa : ByteArray), sa = strB (s.drop a) → ∀ w', Calls Try.prog 13 #[.string sa] w' (SetGives w' (setS (s.drop a)))) :=
    Lib.hid fun a sa h w' => by rw [h]; exact set13_any (s.drop a) w' (fun v hv => hs v (List.mem_of_mem_drop hv)) (by rw [List.length_drop]; omega)
  have hsl : s.length < 1000000 := by omega
  obtain ⟨it, hi, hz0, hz1, hz2⟩ := info41_parts
  replace hi := Lib.hid hi
  replace hz0 := Lib.hid hz0
  obtain ⟨T, hT⟩ : ∃ T, T = parse s := ⟨_, rfl⟩
  rw [← hT]
  have hTr : T = restP s 0 [] := by rw [hT]; unfold parse restP; simp
  replace hTr := Lib.hid hTr
  clear hT
  have hR0 := Blk.new w #[.slice none 0 0] 26
  have hfree := hR0.free 0
  by_cases h1000 : s.length ≤ 1000
  · have h1i : (s.length : Int) ≤ 1000 := by omega
    have h1j : ¬ ((1000 : Int) < (s.length : Int)) := by omega
    have hR1 := hR0.alloc (.cells #[.slice none 0 0] 26)
    have hO1 := Blk.new (w.alloc (.cells #[.slice none 0 0] 26)) #[.slice none 0 0] 26
    have hg1 := gb_alloc (gb_alloc (gb_refl w none) (.cells #[.slice none 0 0] 26)) (.cells #[.slice none 0 0] 26)
    have hPS : PS w ((w.alloc (.cells #[.slice none 0 0] 26)).alloc (.cells #[.slice none 0 0] 26)) none 0 [] := ⟨Own.nil _ _ _ _, by (have := hO1; rw [World.size_alloc] at this; exact this), hR1, hg1⟩
    clear hR1 hO1 hg1 hR0 hfree
    go_enter Try.func6, Try.ntmps6
    go_wp2_with (first
      | (apply bAlloc 26; (case ho => exact rfl); (case hw => exact rfl); (case hz => exact zero26))
      | fail)
    go_loopw [5] (fun v5 wi => ∃ (a : Nat) (l : List Part) (A : Option Addr) (c : Nat), v5 = .int .i64 a ∧ a ≤ s.length ∧ l.length ≤ a ∧ Hid (T = restP s a l) ∧ PS w wi A c l)
      (fun v5 _ => s.length - (intOf v5).toNat)
    case atStart => exact ⟨0, [], none, 0, rfl, by omega, by simp, hTr, hPS⟩
    case round =>
      obtain ⟨a, l, A, c, rfl, ha, hla, hTa, hP⟩ := hrel
      clear hPS hTr
      by_cases hal : s.length ≤ a
      · have hali : ¬ ((a : Int) < (s.length : Int)) := by omega
        have hTl := Lib.hid (hTa.out.trans (restP_end hal))
        go_wp2_with (first
          | (apply bLoad 26 (.tmp 4); (case ho => exact rfl); (case hu => exact Try.underlying26); (case hw => exact rfl); (case hx => exact rfl); (case hB => exact hP.out); (case hd => exact rfl); (case hi => exact size26))
          | (apply bStore 26 (.tmp 2) (.tmp 66); (case ho => exact rfl); (case hw => exact rfl); (case hx => exact rfl); (case hy => exact rfl); (case hB => exact hP.res); (case hi => exact size26); (case hs => exact rfl); (case h1 => exact one26 _ _ _); intro w9 hR9 hg9)
          | fail)
        refine bodyPost_ret (res_struct2 (p := 2) (u := 3) (v := .int .i64 0) rfl hR9 rfl rfl Try.underlying26 rfl size26) rfl ?_
        have hO9 := hP.own.grown hg9 (.inr (fun e => by have := (hP.own.lt _ e).1; omega))
        exact (⟨gb_own_b hP.gb hg9 (Nat.le_refl _), .inr (.inr ⟨by omega, l, A, c, hTl.out, by omega, rfl, hO9.rd⟩)⟩ : ParseGives w s T _ _)
      · have hali : (a : Int) < (s.length : Int) := by omega
        have qa : a < s.length := by omega
        have va := hx.out a qa
        have wa := hlt.out a qa
        have hAne : ∀ (u : Unit), some (w.heap.size + 1) ≠ blk A := fun _ e => by have := (hP.own.lt _ e.symm).1; omega
        replace hAne := Lib.hid hAne
        have hnA : blk A ≠ some wr.heap.size := hP.na
        have hgb : w.heap.size + 2 ≤ wr.heap.size := hP.lt
        have hby : (l.length + 1) * 272 ≤ 140737488355328 := by omega
        replace hnA := Lib.hid hnA
        obtain ⟨c0, hc0⟩ : ∃ c0, c0 = s.getD a 0 := ⟨_, rfl⟩
        rw [← hc0] at va wa
        replace hc0 := Lib.hid hc0
        obtain ⟨p1, hp1⟩ : ∃ p1, p1 = a + 1 := ⟨_, rfl⟩
        have hp1i : (a : Int) + 1 = (p1 : Int) := by omega
        replace hp1 := Lib.hid hp1
        by_cases h63 : c0 = 63
        · have h63i : ((c0 : Int) == 63) = true := by simp; omega
          replace h63 := Lib.hid h63
          go_wp2_with (first
            | ((have hGUARD := hB1); clear hGUARD; apply bBuild 41; (case ho => exact rfl); (case hw => exact rfl); (case hb => exact (fun w => build41_kind 1 w)))
            | (apply bStore 41 (.tmp 6) (.tmp 25); (case ho => exact rfl); (case hw => exact rfl); (case hx => exact rfl); (case hy => exact rfl); (case hB => exact hB1); (case hi => exact size41p _); (case hs => rw [pA_size, pA_size]); (case h1 => exact pA_one _); intro w2 hB2 hg2; (have hP2 := hP1.store hg2 hnA.out hgb); (have k2 := hP2.out.cell 0 (v := .slice A l.length c) rfl))
            | (apply bBuild 41; (case ho => exact rfl); (case hw => exact rfl); (case hb => exact (fun w => build41_byte c0 w)))
            | (apply bAlloc 41; (case ho => exact rfl); (case hw => exact rfl); (case hz => exact zero41))
            | (apply bStore 41 (.tmp 6) (.tmp 19); (case ho => exact rfl); (case hw => exact rfl); (case hx => exact rfl); (case hy => exact rfl); (case hB => exact (Blk.new wr (pA ⟨0, 0, false, none0⟩) 41)); (case hi => exact size41p _); (case hs => rw [pA_size, pA_size]); (case h1 => exact pA_one _); intro w1 hB1 hg1; (have hP1 : PS w w1 A c l := hP.first hg1); (have k1 := hP1.out.cell 0 (v := .slice A l.length c) rfl))
            | (apply bLoad 41 (.tmp 6); (case ho => exact rfl); (case hu => exact Try.underlying41); (case hw => exact rfl); (case hx => exact rfl); (case hB => exact hB2); (case hd => exact rfl); (case hi => exact (size41p _)))
            | (apply bBuildSlice 24 1; (case ho => exact rfl); (case hw => exact rfl); (case hb => exact buildSlice24 (⟨1, 0, false, none0⟩) w2))
            | (at_builtin; refine wpList_app1 w2 rfl (.tmp 58) (.tmp 60) 24 rfl (w.heap.size + 2) 41 Try.underlying24 hi.out hz0.out hz1 hz2 (pA_size _) (by decide) A c l.length (l.flatMap pL) rfl hP2.own (pL (⟨1, 0, false, none0⟩)) 41 1 rfl (pL_len _) (pL_one _) hby (by decide) hP2.lt ?_; intro g9 c9 w9 ho9 hg9 hl9 hb9 hlt9; (have hP9 := hP2.app ho9 hg9 hb9); (have f9 := (hP2.out.grown hg9 (hAne.out ())).free 0); (have k9 := (hP2.out.grown hg9 (hAne.out ())).cell 0 (v := .slice A l.length c) rfl))
            | fail)
          go_roundw
          case rel => exact ⟨p1, _, _, _, rfl, by omega, by simp; omega, Lib.hid (hTa.out.trans (restP_any qa (.inl ⟨hc0.out.symm.trans h63.out, rfl⟩) hp1.out)), by simpa using hP9⟩
          case measure => first | (simp [intOf]; done) | (simp [intOf]; omega)
        · have h63i : ((c0 : Int) == 63) = false := by simp; omega
          by_cases h42 : c0 = 42
          · have h42i : ((c0 : Int) == 42) = true := by simp; omega
            replace h42 := Lib.hid h42
            go_wp2_with (first
              | ((have hGUARD := hB1); clear hGUARD; apply bBuild 41; (case ho => exact rfl); (case hw => exact rfl); (case hb => exact (fun w => build41_kind 2 w)))
              | (apply bStore 41 (.tmp 6) (.tmp 28); (case ho => exact rfl); (case hw => exact rfl); (case hx => exact rfl); (case hy => exact rfl); (case hB => exact hB1); (case hi => exact size41p _); (case hs => rw [pA_size, pA_size]); (case h1 => exact pA_one _); intro w2 hB2 hg2; (have hP2 := hP1.store hg2 hnA.out hgb); (have k2 := hP2.out.cell 0 (v := .slice A l.length c) rfl))
              | (apply bBuild 41; (case ho => exact rfl); (case hw => exact rfl); (case hb => exact (fun w => build41_byte c0 w)))
              | (apply bAlloc 41; (case ho => exact rfl); (case hw => exact rfl); (case hz => exact zero41))
              | (apply bStore 41 (.tmp 6) (.tmp 19); (case ho => exact rfl); (case hw => exact rfl); (case hx => exact rfl); (case hy => exact rfl); (case hB => exact (Blk.new wr (pA ⟨0, 0, false, none0⟩) 41)); (case hi => exact size41p _); (case hs => rw [pA_size, pA_size]); (case h1 => exact pA_one _); intro w1 hB1 hg1; (have hP1 : PS w w1 A c l := hP.first hg1); (have k1 := hP1.out.cell 0 (v := .slice A l.length c) rfl))
              | (apply bLoad 41 (.tmp 6); (case ho => exact rfl); (case hu => exact Try.underlying41); (case hw => exact rfl); (case hx => exact rfl); (case hB => exact hB2); (case hd => exact rfl); (case hi => exact (size41p _)))
              | (apply bBuildSlice 24 1; (case ho => exact rfl); (case hw => exact rfl); (case hb => exact buildSlice24 (⟨2, 0, false, none0⟩) w2))
              | (at_builtin; refine wpList_app1 w2 rfl (.tmp 58) (.tmp 60) 24 rfl (w.heap.size + 2) 41 Try.underlying24 hi.out hz0.out hz1 hz2 (pA_size _) (by decide) A c l.length (l.flatMap pL) rfl hP2.own (pL (⟨2, 0, false, none0⟩)) 41 1 rfl (pL_len _) (pL_one _) hby (by decide) hP2.lt ?_; intro g9 c9 w9 ho9 hg9 hl9 hb9 hlt9; (have hP9 := hP2.app ho9 hg9 hb9); (have f9 := (hP2.out.grown hg9 (hAne.out ())).free 0); (have k9 := (hP2.out.grown hg9 (hAne.out ())).cell 0 (v := .slice A l.length c) rfl))
              | fail)
            go_roundw
            case rel => exact ⟨p1, _, _, _, rfl, by omega, by simp; omega, Lib.hid (hTa.out.trans (restP_any qa (.inr ⟨hc0.out.symm.trans h42.out, rfl⟩) hp1.out)), by simpa using hP9⟩
            case measure => first | (simp [intOf]; done) | (simp [intOf]; omega)
          · have h42i : ((c0 : Int) == 42) = false := by simp; omega
            by_cases h92 : c0 = 92
            · have h92i : ((c0 : Int) == 92) = true := by simp; omega
              replace h92 := Lib.hid h92
              by_cases hend : s.length ≤ p1
              · have hei : (s.length : Int) ≤ (p1 : Int) := by omega
                have hTn := Lib.hid (hTa.out.trans (restP_bad qa (by rw [← hc0.out]; exact h63) (by rw [← hc0.out]; exact h42) (by rw [← hc0.out, h92.out]; decide) (single_none (by rw [← hp1.out]; exact hend) (hc0.out.symm.trans h92.out))))
                go_wp2_with (first
                  | (apply bBuild 41; (case ho => exact rfl); (case hw => exact rfl); (case hb => exact (fun w => build41_byte c0 w)))
                  | (apply bAlloc 41; (case ho => exact rfl); (case hw => exact rfl); (case hz => exact zero41))
                  | (apply bStore 41 (.tmp 6) (.tmp 19); (case ho => exact rfl); (case hw => exact rfl); (case hx => exact rfl); (case hy => exact rfl); (case hB => exact (Blk.new wr (pA ⟨0, 0, false, none0⟩) 41)); (case hi => exact size41p _); (case hs => rw [pA_size, pA_size]); (case h1 => exact pA_one _); intro w1 hB1 hg1; (have hP1 : PS w w1 A c l := hP.first hg1); (have k1 := hP1.out.cell 0 (v := .slice A l.length c) rfl))
                  | (apply bBuild 26; (case ho => exact rfl); (case hw => exact rfl); (case hb => exact build26))
                  | (apply bStore 26 (.tmp 2) (.tmp 36); (case ho => exact rfl); (case hw => exact rfl); (case hx => exact rfl); (case hy => exact rfl); (case hB => exact hP1.res); (case hi => exact size26); (case hs => exact rfl); (case h1 => exact one26 _ _ _); intro w9 hR9 hg9)
                  | fail)
                refine bodyPost_ret (res_struct2 (p := 2) (u := 3) (v := .int .i64 21) rfl hR9 rfl rfl Try.underlying26 rfl size26) rfl ?_
                exact (⟨gb_own_b hP1.gb hg9 (Nat.le_refl _), .inr (.inl ⟨by omega, hTn.out, rfl⟩)⟩ : ParseGives w s T _ _)
              · have hei : ¬ ((s.length : Int) ≤ (p1 : Int)) := by omega
                have hej : (p1 : Int) < (s.length : Int) := by omega
                have qp : p1 < s.length := by omega
                have vp := hx.out p1 qp
                have wp := hlt.out p1 qp
                obtain ⟨y, hy⟩ : ∃ y, y = s.getD p1 0 := ⟨_, rfl⟩
                rw [← hy] at vp wp
                obtain ⟨p2, hp2⟩ : ∃ p2, p2 = a + 2 := ⟨_, rfl⟩
                have hp2i : (a : Int) + 2 = (p2 : Int) := by omega
                have hTb := Lib.hid (hTa.out.trans (restP_one (a1 := p2) (c := y) (by rw [← hc0.out]; exact h63) (by rw [← hc0.out]; exact h42) (by rw [← hc0.out, h92.out]; decide) (by rw [single_back (by rw [← hp1.out]; exact qp) (hc0.out.symm.trans h92.out), ← hp1.out, ← hy, hp2])))
                clear hp2 hy
                go_wp2_with (first
                  | ((have hGUARD := hB1); clear hGUARD; apply bBuild 41; (case ho => exact rfl); (case hw => exact rfl); (case hb => exact (fun w => build41_byte y w)))
                  | (apply bStore 41 (.tmp 6) (.tmp 41); (case ho => exact rfl); (case hw => exact rfl); (case hx => exact rfl); (case hy => exact rfl); (case hB => exact hB1); (case hi => exact size41p _); (case hs => rw [pA_size, pA_size]); (case h1 => exact pA_one _); intro w2 hB2 hg2; (have hP2 := hP1.store hg2 hnA.out hgb); (have k2 := hP2.out.cell 0 (v := .slice A l.length c) rfl))
                  | (apply bBuild 41; (case ho => exact rfl); (case hw => exact rfl); (case hb => exact (fun w => build41_byte c0 w)))
                  | (apply bAlloc 41; (case ho => exact rfl); (case hw => exact rfl); (case hz => exact zero41))
                  | (apply bStore 41 (.tmp 6) (.tmp 19); (case ho => exact rfl); (case hw => exact rfl); (case hx => exact rfl); (case hy => exact rfl); (case hB => exact (Blk.new wr (pA ⟨0, 0, false, none0⟩) 41)); (case hi => exact size41p _); (case hs => rw [pA_size, pA_size]); (case h1 => exact pA_one _); intro w1 hB1 hg1; (have hP1 : PS w w1 A c l := hP.first hg1); (have k1 := hP1.out.cell 0 (v := .slice A l.length c) rfl))
                  | (apply bLoad 41 (.tmp 6); (case ho => exact rfl); (case hu => exact Try.underlying41); (case hw => exact rfl); (case hx => exact rfl); (case hB => exact hB2); (case hd => exact rfl); (case hi => exact (size41p _)))
                  | (apply bBuildSlice 24 1; (case ho => exact rfl); (case hw => exact rfl); (case hb => exact buildSlice24 (⟨0, y, false, none0⟩) w2))
                  | (at_builtin; refine wpList_app1 w2 rfl (.tmp 58) (.tmp 60) 24 rfl (w.heap.size + 2) 41 Try.underlying24 hi.out hz0.out hz1 hz2 (pA_size _) (by decide) A c l.length (l.flatMap pL) rfl hP2.own (pL (⟨0, y, false, none0⟩)) 41 1 rfl (pL_len _) (pL_one _) hby (by decide) hP2.lt ?_; intro g9 c9 w9 ho9 hg9 hl9 hb9 hlt9; (have hP9 := hP2.app ho9 hg9 hb9); (have f9 := (hP2.out.grown hg9 (hAne.out ())).free 0); (have k9 := (hP2.out.grown hg9 (hAne.out ())).cell 0 (v := .slice A l.length c) rfl))
                  | fail)
                go_roundw
                case rel => exact ⟨p2, _, _, _, rfl, by omega, by simp; omega, Lib.hid (hTb.out), by simpa using hP9⟩
                case measure => first | (simp [intOf]; done) | (simp [intOf]; omega)
            · have h92i : ((c0 : Int) == 92) = false := by simp; omega
              by_cases h91 : c0 = 91
              · have h91i : ((c0 : Int) == 91) = true := by simp; omega
                replace h91 := Lib.hid h91
                obtain ⟨sa, hsa⟩ : ∃ sa, sa = strB (s.drop p1) := ⟨_, rfl⟩
                have hd0 := hd.out p1
                rw [← hsa] at hd0
                have hc1 := hcc.out p1 sa hsa
                clear hsa
                cases hS : setS (s.drop p1) with
                | none =>
                  rw [hS] at hc1
                  have hTn := Lib.hid (hTa.out.trans (restP_set_bad qa (hc0.out.symm.trans h91.out) hp1.out hS))
                  replace hc1 := Lib.hid hc1
                  replace hS := Lib.hid hS
                  go_wp2_with (first
                    | (apply bBuild 41; (case ho => exact rfl); (case hw => exact rfl); (case hb => exact (fun w => build41_byte c0 w)))
                    | (apply bAlloc 41; (case ho => exact rfl); (case hw => exact rfl); (case hz => exact zero41))
                    | (apply bStore 41 (.tmp 6) (.tmp 19); (case ho => exact rfl); (case hw => exact rfl); (case hx => exact rfl); (case hy => exact rfl); (case hB => exact (Blk.new wr (pA ⟨0, 0, false, none0⟩) 41)); (case hi => exact size41p _); (case hs => rw [pA_size, pA_size]); (case h1 => exact pA_one _); intro w1 hB1 hg1; (have hP1 : PS w w1 A c l := hP.first hg1); (have k1 := hP1.out.cell 0 (v := .slice A l.length c) rfl))
                    | (go_at_call 13; refine (hc1.out _).mono ?_; rintro e w2 ⟨p, zz, rfl, hpz, hgc⟩; (have hzz := setz_none hpz); subst hzz; (have hP2 := hP1.later hgc); (have hB2 := hB1.grown hgc (by simp)))
                    | (apply bStore 41 (.tmp 6) (.tmp 50); (case ho => exact rfl); (case hw => exact rfl); (case hx => exact rfl); (case hy => exact rfl); (case hB => exact hB2); (case hi => exact size41p _); (case hs => rw [pA_size, pA_size]); (case h1 => exact pA_one _); intro w3 hB3 hg3; (have hP3 := hP2.store hg3 hnA.out hgb); (have k3 := hP3.out.cell 0 (v := .slice A l.length c) rfl))
                    | (apply bBuild 26; (case ho => exact rfl); (case hw => exact rfl); (case hb => exact build26))
                    | (apply bStore 26 (.tmp 2) (.tmp 56); (case ho => exact rfl); (case hw => exact rfl); (case hx => exact rfl); (case hy => exact rfl); (case hB => exact hP3.res); (case hi => exact size26); (case hs => exact rfl); (case h1 => exact one26 _ _ _); intro w9 hR9 hg9)
                    | fail)
                  refine bodyPost_ret (res_struct2 (p := 2) (u := 3) (v := .int .i64 21) rfl hR9 rfl rfl Try.underlying26 rfl size26) rfl ?_
                  exact (⟨gb_own_b hP3.gb hg9 (Nat.le_refl _), .inr (.inl ⟨by omega, hTn.out, rfl⟩)⟩ : ParseGives w s T _ _)
                | some pr =>
                  obtain ⟨p, k⟩ := pr
                  rw [hS] at hc1
                  have hk := setS_end hS
                  rw [List.length_drop] at hk
                  obtain ⟨p2, hp2⟩ : ∃ p2, p2 = p1 + k := ⟨_, rfl⟩
                  obtain ⟨k1, hk1⟩ : ∃ k1, k1 = k + 1 := ⟨_, rfl⟩
                  have hTb := Lib.hid (hTa.out.trans (restP_set qa (hc0.out.symm.trans h91.out) hp1.out hS hp2))
                  have hk1i : (k : Int) + 1 = (k1 : Int) := by omega
                  have hk2i : ¬ ((k1 : Int) < 2) := by omega
                  have hki : (a : Int) + (k1 : Int) = (p2 : Int) := by omega
                  replace hc1 := Lib.hid hc1
                  replace hS := Lib.hid hS
                  clear hk1 hp2
                  go_wp2_with (first
                    | (go_at_call 13; refine (hc1.out _).mono ?_; rintro e w2 ⟨q, zz, rfl, hpz, hgc⟩; (have hzz := setz_some hpz); (obtain ⟨hzq, hzz⟩ := hzz); subst hzq; subst hzz; (have hP2 := hP1.later hgc); (have hB2 := hB1.grown hgc (by simp)))
                    | (apply bStore 41 (.tmp 6) (.tmp 50); (case ho => exact rfl); (case hw => exact rfl); (case hx => exact rfl); (case hy => exact rfl); (case hB => exact hB2); (case hi => exact size41p _); (case hs => rw [pA_size, pA_size]); (case h1 => exact pA_one _); intro w3 hB3 hg3; (have hP3 := hP2.store hg3 hnA.out hgb); (have k3 := hP3.out.cell 0 (v := .slice A l.length c) rfl))
                    | (apply bBuild 41; (case ho => exact rfl); (case hw => exact rfl); (case hb => exact (fun w => build41_byte c0 w)))
                    | (apply bAlloc 41; (case ho => exact rfl); (case hw => exact rfl); (case hz => exact zero41))
                    | (apply bStore 41 (.tmp 6) (.tmp 19); (case ho => exact rfl); (case hw => exact rfl); (case hx => exact rfl); (case hy => exact rfl); (case hB => exact (Blk.new wr (pA ⟨0, 0, false, none0⟩) 41)); (case hi => exact size41p _); (case hs => rw [pA_size, pA_size]); (case h1 => exact pA_one _); intro w1 hB1 hg1; (have hP1 : PS w w1 A c l := hP.first hg1); (have k1 := hP1.out.cell 0 (v := .slice A l.length c) rfl))
                    | (apply bLoad 41 (.tmp 6); (case ho => exact rfl); (case hu => exact Try.underlying41); (case hw => exact rfl); (case hx => exact rfl); (case hB => exact hB3); (case hd => exact rfl); (case hi => exact (size41p _)))
                    | (apply bBuildSlice 24 1; (case ho => exact rfl); (case hw => exact rfl); (case hb => exact buildSlice24 (p) w3))
                    | (at_builtin; refine wpList_app1 w3 rfl (.tmp 58) (.tmp 60) 24 rfl (w.heap.size + 2) 41 Try.underlying24 hi.out hz0.out hz1 hz2 (pA_size _) (by decide) A c l.length (l.flatMap pL) rfl hP3.own (pL (p)) 41 1 rfl (pL_len _) (pL_one _) hby (by decide) hP3.lt ?_; intro g9 c9 w9 ho9 hg9 hl9 hb9 hlt9; (have hP9 := hP3.app ho9 hg9 hb9); (have f9 := (hP3.out.grown hg9 (hAne.out ())).free 0); (have k9 := (hP3.out.grown hg9 (hAne.out ())).cell 0 (v := .slice A l.length c) rfl))
                    | fail)
                  go_roundw
                  case rel => exact ⟨p2, _, _, _, rfl, by omega, by simp; omega, Lib.hid (hTb.out), by simpa using hP9⟩
                  case measure => first | (simp [intOf]; done) | (simp [intOf]; omega)
              · have h91i : ((c0 : Int) == 91) = false := by simp; omega
                have hTb := Lib.hid (hTa.out.trans (restP_one (a1 := p1) (c := c0) (by rw [← hc0.out]; exact h63) (by rw [← hc0.out]; exact h42) (by rw [← hc0.out]; exact h91) (by rw [single_plain qa (by rw [← hc0.out]; exact h92), ← hp1.out, ← hc0.out])))
                go_wp2_with (first
                  | (apply bBuild 41; (case ho => exact rfl); (case hw => exact rfl); (case hb => exact (fun w => build41_byte c0 w)))
                  | (apply bAlloc 41; (case ho => exact rfl); (case hw => exact rfl); (case hz => exact zero41))
                  | (apply bStore 41 (.tmp 6) (.tmp 19); (case ho => exact rfl); (case hw => exact rfl); (case hx => exact rfl); (case hy => exact rfl); (case hB => exact (Blk.new wr (pA ⟨0, 0, false, none0⟩) 41)); (case hi => exact size41p _); (case hs => rw [pA_size, pA_size]); (case h1 => exact pA_one _); intro w1 hB1 hg1; (have hP1 : PS w w1 A c l := hP.first hg1); (have k1 := hP1.out.cell 0 (v := .slice A l.length c) rfl))
                  | (apply bLoad 41 (.tmp 6); (case ho => exact rfl); (case hu => exact Try.underlying41); (case hw => exact rfl); (case hx => exact rfl); (case hB => exact hB1); (case hd => exact rfl); (case hi => exact (size41p _)))
                  | (apply bBuildSlice 24 1; (case ho => exact rfl); (case hw => exact rfl); (case hb => exact buildSlice24 (⟨0, c0, false, none0⟩) w1))
                  | (at_builtin; refine wpList_app1 w1 rfl (.tmp 58) (.tmp 60) 24 rfl (w.heap.size + 2) 41 Try.underlying24 hi.out hz0.out hz1 hz2 (pA_size _) (by decide) A c l.length (l.flatMap pL) rfl hP1.own (pL (⟨0, c0, false, none0⟩)) 41 1 rfl (pL_len _) (pL_one _) hby (by decide) hP1.lt ?_; intro g9 c9 w9 ho9 hg9 hl9 hb9 hlt9; (have hP9 := hP1.app ho9 hg9 hb9); (have f9 := (hP1.out.grown hg9 (hAne.out ())).free 0); (have k9 := (hP1.out.grown hg9 (hAne.out ())).cell 0 (v := .slice A l.length c) rfl))
                  | fail)
                go_roundw
                case rel => exact ⟨p1, _, _, _, rfl, by omega, by simp; omega, Lib.hid (hTb.out), by simpa using hP9⟩
                case measure => first | (simp [intOf]; done) | (simp [intOf]; omega)
  · have h1i : (1000 : Int) < (s.length : Int) := by omega
    have hR0 := Blk.new w #[.slice none 0 0] 26
    have hg0 := gb_alloc (gb_refl w none) (.cells #[.slice none 0 0] 26)
    go_enter Try.func6, Try.ntmps6
    go_wp2_with (first
      | (apply bAlloc 26; (case ho => exact rfl); (case hw => exact rfl); (case hz => exact zero26))
      | (apply bBuild 26; (case ho => exact rfl); (case hw => exact rfl); (case hb => exact build26))
      | (apply bStore 26 (.tmp 2) (.tmp 11); (case ho => exact rfl); (case hw => exact rfl); (case hx => exact rfl); (case hy => exact rfl); (case hB => exact hR0); (case hi => exact size26); (case hs => exact rfl); (case h1 => exact one26 _ _ _); intro w9 hR9 hg9)
      | fail)
    refine bodyPost_ret (res_struct2 (p := 2) (u := 3) (v := .int .i64 29) rfl hR9 rfl rfl Try.underlying26 rfl size26) rfl ?_
    exact (⟨gb_own_b hg0 hg9 (Nat.le_refl _), .inl ⟨by omega, rfl⟩⟩ : ParseGives w s T _ _)
end Go.Proofs.Ytbnkdopigjdogaa
