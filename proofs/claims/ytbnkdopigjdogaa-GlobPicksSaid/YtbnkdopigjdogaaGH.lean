/- The walk of the document's Parse. -/
import Derived.Test.YtbnkdopigjdogaaGF
import Derived.Test.YtbnkdopigjdogaaGE3
namespace Go.Proofs.Ytbnkdopigjdogaa
set_option linter.unusedVariables false
set_option linter.unusedSimpArgs false
open Go.RowKit Go.Own Go.Glob

theorem info45_parts : ∃ i, Try.prog.info? 45 = some i ∧ i.zero = some (.agg (qA (false, none0))) ∧ i.size = 257 ∧ i.bytes = 257 := by
  have h := info45b
  cases hi : Try.prog.info? 45 with
  | none => rw [hi] at h; cases h
  | some i =>
    rw [hi] at h
    injection h with h
    injection h with h1 h
    injection h with h2 h3
    exact ⟨i, rfl, h1, h2, h3⟩

/-- A part as the document has it. -/
def toRef (p : Part) : Bool × (Nat → Bool) := (p.kind == 2, fits p)
def ql (l : List Part) : List Value := l.flatMap fun p => qL (toRef p)
theorem ql_snoc (l : List Part) (p : Part) : ql (l ++ [p]) = ql l ++ qL (toRef p) := by unfold ql; rw [List.flatMap_append]; simp
theorem toRef_lit (c : Nat) : toRef ⟨0, c, false, none0⟩ = (false, fun d => if d = c then true else none0 d) := by
  unfold toRef
  refine Prod.ext rfl (funext fun d => ?_)
  show fits ⟨0, c, false, none0⟩ d = if d = c then true else none0 d
  unfold fits none0
  by_cases h : d = c
  · subst h; simp
  · have : (c == d) = false := by simpa using fun e => h e.symm
    simp [h, this]
theorem toRef_star : toRef ⟨2, 0, false, none0⟩ = (true, none0) := by
  unfold toRef
  refine Prod.ext rfl (funext fun d => ?_)
  show fits ⟨2, 0, false, none0⟩ d = none0 d
  simp [fits, none0]
theorem toRef_any : toRef ⟨1, 0, false, none0⟩ = (false, fun _ => true) := by
  unfold toRef
  refine Prod.ext rfl (funext fun d => ?_)
  show fits ⟨1, 0, false, none0⟩ d = true
  simp [fits]
theorem toRef_set {p : Part} (h : p.kind = 3) : toRef p = (false, fun c => p.set c != p.neg) := by
  unfold toRef
  refine Prod.ext (by simp [h]) (funext fun d => ?_)
  show fits p d = (p.set d != p.neg)
  unfold fits
  rw [if_neg (by omega), if_neg (by omega), if_pos h]
theorem setS_kind {s : List Nat} {p : Part} {k : Nat} (h : setS s = some (p, k)) : p.kind = 3 := by
  unfold setS at h
  split at h
  · cases h
  · injection h with h
    injection h with h _
    rw [← h]
theorem qA_qL {x y : Bool × (Nat → Bool)} (h : qA x = qA y) : qL x = qL y := by
  have := congrArg Array.toList h
  simpa [qA] using this

/-- Every byte below one. -/
def upto (x : Nat) : Nat → Bool := fun c => if c < x then true else none0 c
theorem upto_start : upto 0 = none0 := by funext c; unfold upto; rw [if_neg (by omega)]
theorem upto_step (x : Nat) : (fun c => if c = x then true else upto x c) = upto (x + 1) := by
  funext c
  unfold upto
  by_cases hc : c = x
  · subst hc; rw [if_pos rfl, if_pos (by omega)]
  · rw [if_neg hc]
    by_cases h : c < x
    · rw [if_pos h, if_pos (by omega)]
    · rw [if_neg h, if_neg (by omega)]
theorem upto_end : qL (false, upto 256) = qL (toRef ⟨1, 0, false, none0⟩) := by
  rw [toRef_any]
  unfold qL
  dsimp only
  rw [boolL_congr (f := upto 256) (g := fun _ => true) (fun c hc => by unfold upto; rw [if_pos hc])]

theorem qset0 {w : World} {g : Nat} {x : Bool × (Nat → Bool)} (h : Blk w g (qA x) 45) : Blk (w.setCell ⟨g, 0, none⟩ (.bool true)) g (qA (true, x.2)) 45 := by
  have := h.set 0 (.bool true)
  have e : (qA x).setIfInBounds 0 (.bool true) = qA (true, x.2) := by unfold qA qL; rw [List.setIfInBounds_toArray]; rfl
  rwa [e] at this
theorem qsetc {w : World} {g : Nat} {f : Nat → Bool} (c : Nat) (h : Blk w g (qA (false, f)) 45) : Blk (w.setCell ⟨g, 1 + c, none⟩ (.bool true)) g (qA (false, fun d => if d = c then true else f d)) 45 := by
  have := h.set (1 + c) (.bool true)
  rwa [qA_set] at this

/-- The parse under way. -/
structure PQ (w wi : World) (A : Option Addr) (c : Nat) (l : List Part) : Prop where
  own : Own wi w.heap.size 45 257 A c l.length (ql l)
  gb : w.grownBy wi none

section
variable {w wi w1 : World} {A : Option Addr} {c : Nat} {l : List Part}
theorem PQ.lt (h : PQ w wi A c l) : w.heap.size ≤ wi.heap.size := h.gb.size
theorem PQ.na (h : PQ w wi A c l) : blk A ≠ some wi.heap.size := fun e => by have := (h.own.lt _ e).2; omega
theorem PQ.store {g : Nat} (h : PQ w wi A c l) (hg : wi.grownBy w1 (some g)) (hn : blk A ≠ some g) (hb : w.heap.size ≤ g) : PQ w w1 A c l :=
  ⟨h.own.grown hg (.inr hn), gb_own_b h.gb hg hb⟩
theorem PQ.first {o : Obj} (h : PQ w wi A c l) (hg : (wi.alloc o).grownBy w1 (some wi.heap.size)) : PQ w w1 A c l :=
  ⟨(h.own.alloc o).grown hg (.inr h.na), gb_own_b (gb_alloc h.gb o) hg h.lt⟩
theorem PQ.later (h : PQ w wi A c l) (hg : wi.grownBy w1 none) : PQ w w1 A c l := ⟨h.own.grown0 hg, gb_trans h.gb hg⟩
theorem PQ.set {g i : Nat} {v : Value} (h : PQ w wi A c l) (hn : blk A ≠ some g) (hb : w.heap.size ≤ g) : PQ w (wi.setCell ⟨g, i, none⟩ v) A c l :=
  ⟨h.own.other (p := ⟨g, i, none⟩) hn v, gb_new_set h.gb hb⟩
theorem PQ.app {p : Part} {x : Bool × (Nat → Bool)} {g c' : Nat} (h : PQ w wi A c l) (hq : qL x = qL (toRef p)) (ho : Own w1 w.heap.size 45 257 (some ⟨g, 0, none⟩) c' (l.length + 1) (ql l ++ qL x)) (hg : wi.grownBy w1 (blk A)) :
    PQ w w1 (some ⟨g, 0, none⟩) c' (l ++ [p]) := by
  have hA : ∀ k, blk A = some k → w.heap.size ≤ k := fun k e => (h.own.lt k e).1
  refine ⟨?_, gb_own h.gb hg hA⟩
  rw [ql_snoc, ← hq, List.length_append]
  exact ho
end

/-- What the document's Parse answers. -/
def RParseGives (w : World) (s : List Nat) (T : Option (List Part)) (e : Ending) (w' : World) : Prop :=
  w.grownBy w' none ∧ ((s.length > 1000 ∧ e = .returned (.tuple #[.slice none 0 0, .int .i64 29])) ∨
    (s.length ≤ 1000 ∧ T = none ∧ e = .returned (.tuple #[.slice none 0 0, .int .i64 21])) ∨
    (s.length ≤ 1000 ∧ ∃ l A c, T = some l ∧ l.length ≤ s.length ∧ e = .returned (.tuple #[.slice A l.length c, .int .i64 0]) ∧ Rd w' w'.heap.size 257 A l.length (ql l)))

theorem rset_none {x : Bool × (Nat → Bool)} {z : Int} (h : ((none : Option (Part × Nat)) = none ∧ z = 0) ∨ ∃ (p : Part) (k : Nat), (none : Option (Part × Nat)) = some (p, k) ∧ z = (k : Int) ∧ qA x = qA (false, fun c => p.set c != p.neg)) : z = 0 := by
  rcases h with h | ⟨p, k, h, _⟩
  · exact h.2
  · cases h
theorem rset_some {x : Bool × (Nat → Bool)} {p : Part} {k : Nat} {z : Int} (h : (some (p, k) = none ∧ z = 0) ∨ ∃ (q : Part) (k' : Nat), some (p, k) = some (q, k') ∧ z = (k' : Int) ∧ qA x = qA (false, fun c => q.set c != q.neg)) : z = (k : Int) ∧ qA x = qA (false, fun c => p.set c != p.neg) := by
  rcases h with h | ⟨q, k', h, hz, hq⟩
  · cases h.1
  · injection h with h
    injection h with h1 h2
    subst h1 h2
    exact ⟨hz, hq⟩

set_option maxHeartbeats 60000000 in
set_option maxRecDepth 100000 in
theorem parse7_any (s : List Nat) (w : World) (hs : ∀ v ∈ s, v < 256) (hl : s.length ≤ 100000) :
    Calls Try.prog 7 #[.string (strB s)] w (RParseGives w s (parse s)) := by
  have hz := strB_size s
  have hx := strB_get hs
  have hlt := fun i (h : i < s.length) => byte_lt hs h
  have hd := fun (a : Nat) => strB_drop s a s.length rfl
  replace hx := Lib.hid (fun i (h : i < s.length) => hx i (by rw [hz]; exact h))
  replace hlt := Lib.hid hlt
  replace hd := Lib.hid hd
  have hcc : Hid (∀ (a : Nat) (sa : ByteArray), sa = strB (s.drop a) → ∀ w', Calls Try.prog 14 #[.string sa] w' (RSetGives w' (setS (s.drop a)))) :=
    Lib.hid fun a sa h w' => by rw [h]; exact set14_any (s.drop a) w' (fun v hv => hs v (List.mem_of_mem_drop hv)) (by rw [List.length_drop]; omega)
  have hcs : Hid (∀ (a : Nat) (sa : ByteArray), sa = strB (s.drop a) → ∀ w', Calls Try.prog 15 #[.string sa] w' fun e w2 => e = .returned (.tuple #[.int .u8 ((sglV (s.drop a) 0).1 : Int), .int .i64 ((sglV (s.drop a) 0).2 : Int)]) ∧ w2 = w') :=
    Lib.hid fun a sa h w' => by rw [h]; exact single_any (s.drop a) w' (fun v hv => hs v (List.mem_of_mem_drop hv)) (by rw [List.length_drop]; omega)
  have hsb : Hid (∀ a c a1 : Nat, single s a = some (c, a1) → c < 256) := Lib.hid fun a c a1 h => single_byte hs h
  have hsl : s.length < 1000000 := by omega
  obtain ⟨it, hi, hz0, hz1, hz2⟩ := info45_parts
  replace hi := Lib.hid hi
  replace hz0 := Lib.hid hz0
  obtain ⟨T, hT⟩ : ∃ T, T = parse s := ⟨_, rfl⟩
  rw [← hT]
  have hTr : T = restP s 0 [] := by rw [hT]; unfold parse restP; simp
  replace hTr := Lib.hid hTr
  clear hT
  by_cases h1000 : s.length ≤ 1000
  · have h1i : (s.length : Int) ≤ 1000 := by omega
    have h1j : ¬ ((1000 : Int) < (s.length : Int)) := by omega
    have hPQ : PQ w w none 0 [] := ⟨Own.nil _ _ _ _, gb_refl _ _⟩
    go_enter Try.func7, Try.ntmps7
    go_wp2_with fail
    go_loopw [4, 5] (fun v4 v5 wi => ∃ (a : Nat) (l : List Part) (A : Option Addr) (c : Nat), v4 = .slice A l.length c ∧ v5 = .int .i64 a ∧ a ≤ s.length ∧ l.length ≤ a ∧ Hid (T = restP s a l) ∧ PQ w wi A c l)
      (fun _ v5 _ => s.length - (intOf v5).toNat)
    case atStart => exact ⟨0, [], none, 0, rfl, rfl, by omega, by simp, hTr, hPQ⟩
    case round =>
      obtain ⟨a, l, A, c, rfl, rfl, ha, hla, hTa, hP⟩ := hrel
      clear hPQ hTr
      by_cases hal : s.length ≤ a
      · have hali : ¬ ((a : Int) < (s.length : Int)) := by omega
        have hTl := Lib.hid (hTa.out.trans (restP_end hal))
        go_wp2_with fail
        go_ret2
        exact (⟨hP.gb, .inr (.inr ⟨by omega, l, A, c, hTl.out, by omega, rfl, hP.own.rd⟩)⟩ : RParseGives w s T _ _)
      · have hali : (a : Int) < (s.length : Int) := by omega
        have qa : a < s.length := by omega
        have va := hx.out a qa
        have wa := hlt.out a qa
        have hnA : blk A ≠ some wr.heap.size := hP.na
        have hgb : w.heap.size ≤ wr.heap.size := hP.lt
        have hby : (l.length + 1) * 257 ≤ 140737488355328 := by omega
        replace hnA := Lib.hid hnA
        obtain ⟨c0, hc0⟩ : ∃ c0, c0 = s.getD a 0 := ⟨_, rfl⟩
        rw [← hc0] at va wa
        replace hc0 := Lib.hid hc0
        obtain ⟨p1, hp1⟩ : ∃ p1, p1 = a + 1 := ⟨_, rfl⟩
        have hp1i : (a : Int) + 1 = (p1 : Int) := by omega
        replace hp1 := Lib.hid hp1
        by_cases h42 : c0 = 42
        · have h42i : ((c0 : Int) == 42) = true := by simp; omega
          replace h42 := Lib.hid h42
          go_wp2_with (first
            | (apply bBuild 45; (case ho => exact rfl); (case hw => exact rfl); (case hb => exact build45))
            | (apply bAlloc 45; (case ho => exact rfl); (case hw => exact rfl); (case hz => exact zero45))
            | (apply bStore 45 (.tmp 6) (.tmp 20); (case ho => exact rfl); (case hw => exact rfl); (case hx => exact rfl); (case hy => exact rfl); (case hB => exact Blk.new wr (qA (false, none0)) 45); (case hi => exact size45q _); (case hs => simp only [qA_size]); (case h1 => exact qA_one _); intro w1 hB1 hg1; (have hP1 : PQ w w1 A c l := hP.first hg1); (have kq := qblk_any hB1); (have fq := hB1.free 0))
            | (apply bLoad 45 (.tmp 6); (case ho => exact rfl); (case hu => exact Try.underlying45); (case hw => exact rfl); (case hx => exact rfl); (case hB => exact qset0 hB1); (case hd => exact rfl); (case hi => exact size45q _))
            | (apply bBuildSlice 30 1; (case ho => exact rfl); (case hw => exact rfl); (case hb => exact buildSlice30 (true, none0) _))
            | (at_builtin; refine wpList_app1 _ rfl (.tmp 64) (.tmp 66) 30 rfl w.heap.size 45 Try.underlying30 hi.out hz0.out hz1 hz2 (qA_size _) (by decide) A c l.length (ql l) rfl (hP1.set hnA.out hgb).own (qL (true, none0)) 45 1 rfl (qL_len _) (qL_one _) hby (by decide) (hP1.set hnA.out hgb).lt ?_; intro g9 c9 w9 ho9 hg9 hl9 hb9 hlt9; (have hP9 := (hP1.set hnA.out hgb).app (by rw [toRef_star]) ho9 hg9))
            | fail)
          go_roundw
          case rel => exact ⟨p1, _, _, _, by simp, rfl, by omega, by simp; omega, Lib.hid (hTa.out.trans (restP_any qa (.inr ⟨hc0.out.symm.trans h42.out, rfl⟩) hp1.out)), hP9⟩
          case measure => first | (simp [intOf]; done) | (simp [intOf]; omega)
        · have h42i : ((c0 : Int) == 42) = false := by simp; omega
          by_cases h63 : c0 = 63
          · have h63i : ((c0 : Int) == 63) = true := by simp; omega
            replace h63 := Lib.hid h63
            go_wp2_with (first
              | (apply bBuild 45; (case ho => exact rfl); (case hw => exact rfl); (case hb => exact build45))
              | (apply bAlloc 45; (case ho => exact rfl); (case hw => exact rfl); (case hz => exact zero45))
              | (apply bStore 45 (.tmp 6) (.tmp 20); (case ho => exact rfl); (case hw => exact rfl); (case hx => exact rfl); (case hy => exact rfl); (case hB => exact Blk.new wr (qA (false, none0)) 45); (case hi => exact size45q _); (case hs => simp only [qA_size]); (case h1 => exact qA_one _); intro w1 hB1 hg1; (have hP1 : PQ w w1 A c l := hP.first hg1))
              | fail)
            go_loopw [8] (fun v8 wi => ∃ x : Nat, v8 = .int .i64 x ∧ x ≤ 256 ∧ Blk wi wr.heap.size (qA (false, upto x)) 45 ∧ PQ w wi A c l) (fun v8 _ => 256 - (intOf v8).toNat)
            case atStart => exact ⟨0, rfl, by omega, by rw [upto_start]; exact hB1, hP1⟩
            case round =>
              obtain ⟨x, rfl, hx6, hBx, hPx⟩ := hrel
              by_cases hxl : x < 256
              · have hxi : (x : Int) < 256 := by omega
                have kx := qblk_in hBx x (by omega)
                have fx := hBx.free (1 + x)
                have hBn := qsetc x hBx
                rw [upto_step] at hBn
                have hPn := hPx.set (i := 1 + x) (v := .bool true) hnA.out hgb
                go_wp2_with fail
                go_roundw
                case rel => exact ⟨x + 1, by go_num, by omega, hBn, hPn⟩
                case measure => first | (simp [intOf]; done) | (simp [intOf]; omega)
              · have hxe : x = 256 := by omega
                subst hxe
                go_wp2_with (first
                  | (apply bLoad 45 (.tmp 6); (case ho => exact rfl); (case hu => exact Try.underlying45); (case hw => exact rfl); (case hx => exact rfl); (case hB => exact hBx); (case hd => exact rfl); (case hi => exact size45q _))
                  | (apply bBuildSlice 30 1; (case ho => exact rfl); (case hw => exact rfl); (case hb => exact buildSlice30 (false, upto 256) _))
                  | (at_builtin; refine wpList_app1 _ rfl (.tmp 64) (.tmp 66) 30 rfl w.heap.size 45 Try.underlying30 hi.out hz0.out hz1 hz2 (qA_size _) (by decide) A c l.length (ql l) rfl (hPx).own (qL (false, upto 256)) 45 1 rfl (qL_len _) (qL_one _) hby (by decide) (hPx).lt ?_; intro g9 c9 w9 ho9 hg9 hl9 hb9 hlt9; (have hP9 := (hPx).app (upto_end) ho9 hg9))
                  | fail)
                go_roundw
                case rel => exact ⟨p1, _, _, _, by simp, rfl, by omega, by simp; omega, Lib.hid (hTa.out.trans (restP_any qa (.inl ⟨hc0.out.symm.trans h63.out, rfl⟩) hp1.out)), hP9⟩
                case measure => first | (simp [intOf]; done) | (simp [intOf]; omega)
          · have h63i : ((c0 : Int) == 63) = false := by simp; omega
            by_cases h91 : c0 = 91
            · have h91i : ((c0 : Int) == 91) = true := by simp; omega
              replace h91 := Lib.hid h91
              obtain ⟨sa, hsa⟩ : ∃ sa, sa = strB (s.drop p1) := ⟨_, rfl⟩
              have hd0 := hd.out p1
              rw [← hsa] at hd0
              have hc1 := hcc.out p1 sa hsa
              clear hsa
              cases hS : setS (s.drop p1) with
              | none =>
                rw [hS] at hc1
                have hTn := Lib.hid (hTa.out.trans (restP_set_bad qa (hc0.out.symm.trans h91.out) hp1.out hS))
                replace hc1 := Lib.hid hc1
                replace hS := Lib.hid hS
                go_wp2_with (first
                  | (apply bBuild 45; (case ho => exact rfl); (case hw => exact rfl); (case hb => exact build45))
                  | (apply bAlloc 45; (case ho => exact rfl); (case hw => exact rfl); (case hz => exact zero45))
                  | (apply bStore 45 (.tmp 6) (.tmp 20); (case ho => exact rfl); (case hw => exact rfl); (case hx => exact rfl); (case hy => exact rfl); (case hB => exact Blk.new wr (qA (false, none0)) 45); (case hi => exact size45q _); (case hs => simp only [qA_size]); (case h1 => exact qA_one _); intro w1 hB1 hg1; (have hP1 : PQ w w1 A c l := hP.first hg1))
                  | (go_at_call 14; refine (hc1.out _).mono ?_; rintro e w2 ⟨x, zz, rfl, hpz, hgc⟩; (have hzz := rset_none hpz); subst hzz; (have hP2 := hP1.later hgc); (have hB2 := hB1.grown hgc (by simp)))
                  | (apply bStore 45 (.tmp 9) (.tmp 57); (case ho => exact rfl); (case hw => exact rfl); (case hx => exact rfl); (case hy => exact rfl); (case hB => exact Blk.new w2 (qA (false, none0)) 45); (case hi => exact size45q _); (case hs => simp only [qA_size]); (case h1 => exact qA_one _); intro w3 hB3 hg3; (have hP3 : PQ w w3 A c l := hP2.first hg3); (have hB4 : Blk w3 wr.heap.size (qA (false, none0)) 45 := (hB2.alloc _).grown hg3 (by intro e; injection e with e; have := hB2.lt; omega)))
                  | fail)
                go_ret2
                exact (⟨hP3.gb, .inr (.inl ⟨by omega, hTn.out, rfl⟩)⟩ : RParseGives w s T _ _)
              | some pr =>
                obtain ⟨p, k⟩ := pr
                rw [hS] at hc1
                have hk := setS_end hS
                have hkd := setS_kind hS
                rw [List.length_drop] at hk
                obtain ⟨p2, hp2⟩ : ∃ p2, p2 = p1 + k := ⟨_, rfl⟩
                obtain ⟨k1, hk1⟩ : ∃ k1, k1 = k + 1 := ⟨_, rfl⟩
                have hTb := Lib.hid (hTa.out.trans (restP_set qa (hc0.out.symm.trans h91.out) hp1.out hS hp2))
                have hk1i : (k : Int) + 1 = (k1 : Int) := by omega
                have hkz : ((k : Int) == 0) = false := by simp; omega
                have hki : (a : Int) + (k1 : Int) = (p2 : Int) := by omega
                have href := toRef_set hkd
                replace href := Lib.hid href
                replace hc1 := Lib.hid hc1
                replace hS := Lib.hid hS
                clear hk1 hp2 hkd
                go_wp2_with (first
                  | (apply bBuild 45; (case ho => exact rfl); (case hw => exact rfl); (case hb => exact build45))
                  | (apply bAlloc 45; (case ho => exact rfl); (case hw => exact rfl); (case hz => exact zero45))
                  | (apply bStore 45 (.tmp 6) (.tmp 20); (case ho => exact rfl); (case hw => exact rfl); (case hx => exact rfl); (case hy => exact rfl); (case hB => exact Blk.new wr (qA (false, none0)) 45); (case hi => exact size45q _); (case hs => simp only [qA_size]); (case h1 => exact qA_one _); intro w1 hB1 hg1; (have hP1 : PQ w w1 A c l := hP.first hg1))
                  | (go_at_call 14; refine (hc1.out _).mono ?_; rintro e w2 ⟨x, zz, rfl, hpz, hgc⟩; (have hzz := rset_some hpz); (obtain ⟨hzz, hxq⟩ := hzz); subst hzz; (replace hxq := Lib.hid hxq); (have hP2 := hP1.later hgc); (have hB2 := hB1.grown hgc (by simp)))
                  | (apply bStore 45 (.tmp 9) (.tmp 57); (case ho => exact rfl); (case hw => exact rfl); (case hx => exact rfl); (case hy => exact rfl); (case hB => exact Blk.new w2 (qA (false, none0)) 45); (case hi => exact size45q _); (case hs => simp only [qA_size]); (case h1 => exact qA_one _); intro w3 hB3 hg3; (have hP3 : PQ w w3 A c l := hP2.first hg3); (have hB4 : Blk w3 wr.heap.size (qA (false, none0)) 45 := (hB2.alloc _).grown hg3 (by intro e; injection e with e; have := hB2.lt; omega)))
                  | (apply bLoad 45 (.tmp 9); (case ho => exact rfl); (case hu => exact Try.underlying45); (case hw => exact rfl); (case hx => exact rfl); (case hB => exact hB3); (case hd => exact rfl); (case hi => exact size45q _))
                  | (apply bStore 45 (.tmp 6) (.tmp 61); (case ho => exact rfl); (case hw => exact rfl); (case hx => exact rfl); (case hy => exact rfl); (case hB => exact hB4); (case hi => exact size45q _); (case hs => simp only [qA_size]); (case h1 => exact qA_one _); intro w5 hB5 hg5; (have hP5 := hP3.store hg5 hnA.out hgb))
                  | (apply bLoad 45 (.tmp 6); (case ho => exact rfl); (case hu => exact Try.underlying45); (case hw => exact rfl); (case hx => exact rfl); (case hB => exact hB5); (case hd => exact rfl); (case hi => exact size45q _))
                  | (apply bBuildSlice 30 1; (case ho => exact rfl); (case hw => exact rfl); (case hb => exact buildSlice30 (x) _))
                  | (at_builtin; refine wpList_app1 _ rfl (.tmp 64) (.tmp 66) 30 rfl w.heap.size 45 Try.underlying30 hi.out hz0.out hz1 hz2 (qA_size _) (by decide) A c l.length (ql l) rfl (hP5).own (qL (x)) 45 1 rfl (qL_len _) (qL_one _) hby (by decide) (hP5).lt ?_; intro g9 c9 w9 ho9 hg9 hl9 hb9 hlt9; (have hP9 := (hP5).app ((qA_qL hxq.out).trans (by rw [href.out])) ho9 hg9))
                  | fail)
                go_roundw
                case rel => exact ⟨p2, _, _, _, by simp, rfl, by omega, by simp; omega, Lib.hid (hTb.out), hP9⟩
                case measure => first | (simp [intOf]; done) | (simp [intOf]; omega)
            · have h91i : ((c0 : Int) == 91) = false := by simp; omega
              obtain ⟨sa, hsa⟩ : ∃ sa, sa = strB (s.drop a) := ⟨_, rfl⟩
              have hd0 := hd.out a
              rw [← hsa] at hd0
              have hc1 := hcs.out a sa hsa
              clear hsa
              cases hS : single s a with
              | none =>
                rw [sgl_none hS] at hc1
                have hTn := Lib.hid (hTa.out.trans (restP_bad qa (by rw [← hc0.out]; exact h63) (by rw [← hc0.out]; exact h42) (by rw [← hc0.out]; exact h91) hS))
                replace hc1 := Lib.hid hc1
                replace hS := Lib.hid hS
                go_wp2_with (first
                  | (apply bBuild 45; (case ho => exact rfl); (case hw => exact rfl); (case hb => exact build45))
                  | (apply bAlloc 45; (case ho => exact rfl); (case hw => exact rfl); (case hz => exact zero45))
                  | (apply bStore 45 (.tmp 6) (.tmp 20); (case ho => exact rfl); (case hw => exact rfl); (case hx => exact rfl); (case hy => exact rfl); (case hB => exact Blk.new wr (qA (false, none0)) 45); (case hi => exact size45q _); (case hs => simp only [qA_size]); (case h1 => exact qA_one _); intro w1 hB1 hg1; (have hP1 : PQ w w1 A c l := hP.first hg1))
                  | (go_at_call 15; refine (hc1.out _).mono ?_; rintro e w2 ⟨rfl, rfl⟩)
                  | fail)
                go_ret2
                exact (⟨hP1.gb, .inr (.inl ⟨by omega, hTn.out, rfl⟩)⟩ : RParseGives w s T _ _)
              | some pr =>
                obtain ⟨ch, p2⟩ := pr
                obtain ⟨n1, hv1, hn, hn0, hp2⟩ := sgl_some hS
                rw [hv1] at hc1
                have hTb := Lib.hid (hTa.out.trans (restP_one (by rw [← hc0.out]; exact h63) (by rw [← hc0.out]; exact h42) (by rw [← hc0.out]; exact h91) hS))
                have hni : (a : Int) + (n1 : Int) = (p2 : Int) := by omega
                have hnz : ((n1 : Int) == 0) = false := by simp; omega
                have hch := hsb.out _ _ _ hS
                have hchi : (ch : Int) < 256 := by omega
                have hap : a < p2 := by omega
                replace hc1 := Lib.hid hc1
                replace hS := Lib.hid hS
                clear hv1 hn
                go_wp2_with (first
                  | (apply bBuild 45; (case ho => exact rfl); (case hw => exact rfl); (case hb => exact build45))
                  | (apply bAlloc 45; (case ho => exact rfl); (case hw => exact rfl); (case hz => exact zero45))
                  | (apply bStore 45 (.tmp 6) (.tmp 20); (case ho => exact rfl); (case hw => exact rfl); (case hx => exact rfl); (case hy => exact rfl); (case hB => exact Blk.new wr (qA (false, none0)) 45); (case hi => exact size45q _); (case hs => simp only [qA_size]); (case h1 => exact qA_one _); intro w1 hB1 hg1; (have hP1 : PQ w w1 A c l := hP.first hg1); (have kq := qblk_in hB1 ch hch); (have fq := hB1.free (1 + ch)))
                  | (go_at_call 15; refine (hc1.out _).mono ?_; rintro e w2 ⟨rfl, rfl⟩)
                  | (apply bLoad 45 (.tmp 6); (case ho => exact rfl); (case hu => exact Try.underlying45); (case hw => exact rfl); (case hx => exact rfl); (case hB => exact qsetc ch hB1); (case hd => exact rfl); (case hi => exact size45q _))
                  | (apply bBuildSlice 30 1; (case ho => exact rfl); (case hw => exact rfl); (case hb => exact buildSlice30 (false, fun d => if d = ch then true else none0 d) _))
                  | (at_builtin; refine wpList_app1 _ rfl (.tmp 64) (.tmp 66) 30 rfl w.heap.size 45 Try.underlying30 hi.out hz0.out hz1 hz2 (qA_size _) (by decide) A c l.length (ql l) rfl (hP1.set hnA.out hgb).own (qL (false, fun d => if d = ch then true else none0 d)) 45 1 rfl (qL_len _) (qL_one _) hby (by decide) (hP1.set hnA.out hgb).lt ?_; intro g9 c9 w9 ho9 hg9 hl9 hb9 hlt9; (have hP9 := (hP1.set hnA.out hgb).app (by rw [toRef_lit]) ho9 hg9))
                  | fail)
                go_roundw
                case rel => exact ⟨p2, _, _, _, by simp, rfl, by omega, by simp; omega, Lib.hid (hTb.out), hP9⟩
                case measure => first | (simp [intOf]; done) | (simp [intOf]; omega)
  · have h1i : (1000 : Int) < (s.length : Int) := by omega
    go_enter Try.func7, Try.ntmps7
    go_wp2_with fail
    go_ret2
    exact (⟨gb_refl _ _, .inl ⟨by omega, rfl⟩⟩ : RParseGives w s T _ _)
end Go.Proofs.Ytbnkdopigjdogaa
