/- The walks of the two quotings. -/
import Derived.Test.YtbnkdopigjdogaaGS
import Derived.Test.YtbnkdopigjdogaaGM
import Derived.Lib.ConvBytes
namespace Go.Proofs.Ytbnkdopigjdogaa
set_option linter.unusedVariables false
set_option linter.unusedSimpArgs false
open Go.RowKit Go.Own Go.Glob

theorem info5_parts : ∃ i, Try.prog.info? 5 = some i ∧ i.zero = some (.int .u8 0) ∧ i.size = 1 ∧ i.bytes = 1 := by
  have h : (Try.prog.info? 5).map (fun i => (i.zero, i.size, i.bytes)) = some (some (.int .u8 0), 1, 1) := by kernel_rfl
  cases hi : Try.prog.info? 5 with
  | none => rw [hi] at h; cases h
  | some i =>
    rw [hi] at h
    injection h with h
    injection h with h1 h
    injection h with h2 h3
    exact ⟨i, rfl, h1, h2, h3⟩

theorem strB_cell {l : List Nat} (hl : ∀ v ∈ l, v < 256) (j : Nat) : ((strB l).data.toList.getD j 0).toNat = l.getD j 0 := by
  have := congrArg (fun x : List Nat => x.getD j 0) (strB_data hl)
  simp only [List.getD_eq_getElem?_getD, List.getElem?_map] at this ⊢
  rw [← this]
  cases (strB l).data.toList[j]? <;> rfl

section
variable {ops : Array Oper} {rest : List Oper} {o : Oper} {a : Act} {w : World} {Q : Exit → Act → World → Prop}
/-- A string's bytes, laid anew. -/
theorem wpList_s2b (hw : Region.wanted o (yielded ops a.tmps) = true) (x : Operand) (ho : o.op = .convert 9 51 x) (l : List Nat) (hl : ∀ v ∈ l, v < 256) (hx : a.eval x = .string (strB l))
    (h : ∀ c w', (∀ i, i < l.length → w'.cell? ⟨w.heap.size, i, none⟩ = some (.int .u8 (l.getD i 0 : Int))) → w.grownBy w' none → w'.heap.size = w.heap.size + 1 →
      wpList Try.prog ops Q rest (a.put o.dst (.slice (some ⟨w.heap.size, 0, none⟩) l.length c)) w') : wpList Try.prog ops Q (o :: rest) a w := by
  have hr := Lib.run_convert_string_bytes (P := Try.prog) w 9 51 5 (strB l) Try.underlying9 Try.underlying51 Try.underlying5
  refine wpList_run hw (w' := Lib.bytesWorld w 5 (strB l)) (v := .slice (some ⟨w.heap.size, 0, none⟩) (strB l).size (grownCap w (strB l).size 0 5)) ?_ ?_
  · simp only [execOp, ho, hx, Sem.run_bind, hr, Sem.run_pure, Result.andThen_ok]
  · rw [strB_size]
    refine h _ _ (fun i hi => ?_) ⟨rfl, rfl, rfl, ?_, fun i hi _ => Lib.bytesWorld_at_old w 5 (strB l) i hi⟩ (Lib.bytesWorld_size _ _ _)
    · rw [Lib.bytesWorld_cell w 5 (strB l) i (by rw [strB_size]; exact hi), strB_cell hl]
    · rw [Lib.bytesWorld_size]; omega
/-- Bytes made a string. -/
theorem wpList_b2s (hw : Region.wanted o (yielded ops a.tmps) = true) (x : Operand) (ho : o.op = .convert 51 9 x) {B n c : Nat} {A : Option Addr} {l : List Nat} (hr : Rd w B 1 A n (l.map bv)) (hn : l.length = n) (hx : a.eval x = .slice A n c)
    (h : wpList Try.prog ops Q rest (a.put o.dst (.string (strB l))) w) : wpList Try.prog ops Q (o :: rest) a w := by
  refine wpList_run hw ?_ h
  simp only [execOp, ho, hx, Sem.run_bind, conv_any c hr hn, Sem.run_pure, Result.andThen_ok]
end

theorem take_snoc {s : List Nat} {k : Nat} (h : k < s.length) : s.take (k + 1) = s.take k ++ [s.getD k 0] := by
  rw [List.take_add_one]
  simp [h]
theorem quote_step {s : List Nat} {k : Nat} (h : k < s.length) : quote (s.take (k + 1)) = quote (s.take k) ++ quote1 (s.getD k 0) := by rw [take_snoc h, quote_snoc]

theorem one_bv (v : Nat) : ∀ u ∈ ([bv v] : List Value), u.oneCell' = true := by
  intro u hu
  simp at hu
  subst hu
  rfl

set_option maxHeartbeats 60000000 in
set_option maxRecDepth 100000 in
theorem quote10_any (s : List Nat) (w : World) (hs : ∀ v ∈ s, v < 256) (hl : s.length ≤ 100000) :
    Calls Try.prog 10 #[.string (strB s)] w fun e w' => e = .returned (.string (strB (quote s))) ∧ w.grownBy w' none := by
  obtain ⟨it, hi, hz0, hz1, hz2⟩ := info5_parts
  replace hi := Lib.hid hi
  replace hz0 := Lib.hid hz0
  have hlt := fun i (h : i < s.length) => byte_lt hs h
  replace hlt := Lib.hid hlt
  have hsl : s.length < 1000000 := by omega
  go_enter Try.func10, Try.ntmps10
  go_wp2_with (first
    | (refine wpList_s2b rfl (.tmp 6) rfl s hs rfl ?_; intro c0 w1 hc0 hg1 hw1; (replace hc0 := Lib.hid hc0))
    | fail)
  go_loopw [3, 9] (fun v3 v9 wi => ∃ (k : Nat) (A : Option Addr) (c : Nat), v9 = .int .i64 k ∧ k ≤ s.length ∧ v3 = .slice A (quote (s.take k)).length c ∧ Own wi (w.heap.size + 1) 5 1 A c (quote (s.take k)).length ((quote (s.take k)).map bv) ∧ w1.grownBy wi none)
    (fun _ v9 _ => s.length - (intOf v9).toNat)
  case atStart => exact ⟨0, none, 0, rfl, Nat.zero_le _, rfl, Own.nil _ _ _ _, gb_refl _ _⟩
  case round =>
    obtain ⟨k, A, c, rfl, hk, rfl, hO, hgi⟩ := hrel
    have hbase : w.heap.size + 1 ≤ wr.heap.size := by have := hgi.size; omega
    have hq := quote_len (s.take k)
    rw [List.length_take, Nat.min_eq_left hk] at hq
    by_cases hks : s.length ≤ k
    · have hki : ¬ ((k : Int) < (s.length : Int)) := by omega
      rw [List.take_of_length_le hks] at hO hq ⊢
      have hR := hO.rd
      obtain ⟨n, hn⟩ : ∃ n, n = (quote s).length := ⟨_, rfl⟩
      rw [← hn] at hO hR hq ⊢
      go_wp2_with (first
        | (refine wpList_b2s rfl (.tmp 35) rfl hR hn.symm rfl ?_)
        | fail)
      go_ret
      exact ⟨rfl, gb_trans hg1 hgi⟩
    · have hki : (k : Int) < (s.length : Int) := by omega
      have qk : k < s.length := by omega
      have hst := quote_step qk
      have hck := World.grownBy.cell hgi (hc0.out k qk) (by simp)
      have ck := hlt.out k qk
      obtain ⟨ch, hch⟩ : ∃ ch, ch = s.getD k 0 := ⟨_, rfl⟩
      rw [← hch] at hck ck hst
      clear hch
      obtain ⟨L, hL⟩ : ∃ L, L = quote (s.take k) := ⟨_, rfl⟩
      rw [← hL] at hO hq hst ⊢
      clear hL
      obtain ⟨n, hn⟩ : ∃ n, n = L.length := ⟨_, rfl⟩
      rw [← hn] at hO hq ⊢
      have hby : (n + 1) * 1 ≤ 140737488355328 := by omega
      have hby2 : (n + 1 + 1) * 1 ≤ 140737488355328 := by omega
      replace hn := Lib.hid hn
      have hAb : ∀ q, blk A = some q → w.heap.size + 1 ≤ q := fun q e => (hO.lt q e).1
      replace hAb := Lib.hid hAb
      replace hst := Lib.hid hst
      have hcs : ch = 63 ∨ (ch ≠ 63 ∧ ch = 42) ∨ (ch ≠ 63 ∧ ch ≠ 42 ∧ ch = 91) ∨ (ch ≠ 63 ∧ ch ≠ 42 ∧ ch ≠ 91 ∧ ch = 92) ∨ (ch ≠ 63 ∧ ch ≠ 42 ∧ ch ≠ 91 ∧ ch ≠ 92) := by omega
      rcases hcs with h | h | h | h | h
      · have b63 : ((ch : Int) == 63) = true := by simp; omega
        have hsp : quote1 ch = [92, ch] := by unfold quote1; rw [if_pos (by unfold special; simp; omega)]
        replace h := Lib.hid h
        replace hsp := Lib.hid hsp
        go_wp2_with (first
          | (at_builtin; refine wpList_app1 wr rfl (.tmp 27) (.tmp 28) 51 rfl (w.heap.size + 1) 5 Try.underlying51 hi.out hz0.out hz1 hz2 rfl (by decide) A c n (L.map bv) rfl hO [.int .u8 92] 5 1 rfl rfl (one_bv 92) hby (by decide) hbase ?_; intro g1 c1 w2 hO1 hgr1 hl1 hb1 hlt1; (have hbase2 : w.heap.size + 1 ≤ w2.heap.size := by omega))
          | (at_builtin; refine wpList_app1 w2 rfl (.tmp 30) (.tmp 32) 51 rfl (w.heap.size + 1) 5 Try.underlying51 hi.out hz0.out hz1 hz2 rfl (by decide) (some ⟨g1, 0, none⟩) c1 (n + 1) (L.map bv ++ [.int .u8 92]) rfl hO1 [bv ch] 5 1 rfl rfl (one_bv ch) hby2 (by decide) hbase2 ?_; intro g2 c2 w3 hO2 hgr2 hl2 hb2 hlt2)
          | fail)
        go_roundw
        case rel =>
          refine ⟨k + 1, some ⟨g2, 0, none⟩, c2, by go_num, by omega, ?_, ?_, ?_⟩
          · rw [hst.out, hsp.out, List.length_append, ← hn.out]; rfl
          · rw [hst.out, hsp.out, List.length_append, ← hn.out, List.map_append]
            simpa [bv] using hO2
          · exact gb_own (gb_own hgi hgr1 (fun q e => by have := hAb.out q e; omega)) hgr2 (fun q e => by injection e with e; subst e; dsimp only; omega)
        case measure => first | (simp [intOf]; done) | (simp [intOf]; omega)
      · have b63 : ((ch : Int) == 63) = false := by simp; omega
        have b42 : ((ch : Int) == 42) = true := by simp; omega
        have hsp : quote1 ch = [92, ch] := by unfold quote1; rw [if_pos (by unfold special; simp; omega)]
        replace h := Lib.hid h
        replace hsp := Lib.hid hsp
        go_wp2_with (first
          | (at_builtin; refine wpList_app1 wr rfl (.tmp 27) (.tmp 28) 51 rfl (w.heap.size + 1) 5 Try.underlying51 hi.out hz0.out hz1 hz2 rfl (by decide) A c n (L.map bv) rfl hO [.int .u8 92] 5 1 rfl rfl (one_bv 92) hby (by decide) hbase ?_; intro g1 c1 w2 hO1 hgr1 hl1 hb1 hlt1; (have hbase2 : w.heap.size + 1 ≤ w2.heap.size := by omega))
          | (at_builtin; refine wpList_app1 w2 rfl (.tmp 30) (.tmp 32) 51 rfl (w.heap.size + 1) 5 Try.underlying51 hi.out hz0.out hz1 hz2 rfl (by decide) (some ⟨g1, 0, none⟩) c1 (n + 1) (L.map bv ++ [.int .u8 92]) rfl hO1 [bv ch] 5 1 rfl rfl (one_bv ch) hby2 (by decide) hbase2 ?_; intro g2 c2 w3 hO2 hgr2 hl2 hb2 hlt2)
          | fail)
        go_roundw
        case rel =>
          refine ⟨k + 1, some ⟨g2, 0, none⟩, c2, by go_num, by omega, ?_, ?_, ?_⟩
          · rw [hst.out, hsp.out, List.length_append, ← hn.out]; rfl
          · rw [hst.out, hsp.out, List.length_append, ← hn.out, List.map_append]
            simpa [bv] using hO2
          · exact gb_own (gb_own hgi hgr1 (fun q e => by have := hAb.out q e; omega)) hgr2 (fun q e => by injection e with e; subst e; dsimp only; omega)
        case measure => first | (simp [intOf]; done) | (simp [intOf]; omega)
      · have b63 : ((ch : Int) == 63) = false := by simp; omega
        have b42 : ((ch : Int) == 42) = false := by simp; omega
        have b91 : ((ch : Int) == 91) = true := by simp; omega
        have hsp : quote1 ch = [92, ch] := by unfold quote1; rw [if_pos (by unfold special; simp; omega)]
        replace h := Lib.hid h
        replace hsp := Lib.hid hsp
        go_wp2_with (first
          | (at_builtin; refine wpList_app1 wr rfl (.tmp 27) (.tmp 28) 51 rfl (w.heap.size + 1) 5 Try.underlying51 hi.out hz0.out hz1 hz2 rfl (by decide) A c n (L.map bv) rfl hO [.int .u8 92] 5 1 rfl rfl (one_bv 92) hby (by decide) hbase ?_; intro g1 c1 w2 hO1 hgr1 hl1 hb1 hlt1; (have hbase2 : w.heap.size + 1 ≤ w2.heap.size := by omega))
          | (at_builtin; refine wpList_app1 w2 rfl (.tmp 30) (.tmp 32) 51 rfl (w.heap.size + 1) 5 Try.underlying51 hi.out hz0.out hz1 hz2 rfl (by decide) (some ⟨g1, 0, none⟩) c1 (n + 1) (L.map bv ++ [.int .u8 92]) rfl hO1 [bv ch] 5 1 rfl rfl (one_bv ch) hby2 (by decide) hbase2 ?_; intro g2 c2 w3 hO2 hgr2 hl2 hb2 hlt2)
          | fail)
        go_roundw
        case rel =>
          refine ⟨k + 1, some ⟨g2, 0, none⟩, c2, by go_num, by omega, ?_, ?_, ?_⟩
          · rw [hst.out, hsp.out, List.length_append, ← hn.out]; rfl
          · rw [hst.out, hsp.out, List.length_append, ← hn.out, List.map_append]
            simpa [bv] using hO2
          · exact gb_own (gb_own hgi hgr1 (fun q e => by have := hAb.out q e; omega)) hgr2 (fun q e => by injection e with e; subst e; dsimp only; omega)
        case measure => first | (simp [intOf]; done) | (simp [intOf]; omega)
      · have b63 : ((ch : Int) == 63) = false := by simp; omega
        have b42 : ((ch : Int) == 42) = false := by simp; omega
        have b91 : ((ch : Int) == 91) = false := by simp; omega
        have b92 : ((ch : Int) == 92) = true := by simp; omega
        have hsp : quote1 ch = [92, ch] := by unfold quote1; rw [if_pos (by unfold special; simp; omega)]
        replace h := Lib.hid h
        replace hsp := Lib.hid hsp
        go_wp2_with (first
          | (at_builtin; refine wpList_app1 wr rfl (.tmp 27) (.tmp 28) 51 rfl (w.heap.size + 1) 5 Try.underlying51 hi.out hz0.out hz1 hz2 rfl (by decide) A c n (L.map bv) rfl hO [.int .u8 92] 5 1 rfl rfl (one_bv 92) hby (by decide) hbase ?_; intro g1 c1 w2 hO1 hgr1 hl1 hb1 hlt1; (have hbase2 : w.heap.size + 1 ≤ w2.heap.size := by omega))
          | (at_builtin; refine wpList_app1 w2 rfl (.tmp 30) (.tmp 32) 51 rfl (w.heap.size + 1) 5 Try.underlying51 hi.out hz0.out hz1 hz2 rfl (by decide) (some ⟨g1, 0, none⟩) c1 (n + 1) (L.map bv ++ [.int .u8 92]) rfl hO1 [bv ch] 5 1 rfl rfl (one_bv ch) hby2 (by decide) hbase2 ?_; intro g2 c2 w3 hO2 hgr2 hl2 hb2 hlt2)
          | fail)
        go_roundw
        case rel =>
          refine ⟨k + 1, some ⟨g2, 0, none⟩, c2, by go_num, by omega, ?_, ?_, ?_⟩
          · rw [hst.out, hsp.out, List.length_append, ← hn.out]; rfl
          · rw [hst.out, hsp.out, List.length_append, ← hn.out, List.map_append]
            simpa [bv] using hO2
          · exact gb_own (gb_own hgi hgr1 (fun q e => by have := hAb.out q e; omega)) hgr2 (fun q e => by injection e with e; subst e; dsimp only; omega)
        case measure => first | (simp [intOf]; done) | (simp [intOf]; omega)
      · have b63 : ((ch : Int) == 63) = false := by simp; omega
        have b42 : ((ch : Int) == 42) = false := by simp; omega
        have b91 : ((ch : Int) == 91) = false := by simp; omega
        have b92 : ((ch : Int) == 92) = false := by simp; omega
        have hsp : quote1 ch = [ch] := by unfold quote1; rw [if_neg (by unfold special; simp; omega)]
        replace h := Lib.hid h
        replace hsp := Lib.hid hsp
        go_wp2_with (first
          | (at_builtin; refine wpList_app1 wr rfl (.tmp 30) (.tmp 32) 51 rfl (w.heap.size + 1) 5 Try.underlying51 hi.out hz0.out hz1 hz2 rfl (by decide) A c n (L.map bv) rfl hO [bv ch] 5 1 rfl rfl (one_bv ch) hby (by decide) hbase ?_; intro g2 c2 w3 hO2 hgr2 hl2 hb2 hlt2)
          | fail)
        go_roundw
        case rel =>
          refine ⟨k + 1, some ⟨g2, 0, none⟩, c2, by go_num, by omega, ?_, ?_, ?_⟩
          · rw [hst.out, hsp.out, List.length_append, ← hn.out]; rfl
          · rw [hst.out, hsp.out, List.length_append, ← hn.out, List.map_append]
            simpa using hO2
          · exact gb_own hgi hgr2 (fun q e => by have := hAb.out q e; omega)
        case measure => first | (simp [intOf]; done) | (simp [intOf]; omega)

set_option maxHeartbeats 60000000 in
set_option maxRecDepth 100000 in
theorem quote11_any (s : List Nat) (w : World) (hs : ∀ v ∈ s, v < 256) (hl : s.length ≤ 100000) :
    Calls Try.prog 11 #[.string (strB s)] w fun e w' => e = .returned (.string (strB (quote s))) ∧ w' = w := by
  have hz := strB_size s
  have hx := strB_get hs
  have hlt := fun i (h : i < s.length) => byte_lt hs h
  replace hlt := Lib.hid hlt
  replace hx := Lib.hid (fun i (h : i < s.length) => hx i (by rw [hz]; exact h))
  have h92 : strB [92] = ⟨#[92]⟩ := by decide
  replace h92 := Lib.hid h92
  have hsl : s.length < 1000000 := by omega
  go_enter Try.func11, Try.ntmps11
  go_wp2_with fail
  go_loop [3, 4] (fun v3 v4 => ∃ (k : Nat), v4 = .int .i64 k ∧ k ≤ s.length ∧ v3 = .string (strB (quote (s.take k))))
    (fun _ v4 => s.length - (intOf v4).toNat)
  case atStart => exact ⟨0, rfl, Nat.zero_le _, rfl⟩
  case round =>
    obtain ⟨k, rfl, hk, rfl⟩ := hrel
    by_cases hks : s.length ≤ k
    · have hki : ¬ ((k : Int) < (s.length : Int)) := by omega
      rw [List.take_of_length_le hks]
      go_wp2_with fail
      go_ret
      exact ⟨rfl, rfl⟩
    · have hki : (k : Int) < (s.length : Int) := by omega
      have qk : k < s.length := by omega
      have hst := quote_step qk
      have hck := hx.out k qk
      have ck := hlt.out k qk
      obtain ⟨k1, hk1⟩ : ∃ k1, k1 = k + 1 := ⟨_, rfl⟩
      have hk1i : (k : Int) + 1 = (k1 : Int) := by omega
      have hk1l : k1 ≤ s.length := by omega
      have hq := strB_one s k qk
      rw [← hk1] at hq
      obtain ⟨ch, hch⟩ : ∃ ch, ch = s.getD k 0 := ⟨_, rfl⟩
      rw [← hch] at hck ck hst hq
      obtain ⟨q, hq'⟩ : ∃ q, q = strB [ch] := ⟨_, rfl⟩
      rw [← hq'] at hq
      have hqx := hq
      clear hq hch
      have hql := quote_len (s.take k)
      rw [List.length_take, Nat.min_eq_left hk] at hql
      rename q = strB [ch] => hq
      obtain ⟨L, hL⟩ : ∃ L, L = quote (s.take k) := ⟨_, rfl⟩
      rw [← hL] at hst hql ⊢
      clear hL
      obtain ⟨ot, hot⟩ : ∃ ot, ot = strB L := ⟨_, rfl⟩
      rw [← hot]
      have hots : ot.size < 400000 := by rw [hot, strB_size]; omega
      have hqs : q.size = 1 := by rw [hq, strB_size]; rfl
      have h92 := h92.out
      have hcs : ch = 63 ∨ (ch ≠ 63 ∧ ch = 42) ∨ (ch ≠ 63 ∧ ch ≠ 42 ∧ ch = 91) ∨ (ch ≠ 63 ∧ ch ≠ 42 ∧ ch ≠ 91 ∧ ch = 92) ∨ (ch ≠ 63 ∧ ch ≠ 42 ∧ ch ≠ 91 ∧ ch ≠ 92) := by omega
      rcases hcs with h | h | h | h | h
      · have b63 : ((ch : Int) == 63) = true := by simp; omega
        have hsp : quote1 ch = [92, ch] := by unfold quote1; rw [if_pos (by unfold special; simp; omega)]
        obtain ⟨o1, ho1⟩ : ∃ o1, o1 = strB (L ++ [92]) := ⟨_, rfl⟩
        obtain ⟨o2, ho2⟩ : ∃ o2, o2 = strB (L ++ [92] ++ [ch]) := ⟨_, rfl⟩
        have e1 : ot ++ (⟨#[92]⟩ : ByteArray) = o1 := by rw [ho1, hot, ← strB_append, h92]
        have e2 : o1 ++ q = o2 := by rw [ho1, ho2, hq, ← strB_append (L ++ [92])]
        have ho1s : o1.size < 400001 := by rw [ho1, strB_size, List.length_append]; simp; omega
        have ho3 : o2 = strB (quote (s.take (k + 1))) := by rw [ho2, hst, hsp, List.append_assoc]; rfl
        replace ho3 := Lib.hid ho3
        replace hk1 := Lib.hid hk1
        clear hsp ho2 hst hot hq h h92 ho1
        go_wp2_with fail
        go_roundw
        case rel => exact ⟨k1, rfl, by omega, by rw [hk1.out, ho3.out]⟩
        case measure => first | (simp [intOf]; done) | (simp [intOf]; omega)
      · have b63 : ((ch : Int) == 63) = false := by simp; omega
        have b42 : ((ch : Int) == 42) = true := by simp; omega
        have hsp : quote1 ch = [92, ch] := by unfold quote1; rw [if_pos (by unfold special; simp; omega)]
        obtain ⟨o1, ho1⟩ : ∃ o1, o1 = strB (L ++ [92]) := ⟨_, rfl⟩
        obtain ⟨o2, ho2⟩ : ∃ o2, o2 = strB (L ++ [92] ++ [ch]) := ⟨_, rfl⟩
        have e1 : ot ++ (⟨#[92]⟩ : ByteArray) = o1 := by rw [ho1, hot, ← strB_append, h92]
        have e2 : o1 ++ q = o2 := by rw [ho1, ho2, hq, ← strB_append (L ++ [92])]
        have ho1s : o1.size < 400001 := by rw [ho1, strB_size, List.length_append]; simp; omega
        have ho3 : o2 = strB (quote (s.take (k + 1))) := by rw [ho2, hst, hsp, List.append_assoc]; rfl
        replace ho3 := Lib.hid ho3
        replace hk1 := Lib.hid hk1
        clear hsp ho2 hst hot hq h h92 ho1
        go_wp2_with fail
        go_roundw
        case rel => exact ⟨k1, rfl, by omega, by rw [hk1.out, ho3.out]⟩
        case measure => first | (simp [intOf]; done) | (simp [intOf]; omega)
      · have b63 : ((ch : Int) == 63) = false := by simp; omega
        have b42 : ((ch : Int) == 42) = false := by simp; omega
        have b91 : ((ch : Int) == 91) = true := by simp; omega
        have hsp : quote1 ch = [92, ch] := by unfold quote1; rw [if_pos (by unfold special; simp; omega)]
        obtain ⟨o1, ho1⟩ : ∃ o1, o1 = strB (L ++ [92]) := ⟨_, rfl⟩
        obtain ⟨o2, ho2⟩ : ∃ o2, o2 = strB (L ++ [92] ++ [ch]) := ⟨_, rfl⟩
        have e1 : ot ++ (⟨#[92]⟩ : ByteArray) = o1 := by rw [ho1, hot, ← strB_append, h92]
        have e2 : o1 ++ q = o2 := by rw [ho1, ho2, hq, ← strB_append (L ++ [92])]
        have ho1s : o1.size < 400001 := by rw [ho1, strB_size, List.length_append]; simp; omega
        have ho3 : o2 = strB (quote (s.take (k + 1))) := by rw [ho2, hst, hsp, List.append_assoc]; rfl
        replace ho3 := Lib.hid ho3
        replace hk1 := Lib.hid hk1
        clear hsp ho2 hst hot hq h h92 ho1
        go_wp2_with fail
        go_roundw
        case rel => exact ⟨k1, rfl, by omega, by rw [hk1.out, ho3.out]⟩
        case measure => first | (simp [intOf]; done) | (simp [intOf]; omega)
      · have b63 : ((ch : Int) == 63) = false := by simp; omega
        have b42 : ((ch : Int) == 42) = false := by simp; omega
        have b91 : ((ch : Int) == 91) = false := by simp; omega
        have b92 : ((ch : Int) == 92) = true := by simp; omega
        have hsp : quote1 ch = [92, ch] := by unfold quote1; rw [if_pos (by unfold special; simp; omega)]
        obtain ⟨o1, ho1⟩ : ∃ o1, o1 = strB (L ++ [92]) := ⟨_, rfl⟩
        obtain ⟨o2, ho2⟩ : ∃ o2, o2 = strB (L ++ [92] ++ [ch]) := ⟨_, rfl⟩
        have e1 : ot ++ (⟨#[92]⟩ : ByteArray) = o1 := by rw [ho1, hot, ← strB_append, h92]
        have e2 : o1 ++ q = o2 := by rw [ho1, ho2, hq, ← strB_append (L ++ [92])]
        have ho1s : o1.size < 400001 := by rw [ho1, strB_size, List.length_append]; simp; omega
        have ho3 : o2 = strB (quote (s.take (k + 1))) := by rw [ho2, hst, hsp, List.append_assoc]; rfl
        replace ho3 := Lib.hid ho3
        replace hk1 := Lib.hid hk1
        clear hsp ho2 hst hot hq h h92 ho1
        go_wp2_with fail
        go_roundw
        case rel => exact ⟨k1, rfl, by omega, by rw [hk1.out, ho3.out]⟩
        case measure => first | (simp [intOf]; done) | (simp [intOf]; omega)
      · have b63 : ((ch : Int) == 63) = false := by simp; omega
        have b42 : ((ch : Int) == 42) = false := by simp; omega
        have b91 : ((ch : Int) == 91) = false := by simp; omega
        have b92 : ((ch : Int) == 92) = false := by simp; omega
        have hsp : quote1 ch = [ch] := by unfold quote1; rw [if_neg (by unfold special; simp; omega)]
        obtain ⟨o2, ho2⟩ : ∃ o2, o2 = strB (L ++ [ch]) := ⟨_, rfl⟩
        have e2 : ot ++ q = o2 := by rw [ho2, hot, hq, ← strB_append L]
        have ho3 : o2 = strB (quote (s.take (k + 1))) := by rw [ho2, hst, hsp]
        replace ho3 := Lib.hid ho3
        replace hk1 := Lib.hid hk1
        clear hsp ho2 hst hot hq h h92
        go_wp2_with fail
        go_roundw
        case rel => exact ⟨k1, rfl, by omega, by rw [hk1.out, ho3.out]⟩
        case measure => first | (simp [intOf]; done) | (simp [intOf]; omega)
end Go.Proofs.Ytbnkdopigjdogaa
