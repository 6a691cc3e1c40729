/- The law GlobPicks. -/
import Derived.Test.YtbnkdopigjdogaaGK
import Derived.Test.YtbnkdopigjdogaaGI
import Derived.Test.YtbnkdopigjdogaaGLQ
namespace Go.Proofs.Ytbnkdopigjdogaa
set_option linter.unusedVariables false
set_option linter.unusedSimpArgs false
open Go.RowKit Go.Own Go.Glob

theorem rparse_ok {w : World} {s : List Nat} {l : List Part} {e : Ending} {w' : World} (hl : s.length ≤ 1000) (h : RParseGives w s (some l) e w') :
    ∃ A c, e = .returned (.tuple #[.slice A l.length c, .int .i64 0]) ∧ Rd w' w'.heap.size 257 A l.length (ql l) ∧ w.grownBy w' none := by
  obtain ⟨hg, h⟩ := h
  rcases h with ⟨h1, _⟩ | ⟨_, h1, _⟩ | ⟨_, l', A, c, h1, h2, h3, h4⟩
  · omega
  · cases h1
  · injection h1 with h1
    subst h1
    exact ⟨A, c, h3, h4, hg⟩
theorem parse_bad {w : World} {s : List Nat} {e : Ending} {w' : World} (hl : s.length ≤ 1000) (h : ParseGives w s none e w') : e = .returned (.tuple #[.agg #[.slice none 0 0], .int .i64 21]) ∧ w.grownBy w' none := by
  obtain ⟨hg, h⟩ := h
  rcases h with ⟨h1, _⟩ | ⟨_, _, h1⟩ | ⟨_, l', A, c, h1, _⟩
  · omega
  · exact ⟨h1, hg⟩
  · cases h1
theorem rparse_bad {w : World} {s : List Nat} {e : Ending} {w' : World} (hl : s.length ≤ 1000) (h : RParseGives w s none e w') : e = .returned (.tuple #[.slice none 0 0, .int .i64 21]) ∧ w.grownBy w' none := by
  obtain ⟨hg, h⟩ := h
  rcases h with ⟨h1, _⟩ | ⟨_, _, h1⟩ | ⟨_, l', A, c, h1, _⟩
  · omega
  · exact ⟨h1, hg⟩
  · cases h1

set_option maxHeartbeats 60000000 in
set_option maxRecDepth 100000 in
theorem law_picks (s : List Nat) (ns : List (List Nat)) (A2 : Option Addr) (c2 : Nat) (w : World) {B2 : Nat} (hN : Rd w B2 1 A2 ns.length (ns.map strV)) (hB2' : B2 ≤ w.heap.size) (hs : ∀ v ∈ s, v < 256) (hsm : s.length ≤ maxLen) (hns : ∀ x ∈ ns, (∀ v ∈ x, v < 256) ∧ x.length ≤ maxLen) (hnm : ns.length ≤ maxLen) :
    Calls Try.prog 3 #[.string (strB s), .slice A2 ns.length c2] w fun e w' => e = .returned (.bool true) ∧ w.grownBy w' none := by
  have hz := strB_size s
  have hlen : (s.length : Int) < 9223372036854775808 := by simp only [maxLen] at hsm; omega
  have hlent : (ns.length : Int) < 9223372036854775808 := by simp only [maxLen] at hnm; omega
  by_cases h1 : 100 < s.length
  · have h1i : (100 : Int) < (s.length : Int) := by omega
    go_enter Try.func3, Try.ntmps3
    go_wp2_with (first | (go_at_call 5; refine (awake39 _).mono ?_; rintro e w1 ⟨rfl, hg1⟩) | fail)
    go_ret
    exact ⟨rfl, hg1⟩
  · have h1i : ¬ ((100 : Int) < (s.length : Int)) := by omega
    by_cases h2 : 40 < ns.length
    · have h2i : (40 : Int) < (ns.length : Int) := by omega
      go_enter Try.func3, Try.ntmps3
      go_wp2_with (first | (go_at_call 5; refine (awake39 _).mono ?_; rintro e w1 ⟨rfl, hg1⟩) | fail)
      go_ret
      exact ⟨rfl, hg1⟩
    · have h2i : ¬ ((40 : Int) < (ns.length : Int)) := by omega
      have H6 := fun w => parse6_any s w hs (by omega)
      have H7 := fun w => parse7_any s w hs (by omega)
      have hs3 : s.length ≤ 1000 := by omega
      replace hN := Lib.hid hN
      replace hns := Lib.hid hns
      obtain ⟨sb, hsb⟩ : ∃ sb, sb = strB s := ⟨_, rfl⟩
      rw [← hsb] at H6 H7 hz ⊢
      clear hsb
      cases hT : parse s with
      | none =>
        rw [hT] at H6 H7
        have C6 := fun w => (H6 w).mono fun e w' h => parse_bad hs3 h
        have C7 := fun w => (H7 w).mono fun e w' h => rparse_bad hs3 h
        replace C6 := Lib.hid C6
        replace C7 := Lib.hid C7
        replace hT := Lib.hid hT
        clear H6 H7
        go_enter Try.func3, Try.ntmps3
        go_wp2_with (first
          | (go_at_call 6; refine (C6.out _).mono ?_; rintro e w1 ⟨rfl, hg1⟩)
          | (apply bAlloc 26; (case ho => exact rfl); (case hw => exact rfl); (case hz => exact zero26))
          | (apply bStore 26 (.tmp 5) (.tmp 25); (case ho => exact rfl); (case hw => exact rfl); (case hx => exact rfl); (case hy => exact rfl); (case hB => exact (Blk.new w1 #[.slice none 0 0] 26)); (case hi => exact size26); (case hs => exact rfl); (case h1 => exact one26 _ _ _); intro w2 hB2 hg2; (have hgg2 := gb_own_b (gb_alloc hg1 (.cells #[.slice none 0 0] 26)) hg2 hg1.size))
          | (go_at_call 7; refine (C7.out _).mono ?_; rintro e w3 ⟨rfl, hg3⟩)
          | (go_at_call 5; refine (awake39 _).mono ?_; rintro e w4 ⟨rfl, hg4⟩)
          | fail)
        go_ret
        exact ⟨rfl, gb_trans (gb_trans hgg2 hg3) hg4⟩
      | some l =>
        rw [hT] at H6 H7
        have C6 := fun w => (H6 w).mono fun e w' h => parse_ok hs3 h
        have C7 := fun w => (H7 w).mono fun e w' h => rparse_ok hs3 h
        replace C6 := Lib.hid C6
        replace C7 := Lib.hid C7
        replace hT := Lib.hid hT
        clear H6 H7
        go_enter Try.func3, Try.ntmps3
        go_wp2_with (first
          | (go_at_call 6; refine (C6.out _).mono ?_; rintro e w1 ⟨A, c, rfl, hR, hg1, hls⟩)
          | (apply bAlloc 26; (case ho => exact rfl); (case hw => exact rfl); (case hz => exact zero26))
          | (apply bStore 26 (.tmp 5) (.tmp 25); (case ho => exact rfl); (case hw => exact rfl); (case hx => exact rfl); (case hy => exact rfl); (case hB => exact (Blk.new w1 #[.slice none 0 0] 26)); (case hi => exact size26); (case hs => exact rfl); (case h1 => exact one26 _ _ _); intro w2 hB2 hg2; (have hgg2 := gb_own_b (gb_alloc hg1 (.cells #[.slice none 0 0] 26)) hg2 hg1.size); (have hR2 : Rd w2 w1.heap.size 259 A l.length (l.flatMap pL) := hR.below ⟨hg2.os, hg2.tape, hg2.output, Nat.le_trans (by simp) hg2.size, fun k hk => (hg2.block k (by simp; omega) (by intro e; injection e with e; omega)).trans (Below.heap_alloc _ _ _ hk)⟩); (have hs2 : w1.heap.size ≤ w2.heap.size := Nat.le_trans (by simp) hg2.size))
          | (go_at_call 7; refine (C7.out _).mono ?_; rintro e w3 ⟨A7, c7, rfl, hR7, hg3⟩)
          | fail)
        have hB3 := hB2.grown hg3 (by simp)
        have hR3 := hR2.later hg3 hs2
        have hsz3 : w1.heap.size ≤ w3.heap.size := Nat.le_trans hs2 hg3.size
        have hgw3 := gb_trans hgg2 hg3
        have hll : l.length ≤ 100000 := by omega
        clear hB2 hR2 hR
        replace hR3 := Lib.hid hR3
        replace hR7 := Lib.hid hR7
        obtain ⟨it, hi, hz0, hz1, hz2⟩ := info_parts (P := Try.prog) (e := 9) (z := .string ByteArray.empty) (size := 1) (bytes := 16) (by kernel_rfl)
        replace hi := Lib.hid hi
        replace hz0 := Lib.hid hz0
        go_loopw [9, 10] (fun v9 v10 wi => ∃ (k : Nat) (A3 : Option Addr) (c3 : Nat), v10 = .int .i64 k ∧ k ≤ ns.length ∧ v9 = .slice A3 ((ns.take k).filter (mt l)).length c3 ∧ Own wi w3.heap.size 9 1 A3 c3 ((ns.take k).filter (mt l)).length (((ns.take k).filter (mt l)).map strV) ∧ w3.grownBy wi none ∧ Hid (∀ x ∈ ns.take k, x.length ≤ 100))
          (fun _ v10 _ => ns.length - (intOf v10).toNat)
        case atStart => exact ⟨0, none, 0, rfl, Nat.zero_le _, rfl, Own.nil _ _ _ _, gb_refl _ _, Lib.hid (by simp)⟩
        case round =>
          obtain ⟨k, A3, c3, rfl, hk, rfl, hO, hgi, hshort⟩ := hrel
          have hgw := gb_trans hgw3 hgi
          have hNi := hN.out.later hgw hB2'
          by_cases hks : ns.length ≤ k
          · have hki : ¬ ((k : Int) < (ns.length : Int)) := by omega
            rw [List.take_of_length_le hks] at hO hshort ⊢
            have hBi := hB3.grown hgi (by simp)
            have hP := pick9_any l ns A c A2 c2 wr (hR3.out.later hgi hsz3) (Nat.le_trans hsz3 hgi.size) hNi (Nat.le_trans hB2' hgw.size) (fun x hx => ⟨(hns.out x hx).1, by have := hshort.out x hx; omega⟩) hll (by omega)
            have hFl : (ns.filter (mt l)).length ≤ ns.length := List.length_filter_le _ _
            obtain ⟨F, hF⟩ : ∃ F, F = ns.filter (mt l) := ⟨_, rfl⟩
            rw [← hF] at hO hP hFl ⊢
            clear hF
            obtain ⟨n, hn⟩ : ∃ n, n = F.length := ⟨_, rfl⟩
            rw [← hn] at hO hP hFl ⊢
            replace hn := Lib.hid hn
            replace hP := Lib.hid hP
            go_wp2_with (first
              | (apply bLoad 26 (.tmp 5); (case ho => exact rfl); (case hu => exact Try.underlying26); (case hw => exact rfl); (case hx => exact rfl); (case hB => exact hBi); (case hd => exact rfl); (case hi => exact size26))
              | (go_at_call 9; refine hP.out.mono ?_; rintro e w5 ⟨A5, c5, rfl, hR5, hg5⟩; (have hW := hO.rd.later hg5 (Nat.le_refl _)))
              | fail)
            go_loopw [12] (fun v12 wi => ∃ j : Nat, v12 = .int .i64 j ∧ j ≤ n ∧ w5.grownBy wi none) (fun v12 _ => n - (intOf v12).toNat)
            case atStart => exact ⟨0, rfl, Nat.zero_le _, gb_refl _ _⟩
            case round =>
              obtain ⟨j, rfl, hj, hgj⟩ := hrel
              by_cases hje : n ≤ j
              · have hji : ¬ ((j : Int) < (n : Int)) := by omega
                go_wp2_with (first
                  | (go_at_call 5; refine (awake39 _).mono ?_; rintro e w6 ⟨rfl, hg6⟩)
                  | fail)
                go_ret
                exact ⟨rfl, gb_trans (gb_trans (gb_trans hgw hg5) hgj) hg6⟩
              · have hji : (j : Int) < (n : Int) := by omega
                have hji2 : ¬ ((n : Int) ≤ (j : Int)) := by omega
                have qj : j < F.length := by have := hn.out; omega
                obtain ⟨ga, oa, ea, _, hca⟩ := (hR5.later hgj (Nat.le_refl _)).form (by omega)
                obtain ⟨gb, ob, eb, _, hcb⟩ := (hW.later hgj hg5.size).form (by omega)
                subst ea eb
                have ka := hca j (.string (strB (F.getD j []))) (by simp [qj, strV])
                have kb := hcb j (.string (strB (F.getD j []))) (by simp [qj, strV])
                obtain ⟨y, hy⟩ : ∃ y, y = strB (F.getD j []) := ⟨_, rfl⟩
                rw [← hy] at ka kb
                clear hy hca hcb
                go_wp2_with fail
                go_quiet (rfl)
                go_wp2_with fail
                go_roundw
                case rel => exact ⟨j + 1, by go_num, by omega, gb_drewN hgj _⟩
                case measure => first | (simp [intOf]; done) | (simp [intOf]; omega)
          · have hki : (k : Int) < (ns.length : Int) := by omega
            have qk : k < ns.length := by omega
            obtain ⟨g, off, rfl, hgB, hc⟩ := hNi.form (by omega)
            have hxm : ns.getD k [] ∈ ns := by simp [qk]
            have hck := hc k (.string (strB (ns.getD k []))) (by simp [qk, strV])
            have hst := filter_snoc (mt l) ns k qk
            have htk : ns.take (k + 1) = ns.take k ++ [ns.getD k []] := by rw [List.take_add_one]; simp [qk]
            have hlen2 : ((ns.take k).filter (mt l)).length ≤ ns.length := by
              refine Nat.le_trans (List.length_filter_le _ _) ?_
              rw [List.length_take]; omega
            have hxs := hns.out _ hxm
            have hxz := strB_size (ns.getD k [])
            obtain ⟨x, hx⟩ : ∃ x, x = ns.getD k [] := ⟨_, rfl⟩
            rw [← hx] at hck hst hxs hxz htk
            clear hc hx hxm
            have hxm : (x.length : Int) < 9223372036854775808 := by have := hxs.2; simp only [maxLen] at this; omega
            have hM : Hid (x.length ≤ 100 → Calls Try.prog 8 #[.slice A7 l.length c7, .string (strB x)] wr fun e w' => e = .returned (.bool (mt l x)) ∧ wr.grownBy w' none) :=
              Lib.hid fun h => match8_any l x A7 c7 wr (hR7.out.later hgi (Nat.le_refl _)) hgi.size hxs.1 (by omega) hll
            replace hxs := Lib.hid hxs
            obtain ⟨sx, hsx⟩ : ∃ sx, sx = strB x := ⟨_, rfl⟩
            rw [← hsx] at hck hxz hM
            obtain ⟨F, hF⟩ : ∃ F, F = (ns.take k).filter (mt l) := ⟨_, rfl⟩
            rw [← hF] at hO hst hlen2 ⊢
            clear hF
            obtain ⟨n, hn⟩ : ∃ n, n = F.length := ⟨_, rfl⟩
            rw [← hn] at hO hlen2 ⊢
            replace hn := Lib.hid hn
            have hby : (n + 1) * 16 ≤ 140737488355328 := by omega
            have hAb : ∀ q, blk A3 = some q → w3.heap.size ≤ q := fun q e => (hO.lt q e).1
            replace hAb := Lib.hid hAb
            replace hst := Lib.hid hst
            replace hsx := Lib.hid hsx
            replace htk := Lib.hid htk
            by_cases hx1 : 100 < x.length
            · have hxi : (100 : Int) < (x.length : Int) := by omega
              go_wp2_with (first
                | (go_at_call 5; refine (awake39 _).mono ?_; rintro e w6 ⟨rfl, hg6⟩)
                | fail)
              go_ret
              exact ⟨rfl, gb_trans hgw hg6⟩
            · have hxi : ¬ ((100 : Int) < (x.length : Int)) := by omega
              have hMk := hM.out (by omega)
              have hsh : Hid (∀ y ∈ ns.take (k + 1), y.length ≤ 100) := Lib.hid (by
                rw [htk.out]
                intro y hy
                rcases List.mem_append.1 hy with h | h
                · exact hshort.out y h
                · simp at h; subst h; omega)
              cases hm : mt l x with
              | true =>
                rw [hm] at hMk
                replace hm := Lib.hid hm
                replace hMk := Lib.hid hMk
                go_wp2_with (first
                  | (go_at_call 8; refine hMk.out.mono ?_; rintro e w4 ⟨rfl, hg4⟩; (have hO4 := hO.grown0 hg4); (have hb4 : w3.heap.size ≤ w4.heap.size := Nat.le_trans hgi.size hg4.size); (have hck4 := World.grownBy.cell hg4 hck (by simp)))
                  | (at_builtin; refine wpList_app1 w4 rfl (.tmp 54) (.tmp 59) 22 rfl w3.heap.size 9 Try.underlying22 hi.out hz0.out hz1 hz2 rfl (by decide) A3 c3 n (F.map strV) rfl hO4 [.string sx] 9 1 rfl rfl (by intro u hu; simp at hu; subst hu; rfl) hby (by decide) hb4 ?_; intro g9 c9 w9 ho9 hg9 hl9 hb9 hlt9)
                  | fail)
                go_roundw
                case rel =>
                  refine ⟨k + 1, some ⟨g9, 0, none⟩, c9, by go_num, by omega, ?_, ?_, gb_own (gb_trans hgi hg4) hg9 (fun q e => hAb.out q e), hsh⟩
                  · rw [hst.out, hm.out, if_pos rfl, List.length_append, ← hn.out]; rfl
                  · rw [hst.out, hm.out, if_pos rfl, List.length_append, ← hn.out, List.map_append]
                    rw [hsx.out] at ho9
                    simpa [strV] using ho9
                case measure => first | (simp [intOf]; done) | (simp [intOf]; omega)
              | false =>
                rw [hm] at hMk
                replace hm := Lib.hid hm
                replace hMk := Lib.hid hMk
                go_wp2_with (first
                  | (go_at_call 8; refine hMk.out.mono ?_; rintro e w4 ⟨rfl, hg4⟩; (have hO4 := hO.grown0 hg4))
                  | fail)
                go_roundw
                case rel =>
                  refine ⟨k + 1, A3, c3, by go_num, by omega, ?_, ?_, gb_trans hgi hg4, hsh⟩
                  · rw [hst.out, hm.out, if_neg (by simp), List.append_nil, ← hn.out]
                  · rw [hst.out, hm.out, if_neg (by simp), List.append_nil, ← hn.out]
                    exact hO4
                case measure => first | (simp [intOf]; done) | (simp [intOf]; omega)

section
open Go.ChangeShapes Go.WideShapes Go.ChangeAt
theorem strs_of : ∀ ss : List ByteArray, (∀ b ∈ ss, b.size ≤ maxLen) → ∃ ns : List (List Nat), ss.map Value.string = ns.map strV ∧ ns.length = ss.length ∧ ∀ x ∈ ns, (∀ v ∈ x, v < 256) ∧ x.length ≤ maxLen := by
  intro ss
  induction ss with
  | nil => intro _; exact ⟨[], rfl, rfl, by simp⟩
  | cons b ss ih =>
    intro h
    obtain ⟨ns, h1, h2, h3⟩ := ih (fun b hb => h b (by simp [hb]))
    obtain ⟨l, hl, hv⟩ := strB_of b
    have hz := h b (by simp)
    rw [hl, strB_size] at hz
    refine ⟨l :: ns, by rw [List.map_cons, List.map_cons, h1, strV, hl], by simp [h2], ?_⟩
    intro x hx
    rcases List.mem_cons.1 hx with rfl | hx
    · exact ⟨hv, hz⟩
    · exact h3 x hx

theorem globpicks_main {H : Type} {enc : TypeId × Value → H} {base : Nat} {v0 v1 : Value} {d0 d1 : DataW H} {p0 p1 : List MemPlace} (W : World)
    (k0 : Value.okWide Try.prog W .any base 9 v0) (h0 : DataW.Trod enc Try.prog W 0 (fun _ => true) true 9 v0 d0 p0)
    (k1 : Value.okWide Try.prog W .any base 22 v1) (h1 : DataW.Trod enc Try.prog W 0 (fun _ => true) true 22 v1 d1 p1) :
    Calls Try.prog 3 #[v0, v1] W fun e w' => e = .returned (.bool true) ∧ W.grownBy w' none := by
  obtain ⟨s, rfl, hs, hsm⟩ := open_str k0 h0
  obtain ⟨A, n, c, ss, rfl, hlc, hcm, hsl, hR, hsz⟩ := open_strs Try.underlying22 Try.underlying9 (by kernel_rfl) k1 h1
  obtain ⟨ns, e1, e2, e3⟩ := strs_of ss hsz
  rw [e1] at hR
  have en : n = ns.length := by rw [e2, hsl]
  subst en
  exact law_picks s ns A c W hR (Nat.le_refl _) hs hsm e3 (Nat.le_trans hlc hcm)
end
end Go.Proofs.Ytbnkdopigjdogaa
