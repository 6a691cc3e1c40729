/- The walk of the document's Pack. -/
import Derived.Test.YtlohplopomfjhaaVN
namespace Go.Proofs.Ytlohplopomfjhaa
set_option linter.unusedVariables false
set_option linter.unusedSimpArgs false
open Go.RowKit Go.Own Go.Bits Go.Lz

set_option maxHeartbeats 6400000 in
set_option maxRecDepth 100000 in
theorem rpack_any (T : List Tok) (S : Option Addr) (cs B : Nat) (w : World) (hS : Rd w B 3 S T.length (T.flatMap tkC)) (hB : B ≤ w.heap.size) (hTl : T.length ≤ 600) (hok : ∀ t ∈ T, okTok t) :
    Calls Try.prog 39 #[.slice S T.length cs] w (Gives w 5 1 (pk (packBits T)).length ((pk (packBits T)).map bv)) := by
  obtain ⟨it, hi, hz0, hz1, hz2⟩ := info_parts info4
  have hpl := packBits_len T hok
  go_enter Try.func39, Try.ntmps39
  go_wp2_with fail
  go_loopw [3, 4] (fun v3 v4 wi => ∃ (k n : Nat) (l : List Bool) (A : Option Addr) (c : Nat), v3 = .slice A n c ∧ v4 = .int .i64 k ∧ k ≤ T.length ∧ n = l.length ∧ l = (T.take k).flatMap tokBits ∧ Own wi w.heap.size 4 1 A c n (l.map .bool) ∧ w.grownBy wi none)
    (fun _ v4 _ => T.length - (intOf v4).toNat)
  case atStart => exact ⟨0, 0, [], none, 0, rfl, rfl, by omega, rfl, by simp, Own.nil _ _ _ _, gb_refl _ _⟩
  case round =>
    obtain ⟨k, n, l, A, c, rfl, rfl, hk, hn, hl, hO, hg⟩ := hrel
    have hfl := flat_len (T.take k) (fun t ht => hok t (List.mem_of_mem_take ht))
    have htk2 : (T.take k).length ≤ 600 := by simp; omega
    rw [← hl] at hfl
    have HN := Lib.hid hn
    have HL := Lib.hid hl
    have hn31 : n ≤ 31000 := by omega
    clear hl hn
    by_cases hkl : k < T.length
    · obtain ⟨sg, off, rfl, hsg, p0, p1, p2⟩ := rd_tok hS hkl
      have hts : T.take (k + 1) = T.take k ++ [T[k]] := List.take_succ_eq_append_getElem hkl
      have hokk := hok _ (List.getElem_mem hkl)
      have HTS := Lib.hid hts
      clear hts hok
      have hs := hg.size
      have d1 := hg.cell p1 (by simp)
      generalize T[k] = t at *
      obtain ⟨tb, tf, tl⟩ := t
      dsimp only at p0 p1 p2 d1
      have hby : (n + 1) * 1 ≤ 140737488355328 := by omega
      obtain ⟨hb256, hcase⟩ := hokk
      dsimp only at hb256 hcase
      rcases hcase with ⟨rfl, rfl⟩ | ⟨rfl, h1, h2, h3, h4⟩
      · have hone : ∀ u ∈ [Value.bool false], u.oneCell' = true := by intro u hu; simp at hu; subst hu; rfl
        obtain ⟨m, hm⟩ : ∃ m, m = 8 := ⟨8, rfl⟩
        have hrb := fun W => rbits_any tb 8 W (by omega)
        have h8 : nb 8 = m := by rw [hm]; decide
        rw [h8] at hrb
        have HRB := Lib.hid hrb
        have HM := Lib.hid hm
        have hm8 : m ≤ 8 := by omega
        clear hrb h8 hm
        go_wp2_with (
          at_builtin
          refine wpList_app1 wr rfl (.tmp 11) (.tmp 18) 27 rfl w.heap.size 4 Try.underlying27 hi hz0 hz1 hz2 rfl (by decide) A c n (l.map .bool) rfl hO [.bool false] 4 1 (by rfl) rfl hone hby (by decide) hs ?_
          intro g1 c1 w2 hO2 hgr hloc hbg1 hlt1
          have hg2 := gb_own hg hgr (fun g hg' => (hO.lt g hg').1)
          have e0 := hg2.cell p0 (by simp)
          have e1 := hg2.cell p1 (by simp))
        refine (HRB.out _).mono ?_
        rintro e w3 ⟨A3, c3, rfl, hO3, hg3⟩
        have hO23 := hO2.grown0 hg3
        have hg23 := gb_trans hg2 hg3
        have hs3 := hg23.size
        have hone2 : ∀ u ∈ (bitsN tb m).map Value.bool, u.oneCell' = true := bools_one
        have hby2 : (n + 1 + m) * 1 ≤ 140737488355328 := by omega
        have h63 : n + 1 + m ≤ maxLen := by simp only [maxLen]; omega
        have hrd := hO3.rd
        go_wp2_with (
          at_builtin
          refine wpList_appN w3 rfl (.tmp 26) (.tmp 33) 27 rfl w.heap.size 4 Try.underlying27 hi hz0 hz1 hz2 rfl (by decide) (some ⟨g1, 0, none⟩) c1 (n + 1) (l.map .bool ++ [.bool false]) rfl hO23 w3.heap.size A3 m c3 ((bitsN tb m).map .bool) rfl hrd hone2 h63 hby2 hs3 ?_
          intro A4 c4 w4 hO4 hgr4 hloc4)
        go_roundw
        case rel =>
          have e : (T.take (k + 1)).flatMap tokBits = l ++ ([false] ++ bitsN tb 8) := by
            rw [HTS.out, List.flatMap_append, HL.out]
            simp [tokBits]
          refine ⟨k + 1, n + 1 + m, l ++ ([false] ++ bitsN tb m), A4, c4, rfl, by go_num, by omega, by have := HN.out; simp [bitsN_len]; omega, by rw [e, HM.out], ?_, gb_own hg23 hgr4 (fun g hg' => (hO23.lt g hg').1)⟩
          rw [List.map_append, List.map_append, ← List.append_assoc]
          exact hO4
        case measure => first | (simp [intOf]; done) | (simp [intOf]; omega)
      · have hf1 : (tf != 0) = true := by simp; omega
        have hf2 : (tf == 0) = false := by simp; omega
        obtain ⟨fn, hfn⟩ : ∃ fn : Nat, tf = fn := ⟨tf.toNat, by omega⟩
        obtain ⟨ln, hln⟩ : ∃ ln : Nat, tl = ln := ⟨tl.toNat, by omega⟩
        subst hfn
        subst hln
        have hw2 : (ln : Int) - 2 = ((ln - 2 : Nat) : Int) := by omega
        have hwf : IntKind.u64.wrap (fn : Int) = (fn : Int) := by rw [IntKind.wrap_u64]; omega
        have hwl : IntKind.u64.wrap ((ln - 2 : Nat) : Int) = ((ln - 2 : Nat) : Int) := by rw [IntKind.wrap_u64]; omega
        have hwi : IntKind.i64.wrap ((ln - 2 : Nat) : Int) = ((ln - 2 : Nat) : Int) := by rw [IntKind.wrap_i64]; omega
        have hgf := fun W => rgamma_any fn W (by omega)
        have hgl := fun W => rgamma_any (ln - 2) W (by omega)
        have hlf := gam_len25 fn (by omega)
        have hll := gam_len25 (ln - 2) (by omega)
        have e : (T.take (k + 1)).flatMap tokBits = l ++ [true] ++ gam fn ++ gam (ln - 2) := by
          rw [HTS.out, List.flatMap_append, HL.out]
          simp [tokBits]
          omega
        have HE := Lib.hid e
        have hone : ∀ u ∈ [Value.bool true], u.oneCell' = true := by intro u hu; simp at hu; subst hu; rfl
        have honef : ∀ u ∈ (gam fn).map Value.bool, u.oneCell' = true := bools_one
        have honel : ∀ u ∈ (gam (ln - 2)).map Value.bool, u.oneCell' = true := bools_one
        clear e
        generalize gam fn = gf at *
        generalize gam (ln - 2) = gl at *
        have hbyf : (n + 1 + gf.length) * 1 ≤ 140737488355328 := by omega
        have h63f : n + 1 + gf.length ≤ maxLen := by simp only [maxLen]; omega
        have hbyl : (n + 1 + gf.length + gl.length) * 1 ≤ 140737488355328 := by omega
        have h63l : n + 1 + gf.length + gl.length ≤ maxLen := by simp only [maxLen]; omega
        go_wp2_with (
          at_builtin
          refine wpList_app1 wr rfl (.tmp 11) (.tmp 18) 27 rfl w.heap.size 4 Try.underlying27 hi hz0 hz1 hz2 rfl (by decide) A c n (l.map .bool) rfl hO [.bool true] 4 1 (by rfl) rfl hone hby (by decide) hs ?_
          intro g1 c1 w2 hO2 hgr hloc hbg1 hlt1
          have hg2 := gb_own hg hgr (fun g hg' => (hO.lt g hg').1)
          have e1 := hg2.cell p1 (by simp))
        have hg2d := gb_drew (row := none) hg2
        have hO2d : Own w2.drew w.heap.size 4 1 (some ⟨g1, 0, none⟩) c1 (n + 1) (l.map .bool ++ [.bool true]) := hO2
        have hk3 : ∀ W, w.grownBy W none → (w.grownBy W none ∧ W.cell? ⟨sg, off + k * 3 + 1, none⟩ = some (.int .i64 (fn : Int)) ∧ W.cell? ⟨sg, off + k * 3 + 2, none⟩ = some (.int .i64 (ln : Int))) := fun W h => ⟨h, h.cell p1 (by simp), h.cell p2 (by simp)⟩
        have hsz2 : w2.drew.heap.size = w2.heap.size := rfl
        go_wp2_with fail
        go_region_held3 (fun W => w.grownBy W none ∧ W.cell? ⟨sg, off + k * 3 + 1, none⟩ = some (.int .i64 (fn : Int)) ∧ W.cell? ⟨sg, off + k * 3 + 2, none⟩ = some (.int .i64 (ln : Int)))
          (with_reducible first | exact hk3 _ hg2d | exact hk3 _ hkF | exact hk3 _ hkL | exact hk3 _ hkP | exact hk3 _ hkQ | fail)
          (first
            | (go_at_call 43; (with_reducible refine (hgf _).mono ?_); rintro e w3 ⟨A3, c3, rfl, hO3, hg3⟩; (first | (have hkF := gb_trans hg2d hg3) | (have hkF := gb_trans hkL hg3) | fail))
            | (go_at_call 43; (with_reducible refine (hgl _).mono ?_); rintro e w4 ⟨A4, c4, rfl, hO4, hg4⟩; (first | (have hkL := gb_trans hg2d hg4) | (have hkL := gb_trans hkF hg4) | (have hkL := gb_trans hkP hg4) | fail))
            | (refine step_appN _ (by rfl) (.tmp 35) (.tmp 42) 27 (by rfl) w.heap.size 4 Try.underlying27 hi hz0 hz1 hz2 rfl (by decide) (some ⟨g1, 0, none⟩) c1 (n + 1) (l.map .bool ++ [.bool true]) (by rfl) (by first | exact (hO2d.grown0 hg3).grown0 hg4 | exact (hO2d.grown0 hg4).grown0 hg3 | exact hO2d.grown0 hg3 | fail) _ A3 gf.length c3 (gf.map .bool) (by rfl) (by first | exact hO3.rd | exact (hO3.grown0 hg4).rd | fail) honef h63f hbyf (by first | exact hkL.size | exact hkF.size | fail) ?_; intro A5 c5 w5 hO5 hg5 hloc5; (first | (have hkP := gb_own hkL hg5 (fun g hg' => (hO2.lt g hg').1)) | (have hkP := gb_own hkF hg5 (fun g hg' => (hO2.lt g hg').1)) | fail))
            | (refine step_appN _ (by rfl) (.tmp 43) (.tmp 51) 27 (by rfl) w.heap.size 4 Try.underlying27 hi hz0 hz1 hz2 rfl (by decide) A5 c5 (n + 1 + gf.length) ((l.map .bool ++ [.bool true]) ++ gf.map .bool) (by rfl) (by first | exact hO5 | exact hO5.grown0 hg4 | fail) _ A4 gl.length c4 (gl.map .bool) (by rfl) (by first | exact hO4.rd | exact (hO4.grown hg5 (.inr (by intro e; have h1 := (hO4.lt g1 (by simpa [blk] using e)).1; have h2 := hg3.size; have h3 := hg4.size; omega))).rd | exact ((hO4.grown0 hg3).grown hg5 (.inr (by intro e; have h1 := (hO4.lt g1 (by simpa [blk] using e)).1; have h2 := hg3.size; have h3 := hg4.size; omega))).rd | fail) honel h63l hbyl (by first | exact hkL.size | exact hkP.size | fail) ?_; intro A6 c6 w6 hO6 hg6 hloc6; (first | (have hkQ := gb_own hkL hg6 (fun g hg' => (hO5.lt g hg').1)) | (have hkQ := gb_own hkP hg6 (fun g hg' => (hO5.lt g hg').1)) | fail))
            | fail)
        all_goals
          go_wp2_with fail
          go_roundw
          case rel =>
            refine ⟨k + 1, n + 1 + gf.length + gl.length, l ++ [true] ++ gf ++ gl, A6, c6, rfl, by go_num, by omega, by have := HN.out; simp; omega, HE.out.symm, ?_, hkQ⟩
            rw [List.map_append, List.map_append, List.map_append]
            exact hO6
          case measure => first | (simp [intOf]; done) | (simp [intOf]; omega)
    · have hk2 : k = T.length := by omega
      subst hk2
      have hl2 : packBits T = l ++ [true] ++ gam 4097 := by
        have := HL.out
        rw [List.take_length] at this
        rw [this]; simp [packBits]
      have hgf := fun W => rgamma_any 4097 W (by omega)
      have hlf := gam_len25 4097 (by omega)
      have hone : ∀ u ∈ [Value.bool true], u.oneCell' = true := by intro u hu; simp at hu; subst hu; rfl
      have honef : ∀ u ∈ (gam 4097).map Value.bool, u.oneCell' = true := bools_one
      rw [hl2]
      have HL2 := Lib.hid hl2
      rw [hl2] at hpl
      clear hl2
      generalize gam 4097 = gf at *
      have hll : (l ++ [true] ++ gf).length = n + 1 + gf.length := by have := HN.out; simp; omega
      have hlm : (l ++ [true] ++ gf).map Value.bool = l.map .bool ++ [.bool true] ++ gf.map .bool := by simp
      have hrb := fun (W : World) (A' : Option Addr) (c' : Nat) (h : Rd W W.heap.size 1 A' (n + 1 + gf.length) (l.map .bool ++ [.bool true] ++ gf.map .bool)) => rbytes_any (l ++ [true] ++ gf) A' c' W.heap.size W (Nat.le_refl _) (by rw [hll, hlm]; exact h) (by omega)
      rw [hll] at hrb
      generalize l ++ [true] ++ gf = lt at *
      have hbyt : (n + 1) * 1 ≤ 140737488355328 := by omega
      have hbyf : (n + 1 + gf.length) * 1 ≤ 140737488355328 := by omega
      have h63f : n + 1 + gf.length ≤ maxLen := by simp only [maxLen]; omega
      have hs := hg.size
      clear hll hlm hpl
      go_wp2_with (
        at_builtin
        refine wpList_app1 wr rfl (.tmp 53) (.tmp 54) 27 rfl w.heap.size 4 Try.underlying27 hi hz0 hz1 hz2 rfl (by decide) A c n (l.map .bool) rfl hO [.bool true] 4 1 (by rfl) rfl hone hbyt (by decide) hs ?_
        intro g1 c1 w2 hO2 hgr hloc hbg1 hlt1
        have hg2 := gb_own hg hgr (fun g hg' => (hO.lt g hg').1))
      refine (hgf _).mono ?_
      rintro e w3 ⟨A3, c3, rfl, hO3, hg3⟩
      have hO23 := hO2.grown0 hg3
      have hg23 := gb_trans hg2 hg3
      have hs3 := hg23.size
      have hrd := hO3.rd
      go_wp2_with (
        at_builtin
        refine wpList_appN w3 rfl (.tmp 55) (.tmp 56) 27 rfl w.heap.size 4 Try.underlying27 hi hz0 hz1 hz2 rfl (by decide) (some ⟨g1, 0, none⟩) c1 (n + 1) (l.map .bool ++ [.bool true]) rfl hO23 w3.heap.size A3 gf.length c3 (gf.map .bool) rfl hrd honef h63f hbyf hs3 ?_
        intro A4 c4 w4 hO4 hgr4 hloc4
        have hg4 := gb_own hg23 hgr4 (fun g hg' => (hO23.lt g hg').1))
      refine (hrb _ _ _ hO4.rd).mono ?_
      rintro e w5 ⟨A5, c5, rfl, hO5, hg5⟩
      go_wp2_with fail
      go_ret
      rw [HL2.out]
      exact ⟨A5, c5, rfl, hO5.mono hg4.size, gb_trans hg4 hg5⟩
end Go.Proofs.Ytlohplopomfjhaa
