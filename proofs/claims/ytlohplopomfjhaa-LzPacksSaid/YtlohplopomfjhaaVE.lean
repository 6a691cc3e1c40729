/- The walks of the bytes of tokens, package lz's and the document's. -/
import Derived.Test.YtlohplopomfjhaaVD
namespace Go.Proofs.Ytlohplopomfjhaa
set_option linter.unusedVariables false
set_option linter.unusedSimpArgs false
open Go.RowKit Go.Own Go.Bits Go.Lz

theorem stepB_byte_long {most g : Int} {b : Nat} {out : List Nat} (h : most ≤ (out.length : Int)) : stepB most ⟨b, 0, g⟩ out = .error 29 := by
  unfold stepB; rw [if_pos rfl, if_pos h]
theorem stepB_byte {most g : Int} {b : Nat} {out : List Nat} (h : ¬ most ≤ (out.length : Int)) : stepB most ⟨b, 0, g⟩ out = .ok (out ++ [b]) := by
  unfold stepB; rw [if_pos rfl, if_neg h]
theorem stepB_bad {most f g : Int} {b : Nat} {out : List Nat} (hf : f ≠ 0) (h : bad ⟨b, f, g⟩ out) : stepB most ⟨b, f, g⟩ out = .error 21 := by
  unfold stepB; rw [if_neg hf, if_pos h]
theorem stepB_long {most f g : Int} {b : Nat} {out : List Nat} (hf : f ≠ 0) (h : ¬ bad ⟨b, f, g⟩ out) (hm : most < (out.length : Int) + g) : stepB most ⟨b, f, g⟩ out = .error 29 := by
  unfold stepB; rw [if_neg hf, if_neg h, if_pos hm]
theorem stepB_copy {most f g : Int} {b : Nat} {out : List Nat} (hf : f ≠ 0) (h : ¬ bad ⟨b, f, g⟩ out) (hm : ¬ most < (out.length : Int) + g) : stepB most ⟨b, f, g⟩ out = .ok (copyN f.toNat g.toNat out) := by
  unfold stepB; rw [if_neg hf, if_neg h, if_neg hm]

theorem rd_tok {w : World} {B : Nat} {S : Option Addr} {l : List Tok} (h : Rd w B 3 S l.length (l.flatMap tkC)) {k : Nat} (hk : k < l.length) :
    ∃ g off, S = some ⟨g, off, none⟩ ∧ g < B ∧ w.cell? ⟨g, off + k * 3, none⟩ = some (.int .u8 (l[k].b : Int)) ∧ w.cell? ⟨g, off + k * 3 + 1, none⟩ = some (.int .i64 l[k].f) ∧ w.cell? ⟨g, off + k * 3 + 2, none⟩ = some (.int .i64 l[k].l) := by
  obtain ⟨g, off, hS, hg, hc⟩ := h.form (by omega)
  have hl : l[k]? = some l[k] := by simp [hk]
  refine ⟨g, off, hS, hg, ?_, ?_, ?_⟩
  · have := hc (k * 3 + 0) (.int .u8 (l[k].b : Int)) (by rw [tkC_get l k 0 (by omega) _ hl]; rfl)
    simpa using this
  · have := hc (k * 3 + 1) (.int .i64 l[k].f) (by rw [tkC_get l k 1 (by omega) _ hl]; rfl)
    simpa [Nat.add_assoc] using this
  · have := hc (k * 3 + 2) (.int .i64 l[k].l) (by rw [tkC_get l k 2 (by omega) _ hl]; rfl)
    simpa [Nat.add_assoc] using this

/-- What the bytes of tokens give: a row of the call's own, and an error's number. -/
def GivesB (w : World) (r : List Nat × Int) (en : Ending) (w' : World) : Prop :=
  ∃ A c, en = .returned (.tuple #[.slice A r.1.length c, .int .i64 r.2]) ∧ Own w' w.heap.size 5 1 A c r.1.length (r.1.map bv) ∧ w.grownBy w' none

set_option maxHeartbeats 6400000 in
set_option maxRecDepth 100000 in
theorem bytes34_any (l : List Tok) (S : Option Addr) (cs B : Nat) (most : Int) (w : World) (hB : B ≤ w.heap.size) (hS : Rd w B 3 S l.length (l.flatMap tkC)) (hl : l.length ≤ 100000) (hm0 : -9223372036854775808 ≤ most) (hm1 : most ≤ 9223372036854775807) (hlb : ∀ t ∈ l, t.b < 256) :
    Calls Try.prog 34 #[.slice S l.length cs, .int .i64 most] w (GivesB w (ansB most l [])) := by
  obtain ⟨it, hi, hz0, hz1, hz2⟩ := info_parts info5
  go_enter Try.func34, Try.ntmps34
  go_wp2_with fail
  go_loopw [6, 12] (fun v6 v12 wi => ∃ (k : Nat) (out : List Nat) (A : Option Addr) (c : Nat), v6 = .slice A out.length c ∧ v12 = .int .i64 k ∧ k ≤ l.length ∧ ansB most l [] = ansB most (l.drop k) out ∧ out.length ≤ 1024 * k ∧ (out.length = 0 ∨ (out.length : Int) ≤ most) ∧ Own wi w.heap.size 5 1 A c out.length (out.map bv) ∧ w.grownBy wi none)
    (fun _ v12 _ => l.length - (intOf v12).toNat)
  case atStart => exact ⟨0, [], none, 0, rfl, rfl, by omega, by simp, by simp, .inl rfl, Own.nil _ _ _ _, gb_refl _ _⟩
  case round =>
    obtain ⟨k, out, A, c, rfl, rfl, hk, hans, hol, hom, hO, hg⟩ := hrel
    have HA := Lib.hid hans
    clear hans
    by_cases hkl : k < l.length
    · obtain ⟨sg, off, rfl, hsg, p0, p1, p2⟩ := rd_tok hS hkl
      have d0 := hg.cell p0 (by simp)
      have d1 := hg.cell p1 (by simp)
      have d2 := hg.cell p2 (by simp)
      have hby : (out.length + 1) * 1 ≤ 140737488355328 := by omega
      have hdr : l.drop k = l[k] :: l.drop (k + 1) := List.drop_eq_getElem_cons hkl
      have hb256 : l[k].b < 256 := hlb _ (List.getElem_mem hkl)
      have hs := hg.size
      have HD := Lib.hid hdr
      clear hdr p0 p1 p2
      generalize l[k] = t at *
      obtain ⟨b, f, g⟩ := t
      dsimp only at d0 d1 d2 hb256
      have hw : IntKind.i64.wrap (most - (out.length : Int)) = most - (out.length : Int) := by rw [IntKind.wrap_i64]; omega
      by_cases hf : f = 0
      · subst hf
        by_cases hlong : most ≤ (out.length : Int)
        · have hc1 : most - (out.length : Int) < 1 := by omega
          have HE := Lib.hid ((HA.out.trans (congrArg (fun x => ansB most x out) HD.out)).trans (ansB_bad (stepB_byte_long hlong)))
          go_wp2_with fail
          go_ret2
          rw [HE.out]
          exact ⟨none, 0, rfl, Own.nil _ _ _ _, gb_alloc hg _⟩
        · have hc1 : ¬ (most - (out.length : Int) < 1) := by omega
          have HE := Lib.hid ((HA.out.trans (congrArg (fun x => ansB most x out) HD.out)).trans (ansB_ok (stepB_byte hlong)))
          have hone : ∀ u ∈ [Value.int .u8 (b : Int)], u.oneCell' = true := by intro u hu; simp at hu; subst hu; rfl
          have hOa := hO.alloc (.cells #[.int .u8 (b : Int), .int .i64 0, .int .i64 g] 56)
          have hsa : w.heap.size ≤ (wr.alloc (.cells #[.int .u8 (b : Int), .int .i64 0, .int .i64 g] 56)).heap.size := by simp; omega
          go_wp2_with (
            at_builtin
            refine wpList_app1 (wr.alloc (.cells #[.int .u8 (b : Int), .int .i64 0, .int .i64 g] 56)) rfl (.tmp 61) (.tmp 64) 24 rfl w.heap.size 5 Try.underlying24 hi hz0 hz1 hz2 rfl (by decide) A c out.length (out.map bv) rfl hOa [.int .u8 (b : Int)] 5 1 (by show Value.slice (some ⟨wr.heap.size + 1, 0, none⟩) 1 1 = _; simp) rfl hone hby (by decide) hsa ?_
            intro g1 c1 w6 hO6 hgr hloc hbg1 hlt1)
          go_roundw
          case rel =>
            refine ⟨k + 1, out ++ [b], some ⟨g1, 0, none⟩, c1, by simp, by go_num, by omega, HE.out, by simp; omega, .inr (by simp; omega), ?_, gb_own (gb_alloc hg _) hgr (fun g hg' => (hOa.lt g hg').1)⟩
            rw [List.map_append, List.length_append]
            exact hO6
          case measure => first | (simp [intOf]; done) | (simp [intOf]; omega)
      · have hf1 : (f != 0) = true := by simpa using hf
        have hf2 : (f == 0) = false := by simpa using hf
        by_cases x0 : f < 0
        · have HE := Lib.hid ((HA.out.trans (congrArg (fun x => ansB most x out) HD.out)).trans (ansB_bad (stepB_bad hf (.inl x0))))
          have y0 : decide (f < 0) = true := by simpa using x0
          clear hf
          go_wp2_with fail
          go_ret2
          rw [HE.out]
          exact ⟨none, 0, rfl, Own.nil _ _ _ _, gb_alloc hg _⟩
        have y0 : decide (f < 0) = false := by simpa using x0
        by_cases x1 : (out.length : Int) < f
        · have HE := Lib.hid ((HA.out.trans (congrArg (fun x => ansB most x out) HD.out)).trans (ansB_bad (stepB_bad hf (.inr (.inl x1)))))
          have y1 : decide ((out.length : Int) < f) = true := by simpa using x1
          clear hf
          go_wp2_with fail
          go_ret2
          rw [HE.out]
          exact ⟨none, 0, rfl, Own.nil _ _ _ _, gb_alloc hg _⟩
        have y1 : decide ((out.length : Int) < f) = false := by simpa using x1
        by_cases x2 : 4096 < f
        · have HE := Lib.hid ((HA.out.trans (congrArg (fun x => ansB most x out) HD.out)).trans (ansB_bad (stepB_bad hf (.inr (.inr (.inl x2))))))
          have y2 : decide (4096 < f) = true := by simpa using x2
          clear hf
          go_wp2_with fail
          go_ret2
          rw [HE.out]
          exact ⟨none, 0, rfl, Own.nil _ _ _ _, gb_alloc hg _⟩
        have y2 : decide (4096 < f) = false := by simpa using x2
        by_cases x3 : g < 3
        · have HE := Lib.hid ((HA.out.trans (congrArg (fun x => ansB most x out) HD.out)).trans (ansB_bad (stepB_bad hf (.inr (.inr (.inr (.inl x3)))))))
          have y3 : decide (g < 3) = true := by simpa using x3
          clear hf
          go_wp2_with fail
          go_ret2
          rw [HE.out]
          exact ⟨none, 0, rfl, Own.nil _ _ _ _, gb_alloc hg _⟩
        have y3 : decide (g < 3) = false := by simpa using x3
        by_cases x4 : 1024 < g
        · have HE := Lib.hid ((HA.out.trans (congrArg (fun x => ansB most x out) HD.out)).trans (ansB_bad (stepB_bad hf (.inr (.inr (.inr (.inr (x4))))))))
          have y4 : decide (1024 < g) = true := by simpa using x4
          clear hf
          go_wp2_with fail
          go_ret2
          rw [HE.out]
          exact ⟨none, 0, rfl, Own.nil _ _ _ _, gb_alloc hg _⟩
        have y4 : decide (1024 < g) = false := by simpa using x4
        have hnb : ¬ bad ⟨b, f, g⟩ out := by
          unfold bad
          dsimp only
          omega
        by_cases hlong : most < (out.length : Int) + g
        · have HE := Lib.hid ((HA.out.trans (congrArg (fun x => ansB most x out) HD.out)).trans (ansB_bad (stepB_long hf hnb hlong)))
          have hc1 : most - (out.length : Int) < g := by omega
          clear hf hnb
          go_wp2_with fail
          go_ret2
          rw [HE.out]
          exact ⟨none, 0, rfl, Own.nil _ _ _ _, gb_alloc hg _⟩
        · have HE := Lib.hid ((HA.out.trans (congrArg (fun x => ansB most x out) HD.out)).trans (ansB_ok (stepB_copy hf hnb hlong)))
          have hc1 : ¬ (most - (out.length : Int) < g) := by omega
          obtain ⟨fn, hfn⟩ : ∃ fn : Nat, f = fn := ⟨f.toNat, by omega⟩
          obtain ⟨gn, hgn⟩ : ∃ gn : Nat, g = gn := ⟨g.toNat, by omega⟩
          subst hfn
          subst hgn
          rw [Int.toNat_natCast, Int.toNat_natCast] at HE
          have hBl := Blk.new wr #[.int .u8 (b : Int), .int .i64 (fn : Int), .int .i64 (gn : Int)] 56
          have hOa := hO.alloc (.cells #[.int .u8 (b : Int), .int .i64 (fn : Int), .int .i64 (gn : Int)] 56)
          have hga := gb_alloc hg (.cells #[.int .u8 (b : Int), .int .i64 (fn : Int), .int .i64 (gn : Int)] 56)
          clear hnb hw
          go_wp2_with fail
          go_loopw [6, 67] (fun v6 v67 wi => ∃ (j n : Nat) (A' : Option Addr) (c' : Nat), v6 = .slice A' n c' ∧ v67 = .int .i64 j ∧ j ≤ gn ∧ n = out.length + j ∧ Own wi w.heap.size 5 1 A' c' n ((copyN fn j out).map bv) ∧ Blk wi wr.heap.size #[.int .u8 (b : Int), .int .i64 (fn : Int), .int .i64 (gn : Int)] 56 ∧ w.grownBy wi none)
            (fun _ v67 _ => gn - (intOf v67).toNat)
          case atStart => exact ⟨0, out.length, A, c, rfl, rfl, by omega, rfl, hOa, hBl, hga⟩
          case round =>
            obtain ⟨j, n, A', c', rfl, rfl, hj, hn, hOj, hBj, hgj⟩ := hrel
            have HN := Lib.hid hn
            have hn1 : fn ≤ n := by omega
            have hn2 : n ≤ 200000000 := by omega
            have hfn1 : 1 ≤ fn := by omega
            clear hn
            have e1 := hBj.cell 1 rfl
            have e2 := hBj.cell 2 rfl
            by_cases hjg : j < gn
            · have hjgi : (j : Int) < (gn : Int) := by omega
              obtain ⟨ga, rfl, _, _⟩ := hOj.form (by omega)
              have hcl := copyN_len fn j out
              have ce := hOj.cell rfl (j := n - fn) (u := bv ((copyN fn j out).getD (n - fn) 0)) (by omega) (by
                have h2 : n - fn < (copyN fn j out).length := by rw [hcl, ← HN.out]; omega
                simp [h2])
              have hsn := copyN_snoc fn j out
              have hcl2 : (copyN fn j out).length = n := by rw [hcl, HN.out]
              rw [hcl2] at hsn
              have hx0 : (0 : Int) ≤ (n : Int) - (fn : Int) := by omega
              have hx1 : (n : Int) - (fn : Int) < (n : Int) := by omega
              have hxt : ((n : Int) - (fn : Int)).toNat = n - fn := by omega
              have hby2 : (n + 1) * 1 ≤ 140737488355328 := by omega
              unfold bv at ce
              generalize (copyN fn j out).getD (n - fn) 0 = y at *
              have hone : ∀ u ∈ [Value.int .u8 (y : Int)], u.oneCell' = true := by intro u hu; simp at hu; subst hu; rfl
              have HS := Lib.hid hsn
              have hsj := hgj.size
              clear hsn hcl hcl2
              go_wp2_with (
                at_builtin
                refine wpList_app1 wr rfl (.tmp 69) (.tmp 78) 24 rfl w.heap.size 5 Try.underlying24 hi hz0 hz1 hz2 rfl (by decide) (some ⟨ga, 0, none⟩) c' n ((copyN fn j out).map bv) rfl hOj [.int .u8 (y : Int)] 5 1 (by rfl) rfl hone hby2 (by decide) hsj ?_
                intro g1 c1 w6 hO6 hgr hloc hbg1 hlt1)
              go_roundw
              case rel =>
                refine ⟨j + 1, n + 1, some ⟨g1, 0, none⟩, c1, by go_num, by go_num, by omega, by have := HN.out; omega, ?_, hBj.grown hgr (Ne.symm (own_ne_blk hOj hBj (by decide))), gb_own hgj hgr (fun g hg' => (hOj.lt g hg').1)⟩
                rw [HS.out, List.map_append]
                exact hO6
              case measure => first | (simp [intOf]; done) | (simp [intOf]; omega)
            · have hjg2 : j = gn := by omega
              subst hjg2
              have hcl := copyN_len fn j out
              go_wp2_with fail
              go_roundw
              case rel =>
                refine ⟨k + 1, copyN fn j out, A', c', by rw [hcl, HN.out], by go_num, by omega, HE.out, by rw [hcl]; omega, .inr (by rw [hcl]; push_cast; omega), ?_, hgj⟩
                rw [hcl, ← HN.out]
                exact hOj
              case measure => first | (simp [intOf]; done) | (simp [intOf]; omega)
    · have hk2 : k = l.length := by omega
      subst hk2
      have HE := Lib.hid (HA.out.trans (by rw [List.drop_length, ansB_nil]))
      go_wp2_with fail
      go_ret2
      rw [HE.out]
      exact ⟨A, c, rfl, hO, hg⟩

set_option maxHeartbeats 6400000 in
set_option maxRecDepth 100000 in
theorem bytes35_any (l : List Tok) (S : Option Addr) (cs B : Nat) (most : Int) (w : World) (hB : B ≤ w.heap.size) (hS : Rd w B 3 S l.length (l.flatMap tkC)) (hl : l.length ≤ 100000) (hm0 : -9223372036854775808 ≤ most) (hm1 : most ≤ 9223372036854775807) (hlb : ∀ t ∈ l, t.b < 256) :
    Calls Try.prog 35 #[.slice S l.length cs, .int .i64 most] w (GivesB w (ansB most l [])) := by
  obtain ⟨it, hi, hz0, hz1, hz2⟩ := info_parts info5
  go_enter Try.func35, Try.ntmps35
  go_wp2_with fail
  go_loopw [6, 7] (fun v6 v12 wi => ∃ (k : Nat) (out : List Nat) (A : Option Addr) (c : Nat), v6 = .slice A out.length c ∧ v12 = .int .i64 k ∧ k ≤ l.length ∧ ansB most l [] = ansB most (l.drop k) out ∧ out.length ≤ 1024 * k ∧ (out.length = 0 ∨ (out.length : Int) ≤ most) ∧ Own wi w.heap.size 5 1 A c out.length (out.map bv) ∧ w.grownBy wi none)
    (fun _ v12 _ => l.length - (intOf v12).toNat)
  case atStart => exact ⟨0, [], none, 0, rfl, rfl, by omega, by simp, by simp, .inl rfl, Own.nil _ _ _ _, gb_refl _ _⟩
  case round =>
    obtain ⟨k, out, A, c, rfl, rfl, hk, hans, hol, hom, hO, hg⟩ := hrel
    have HA := Lib.hid hans
    clear hans
    by_cases hkl : k < l.length
    · obtain ⟨sg, off, rfl, hsg, p0, p1, p2⟩ := rd_tok hS hkl
      have d0 := hg.cell p0 (by simp)
      have d1 := hg.cell p1 (by simp)
      have d2 := hg.cell p2 (by simp)
      have hby : (out.length + 1) * 1 ≤ 140737488355328 := by omega
      have hdr : l.drop k = l[k] :: l.drop (k + 1) := List.drop_eq_getElem_cons hkl
      have hb256 : l[k].b < 256 := hlb _ (List.getElem_mem hkl)
      have hs := hg.size
      have HD := Lib.hid hdr
      clear hdr p0 p1 p2
      generalize l[k] = t at *
      obtain ⟨b, f, g⟩ := t
      dsimp only at d0 d1 d2 hb256
      have hw : IntKind.i64.wrap (most - (out.length : Int)) = most - (out.length : Int) := by rw [IntKind.wrap_i64]; omega
      by_cases hf : f = 0
      · subst hf
        by_cases hlong : most ≤ (out.length : Int)
        · have hc1 : most - (out.length : Int) < 1 := by omega
          have HE := Lib.hid ((HA.out.trans (congrArg (fun x => ansB most x out) HD.out)).trans (ansB_bad (stepB_byte_long hlong)))
          go_wp2_with fail
          go_ret2
          rw [HE.out]
          exact ⟨none, 0, rfl, Own.nil _ _ _ _, gb_alloc hg _⟩
        · have hc1 : ¬ (most - (out.length : Int) < 1) := by omega
          have HE := Lib.hid ((HA.out.trans (congrArg (fun x => ansB most x out) HD.out)).trans (ansB_ok (stepB_byte hlong)))
          have hone : ∀ u ∈ [Value.int .u8 (b : Int)], u.oneCell' = true := by intro u hu; simp at hu; subst hu; rfl
          have hOa := hO.alloc (.cells #[.int .u8 (b : Int), .int .i64 0, .int .i64 g] 57)
          have hsa : w.heap.size ≤ (wr.alloc (.cells #[.int .u8 (b : Int), .int .i64 0, .int .i64 g] 57)).heap.size := by simp; omega
          go_wp2_with (
            at_builtin
            refine wpList_app1 (wr.alloc (.cells #[.int .u8 (b : Int), .int .i64 0, .int .i64 g] 57)) rfl (.tmp 27) (.tmp 30) 24 rfl w.heap.size 5 Try.underlying24 hi hz0 hz1 hz2 rfl (by decide) A c out.length (out.map bv) rfl hOa [.int .u8 (b : Int)] 5 1 (by show Value.slice (some ⟨wr.heap.size + 1, 0, none⟩) 1 1 = _; simp) rfl hone hby (by decide) hsa ?_
            intro g1 c1 w6 hO6 hgr hloc hbg1 hlt1)
          go_roundw
          case rel =>
            refine ⟨k + 1, out ++ [b], some ⟨g1, 0, none⟩, c1, by simp, by go_num, by omega, HE.out, by simp; omega, .inr (by simp; omega), ?_, gb_own (gb_alloc hg _) hgr (fun g hg' => (hOa.lt g hg').1)⟩
            rw [List.map_append, List.length_append]
            exact hO6
          case measure => first | (simp [intOf]; done) | (simp [intOf]; omega)
      · have hf1 : (f != 0) = true := by simpa using hf
        have hf2 : (f == 0) = false := by simpa using hf
        by_cases x0 : f < 0
        · have HE := Lib.hid ((HA.out.trans (congrArg (fun x => ansB most x out) HD.out)).trans (ansB_bad (stepB_bad hf (.inl x0))))
          have y0 : decide (f < 0) = true := by simpa using x0
          clear hf
          go_wp2_with fail
          go_ret2
          rw [HE.out]
          exact ⟨none, 0, rfl, Own.nil _ _ _ _, gb_alloc hg _⟩
        have y0 : decide (f < 0) = false := by simpa using x0
        by_cases x1 : (out.length : Int) < f
        · have HE := Lib.hid ((HA.out.trans (congrArg (fun x => ansB most x out) HD.out)).trans (ansB_bad (stepB_bad hf (.inr (.inl x1)))))
          have y1 : decide ((out.length : Int) < f) = true := by simpa using x1
          clear hf
          go_wp2_with fail
          go_ret2
          rw [HE.out]
          exact ⟨none, 0, rfl, Own.nil _ _ _ _, gb_alloc hg _⟩
        have y1 : decide ((out.length : Int) < f) = false := by simpa using x1
        by_cases x2 : 4096 < f
        · have HE := Lib.hid ((HA.out.trans (congrArg (fun x => ansB most x out) HD.out)).trans (ansB_bad (stepB_bad hf (.inr (.inr (.inl x2))))))
          have y2 : decide (4096 < f) = true := by simpa using x2
          clear hf
          go_wp2_with fail
          go_ret2
          rw [HE.out]
          exact ⟨none, 0, rfl, Own.nil _ _ _ _, gb_alloc hg _⟩
        have y2 : decide (4096 < f) = false := by simpa using x2
        by_cases x3 : g < 3
        · have HE := Lib.hid ((HA.out.trans (congrArg (fun x => ansB most x out) HD.out)).trans (ansB_bad (stepB_bad hf (.inr (.inr (.inr (.inl x3)))))))
          have y3 : decide (g < 3) = true := by simpa using x3
          clear hf
          go_wp2_with fail
          go_ret2
          rw [HE.out]
          exact ⟨none, 0, rfl, Own.nil _ _ _ _, gb_alloc hg _⟩
        have y3 : decide (g < 3) = false := by simpa using x3
        by_cases x4 : 1024 < g
        · have HE := Lib.hid ((HA.out.trans (congrArg (fun x => ansB most x out) HD.out)).trans (ansB_bad (stepB_bad hf (.inr (.inr (.inr (.inr (x4))))))))
          have y4 : decide (1024 < g) = true := by simpa using x4
          clear hf
          go_wp2_with fail
          go_ret2
          rw [HE.out]
          exact ⟨none, 0, rfl, Own.nil _ _ _ _, gb_alloc hg _⟩
        have y4 : decide (1024 < g) = false := by simpa using x4
        have hnb : ¬ bad ⟨b, f, g⟩ out := by
          unfold bad
          dsimp only
          omega
        by_cases hlong : most < (out.length : Int) + g
        · have HE := Lib.hid ((HA.out.trans (congrArg (fun x => ansB most x out) HD.out)).trans (ansB_bad (stepB_long hf hnb hlong)))
          have hc1 : most - (out.length : Int) < g := by omega
          clear hf hnb
          go_wp2_with fail
          go_ret2
          rw [HE.out]
          exact ⟨none, 0, rfl, Own.nil _ _ _ _, gb_alloc hg _⟩
        · have HE := Lib.hid ((HA.out.trans (congrArg (fun x => ansB most x out) HD.out)).trans (ansB_ok (stepB_copy hf hnb hlong)))
          have hc1 : ¬ (most - (out.length : Int) < g) := by omega
          obtain ⟨fn, hfn⟩ : ∃ fn : Nat, f = fn := ⟨f.toNat, by omega⟩
          obtain ⟨gn, hgn⟩ : ∃ gn : Nat, g = gn := ⟨g.toNat, by omega⟩
          subst hfn
          subst hgn
          rw [Int.toNat_natCast, Int.toNat_natCast] at HE
          have hBl := Blk.new wr #[.int .u8 (b : Int), .int .i64 (fn : Int), .int .i64 (gn : Int)] 57
          have hOa := hO.alloc (.cells #[.int .u8 (b : Int), .int .i64 (fn : Int), .int .i64 (gn : Int)] 57)
          have hga := gb_alloc hg (.cells #[.int .u8 (b : Int), .int .i64 (fn : Int), .int .i64 (gn : Int)] 57)
          clear hnb hw
          go_wp2_with fail
          go_loopw [6, 9] (fun v6 v67 wi => ∃ (j n : Nat) (A' : Option Addr) (c' : Nat), v6 = .slice A' n c' ∧ v67 = .int .i64 j ∧ j ≤ gn ∧ n = out.length + j ∧ Own wi w.heap.size 5 1 A' c' n ((copyN fn j out).map bv) ∧ Blk wi wr.heap.size #[.int .u8 (b : Int), .int .i64 (fn : Int), .int .i64 (gn : Int)] 57 ∧ w.grownBy wi none)
            (fun _ v67 _ => gn - (intOf v67).toNat)
          case atStart => exact ⟨0, out.length, A, c, rfl, rfl, by omega, rfl, hOa, hBl, hga⟩
          case round =>
            obtain ⟨j, n, A', c', rfl, rfl, hj, hn, hOj, hBj, hgj⟩ := hrel
            have HN := Lib.hid hn
            have hn1 : fn ≤ n := by omega
            have hn2 : n ≤ 200000000 := by omega
            have hfn1 : 1 ≤ fn := by omega
            clear hn
            have e1 := hBj.cell 1 rfl
            have e2 := hBj.cell 2 rfl
            by_cases hjg : j < gn
            · have hjgi : (j : Int) < (gn : Int) := by omega
              obtain ⟨ga, rfl, _, _⟩ := hOj.form (by omega)
              have hcl := copyN_len fn j out
              have ce := hOj.cell rfl (j := n - fn) (u := bv ((copyN fn j out).getD (n - fn) 0)) (by omega) (by
                have h2 : n - fn < (copyN fn j out).length := by rw [hcl, ← HN.out]; omega
                simp [h2])
              have hsn := copyN_snoc fn j out
              have hcl2 : (copyN fn j out).length = n := by rw [hcl, HN.out]
              rw [hcl2] at hsn
              have hx0 : (0 : Int) ≤ (n : Int) - (fn : Int) := by omega
              have hx1 : (n : Int) - (fn : Int) < (n : Int) := by omega
              have hxt : ((n : Int) - (fn : Int)).toNat = n - fn := by omega
              have hby2 : (n + 1) * 1 ≤ 140737488355328 := by omega
              unfold bv at ce
              generalize (copyN fn j out).getD (n - fn) 0 = y at *
              have hone : ∀ u ∈ [Value.int .u8 (y : Int)], u.oneCell' = true := by intro u hu; simp at hu; subst hu; rfl
              have HS := Lib.hid hsn
              have hsj := hgj.size
              clear hsn hcl hcl2
              go_wp2_with (
                at_builtin
                refine wpList_app1 wr rfl (.tmp 70) (.tmp 79) 24 rfl w.heap.size 5 Try.underlying24 hi hz0 hz1 hz2 rfl (by decide) (some ⟨ga, 0, none⟩) c' n ((copyN fn j out).map bv) rfl hOj [.int .u8 (y : Int)] 5 1 (by rfl) rfl hone hby2 (by decide) hsj ?_
                intro g1 c1 w6 hO6 hgr hloc hbg1 hlt1)
              go_roundw
              case rel =>
                refine ⟨j + 1, n + 1, some ⟨g1, 0, none⟩, c1, by go_num, by go_num, by omega, by have := HN.out; omega, ?_, hBj.grown hgr (Ne.symm (own_ne_blk hOj hBj (by decide))), gb_own hgj hgr (fun g hg' => (hOj.lt g hg').1)⟩
                rw [HS.out, List.map_append]
                exact hO6
              case measure => first | (simp [intOf]; done) | (simp [intOf]; omega)
            · have hjg2 : j = gn := by omega
              subst hjg2
              have hcl := copyN_len fn j out
              go_wp2_with fail
              go_roundw
              case rel =>
                refine ⟨k + 1, copyN fn j out, A', c', by rw [hcl, HN.out], by go_num, by omega, HE.out, by rw [hcl]; omega, .inr (by rw [hcl]; push_cast; omega), ?_, hgj⟩
                rw [hcl, ← HN.out]
                exact hOj
              case measure => first | (simp [intOf]; done) | (simp [intOf]; omega)
    · have hk2 : k = l.length := by omega
      subst hk2
      have HE := Lib.hid (HA.out.trans (by rw [List.drop_length, ansB_nil]))
      go_wp2_with fail
      go_ret2
      rw [HE.out]
      exact ⟨A, c, rfl, hO, hg⟩
end Go.Proofs.Ytlohplopomfjhaa
