/- The walk of Pick. -/
import Derived.Test.YtbnkdopigjdogaaGL
import Derived.Lib.SmallJoins
namespace Go.Proofs.Ytbnkdopigjdogaa
set_option linter.unusedVariables false
set_option linter.unusedSimpArgs false
open Go.RowKit Go.Own Go.Glob

/-- Names as strings. -/
def strV (s : List Nat) : Value := .string (strB s)
theorem strV_one (s : List Nat) : ∀ u ∈ ([.string (strB s)] : List Value), u.oneCell' = true := by
  intro u hu
  simp at hu
  subst hu
  rfl
theorem filter_snoc (f : List Nat → Bool) (ns : List (List Nat)) (k : Nat) (h : k < ns.length) : (ns.take (k + 1)).filter f = (ns.take k).filter f ++ (if f (ns.getD k []) then [ns.getD k []] else []) := by
  rw [List.take_add_one, List.filter_append]
  simp [h, List.filter_cons]

set_option maxHeartbeats 60000000 in
set_option maxRecDepth 100000 in
theorem pick9_any (l : List Part) (ns : List (List Nat)) (A : Option Addr) (c : Nat) (A2 : Option Addr) (c2 : Nat) (w : World) {B B2 : Nat} (hR : Rd w B 259 A l.length (l.flatMap pL)) (hB : B ≤ w.heap.size) (hN : Rd w B2 1 A2 ns.length (ns.map strV)) (hB2 : B2 ≤ w.heap.size)
    (hs : ∀ s ∈ ns, (∀ v ∈ s, v < 256) ∧ s.length ≤ 100000) (hll : l.length ≤ 100000) (hnl : ns.length ≤ 100000) :
    Calls Try.prog 9 #[.agg #[.slice A l.length c], .slice A2 ns.length c2] w fun e w' => ∃ A3 c3, e = .returned (.slice A3 (ns.filter (mt l)).length c3) ∧ Rd w' w'.heap.size 1 A3 (ns.filter (mt l)).length ((ns.filter (mt l)).map strV) ∧ w.grownBy w' none := by
  obtain ⟨it, hi, hz0, hz1, hz2⟩ := info_parts (P := Try.prog) (e := 9) (z := .string ByteArray.empty) (size := 1) (bytes := 16) (by kernel_rfl)
  replace hi := Lib.hid hi
  replace hz0 := Lib.hid hz0
  have hnl1 : ns.length < 1000000 := by omega
  have hBx := Blk.new w #[.slice A l.length c] 26
  have hgx := gb_alloc (gb_refl w none) (.cells #[.slice A l.length c] 26)
  replace hR := Lib.hid hR
  replace hN := Lib.hid hN
  replace hs := Lib.hid hs
  have hM : Hid (∀ (x : List Nat) (wq : World), x ∈ ns → w.grownBy wq none → Calls Try.prog 12 #[.agg #[.slice A l.length c], .string (strB x)] wq fun e w' => e = .returned (.bool (mt l x)) ∧ wq.grownBy w' none) :=
    Lib.hid fun x wq hxn hg => match12_any l x A c wq (hR.out.later hg hB) (Nat.le_trans hB hg.size) (hs.out x hxn).1 (hs.out x hxn).2 hll
  go_enter Try.func9, Try.ntmps9
  go_wp2_with fail
  go_loopw [5, 10] (fun v5 v10 wi => ∃ (k : Nat) (A3 : Option Addr) (c3 : Nat), v10 = .int .i64 k ∧ k ≤ ns.length ∧ v5 = .slice A3 ((ns.take k).filter (mt l)).length c3 ∧ Own wi (w.heap.size + 1) 9 1 A3 c3 ((ns.take k).filter (mt l)).length (((ns.take k).filter (mt l)).map strV) ∧ (w.alloc (.cells #[.slice A l.length c] 26)).grownBy wi none)
    (fun _ v10 _ => ns.length - (intOf v10).toNat)
  case atStart => exact ⟨0, none, 0, rfl, Nat.zero_le _, rfl, Own.nil _ _ _ _, gb_refl _ _⟩
  case round =>
    obtain ⟨k, A3, c3, rfl, hk, rfl, hO, hgi⟩ := hrel
    have hgw := gb_trans hgx hgi
    by_cases hks : ns.length ≤ k
    · have hki : ¬ ((k : Int) < (ns.length : Int)) := by omega
      rw [List.take_of_length_le hks] at hO ⊢
      go_wp2_with fail
      go_ret
      exact ⟨A3, ⟨c3, rfl⟩, hO.rd, hgw⟩
    · have hki : (k : Int) < (ns.length : Int) := by omega
      have qk : k < ns.length := by omega
      have hBi := hBx.grown hgi (by simp)
      have hNi := hN.out.later hgw hB2
      obtain ⟨g, off, rfl, hgB, hc⟩ := hNi.form (by omega)
      have hxm : ns.getD k [] ∈ ns := by simp [qk]
      have hck := hc k (.string (strB (ns.getD k []))) (by simp [qk, strV])
      have hst := filter_snoc (mt l) ns k qk
      have hlen : ((ns.take k).filter (mt l)).length ≤ ns.length := by
        refine Nat.le_trans (List.length_filter_le _ _) ?_
        rw [List.length_take]; omega
      have hMk := fun wq hg => hM.out (ns.getD k []) wq hxm hg
      obtain ⟨x, hx⟩ : ∃ x, x = ns.getD k [] := ⟨_, rfl⟩
      rw [← hx] at hck hst hMk
      clear hc hx hxm
      obtain ⟨F, hF⟩ : ∃ F, F = (ns.take k).filter (mt l) := ⟨_, rfl⟩
      rw [← hF] at hO hst hlen ⊢
      clear hF
      obtain ⟨n, hn⟩ : ∃ n, n = F.length := ⟨_, rfl⟩
      rw [← hn] at hO hlen ⊢
      replace hn := Lib.hid hn
      have hby : (n + 1) * 16 ≤ 140737488355328 := by omega
      have hAb : ∀ q, blk A3 = some q → w.heap.size + 1 ≤ q := fun q e => (hO.lt q e).1
      replace hAb := Lib.hid hAb
      replace hst := Lib.hid hst
      cases hm : mt l x with
      | true =>
        rw [hm] at hMk
        replace hm := Lib.hid hm
        replace hMk := Lib.hid (hMk wr hgw)
        go_wp2_with (first
          | (apply bLoad 26 (.tmp 2); (case ho => exact rfl); (case hu => exact Try.underlying26); (case hw => exact rfl); (case hx => exact rfl); (case hB => exact hBi); (case hd => exact rfl); (case hi => exact size26))
          | (go_at_call 12; refine hMk.out.mono ?_; rintro e w2 ⟨rfl, hg2⟩; (have hO2 := hO.grown0 hg2); (have hb2 : w.heap.size + 1 ≤ w2.heap.size := by (have h1 := hgi.size; have h2 := hg2.size; simp at h1; omega)))
          | (at_builtin; refine wpList_app1 w2 rfl (.tmp 17) (.tmp 19) 22 rfl (w.heap.size + 1) 9 Try.underlying22 hi.out hz0.out hz1 hz2 rfl (by decide) A3 c3 n (F.map strV) rfl hO2 [.string (strB x)] 9 1 rfl rfl (strV_one x) hby (by decide) hb2 ?_; intro g9 c9 w9 ho9 hg9 hl9 hb9 hlt9)
          | fail)
        go_roundw
        case rel =>
          refine ⟨k + 1, some ⟨g9, 0, none⟩, c9, by go_num, by omega, ?_, ?_, gb_own (gb_trans hgi hg2) hg9 (fun q e => by have := hAb.out q e; simp; omega)⟩
          · rw [hst.out, hm.out, if_pos rfl, List.length_append, ← hn.out]; rfl
          · rw [hst.out, hm.out, if_pos rfl, List.length_append, ← hn.out, List.map_append]
            simpa [strV] using ho9
        case measure => first | (simp [intOf]; done) | (simp [intOf]; omega)
      | false =>
        rw [hm] at hMk
        replace hm := Lib.hid hm
        replace hMk := Lib.hid (hMk wr hgw)
        go_wp2_with (first
          | (apply bLoad 26 (.tmp 2); (case ho => exact rfl); (case hu => exact Try.underlying26); (case hw => exact rfl); (case hx => exact rfl); (case hB => exact hBi); (case hd => exact rfl); (case hi => exact size26))
          | (go_at_call 12; refine hMk.out.mono ?_; rintro e w2 ⟨rfl, hg2⟩; (have hO2 := hO.grown0 hg2))
          | fail)
        go_roundw
        case rel =>
          refine ⟨k + 1, A3, c3, by go_num, by omega, ?_, ?_, gb_trans hgi hg2⟩
          · rw [hst.out, hm.out, if_neg (by simp), List.append_nil, ← hn.out]
          · rw [hst.out, hm.out, if_neg (by simp), List.append_nil, ← hn.out]
            exact hO2
        case measure => first | (simp [intOf]; done) | (simp [intOf]; omega)
end Go.Proofs.Ytbnkdopigjdogaa
