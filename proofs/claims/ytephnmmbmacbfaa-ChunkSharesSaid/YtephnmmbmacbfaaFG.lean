/- Contracts of Cut and of gone at a cutter that is one and at the zero cutter; the walk of chapter 43's example. -/
import Derived.Test.YtephnmmbmacbfaaFF
import Derived.Deep.RegionWith
import Derived.Laws.MakeOwn
namespace Go.Proofs.Ytephnmmbmacbfaa
set_option linter.unusedVariables false
set_option linter.unusedSimpArgs false
open Go.RowKit Go.Own Go.Chunk

section
variable {least most k : Nat} {b : List Nat} {S : Option Addr} {cs B : Nat} {w : World}

theorem cut_fine (hS : Rd w B 1 S b.length (b.map bv)) (hB : B ≤ w.heap.size) (hv : ∀ v ∈ b, v < 256) (hl : b.length ≤ 1000000) (hlc : b.length ≤ cs) (hcm : cs ≤ 9223372036854775807)
    (h16 : 16 ≤ least) (hlm : least ≤ most) (hm : most ≤ 1048576) (hk : k ≤ 20) :
    Calls Try.prog 12 #[cv least most k, .slice S b.length cs] w (Gives w 24 1 (cut spc least most k b).length ((pcs (cut spc least most k b) (cut spc least most k b).length).map (cutV S))) := by
  have hcl := cut_length spc least most k b (by omega)
  refine cutall_any least most k S b.length cs (cut spc least most k b) w (by omega) hlc hcm (fun h => ?_) ?_
  · obtain ⟨g, off, e, hg, _⟩ := hS.form h
    exact ⟨g, off, e, by omega⟩
  · intro n hn
    have hgb := gb_alloc (gb_alloc (gb_alloc (gb_alloc (gb_alloc (gb_refl w none) (.cells #[.int .i64 (least : Int), .int .i64 (most : Int), .int .i64 (k : Int)] 29)) (.cells #[.slice S b.length cs] 24)) (.cells #[.slice none 0 0] 40)) (.cells #[.int .i64 (least : Int), .int .i64 (most : Int), .int .i64 (k : Int)] 29)) (.cells #[.slice S b.length cs] 24)
    have hBc := (Blk.new (((w.alloc (.cells #[.int .i64 (least : Int), .int .i64 (most : Int), .int .i64 (k : Int)] 29)).alloc (.cells #[.slice S b.length cs] 24)).alloc (.cells #[.slice none 0 0] 40)) #[.int .i64 (least : Int), .int .i64 (most : Int), .int .i64 (k : Int)] 29).alloc (.cells #[.slice S b.length cs] 24)
    have hBb := Blk.new ((((w.alloc (.cells #[.int .i64 (least : Int), .int .i64 (most : Int), .int .i64 (k : Int)] 29)).alloc (.cells #[.slice S b.length cs] 24)).alloc (.cells #[.slice none 0 0] 40)).alloc (.cells #[.int .i64 (least : Int), .int .i64 (most : Int), .int .i64 (k : Int)] 29)) #[.slice S b.length cs] 24
    simp only [World.size_alloc] at hBc hBb
    exact pieces_stops_in least most k b S cs B w.heap.size (w.heap.size + 4) (w.heap.size + 3) n hn _ (hS.later hgb hB) hB hgb.size hv hl hlc hcm h16 hlm hm hk hBb hBc

theorem cut_zero {len : Nat} (hlc : len ≤ cs) (hcm : cs ≤ 9223372036854775807) (hS : 0 < len → ∃ g off, S = some ⟨g, off, none⟩ ∧ g < w.heap.size) :
    Calls Try.prog 12 #[cv 0 0 0, .slice S len cs] w (Gives w 24 1 0 []) := by
  refine cutall_any 0 0 0 S len cs [] w (by simp) hlc hcm hS ?_
  intro n hn
  have hBc := (Blk.new (((w.alloc (.cells #[.int .i64 0, .int .i64 0, .int .i64 0] 29)).alloc (.cells #[.slice S len cs] 24)).alloc (.cells #[.slice none 0 0] 40)) #[.int .i64 0, .int .i64 0, .int .i64 0] 29).alloc (.cells #[.slice S len cs] 24)
  have hBb := Blk.new ((((w.alloc (.cells #[.int .i64 0, .int .i64 0, .int .i64 0] 29)).alloc (.cells #[.slice S len cs] 24)).alloc (.cells #[.slice none 0 0] 40)).alloc (.cells #[.int .i64 0, .int .i64 0, .int .i64 0] 29)) #[.slice S len cs] 24
  simp only [World.size_alloc] at hBc hBb
  intro l J Jx W hW hJ hJx hY h0
  refine (pieces0_stops (fun x : PieceIn len => pv x.1) (Kept w.heap.size (w.heap.size + 4) (w.heap.size + 3)) S len cs (w.heap.size + 4) (w.heap.size + 3) n _ hBb hBc l J Jx W hW hJ hJx hY h0).mono ?_
  rintro e W' ⟨he, ⟨xs, rfl, h⟩ | ⟨_, h, _⟩⟩
  · exact ⟨he, .inl ⟨[], rfl, h⟩⟩
  · exact h.elim

theorem gone_fine {Bb Bc m : Nat} (hS : Rd w B 1 S b.length (b.map bv)) (hB : B ≤ w.heap.size) (hv : ∀ v ∈ b, v < 256) (hl : b.length ≤ 1000000) (hlc : b.length ≤ cs) (hcm : cs ≤ 9223372036854775807)
    (h16 : 16 ≤ least) (hlm : least ≤ most) (hm : most ≤ 1048576) (hk : k ≤ 20) (hm6 : m ≤ 1000000)
    (hBb : Blk w Bb #[.slice S b.length cs] 24) (hBc : Blk w Bc #[.int .i64 least, .int .i64 most, .int .i64 k] 29) :
    Calls Try.prog 10 #[.func (.func 19) #[] #[.pointer (some ⟨Bb, 0, none⟩), .pointer (some ⟨Bc, 0, none⟩)], .int .i64 m] w
      (Gives w 42 2 (min m (cut spc least most k b).length) ((pcs (cut spc least most k b) (min m (cut spc least most k b).length)).flatMap pcC)) := by
  have hcl := cut_length spc least most k b (by omega)
  refine gone_any (cut spc least most k b) _ m w (by omega) hm6 ?_
  intro n hn
  have hgb := gb_alloc (gb_alloc (gb_refl w none) (.cells #[.int .i64 (m : Int)] 3)) (.cells #[.slice none 0 0] 35)
  exact pieces_stops least most k b S cs B w.heap.size Bb Bc n hn _ (hS.later hgb hB) hB hgb.size hv hl hlc hcm h16 hlm hm hk (hBb.grown hgb (by simp)) (hBc.grown hgb (by simp)) hBb.lt hBc.lt

theorem gone_zero {Bb Bc m len : Nat} (hm6 : m ≤ 1000000)
    (hBb : Blk w Bb #[.slice S len cs] 24) (hBc : Blk w Bc #[.int .i64 0, .int .i64 0, .int .i64 0] 29) :
    Calls Try.prog 10 #[.func (.func 19) #[] #[.pointer (some ⟨Bb, 0, none⟩), .pointer (some ⟨Bc, 0, none⟩)], .int .i64 m] w (Gives w 42 2 0 []) := by
  have h := gone_any [] #[.pointer (some ⟨Bb, 0, none⟩), .pointer (some ⟨Bc, 0, none⟩)] m w (by simp) hm6 ?_
  · simpa [pcs] using h
  · intro n hn l J Jx W hW hJ hJx hY h0
    have hgb := gb_alloc (gb_alloc (gb_refl w none) (.cells #[.int .i64 (m : Int)] 3)) (.cells #[.slice none 0 0] 35)
    refine (pieces0_stops pv (Below w.heap.size) S len cs Bb Bc n _ (hBb.grown hgb (by simp)) (hBc.grown hgb (by simp)) l J Jx W hW hJ hJx hY h0).mono ?_
    rintro e W' ⟨he, ⟨xs, rfl, h⟩ | ⟨_, h, _⟩⟩
    · exact ⟨he, .inl ⟨[], rfl, h⟩⟩
    · exact h.elim
end

theorem Blk_three {w : World} {g : Nat} {a b c v0 v1 v2 : Value} {t : TypeId} (h : Blk w g #[a, b, c] t) : Blk (((w.setCell ⟨g, 0, none⟩ v0).setCell ⟨g, 1, none⟩ v1).setCell ⟨g, 2, none⟩ v2) g #[v0, v1, v2] t :=
  ((h.set 0 v0).set 1 v1).set 2 v2

theorem rd_of_blk {w : World} {g : Nat} {cs : Array Value} {t : TypeId} (h : Blk w g cs t) : Rd w (g + 1) 1 (some ⟨g, 0, none⟩) cs.size cs.toList :=
  ⟨by simp, fun _ => ⟨g, 0, rfl, by omega, fun j u hu => by rw [Nat.zero_add]; exact h.cell j (by simpa using hu)⟩⟩

theorem info5 : (Try.prog.info? 5).map (fun i => (i.zero, i.size, i.bytes)) = some (some (.int .u8 0), 1, 1) := by kernel_rfl

theorem run_make10 (w : World) : (Instr.makeSlice 24 (.int .i64 10) (.int .i64 10)).run Try.prog w = .ok (.slice (some ⟨w.heap.size, 0, none⟩) 10 10) (w.alloc (.cells #[.int .u8 0, .int .u8 0, .int .u8 0, .int .u8 0, .int .u8 0, .int .u8 0, .int .u8 0, .int .u8 0, .int .u8 0, .int .u8 0] 5)) := by
  obtain ⟨i, hi, hz, hs, hb⟩ := info_parts info5
  have hr := run_make (P := Try.prog) w 24 5 i (.int .u8 0) Try.underlying24 hi hz .i64 .i64 10 10 (by omega) (by omega) (by rw [hb]; decide) (by omega)
  rw [hs] at hr
  have hm : madeCells (Value.int IntKind.u8 0).cells (Int.toNat 10 * 1) = #[.int .u8 0, .int .u8 0, .int .u8 0, .int .u8 0, .int .u8 0, .int .u8 0, .int .u8 0, .int .u8 0, .int .u8 0, .int .u8 0] := by kernel_rfl
  rw [hm] at hr
  exact hr

theorem cut10 : cut spc 16 32 3 [0, 0, 0, 0, 0, 0, 0, 0, 0, 0] = [10] := rfl

set_option maxHeartbeats 1600000 in
theorem awake43 (w : World) : Calls Try.prog 6 #[] w fun e w' => e = .returned (.bool true) ∧ w.grownBy w' none := by
  have hn := new_ok 16 32 3 w ⟨by decide, by decide, by decide, by decide, by decide⟩
  unfold cv at hn
  go_enter Try.func6, Try.ntmps6
  go_wp2_with fail
  refine hn.mono ?_
  rintro e w1 ⟨rfl, hg1⟩
  have hB := Blk.new w1 #[.int .i64 16, .int .i64 32, .int .i64 3] 29
  have c0 := hB.cell 0 rfl
  have c1 := hB.cell 1 rfl
  have c2 := hB.cell 2 rfl
  have hg2 := gb_alloc hg1 (.cells #[.int .i64 16, .int .i64 32, .int .i64 3] 29)
  go_wp2_with fail
  generalize w1.alloc (.cells #[.int .i64 16, .int .i64 32, .int .i64 3] 29) = w2 at *
  have hR : Hid (∀ V : World, Calls Try.prog 12 #[.agg #[.int .i64 16, .int .i64 32, .int .i64 3], .slice (some ⟨V.heap.size, 0, none⟩) 10 10] (V.alloc (.cells #[.int .u8 0, .int .u8 0, .int .u8 0, .int .u8 0, .int .u8 0, .int .u8 0, .int .u8 0, .int .u8 0, .int .u8 0, .int .u8 0] 5)).drew (Gives (V.alloc (.cells #[.int .u8 0, .int .u8 0, .int .u8 0, .int .u8 0, .int .u8 0, .int .u8 0, .int .u8 0, .int .u8 0, .int .u8 0, .int .u8 0] 5)).drew 24 1 1 [.slice (some ⟨V.heap.size, 0, none⟩) 10 10])) :=
    Lib.hid fun V => by
      have h := cut_fine (least := 16) (most := 32) (k := 3) (b := [0, 0, 0, 0, 0, 0, 0, 0, 0, 0]) (S := some ⟨V.heap.size, 0, none⟩) (cs := 10) (B := V.heap.size + 1) (w := (V.alloc (.cells #[.int .u8 0, .int .u8 0, .int .u8 0, .int .u8 0, .int .u8 0, .int .u8 0, .int .u8 0, .int .u8 0, .int .u8 0, .int .u8 0] 5)).drew) (rd_of_blk (Blk.new V #[.int .u8 0, .int .u8 0, .int .u8 0, .int .u8 0, .int .u8 0, .int .u8 0, .int .u8 0, .int .u8 0, .int .u8 0, .int .u8 0] 5).drew) (by simp) (by simp) (by simp) (by simp) (by decide) (by decide) (by decide) (by decide) (by decide)
      rw [cut10] at h
      exact h
  have hmk := run_make10
  have hgd := gb_drew (gb_alloc (gb_refl w2 none) (.cells #[.int .u8 0, .int .u8 0, .int .u8 0, .int .u8 0, .int .u8 0, .int .u8 0, .int .u8 0, .int .u8 0, .int .u8 0, .int .u8 0] 5))
  refine wp_region_X 3 (fun V => Blk V w1.heap.size #[.int .i64 16, .int .i64 32, .int .i64 3] 29) (by kernel_rfl) (by decide) hB.drew (fun hHeld => ?_)
  refine' takeX (i := 0) (d := 8) (v := _) rfl rfl (by kernel_rfl) (fun _ _ _ h => h) (Or.inl ⟨by rfl, ?hy0⟩) (by assumption) ?rest0
  case hy0 => (intro V hSw; (have k0 := hSw.cell 0 rfl); (have k1 := hSw.cell 1 rfl); (have k2 := hSw.cell 2 rfl); go_simp; (try with_reducible rfl))
  case rest0 =>
  try simp only [List.getElem_toArray, List.getElem_cons_zero, List.getElem_cons_succ, Act.put, List.setIfInBounds_toArray, List.set_cons_zero, List.set_cons_succ]
  refine readyX (rs := [1]) (by kernel_rfl) (by rfl) ?_
  refine AllReadyX.cons rfl (fun K hK => ?_) AllReadyX.nil
  go_simp
  refine hK.out _ _ (hB.alloc _) ?_
  clear hK K
  try simp only [List.getElem_toArray, List.getElem_cons_zero, List.getElem_cons_succ, Act.put, List.setIfInBounds_toArray, List.set_cons_zero, List.set_cons_succ]
  refine readyX (rs := [2]) (by kernel_rfl) (by rfl) ?_
  refine AllReadyX.cons rfl (fun K hK => ?_) AllReadyX.nil
  go_simp
  refine (hR.out w2).mono ?_
  rintro e w4 ⟨A, c, rfl, hO, hg4⟩
  obtain ⟨g, rfl, _, _⟩ := hO.form (by decide)
  have e0 := hO.cell rfl (j := 0) (u := .slice (some ⟨w2.heap.size, 0, none⟩) 10 10) (by decide) rfl
  refine hK.out _ _ ((hB.alloc _).drew.grown hg4 (by simp)) ?_
  clear hK K
  try simp only [List.getElem_toArray, List.getElem_cons_zero, List.getElem_cons_succ, Act.put, List.setIfInBounds_toArray, List.set_cons_zero, List.set_cons_succ]
  refine ⟨?_, by kernel_rfl⟩
  show wpAny _ _ _ _ 1 _ _ _
  refine wpAny_ready (rs := [3]) (by kernel_rfl) (by simp) ?_
  refine AllReady.cons rfl (fun K hK => ?_) AllReady.nil
  go_simp
  refine hK _ _ ?_
  clear hK K
  refine wpAny_done (by kernel_rfl) ?_ _
  go_wp2_with fail
  go_ret
  exact ⟨rfl, gb_trans (gb_trans hg2 hgd) hg4⟩
end Go.Proofs.Ytephnmmbmacbfaa
