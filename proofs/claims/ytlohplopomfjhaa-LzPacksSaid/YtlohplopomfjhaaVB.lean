/- The walks of package lz's chains: a place is noted. -/
import Derived.Test.YtlohplopomfjhaaVA
namespace Go.Proofs.Ytlohplopomfjhaa
set_option linter.unusedVariables false
set_option linter.unusedSimpArgs false
open Go.RowKit Go.Own Go.Bits Go.Lz

theorem info3 : (Try.prog.info? 3).map (fun i => (i.zero, i.size, i.bytes)) = some (some (.int .i64 0), 1, 8) := by kernel_rfl

theorem arr88 : Go.WideMaps.ArrKey Try.prog 88 5 3 := ⟨Try.underlying88, by kernel_rfl, by kernel_rfl, by kernel_rfl⟩
theorem keyed88 : Go.Maps.Keyed Try.prog 88 := Go.Maps.Keyed.of_law arr88.law

theorem wf8 {x : Nat} (h : x < 256) : (Lit.int .u8 (x : Int)).wf = true := by
  have : ∀ x : Fin 256, (Lit.int .u8 (x.val : Int)).wf = true := by decide +kernel
  exact this ⟨x, h⟩

theorem key_of {x y z : Nat} (hx : x < 256) (hy : y < 256) (hz : z < 256) : keyOf Try.prog 88 (kV x y z) = some (kL x y z) := by
  have h1 := wf8 hx
  have h2 := wf8 hy
  have h3 := wf8 hz
  have hkt : Try.prog.keyType 88 = true := by kernel_rfl
  have hsz : ∃ m, Try.prog.types.size = m + 1 := ⟨Try.prog.types.size - 1, by decide +kernel⟩
  obtain ⟨m, hm⟩ := hsz
  unfold keyOf kV kL
  simp only [Try.underlying88]
  have hc5 : Try.prog.cellsOf 5 = 1 := by kernel_rfl
  have hc88 : Try.prog.cellsOf 88 = 3 := by kernel_rfl
  rw [if_pos (by simp [hkt, Value.formed, Try.underlying88, hc88]), hm]
  unfold Program.keyLits
  simp only [Try.underlying88, Value.cells, hc88, hc5]
  have e : List.range 3 = [0, 1, 2] := rfl
  simp [e, Program.keyLits, Try.underlying5, h1, h2, h3]

theorem kL_inj {x y z x' y' z' : Nat} (hx : x < 256) (hy : y < 256) (hz : z < 256) (hx' : x' < 256) (hy' : y' < 256) (hz' : z' < 256) (h : kL x y z = kL x' y' z') : x = x' ∧ y = y' ∧ z = z' := by
  unfold kL at h
  injection h with h
  have := keyBytes_inj (l := [.int .u8 (x : Int), .int .u8 (y : Int), .int .u8 (z : Int)]) (l' := [.int .u8 (x' : Int), .int .u8 (y' : Int), .int .u8 (z' : Int)])
    (by simp [Alike, Lit.sameKind]) (by intro a ha; simp at ha; rcases ha with rfl | rfl | rfl <;> simp [Lit.keyWf, wf8, *]) (by intro a ha; simp at ha; rcases ha with rfl | rfl | rfl <;> simp [Lit.keyWf, wf8, *]) h
  simp at this
  omega

/-- What the map tells: the last place ahead of n. -/
def MapOk (b : List Nat) (n : Nat) (D : DataW Unit) : Prop :=
  ∀ x y z, x < 256 → y < 256 → z < 256 → Maps.has D (kL x y z) = (lastKey b x y z n).isSome ∧ ∀ q, lastKey b x y z n = some q → D.atKey (kL x y z) (.lit (.int .i64 0)) = .lit (.int .i64 (q : Int))

def num0 : Option Nat → Int
  | some q => q
  | none => 0

theorem ch_look {w : World} {mb k : Nat} {D : DataW Unit} {b : List Nat} {n x y z : Nat} (h : w.ownsMap Try.prog 88 (plainElem Try.prog 3) mb k D) (hM : MapOk b n D) (hx : x < 256) (hy : y < 256) (hz : z < 256) :
    (Instr.lookup 77 (.map (some mb)) (kV x y z) true).run Try.prog w = .ok (.tuple #[.int .i64 (num0 (lastKey b x y z n)), .bool (lastKey b x y z n).isSome]) w := by
  have hz0 : (zeroValue 3).run Try.prog w = .ok (.int .i64 0) w := by rfl
  obtain ⟨v, ps, hrun, hv⟩ := h.look_ok keyed88 Try.underlying77 hz0 (plainElem_int Try.underlying3 (by decide)) (key_of hx hy hz)
  obtain ⟨c, rfl, hc, hwc⟩ := plainElem_int_inv Try.underlying3 hv
  simp only [Prod.mk.injEq] at hc
  obtain ⟨h1, h2⟩ := hM x y z hx hy hz
  rw [hrun, h1]
  congr 4
  have hc1 := hc.1
  cases hl : lastKey b x y z n with
  | none =>
    rw [hl] at h1
    rw [Maps.atKey_of_not_has h1] at hc1
    simp at hc1
    simp [num0, hc1]
  | some q =>
    rw [h2 q hl] at hc1
    simp at hc1
    simp [num0, hc1]

theorem key_lit (x y z : Nat) : WideAt.IsKeyLit (kL x y z) := trivial

theorem map_put {b : List Nat} {n : Nat} {D : DataW Unit} (hM : MapOk b n D) (hi : Maps.IsMap D) (hb : ∀ v ∈ b, v < 256) (hn : n + 3 ≤ b.length) :
    MapOk b (n + 1) (D.put (kL (b.getD n 0) (b.getD (n + 1) 0) (b.getD (n + 2) 0)) (.lit (.int .i64 (n : Int)))) := by
  have hlt : ∀ i, i < b.length → b.getD i 0 < 256 := fun i hi => by
    have : b.getD i 0 = b[i] := by simp [hi]
    rw [this]; exact hb _ (List.getElem_mem hi)
  intro x y z hx hy hz
  obtain ⟨h1, h2⟩ := hM x y z hx hy hz
  rw [lastKey]
  by_cases hc : b.getD n 0 = x ∧ b.getD (n + 1) 0 = y ∧ b.getD (n + 2) 0 = z
  · rw [if_pos ⟨hn, hc⟩]
    obtain ⟨rfl, rfl, rfl⟩ := hc
    refine ⟨by rw [Maps.has_put_same hi (key_lit _ _ _)]; rfl, fun q hq => ?_⟩
    injection hq with hq
    subst hq
    exact Maps.atKey_put_same hi (key_lit _ _ _) _ _
  · rw [if_neg (fun h => hc h.2)]
    have hne : kL x y z ≠ kL (b.getD n 0) (b.getD (n + 1) 0) (b.getD (n + 2) 0) := fun h => by
      obtain ⟨e1, e2, e3⟩ := kL_inj hx hy hz (hlt _ (by omega)) (hlt _ (by omega)) (hlt _ (by omega)) h
      exact hc ⟨e1.symm, e2.symm, e3.symm⟩
    exact ⟨by rw [Maps.has_put_other hne]; exact h1, fun q hq => by rw [Maps.atKey_put_other hne]; exact h2 q hq⟩

theorem map_skip {b : List Nat} {n : Nat} {D : DataW Unit} (hM : MapOk b n D) (hn : ¬ n + 3 ≤ b.length) : MapOk b (n + 1) D := by
  intro x y z hx hy hz
  rw [lastKey, if_neg (fun h => hn h.1)]
  exact hM x y z hx hy hz

def prevs (b : List Nat) (n : Nat) : List Value := (List.range n).map fun p => .int .i64 (prevOf b p)
theorem prevs_snoc (b : List Nat) (n : Nat) : prevs b (n + 1) = prevs b n ++ [.int .i64 (prevOf b n)] := by simp [prevs, List.range_succ]
theorem prevs_len (b : List Nat) (n : Nat) : (prevs b n).length = n := by simp [prevs]
theorem prevs_get (b : List Nat) (n p : Nat) (h : p < n) : (prevs b n)[p]? = some (.int .i64 (prevOf b p)) := by simp [prevs, h]

/-- The chains of the first n places. -/
def Ch (base : Nat) (w : World) (g : Nat) (b : List Nat) (n : Nat) : Prop :=
  ∃ (mb : Nat) (A : Option Addr) (c : Nat) (D : DataW Unit), base ≤ g ∧ base ≤ mb ∧ Blk w g #[.map (some mb), .slice A n c] 80 ∧ w.ownsMap Try.prog 88 (plainElem Try.prog 3) mb n D ∧ MapOk b n D ∧ Own w base 3 1 A c n (prevs b n)

theorem map_ne_blk {w : World} {mb k g : Nat} {D : DataW Unit} {cs : Array Value} {t : TypeId} (h : w.ownsMap Try.prog 88 (plainElem Try.prog 3) mb k D) (hB : Blk w g cs t) : g ≠ mb := by
  rintro rfl
  obtain ⟨es, clock, hb, _⟩ := h
  unfold Blk at hB
  rw [hB] at hb
  cases hb

theorem map_ne_own {w : World} {mb k : Nat} {D : DataW Unit} {base e s c n : Nat} {A : Option Addr} {xs : List Value} (h : w.ownsMap Try.prog 88 (plainElem Try.prog 3) mb k D) (hO : Own w base e s A c n xs) : blk A ≠ some mb := by
  intro hk
  rcases hO.2 with ⟨hv, _⟩ | ⟨g', cap, cur, hv, _, hh, _⟩
  · have e : A = none := by injection hv
    rw [e] at hk; simp [blk] at hk
  · have e : A = some ⟨g', 0, none⟩ := by injection hv
    rw [e] at hk
    have e2 : g' = mb := by simpa [blk] using hk
    subst e2
    exact map_ne_blk h hh rfl

/-- What a call on the chains may turn. -/
def ChT (base : Nat) (w w' : World) : Prop := ∃ T : Nat → Prop, Tch T w w' ∧ (∀ k, T k → base ≤ k) ∧ ∀ k cs ty, T k → Blk w k cs ty → ty = 80 ∨ ty = 3

set_option maxHeartbeats 3200000 in
theorem note_any (base : Nat) (w : World) (g : Nat) (b : List Nat) (n : Nat) (S : Option Addr) (cs B : Nat) (h : Ch base w g b n) (hS : Rd w B 1 S b.length (b.map bv)) (hB : B ≤ base) (hbw : base ≤ w.heap.size) (hn : n < b.length) (hbl : b.length ≤ 1000000) (hb : ∀ v ∈ b, v < 256) :
    Calls Try.prog 46 #[.pointer (some ⟨g, 0, none⟩), .slice S b.length cs, .int .i64 n] w fun e w' => e = .returned (.tuple #[]) ∧ Ch base w' g b (n + 1) ∧ ChT base w w' := by
  obtain ⟨mb, A, c, D, hbg, hbm, hBk, hM, hOk, hO⟩ := h
  obtain ⟨it, hi, hz0, hz1, hz2⟩ := info_parts info3
  have hlt : ∀ i, i < b.length → b.getD i 0 < 256 := fun i hi => by
    have : b.getD i 0 = b[i] := by simp [hi]
    rw [this]; exact hb _ (List.getElem_mem hi)
  have c0 := hBk.cell 0 rfl
  have c1 := hBk.cell 1 rfl
  have hmg := map_ne_blk hM hBk
  have hmA := map_ne_own hM hO
  have hAg := own_ne_blk hO hBk (by decide)
  have hby : (n + 1) * 8 ≤ 140737488355328 := by omega
  have hone : ∀ u ∈ [Value.int .i64 (-1)], u.oneCell' = true := by intro u hu; simp at hu; subst hu; rfl
  by_cases h3 : n + 3 ≤ b.length
  · have hcmp : ¬ ((b.length : Int) < (n : Int) + 3) := by omega
    go_enter Try.func46, Try.ntmps46
    go_wp2_with (
      at_builtin
      refine wpList_app1 w rfl (.tmp 12) (.tmp 13) 78 rfl base 3 Try.underlying78 hi hz0 hz1 hz2 rfl (by decide) A c n (prevs b n) rfl hO [.int .i64 (-1)] 3 1 (by rfl) rfl hone hby (by decide) hbw ?_
      intro g1 c1' w2 hO2 hgr hloc hbg1 hlt1
      have hB2 := hBk.grown hgr (fun e => hAg e.symm)
      have kk1 := hB2.cell 1 rfl
      have ff1 := hB2.free 1)
    have hg1g : g1 ≠ g := by
      intro e
      exact own_ne_blk hO2 hB2 (by decide) (by rw [e]; rfl)
    have hB3 := hB2.set 1 (.slice (some ⟨g1, 0, none⟩) (n + 1) c1')
    have hO3 := hO2.other (p := ⟨g, 1, none⟩) (by simp [blk]; exact hg1g) (.slice (some ⟨g1, 0, none⟩) (n + 1) c1')
    have hM3 := (hM.kept hgr (Ne.symm hmA)).setCell (a := ⟨g, 1, none⟩) (Ne.symm hmg) (.slice (some ⟨g1, 0, none⟩) (n + 1) c1')
    have ht3 : Tch (fun k => k = g ∨ k = mb ∨ blk A = some k) w (w2.setCell ⟨g, 1, none⟩ (.slice (some ⟨g1, 0, none⟩) (n + 1) c1')) := tch_set (tch_row hgr (fun j hj => .inr (.inr hj))) (.inl (.inl rfl))
    have hS3 : ∀ W, Tch (fun k => k = g ∨ k = mb ∨ blk A = some k) w W → Rd W B 1 S b.length (b.map bv) := fun W ht => hS.below ⟨ht.os, ht.tape, ht.output, by have := ht.size; omega, fun k hk => ht.block k (by omega) (by
      rintro (e | e | e)
      · omega
      · omega
      · have := (hO.lt k e).1; omega)⟩
    have hfin : ∀ W, Tch (fun k => k = g ∨ k = mb ∨ blk A = some k) w W → ChT base w W := fun W ht => ⟨_, ht, fun k hk => by
      rcases hk with e | e | e
      · omega
      · omega
      · exact (hO.lt k e).1, fun k cs ty hk hb => by
      rcases hk with e | e | e
      · subst e
        unfold Blk at hb hBk
        rw [hBk] at hb
        simp at hb
        exact .inl hb.2.symm
      · subst e
        exact absurd rfl (map_ne_blk hM hb)
      · by_cases ht3 : ty = 3
        · exact .inr ht3
        · exact absurd e (own_ne_blk hO hb (fun e => ht3 e.symm))⟩
    have hg1T : (g1 = g ∨ g1 = mb ∨ blk A = some g1) ∨ w.heap.size ≤ g1 := by
      rcases hloc with e | e
      · exact .inl (.inr (.inr e))
      · exact .inr e
    clear hO2 hgr hloc hB2 kk1 ff1 c0 c1
    generalize w2.setCell ⟨g, 1, none⟩ (.slice (some ⟨g1, 0, none⟩) (n + 1) c1') = w3 at *
    have hM3d : w3.drew.ownsMap Try.prog 88 (plainElem Try.prog 3) mb n D := hM3
    have hB3d : Blk w3.drew g #[.map (some mb), .slice (some ⟨g1, 0, none⟩) (n + 1) c1'] 80 := hB3
    have hO3d : Own w3.drew base 3 1 (some ⟨g1, 0, none⟩) c1' (n + 1) (prevs b n ++ [.int .i64 (-1)]) := hO3
    have ht3d := tch_drew ht3
    have hs3d := ht3d.size
    have k0 : w3.drew.cell? ⟨g, 0, none⟩ = some (.map (some mb)) := hB3d.cell 0 rfl
    have hx := hlt n (by omega)
    have hy := hlt (n + 1) (by omega)
    have hz := hlt (n + 2) (by omega)
    have hput := map_put hOk hM3d.isMap hb h3
    have hpn : prevOf b n = numO (lastKey b (b.getD n 0) (b.getD (n + 1) 0) (b.getD (n + 2) 0) n) := by unfold prevOf; rw [if_pos h3]; rfl
    have HK : ∀ W, Rd W B 1 S b.length (b.map bv) → B ≤ W.heap.size → _ := fun W h1 h2 => key_any b S cs B n W h1 h2 h3 hbl
    generalize b.getD n 0 = x at *
    generalize b.getD (n + 1) 0 = y at *
    generalize b.getD (n + 2) 0 = z at *
    cases hl : lastKey b x y z n with
    | none =>
      rw [hl] at hpn
      have hcl := fun (W : World) (h : W.ownsMap Try.prog 88 (plainElem Try.prog 3) mb n D) => ch_look h hOk hx hy hz
      simp only [hl, num0, Option.isSome] at hcl
      go_wp2_with fail
      go_region_held3 (fun W => W.cell? ⟨g, 0, none⟩ = some (.map (some mb))) (first | with_reducible exact k0 | with_reducible exact m0) (first
        | (go_at_call 49; refine (HK _ (hS3 _ ht3d) (by omega)).mono ?_; rintro e w5 ⟨rfl, hg5⟩; (have m0 := hg5.cell k0 (by simp)); (have hlk := hcl w5 (hM3d.kept hg5 (by simp))))
        | fail)
      go_wp2_with fail
      have hO4 : Own w5 base 3 1 (some ⟨g1, 0, none⟩) c1' (n + 1) (prevs b (n + 1)) := by
        rw [prevs_snoc, hpn]
        exact hO3d.grown0 hg5
      have hB4 := hB3d.grown hg5 (by simp)
      have hM4 := hM3d.kept hg5 (by simp)
      have ht4 := tch_trans ht3d (tch_gb hg5)
      clear hO3 hO3d hB3 hB3d hM3 hM3d ht3 ht3d k0 hs3d m0 hlk hg5
      have hM4d : w5.drew.ownsMap Try.prog 88 (plainElem Try.prog 3) mb n D := hM4
      have ht4d := tch_drew ht4
      have hs4d := ht4d.size
      have hB4d : Blk w5.drew g #[.map (some mb), .slice (some ⟨g1, 0, none⟩) (n + 1) c1'] 80 := hB4
      have hO4d : Own w5.drew base 3 1 (some ⟨g1, 0, none⟩) c1' (n + 1) (prevs b (n + 1)) := hO4
      have k0 : w5.drew.cell? ⟨g, 0, none⟩ = some (.map (some mb)) := hB4d.cell 0 rfl
      go_wp2_with fail
      go_region_held3 (fun W => W.cell? ⟨g, 0, none⟩ = some (.map (some mb))) (first | with_reducible exact k0 | with_reducible exact m0 | with_reducible exact m1) (first
        | (go_at_call 49; refine (HK _ (hS3 _ ht4d) (by omega)).mono ?_; rintro e w7 ⟨rfl, hg7⟩; (have m0 := hg7.cell k0 (by simp)); (obtain ⟨w8, hup, hM8, hg8⟩ := (hM4d.kept hg7 (by simp)).update keyed88 Try.underlying77 (by simp only [maxLen]; omega) (key_of hx hy hz) (plainElem_int Try.underlying3 (a := (n : Int)) (by simp [Lit.wf, IntKind.min, IntKind.max, IntKind.signed, IntKind.bits]; omega))); (have m1 := hg8.cell m0 (by simp; exact hmg)))
        | fail)
      go_wp2_with fail
      go_end0
      refine ⟨rfl, ⟨mb, some ⟨g1, 0, none⟩, c1', _, hbg, hbm, (hB4d.grown hg7 (by simp)).grown hg8 (by simp; exact hmg), hM8, hput, (hO4d.grown0 hg7).grown hg8 (.inr ?_)⟩, hfin _ (tch_trans (tch_trans ht4d (tch_gb hg7)) (tch_some hg8 (.inr (.inl rfl))))⟩
      exact map_ne_own hM4d hO4d
    | some q =>
      rw [hl] at hpn
      have hcl := fun (W : World) (h : W.ownsMap Try.prog 88 (plainElem Try.prog 3) mb n D) => ch_look h hOk hx hy hz
      simp only [hl, num0, Option.isSome] at hcl
      go_wp2_with fail
      go_region_held3 (fun W => W.cell? ⟨g, 0, none⟩ = some (.map (some mb))) (first | with_reducible exact k0 | with_reducible exact m0) (first
        | (go_at_call 49; refine (HK _ (hS3 _ ht3d) (by omega)).mono ?_; rintro e w5 ⟨rfl, hg5⟩; (have m0 := hg5.cell k0 (by simp)); (have hlk := hcl w5 (hM3d.kept hg5 (by simp))))
        | fail)
      have hB5 := hB3d.grown hg5 (by simp)
      have hO5 := hO3d.grown0 hg5
      have j1 := hB5.cell 1 rfl
      have hi0 : (n : Int) < ((n + 1 : Nat) : Int) := by omega
      have e1 := hO5.cell rfl (j := n) (u := .int .i64 (-1)) (by omega) (by simp [prevs_len])
      have e2 := hO5.free rfl n
      go_wp2_with fail
      have hO4 : Own (w5.setCell ⟨g1, n, none⟩ (.int .i64 (q : Int))) base 3 1 (some ⟨g1, 0, none⟩) c1' (n + 1) (prevs b (n + 1)) := by
        have := hO5.set n (.int .i64 (q : Int))
        rw [prevs_snoc, hpn]
        rw [List.set_append_right _ _ (by simp [prevs_len])] at this
        simpa [prevs_len, numO] using this
      have hB4 := hB5.other (b := g1) (i := n) (v := .int .i64 (q : Int)) (Ne.symm hg1g)
      have hM4 := (hM3d.kept hg5 (by simp)).setCell (a := ⟨g1, n, none⟩) (by
        intro e
        exact map_ne_own (hM3d.kept hg5 (by simp)) hO5 (by rw [e]; rfl)) (.int .i64 (q : Int))
      have ht4 : Tch (fun k => k = g ∨ k = mb ∨ blk A = some k) w (w5.setCell ⟨g1, n, none⟩ (.int .i64 (q : Int))) := tch_set (tch_trans ht3d (tch_gb hg5)) hg1T
      clear hO3 hO3d hB3 hB3d hM3 hM3d ht3 ht3d k0 hs3d m0 hlk hg5 hB5 hO5 j1 e1 e2
      generalize w5.setCell ⟨g1, n, none⟩ (.int .i64 (q : Int)) = w5 at *
      have hM4d : w5.drew.ownsMap Try.prog 88 (plainElem Try.prog 3) mb n D := hM4
      have ht4d := tch_drew ht4
      have hs4d := ht4d.size
      have hB4d : Blk w5.drew g #[.map (some mb), .slice (some ⟨g1, 0, none⟩) (n + 1) c1'] 80 := hB4
      have hO4d : Own w5.drew base 3 1 (some ⟨g1, 0, none⟩) c1' (n + 1) (prevs b (n + 1)) := hO4
      have k0 : w5.drew.cell? ⟨g, 0, none⟩ = some (.map (some mb)) := hB4d.cell 0 rfl
      go_wp2_with fail
      go_region_held3 (fun W => W.cell? ⟨g, 0, none⟩ = some (.map (some mb))) (first | with_reducible exact k0 | with_reducible exact m0 | with_reducible exact m1) (first
        | (go_at_call 49; refine (HK _ (hS3 _ ht4d) (by omega)).mono ?_; rintro e w7 ⟨rfl, hg7⟩; (have m0 := hg7.cell k0 (by simp)); (obtain ⟨w8, hup, hM8, hg8⟩ := (hM4d.kept hg7 (by simp)).update keyed88 Try.underlying77 (by simp only [maxLen]; omega) (key_of hx hy hz) (plainElem_int Try.underlying3 (a := (n : Int)) (by simp [Lit.wf, IntKind.min, IntKind.max, IntKind.signed, IntKind.bits]; omega))); (have m1 := hg8.cell m0 (by simp; exact hmg)))
        | fail)
      go_wp2_with fail
      go_end0
      refine ⟨rfl, ⟨mb, some ⟨g1, 0, none⟩, c1', _, hbg, hbm, (hB4d.grown hg7 (by simp)).grown hg8 (by simp; exact hmg), hM8, hput, (hO4d.grown0 hg7).grown hg8 (.inr ?_)⟩, hfin _ (tch_trans (tch_trans ht4d (tch_gb hg7)) (tch_some hg8 (.inr (.inl rfl))))⟩
      exact map_ne_own hM4d hO4d
  · have hcmp : (b.length : Int) < (n : Int) + 3 := by omega
    go_enter Try.func46, Try.ntmps46
    go_wp2_with (
      at_builtin
      refine wpList_app1 w rfl (.tmp 12) (.tmp 13) 78 rfl base 3 Try.underlying78 hi hz0 hz1 hz2 rfl (by decide) A c n (prevs b n) rfl hO [.int .i64 (-1)] 3 1 (by rfl) rfl hone hby (by decide) hbw ?_
      intro g1 c1' w2 hO2 hgr hloc hbg1 hlt1
      have hB2 := hBk.grown hgr (fun e => hAg e.symm)
      have kk1 := hB2.cell 1 rfl
      have ff1 := hB2.free 1)
    refine bodyPost_ret (results_none rfl _ _ _) rfl ?_
    have hg1g : g1 ≠ g := by
      intro e
      exact own_ne_blk hO2 hB2 (by decide) (by rw [e]; rfl)
    have hpn : prevOf b n = -1 := by unfold prevOf; rw [if_neg h3]
    refine ⟨rfl, ⟨mb, some ⟨g1, 0, none⟩, c1', D, hbg, hbm, hB2.set 1 (.slice (some ⟨g1, 0, none⟩) (n + 1) c1'), ((hM.kept hgr (Ne.symm hmA)).setCell (a := ⟨g, 1, none⟩) (Ne.symm hmg) _).mono (by omega), map_skip hOk h3, ?_⟩, ?_⟩
    · rw [prevs_snoc, hpn]
      exact hO2.other (p := ⟨g, 1, none⟩) (by simp [blk]; exact hg1g) _
    · refine ⟨fun k => k = g ∨ k = mb ∨ blk A = some k, tch_set (tch_row hgr (fun j hj => .inr (.inr hj))) (.inl (.inl rfl)), fun k hk => by
        rcases hk with e | e | e
        · omega
        · omega
        · exact (hO.lt k e).1, fun k cs ty hk hb => by
        rcases hk with e | e | e
        · subst e
          unfold Blk at hb hBk
          rw [hBk] at hb
          simp at hb
          exact .inl hb.2.symm
        · subst e
          exact absurd rfl (map_ne_blk hM hb)
        · by_cases ht3 : ty = 3
          · exact .inr ht3
          · exact absurd e (own_ne_blk hO hb (fun e => ht3 e.symm))⟩
end Go.Proofs.Ytlohplopomfjhaa
