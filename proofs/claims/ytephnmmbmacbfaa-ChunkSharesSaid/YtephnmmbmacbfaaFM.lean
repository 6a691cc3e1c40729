/- The walk of the law ChunkShares. -/
import Derived.Test.YtephnmmbmacbfaaFL
namespace Go.Proofs.Ytephnmmbmacbfaa
set_option linter.unusedVariables false
set_option linter.unusedSimpArgs false
open Go.RowKit Go.Own Go.Chunk

theorem own_empty (w : World) {base : Nat} (h : base ≤ w.heap.size) : Own.Own (w.alloc (.cells #[] 5)) base 5 1 (some ⟨w.heap.size, 0, none⟩) 0 0 [] := by
  have h := Own.Own.of_blk (base := base) (size := 1) (n := 0) (c := 0) (Blk.new w #[] 5) h (by simp [maxLen]) (by omega) (by simp)
  simpa using h

theorem Boxed_row_ne {w : World} {base e s c n g : Nat} {A : Option Addr} {xs : List Value} {cs : Array Value} {t : TypeId} (h : Blk w g cs t) (hne : t ≠ e) (h' : Own.Own w base e s A c n xs) : some g ≠ (Value.slice A n c).ownBlock := by
  intro e1
  rcases h'.2 with ⟨hv, _⟩ | ⟨g', cap, cur, hv, _, hh, _⟩
  · injection hv with h0
    subst h0
    simp [Value.ownBlock] at e1
  · injection hv with h0
    subst h0
    simp [Value.ownBlock] at e1
    subst e1
    exact h.ne_type (show Blk w g cur e from hh) hne rfl

theorem wpList_app0 {P : Program} (w : World) {ops : Array Oper} {rest : List Oper} {o : Oper} {a : Act} {Q : Exit → Act → World → Prop} (hgd : o.guard = none) (s x : Operand) (t : TypeId)
    (ho : o.op = .call { callee := .builtin .append, args := #[s, x], argTypes := #[t, t] })
    (base e : Nat) {i : TypeInfo} {z : Value} {size bytes : Nat} (ht : P.underlying t = some (.slice e)) (hi : P.info? e = some i) (hz : i.zero = some z)
    (hsize : i.size = size) (hby : i.bytes = bytes) (hzs : z.cells.size = size) (hsz : 0 < size)
    (A : Option Addr) (c : Nat) (hs : a.eval s = .slice A 0 c) (hown : Own.Own w base e size A c 0 [])
    (B : Nat) (As : Option Addr) (m cs : Nat) (news : List Value) (hx : a.eval x = .slice As m cs) (hr : Rd w B size As m news) (h1 : ∀ u ∈ news, u.oneCell' = true)
    (h63 : m ≤ maxLen) (hbytes : m * bytes ≤ 140737488355328) (hbase : base ≤ w.heap.size)
    (h : ∀ A' c' w', Own.Own w' base e size A' c' m news → w.grownBy w' (blk A) → (blk A' = blk A ∨ blk A' = some w.heap.size) → wpList P ops Q rest (a.put o.dst (.slice A' m c')) w') :
    wpList P ops Q (o :: rest) a w := by
  refine wpList_appN w hgd s x t ho base e ht hi hz hsize hby hzs hsz A c 0 [] hs hown B As m cs news hx hr h1 (by rw [Nat.zero_add]; exact h63) (by rw [Nat.zero_add]; exact hbytes) hbase ?_
  intro A' c' w' h2 h3 h4
  rw [Nat.zero_add] at h2 ⊢
  exact h A' c' w' h2 h3 h4

theorem Blk_aside {w w' : World} {base e s c n g : Nat} {A : Option Addr} {xs : List Value} {cs : Array Value} {t : TypeId} (h : Blk w g cs t) (h' : Own.Own w base e s A c n xs) (hne : t ≠ e) (hg : w.grownBy w' (blk A)) : Blk w' g cs t :=
  h.grown hg (by rw [← ownBlock_eq A n c]; exact Boxed_row_ne h hne h')

theorem own_cap {w : World} {base e size c n : Nat} {A : Option Addr} {xs : List Value} (h : Own.Own w base e size A c n xs) : n ≤ c ∧ c ≤ 9223372036854775807 := by
  rcases h.2 with ⟨hv, _⟩ | ⟨g', cap, cur, hv, _, hh, hnc, hcm, _⟩
  · injection hv with _ h1 h2
    omega
  · injection hv with _ h1 h2
    unfold maxLen at hcm
    omega

theorem bytes_app {l r : List Nat} (hl : ∀ v ∈ l, v < 256) (hr : ∀ v ∈ r, v < 256) : ∀ v ∈ l ++ r, v < 256 := fun v h => (List.mem_append.1 h).elim (hl v) (hr v)

theorem fits_cut (least most k : Nat) (b : List Nat) (hl : 0 < least) : Fits b (pcs (cut spc least most k b) (cut spc least most k b).length) := by
  intro x hx
  unfold pcs at hx
  obtain ⟨j, hj, rfl⟩ := List.mem_map.1 hx
  rw [List.mem_range] at hj
  exact ⟨piece_pos least most k b hl j hj, piece_fits spc least most k b hl hj⟩

theorem alike_cut (least most k : Nat) (a b s : List Nat) (hl : 0 < least) : AlikeL (endsOf (cut spc least most k (a ++ s))) (endsOf (cut spc least most k (b ++ s))) (a ++ s).length (b ++ s).length s.length := by
  intro i j hi hj h hr
  rw [endsOf_length] at hi hj
  rw [endsOf_get _ _ hi, endsOf_get _ _ hj] at h
  rw [endsOf_get _ _ hi] at hr
  obtain ⟨h1, h2⟩ := alike_law spc least most k hl a b s i j hi hj h hr
  rw [endsOf_length, endsOf_length]
  refine ⟨h1, fun q hq1 hq2 => ?_⟩
  rw [endsOf_get _ _ hq1, endsOf_get _ _ hq2]
  exact h2 q

theorem ends_le (least most k : Nat) (b : List Nat) (hl : 0 < least) (i : Nat) (h : i < (endsOf (cut spc least most k b)).length) : (endsOf (cut spc least most k b)).getD i 0 ≤ b.length := by
  rw [endsOf_length] at h
  rw [endsOf_get _ _ h]
  exact at_le_length spc least most k hl b _

theorem seen_take (od : List Nat) (P : List (Nat × Nat)) (k : Nat) (h : k < P.length) (l : List Nat) : seen od (P.take (k + 1)) l = (seen od (P.take k) l || pb od P[k] == l) := by
  rw [take_snoc_pair P k h, seen_snoc]

/-- What the walk knows behind the cuts. -/
structure Cuts (w wi : World) (od fr : List Nat) (Ao Af : Option Addr) (co cf : Nat) (Al Ar : Option Addr) (cl cr : Nat) (L1 L2 : List Nat) : Prop where
  old : Own.Own wi w.heap.size 5 1 Ao co od.length (od.map bv)
  fresh : Own.Own wi w.heap.size 5 1 Af cf fr.length (fr.map bv)
  l : Own.Own wi w.heap.size 24 1 Al cl L1.length ((pcs L1 L1.length).map (cutV Ao))
  r : Own.Own wi w.heap.size 24 1 Ar cr L2.length ((pcs L2 L2.length).map (cutV Af))
  g : w.grownBy wi none

theorem Cuts.later {w wi wj : World} {od fr : List Nat} {Ao Af : Option Addr} {co cf : Nat} {Al Ar : Option Addr} {cl cr : Nat} {L1 L2 : List Nat} (h : Cuts w wi od fr Ao Af co cf Al Ar cl cr L1 L2) (hg : wi.grownBy wj none) : Cuts w wj od fr Ao Af co cf Al Ar cl cr L1 L2 :=
  ⟨h.old.grown0 hg, h.fresh.grown0 hg, h.l.grown0 hg, h.r.grown0 hg, gb_trans h.g hg⟩

set_option maxHeartbeats 6400000 in
set_option maxRecDepth 100000 in
theorem law_shares (x y z : Nat) (hx : x < 256) (hy : y < 256) (hz : z < 256) (A0 A1 A2 : Option Addr) (c0 c1 c2 : Nat) (a b s : List Nat) (w : World)
    (ha : Rd w w.heap.size 1 A0 a.length (a.map bv)) (hb : Rd w w.heap.size 1 A1 b.length (b.map bv)) (hs : Rd w w.heap.size 1 A2 s.length (s.map bv)) (hva : ∀ v ∈ a, v < 256) (hvb : ∀ v ∈ b, v < 256) (hvs : ∀ v ∈ s, v < 256) :
    Calls Try.prog 5 #[.agg #[.int .u8 x, .int .u8 y, .int .u8 z], .slice A0 a.length c0, .slice A1 b.length c1, .slice A2 s.length c2] w fun e w' => e = .returned (.bool true) ∧ w.grownBy w' none := by
  obtain ⟨i5, hi5, hz50, hz51, hz52⟩ := info_parts info5
  have hB0 := Blk.new w #[.int .u8 (x : Int), .int .u8 (y : Int), .int .u8 (z : Int)] 23
  have hg0 := gb_alloc (gb_refl w none) (.cells #[.int .u8 (x : Int), .int .u8 (y : Int), .int .u8 (z : Int)] 23)
  have k0 := hB0.cell 0 rfl
  have k1 := hB0.cell 1 rfl
  have k2 := hB0.cell 2 rfl
  by_cases h1 : 200 < a.length
  · have h1i : (200 : Int) < (a.length : Int) := by omega
    go_enter Try.func5, Try.ntmps5
    go_wp2_with fail
    refine (awake43 _).mono ?_
    rintro e w5 ⟨rfl, hg5⟩
    go_wp2_with fail
    go_ret
    exact ⟨rfl, gb_trans hg0 hg5⟩
  have h1i : ¬ ((200 : Int) < (a.length : Int)) := by omega
  by_cases h2 : 200 < b.length
  · have h2i : (200 : Int) < (b.length : Int) := by omega
    go_enter Try.func5, Try.ntmps5
    go_wp2_with fail
    refine (awake43 _).mono ?_
    rintro e w5 ⟨rfl, hg5⟩
    go_wp2_with fail
    go_ret
    exact ⟨rfl, gb_trans hg0 hg5⟩
  have h2i : ¬ ((200 : Int) < (b.length : Int)) := by omega
  by_cases h3 : 300 < s.length
  · have h3i : (300 : Int) < (s.length : Int) := by omega
    go_enter Try.func5, Try.ntmps5
    go_wp2_with fail
    refine (awake43 _).mono ?_
    rintro e w5 ⟨rfl, hg5⟩
    go_wp2_with fail
    go_ret
    exact ⟨rfl, gb_trans hg0 hg5⟩
  have h3i : ¬ ((300 : Int) < (s.length : Int)) := by omega
  obtain ⟨h16, hl45, hlm, hm, hk⟩ := case_sizes x y z hy
  have hsz := sizes_any x y z (w.alloc (.cells #[.int .u8 (x : Int), .int .u8 (y : Int), .int .u8 (z : Int)] 23)) hx hy hz
  generalize 16 + x % 30 + y = most at *
  generalize 16 + x % 30 = least at *
  generalize z % 21 = k at *
  have hnew := fun W => new_ok least most k W ⟨by omega, by omega, by omega, by omega, by omega⟩
  unfold cv at hnew
  replace hnew := Lib.hid hnew
  go_enter Try.func5, Try.ntmps5
  go_wp2_with fail
  refine hsz.mono ?_
  rintro e w1 ⟨rfl, hg1⟩
  replace hg1 := gb_trans hg0 hg1
  clear hg0 hB0 k0 k1 k2 hsz
  go_wp2_with fail
  refine (hnew.out _).mono ?_
  rintro e w2 ⟨rfl, hg2⟩
  replace hg2 := gb_trans hg1 hg2
  clear hnew hg1
  have hBc := Blk.new w2 #[.int .i64 (least : Int), .int .i64 (most : Int), .int .i64 (k : Int)] 29
  have hg3 := gb_alloc hg2 (.cells #[.int .i64 (least : Int), .int .i64 (most : Int), .int .i64 (k : Int)] 29)
  have hOE : Own.Own ((w2.alloc (.cells #[.int .i64 (least : Int), .int .i64 (most : Int), .int .i64 (k : Int)] 29)).alloc (.cells #[] 5)) w.heap.size 5 1 (some ⟨w2.heap.size + 1, 0, none⟩) 0 0 [] := by
    have := own_empty (w2.alloc (.cells #[.int .i64 (least : Int), .int .i64 (most : Int), .int .i64 (k : Int)] 29)) hg3.size
    rw [World.size_alloc] at this
    exact this
  have hgE := gb_alloc hg3 (.cells #[] 5)
  have q63 : a.length ≤ maxLen := by simp only [maxLen]; omega
  have qby : a.length * 1 ≤ 140737488355328 := by omega
  have r63 : a.length + s.length ≤ maxLen := by simp only [maxLen]; omega
  have rby : (a.length + s.length) * 1 ≤ 140737488355328 := by omega
  have t63 : b.length ≤ maxLen := by simp only [maxLen]; omega
  have tby : b.length * 1 ≤ 140737488355328 := by omega
  have u63 : b.length + s.length ≤ maxLen := by simp only [maxLen]; omega
  have uby : (b.length + s.length) * 1 ≤ 140737488355328 := by omega
  have e1 : Hid (∀ V, w.grownBy V none → Rd V w.heap.size 1 A0 a.length (a.map bv)) := Lib.hid fun V hV => ha.later hV (Nat.le_refl _)
  have e2 : Hid (∀ V, w.grownBy V none → Rd V w.heap.size 1 A2 s.length (s.map bv)) := Lib.hid fun V hV => hs.later hV (Nat.le_refl _)
  have e3 : Hid (∀ V, w.grownBy V none → Rd V w.heap.size 1 A1 b.length (b.map bv)) := Lib.hid fun V hV => hb.later hV (Nat.le_refl _)
  clear ha hb hs
  go_wp2_with (first
    | (at_builtin; refine wpList_app0 ((w2.alloc (.cells #[.int .i64 (least : Int), .int .i64 (most : Int), .int .i64 (k : Int)] 29)).alloc (.cells #[] 5)) rfl (.tmp 51) (.tmp 52) 24 rfl w.heap.size 5 Try.underlying24 hi5 hz50 hz51 hz52 rfl (by decide) (some ⟨w2.heap.size + 1, 0, none⟩) 0 rfl hOE _ A0 a.length c0 (a.map bv) rfl (e1.out _ hgE) bv_one q63 qby hgE.size ?_; intro A4 c4 w4 hO4 hgr4 _; have g4 := gb_own hgE hgr4 (fun g h => (hOE.lt g h).1); have b4 := (hBc.alloc _).grown hgr4 (by simp [blk]))
    | (at_builtin; refine wpList_appN w4 rfl (.tmp 53) (.tmp 54) 24 rfl w.heap.size 5 Try.underlying24 hi5 hz50 hz51 hz52 rfl (by decide) A4 c4 a.length (a.map bv) rfl hO4 _ A2 s.length c2 (s.map bv) rfl (e2.out _ g4) bv_one r63 rby g4.size ?_; intro A5 c5 w5 hO5 hgr5 _; have g5 := gb_own g4 hgr5 (fun g h => (hO4.lt g h).1); have b5 := Blk_aside b4 hO4 (by decide) hgr5)
    | (at_builtin; refine wpList_app0 (w5.alloc (.cells #[] 5)) rfl (.tmp 56) (.tmp 57) 24 rfl w5.heap.size 5 Try.underlying24 hi5 hz50 hz51 hz52 rfl (by decide) (some ⟨w5.heap.size, 0, none⟩) 0 rfl (own_empty w5 (Nat.le_refl _)) _ A1 b.length c1 (b.map bv) rfl (e3.out _ (gb_alloc g5 _)) bv_one t63 tby (by simp) ?_; intro A6 c6 w6 hO6 hgr6 _; have g56 := gb_own (gb_alloc (gb_refl w5 none) _) hgr6 (fun g h => (by simp [blk] at h; omega)))
    | (at_builtin; refine wpList_appN w6 rfl (.tmp 58) (.tmp 59) 24 rfl w5.heap.size 5 Try.underlying24 hi5 hz50 hz51 hz52 rfl (by decide) A6 c6 b.length (b.map bv) rfl hO6 _ A2 s.length c2 (s.map bv) rfl (e2.out _ (gb_trans g5 g56)) bv_one u63 uby g56.size ?_; intro A7 c7 w7 hO7 hgr7 _; have g57 := gb_own g56 hgr7 (fun g h => (hO6.lt g h).1))
    | fail)
  obtain ⟨od, hod⟩ : ∃ od, od = a ++ s := ⟨_, rfl⟩
  obtain ⟨fr, hfr⟩ : ∃ fr, fr = b ++ s := ⟨_, rfl⟩
  have hol : a.length + s.length = od.length := by rw [hod, List.length_append]
  have hfl : b.length + s.length = fr.length := by rw [hfr, List.length_append]
  have hO5' : Own.Own w7 w.heap.size 5 1 A5 c5 od.length (od.map bv) := by
    rw [← hol, hod, List.map_append]
    exact hO5.grown0 g57
  have hO7' : Own.Own w7 w.heap.size 5 1 A7 c7 fr.length (fr.map bv) := by
    rw [← hfl, hfr, List.map_append]
    exact hO7.mono g5.size
  have g7 := gb_trans g5 g57
  have b7 := b5.grown g57 (by simp)
  have hvo : ∀ v ∈ od, v < 256 := by rw [hod]; exact bytes_app hva hvs
  have hvf : ∀ v ∈ fr, v < 256 := by rw [hfr]; exact bytes_app hvb hvs
  have hol5 : od.length ≤ 500 := by omega
  have hfl5 : fr.length ≤ 500 := by omega
  have hal := alike_cut least most k a b s (by omega)
  rw [← hod, ← hfr] at hal
  rw [hol, hfl]
  have hsl : s.length ≤ 300 := by omega
  replace hod := Lib.hid hod
  replace hfr := Lib.hid hfr
  clear hO5 hO7 g4 g5 g56 g57 b4 b5 hgr4 hgr5 hgr6 hgr7 hO4 hO6 hOE hgE hBc hg3 e1 e2 e3 hol hfl q63 qby r63 rby t63 tby u63 uby h1i h2i h3i h1 h2 h3 hva hvb hvs hg2
  have hcapo := own_cap hO5'
  have hcapf := own_cap hO7'
  have hce := fun (W : World) (hW : w7.grownBy W none) => cut_fine (w := W) (B := W.heap.size) (S := A5) (cs := c5) (b := od) (least := least) (most := most) (k := k) (hO5'.grown0 hW).rd (Nat.le_refl _) hvo (by omega) hcapo.1 hcapo.2 h16 hlm hm hk
  have hcf := fun (W : World) (hW : w7.grownBy W none) => cut_fine (w := W) (B := W.heap.size) (S := A7) (cs := c7) (b := fr) (least := least) (most := most) (k := k) (hO7'.grown0 hW).rd (Nat.le_refl _) hvf (by omega) hcapf.1 hcapf.2 h16 hlm hm hk
  have hcl1 := cut_length spc least most k od (by omega)
  have hcl2 := cut_length spc least most k fr (by omega)
  have hfo := fits_cut least most k od (by omega)
  have hff := fits_cut least most k fr (by omega)
  have hen1 := ends_le least most k od (by omega)
  have hen2 := ends_le least most k fr (by omega)
  have hsu1 := cut_sum spc least most k (by omega) _ od rfl
  have hsu2 := cut_sum spc least most k (by omega) _ fr rfl
  have hshr := fun (W : World) (hW : w7.grownBy W none) => shared_any (least : Int) (most : Int) (k : Int) od fr (pcs (cut spc least most k od) (cut spc least most k od).length) (pcs (cut spc least most k fr) (cut spc least most k fr).length) A5 A7 c5 c7 W
    (hO5'.grown0 hW).rd (hO7'.grown0 hW).rd hvo hvf (by omega) (by omega) hfo hff (by rw [pcs_length]; omega) (by rw [pcs_length]; omega)
    (fun V hV => by rw [pcs_length]; exact hce V (gb_trans hW hV)) (fun V hV => by rw [pcs_length]; exact hcf V (gb_trans hW hV))
  generalize cut spc least most k od = L1 at *
  generalize cut spc least most k fr = L2 at *
  unfold cv at hce hcf hshr
  replace hce := Lib.hid hce
  replace hcf := Lib.hid hcf
  replace hshr := Lib.hid hshr
  replace hfo := Lib.hid hfo
  replace hff := Lib.hid hff
  replace hen1 := Lib.hid hen1
  replace hen2 := Lib.hid hen2
  replace hal := Lib.hid hal
  replace hsu1 := Lib.hid hsu1
  replace hsu2 := Lib.hid hsu2
  refine wp_region_X 6 (fun V => Blk V w2.heap.size #[.int .i64 (least : Int), .int .i64 (most : Int), .int .i64 (k : Int)] 29) (by kernel_rfl) (by decide) b7.drew (fun hHeld => ?_)
  refine' takeX (i := 0) (d := 61) (v := _) rfl rfl (by kernel_rfl) (fun _ _ _ h => h) (Or.inl ⟨by rfl, ?hy0⟩) (by assumption) ?rest0
  case hy0 => (intro V hSw; (have k0 := hSw.cell 0 rfl); (have k1 := hSw.cell 1 rfl); (have k2 := hSw.cell 2 rfl); go_simp; (try with_reducible rfl))
  case rest0 =>
  try simp only [List.getElem_toArray, List.getElem_cons_zero, List.getElem_cons_succ, Act.put, List.setIfInBounds_toArray, List.set_cons_zero, List.set_cons_succ]
  refine' takeX (i := 1) (d := 62) (v := _) rfl rfl (by kernel_rfl) (fun _ _ _ h => h) (Or.inl ⟨by rfl, ?hy1⟩) (by assumption) ?rest1
  case hy1 => (intro V hSw; (have k0 := hSw.cell 0 rfl); (have k1 := hSw.cell 1 rfl); (have k2 := hSw.cell 2 rfl); go_simp; (try with_reducible rfl))
  case rest1 =>
  try simp only [List.getElem_toArray, List.getElem_cons_zero, List.getElem_cons_succ, Act.put, List.setIfInBounds_toArray, List.set_cons_zero, List.set_cons_succ]
  refine' takeX (i := 3) (d := 64) (v := _) rfl rfl (by kernel_rfl) (fun _ _ _ h => h) (Or.inl ⟨by rfl, ?hy3⟩) (by assumption) ?rest3
  case hy3 => (intro V hSw; (have k0 := hSw.cell 0 rfl); (have k1 := hSw.cell 1 rfl); (have k2 := hSw.cell 2 rfl); go_simp; (try with_reducible rfl))
  case rest3 =>
  try simp only [List.getElem_toArray, List.getElem_cons_zero, List.getElem_cons_succ, Act.put, List.setIfInBounds_toArray, List.set_cons_zero, List.set_cons_succ]
  refine' takeX (i := 4) (d := 65) (v := _) rfl rfl (by kernel_rfl) (fun _ _ _ h => h) (Or.inl ⟨by rfl, ?hy4⟩) (by assumption) ?rest4
  case hy4 => (intro V hSw; (have k0 := hSw.cell 0 rfl); (have k1 := hSw.cell 1 rfl); (have k2 := hSw.cell 2 rfl); go_simp; (try with_reducible rfl))
  case rest4 =>
  try simp only [List.getElem_toArray, List.getElem_cons_zero, List.getElem_cons_succ, Act.put, List.setIfInBounds_toArray, List.set_cons_zero, List.set_cons_succ]
  refine readyX (rs := [2]) (by kernel_rfl) (by rfl) ?_
  refine AllReadyX.cons rfl (fun K hK => ?_) AllReadyX.nil
  go_simp
  refine (hce.out _ (gb_drew (gb_refl _ _))).mono ?_
  rintro e w8 ⟨Al, cl, rfl, hOl, hg8⟩
  have hb8 := b7.drew.grown hg8 (by simp)
  refine hK.out _ _ hb8 ?_
  clear hK K hHeld
  have hHeld := hb8
  try simp only [List.getElem_toArray, List.getElem_cons_zero, List.getElem_cons_succ, Act.put, List.setIfInBounds_toArray, List.set_cons_zero, List.set_cons_succ]
  refine readyX (rs := [5]) (by kernel_rfl) (by rfl) ?_
  refine AllReadyX.cons rfl (fun K hK => ?_) AllReadyX.nil
  go_simp
  refine (hcf.out _ (gb_trans (gb_drew (gb_refl _ _)) hg8)).mono ?_
  rintro e w9 ⟨Ar, cr, rfl, hOr, hg9⟩
  have hb9 := hb8.grown hg9 (by simp)
  have hg79 := gb_trans (gb_trans (gb_drew (gb_refl w7 none)) hg8) hg9
  refine hK.out _ _ hb9 ?_
  clear hK K hHeld
  try simp only [List.getElem_toArray, List.getElem_cons_zero, List.getElem_cons_succ, Act.put, List.setIfInBounds_toArray, List.set_cons_zero, List.set_cons_succ]
  refine ⟨?_, by kernel_rfl⟩
  show wpAny _ _ _ _ 2 _ _ _
  refine wpAny_ready (rs := [6]) (by kernel_rfl) (by simp) ?_
  refine AllReady.cons rfl (fun K hK => ?_) AllReady.nil
  go_simp
  refine hK _ _ ?_
  clear hK K
  try simp only [List.getElem_toArray, List.getElem_cons_zero, List.getElem_cons_succ, Act.put, List.setIfInBounds_toArray, List.set_cons_zero, List.set_cons_succ]
  refine wpAny_ready (rs := [7]) (by kernel_rfl) (by simp) ?_
  refine AllReady.cons rfl (fun K hK => ?_) AllReady.nil
  go_simp
  refine hK _ _ ?_
  clear hK K
  refine wpAny_done (by kernel_rfl) ?_ _
  have hCU : Cuts w w9 od fr A5 A7 c5 c7 Al Ar cl cr L1 L2 :=
    ⟨hO5'.grown0 hg79, hO7'.grown0 hg79, (hOl.grown0 hg9).mono g7.size, hOr.mono (Nat.le_trans g7.size (gb_trans (gb_drew (gb_refl w7 none)) hg8).size), gb_trans g7 hg79⟩
  clear hO5' hO7' hOl hOr hg8 hg9 b7 hb8 hcapo hcapf hce hcf g7 hk hm h16 hl45 hlm
  obtain ⟨P1, hP1⟩ : ∃ P, P = pcs L1 L1.length := ⟨_, rfl⟩
  obtain ⟨P2, hP2⟩ : ∃ P, P = pcs L2 L2.length := ⟨_, rfl⟩
  have hP1l : P1.length = L1.length := by rw [hP1, pcs_length]
  have hP2l : P2.length = L2.length := by rw [hP2, pcs_length]
  rw [← hP1] at hfo
  rw [← hP2] at hff
  rw [← hP1, ← hP2] at hshr
  have hCl := fun (W : World) (hW : w9.grownBy W none) => (hCU.later hW).l
  have hCr := fun (W : World) (hW : w9.grownBy W none) => (hCU.later hW).r
  rw [← hP1] at hCl
  rw [← hP2] at hCr
  replace hCl := Lib.hid hCl
  replace hCr := Lib.hid hCr
  replace hP1 := Lib.hid hP1
  replace hP2 := Lib.hid hP2
  replace hP1l := Lib.hid hP1l
  replace hP2l := Lib.hid hP2l
  go_wp2_with fail
  go_loopw [18, 19] (fun v18 v19 wi => ∃ j n : Nat, v19 = .int .i64 j ∧ v18 = .int .i64 n ∧ j ≤ L2.length ∧ Hid (n = shr od fr P1 (P2.take j)) ∧ n ≤ j * 500 ∧ w9.grownBy wi none)
    (fun _ v19 _ => L2.length - (intOf v19).toNat)
  case atStart => exact ⟨0, 0, rfl, rfl, Nat.zero_le _, Lib.hid rfl, by omega, gb_refl _ _⟩
  case round =>
    obtain ⟨j, n, rfl, rfl, hj, hn, hn5, hg⟩ := hrel
    by_cases hjl : j < L2.length
    · have hji : (j : Int) < (L2.length : Int) := by omega
      have hjp : j < P2.length := by rw [hP2l.out]; exact hjl
      obtain ⟨hx0, hx1⟩ := hff.out _ (List.getElem_mem hjp)
      have hss := shr_step od fr P1 P2 j hjp
      rw [← hn.out] at hss
      have hvb2 : ∀ v ∈ pb fr P2[j], v < 256 := fun v h => hvf v (List.mem_of_mem_drop (List.mem_of_mem_take h))
      have hpl2 : (pb fr P2[j]).length = P2[j].2 := by unfold pb; rw [List.length_take, List.length_drop]; exact Nat.min_eq_left (by omega)
      obtain ⟨gr, hAr, _, _⟩ := (hCr.out _ hg).form (by omega)
      subst hAr
      have hcr := fun (W : World) (hW : w9.grownBy W none) => cut_cell (hCr.out W hW) hjp hP2l.out
      obtain ⟨gf, hA7, _, _⟩ := hCU.fresh.form (by omega)
      subst hA7
      have hpt := fun (W : World) (hW : w9.grownBy W none) => rd_part (hCU.later hW).fresh.rd P2[j].1 P2[j].2 hx1
      have hfv := fun (W : World) (hW : w9.grownBy W none) => conv_any P2[j].2 (hpt W hW) hpl2
      have hpe : (fr.drop P2[j].1).take P2[j].2 = pb fr P2[j] := rfl
      rw [hpe] at hfv
      unfold cutV at hcr
      dsimp only [Option.map_some] at hcr
      generalize pb fr P2[j] = bl at *
      generalize P2[j] = xj at *
      obtain ⟨xa, xn⟩ := xj
      dsimp only at *
      simp only [Nat.zero_add] at hcr hfv
      replace hcr := Lib.hid hcr
      replace hfv := Lib.hid hfv
      replace hss := Lib.hid hss
      clear hpt hpe
      go_wp2_with fail
      go_loopw [20, 21] (fun v20 v21 wi => ∃ (q : Nat) (t : Bool), v21 = .int .i64 q ∧ v20 = .bool t ∧ q ≤ L1.length ∧ Hid (t = seen od (P1.take q) bl) ∧ wr.grownBy wi none)
        (fun _ v21 _ => L1.length - (intOf v21).toNat)
      case atStart => exact ⟨0, false, rfl, rfl, Nat.zero_le _, Lib.hid rfl, gb_refl _ _⟩
      case round =>
        obtain ⟨q, t, rfl, rfl, hq, ht, hg2⟩ := hrel
        have hgw := gb_trans hg hg2
        have cr0 := hcr.out _ hgw
        by_cases hql : q < L1.length
        · have hqi : (q : Int) < (L1.length : Int) := by omega
          have hqp : q < P1.length := by rw [hP1l.out]; exact hql
          have hst := seen_take od P1 q hqp bl
          rw [← ht.out] at hst
          cases t with
          | true =>
            rw [Bool.true_or] at hst
            replace hst := Lib.hid hst
            clear cr0
            go_wp2_with fail
            go_quiet (fail)
            go_wp2_with fail
            go_roundw
            case rel => exact ⟨q + 1, true, by go_num, rfl, by omega, Lib.hid hst.out.symm, gb_drewN hg2 _⟩
            case measure => first | (simp [intOf]; done) | (simp [intOf]; omega)
          | false =>
            rw [Bool.false_or] at hst
            obtain ⟨hy0, hy1⟩ := hfo.out _ (List.getElem_mem hqp)
            have hvb1 : ∀ v ∈ pb od P1[q], v < 256 := fun v h => hvo v (List.mem_of_mem_drop (List.mem_of_mem_take h))
            have hpl1 : (pb od P1[q]).length = P1[q].2 := by unfold pb; rw [List.length_take, List.length_drop]; exact Nat.min_eq_left (by omega)
            obtain ⟨gl, hAl, _, _⟩ := (hCl.out _ hgw).form (by omega)
            subst hAl
            have cl0 := cut_cell (hCl.out _ hgw) hqp hP1l.out
            obtain ⟨go, hA5, _, _⟩ := hCU.old.form (by omega)
            subst hA5
            have hv2 := fun m => conv_any P1[q].2 (rd_part (hCU.later (gb_drewN hgw m)).old.rd P1[q].1 P1[q].2 hy1) hpl1
            have hv1 := fun m => hfv.out _ (gb_drewN hgw m)
            have hpe : (od.drop P1[q].1).take P1[q].2 = pb od P1[q] := rfl
            rw [hpe] at hv2
            unfold cutV at cl0
            dsimp only [Option.map_some] at cl0
            generalize pb od P1[q] = bo at *
            generalize P1[q] = xq at *
            obtain ⟨ya, yn⟩ := xq
            dsimp only at *
            simp only [Nat.zero_add] at cl0 hv2
            by_cases hbb : bo = bl
            · rw [hbb] at hv2
              have hst2 : seen od (P1.take (q + 1)) bl = true := by rw [hst, hbb]; simp
              replace hst2 := Lib.hid hst2
              clear hst hbb
              go_wp2_with fail
              go_quiet (fail)
              go_wp2_with fail
              go_roundw
              case rel => exact ⟨q + 1, true, by go_num, rfl, by omega, Lib.hid hst2.out.symm, gb_drewN hg2 _⟩
              case measure => first | (simp [intOf]; done) | (simp [intOf]; omega)
            · have hne := beq_strB hvb1 hvb2 hbb
              have hst2 : seen od (P1.take (q + 1)) bl = false := by rw [hst]; simpa using hbb
              replace hst2 := Lib.hid hst2
              clear hst hbb
              go_wp2_with fail
              go_quiet (fail)
              go_wp2_with fail
              go_roundw
              case rel => exact ⟨q + 1, false, by go_num, rfl, by omega, Lib.hid hst2.out.symm, gb_drewN hg2 _⟩
              case measure => first | (simp [intOf]; done) | (simp [intOf]; omega)
        · have hq2 : q = L1.length := by omega
          subst hq2
          have hseen : t = seen od P1 bl := by
            rw [ht.out, List.take_of_length_le (by rw [hP1l.out]; exact Nat.le_refl _)]
          have hss2 := hss.out
          rw [← hseen] at hss2
          have hxn : (xn : Int) ≤ 500 := by omega
          have hni : (n : Int) ≤ 1000000 := by omega
          clear hseen
          cases t with
          | true =>
            rw [if_pos rfl] at hss2
            replace hss2 := Lib.hid hss2
            go_wp2_with fail
            go_roundw
            case rel => exact ⟨j + 1, n + xn, by go_num, by go_num, by omega, Lib.hid hss2.out.symm, by omega, hgw⟩
            case measure => first | (simp [intOf]; done) | (simp [intOf]; omega)
          | false =>
            rw [if_neg (by simp), Nat.add_zero] at hss2
            replace hss2 := Lib.hid hss2
            clear cr0
            go_wp2_with fail
            go_roundw
            case rel => exact ⟨j + 1, n, by go_num, rfl, by omega, Lib.hid hss2.out.symm, by omega, hgw⟩
            case measure => first | (simp [intOf]; done) | (simp [intOf]; omega)
    · have hj2 : j = L2.length := by omega
      subst hj2
      have hnn : n = shr od fr P1 P2 := by
        rw [hn.out, List.take_of_length_le (by rw [hP2l.out]; exact Nat.le_refl _)]
      rw [← hnn] at hshr
      have hsr := hshr.out _ (gb_trans hg79 hg)
      have hbr := hb9.grown hg (by simp)
      have k0 := hbr.cell 0 rfl
      have k1 := hbr.cell 1 rfl
      have k2 := hbr.cell 2 rfl
      have hCw := hCU.later hg
      have hsuo := hsu1.out
      have hsuf := hsu2.out
      have hf1 := fun (V : World) (hV : w9.grownBy V none) => ends43_any L1 Al A5 cl w.heap.size V (hCU.later hV).l (by omega) (by omega)
      have hf2 := fun (V : World) (hV : w9.grownBy V none) => ends43_any L2 Ar A7 cr w.heap.size V (hCU.later hV).r (by omega) (by omega)
      replace hf1 := Lib.hid hf1
      replace hf2 := Lib.hid hf2
      clear hnn hsuo hsuf
      go_wp2_with fail
      refine hsr.mono ?_
      rintro e w10 ⟨rfl, hg10⟩
      replace hg10 := gb_trans hg hg10
      clear hsr k0 k1 k2
      go_wp2_with fail
      refine (hf1.out _ hg10).mono ?_
      rintro e w11 ⟨Ae, ce, rfl, hOe, hg11⟩
      replace hg11 := gb_trans hg10 hg11
      go_wp2_with fail
      refine (hf2.out _ hg11).mono ?_
      rintro e w12 ⟨Az, cz, rfl, hOz, hg12⟩
      replace hOe := hOe.grown0 hg12
      replace hg12 := gb_trans hg11 hg12
      have hke := alike_any (endsOf L1) (endsOf L2) Ae Az ce cz od.length fr.length s.length w12.heap.size w12.heap.size w12 (by rw [endsOf_length]; exact hOe.rd) (by rw [endsOf_length]; exact hOz.rd) (Nat.le_refl _) (Nat.le_refl _) hen1.out hen2.out (by omega) (by omega) (by rw [endsOf_length]; omega) (by rw [endsOf_length]; omega) hal.out
      rw [endsOf_length, endsOf_length] at hke
      go_wp2_with fail
      refine hke.mono ?_
      rintro e w13 ⟨rfl, hg13⟩
      go_wp2_with fail
      refine (awake43 _).mono ?_
      rintro e w14 ⟨rfl, hg14⟩
      go_wp2_with fail
      go_ret
      exact ⟨rfl, gb_trans (gb_trans (gb_trans hCU.g hg12) hg13) hg14⟩

section
open Go.ChangeShapes Go.WideShapes Go.ChangeAt
theorem chunkshares_main {H : Type} {enc : TypeId × Value → H} {base : Nat} {v0 v1 v2 v3 : Value} {d0 d1 d2 d3 : DataW H} {p0 p1 p2 p3 : List MemPlace} (W : World)
    (k0 : Value.okWide Try.prog W .any base 23 v0) (h0 : DataW.Trod enc Try.prog W 0 (fun _ => true) true 23 v0 d0 p0)
    (k1 : Value.okWide Try.prog W .any base 24 v1) (h1 : DataW.Trod enc Try.prog W 0 (fun _ => true) true 24 v1 d1 p1)
    (k2 : Value.okWide Try.prog W .any base 24 v2) (h2 : DataW.Trod enc Try.prog W 0 (fun _ => true) true 24 v2 d2 p2)
    (k3 : Value.okWide Try.prog W .any base 24 v3) (h3 : DataW.Trod enc Try.prog W 0 (fun _ => true) true 24 v3 d3 p3) :
    Calls Try.prog 5 #[v0, v1, v2, v3] W fun e w' => e = .returned (.bool true) ∧ W.grownBy w' none := by
  obtain ⟨x, y, z, rfl, hx, hy, hz⟩ := open_case k0 h0
  obtain ⟨A0, c0, a, rfl, _, _, hRa, hva⟩ := open_bytes k1 h1
  obtain ⟨A1, c1, b, rfl, _, _, hRb, hvb⟩ := open_bytes k2 h2
  obtain ⟨A2, c2, s, rfl, _, _, hRs, hvs⟩ := open_bytes k3 h3
  exact law_shares x y z hx hy hz A0 A1 A2 c0 c1 c2 a b s W hRa hRb hRs hva hvb hvs
end
end Go.Proofs.Ytephnmmbmacbfaa
