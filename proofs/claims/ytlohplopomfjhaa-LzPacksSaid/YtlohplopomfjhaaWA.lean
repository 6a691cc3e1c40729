/- The walks of package bitio: a writer that lies in block g, its bytes in a row of its own. -/
import Derived.Test.YtlohplopomfjhaaProg
import Derived.Test.YtlohplopomfjhaaOwn
import Derived.Test.YtlohplopomfjhaaQTail
import Derived.Test.YtlohplopomfjhaaSA
import Derived.Laws.Bits64b
import Derived.WalkSmall
namespace Go.Proofs.Ytlohplopomfjhaa
set_option linter.unusedVariables false
set_option linter.unusedSimpArgs false
open Go.RowKit Go.Own Go.Bits

/-- A byte. -/
def bv (v : Nat) : Value := .int .u8 (v : Int)

theorem bv_one {l : List Nat} : ∀ u ∈ l.map bv, u.oneCell' = true := by
  intro u hu
  obtain ⟨x, _, rfl⟩ := List.mem_map.1 hu
  rfl

theorem info5 : (Try.prog.info? 5).map (fun i => (i.zero, i.size, i.bytes)) = some (some (.int .u8 0), 1, 1) := by kernel_rfl
theorem info4 : (Try.prog.info? 4).map (fun i => (i.zero, i.size, i.bytes)) = some (some (.bool false), 1, 1) := by kernel_rfl

/-- A writer. -/
def Wr (w : World) (g : Nat) (A : Option Addr) (c : Nat) (l : List Bool) : Prop :=
  Blk w g #[.slice A (pk l).length c, .int .i64 (l.length : Int)] 26 ∧ Own w 0 5 1 A c (pk l).length ((pk l).map bv)

/-- Its blocks. -/
def WrS (g : Nat) (A : Option Addr) (k : Nat) : Prop := k = g ∨ blk A = some k

/-- The writer holds l' now, and nothing else has turned. -/
def Wst (w : World) (g : Nat) (A : Option Addr) (l' : List Bool) (w' : World) : Prop :=
  ∃ A' c', Wr w' g A' c' l' ∧ Tch (WrS g A) w w' ∧ ∀ k, blk A' = some k → blk A = some k ∨ w.heap.size ≤ k

theorem Wst.refl {w : World} {g : Nat} {A : Option Addr} {c : Nat} {l : List Bool} (h : Wr w g A c l) : Wst w g A l w := ⟨A, c, h, tch_refl _ _, fun _ hk => .inl hk⟩

theorem tch_sub {S T : Nat → Prop} {a b c : World} (h : Tch S a b) (k : Tch T b c) (hT : ∀ i, i < a.heap.size → T i → S i) : Tch S a c :=
  ⟨k.os.trans h.os, k.tape.trans h.tape, k.output.trans h.output, Nat.le_trans h.size k.size,
    fun i hi hr => (k.block i (Nat.lt_of_lt_of_le hi h.size) (fun e => hr (hT i hi e))).trans (h.block i hi hr)⟩

theorem Wst.trans {w w1 w2 : World} {g : Nat} {A : Option Addr} {l2 : List Bool} {A1 : Option Addr} (ht : Tch (WrS g A) w w1) (hn : ∀ k, blk A1 = some k → blk A = some k ∨ w.heap.size ≤ k)
    (h : Wst w1 g A1 l2 w2) : Wst w g A l2 w2 := by
  obtain ⟨A2, c2, hw, ht2, hn2⟩ := h
  refine ⟨A2, c2, hw, tch_sub ht ht2 ?_, fun k hk => ?_⟩
  · intro i hi hT
    rcases hT with rfl | hT
    · exact .inl rfl
    · rcases hn i hT with h | h
      · exact .inr h
      · omega
  · rcases hn2 k hk with h | h
    · exact hn k h
    · have := ht.size; exact .inr (by omega)

theorem Wr.tch {S : Nat → Prop} {w w' : World} {g : Nat} {A : Option Addr} {c : Nat} {l : List Bool} (h : Wr w g A c l) (ht : Tch S w w') (hS : ∀ k, WrS g A k → ¬ S k) : Wr w' g A c l := by
  refine ⟨h.1.tch ht (hS g (.inl rfl)), ?_⟩
  obtain ⟨hx, h2⟩ := h.2
  refine ⟨hx, ?_⟩
  rcases h2 with h2 | ⟨g', cap, cur, hv, hg, hh, r⟩
  · exact .inl h2
  · refine .inr ⟨g', cap, cur, hv, hg, ?_, r⟩
    have e : A = some ⟨g', 0, none⟩ := by injection hv
    rw [ht.block g' (lt_of_block hh) (hS g' (.inr (by rw [e]; rfl)))]
    exact hh

theorem Wr.later {w w' : World} {g : Nat} {A : Option Addr} {c : Nat} {l : List Bool} (h : Wr w g A c l) (hg : w.grownBy w' none) : Wr w' g A c l :=
  h.tch (S := fun _ => False) (tch_gb hg) (fun _ _ => by simp)

theorem own_ne_blk {w : World} {base e size n c g : Nat} {A : Option Addr} {xs : List Value} {cs : Array Value} {t : TypeId} (h : Own w base e size A c n xs) (hB : Blk w g cs t) (hne : e ≠ t) : blk A ≠ some g := by
  rcases h.2 with ⟨hv, _⟩ | ⟨g', cap, cur, hv, _, hh, _⟩
  · have e : A = none := by injection hv
    rw [e]; simp [blk]
  · have e : A = some ⟨g', 0, none⟩ := by injection hv
    rw [e]
    intro he
    have : g' = g := by simpa [blk] using he
    exact Blk.ne_type (w := w) (g := g') (g' := g) hh hB hne this

theorem tch_row {S : Nat → Prop} {a b : World} {row : Option Nat} (h : a.grownBy b row) (hS : ∀ k, row = some k → S k) : Tch S a b :=
  ⟨h.os, h.tape, h.output, h.size, fun i hi hr => h.block i hi (fun e => hr (hS i e.symm))⟩

theorem or_bit (d v : Nat) (hd : d < 8) (hv : v < 2 ^ d) : bits BinOp.or IntKind.u8 (v : Int) ((2 : Int) ^ d % 256) = ((v + 2 ^ d : Nat) : Int) := by
  have h : ∀ d : Fin 8, ∀ v : Fin 128, v.val < 2 ^ d.val → bits BinOp.or IntKind.u8 (v.val : Int) ((2 : Int) ^ d.val % 256) = ((v.val + 2 ^ d.val : Nat) : Int) := by decide +kernel
  have hv2 : v < 128 := Nat.lt_of_lt_of_le hv (Nat.pow_le_pow_right (n := 2) (by omega) (show d ≤ 7 by omega))
  exact h ⟨d, hd⟩ ⟨v, hv2⟩ hv

set_option maxHeartbeats 800000 in
theorem bit_nil (b : Bool) (w : World) : Calls Try.prog 41 #[.pointer none, .bool b] w fun e w' => e = .returned (.tuple #[]) ∧ w = w' := by
  go_enter Try.func41, Try.ntmps41
  go_wp2
  exact bodyPost_ret (results_none rfl _ _ _) rfl ⟨rfl, rfl⟩

theorem set_same (xs : List Nat) (i : Nat) : xs.set i (xs.getD i 0) = xs := by
  apply List.ext_getElem
  · simp
  intro j h1 h2
  rw [List.getElem_set]
  split
  · rename_i e; subst e; simp [h2]
  · rfl

set_option maxHeartbeats 1600000 in
theorem bit_old (g : Nat) (A : Option Addr) (c : Nat) (l : List Bool) (b : Bool) (w : World) (h : Wr w g A c l) (hl : l.length ≤ 1000000) (h8 : l.length % 8 ≠ 0) :
    Calls Try.prog 41 #[.pointer (some ⟨g, 0, none⟩), .bool b] w fun e w' => e = .returned (.tuple #[]) ∧ Wst w g A (l ++ [b]) w' := by
  obtain ⟨hB, hO⟩ := h
  have hpl := pk_len l
  obtain ⟨gb, rfl, _, hgb⟩ := hO.form (by omega)
  have hne : gb ≠ g := fun e => own_ne_blk hO hB (by decide) (by rw [e]; rfl)
  have hs := pk_snoc1 l b h8
  have hp := pk_part l h8
  have hss := set_same (pk l) (l.length / 8)
  have hcell := hO.cell rfl (j := l.length / 8) (u := bv ((pk l).getD (l.length / 8) 0)) (by omega) (by
    have hi : l.length / 8 < (pk l).length := by omega
    simp [hi])
  have hfree := hO.free rfl (l.length / 8)
  have hel : (l ++ [b]).length = l.length + 1 := by simp
  have hpl2 : (pk (l ++ [b])).length = (pk l).length := by rw [hs, List.length_set]
  have c0 := hB.cell 0 rfl
  have c1 := hB.cell 1 rfl
  have f1 := hB.free 1
  have hk90 : (0 : Int) ≤ (l.length : Int) % 8 := by omega
  have hk91 : (l.length : Int) % 8 ≤ 8 := by omega
  have hk92 : ((l.length : Int) % 8 == 0) = false := by simp; omega
  have hk80 : (0 : Int) ≤ (l.length : Int) / 8 := by omega
  have hk81 : (l.length : Int) / 8 < ((pk l).length : Int) := by omega
  have hkn : ((l.length : Int) / 8).toNat = l.length / 8 := by omega
  generalize (pk l).getD (l.length / 8) 0 = pv at *
  have HF := Lib.hid (⟨hs, hp, hel, hpl2, hss⟩ : _ ∧ _ ∧ _ ∧ _ ∧ _)
  clear hs hp hel hpl2 hpl hss
  unfold bv at hcell
  cases b
  · go_enter Try.func41, Try.ntmps41
    go_wp2_with fail
    go_end0
    obtain ⟨hs, hp, hel, hpl2, hss⟩ := HF.out
    have e : pk (l ++ [false]) = pk l := by rw [hs]; simpa using hss
    refine ⟨rfl, _, c, ⟨?_, ?_⟩, tch_set (tch_refl _ _) (.inl (.inl rfl)), fun _ hk => .inl hk⟩
    · rw [e, hel]
      exact hB.set 1 (.int .i64 ((l.length : Int) + 1))
    · rw [e]
      exact hO.other (fun e => hne (by injection e)) _
  · have d0 := fun x => (Later.blk hB x).cell 0 rfl
    have d1 := fun x => (Later.blk hB x).cell 1 rfl
    have dc := fun x => Later.cell hcell x
    have df := fun (x : In (Later w)) => (hO.grown0 x.ok).free rfl (l.length / 8)
    have df1 := fun x => (Later.blk hB x).free 1
    go_enter Try.func41, Try.ntmps41
    go_wp2_with fail
    refine wp_region_in_tail 19 (Later w) (by kernel_rfl) (by kernel_rfl) (Later.start _) ?_
    simp only [List.take_succ_cons, List.take_zero, List.drop_succ_cons, List.drop_zero]
    repeat (go_big_quiet_step (rfl))
    refine wpQuiet_nil ?_
    rintro _ ⟨x, rfl⟩
    go_wp2_with fail
    go_end0
    obtain ⟨hs, hp, hel, hpl2, hss⟩ := HF.out
    have e : pk (l ++ [true]) = (pk l).set (l.length / 8) (pv + 2 ^ (l.length % 8)) := by rw [hs]; simp
    rw [or_bit _ _ (by omega) hp]
    refine ⟨rfl, _, c, ⟨?_, ?_⟩, tch_set (tch_set (tch_gb x.ok) (.inl (.inr rfl))) (.inl (.inl rfl)), fun _ hk => .inl hk⟩
    · rw [hpl2, hel]
      exact ((Later.blk hB x).other (b := gb) (i := l.length / 8) (v := bv (pv + 2 ^ (l.length % 8))) (Ne.symm hne)).set 1 (.int .i64 ((l.length : Int) + 1))
    · rw [hpl2, e, List.map_set]
      exact ((hO.grown0 x.ok).set (l.length / 8) (bv (pv + 2 ^ (l.length % 8)))).other (fun e => hne (by injection e)) _

set_option maxHeartbeats 1600000 in
theorem bit_new (g : Nat) (A : Option Addr) (c : Nat) (l : List Bool) (b : Bool) (w : World) (h : Wr w g A c l) (hl : l.length ≤ 1000000) (h8 : l.length % 8 = 0) :
    Calls Try.prog 41 #[.pointer (some ⟨g, 0, none⟩), .bool b] w fun e w' => e = .returned (.tuple #[]) ∧ Wst w g A (l ++ [b]) w' := by
  obtain ⟨hB, hO⟩ := h
  obtain ⟨it, hi, hz0, hz1, hz2⟩ := info_parts info5
  have hpl := pk_len l
  have hs := pk_snoc0 l b h8
  have hel : (l ++ [b]).length = l.length + 1 := by simp
  have hpl2 : (pk (l ++ [b])).length = (pk l).length + 1 := by rw [hs]; simp
  have hpe : l.length / 8 = (pk l).length := by omega
  have hby : ((pk l).length + 1) * 1 ≤ 140737488355328 := by omega
  have hone : ∀ u ∈ [Value.int .u8 0], u.oneCell' = true := by intro u hu; simp at hu; subst hu; rfl
  have c0 := hB.cell 0 rfl
  have c1 := hB.cell 1 rfl
  have hk90 : (l.length : Int) % 8 = 0 := by omega
  have hk80 : (l.length : Int) / 8 = ((pk l).length : Int) := by omega
  have HF := Lib.hid (⟨hs, hel, hpl2⟩ : _ ∧ _ ∧ _)
  clear hs hel hpl2 hpl hpe
  cases b
  · go_enter Try.func41, Try.ntmps41
    go_wp2_with (
      at_builtin
      refine wpList_app1 w rfl (.tmp 16) (.tmp 17) 24 rfl 0 5 Try.underlying24 hi hz0 hz1 hz2 rfl (by decide) A c (pk l).length ((pk l).map bv) rfl hO [.int .u8 0] 5 1 rfl rfl hone hby (by decide) (Nat.zero_le _) ?_
      intro gb c2 w2 hO2 hgr hloc _ hlt
      have hBg : Blk w2 g _ 26 := hB.grown hgr (Ne.symm (own_ne_blk hO hB (by decide)))
      have k1 := hBg.cell 1 rfl
      have k0 := hBg.cell 0 rfl
      have kf0 := hBg.free 0
      have kf1 := hBg.free 1
      have hne : gb ≠ g := fun e => own_ne_blk hO2 hBg (by decide) (by rw [e]; rfl))
    go_end0
    obtain ⟨hs, hel, hpl2⟩ := HF.out
    refine ⟨rfl, some ⟨gb, 0, none⟩, c2, ⟨?_, ?_⟩, tch_set (tch_set (tch_row hgr (fun k hk => .inr hk)) (.inl (.inl rfl))) (.inl (.inl rfl)), fun k hk => ?_⟩
    · rw [hpl2, hel]
      exact (hBg.set 0 (.slice (some ⟨gb, 0, none⟩) ((pk l).length + 1) c2)).set 1 (.int .i64 ((l.length : Int) + 1))
    · rw [hpl2, hs, List.map_append]
      exact (hO2.other (fun e => hne (by injection e)) _).other (fun e => hne (by injection e)) _
    · have e : k = gb := by simpa [blk] using hk.symm
      subst e
      exact hloc
  · go_enter Try.func41, Try.ntmps41
    go_wp2_with (
      at_builtin
      refine wpList_app1 w rfl (.tmp 16) (.tmp 17) 24 rfl 0 5 Try.underlying24 hi hz0 hz1 hz2 rfl (by decide) A c (pk l).length ((pk l).map bv) rfl hO [.int .u8 0] 5 1 rfl rfl hone hby (by decide) (Nat.zero_le _) ?_
      intro gb c2 w2 hO2 hgr hloc _ hlt
      have hBg : Blk w2 g _ 26 := hB.grown hgr (Ne.symm (own_ne_blk hO hB (by decide)))
      have k1 := hBg.cell 1 rfl
      have k0 := hBg.cell 0 rfl
      have kf0 := hBg.free 0
      have kf1 := hBg.free 1
      have hne : gb ≠ g := fun e => own_ne_blk hO2 hBg (by decide) (by rw [e]; rfl))
    have Bg3 : Blk (w2.setCell ⟨g, 0, none⟩ (.slice (some ⟨gb, 0, none⟩) ((pk l).length + 1) c2)) g #[.slice (some ⟨gb, 0, none⟩) ((pk l).length + 1) c2, .int .i64 (l.length : Int)] 26 := hBg.set 0 (.slice (some ⟨gb, 0, none⟩) ((pk l).length + 1) c2)
    have hO3 : Own (w2.setCell ⟨g, 0, none⟩ (.slice (some ⟨gb, 0, none⟩) ((pk l).length + 1) c2)) _ _ _ _ _ _ _ := hO2.other (p := ⟨g, 0, none⟩) (fun e => hne (by injection e)) (.slice (some ⟨gb, 0, none⟩) ((pk l).length + 1) c2)
    have ht3 : Tch (WrS g A) w (w2.setCell ⟨g, 0, none⟩ (.slice (some ⟨gb, 0, none⟩) ((pk l).length + 1) c2)) := tch_set (tch_row hgr (fun k hk => .inr hk)) (.inl (.inl rfl))
    have hcell := hO3.cell rfl (j := (pk l).length) (u := .int .u8 0) (by omega) (by simp)
    generalize w2.setCell ⟨g, 0, none⟩ (.slice (some ⟨gb, 0, none⟩) ((pk l).length + 1) c2) = w3 at *
    clear k0 k1 kf0 kf1 hBg hgr
    have d0 := fun x => (Later.blk Bg3 x).cell 0 rfl
    have d1 := fun x => (Later.blk Bg3 x).cell 1 rfl
    have dc := fun x => Later.cell hcell x
    have df := fun (x : In (Later w3)) => (hO3.grown0 x.ok).free rfl ((pk l).length)
    have df1 := fun x => (Later.blk Bg3 x).free 1
    have hk81 : ((pk l).length : Int) < ((pk l).length + 1 : Nat) := by omega
    refine wp_region_in_tail 19 (Later w3) (by kernel_rfl) (by kernel_rfl) (Later.start _) ?_
    simp only [List.take_succ_cons, List.take_zero, List.drop_succ_cons, List.drop_zero]
    repeat (go_big_quiet_step (rfl))
    refine wpQuiet_nil ?_
    rintro _ ⟨x, rfl⟩
    go_wp2_with fail
    go_end0
    obtain ⟨hs, hel, hpl2⟩ := HF.out
    have hor : bits BinOp.or IntKind.u8 0 1 = 1 := by decide
    rw [hor]
    refine ⟨rfl, some ⟨gb, 0, none⟩, c2, ⟨?_, ?_⟩, tch_sub ht3 (tch_set (S := fun k => k = gb ∨ k = g) (tch_set (tch_gb x.ok) (.inl (.inl rfl))) (.inl (.inr rfl))) ?_, fun k hk => ?_⟩
    · rw [hpl2, hel]
      exact ((Later.blk Bg3 x).other (b := gb) (i := (pk l).length) (v := .int .u8 1) (Ne.symm hne)).set 1 (.int .i64 ((l.length : Int) + 1))
    · rw [hpl2, hs, List.map_append]
      have h1 := ((hO3.grown0 x.ok).set (pk l).length (.int .u8 1)).other (p := ⟨g, 1, none⟩) (fun e => hne (by injection e)) (.int .i64 ((l.length : Int) + 1))
      have e : (List.map bv (pk l) ++ [Value.int .u8 0]).set (pk l).length (.int .u8 1) = List.map bv (pk l) ++ List.map bv [true.toNat] := by
        rw [List.set_append_right _ _ (by simp)]
        simp [bv]
      rw [e] at h1
      exact h1
    · intro k hk hT
      rcases hT with rfl | rfl
      · rcases hloc with h | h
        · exact .inr h
        · omega
      · exact .inl rfl
    · have e : k = gb := by simpa [blk] using hk.symm
      subst e
      exact hloc

/-- A bit is put. -/
theorem bit_any (g : Nat) (A : Option Addr) (c : Nat) (l : List Bool) (b : Bool) (w : World) (h : Wr w g A c l) (hl : l.length ≤ 1000000) :
    Calls Try.prog 41 #[.pointer (some ⟨g, 0, none⟩), .bool b] w fun e w' => e = .returned (.tuple #[]) ∧ Wst w g A (l ++ [b]) w' := by
  by_cases h8 : l.length % 8 = 0
  · exact bit_new g A c l b w h hl h8
  · exact bit_old g A c l b w h hl h8
end Go.Proofs.Ytlohplopomfjhaa
