/- The walk of package lz's Pack. -/
import Derived.Test.YtlohplopomfjhaaVM
namespace Go.Proofs.Ytlohplopomfjhaa
set_option linter.unusedVariables false
set_option linter.unusedSimpArgs false
open Go.RowKit Go.Own Go.Bits Go.Lz

theorem wst_below {w w2 : World} {g : Nat} {A : Option Addr} {l : List Bool} {base : Nat} {w0 : World} (hb : Below base w0 w) (hbw : base ≤ w.heap.size) (hgb : base ≤ g) (hAb : ∀ j, blk A = some j → base ≤ j) (h : Wst w g A l w2) :
    ∃ A2 c2, Wr w2 g A2 c2 l ∧ Below base w0 w2 ∧ (∀ j, blk A2 = some j → base ≤ j) := by
  obtain ⟨A2, c2, hW, ht, hn⟩ := h
  refine ⟨A2, c2, hW, below_tch hb hbw ht (fun j hj => by rcases hj with e | e; exact (by omega); exact hAb j e), fun j hj => ?_⟩
  rcases hn j hj with h | h
  · exact hAb j h
  · omega

/-- A row of tokens stands while a writer writes. -/
theorem own_wst {w w2 : World} {g : Nat} {A : Option Addr} {c : Nat} {l l2 : List Bool} {bs e s n ct : Nat} {At : Option Addr} {xs : List Value} (hO : Own w bs e s At ct n xs) (h26 : e ≠ 26) (h5 : e ≠ 5) (hW : Wr w g A c l) (h : Wst w g A l2 w2) : Own w2 bs e s At ct n xs := by
  obtain ⟨A2, c2, hW2, ht, hn⟩ := h
  refine Own.tch hO ht (fun j hj hS => ?_)
  rcases hS with e | e
  · exact own_ne_blk hO hW.1 h26 (by rw [hj, e])
  · exact own_ne_own hO hW.2 h5 hj e

theorem blk_wst {w w2 : World} {g : Nat} {A : Option Addr} {c : Nat} {l l2 : List Bool} {j t : Nat} {cs : Array Value} (hB : Blk w j cs t) (h26 : t ≠ 26) (h5 : t ≠ 5) (hW : Wr w g A c l) (h : Wst w g A l2 w2) : Blk w2 j cs t := by
  obtain ⟨A2, c2, hW2, ht, hn⟩ := h
  refine hB.tch ht (fun hS => ?_)
  rcases hS with e | e
  · exact hB.ne_type hW.1 h26 e
  · exact own_ne_blk hW.2 hB (Ne.symm h5) e

theorem toks_len (b : List Nat) (f p : Nat) : (toks b f p).length ≤ f := by
  induction f generalizing p with
  | zero => simp [toks]
  | succ f ih =>
    rw [toks]
    split
    · have := ih (p + stepAt b p)
      simp
      omega
    · simp

set_option maxHeartbeats 6400000 in
set_option maxRecDepth 100000 in
theorem pack_any (b : List Nat) (S : Option Addr) (cs B : Nat) (w : World) (hS : Rd w B 1 S b.length (b.map bv)) (hB : B ≤ w.heap.size) (hbl : b.length ≤ 600) (hb : ∀ v ∈ b, v < 256) :
    Calls Try.prog 38 #[.slice S b.length cs] w (GivesB w (pk (packBits (tokens b)), 0)) := by
  have hnew := wr_new w
  have hg0 := gb_alloc (gb_refl w none) (.cells #[.slice none 0 0, .int .i64 0] 26)
  have h32 := tokens_any b S cs B _ (hS.later hg0 hB) (by simp; omega) (by omega) hb
  have hok := toks_ok b hb b.length 0
  have hTl := toks_len b b.length 0
  have htd : tokens b = toks b b.length 0 := rfl
  rw [← htd] at hok hTl
  clear htd
  have hpl := packBits_len (tokens b) hok
  generalize tokens b = T at *
  go_enter Try.func38, Try.ntmps38
  go_wp2_with fail
  refine h32.mono ?_
  rintro e w1 ⟨At, ct, rfl, hO1, hg1⟩
  have hW1 := hnew.later hg1
  have hg01 := gb_trans hg0 hg1
  clear h32 hnew
  go_wp2_with fail
  go_loopw [15] (fun v15 wi => ∃ (k : Nat) (A : Option Addr) (c : Nat), v15 = .int .i64 k ∧ k ≤ T.length ∧ Wr wi w.heap.size A c ((T.take k).flatMap tokBits) ∧ Own wi w.heap.size 56 3 At ct T.length (T.flatMap tkC) ∧ Below w.heap.size w wi ∧ ∀ j, blk A = some j → w.heap.size ≤ j)
    (fun v15 _ => T.length - (intOf v15).toNat)
  case atStart => exact ⟨0, none, 0, rfl, by omega, hW1, hO1.mono (by simp), below_gb hg01, by simp [blk]⟩
  case round =>
    obtain ⟨k, A, c, rfl, hk, hW, hO, hbel, hAb⟩ := hrel
    have hfl := flat_len (T.take k) (fun t ht => hok t (List.mem_of_mem_take ht))
    have htk2 : (T.take k).length ≤ 600 := by simp; omega
    by_cases hkl : k < T.length
    · obtain ⟨sg, off, rfl, hsg, p0, p1, p2⟩ := rd_tok hO.rd hkl
      have hki : (k : Int) < (T.length : Int) := by omega
      have hts : T.take (k + 1) = T.take k ++ [T[k]] := List.take_succ_eq_append_getElem hkl
      have hokk := hok _ (List.getElem_mem hkl)
      have HTS := Lib.hid hts
      clear hts hok
      generalize T[k] = t at *
      obtain ⟨tb, tf, tl⟩ := t
      dsimp only at p0 p1 p2
      have hga := gb_alloc (gb_refl wr none) (.cells #[.int .u8 (tb : Int), .int .i64 tf, .int .i64 tl] 56)
      have hWa := hW.later hga
      have hOa := hO.grown0 hga
      have hba := hbel.alloc hbel.size (.cells #[.int .u8 (tb : Int), .int .i64 tf, .int .i64 tl] 56)
      have hBa := Blk.new wr #[.int .u8 (tb : Int), .int .i64 tf, .int .i64 tl] 56
      generalize hl0 : (T.take k).flatMap tokBits = l0 at *
      have HL0 := Lib.hid hl0
      clear hl0
      have hll : l0.length ≤ 31000 := by omega
      obtain ⟨hb256, hcase⟩ := hokk
      dsimp only at hb256 hcase
      have hbit := fun bb => bit_any w.heap.size A c l0 bb _ hWa (by omega)
      rcases hcase with ⟨rfl, rfl⟩ | ⟨rfl, h1, h2, h3, h4⟩
      · go_wp2_with fail
        refine (hbit false).mono ?_
        rintro e w2 ⟨rfl, hst⟩
        obtain ⟨A2, c2, hW2, hb2, hAb2⟩ := wst_below hba hba.size (Nat.le_refl _) hAb hst
        have hB2 := blk_wst hBa (by decide) (by decide) hWa hst
        have hO2 := own_wst hOa (by decide) (by decide) hWa hst
        have c0 := hB2.cell 0 rfl
        have c1 := hB2.cell 1 rfl
        go_wp2_with fail
        refine (bits_any w.heap.size A2 c2 (l0 ++ [false]) tb 8 _ hW2 (by simp; omega) (by omega)).mono ?_
        rintro e w3 ⟨rfl, hst3⟩
        obtain ⟨A3, c3, hW3, hb3, hAb3⟩ := wst_below hb2 hb2.size (Nat.le_refl _) hAb2 hst3
        have hO3 := own_wst hO2 (by decide) (by decide) hW2 hst3
        go_wp2_with fail
        go_roundw
        case rel =>
          refine ⟨k + 1, A3, c3, by go_num, by omega, ?_, hO3, hb3, hAb3⟩
          have e : (T.take (k + 1)).flatMap tokBits = l0 ++ [false] ++ bitsN tb (nb 8) := by
            rw [HTS.out, List.flatMap_append, HL0.out]
            simp [tokBits, show nb 8 = 8 by decide]
          rw [e]
          exact hW3
        case measure => first | (simp [intOf]; done) | (simp [intOf]; omega)
      · have hf1 : (tf != 0) = true := by simp; omega
        have hf2 : (tf == 0) = false := by simp; omega
        obtain ⟨fn, hfn⟩ : ∃ fn : Nat, tf = fn := ⟨tf.toNat, by omega⟩
        obtain ⟨ln, hln⟩ : ∃ ln : Nat, tl = ln := ⟨tl.toNat, by omega⟩
        subst hfn
        subst hln
        have hw1 : (fn : Int) % 18446744073709551616 = fn := by omega
        have hw2 : (ln : Int) - 3 + 1 = ((ln - 2 : Nat) : Int) := by omega
        go_wp2_with fail
        refine (hbit true).mono ?_
        rintro e w2 ⟨rfl, hst⟩
        obtain ⟨A2, c2, hW2, hb2, hAb2⟩ := wst_below hba hba.size (Nat.le_refl _) hAb hst
        have hB2 := blk_wst hBa (by decide) (by decide) hWa hst
        have hO2 := own_wst hOa (by decide) (by decide) hWa hst
        have c1 := hB2.cell 1 rfl
        go_wp2_with fail
        refine (gamma_any w.heap.size A2 c2 (l0 ++ [true]) fn _ hW2 (by simp; omega) (by omega)).mono ?_
        rintro e w3 ⟨rfl, hst3⟩
        obtain ⟨A3, c3, hW3, hb3, hAb3⟩ := wst_below hb2 hb2.size (Nat.le_refl _) hAb2 hst3
        have hB3 := blk_wst hB2 (by decide) (by decide) hW2 hst3
        have hO3 := own_wst hO2 (by decide) (by decide) hW2 hst3
        have c2' := hB3.cell 2 rfl
        have hg25 := gam_len25 fn (by omega)
        go_wp2_with fail
        refine (gamma_any w.heap.size A3 c3 (l0 ++ [true] ++ gam fn) (ln - 2) _ hW3 (by simp; omega) (by omega)).mono ?_
        rintro e w4 ⟨rfl, hst4⟩
        obtain ⟨A4, c4, hW4, hb4, hAb4⟩ := wst_below hb3 hb3.size (Nat.le_refl _) hAb3 hst4
        have hO4 := own_wst hO3 (by decide) (by decide) hW3 hst4
        go_wp2_with fail
        go_roundw
        case rel =>
          refine ⟨k + 1, A4, c4, by go_num, by omega, ?_, hO4, hb4, hAb4⟩
          have e : (T.take (k + 1)).flatMap tokBits = l0 ++ [true] ++ gam fn ++ gam (ln - 2) := by
            rw [HTS.out, List.flatMap_append, HL0.out]
            simp [tokBits]
            omega
          rw [e]
          exact hW4
        case measure => first | (simp [intOf]; done) | (simp [intOf]; omega)
    · have hk2 : k = T.length := by omega
      subst hk2
      rw [List.take_length] at hW hfl
      have HPL := Lib.hid hpl
      have hpe : packBits T = T.flatMap tokBits ++ [true] ++ gam 4097 := by simp [packBits]
      have HPE := Lib.hid hpe
      rw [hpe] at hpl
      clear hpe
      go_wp2_with fail
      refine (bit_any w.heap.size A c (T.flatMap tokBits) true _ hW (by omega)).mono ?_
      rintro e w2 ⟨rfl, hst⟩
      obtain ⟨A2, c2, hW2, hb2, hAb2⟩ := wst_below hbel hbel.size (Nat.le_refl _) hAb hst
      go_wp2_with fail
      refine (gamma_any w.heap.size A2 c2 (T.flatMap tokBits ++ [true]) 4097 _ hW2 (by rw [List.length_append, List.length_singleton]; omega) (by omega)).mono ?_
      rintro e w3 ⟨rfl, hst3⟩
      obtain ⟨A3, c3, hW3, hb3, hAb3⟩ := wst_below hb2 hb2.size (Nat.le_refl _) hAb2 hst3
      go_wp2_with fail
      refine (bytes_any w.heap.size A3 c3 _ _ hW3 (by omega)).mono ?_
      rintro e w4 ⟨A4, c4, rfl, hO4, hg4⟩
      go_wp2_with fail
      go_ret2
      rw [← HPE.out] at hO4
      exact ⟨A4, c4, rfl, hO4.mono hb3.size, gb_below (below_step0 hb3 hb3.size hg4)⟩
end Go.Proofs.Ytlohplopomfjhaa
