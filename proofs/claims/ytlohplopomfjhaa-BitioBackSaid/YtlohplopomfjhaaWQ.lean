/- The walk of the law BitioBack. -/
import Derived.Test.YtlohplopomfjhaaWP
import Derived.Test.YtlohplopomfjhaaSC
namespace Go.Proofs.Ytlohplopomfjhaa
set_option linter.unusedVariables false
set_option linter.unusedSimpArgs false
open Go.RowKit Go.Own Go.Bits

/-- The bits of the first acts, one behind the other. -/
def rowOf (K : Nat → Int) (X : Nat → Nat) (N : Nat → Int) : Nat → List Bool
  | 0 => []
  | k + 1 => rowOf K X N k ++ putB (K k) (X k) (N k)

/-- The bits of the acts from i on, so many. -/
def rowFrom (K : Nat → Int) (X : Nat → Nat) (N : Nat → Int) (i : Nat) : Nat → List Bool
  | 0 => []
  | d + 1 => putB (K i) (X i) (N i) ++ rowFrom K X N (i + 1) d

theorem rowFrom_snoc (K : Nat → Int) (X : Nat → Nat) (N : Nat → Int) (d i : Nat) : rowFrom K X N i (d + 1) = rowFrom K X N i d ++ putB (K (i + d)) (X (i + d)) (N (i + d)) := by
  induction d generalizing i with
  | zero => simp [rowFrom]
  | succ d ih =>
    rw [rowFrom, ih (i + 1), rowFrom, List.append_assoc]
    have e : i + 1 + d = i + (d + 1) := by omega
    rw [e]

theorem rowOf_from (K : Nat → Int) (X : Nat → Nat) (N : Nat → Int) (m : Nat) : rowOf K X N m = rowFrom K X N 0 m := by
  induction m with
  | zero => rfl
  | succ m ih => rw [rowOf, rowFrom_snoc, ih, Nat.zero_add]

/-- What an act should tell. -/
def wantOf (K : Int) (X : Nat) (N : Int) : Nat := if K = 3 then X else if K = 1 ∨ K = 2 then X % 2 ^ nb N else X % 2

/-- What was put is taken again. -/
theorem tkS_back (K N : Int) (X : Nat) (hx : X < 18446744073709551616) (h3 : K = 3 → X ≠ 0) (R : List Bool) : tkS K N (putB K X N ++ R) false = (wantOf K X N, R, false) := by
  unfold tkS putB wantOf
  by_cases h1 : K = 1
  · subst h1
    rw [if_pos rfl, if_pos rfl, if_neg (by decide), if_pos (by decide), val_front, drop_front]
    have : ¬ (bitsN X (nb N) ++ R).length < nb N := by simp [bitsN_len]
    simp [bitsN_len]
  by_cases h2 : K = 2
  · subst h2
    simp [tv_back, drop_back, bitsN_len]
  by_cases h3' : K = 3
  · subst h3'
    rw [if_neg (by decide), if_neg (by decide), if_pos rfl, if_neg (by decide), if_neg (by decide), if_pos rfl, if_pos rfl, gamS_back X (Nat.pos_of_ne_zero (h3 rfl)) hx]
  · rw [if_neg h1, if_neg h2, if_neg h3', if_neg h1, if_neg h2, if_neg h3', if_neg h3', if_neg (by intro h; rcases h with h | h <;> contradiction)]
    have e : bitsN X 1 = [X % 2 == 1] := rfl
    rw [e]
    have e2 : (X % 2 == 1).toNat = X % 2 := by
      rcases Nat.mod_two_eq_zero_or_one X with h | h <;> simp [h]
    simp [e2]

theorem putB_skip (N : Int) : putB 3 0 N = [] := by
  unfold putB
  rw [if_neg (by decide), if_neg (by decide), if_pos rfl, gam_zero]

set_option maxHeartbeats 6400000 in
set_option maxRecDepth 100000 in
theorem law_back (A1 : Option Addr) (len cap : Nat) (K : Nat → Int) (X : Nat → Nat) (N : Nat → Int) (w : World) (hA : Acts w A1 len K X N) :
    Calls Try.prog 5 #[.slice A1 len cap] w fun e w' => e = .returned (.bool true) ∧ w.grownBy w' none := by
  have hlen := hA.1
  have hnew := wr_new w
  go_enter Try.func5, Try.ntmps5
  go_wp2_with fail
  go_loopw [4] (fun v4 wi => ∃ (k : Nat) (A : Option Addr) (c : Nat), v4 = .int .i64 k ∧ k ≤ len ∧ k ≤ 40 ∧ (rowOf K X N k).length ≤ 127 * k ∧ Wr wi w.heap.size A c (rowOf K X N k) ∧ Below w.heap.size w wi ∧ ∀ j, blk A = some j → w.heap.size ≤ j)
    (fun v4 _ => len - (intOf v4).toNat)
  case atStart => exact ⟨0, none, 0, rfl, Nat.zero_le _, by omega, by simp [rowOf], hnew, (Below.refl _ _).alloc (Nat.le_refl _) _, by simp [blk]⟩
  case round =>
    obtain ⟨k, A, c, rfl, hk, hk40, hl, hW, hbel, hAw⟩ := hrel
    by_cases c1 : k < len
    · by_cases c2 : k < 40
      · obtain ⟨ga, off, rfl, hga, hc⟩ := hA.2 (by omega)
        obtain ⟨q0, q1, q2, hX⟩ := hc k c1
        have d0 := (hbel.cell (p := ⟨ga, off + k * 3, none⟩) hga).trans q0
        have d1 := (hbel.cell (p := ⟨ga, off + k * 3 + 1, none⟩) hga).trans q1
        have d2 := (hbel.cell (p := ⟨ga, off + k * 3 + 2, none⟩) hga).trans q2
        have hpl := putB_len (K k) (X k) (N k) hX
        have hro : rowOf K X N (k + 1) = rowOf K X N k ++ putB (K k) (X k) (N k) := rfl
        have hpu := put_any _ A c (rowOf K X N k) (K k) (X k) (N k) wr hW (by omega) hX
        rw [← hro] at hpu
        have hl2 : (rowOf K X N (k + 1)).length ≤ 127 * (k + 1) := by rw [hro, List.length_append]; omega
        clear hro
        go_wp2_with fail
        refine hpu.mono ?_
        rintro e w2 ⟨rfl, A2, c2', hW2, ht2, hn2⟩
        have hb2 := below_tch hbel hbel.size ht2 (fun j hj => by rcases hj with e | e; exact (by omega); exact hAw j e)
        go_wp2_with fail
        go_roundw
        case rel =>
          refine ⟨k + 1, A2, c2', by go_num, by omega, by omega, hl2, hW2, hb2, fun j hj => ?_⟩
          rcases hn2 j hj with h | h
          · exact hAw j h
          · have := hbel.size; omega
        case measure => first | (simp [intOf]; done) | (simp [intOf]; omega)
      · have c2' : decide ((k : Int) < 40) = false := by simp; omega
        have hpl := pk_len (rowOf K X N k)
        have hby := bytes_any _ A c _ wr hW (by omega)
        have hrl : (pk (rowOf K X N k)).length ≤ 100000 := by omega
        obtain ⟨p, hofb, hp8⟩ := ofB_pk_app (rowOf K X N k)
        have hmem : ∀ v ∈ pk (rowOf K X N k), v < 256 := fun v hv => pk_mem hv
        have hofb' : ofB (pk (rowOf K X N k)) = rowFrom K X N 0 k ++ p := by rw [hofb, ← rowOf_from]
        have HB := Lib.hid hofb'
        clear hofb hofb' hpl hl
        go_wp2_with fail
        refine hby.mono ?_
        rintro e w3 ⟨A3, c3, rfl, hO3, hg3⟩
        go_wp2_with fail
        refine (read_any (pk (rowOf K X N k)) A3 c3 _ w3 (Nat.le_refl _) hO3.rd hmem hrl).mono ?_
        rintro e w4 ⟨g, rfl, hgl, hg4, hR4⟩
        rw [HB.out] at hR4
        have hb4 := below_step0 (below_step0 hbel hbel.size hg3) (below_step0 hbel hbel.size hg3).size hg4
        have hgw : w.heap.size ≤ g := Nat.le_trans (below_step0 hbel hbel.size hg3).size hgl
        clear hby hmem hrl hO3 hg3 hg4 hgl hW hbel hAw HB
        go_wp2_with fail
        go_loopw [6] (fun v6 wi => ∃ (j : Nat), v6 = .int .i64 j ∧ j ≤ k ∧ RdS wi g (rowFrom K X N j (k - j) ++ p) false ∧ Below w.heap.size w wi)
          (fun v6 _ => k - (intOf v6).toNat)
        case atStart => exact ⟨0, rfl, Nat.zero_le _, hR4, hb4⟩
        case round =>
          obtain ⟨j, rfl, hj, hR, hbel⟩ := hrel
          clear hR4 hb4
          by_cases hjk : j < k
          · obtain ⟨ga, off, rfl, hga, hc⟩ := hA.2 (by omega)
            obtain ⟨q0, q1, q2, hX⟩ := hc j (by omega)
            have d0 := (hbel.cell (p := ⟨ga, off + j * 3, none⟩) hga).trans q0
            have d1 := (hbel.cell (p := ⟨ga, off + j * 3 + 1, none⟩) hga).trans q1
            have d2 := (hbel.cell (p := ⟨ga, off + j * 3 + 2, none⟩) hga).trans q2
            have hX2 : (X j : Int) ≤ 18446744073709551615 := by omega
            have erow : rowFrom K X N j (k - j) ++ p = putB (K j) (X j) (N j) ++ (rowFrom K X N (j + 1) (k - (j + 1)) ++ p) := by
              have e : k - j = (k - (j + 1)) + 1 := by omega
              rw [e, rowFrom, List.append_assoc]
            rw [erow] at hR
            clear erow
            have hj1 : j < len := by omega
            have hj2 : j < 40 := by omega
            have hbs := hbel.size
            obtain ⟨R, hRe⟩ : ∃ R, R = rowFrom K X N (j + 1) (k - (j + 1)) ++ p := ⟨_, rfl⟩
            rw [← hRe] at hR
            by_cases hsk : K j = 3 ∧ X j = 0
            · obtain ⟨s1, s2⟩ := hsk
              rw [s1] at q0 d0
              rw [s2] at q1 d1
              rw [s1, s2, putB_skip, List.nil_append] at hR
              go_wp2_with fail
              go_roundw
              case rel => exact ⟨j + 1, by go_num, by omega, by rw [← hRe]; exact hR.later (gb_alloc (gb_refl _ _) _), hbel.alloc hbs _⟩
              case measure => first | (simp [intOf]; done) | (simp [intOf]; omega)
            · have htk := tkS_back (K j) (N j) (X j) hX (fun h3 h0 => hsk ⟨h3, h0⟩) R
              have hsk2 : K j = 3 → X j ≠ 0 := fun h3 h0 => hsk ⟨h3, h0⟩
              clear hsk
              generalize K j = κ at *
              generalize X j = x at *
              generalize N j = n at *
              by_cases h3 : κ = 3
              · subst h3
                have hx0 := hsk2 rfl
                have hx1 : ((x : Int) == 0) = false := by simp; omega
                have hwt : wantOf 3 x n = x := by unfold wantOf; rw [if_pos rfl]
                rw [hwt] at htk
                have hta := fun W (h : RdS W g (putB 3 x n ++ R) false) => take_any g (putB 3 x n ++ R) false 3 x n W h hX
                simp only [htk] at hta
                generalize putB 3 x n ++ R = L at *
                clear htk
                go_wp2_with fail
                refine (hta _ (hR.later (gb_alloc (gb_refl _ none) _))).mono ?_
                rintro e w8 ⟨rfl, hg8, hR8⟩
                go_wp2_with fail
                refine (rtorn_any g _ _ _ hR8).mono ?_
                rintro e w9 ⟨rfl, rfl⟩
                go_wp2_with fail
                go_roundw
                case rel => exact ⟨j + 1, by go_num, by omega, by rw [← hRe]; exact hR8, below_step (hbel.alloc hbs _) (hbel.alloc hbs _).size hg8 hgw⟩
                case measure => first | (simp [intOf]; done) | (simp [intOf]; omega)
              · have b3 : (κ == 3) = false := by simpa using h3
                by_cases hlo : κ < 1
                · have hwt : wantOf κ x n = x % 2 := by
                    unfold wantOf
                    rw [if_neg h3, if_neg (by omega)]
                  rw [hwt] at htk
                  clear h3 hwt hsk2
                  have hta := fun W (h : RdS W g (putB κ x n ++ R) false) => take_any g (putB κ x n ++ R) false κ x n W h hX
                  simp only [htk] at hta
                  generalize putB κ x n ++ R = L at *
                  clear htk
                  go_wp2_with fail
                  refine (hta _ (hR.later (gb_alloc (gb_refl _ none) _))).mono ?_
                  rintro e w8 ⟨rfl, hg8, hR8⟩
                  go_wp2_with fail
                  refine (rtorn_any g _ _ _ hR8).mono ?_
                  rintro e w9 ⟨rfl, rfl⟩
                  go_wp2_with fail
                  go_roundw
                  case rel => exact ⟨j + 1, by go_num, by omega, by rw [← hRe]; exact hR8, below_step (hbel.alloc hbs _) (hbel.alloc hbs _).size hg8 hgw⟩
                  case measure => first | (simp [intOf]; done) | (simp [intOf]; omega)
                · by_cases hhi : 3 < κ
                  · have hwt : wantOf κ x n = x % 2 := by
                      unfold wantOf
                      rw [if_neg h3, if_neg (by omega)]
                    rw [hwt] at htk
                    clear h3 hwt hsk2
                    have hta := fun W (h : RdS W g (putB κ x n ++ R) false) => take_any g (putB κ x n ++ R) false κ x n W h hX
                    simp only [htk] at hta
                    generalize putB κ x n ++ R = L at *
                    clear htk
                    go_wp2_with fail
                    refine (hta _ (hR.later (gb_alloc (gb_refl _ none) _))).mono ?_
                    rintro e w8 ⟨rfl, hg8, hR8⟩
                    go_wp2_with fail
                    refine (rtorn_any g _ _ _ hR8).mono ?_
                    rintro e w9 ⟨rfl, rfl⟩
                    go_wp2_with fail
                    go_roundw
                    case rel => exact ⟨j + 1, by go_num, by omega, by rw [← hRe]; exact hR8, below_step (hbel.alloc hbs _) (hbel.alloc hbs _).size hg8 hgw⟩
                    case measure => first | (simp [intOf]; done) | (simp [intOf]; omega)
                  · have hwt : wantOf κ x n = x % 2 ^ nb n := by
                      unfold wantOf
                      rw [if_neg h3, if_pos (by omega)]
                    rw [hwt] at htk
                    have hvf := val_front x (nb n) []
                    rw [List.append_nil] at hvf
                    have hrb : ∀ W, Calls Try.prog 30 #[.int .u64 (x : Nat), .int .i64 n] W (Gives W 4 1 (bitsN x (nb n)).length ((bitsN x (nb n)).map .bool)) := fun W => by rw [bitsN_len]; exact rbits_any x n W hX
                    have htb := fun W g2 (h : TkS W g2 (bitsN x (nb n)) false) => tbits_any g2 (bitsN x (nb n)) false W n h
                    simp only [hvf] at htb
                    have hta := fun W (h : RdS W g (putB κ x n ++ R) false) => take_any g (putB κ x n ++ R) false κ x n W h hX
                    simp only [htk] at hta
                    have hlo2 : ¬ ((κ : Int) < 1) := hlo
                    have hhi2 : κ < 3 := by omega
                    generalize putB κ x n ++ R = L at *
                    generalize bitsN x (nb n) = Lb at *
                    generalize x % 2 ^ nb n = V at *
                    clear hwt htk hsk2 h3 hvf
                    go_wp2_with fail
                    refine (hrb _).mono ?_
                    rintro e w5 ⟨A5, c5, rfl, hO5, hg5⟩
                    have hB5 := new_after hg5
                    have hT6 := TkS.new hO5
                    have hB6 := hB5.alloc (.cells #[.slice A5 Lb.length c5, .bool false] 45)
                    have z2 := hB6.cell 2 rfl
                    have hlt5 := hg5.size
                    have hlt6 : wr.heap.size < w5.heap.size := by simp at hlt5; omega
                    have hR6 := ((hR.later (gb_alloc (gb_refl _ none) _)).later hg5).later (gb_alloc (gb_refl _ none) (.cells #[.slice A5 Lb.length c5, .bool false] 45))
                    go_wp2_with fail
                    refine (htb _ _ hT6).mono ?_
                    rintro e w7 ⟨rfl, hg7, _⟩
                    have hB7 := hB6.grown hg7 (by simp; omega)
                    have y0 := hB7.cell 0 rfl
                    have y1 := hB7.cell 1 rfl
                    have y2 := hB7.cell 2 rfl
                    have hR7 := hR6.beside hT6 hg7
                    have hb7 := below_step (below_step0 (below_step0 (hbel.alloc hbs _) (hbel.alloc hbs _).size hg5) (below_step0 (hbel.alloc hbs _) (hbel.alloc hbs _).size hg5).size (gb_alloc (gb_refl _ none) _)) (below_step0 (below_step0 (hbel.alloc hbs _) (hbel.alloc hbs _).size hg5) (below_step0 (hbel.alloc hbs _) (hbel.alloc hbs _).size hg5).size (gb_alloc (gb_refl _ none) _)).size hg7 (by have := hbel.size; omega)
                    go_wp2_with fail
                    refine (hta _ hR7).mono ?_
                    rintro e w8 ⟨rfl, hg8, hR8⟩
                    go_wp2_with fail
                    refine (rtorn_any g _ _ _ hR8).mono ?_
                    rintro e w9 ⟨rfl, rfl⟩
                    go_wp2_with fail
                    go_roundw
                    case rel => exact ⟨j + 1, by go_num, by omega, by rw [← hRe]; exact hR8, below_step hb7 hb7.size hg8 hgw⟩
                    case measure => first | (simp [intOf]; done) | (simp [intOf]; omega)
          · have hjk2 : j = k := by omega
            subst hjk2
            rw [Nat.sub_self] at hR
            have hpe : rowFrom K X N j 0 ++ p = p := rfl
            rw [hpe] at hR
            have hpi : (p.length : Int) < 8 := by omega
            go_wp2_with fail
            refine (rleft_any g p false _ hR).mono ?_
            rintro e w5 ⟨rfl, hg5⟩
            go_wp2_with fail
            refine (awake_any _).mono ?_
            rintro e w6 ⟨rfl, hg6⟩
            go_wp2_with fail
            go_ret
            exact ⟨rfl, gb_below (below_step0 hbel hbel.size (gb_trans hg5 hg6))⟩
    · skip
      have hpl := pk_len (rowOf K X N k)
      have hby := bytes_any _ A c _ wr hW (by omega)
      have hrl : (pk (rowOf K X N k)).length ≤ 100000 := by omega
      obtain ⟨p, hofb, hp8⟩ := ofB_pk_app (rowOf K X N k)
      have hmem : ∀ v ∈ pk (rowOf K X N k), v < 256 := fun v hv => pk_mem hv
      have hofb' : ofB (pk (rowOf K X N k)) = rowFrom K X N 0 k ++ p := by rw [hofb, ← rowOf_from]
      have HB := Lib.hid hofb'
      clear hofb hofb' hpl hl
      go_wp2_with fail
      refine hby.mono ?_
      rintro e w3 ⟨A3, c3, rfl, hO3, hg3⟩
      go_wp2_with fail
      refine (read_any (pk (rowOf K X N k)) A3 c3 _ w3 (Nat.le_refl _) hO3.rd hmem hrl).mono ?_
      rintro e w4 ⟨g, rfl, hgl, hg4, hR4⟩
      rw [HB.out] at hR4
      have hb4 := below_step0 (below_step0 hbel hbel.size hg3) (below_step0 hbel hbel.size hg3).size hg4
      have hgw : w.heap.size ≤ g := Nat.le_trans (below_step0 hbel hbel.size hg3).size hgl
      clear hby hmem hrl hO3 hg3 hg4 hgl hW hbel hAw HB
      go_wp2_with fail
      go_loopw [6] (fun v6 wi => ∃ (j : Nat), v6 = .int .i64 j ∧ j ≤ k ∧ RdS wi g (rowFrom K X N j (k - j) ++ p) false ∧ Below w.heap.size w wi)
        (fun v6 _ => k - (intOf v6).toNat)
      case atStart => exact ⟨0, rfl, Nat.zero_le _, hR4, hb4⟩
      case round =>
        obtain ⟨j, rfl, hj, hR, hbel⟩ := hrel
        clear hR4 hb4
        by_cases hjk : j < k
        · obtain ⟨ga, off, rfl, hga, hc⟩ := hA.2 (by omega)
          obtain ⟨q0, q1, q2, hX⟩ := hc j (by omega)
          have d0 := (hbel.cell (p := ⟨ga, off + j * 3, none⟩) hga).trans q0
          have d1 := (hbel.cell (p := ⟨ga, off + j * 3 + 1, none⟩) hga).trans q1
          have d2 := (hbel.cell (p := ⟨ga, off + j * 3 + 2, none⟩) hga).trans q2
          have hX2 : (X j : Int) ≤ 18446744073709551615 := by omega
          have erow : rowFrom K X N j (k - j) ++ p = putB (K j) (X j) (N j) ++ (rowFrom K X N (j + 1) (k - (j + 1)) ++ p) := by
            have e : k - j = (k - (j + 1)) + 1 := by omega
            rw [e, rowFrom, List.append_assoc]
          rw [erow] at hR
          clear erow
          have hj1 : j < len := by omega
          have hj2 : j < 40 := by omega
          have hbs := hbel.size
          obtain ⟨R, hRe⟩ : ∃ R, R = rowFrom K X N (j + 1) (k - (j + 1)) ++ p := ⟨_, rfl⟩
          rw [← hRe] at hR
          by_cases hsk : K j = 3 ∧ X j = 0
          · obtain ⟨s1, s2⟩ := hsk
            rw [s1] at q0 d0
            rw [s2] at q1 d1
            rw [s1, s2, putB_skip, List.nil_append] at hR
            go_wp2_with fail
            go_roundw
            case rel => exact ⟨j + 1, by go_num, by omega, by rw [← hRe]; exact hR.later (gb_alloc (gb_refl _ _) _), hbel.alloc hbs _⟩
            case measure => first | (simp [intOf]; done) | (simp [intOf]; omega)
          · have htk := tkS_back (K j) (N j) (X j) hX (fun h3 h0 => hsk ⟨h3, h0⟩) R
            have hsk2 : K j = 3 → X j ≠ 0 := fun h3 h0 => hsk ⟨h3, h0⟩
            clear hsk
            generalize K j = κ at *
            generalize X j = x at *
            generalize N j = n at *
            by_cases h3 : κ = 3
            · subst h3
              have hx0 := hsk2 rfl
              have hx1 : ((x : Int) == 0) = false := by simp; omega
              have hwt : wantOf 3 x n = x := by unfold wantOf; rw [if_pos rfl]
              rw [hwt] at htk
              have hta := fun W (h : RdS W g (putB 3 x n ++ R) false) => take_any g (putB 3 x n ++ R) false 3 x n W h hX
              simp only [htk] at hta
              generalize putB 3 x n ++ R = L at *
              clear htk
              go_wp2_with fail
              refine (hta _ (hR.later (gb_alloc (gb_refl _ none) _))).mono ?_
              rintro e w8 ⟨rfl, hg8, hR8⟩
              go_wp2_with fail
              refine (rtorn_any g _ _ _ hR8).mono ?_
              rintro e w9 ⟨rfl, rfl⟩
              go_wp2_with fail
              go_roundw
              case rel => exact ⟨j + 1, by go_num, by omega, by rw [← hRe]; exact hR8, below_step (hbel.alloc hbs _) (hbel.alloc hbs _).size hg8 hgw⟩
              case measure => first | (simp [intOf]; done) | (simp [intOf]; omega)
            · have b3 : (κ == 3) = false := by simpa using h3
              by_cases hlo : κ < 1
              · have hwt : wantOf κ x n = x % 2 := by
                  unfold wantOf
                  rw [if_neg h3, if_neg (by omega)]
                rw [hwt] at htk
                clear h3 hwt hsk2
                have hta := fun W (h : RdS W g (putB κ x n ++ R) false) => take_any g (putB κ x n ++ R) false κ x n W h hX
                simp only [htk] at hta
                generalize putB κ x n ++ R = L at *
                clear htk
                go_wp2_with fail
                refine (hta _ (hR.later (gb_alloc (gb_refl _ none) _))).mono ?_
                rintro e w8 ⟨rfl, hg8, hR8⟩
                go_wp2_with fail
                refine (rtorn_any g _ _ _ hR8).mono ?_
                rintro e w9 ⟨rfl, rfl⟩
                go_wp2_with fail
                go_roundw
                case rel => exact ⟨j + 1, by go_num, by omega, by rw [← hRe]; exact hR8, below_step (hbel.alloc hbs _) (hbel.alloc hbs _).size hg8 hgw⟩
                case measure => first | (simp [intOf]; done) | (simp [intOf]; omega)
              · by_cases hhi : 3 < κ
                · have hwt : wantOf κ x n = x % 2 := by
                    unfold wantOf
                    rw [if_neg h3, if_neg (by omega)]
                  rw [hwt] at htk
                  clear h3 hwt hsk2
                  have hta := fun W (h : RdS W g (putB κ x n ++ R) false) => take_any g (putB κ x n ++ R) false κ x n W h hX
                  simp only [htk] at hta
                  generalize putB κ x n ++ R = L at *
                  clear htk
                  go_wp2_with fail
                  refine (hta _ (hR.later (gb_alloc (gb_refl _ none) _))).mono ?_
                  rintro e w8 ⟨rfl, hg8, hR8⟩
                  go_wp2_with fail
                  refine (rtorn_any g _ _ _ hR8).mono ?_
                  rintro e w9 ⟨rfl, rfl⟩
                  go_wp2_with fail
                  go_roundw
                  case rel => exact ⟨j + 1, by go_num, by omega, by rw [← hRe]; exact hR8, below_step (hbel.alloc hbs _) (hbel.alloc hbs _).size hg8 hgw⟩
                  case measure => first | (simp [intOf]; done) | (simp [intOf]; omega)
                · have hwt : wantOf κ x n = x % 2 ^ nb n := by
                    unfold wantOf
                    rw [if_neg h3, if_pos (by omega)]
                  rw [hwt] at htk
                  have hvf := val_front x (nb n) []
                  rw [List.append_nil] at hvf
                  have hrb : ∀ W, Calls Try.prog 30 #[.int .u64 (x : Nat), .int .i64 n] W (Gives W 4 1 (bitsN x (nb n)).length ((bitsN x (nb n)).map .bool)) := fun W => by rw [bitsN_len]; exact rbits_any x n W hX
                  have htb := fun W g2 (h : TkS W g2 (bitsN x (nb n)) false) => tbits_any g2 (bitsN x (nb n)) false W n h
                  simp only [hvf] at htb
                  have hta := fun W (h : RdS W g (putB κ x n ++ R) false) => take_any g (putB κ x n ++ R) false κ x n W h hX
                  simp only [htk] at hta
                  have hlo2 : ¬ ((κ : Int) < 1) := hlo
                  have hhi2 : κ < 3 := by omega
                  generalize putB κ x n ++ R = L at *
                  generalize bitsN x (nb n) = Lb at *
                  generalize x % 2 ^ nb n = V at *
                  clear hwt htk hsk2 h3 hvf
                  go_wp2_with fail
                  refine (hrb _).mono ?_
                  rintro e w5 ⟨A5, c5, rfl, hO5, hg5⟩
                  have hB5 := new_after hg5
                  have hT6 := TkS.new hO5
                  have hB6 := hB5.alloc (.cells #[.slice A5 Lb.length c5, .bool false] 45)
                  have z2 := hB6.cell 2 rfl
                  have hlt5 := hg5.size
                  have hlt6 : wr.heap.size < w5.heap.size := by simp at hlt5; omega
                  have hR6 := ((hR.later (gb_alloc (gb_refl _ none) _)).later hg5).later (gb_alloc (gb_refl _ none) (.cells #[.slice A5 Lb.length c5, .bool false] 45))
                  go_wp2_with fail
                  refine (htb _ _ hT6).mono ?_
                  rintro e w7 ⟨rfl, hg7, _⟩
                  have hB7 := hB6.grown hg7 (by simp; omega)
                  have y0 := hB7.cell 0 rfl
                  have y1 := hB7.cell 1 rfl
                  have y2 := hB7.cell 2 rfl
                  have hR7 := hR6.beside hT6 hg7
                  have hb7 := below_step (below_step0 (below_step0 (hbel.alloc hbs _) (hbel.alloc hbs _).size hg5) (below_step0 (hbel.alloc hbs _) (hbel.alloc hbs _).size hg5).size (gb_alloc (gb_refl _ none) _)) (below_step0 (below_step0 (hbel.alloc hbs _) (hbel.alloc hbs _).size hg5) (below_step0 (hbel.alloc hbs _) (hbel.alloc hbs _).size hg5).size (gb_alloc (gb_refl _ none) _)).size hg7 (by have := hbel.size; omega)
                  go_wp2_with fail
                  refine (hta _ hR7).mono ?_
                  rintro e w8 ⟨rfl, hg8, hR8⟩
                  go_wp2_with fail
                  refine (rtorn_any g _ _ _ hR8).mono ?_
                  rintro e w9 ⟨rfl, rfl⟩
                  go_wp2_with fail
                  go_roundw
                  case rel => exact ⟨j + 1, by go_num, by omega, by rw [← hRe]; exact hR8, below_step hb7 hb7.size hg8 hgw⟩
                  case measure => first | (simp [intOf]; done) | (simp [intOf]; omega)
        · have hjk2 : j = k := by omega
          subst hjk2
          rw [Nat.sub_self] at hR
          have hpe : rowFrom K X N j 0 ++ p = p := rfl
          rw [hpe] at hR
          have hpi : (p.length : Int) < 8 := by omega
          go_wp2_with fail
          refine (rleft_any g p false _ hR).mono ?_
          rintro e w5 ⟨rfl, hg5⟩
          go_wp2_with fail
          refine (awake_any _).mono ?_
          rintro e w6 ⟨rfl, hg6⟩
          go_wp2_with fail
          go_ret
          exact ⟨rfl, gb_below (below_step0 hbel hbel.size (gb_trans hg5 hg6))⟩

section
open Go.ChangeShapes Go.WideShapes Go.ChangeAt
theorem back_main {H : Type} {enc : TypeId × Value → H} {base : Nat} {v0 : Value} {d0 : DataW H} {p0 : List MemPlace} (W : World)
    (k0 : Value.okWide Try.prog W .any base 22 v0) (h0 : DataW.Trod enc Try.prog W 0 (fun _ => true) true 22 v0 d0 p0) :
    Calls Try.prog 5 #[v0] W fun e w' => e = .returned (.bool true) ∧ W.grownBy w' none := by
  obtain ⟨A, len, cap, K, X, N, rfl, hA⟩ := open_acts k0 h0
  exact law_back A len cap K X N W hA
end
end Go.Proofs.Ytlohplopomfjhaa
