/- The walk of package chunk's Shared. -/
import Derived.Test.YtephnmmbmacbfaaFI
import Derived.Maps.OwnSet
import Derived.Carry
namespace Go.Proofs.Ytephnmmbmacbfaa
set_option linter.unusedVariables false
set_option linter.unusedSimpArgs false
open Go.RowKit Go.Own Go.Chunk

/-- A piece's bytes. -/
def pb (a : List Nat) (x : Nat × Nat) : List Nat := (a.drop x.1).take x.2

/-- Is it one of the first n pieces? -/
def seen (a : List Nat) (P : List (Nat × Nat)) (l : List Nat) : Bool := P.any fun y => pb a y == l

/-- How many bytes of pieces are seen. -/
def shr (a b : List Nat) (P Q : List (Nat × Nat)) : Nat := (Q.map fun x => if seen a P (pb b x) then x.2 else 0).sum

def kl (l : List Nat) : Lit := .string (strB l).data.toList

/-- What the map tells. -/
def MapS (a : List Nat) (P : List (Nat × Nat)) (D : DataW Unit) : Prop := ∀ l, (∀ v ∈ l, v < 256) → D.atKey (kl l) (.lit (.bool false)) = .lit (.bool (seen a P l))

theorem seen_snoc (a : List Nat) (P : List (Nat × Nat)) (x : Nat × Nat) (l : List Nat) : seen a (P ++ [x]) l = (seen a P l || pb a x == l) := by simp [seen]

theorem kl_inj {a b : List Nat} (ha : ∀ v ∈ a, v < 256) (hb : ∀ v ∈ b, v < 256) (h : kl a = kl b) : a = b := by
  unfold kl at h
  injection h with h
  rw [← strB_data ha, ← strB_data hb, h]

theorem maps_step {a : List Nat} {P : List (Nat × Nat)} {D : DataW Unit} (hM : MapS a P D) (hi : Maps.IsMap D) (x : Nat × Nat) (hx : ∀ v ∈ pb a x, v < 256) : MapS a (P ++ [x]) (D.put (kl (pb a x)) (.lit (.bool true))) := by
  intro l hl
  rw [seen_snoc]
  by_cases h : pb a x = l
  · subst h
    rw [Maps.atKey_put_same hi (show WideAt.IsKeyLit (kl (pb a x)) from trivial)]
    simp
  · rw [Maps.atKey_put_other (fun e => h (kl_inj hl hx e).symm), hM l hl]
    have : (pb a x == l) = false := by simpa using h
    rw [this, Bool.or_false]

theorem gb_row {a b c : World} {row : Option Nat} (h : a.grownBy b none) (k : b.grownBy c row) (hA : ∀ g, row = some g → a.heap.size ≤ g) : a.grownBy c none :=
  ⟨k.os.trans h.os, k.tape.trans h.tape, k.output.trans h.output, Nat.le_trans h.size k.size,
    fun i hi _ => (k.block i (Nat.lt_of_lt_of_le hi h.size) (fun e => by have := hA i e.symm; omega)).trans (h.block i hi (by simp))⟩

theorem strB_size (l : List Nat) : (strB l).size = l.length := by
  have : (strB l).data.toList.length = l.length := by
    unfold strB
    rw [strOfNums_data, List.length_map, List.length_map]
  show (strB l).data.size = l.length
  rw [← Array.length_toList]
  exact this

theorem key_kl (l : List Nat) (h : l.length ≤ 1000000) : keyOf Try.prog 9 (.string (strB l)) = some (kl l) :=
  WideMaps.keyOf_string_mk Try.underlying9 (by rw [strB_size]; simp only [maxLen]; omega)

theorem look_bool {w : World} {mb n : Nat} {D : DataW Unit} {a : List Nat} {P : List (Nat × Nat)} {l : List Nat} (h : w.ownsMap Try.prog 9 (plainElem Try.prog 4) mb n D) (hM : MapS a P D) (hl : ∀ v ∈ l, v < 256) (hl6 : l.length ≤ 1000000) :
    (Instr.lookup 55 (.map (some mb)) (.string (strB l)) false).run Try.prog w = .ok (.bool (seen a P l)) w := by
  obtain ⟨v, ps, hrun, hv⟩ := h.lookup (Maps.string_keyed Try.underlying9) Try.underlying55 (z := .bool false) (by rfl) (plainElem_bool Try.underlying4 false) (key_kl l hl6)
  rw [hM l hl] at hv
  have : v = .bool (seen a P l) := by
    unfold plainElem at hv
    rw [Try.underlying4] at hv
    cases v <;> simp at hv
    rename_i x
    obtain ⟨rfl, _⟩ := hv
    rfl
  rw [this] at hrun
  exact hrun

/-- Pieces that lie in bytes, none of them empty. -/
def Fits (a : List Nat) (P : List (Nat × Nat)) : Prop := ∀ x ∈ P, 0 < x.2 ∧ x.1 + x.2 ≤ a.length

theorem take_snoc_pair (P : List (Nat × Nat)) (j : Nat) (h : j < P.length) : P.take (j + 1) = P.take j ++ [P[j]] := by
  rw [List.take_succ_eq_append_getElem h]

theorem shr_step (a b : List Nat) (P Q : List (Nat × Nat)) (j : Nat) (h : j < Q.length) : shr a b P (Q.take (j + 1)) = shr a b P (Q.take j) + if seen a P (pb b Q[j]) then Q[j].2 else 0 := by
  unfold shr
  rw [take_snoc_pair Q j h, List.map_append, List.sum_append]
  simp

/-- The j-th piece in memory. -/
theorem cut_cell {w : World} {base n c g : Nat} {S : Option Addr} {P : List (Nat × Nat)} (h : Own.Own w base 24 1 (some ⟨g, 0, none⟩) c n (P.map (cutV S))) {j : Nat} (hj : j < P.length) (hn : P.length = n) : w.cell? ⟨g, j, none⟩ = some (cutV S P[j]) :=
  h.cell rfl (by omega) (by simp [hj])

set_option maxHeartbeats 3200000 in
set_option maxRecDepth 100000 in
theorem shared_any (v0 v1 v2 : Int) (a b : List Nat) (P Q : List (Nat × Nat)) (Sa Sb : Option Addr) (ca cb : Nat) (w : World)
    (ha : Rd w w.heap.size 1 Sa a.length (a.map bv)) (hb : Rd w w.heap.size 1 Sb b.length (b.map bv)) (hva : ∀ v ∈ a, v < 256) (hvb : ∀ v ∈ b, v < 256) (hla : a.length ≤ 100000) (hlb : b.length ≤ 100000)
    (hP : Fits a P) (hQ : Fits b Q) (hPl : P.length ≤ 100000) (hQl : Q.length ≤ 100000)
    (h1 : ∀ W, w.grownBy W none → Calls Try.prog 12 #[cv v0 v1 v2, .slice Sa a.length ca] W (Gives W 24 1 P.length (P.map (cutV Sa))))
    (h2 : ∀ W, w.grownBy W none → Calls Try.prog 12 #[cv v0 v1 v2, .slice Sb b.length cb] W (Gives W 24 1 Q.length (Q.map (cutV Sb)))) :
    Calls Try.prog 16 #[cv v0 v1 v2, .slice Sa a.length ca, .slice Sb b.length cb] w fun e w' => e = .returned (.int .i64 (shr a b P Q : Nat)) ∧ w.grownBy w' none := by
  have hmm := @run_makeMap Try.prog
  unfold cv at h1 h2 ⊢
  replace h1 := Lib.hid h1
  replace h2 := Lib.hid h2
  have hB0 := (Blk.new w #[.int .i64 v0, .int .i64 v1, .int .i64 v2] 29).alloc (.map #[] 0)
  have hg0 := gb_alloc (gb_alloc (gb_refl w none) (.cells #[.int .i64 v0, .int .i64 v1, .int .i64 v2] 29)) (.map #[] 0)
  have hM0 := World.ownsMap_made (H := Unit) (w.alloc (.cells #[.int .i64 v0, .int .i64 v1, .int .i64 v2] 29)) Try.prog 9 (plainElem Try.prog 4)
  rw [World.size_alloc] at hM0
  have k0 := hB0.cell 0 rfl
  have k1 := hB0.cell 1 rfl
  have k2 := hB0.cell 2 rfl
  go_enter Try.func16, Try.ntmps16
  go_wp2_with fail
  refine (h1.out _ hg0).mono ?_
  rintro e w1 ⟨A1, c1, rfl, hO1, hg1⟩
  have hs0 : (((w.alloc (.cells #[.int .i64 v0, .int .i64 v1, .int .i64 v2] 29)).alloc (.map #[] 0)).heap.size) = w.heap.size + 2 := by simp
  rw [hs0] at hO1
  have hM1 := hM0.kept hg1 (by simp)
  have hB1 := hB0.grown hg1 (by simp)
  have hg01 := gb_trans hg0 hg1
  clear hM0 hB0 k0 k1 k2 hg0 hg1 hs0
  go_wp2_with fail
  go_loopw [18] (fun v18 wi => ∃ (j n : Nat) (D : DataW Unit), v18 = .int .i64 j ∧ j ≤ P.length ∧ n ≤ j ∧ wi.ownsMap Try.prog 9 (plainElem Try.prog 4) (w.heap.size + 1) n D ∧ Hid (MapS a (P.take j) D) ∧ Own.Own wi (w.heap.size + 2) 24 1 A1 c1 P.length (P.map (cutV Sa)) ∧ Blk wi w.heap.size #[.int .i64 v0, .int .i64 v1, .int .i64 v2] 29 ∧ w.grownBy wi none)
    (fun v18 _ => P.length - (intOf v18).toNat)
  case atStart => exact ⟨0, 0, .map [], rfl, Nat.zero_le _, Nat.le_refl _, hM1, Lib.hid (fun l _ => rfl), hO1, hB1, hg01⟩
  case round =>
    obtain ⟨j, n, D, rfl, hj, hnj, hM, hMS, hO, hB, hg⟩ := hrel
    by_cases hjl : j < P.length
    · have hji : (j : Int) < (P.length : Int) := by omega
      obtain ⟨hx0, hx1⟩ := hP _ (List.getElem_mem hjl)
      obtain ⟨g1, rfl, hbg, hlg⟩ := hO.form (by omega)
      have cc := cut_cell hO hjl rfl
      have hts := take_snoc_pair P j hjl
      obtain ⟨g, off, rfl, hgw, _⟩ := rd_byte ha (show 0 < a.length by omega)
      have hpart := rd_part ha P[j].1 P[j].2 hx1
      have hpl : (pb a P[j]).length = P[j].2 := by unfold pb; rw [List.length_take, List.length_drop]; exact Nat.min_eq_left (by omega)
      have hpv : ∀ v ∈ pb a P[j], v < 256 := fun v h => hva v (List.mem_of_mem_drop (List.mem_of_mem_take h))
      have hkey := key_kl (pb a P[j]) (by omega)
      have hst := maps_step hMS.out hM.isMap P[j] hpv
      rw [← hts] at hst
      replace hst := Lib.hid hst
      have hcv := conv_any (A := some ⟨g, off + P[j].1, none⟩) P[j].2 (l := pb a P[j]) (hpart.later hg (Nat.le_refl _)) hpl
      unfold cutV at cc
      dsimp only [Option.map_some] at cc
      generalize pb a P[j] = bl at *
      generalize P[j] = x at *
      obtain ⟨xa, xn⟩ := x
      dsimp only at *
      clear hts
      go_wp2_with (at_mapUpdate; refine wpList_mapUpdate_own _ rfl _ _ _ 55 rfl 9 4 (Maps.string_keyed Try.underlying9) Try.underlying55 (plainElem (H := Unit) Try.prog 4) (w.heap.size + 1) n _ rfl hM (by unfold maxLen; omega) _ _ _ rfl rfl hkey _ [] (plainElem_bool Try.underlying4 true) ?_; intro w3 hown3 hgrow3)
      go_roundw
      case rel =>
        exact ⟨j + 1, n + 1, _, by go_num, by omega, by omega, hown3, hst, Own.grown hO hgrow3 (.inr (by simp [blk]; omega)), hB.grown hgrow3 (by simp), gb_row hg hgrow3 (fun g h => by cases h; omega)⟩
      case measure => first | (simp [intOf]; done) | (simp [intOf]; omega)
    · have hj2 : j = P.length := by omega
      subst hj2
      rw [List.take_length] at hMS
      have e0 := hB.cell 0 rfl
      have e1 := hB.cell 1 rfl
      have e2 := hB.cell 2 rfl
      clear hO
      go_wp2_with fail
      refine (h2.out _ hg).mono ?_
      rintro e w4 ⟨A2, c2, rfl, hO2, hg4⟩
      have hgs := hg.size
      replace hM := hM.kept hg4 (by simp)
      replace hg := gb_trans hg hg4
      clear e0 e1 e2 hB hg4
      go_wp2_with fail
      go_loopw [10, 30] (fun v10 v30 wi => ∃ j s : Nat, v30 = .int .i64 j ∧ v10 = .int .i64 s ∧ j ≤ Q.length ∧ Hid (s = shr a b P (Q.take j)) ∧ s ≤ j * 100000 ∧ w4 = wi)
        (fun _ v30 _ => Q.length - (intOf v30).toNat)
      case atStart => exact ⟨0, 0, rfl, rfl, Nat.zero_le _, Lib.hid rfl, by omega, rfl⟩
      case round =>
        obtain ⟨j, s, rfl, rfl, hj, hs, hs6, rfl⟩ := hrel
        by_cases hjl : j < Q.length
        · have hji : (j : Int) < (Q.length : Int) := by omega
          obtain ⟨hx0, hx1⟩ := hQ _ (List.getElem_mem hjl)
          obtain ⟨g2, rfl, hbg, hlg⟩ := hO2.form (by omega)
          have cc := cut_cell hO2 hjl rfl
          have hss := shr_step a b P Q j hjl
          obtain ⟨g, off, rfl, hgw, _⟩ := rd_byte hb (show 0 < b.length by omega)
          have hpart := rd_part hb Q[j].1 Q[j].2 hx1
          have hpl : (pb b Q[j]).length = Q[j].2 := by unfold pb; rw [List.length_take, List.length_drop]; exact Nat.min_eq_left (by omega)
          have hpv : ∀ v ∈ pb b Q[j], v < 256 := fun v h => hvb v (List.mem_of_mem_drop (List.mem_of_mem_take h))
          have hcv := conv_any (A := some ⟨g, off + Q[j].1, none⟩) Q[j].2 (l := pb b Q[j]) (hpart.later hg (Nat.le_refl _)) hpl
          have hlk := look_bool hM hMS.out hpv (by omega)
          unfold cutV at cc
          dsimp only [Option.map_some] at cc
          rw [← hs.out] at hss
          generalize pb b Q[j] = bl at *
          generalize Q[j] = x at *
          obtain ⟨xa, xn⟩ := x
          dsimp only at *
          cases hsb : seen a P bl with
          | true =>
            rw [hsb] at hlk hss
            rw [if_pos rfl] at hss
            replace hss := Lib.hid hss
            clear hsb
            go_wp2_with fail
            go_roundw
            case rel => exact ⟨j + 1, s + xn, by go_num, by go_num, by omega, Lib.hid hss.out.symm, by omega, trivial⟩
            case measure => first | (simp [intOf]; done) | (simp [intOf]; omega)
          | false =>
            rw [hsb] at hlk hss
            rw [if_neg (by simp), Nat.add_zero] at hss
            replace hss := Lib.hid hss
            clear hsb
            go_wp2_with fail
            go_roundw
            case rel => exact ⟨j + 1, s, by go_num, rfl, by omega, Lib.hid hss.out.symm, Nat.le_trans hs6 (Nat.mul_le_mul_right _ (Nat.le_succ j)), trivial⟩
            case measure => first | (simp [intOf]; done) | (simp [intOf]; omega)
        · have hj2 : j = Q.length := by omega
          subst hj2
          rw [List.take_length] at hs
          go_wp2_with fail
          go_ret
          exact ⟨ret_int (by rw [hs.out]), hg⟩
end Go.Proofs.Ytephnmmbmacbfaa
