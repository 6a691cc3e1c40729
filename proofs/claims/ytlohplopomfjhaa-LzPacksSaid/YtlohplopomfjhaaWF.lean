/- The walk of the document's bytes of a row of bits. -/
import Derived.Test.YtlohplopomfjhaaWE
namespace Go.Proofs.Ytlohplopomfjhaa
set_option linter.unusedVariables false
set_option linter.unusedSimpArgs false
open Go.RowKit Go.Own Go.Bits

theorem take_snoc (bs : List Bool) (k : Nat) (h : k < bs.length) : bs.take (k + 1) = bs.take k ++ [bs.getD k false] := by
  have e : bs.getD k false = bs[k] := by simp [h]
  rw [List.take_succ_eq_append_getElem h, e]

theorem worth_next (k z : Nat) (h : k % 8 ≠ 0 → z = 2 ^ (k % 8)) (h2 : (k + 1) % 8 ≠ 0) (h3 : k % 8 ≠ 0) : z * 2 % 256 = 2 ^ ((k + 1) % 8) := by
  rw [h h3]
  have e : (k + 1) % 8 = k % 8 + 1 := by omega
  rw [e]
  have h7 : k % 8 < 7 := by omega
  generalize k % 8 = d at *
  have : ∀ d : Fin 7, 2 ^ d.val * 2 % 256 = 2 ^ (d.val + 1) := by decide
  exact this ⟨d, h7⟩

theorem worth_first (k : Nat) (h : k % 8 = 0) : (k + 1) % 8 ≠ 0 → 2 = 2 ^ ((k + 1) % 8) := by
  intro _
  have e : (k + 1) % 8 = 1 := by omega
  rw [e]

theorem pow_mod8 (k : Nat) : 2 ^ (k % 8) ≤ 128 := Nat.pow_le_pow_right (n := 2) (by omega) (show k % 8 ≤ 7 by omega)

set_option maxHeartbeats 3200000 in
theorem rbytes_any (bs : List Bool) (S : Option Addr) (cs B : Nat) (w : World) (hB : B ≤ w.heap.size) (hS : Rd w B 1 S bs.length (bs.map .bool)) (hl : bs.length ≤ 1000000) :
    Calls Try.prog 14 #[.slice S bs.length cs] w (Gives w 5 1 (pk bs).length ((pk bs).map bv)) := by
  obtain ⟨it, hi, hz0, hz1, hz2⟩ := info_parts info5
  go_enter Try.func14, Try.ntmps14
  go_wp2_with fail
  go_loopw [3, 4, 5] (fun v3 v4 v5 wi => ∃ (k z n : Nat) (A : Option Addr) (c : Nat), v3 = .slice A n c ∧ v4 = .int .u8 z ∧ v5 = .int .i64 k ∧ k ≤ bs.length ∧ z < 256 ∧ (k % 8 ≠ 0 → z = 2 ^ (k % 8)) ∧ n = (pk (bs.take k)).length ∧ Own wi w.heap.size 5 1 A c n ((pk (bs.take k)).map bv) ∧ w.grownBy wi none)
    (fun _ _ v5 _ => bs.length - (intOf v5).toNat)
  case atStart => exact ⟨0, 1, 0, none, 0, rfl, rfl, rfl, by omega, by omega, by simp, by simp [pk], by simpa [pk] using Own.nil w w.heap.size 5 1, gb_refl _ _⟩
  case round =>
    obtain ⟨k, z, n, A, c, rfl, rfl, rfl, hk, hz, hw, hn, hO, hg⟩ := hrel
    by_cases hkm : k < bs.length
    · obtain ⟨sg, off, rfl, hsg, hsc⟩ := hS.form (by omega)
      have cp := (hg.cell (a := ⟨sg, off + k, none⟩) (hsc k (.bool (bs.getD k false)) (by simp [hkm])) (by simp))
      have hs := hg.size
      have hts := take_snoc bs k hkm
      have htl : (bs.take k).length = k := by simp; omega
      have hpl := pk_len (bs.take k)
      rw [htl, ← hn] at hpl
      have hsk : (bs.map Value.bool)[k]? = some (.bool (bs.getD k false)) := by simp [hkm]
      generalize bs.getD k false = b at *
      have hp0 : (0 : Int) ≤ (k : Int) := by omega
      have hp1 : (k : Int) < (bs.length : Int) := by omega
      by_cases h8 : k % 8 = 0
      · have hk90 : (k : Int) % 8 = 0 := by omega
        have hk91 : ((k : Int) % 8 == 0) = true := by simp; omega
        have hsn := pk_snoc0 (bs.take k) b (by rw [htl]; exact h8)
        have hby : (n + 1) * 1 ≤ 140737488355328 := by omega
        have hone : ∀ u ∈ [Value.int .u8 0], u.oneCell' = true := by intro u hu; simp at hu; subst hu; rfl
        have HF := Lib.hid (⟨hts, hsn, hn⟩ : _ ∧ _ ∧ _)
        have HN := Lib.hid hn
        have c0 := hsc k (.bool b) hsk
        clear hts hsn hn hpl hw
        cases b
        · go_wp2_with (
            at_builtin
            refine wpList_app1 wr rfl (.tmp 15) (.tmp 16) 24 rfl w.heap.size 5 Try.underlying24 hi hz0 hz1 hz2 rfl (by decide) A c n ((pk (bs.take k)).map bv) rfl hO [.int .u8 0] 5 1 (by rfl) rfl hone hby (by decide) hs ?_
            intro g1 c1 w2 hO2 hgr hloc hbg hlt
            have hg2 := gb_own hg hgr (fun g hg' => (hO.lt g hg').1)
            have cp2 := (hg2.cell (a := ⟨sg, off + k, none⟩) c0 (by simp))
            have cg := hO2.cell rfl (j := n) (u := .int .u8 0) (by omega) (by simp [HN.out])
            have fg := hO2.free rfl n
            have hb1 : (n : Int) < ((n + 1 : Nat) : Int) := by omega
            have hn0 : (0 : Int) ≤ (n : Int) := by omega)
          go_roundw
          case rel =>
            obtain ⟨hts, hsn, hn⟩ := HF.out
            refine ⟨k + 1, 2, n + 1, some ⟨g1, 0, none⟩, c1, by go_num, rfl, by go_num, by omega, by omega, worth_first k h8, ?_, ?_, hg2⟩
            · rw [hts, hsn, List.length_append, ← hn]; rfl
            · rw [hts, hsn, List.map_append]; exact hO2
          case measure => first | (simp [intOf]; done) | (simp [intOf]; omega)
        · go_wp2_with (
            at_builtin
            refine wpList_app1 wr rfl (.tmp 15) (.tmp 16) 24 rfl w.heap.size 5 Try.underlying24 hi hz0 hz1 hz2 rfl (by decide) A c n ((pk (bs.take k)).map bv) rfl hO [.int .u8 0] 5 1 (by rfl) rfl hone hby (by decide) hs ?_
            intro g1 c1 w2 hO2 hgr hloc hbg hlt
            have hg2 := gb_own hg hgr (fun g hg' => (hO.lt g hg').1)
            have cp2 := (hg2.cell (a := ⟨sg, off + k, none⟩) c0 (by simp))
            have cg := hO2.cell rfl (j := n) (u := .int .u8 0) (by omega) (by simp [HN.out])
            have fg := hO2.free rfl n
            have hb1 : (n : Int) < ((n + 1 : Nat) : Int) := by omega
            have hn0 : (0 : Int) ≤ (n : Int) := by omega)
          go_roundw
          case rel =>
            obtain ⟨hts, hsn, hn⟩ := HF.out
            have hO3 := hO2.set n (.int .u8 1)
            have e : (List.map bv (pk (bs.take k)) ++ [Value.int .u8 0]).set n (.int .u8 1) = List.map bv (pk (bs.take k)) ++ List.map bv [true.toNat] := by
              rw [List.set_append_right _ _ (by simp [hn])]
              simp [bv, hn]
            rw [e] at hO3
            refine ⟨k + 1, 2, n + 1, some ⟨g1, 0, none⟩, c1, by go_num, rfl, by go_num, by omega, by omega, worth_first k h8, ?_, ?_, gb_new_set (p := ⟨g1, n, none⟩) hg2 hbg⟩
            · rw [hts, hsn, List.length_append, ← hn]; rfl
            · rw [hts, hsn, List.map_append]; exact hO3
          case measure => first | (simp [intOf]; done) | (simp [intOf]; omega)
      · have hk91 : ((k : Int) % 8 == 0) = false := by simp; omega
        obtain ⟨p, rfl⟩ : ∃ p, n = p + 1 := ⟨n - 1, by omega⟩
        have hpk : k / 8 = p := by omega
        obtain ⟨ga, rfl, hgb, hgl⟩ := hO.form (by omega)
        have hsn := pk_snoc1 (bs.take k) b (by rw [htl]; exact h8)
        have hpp := pk_part (bs.take k) (by rw [htl]; exact h8)
        have hss := set_same (pk (bs.take k)) p
        rw [htl, hpk] at hsn hpp
        have cg := hO.cell rfl (j := p) (u := bv ((pk (bs.take k)).getD p 0)) (by omega) (by
          have hi : p < (pk (bs.take k)).length := by omega
          simp [hi])
        have fg := hO.free rfl p
        unfold bv at cg
        generalize (pk (bs.take k)).getD p 0 = pv at *
        have hz2' := hw h8
        have hz128 : z ≤ 128 := by rw [hz2']; exact pow_mod8 k
        have hpz : pv < z := by rw [hz2']; exact hpp
        have hwn := worth_next k z hw
        rw [← hz2'] at hsn hpp
        have HF := Lib.hid (⟨hts, hsn, hn, hss, hwn⟩ : _ ∧ _ ∧ _ ∧ _ ∧ _)
        have hpv1 : (pv : Int) + (z : Int) ≤ 255 := by omega
        have hzi : (z : Int) ≤ 128 := by omega
        have hn0 : (0 : Int) ≤ (p : Int) := by omega
        have c0 := hsc k (.bool b) hsk
        clear hts hsn hn hpl hw hz2' hss hwn hpp
        cases b
        · go_wp2_with fail
          go_roundw
          case rel =>
            obtain ⟨hts, hsn, hn, hss, hwn⟩ := HF.out
            have e : pk (bs.take (k + 1)) = pk (bs.take k) := by rw [hts, hsn]; simpa using hss
            refine ⟨k + 1, z * 2 % 256, p + 1, some ⟨ga, 0, none⟩, c, rfl, by go_num, by go_num, by omega, by omega, fun h => hwn h h8, ?_, ?_, hg⟩
            · rw [e]; exact hn
            · rw [e]; exact hO
          case measure => first | (simp [intOf]; done) | (simp [intOf]; omega)
        · go_wp2_with fail
          go_roundw
          case rel =>
            obtain ⟨hts, hsn, hn, hss, hwn⟩ := HF.out
            have e : pk (bs.take (k + 1)) = (pk (bs.take k)).set p (pv + z) := by rw [hts, hsn]; simp
            refine ⟨k + 1, z * 2 % 256, p + 1, some ⟨ga, 0, none⟩, c, rfl, by go_num, by go_num, by omega, by omega, fun h => hwn h h8, ?_, ?_, gb_new_set (p := ⟨ga, p, none⟩) hg hgb⟩
            · rw [e, List.length_set]; exact hn
            · rw [e, List.map_set]; exact hO.set p (bv (pv + z))
          case measure => first | (simp [intOf]; done) | (simp [intOf]; omega)
    · have hk2 : k = bs.length := by omega
      subst hk2
      rw [List.take_length] at hn hO
      subst hn
      go_wp2_with fail
      go_ret
      exact ⟨A, c, rfl, hO, hg⟩
end Go.Proofs.Ytlohplopomfjhaa
