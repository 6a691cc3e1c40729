/- The walk of the document's tokens. -/
import Derived.Test.YtlohplopomfjhaaVE
namespace Go.Proofs.Ytlohplopomfjhaa
set_option linter.unusedVariables false
set_option linter.unusedSimpArgs false
open Go.RowKit Go.Own Go.Bits Go.Lz

theorem info57 : (Try.prog.info? 57).map (fun i => (i.zero, i.size, i.bytes)) = some (some (.agg #[.int .u8 0, .int .i64 0, .int .i64 0]), 3, 24) := by kernel_rfl

/-- The token of what was found. -/
def tokOf (b : List Nat) (p : Nat) (r : Nat × Nat) : Tok := if r.2 = 0 then ⟨b.getD p 0, 0, 0⟩ else ⟨0, r.1, r.2⟩

theorem tokOf_l (b : List Nat) (p : Nat) (r : Nat × Nat) : (tokOf b p r).l = (r.2 : Int) := by
  unfold tokOf
  split
  · rename_i h; rw [h]; rfl
  · rfl

theorem best_yes {b : List Nat} {p m fr lo : Nat} (h : (fr, lo) = bestTo b p m) (hc : max lo 2 < matchLen b p (m + 1)) : (m + 1, matchLen b p (m + 1)) = bestTo b p (m + 1) := by
  rw [bestTo, ← h, if_pos hc]
theorem best_no {b : List Nat} {p m fr lo : Nat} (h : (fr, lo) = bestTo b p m) (hc : ¬ max lo 2 < matchLen b p (m + 1)) : (fr, lo) = bestTo b p (m + 1) := by
  rw [bestTo, ← h, if_neg hc]

set_option maxHeartbeats 6400000 in
set_option maxRecDepth 100000 in
theorem rtokens_any (b : List Nat) (S : Option Addr) (cs B : Nat) (w : World) (hS : Rd w B 1 S b.length (b.map bv)) (hB : B ≤ w.heap.size) (hbl : b.length ≤ 1000000) (hb : ∀ v ∈ b, v < 256) :
    Calls Try.prog 33 #[.slice S b.length cs] w (Gives w 57 3 (tokens b).length ((tokens b).flatMap tkC)) := by
  obtain ⟨it, hi, hz0, hz1, hz2⟩ := info_parts info57
  go_enter Try.func33, Try.ntmps33
  go_wp2_with fail
  go_loopw [3, 4] (fun v3 v4 wi => ∃ (p : Nat) (T : List Tok) (A : Option Addr) (c : Nat), v3 = .slice A T.length c ∧ v4 = .int .i64 p ∧ p ≤ b.length ∧ T.length ≤ p ∧ upto b T p ∧ Own wi w.heap.size 57 3 A c T.length (T.flatMap tkC) ∧ w.grownBy wi none)
    (fun _ v4 _ => b.length - (intOf v4).toNat)
  case atStart => exact ⟨0, [], none, 0, rfl, rfl, by omega, by simp, upto_zero b, Own.nil _ _ _ _, gb_refl _ _⟩
  case round =>
    obtain ⟨p, T, A, c, rfl, rfl, hp, hT, hup, hO, hg⟩ := hrel
    by_cases hpl : p < b.length
    · have hs := hg.size
      have hup2 := upto_step hup hpl
      have hst1 := stepAt_pos b p
      have hstl := stepAt_le b p hpl
      have hst : stepAt b p = max (bestTo b p (min p 4096)).2 1 := rfl
      obtain ⟨sg, off, rfl, hsg, hsc⟩ := rd_byte hS hpl
      have cb := hg.cell (hsc p hpl) (by simp)
      have hby : (T.length + 1) * 24 ≤ 140737488355328 := by omega
      have htb : blk A ≠ some wr.heap.size := by
        intro e
        have := (hO.lt _ e).2
        omega
      have hta : tokAt b p = tokOf b p (bestTo b p (min p 4096)) := rfl
      have ht0 : (⟨b.getD p 0, 0, ((0 : Nat) : Int)⟩ : Tok) = tokOf b p (0, 0) := rfl
      have HUP := Lib.hid hup2
      have HST := Lib.hid hst
      have HTA := Lib.hid hta
      clear hup hup2 hst hta
      generalize hy : b.getD p 0 = y at *
      have HY := Lib.hid hy
      clear hy
      have hB0 := Blk.new wr #[.int .u8 (y : Int), .int .i64 0, .int .i64 0] 57
      have hO0 := hO.alloc (.cells #[.int .u8 (y : Int), .int .i64 0, .int .i64 0] 57)
      have hg0 := gb_alloc hg (.cells #[.int .u8 (y : Int), .int .i64 0, .int .i64 0] 57)
      go_wp2_with fail
      go_loopw [6, 7] (fun v6 v7 wi => ∃ (m fr lo t0 : Nat) (tf : Int), (fr, lo) = bestTo b p m ∧ (⟨t0, tf, (lo : Int)⟩ : Tok) = tokOf b p (fr, lo) ∧ v6 = .int .i64 ((max lo 2 : Nat) : Int) ∧ v7 = .int .i64 ((m + 1 : Nat) : Int) ∧ m ≤ p ∧ m ≤ 4096 ∧ Blk wi wr.heap.size #[.int .u8 (t0 : Int), .int .i64 tf, .int .i64 (lo : Int)] 57 ∧ Own wi w.heap.size 57 3 A c T.length (T.flatMap tkC) ∧ w.grownBy wi none)
        (fun _ v7 _ => 4097 - (intOf v7).toNat)
      case atStart => exact ⟨0, 0, 0, y, 0, rfl, ht0, rfl, rfl, by omega, by omega, hB0, hO0, hg0⟩
      case round =>
        obtain ⟨m, fr, lo, t0, tf, hbt, htk, rfl, rfl, hmp, hm4, hBi, hOi, hgi⟩ := hrel
        clear hB0 hO0 hg0
        by_cases h1 : m + 1 ≤ p
        · by_cases h2 : m + 1 ≤ 4096
          · have h1i : ((m + 1 : Nat) : Int) ≤ (p : Int) := by omega
            have h2i : ((m + 1 : Nat) : Int) ≤ 4096 := by omega
            have hyes := fun h => best_yes (m := m) hbt h
            have hno := fun h => best_no (m := m) hbt h
            have fBi := fun (W : World) (h : wr.grownBy W none) => hBi.grown h (by simp)
            have fOi := fun (W : World) (h : wr.grownBy W none) => hOi.grown0 h
            have fGi := fun (W : World) (h : wr.grownBy W none) => gb_trans hgi h
            have HBT := Lib.hid hbt
            clear hbt
            have hSi : ∀ i, i < b.length → wr.cell? ⟨sg, off + i, none⟩ = some (.int .u8 (b.getD i 0 : Nat)) := fun i hi => hgi.cell (hsc i hi) (by simp)
            obtain ⟨far, hfar⟩ : ∃ far, far = m + 1 := ⟨_, rfl⟩
            rw [← hfar] at h1i h2i hyes hno ⊢
            have HFAR := Lib.hid hfar
            have hf1 : 1 ≤ far := by omega
            have hfp : far ≤ p := by omega
            clear hfar h1 h2
            go_wp2
            go_loopw [8] (fun v8 wi => ∃ n : Nat, v8 = .int .i64 n ∧ n ≤ 1024 ∧ p + n ≤ b.length ∧ matchLen b p far = mlen b p far (1024 - n) n ∧ wr.grownBy wi none)
              (fun v8 _ => 1024 - (intOf v8).toNat)
            case atStart => exact ⟨0, rfl, by omega, by omega, rfl, gb_refl _ _⟩
            case round =>
              obtain ⟨n, rfl, hn, hpn, hm, hgn⟩ := hrel
              have HM := Lib.hid hm
              clear hm
              by_cases c1 : p + n < b.length
              · have hc1 : (p : Int) + (n : Int) < (b.length : Int) := by omega
                have hc0 : (0 : Int) ≤ (p : Int) + (n : Int) := by omega
                by_cases c2 : n < 1024
                · have hc2 : (n : Int) < 1024 := by omega
                  have q1 := hgn.cell (hSi (p + n) (by omega)) (by simp)
                  have q2 := hgn.cell (hSi (p + n - far) (by omega)) (by simp)
                  have hd0 : (0 : Int) ≤ (p : Int) + (n : Int) - (far : Int) := by omega
                  have hd1 : (p : Int) + (n : Int) - (far : Int) < (b.length : Int) := by omega
                  have ht : ((p : Int) + (n : Int) - (far : Int)).toNat = p + n - far := by omega
                  have ht2 : ((p : Int) + (n : Int)).toNat = p + n := by omega
                  by_cases c3 : b.getD (p + n) 0 = b.getD (p + n - far) 0
                  · have HG := Lib.hid (HM.out.trans (mlen_go b p far n ⟨c1, c2, c3⟩))
                    rw [← c3] at q2
                    generalize b.getD (p + n) 0 = yy at *
                    clear c3
                    go_wp2
                    go_quiet (fail)
                    go_wp2
                    go_roundw
                    case rel => exact ⟨n + 1, by go_num, by omega, by omega, HG.out, gb_drewN hgn _⟩
                    case measure => first | (simp [intOf]; done) | (simp [intOf]; omega)
                  · have HG := Lib.hid (HM.out.trans (mlen_stop b p far (1024 - n) n (fun h => c3 h.2.2)))
                    have hne : ((b.getD (p + n) 0 : Int) == (b.getD (p + n - far) 0 : Int)) = false := by simp only [beq_eq_false_iff_ne, ne_eq]; omega
                    generalize b.getD (p + n) 0 = yy at *
                    generalize b.getD (p + n - far) 0 = zz at *
                    clear c3
                    clear HM
                    rw [HG.out] at hyes hno
                    go_wp2
                    go_quiet (fail)
                    have hga := gb_drewN (row := none) hgn
                    have hgb := hga
                    have bB := fun n => fBi _ (hga n)
                    have bO := fun n => fOi _ (hga n)
                    have bG := fun n => fGi _ (hga n)
                    have f0 := fun n => (bB n).free 0
                    have f1 := fun n => (bB n).free 1
                    have f2 := fun n => (bB n).free 2
                    have p0 := fun n => (bB n).cell 0 rfl
                    have p1 := fun n => (bB n).cell 1 rfl
                    have p2 := fun n => (bB n).cell 2 rfl
                    by_cases hmx : max lo 2 < n
                    · have hmi : ((max lo 2 : Nat) : Int) < (n : Int) := by omega
                      have hb1 := hyes hmx
                      go_wp2
                      go_roundw
                      case rel => exact ⟨m + 1, far, n, 0, far, by rw [← HFAR.out]; exact hb1, by unfold tokOf; rw [if_neg (by dsimp only; omega)], by rw [show max n 2 = n by omega], by rw [HFAR.out]; go_num, by have := HFAR.out; omega, by have := HFAR.out; omega, (((bB _).set 0 _).set 1 _).set 2 _, (((bO _).other (p := ⟨_, 0, none⟩) htb _).other (p := ⟨_, 1, none⟩) htb _).other (p := ⟨_, 2, none⟩) htb _, gb_new_set (gb_new_set (gb_new_set (bG _) (p := ⟨_, 0, none⟩) hs) (p := ⟨_, 1, none⟩) hs) (p := ⟨_, 2, none⟩) hs⟩
                      case measure => first | (simp [intOf]; done) | (simp [intOf]; omega)
                    · have hmi : ¬ (((max lo 2 : Nat) : Int) < (n : Int)) := by omega
                      have hb1 := hno hmx
                      go_wp2
                      go_roundw
                      case rel => exact ⟨m + 1, fr, lo, t0, tf, by rw [← HFAR.out]; exact hb1, htk, rfl, by rw [HFAR.out]; go_num, by have := HFAR.out; omega, by have := HFAR.out; omega, bB _, bO _, bG _⟩
                      case measure => first | (simp [intOf]; done) | (simp [intOf]; omega)
                · have hc2 : decide ((n : Int) < 1024) = false := by simp; omega
                  have HG := Lib.hid (HM.out.trans (mlen_stop b p far (1024 - n) n (fun h => c2 h.2.1)))
                  clear HM
                  rw [HG.out] at hyes hno
                  go_wp2
                  go_quiet (fail)
                  have hga := gb_drewN (row := none) hgn
                  have hgb := hga
                  have bB := fun n => fBi _ (hga n)
                  have bO := fun n => fOi _ (hga n)
                  have bG := fun n => fGi _ (hga n)
                  have f0 := fun n => (bB n).free 0
                  have f1 := fun n => (bB n).free 1
                  have f2 := fun n => (bB n).free 2
                  have p0 := fun n => (bB n).cell 0 rfl
                  have p1 := fun n => (bB n).cell 1 rfl
                  have p2 := fun n => (bB n).cell 2 rfl
                  by_cases hmx : max lo 2 < n
                  · have hmi : ((max lo 2 : Nat) : Int) < (n : Int) := by omega
                    have hb1 := hyes hmx
                    go_wp2
                    go_roundw
                    case rel => exact ⟨m + 1, far, n, 0, far, by rw [← HFAR.out]; exact hb1, by unfold tokOf; rw [if_neg (by dsimp only; omega)], by rw [show max n 2 = n by omega], by rw [HFAR.out]; go_num, by have := HFAR.out; omega, by have := HFAR.out; omega, (((bB _).set 0 _).set 1 _).set 2 _, (((bO _).other (p := ⟨_, 0, none⟩) htb _).other (p := ⟨_, 1, none⟩) htb _).other (p := ⟨_, 2, none⟩) htb _, gb_new_set (gb_new_set (gb_new_set (bG _) (p := ⟨_, 0, none⟩) hs) (p := ⟨_, 1, none⟩) hs) (p := ⟨_, 2, none⟩) hs⟩
                    case measure => first | (simp [intOf]; done) | (simp [intOf]; omega)
                  · have hmi : ¬ (((max lo 2 : Nat) : Int) < (n : Int)) := by omega
                    have hb1 := hno hmx
                    go_wp2
                    go_roundw
                    case rel => exact ⟨m + 1, fr, lo, t0, tf, by rw [← HFAR.out]; exact hb1, htk, rfl, by rw [HFAR.out]; go_num, by have := HFAR.out; omega, by have := HFAR.out; omega, bB _, bO _, bG _⟩
                    case measure => first | (simp [intOf]; done) | (simp [intOf]; omega)
              · have hc1 : decide ((p : Int) + (n : Int) < (b.length : Int)) = false := by simp; omega
                have HG := Lib.hid (HM.out.trans (mlen_stop b p far (1024 - n) n (fun h => c1 h.1)))
                clear HM
                rw [HG.out] at hyes hno
                go_wp2
                go_quiet (fail)
                have hga := gb_drewN (row := none) hgn
                have hgb := hga
                have bB := fun n => fBi _ (hga n)
                have bO := fun n => fOi _ (hga n)
                have bG := fun n => fGi _ (hga n)
                have f0 := fun n => (bB n).free 0
                have f1 := fun n => (bB n).free 1
                have f2 := fun n => (bB n).free 2
                have p0 := fun n => (bB n).cell 0 rfl
                have p1 := fun n => (bB n).cell 1 rfl
                have p2 := fun n => (bB n).cell 2 rfl
                by_cases hmx : max lo 2 < n
                · have hmi : ((max lo 2 : Nat) : Int) < (n : Int) := by omega
                  have hb1 := hyes hmx
                  go_wp2
                  go_roundw
                  case rel => exact ⟨m + 1, far, n, 0, far, by rw [← HFAR.out]; exact hb1, by unfold tokOf; rw [if_neg (by dsimp only; omega)], by rw [show max n 2 = n by omega], by rw [HFAR.out]; go_num, by have := HFAR.out; omega, by have := HFAR.out; omega, (((bB _).set 0 _).set 1 _).set 2 _, (((bO _).other (p := ⟨_, 0, none⟩) htb _).other (p := ⟨_, 1, none⟩) htb _).other (p := ⟨_, 2, none⟩) htb _, gb_new_set (gb_new_set (gb_new_set (bG _) (p := ⟨_, 0, none⟩) hs) (p := ⟨_, 1, none⟩) hs) (p := ⟨_, 2, none⟩) hs⟩
                  case measure => first | (simp [intOf]; done) | (simp [intOf]; omega)
                · have hmi : ¬ (((max lo 2 : Nat) : Int) < (n : Int)) := by omega
                  have hb1 := hno hmx
                  go_wp2
                  go_roundw
                  case rel => exact ⟨m + 1, fr, lo, t0, tf, by rw [← HFAR.out]; exact hb1, htk, rfl, by rw [HFAR.out]; go_num, by have := HFAR.out; omega, by have := HFAR.out; omega, bB _, bO _, bG _⟩
                  case measure => first | (simp [intOf]; done) | (simp [intOf]; omega)
          · have hm2 : m = min p 4096 := by omega
            have h2i : decide (((m + 1 : Nat) : Int) ≤ 4096) = false := by simp; omega
            have h1i : ((m + 1 : Nat) : Int) ≤ (p : Int) := by omega
            have p0 := hBi.cell 0 rfl
            have p1 := hBi.cell 1 rfl
            have p2 := hBi.cell 2 rfl
            have hone := tkC_one ⟨t0, tf, (lo : Int)⟩
            have hsi := hgi.size
            have hsa : stepAt b p = max lo 1 := by rw [HST.out, ← hm2, ← hbt]
            have hta : tokAt b p = ⟨t0, tf, (lo : Int)⟩ := by rw [HTA.out, ← hm2, ← hbt, htk]
            have hlo : lo = 0 ∨ 3 ≤ lo := by
              have := (bestTo_le b p m hp).2.2.2
              rw [← hbt] at this
              dsimp only at this
              omega
            have HSA := Lib.hid hsa
            have HTK := Lib.hid hta
            clear hsa hta htk hbt hm2
            rcases hlo with hlo | hlo
            · subst hlo
              go_wp2_with (
                at_builtin
                refine wpList_app1 wr rfl (.tmp 63) (.tmp 65) 53 rfl w.heap.size 57 Try.underlying53 hi hz0 hz1 hz2 rfl (by decide) A c T.length (T.flatMap tkC) rfl hOi (tkC ⟨t0, tf, ((0 : Nat) : Int)⟩) 57 1 (by rfl) rfl hone hby (by decide) hsi ?_
                intro g1 c1 w6 hO6 hgr hloc hbg1 hlt1
                have hB6 := hBi.grown hgr (Ne.symm htb)
                have r2 := hB6.cell 2 rfl)
              go_roundw
              case rel =>
                have h1 := HSA.out
                have h2 := HTK.out
                refine ⟨p + stepAt b p, T ++ [tokAt b p], some ⟨g1, 0, none⟩, c1, by simp, ?_, hstl, by simp; omega, HUP.out, ?_, gb_own hgi hgr (fun g hg' => (hOi.lt g hg').1)⟩
                · rw [h1]
                  go_num
                · rw [h2, List.length_append, List.flatMap_append]
                  simpa using hO6
              case measure =>
                have h1 := HSA.out
                first | (simp [intOf]; done) | (simp [intOf]; omega)
            · have hlo1 : ¬ ((lo : Int) < 1) := by omega
              have hlo2 : (1 : Int) ≤ (lo : Int) := by omega
              have hlo3 : max (lo : Int) 1 = (lo : Int) := by omega
              have hsa2 : stepAt b p = lo := by rw [HSA.out]; omega
              have hpl2 : p + lo ≤ b.length := by rw [← hsa2]; exact hstl
              have hwr : IntKind.i64.wrap ((p : Int) + (lo : Int)) = (p : Int) + (lo : Int) := by rw [IntKind.wrap_i64]; omega
              clear HSA
              have HSA := Lib.hid hsa2
              clear hsa2
              go_wp2_with (
                at_builtin
                refine wpList_app1 wr rfl (.tmp 63) (.tmp 65) 53 rfl w.heap.size 57 Try.underlying53 hi hz0 hz1 hz2 rfl (by decide) A c T.length (T.flatMap tkC) rfl hOi (tkC ⟨t0, tf, (lo : Int)⟩) 57 1 (by rfl) rfl hone hby (by decide) hsi ?_
                intro g1 c1 w6 hO6 hgr hloc hbg1 hlt1
                have hB6 := hBi.grown hgr (Ne.symm htb)
                have r2 := hB6.cell 2 rfl)
              go_roundw
              case rel =>
                have h1 := HSA.out
                have h2 := HTK.out
                refine ⟨p + stepAt b p, T ++ [tokAt b p], some ⟨g1, 0, none⟩, c1, by simp, ?_, hstl, by simp; omega, HUP.out, ?_, gb_own hgi hgr (fun g hg' => (hOi.lt g hg').1)⟩
                · rw [h1]
                  go_num
                · rw [h2, List.length_append, List.flatMap_append]
                  simpa using hO6
              case measure =>
                have h1 := HSA.out
                first | (simp [intOf]; done) | (simp [intOf]; omega)
        · have hm2 : m = min p 4096 := by omega
          have h1i : decide (((m + 1 : Nat) : Int) ≤ (p : Int)) = false := by simp; omega
          have p0 := hBi.cell 0 rfl
          have p1 := hBi.cell 1 rfl
          have p2 := hBi.cell 2 rfl
          have hone := tkC_one ⟨t0, tf, (lo : Int)⟩
          have hsi := hgi.size
          have hsa : stepAt b p = max lo 1 := by rw [HST.out, ← hm2, ← hbt]
          have hta : tokAt b p = ⟨t0, tf, (lo : Int)⟩ := by rw [HTA.out, ← hm2, ← hbt, htk]
          have hlo : lo = 0 ∨ 3 ≤ lo := by
            have := (bestTo_le b p m hp).2.2.2
            rw [← hbt] at this
            dsimp only at this
            omega
          have HSA := Lib.hid hsa
          have HTK := Lib.hid hta
          clear hsa hta htk hbt hm2
          rcases hlo with hlo | hlo
          · subst hlo
            go_wp2_with (
              at_builtin
              refine wpList_app1 wr rfl (.tmp 63) (.tmp 65) 53 rfl w.heap.size 57 Try.underlying53 hi hz0 hz1 hz2 rfl (by decide) A c T.length (T.flatMap tkC) rfl hOi (tkC ⟨t0, tf, ((0 : Nat) : Int)⟩) 57 1 (by rfl) rfl hone hby (by decide) hsi ?_
              intro g1 c1 w6 hO6 hgr hloc hbg1 hlt1
              have hB6 := hBi.grown hgr (Ne.symm htb)
              have r2 := hB6.cell 2 rfl)
            go_roundw
            case rel =>
              have h1 := HSA.out
              have h2 := HTK.out
              refine ⟨p + stepAt b p, T ++ [tokAt b p], some ⟨g1, 0, none⟩, c1, by simp, ?_, hstl, by simp; omega, HUP.out, ?_, gb_own hgi hgr (fun g hg' => (hOi.lt g hg').1)⟩
              · rw [h1]
                go_num
              · rw [h2, List.length_append, List.flatMap_append]
                simpa using hO6
            case measure =>
              have h1 := HSA.out
              first | (simp [intOf]; done) | (simp [intOf]; omega)
          · have hlo1 : ¬ ((lo : Int) < 1) := by omega
            have hlo2 : (1 : Int) ≤ (lo : Int) := by omega
            have hlo3 : max (lo : Int) 1 = (lo : Int) := by omega
            have hsa2 : stepAt b p = lo := by rw [HSA.out]; omega
            have hpl2 : p + lo ≤ b.length := by rw [← hsa2]; exact hstl
            have hwr : IntKind.i64.wrap ((p : Int) + (lo : Int)) = (p : Int) + (lo : Int) := by rw [IntKind.wrap_i64]; omega
            clear HSA
            have HSA := Lib.hid hsa2
            clear hsa2
            go_wp2_with (
              at_builtin
              refine wpList_app1 wr rfl (.tmp 63) (.tmp 65) 53 rfl w.heap.size 57 Try.underlying53 hi hz0 hz1 hz2 rfl (by decide) A c T.length (T.flatMap tkC) rfl hOi (tkC ⟨t0, tf, (lo : Int)⟩) 57 1 (by rfl) rfl hone hby (by decide) hsi ?_
              intro g1 c1 w6 hO6 hgr hloc hbg1 hlt1
              have hB6 := hBi.grown hgr (Ne.symm htb)
              have r2 := hB6.cell 2 rfl)
            go_roundw
            case rel =>
              have h1 := HSA.out
              have h2 := HTK.out
              refine ⟨p + stepAt b p, T ++ [tokAt b p], some ⟨g1, 0, none⟩, c1, by simp, ?_, hstl, by simp; omega, HUP.out, ?_, gb_own hgi hgr (fun g hg' => (hOi.lt g hg').1)⟩
              · rw [h1]
                go_num
              · rw [h2, List.length_append, List.flatMap_append]
                simpa using hO6
            case measure =>
              have h1 := HSA.out
              first | (simp [intOf]; done) | (simp [intOf]; omega)
    · have hT2 := upto_all hup (by omega)
      have HT2 := Lib.hid hT2
      clear hT2 hup
      go_wp2_with fail
      go_ret
      have h2 := HT2.out
      subst h2
      exact ⟨A, c, rfl, hO, hg⟩
end Go.Proofs.Ytlohplopomfjhaa
