/- The walk of the document's Cut. -/
import Derived.Test.YtephnmmbmacbfaaFB
namespace Go.Proofs.Ytephnmmbmacbfaa
set_option linter.unusedVariables false
set_option linter.unusedSimpArgs false
open Go.RowKit Go.Own Go.Chunk

/-- The call returns a slice of its own that reads as xs, and has made new memory alone. -/
def Gives (w : World) (e size n : Nat) (xs : List Value) (en : Ending) (w' : World) : Prop :=
  ∃ A c, en = .returned (.slice A n c) ∧ Own w' w.heap.size e size A c n xs ∧ w.grownBy w' none

/-- A whole number. -/
def nv (n : Nat) : Value := .int .i64 (n : Int)

/-- How long a slice is. -/
def slen : Value → Nat
  | .slice _ n _ => n
  | _ => 0

theorem info3 : (Try.prog.info? 3).map (fun i => (i.zero, i.size, i.bytes)) = some (some (.int .i64 0), 1, 8) := by kernel_rfl

theorem gives_grow {w w' : World} {e size n c : Nat} {A : Option Addr} {xs : List Value} (h : Own w' w.heap.size e size A c n xs) (hg : w.grownBy w' none) : Gives w e size n xs (.returned (.slice A n c)) w' := ⟨A, c, rfl, h, hg⟩

theorem rd_drop {w : World} {B : Nat} {g off : Nat} {b : List Nat} (h : Rd w B 1 (some ⟨g, off, none⟩) b.length (b.map bv)) (lo : Nat) (hl : lo ≤ b.length) : Rd w B 1 (some ⟨g, off + lo, none⟩) (b.drop lo).length ((b.drop lo).map bv) := by
  have := rd_part h lo (b.length - lo) (by omega)
  rw [List.length_drop]
  rwa [List.take_of_length_le (by simp)] at this

theorem rd_drop_if {w : World} {B c : Nat} {g off : Nat} {b : List Nat} (h : Rd w B 1 (some ⟨g, off, none⟩) b.length (b.map bv)) (lo : Nat) (hl : lo ≤ b.length) (hc : b.length ≤ c) : Rd w B 1 (some ⟨g, if c = lo then off else off + lo, none⟩) (b.drop lo).length ((b.drop lo).map bv) := by
  by_cases hcl : c = lo
  · have : b.drop lo = [] := List.drop_eq_nil_of_le (by omega)
    rw [this]
    exact Rd.nil _ _ _ _
  · rw [if_neg hcl]; exact rd_drop h lo hl

theorem rem_stops (k m : Nat) (s : Int) (hm : m = 2 ^ k) (hs : 0 ≤ s ∧ s < 18446744073709551616) (hk : k ≤ 20) :
    ((IntKind.u64.wrap (s.tdiv 1048576)).tmod (m : Int) != 0) = !stops k s := by
  subst hm
  rw [wrap_div s 1048576 hs (by decide)]
  unfold stops
  have hp1 : 1 ≤ 2 ^ k := Nat.one_le_two_pow
  generalize 2 ^ k = q at *
  have h0 : 0 ≤ s / 1048576 := by omega
  rw [Int.tmod_eq_emod_of_nonneg h0]
  rfl

set_option maxHeartbeats 1600000 in
theorem rcut_any (least most k : Nat) (b : List Nat) (S : Option Addr) (cs B : Nat) (w : World) (hS : Rd w B 1 S b.length (b.map bv)) (hB : B ≤ w.heap.size) (hv : ∀ v ∈ b, v < 256) (hl : b.length ≤ 1000000) (hlc : b.length ≤ cs) (hcm : cs ≤ 9223372036854775807)
    (h16 : 16 ≤ least) (hlm : least ≤ most) (hm : most ≤ 1048576) (hk : k ≤ 20) :
    Calls Try.prog 9 #[.int .i64 least, .int .i64 most, .int .i64 k, .slice S b.length cs] w (Gives w 3 1 (cut spc least most k b).length ((cut spc least most k b).map nv)) := by
  obtain ⟨it, hi, hz0, hz1, hz2⟩ := info_parts info3
  have hp20 : 2 ^ k ≤ 1048576 := Nat.pow_le_pow_right (n := 2) (by omega) (show k ≤ 20 from hk)
  have hki : (k : Int) ≤ 20 := by omega
  go_enter Try.func9, Try.ntmps9
  go_wp2_with fail
  go_loopw [10, 11] (fun v10 v11 wi => ∃ (i m : Nat), v11 = .int .i64 i ∧ v10 = .int .u64 m ∧ i ≤ k ∧ m ≤ 1048576 ∧ Hid (m = 2 ^ i) ∧ w = wi)
    (fun _ v11 _ => k - (intOf v11).toNat)
  case atStart => exact ⟨0, 1, rfl, rfl, by omega, by omega, Lib.hid rfl, rfl⟩
  case round =>
    obtain ⟨i, m, rfl, rfl, hik, hm1, hme, rfl⟩ := hrel
    by_cases hil : i < k
    · have hii : (i : Int) < (k : Int) := by omega
      have hm2 : 2 * m = 2 ^ (i + 1) := by rw [Nat.pow_succ, hme.out]; omega
      have hm3 : 2 * m ≤ 1048576 := by rw [hm2]; exact Nat.le_trans (Nat.pow_le_pow_right (by omega) (by omega)) hp20
      replace hm2 := Lib.hid hm2
      go_wp2_with fail
      go_roundw
      case rel =>
        refine ⟨i + 1, 2 * m, by go_num, by congr 1; omega, by omega, by omega, hm2, trivial⟩
      case measure => first | (simp [intOf]; done) | (simp [intOf]; omega)
    · have hik2 : i = k := by omega
      subst hik2
      have hm0 : 1 ≤ m := by rw [hme.out]; exact Nat.one_le_two_pow
      have hmz : ((m : Int) == 0) = false := by simp; omega
      go_wp2_with fail
      go_loopw [3, 9] (fun v3 v9 wi => ∃ (S' A : Option Addr) (cs' c : Nat) (rest pre : List Nat), v3 = .slice S' rest.length cs' ∧ v9 = .slice A pre.length c ∧ rest.length ≤ cs' ∧ cs' ≤ cs ∧ Rd w B 1 S' rest.length (rest.map bv) ∧ (∀ v ∈ rest, v < 256) ∧ pre.length + rest.length ≤ b.length ∧ Hid (cut spc least most i b = pre ++ cut spc least most i rest) ∧ Own wi w.heap.size 3 1 A c pre.length (pre.map nv) ∧ w.grownBy wi none)
        (fun v3 _ _ => slen v3)
      case atStart => exact ⟨S, none, cs, 0, b, [], rfl, rfl, hlc, Nat.le_refl _, hS, hv, by simp, Lib.hid rfl, Own.nil _ _ _ _, gb_refl _ _⟩
      case round =>
        obtain ⟨S', A, cs', c, rest, pre, rfl, rfl, hlc', hcs', hS', hv', hpl, hcut, hown, hg⟩ := hrel
        by_cases hr0 : rest = []
        · subst hr0
          rw [cut_nil, List.append_nil] at hcut
          go_wp2_with fail
          go_ret
          rw [hcut.out]
          exact gives_grow hown hg
        · have hrl : 0 < rest.length := List.length_pos_iff.2 hr0
          have hrli : (0 : Int) < (rest.length : Int) := by omega
          have hcc := cut_cons spc least most i rest (by omega) hr0
          have hnp := next_pos spc least most i rest (by omega) hr0
          have hnl := next_le spc least most i rest
          obtain ⟨target, ht⟩ : ∃ t, t = next spc least most i rest := ⟨_, rfl⟩
          rw [← ht] at hcc hnp hnl
          have hcc2 := hcut.out
          rw [hcc] at hcc2
          replace hcc2 := Lib.hid hcc2
          clear hcut hcc
          obtain ⟨g, off, rfl, hgB, hcell⟩ := rd_byte hS' hrl
          clear hcell
          replace ht := Lib.hid ht
          have ht1 : target = if rest.length ≤ least then rest.length else scan spc most i rest (rest.length - least) least := ht.out
          replace ht1 := Lib.hid ht1
          clear ht
          go_wp2_with fail
          go_loopw [12] (fun v12 wi => ∃ n : Nat, v12 = .int .i64 n ∧ least ≤ n ∧ n ≤ most ∧ Hid (target = if rest.length ≤ n then rest.length else scan spc most i rest (rest.length - n) n) ∧ wr = wi)
            (fun v12 _ => most - (intOf v12).toNat)
          case atStart => exact ⟨least, rfl, Nat.le_refl _, hlm, ht1, rfl⟩
          case round =>
            obtain ⟨n, rfl, hn1, hn2, htn, rfl⟩ := hrel
            clear ht1
            have hni : (n : Int) ≤ 1048576 := by omega
            have h16i : (16 : Int) ≤ (n : Int) := by omega
            by_cases hgo : n < most ∧ n < rest.length
            · obtain ⟨g1, g2⟩ := hgo
              have g1i : (n : Int) < (most : Int) := by omega
              have g2i : (n : Int) < (rest.length : Int) := by omega
              have g2c : (n : Int) ≤ (cs' : Int) := by omega
              obtain ⟨lo, hlo⟩ : ∃ lo, lo = n - 16 := ⟨_, rfl⟩
              have hloi : (n : Int) - 16 = (lo : Int) := by omega
              have hpart := rd_part (hS'.later hg hB) lo 16 (by omega)
              have hwl : ((rest.drop lo).take 16).length = 16 := by rw [List.length_take, List.length_drop]; omega
              have hsum := rsum_any ((rest.drop lo).take 16) (some ⟨g, off + lo, none⟩) (cs' - lo) B wr (by rw [hwl]; exact hpart) (fun v hv => hv' v (List.mem_of_mem_drop (List.mem_of_mem_take hv))) (by omega)
              rw [hwl] at hsum
              have hwin : win spc rest n = sumB spc ((rest.drop lo).take 16) := by unfold win; rw [hlo]
              rw [← hwin] at hsum
              have hloh := Lib.hid (show n = lo + 16 by omega)
              have hls : n - lo = 16 := by omega
              have hsr := sumB_range spc ((rest.drop lo).take 16)
              rw [← hwin] at hsr
              clear hlo hpart hwl hwin
              have hst := rem_stops i m (win spc rest n) hme.out hsr hk
              have hsn := scan_step spc most i rest (rest.length - (n + 1)) n
              have hsh := scan_here spc most i rest (rest.length - n) n
              generalize win spc rest n = s at *
              cases hb : stops i s with
              | false =>
                rw [hb] at hst
                replace hst : ((IntKind.u64.wrap (s.tdiv 1048576)).tmod (m : Int) != 0) = true := hst
                have ht2 : target = if rest.length ≤ n + 1 then rest.length else scan spc most i rest (rest.length - (n + 1)) (n + 1) := by
                  rw [htn.out, if_neg (by omega), show rest.length - n = (rest.length - (n + 1)) + 1 by omega, hsn (by rw [hb]; simp; omega)]
                  split
                  · rw [show rest.length - (n + 1) = 0 by omega]; show n + 1 = _; omega
                  · rfl
                replace ht2 := Lib.hid ht2
                clear hsn hsh htn hb
                go_wp2_with (go_at_call 15; refine hsum.mono ?_; rintro e w2 ⟨rfl, rfl⟩)
                go_roundw
                case rel => exact ⟨n + 1, by go_num, by omega, by omega, ht2, trivial⟩
                case measure => first | (simp [intOf]; done) | (simp [intOf]; omega)
              | true =>
                rw [hb] at hst
                replace hst : ((IntKind.u64.wrap (s.tdiv 1048576)).tmod (m : Int) != 0) = false := hst
                have hT : target = n := by
                  rw [htn.out, if_neg (by omega)]
                  exact hsh (.inr (.inr hb))
                clear hsn hsh htn hb
                subst hT
                have g3i : ¬ ((rest.length : Int) < (target : Int)) := by omega
                have hby : (pre.length + 1) * 8 ≤ 140737488355328 := by omega
                go_wp2_with (first
                  | (go_at_call 15; refine hsum.mono ?_; rintro e w2 ⟨rfl, rfl⟩)
                  | (at_builtin; refine wpList_app1 w2 rfl (.tmp 53) (.tmp 55) 33 rfl w.heap.size 3 Try.underlying33 hi hz0 hz1 hz2 rfl (by decide) A c pre.length (pre.map nv) rfl hown [nv target] 3 1 rfl rfl (by simp [nv]; rfl) hby (by decide) hg.size ?_; intro g1 c1 w6 hO6 hgr hloc hbg1 hlt1))
                go_roundw
                case rel =>
                  refine ⟨some ⟨g, if cs' = target then off else off + target, none⟩, some ⟨g1, 0, none⟩, cs' - target, c1, rest.drop target, pre ++ [target], by rw [List.length_drop]; by_cases hcl : cs' = target <;> simp [hcl]; try omega, by simp, by simp; omega, by omega, rd_drop_if hS' _ (by omega) (by omega), fun v hv => hv' v (List.mem_of_mem_drop hv), by simp; omega, Lib.hid ?_, by simpa using hO6, gb_own hg hgr (fun g h => (hown.lt g h).1)⟩
                  rw [hcc2.out]
                  simp
                case measure => simp [slen]; omega
            · by_cases hlt : rest.length < n
              · have hT : target = rest.length := by rw [htn.out, if_pos (by omega)]
                subst hT
                clear htn hgo
                have g2i : ¬ ((n : Int) < (rest.length : Int)) := by omega
                have g3i : ((rest.length : Int) < (n : Int)) := by omega
                have hby : (pre.length + 1) * 8 ≤ 140737488355328 := by omega
                by_cases hnm : n < most
                · have g1i : (n : Int) < (most : Int) := by omega
                  go_wp2_with (at_builtin; refine wpList_app1 wr rfl (.tmp 53) (.tmp 55) 33 rfl w.heap.size 3 Try.underlying33 hi hz0 hz1 hz2 rfl (by decide) A c pre.length (pre.map nv) rfl hown [nv rest.length] 3 1 rfl rfl (by simp [nv]; rfl) hby (by decide) hg.size ?_; intro g1 c1 w6 hO6 hgr hloc hbg1 hlt1)
                  go_roundw
                  case rel =>
                    refine ⟨some ⟨g, if cs' = rest.length then off else off + rest.length, none⟩, some ⟨g1, 0, none⟩, cs' - rest.length, c1, rest.drop rest.length, pre ++ [rest.length], by rw [List.length_drop]; by_cases hcl : cs' = rest.length <;> simp [hcl]; try omega, by simp, by simp, by omega, rd_drop_if hS' _ (by omega) (by omega), fun v hv => hv' v (List.mem_of_mem_drop hv), by simp; omega, Lib.hid ?_, by simpa using hO6, gb_own hg hgr (fun g h => (hown.lt g h).1)⟩
                    rw [hcc2.out]
                    simp
                  case measure => simp [slen]; omega
                · have g1i : ¬ ((n : Int) < (most : Int)) := by omega
                  go_wp2_with (at_builtin; refine wpList_app1 wr rfl (.tmp 53) (.tmp 55) 33 rfl w.heap.size 3 Try.underlying33 hi hz0 hz1 hz2 rfl (by decide) A c pre.length (pre.map nv) rfl hown [nv rest.length] 3 1 rfl rfl (by simp [nv]; rfl) hby (by decide) hg.size ?_; intro g1 c1 w6 hO6 hgr hloc hbg1 hlt1)
                  go_roundw
                  case rel =>
                    refine ⟨some ⟨g, if cs' = rest.length then off else off + rest.length, none⟩, some ⟨g1, 0, none⟩, cs' - rest.length, c1, rest.drop rest.length, pre ++ [rest.length], by rw [List.length_drop]; by_cases hcl : cs' = rest.length <;> simp [hcl]; try omega, by simp, by simp, by omega, rd_drop_if hS' _ (by omega) (by omega), fun v hv => hv' v (List.mem_of_mem_drop hv), by simp; omega, Lib.hid ?_, by simpa using hO6, gb_own hg hgr (fun g h => (hown.lt g h).1)⟩
                    rw [hcc2.out]
                    simp
                  case measure => simp [slen]; omega
              · have hT : target = n := by
                  rw [htn.out]
                  split
                  · omega
                  · exact scan_here _ _ _ _ _ _ (.inl (by omega))
                subst hT
                clear htn
                have g3i : ¬ ((rest.length : Int) < (target : Int)) := by omega
                have hby : (pre.length + 1) * 8 ≤ 140737488355328 := by omega
                by_cases hnm : target < most
                · have g1i : (target : Int) < (most : Int) := by omega
                  have g2i : ¬ ((target : Int) < (rest.length : Int)) := by omega
                  clear hgo
                  go_wp2_with (at_builtin; refine wpList_app1 wr rfl (.tmp 53) (.tmp 55) 33 rfl w.heap.size 3 Try.underlying33 hi hz0 hz1 hz2 rfl (by decide) A c pre.length (pre.map nv) rfl hown [nv target] 3 1 rfl rfl (by simp [nv]; rfl) hby (by decide) hg.size ?_; intro g1 c1 w6 hO6 hgr hloc hbg1 hlt1)
                  go_roundw
                  case rel =>
                    refine ⟨some ⟨g, if cs' = target then off else off + target, none⟩, some ⟨g1, 0, none⟩, cs' - target, c1, rest.drop target, pre ++ [target], by rw [List.length_drop]; by_cases hcl : cs' = target <;> simp [hcl]; try omega, by simp, by simp; omega, by omega, rd_drop_if hS' _ (by omega) (by omega), fun v hv => hv' v (List.mem_of_mem_drop hv), by simp; omega, Lib.hid ?_, by simpa using hO6, gb_own hg hgr (fun g h => (hown.lt g h).1)⟩
                    rw [hcc2.out]
                    simp
                  case measure => simp [slen]; omega
                · have g1i : ¬ ((target : Int) < (most : Int)) := by omega
                  clear hgo
                  go_wp2_with (at_builtin; refine wpList_app1 wr rfl (.tmp 53) (.tmp 55) 33 rfl w.heap.size 3 Try.underlying33 hi hz0 hz1 hz2 rfl (by decide) A c pre.length (pre.map nv) rfl hown [nv target] 3 1 rfl rfl (by simp [nv]; rfl) hby (by decide) hg.size ?_; intro g1 c1 w6 hO6 hgr hloc hbg1 hlt1)
                  go_roundw
                  case rel =>
                    refine ⟨some ⟨g, if cs' = target then off else off + target, none⟩, some ⟨g1, 0, none⟩, cs' - target, c1, rest.drop target, pre ++ [target], by rw [List.length_drop]; by_cases hcl : cs' = target <;> simp [hcl]; try omega, by simp, by simp; omega, by omega, rd_drop_if hS' _ (by omega) (by omega), fun v hv => hv' v (List.mem_of_mem_drop hv), by simp; omega, Lib.hid ?_, by simpa using hO6, gb_own hg hgr (fun g h => (hown.lt g h).1)⟩
                    rw [hcc2.out]
                    simp
                  case measure => simp [slen]; omega
end Go.Proofs.Ytephnmmbmacbfaa
