/- The walk of settle: all nodes are thought of anew. -/
import Derived.Test.YtgadcikgnndmjaaWA
namespace Go.Proofs.Ytgadcikgnndmjaa
set_option linter.unusedVariables false
set_option linter.unusedSimpArgs false
open Go.RowKit Go.Own

/-- The states when the first k nodes have been thought of. -/
def mid (late gone now : Int) (hs ss : List Int) (k : Nat) : List Int := (hs.take k).map (thk late gone now) ++ ss.drop k

theorem mid_len {late gone now : Int} {hs ss : List Int} {k : Nat} (hl : ss.length = hs.length) (hk : k ≤ hs.length) : (mid late gone now hs ss k).length = hs.length := by
  simp [mid]; omega

theorem mid_get {late gone now : Int} {hs ss : List Int} {k : Nat} (hl : ss.length = hs.length) (hk : k < hs.length) : (mid late gone now hs ss k).getD k 0 = ss.getD k 0 := by
  simp [mid, List.getD_eq_getElem?_getD]
  rw [List.getElem?_append_right (by simp; omega)]
  simp [List.length_take, Nat.min_eq_left (Nat.le_of_lt hk)]

theorem mid_set {late gone now : Int} {hs ss : List Int} {k : Nat} (hl : ss.length = hs.length) (hk : k < hs.length) :
    (mid late gone now hs ss k).set k (thk late gone now (hs.getD k 0)) = mid late gone now hs ss (k + 1) := by
  have hk2 : k < ss.length := by omega
  have e2 : hs.getD k 0 = hs[k] := by simp [hk]
  have hd : ss.drop k = ss[k] :: ss.drop (k + 1) := List.drop_eq_getElem_cons hk2
  unfold mid
  rw [List.take_succ_eq_append_getElem hk, List.map_append, e2, List.set_append_right _ _ (by simp; omega)]
  have e3 : k - ((hs.take k).map (thk late gone now)).length = 0 := by simp [Nat.min_eq_left (Nat.le_of_lt hk)]
  rw [e3, hd, List.set_cons_zero]
  simp

theorem mid_all {late gone now : Int} {hs ss : List Int} (hl : ss.length = hs.length) : mid late gone now hs ss hs.length = hs.map (thk late gone now) := by
  rw [mid, List.take_of_length_le (Nat.le_refl _), List.drop_eq_nil_of_le (by omega), List.append_nil]

/-- Has one of the first k nodes' states turned? -/
def turnB (late gone now : Int) (hs ss : List Int) (k : Nat) : Bool := decide ((hs.take k).map (thk late gone now) ≠ ss.take k)

theorem turn_succ {late gone now : Int} {hs ss : List Int} {k : Nat} (hl : ss.length = hs.length) (hk : k < hs.length) :
    turnB late gone now hs ss (k + 1) = (turnB late gone now hs ss k || (thk late gone now (hs.getD k 0) != ss.getD k 0)) := by
  have hk2 : k < ss.length := by omega
  unfold turnB
  rw [List.take_succ_eq_append_getElem hk, List.take_succ_eq_append_getElem hk2]
  have e1 : hs.getD k 0 = hs[k] := by simp [hk]
  have e2 : ss.getD k 0 = ss[k] := by simp [hk2]
  rw [e1, e2, List.map_append]
  rw [Bool.eq_iff_iff]
  simp only [List.map_cons, List.map_nil, decide_eq_true_eq, Bool.or_eq_true, bne_iff_ne, ne_eq]
  have hlen : ((hs.take k).map (thk late gone now)).length = (ss.take k).length := by simp; omega
  constructor
  · intro h
    by_cases h1 : (hs.take k).map (thk late gone now) = ss.take k
    · right
      intro h2
      exact h (by rw [h1, h2])
    · exact .inl h1
  · intro h h3
    have h4 := List.append_inj h3 hlen
    rcases h with h | h
    · exact h h4.1
    · exact h (by simpa using h4.2)

/-- How often states have turned, behind it. -/
def epn (late gone now epoch : Int) (hs ss : List Int) : Int := if turnB late gone now hs ss hs.length then epoch + 1 else epoch

section
variable (g hb sb : Nat) (late gone now epoch : Int) (hs ss : List Int) (w : World)

set_option maxHeartbeats 1600000 in
theorem settle_any (h : IsW w g hb sb late gone now epoch hs ss) (hl : hs.length ≤ 32) (hn : 0 ≤ now ∧ now ≤ 1099511627776) (hh : ∀ k, k < hs.length → 0 ≤ hs.getD k 0 ∧ hs.getD k 0 ≤ now) (he : 0 ≤ epoch ∧ epoch ≤ 1000000) :
    Calls Try.prog 19 #[.pointer (some ⟨g, 0, none⟩)] w fun e w' => e = .returned (.tuple #[]) ∧
      IsW w' g hb sb late gone now (epn late gone now epoch hs ss) hs (hs.map (thk late gone now)) ∧ Tch (WS g hb sb) w w' := by
  have c5 := h.1.cell 5 rfl
  have hlen := Lib.hid h.2.2.2
  obtain ⟨he0, he1⟩ := he
  go_enter Try.func19, Try.ntmps19
  go_wp2_with fail
  go_loopw [2, 10] (fun v2 v10 wi => ∃ (k : Nat) (tb : Bool), v2 = .bool tb ∧ Hid (tb = turnB late gone now hs ss k) ∧ v10 = .int .i64 k ∧ k ≤ hs.length ∧ IsW wi g hb sb late gone now epoch hs (mid late gone now hs ss k) ∧ Tch (WS g hb sb) w wi)
    (fun _ v10 _ => hs.length - (intOf v10).toNat)
  case atStart => exact ⟨0, false, rfl, Lib.hid (by simp [turnB]), rfl, Nat.zero_le _, by simpa [mid] using h, tch_refl _ _⟩
  case round =>
    obtain ⟨k, tb, rfl, htb, rfl, hk, hi, ht⟩ := hrel
    by_cases hlt : k < hs.length
    · have hkk := hh k hlt
      go_wp2_with fail
      refine (think_any _ _ _ _ _ _ _ _ _ _ k hi hlt (by omega) hn hkk).mono ?_
      rintro e w1 ⟨rfl, hg1⟩
      have hi1 := hi.later hg1
      have d5 := hi1.1.cell 5 rfl
      have hm := mid_len (late := late) (gone := gone) (now := now) (k := k) hlen.out hk
      have ck := hi1.2.2.1.cell (k := k) (by omega)
      have fk := hi1.2.2.1.free k
      rw [mid_get hlen.out hlt] at ck
      have hts := turn_succ (late := late) (gone := gone) (now := now) hlen.out hlt
      have HM := Lib.hid hm
      have HT := Lib.hid hts
      have hset := hi1.2.2.1.set k (thk late gone now (hs.getD k 0))
      rw [mid_set hlen.out hlt] at hset
      clear hm hts
      have hne1 : g ≠ sb := hi1.1.ne_type hi1.2.2.1 (by decide)
      have hne2 : hb ≠ sb := Blk.ne_type hi1.2.1 hi1.2.2.1 (by decide)
      have hlen1 := mid_len (late := late) (gone := gone) (now := now) (k := k + 1) hlen.out hlt
      have HL1 := Lib.hid hlen1
      clear hlen1 hkk hh
      generalize hs.getD k 0 = x at *
      generalize ss.getD k 0 = y at *
      cases tb
      all_goals
        go_wp2_with fail
        go_roundw
        case rel =>
          refine ⟨k + 1, _, rfl, Lib.hid ?_, by go_num, by omega, ⟨hi1.1.other hne1, Blk.other hi1.2.1 hne2, hset, HL1.out⟩, tch_set (tch_trans ht (tch_gb hg1)) (.inl (.inr (.inr rfl)))⟩
          rw [HT.out, ← htb.out]; simp
        case measure => simp [intOf]; omega
    · have hkl : k = hs.length := by omega
      subst hkl
      have c3 := hi.1.cell 3 rfl
      have f3 := hi.1.free 3
      rw [mid_all hlen.out] at hi
      cases tb
      · have he : epn late gone now epoch hs ss = epoch := by rw [epn, ← htb.out]; rfl
        have HE := Lib.hid he
        clear he
        go_wp2_with fail
        go_end0
        exact ⟨rfl, by rw [HE.out]; exact hi, ht⟩
      · have he : epn late gone now epoch hs ss = epoch + 1 := by rw [epn, ← htb.out]; rfl
        have HE := Lib.hid he
        clear he
        go_wp2_with fail
        go_end0
        rw [HE.out]
        refine ⟨rfl, ⟨?_, Blk.other hi.2.1 (hi.1.ne_type hi.2.1 (by decide)).symm, Blk.other hi.2.2.1 (hi.1.ne_type hi.2.2.1 (by decide)).symm, hi.2.2.2⟩, tch_set ht (.inl (.inl rfl))⟩
        have := hi.1.set 3 (.int .i64 (epoch + 1))
        simpa using this
end
end Go.Proofs.Ytgadcikgnndmjaa
