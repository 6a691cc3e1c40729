/- The walk of the law WatchNobody. -/
import Derived.Test.YtgadcikgnndmjaaWE
namespace Go.Proofs.Ytgadcikgnndmjaa
set_option linter.unusedVariables false
set_option linter.unusedSimpArgs false
open Go.RowKit Go.Own

/-- A state's name. -/
def nameOf (s : Int) : ByteArray := if s = 0 then ⟨#[116, 104, 101, 114, 101]⟩ else if s = 1 then ⟨#[108, 97, 116, 101]⟩ else if s = 2 then ⟨#[103, 111, 110, 101]⟩ else ⟨#[]⟩

theorem ret_str {a b : ByteArray} (h : a = b) : Ending.returned (.string a) = .returned (.string b) := by rw [h]

set_option maxHeartbeats 800000 in
theorem name_any (s : Int) (w : World) : Calls Try.prog 18 #[.int .i64 s] w fun e w' => e = .returned (.string (nameOf s)) ∧ w = w' := by
  by_cases h0 : s = 0
  · subst h0
    go_enter Try.func18, Try.ntmps18
    go_wp2
    go_ret
    exact ⟨rfl, rfl⟩
  by_cases h1 : s = 1
  · subst h1
    go_enter Try.func18, Try.ntmps18
    go_wp2
    go_ret
    exact ⟨rfl, rfl⟩
  by_cases h2 : s = 2
  · subst h2
    go_enter Try.func18, Try.ntmps18
    go_wp2
    go_ret
    exact ⟨rfl, rfl⟩
  · have b0 : (s == 0) = false := by simpa using h0
    have b1 : (s == 1) = false := by simpa using h1
    have b2 : (s == 2) = false := by simpa using h2
    go_enter Try.func18, Try.ntmps18
    go_wp2
    go_ret
    exact ⟨ret_str (by rw [nameOf, if_neg h0, if_neg h1, if_neg h2]), rfl⟩

/-- What stands behind the first test: the same of every watch. -/
theorem state_cases (s : Int) : s = 0 ∨ s = 1 ∨ s = 2 ∨ s < 0 ∨ 3 ≤ s := by omega

theorem nameOf_far {s : Int} (h : s < 0 ∨ 3 ≤ s) : nameOf s = ⟨#[]⟩ := by
  rw [nameOf, if_neg (by omega), if_neg (by omega), if_neg (by omega)]

set_option maxHeartbeats 3200000 in
set_option maxRecDepth 100000 in
theorem nobody_any (nodes late gone s : Int) (w : World) :
    Calls Try.prog 5 #[.int .i64 nodes, .int .i64 late, .int .i64 gone, .int .i64 s] w fun e w' => e = .returned (.bool true) ∧ w.grownBy w' none := by
  have hnew : Calls Try.prog 7 #[.int .i64 nodes, .int .i64 late, .int .i64 gone] w fun e w' => ∃ (p : Value) (c : Int), e = .returned (.tuple #[p, .int .i64 c]) ∧ w.grownBy w' none ∧ ((rightB nodes late gone = true ∧ c = 0 ∧ ∃ g, p = .pointer (some ⟨g, 0, none⟩)) ∨ (rightB nodes late gone = false ∧ c = 1 ∧ p = .pointer none)) := by
    by_cases h : rightB nodes late gone = true
    · have h' := h
      unfold rightB at h'
      simp only [decide_eq_true_eq] at h'
      obtain ⟨n, rfl⟩ := Int.eq_ofNat_of_zero_le (show 0 ≤ nodes by omega)
      refine (new_yes n late gone w (by omega) (by omega) h'.2.2.1 h'.2.2.2.1 h'.2.2.2.2).mono ?_
      rintro e w1 ⟨g, hb, sb, rfl, _, hg, _, _, _⟩
      exact ⟨_, _, rfl, hg, .inl ⟨h, rfl, g, rfl⟩⟩
    · have h' : rightB nodes late gone = false := by simpa using h
      refine (new_no nodes late gone w h').mono ?_
      rintro e w1 ⟨rfl, rfl⟩
      exact ⟨_, _, rfl, gb_refl _ _, .inr ⟨h', rfl, rfl⟩⟩
  have HN := Lib.hid hnew
  clear hnew
  rcases state_cases s with rfl | rfl | rfl | hs | hs
  all_goals
    go_enter Try.func5, Try.ntmps5
    go_wp2_with fail
    refine (HN.out).mono ?_
    rintro e w1 ⟨p, c, rfl, hg1, h⟩
    rcases h with ⟨hr, rfl, g, rfl⟩ | ⟨hr, rfl, rfl⟩
    all_goals
      clear HN
      go_wp2_with fail
      refine (right_any _ _ _ _).mono ?_
      rintro e w2 ⟨rfl, rfl⟩
      rw [hr]
      clear hr
      go_wp2_with (first
        | (go_at_call 15; refine (now_nil _).mono ?_; rintro e w3 ⟨rfl, rfl⟩)
        | (go_at_call 18; refine (name_any _ _).mono ?_; rintro e w3 ⟨rfl, rfl⟩; (first | rw [show nameOf 0 = ⟨#[116, 104, 101, 114, 101]⟩ from rfl] | rw [show nameOf 1 = ⟨#[108, 97, 116, 101]⟩ from rfl] | rw [show nameOf 2 = ⟨#[103, 111, 110, 101]⟩ from rfl] | rw [nameOf_far (.inl hs)] | rw [nameOf_far (.inr hs)]))
        | (go_at_call 12; refine (len_nil _).mono ?_; rintro e w3 ⟨rfl, rfl⟩)
        | (go_at_call 17; refine (count_nil _ _).mono ?_; rintro e w3 ⟨rfl, rfl⟩)
        | (go_at_call 9; refine (of_nil _ _).mono ?_; rintro e w3 ⟨rfl, rfl⟩)
        | (go_at_call 10; refine (heard_nil _ _).mono ?_; rintro e w3 ⟨rfl, rfl⟩)
        | (go_at_call 8; refine (tick_nil _ _).mono ?_; rintro e w3 ⟨rfl, rfl⟩)
        | (go_at_call 6; refine (awake_any _).mono ?_; rintro e w3 ⟨rfl, hg3⟩))
      go_ret
      exact ⟨rfl, gb_trans (gb_alloc hg1 _) hg3⟩

section
open Go.ChangeShapes Go.WideShapes Go.ChangeAt
variable {H : Type} {enc : TypeId × Value → H}
theorem nobody_main {base : Nat} {v0 v1 v2 v3 : Value} {d0 d1 d2 d3 : DataW H} {p0 p1 p2 p3 : List MemPlace} (W : World)
    (k0 : Value.okWide Try.prog W .any base 3 v0) (h0 : DataW.Trod enc Try.prog W 0 (fun _ => true) true 3 v0 d0 p0)
    (k1 : Value.okWide Try.prog W .any base 3 v1) (h1 : DataW.Trod enc Try.prog W 0 (fun _ => true) true 3 v1 d1 p1)
    (k2 : Value.okWide Try.prog W .any base 3 v2) (h2 : DataW.Trod enc Try.prog W 0 (fun _ => true) true 3 v2 d2 p2)
    (k3 : Value.okWide Try.prog W .any base 3 v3) (h3 : DataW.Trod enc Try.prog W 0 (fun _ => true) true 3 v3 d3 p3) :
    Calls Try.prog 5 #[v0, v1, v2, v3] W fun e w' => e = .returned (.bool true) ∧ W.grownBy w' none := by
  obtain ⟨a0, rfl, _, _, w0⟩ := open_int Try.underlying3 k0 h0
  obtain ⟨a1, rfl, _, _, w1⟩ := open_int Try.underlying3 k1 h1
  obtain ⟨a2, rfl, _, _, w2⟩ := open_int Try.underlying3 k2 h2
  obtain ⟨a3, rfl, _, _, w3⟩ := open_int Try.underlying3 k3 h3
  exact nobody_any _ _ _ _ W
end
end Go.Proofs.Ytgadcikgnndmjaa
