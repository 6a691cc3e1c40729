/- The walks of package purse: what each method does to a purse that lies in block g. -/
import Derived.Test.YtbnpmhlfbpoaaaaProg
import Derived.Test.YtbnpmhlfbpoaaaaBase
namespace Go.Proofs.Ytbnpmhlfbpoaaaa
set_option linter.unusedVariables false
set_option linter.unusedSimpArgs false
open Go.RowKit Go.Own

/-- A purse in block g. -/
def IsPurse (w : World) (g : Nat) (rate burst level spent : Int) : Prop :=
  Blk w g #[.int .u64 rate, .int .u64 burst, .int .u64 level, .int .u64 spent] 49

/-- As far as numbers go. -/
def sat (x : Int) : Int := if x ≤ 18446744073709551615 then x else 18446744073709551615

/-- A number of 64 bits. -/
def U (x : Int) : Prop := 0 ≤ x ∧ x ≤ 18446744073709551615

theorem sat_U {x : Int} (h : 0 ≤ x) : U (sat x) := by unfold U sat; split <;> omega

set_option maxHeartbeats 400000 in
theorem plus_any (a b : Int) (w : World) (ha : U a) (hb : U b) :
    Calls Try.prog 19 #[.int .u64 a, .int .u64 b] w fun e w' => e = .returned (.int .u64 (sat (a + b))) ∧ w = w' := by
  obtain ⟨ha0, ha1⟩ := ha
  obtain ⟨hb0, hb1⟩ := hb
  by_cases h : a + b ≤ 18446744073709551615
  · go_enter Try.func19, Try.ntmps19
    go_wp2
    go_ret
    exact ⟨ret_int (by unfold sat; omega), rfl⟩
  · go_enter Try.func19, Try.ntmps19
    go_wp2
    go_ret
    exact ⟨ret_int (by unfold sat; omega), rfl⟩

theorem div_gt {a b M : Int} (ha : 0 < a) : M / a < b ↔ M < a * b := by
  rw [Int.ediv_lt_iff_lt_mul ha, Int.mul_comm]

set_option maxHeartbeats 400000 in
theorem times_any (a b : Int) (w : World) (ha : U a) (hb : U b) :
    Calls Try.prog 23 #[.int .u64 a, .int .u64 b] w fun e w' => e = .returned (.int .u64 (sat (a * b))) ∧ w = w' := by
  obtain ⟨ha0, ha1⟩ := ha
  obtain ⟨hb0, hb1⟩ := hb
  have hab : 0 ≤ a * b := Int.mul_nonneg ha0 hb0
  by_cases h : a = 0
  · subst h
    go_enter Try.func23, Try.ntmps23
    go_wp2
    go_ret
    exact ⟨ret_int (by unfold sat; simp), rfl⟩
  · have h1 : 1 ≤ a := by omega
    have hd := div_gt (M := 18446744073709551615) (a := a) (b := b) (by omega)
    have hd2 : 18446744073709551615 / a ≤ 18446744073709551615 := Int.ediv_le_self _ (by omega)
    have hd3 : 0 ≤ 18446744073709551615 / a := Int.ediv_nonneg (by omega) (by omega)
    by_cases h2 : 18446744073709551615 / a < b
    · have h3 := hd.1 h2
      clear hd
      go_enter Try.func23, Try.ntmps23
      go_wp2
      go_ret
      exact ⟨ret_int (by unfold sat; omega), rfl⟩
    · have h3 : a * b ≤ 18446744073709551615 := by have := mt hd.2 h2; omega
      clear hd
      go_enter Try.func23, Try.ntmps23
      go_wp2
      go_ret
      exact ⟨ret_int (by unfold sat; omega), rfl⟩

set_option maxHeartbeats 400000 in
theorem new_no (rate burst : Int) (w : World) (h : 1152921504606846976 < rate ∨ 1152921504606846976 < burst) :
    Calls Try.prog 7 #[.int .u64 rate, .int .u64 burst] w fun e w' => e = .returned (.tuple #[.pointer none, .int .i64 1]) ∧ w = w' := by
  by_cases h1 : 1152921504606846976 < rate
  · clear h
    go_enter Try.func7, Try.ntmps7
    go_wp2
    go_ret2
    exact ⟨rfl, rfl⟩
  · have h2 : 1152921504606846976 < burst := by omega
    clear h
    go_enter Try.func7, Try.ntmps7
    go_wp2
    go_ret2
    exact ⟨rfl, rfl⟩

set_option maxHeartbeats 400000 in
theorem new_yes (rate burst : Int) (w : World) (h1 : rate ≤ 1152921504606846976) (h2 : burst ≤ 1152921504606846976) :
    Calls Try.prog 7 #[.int .u64 rate, .int .u64 burst] w fun e w' => e = .returned (.tuple #[.pointer (some ⟨w.heap.size, 0, none⟩), .int .i64 0]) ∧ IsPurse w' w.heap.size rate burst burst 0 ∧ w.grownBy w' none := by
  go_enter Try.func7, Try.ntmps7
  go_wp2
  go_ret2
  exact ⟨rfl, Blk.new _ _ _, gb_alloc (gb_refl _ _) _⟩

section
variable (g : Nat) (rate burst level spent n : Int) (w : World)

set_option maxHeartbeats 400000 in
theorem spend_no (h : IsPurse w g rate burst level spent) (hn : level < n) :
    Calls Try.prog 8 #[.pointer (some ⟨g, 0, none⟩), .int .u64 n] w fun e w' => e = .returned (.bool false) ∧ w = w' := by
  have c2 := h.cell 2 rfl
  go_enter Try.func8, Try.ntmps8
  go_wp2
  go_ret
  exact ⟨rfl, rfl⟩

set_option maxHeartbeats 400000 in
theorem spend_nil : Calls Try.prog 8 #[.pointer none, .int .u64 n] w fun e w' => e = .returned (.bool false) ∧ w = w' := by
  go_enter Try.func8, Try.ntmps8
  go_wp2
  go_ret
  exact ⟨rfl, rfl⟩

set_option maxHeartbeats 400000 in
theorem spend_yes (h : IsPurse w g rate burst level spent) (hn : n ≤ level) (n0 : 0 ≤ n) (hl : U level) (hs : U spent) :
    Calls Try.prog 8 #[.pointer (some ⟨g, 0, none⟩), .int .u64 n] w fun e w' =>
      e = .returned (.bool true) ∧ IsPurse w' g rate burst (level - n) (sat (spent + n)) ∧ w.grownBy w' (some g) := by
  have c2 := h.cell 2 rfl
  have c3 := h.cell 3 rfl
  have f2 := h.free 2
  have f3 := h.free 3
  have hU : U n := ⟨n0, by have := hl.2; omega⟩
  obtain ⟨hl0, hl1⟩ := hl
  go_enter Try.func8, Try.ntmps8
  go_wp2_with (go_at_call 19; refine (plus_any _ _ _ hs hU).mono ?_; rintro e w' ⟨rfl, rfl⟩)
  go_ret
  exact ⟨rfl, (h.set 2 _).set 3 _, gb_set (gb_set (gb_refl _ _))⟩

set_option maxHeartbeats 400000 in
theorem wait_nil : Calls Try.prog 10 #[.pointer none, .int .u64 n] w fun e w' => e = .returned (.tuple #[.int .u64 0, .bool false]) ∧ w = w' := by
  go_enter Try.func10, Try.ntmps10
  go_wp2
  go_ret2
  exact ⟨rfl, rfl⟩

/-- What Wait tells. -/
def waitN (rate burst level n : Int) : Int := if burst < n then 0 else if n ≤ level then 0 else if rate = 0 then 0 else (n - level - 1) / rate + 1
def waitB (rate burst level n : Int) : Bool := if burst < n then false else if n ≤ level then true else if rate = 0 then false else true

set_option maxHeartbeats 800000 in
theorem wait_any (h : IsPurse w g rate burst level spent) (hr : 0 ≤ rate) (hl : 0 ≤ level) (hb : burst ≤ 1152921504606846976) :
    Calls Try.prog 10 #[.pointer (some ⟨g, 0, none⟩), .int .u64 n] w fun e w' =>
      e = .returned (.tuple #[.int .u64 (waitN rate burst level n), .bool (waitB rate burst level n)]) ∧ w.grownBy w' none := by
  have c0 := h.cell 0 rfl
  have c1 := h.cell 1 rfl
  have c2 := h.cell 2 rfl
  clear h
  by_cases h1 : burst < n
  · go_enter Try.func10, Try.ntmps10
    go_wp2
    go_ret2
    exact ⟨ret_int_bool (by simp [waitN, h1]) (by simp [waitB, h1]), gb_refl _ _⟩
  by_cases h2 : n ≤ level
  · go_enter Try.func10, Try.ntmps10
    go_wp2
    go_ret2
    exact ⟨ret_int_bool (by simp [waitN, h1, h2]) (by simp [waitB, h1, h2]), gb_refl _ _⟩
  by_cases h3 : rate = 0
  · subst h3
    go_enter Try.func10, Try.ntmps10
    go_wp2
    go_ret2
    exact ⟨ret_int_bool (by simp [waitN]) (by simp [waitB, h1, h2]), gb_refl _ _⟩
  · have hr1 : 1 ≤ rate := by omega
    have hq0 : 0 ≤ (n - level - 1) / rate := Int.ediv_nonneg (by omega) (by omega)
    have hq1 : (n - level - 1) / rate ≤ n - level - 1 := Int.ediv_le_self _ (by omega)
    go_enter Try.func10, Try.ntmps10
    go_wp2
    go_quiet (fail)
    go_wp2
    go_ret2
    exact ⟨ret_int_bool (by rw [waitN, if_neg (by omega), if_neg (by omega), if_neg (by omega)]) (by rw [waitB, if_neg (by omega), if_neg (by omega), if_neg (by omega)]), gb_drewN (gb_refl _ _) _⟩
end
end Go.Proofs.Ytbnpmhlfbpoaaaa
