/- The walks of package watch: a watch that lies in block g, its two rows in blocks hb and sb. -/
import Derived.Test.YtgadcikgnndmjaaProg
import Derived.Test.YtgadcikgnndmjaaBase
import Derived.RegionTactic
namespace Go.Proofs.Ytgadcikgnndmjaa
set_option linter.unusedVariables false
set_option linter.unusedSimpArgs false
open Go.RowKit Go.Own

/-- A row of whole numbers that is all of a block. -/
def Row (w : World) (b : Nat) (xs : List Int) (t : TypeId) : Prop := Blk w b (xs.map (Value.int .i64)).toArray t

theorem Row.cell {w : World} {b : Nat} {xs : List Int} {t : TypeId} (h : Row w b xs t) {k : Nat} (hk : k < xs.length) : w.cell? ⟨b, k, none⟩ = some (.int .i64 (xs.getD k 0)) :=
  Blk.cell h k (by simp [hk])
theorem Row.free {w : World} {b : Nat} {xs : List Int} {t : TypeId} (h : Row w b xs t) (k : Nat) : w.frozen? ⟨b, k, none⟩ = false := Blk.free h k
theorem Row.set {w : World} {b : Nat} {xs : List Int} {t : TypeId} (h : Row w b xs t) (k : Nat) (v : Int) : Row (w.setCell ⟨b, k, none⟩ (.int .i64 v)) b (xs.set k v) t := by
  have := Blk.set h k (.int .i64 v)
  unfold Row
  simpa [List.map_set] using this

/-- A watch. -/
def IsW (w : World) (g hb sb : Nat) (late gone now epoch : Int) (hs ss : List Int) : Prop :=
  Blk w g #[.int .i64 late, .int .i64 gone, .int .i64 now, .int .i64 epoch, .slice (some ⟨hb, 0, none⟩) hs.length hs.length, .slice (some ⟨sb, 0, none⟩) hs.length hs.length] 52 ∧ Row w hb hs 3 ∧ Row w sb ss 29 ∧ ss.length = hs.length

/-- Its blocks. -/
def WS (g hb sb : Nat) (k : Nat) : Prop := k = g ∨ k = hb ∨ k = sb

/-- What is to be thought. -/
def thk (late gone now h : Int) : Int := if gone ≤ now - h then 2 else if late ≤ now - h then 1 else 0

theorem IsW.tch {S : Nat → Prop} {w w' : World} {g hb sb : Nat} {late gone now epoch : Int} {hs ss : List Int} (h : IsW w g hb sb late gone now epoch hs ss) (ht : Tch S w w') (h1 : ¬ S g) (h2 : ¬ S hb) (h3 : ¬ S sb) : IsW w' g hb sb late gone now epoch hs ss :=
  ⟨h.1.tch ht h1, Blk.tch h.2.1 ht h2, Blk.tch h.2.2.1 ht h3, h.2.2.2⟩

theorem IsW.later {w w' : World} {g hb sb : Nat} {late gone now epoch : Int} {hs ss : List Int} (h : IsW w g hb sb late gone now epoch hs ss) (ht : w.grownBy w' none) : IsW w' g hb sb late gone now epoch hs ss :=
  h.tch (S := fun _ => False) (tch_gb ht) (by simp) (by simp) (by simp)

section
variable (g hb sb : Nat) (late gone now epoch : Int) (hs ss : List Int) (w : World)

set_option maxHeartbeats 400000 in
theorem len_nil : Calls Try.prog 12 #[.pointer none] w fun e w' => e = .returned (.int .i64 0) ∧ w = w' := by
  go_enter Try.func12, Try.ntmps12
  go_wp2
  go_ret
  exact ⟨rfl, rfl⟩

set_option maxHeartbeats 400000 in
theorem len_any (h : IsW w g hb sb late gone now epoch hs ss) : Calls Try.prog 12 #[.pointer (some ⟨g, 0, none⟩)] w fun e w' => e = .returned (.int .i64 hs.length) ∧ w = w' := by
  have c4 := h.1.cell 4 rfl
  go_enter Try.func12, Try.ntmps12
  go_wp2
  go_ret
  exact ⟨rfl, rfl⟩

set_option maxHeartbeats 400000 in
theorem now_nil : Calls Try.prog 15 #[.pointer none] w fun e w' => e = .returned (.tuple #[.int .i64 0, .int .i64 0]) ∧ w = w' := by
  go_enter Try.func15, Try.ntmps15
  go_wp2
  go_ret2
  exact ⟨rfl, rfl⟩

set_option maxHeartbeats 400000 in
theorem now_any (h : IsW w g hb sb late gone now epoch hs ss) : Calls Try.prog 15 #[.pointer (some ⟨g, 0, none⟩)] w fun e w' => e = .returned (.tuple #[.int .i64 now, .int .i64 epoch]) ∧ w.grownBy w' none := by
  have c2 := h.1.cell 2 rfl
  have c3 := h.1.cell 3 rfl
  go_enter Try.func15, Try.ntmps15
  go_wp2
  go_quiet (fail)
  go_wp2
  go_ret2
  exact ⟨rfl, gb_drewN (gb_refl _ _) _⟩

set_option maxHeartbeats 400000 in
theorem of_nil (k : Int) : Calls Try.prog 9 #[.pointer none, .int .i64 k] w fun e w' => e = .returned (.int .i64 2) ∧ w = w' := by
  by_cases hk : k < 0
  · go_enter Try.func9, Try.ntmps9
    go_wp2
    go_ret
    exact ⟨rfl, rfl⟩
  · go_enter Try.func9, Try.ntmps9
    go_wp2_with (go_at_call 12; refine (len_nil _).mono ?_; rintro e w' ⟨rfl, rfl⟩)
    go_ret
    exact ⟨rfl, rfl⟩

/-- What is told of a node. -/
def ofN (ss : List Int) (k : Int) : Int := if k < 0 ∨ ss.length ≤ k then 2 else ss.getD k.toNat 0

set_option maxHeartbeats 800000 in
theorem of_any (k : Int) (h : IsW w g hb sb late gone now epoch hs ss) (hl : hs.length ≤ 9223372036854775807) : Calls Try.prog 9 #[.pointer (some ⟨g, 0, none⟩), .int .i64 k] w fun e w' => e = .returned (.int .i64 (ofN ss k)) ∧ w = w' := by
  have hlen := h.2.2.2
  by_cases hk : k < 0
  · go_enter Try.func9, Try.ntmps9
    go_wp2
    go_ret
    exact ⟨ret_int (by rw [ofN, if_pos (.inl hk)]), rfl⟩
  by_cases hk2 : (hs.length : Int) ≤ k
  · have HL := Lib.hid hlen
    clear hlen
    go_enter Try.func9, Try.ntmps9
    go_wp2_with (go_at_call 12; refine (len_any _ _ _ _ _ _ _ _ _ _ h).mono ?_; rintro e w' ⟨rfl, rfl⟩)
    go_ret
    exact ⟨ret_int (by rw [ofN, if_pos (.inr (by rw [HL.out]; exact hk2))]), rfl⟩
  · obtain ⟨j, rfl⟩ := Int.eq_ofNat_of_zero_le (show 0 ≤ k by omega)
    have hj : j < hs.length := by omega
    have c5 := h.1.cell 5 rfl
    have cj := h.2.2.1.cell (k := j) (by omega)
    have HL := Lib.hid hlen
    clear hlen
    go_enter Try.func9, Try.ntmps9
    go_wp2_with (go_at_call 12; refine (len_any _ _ _ _ _ _ _ _ _ _ h).mono ?_; rintro e w' ⟨rfl, rfl⟩)
    go_ret
    exact ⟨ret_int (by rw [ofN, if_neg (by rw [HL.out]; omega)]; simp), rfl⟩

set_option maxHeartbeats 800000 in
theorem think_any (k : Nat) (h : IsW w g hb sb late gone now epoch hs ss) (hk : k < hs.length) (hl : hs.length ≤ 9223372036854775807) (hn : 0 ≤ now ∧ now ≤ 1099511627776) (hh : 0 ≤ hs.getD k 0 ∧ hs.getD k 0 ≤ now) :
    Calls Try.prog 21 #[.pointer (some ⟨g, 0, none⟩), .int .i64 k] w fun e w' => e = .returned (.int .i64 (thk late gone now (hs.getD k 0))) ∧ w.grownBy w' none := by
  have c0 := h.1.cell 0 rfl
  have c1 := h.1.cell 1 rfl
  have c2 := h.1.cell 2 rfl
  have c4 := h.1.cell 4 rfl
  have ck := h.2.1.cell hk
  obtain ⟨hn0, hn1⟩ := hn
  obtain ⟨hh0, hh1⟩ := hh
  generalize hs.getD k 0 = x at *
  have hk0 : (0 : Int) ≤ (k : Int) := Int.natCast_nonneg _
  have hk1 : (k : Int) < (hs.length : Int) := by omega
  by_cases h1 : gone ≤ now - x
  · go_enter Try.func21, Try.ntmps21
    go_wp2
    go_quiet (fail)
    go_wp2
    go_ret
    exact ⟨ret_int (by rw [thk, if_pos h1]), gb_drewN (gb_refl _ _) _⟩
  by_cases h2 : late ≤ now - x
  · go_enter Try.func21, Try.ntmps21
    go_wp2
    go_quiet (fail)
    go_wp2
    go_ret
    exact ⟨ret_int (by rw [thk, if_neg (by omega), if_pos h2]), gb_drewN (gb_refl _ _) _⟩
  · go_enter Try.func21, Try.ntmps21
    go_wp2
    go_quiet (fail)
    go_wp2
    go_ret
    exact ⟨ret_int (by rw [thk, if_neg (by omega), if_neg (by omega)]), gb_drewN (gb_refl _ _) _⟩
end
end Go.Proofs.Ytgadcikgnndmjaa
