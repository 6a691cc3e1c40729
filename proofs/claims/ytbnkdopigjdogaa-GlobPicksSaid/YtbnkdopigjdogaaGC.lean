/- The walk of glob's fits. -/
import Derived.Test.YtbnkdopigjdogaaGS
namespace Go.Proofs.Ytbnkdopigjdogaa
set_option linter.unusedVariables false
set_option linter.unusedSimpArgs false
open Go.RowKit Go.Own Go.Glob

section
variable {w : World} {g : Nat} {p : Part}
theorem pblk_kind (h : Blk w g (pA p) 41) : w.cell? ⟨g, 0, none⟩ = some (.int .i64 (p.kind : Int)) := h.cell 0 (by simp [pA, pL])
theorem pblk_byte (h : Blk w g (pA p) 41) : w.cell? ⟨g, 1, none⟩ = some (.int .u8 (p.byte : Int)) := h.cell 1 (by simp [pA, pL])
theorem pblk_neg (h : Blk w g (pA p) 41) : w.cell? ⟨g, 2, none⟩ = some (.bool p.neg) := h.cell 2 (by simp [pA, pL])
theorem pblk_set (h : Blk w g (pA p) 41) (c : Nat) (hc : c < 256) : w.cell? ⟨g, 3 + c, none⟩ = some (.bool (p.set c)) := h.cell (3 + c) (by
  have := pL_set p c hc
  simpa [pA] using this)
end

theorem beq_cast (a b : Nat) : ((a : Int) == (b : Int)) = (a == b) := by
  by_cases h : a = b
  · subst h; simp
  · have h1 : (a == b) = false := by simpa using h
    have h2 : ((a : Int) == (b : Int)) = false := by simp; omega
    rw [h1, h2]

set_option maxHeartbeats 1600000 in
theorem fits_any (p : Part) (c : Nat) (w : World) (hc : c < 256) :
    Calls Try.prog 16 #[.agg (pA p), .int .u8 c] w fun e w' => e = .returned (.bool (fits p c)) ∧ w.grownBy w' none := by
  have hB := Blk.new w (pA p) 41
  have hg := gb_alloc (gb_refl w none) (.cells (pA p) 41)
  have k0 := pblk_kind hB
  have k1 := pblk_byte hB
  have k2 := pblk_neg hB
  have k3 := pblk_set hB c hc
  obtain ⟨kind, byte, neg, set⟩ := p
  dsimp only at k0 k1 k2 k3
  unfold fits
  dsimp only
  generalize pA ⟨kind, byte, neg, set⟩ = cs at *
  by_cases h0 : kind = 0
  · subst h0
    rw [if_pos rfl]
    go_enter Try.func16, Try.ntmps16
    go_wp2_with fail
    go_ret
    exact ⟨ret_bool (beq_cast _ _), hg⟩
  · rw [if_neg h0]
    have b0 : ((kind : Int) == 0) = false := by simp; omega
    by_cases h1 : kind = 1
    · subst h1
      rw [if_pos rfl]
      go_enter Try.func16, Try.ntmps16
      go_wp2_with fail
      go_ret
      exact ⟨rfl, hg⟩
    · rw [if_neg h1]
      have b1 : ((kind : Int) == 1) = false := by simp; omega
      by_cases h3 : kind = 3
      · subst h3
        rw [if_pos rfl]
        have hci : (c : Int) < 256 := by omega
        go_enter Try.func16, Try.ntmps16
        go_wp2_with fail
        go_quiet (fail)
        go_wp2_with fail
        go_ret
        exact ⟨rfl, gb_drewN hg _⟩
      · rw [if_neg h3]
        have b3 : ((kind : Int) == 3) = false := by simp; omega
        clear h0 h1 h3
        go_enter Try.func16, Try.ntmps16
        go_wp2_with fail
        go_ret
        exact ⟨rfl, hg⟩
end Go.Proofs.Ytbnkdopigjdogaa
