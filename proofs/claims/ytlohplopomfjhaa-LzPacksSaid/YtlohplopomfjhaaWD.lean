/- The walks of the document's rows of bits, and what a writer tells. -/
import Derived.Test.YtlohplopomfjhaaWC
namespace Go.Proofs.Ytlohplopomfjhaa
set_option linter.unusedVariables false
set_option linter.unusedSimpArgs false
open Go.RowKit Go.Own Go.Bits

theorem bools_one {l : List Bool} : ∀ u ∈ l.map Value.bool, u.oneCell' = true := by
  intro u hu
  obtain ⟨x, _, rfl⟩ := List.mem_map.1 hu
  rfl

section
variable (g : Nat) (A : Option Addr) (c : Nat) (l : List Bool) (w : World)
set_option maxHeartbeats 400000 in
theorem len_nil : Calls Try.prog 12 #[.pointer none] w fun e w' => e = .returned (.int .i64 0) ∧ w = w' := by
  go_enter Try.func12, Try.ntmps12
  go_wp2
  go_ret
  exact ⟨rfl, rfl⟩

set_option maxHeartbeats 400000 in
theorem len_any (h : Wr w g A c l) : Calls Try.prog 12 #[.pointer (some ⟨g, 0, none⟩)] w fun e w' => e = .returned (.int .i64 l.length) ∧ w = w' := by
  have c1 := h.1.cell 1 rfl
  go_enter Try.func12, Try.ntmps12
  go_wp2
  go_ret
  exact ⟨rfl, rfl⟩

set_option maxHeartbeats 400000 in
theorem bytes_nil : Calls Try.prog 13 #[.pointer none] w fun e w' => e = .returned (.slice none 0 0) ∧ w = w' := by
  go_enter Try.func13, Try.ntmps13
  go_wp2
  go_ret
  exact ⟨rfl, rfl⟩

/-- What a call gives: a row of its own. -/
def Gives (w : World) (e size n : Nat) (xs : List Value) (en : Ending) (w' : World) : Prop :=
  ∃ A c, en = .returned (.slice A n c) ∧ Own w' w.heap.size e size A c n xs ∧ w.grownBy w' none

set_option maxHeartbeats 800000 in
theorem bytes_any (h : Wr w g A c l) (hl : l.length ≤ 1000000) : Calls Try.prog 13 #[.pointer (some ⟨g, 0, none⟩)] w (Gives w 5 1 (pk l).length ((pk l).map bv)) := by
  obtain ⟨it, hi, hz0, hz1, hz2⟩ := info_parts info5
  have hpl := pk_len l
  have hsrc : Rd (w.alloc (.cells #[] 5)) w.heap.size 1 A (pk l).length ((pk l).map bv) := h.2.rd.later (gb_alloc (gb_refl _ _) _) (Nat.le_refl _)
  have hown : Own (w.alloc (.cells #[] 5)) w.heap.size 5 1 (some ⟨w.heap.size, 0, none⟩) 0 0 [] := by
    have h := Own.of_blk (base := w.heap.size) (size := 1) (n := 0) (c := 0) (Blk.new w #[] 5) (Nat.le_refl _) (by simp [maxLen]) (by omega) (by simp)
    simpa using h
  have hb63 : 0 + (pk l).length ≤ maxLen := by simp only [maxLen]; omega
  have hby : (0 + (pk l).length) * 1 ≤ 140737488355328 := by omega
  have hbs : w.heap.size ≤ (w.alloc (.cells #[] 5)).heap.size := by simp
  have c0 := (h.1.alloc (.cells #[] 5)).cell 0 rfl
  clear hpl
  go_enter Try.func13, Try.ntmps13
  go_wp2_with (
    at_builtin
    refine wpList_appN (w.alloc (.cells #[] 5)) rfl (.tmp 5) (.tmp 9) 24 rfl w.heap.size 5 Try.underlying24 hi hz0 hz1 hz2 rfl (by decide) (some ⟨w.heap.size, 0, none⟩) 0 0 [] rfl hown w.heap.size A (pk l).length c ((pk l).map bv) rfl hsrc bv_one hb63 hby hbs ?_
    intro A2 c2 w2 hO2 hgr hloc)
  go_ret
  have e0 : 0 + (pk l).length = (pk l).length := by omega
  rw [e0, List.nil_append] at hO2
  exact ⟨A2, c2, rfl, hO2, gb_own (gb_alloc (gb_refl _ _) _) hgr (fun g hg => by simp [blk] at hg; omega)⟩
end

set_option maxHeartbeats 1600000 in
theorem rbits_any (x : Nat) (n : Int) (w : World) (hx : x < 18446744073709551616) :
    Calls Try.prog 30 #[.int .u64 x, .int .i64 n] w (Gives w 4 1 (nb n) ((bitsN x (nb n)).map .bool)) := by
  obtain ⟨it, hi, hz0, hz1, hz2⟩ := info_parts info4
  have hx2 : (x : Int) ≤ 18446744073709551615 := by omega
  obtain ⟨M, hM⟩ : ∃ M : Nat, M = nb n := ⟨_, rfl⟩
  rw [← hM]
  have hM64 : M ≤ 64 := by rw [hM]; exact nb_le n
  rcases nb_cases n with ⟨h1, h2⟩ | ⟨m, rfl, h1, h2⟩ | ⟨h1, h2⟩
  · rw [h2] at hM
    clear h2
    subst hM
    clear hM64
    go_enter Try.func30, Try.ntmps30
    go_wp2_with fail
    go_loopw [0, 5, 6] (fun v0 v5 v6 wi => ∃ (k y : Nat) (A : Option Addr) (c : Nat), v0 = .int .u64 y ∧ v5 = .slice A k c ∧ v6 = .int .i64 k ∧ y = x / 2 ^ k ∧ k ≤ 0 ∧ Own wi w.heap.size 4 1 A c k ((bitsN x k).map .bool) ∧ w.grownBy wi none)
      (fun _ _ v6 _ => 0 - (intOf v6).toNat)
    case atStart => exact ⟨0, x, none, 0, rfl, rfl, rfl, by simp, Nat.zero_le _, Own.nil _ _ _ _, gb_refl _ _⟩
    case round =>
      obtain ⟨k, y, A, c, rfl, rfl, rfl, hy, hk, hO, hg⟩ := hrel
      have hyx : y ≤ x := by rw [hy]; exact Nat.div_le_self _ _
      have HY := Lib.hid hy
      clear hy
      by_cases hkm : k < 0
      · first
          | (exfalso; omega)
          | (
            have hk64 : (k : Int) < 64 := by omega
            have hs := hg.size
            have hby : (k + 1) * 1 ≤ 140737488355328 := by omega
            have hone : ∀ u ∈ [Value.bool ((y : Int) % 2 == 1)], u.oneCell' = true := by intro u hu; simp at hu; subst hu; rfl
            go_wp2_with (
              at_builtin
              refine wpList_app1 wr rfl (.tmp 16) (.tmp 20) 27 rfl w.heap.size 4 Try.underlying27 hi hz0 hz1 hz2 rfl (by decide) A c k ((bitsN x k).map .bool) rfl hO [.bool ((y : Int) % 2 == 1)] 4 1 (by rfl) rfl hone hby (by decide) hs ?_
              intro g1 c1 w2 hO2 hgr hloc _ hlt)
            go_roundw
            case rel =>
              refine ⟨k + 1, y / 2, some ⟨g1, 0, none⟩, c1, by go_num, rfl, by go_num, by rw [HY.out, Nat.div_div_eq_div_mul, Nat.pow_succ], by omega, ?_, gb_own hg hgr (fun g hg' => (hO.lt g hg').1)⟩
              have eb : ((y : Int) % 2 == 1) = (y % 2 == 1) := by rw [Bool.eq_iff_iff]; simp only [beq_iff_eq]; omega
              rw [eb] at hO2
              rw [bitsN_snoc, List.map_append, ← HY.out]
              exact hO2
            case measure => first | (simp [intOf]; done) | (simp [intOf]; omega))
      · have hkm2 : k = 0 := by omega
        subst hkm2
        first
          | (
            go_wp2_with fail
            go_ret
            exact ⟨A, c, rfl, hO, hg⟩)
          | (
            have hk64 : decide ((k : Int) < 64) = false := by simp; omega
            go_wp2_with fail
            go_ret
            exact ⟨A, c, rfl, hO, hg⟩)
  · rw [h2] at hM
    clear h2
    subst hM
    clear hM64
    go_enter Try.func30, Try.ntmps30
    go_wp2_with fail
    go_loopw [0, 5, 6] (fun v0 v5 v6 wi => ∃ (k y : Nat) (A : Option Addr) (c : Nat), v0 = .int .u64 y ∧ v5 = .slice A k c ∧ v6 = .int .i64 k ∧ y = x / 2 ^ k ∧ k ≤ M ∧ Own wi w.heap.size 4 1 A c k ((bitsN x k).map .bool) ∧ w.grownBy wi none)
      (fun _ _ v6 _ => M - (intOf v6).toNat)
    case atStart => exact ⟨0, x, none, 0, rfl, rfl, rfl, by simp, Nat.zero_le _, Own.nil _ _ _ _, gb_refl _ _⟩
    case round =>
      obtain ⟨k, y, A, c, rfl, rfl, rfl, hy, hk, hO, hg⟩ := hrel
      have hyx : y ≤ x := by rw [hy]; exact Nat.div_le_self _ _
      have HY := Lib.hid hy
      clear hy
      by_cases hkm : k < M
      · first
          | (exfalso; omega)
          | (
            have hk64 : (k : Int) < 64 := by omega
            have hs := hg.size
            have hby : (k + 1) * 1 ≤ 140737488355328 := by omega
            have hone : ∀ u ∈ [Value.bool ((y : Int) % 2 == 1)], u.oneCell' = true := by intro u hu; simp at hu; subst hu; rfl
            go_wp2_with (
              at_builtin
              refine wpList_app1 wr rfl (.tmp 16) (.tmp 20) 27 rfl w.heap.size 4 Try.underlying27 hi hz0 hz1 hz2 rfl (by decide) A c k ((bitsN x k).map .bool) rfl hO [.bool ((y : Int) % 2 == 1)] 4 1 (by rfl) rfl hone hby (by decide) hs ?_
              intro g1 c1 w2 hO2 hgr hloc _ hlt)
            go_roundw
            case rel =>
              refine ⟨k + 1, y / 2, some ⟨g1, 0, none⟩, c1, by go_num, rfl, by go_num, by rw [HY.out, Nat.div_div_eq_div_mul, Nat.pow_succ], by omega, ?_, gb_own hg hgr (fun g hg' => (hO.lt g hg').1)⟩
              have eb : ((y : Int) % 2 == 1) = (y % 2 == 1) := by rw [Bool.eq_iff_iff]; simp only [beq_iff_eq]; omega
              rw [eb] at hO2
              rw [bitsN_snoc, List.map_append, ← HY.out]
              exact hO2
            case measure => first | (simp [intOf]; done) | (simp [intOf]; omega))
      · have hkm2 : k = M := by omega
        subst hkm2
        first
          | (
            go_wp2_with fail
            go_ret
            exact ⟨A, c, rfl, hO, hg⟩)
          | (
            have hk64 : decide ((k : Int) < 64) = false := by simp; omega
            go_wp2_with fail
            go_ret
            exact ⟨A, c, rfl, hO, hg⟩)
  · rw [h2] at hM
    clear h2
    subst hM
    clear hM64
    go_enter Try.func30, Try.ntmps30
    go_wp2_with fail
    go_loopw [0, 5, 6] (fun v0 v5 v6 wi => ∃ (k y : Nat) (A : Option Addr) (c : Nat), v0 = .int .u64 y ∧ v5 = .slice A k c ∧ v6 = .int .i64 k ∧ y = x / 2 ^ k ∧ k ≤ 64 ∧ Own wi w.heap.size 4 1 A c k ((bitsN x k).map .bool) ∧ w.grownBy wi none)
      (fun _ _ v6 _ => 64 - (intOf v6).toNat)
    case atStart => exact ⟨0, x, none, 0, rfl, rfl, rfl, by simp, Nat.zero_le _, Own.nil _ _ _ _, gb_refl _ _⟩
    case round =>
      obtain ⟨k, y, A, c, rfl, rfl, rfl, hy, hk, hO, hg⟩ := hrel
      have hyx : y ≤ x := by rw [hy]; exact Nat.div_le_self _ _
      have HY := Lib.hid hy
      clear hy
      by_cases hkm : k < 64
      · first
          | (exfalso; omega)
          | (
            have hk64 : (k : Int) < 64 := by omega
            have hs := hg.size
            have hby : (k + 1) * 1 ≤ 140737488355328 := by omega
            have hone : ∀ u ∈ [Value.bool ((y : Int) % 2 == 1)], u.oneCell' = true := by intro u hu; simp at hu; subst hu; rfl
            go_wp2_with (
              at_builtin
              refine wpList_app1 wr rfl (.tmp 16) (.tmp 20) 27 rfl w.heap.size 4 Try.underlying27 hi hz0 hz1 hz2 rfl (by decide) A c k ((bitsN x k).map .bool) rfl hO [.bool ((y : Int) % 2 == 1)] 4 1 (by rfl) rfl hone hby (by decide) hs ?_
              intro g1 c1 w2 hO2 hgr hloc _ hlt)
            go_roundw
            case rel =>
              refine ⟨k + 1, y / 2, some ⟨g1, 0, none⟩, c1, by go_num, rfl, by go_num, by rw [HY.out, Nat.div_div_eq_div_mul, Nat.pow_succ], by omega, ?_, gb_own hg hgr (fun g hg' => (hO.lt g hg').1)⟩
              have eb : ((y : Int) % 2 == 1) = (y % 2 == 1) := by rw [Bool.eq_iff_iff]; simp only [beq_iff_eq]; omega
              rw [eb] at hO2
              rw [bitsN_snoc, List.map_append, ← HY.out]
              exact hO2
            case measure => first | (simp [intOf]; done) | (simp [intOf]; omega))
      · have hkm2 : k = 64 := by omega
        subst hkm2
        first
          | (
            go_wp2_with fail
            go_ret
            exact ⟨A, c, rfl, hO, hg⟩)
          | (
            have hk64 : decide ((k : Int) < 64) = false := by simp; omega
            go_wp2_with fail
            go_ret
            exact ⟨A, c, rfl, hO, hg⟩)
end Go.Proofs.Ytlohplopomfjhaa
