/- Plain facts for PurseBounds: in no stretch of ticks more is spent than the bound says. -/
namespace Go.PurseBounds
set_option linter.unusedVariables false
set_option linter.unusedSimpArgs false

def sumL : List Int → Int
  | [] => 0
  | x :: l => x + sumL l

theorem sumL_append (a b : List Int) : sumL (a ++ b) = sumL a + sumL b := by
  induction a with
  | nil => simp [sumL]
  | cons x a ih => simp only [List.cons_append, sumL, ih]; omega

theorem sumL_drop (l : List Int) (k : Nat) (h : k < l.length) : sumL (l.drop k) = sumL (l.drop (k + 1)) + l.getD k 0 := by
  rw [List.drop_eq_getElem_cons h, sumL]
  have : l.getD k 0 = l[k] := by simp [h]
  omega

theorem sumL_bound (M : Int) (l : List Int) : (∀ k, k < l.length → 0 ≤ l.getD k 0 ∧ l.getD k 0 ≤ M) → 0 ≤ sumL l ∧ sumL l ≤ l.length * M := by
  induction l with
  | nil => intro _; simp [sumL]
  | cons x l ih =>
    intro h
    have h0 := h 0 (by simp)
    have := ih (fun k hk => by simpa using h (k + 1) (by simpa using hk))
    simp only [List.getD_cons_zero] at h0
    simp only [sumL, List.length_cons]
    have : ((l.length + 1 : Nat) : Int) * M = l.length * M + M := by rw [Int.natCast_add, Int.add_mul]; simp
    omega

theorem getD_app (a b : List Int) (k : Nat) (h : k < a.length) : (a ++ b).getD k 0 = a.getD k 0 := by
  simp [List.getD_eq_getElem?_getD, List.getElem?_append_left h]

structure BInv (rate burst : Int) (ats tks : List Int) (now level : Int) (i : Nat) : Prop where
  len : ats.length = tks.length
  le : tks.length ≤ i
  now0 : 0 ≤ now
  now1 : now ≤ 1000 * i
  lev0 : 0 ≤ level
  lev1 : level ≤ burst
  at_ : ∀ k, k < tks.length → 0 ≤ ats.getD k 0 ∧ ats.getD k 0 ≤ now
  tk_ : ∀ k, k < tks.length → 0 ≤ tks.getD k 0 ∧ tks.getD k 0 ≤ 8589934592
  bnd : ∀ k, k < tks.length → sumL (tks.drop k) + level ≤ burst + rate * (now - ats.getD k 0)

theorem BInv.start (rate burst : Int) (h : 0 ≤ burst) : BInv rate burst [] [] 0 burst 0 :=
  ⟨rfl, Nat.le_refl _, by omega, by omega, h, Int.le_refl _, fun k hk => by simp at hk, fun k hk => by simp at hk, fun k hk => by simp at hk⟩

variable {rate burst now level : Int} {ats tks : List Int} {i : Nat}

theorem BInv.skip (h : BInv rate burst ats tks now level i) : BInv rate burst ats tks now level (i + 1) :=
  ⟨h.len, by have := h.le; omega, h.now0, by have := h.now1; omega, h.lev0, h.lev1, h.at_, h.tk_, h.bnd⟩

theorem BInv.tick (h : BInv rate burst ats tks now level i) (hr : 0 ≤ rate) {d l : Int} (d0 : 0 ≤ d) (d1 : d ≤ 1000) (l0 : 0 ≤ l) (l1 : l ≤ burst) (l2 : l ≤ level + rate * d) :
    BInv rate burst ats tks (now + d) l (i + 1) := by
  have n0 := h.now0
  refine ⟨h.len, by have := h.le; omega, by omega, by have := h.now1; omega, l0, l1, fun k hk => ?_, h.tk_, fun k hk => ?_⟩
  · have := h.at_ k hk; omega
  · have h1 := h.bnd k hk
    have e : rate * (now + d - ats.getD k 0) = rate * (now - ats.getD k 0) + rate * d := by
      rw [← Int.mul_add]; congr 1; omega
    omega

theorem BInv.spend (h : BInv rate burst ats tks now level i) (hr : 0 ≤ rate) {n : Int} (n0 : 0 ≤ n) (n1 : n ≤ 8589934592) (hn : n ≤ level) :
    BInv rate burst (ats ++ [now]) (tks ++ [n]) now (level - n) (i + 1) := by
  have hlen := h.len
  have l1 := h.lev1
  have w0 := h.now0
  refine ⟨by simp [hlen], by have := h.le; simp; omega, h.now0, by have := h.now1; omega, by omega, by omega, fun k hk => ?_, fun k hk => ?_, fun k hk => ?_⟩
  · by_cases hk' : k < tks.length
    · have := h.at_ k hk'
      rw [getD_app _ _ _ (by omega)]; exact this
    · have : k = ats.length := by simp at hk; omega
      subst this
      simp
      exact h.now0
  · by_cases hk' : k < tks.length
    · rw [getD_app _ _ _ (by omega)]; exact h.tk_ k hk'
    · have : k = tks.length := by simp at hk; omega
      subst this
      simp
      omega
  · by_cases hk' : k < tks.length
    · have h1 := h.bnd k hk'
      rw [getD_app _ _ _ (by omega), List.drop_append_of_le_length (by omega), sumL_append]
      simp only [sumL]
      omega
    · have : k = tks.length := by simp at hk; omega
      subst this
      have e1 : (tks ++ [n]).drop tks.length = [n] := by simp
      have e2 : (ats ++ [now]).getD tks.length 0 = now := by rw [← hlen]; simp
      rw [e1, e2]
      simp only [sumL, Int.sub_self, Int.mul_zero]
      omega

theorem BInv.sum_le (h : BInv rate burst ats tks now level i) (k : Nat) : 0 ≤ sumL (tks.drop k) ∧ sumL (tks.drop k) ≤ i * 8589934592 := by
  have h1 := sumL_bound 8589934592 (tks.drop k) (fun j hj => by
    have := h.tk_ (k + j) (by simp at hj; omega)
    simpa [List.getD_eq_getElem?_getD] using this)
  refine ⟨h1.1, ?_⟩
  have h2 : ((tks.drop k).length : Int) ≤ i := by have := h.le; simp; omega
  have h3 : ((tks.drop k).length : Int) * 8589934592 ≤ (i : Int) * 8589934592 := Int.mul_le_mul_of_nonneg_right h2 (by omega)
  omega

end Go.PurseBounds
