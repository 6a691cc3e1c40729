/- Bytes told by what stands ahead of them, in plain Lean: tokens, their bytes, the longest match. -/
namespace Go.Lz
set_option linter.unusedVariables false
set_option linter.unusedSimpArgs false

structure Tok where
  b : Nat
  f : Int
  l : Int
deriving DecidableEq

/-- So many bytes copied from so far back. -/
def copyN (far : Nat) : Nat → List Nat → List Nat
  | 0, out => out
  | k + 1, out => copyN far k (out ++ [out.getD (out.length - far) 0])

theorem copyN_len (far k : Nat) (out : List Nat) : (copyN far k out).length = out.length + k := by
  induction k generalizing out with
  | zero => rfl
  | succ k ih => rw [copyN, ih]; simp; omega

theorem copyN_snoc (far k : Nat) (out : List Nat) : copyN far (k + 1) out = copyN far k out ++ [(copyN far k out).getD ((copyN far k out).length - far) 0] := by
  induction k generalizing out with
  | zero => rfl
  | succ k ih =>
    rw [copyN, ih]
    rfl

theorem copyN_lt (far k : Nat) (out : List Nat) (h : ∀ v ∈ out, v < 256) : ∀ v ∈ copyN far k out, v < 256 := by
  induction k generalizing out with
  | zero => exact h
  | succ k ih =>
    rw [copyN]
    refine ih _ (fun v hv => ?_)
    rcases List.mem_append.1 hv with hv | hv
    · exact h v hv
    · simp at hv
      subst hv
      by_cases hi : out.length - far < out.length
      · have : out[out.length - far]?.getD 0 = out[out.length - far] := by simp [hi]
        rw [this]; exact h _ (List.getElem_mem hi)
      · have : out[out.length - far]?.getD 0 = 0 := by simp [List.getElem?_eq_none (show out.length ≤ out.length - far by omega)]
        rw [this]; omega

/-- Is a match one that can't be? -/
def bad (t : Tok) (out : List Nat) : Prop := t.f < 0 ∨ (out.length : Int) < t.f ∨ 4096 < t.f ∨ t.l < 3 ∨ 1024 < t.l

instance (t : Tok) (out : List Nat) : Decidable (bad t out) := by unfold bad; exact inferInstance

/-- One token's bytes, or an error. -/
def stepB (most : Int) (t : Tok) (out : List Nat) : Except Int (List Nat) :=
  if t.f = 0 then (if most ≤ (out.length : Int) then .error 29 else .ok (out ++ [t.b]))
  else if bad t out then .error 21
  else if most < (out.length : Int) + t.l then .error 29
  else .ok (copyN t.f.toNat t.l.toNat out)

/-- All tokens' bytes, or the first error. -/
def runB (most : Int) : List Tok → List Nat → Except Int (List Nat)
  | [], out => .ok out
  | t :: l, out => match stepB most t out with
    | .error e => .error e
    | .ok o => runB most l o

/-- The answer: bytes, and an error's number. -/
def ansB (most : Int) (l : List Tok) (out : List Nat) : List Nat × Int :=
  match runB most l out with
  | .error e => ([], e)
  | .ok o => (o, 0)

theorem ansB_nil (most : Int) (out : List Nat) : ansB most [] out = (out, 0) := rfl
theorem ansB_bad {most : Int} {t : Tok} {l : List Tok} {out : List Nat} {e : Int} (h : stepB most t out = .error e) : ansB most (t :: l) out = ([], e) := by
  simp [ansB, runB, h]
theorem ansB_ok {most : Int} {t : Tok} {l : List Tok} {out o : List Nat} (h : stepB most t out = .ok o) : ansB most (t :: l) out = ansB most l o := by
  simp [ansB, runB, h]

/-- How many bytes from a place on are those that stand so far back (from n on, so many steps at most). -/
def mlen (b : List Nat) (at' far : Nat) : Nat → Nat → Nat
  | 0, n => n
  | f + 1, n => if at' + n < b.length ∧ n < 1024 ∧ b.getD (at' + n) 0 = b.getD (at' + n - far) 0 then mlen b at' far f (n + 1) else n

def matchLen (b : List Nat) (at' far : Nat) : Nat := mlen b at' far 1024 0

theorem mlen_ge (b : List Nat) (at' far f n : Nat) : n ≤ mlen b at' far f n := by
  induction f generalizing n with
  | zero => exact Nat.le_refl _
  | succ f ih =>
    rw [mlen]
    split
    · exact Nat.le_trans (by omega) (ih (n + 1))
    · exact Nat.le_refl _

theorem mlen_le (b : List Nat) (at' far f n : Nat) (h : n ≤ 1024) (h2 : at' + n ≤ b.length) : mlen b at' far f n ≤ 1024 ∧ at' + mlen b at' far f n ≤ b.length := by
  induction f generalizing n with
  | zero => exact ⟨h, h2⟩
  | succ f ih =>
    rw [mlen]
    split
    · rename_i hc
      exact ih (n + 1) (by omega) (by omega)
    · exact ⟨h, h2⟩

theorem mlen_eq (b : List Nat) (at' far f n : Nat) : ∀ i, n ≤ i → i < mlen b at' far f n → b.getD (at' + i) 0 = b.getD (at' + i - far) 0 := by
  induction f generalizing n with
  | zero => intro i h1 h2; simp [mlen] at h2; omega
  | succ f ih =>
    intro i h1 h2
    rw [mlen] at h2
    split at h2
    · rename_i hc
      by_cases hi : i = n
      · subst hi; exact hc.2.2
      · exact ih (n + 1) i (by omega) h2
    · omega

/-- The step out of the loop. -/
theorem mlen_stop (b : List Nat) (at' far f n : Nat) (h : ¬ (at' + n < b.length ∧ n < 1024 ∧ b.getD (at' + n) 0 = b.getD (at' + n - far) 0)) : mlen b at' far f n = n := by
  cases f with
  | zero => rfl
  | succ f => rw [mlen, if_neg h]

/-- One step of the loop. -/
theorem mlen_go (b : List Nat) (at' far n : Nat) (h : at' + n < b.length ∧ n < 1024 ∧ b.getD (at' + n) 0 = b.getD (at' + n - far) 0) : mlen b at' far (1024 - n) n = mlen b at' far (1024 - (n + 1)) (n + 1) := by
  have e : 1024 - n = (1024 - (n + 1)) + 1 := by omega
  rw [e, mlen, if_pos h]

/-- The longest match, of alike ones the nearest, not farther back than m: how far back, how long; (0, 0): none of three bytes or more. -/
def bestTo (b : List Nat) (at' : Nat) : Nat → Nat × Nat
  | 0 => (0, 0)
  | m + 1 => let r := bestTo b at' m; let k := matchLen b at' (m + 1); if max r.2 2 < k then (m + 1, k) else r

theorem bestTo_le (b : List Nat) (at' m : Nat) (h : at' ≤ b.length) : (bestTo b at' m).1 ≤ m ∧ (bestTo b at' m).2 ≤ 1024 ∧ at' + (bestTo b at' m).2 ≤ b.length ∧ ((bestTo b at' m).2 = 0 ∨ (3 ≤ (bestTo b at' m).2 ∧ 1 ≤ (bestTo b at' m).1 ∧ (bestTo b at' m).2 = matchLen b at' (bestTo b at' m).1)) := by
  induction m with
  | zero => simp [bestTo, h]
  | succ m ih =>
    have hm := mlen_le b at' (m + 1) 1024 0 (by omega) (by omega)
    rw [bestTo]
    split
    · rename_i hc
      refine ⟨Nat.le_refl _, hm.1, hm.2, .inr ⟨by dsimp only; omega, by dsimp only; omega, rfl⟩⟩
    · exact ⟨by omega, ih.2.1, ih.2.2.1, ih.2.2.2⟩

theorem bestTo_skip (b : List Nat) (at' m d : Nat) (h : ∀ j, m < j → j ≤ m + d → matchLen b at' j ≤ 2) : bestTo b at' (m + d) = bestTo b at' m := by
  induction d with
  | zero => rfl
  | succ d ih =>
    rw [Nat.add_succ, bestTo]
    rw [ih (fun j h1 h2 => h j h1 (by omega))]
    have := h (m + d + 1) (by omega) (by omega)
    rw [if_neg (by omega)]

/-- The token at a place, and how many bytes it is of. -/
def tokAt (b : List Nat) (at' : Nat) : Tok :=
  let r := bestTo b at' (min at' 4096)
  if r.2 = 0 then ⟨b.getD at' 0, 0, 0⟩ else ⟨0, r.1, r.2⟩

def stepAt (b : List Nat) (at' : Nat) : Nat := max (bestTo b at' (min at' 4096)).2 1

theorem stepAt_pos (b : List Nat) (at' : Nat) : 1 ≤ stepAt b at' := by unfold stepAt; omega
theorem stepAt_le (b : List Nat) (at' : Nat) (h : at' < b.length) : at' + stepAt b at' ≤ b.length := by
  have := (bestTo_le b at' (min at' 4096) (by omega)).2.2.1
  unfold stepAt; omega

/-- All tokens from a place on. -/
def toks (b : List Nat) : Nat → Nat → List Tok
  | 0, _ => []
  | f + 1, at' => if at' < b.length then tokAt b at' :: toks b f (at' + stepAt b at') else []

theorem toks_end (b : List Nat) (f at' : Nat) (h : b.length ≤ at') : toks b f at' = [] := by
  cases f with
  | zero => rfl
  | succ f => rw [toks, if_neg (by omega)]

/-- Enough steps are enough. -/
theorem toks_more (b : List Nat) (f g at' : Nat) (hf : b.length ≤ at' + f) (hg : b.length ≤ at' + g) : toks b f at' = toks b g at' := by
  induction f generalizing g at' with
  | zero => rw [toks_end b 0 at' (by omega), toks_end b g at' (by omega)]
  | succ f ih =>
    by_cases h : at' < b.length
    · obtain ⟨g, rfl⟩ : ∃ g', g = g' + 1 := ⟨g - 1, by omega⟩
      have hp := stepAt_pos b at'
      rw [toks, toks, if_pos h, if_pos h, ih g _ (by omega) (by omega)]
    · rw [toks_end b _ at' (by omega), toks_end b _ at' (by omega)]

def tokens (b : List Nat) : List Tok := toks b b.length 0

/-- The tokens of what stands ahead of a place are the first ones. -/
def upto (b : List Nat) (T : List Tok) (at' : Nat) : Prop := tokens b = T ++ toks b (b.length - at') at'

theorem upto_zero (b : List Nat) : upto b [] 0 := by simp [upto, tokens]
theorem upto_step {b : List Nat} {T : List Tok} {at' : Nat} (h : upto b T at') (hl : at' < b.length) : upto b (T ++ [tokAt b at']) (at' + stepAt b at') := by
  have hp := stepAt_pos b at'
  have hle := stepAt_le b at' hl
  unfold upto at *
  rw [h]
  obtain ⟨f, hf⟩ : ∃ f, b.length - at' = f + 1 := ⟨b.length - at' - 1, by omega⟩
  rw [hf, toks, if_pos hl, List.append_assoc]
  congr 1
  rw [List.singleton_append]
  congr 1
  exact toks_more b _ _ _ (by omega) (by omega)
theorem upto_all {b : List Nat} {T : List Tok} {at' : Nat} (h : upto b T at') (hl : b.length ≤ at') : T = tokens b := by
  unfold upto at h
  rw [h, toks_end _ _ _ hl, List.append_nil]

/-- The tokens' bytes are the bytes. -/
theorem copy_back (b : List Nat) (at' far k : Nat) (hf : 1 ≤ far) (hfa : far ≤ at') (hk : at' + k ≤ b.length) (h : ∀ i, i < k → b.getD (at' + i) 0 = b.getD (at' + i - far) 0) : copyN far k (b.take at') = b.take (at' + k) := by
  induction k with
  | zero => rfl
  | succ k ih =>
    rw [copyN_snoc, ih (by omega) (fun i hi => h i (by omega))]
    have hl : (b.take (at' + k)).length = at' + k := by simp; omega
    rw [hl, ← Nat.add_assoc, List.take_succ_eq_append_getElem (by omega)]
    congr 2
    have h1 := h k (by omega)
    have e1 : b.getD (at' + k) 0 = b[at' + k] := by simp [show at' + k < b.length by omega]
    rw [← e1, h1]
    simp only [List.getD_eq_getElem?_getD]
    rw [List.getElem?_take_of_lt (by omega)]

theorem stepB_tok (b : List Nat) (at' : Nat) (h : at' < b.length) : stepB b.length (tokAt b at') (b.take at') = .ok (b.take (at' + stepAt b at')) := by
  have hl : (b.take at').length = at' := by simp; omega
  have hb := bestTo_le b at' (min at' 4096) (by omega)
  unfold stepB tokAt stepAt
  generalize bestTo b at' (min at' 4096) = r at *
  obtain ⟨far, k⟩ := r
  dsimp only at *
  by_cases hk : k = 0
  · rw [if_pos hk, if_pos rfl, hl]
    rw [if_neg (by omega)]
    subst hk
    rw [show max 0 1 = 1 from rfl, List.take_succ_eq_append_getElem h]
    simp [h]
  · rw [if_neg hk]
    obtain ⟨h1, h2, h3, h4⟩ := hb
    have h5 : 3 ≤ k ∧ 1 ≤ far ∧ k = matchLen b at' far := h4.resolve_left hk
    dsimp only
    rw [if_neg (by omega), if_neg (by unfold bad; rw [hl]; dsimp only; omega), hl, if_neg (by omega)]
    rw [show max k 1 = k by omega, show ((far : Int)).toNat = far from rfl, show ((k : Int)).toNat = k from rfl]
    rw [copy_back b at' far k (by omega) (by omega) (by omega)]
    intro i hi
    refine mlen_eq b at' far 1024 0 i (by omega) ?_
    have := h5.2.2
    unfold matchLen at this
    omega

theorem runB_toks (b : List Nat) (f at' : Nat) (hf : b.length ≤ at' + f) (ha : at' ≤ b.length) : runB b.length (toks b f at') (b.take at') = .ok b := by
  induction f generalizing at' with
  | zero =>
    rw [toks_end b 0 at' (by omega), runB, List.take_of_length_le (by omega)]
  | succ f ih =>
    by_cases h : at' < b.length
    · have hp := stepAt_pos b at'
      have hle := stepAt_le b at' h
      rw [toks, if_pos h, runB, stepB_tok b at' h]
      exact ih _ (by omega) hle
    · rw [toks_end b _ at' (by omega), runB, List.take_of_length_le (by omega)]

theorem ansB_tokens (b : List Nat) : ansB b.length (tokens b) [] = (b, 0) := by
  have h := runB_toks b b.length 0 (by omega) (by omega)
  rw [List.take_zero] at h
  unfold ansB tokens
  rw [h]
end Go.Lz
