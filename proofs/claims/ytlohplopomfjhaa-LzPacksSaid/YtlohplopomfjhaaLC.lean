/- Packed bytes, in plain Lean: the bits of tokens, and the tokens of bits. -/
import Derived.Test.YtlohplopomfjhaaLB
import Derived.Test.YtlohplopomfjhaaSC
namespace Go.Lz
set_option linter.unusedVariables false
set_option linter.unusedSimpArgs false
open Go.Bits

/-- A token, or the end, from the front of a row of bits; none: it is neither. -/
def tokR : List Bool → Option (Option Tok × List Bool)
  | [] => none
  | false :: M => if M.length < 8 then none else some (some ⟨val (M.take 8), 0, 0⟩, M.drop 8)
  | true :: M =>
    if (gamS M false).2.2 then none
    else if (gamS M false).1 = 4097 then some (none, (gamS M false).2.1)
    else if (gamS (gamS M false).2.1 false).2.2 ∨ 4096 < (gamS M false).1 ∨ 1022 < (gamS (gamS M false).2.1 false).1 then none
    else some (some ⟨0, (gamS M false).1, (gamS (gamS M false).2.1 false).1 + 2⟩, (gamS (gamS M false).2.1 false).2.1)

theorem tokR_f (M : List Bool) : tokR (false :: M) = if M.length < 8 then none else some (some ⟨val (M.take 8), 0, 0⟩, M.drop 8) := rfl
theorem tokR_t (M : List Bool) : tokR (true :: M) = if (gamS M false).2.2 then none
    else if (gamS M false).1 = 4097 then some (none, (gamS M false).2.1)
    else if (gamS (gamS M false).2.1 false).2.2 ∨ 4096 < (gamS M false).1 ∨ 1022 < (gamS (gamS M false).2.1 false).1 then none
    else some (some ⟨0, (gamS M false).1, (gamS (gamS M false).2.1 false).1 + 2⟩, (gamS (gamS M false).2.1 false).2.1) := rfl

theorem gz_len (f : Nat) (L : List Bool) (s : Nat) : (gz f L s).2.2.length ≤ L.length := by
  induction f generalizing L s with
  | zero => simp [gz]
  | succ f ih =>
    match L with
    | [] => simp [gz]
    | true :: L => simp [gz]
    | false :: L =>
      have := ih L (s + 1)
      simp only [gz, List.length_cons]
      omega

theorem gamS_len (L : List Bool) (t : Bool) : (gamS L t).2.1.length ≤ L.length := by
  have := gz_len 64 L 0
  unfold gamS
  split
  · exact Nat.le_refl _
  · dsimp only
    split
    · split <;> simp <;> omega
    · exact this

theorem tokR_len {L R : List Bool} {o : Option Tok} (h : tokR L = some (o, R)) : R.length < L.length := by
  match L with
  | [] => cases h
  | false :: M =>
    rw [tokR_f] at h
    split at h
    · cases h
    · simp only [Option.some.injEq, Prod.mk.injEq] at h
      rw [← h.2]
      simp; omega
  | true :: M =>
    have h1 := gamS_len M false
    have h2 := gamS_len (gamS M false).2.1 false
    rw [tokR_t] at h
    split at h
    · cases h
    · split at h
      · simp only [Option.some.injEq, Prod.mk.injEq] at h
        rw [← h.2]
        simp; omega
      · split at h
        · cases h
        · simp only [Option.some.injEq, Prod.mk.injEq] at h
          rw [← h.2]
          simp; omega

theorem tokR_byte {L R : List Bool} {t : Tok} (h : tokR L = some (some t, R)) : t.b < 256 := by
  match L with
  | [] => cases h
  | false :: M =>
    rw [tokR_f] at h
    split at h
    · cases h
    · simp only [Option.some.injEq, Prod.mk.injEq] at h
      rw [← h.1]
      exact val_take_lt M 8
  | true :: M =>
    rw [tokR_t] at h
    split at h
    · cases h
    · split at h
      · simp at h
      · split at h
        · cases h
        · simp only [Option.some.injEq, Prod.mk.injEq] at h
          rw [← h.1]
          dsimp only
          omega

/-- All tokens up to the end, and what is left behind it. -/
def runU : Nat → List Bool → List Tok → Option (List Tok × List Bool)
  | 0, _, _ => none
  | f + 1, L, T => match tokR L with
    | none => none
    | some (none, R) => some (T, R)
    | some (some t, R) => runU f R (T ++ [t])

/-- Enough steps are enough. -/
theorem runU_more (f g : Nat) (L : List Bool) (T : List Tok) (hf : L.length < f) (hg : L.length < g) : runU f L T = runU g L T := by
  induction f generalizing g L T with
  | zero => omega
  | succ f ih =>
    obtain ⟨g, rfl⟩ : ∃ g', g = g' + 1 := ⟨g - 1, by omega⟩
    rw [runU, runU]
    cases h : tokR L with
    | none => rfl
    | some p =>
      obtain ⟨o, R⟩ := p
      have hl := tokR_len h
      cases o with
      | none => rfl
      | some t => exact ih g R _ (by omega) (by omega)

def unp (L : List Bool) (T : List Tok) : Option (List Tok × List Bool) := runU (L.length + 1) L T

theorem unp_bad {L : List Bool} {T : List Tok} (h : tokR L = none) : unp L T = none := by
  unfold unp; rw [runU, h]
theorem unp_end {L R : List Bool} {T : List Tok} (h : tokR L = some (none, R)) : unp L T = some (T, R) := by
  unfold unp; rw [runU, h]
theorem unp_tok {L R : List Bool} {T : List Tok} {t : Tok} (h : tokR L = some (some t, R)) : unp L T = unp R (T ++ [t]) := by
  have := tokR_len h
  unfold unp
  rw [runU, h]
  exact runU_more _ _ _ _ (by omega) (by omega)

/-- The answer: bytes, and an error's number. -/
def finU (most : Int) : Option (List Tok × List Bool) → List Nat × Int
  | none => ([], 21)
  | some (T, R) => if 8 ≤ R.length ∨ val R ≠ 0 then ([], 21) else ansB most T []

def ansU (most : Int) (b : List Nat) : List Nat × Int := finU most (unp (ofB b) [])

/-- The bits of a token. -/
def tokBits (t : Tok) : List Bool := (t.f != 0) :: (if t.f = 0 then bitsN t.b 8 else gam t.f.toNat ++ gam (t.l.toNat - 2))

/-- The bits of tokens, and of the end. -/
def packBits (T : List Tok) : List Bool := T.flatMap tokBits ++ true :: gam 4097

def okTok (t : Tok) : Prop := t.b < 256 ∧ ((t.f = 0 ∧ t.l = 0) ∨ (t.b = 0 ∧ 1 ≤ t.f ∧ t.f ≤ 4096 ∧ 3 ≤ t.l ∧ t.l ≤ 1024))

theorem tokR_back (t : Tok) (R : List Bool) (h : okTok t) : tokR (tokBits t ++ R) = some (some t, R) := by
  obtain ⟨b, f, l⟩ := t
  obtain ⟨hb, hc⟩ := h
  dsimp only at hb hc
  unfold tokBits
  dsimp only
  rcases hc with ⟨rfl, rfl⟩ | ⟨rfl, h1, h2, h3, h4⟩
  · rw [if_pos rfl]
    show tokR (false :: (bitsN b 8 ++ R)) = _
    rw [tokR_f, if_neg (by simp [bitsN_len]), val_front, drop_front, Nat.mod_eq_of_lt (by omega)]
  · rw [if_neg (by omega)]
    have e : (f != 0) = true := by simp; omega
    rw [e]
    show tokR (true :: (gam f.toNat ++ gam (l.toNat - 2) ++ R)) = _
    rw [tokR_t, List.append_assoc, gamS_back f.toNat (by omega) (by omega)]
    simp only [Bool.false_eq_true, if_false]
    rw [if_neg (by omega), gamS_back (l.toNat - 2) (by omega) (by omega)]
    simp only [Bool.false_eq_true, false_or]
    rw [if_neg (by omega)]
    have e1 : ((f.toNat : Nat) : Int) = f := by omega
    have e2 : (((l.toNat - 2 : Nat)) : Int) + 2 = l := by omega
    rw [e1, e2]

theorem tokR_end (R : List Bool) : tokR (true :: gam 4097 ++ R) = some (none, R) := by
  show tokR (true :: (gam 4097 ++ R)) = _
  rw [tokR_t, gamS_back 4097 (by omega) (by omega)]
  simp

theorem unp_back (T U : List Tok) (R : List Bool) (h : ∀ t ∈ T, okTok t) : unp (packBits T ++ R) U = some (U ++ T, R) := by
  induction T generalizing U with
  | nil =>
    have := tokR_end R
    unfold packBits
    rw [List.flatMap_nil, List.nil_append, unp_end this, List.append_nil]
  | cons t T ih =>
    have e : packBits (t :: T) ++ R = tokBits t ++ (packBits T ++ R) := by simp [packBits]
    rw [e, unp_tok (tokR_back t _ (h t (by simp))), ih _ (fun t ht => h t (by simp [ht])), List.append_assoc]
    rfl

theorem val_zero (q : List Bool) : (∀ i, i < q.length → q.getD i false = false) → val q = 0 := by
  induction q with
  | nil => intro _; rfl
  | cons b q ih =>
    intro h
    have h0 := h 0 (by simp)
    simp at h0
    subst h0
    have := ih (fun i hi => by have := h (i + 1) (by simp; omega); simpa using this)
    simp [val, this]

theorem val_one (q : List Bool) (i : Nat) (h : q.getD i false = true) : val q ≠ 0 := by
  induction q generalizing i with
  | nil => simp at h
  | cons b q ih =>
    cases i with
    | zero =>
      simp at h
      subst h
      simp [val]
    | succ i =>
      have := ih i (by simpa using h)
      simp only [val]
      omega

theorem gamS_torn (L : List Bool) (t : Bool) (h : (gamS L t).2.2 = true) : (gamS L t).1 = 0 := by
  unfold gamS at *
  split
  · rfl
  · rename_i ht
    rw [if_neg ht] at h
    dsimp only at h ⊢
    split
    · rename_i h1
      rw [if_pos h1] at h
      split
      · rfl
      · rename_i h2
        rw [if_neg h2] at h
        cases h
    · rfl

/-- What stands behind the last bit of bytes is nought. -/
theorem val_pad (l : List Bool) : ∃ p : List Bool, ofB (pk l) = l ++ p ∧ p.length < 8 ∧ val p = 0 := by
  obtain ⟨p, h1, h2⟩ := ofB_pk_app l
  refine ⟨p, h1, h2, ?_⟩
  refine val_zero p (fun i hi => ?_)
  have hlen : (ofB (pk l)).length = l.length + p.length := by rw [h1]; simp
  rw [ofB_len, pk_len] at hlen
  have hk : l.length + i < 8 * (pk l).length := by rw [pk_len]; omega
  have hg := ofB_get (pk l) (l.length + i) hk
  have hl : (ofB (pk l)).getD (l.length + i) false = p.getD i false := by
    rw [h1]
    simp only [List.getD_eq_getElem?_getD]
    rw [List.getElem?_append_right (by omega)]
    congr 2
    omega
  rw [hl] at hg
  rw [hg, pk_get _ _ (by omega)]
  have hv := val_lt ((l.drop (8 * ((l.length + i) / 8))).take 8)
  have hle : ((l.drop (8 * ((l.length + i) / 8))).take 8).length ≤ (l.length + i) % 8 := by
    rw [List.length_take, List.length_drop]; omega
  have hlt := Nat.lt_of_lt_of_le hv (Nat.pow_le_pow_right (n := 2) (by omega) hle)
  rw [Nat.div_eq_of_lt hlt]
  rfl

theorem ansU_back (T : List Tok) (most : Int) (h : ∀ t ∈ T, okTok t) : ansU most (pk (packBits T)) = ansB most T [] := by
  obtain ⟨p, h1, h2, h3⟩ := val_pad (packBits T)
  unfold ansU
  rw [h1, unp_back T [] p h]
  show (if 8 ≤ p.length ∨ val p ≠ 0 then ([], 21) else ansB most ([] ++ T) []) = _
  rw [if_neg (by omega), List.nil_append]

theorem toks_ok (b : List Nat) (hb : ∀ v ∈ b, v < 256) (f p : Nat) : ∀ t ∈ toks b f p, okTok t := by
  induction f generalizing p with
  | zero => intro t ht; simp [toks] at ht
  | succ f ih =>
    intro t ht
    rw [toks] at ht
    split at ht
    · rename_i hp
      rcases List.mem_cons.1 ht with rfl | ht
      · have hle := bestTo_le b p (min p 4096) (by omega)
        unfold tokAt
        dsimp only
        split
        · have : b.getD p 0 = b[p] := by simp [hp]
          exact ⟨by dsimp only; rw [this]; exact hb _ (List.getElem_mem hp), .inl ⟨rfl, rfl⟩⟩
        · rename_i hne
          have := hle.2.2.2.resolve_left hne
          exact ⟨by dsimp only; omega, .inr ⟨rfl, by dsimp only; omega, by dsimp only; omega, by dsimp only; omega, by dsimp only; omega⟩⟩
      · exact ih _ t ht
    · simp at ht

theorem gam_len25 (x : Nat) (h : x < 8192) : (gam x).length ≤ 25 := by
  have := size_le x 13 (by omega)
  simp [gam, bitsN_len]; omega

theorem tokBits_len (t : Tok) (h : okTok t) : (tokBits t).length ≤ 51 := by
  unfold tokBits
  rw [List.length_cons]
  split
  · rw [bitsN_len]; omega
  · rename_i hf
    have h1 := gam_len25 t.f.toNat (by rcases h.2 with h | h <;> omega)
    have h2 := gam_len25 (t.l.toNat - 2) (by rcases h.2 with h | h <;> omega)
    rw [List.length_append]; omega

theorem flat_len (T : List Tok) (h : ∀ t ∈ T, okTok t) : (T.flatMap tokBits).length ≤ 51 * T.length := by
  induction T with
  | nil => simp
  | cons t T ih =>
    have h1 := tokBits_len t (h t (by simp))
    have h2 := ih (fun t ht => h t (by simp [ht]))
    rw [List.flatMap_cons, List.length_append, List.length_cons]; omega

theorem packBits_len (T : List Tok) (h : ∀ t ∈ T, okTok t) : (packBits T).length ≤ 51 * T.length + 26 := by
  have h1 := flat_len T h
  have h2 := gam_len25 4097 (by omega)
  unfold packBits
  rw [List.length_append, List.length_cons]; omega
end Go.Lz
