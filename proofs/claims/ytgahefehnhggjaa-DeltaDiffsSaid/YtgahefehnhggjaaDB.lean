/- Blocks of bytes, and parts, in plain Lean. -/
import Derived.Test.YtgahefehnhggjaaDA
namespace Go.Delta
set_option linter.unusedVariables false
set_option linter.unusedSimpArgs false

/-- Block number i of bytes. -/
def blkOf (old : List Nat) (size i : Nat) : List Nat := (old.drop (i * size)).take size

theorem blkOf_len (old : List Nat) (size i : Nat) (h : (i + 1) * size ≤ old.length) : (blkOf old size i).length = size := by
  have : (i + 1) * size = i * size + size := by rw [Nat.add_mul, Nat.one_mul]
  simp [blkOf]; omega

theorem blkOf_get (old : List Nat) (size i j : Nat) (hj : j < size) : (blkOf old size i).getD j 0 = old.getD (i * size + j) 0 := by
  simp only [blkOf, List.getD_eq_getElem?_getD]
  rw [List.getElem?_take_of_lt hj, List.getElem?_drop]

/-- The first of some blocks that is just some bytes; below 0: none is. -/
def firstIn (old here : List Nat) : List Nat → Int
  | [] => -1
  | i :: l => if blkOf old here.length i = here then (i : Int) else firstIn old here l

theorem firstIn_filter (old here : List Nat) (K : List Nat → Int) (l : List Nat) : firstIn old here (l.filter fun i => K (blkOf old here.length i) == K here) = firstIn old here l := by
  induction l with
  | nil => rfl
  | cons i l ih =>
    by_cases h : blkOf old here.length i = here
    · have hk : (K (blkOf old here.length i) == K here) = true := by rw [h]; simp
      rw [List.filter_cons, if_pos hk, firstIn, firstIn, if_pos h, if_pos h]
    · rw [List.filter_cons]
      split
      · rw [firstIn, firstIn, if_neg h, if_neg h, ih]
      · rw [firstIn, if_neg h, ih]

theorem firstIn_mem (old here : List Nat) (l : List Nat) : firstIn old here l = -1 ∨ ∃ i ∈ l, firstIn old here l = (i : Int) ∧ blkOf old here.length i = here := by
  induction l with
  | nil => exact .inl rfl
  | cons i l ih =>
    by_cases h : blkOf old here.length i = here
    · exact .inr ⟨i, by simp, by rw [firstIn, if_pos h], h⟩
    · rw [firstIn, if_neg h]
      rcases ih with h2 | ⟨j, hj, h2⟩
      · exact .inl h2
      · exact .inr ⟨j, by simp [hj], h2⟩

/-- How many whole blocks there are. -/
def nbl (old : List Nat) (size : Nat) : Nat := old.length / size

theorem nbl_iff (old : List Nat) (size i : Nat) (hs : 0 < size) : i < nbl old size ↔ (i + 1) * size ≤ old.length := by
  unfold nbl
  rw [Nat.lt_iff_add_one_le, Nat.le_div_iff_mul_le hs]

/-- The first block that is just some bytes. -/
def find (old here : List Nat) : Int := firstIn old here (List.range (nbl old here.length))

/-- A part: a block, or new bytes (its number below 0). -/
abbrev Prt := Int × List Nat

/-- New bytes put behind parts, if there are some. -/
def shutS (out : List Prt) (run : List Nat) : List Prt := if run = [] then out else out ++ [(-1, run)]

/-- The parts of new bytes from a place on. -/
def diffF (old fresh : List Nat) (size : Nat) : Nat → Nat → List Nat → List Prt → List Prt
  | 0, _, run, out => shutS out run
  | f + 1, p, run, out =>
    if p < fresh.length then
      if fresh.length < p + size then shutS out (run ++ fresh.drop p)
      else
        let i := find old ((fresh.drop p).take size)
        if 0 ≤ i then diffF old fresh size f (p + size) [] (shutS out run ++ [(i, [])])
        else diffF old fresh size f (p + 1) (run ++ [fresh.getD p 0]) out
    else shutS out run

def diffS (old fresh : List Nat) (size : Nat) : List Prt := diffF old fresh size (fresh.length + 1) 0 [] []

theorem diffF_end (old fresh : List Nat) (size f p : Nat) (run : List Nat) (out : List Prt) (h : fresh.length ≤ p) : diffF old fresh size f p run out = shutS out run := by
  cases f with
  | zero => rfl
  | succ f => rw [diffF, if_neg (by omega)]

/-- Enough steps are enough. -/
theorem diffF_more (old fresh : List Nat) (size : Nat) (hs : 0 < size) (f g p : Nat) (run : List Nat) (out : List Prt) (hf : fresh.length ≤ p + f) (hg : fresh.length ≤ p + g) :
    diffF old fresh size f p run out = diffF old fresh size g p run out := by
  induction f generalizing g p run out with
  | zero => rw [diffF_end _ _ _ 0 _ _ _ (by omega), diffF_end _ _ _ g _ _ _ (by omega)]
  | succ f ih =>
    by_cases h : p < fresh.length
    · obtain ⟨g, rfl⟩ : ∃ g', g = g' + 1 := ⟨g - 1, by omega⟩
      rw [diffF, diffF, if_pos h, if_pos h]
      split
      · rfl
      · dsimp only
        split
        · exact ih g _ _ _ (by omega) (by omega)
        · exact ih g _ _ _ (by omega) (by omega)
    · rw [diffF_end _ _ _ _ _ _ _ (by omega), diffF_end _ _ _ _ _ _ _ (by omega)]

/-- What is still to be told. -/
def diffT (old fresh : List Nat) (size p : Nat) (run : List Nat) (out : List Prt) : List Prt := diffF old fresh size (fresh.length + 1 - p) p run out

theorem diffT_end {old fresh : List Nat} {size p : Nat} {run : List Nat} {out : List Prt} (h : fresh.length ≤ p) : diffT old fresh size p run out = shutS out run := diffF_end _ _ _ _ _ _ _ h

theorem diffT_tail {old fresh : List Nat} {size p : Nat} {run : List Nat} {out : List Prt} (h : p < fresh.length) (h2 : fresh.length < p + size) : diffT old fresh size p run out = shutS out (run ++ fresh.drop p) := by
  unfold diffT
  obtain ⟨f, hf⟩ : ∃ f, fresh.length + 1 - p = f + 1 := ⟨fresh.length - p, by omega⟩
  rw [hf, diffF, if_pos h, if_pos h2]

theorem diffT_blk {old fresh : List Nat} {size p : Nat} {run : List Nat} {out : List Prt} (hs : 0 < size) (h : p < fresh.length) (h2 : ¬ fresh.length < p + size) (hi : 0 ≤ find old ((fresh.drop p).take size)) :
    diffT old fresh size p run out = diffT old fresh size (p + size) [] (shutS out run ++ [(find old ((fresh.drop p).take size), [])]) := by
  unfold diffT
  obtain ⟨f, hf⟩ : ∃ f, fresh.length + 1 - p = f + 1 := ⟨fresh.length - p, by omega⟩
  rw [hf, diffF, if_pos h, if_neg h2]
  dsimp only
  rw [if_pos hi]
  exact diffF_more _ _ _ hs _ _ _ _ _ (by omega) (by omega)

theorem diffT_byte {old fresh : List Nat} {size p : Nat} {run : List Nat} {out : List Prt} (hs : 0 < size) (h : p < fresh.length) (h2 : ¬ fresh.length < p + size) (hi : ¬ 0 ≤ find old ((fresh.drop p).take size)) :
    diffT old fresh size p run out = diffT old fresh size (p + 1) (run ++ [fresh.getD p 0]) out := by
  unfold diffT
  obtain ⟨f, hf⟩ : ∃ f, fresh.length + 1 - p = f + 1 := ⟨fresh.length - p, by omega⟩
  rw [hf, diffF, if_pos h, if_neg h2]
  dsimp only
  rw [if_neg hi]
  exact diffF_more _ _ _ hs _ _ _ _ _ (by omega) (by omega)

theorem diffS_T (old fresh : List Nat) (size : Nat) : diffS old fresh size = diffT old fresh size 0 [] [] := rfl

/-- The bytes of parts, of sizes that may be; none: a part can't be. -/
def patch1 (old : List Nat) (size : Nat) (t : Prt) (out : List Nat) : Option (List Nat) :=
  if (t.1 < 0 ∧ t.2 = []) ∨ ((nbl old size : Nat) : Int) ≤ t.1 ∨ (0 ≤ t.1 ∧ t.2 ≠ []) then none
  else if t.1 < 0 then some (out ++ t.2) else some (out ++ blkOf old size t.1.toNat)

def patchF (old : List Nat) (size : Nat) : List Prt → List Nat → Option (List Nat)
  | [], out => some out
  | t :: l, out => match patch1 old size t out with
    | none => none
    | some o => patchF old size l o

theorem patchF_app (old : List Nat) (size : Nat) (a b : List Prt) (out : List Nat) : patchF old size (a ++ b) out = (patchF old size a out).bind (patchF old size b) := by
  induction a generalizing out with
  | nil => rfl
  | cons t a ih =>
    rw [List.cons_append, patchF, patchF]
    cases patch1 old size t out with
    | none => rfl
    | some o => exact ih o

theorem patch_shut (old : List Nat) (size : Nat) (out : List Prt) (run o : List Nat) (h : patchF old size out [] = some o) : patchF old size (shutS out run) [] = some (o ++ run) := by
  unfold shutS
  split
  · rename_i hr; subst hr; simpa using h
  · rename_i hr
    rw [patchF_app, h]
    show patchF old size [(-1, run)] o = _
    rw [patchF]
    have : patch1 old size (-1, run) o = some (o ++ run) := by
      unfold patch1
      dsimp only
      rw [if_neg (by
        intro h
        rcases h with ⟨_, h⟩ | h | ⟨h, _⟩
        · exact hr h
        · omega
        · omega), if_pos (by decide)]
    rw [this]
    rfl

theorem patch_diffF (old fresh : List Nat) (size : Nat) (hs : 0 < size) (f p : Nat) (run : List Nat) (out : List Prt) (o : List Nat) (hf : fresh.length ≤ p + f) (hp : p ≤ fresh.length)
    (h : patchF old size out [] = some o) (ho : o ++ run = fresh.take p) : patchF old size (diffF old fresh size f p run out) [] = some fresh := by
  induction f generalizing p run out o with
  | zero =>
    have : p = fresh.length := by omega
    subst this
    rw [diffF, patch_shut old size out run o h, ho, List.take_length]
  | succ f ih =>
    rw [diffF]
    by_cases hpl : p < fresh.length
    · rw [if_pos hpl]
      split
      · rw [patch_shut old size out _ o h, ← List.append_assoc, ho, List.take_append_drop]
      · rename_i h2
        dsimp only
        have hl : ((fresh.drop p).take size).length = size := by simp; omega
        split
        · rename_i hi
          rcases firstIn_mem old ((fresh.drop p).take size) (List.range (nbl old ((fresh.drop p).take size).length)) with hm | ⟨i, hmem, hm, hb⟩
          · exfalso; unfold find at hi; omega
          · have hfi : find old ((fresh.drop p).take size) = (i : Int) := hm
            rw [hfi]
            refine ih (p + size) [] _ (o ++ run ++ blkOf old size i) (by omega) (by omega) ?_ ?_
            · rw [patchF_app, patch_shut old size out run o h]
              show patchF old size [((i : Int), [])] (o ++ run) = _
              rw [patchF]
              have hin : i < nbl old size := by rw [hl] at hmem; simpa using hmem
              have : patch1 old size ((i : Int), []) (o ++ run) = some (o ++ run ++ blkOf old size i) := by
                unfold patch1
                dsimp only
                rw [if_neg (by
                  intro h
                  rcases h with ⟨h, _⟩ | h | ⟨_, h⟩
                  · omega
                  · omega
                  · exact h rfl), if_neg (by omega)]
                simp
              rw [this]
              rfl
            · rw [List.append_nil, ho]
              rw [hl] at hb
              rw [hb]
              rw [List.take_add]
        · refine ih (p + 1) _ out o (by omega) (by omega) h ?_
          rw [← List.append_assoc, ho, List.take_succ_eq_append_getElem hpl]
          simp [hpl]
    · have : p = fresh.length := by omega
      subst this
      rw [if_neg (by omega), patch_shut old size out run o h, ho, List.take_length]

theorem patch_diff (old fresh : List Nat) (size : Nat) (hs : 0 < size) : patchF old size (diffS old fresh size) [] = some fresh :=
  patch_diffF old fresh size hs _ 0 [] [] [] (by omega) (by omega) rfl rfl
end Go.Delta
