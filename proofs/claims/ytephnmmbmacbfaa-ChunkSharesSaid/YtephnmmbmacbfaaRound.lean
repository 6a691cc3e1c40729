/- A region that draws its order, in a round of a range over a function, at the fence that asks nothing: what holds of it anywhere holds of it there. -/
import Derived.Test.YtephnmmbmacbfaaQTail
import Derived.Test.YtephnmmbmacbfaaXTail
import Derived.RangeFuncCalls
import Derived.OrdersIn
namespace Go.Own
set_option linter.unusedVariables false
set_option linter.unusedSimpArgs false
open Go

/-- No operation is a defer statement. -/
def noDefer (ops : Array Oper) : Bool := ops.all fun o => match o.op with | .defer _ => false | _ => true

theorem noDefer_spec {ops : Array Oper} (h : noDefer ops = true) {j : Nat} {o : Oper} (ho : ops[j]? = some o) : ∀ c, o.op ≠ .defer c := by
  intro c e
  have := Array.all_eq_true'.1 h o (Array.mem_of_getElem? ho)
  rw [e] at this
  cases this

section
variable {P : Program} {ops : Array Oper} {md : Region.Mode} {Q : Exit → Act → World → Prop} {l n : Nat}

theorem calls_round {f : FuncId} {args : Array Value} {w : World} {R : Ending → World → Prop} (h : Calls P f args w R) : CallsIn (Fence.wide.inRound l) n P f args w R :=
  CallsIn.inRound l (callsIn_wide.2 h)

theorem oper_round {o : Oper} {a : Act} {w : World} {K : Act → World → Prop} (hd : ∀ c, o.op ≠ .defer c) (h : o.wp P a w K Q) : o.wpIn (Fence.wide.inRound l) n P a w K Q := by
  refine ⟨fun _ _ => trivial, ?_⟩
  rw [Oper.semAt_eq _ _ _ hd]
  unfold Oper.wp at h
  generalize (execOp a.eval o).run P w = r at *
  cases r with
  | halt c w' => cases c <;> first | exact h | exact h.elim
  | ok nx w' =>
    cases nx with
    | value v => exact h
    | skip => exact h
    | defer d => exact h
    | enter f args =>
      refine ⟨fun e => ?_, calls_round h⟩
      cases e
    | row r args =>
      refine ⟨fun e => ?_, fun c cs _ => ?_⟩
      · cases e
      · obtain ⟨v, w2, hr, hs⟩ := h c cs
        exact ⟨v, w2, hr, stepsIn_wide.2 hs⟩
    | _ => exact h.elim

theorem wpOp_round (hd : noDefer ops = true) (hQ : ¬ LetsOut Q) {i : Nat} {K : Act → World → Prop} {a : Act} {w : World} (h : wpOp P ops Q i K a w) : wpOpIn (Fence.wide.inRound l) n P ops Q i K a w := by
  unfold wpOp at h
  unfold wpOpIn
  cases ho : ops[i]? with
  | none => rw [ho] at h; exact h
  | some o =>
    rw [ho] at h
    dsimp only at h ⊢
    split at h
    · rename_i hw
      rw [if_pos hw]
      rcases h with h | h
      · exact oper_round (noDefer_spec hd ho) h
      · exact absurd h.2 hQ
    · rename_i hw
      rw [if_neg hw]
      exact ⟨fun _ _ => trivial, h⟩

theorem wpAny_round (hd : noDefer ops = true) (hQ : ¬ LetsOut Q) : ∀ (fuel : Nat) (listed : Array Bool) (a : Act) (w : World), wpAny P md ops Q fuel listed a w → wpAnyIn (Fence.wide.inRound l) n P md ops Q fuel listed a w
  | 0, _, _, _, h => h
  | fuel + 1, listed, a, w, h => ⟨h.1, fun i hi => wpOp_round hd hQ (wpOp_mono (fun a w h => wpAny_round hd hQ fuel _ a w h) (h.2 i hi))⟩

theorem wpIn_region_round {id : Nat} {a : Act} {w : World} (hm : P.follows .mixedOrders = true) (hd : noDefer ops = true) (hQ : ¬ LetsOut Q)
    (h : wpAny P .any ops Q ops.size (Array.replicate ops.size false) a w.drew) : (Code.region id ops true).wpIn (Fence.wide.inRound l) n P Q a w :=
  wpIn_region_any hm (wpAny_round hd hQ _ _ _ _ h)

theorem wpAny_quiet_tail {a : Act} {w : World} {l : List Oper} (n : Nat) (C : World → Prop) (hB : Region.lexTailB .any l.toArray n = true)
    (hC : C w)
    (h : wpQuiet P l.toArray C (fun a' => ∀ w', C w' → wpList P l.toArray Q (l.drop n) a' w') (l.take n) a) : wpAny P .any l.toArray Q l.toArray.size (Array.replicate l.toArray.size false) a w := by
  simp only [Region.lexTailB, Bool.and_eq_true, decide_eq_true_eq] at hB
  obtain ⟨⟨⟨⟨hsel, hn⟩, hs⟩, hc⟩, hlex⟩ := hB
  have hn' : n < l.length := by simpa using hn
  have htl : (l.take n).length = n := by simp; omega
  have hdl : (l.drop n).length = l.toArray.size - n := by simp
  have inv0 : HeadInv .any l.toArray n (Array.replicate l.toArray.size false) :=
    ⟨by simp, fun j oj _ hl => (by rw [getD_replicate_false] at hl; cases hl), fun t _ ht => getD_in (by simpa using ht) (getD_replicate_false _ _)⟩
  have H := wpAnyT_lex (md := .any) (C := C) (g := l.toArray.size - n) hsel hs hc hn (l.take n) 0 _ a (fun j hj => by
    have hj' : j < n := by rw [htl] at hj; exact hj
    simp [hj']) (by simpa using htl) inv0 (by rw [htl]; exact hlex) h
  have := wpAny_of_headT (Q' := Q) (g := l.toArray.size - n) (fun listed a' w' hw' hL => by
    have := wpAny_of_seq (md := .any) (Q' := Q) (l.drop n) n listed a' w' (fun j => by simp [List.getElem?_drop]) (by rw [hdl]; exact hL.1) (hL.2 w' hw')
    rwa [hdl] at this) _ _ _ w hC H
  rw [htl, show n + (l.toArray.size - n) = l.toArray.size by omega] at this
  exact this

/-- A region in a round: what is quiet in a class of worlds, and behind it a tail in one forced order. -/
theorem wpIn_region_round_tail {id : Nat} {a : Act} {w : World} {ol : List Oper} (m : Nat) (S : World → Prop) (hm : P.follows .mixedOrders = true) (hd : noDefer ol.toArray = true) (hQ : ¬ LetsOut Q) (hB : Region.lexTailB .any ol.toArray m = true)
    (hS : S w.drew)
    (h : wpQuiet P ol.toArray (fun w' => ∃ x : In S, w' = x.w) (fun a' => ∀ w', (∃ x : In S, w' = x.w) → wpList P ol.toArray Q (ol.drop m) a' w') (ol.take m) a) : (Code.region id ol.toArray true).wpIn (Fence.wide.inRound l) n P Q a w :=
  wpIn_region_round hm hd hQ (wpAny_quiet_tail m (fun w' => ∃ x : In S, w' = x.w) hB ⟨⟨w.drew, hS⟩, rfl⟩ h)

theorem wpAny_X {a : Act} {w : World} {ol : List Oper} (m : Nat) (S : World → Prop) (hm : m < ol.toArray.size) (hS : S w)
    (h : S w → wpAnyX P .any ol.toArray Q S m (LastX P .any ol.toArray Q m) m (Array.replicate ol.toArray.size false) a w) : wpAny P .any ol.toArray Q ol.toArray.size (Array.replicate ol.toArray.size false) a w := by
  have inv0 : HeadInv .any ol.toArray m (Array.replicate ol.toArray.size false) :=
    ⟨by simp, fun j oj _ hl => (by rw [getD_replicate_false] at hl; cases hl), fun t _ ht => getD_in (by simpa using ht) (getD_replicate_false _ _)⟩
  have := wpAny_of_X (g := ol.toArray.size - m) (fun listed a w hL => hL.1) m _ a w inv0 (h hS)
  rw [show m + (ol.toArray.size - m) = ol.toArray.size by omega] at this
  exact this

/-- A region in a round whose last operations come in one forced order. -/
theorem wpIn_region_round_X {id : Nat} {a : Act} {w : World} {ol : List Oper} (m : Nat) (S : World → Prop) (hmo : P.follows .mixedOrders = true) (hd : noDefer ol.toArray = true) (hQ : ¬ LetsOut Q) (hm : m < ol.toArray.size)
    (hS : S w.drew)
    (h : S w.drew → wpAnyX P .any ol.toArray Q S m (LastX P .any ol.toArray Q m) m (Array.replicate ol.toArray.size false) a w.drew) : (Code.region id ol.toArray true).wpIn (Fence.wide.inRound l) n P Q a w :=
  wpIn_region_round hmo hd hQ (wpAny_X m S hm hS h)
end
end Go.Own
