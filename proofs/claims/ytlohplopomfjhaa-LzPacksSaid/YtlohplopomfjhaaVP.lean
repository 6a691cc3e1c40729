/- The walk of the law LzPacks. -/
import Derived.Test.YtlohplopomfjhaaVO
namespace Go.Proofs.Ytlohplopomfjhaa
set_option linter.unusedVariables false
set_option linter.unusedSimpArgs false
open Go.RowKit Go.Own Go.Bits Go.Lz

/-- The condition on the world may be tightened on the way. -/
theorem wpAnyH_tighten {P : Program} {ops : Array Oper} {Q : Exit → Act → World → Prop} {md : Region.Mode} {S S' : World → Prop} (hS : ∀ W, S' W → S W) :
    ∀ {fuel : Nat} {listed : Array Bool} {a : Act} {w : World}, wpAnyH P md ops Q S' fuel listed a w → wpAnyH P md ops Q S fuel listed a w
  | 0, _, _, _, h => h
  | _ + 1, _, _, _, h => ⟨h.1, fun i hi => wpOp_mono (fun _ _ h' => ⟨hS _ h'.1, wpAnyH_tighten hS h'.2⟩) (h.2 i hi)⟩

/-- An operation taken first, its slot named. -/
theorem wpAnyH_take_at {P : Program} {ops : Array Oper} {Q : Exit → Act → World → Prop} {md : Region.Mode} {S : World → Prop} {i d : Nat} {oi : Oper} {v : Value} {fuel : Nat} {listed : Array Bool} {a : Act} {w : World} (hi : ops[i]? = some oi) (hd : oi.dst = some d)
    (hs : Region.noSelect ops = true) (hf : Region.free md ops listed i = true) (hr : (Region.ready md ops listed).contains i = true)
    (hQ : ∀ c a w, Q (.panic c) (a.put oi.dst v) w → Q (.panic c) a w) (hy : YieldsIf P ops S oi v a) (hS : S w)
    (h : wpAnyH P md ops Q S fuel (listed.setIfInBounds i true) (a.put (some d) v) w) : wpAnyH P md ops Q S (fuel + 1) listed a w :=
  wpAnyH_take hi hs hf hr hQ hy hS (by rw [hd]; exact h)

set_option maxHeartbeats 6400000 in
set_option maxRecDepth 100000 in
theorem law_lzpacks (A0 : Option Addr) (c0 : Nat) (b : List Nat) (w : World) (hS : Rd w w.heap.size 1 A0 b.length (b.map bv)) (hbm : b.length ≤ 9223372036854775807) (hb : ∀ t ∈ b, t < 256) :
    Calls Try.prog 9 #[.slice A0 b.length c0] w fun e w' => e = .returned (.bool true) ∧ w.grownBy w' none := by
  by_cases hl : 600 < b.length
  · go_enter Try.func9, Try.ntmps9
    go_wp2_with fail
    refine (awake35 _).mono ?_
    rintro e w5 ⟨rfl, hg5⟩
    go_wp2_with fail
    go_ret
    exact ⟨rfl, hg5⟩
  · have h38 := pack_any b A0 c0 _ w hS (Nat.le_refl _) (by omega) hb
    have h33 := fun W (hg : w.grownBy W none) => rtokens_any b A0 c0 _ W (hS.later hg (Nat.le_refl _)) hg.size (by omega) hb
    have hok : ∀ t ∈ tokens b, okTok t := toks_ok b hb b.length 0
    have hTl : (tokens b).length ≤ b.length := toks_len b b.length 0
    have hpl := packBits_len (tokens b) hok
    have hpk := pk_len (packBits (tokens b))
    have hans : ansU (b.length : Int) (pk (packBits (tokens b))) = (b, 0) := (ansU_back (tokens b) _ hok).trans (ansB_tokens b)
    have h36 := fun W (A : Option Addr) (c : Nat) (h : Rd W W.heap.size 1 A (pk (packBits (tokens b))).length ((pk (packBits (tokens b))).map bv)) => unpack_any (pk (packBits (tokens b))) A c _ (b.length : Int) W (Nat.le_refl _) h (fun v hv => pk_mem hv) (by omega) (by omega) (by omega)
    have h39 := fun W (A : Option Addr) (c : Nat) (h : Rd W W.heap.size 3 A (tokens b).length ((tokens b).flatMap tkC)) => rpack_any (tokens b) A c _ W h (Nat.le_refl _) (by omega) hok
    rw [hans] at h36
    generalize pk (packBits (tokens b)) = p at *
    generalize tokens b = T at *
    unfold GivesB at h38 h36
    dsimp only at h38 h36
    clear hans hpl hpk hok
    go_enter Try.func9, Try.ntmps9
    go_wp2_with fail
    refine h38.mono ?_
    rintro e w2 ⟨A2, c2, rfl, hO2, hg2⟩
    go_wp2_with fail
    refine (h36 _ _ _ hO2.rd).mono ?_
    rintro e w3 ⟨A3, c3, rfl, hO3, hg3⟩
    have hg23 := gb_trans hg2 hg3
    have hcv2 : ∀ W, w3.drew.grownBy W none → (convert 24 9 (.slice A2 p.length c2)).run Try.prog W = .ok (.string (strB p)) W := fun W h => conv_any c2 ((hO2.grown0 hg3).grown0 (gb_trans (gb_drew (gb_refl w3 none)) h)).rd rfl
    have hcv3 : ∀ W, w3.drew.grownBy W none → (convert 24 9 (.slice A3 b.length c3)).run Try.prog W = .ok (.string (strB b)) W := fun W h => conv_any c3 (hO3.grown0 (gb_trans (gb_drew (gb_refl w3 none)) h)).rd rfl
    have hcvb : ∀ W, w3.drew.grownBy W none → (convert 24 9 (.slice A0 b.length c0)).run Try.prog W = .ok (.string (strB b)) W := fun W h => conv_any c0 (hS.later (gb_trans hg23 (gb_trans (gb_drew (gb_refl w3 none)) h)) (Nat.le_refl _)) rfl
    have v2 := hcv2 w3.drew (gb_refl _ _)
    have h33d := h33 w3.drew (gb_trans hg23 (gb_drew (gb_refl w3 none)))
    have hgd : w.grownBy w3.drew none := gb_trans hg23 (gb_drew (gb_refl w3 none))
    have g0 := gb_refl w3.drew none
    clear h33 h38
    go_wp2_with fail
    refine wp_region_held_drew (S := fun W => w3.drew.grownBy W none) (by kernel_rfl) g0 (fun hHeld => ?_)
    refine' wpAnyH_take_at (i := 0) (d := 23) (v := _) rfl rfl (by kernel_rfl) (by kernel_rfl) (by kernel_rfl) (fun _ _ _ h => h) (Or.inl ⟨by rfl, ?hy0⟩) (by assumption) ?rest0
    case hy0 => (intro W hSw; (try dsimp only at hSw); go_simp; (try with_reducible rfl))
    case rest0 =>
    try simp only [Act.put, List.setIfInBounds_toArray, List.set_cons_zero, List.set_cons_succ]
    refine' wpAnyH_take_at (i := 1) (d := 24) (v := _) rfl rfl (by kernel_rfl) (by kernel_rfl) (by kernel_rfl) (fun _ _ _ h => h) (Or.inl ⟨by rfl, ?hy1⟩) (by assumption) ?rest1
    case hy1 => (intro W hSw; (try dsimp only at hSw); go_simp; (try with_reducible rfl))
    case rest1 =>
    try simp only [Act.put, List.setIfInBounds_toArray, List.set_cons_zero, List.set_cons_succ]
    refine' wpAnyH_take_at (i := 2) (d := 25) (v := _) rfl rfl (by kernel_rfl) (by kernel_rfl) (by kernel_rfl) (fun _ _ _ h => h) (Or.inl ⟨by rfl, ?hy2⟩) (by assumption) ?rest2
    case hy2 => (intro W hSw; (try dsimp only at hSw); go_simp; (try with_reducible rfl))
    case rest2 =>
    try simp only [Act.put, List.setIfInBounds_toArray, List.set_cons_zero, List.set_cons_succ]
    refine' wpAnyH_take_at (i := 3) (d := 26) (v := _) rfl rfl (by kernel_rfl) (by kernel_rfl) (by kernel_rfl) (fun _ _ _ h => h) (Or.inl ⟨by rfl, ?hy3⟩) (by assumption) ?rest3
    case hy3 => (intro W hSw; (try dsimp only at hSw); go_simp; (try with_reducible rfl))
    case rest3 =>
    try simp only [Act.put, List.setIfInBounds_toArray, List.set_cons_zero, List.set_cons_succ]
    refine' wpAnyH_take_at (i := 4) (d := 27) (v := _) rfl rfl (by kernel_rfl) (by kernel_rfl) (by kernel_rfl) (fun _ _ _ h => h) (Or.inl ⟨by rfl, ?hy4⟩) (by assumption) ?rest4
    case hy4 => (intro W hSw; (try dsimp only at hSw); go_simp; (try with_reducible rfl))
    case rest4 =>
    try simp only [Act.put, List.setIfInBounds_toArray, List.set_cons_zero, List.set_cons_succ]
    refine' wpAnyH_take_at (i := 5) (d := 28) (v := _) rfl rfl (by kernel_rfl) (by kernel_rfl) (by kernel_rfl) (fun _ _ _ h => h) (Or.inl ⟨by rfl, ?hy5⟩) (by assumption) ?rest5
    case hy5 => (intro W hSw; (try dsimp only at hSw); go_simp; (try with_reducible rfl))
    case rest5 =>
    try simp only [Act.put, List.setIfInBounds_toArray, List.set_cons_zero, List.set_cons_succ]
    refine wpAnyH_ready (rs := [6]) (by kernel_rfl) (by simp) ?_
    refine AllReadyH.cons rfl (fun K hK => ?_) AllReadyH.nil
    go_simp
    refine h33d.mono ?_
    rintro e w5 ⟨A5, c5, rfl, hO5, g5⟩
    go_wp2_with fail
    refine hK.out _ _ g5 (fun hHeld => ?_)
    clear hK K
    try simp only [List.getElem_toArray, List.getElem_cons_zero, List.getElem_cons_succ, Act.put, List.setIfInBounds_toArray, List.set_cons_zero, List.set_cons_succ]
    refine wpAnyH_ready (rs := [7]) (by kernel_rfl) (by simp) ?_
    refine AllReadyH.cons rfl (fun K hK => ?_) AllReadyH.nil
    go_simp
    refine (h39 _ _ _ hO5.rd).mono ?_
    rintro e w6 ⟨A6, c6, rfl, hO6, hg6⟩
    have g6 := gb_trans g5 hg6
    have v6 : ∀ W, w6.grownBy W none → (convert 24 9 (.slice A6 p.length c6)).run Try.prog W = .ok (.string (strB p)) W := fun W h => conv_any c6 (hO6.grown0 h).rd rfl
    have k3 : ∀ W, w6.grownBy W none → (convert 24 9 (.slice A3 b.length c3)).run Try.prog W = .ok (.string (strB b)) W := fun W h => hcv3 W (gb_trans g6 h)
    have kb : ∀ W, w6.grownBy W none → (convert 24 9 (.slice A0 b.length c0)).run Try.prog W = .ok (.string (strB b)) W := fun W h => hcvb W (gb_trans g6 h)
    go_wp2_with fail
    refine hK.out _ _ g6 (fun hHeld => ?_)
    clear hK K
    try simp only [List.getElem_toArray, List.getElem_cons_zero, List.getElem_cons_succ, Act.put, List.setIfInBounds_toArray, List.set_cons_zero, List.set_cons_succ]
    clear hHeld hcv2 hcv3 hcvb v2
    refine wpAnyH_tighten (S' := fun W => w6.grownBy W none) (fun W h => gb_trans g6 h) ?_
    have hHeld := gb_refl w6 none
    refine' wpAnyH_take_at (i := 8) (d := 31) (v := _) rfl rfl (by kernel_rfl) (by kernel_rfl) (by kernel_rfl) (fun _ _ _ h => h) (Or.inl ⟨by rfl, ?hy8⟩) (by assumption) ?rest8
    case hy8 => (intro W hSw; (try dsimp only at hSw); go_simp; (try with_reducible rfl))
    case rest8 =>
    try simp only [Act.put, List.setIfInBounds_toArray, List.set_cons_zero, List.set_cons_succ]
    refine' wpAnyH_take_at (i := 9) (d := 32) (v := _) rfl rfl (by kernel_rfl) (by kernel_rfl) (by kernel_rfl) (fun _ _ _ h => h) (Or.inl ⟨by rfl, ?hy9⟩) (by assumption) ?rest9
    case hy9 => (intro W hSw; (try dsimp only at hSw); go_simp; (try with_reducible rfl))
    case rest9 =>
    try simp only [Act.put, List.setIfInBounds_toArray, List.set_cons_zero, List.set_cons_succ]
    refine' wpAnyH_take_at (i := 10) (d := 33) (v := _) rfl rfl (by kernel_rfl) (by kernel_rfl) (by kernel_rfl) (fun _ _ _ h => h) (Or.inl ⟨by rfl, ?hy10⟩) (by assumption) ?rest10
    case hy10 => (intro W hSw; (try dsimp only at hSw); go_simp; (try with_reducible rfl))
    case rest10 =>
    try simp only [Act.put, List.setIfInBounds_toArray, List.set_cons_zero, List.set_cons_succ]
    refine' wpAnyH_take_at (i := 11) (d := 34) (v := _) rfl rfl (by kernel_rfl) (by kernel_rfl) (by kernel_rfl) (fun _ _ _ h => h) (Or.inl ⟨by rfl, ?hy11⟩) (by assumption) ?rest11
    case hy11 => (intro W hSw; (try dsimp only at hSw); go_simp; (try with_reducible rfl))
    case rest11 =>
    try simp only [Act.put, List.setIfInBounds_toArray, List.set_cons_zero, List.set_cons_succ]
    refine' wpAnyH_take_at (i := 12) (d := 35) (v := _) rfl rfl (by kernel_rfl) (by kernel_rfl) (by kernel_rfl) (fun _ _ _ h => h) (Or.inl ⟨by rfl, ?hy12⟩) (by assumption) ?rest12
    case hy12 => (intro W hSw; (try dsimp only at hSw); go_simp; (try with_reducible rfl))
    case rest12 =>
    try simp only [Act.put, List.setIfInBounds_toArray, List.set_cons_zero, List.set_cons_succ]
    refine' wpAnyH_take_at (i := 13) (d := 36) (v := _) rfl rfl (by kernel_rfl) (by kernel_rfl) (by kernel_rfl) (fun _ _ _ h => h) (Or.inl ⟨by rfl, ?hy13⟩) (by assumption) ?rest13
    case hy13 => (intro W hSw; (try dsimp only at hSw); go_simp; (try with_reducible rfl))
    case rest13 =>
    try simp only [Act.put, List.setIfInBounds_toArray, List.set_cons_zero, List.set_cons_succ]
    refine' wpAnyH_take_at (i := 14) (d := 37) (v := _) rfl rfl (by kernel_rfl) (by kernel_rfl) (by kernel_rfl) (fun _ _ _ h => h) (Or.inl ⟨by rfl, ?hy14⟩) (by assumption) ?rest14
    case hy14 => (intro W hSw; (try dsimp only at hSw); go_simp; (try with_reducible rfl))
    case rest14 =>
    try simp only [Act.put, List.setIfInBounds_toArray, List.set_cons_zero, List.set_cons_succ]
    refine' wpAnyH_take_at (i := 15) (d := 38) (v := _) rfl rfl (by kernel_rfl) (by kernel_rfl) (by kernel_rfl) (fun _ _ _ h => h) (Or.inl ⟨by rfl, ?hy15⟩) (by assumption) ?rest15
    case hy15 => (intro W hSw; (try dsimp only at hSw); go_simp; (try with_reducible rfl))
    case rest15 =>
    try simp only [Act.put, List.setIfInBounds_toArray, List.set_cons_zero, List.set_cons_succ]
    refine' wpAnyH_take_at (i := 16) (d := 39) (v := _) rfl rfl (by kernel_rfl) (by kernel_rfl) (by kernel_rfl) (fun _ _ _ h => h) (Or.inl ⟨by rfl, ?hy16⟩) (by assumption) ?rest16
    case hy16 => (intro W hSw; (try dsimp only at hSw); go_simp; (try with_reducible rfl))
    case rest16 =>
    try simp only [Act.put, List.setIfInBounds_toArray, List.set_cons_zero, List.set_cons_succ]
    refine' wpAnyH_take_at (i := 17) (d := 40) (v := _) rfl rfl (by kernel_rfl) (by kernel_rfl) (by kernel_rfl) (fun _ _ _ h => h) (Or.inl ⟨by rfl, ?hy17⟩) (by assumption) ?rest17
    case hy17 => (intro W hSw; (try dsimp only at hSw); go_simp; (try with_reducible rfl))
    case rest17 =>
    try simp only [Act.put, List.setIfInBounds_toArray, List.set_cons_zero, List.set_cons_succ]
    refine' wpAnyH_take_at (i := 18) (d := 41) (v := _) rfl rfl (by kernel_rfl) (by kernel_rfl) (by kernel_rfl) (fun _ _ _ h => h) (Or.inl ⟨by rfl, ?hy18⟩) (by assumption) ?rest18
    case hy18 => (intro W hSw; (try dsimp only at hSw); go_simp; (try with_reducible rfl))
    case rest18 =>
    try simp only [Act.put, List.setIfInBounds_toArray, List.set_cons_zero, List.set_cons_succ]
    refine' wpAnyH_take_at (i := 19) (d := 42) (v := _) rfl rfl (by kernel_rfl) (by kernel_rfl) (by kernel_rfl) (fun _ _ _ h => h) (Or.inl ⟨by rfl, ?hy19⟩) (by assumption) ?rest19
    case hy19 => (intro W hSw; (try dsimp only at hSw); go_simp; (try with_reducible rfl))
    case rest19 =>
    try simp only [Act.put, List.setIfInBounds_toArray, List.set_cons_zero, List.set_cons_succ]
    refine' wpAnyH_take_at (i := 20) (d := 43) (v := _) rfl rfl (by kernel_rfl) (by kernel_rfl) (by kernel_rfl) (fun _ _ _ h => h) (Or.inl ⟨by rfl, ?hy20⟩) (by assumption) ?rest20
    case hy20 => (intro W hSw; (try dsimp only at hSw); go_simp; (try with_reducible rfl))
    case rest20 =>
    try simp only [Act.put, List.setIfInBounds_toArray, List.set_cons_zero, List.set_cons_succ]
    refine' wpAnyH_take_at (i := 21) (d := 44) (v := _) rfl rfl (by kernel_rfl) (by kernel_rfl) (by kernel_rfl) (fun _ _ _ h => h) (Or.inl ⟨by rfl, ?hy21⟩) (by assumption) ?rest21
    case hy21 => (intro W hSw; (try dsimp only at hSw); go_simp; (try with_reducible rfl))
    case rest21 =>
    try simp only [Act.put, List.setIfInBounds_toArray, List.set_cons_zero, List.set_cons_succ]
    refine' wpAnyH_take_at (i := 22) (d := 45) (v := _) rfl rfl (by kernel_rfl) (by kernel_rfl) (by kernel_rfl) (fun _ _ _ h => h) (Or.inl ⟨by rfl, ?hy22⟩) (by assumption) ?rest22
    case hy22 => (intro W hSw; (try dsimp only at hSw); go_simp; (try with_reducible rfl))
    case rest22 =>
    try simp only [Act.put, List.setIfInBounds_toArray, List.set_cons_zero, List.set_cons_succ]
    refine wpAnyH_ready (rs := [23]) (by kernel_rfl) (by simp) ?_
    refine AllReadyH.cons rfl (fun K hK => ?_) AllReadyH.nil
    go_simp
    refine (awake35 _).mono ?_
    rintro e w7 ⟨rfl, hg7⟩
    go_wp2_with fail
    refine hK.out _ _ hg7 (fun hHeld => ?_)
    clear hK K
    try simp only [List.getElem_toArray, List.getElem_cons_zero, List.getElem_cons_succ, Act.put, List.setIfInBounds_toArray, List.set_cons_zero, List.set_cons_succ]
    refine' wpAnyH_take_at (i := 24) (d := 47) (v := _) rfl rfl (by kernel_rfl) (by kernel_rfl) (by kernel_rfl) (fun _ _ _ h => h) (Or.inl ⟨by rfl, ?hy24⟩) (by assumption) ?rest24
    case hy24 => (intro W hSw; (try dsimp only at hSw); go_simp; (try with_reducible rfl))
    case rest24 =>
    try simp only [Act.put, List.setIfInBounds_toArray, List.set_cons_zero, List.set_cons_succ]
    refine' wpAnyH_take_at (i := 25) (d := 2) (v := _) rfl rfl (by kernel_rfl) (by kernel_rfl) (by kernel_rfl) (fun _ _ _ h => h) (Or.inl ⟨by rfl, ?hy25⟩) (by assumption) ?rest25
    case hy25 => (intro W hSw; (try dsimp only at hSw); go_simp; (try with_reducible rfl))
    case rest25 =>
    try simp only [Act.put, List.setIfInBounds_toArray, List.set_cons_zero, List.set_cons_succ]
    refine wpAnyH_done (by kernel_rfl) ?_ _
    go_wp2_with fail
    go_ret
    exact ⟨by trivial, gb_trans (gb_trans hgd g6) hg7⟩

section
open Go.ChangeShapes Go.WideShapes Go.ChangeAt
theorem lzpacks_main {H : Type} {enc : TypeId × Value → H} {base : Nat} {v0 : Value} {d0 : DataW H} {p0 : List MemPlace} (W : World)
    (k0 : Value.okWide Try.prog W .any base 24 v0) (h0 : DataW.Trod enc Try.prog W 0 (fun _ => true) true 24 v0 d0 p0) :
    Calls Try.prog 9 #[v0] W fun e w' => e = .returned (.bool true) ∧ W.grownBy w' none := by
  obtain ⟨A0, c0, bl, rfl, hlc, hcm, hR, hv⟩ := open_bytes k0 h0
  exact law_lzpacks A0 c0 bl W hR (by unfold maxLen at hcm; omega) hv
end
end Go.Proofs.Ytlohplopomfjhaa
