/- The walk of package lz's search: the longest match at a place. -/
import Derived.Test.YtlohplopomfjhaaVB
namespace Go.Proofs.Ytlohplopomfjhaa
set_option linter.unusedVariables false
set_option linter.unusedSimpArgs false
open Go.RowKit Go.Own Go.Bits Go.Lz

theorem chain_start {b : List Nat} {p : Nat} (hp : p + 3 ≤ b.length) : Chain b p 0 (0, 0) (lastKey b (b.getD p 0) (b.getD (p + 1) 0) (b.getD (p + 2) 0) p) := chain_first hp

set_option maxHeartbeats 3200000 in
theorem best_any (base : Nat) (w : World) (g : Nat) (b : List Nat) (p : Nat) (S : Option Addr) (cs B : Nat) (h : Ch base w g b p) (hS : Rd w B 1 S b.length (b.map bv)) (hB : B ≤ base) (hbw : base ≤ w.heap.size) (hp : p < b.length) (hbl : b.length ≤ 1000000) (hb : ∀ v ∈ b, v < 256) :
    Calls Try.prog 45 #[.pointer (some ⟨g, 0, none⟩), .slice S b.length cs, .int .i64 p] w fun e w' => e = .returned (.tuple #[.int .i64 ((bestTo b p (min p 4096)).1 : Nat), .int .i64 ((bestTo b p (min p 4096)).2 : Nat)]) ∧ w.grownBy w' none := by
  obtain ⟨mb, A, c, D, hbg, hbm, hBk, hM, hOk, hO⟩ := h
  by_cases h3 : p + 3 ≤ b.length
  · have hlt : ∀ i, i < b.length → b.getD i 0 < 256 := fun i hi => by
      have : b.getD i 0 = b[i] := by simp [hi]
      rw [this]; exact hb _ (List.getElem_mem hi)
    have hcmp : ¬ ((b.length : Int) < (p : Int) + 3) := by omega
    have hx := hlt p (by omega)
    have hy := hlt (p + 1) (by omega)
    have hz := hlt (p + 2) (by omega)
    have hst := chain_start h3
    have HK : ∀ W, Rd W B 1 S b.length (b.map bv) → B ≤ W.heap.size → _ := fun W h1 h2 => key_any b S cs B p W h1 h2 h3 hbl
    generalize b.getD p 0 = x at *
    generalize b.getD (p + 1) 0 = y at *
    generalize b.getD (p + 2) 0 = z at *
    have hcl := fun (W : World) (h : W.ownsMap Try.prog 88 (plainElem Try.prog 3) mb p D) => ch_look h hOk hx hy hz
    have k0 : w.drew.cell? ⟨g, 0, none⟩ = some (.map (some mb)) := hBk.cell 0 rfl
    have hSd : Rd w.drew B 1 S b.length (b.map bv) := hS
    have hMd : w.drew.ownsMap Try.prog 88 (plainElem Try.prog 3) mb p D := hM
    have hBs : B ≤ w.drew.heap.size := by show B ≤ w.heap.size; omega
    generalize lastKey b x y z p = o0 at *
    go_enter Try.func45, Try.ntmps45
    go_wp2_with fail
    go_region_held3 (fun W => W.cell? ⟨g, 0, none⟩ = some (.map (some mb))) (first | with_reducible exact k0 | with_reducible exact m0) (first
      | (go_at_call 49; refine (HK _ hSd hBs).mono ?_; rintro e w5 ⟨rfl, hg5⟩; (have m0 := hg5.cell k0 (by simp)); (have hlk := hcl w5 (hMd.kept hg5 (by simp))))
      | fail)
    have hg5' : w.grownBy w5 none := gb_trans (gb_drew (gb_refl _ _)) hg5
    have hB5 := hBk.grown hg5' (by simp)
    have hO5 := hO.grown0 hg5'
    have hS5 := hS.later hg5' (by omega)
    have hs5 : w.heap.size ≤ w5.heap.size := hg5'.size
    clear hlk m0 k0 hcl hMd hSd HK hBk hO hS hM hg5 hOk
    go_wp2_with fail
    go_loopw [6, 7, 8, 9] (fun v6 v7 v8 v9 wi => ∃ (m fr lo : Nat) (o : Option Nat) (kk : Int), v6 = .int .i64 fr ∧ v7 = .int .i64 lo ∧ v8 = .int .i64 kk ∧ v9 = .bool o.isSome ∧ Chain b p m (fr, lo) o ∧ (∀ q, o = some q → kk = q) ∧ m ≤ 4096 ∧ m ≤ p ∧ w5.grownBy wi none)
      (fun _ _ v8 v9 _ => match v9 with | .bool true => (intOf v8).toNat + 1 | _ => 0)
    case atStart => exact ⟨0, 0, 0, o0, num0 o0, rfl, rfl, rfl, rfl, hst, fun q h => by rw [h]; rfl, by omega, by omega, gb_refl _ _⟩
    case round =>
      obtain ⟨m, fr, lo, o, kk, rfl, rfl, rfl, rfl, hch, hkk, hm, hmp, hg⟩ := hrel
      cases o with
      | none =>
        have HE := Lib.hid (chain_end_none hm hmp hch)
        go_wp2_with fail
        go_ret2
        rw [← HE.out]
        exact ⟨rfl, gb_trans hg5' hg⟩
      | some q =>
        have hkq := hkk q rfl
        subst hkq
        have hq : q < p := hch.2.1
        obtain ⟨d, hd⟩ : ∃ d, d = p - q := ⟨_, rfl⟩
        have hdi : (p : Int) - (q : Int) = (d : Int) := by omega
        have hd1 : 1 ≤ d := by omega
        have hd2 : d ≤ p := by omega
        by_cases hf : d ≤ 4096
        · have hnx := chain_next h3 hch
          rw [← hd] at hnx
          have hdl : (d : Int) ≤ 4096 := by omega
          have hgw := hg
          have hBi := hB5.grown hg (by simp)
          have hOi := hO5.grown0 hg
          have hSi := hS5.later hg (by omega)
          have hmt := match_any b S cs B p d wr hSi (by have := hg.size; omega) hd1 hd2 hp hbl
          have hqp : q + 3 ≤ b.length := hch.2.2.2.2.1
          have hpv : prevOf b q = numO (lastAt b q q) := by unfold prevOf; rw [if_pos hqp]
          obtain ⟨ga, rfl, _, _⟩ := hOi.form (by omega)
          have hqi : (q : Int) < (p : Int) := by omega
          clear hch hkk hd
          go_wp2_with fail
          refine hmt.mono ?_
          rintro e w6 ⟨rfl, hg6⟩
          have hO6 := hOi.grown0 hg6
          have hB6 := hBi.grown hg6 (by simp)
          have j1 := hB6.cell 1 rfl
          have j2 := hO6.cell rfl (j := q) (u := .int .i64 (prevOf b q)) (by omega) (prevs_get b p q hq)
          rw [hpv] at j2
          generalize matchLen b p d = n at *
          have hg7 := gb_trans hg hg6
          clear hmt hpv
          generalize lastAt b q q = o2 at *
          by_cases hlo : lo < n
          · rw [if_pos hlo] at hnx
            cases o2 with
            | none =>
              unfold numO at j2
              go_wp2_with fail
              go_roundw
              case rel => exact ⟨d, d, n, none, -1, by go_num, rfl, rfl, rfl, hnx, by simp, hf, hd2, hg7⟩
              case measure => first | (simp [intOf]; done) | (simp [intOf]; omega)
            | some q2 =>
              unfold numO at j2
              have hq2 : q2 < q := by have := hnx.2.2.1; omega
              go_wp2_with fail
              go_roundw
              case rel => exact ⟨d, d, n, some q2, q2, by go_num, rfl, rfl, rfl, hnx, by simp, hf, hd2, hg7⟩
              case measure => first | (simp [intOf]; done) | (simp [intOf]; omega)
          · rw [if_neg hlo] at hnx
            cases o2 with
            | none =>
              unfold numO at j2
              go_wp2_with fail
              go_roundw
              case rel => exact ⟨d, fr, lo, none, -1, rfl, rfl, rfl, rfl, hnx, by simp, hf, hd2, hg7⟩
              case measure => first | (simp [intOf]; done) | (simp [intOf]; omega)
            | some q2 =>
              unfold numO at j2
              have hq2 : q2 < q := by have := hnx.2.2.1; omega
              go_wp2_with fail
              go_roundw
              case rel => exact ⟨d, fr, lo, some q2, q2, rfl, rfl, rfl, rfl, hnx, by simp, hf, hd2, hg7⟩
              case measure => first | (simp [intOf]; done) | (simp [intOf]; omega)
        · have HE := Lib.hid (chain_end_far hm hch (by omega))
          have hdl : decide ((d : Int) ≤ 4096) = false := by simp; omega
          go_wp2_with fail
          go_ret2
          rw [← HE.out]
          exact ⟨rfl, gb_trans hg5' hg⟩
  · have hcmp : (b.length : Int) < (p : Int) + 3 := by omega
    have hbs := best_short (Nat.le_of_lt hp) h3 (min p 4096)
    rw [hbs]
    go_enter Try.func45, Try.ntmps45
    go_wp2_with fail
    go_ret2
    exact ⟨rfl, gb_refl _ _⟩
end Go.Proofs.Ytlohplopomfjhaa
