/- The walks of package chunk's sums. -/
import Derived.Test.YtephnmmbmacbfaaChecked
import Derived.Test.YtephnmmbmacbfaaCA
import Derived.Test.YtephnmmbmacbfaaOpen
import Derived.Test.YtephnmmbmacbfaaOwnN
import Derived.Test.YtephnmmbmacbfaaQTail
import Derived.Laws.Bits64b
import Derived.WalkSmall
namespace Go.Proofs.Ytephnmmbmacbfaa
set_option linter.unusedVariables false
set_option linter.unusedSimpArgs false
open Go.RowKit Go.Own Go.Chunk

/-- A byte. -/
def bv (v : Nat) : Value := .int .u8 (v : Int)

theorem bv_one {l : List Nat} : ∀ u ∈ l.map bv, u.oneCell' = true := by
  intro u hu
  obtain ⟨x, _, rfl⟩ := List.mem_map.1 hu
  rfl

def x1 (c : Nat) : Int := IntKind.u64.wrap (IntKind.u64.wrap ((c : Int) * 11400714819323198485) + 7146057691288625177)
def x2 (c : Nat) : Int := IntKind.u64.wrap (bits BinOp.xor IntKind.u64 (x1 c) (x1 c / 536870912) * 13787848793156543929)
/-- A byte spread. -/
def spc (c : Nat) : Int := bits BinOp.xor IntKind.u64 (x2 c) (x2 c / 4294967296)

theorem wrap_rng (n : Int) : 0 ≤ IntKind.u64.wrap n ∧ IntKind.u64.wrap n < 18446744073709551616 := by
  rw [IntKind.wrap_u64]
  omega

theorem wrap_div (n d : Int) (h : 0 ≤ n ∧ n < 18446744073709551616) (hd : 0 < d) : IntKind.u64.wrap (n.tdiv d) = n / d := by
  rw [Int.tdiv_eq_ediv_of_nonneg h.1, IntKind.wrap_u64]
  have h1 : 0 ≤ n / d := Int.ediv_nonneg h.1 (by omega)
  have h2 : n / d ≤ n := Int.ediv_le_self _ h.1
  omega

theorem spc_rng (c : Nat) : 0 ≤ spc c ∧ spc c < 18446744073709551616 := by
  have := bits_within BinOp.xor .u64 (x2 c) (x2 c / 4294967296)
  have e1 : IntKind.u64.min = 0 := by decide
  have e2 : IntKind.u64.max = 18446744073709551615 := by decide
  rw [e1, e2] at this
  unfold spc
  omega

set_option maxHeartbeats 1600000 in
theorem spread_any (c : Nat) (w : World) (hc : c < 256) :
    Calls Try.prog 21 #[.int .u8 c] w fun e w' => e = .returned (.int .u64 (spc c)) ∧ w' = w := by
  go_enter Try.func21, Try.ntmps21
  go_wp2_with fail
  go_ret
  exact ⟨rfl, rfl⟩

set_option maxHeartbeats 1600000 in
theorem number_any (c : Nat) (w : World) (hc : c < 256) :
    Calls Try.prog 22 #[.int .u8 c] w fun e w' => e = .returned (.int .u64 (spc c)) ∧ w' = w := by
  have h1 := wrap_div (x1 c) 536870912 (wrap_rng _) (by decide)
  have h2 := wrap_div (x2 c) 4294967296 (wrap_rng _) (by decide)
  replace h1 := Lib.hid h1
  replace h2 := Lib.hid h2
  go_enter Try.func22, Try.ntmps22
  go_wp2_with fail
  go_ret
  refine ⟨ret_int ?_, rfl⟩
  show bits BinOp.xor IntKind.u64 (IntKind.u64.wrap (bits BinOp.xor IntKind.u64 (x1 c) (IntKind.u64.wrap ((x1 c).tdiv 536870912)) * 13787848793156543929)) (IntKind.u64.wrap ((IntKind.u64.wrap (bits BinOp.xor IntKind.u64 (x1 c) (IntKind.u64.wrap ((x1 c).tdiv 536870912)) * 13787848793156543929)).tdiv 4294967296)) = spc c
  rw [h1.out]
  show bits BinOp.xor IntKind.u64 (x2 c) (IntKind.u64.wrap ((x2 c).tdiv 4294967296)) = spc c
  rw [h2.out]
  rfl

theorem rd_byte {w : World} {B : Nat} {S : Option Addr} {b : List Nat} (h : Rd w B 1 S b.length (b.map bv)) {i : Nat} (hi : i < b.length) :
    ∃ g off, S = some ⟨g, off, none⟩ ∧ g < B ∧ ∀ j, j < b.length → w.cell? ⟨g, off + j, none⟩ = some (.int .u8 (b.getD j 0 : Nat)) := by
  obtain ⟨g, off, hS, hg, hc⟩ := h.form (by omega)
  exact ⟨g, off, hS, hg, fun j hj => hc j _ (by simp [hj, bv])⟩

theorem byte_lt {b : List Nat} (hb : ∀ v ∈ b, v < 256) {i : Nat} (hi : i < b.length) : b.getD i 0 < 256 := by
  have : b.getD i 0 = b[i] := by simp [hi]
  rw [this]; exact hb _ (List.getElem_mem hi)

theorem take_snoc_nat (bl : List Nat) (k : Nat) (h : k < bl.length) : bl.take (k + 1) = bl.take k ++ [bl.getD k 0] := by
  have e : bl.getD k 0 = bl[k] := by simp [h]
  rw [List.take_succ_eq_append_getElem h, e]

/-- Part of a row of bytes. -/
theorem rd_part {w : World} {B : Nat} {g off : Nat} {b : List Nat} (h : Rd w B 1 (some ⟨g, off, none⟩) b.length (b.map bv)) (lo n : Nat) (hl : lo + n ≤ b.length) : Rd w B 1 (some ⟨g, off + lo, none⟩) n (((b.drop lo).take n).map bv) := by
  refine ⟨by simp; omega, fun hn => ?_⟩
  obtain ⟨g', off', e, hg, hc⟩ := h.2 (by omega)
  injection e with e
  injection e with e1 e2
  subst e1; subst e2
  refine ⟨g, off + lo, rfl, hg, fun j u hu => ?_⟩
  have hj : j < n := by
    have := (List.getElem?_eq_some_iff.1 hu).1
    simp at this; omega
  rw [show off + lo + j = off + (lo + j) by omega]
  refine hc (lo + j) u ?_
  rw [← hu, List.getElem?_map, List.getElem?_map, List.getElem?_take_of_lt hj, List.getElem?_drop]

set_option maxHeartbeats 3200000 in
theorem sum_any (b : List Nat) (S : Option Addr) (cs B : Nat) (w : World) (hS : Rd w B 1 S b.length (b.map bv)) (hv : ∀ v ∈ b, v < 256) (hl : b.length ≤ 1000000) :
    Calls Try.prog 14 #[.slice S b.length cs] w fun e w' => e = .returned (.int .u64 (sumB spc b)) ∧ w' = w := by
  go_enter Try.func14, Try.ntmps14
  go_wp2_with fail
  go_loopw [3, 8] (fun v3 v8 wi => ∃ (k : Nat) (s : Int), v8 = .int .i64 k ∧ v3 = .int .u64 s ∧ k ≤ b.length ∧ Hid (s = sumB spc (b.take k)) ∧ wi = w)
    (fun _ v8 _ => b.length - (intOf v8).toNat)
  case atStart => exact ⟨0, 0, rfl, rfl, by omega, Lib.hid rfl, rfl⟩
  case round =>
    obtain ⟨k, s, rfl, rfl, hk, hs, rfl⟩ := hrel
    by_cases hkl : k < b.length
    · have hki : (k : Int) < (b.length : Int) := by omega
      obtain ⟨g, off, rfl, hg, hc⟩ := rd_byte hS hkl
      have hck := hc k hkl
      have hlt := byte_lt hv hkl
      have hst := take_snoc_nat b k hkl
      have hsn := sumB_snoc spc (b.take k) (b.getD k 0)
      rw [← hst, ← hs.out] at hsn
      replace hsn := Lib.hid hsn
      clear hc hst
      generalize b.getD k 0 = x at *
      have hsp := spc_rng x
      go_wp2_with (go_at_call 21; refine (spread_any _ _ hlt).mono ?_; rintro e w2 ⟨rfl, rfl⟩)
      go_roundw
      case rel =>
        refine ⟨k + 1, _, by go_num, rfl, by omega, Lib.hid ?_, trivial⟩
        rw [hsn.out]
        simp [IntKind.wrap_u64, M, F]
      case measure => first | (simp [intOf]; done) | (simp [intOf]; omega)
    · have hk2 : k = b.length := by omega
      subst hk2
      rw [List.take_length] at hs
      go_wp2_with fail
      go_ret
      exact ⟨ret_int hs.out, rfl⟩

set_option maxHeartbeats 3200000 in
theorem rsum_any (b : List Nat) (S : Option Addr) (cs B : Nat) (w : World) (hS : Rd w B 1 S b.length (b.map bv)) (hv : ∀ v ∈ b, v < 256) (hl : b.length ≤ 1000000) :
    Calls Try.prog 15 #[.slice S b.length cs] w fun e w' => e = .returned (.int .u64 (sumB spc b)) ∧ w' = w := by
  go_enter Try.func15, Try.ntmps15
  go_wp2_with fail
  go_loopw [3, 4] (fun v3 v4 wi => ∃ (k : Nat) (s : Int), v4 = .int .i64 k ∧ v3 = .int .u64 s ∧ k ≤ b.length ∧ Hid (s = sumB spc (b.take k)) ∧ wi = w)
    (fun _ v4 _ => b.length - (intOf v4).toNat)
  case atStart => exact ⟨0, 0, rfl, rfl, by omega, Lib.hid rfl, rfl⟩
  case round =>
    obtain ⟨k, s, rfl, rfl, hk, hs, rfl⟩ := hrel
    by_cases hkl : k < b.length
    · have hki : (k : Int) < (b.length : Int) := by omega
      obtain ⟨g, off, rfl, hg, hc⟩ := rd_byte hS hkl
      have hck := hc k hkl
      have hlt := byte_lt hv hkl
      have hst := take_snoc_nat b k hkl
      have hsn := sumB_snoc spc (b.take k) (b.getD k 0)
      rw [← hst, ← hs.out] at hsn
      replace hsn := Lib.hid hsn
      clear hc hst
      generalize b.getD k 0 = x at *
      have hsp := spc_rng x
      go_wp2_with (go_at_call 22; refine (number_any _ _ hlt).mono ?_; rintro e w2 ⟨rfl, rfl⟩)
      go_roundw
      case rel =>
        refine ⟨k + 1, _, by go_num, rfl, by omega, Lib.hid ?_, trivial⟩
        rw [hsn.out]
        simp [IntKind.wrap_u64, M, F]
      case measure => first | (simp [intOf]; done) | (simp [intOf]; omega)
    · have hk2 : k = b.length := by omega
      subst hk2
      rw [List.take_length] at hs
      go_wp2_with fail
      go_ret
      exact ⟨ret_int hs.out, rfl⟩

/-- The sixteenth power. -/
def f16 : Int := F ^ 16 % M

set_option maxHeartbeats 3200000 in
theorem old_any (w : World) : Calls Try.prog 23 #[] w fun e w' => e = .returned (.int .u64 f16) ∧ w' = w := by
  have hp : ∀ k : Nat, (F ^ k % M * 1099511628211) % 18446744073709551616 = F ^ (k + 1) % M := by
    intro k
    rw [Int.pow_succ, Int.mul_emod (F ^ k) F M, Int.mul_emod (F ^ k % M), Int.emod_emod_of_dvd _ (Int.dvd_refl M)]
  replace hp := Lib.hid hp
  go_enter Try.func23, Try.ntmps23
  go_wp2_with fail
  go_loopw [1, 2] (fun v1 v2 wi => ∃ (k : Nat) (s : Int), v2 = .int .i64 k ∧ v1 = .int .u64 s ∧ k ≤ 16 ∧ Hid (s = F ^ k % M) ∧ wi = w)
    (fun _ v2 _ => 16 - (intOf v2).toNat)
  case atStart => exact ⟨0, 1, rfl, rfl, by omega, Lib.hid rfl, rfl⟩
  case round =>
    obtain ⟨k, s, rfl, rfl, hk, hs, rfl⟩ := hrel
    by_cases hkl : k < 16
    · have hki : (k : Int) < 16 := by omega
      go_wp2_with fail
      go_roundw
      case rel =>
        refine ⟨k + 1, _, by go_num, rfl, by omega, Lib.hid ?_, trivial⟩
        rw [← hp.out, ← hs.out]
        simp [IntKind.wrap_u64]
      case measure => first | (simp [intOf]; done) | (simp [intOf]; omega)
    · have hk2 : k = 16 := by omega
      subst hk2
      go_wp2_with fail
      go_ret
      exact ⟨ret_int hs.out, rfl⟩
end Go.Proofs.Ytephnmmbmacbfaa
