/- The walks of package delta's sums. -/
import Derived.Test.YtgahefehnhggjaaChecked
import Derived.Test.YtgahefehnhggjaaDA
import Derived.Test.YtgahefehnhggjaaOpen
import Derived.Test.YtgahefehnhggjaaOwnN
import Derived.Test.YtgahefehnhggjaaQTail
import Derived.Laws.Bits64b
import Derived.WalkSmall
namespace Go.Proofs.Ytgahefehnhggjaa
set_option linter.unusedVariables false
set_option linter.unusedSimpArgs false
open Go.RowKit Go.Own Go.Delta

/-- A byte. -/
def bv (v : Nat) : Value := .int .u8 (v : Int)

theorem bv_one {l : List Nat} : ∀ u ∈ l.map bv, u.oneCell' = true := by
  intro u hu
  obtain ⟨x, _, rfl⟩ := List.mem_map.1 hu
  rfl

theorem info5 : (Try.prog.info? 5).map (fun i => (i.zero, i.size, i.bytes)) = some (some (.int .u8 0), 1, 1) := by kernel_rfl

theorem rd_byte {w : World} {B : Nat} {S : Option Addr} {b : List Nat} (h : Rd w B 1 S b.length (b.map bv)) {i : Nat} (hi : i < b.length) :
    ∃ g off, S = some ⟨g, off, none⟩ ∧ g < B ∧ ∀ j, j < b.length → w.cell? ⟨g, off + j, none⟩ = some (.int .u8 (b.getD j 0 : Nat)) := by
  obtain ⟨g, off, hS, hg, hc⟩ := h.form (by omega)
  exact ⟨g, off, hS, hg, fun j hj => hc j _ (by simp [hj, bv])⟩

theorem byte_lt {b : List Nat} (hb : ∀ v ∈ b, v < 256) {i : Nat} (hi : i < b.length) : b.getD i 0 < 256 := by
  have : b.getD i 0 = b[i] := by simp [hi]
  rw [this]; exact hb _ (List.getElem_mem hi)

/-- A sum as one number. -/
def keyI (s : Nat × Nat) : Int := bits .or .u32 (bits .and .u32 (s.1 : Int) 65535) ((s.2 : Int) * 65536 % 4294967296)

theorem keyI_wf (s : Nat × Nat) : (Lit.int .u32 (keyI s)).wf = true := by
  unfold keyI bits
  dsimp only
  rw [IntKind.wrap_u32]
  simp [Lit.wf, IntKind.min, IntKind.max, IntKind.signed, IntKind.bits]
  omega

/-- A sum as a value. -/
def wkV (s : Nat × Nat) (n : Nat) : Value := .agg #[.int .u32 (s.1 : Int), .int .u32 (s.2 : Int), .int .u32 (n : Int)]

set_option maxHeartbeats 1600000 in
theorem key_any (s : Nat × Nat) (n : Nat) (w : World) (ha : s.1 < 4294967296) (hb : s.2 < 4294967296) :
    Calls Try.prog 17 #[wkV s n] w fun e w' => e = .returned (.int .u32 (keyI s)) ∧ w.grownBy w' none := by
  obtain ⟨a, b⟩ := s
  dsimp only at ha hb
  unfold wkV
  go_enter Try.func17, Try.ntmps17
  go_wp2
  go_ret
  exact ⟨rfl, gb_alloc (gb_refl _ _) _⟩

theorem take_snoc_nat (bl : List Nat) (k : Nat) (h : k < bl.length) : bl.take (k + 1) = bl.take k ++ [bl.getD k 0] := by
  have e : bl.getD k 0 = bl[k] := by simp [h]
  rw [List.take_succ_eq_append_getElem h, e]

set_option maxHeartbeats 3200000 in
theorem weak_any (bl : List Nat) (S : Option Addr) (cs B : Nat) (w : World) (hB : B ≤ w.heap.size) (hS : Rd w B 1 S bl.length (bl.map bv)) (hv : ∀ v ∈ bl, v < 256) (hl : bl.length ≤ 1000000) :
    Calls Try.prog 15 #[.slice S bl.length cs] w fun e w' => e = .returned (wkV (wk bl) bl.length) ∧ w.grownBy w' none := by
  have hB0 := (Blk.new w #[.int .u32 0, .int .u32 0, .int .u32 0] 47).alloc (.cells #[.int .u32 0, .int .u32 0, .int .u32 (bl.length : Int)] 47)
  have hB1 := Blk.new (w.alloc (.cells #[.int .u32 0, .int .u32 0, .int .u32 0] 47)) #[.int .u32 0, .int .u32 0, .int .u32 (bl.length : Int)] 47
  have hg0 := gb_alloc (gb_alloc (gb_refl w none) (.cells #[.int .u32 0, .int .u32 0, .int .u32 0] 47)) (.cells #[.int .u32 0, .int .u32 0, .int .u32 (bl.length : Int)] 47)
  rw [show (w.alloc (.cells #[.int .u32 0, .int .u32 0, .int .u32 0] 47)).heap.size = w.heap.size + 1 by simp] at hB1
  go_enter Try.func15, Try.ntmps15
  go_wp2_with fail
  go_loopw [12] (fun v12 wi => ∃ k : Nat, v12 = .int .i64 k ∧ k ≤ bl.length ∧ Blk wi (w.heap.size + 1) #[.int .u32 ((wk (bl.take k)).1 : Int), .int .u32 ((wk (bl.take k)).2 : Int), .int .u32 (bl.length : Int)] 47 ∧ Blk wi w.heap.size #[.int .u32 0, .int .u32 0, .int .u32 0] 47 ∧ w.grownBy wi none)
    (fun v12 _ => bl.length - (intOf v12).toNat)
  case atStart => exact ⟨0, rfl, by omega, hB1, hB0, hg0⟩
  case round =>
    obtain ⟨k, rfl, hk, hBk, hBr, hg⟩ := hrel
    by_cases hkl : k < bl.length
    · obtain ⟨sg, off, rfl, hsg, hsc⟩ := rd_byte hS hkl
      have cp := hg.cell (hsc k hkl) (by simp)
      have hy := byte_lt hv hkl
      have hts := take_snoc_nat bl k hkl
      have hsn := wk_snoc (bl.take k) (bl.getD k 0)
      rw [← hts] at hsn
      have hlt := wk_lt (bl.take k)
      have e0 := hBk.cell 0 rfl
      have e1 := hBk.cell 1 rfl
      have e2 := hBk.cell 2 rfl
      have f0 := hBk.free 0
      have f1 := hBk.free 1
      generalize bl.getD k 0 = y at *
      generalize wk (bl.take k) = s at *
      obtain ⟨sa, sb⟩ := s
      have HS := Lib.hid hsn
      have hki : (k : Int) < (bl.length : Int) := by omega
      clear hsn hts
      dsimp only at e0 e1 hlt
      go_wp2_with fail
      go_roundw
      case rel =>
        have h := HS.out
        have v0 : (((sa + y) % 4294967296 : Nat) : Int) = ((sa : Int) + (y : Int)) % 4294967296 := by omega
        have v1 : (((sb + (sa + y) % 4294967296) % 4294967296 : Nat) : Int) = ((sb : Int) + ((sa : Int) + (y : Int))) % 4294967296 := by omega
        refine ⟨k + 1, by go_num, by omega, ?_, (hBr.other (by omega)).other (by omega), gb_new_set (p := ⟨w.heap.size + 1, 1, none⟩) (gb_new_set (p := ⟨w.heap.size + 1, 0, none⟩) hg (by dsimp only; omega)) (by dsimp only; omega)⟩
        rw [h]
        dsimp only
        rw [v0, v1]
        exact (hBk.set 0 _).set 1 _
      case measure => first | (simp [intOf]; done) | (simp [intOf]; omega)
    · have hk2 : k = bl.length := by omega
      subst hk2
      rw [List.take_length] at hBk
      have e0 := hBk.cell 0 rfl
      have e1 := hBk.cell 1 rfl
      have e2 := hBk.cell 2 rfl
      have f0 := hBr.free 0
      have f1 := hBr.free 1
      have f2 := hBr.free 2
      have r0 := hBr.cell 0 rfl
      have r1 := hBr.cell 1 rfl
      have r2 := hBr.cell 2 rfl
      have HB := ((hBr.set 0 (.int .u32 ((wk bl).1 : Int))).set 1 (.int .u32 ((wk bl).2 : Int))).set 2 (.int .u32 (bl.length : Int))
      go_wp2_with fail
      refine bodyPost_ret (res_struct rfl HB rfl Try.underlying47 rfl (by kernel_rfl)) rfl ⟨by rfl, ?_⟩
      exact gb_new_set (p := ⟨w.heap.size, 2, none⟩) (gb_new_set (p := ⟨w.heap.size, 1, none⟩) (gb_new_set (p := ⟨w.heap.size, 0, none⟩) hg (Nat.le_refl _)) (Nat.le_refl _)) (Nat.le_refl _)

set_option maxHeartbeats 1600000 in
theorem roll_any (s : Nat × Nat) (n out inn : Nat) (w : World) (ha : s.1 < 4294967296) (hb : s.2 < 4294967296) (hn : n ≤ 4096) (ho : out < 256) (hi : inn < 256) :
    Calls Try.prog 19 #[wkV s n, .int .u8 out, .int .u8 inn] w fun e w' => e = .returned (wkV (roll s n out inn) n) ∧ w.grownBy w' none := by
  obtain ⟨a, b⟩ := s
  dsimp only at ha hb
  have hno : n * out < 4294967296 := by
    have := Nat.mul_le_mul hn (Nat.le_of_lt_succ ho)
    omega
  have hB0 := (Blk.new w #[.int .u32 (a : Int), .int .u32 (b : Int), .int .u32 (n : Int)] 47).alloc (.cells #[.int .u32 0, .int .u32 0, .int .u32 0] 47)
  have hB1 := Blk.new (w.alloc (.cells #[.int .u32 (a : Int), .int .u32 (b : Int), .int .u32 (n : Int)] 47)) #[.int .u32 0, .int .u32 0, .int .u32 0] 47
  unfold wkV
  dsimp only
  go_enter Try.func19, Try.ntmps19
  go_wp2_with fail
  have hq : (n : Int) * (out : Int) = ((n * out : Nat) : Int) := by push_cast; rfl
  have v0 : (((roll (a, b) n out inn).1 : Nat) : Int) = ((a : Int) + ((inn : Int) - (out : Int))) % 4294967296 := by
    unfold roll; dsimp only; omega
  have v1 : (((roll (a, b) n out inn).2 : Nat) : Int) = ((b : Int) + ((a : Int) + ((inn : Int) - (out : Int)) - (n : Int) * (out : Int))) % 4294967296 := by
    unfold roll; dsimp only
    rw [hq]
    generalize n * out = q at *
    omega
  have HB := Blk.new (w.alloc (.cells #[.int .u32 (((a : Int) + ((inn : Int) - (out : Int))) % 4294967296), .int .u32 (((b : Int) + ((a : Int) + ((inn : Int) - (out : Int)) - (n : Int) * (out : Int))) % 4294967296), .int .u32 (n : Int)] 47)) #[.int .u32 (((a : Int) + ((inn : Int) - (out : Int))) % 4294967296), .int .u32 (((b : Int) + ((a : Int) + ((inn : Int) - (out : Int)) - (n : Int) * (out : Int))) % 4294967296), .int .u32 (n : Int)] 47
  rw [show (w.alloc (.cells #[.int .u32 (((a : Int) + ((inn : Int) - (out : Int))) % 4294967296), .int .u32 (((b : Int) + ((a : Int) + ((inn : Int) - (out : Int)) - (n : Int) * (out : Int))) % 4294967296), .int .u32 (n : Int)] 47)).heap.size = w.heap.size + 1 by simp] at HB
  refine bodyPost_ret (res_struct rfl HB rfl Try.underlying47 rfl (by kernel_rfl)) rfl ⟨by rw [v0, v1], gb_alloc (gb_alloc (gb_refl _ _) _) _⟩
end Go.Proofs.Ytgahefehnhggjaa
