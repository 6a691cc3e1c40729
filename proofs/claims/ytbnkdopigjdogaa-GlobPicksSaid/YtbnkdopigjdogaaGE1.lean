/- The walk of the document's set: one way. -/
import Derived.Test.YtbnkdopigjdogaaGE
namespace Go.Proofs.Ytbnkdopigjdogaa
set_option linter.unusedVariables false
set_option linter.unusedSimpArgs false
open Go.RowKit Go.Own Go.Glob

set_option maxHeartbeats 60000000 in
set_option maxRecDepth 100000 in
theorem set14_1 (s : List Nat) (w : World) (hs : ∀ v ∈ s, v < 256) (hl : s.length ≤ 100000) (h33 : isNot s = true) :
    Calls Try.prog 14 #[.string (strB s)] w (RSetGives w (setS s)) := by
  have hz := strB_size s
  have hx := strB_get hs
  have hlt := fun i (h : i < s.length) => byte_lt hs h
  have hd := fun (a : Nat) => strB_drop s a s.length rfl
  have hds := fun (a : Nat) => (fun v hv => hs v (List.mem_of_mem_drop hv) : ∀ v ∈ s.drop a, v < 256)
  have hdl := fun (a : Nat) => (by rw [List.length_drop]; omega : (s.drop a).length ≤ 1000000)
  replace hx := Lib.hid (fun i (h : i < s.length) => hx i (by rw [hz]; exact h))
  replace hlt := Lib.hid hlt
  replace hd := Lib.hid hd
  have hcc : Hid (∀ (a : Nat) (sa : ByteArray), sa = strB (s.drop a) → ∀ w', Calls Try.prog 15 #[.string sa] w' fun e w2 => e = .returned (.tuple #[.int .u8 ((sglV (s.drop a) 0).1 : Int), .int .i64 ((sglV (s.drop a) 0).2 : Int)]) ∧ w2 = w') :=
    Lib.hid fun a sa h w' => by rw [h]; exact single_any (s.drop a) w' (hds a) (hdl a)
  clear hds hdl
  have hsb : Hid (∀ a c a1 : Nat, single s a = some (c, a1) → c < 256) := Lib.hid fun a c a1 h => single_byte hs h
  have hsl : s.length < 1000000 := by omega
  obtain ⟨T, hT⟩ : ∃ T, T = setS s := ⟨_, rfl⟩
  rw [← hT]
  obtain ⟨G, hG⟩ : ∃ G, G = setGo s (s.length + 1) (if isNot s then 1 else 0) false none0 := ⟨_, rfl⟩
  have hTG : T = mkS (isNot s) G := by rw [hT, hG]; exact setS_mk s
  clear hT
  obtain ⟨ng, hng⟩ : ∃ ng, ng = isNot s := ⟨_, rfl⟩
  rw [← hng] at hTG hG
  replace hTG := Lib.hid hTG
  have hng0 : ng = true → 0 < s.length ∧ s.getD 0 0 = 33 := by
    intro h
    rw [h] at hng
    unfold isNot at hng
    have := hng.symm
    simp only [Bool.and_eq_true, decide_eq_true_eq, beq_iff_eq] at this
    exact this
  have hng1 : ng = false → 0 < s.length → s.getD 0 0 ≠ 33 := by
    intro h h0 e
    rw [h] at hng
    unfold isNot at hng
    rw [e] at hng
    simp [h0] at hng
  replace hng := Lib.hid hng
  have h33 : ng = true := hng.out.trans h33
  · obtain ⟨h0, h33v⟩ := hng0 h33
    have h0i : (0 : Int) < (s.length : Int) := by omega
    have v0 := hx.out 0 h0
    rw [h33v] at v0
    clear hng0 hng1
    subst h33
    rw [if_pos rfl] at hG
    replace hG := Lib.hid hG
    go_enter Try.func14, Try.ntmps14
    go_wp2_with (first
      | (refine wpList_alloc_blk rfl 45 rfl zero45 ?_)
      | (refine wpList_build_blk rfl 45 [] rfl build45 ?_)
      | (refine wpList_store_blk rfl 45 (.tmp 4) (.tmp 13) rfl _ rfl rfl (Blk.new (w.alloc (.cells (qA (false, none0)) 45)) (qA (false, none0)) 45) (size45q _) (by rw [qA_size]) (qA_one _) ?_; intro w1 hB1 hg1; (have hB1' : Blk w1 (w.heap.size + 1) (qA (false, none0)) 45 := by (have := hB1; rw [World.size_alloc] at this; exact this)); (have hR1 := ((Blk.new w (qA (false, none0)) 45).alloc (.cells (qA (false, none0)) 45)).grown hg1 (by simp)); (have hgg : w.grownBy w1 none := gb_own_b (gb_alloc (gb_alloc (gb_refl w none) _) _) hg1 (by simp)))
      | fail)
    have hBn := hB1'
    have hRn := hR1
    have hgn := hgg
    clear v0 hB1 hB1' hR1 hgg hg1
    go_loopw [5, 7] (fun v5 v7 wi => ∃ (a : Nat) (sm : Bool) (f : Nat → Bool), v5 = .int .i64 a ∧ v7 = .bool sm ∧ a ≤ s.length ∧ Hid (G = setGo s (s.length + 1) a sm f) ∧ TwoQ w wi f)
      (fun v5 _ _ => s.length - (intOf v5).toNat)
    case atStart => exact ⟨1, false, none0, rfl, rfl, by omega, hG, hBn, hRn, hgn⟩
    case round =>
      obtain ⟨a, sm, f, rfl, rfl, ha, hGa, hBi, hRi, hgi⟩ := hrel
      clear hBn hRn hgn hG
      have hun := hGa.out
      rw [setGo_unfold] at hun
      by_cases hal : s.length ≤ a
      · have hali : ¬ ((a : Int) < (s.length : Int)) := by omega
        have hGn := Lib.hid (hun.trans (if_pos hal))
        clear hun
        go_wp2_with (first
          | (refine wpList_load_blk rfl 45 (.tmp 4) rfl _ rfl hBi Try.underlying45 rfl (size45q _) ?_)
          | (refine wpList_store_blk rfl 45 (.tmp 2) (.tmp 112) rfl _ rfl rfl hRi (size45q _) (by rw [qA_size, qA_size]) (qA_one _) ?_; intro w9 hR9 hg9)
          | fail)
        refine bodyPost_ret (res_struct2 (p := 2) (u := 3) (v := .int .i64 0) rfl hR9 rfl rfl Try.underlying45 rfl (size45q _)) rfl ?_
        exact (⟨_, _, rfl, .inl ⟨by rw [hTG.out, hGn.out]; rfl, rfl⟩, gb_own_b hgi hg9 (Nat.le_refl _)⟩ : RSetGives w T _ _)
      · have hali : (a : Int) < (s.length : Int) := by omega
        rw [if_neg hal] at hun
        have va := hx.out a (by omega)
        have wa := hlt.out a (by omega)
        obtain ⟨c0, hc0⟩ : ∃ c0, c0 = s.getD a 0 := ⟨_, rfl⟩
        rw [← hc0] at va wa hun
        clear hc0
        by_cases h93 : c0 = 93
        · subst h93
          rw [if_pos rfl] at hun
          cases sm with
          | true =>
            rw [if_pos rfl] at hun
            have hGs := Lib.hid hun
            clear hun
            go_wp2_with fail
            go_loopw [8] (fun v8 wi => ∃ x : Nat, v8 = .int .i64 x ∧ x ≤ 256 ∧ TwoQ w wi (flip f true x)) (fun v8 _ => 256 - (intOf v8).toNat)
            case atStart => exact ⟨0, rfl, by omega, by rw [flip_start]; exact ⟨hBi, hRi, hgi⟩⟩
            case round =>
              obtain ⟨x, rfl, hx6, hBx, hRx, hgx⟩ := hrel
              by_cases hxl : x < 256
              · have hxi : (x : Int) < 256 := by omega
                have kx := qblk_in hBx x (by omega)
                dsimp only at kx
                rw [flip_at] at kx
                have fx := hBx.free (1 + x)
                have hst := qA_set (false, flip f true x) x (f x != true)
                dsimp only at hst
                rw [flip_step f true x] at hst
                have hBn := hBx.set (1 + x) (.bool (f x != true))
                rw [hst] at hBn
                simp only [Bool.bne_false, Bool.bne_true] at hBn
                clear hst
                go_wp2_with fail
                go_roundw
                case rel => exact ⟨x + 1, by go_num, by omega, hBn, hRx.other (by omega), gb_new_set hgx (by show w.heap.size ≤ w.heap.size + 1; omega)⟩
                case measure => first | (simp [intOf]; done) | (simp [intOf]; omega)
              · have hxe : x = 256 := by omega
                subst hxe
                clear hBi hRi hgi
                have hBi := hBx
                have hRi := hRx
                have hgi := hgx
                rw [flip_end] at hBi
                obtain ⟨p1, hp1⟩ : ∃ p1, p1 = a + 1 := ⟨_, rfl⟩
                have hp1i : (a : Int) + 1 = (p1 : Int) := by omega
                have hGt := hGs.out
                rw [← hp1] at hGt
                replace hGt := Lib.hid hGt
                clear hp1
                go_wp2_with (first
                  | (refine wpList_load_blk rfl 45 (.tmp 4) rfl _ rfl hBi Try.underlying45 rfl (size45q _) ?_)
                  | (refine wpList_store_blk rfl 45 (.tmp 2) (.tmp 47) rfl _ rfl rfl hRi (size45q _) (by rw [qA_size, qA_size]) (qA_one _) ?_; intro w9 hR9 hg9)
                  | fail)
                refine bodyPost_ret (res_struct2 (p := 2) (u := 3) (v := .int .i64 (p1 : Nat)) rfl hR9 rfl rfl Try.underlying45 rfl (size45q _)) rfl ?_
                exact (⟨(false, fun c => !f c), _, rfl, .inr ⟨_, p1, by rw [hTG.out, hGt.out]; rfl, rfl, by simp⟩, gb_own_b hgi hg9 (Nat.le_refl _)⟩ : RSetGives w T _ _)
          | false =>
            rw [if_neg (by simp)] at hun
            have hGn := Lib.hid hun
            clear hun
            go_wp2_with (first
              | (refine wpList_load_blk rfl 45 (.tmp 4) rfl _ rfl hBi Try.underlying45 rfl (size45q _) ?_)
              | (refine wpList_store_blk rfl 45 (.tmp 2) (.tmp 33) rfl _ rfl rfl hRi (size45q _) (by rw [qA_size, qA_size]) (qA_one _) ?_; intro w9 hR9 hg9)
              | fail)
            refine bodyPost_ret (res_struct2 (p := 2) (u := 3) (v := .int .i64 0) rfl hR9 rfl rfl Try.underlying45 rfl (size45q _)) rfl ?_
            exact (⟨_, _, rfl, .inl ⟨by rw [hTG.out, hGn.out]; rfl, rfl⟩, gb_own_b hgi hg9 (Nat.le_refl _)⟩ : RSetGives w T _ _)
        · rw [if_neg h93] at hun
          have h93i : ((c0 : Int) == 93) = false := by simp; omega
          obtain ⟨sa, hsa⟩ : ∃ sa, sa = strB (s.drop a) := ⟨_, rfl⟩
          have hd0 := hd.out a
          rw [← hsa] at hd0
          cases hS : single s a with
          | none =>
            rw [hS] at hun
            have hGn : Hid (G = none) := Lib.hid hun
            have hv1 := sgl_none hS
            have hc1 := hcc.out a sa hsa
            rw [hv1] at hc1
            replace hc1 := Lib.hid hc1
            replace hS := Lib.hid hS
            clear hv1 hsa
            clear hun
            go_wp2_with (first
              | (refine wpList_load_blk rfl 45 (.tmp 4) rfl _ rfl hBi Try.underlying45 rfl (size45q _) ?_)
              | (refine wpList_store_blk rfl 45 (.tmp 2) (.tmp 59) rfl _ rfl rfl hRi (size45q _) (by rw [qA_size, qA_size]) (qA_one _) ?_; intro w9 hR9 hg9)
              | (go_at_call_of 15 sa; refine (hc1.out _).mono ?_; rintro e w2 ⟨rfl, rfl⟩)
              | fail)
            refine bodyPost_ret (res_struct2 (p := 2) (u := 3) (v := .int .i64 0) rfl hR9 rfl rfl Try.underlying45 rfl (size45q _)) rfl ?_
            exact (⟨_, _, rfl, .inl ⟨by rw [hTG.out, hGn.out]; rfl, rfl⟩, gb_own_b hgi hg9 (Nat.le_refl _)⟩ : RSetGives w T _ _)
          | some pr =>
            obtain ⟨c, a1⟩ := pr
            rw [hS] at hun
            dsimp only at hun
            have hG1 := Lib.hid hun
            obtain ⟨n1, hv1, hn, hn0, ha1⟩ := sgl_some hS
            have hni : (a : Int) + (n1 : Int) = (a1 : Int) := by omega
            have hnz : ((n1 : Int) == 0) = false := by simp; omega
            have hc256 := hsb.out _ _ _ hS
            have haa : a < a1 := by omega
            have hc1 := hcc.out a sa hsa
            rw [hv1] at hc1
            replace hc1 := Lib.hid hc1
            replace hS := Lib.hid hS
            clear hv1 hsa
            clear hun hn
            obtain ⟨b1, hb1⟩ : ∃ b1, b1 = a1 + 1 := ⟨_, rfl⟩
            have hb1i : (a1 : Int) + 1 = (b1 : Int) := by omega
            by_cases u0 : s.length ≤ b1
            · have u0i : ¬ ((b1 : Int) < (s.length : Int)) := by omega
              clear hb1
              have hE : upper s c a1 = some (c, a1) := upper_no (.inl (by omega))
              have hG2 : Hid (G = if c < c then none else setGo s (s.length + 1) a1 true (fill f c c)) := Lib.hid (hG1.out.trans (by simp only [hE]))
              clear hE
              have hlth : ¬ c < c := Nat.lt_irrefl c
              have hlti : ¬ ((c : Int) < (c : Int)) := by omega
              have hG3 := Lib.hid (hG2.out.trans (if_neg hlth))
              have hc5 : (c : Int) < 256 := by omega
              go_wp2_with (first | (go_at_call_of 15 sa; refine (hc1.out _).mono ?_; rintro e w2 ⟨rfl, rfl⟩))
              go_loopw [12] (fun v12 wi => ∃ x : Nat, v12 = .int .i64 x ∧ c ≤ x ∧ x ≤ c + 1 ∧ TwoQ w wi (fillTo f c x))
                (fun v12 _ => 300 - (intOf v12).toNat)
              case atStart => exact ⟨c, rfl, Nat.le_refl _, by omega, by rw [fillTo_start]; exact ⟨hBi, hRi, hgi⟩⟩
              case round =>
                obtain ⟨x, rfl, hcx, hxh, hBx, hRx, hgx⟩ := hrel
                by_cases hxl : x ≤ c
                · have hxi : (x : Int) ≤ (c : Int) := by omega
                  have hx5 : (x : Int) < 256 := by omega
                  have kx := qblk_in hBx x (by omega)
                  have fx := hBx.free (1 + x)
                  have hst := qA_set (false, fillTo f c x) x true
                  dsimp only at hst
                  rw [fillTo_step f c x hcx] at hst
                  have hBn := hBx.set (1 + x) (.bool true)
                  rw [hst] at hBn
                  clear hst
                  go_wp2_with fail
                  go_roundw
                  case rel => exact ⟨x + 1, by go_num, by omega, by omega, hBn, hRx.other (by omega), gb_new_set hgx (by show w.heap.size ≤ w.heap.size + 1; omega)⟩
                  case measure => first | (simp [intOf]; done) | (simp [intOf]; omega)
                · have hxe : x = c + 1 := by omega
                  subst hxe
                  rw [fillTo_end] at hBx
                  have hxi : ¬ (((c + 1 : Nat) : Int) ≤ (c : Int)) := by omega
                  go_wp2_with fail
                  go_roundw
                  case rel => exact ⟨a1, true, _, rfl, rfl, by omega, hG3, hBx, hRx, hgx⟩
                  case measure => first | (simp [intOf]; done) | (simp [intOf]; omega)
            · have u0i : (b1 : Int) < (s.length : Int) := by omega
              have ha1i : (a1 : Int) < (s.length : Int) := by omega
              have qa1 : a1 < s.length := by omega
              have qb1 : b1 < s.length := by omega
              have va1 := hx.out a1 qa1
              have vb1 := hx.out b1 qb1
              have wa1 := hlt.out a1 (by omega)
              have wb1 := hlt.out b1 (by omega)
              have hup1 := @upper_no s c a1
              have hup2 := @upper_yes s c a1
              rw [← hb1] at hup1 hup2
              clear hb1
              replace hup1 := Lib.hid hup1
              replace hup2 := Lib.hid hup2
              obtain ⟨y, hy⟩ : ∃ y, y = s.getD a1 0 := ⟨_, rfl⟩
              obtain ⟨z, hzz⟩ : ∃ z, z = s.getD b1 0 := ⟨_, rfl⟩
              rw [← hy] at va1 wa1
              rw [← hzz] at vb1 wb1
              replace hy := Lib.hid hy
              replace hzz := Lib.hid hzz
              by_cases u1 : y = 45
              · subst u1
                by_cases u2 : z = 93
                · subst u2
                  have hE : upper s c a1 = some (c, a1) := hup1.out (.inr (.inr hzz.out.symm))
                  have hG2 : Hid (G = if c < c then none else setGo s (s.length + 1) a1 true (fill f c c)) := Lib.hid (hG1.out.trans (by simp only [hE]))
                  clear hE
                  have hlth : ¬ c < c := Nat.lt_irrefl c
                  have hlti : ¬ ((c : Int) < (c : Int)) := by omega
                  have hG3 := Lib.hid (hG2.out.trans (if_neg hlth))
                  have hc5 : (c : Int) < 256 := by omega
                  go_wp2_with (first | (go_at_call_of 15 sa; refine (hc1.out _).mono ?_; rintro e w2 ⟨rfl, rfl⟩))
                  go_loopw [12] (fun v12 wi => ∃ x : Nat, v12 = .int .i64 x ∧ c ≤ x ∧ x ≤ c + 1 ∧ TwoQ w wi (fillTo f c x))
                    (fun v12 _ => 300 - (intOf v12).toNat)
                  case atStart => exact ⟨c, rfl, Nat.le_refl _, by omega, by rw [fillTo_start]; exact ⟨hBi, hRi, hgi⟩⟩
                  case round =>
                    obtain ⟨x, rfl, hcx, hxh, hBx, hRx, hgx⟩ := hrel
                    by_cases hxl : x ≤ c
                    · have hxi : (x : Int) ≤ (c : Int) := by omega
                      have hx5 : (x : Int) < 256 := by omega
                      have kx := qblk_in hBx x (by omega)
                      have fx := hBx.free (1 + x)
                      have hst := qA_set (false, fillTo f c x) x true
                      dsimp only at hst
                      rw [fillTo_step f c x hcx] at hst
                      have hBn := hBx.set (1 + x) (.bool true)
                      rw [hst] at hBn
                      clear hst
                      go_wp2_with fail
                      go_roundw
                      case rel => exact ⟨x + 1, by go_num, by omega, by omega, hBn, hRx.other (by omega), gb_new_set hgx (by show w.heap.size ≤ w.heap.size + 1; omega)⟩
                      case measure => first | (simp [intOf]; done) | (simp [intOf]; omega)
                    · have hxe : x = c + 1 := by omega
                      subst hxe
                      rw [fillTo_end] at hBx
                      have hxi : ¬ (((c + 1 : Nat) : Int) ≤ (c : Int)) := by omega
                      go_wp2_with fail
                      go_roundw
                      case rel => exact ⟨a1, true, _, rfl, rfl, by omega, hG3, hBx, hRx, hgx⟩
                      case measure => first | (simp [intOf]; done) | (simp [intOf]; omega)
                · have u2i : ((z : Int) == 93) = false := by simp; omega
                  have u2j : ((z : Int) != 93) = true := by simp; omega
                  have hU : Hid (upper s c a1 = single s b1) := Lib.hid (hup2.out (by omega) hy.out.symm (by rw [← hzz.out]; exact u2))
                  obtain ⟨sb, hsb2⟩ : ∃ sb, sb = strB (s.drop b1) := ⟨_, rfl⟩
                  have hd1 := hd.out b1
                  rw [← hsb2] at hd1
                  cases hS2 : single s b1 with
                  | none =>
                    have hE : upper s c a1 = none := hU.out.trans hS2
                    have hGn : Hid (G = none) := Lib.hid (hG1.out.trans (by simp only [hE]))
                    have hv2 := sgl_none hS2
                    have hc2 := hcc.out b1 sb hsb2
                    rw [hv2] at hc2
                    replace hc2 := Lib.hid hc2
                    replace hS2 := Lib.hid hS2
                    clear hE hU hv2 hsb2
                    go_wp2_with (first
                      | (refine wpList_load_blk rfl 45 (.tmp 4) rfl _ rfl hBi Try.underlying45 rfl (size45q _) ?_)
                      | (refine wpList_store_blk rfl 45 (.tmp 2) (.tmp 92) rfl _ rfl rfl hRi (size45q _) (by rw [qA_size, qA_size]) (qA_one _) ?_; intro w9 hR9 hg9)
                      | (go_at_call_of 15 sa; refine (hc1.out _).mono ?_; rintro e w2 ⟨rfl, rfl⟩)
                      | (go_at_call_of 15 sb; refine (hc2.out _).mono ?_; rintro e w2 ⟨rfl, rfl⟩)
                      | fail)
                    refine bodyPost_ret (res_struct2 (p := 2) (u := 3) (v := .int .i64 0) rfl hR9 rfl rfl Try.underlying45 rfl (size45q _)) rfl ?_
                    exact (⟨_, _, rfl, .inl ⟨by rw [hTG.out, hGn.out]; rfl, rfl⟩, gb_own_b hgi hg9 (Nat.le_refl _)⟩ : RSetGives w T _ _)
                  | some pr =>
                    obtain ⟨hi, b3⟩ := pr
                    have hE : upper s c a1 = some (hi, b3) := hU.out.trans hS2
                    have hG2 : Hid (G = if hi < c then none else setGo s (s.length + 1) b3 true (fill f c hi)) := Lib.hid (hG1.out.trans (by simp only [hE]))
                    obtain ⟨m, hv2, hbm, hm0, hb3⟩ := sgl_some hS2
                    have hbmi : (b1 : Int) + (m : Int) = (b3 : Int) := by omega
                    have hmz : ((m : Int) == 0) = false := by simp; omega
                    have hhi := hsb.out _ _ _ hS2
                    have hc2 := hcc.out b1 sb hsb2
                    rw [hv2] at hc2
                    replace hc2 := Lib.hid hc2
                    replace hS2 := Lib.hid hS2
                    clear hE hU hv2 hsb2 hbm
                    by_cases hlth : hi < c
                    · have hlti : (hi : Int) < (c : Int) := by omega
                      have hGn := Lib.hid (hG2.out.trans (if_pos hlth))
                      go_wp2_with (first
                        | (refine wpList_load_blk rfl 45 (.tmp 4) rfl _ rfl hBi Try.underlying45 rfl (size45q _) ?_)
                        | (refine wpList_store_blk rfl 45 (.tmp 2) (.tmp 100) rfl _ rfl rfl hRi (size45q _) (by rw [qA_size, qA_size]) (qA_one _) ?_; intro w9 hR9 hg9)
                        | (go_at_call_of 15 sa; refine (hc1.out _).mono ?_; rintro e w2 ⟨rfl, rfl⟩)
                        | (go_at_call_of 15 sb; refine (hc2.out _).mono ?_; rintro e w2 ⟨rfl, rfl⟩)
                        | fail)
                      refine bodyPost_ret (res_struct2 (p := 2) (u := 3) (v := .int .i64 0) rfl hR9 rfl rfl Try.underlying45 rfl (size45q _)) rfl ?_
                      exact (⟨_, _, rfl, .inl ⟨by rw [hTG.out, hGn.out]; rfl, rfl⟩, gb_own_b hgi hg9 (Nat.le_refl _)⟩ : RSetGives w T _ _)
                    · have hlti : ¬ ((hi : Int) < (c : Int)) := by omega
                      have hG3 := Lib.hid (hG2.out.trans (if_neg hlth))
                      have hc5 : (c : Int) < 256 := by omega
                      go_wp2_with (first | (go_at_call_of 15 sa; refine (hc1.out _).mono ?_; rintro e w2 ⟨rfl, rfl⟩) | (go_at_call_of 15 sb; refine (hc2.out _).mono ?_; rintro e w2 ⟨rfl, rfl⟩))
                      go_loopw [12] (fun v12 wi => ∃ x : Nat, v12 = .int .i64 x ∧ c ≤ x ∧ x ≤ hi + 1 ∧ TwoQ w wi (fillTo f c x))
                        (fun v12 _ => 300 - (intOf v12).toNat)
                      case atStart => exact ⟨c, rfl, Nat.le_refl _, by omega, by rw [fillTo_start]; exact ⟨hBi, hRi, hgi⟩⟩
                      case round =>
                        obtain ⟨x, rfl, hcx, hxh, hBx, hRx, hgx⟩ := hrel
                        by_cases hxl : x ≤ hi
                        · have hxi : (x : Int) ≤ (hi : Int) := by omega
                          have hx5 : (x : Int) < 256 := by omega
                          have kx := qblk_in hBx x (by omega)
                          have fx := hBx.free (1 + x)
                          have hst := qA_set (false, fillTo f c x) x true
                          dsimp only at hst
                          rw [fillTo_step f c x hcx] at hst
                          have hBn := hBx.set (1 + x) (.bool true)
                          rw [hst] at hBn
                          clear hst
                          go_wp2_with fail
                          go_roundw
                          case rel => exact ⟨x + 1, by go_num, by omega, by omega, hBn, hRx.other (by omega), gb_new_set hgx (by show w.heap.size ≤ w.heap.size + 1; omega)⟩
                          case measure => first | (simp [intOf]; done) | (simp [intOf]; omega)
                        · have hxe : x = hi + 1 := by omega
                          subst hxe
                          rw [fillTo_end] at hBx
                          have hxi : ¬ (((hi + 1 : Nat) : Int) ≤ (hi : Int)) := by omega
                          go_wp2_with fail
                          go_roundw
                          case rel => exact ⟨b3, true, _, rfl, rfl, by omega, hG3, hBx, hRx, hgx⟩
                          case measure => first | (simp [intOf]; done) | (simp [intOf]; omega)
              · have u1i : ((y : Int) == 45) = false := by simp; omega
                have hE : upper s c a1 = some (c, a1) := hup1.out (.inr (.inl (by rw [← hy.out]; exact u1)))
                have hG2 : Hid (G = if c < c then none else setGo s (s.length + 1) a1 true (fill f c c)) := Lib.hid (hG1.out.trans (by simp only [hE]))
                clear hE
                have hlth : ¬ c < c := Nat.lt_irrefl c
                have hlti : ¬ ((c : Int) < (c : Int)) := by omega
                have hG3 := Lib.hid (hG2.out.trans (if_neg hlth))
                have hc5 : (c : Int) < 256 := by omega
                go_wp2_with (first | (go_at_call_of 15 sa; refine (hc1.out _).mono ?_; rintro e w2 ⟨rfl, rfl⟩))
                go_loopw [12] (fun v12 wi => ∃ x : Nat, v12 = .int .i64 x ∧ c ≤ x ∧ x ≤ c + 1 ∧ TwoQ w wi (fillTo f c x))
                  (fun v12 _ => 300 - (intOf v12).toNat)
                case atStart => exact ⟨c, rfl, Nat.le_refl _, by omega, by rw [fillTo_start]; exact ⟨hBi, hRi, hgi⟩⟩
                case round =>
                  obtain ⟨x, rfl, hcx, hxh, hBx, hRx, hgx⟩ := hrel
                  by_cases hxl : x ≤ c
                  · have hxi : (x : Int) ≤ (c : Int) := by omega
                    have hx5 : (x : Int) < 256 := by omega
                    have kx := qblk_in hBx x (by omega)
                    have fx := hBx.free (1 + x)
                    have hst := qA_set (false, fillTo f c x) x true
                    dsimp only at hst
                    rw [fillTo_step f c x hcx] at hst
                    have hBn := hBx.set (1 + x) (.bool true)
                    rw [hst] at hBn
                    clear hst
                    go_wp2_with fail
                    go_roundw
                    case rel => exact ⟨x + 1, by go_num, by omega, by omega, hBn, hRx.other (by omega), gb_new_set hgx (by show w.heap.size ≤ w.heap.size + 1; omega)⟩
                    case measure => first | (simp [intOf]; done) | (simp [intOf]; omega)
                  · have hxe : x = c + 1 := by omega
                    subst hxe
                    rw [fillTo_end] at hBx
                    have hxi : ¬ (((c + 1 : Nat) : Int) ≤ (c : Int)) := by omega
                    go_wp2_with fail
                    go_roundw
                    case rel => exact ⟨a1, true, _, rfl, rfl, by omega, hG3, hBx, hRx, hgx⟩
                    case measure => first | (simp [intOf]; done) | (simp [intOf]; omega)
end Go.Proofs.Ytbnkdopigjdogaa
