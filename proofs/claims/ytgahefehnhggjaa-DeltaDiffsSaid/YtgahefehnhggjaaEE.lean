/- The walk of package delta's Diff. -/
import Derived.Test.YtgahefehnhggjaaED
namespace Go.Proofs.Ytgahefehnhggjaa
set_option linter.unusedVariables false
set_option linter.unusedSimpArgs false
open Go.RowKit Go.Own Go.Delta Go.ChangeShapes

set_option maxHeartbeats 1600000 in
theorem diff_bad (So Sf : Option Addr) (lo co lf cf : Nat) (size : Int) (w : World) (hs : size < 1 ∨ 4096 < size) :
    Calls Try.prog 9 #[.slice So lo co, .slice Sf lf cf, .int .i64 size] w fun e w' => e = .returned (.tuple #[.slice none 0 0, .int .i64 1]) ∧ w' = w := by
  by_cases h : size < 1
  · go_enter Try.func9, Try.ntmps9
    go_wp2_with fail
    go_ret2
    exact ⟨rfl, rfl⟩
  · have h2 : 4096 < size := by omega
    go_enter Try.func9, Try.ntmps9
    go_wp2_with fail
    go_ret2
    exact ⟨rfl, rfl⟩

set_option maxHeartbeats 12800000 in
set_option maxRecDepth 100000 in
theorem diff_any (old fresh : List Nat) (So Sf : Option Addr) (co cf B size : Nat) (w : World) (hO : Rd w B 1 So old.length (old.map bv)) (hF : Rd w B 1 Sf fresh.length (fresh.map bv)) (hB : B ≤ w.heap.size) (hs : 1 ≤ size) (hs4 : size ≤ 4096) (hol : old.length ≤ 1000) (hfl : fresh.length ≤ 1000) (hco : old.length ≤ co) (hcm : co ≤ 9223372036854775807) (hcf : fresh.length ≤ cf) (hcfm : cf ≤ 9223372036854775807) (hbo : ∀ v ∈ old, v < 256) (hbf : ∀ v ∈ fresh, v < 256) :
    Calls Try.prog 9 #[.slice So old.length co, .slice Sf fresh.length cf, .int .i64 size] w (DiffGives w (diffS old fresh size)) := by
  obtain ⟨i5, hi5, hz50, hz51, hz52⟩ := info_parts info5
  obtain ⟨i37, hi37, hz370, hz371, hz372⟩ := info_parts info37
  have hzero : ∀ W : World, (zeroValue 50).run Try.prog W = .ok (.slice none 0 0) W := fun W => by rfl
  have hnb : nbl old size ≤ 1000 := Nat.le_trans (Nat.div_le_self _ _) hol
  have h14 := blocks_any old So co B size w hO hB hs hs4 (by omega) hco hcm hbo
  have hone : ∀ b : Nat, ∀ u ∈ [bv b], u.oneCell' = true := fun b u hu => by simp at hu; subst hu; rfl
  obtain ⟨target, htg⟩ : ∃ t, t = diffS old fresh size := ⟨_, rfl⟩
  have HD0 := Lib.hid (htg.trans (diffS_T old fresh size))
  rw [← htg]
  clear htg
  go_enter Try.func9, Try.ntmps9
  go_wp2_with fail
  refine h14.mono ?_
  rintro e w1 ⟨rfl, ⟨n, D, hmap, hn6, hM⟩, hg1⟩
  clear h14
  have hNw := groups_size hmap
  obtain ⟨mb, hmb⟩ : ∃ mb, mb = w.heap.size := ⟨_, rfl⟩
  rw [← hmb] at hmap ⊢
  have HMB := Lib.hid hmb
  clear hmb
  have hB1 := Blk.new w1 #[.int .u32 0, .int .u32 0, .int .u32 0] 47
  have hg10 := gb_alloc (gb_refl w1 none) (.cells #[.int .u32 0, .int .u32 0, .int .u32 0] 47)
  go_wp2_with fail
  go_loopw [9, 10, 12, 13] (fun v9 v10 v12 v13 wi => ∃ (p : Nat) (run : List Nat) (out : List Pt) (Ao Ar : Option Addr) (co' cr : Nat) (hv : Bool) (s : Nat × Nat) (m : Nat), v9 = .slice Ao out.length co' ∧ v10 = .slice Ar run.length cr ∧ v12 = .bool hv ∧ v13 = .int .i64 p ∧ p ≤ fresh.length ∧ run.length ≤ p ∧ out.length ≤ 2 * p ∧ (∀ v ∈ run, v < 256) ∧ Own wi w1.heap.size 37 2 Ao co' out.length (out.flatMap ptC) ∧ Own wi w1.heap.size 5 1 Ar cr run.length (run.map bv) ∧ PtA wi w1.heap.size out Ar ∧ Blk wi w1.heap.size #[.int .u32 (s.1 : Int), .int .u32 (s.2 : Int), .int .u32 (m : Int)] 47 ∧ (hv = true → ¬ fresh.length < p + size → s = wk ((fresh.drop p).take size) ∧ m = size) ∧ RowKit.Hid (target = diffT old fresh size p run (out.map prt)) ∧ w1.grownBy wi none)
    (fun _ _ _ v13 _ => fresh.length - (intOf v13).toNat)
  case atStart => exact ⟨0, [], [], none, none, 0, 0, false, (0, 0), 0, rfl, rfl, rfl, rfl, by omega, by simp, by simp, fun v hv => by simp at hv, Own.nil _ _ _ _, Own.nil _ _ _ _, PtA.nil _ _ _, hB1, fun h => by simp at h, HD0, hg10⟩
  case round =>
    obtain ⟨p, run, out, Ao, Ar, co', cr, hv, s, m, rfl, rfl, rfl, rfl, hp, hrl, hotl, hrv, hOo, hOr, hPt, hBk, hhave, HT, hg⟩ := hrel
    have hgs := hg.size
    by_cases hpl : p < fresh.length
    · obtain ⟨fg, fo, rfl, hfg, hfc⟩ := rd_byte hF (show 0 < fresh.length by omega)
      have hpi : (p : Int) < (fresh.length : Int) := by omega
      have hsi : (size : Int) ≤ 4096 := by omega
      have hfi : (fresh.length : Int) ≤ 1000 := by omega
      have hcfi : (fresh.length : Int) ≤ (cf : Int) := by omega
      by_cases h2 : fresh.length < p + size
      · have h2i : (fresh.length : Int) < (p : Int) + (size : Int) := by omega
        have HT2 := Lib.hid (HT.out.trans (diffT_tail hpl h2))
        have hrest := rd_part ((hF.later hg1 hB).later hg (by have := hg1.size; omega)) p (fresh.length - p) (by omega)
        have ht : (fresh.drop p).take (fresh.length - p) = fresh.drop p := List.take_of_length_le (by simp)
        rw [ht] at hrest
        have hsub : (fresh.length : Int) - (p : Int) = ((fresh.length - p : Nat) : Int) := by omega
        obtain ⟨q, hq⟩ : ∃ q, q = fresh.length - p := ⟨_, rfl⟩
        rw [← hq] at hrest hsub
        have hqb : q ≤ 1000 := by omega
        have hdl : (fresh.drop p).length = q := by simp [hq]
        have hbt : ∀ v ∈ fresh.drop p, v < 256 := fun v hv => hbf v (List.mem_of_mem_drop hv)
        have HQ := Lib.hid hq
        clear hq ht
        have hs1 : w1.heap.size ≤ wr.heap.size := hgs
        generalize fresh.drop p = tl at *
        have hel := Lib.hid (show run.length + q = (run ++ tl).length by simp [hdl])
        replace hdl := Lib.hid hdl
        have h63 : run.length + q ≤ maxLen := by simp only [maxLen]; omega
        have hby : (run.length + q) * 1 ≤ 140737488355328 := by omega
        go_wp2_with (
          at_builtin
          refine wpList_appN wr rfl (.tmp 35) (.tmp 38) 22 rfl w1.heap.size 5 Try.underlying22 hi5 hz50 hz51 hz52 rfl (by decide) Ar cr run.length (run.map bv) rfl hOr B (some ⟨fg, fo + p, none⟩) q (cf - p) (tl.map bv) (by rw [HQ.out]; rfl) hrest bv_one h63 hby hs1 ?_
          intro A2 c2 w2 hO2 hgr hloc
          rw [← List.map_append, hel.out] at hO2)
        have hg2 := gb_own hg hgr (fun g h => (hOr.lt g h).1)
        have hOo2 := own_aside hOo hOr (by decide) hgr
        have hPt2 : PtA w2 w1.heap.size out A2 := hPt.row hgr (by rcases hloc with h | h; exact .inl h; exact .inr (fun k hk => by rw [h] at hk; simp at hk; omega))
        have hrv2 : ∀ v ∈ run ++ tl, v < 256 := fun v hv => by rcases List.mem_append.1 hv with hv | hv; exact hrv v hv; exact hbt v hv
        go_wp2_with fail
        rw [hel.out]
        refine (shut_any w1.heap.size out (run ++ tl) Ao A2 co' c2 w2 hOo2 hg2.size (by omega)).mono ?_
        rintro e w3 ⟨A3, c3, rfl, hO3, hg3, hloc3⟩
        have hfin := shut_fin hg1 hg2 hOo2 hO2 hPt2 hrv2 hO3 hg3 HT2.out
        clear hO3 hPt2 hOo2 hPt hOo hOr hM hmap
        go_wp2_with fail
        go_ret2
        exact hfin
      · have hle : p + size ≤ fresh.length := by omega
        have hlei : (p : Int) + (size : Int) ≤ (fresh.length : Int) := by omega
        have hlec : (p : Int) + (size : Int) ≤ (cf : Int) := by omega
        have hhd := rd_part (hF.later hg1 hB) p size (by omega)
        have hrl : ((fresh.drop p).take size).length = size := by simp; omega
        have hrb : ∀ v ∈ (fresh.drop p).take size, v < 256 := fun v hv => hbf v (List.mem_of_mem_drop (List.mem_of_mem_take hv))
        have hfnd0 := grpN_find old ((fresh.drop p).take size)
        have hblk := fun h => diffT_blk (old := old) (run := run) (out := out.map prt) (by omega) hpl h2 h
        have hbyt := fun h => diffT_byte (old := old) (run := run) (out := out.map prt) (by omega) hpl h2 h
        have hroll := fun h => roll_step fresh p size hs h hbf
        rw [hrl] at hfnd0
        have hb1 := hg1.size
        obtain ⟨hr, hhr⟩ : ∃ hr, hr = (fresh.drop p).take size := ⟨_, rfl⟩
        rw [← hhr] at hfnd0 hblk hbyt hroll hhave hrl hrb hhd
        replace hhr := Lib.hid hhr
        have hwl := wk_lt hr
        have hkey := fun W => key_any (wk hr) size W hwl.1 hwl.2
        have hkwf := keyI_wf (wk hr)
        have hky : keyOf Try.prog 45 (.int .u32 (keyI (wk hr))) = some (.int .u32 (keyI (wk hr))) := Maps.keyOf_int_mk Try.underlying45 hkwf
        have hat0 := hM (keyI (wk hr))
        rw [grp_N] at hat0
        have hznl := grpN_len old size (nbl old size) (keyI (wk hr))
        have hzm := grpN_mem (old := old) (size := size) (n := nbl old size) (κ := keyI (wk hr))
        have hwk : ∀ W : World, w1.grownBy W none → Calls Try.prog 15 #[.slice (some ⟨fg, fo + p, none⟩) size (cf - p)] W fun e w' => e = .returned (.agg #[.int .u32 ((wk hr).1 : Int), .int .u32 ((wk hr).2 : Int), .int .u32 (size : Int)]) ∧ W.grownBy w' none := fun W hW => by
          have h := weak_any hr (some ⟨fg, fo + p, none⟩) (cf - p) B W (by have := hW.size; omega) (by rw [hrl]; exact hhd.later hW (by omega)) hrb (by omega)
          rw [hrl] at h
          exact h
        replace hwk := Lib.hid hwk
        have hrols : ∀ W : World, p + size < fresh.length → Calls Try.prog 19 #[.agg #[.int .u32 ((wk hr).1 : Int), .int .u32 ((wk hr).2 : Int), .int .u32 (size : Int)], .int .u8 (fresh.getD p 0 : Nat), .int .u8 (fresh.getD (p + size) 0 : Nat)] W fun e w' => e = .returned (.agg #[.int .u32 ((wk ((fresh.drop (p + 1)).take size)).1 : Int), .int .u32 ((wk ((fresh.drop (p + 1)).take size)).2 : Int), .int .u32 (size : Int)]) ∧ W.grownBy w' none := fun W hW => by
          have h := roll_any (wk hr) size (fresh.getD p 0) (fresh.getD (p + size) 0) W hwl.1 hwl.2 hs4 (byte_lt hbf hpl) (byte_lt hbf hW)
          rw [hroll hW] at h
          exact h
        replace hrols := Lib.hid hrols
        clear hroll
        generalize keyI (wk hr) = κ at *
        generalize grpN old size (nbl old size) κ = zn at *
        have hfn : ∀ (W : World) (A : Option Addr) (c : Nat), Rd W W.heap.size 1 A zn.length (zn.map fun i => .int .i64 ((i : Nat) : Int)) → w1.grownBy W none → Calls Try.prog 16 #[.slice A zn.length c, .slice So old.length co, .slice (some ⟨fg, fo + p, none⟩) size (cf - p)] W fun e w' => e = .returned (.int .i64 (find old hr)) ∧ W.grownBy w' none := fun W A c hA hW => by
          have h := found_any old hr zn A So (some ⟨fg, fo + p, none⟩) c co (cf - p) W.heap.size W hA (((hO.later hg1 hB).later hW (by omega)).mono (by have := hW.size; omega)) (by rw [hrl]; exact (hhd.later hW (by omega)).mono (by have := hW.size; omega)) (Nat.le_refl _) (by rw [hrl]; exact hzm) (by omega) (by omega) (by omega) (by omega) hco hcm hbo hrb
          rw [hrl, hfnd0] at h
          exact h
        replace hfn := Lib.hid hfn
        clear hhd hfnd0 hzm hrb
        generalize find old hr = fi at *
        have hone37 := ptC_one ⟨fi, [], none, 0⟩
        have hcp0 := hfc p hpl
        have hcq0 := fun h => hfc (p + size) h
        have hpb := byte_lt hbf hpl
        replace hcq0 := Lib.hid hcq0
        generalize fresh.getD p 0 = fp at *
        generalize fresh.getD (p + size) 0 = fq at *
        clear hfc hrl
        by_cases hi : 0 ≤ fi
        · cases hv with
          | true =>
            obtain ⟨e1, e2⟩ := hhave rfl h2
            rw [e1, e2] at hBk
            clear e1 e2 hhave hwk
            have k0 := hBk.cell 0 rfl
            have k1 := hBk.cell 1 rfl
            have k2 := hBk.cell 2 rfl
            go_wp2_with fail
            refine (hkey _).mono ?_
            rintro e w3 ⟨rfl, hg3⟩
            have hgw := gb_trans hg hg3
            have hOo3 := hOo.grown0 hg3
            have hOr3 := hOr.grown0 hg3
            have hPt3 := hPt.grown0 hg3
            have hBk3 := hBk.grown hg3 (by simp)
            clear k0 k1 k2 hOo hOr hPt hBk hkey hg3 hg
            have hown3 := hmap.kept hgw (by simp) (fun _ _ _ x _ => by cases x.val.ownBlock <;> simp)
            go_wp2_with (
              at_lookup
              refine wpList_lookup_groups w3 rfl _ _ 43 rfl 45 50 3 .i64 (Maps.int_keyed Try.underlying45) Try.underlying43 (hzero _) (mb + 1) mb n D rfl hown3 (by simp only [maxLen]; omega) _ _ rfl hky ?_
              intro v zs hat hoi hzl hback
              obtain ⟨LA, lc, rfl, hLr⟩ := row_rd hoi (row_is hoi (hat0.symm.trans hat))
              clear hback hat hoi hzl)
            refine (hfn.out _ _ _ hLr hgw).mono ?_
            rintro e w4 ⟨rfl, hg4⟩
            have hgw4 := gb_trans hgw hg4
            have hOo4 := hOo3.grown0 hg4
            have hOr4 := hOr3.grown0 hg4
            have hPt4 := hPt3.grown0 hg4
            have hBk4 := hBk3.grown hg4 (by simp)
            have hsz4 := hgw4.size
            clear hLr hOo3 hOr3 hPt3 hBk3 hown3 hgw hg4 hfn hat0
            have HT2 := Lib.hid (HT.out.trans (hblk hi))
            go_wp2_with fail
            refine (shut_any w1.heap.size out run Ao Ar co' cr w4 hOo4 hsz4 (by omega)).mono ?_
            rintro e w5 ⟨A5, c5, rfl, hO5, hg5, hloc5⟩
            have hPt5 := (hPt4.out hOo4 hg5).shut (own_aside hOr4 hOo4 (by decide) hg5) hrv
            have hB5 := Blk_aside hBk4 hOo4 (by decide) hg5
            have hgw5 := gb_own hgw4 hg5 (fun g h => (hOo4.lt g h).1)
            have hsl := shutP_len out run Ar cr
            rw [← shutP_prt out run Ar cr] at HT2
            generalize shutP out run Ar cr = o2 at *
            have hsz5 := hgw5.size
            have hby : (o2.length + 1) * 32 ≤ 140737488355328 := by omega
            clear hOo4 hOr4 hPt4 hBk4 hg5 hloc5
            go_wp2_with (
              at_builtin
              refine wpList_app1 w5 rfl (.tmp 62) (.tmp 65) 30 rfl w1.heap.size 37 Try.underlying30 hi37 hz370 hz371 hz372 rfl (by decide) A5 c5 o2.length (o2.flatMap ptC) rfl hO5 (ptC ⟨fi, [], none, 0⟩) 37 1 (by rfl) rfl hone37 hby (by decide) hsz5 ?_
              intro g6 c6 w6 hO6 hgr6 hloc6 hbg6 hlt6)
            go_roundw
            case rel =>
              refine ⟨p + size, [], o2 ++ [⟨fi, [], none, 0⟩], some ⟨g6, 0, none⟩, none, c6, 0, false, wk hr, size, by simp, rfl, rfl, by go_num, by omega, by simp, by simp; omega, fun v hv => by simp at hv, ?_, Own.nil _ _ _ _, ?_, Blk_aside hB5 hO5 (by decide) hgr6, fun h => by simp at h, ?_, gb_own hgw5 hgr6 (fun g h => (hO5.lt g h).1)⟩
              · rw [List.length_append, List.flatMap_append]
                simpa using hO6
              · exact (hPt5.out hO5 hgr6).snoc
              · rw [List.map_append]
                exact HT2
            case measure => first | (simp [intOf]; done) | (simp [intOf]; omega)
          | false =>
            clear hhave
            go_wp2_with fail
            refine (hwk.out _ hg).mono ?_
            rintro e w2 ⟨rfl, hg2⟩
            have hB2 := hBk.grown hg2 (by simp)
            have g0 := hB2.cell 0 rfl
            have g1 := hB2.cell 1 rfl
            have g2 := hB2.cell 2 rfl
            have f0 := hB2.free 0
            have f1 := hB2.free 1
            have f2 := hB2.free 2
            have hBS := Blk_three (v0 := .int .u32 ((wk hr).1 : Int)) (v1 := .int .u32 ((wk hr).2 : Int)) (v2 := .int .u32 (size : Int)) hB2
            go_wp2_with fail
            refine (hkey _).mono ?_
            rintro e w3 ⟨rfl, hg3⟩
            have hgw := gb_trans (gb_new_set (p := ⟨w1.heap.size, 2, none⟩) (gb_new_set (p := ⟨w1.heap.size, 1, none⟩) (gb_new_set (p := ⟨w1.heap.size, 0, none⟩) (gb_trans hg hg2) (Nat.le_refl _)) (Nat.le_refl _)) (Nat.le_refl _)) hg3
            have ho1 := own_ne_blk (hOo.grown0 hg2) hB2 (by decide)
            have ho2 := own_ne_blk (hOr.grown0 hg2) hB2 (by decide)
            have hOo3 := ((((hOo.grown0 hg2).other (p := ⟨w1.heap.size, 0, none⟩) ho1 _).other (p := ⟨w1.heap.size, 1, none⟩) ho1 _).other (p := ⟨w1.heap.size, 2, none⟩) ho1 _).grown0 hg3
            have hOr3 := ((((hOr.grown0 hg2).other (p := ⟨w1.heap.size, 0, none⟩) ho2 _).other (p := ⟨w1.heap.size, 1, none⟩) ho2 _).other (p := ⟨w1.heap.size, 2, none⟩) ho2 _).grown0 hg3
            have hPt3 := ((((hPt.grown0 hg2).other hB2 (by decide) (i := 0)).other (hB2.set 0 _) (by decide) (i := 1)).other ((hB2.set 0 _).set 1 _) (by decide) (i := 2)).grown0 hg3
            have hBk3 := hBS.grown hg3 (by simp)
            clear g0 g1 g2 f0 f1 f2 hOo hOr hPt hBk hkey hg3 hg hB2 hBS hg2 ho1 ho2
            have hown3 := hmap.kept hgw (by simp) (fun _ _ _ x _ => by cases x.val.ownBlock <;> simp)
            go_wp2_with (
              at_lookup
              refine wpList_lookup_groups w3 rfl _ _ 43 rfl 45 50 3 .i64 (Maps.int_keyed Try.underlying45) Try.underlying43 (hzero _) (mb + 1) mb n D rfl hown3 (by simp only [maxLen]; omega) _ _ rfl hky ?_
              intro v zs hat hoi hzl hback
              obtain ⟨LA, lc, rfl, hLr⟩ := row_rd hoi (row_is hoi (hat0.symm.trans hat))
              clear hback hat hoi hzl)
            refine (hfn.out _ _ _ hLr hgw).mono ?_
            rintro e w4 ⟨rfl, hg4⟩
            have hgw4 := gb_trans hgw hg4
            have hOo4 := hOo3.grown0 hg4
            have hOr4 := hOr3.grown0 hg4
            have hPt4 := hPt3.grown0 hg4
            have hBk4 := hBk3.grown hg4 (by simp)
            have hsz4 := hgw4.size
            clear hLr hOo3 hOr3 hPt3 hBk3 hown3 hgw hg4 hfn hat0
            have HT2 := Lib.hid (HT.out.trans (hblk hi))
            go_wp2_with fail
            refine (shut_any w1.heap.size out run Ao Ar co' cr w4 hOo4 hsz4 (by omega)).mono ?_
            rintro e w5 ⟨A5, c5, rfl, hO5, hg5, hloc5⟩
            have hPt5 := (hPt4.out hOo4 hg5).shut (own_aside hOr4 hOo4 (by decide) hg5) hrv
            have hB5 := Blk_aside hBk4 hOo4 (by decide) hg5
            have hgw5 := gb_own hgw4 hg5 (fun g h => (hOo4.lt g h).1)
            have hsl := shutP_len out run Ar cr
            rw [← shutP_prt out run Ar cr] at HT2
            generalize shutP out run Ar cr = o2 at *
            have hsz5 := hgw5.size
            have hby : (o2.length + 1) * 32 ≤ 140737488355328 := by omega
            clear hOo4 hOr4 hPt4 hBk4 hg5 hloc5
            go_wp2_with (
              at_builtin
              refine wpList_app1 w5 rfl (.tmp 62) (.tmp 65) 30 rfl w1.heap.size 37 Try.underlying30 hi37 hz370 hz371 hz372 rfl (by decide) A5 c5 o2.length (o2.flatMap ptC) rfl hO5 (ptC ⟨fi, [], none, 0⟩) 37 1 (by rfl) rfl hone37 hby (by decide) hsz5 ?_
              intro g6 c6 w6 hO6 hgr6 hloc6 hbg6 hlt6)
            go_roundw
            case rel =>
              refine ⟨p + size, [], o2 ++ [⟨fi, [], none, 0⟩], some ⟨g6, 0, none⟩, none, c6, 0, false, wk hr, size, by simp, rfl, rfl, by go_num, by omega, by simp, by simp; omega, fun v hv => by simp at hv, ?_, Own.nil _ _ _ _, ?_, Blk_aside hB5 hO5 (by decide) hgr6, fun h => by simp at h, ?_, gb_own hgw5 hgr6 (fun g h => (hO5.lt g h).1)⟩
              · rw [List.length_append, List.flatMap_append]
                simpa using hO6
              · exact (hPt5.out hO5 hgr6).snoc
              · rw [List.map_append]
                exact HT2
            case measure => first | (simp [intOf]; done) | (simp [intOf]; omega)
        · by_cases h3 : p + size < fresh.length
          · cases hv with
            | true =>
              obtain ⟨e1, e2⟩ := hhave rfl h2
              rw [e1, e2] at hBk
              clear e1 e2 hhave hwk
              have k0 := hBk.cell 0 rfl
              have k1 := hBk.cell 1 rfl
              have k2 := hBk.cell 2 rfl
              go_wp2_with fail
              refine (hkey _).mono ?_
              rintro e w3 ⟨rfl, hg3⟩
              have hgw := gb_trans hg hg3
              have hOo3 := hOo.grown0 hg3
              have hOr3 := hOr.grown0 hg3
              have hPt3 := hPt.grown0 hg3
              have hBk3 := hBk.grown hg3 (by simp)
              clear k0 k1 k2 hOo hOr hPt hBk hkey hg3 hg
              have hown3 := hmap.kept hgw (by simp) (fun _ _ _ x _ => by cases x.val.ownBlock <;> simp)
              go_wp2_with (
                at_lookup
                refine wpList_lookup_groups w3 rfl _ _ 43 rfl 45 50 3 .i64 (Maps.int_keyed Try.underlying45) Try.underlying43 (hzero _) (mb + 1) mb n D rfl hown3 (by simp only [maxLen]; omega) _ _ rfl hky ?_
                intro v zs hat hoi hzl hback
                obtain ⟨LA, lc, rfl, hLr⟩ := row_rd hoi (row_is hoi (hat0.symm.trans hat))
                clear hback hat hoi hzl)
              refine (hfn.out _ _ _ hLr hgw).mono ?_
              rintro e w4 ⟨rfl, hg4⟩
              have hgw4 := gb_trans hgw hg4
              have hOo4 := hOo3.grown0 hg4
              have hOr4 := hOr3.grown0 hg4
              have hPt4 := hPt3.grown0 hg4
              have hBk4 := hBk3.grown hg4 (by simp)
              have hsz4 := hgw4.size
              clear hLr hOo3 hOr3 hPt3 hBk3 hown3 hgw hg4 hfn hat0
              have HT2 := Lib.hid (HT.out.trans (hbyt hi))
              have hcp := (gb_trans hg1 hgw4).cell hcp0 (by simp)
              have hby : (run.length + 1) * 1 ≤ 140737488355328 := by omega
              have h3i : (p : Int) + (size : Int) < (fresh.length : Int) := by omega
              go_wp2_with (
                at_builtin
                refine wpList_app1 w4 rfl (.tmp 70) (.tmp 75) 22 rfl w1.heap.size 5 Try.underlying22 hi5 hz50 hz51 hz52 rfl (by decide) Ar cr run.length (run.map bv) rfl hOr4 [bv (fp)] 5 1 (by rfl) rfl (hone _) hby (by decide) hsz4 ?_
                intro g6 c6 w6 hO6 hgr6 hloc6 hbg6 hlt6
                have hgw6 := gb_own hgw4 hgr6 (fun g h => (hOr4.lt g h).1)
                have hOo6 := own_aside hOo4 hOr4 (by decide) hgr6
                have hB6 := Blk_aside hBk4 hOr4 (by decide) hgr6
                have hPt6 : PtA w6 w1.heap.size out (some ⟨g6, 0, none⟩) := hPt4.row hgr6 (by rcases hloc6 with h | h; exact .inl h.symm; exact .inr (fun k hk => by simp [blk] at hk; omega))
                have hrv6 : ∀ v ∈ run ++ [fp], v < 256 := fun v hv => by rcases List.mem_append.1 hv with hv | hv; exact hrv v hv; simp at hv; subst hv; exact hpb
                clear hOo4 hOr4 hPt4 hBk4 hcp)
              have d0 := fun x => (Later.blk hB6 x).cell 0 rfl
              have d1 := fun x => (Later.blk hB6 x).cell 1 rfl
              have d2 := fun x => (Later.blk hB6 x).cell 2 rfl
              have q0 := fun x => (Later.blk hB6 x).free 0
              have q1 := fun x => (Later.blk hB6 x).free 1
              have q2 := fun x => (Later.blk hB6 x).free 2
              have c0 := fun x => Later.cell ((gb_trans hg1 hgw6).cell hcp0 (by simp)) x
              have c1 := fun x => Later.cell ((gb_trans hg1 hgw6).cell (hcq0.out (by omega)) (by simp)) x
              go_wp2_with fail
              refine wp_region_in_tail 12 (Later w6) (by kernel_rfl) (by kernel_rfl) (Later.start _) ?_
              simp only [List.take_succ_cons, List.take_zero, List.drop_succ_cons, List.drop_zero]
              repeat (go_big_quiet_step ((first | rfl | (go_at_call 19; exact later_call _ (hrols.out _ (by omega))))))
              refine wpQuiet_nil ?_
              rintro _ ⟨x, rfl⟩
              go_wp2_with fail
              go_roundw
              case rel =>
                have hBx := Later.blk hB6 x
                have ho1 := own_ne_blk (hOo6.grown0 x.ok) hBx (by decide)
                have ho2 := own_ne_blk (hO6.grown0 x.ok) hBx (by decide)
                refine ⟨p + 1, run ++ [fp], out, Ao, some ⟨g6, 0, none⟩, co', c6, true, wk ((fresh.drop (p + 1)).take size), size, rfl, by simp, rfl, by go_num, by omega, by simp; omega, by omega, hrv6, ?_, ?_, ?_, Blk_three hBx, fun _ _ => ⟨rfl, rfl⟩, HT2, ?_⟩
                · exact (((hOo6.grown0 x.ok).other (p := ⟨w1.heap.size, 0, none⟩) ho1 _).other (p := ⟨w1.heap.size, 1, none⟩) ho1 _).other (p := ⟨w1.heap.size, 2, none⟩) ho1 _
                · rw [List.map_append, List.length_append]
                  exact (((hO6.grown0 x.ok).other (p := ⟨w1.heap.size, 0, none⟩) ho2 _).other (p := ⟨w1.heap.size, 1, none⟩) ho2 _).other (p := ⟨w1.heap.size, 2, none⟩) ho2 _
                · exact (((hPt6.grown0 x.ok).other hBx (by decide) (i := 0)).other (hBx.set 0 _) (by decide) (i := 1)).other ((hBx.set 0 _).set 1 _) (by decide) (i := 2)
                · exact gb_new_set (p := ⟨w1.heap.size, 2, none⟩) (gb_new_set (p := ⟨w1.heap.size, 1, none⟩) (gb_new_set (p := ⟨w1.heap.size, 0, none⟩) (gb_trans hgw6 x.ok) (Nat.le_refl _)) (Nat.le_refl _)) (Nat.le_refl _)
              case measure => first | (simp [intOf]; done) | (simp [intOf]; omega)
            | false =>
              clear hhave
              go_wp2_with fail
              refine (hwk.out _ hg).mono ?_
              rintro e w2 ⟨rfl, hg2⟩
              have hB2 := hBk.grown hg2 (by simp)
              have g0 := hB2.cell 0 rfl
              have g1 := hB2.cell 1 rfl
              have g2 := hB2.cell 2 rfl
              have f0 := hB2.free 0
              have f1 := hB2.free 1
              have f2 := hB2.free 2
              have hBS := Blk_three (v0 := .int .u32 ((wk hr).1 : Int)) (v1 := .int .u32 ((wk hr).2 : Int)) (v2 := .int .u32 (size : Int)) hB2
              go_wp2_with fail
              refine (hkey _).mono ?_
              rintro e w3 ⟨rfl, hg3⟩
              have hgw := gb_trans (gb_new_set (p := ⟨w1.heap.size, 2, none⟩) (gb_new_set (p := ⟨w1.heap.size, 1, none⟩) (gb_new_set (p := ⟨w1.heap.size, 0, none⟩) (gb_trans hg hg2) (Nat.le_refl _)) (Nat.le_refl _)) (Nat.le_refl _)) hg3
              have ho1 := own_ne_blk (hOo.grown0 hg2) hB2 (by decide)
              have ho2 := own_ne_blk (hOr.grown0 hg2) hB2 (by decide)
              have hOo3 := ((((hOo.grown0 hg2).other (p := ⟨w1.heap.size, 0, none⟩) ho1 _).other (p := ⟨w1.heap.size, 1, none⟩) ho1 _).other (p := ⟨w1.heap.size, 2, none⟩) ho1 _).grown0 hg3
              have hOr3 := ((((hOr.grown0 hg2).other (p := ⟨w1.heap.size, 0, none⟩) ho2 _).other (p := ⟨w1.heap.size, 1, none⟩) ho2 _).other (p := ⟨w1.heap.size, 2, none⟩) ho2 _).grown0 hg3
              have hPt3 := ((((hPt.grown0 hg2).other hB2 (by decide) (i := 0)).other (hB2.set 0 _) (by decide) (i := 1)).other ((hB2.set 0 _).set 1 _) (by decide) (i := 2)).grown0 hg3
              have hBk3 := hBS.grown hg3 (by simp)
              clear g0 g1 g2 f0 f1 f2 hOo hOr hPt hBk hkey hg3 hg hB2 hBS hg2 ho1 ho2
              have hown3 := hmap.kept hgw (by simp) (fun _ _ _ x _ => by cases x.val.ownBlock <;> simp)
              go_wp2_with (
                at_lookup
                refine wpList_lookup_groups w3 rfl _ _ 43 rfl 45 50 3 .i64 (Maps.int_keyed Try.underlying45) Try.underlying43 (hzero _) (mb + 1) mb n D rfl hown3 (by simp only [maxLen]; omega) _ _ rfl hky ?_
                intro v zs hat hoi hzl hback
                obtain ⟨LA, lc, rfl, hLr⟩ := row_rd hoi (row_is hoi (hat0.symm.trans hat))
                clear hback hat hoi hzl)
              refine (hfn.out _ _ _ hLr hgw).mono ?_
              rintro e w4 ⟨rfl, hg4⟩
              have hgw4 := gb_trans hgw hg4
              have hOo4 := hOo3.grown0 hg4
              have hOr4 := hOr3.grown0 hg4
              have hPt4 := hPt3.grown0 hg4
              have hBk4 := hBk3.grown hg4 (by simp)
              have hsz4 := hgw4.size
              clear hLr hOo3 hOr3 hPt3 hBk3 hown3 hgw hg4 hfn hat0
              have HT2 := Lib.hid (HT.out.trans (hbyt hi))
              have hcp := (gb_trans hg1 hgw4).cell hcp0 (by simp)
              have hby : (run.length + 1) * 1 ≤ 140737488355328 := by omega
              have h3i : (p : Int) + (size : Int) < (fresh.length : Int) := by omega
              go_wp2_with (
                at_builtin
                refine wpList_app1 w4 rfl (.tmp 70) (.tmp 75) 22 rfl w1.heap.size 5 Try.underlying22 hi5 hz50 hz51 hz52 rfl (by decide) Ar cr run.length (run.map bv) rfl hOr4 [bv (fp)] 5 1 (by rfl) rfl (hone _) hby (by decide) hsz4 ?_
                intro g6 c6 w6 hO6 hgr6 hloc6 hbg6 hlt6
                have hgw6 := gb_own hgw4 hgr6 (fun g h => (hOr4.lt g h).1)
                have hOo6 := own_aside hOo4 hOr4 (by decide) hgr6
                have hB6 := Blk_aside hBk4 hOr4 (by decide) hgr6
                have hPt6 : PtA w6 w1.heap.size out (some ⟨g6, 0, none⟩) := hPt4.row hgr6 (by rcases hloc6 with h | h; exact .inl h.symm; exact .inr (fun k hk => by simp [blk] at hk; omega))
                have hrv6 : ∀ v ∈ run ++ [fp], v < 256 := fun v hv => by rcases List.mem_append.1 hv with hv | hv; exact hrv v hv; simp at hv; subst hv; exact hpb
                clear hOo4 hOr4 hPt4 hBk4 hcp)
              have d0 := fun x => (Later.blk hB6 x).cell 0 rfl
              have d1 := fun x => (Later.blk hB6 x).cell 1 rfl
              have d2 := fun x => (Later.blk hB6 x).cell 2 rfl
              have q0 := fun x => (Later.blk hB6 x).free 0
              have q1 := fun x => (Later.blk hB6 x).free 1
              have q2 := fun x => (Later.blk hB6 x).free 2
              have c0 := fun x => Later.cell ((gb_trans hg1 hgw6).cell hcp0 (by simp)) x
              have c1 := fun x => Later.cell ((gb_trans hg1 hgw6).cell (hcq0.out (by omega)) (by simp)) x
              go_wp2_with fail
              refine wp_region_in_tail 12 (Later w6) (by kernel_rfl) (by kernel_rfl) (Later.start _) ?_
              simp only [List.take_succ_cons, List.take_zero, List.drop_succ_cons, List.drop_zero]
              repeat (go_big_quiet_step ((first | rfl | (go_at_call 19; exact later_call _ (hrols.out _ (by omega))))))
              refine wpQuiet_nil ?_
              rintro _ ⟨x, rfl⟩
              go_wp2_with fail
              go_roundw
              case rel =>
                have hBx := Later.blk hB6 x
                have ho1 := own_ne_blk (hOo6.grown0 x.ok) hBx (by decide)
                have ho2 := own_ne_blk (hO6.grown0 x.ok) hBx (by decide)
                refine ⟨p + 1, run ++ [fp], out, Ao, some ⟨g6, 0, none⟩, co', c6, true, wk ((fresh.drop (p + 1)).take size), size, rfl, by simp, rfl, by go_num, by omega, by simp; omega, by omega, hrv6, ?_, ?_, ?_, Blk_three hBx, fun _ _ => ⟨rfl, rfl⟩, HT2, ?_⟩
                · exact (((hOo6.grown0 x.ok).other (p := ⟨w1.heap.size, 0, none⟩) ho1 _).other (p := ⟨w1.heap.size, 1, none⟩) ho1 _).other (p := ⟨w1.heap.size, 2, none⟩) ho1 _
                · rw [List.map_append, List.length_append]
                  exact (((hO6.grown0 x.ok).other (p := ⟨w1.heap.size, 0, none⟩) ho2 _).other (p := ⟨w1.heap.size, 1, none⟩) ho2 _).other (p := ⟨w1.heap.size, 2, none⟩) ho2 _
                · exact (((hPt6.grown0 x.ok).other hBx (by decide) (i := 0)).other (hBx.set 0 _) (by decide) (i := 1)).other ((hBx.set 0 _).set 1 _) (by decide) (i := 2)
                · exact gb_new_set (p := ⟨w1.heap.size, 2, none⟩) (gb_new_set (p := ⟨w1.heap.size, 1, none⟩) (gb_new_set (p := ⟨w1.heap.size, 0, none⟩) (gb_trans hgw6 x.ok) (Nat.le_refl _)) (Nat.le_refl _)) (Nat.le_refl _)
              case measure => first | (simp [intOf]; done) | (simp [intOf]; omega)
          · cases hv with
            | true =>
              obtain ⟨e1, e2⟩ := hhave rfl h2
              rw [e1, e2] at hBk
              clear e1 e2 hhave hwk
              have k0 := hBk.cell 0 rfl
              have k1 := hBk.cell 1 rfl
              have k2 := hBk.cell 2 rfl
              go_wp2_with fail
              refine (hkey _).mono ?_
              rintro e w3 ⟨rfl, hg3⟩
              have hgw := gb_trans hg hg3
              have hOo3 := hOo.grown0 hg3
              have hOr3 := hOr.grown0 hg3
              have hPt3 := hPt.grown0 hg3
              have hBk3 := hBk.grown hg3 (by simp)
              clear k0 k1 k2 hOo hOr hPt hBk hkey hg3 hg
              have hown3 := hmap.kept hgw (by simp) (fun _ _ _ x _ => by cases x.val.ownBlock <;> simp)
              go_wp2_with (
                at_lookup
                refine wpList_lookup_groups w3 rfl _ _ 43 rfl 45 50 3 .i64 (Maps.int_keyed Try.underlying45) Try.underlying43 (hzero _) (mb + 1) mb n D rfl hown3 (by simp only [maxLen]; omega) _ _ rfl hky ?_
                intro v zs hat hoi hzl hback
                obtain ⟨LA, lc, rfl, hLr⟩ := row_rd hoi (row_is hoi (hat0.symm.trans hat))
                clear hback hat hoi hzl)
              refine (hfn.out _ _ _ hLr hgw).mono ?_
              rintro e w4 ⟨rfl, hg4⟩
              have hgw4 := gb_trans hgw hg4
              have hOo4 := hOo3.grown0 hg4
              have hOr4 := hOr3.grown0 hg4
              have hPt4 := hPt3.grown0 hg4
              have hBk4 := hBk3.grown hg4 (by simp)
              have hsz4 := hgw4.size
              clear hLr hOo3 hOr3 hPt3 hBk3 hown3 hgw hg4 hfn hat0
              have HT2 := Lib.hid (HT.out.trans (hbyt hi))
              have hcp := (gb_trans hg1 hgw4).cell hcp0 (by simp)
              have hby : (run.length + 1) * 1 ≤ 140737488355328 := by omega
              have h3i : ¬ (p : Int) + (size : Int) < (fresh.length : Int) := by omega
              go_wp2_with (
                at_builtin
                refine wpList_app1 w4 rfl (.tmp 70) (.tmp 75) 22 rfl w1.heap.size 5 Try.underlying22 hi5 hz50 hz51 hz52 rfl (by decide) Ar cr run.length (run.map bv) rfl hOr4 [bv (fp)] 5 1 (by rfl) rfl (hone _) hby (by decide) hsz4 ?_
                intro g6 c6 w6 hO6 hgr6 hloc6 hbg6 hlt6
                have hgw6 := gb_own hgw4 hgr6 (fun g h => (hOr4.lt g h).1)
                have hOo6 := own_aside hOo4 hOr4 (by decide) hgr6
                have hB6 := Blk_aside hBk4 hOr4 (by decide) hgr6
                have hPt6 : PtA w6 w1.heap.size out (some ⟨g6, 0, none⟩) := hPt4.row hgr6 (by rcases hloc6 with h | h; exact .inl h.symm; exact .inr (fun k hk => by simp [blk] at hk; omega))
                have hrv6 : ∀ v ∈ run ++ [fp], v < 256 := fun v hv => by rcases List.mem_append.1 hv with hv | hv; exact hrv v hv; simp at hv; subst hv; exact hpb
                clear hOo4 hOr4 hPt4 hBk4 hcp)
              go_roundw
              case rel =>
                refine ⟨p + 1, run ++ [fp], out, Ao, some ⟨g6, 0, none⟩, co', c6, true, wk hr, size, rfl, by simp, rfl, by go_num, by omega, by simp; omega, by omega, hrv6, hOo6, ?_, hPt6, hB6, fun _ h => by omega, HT2, hgw6⟩
                rw [List.map_append, List.length_append]
                exact hO6
              case measure => first | (simp [intOf]; done) | (simp [intOf]; omega)
            | false =>
              clear hhave
              go_wp2_with fail
              refine (hwk.out _ hg).mono ?_
              rintro e w2 ⟨rfl, hg2⟩
              have hB2 := hBk.grown hg2 (by simp)
              have g0 := hB2.cell 0 rfl
              have g1 := hB2.cell 1 rfl
              have g2 := hB2.cell 2 rfl
              have f0 := hB2.free 0
              have f1 := hB2.free 1
              have f2 := hB2.free 2
              have hBS := Blk_three (v0 := .int .u32 ((wk hr).1 : Int)) (v1 := .int .u32 ((wk hr).2 : Int)) (v2 := .int .u32 (size : Int)) hB2
              go_wp2_with fail
              refine (hkey _).mono ?_
              rintro e w3 ⟨rfl, hg3⟩
              have hgw := gb_trans (gb_new_set (p := ⟨w1.heap.size, 2, none⟩) (gb_new_set (p := ⟨w1.heap.size, 1, none⟩) (gb_new_set (p := ⟨w1.heap.size, 0, none⟩) (gb_trans hg hg2) (Nat.le_refl _)) (Nat.le_refl _)) (Nat.le_refl _)) hg3
              have ho1 := own_ne_blk (hOo.grown0 hg2) hB2 (by decide)
              have ho2 := own_ne_blk (hOr.grown0 hg2) hB2 (by decide)
              have hOo3 := ((((hOo.grown0 hg2).other (p := ⟨w1.heap.size, 0, none⟩) ho1 _).other (p := ⟨w1.heap.size, 1, none⟩) ho1 _).other (p := ⟨w1.heap.size, 2, none⟩) ho1 _).grown0 hg3
              have hOr3 := ((((hOr.grown0 hg2).other (p := ⟨w1.heap.size, 0, none⟩) ho2 _).other (p := ⟨w1.heap.size, 1, none⟩) ho2 _).other (p := ⟨w1.heap.size, 2, none⟩) ho2 _).grown0 hg3
              have hPt3 := ((((hPt.grown0 hg2).other hB2 (by decide) (i := 0)).other (hB2.set 0 _) (by decide) (i := 1)).other ((hB2.set 0 _).set 1 _) (by decide) (i := 2)).grown0 hg3
              have hBk3 := hBS.grown hg3 (by simp)
              clear g0 g1 g2 f0 f1 f2 hOo hOr hPt hBk hkey hg3 hg hB2 hBS hg2 ho1 ho2
              have hown3 := hmap.kept hgw (by simp) (fun _ _ _ x _ => by cases x.val.ownBlock <;> simp)
              go_wp2_with (
                at_lookup
                refine wpList_lookup_groups w3 rfl _ _ 43 rfl 45 50 3 .i64 (Maps.int_keyed Try.underlying45) Try.underlying43 (hzero _) (mb + 1) mb n D rfl hown3 (by simp only [maxLen]; omega) _ _ rfl hky ?_
                intro v zs hat hoi hzl hback
                obtain ⟨LA, lc, rfl, hLr⟩ := row_rd hoi (row_is hoi (hat0.symm.trans hat))
                clear hback hat hoi hzl)
              refine (hfn.out _ _ _ hLr hgw).mono ?_
              rintro e w4 ⟨rfl, hg4⟩
              have hgw4 := gb_trans hgw hg4
              have hOo4 := hOo3.grown0 hg4
              have hOr4 := hOr3.grown0 hg4
              have hPt4 := hPt3.grown0 hg4
              have hBk4 := hBk3.grown hg4 (by simp)
              have hsz4 := hgw4.size
              clear hLr hOo3 hOr3 hPt3 hBk3 hown3 hgw hg4 hfn hat0
              have HT2 := Lib.hid (HT.out.trans (hbyt hi))
              have hcp := (gb_trans hg1 hgw4).cell hcp0 (by simp)
              have hby : (run.length + 1) * 1 ≤ 140737488355328 := by omega
              have h3i : ¬ (p : Int) + (size : Int) < (fresh.length : Int) := by omega
              go_wp2_with (
                at_builtin
                refine wpList_app1 w4 rfl (.tmp 70) (.tmp 75) 22 rfl w1.heap.size 5 Try.underlying22 hi5 hz50 hz51 hz52 rfl (by decide) Ar cr run.length (run.map bv) rfl hOr4 [bv (fp)] 5 1 (by rfl) rfl (hone _) hby (by decide) hsz4 ?_
                intro g6 c6 w6 hO6 hgr6 hloc6 hbg6 hlt6
                have hgw6 := gb_own hgw4 hgr6 (fun g h => (hOr4.lt g h).1)
                have hOo6 := own_aside hOo4 hOr4 (by decide) hgr6
                have hB6 := Blk_aside hBk4 hOr4 (by decide) hgr6
                have hPt6 : PtA w6 w1.heap.size out (some ⟨g6, 0, none⟩) := hPt4.row hgr6 (by rcases hloc6 with h | h; exact .inl h.symm; exact .inr (fun k hk => by simp [blk] at hk; omega))
                have hrv6 : ∀ v ∈ run ++ [fp], v < 256 := fun v hv => by rcases List.mem_append.1 hv with hv | hv; exact hrv v hv; simp at hv; subst hv; exact hpb
                clear hOo4 hOr4 hPt4 hBk4 hcp)
              go_roundw
              case rel =>
                refine ⟨p + 1, run ++ [fp], out, Ao, some ⟨g6, 0, none⟩, co', c6, true, wk hr, size, rfl, by simp, rfl, by go_num, by omega, by simp; omega, by omega, hrv6, hOo6, ?_, hPt6, hB6, fun _ h => by omega, HT2, hgw6⟩
                rw [List.map_append, List.length_append]
                exact hO6
              case measure => first | (simp [intOf]; done) | (simp [intOf]; omega)
    · have hp2 : p = fresh.length := by omega
      subst hp2
      have HT2 := Lib.hid (HT.out.trans (diffT_end (Nat.le_refl _)))
      go_wp2_with fail
      refine (shut_any w1.heap.size out run Ao Ar co' cr wr hOo hg.size (by omega)).mono ?_
      rintro e w3 ⟨A3, c3, rfl, hO3, hg3, hloc3⟩
      have hfin := shut_fin hg1 hg hOo hOr hPt hrv hO3 hg3 HT2.out
      clear hO3 hPt hOo hOr hM hmap
      go_wp2_with fail
      go_ret2
      exact hfin
end Go.Proofs.Ytgahefehnhggjaa
