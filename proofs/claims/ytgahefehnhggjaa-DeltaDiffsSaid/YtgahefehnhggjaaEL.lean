/- The walk of the document's Diff. -/
import Derived.Test.YtgahefehnhggjaaEK
namespace Go.Proofs.Ytgahefehnhggjaa
set_option linter.unusedVariables false
set_option linter.unusedSimpArgs false
open Go.RowKit Go.Own Go.Delta Go.ChangeShapes

theorem own_empty (w : World) {base : Nat} (h : base ≤ w.heap.size) : Own (w.alloc (.cells #[] 5)) base 5 1 (some ⟨w.heap.size, 0, none⟩) 0 0 [] := by
  have h := Own.of_blk (base := base) (size := 1) (n := 0) (c := 0) (Blk.new w #[] 5) h (by simp [maxLen]) (by omega) (by simp)
  simpa using h

theorem PtA.out26 {w w' : World} {base b' s' n' c' : Nat} {l : List Pt} {A A' : Option Addr} {xs' : List Value} (h : PtA w base l A) (h' : Own w b' 26 s' A' c' n' xs') (hg : w.grownBy w' (blk A')) : PtA w' base l A :=
  fun p hp => ⟨own_aside (h p hp).1 h' (by decide) hg, (h p hp).2⟩

theorem PtA.cell26 {w : World} {base b' s' n' c' g i : Nat} {v : Value} {l : List Pt} {A : Option Addr} {xs' : List Value} (h : PtA w base l A) (h' : Own w b' 26 s' (some ⟨g, 0, none⟩) c' n' xs') : PtA (w.setCell ⟨g, i, none⟩ v) base l A :=
  fun p hp => ⟨(h p hp).1.other (p := ⟨g, i, none⟩) (fun e => own_ne_own (h p hp).1 h' (by decide) e rfl) v, (h p hp).2⟩

theorem set_last (X : List Pt) (a b u : Value) (m : Nat) (hm : X.length = m) : (X.flatMap ptC ++ [a, b]).set (m * 2 + 1) u = X.flatMap ptC ++ [a, u] := by
  have hl := ptC_len X
  rw [List.set_append_right _ _ (by omega)]
  congr 1
  rw [show m * 2 + 1 - (X.flatMap ptC).length = 1 by omega]
  rfl

theorem step_app0 {w : World} {ops : Array Oper} {o : Oper} {a : Act} {K : Act → World → Prop} {Q : Exit → Act → World → Prop} {E : Prop} (hgd : o.guard = none) (s x : Operand) (t : TypeId)
    (ho : o.op = .call { callee := .builtin .append, args := #[s, x], argTypes := #[t, t] })
    (base e : Nat) {i : TypeInfo} {z : Value} {size bytes : Nat} (ht : Try.prog.underlying t = some (.slice e)) (hi : Try.prog.info? e = some i) (hz : i.zero = some z)
    (hsize : i.size = size) (hby : i.bytes = bytes) (hzs : z.cells.size = size) (hsz : 0 < size)
    (A : Option Addr) (c : Nat) (hs : a.eval s = .slice A 0 c) (hown : Own w base e size A c 0 [])
    (B : Nat) (As : Option Addr) (m cs : Nat) (news : List Value) (hx : a.eval x = .slice As m cs) (hr : Rd w B size As m news) (h1 : ∀ u ∈ news, u.oneCell' = true)
    (h63 : m ≤ maxLen) (hbytes : m * bytes ≤ 140737488355328) (hbase : base ≤ w.heap.size)
    (h : ∀ A' c' w', Own w' base e size A' c' m news → w.grownBy w' (blk A) → (blk A' = blk A ∨ blk A' = some w.heap.size) → K (a.put o.dst (.slice A' m c')) w') :
    if Region.wanted o (yielded ops a.tmps) = true then Oper.wp Try.prog o a w K Q else E := by
  refine step_appN w hgd s x t ho base e ht hi hz hsize hby hzs hsz A c 0 [] hs hown B As m cs news hx hr h1 (by rw [Nat.zero_add]; exact h63) (by rw [Nat.zero_add]; exact hbytes) hbase ?_
  intro A' c' w' h2 h3 h4
  rw [Nat.zero_add] at h2 ⊢
  exact h A' c' w' h2 h3 h4

set_option maxHeartbeats 25600000 in
set_option maxRecDepth 100000 in
theorem rdiff_any (old fresh : List Nat) (So Sf : Option Addr) (co cf B size : Nat) (w : World) (hO : Rd w B 1 So old.length (old.map bv)) (hF : Rd w B 1 Sf fresh.length (fresh.map bv)) (hB : B ≤ w.heap.size) (hs : 1 ≤ size) (hs4 : size ≤ 4096) (hol : old.length ≤ 1000) (hfl : fresh.length ≤ 1000) (hco : old.length ≤ co) (hcm : co ≤ 9223372036854775807) (hcf : fresh.length ≤ cf) (hcfm : cf ≤ 9223372036854775807) (hbo : ∀ v ∈ old, v < 256) (hbf : ∀ v ∈ fresh, v < 256) :
    Calls Try.prog 12 #[.slice So old.length co, .slice Sf fresh.length cf, .int .i64 size] w fun e w' => ∃ (A : Option Addr) (c : Nat) (l : List Pt), e = .returned (.slice A l.length c) ∧ l.map prt = diffS old fresh size ∧ Own w' w.heap.size 26 2 A c l.length (l.flatMap ptC) ∧ PtOk w' w'.heap.size l ∧ w.grownBy w' none := by
  obtain ⟨i5, hi5, hz50, hz51, hz52⟩ := info_parts info5
  obtain ⟨i26, hi26, hz260, hz261, hz262⟩ := info_parts info26
  have hnb : nbl old size ≤ 1000 := Nat.le_trans (Nat.div_le_self _ _) hol
  have hone : ∀ b : Nat, ∀ u ∈ [bv b], u.oneCell' = true := fun b u hu => by simp at hu; subst hu; rfl
  obtain ⟨target, htg⟩ : ∃ t, t = diffS old fresh size := ⟨_, rfl⟩
  have HD0 := Lib.hid (htg.trans (diffS_T old fresh size))
  rw [← htg]
  clear htg
  have hnbi := fun i => nbl_iff old size i hs
  replace hnbi := Lib.hid hnbi
  generalize hnbq : nbl old size = nb at *
  replace hnbq := Lib.hid hnbq
  go_enter Try.func12, Try.ntmps12
  go_wp2_with fail
  go_loopw [7, 8] (fun v7 v8 wi => ∃ (p : Nat) (run : List Nat) (outS : List Prt) (out : List Pt) (Ao : Option Addr) (co' : Nat), v7 = .slice Ao out.length co' ∧ v8 = .int .i64 p ∧ p ≤ fresh.length ∧ run.length ≤ p ∧ out.length ≤ 2 * p ∧ Hid (out.map prt = shutS outS run) ∧ Hid (run = [] → ∀ t, outS.getLast? = some t → 0 ≤ t.1) ∧ Own wi w.heap.size 26 2 Ao co' out.length (out.flatMap ptC) ∧ PtA wi w.heap.size out none ∧ Hid (target = diffT old fresh size p run outS) ∧ w.grownBy wi none)
    (fun _ v8 _ => fresh.length - (intOf v8).toNat)
  case atStart => exact ⟨0, [], [], [], none, 0, rfl, rfl, by omega, by simp, by simp, Lib.hid rfl, Lib.hid (fun _ t h => by simp at h), Own.nil _ _ _ _, PtA.nil _ _ _, HD0, gb_refl _ _⟩
  case round =>
    obtain ⟨p, run, outS, out, Ao, co', rfl, rfl, hp, hrl, hotl, hmap, hlast, hOo, hPt, HT, hg⟩ := hrel
    have hgs := hg.size
    by_cases hpl : p < fresh.length
    · obtain ⟨fg, fo, rfl, hfg, hfc⟩ := rd_byte hF (show 0 < fresh.length by omega)
      have hpi : (p : Int) < (fresh.length : Int) := by omega
      have hpi2 : (p : Int) ≤ 1000 := by omega
      have hsi : (size : Int) ≤ 4096 := by omega
      have hcp := hfc p hpl
      clear hfc
      have hpb := byte_lt hbf hpl
      have hbyt := fun h => diffT_step (old := old) (size := size) (run := run) (out := outS) (by omega) hpl h
      have hblk := fun h2 h => diffT_blk (old := old) (size := size) (run := run) (out := outS) (by omega) hpl h2 h
      have hscan0 := scan_find old ((fresh.drop p).take size)
      have hrl2 : ¬ fresh.length < p + size → ((fresh.drop p).take size).length = size := fun h => by rw [List.length_take, List.length_drop]; omega
      have hrb : ∀ v ∈ (fresh.drop p).take size, v < 256 := fun v hv => hbf v (List.mem_of_mem_drop (List.mem_of_mem_take hv))
      have hhd := fun (h : ¬ fresh.length < p + size) => rd_part hF p size (by omega)
      obtain ⟨hr, hhr⟩ : ∃ hr, hr = (fresh.drop p).take size := ⟨_, rfl⟩
      rw [← hhr] at hbyt hblk hscan0 hrl2 hrb hhd
      clear hhr
      generalize fresh.getD p 0 = fp at *
      obtain ⟨fi, hfi⟩ : ∃ fi, fi = find old hr := ⟨_, rfl⟩
      rw [← hfi] at hbyt hblk hscan0
      replace hfi := Lib.hid hfi
      have hsc0 : fresh.length < p + size ∨ fi = scan old hr 0 nb := by
        by_cases h : fresh.length < p + size
        · exact .inl h
        · right
          rw [hscan0, hrl2 h, hnbq.out]
      replace hsc0 := Lib.hid hsc0
      replace hbyt := Lib.hid hbyt
      replace hblk := Lib.hid hblk
      clear hscan0
      go_wp2_with fail
      go_loopw [9, 10] (fun v9 v10 wi => ∃ (i : Nat) (kk : Int), v9 = .int .i64 kk ∧ v10 = .int .i64 i ∧ i ≤ nb ∧ Hid ((kk = -1 ∧ (fresh.length < p + size ∨ fi = scan old hr i (nb - i))) ∨ (0 ≤ kk ∧ kk = fi ∧ ¬ fresh.length < p + size)) ∧ kk ≤ 1000 ∧ wr.grownBy wi none)
        (fun v9 v10 _ => if intOf v9 < 0 then nb + 1 - (intOf v10).toNat else 0)
      case atStart => exact ⟨0, -1, rfl, rfl, by omega, Lib.hid (.inl ⟨rfl, hsc0.out⟩), by omega, gb_refl _ _⟩
      case round =>
        obtain ⟨i, kk, rfl, rfl, hin, hkk, hkk2, hgi⟩ := hrel
        have hg2 := gb_trans hg hgi
        have hgs2 := hg2.size
        have hii : (i : Int) ≤ 1000 := by omega
        have hOo2 := hOo.grown0 hgi
        have hPt2 := hPt.grown0 hgi
        have hcp2 := hg2.cell hcp (by simp)
        have hcpw := Lib.hid hcp
        clear hcp
        by_cases hk0 : 0 ≤ kk
        · rcases hkk.out with ⟨h, _⟩ | ⟨_, h, h2⟩
          · exfalso; omega
          · have HT2 := Lib.hid (HT.out.trans (hblk.out h2 (by omega)))
            have h2i : (p : Int) + (size : Int) ≤ (fresh.length : Int) := by omega
            have hone26 := ptC_one ⟨kk, [], none, 0⟩
            have hby : (out.length + 1) * 32 ≤ 140737488355328 := by omega
            have hkn : ¬ (kk < 0) := by omega
            have HK := Lib.hid h
            clear h hOo hPt hgi hg
            go_wp2_with (
              at_builtin
              refine wpList_app1 wr rfl (.tmp 58) (.tmp 61) 23 rfl w.heap.size 26 Try.underlying23 hi26 hz260 hz261 hz262 rfl (by decide) Ao co' out.length (out.flatMap ptC) rfl hOo2 (ptC ⟨kk, [], none, 0⟩) 26 1 (by rfl) rfl hone26 hby (by decide) hgs2 ?_
              intro g6 c6 w6 hO6 hgr6 hloc6 hbg6 hlt6)
            go_roundw
            case rel =>
              refine ⟨p + size, [], shutS outS run ++ [(fi, [])], out ++ [⟨kk, [], none, 0⟩], some ⟨g6, 0, none⟩, c6, by simp, by go_num, by omega, by simp, by simp; omega, Lib.hid ?_, Lib.hid ?_, ?_, ?_, HT2, gb_own hg2 hgr6 (fun g h => (hOo2.lt g h).1)⟩
              · rw [List.map_append, hmap.out, ← HK.out]
                rfl
              · intro _ t ht
                rw [List.getLast?_append] at ht
                simp at ht
                subst ht
                have := HK.out
                dsimp only
                omega
              · rw [List.length_append, List.flatMap_append]
                simpa using hO6
              · exact (hPt2.out26 hOo2 hgr6).snoc
            case measure => first | (simp [intOf]; done) | (simp [intOf]; omega)
        · have hk1 : kk = -1 ∧ (fresh.length < p + size ∨ fi = scan old hr i (nb - i)) := by
            rcases hkk.out with h | ⟨h, _⟩
            · exact h
            · omega
          obtain ⟨rfl, hsc⟩ := hk1
          clear hkk hk0 hkk2
          by_cases hil : i < nb
          · have hle := (hnbi.out i).1 hil
            obtain ⟨z, hz⟩ : ∃ z, z = i * size := ⟨_, rfl⟩
            have hm1 : (i + 1) * size = z + size := by rw [Nat.add_mul, Nat.one_mul, hz]
            rw [hm1] at hle
            have hi1 : ((i : Int)) * (size : Int) = (z : Int) := by rw [hz]; push_cast; rfl
            have hi2 : ((i : Int) + 1) * (size : Int) = (z : Int) + (size : Int) := by rw [Int.add_mul, Int.one_mul, hi1]
            have hle2 : (z : Int) + (size : Int) ≤ (old.length : Int) := by omega
            by_cases h2 : fresh.length < p + size
            · have h2i : ¬ ((p : Int) + (size : Int) ≤ (fresh.length : Int)) := by omega
              have HT2 := Lib.hid (HT.out.trans (hbyt.out (.inl h2)))
              replace hz := Lib.hid hz
              clear hm1
              by_cases hrun : run = []
              · subst hrun
                have hmp : out.map prt = outS := hmap.out
                have hl0 := hlast.out rfl
                have hor : ((out.length : Int) == 0) = true ∨ (((out.length : Int) == 0) = false ∧ ∃ m tb, out.length = m + 1 ∧ 0 ≤ tb ∧ ∃ gz, Ao = some ⟨gz, 0, none⟩ ∧ wr.cell? ⟨gz, m * 2, none⟩ = some (.int .i64 tb)) := by
                  by_cases h0 : out = []
                  · left; subst h0; rfl
                  · right
                    obtain ⟨X, t, rfl⟩ : ∃ X t, out = X ++ [t] := ⟨_, _, (List.dropLast_concat_getLast h0).symm⟩
                    refine ⟨by first | (simp; done) | (simp; omega), X.length, t.b, by simp, ?_, ?_⟩
                    · rw [← hmp] at hl0
                      exact hl0 (prt t) (by simp)
                    · obtain ⟨gz, hA, _, _⟩ := hOo2.form (by simp)
                      refine ⟨gz, hA, hOo2.cell hA (j := X.length * 2) (by rw [List.length_append, List.length_singleton]; omega) ?_⟩
                      rw [List.flatMap_append, List.getElem?_append_right (by rw [ptC_len]; omega), ptC_len, Nat.sub_self]
                      rfl
                have hXl := Lib.hid (show out.length = out.length from rfl)
                have hone26 := ptC_one ⟨-1, [], none, 0⟩
                have hby : (out.length + 1) * 32 ≤ 140737488355328 := by omega
                have hol2 : (out.length : Int) ≤ 2000 := by omega
                replace hmp := Lib.hid hmp
                clear hl0
                rcases hor with h0 | ⟨h0, m0, tb, hm0, htb, gz0, hA0, hc0⟩
                · go_wp2_with (
                    at_builtin
                    refine wpList_app1 wr rfl (.tmp 79) (.tmp 81) 23 rfl w.heap.size 26 Try.underlying23 hi26 hz260 hz261 hz262 rfl (by decide) _ co' out.length (out.flatMap ptC) rfl hOo2 (ptC ⟨-1, [], none, 0⟩) 26 1 (by rfl) rfl hone26 hby (by decide) hgs2 ?_
                    intro gz cz wz hO6 hgr6 hloc6 hbg6 hlt6)
                  have hgwz := gb_own hg2 hgr6 (fun g h => (hOo2.lt g h).1)
                  have hPz := hPt2.out26 hOo2 hgr6
                  have hcpz := hgwz.cell hcpw.out (by simp)
                  obtain ⟨X, hXX⟩ : ∃ X, X = out := ⟨_, rfl⟩
                  obtain ⟨fA, fc, rl, run, hOz, hRz, hrlq, hrv, hrl', HT2, hmX2⟩ : ∃ (fA : Option Addr) (fc rl : Nat) (run : List Nat), Own wz w.heap.size 26 2 (some ⟨gz, 0, none⟩) cz (out.length + 1) (X.flatMap ptC ++ [.int .i64 (-1), .slice fA rl fc]) ∧ Own wz w.heap.size 5 1 fA fc rl (run.map bv) ∧ Hid (run.length = rl) ∧ (∀ v ∈ run, v < 256) ∧ rl ≤ p ∧ Hid (target = diffT old fresh size (p + 1) (run ++ [fp]) outS) ∧ Hid (X.map prt = outS) :=
                    ⟨none, 0, 0, [], by rw [hXX]; exact hO6, Own.nil _ _ _ _, Lib.hid rfl, fun v hv => by simp at hv, Nat.zero_le _, HT2, Lib.hid (by rw [hXX]; exact hmp.out)⟩
                  rw [← hXX] at hPz
                  have hmX := Lib.hid (congrArg List.length hXX)
                  clear hXX hO6 hgr6 hOo2 hPt2 hmp hone26 hby hXl hmap hlast h0 hOo hPt 
                  generalize out.length = m at *
                  have hm0j : (m : Int) < (m : Int) + 1 := by omega
                  have hm0k : (m : Int) ≤ 2000 := by omega
                  have hgd := gb_drew (gb_refl wz none)
                  have hHeld := gb_refl wz.drew none
                  have d94 : ∀ W, wz.drew.grownBy W none → W.cell? ⟨gz, m * 2 + 1, none⟩ = some (.slice fA rl fc) := fun W h => (gb_trans hgd h).cell (hOz.cell rfl (j := m * 2 + 1) (by omega) (by rw [List.getElem?_append_right (by rw [ptC_len, hmX.out]; omega), ptC_len, hmX.out, show m * 2 + 1 - m * 2 = 1 by omega]; rfl)) (by simp)
                  have d99 : ∀ W, wz.drew.grownBy W none → W.cell? ⟨fg, fo + p, none⟩ = some (.int .u8 (fp : Int)) := fun W h => (gb_trans hgd h).cell hcpz (by simp)
                  have hzs : w.heap.size ≤ wz.drew.heap.size := hgwz.size
                  have hx63 : rl ≤ maxLen := by simp only [maxLen]; have := hrlq.out; omega
                  have hxby : rl * 1 ≤ 140737488355328 := by have := hrlq.out; omega
                  have hx64 : rl + 1 ≤ maxLen := by simp only [maxLen]; have := hrlq.out; omega
                  have hxby2 : (rl + 1) * 1 ≤ 140737488355328 := by have := hrlq.out; omega
                  replace hRz := hRz.grown0 hgd
                  have hwm : IntKind.i64.wrap (m : Int) = (m : Int) := by rw [IntKind.wrap_i64]; omega
                  refine wp_region_X 17 (fun W => wz.drew.grownBy W none) (by kernel_rfl) (by decide) hHeld (fun hHeld => ?_)
                  refine' takeX (i := 0) (d := 85) (v := _) rfl rfl (by kernel_rfl) (fun _ _ _ h => h) (Or.inl ⟨by rfl, ?hy0⟩) (by assumption) ?rest0
                  case hy0 => (intro W hSw; (try dsimp only at hSw); go_simp; (try with_reducible rfl))
                  case rest0 =>
                  try simp only [Act.put, List.setIfInBounds_toArray, List.set_cons_zero, List.set_cons_succ]
                  refine' takeX (i := 1) (d := 86) (v := _) rfl rfl (by kernel_rfl) (fun _ _ _ h => h) (Or.inl ⟨by rfl, ?hy1⟩) (by assumption) ?rest1
                  case hy1 => (intro W hSw; (try dsimp only at hSw); go_simp; (try with_reducible rfl))
                  case rest1 =>
                  try simp only [Act.put, List.setIfInBounds_toArray, List.set_cons_zero, List.set_cons_succ]
                  refine' takeX (i := 2) (d := 87) (v := _) rfl rfl (by kernel_rfl) (fun _ _ _ h => h) (Or.inl ⟨by rfl, ?hy2⟩) (by assumption) ?rest2
                  case hy2 => (intro W hSw; (try dsimp only at hSw); go_simp; (try with_reducible rfl))
                  case rest2 =>
                  try simp only [Act.put, List.setIfInBounds_toArray, List.set_cons_zero, List.set_cons_succ]
                  refine' takeX (i := 4) (d := 89) (v := _) rfl rfl (by kernel_rfl) (fun _ _ _ h => h) (Or.inl ⟨by rfl, ?hy4⟩) (by assumption) ?rest4
                  case hy4 => (intro W hSw; (try dsimp only at hSw); go_simp; (try with_reducible rfl))
                  case rest4 =>
                  try simp only [Act.put, List.setIfInBounds_toArray, List.set_cons_zero, List.set_cons_succ]
                  refine' takeX (i := 5) (d := 90) (v := _) rfl rfl (by kernel_rfl) (fun _ _ _ h => h) (Or.inl ⟨by rfl, ?hy5⟩) (by assumption) ?rest5
                  case hy5 => (intro W hSw; (try dsimp only at hSw); go_simp; (try with_reducible rfl))
                  case rest5 =>
                  try simp only [Act.put, List.setIfInBounds_toArray, List.set_cons_zero, List.set_cons_succ]
                  refine' takeX (i := 6) (d := 91) (v := _) rfl rfl (by kernel_rfl) (fun _ _ _ h => h) (Or.inl ⟨by rfl, ?hy6⟩) (by assumption) ?rest6
                  case hy6 => (intro W hSw; (try dsimp only at hSw); go_simp; (try with_reducible rfl))
                  case rest6 =>
                  try simp only [Act.put, List.setIfInBounds_toArray, List.set_cons_zero, List.set_cons_succ]
                  refine' takeX (i := 7) (d := 92) (v := _) rfl rfl (by kernel_rfl) (fun _ _ _ h => h) (Or.inl ⟨by rfl, ?hy7⟩) (by assumption) ?rest7
                  case hy7 => (intro W hSw; (try dsimp only at hSw); go_simp; (try with_reducible rfl))
                  case rest7 =>
                  try simp only [Act.put, List.setIfInBounds_toArray, List.set_cons_zero, List.set_cons_succ]
                  refine' takeX (i := 8) (d := 93) (v := _) rfl rfl (by kernel_rfl) (fun _ _ _ h => h) (Or.inl ⟨by rfl, ?hy8⟩) (by assumption) ?rest8
                  case hy8 => (intro W hSw; (try dsimp only at hSw); go_simp; (try with_reducible rfl))
                  case rest8 =>
                  try simp only [Act.put, List.setIfInBounds_toArray, List.set_cons_zero, List.set_cons_succ]
                  refine' takeX (i := 9) (d := 94) (v := _) rfl rfl (by kernel_rfl) (fun _ _ _ h => h) (Or.inl ⟨by rfl, ?hy9⟩) (by assumption) ?rest9
                  case hy9 => (intro W hSw; (try dsimp only at hSw); go_simp; (try with_reducible rfl))
                  case rest9 =>
                  try simp only [Act.put, List.setIfInBounds_toArray, List.set_cons_zero, List.set_cons_succ]
                  refine' takeX (i := 11) (d := 96) (v := _) rfl rfl (by kernel_rfl) (fun _ _ _ h => h) (Or.inl ⟨by rfl, ?hy11⟩) (by assumption) ?rest11
                  case hy11 => (intro W hSw; (try dsimp only at hSw); go_simp; (try with_reducible rfl))
                  case rest11 =>
                  try simp only [Act.put, List.setIfInBounds_toArray, List.set_cons_zero, List.set_cons_succ]
                  refine' takeX (i := 12) (d := 97) (v := _) rfl rfl (by kernel_rfl) (fun _ _ _ h => h) (Or.inl ⟨by rfl, ?hy12⟩) (by assumption) ?rest12
                  case hy12 => (intro W hSw; (try dsimp only at hSw); go_simp; (try with_reducible rfl))
                  case rest12 =>
                  try simp only [Act.put, List.setIfInBounds_toArray, List.set_cons_zero, List.set_cons_succ]
                  refine' takeX (i := 13) (d := 98) (v := _) rfl rfl (by kernel_rfl) (fun _ _ _ h => h) (Or.inl ⟨by rfl, ?hy13⟩) (by assumption) ?rest13
                  case hy13 => (intro W hSw; (try dsimp only at hSw); go_simp; (try with_reducible rfl))
                  case rest13 =>
                  try simp only [Act.put, List.setIfInBounds_toArray, List.set_cons_zero, List.set_cons_succ]
                  refine' takeX (i := 14) (d := 99) (v := _) rfl rfl (by kernel_rfl) (fun _ _ _ h => h) (Or.inl ⟨by rfl, ?hy14⟩) (by assumption) ?rest14
                  case hy14 => (intro W hSw; (try dsimp only at hSw); go_simp; (try with_reducible rfl))
                  case rest14 =>
                  try simp only [Act.put, List.setIfInBounds_toArray, List.set_cons_zero, List.set_cons_succ]
                  refine readyX (rs := [3, 15]) (by kernel_rfl) (by rfl) ?_
                  refine AllReadyX.cons rfl (fun K hK => ?_) (AllReadyX.cons rfl (fun K hK => ?_) AllReadyX.nil)
                  · go_simp
                    have hH1 := gb_alloc hHeld (.cells #[] 5)
                    refine hK.out _ _ hH1 ?_
                    clear hK K
                    try simp only [List.getElem_toArray, List.getElem_cons_zero, List.getElem_cons_succ, Act.put, List.setIfInBounds_toArray, List.set_cons_zero, List.set_cons_succ]
                    replace hHeld := hH1
                    refine readyX (rs := [10, 15]) (by kernel_rfl) (by rfl) ?_
                    refine AllReadyX.cons rfl (fun K hK => ?_) (AllReadyX.cons rfl (fun K hK => ?_) AllReadyX.nil)
                    · refine step_app0 (by rfl) (.tmp 88) (.tmp 94) 22 (by rfl) w.heap.size 5 Try.underlying22 hi5 hz50 hz51 hz52 rfl (by decide) _ 0 (by rfl) (own_empty wz.drew hzs) _ fA rl fc (run.map bv) (by rfl) (hRz.grown0 hHeld).rd bv_one hx63 hxby (Nat.le_trans hzs hHeld.size) ?_
                      intro A5 c5 w5 hO5 hg5 hloc5
                      have hHeld2 := gb_own hHeld hg5 (fun g h => by simp [blk] at h; subst h; simp)
                      refine hK.out _ _ hHeld2 ?_
                      clear hK K
                      try simp only [List.getElem_toArray, List.getElem_cons_zero, List.getElem_cons_succ, Act.put, List.setIfInBounds_toArray, List.set_cons_zero, List.set_cons_succ]
                      have hA5 : ∀ g, blk A5 = some g → wz.drew.heap.size ≤ g := fun g h => by
                        show wz.heap.size ≤ g
                        rcases hloc5 with e | e
                        · rw [e] at h; simp [blk] at h; omega
                        · rw [e] at h; simp at h; omega
                      replace hHeld := hHeld2
                      refine readyX (rs := [15]) (by kernel_rfl) (by rfl) ?_
                      refine AllReadyX.cons rfl (fun K hK => ?_) AllReadyX.nil
                      go_simp
                      have hH3 := gb_alloc hHeld (.cells #[.int .u8 (fp : Int)] 5)
                      refine hK.out _ _ hH3 ?_
                      clear hK K
                      try simp only [List.getElem_toArray, List.getElem_cons_zero, List.getElem_cons_succ, Act.put, List.setIfInBounds_toArray, List.set_cons_zero, List.set_cons_succ]
                      replace hHeld := hH3
                      refine readyX (rs := [16]) (by kernel_rfl) (by rfl) ?_
                      refine AllReadyX.cons rfl (fun K hK => ?_) AllReadyX.nil
                      refine step_appN _ (by rfl) (.tmp 95) (.tmp 100) 22 (by rfl) w.heap.size 5 Try.underlying22 hi5 hz50 hz51 hz52 rfl (by decide) A5 c5 rl (run.map bv) (by rfl) (hO5.alloc _) _ _ 1 _ [bv fp] (by rfl) (rd_new _ [bv fp] 5) (hone fp) hx64 hxby2 (Nat.le_trans hzs hHeld.size) ?_
                      intro A6 c6 w6 hO6 hg6 hloc6
                      have hHeld3 := gb_own hHeld hg6 hA5
                      refine hK.out _ _ hHeld3 ?_
                      clear hK K
                      try simp only [List.getElem_toArray, List.getElem_cons_zero, List.getElem_cons_succ, Act.put, List.setIfInBounds_toArray, List.set_cons_zero, List.set_cons_succ]
                      refine ⟨?_, by kernel_rfl⟩
                      show wpAny _ _ _ _ 3 _ _ _
                      have hgz6 := gb_trans hgd hHeld3
                      have hOz6 := hOz.grown0 hgz6
                      have k94 := d94 _ hHeld3
                      have f94 := hOz6.free rfl (m * 2 + 1)
                      refine wpAny_ready (rs := [17]) (by kernel_rfl) (by simp) ?_
                      refine AllReady.cons rfl (fun K hK => ?_) AllReady.nil
                      go_simp
                      refine hK _ _ ?_
                      clear hK K
                      try simp only [List.getElem_toArray, List.getElem_cons_zero, List.getElem_cons_succ, Act.put, List.setIfInBounds_toArray, List.set_cons_zero, List.set_cons_succ]
                      refine wpAny_ready (rs := [18]) (by kernel_rfl) (by simp) ?_
                      refine AllReady.cons rfl (fun K hK => ?_) AllReady.nil
                      go_simp
                      refine hK _ _ ?_
                      clear hK K
                      try simp only [List.getElem_toArray, List.getElem_cons_zero, List.getElem_cons_succ, Act.put, List.setIfInBounds_toArray, List.set_cons_zero, List.set_cons_succ]
                      refine wpAny_ready (rs := [19]) (by kernel_rfl) (by simp) ?_
                      refine AllReady.cons rfl (fun K hK => ?_) AllReady.nil
                      go_simp
                      refine hK _ _ ?_
                      clear hK K
                      refine wpAny_done (by kernel_rfl) ?_ _
                      go_wp2_with fail
                      go_roundw
                      case rel =>
                        refine ⟨p + 1, run ++ [fp], outS, X ++ [⟨-1, run ++ [fp], A6, c6⟩], some ⟨gz, 0, none⟩, cz, by simp [hmX.out], by go_num, by omega, by have := hrlq.out; simp; omega, by simp; have := hmX.out; omega, Lib.hid ?_, Lib.hid (fun h => by simp at h), ?_, ?_, HT2, gb_new_set (p := ⟨gz, m * 2 + 1, none⟩) (gb_trans hgwz hgz6) (by have := (hOz.lt gz rfl).1; exact this)⟩
                        · rw [List.map_append, hmX2.out]
                          unfold shutS
                          rw [if_neg (by simp)]
                          rfl
                        · have h := hOz6.set (m * 2 + 1) (.slice A6 (rl + 1) c6)
                          rw [set_last X _ _ _ m hmX.out] at h
                          rw [List.length_append, List.flatMap_append, hmX.out]
                          have e : ([⟨-1, run ++ [fp], A6, c6⟩] : List Pt).flatMap ptC = [.int .i64 (-1), .slice A6 (rl + 1) c6] := by simp [ptC, hrlq.out]
                          rw [e]
                          exact h
                        · intro q hq
                          rcases List.mem_append.1 hq with hq | hq
                          · exact ((hPz.grown0 hgz6).cell26 hOz6) q hq
                          · simp at hq
                            subst hq
                            refine ⟨?_, ?_, fun k hk => by simp [blk]⟩
                            · have h := hO6.other (p := ⟨gz, m * 2 + 1, none⟩) (fun e => own_ne_own hO6 hOz6 (by decide) e rfl) (.slice A6 (rl + 1) c6)
                              have e : (run ++ [fp]).length = rl + 1 := by simp [hrlq.out]
                              have e2 : (run ++ [fp]).map bv = run.map bv ++ [bv fp] := by simp
                              show Own _ _ 5 1 A6 c6 (run ++ [fp]).length ((run ++ [fp]).map bv)
                              rw [e, e2]
                              exact h
                            · intro v hv
                              rcases List.mem_append.1 hv with hv | hv
                              · exact hrv v hv
                              · simp at hv; subst hv; exact hpb
                      case measure => first | (simp [intOf]; done) | (simp [intOf]; omega)
                    · go_simp
                      have hH2 := gb_alloc hHeld (.cells #[.int .u8 (fp : Int)] 5)
                      refine hK.out _ _ hH2 ?_
                      clear hK K
                      try simp only [List.getElem_toArray, List.getElem_cons_zero, List.getElem_cons_succ, Act.put, List.setIfInBounds_toArray, List.set_cons_zero, List.set_cons_succ]
                      replace hHeld := hH2
                      refine readyX (rs := [10]) (by kernel_rfl) (by rfl) ?_
                      refine AllReadyX.cons rfl (fun K hK => ?_) AllReadyX.nil
                      refine step_app0 (by rfl) (.tmp 88) (.tmp 94) 22 (by rfl) w.heap.size 5 Try.underlying22 hi5 hz50 hz51 hz52 rfl (by decide) _ 0 (by rfl) ((own_empty wz.drew hzs).alloc _) _ fA rl fc (run.map bv) (by rfl) (hRz.grown0 hHeld).rd bv_one hx63 hxby (Nat.le_trans hzs hHeld.size) ?_
                      intro A5 c5 w5 hO5 hg5 hloc5
                      have hHeld2 := gb_own hHeld hg5 (fun g h => by simp [blk] at h; subst h; simp)
                      refine hK.out _ _ hHeld2 ?_
                      clear hK K
                      try simp only [List.getElem_toArray, List.getElem_cons_zero, List.getElem_cons_succ, Act.put, List.setIfInBounds_toArray, List.set_cons_zero, List.set_cons_succ]
                      have hA5 : ∀ g, blk A5 = some g → wz.drew.heap.size ≤ g := fun g h => by
                        show wz.heap.size ≤ g
                        rcases hloc5 with e | e
                        · rw [e] at h; simp [blk] at h; omega
                        · rw [e] at h; simp at h; omega
                      have hR0 := rd_row (rd_new (wz.drew.alloc (.cells #[] 5)) [bv fp] 5) hg5 (by simp [blk]) (by simp)
                      have hR1 : Rd w5 (wz.heap.size + 1 + 1) 1 (some ⟨wz.heap.size + 1, 0, none⟩) 1 [bv fp] := by simpa using hR0
                      replace hHeld := hHeld2
                      refine readyX (rs := [16]) (by kernel_rfl) (by rfl) ?_
                      refine AllReadyX.cons rfl (fun K hK => ?_) AllReadyX.nil
                      refine step_appN _ (by rfl) (.tmp 95) (.tmp 100) 22 (by rfl) w.heap.size 5 Try.underlying22 hi5 hz50 hz51 hz52 rfl (by decide) A5 c5 rl (run.map bv) (by rfl) (hO5) _ _ 1 _ [bv fp] (by rfl) (hR1) (hone fp) hx64 hxby2 (Nat.le_trans hzs hHeld.size) ?_
                      intro A6 c6 w6 hO6 hg6 hloc6
                      have hHeld3 := gb_own hHeld hg6 hA5
                      refine hK.out _ _ hHeld3 ?_
                      clear hK K
                      try simp only [List.getElem_toArray, List.getElem_cons_zero, List.getElem_cons_succ, Act.put, List.setIfInBounds_toArray, List.set_cons_zero, List.set_cons_succ]
                      refine ⟨?_, by kernel_rfl⟩
                      show wpAny _ _ _ _ 3 _ _ _
                      have hgz6 := gb_trans hgd hHeld3
                      have hOz6 := hOz.grown0 hgz6
                      have k94 := d94 _ hHeld3
                      have f94 := hOz6.free rfl (m * 2 + 1)
                      refine wpAny_ready (rs := [17]) (by kernel_rfl) (by simp) ?_
                      refine AllReady.cons rfl (fun K hK => ?_) AllReady.nil
                      go_simp
                      refine hK _ _ ?_
                      clear hK K
                      try simp only [List.getElem_toArray, List.getElem_cons_zero, List.getElem_cons_succ, Act.put, List.setIfInBounds_toArray, List.set_cons_zero, List.set_cons_succ]
                      refine wpAny_ready (rs := [18]) (by kernel_rfl) (by simp) ?_
                      refine AllReady.cons rfl (fun K hK => ?_) AllReady.nil
                      go_simp
                      refine hK _ _ ?_
                      clear hK K
                      try simp only [List.getElem_toArray, List.getElem_cons_zero, List.getElem_cons_succ, Act.put, List.setIfInBounds_toArray, List.set_cons_zero, List.set_cons_succ]
                      refine wpAny_ready (rs := [19]) (by kernel_rfl) (by simp) ?_
                      refine AllReady.cons rfl (fun K hK => ?_) AllReady.nil
                      go_simp
                      refine hK _ _ ?_
                      clear hK K
                      refine wpAny_done (by kernel_rfl) ?_ _
                      go_wp2_with fail
                      go_roundw
                      case rel =>
                        refine ⟨p + 1, run ++ [fp], outS, X ++ [⟨-1, run ++ [fp], A6, c6⟩], some ⟨gz, 0, none⟩, cz, by simp [hmX.out], by go_num, by omega, by have := hrlq.out; simp; omega, by simp; have := hmX.out; omega, Lib.hid ?_, Lib.hid (fun h => by simp at h), ?_, ?_, HT2, gb_new_set (p := ⟨gz, m * 2 + 1, none⟩) (gb_trans hgwz hgz6) (by have := (hOz.lt gz rfl).1; exact this)⟩
                        · rw [List.map_append, hmX2.out]
                          unfold shutS
                          rw [if_neg (by simp)]
                          rfl
                        · have h := hOz6.set (m * 2 + 1) (.slice A6 (rl + 1) c6)
                          rw [set_last X _ _ _ m hmX.out] at h
                          rw [List.length_append, List.flatMap_append, hmX.out]
                          have e : ([⟨-1, run ++ [fp], A6, c6⟩] : List Pt).flatMap ptC = [.int .i64 (-1), .slice A6 (rl + 1) c6] := by simp [ptC, hrlq.out]
                          rw [e]
                          exact h
                        · intro q hq
                          rcases List.mem_append.1 hq with hq | hq
                          · exact ((hPz.grown0 hgz6).cell26 hOz6) q hq
                          · simp at hq
                            subst hq
                            refine ⟨?_, ?_, fun k hk => by simp [blk]⟩
                            · have h := hO6.other (p := ⟨gz, m * 2 + 1, none⟩) (fun e => own_ne_own hO6 hOz6 (by decide) e rfl) (.slice A6 (rl + 1) c6)
                              have e : (run ++ [fp]).length = rl + 1 := by simp [hrlq.out]
                              have e2 : (run ++ [fp]).map bv = run.map bv ++ [bv fp] := by simp
                              show Own _ _ 5 1 A6 c6 (run ++ [fp]).length ((run ++ [fp]).map bv)
                              rw [e, e2]
                              exact h
                            · intro v hv
                              rcases List.mem_append.1 hv with hv | hv
                              · exact hrv v hv
                              · simp at hv; subst hv; exact hpb
                      case measure => first | (simp [intOf]; done) | (simp [intOf]; omega)
                  · go_simp
                    have hH1 := gb_alloc hHeld (.cells #[.int .u8 (fp : Int)] 5)
                    refine hK.out _ _ hH1 ?_
                    clear hK K
                    try simp only [List.getElem_toArray, List.getElem_cons_zero, List.getElem_cons_succ, Act.put, List.setIfInBounds_toArray, List.set_cons_zero, List.set_cons_succ]
                    replace hHeld := hH1
                    refine readyX (rs := [3]) (by kernel_rfl) (by rfl) ?_
                    refine AllReadyX.cons rfl (fun K hK => ?_) AllReadyX.nil
                    go_simp
                    have hH2 := gb_alloc hHeld (.cells #[] 5)
                    refine hK.out _ _ hH2 ?_
                    clear hK K
                    try simp only [List.getElem_toArray, List.getElem_cons_zero, List.getElem_cons_succ, Act.put, List.setIfInBounds_toArray, List.set_cons_zero, List.set_cons_succ]
                    replace hHeld := hH2
                    refine readyX (rs := [10]) (by kernel_rfl) (by rfl) ?_
                    refine AllReadyX.cons rfl (fun K hK => ?_) AllReadyX.nil
                    have hE3 : Own ((wz.drew.alloc (.cells #[.int .u8 (fp : Int)] 5)).alloc (.cells #[] 5)) w.heap.size 5 1 (some ⟨wz.heap.size + 1, 0, none⟩) 0 0 [] := by
                      have h := own_empty (wz.drew.alloc (.cells #[.int .u8 (fp : Int)] 5)) (base := w.heap.size) (by simp; exact Nat.le_succ_of_le hzs)
                      simpa using h
                    refine step_app0 (by rfl) (.tmp 88) (.tmp 94) 22 (by rfl) w.heap.size 5 Try.underlying22 hi5 hz50 hz51 hz52 rfl (by decide) _ 0 (by rfl) (hE3) _ fA rl fc (run.map bv) (by rfl) (hRz.grown0 hHeld).rd bv_one hx63 hxby (Nat.le_trans hzs hHeld.size) ?_
                    intro A5 c5 w5 hO5 hg5 hloc5
                    have hHeld2 := gb_own hHeld hg5 (fun g h => by simp [blk] at h; subst h; simp)
                    refine hK.out _ _ hHeld2 ?_
                    clear hK K
                    try simp only [List.getElem_toArray, List.getElem_cons_zero, List.getElem_cons_succ, Act.put, List.setIfInBounds_toArray, List.set_cons_zero, List.set_cons_succ]
                    have hA5 : ∀ g, blk A5 = some g → wz.drew.heap.size ≤ g := fun g h => by
                      show wz.heap.size ≤ g
                      rcases hloc5 with e | e
                      · rw [e] at h; simp [blk] at h; omega
                      · rw [e] at h; simp at h; omega
                    have hR1 := rd_row ((rd_new wz.drew [bv fp] 5).later (gb_alloc (gb_refl _ none) (.cells #[] 5)) (by simp)) hg5 (by simp [blk]) (by simp)
                    replace hHeld := hHeld2
                    refine readyX (rs := [16]) (by kernel_rfl) (by rfl) ?_
                    refine AllReadyX.cons rfl (fun K hK => ?_) AllReadyX.nil
                    refine step_appN _ (by rfl) (.tmp 95) (.tmp 100) 22 (by rfl) w.heap.size 5 Try.underlying22 hi5 hz50 hz51 hz52 rfl (by decide) A5 c5 rl (run.map bv) (by rfl) (hO5) _ _ 1 _ [bv fp] (by rfl) (hR1) (hone fp) hx64 hxby2 (Nat.le_trans hzs hHeld.size) ?_
                    intro A6 c6 w6 hO6 hg6 hloc6
                    have hHeld3 := gb_own hHeld hg6 hA5
                    refine hK.out _ _ hHeld3 ?_
                    clear hK K
                    try simp only [List.getElem_toArray, List.getElem_cons_zero, List.getElem_cons_succ, Act.put, List.setIfInBounds_toArray, List.set_cons_zero, List.set_cons_succ]
                    refine ⟨?_, by kernel_rfl⟩
                    show wpAny _ _ _ _ 3 _ _ _
                    have hgz6 := gb_trans hgd hHeld3
                    have hOz6 := hOz.grown0 hgz6
                    have k94 := d94 _ hHeld3
                    have f94 := hOz6.free rfl (m * 2 + 1)
                    refine wpAny_ready (rs := [17]) (by kernel_rfl) (by simp) ?_
                    refine AllReady.cons rfl (fun K hK => ?_) AllReady.nil
                    go_simp
                    refine hK _ _ ?_
                    clear hK K
                    try simp only [List.getElem_toArray, List.getElem_cons_zero, List.getElem_cons_succ, Act.put, List.setIfInBounds_toArray, List.set_cons_zero, List.set_cons_succ]
                    refine wpAny_ready (rs := [18]) (by kernel_rfl) (by simp) ?_
                    refine AllReady.cons rfl (fun K hK => ?_) AllReady.nil
                    go_simp
                    refine hK _ _ ?_
                    clear hK K
                    try simp only [List.getElem_toArray, List.getElem_cons_zero, List.getElem_cons_succ, Act.put, List.setIfInBounds_toArray, List.set_cons_zero, List.set_cons_succ]
                    refine wpAny_ready (rs := [19]) (by kernel_rfl) (by simp) ?_
                    refine AllReady.cons rfl (fun K hK => ?_) AllReady.nil
                    go_simp
                    refine hK _ _ ?_
                    clear hK K
                    refine wpAny_done (by kernel_rfl) ?_ _
                    go_wp2_with fail
                    go_roundw
                    case rel =>
                      refine ⟨p + 1, run ++ [fp], outS, X ++ [⟨-1, run ++ [fp], A6, c6⟩], some ⟨gz, 0, none⟩, cz, by simp [hmX.out], by go_num, by omega, by have := hrlq.out; simp; omega, by simp; have := hmX.out; omega, Lib.hid ?_, Lib.hid (fun h => by simp at h), ?_, ?_, HT2, gb_new_set (p := ⟨gz, m * 2 + 1, none⟩) (gb_trans hgwz hgz6) (by have := (hOz.lt gz rfl).1; exact this)⟩
                      · rw [List.map_append, hmX2.out]
                        unfold shutS
                        rw [if_neg (by simp)]
                        rfl
                      · have h := hOz6.set (m * 2 + 1) (.slice A6 (rl + 1) c6)
                        rw [set_last X _ _ _ m hmX.out] at h
                        rw [List.length_append, List.flatMap_append, hmX.out]
                        have e : ([⟨-1, run ++ [fp], A6, c6⟩] : List Pt).flatMap ptC = [.int .i64 (-1), .slice A6 (rl + 1) c6] := by simp [ptC, hrlq.out]
                        rw [e]
                        exact h
                      · intro q hq
                        rcases List.mem_append.1 hq with hq | hq
                        · exact ((hPz.grown0 hgz6).cell26 hOz6) q hq
                        · simp at hq
                          subst hq
                          refine ⟨?_, ?_, fun k hk => by simp [blk]⟩
                          · have h := hO6.other (p := ⟨gz, m * 2 + 1, none⟩) (fun e => own_ne_own hO6 hOz6 (by decide) e rfl) (.slice A6 (rl + 1) c6)
                            have e : (run ++ [fp]).length = rl + 1 := by simp [hrlq.out]
                            have e2 : (run ++ [fp]).map bv = run.map bv ++ [bv fp] := by simp
                            show Own _ _ 5 1 A6 c6 (run ++ [fp]).length ((run ++ [fp]).map bv)
                            rw [e, e2]
                            exact h
                          · intro v hv
                            rcases List.mem_append.1 hv with hv | hv
                            · exact hrv v hv
                            · simp at hv; subst hv; exact hpb
                    case measure => first | (simp [intOf]; done) | (simp [intOf]; omega)
                · subst hA0
                  have hm0i : (out.length : Int) - 1 = (m0 : Int) := by omega
                  have hm0j : (m0 : Int) < (out.length : Int) := by omega
                  have hm0k : (m0 : Int) ≤ 2000 := by omega
                  replace hm0 := Lib.hid hm0
                  go_wp2_with (
                    at_builtin
                    refine wpList_app1 wr rfl (.tmp 79) (.tmp 81) 23 rfl w.heap.size 26 Try.underlying23 hi26 hz260 hz261 hz262 rfl (by decide) _ co' out.length (out.flatMap ptC) rfl hOo2 (ptC ⟨-1, [], none, 0⟩) 26 1 (by rfl) rfl hone26 hby (by decide) hgs2 ?_
                    intro gz cz wz hO6 hgr6 hloc6 hbg6 hlt6)
                  have hgwz := gb_own hg2 hgr6 (fun g h => (hOo2.lt g h).1)
                  have hPz := hPt2.out26 hOo2 hgr6
                  have hcpz := hgwz.cell hcpw.out (by simp)
                  obtain ⟨X, hXX⟩ : ∃ X, X = out := ⟨_, rfl⟩
                  obtain ⟨fA, fc, rl, run, hOz, hRz, hrlq, hrv, hrl', HT2, hmX2⟩ : ∃ (fA : Option Addr) (fc rl : Nat) (run : List Nat), Own wz w.heap.size 26 2 (some ⟨gz, 0, none⟩) cz (out.length + 1) (X.flatMap ptC ++ [.int .i64 (-1), .slice fA rl fc]) ∧ Own wz w.heap.size 5 1 fA fc rl (run.map bv) ∧ Hid (run.length = rl) ∧ (∀ v ∈ run, v < 256) ∧ rl ≤ p ∧ Hid (target = diffT old fresh size (p + 1) (run ++ [fp]) outS) ∧ Hid (X.map prt = outS) :=
                    ⟨none, 0, 0, [], by rw [hXX]; exact hO6, Own.nil _ _ _ _, Lib.hid rfl, fun v hv => by simp at hv, Nat.zero_le _, HT2, Lib.hid (by rw [hXX]; exact hmp.out)⟩
                  rw [← hXX] at hPz
                  have hmX := Lib.hid (congrArg List.length hXX)
                  clear hXX hO6 hgr6 hOo2 hPt2 hmp hone26 hby hXl hmap hlast h0 hOo hPt hm0i hm0j hm0k hc0 htb
                  generalize out.length = m at *
                  have hm0j : (m : Int) < (m : Int) + 1 := by omega
                  have hm0k : (m : Int) ≤ 2000 := by omega
                  have hgd := gb_drew (gb_refl wz none)
                  have hHeld := gb_refl wz.drew none
                  have d94 : ∀ W, wz.drew.grownBy W none → W.cell? ⟨gz, m * 2 + 1, none⟩ = some (.slice fA rl fc) := fun W h => (gb_trans hgd h).cell (hOz.cell rfl (j := m * 2 + 1) (by omega) (by rw [List.getElem?_append_right (by rw [ptC_len, hmX.out]; omega), ptC_len, hmX.out, show m * 2 + 1 - m * 2 = 1 by omega]; rfl)) (by simp)
                  have d99 : ∀ W, wz.drew.grownBy W none → W.cell? ⟨fg, fo + p, none⟩ = some (.int .u8 (fp : Int)) := fun W h => (gb_trans hgd h).cell hcpz (by simp)
                  have hzs : w.heap.size ≤ wz.drew.heap.size := hgwz.size
                  have hx63 : rl ≤ maxLen := by simp only [maxLen]; have := hrlq.out; omega
                  have hxby : rl * 1 ≤ 140737488355328 := by have := hrlq.out; omega
                  have hx64 : rl + 1 ≤ maxLen := by simp only [maxLen]; have := hrlq.out; omega
                  have hxby2 : (rl + 1) * 1 ≤ 140737488355328 := by have := hrlq.out; omega
                  replace hRz := hRz.grown0 hgd
                  have hwm : IntKind.i64.wrap (m : Int) = (m : Int) := by rw [IntKind.wrap_i64]; omega
                  refine wp_region_X 17 (fun W => wz.drew.grownBy W none) (by kernel_rfl) (by decide) hHeld (fun hHeld => ?_)
                  refine' takeX (i := 0) (d := 85) (v := _) rfl rfl (by kernel_rfl) (fun _ _ _ h => h) (Or.inl ⟨by rfl, ?hy0⟩) (by assumption) ?rest0
                  case hy0 => (intro W hSw; (try dsimp only at hSw); go_simp; (try with_reducible rfl))
                  case rest0 =>
                  try simp only [Act.put, List.setIfInBounds_toArray, List.set_cons_zero, List.set_cons_succ]
                  refine' takeX (i := 1) (d := 86) (v := _) rfl rfl (by kernel_rfl) (fun _ _ _ h => h) (Or.inl ⟨by rfl, ?hy1⟩) (by assumption) ?rest1
                  case hy1 => (intro W hSw; (try dsimp only at hSw); go_simp; (try with_reducible rfl))
                  case rest1 =>
                  try simp only [Act.put, List.setIfInBounds_toArray, List.set_cons_zero, List.set_cons_succ]
                  refine' takeX (i := 2) (d := 87) (v := _) rfl rfl (by kernel_rfl) (fun _ _ _ h => h) (Or.inl ⟨by rfl, ?hy2⟩) (by assumption) ?rest2
                  case hy2 => (intro W hSw; (try dsimp only at hSw); go_simp; (try with_reducible rfl))
                  case rest2 =>
                  try simp only [Act.put, List.setIfInBounds_toArray, List.set_cons_zero, List.set_cons_succ]
                  refine' takeX (i := 4) (d := 89) (v := _) rfl rfl (by kernel_rfl) (fun _ _ _ h => h) (Or.inl ⟨by rfl, ?hy4⟩) (by assumption) ?rest4
                  case hy4 => (intro W hSw; (try dsimp only at hSw); go_simp; (try with_reducible rfl))
                  case rest4 =>
                  try simp only [Act.put, List.setIfInBounds_toArray, List.set_cons_zero, List.set_cons_succ]
                  refine' takeX (i := 5) (d := 90) (v := _) rfl rfl (by kernel_rfl) (fun _ _ _ h => h) (Or.inl ⟨by rfl, ?hy5⟩) (by assumption) ?rest5
                  case hy5 => (intro W hSw; (try dsimp only at hSw); go_simp; (try with_reducible rfl))
                  case rest5 =>
                  try simp only [Act.put, List.setIfInBounds_toArray, List.set_cons_zero, List.set_cons_succ]
                  refine' takeX (i := 6) (d := 91) (v := _) rfl rfl (by kernel_rfl) (fun _ _ _ h => h) (Or.inl ⟨by rfl, ?hy6⟩) (by assumption) ?rest6
                  case hy6 => (intro W hSw; (try dsimp only at hSw); go_simp; (try with_reducible rfl))
                  case rest6 =>
                  try simp only [Act.put, List.setIfInBounds_toArray, List.set_cons_zero, List.set_cons_succ]
                  refine' takeX (i := 7) (d := 92) (v := _) rfl rfl (by kernel_rfl) (fun _ _ _ h => h) (Or.inl ⟨by rfl, ?hy7⟩) (by assumption) ?rest7
                  case hy7 => (intro W hSw; (try dsimp only at hSw); go_simp; (try with_reducible rfl))
                  case rest7 =>
                  try simp only [Act.put, List.setIfInBounds_toArray, List.set_cons_zero, List.set_cons_succ]
                  refine' takeX (i := 8) (d := 93) (v := _) rfl rfl (by kernel_rfl) (fun _ _ _ h => h) (Or.inl ⟨by rfl, ?hy8⟩) (by assumption) ?rest8
                  case hy8 => (intro W hSw; (try dsimp only at hSw); go_simp; (try with_reducible rfl))
                  case rest8 =>
                  try simp only [Act.put, List.setIfInBounds_toArray, List.set_cons_zero, List.set_cons_succ]
                  refine' takeX (i := 9) (d := 94) (v := _) rfl rfl (by kernel_rfl) (fun _ _ _ h => h) (Or.inl ⟨by rfl, ?hy9⟩) (by assumption) ?rest9
                  case hy9 => (intro W hSw; (try dsimp only at hSw); go_simp; (try with_reducible rfl))
                  case rest9 =>
                  try simp only [Act.put, List.setIfInBounds_toArray, List.set_cons_zero, List.set_cons_succ]
                  refine' takeX (i := 11) (d := 96) (v := _) rfl rfl (by kernel_rfl) (fun _ _ _ h => h) (Or.inl ⟨by rfl, ?hy11⟩) (by assumption) ?rest11
                  case hy11 => (intro W hSw; (try dsimp only at hSw); go_simp; (try with_reducible rfl))
                  case rest11 =>
                  try simp only [Act.put, List.setIfInBounds_toArray, List.set_cons_zero, List.set_cons_succ]
                  refine' takeX (i := 12) (d := 97) (v := _) rfl rfl (by kernel_rfl) (fun _ _ _ h => h) (Or.inl ⟨by rfl, ?hy12⟩) (by assumption) ?rest12
                  case hy12 => (intro W hSw; (try dsimp only at hSw); go_simp; (try with_reducible rfl))
                  case rest12 =>
                  try simp only [Act.put, List.setIfInBounds_toArray, List.set_cons_zero, List.set_cons_succ]
                  refine' takeX (i := 13) (d := 98) (v := _) rfl rfl (by kernel_rfl) (fun _ _ _ h => h) (Or.inl ⟨by rfl, ?hy13⟩) (by assumption) ?rest13
                  case hy13 => (intro W hSw; (try dsimp only at hSw); go_simp; (try with_reducible rfl))
                  case rest13 =>
                  try simp only [Act.put, List.setIfInBounds_toArray, List.set_cons_zero, List.set_cons_succ]
                  refine' takeX (i := 14) (d := 99) (v := _) rfl rfl (by kernel_rfl) (fun _ _ _ h => h) (Or.inl ⟨by rfl, ?hy14⟩) (by assumption) ?rest14
                  case hy14 => (intro W hSw; (try dsimp only at hSw); go_simp; (try with_reducible rfl))
                  case rest14 =>
                  try simp only [Act.put, List.setIfInBounds_toArray, List.set_cons_zero, List.set_cons_succ]
                  refine readyX (rs := [3, 15]) (by kernel_rfl) (by rfl) ?_
                  refine AllReadyX.cons rfl (fun K hK => ?_) (AllReadyX.cons rfl (fun K hK => ?_) AllReadyX.nil)
                  · go_simp
                    have hH1 := gb_alloc hHeld (.cells #[] 5)
                    refine hK.out _ _ hH1 ?_
                    clear hK K
                    try simp only [List.getElem_toArray, List.getElem_cons_zero, List.getElem_cons_succ, Act.put, List.setIfInBounds_toArray, List.set_cons_zero, List.set_cons_succ]
                    replace hHeld := hH1
                    refine readyX (rs := [10, 15]) (by kernel_rfl) (by rfl) ?_
                    refine AllReadyX.cons rfl (fun K hK => ?_) (AllReadyX.cons rfl (fun K hK => ?_) AllReadyX.nil)
                    · refine step_app0 (by rfl) (.tmp 88) (.tmp 94) 22 (by rfl) w.heap.size 5 Try.underlying22 hi5 hz50 hz51 hz52 rfl (by decide) _ 0 (by rfl) (own_empty wz.drew hzs) _ fA rl fc (run.map bv) (by rfl) (hRz.grown0 hHeld).rd bv_one hx63 hxby (Nat.le_trans hzs hHeld.size) ?_
                      intro A5 c5 w5 hO5 hg5 hloc5
                      have hHeld2 := gb_own hHeld hg5 (fun g h => by simp [blk] at h; subst h; simp)
                      refine hK.out _ _ hHeld2 ?_
                      clear hK K
                      try simp only [List.getElem_toArray, List.getElem_cons_zero, List.getElem_cons_succ, Act.put, List.setIfInBounds_toArray, List.set_cons_zero, List.set_cons_succ]
                      have hA5 : ∀ g, blk A5 = some g → wz.drew.heap.size ≤ g := fun g h => by
                        show wz.heap.size ≤ g
                        rcases hloc5 with e | e
                        · rw [e] at h; simp [blk] at h; omega
                        · rw [e] at h; simp at h; omega
                      replace hHeld := hHeld2
                      refine readyX (rs := [15]) (by kernel_rfl) (by rfl) ?_
                      refine AllReadyX.cons rfl (fun K hK => ?_) AllReadyX.nil
                      go_simp
                      have hH3 := gb_alloc hHeld (.cells #[.int .u8 (fp : Int)] 5)
                      refine hK.out _ _ hH3 ?_
                      clear hK K
                      try simp only [List.getElem_toArray, List.getElem_cons_zero, List.getElem_cons_succ, Act.put, List.setIfInBounds_toArray, List.set_cons_zero, List.set_cons_succ]
                      replace hHeld := hH3
                      refine readyX (rs := [16]) (by kernel_rfl) (by rfl) ?_
                      refine AllReadyX.cons rfl (fun K hK => ?_) AllReadyX.nil
                      refine step_appN _ (by rfl) (.tmp 95) (.tmp 100) 22 (by rfl) w.heap.size 5 Try.underlying22 hi5 hz50 hz51 hz52 rfl (by decide) A5 c5 rl (run.map bv) (by rfl) (hO5.alloc _) _ _ 1 _ [bv fp] (by rfl) (rd_new _ [bv fp] 5) (hone fp) hx64 hxby2 (Nat.le_trans hzs hHeld.size) ?_
                      intro A6 c6 w6 hO6 hg6 hloc6
                      have hHeld3 := gb_own hHeld hg6 hA5
                      refine hK.out _ _ hHeld3 ?_
                      clear hK K
                      try simp only [List.getElem_toArray, List.getElem_cons_zero, List.getElem_cons_succ, Act.put, List.setIfInBounds_toArray, List.set_cons_zero, List.set_cons_succ]
                      refine ⟨?_, by kernel_rfl⟩
                      show wpAny _ _ _ _ 3 _ _ _
                      have hgz6 := gb_trans hgd hHeld3
                      have hOz6 := hOz.grown0 hgz6
                      have k94 := d94 _ hHeld3
                      have f94 := hOz6.free rfl (m * 2 + 1)
                      refine wpAny_ready (rs := [17]) (by kernel_rfl) (by simp) ?_
                      refine AllReady.cons rfl (fun K hK => ?_) AllReady.nil
                      go_simp
                      refine hK _ _ ?_
                      clear hK K
                      try simp only [List.getElem_toArray, List.getElem_cons_zero, List.getElem_cons_succ, Act.put, List.setIfInBounds_toArray, List.set_cons_zero, List.set_cons_succ]
                      refine wpAny_ready (rs := [18]) (by kernel_rfl) (by simp) ?_
                      refine AllReady.cons rfl (fun K hK => ?_) AllReady.nil
                      go_simp
                      refine hK _ _ ?_
                      clear hK K
                      try simp only [List.getElem_toArray, List.getElem_cons_zero, List.getElem_cons_succ, Act.put, List.setIfInBounds_toArray, List.set_cons_zero, List.set_cons_succ]
                      refine wpAny_ready (rs := [19]) (by kernel_rfl) (by simp) ?_
                      refine AllReady.cons rfl (fun K hK => ?_) AllReady.nil
                      go_simp
                      refine hK _ _ ?_
                      clear hK K
                      refine wpAny_done (by kernel_rfl) ?_ _
                      go_wp2_with fail
                      go_roundw
                      case rel =>
                        refine ⟨p + 1, run ++ [fp], outS, X ++ [⟨-1, run ++ [fp], A6, c6⟩], some ⟨gz, 0, none⟩, cz, by simp [hmX.out], by go_num, by omega, by have := hrlq.out; simp; omega, by simp; have := hmX.out; omega, Lib.hid ?_, Lib.hid (fun h => by simp at h), ?_, ?_, HT2, gb_new_set (p := ⟨gz, m * 2 + 1, none⟩) (gb_trans hgwz hgz6) (by have := (hOz.lt gz rfl).1; exact this)⟩
                        · rw [List.map_append, hmX2.out]
                          unfold shutS
                          rw [if_neg (by simp)]
                          rfl
                        · have h := hOz6.set (m * 2 + 1) (.slice A6 (rl + 1) c6)
                          rw [set_last X _ _ _ m hmX.out] at h
                          rw [List.length_append, List.flatMap_append, hmX.out]
                          have e : ([⟨-1, run ++ [fp], A6, c6⟩] : List Pt).flatMap ptC = [.int .i64 (-1), .slice A6 (rl + 1) c6] := by simp [ptC, hrlq.out]
                          rw [e]
                          exact h
                        · intro q hq
                          rcases List.mem_append.1 hq with hq | hq
                          · exact ((hPz.grown0 hgz6).cell26 hOz6) q hq
                          · simp at hq
                            subst hq
                            refine ⟨?_, ?_, fun k hk => by simp [blk]⟩
                            · have h := hO6.other (p := ⟨gz, m * 2 + 1, none⟩) (fun e => own_ne_own hO6 hOz6 (by decide) e rfl) (.slice A6 (rl + 1) c6)
                              have e : (run ++ [fp]).length = rl + 1 := by simp [hrlq.out]
                              have e2 : (run ++ [fp]).map bv = run.map bv ++ [bv fp] := by simp
                              show Own _ _ 5 1 A6 c6 (run ++ [fp]).length ((run ++ [fp]).map bv)
                              rw [e, e2]
                              exact h
                            · intro v hv
                              rcases List.mem_append.1 hv with hv | hv
                              · exact hrv v hv
                              · simp at hv; subst hv; exact hpb
                      case measure => first | (simp [intOf]; done) | (simp [intOf]; omega)
                    · go_simp
                      have hH2 := gb_alloc hHeld (.cells #[.int .u8 (fp : Int)] 5)
                      refine hK.out _ _ hH2 ?_
                      clear hK K
                      try simp only [List.getElem_toArray, List.getElem_cons_zero, List.getElem_cons_succ, Act.put, List.setIfInBounds_toArray, List.set_cons_zero, List.set_cons_succ]
                      replace hHeld := hH2
                      refine readyX (rs := [10]) (by kernel_rfl) (by rfl) ?_
                      refine AllReadyX.cons rfl (fun K hK => ?_) AllReadyX.nil
                      refine step_app0 (by rfl) (.tmp 88) (.tmp 94) 22 (by rfl) w.heap.size 5 Try.underlying22 hi5 hz50 hz51 hz52 rfl (by decide) _ 0 (by rfl) ((own_empty wz.drew hzs).alloc _) _ fA rl fc (run.map bv) (by rfl) (hRz.grown0 hHeld).rd bv_one hx63 hxby (Nat.le_trans hzs hHeld.size) ?_
                      intro A5 c5 w5 hO5 hg5 hloc5
                      have hHeld2 := gb_own hHeld hg5 (fun g h => by simp [blk] at h; subst h; simp)
                      refine hK.out _ _ hHeld2 ?_
                      clear hK K
                      try simp only [List.getElem_toArray, List.getElem_cons_zero, List.getElem_cons_succ, Act.put, List.setIfInBounds_toArray, List.set_cons_zero, List.set_cons_succ]
                      have hA5 : ∀ g, blk A5 = some g → wz.drew.heap.size ≤ g := fun g h => by
                        show wz.heap.size ≤ g
                        rcases hloc5 with e | e
                        · rw [e] at h; simp [blk] at h; omega
                        · rw [e] at h; simp at h; omega
                      have hR0 := rd_row (rd_new (wz.drew.alloc (.cells #[] 5)) [bv fp] 5) hg5 (by simp [blk]) (by simp)
                      have hR1 : Rd w5 (wz.heap.size + 1 + 1) 1 (some ⟨wz.heap.size + 1, 0, none⟩) 1 [bv fp] := by simpa using hR0
                      replace hHeld := hHeld2
                      refine readyX (rs := [16]) (by kernel_rfl) (by rfl) ?_
                      refine AllReadyX.cons rfl (fun K hK => ?_) AllReadyX.nil
                      refine step_appN _ (by rfl) (.tmp 95) (.tmp 100) 22 (by rfl) w.heap.size 5 Try.underlying22 hi5 hz50 hz51 hz52 rfl (by decide) A5 c5 rl (run.map bv) (by rfl) (hO5) _ _ 1 _ [bv fp] (by rfl) (hR1) (hone fp) hx64 hxby2 (Nat.le_trans hzs hHeld.size) ?_
                      intro A6 c6 w6 hO6 hg6 hloc6
                      have hHeld3 := gb_own hHeld hg6 hA5
                      refine hK.out _ _ hHeld3 ?_
                      clear hK K
                      try simp only [List.getElem_toArray, List.getElem_cons_zero, List.getElem_cons_succ, Act.put, List.setIfInBounds_toArray, List.set_cons_zero, List.set_cons_succ]
                      refine ⟨?_, by kernel_rfl⟩
                      show wpAny _ _ _ _ 3 _ _ _
                      have hgz6 := gb_trans hgd hHeld3
                      have hOz6 := hOz.grown0 hgz6
                      have k94 := d94 _ hHeld3
                      have f94 := hOz6.free rfl (m * 2 + 1)
                      refine wpAny_ready (rs := [17]) (by kernel_rfl) (by simp) ?_
                      refine AllReady.cons rfl (fun K hK => ?_) AllReady.nil
                      go_simp
                      refine hK _ _ ?_
                      clear hK K
                      try simp only [List.getElem_toArray, List.getElem_cons_zero, List.getElem_cons_succ, Act.put, List.setIfInBounds_toArray, List.set_cons_zero, List.set_cons_succ]
                      refine wpAny_ready (rs := [18]) (by kernel_rfl) (by simp) ?_
                      refine AllReady.cons rfl (fun K hK => ?_) AllReady.nil
                      go_simp
                      refine hK _ _ ?_
                      clear hK K
                      try simp only [List.getElem_toArray, List.getElem_cons_zero, List.getElem_cons_succ, Act.put, List.setIfInBounds_toArray, List.set_cons_zero, List.set_cons_succ]
                      refine wpAny_ready (rs := [19]) (by kernel_rfl) (by simp) ?_
                      refine AllReady.cons rfl (fun K hK => ?_) AllReady.nil
                      go_simp
                      refine hK _ _ ?_
                      clear hK K
                      refine wpAny_done (by kernel_rfl) ?_ _
                      go_wp2_with fail
                      go_roundw
                      case rel =>
                        refine ⟨p + 1, run ++ [fp], outS, X ++ [⟨-1, run ++ [fp], A6, c6⟩], some ⟨gz, 0, none⟩, cz, by simp [hmX.out], by go_num, by omega, by have := hrlq.out; simp; omega, by simp; have := hmX.out; omega, Lib.hid ?_, Lib.hid (fun h => by simp at h), ?_, ?_, HT2, gb_new_set (p := ⟨gz, m * 2 + 1, none⟩) (gb_trans hgwz hgz6) (by have := (hOz.lt gz rfl).1; exact this)⟩
                        · rw [List.map_append, hmX2.out]
                          unfold shutS
                          rw [if_neg (by simp)]
                          rfl
                        · have h := hOz6.set (m * 2 + 1) (.slice A6 (rl + 1) c6)
                          rw [set_last X _ _ _ m hmX.out] at h
                          rw [List.length_append, List.flatMap_append, hmX.out]
                          have e : ([⟨-1, run ++ [fp], A6, c6⟩] : List Pt).flatMap ptC = [.int .i64 (-1), .slice A6 (rl + 1) c6] := by simp [ptC, hrlq.out]
                          rw [e]
                          exact h
                        · intro q hq
                          rcases List.mem_append.1 hq with hq | hq
                          · exact ((hPz.grown0 hgz6).cell26 hOz6) q hq
                          · simp at hq
                            subst hq
                            refine ⟨?_, ?_, fun k hk => by simp [blk]⟩
                            · have h := hO6.other (p := ⟨gz, m * 2 + 1, none⟩) (fun e => own_ne_own hO6 hOz6 (by decide) e rfl) (.slice A6 (rl + 1) c6)
                              have e : (run ++ [fp]).length = rl + 1 := by simp [hrlq.out]
                              have e2 : (run ++ [fp]).map bv = run.map bv ++ [bv fp] := by simp
                              show Own _ _ 5 1 A6 c6 (run ++ [fp]).length ((run ++ [fp]).map bv)
                              rw [e, e2]
                              exact h
                            · intro v hv
                              rcases List.mem_append.1 hv with hv | hv
                              · exact hrv v hv
                              · simp at hv; subst hv; exact hpb
                      case measure => first | (simp [intOf]; done) | (simp [intOf]; omega)
                  · go_simp
                    have hH1 := gb_alloc hHeld (.cells #[.int .u8 (fp : Int)] 5)
                    refine hK.out _ _ hH1 ?_
                    clear hK K
                    try simp only [List.getElem_toArray, List.getElem_cons_zero, List.getElem_cons_succ, Act.put, List.setIfInBounds_toArray, List.set_cons_zero, List.set_cons_succ]
                    replace hHeld := hH1
                    refine readyX (rs := [3]) (by kernel_rfl) (by rfl) ?_
                    refine AllReadyX.cons rfl (fun K hK => ?_) AllReadyX.nil
                    go_simp
                    have hH2 := gb_alloc hHeld (.cells #[] 5)
                    refine hK.out _ _ hH2 ?_
                    clear hK K
                    try simp only [List.getElem_toArray, List.getElem_cons_zero, List.getElem_cons_succ, Act.put, List.setIfInBounds_toArray, List.set_cons_zero, List.set_cons_succ]
                    replace hHeld := hH2
                    refine readyX (rs := [10]) (by kernel_rfl) (by rfl) ?_
                    refine AllReadyX.cons rfl (fun K hK => ?_) AllReadyX.nil
                    have hE3 : Own ((wz.drew.alloc (.cells #[.int .u8 (fp : Int)] 5)).alloc (.cells #[] 5)) w.heap.size 5 1 (some ⟨wz.heap.size + 1, 0, none⟩) 0 0 [] := by
                      have h := own_empty (wz.drew.alloc (.cells #[.int .u8 (fp : Int)] 5)) (base := w.heap.size) (by simp; exact Nat.le_succ_of_le hzs)
                      simpa using h
                    refine step_app0 (by rfl) (.tmp 88) (.tmp 94) 22 (by rfl) w.heap.size 5 Try.underlying22 hi5 hz50 hz51 hz52 rfl (by decide) _ 0 (by rfl) (hE3) _ fA rl fc (run.map bv) (by rfl) (hRz.grown0 hHeld).rd bv_one hx63 hxby (Nat.le_trans hzs hHeld.size) ?_
                    intro A5 c5 w5 hO5 hg5 hloc5
                    have hHeld2 := gb_own hHeld hg5 (fun g h => by simp [blk] at h; subst h; simp)
                    refine hK.out _ _ hHeld2 ?_
                    clear hK K
                    try simp only [List.getElem_toArray, List.getElem_cons_zero, List.getElem_cons_succ, Act.put, List.setIfInBounds_toArray, List.set_cons_zero, List.set_cons_succ]
                    have hA5 : ∀ g, blk A5 = some g → wz.drew.heap.size ≤ g := fun g h => by
                      show wz.heap.size ≤ g
                      rcases hloc5 with e | e
                      · rw [e] at h; simp [blk] at h; omega
                      · rw [e] at h; simp at h; omega
                    have hR1 := rd_row ((rd_new wz.drew [bv fp] 5).later (gb_alloc (gb_refl _ none) (.cells #[] 5)) (by simp)) hg5 (by simp [blk]) (by simp)
                    replace hHeld := hHeld2
                    refine readyX (rs := [16]) (by kernel_rfl) (by rfl) ?_
                    refine AllReadyX.cons rfl (fun K hK => ?_) AllReadyX.nil
                    refine step_appN _ (by rfl) (.tmp 95) (.tmp 100) 22 (by rfl) w.heap.size 5 Try.underlying22 hi5 hz50 hz51 hz52 rfl (by decide) A5 c5 rl (run.map bv) (by rfl) (hO5) _ _ 1 _ [bv fp] (by rfl) (hR1) (hone fp) hx64 hxby2 (Nat.le_trans hzs hHeld.size) ?_
                    intro A6 c6 w6 hO6 hg6 hloc6
                    have hHeld3 := gb_own hHeld hg6 hA5
                    refine hK.out _ _ hHeld3 ?_
                    clear hK K
                    try simp only [List.getElem_toArray, List.getElem_cons_zero, List.getElem_cons_succ, Act.put, List.setIfInBounds_toArray, List.set_cons_zero, List.set_cons_succ]
                    refine ⟨?_, by kernel_rfl⟩
                    show wpAny _ _ _ _ 3 _ _ _
                    have hgz6 := gb_trans hgd hHeld3
                    have hOz6 := hOz.grown0 hgz6
                    have k94 := d94 _ hHeld3
                    have f94 := hOz6.free rfl (m * 2 + 1)
                    refine wpAny_ready (rs := [17]) (by kernel_rfl) (by simp) ?_
                    refine AllReady.cons rfl (fun K hK => ?_) AllReady.nil
                    go_simp
                    refine hK _ _ ?_
                    clear hK K
                    try simp only [List.getElem_toArray, List.getElem_cons_zero, List.getElem_cons_succ, Act.put, List.setIfInBounds_toArray, List.set_cons_zero, List.set_cons_succ]
                    refine wpAny_ready (rs := [18]) (by kernel_rfl) (by simp) ?_
                    refine AllReady.cons rfl (fun K hK => ?_) AllReady.nil
                    go_simp
                    refine hK _ _ ?_
                    clear hK K
                    try simp only [List.getElem_toArray, List.getElem_cons_zero, List.getElem_cons_succ, Act.put, List.setIfInBounds_toArray, List.set_cons_zero, List.set_cons_succ]
                    refine wpAny_ready (rs := [19]) (by kernel_rfl) (by simp) ?_
                    refine AllReady.cons rfl (fun K hK => ?_) AllReady.nil
                    go_simp
                    refine hK _ _ ?_
                    clear hK K
                    refine wpAny_done (by kernel_rfl) ?_ _
                    go_wp2_with fail
                    go_roundw
                    case rel =>
                      refine ⟨p + 1, run ++ [fp], outS, X ++ [⟨-1, run ++ [fp], A6, c6⟩], some ⟨gz, 0, none⟩, cz, by simp [hmX.out], by go_num, by omega, by have := hrlq.out; simp; omega, by simp; have := hmX.out; omega, Lib.hid ?_, Lib.hid (fun h => by simp at h), ?_, ?_, HT2, gb_new_set (p := ⟨gz, m * 2 + 1, none⟩) (gb_trans hgwz hgz6) (by have := (hOz.lt gz rfl).1; exact this)⟩
                      · rw [List.map_append, hmX2.out]
                        unfold shutS
                        rw [if_neg (by simp)]
                        rfl
                      · have h := hOz6.set (m * 2 + 1) (.slice A6 (rl + 1) c6)
                        rw [set_last X _ _ _ m hmX.out] at h
                        rw [List.length_append, List.flatMap_append, hmX.out]
                        have e : ([⟨-1, run ++ [fp], A6, c6⟩] : List Pt).flatMap ptC = [.int .i64 (-1), .slice A6 (rl + 1) c6] := by simp [ptC, hrlq.out]
                        rw [e]
                        exact h
                      · intro q hq
                        rcases List.mem_append.1 hq with hq | hq
                        · exact ((hPz.grown0 hgz6).cell26 hOz6) q hq
                        · simp at hq
                          subst hq
                          refine ⟨?_, ?_, fun k hk => by simp [blk]⟩
                          · have h := hO6.other (p := ⟨gz, m * 2 + 1, none⟩) (fun e => own_ne_own hO6 hOz6 (by decide) e rfl) (.slice A6 (rl + 1) c6)
                            have e : (run ++ [fp]).length = rl + 1 := by simp [hrlq.out]
                            have e2 : (run ++ [fp]).map bv = run.map bv ++ [bv fp] := by simp
                            show Own _ _ 5 1 A6 c6 (run ++ [fp]).length ((run ++ [fp]).map bv)
                            rw [e, e2]
                            exact h
                          · intro v hv
                            rcases List.mem_append.1 hv with hv | hv
                            · exact hrv v hv
                            · simp at hv; subst hv; exact hpb
                    case measure => first | (simp [intOf]; done) | (simp [intOf]; omega)
              · obtain ⟨X, t, hX⟩ : ∃ X t, out = X ++ [t] := by
                  have hne : out ≠ [] := fun h => by
                    have := hmap.out
                    rw [h] at this
                    unfold shutS at this
                    rw [if_neg hrun] at this
                    simp at this
                  exact ⟨_, _, (List.dropLast_concat_getLast hne).symm⟩
                subst hX
                have hmp : X.map prt = outS ∧ prt t = (-1, run) := by
                  have := hmap.out
                  unfold shutS at this
                  rw [if_neg hrun, List.map_append] at this
                  have h1 := List.append_inj' this rfl
                  exact ⟨h1.1, by simpa using h1.2⟩
                obtain ⟨tb, tf, fA, fc⟩ := t
                simp only [prt, Prod.mk.injEq] at hmp
                obtain ⟨hmX2, rfl, rfl⟩ := hmp
                have hlen : (X ++ [(⟨-1, tf, fA, fc⟩ : Pt)]).length = X.length + 1 := by simp
                obtain ⟨gz, rfl, hgz1, hgz2⟩ := hOo2.form (by rw [hlen]; omega)
                have hOz := hOo2
                rw [List.flatMap_append] at hOz
                rw [hlen] at hOz hotl ⊢
                have hPz : PtA wr w.heap.size X none := fun q hq => hPt2 q (List.mem_append_left _ hq)
                have hRz := (hPt2 ⟨-1, tf, fA, fc⟩ (by simp)).1
                have hrv := (hPt2 ⟨-1, tf, fA, fc⟩ (by simp)).2.1
                dsimp only at hRz hrv
                clear hOo hPt hOo2 hPt2 hlen hmap hlast
                generalize hmX : X.length = m at *
                have hml : m ≤ 2000 := by omega
                have hc0 := hOz.cell rfl (j := m * 2) (u := .int .i64 (-1)) (by omega) (by rw [List.getElem?_append_right (by rw [ptC_len, hmX]; omega), ptC_len, hmX, Nat.sub_self]; rfl)
                replace hmX := Lib.hid hmX
                replace hmX2 := Lib.hid hmX2
                replace hrun := Lib.hid hrun
                generalize hrlq : tf.length = rl at *
                replace hrlq := Lib.hid hrlq
                have hOz' : Own wr w.heap.size 26 2 (some ⟨gz, 0, none⟩) co' (m + 1) (X.flatMap ptC ++ [.int .i64 (-1), .slice fA rl fc]) := by
                  have := hOz
                  simpa [ptC, hrlq.out] using this
                clear hOz
                have hOz := hOz'
                clear hOz'
                obtain ⟨run, hrr⟩ : ∃ run, run = tf := ⟨_, rfl⟩
                subst hrr
                obtain ⟨cz, hcz⟩ : ∃ cz, cz = co' := ⟨_, rfl⟩
                subst hcz
                have hm0j : (m : Int) < (m : Int) + 1 := by omega
                have hm0k : (m : Int) ≤ 2000 := by omega
                have hcpz := hcp2
                have hgwz := hg2
                go_wp2_with fail
                obtain ⟨wz, hwz⟩ : ∃ wz, wz = wr := ⟨_, rfl⟩
                subst hwz
                have hgd := gb_drew (gb_refl wz none)
                have hHeld := gb_refl wz.drew none
                have d94 : ∀ W, wz.drew.grownBy W none → W.cell? ⟨gz, m * 2 + 1, none⟩ = some (.slice fA rl fc) := fun W h => (gb_trans hgd h).cell (hOz.cell rfl (j := m * 2 + 1) (by omega) (by rw [List.getElem?_append_right (by rw [ptC_len, hmX.out]; omega), ptC_len, hmX.out, show m * 2 + 1 - m * 2 = 1 by omega]; rfl)) (by simp)
                have d99 : ∀ W, wz.drew.grownBy W none → W.cell? ⟨fg, fo + p, none⟩ = some (.int .u8 (fp : Int)) := fun W h => (gb_trans hgd h).cell hcpz (by simp)
                have hzs : w.heap.size ≤ wz.drew.heap.size := hgwz.size
                have hx63 : rl ≤ maxLen := by simp only [maxLen]; have := hrlq.out; omega
                have hxby : rl * 1 ≤ 140737488355328 := by have := hrlq.out; omega
                have hx64 : rl + 1 ≤ maxLen := by simp only [maxLen]; have := hrlq.out; omega
                have hxby2 : (rl + 1) * 1 ≤ 140737488355328 := by have := hrlq.out; omega
                replace hRz := hRz.grown0 hgd
                have hwm : IntKind.i64.wrap (m : Int) = (m : Int) := by rw [IntKind.wrap_i64]; omega
                refine wp_region_X 17 (fun W => wz.drew.grownBy W none) (by kernel_rfl) (by decide) hHeld (fun hHeld => ?_)
                refine' takeX (i := 0) (d := 85) (v := _) rfl rfl (by kernel_rfl) (fun _ _ _ h => h) (Or.inl ⟨by rfl, ?hy0⟩) (by assumption) ?rest0
                case hy0 => (intro W hSw; (try dsimp only at hSw); go_simp; (try with_reducible rfl))
                case rest0 =>
                try simp only [Act.put, List.setIfInBounds_toArray, List.set_cons_zero, List.set_cons_succ]
                refine' takeX (i := 1) (d := 86) (v := _) rfl rfl (by kernel_rfl) (fun _ _ _ h => h) (Or.inl ⟨by rfl, ?hy1⟩) (by assumption) ?rest1
                case hy1 => (intro W hSw; (try dsimp only at hSw); go_simp; (try with_reducible rfl))
                case rest1 =>
                try simp only [Act.put, List.setIfInBounds_toArray, List.set_cons_zero, List.set_cons_succ]
                refine' takeX (i := 2) (d := 87) (v := _) rfl rfl (by kernel_rfl) (fun _ _ _ h => h) (Or.inl ⟨by rfl, ?hy2⟩) (by assumption) ?rest2
                case hy2 => (intro W hSw; (try dsimp only at hSw); go_simp; (try with_reducible rfl))
                case rest2 =>
                try simp only [Act.put, List.setIfInBounds_toArray, List.set_cons_zero, List.set_cons_succ]
                refine' takeX (i := 4) (d := 89) (v := _) rfl rfl (by kernel_rfl) (fun _ _ _ h => h) (Or.inl ⟨by rfl, ?hy4⟩) (by assumption) ?rest4
                case hy4 => (intro W hSw; (try dsimp only at hSw); go_simp; (try with_reducible rfl))
                case rest4 =>
                try simp only [Act.put, List.setIfInBounds_toArray, List.set_cons_zero, List.set_cons_succ]
                refine' takeX (i := 5) (d := 90) (v := _) rfl rfl (by kernel_rfl) (fun _ _ _ h => h) (Or.inl ⟨by rfl, ?hy5⟩) (by assumption) ?rest5
                case hy5 => (intro W hSw; (try dsimp only at hSw); go_simp; (try with_reducible rfl))
                case rest5 =>
                try simp only [Act.put, List.setIfInBounds_toArray, List.set_cons_zero, List.set_cons_succ]
                refine' takeX (i := 6) (d := 91) (v := _) rfl rfl (by kernel_rfl) (fun _ _ _ h => h) (Or.inl ⟨by rfl, ?hy6⟩) (by assumption) ?rest6
                case hy6 => (intro W hSw; (try dsimp only at hSw); go_simp; (try with_reducible rfl))
                case rest6 =>
                try simp only [Act.put, List.setIfInBounds_toArray, List.set_cons_zero, List.set_cons_succ]
                refine' takeX (i := 7) (d := 92) (v := _) rfl rfl (by kernel_rfl) (fun _ _ _ h => h) (Or.inl ⟨by rfl, ?hy7⟩) (by assumption) ?rest7
                case hy7 => (intro W hSw; (try dsimp only at hSw); go_simp; (try with_reducible rfl))
                case rest7 =>
                try simp only [Act.put, List.setIfInBounds_toArray, List.set_cons_zero, List.set_cons_succ]
                refine' takeX (i := 8) (d := 93) (v := _) rfl rfl (by kernel_rfl) (fun _ _ _ h => h) (Or.inl ⟨by rfl, ?hy8⟩) (by assumption) ?rest8
                case hy8 => (intro W hSw; (try dsimp only at hSw); go_simp; (try with_reducible rfl))
                case rest8 =>
                try simp only [Act.put, List.setIfInBounds_toArray, List.set_cons_zero, List.set_cons_succ]
                refine' takeX (i := 9) (d := 94) (v := _) rfl rfl (by kernel_rfl) (fun _ _ _ h => h) (Or.inl ⟨by rfl, ?hy9⟩) (by assumption) ?rest9
                case hy9 => (intro W hSw; (try dsimp only at hSw); go_simp; (try with_reducible rfl))
                case rest9 =>
                try simp only [Act.put, List.setIfInBounds_toArray, List.set_cons_zero, List.set_cons_succ]
                refine' takeX (i := 11) (d := 96) (v := _) rfl rfl (by kernel_rfl) (fun _ _ _ h => h) (Or.inl ⟨by rfl, ?hy11⟩) (by assumption) ?rest11
                case hy11 => (intro W hSw; (try dsimp only at hSw); go_simp; (try with_reducible rfl))
                case rest11 =>
                try simp only [Act.put, List.setIfInBounds_toArray, List.set_cons_zero, List.set_cons_succ]
                refine' takeX (i := 12) (d := 97) (v := _) rfl rfl (by kernel_rfl) (fun _ _ _ h => h) (Or.inl ⟨by rfl, ?hy12⟩) (by assumption) ?rest12
                case hy12 => (intro W hSw; (try dsimp only at hSw); go_simp; (try with_reducible rfl))
                case rest12 =>
                try simp only [Act.put, List.setIfInBounds_toArray, List.set_cons_zero, List.set_cons_succ]
                refine' takeX (i := 13) (d := 98) (v := _) rfl rfl (by kernel_rfl) (fun _ _ _ h => h) (Or.inl ⟨by rfl, ?hy13⟩) (by assumption) ?rest13
                case hy13 => (intro W hSw; (try dsimp only at hSw); go_simp; (try with_reducible rfl))
                case rest13 =>
                try simp only [Act.put, List.setIfInBounds_toArray, List.set_cons_zero, List.set_cons_succ]
                refine' takeX (i := 14) (d := 99) (v := _) rfl rfl (by kernel_rfl) (fun _ _ _ h => h) (Or.inl ⟨by rfl, ?hy14⟩) (by assumption) ?rest14
                case hy14 => (intro W hSw; (try dsimp only at hSw); go_simp; (try with_reducible rfl))
                case rest14 =>
                try simp only [Act.put, List.setIfInBounds_toArray, List.set_cons_zero, List.set_cons_succ]
                refine readyX (rs := [3, 15]) (by kernel_rfl) (by rfl) ?_
                refine AllReadyX.cons rfl (fun K hK => ?_) (AllReadyX.cons rfl (fun K hK => ?_) AllReadyX.nil)
                · go_simp
                  have hH1 := gb_alloc hHeld (.cells #[] 5)
                  refine hK.out _ _ hH1 ?_
                  clear hK K
                  try simp only [List.getElem_toArray, List.getElem_cons_zero, List.getElem_cons_succ, Act.put, List.setIfInBounds_toArray, List.set_cons_zero, List.set_cons_succ]
                  replace hHeld := hH1
                  refine readyX (rs := [10, 15]) (by kernel_rfl) (by rfl) ?_
                  refine AllReadyX.cons rfl (fun K hK => ?_) (AllReadyX.cons rfl (fun K hK => ?_) AllReadyX.nil)
                  · refine step_app0 (by rfl) (.tmp 88) (.tmp 94) 22 (by rfl) w.heap.size 5 Try.underlying22 hi5 hz50 hz51 hz52 rfl (by decide) _ 0 (by rfl) (own_empty wz.drew hzs) _ fA rl fc (run.map bv) (by rfl) (hRz.grown0 hHeld).rd bv_one hx63 hxby (Nat.le_trans hzs hHeld.size) ?_
                    intro A5 c5 w5 hO5 hg5 hloc5
                    have hHeld2 := gb_own hHeld hg5 (fun g h => by simp [blk] at h; subst h; simp)
                    refine hK.out _ _ hHeld2 ?_
                    clear hK K
                    try simp only [List.getElem_toArray, List.getElem_cons_zero, List.getElem_cons_succ, Act.put, List.setIfInBounds_toArray, List.set_cons_zero, List.set_cons_succ]
                    have hA5 : ∀ g, blk A5 = some g → wz.drew.heap.size ≤ g := fun g h => by
                      show wz.heap.size ≤ g
                      rcases hloc5 with e | e
                      · rw [e] at h; simp [blk] at h; omega
                      · rw [e] at h; simp at h; omega
                    replace hHeld := hHeld2
                    refine readyX (rs := [15]) (by kernel_rfl) (by rfl) ?_
                    refine AllReadyX.cons rfl (fun K hK => ?_) AllReadyX.nil
                    go_simp
                    have hH3 := gb_alloc hHeld (.cells #[.int .u8 (fp : Int)] 5)
                    refine hK.out _ _ hH3 ?_
                    clear hK K
                    try simp only [List.getElem_toArray, List.getElem_cons_zero, List.getElem_cons_succ, Act.put, List.setIfInBounds_toArray, List.set_cons_zero, List.set_cons_succ]
                    replace hHeld := hH3
                    refine readyX (rs := [16]) (by kernel_rfl) (by rfl) ?_
                    refine AllReadyX.cons rfl (fun K hK => ?_) AllReadyX.nil
                    refine step_appN _ (by rfl) (.tmp 95) (.tmp 100) 22 (by rfl) w.heap.size 5 Try.underlying22 hi5 hz50 hz51 hz52 rfl (by decide) A5 c5 rl (run.map bv) (by rfl) (hO5.alloc _) _ _ 1 _ [bv fp] (by rfl) (rd_new _ [bv fp] 5) (hone fp) hx64 hxby2 (Nat.le_trans hzs hHeld.size) ?_
                    intro A6 c6 w6 hO6 hg6 hloc6
                    have hHeld3 := gb_own hHeld hg6 hA5
                    refine hK.out _ _ hHeld3 ?_
                    clear hK K
                    try simp only [List.getElem_toArray, List.getElem_cons_zero, List.getElem_cons_succ, Act.put, List.setIfInBounds_toArray, List.set_cons_zero, List.set_cons_succ]
                    refine ⟨?_, by kernel_rfl⟩
                    show wpAny _ _ _ _ 3 _ _ _
                    have hgz6 := gb_trans hgd hHeld3
                    have hOz6 := hOz.grown0 hgz6
                    have k94 := d94 _ hHeld3
                    have f94 := hOz6.free rfl (m * 2 + 1)
                    refine wpAny_ready (rs := [17]) (by kernel_rfl) (by simp) ?_
                    refine AllReady.cons rfl (fun K hK => ?_) AllReady.nil
                    go_simp
                    refine hK _ _ ?_
                    clear hK K
                    try simp only [List.getElem_toArray, List.getElem_cons_zero, List.getElem_cons_succ, Act.put, List.setIfInBounds_toArray, List.set_cons_zero, List.set_cons_succ]
                    refine wpAny_ready (rs := [18]) (by kernel_rfl) (by simp) ?_
                    refine AllReady.cons rfl (fun K hK => ?_) AllReady.nil
                    go_simp
                    refine hK _ _ ?_
                    clear hK K
                    try simp only [List.getElem_toArray, List.getElem_cons_zero, List.getElem_cons_succ, Act.put, List.setIfInBounds_toArray, List.set_cons_zero, List.set_cons_succ]
                    refine wpAny_ready (rs := [19]) (by kernel_rfl) (by simp) ?_
                    refine AllReady.cons rfl (fun K hK => ?_) AllReady.nil
                    go_simp
                    refine hK _ _ ?_
                    clear hK K
                    refine wpAny_done (by kernel_rfl) ?_ _
                    go_wp2_with fail
                    go_roundw
                    case rel =>
                      refine ⟨p + 1, run ++ [fp], outS, X ++ [⟨-1, run ++ [fp], A6, c6⟩], some ⟨gz, 0, none⟩, cz, by simp [hmX.out], by go_num, by omega, by have := hrlq.out; simp; omega, by simp; have := hmX.out; omega, Lib.hid ?_, Lib.hid (fun h => by simp at h), ?_, ?_, HT2, gb_new_set (p := ⟨gz, m * 2 + 1, none⟩) (gb_trans hgwz hgz6) (by have := (hOz.lt gz rfl).1; exact this)⟩
                      · rw [List.map_append, hmX2.out]
                        unfold shutS
                        rw [if_neg (by simp)]
                        rfl
                      · have h := hOz6.set (m * 2 + 1) (.slice A6 (rl + 1) c6)
                        rw [set_last X _ _ _ m hmX.out] at h
                        rw [List.length_append, List.flatMap_append, hmX.out]
                        have e : ([⟨-1, run ++ [fp], A6, c6⟩] : List Pt).flatMap ptC = [.int .i64 (-1), .slice A6 (rl + 1) c6] := by simp [ptC, hrlq.out]
                        rw [e]
                        exact h
                      · intro q hq
                        rcases List.mem_append.1 hq with hq | hq
                        · exact ((hPz.grown0 hgz6).cell26 hOz6) q hq
                        · simp at hq
                          subst hq
                          refine ⟨?_, ?_, fun k hk => by simp [blk]⟩
                          · have h := hO6.other (p := ⟨gz, m * 2 + 1, none⟩) (fun e => own_ne_own hO6 hOz6 (by decide) e rfl) (.slice A6 (rl + 1) c6)
                            have e : (run ++ [fp]).length = rl + 1 := by simp [hrlq.out]
                            have e2 : (run ++ [fp]).map bv = run.map bv ++ [bv fp] := by simp
                            show Own _ _ 5 1 A6 c6 (run ++ [fp]).length ((run ++ [fp]).map bv)
                            rw [e, e2]
                            exact h
                          · intro v hv
                            rcases List.mem_append.1 hv with hv | hv
                            · exact hrv v hv
                            · simp at hv; subst hv; exact hpb
                    case measure => first | (simp [intOf]; done) | (simp [intOf]; omega)
                  · go_simp
                    have hH2 := gb_alloc hHeld (.cells #[.int .u8 (fp : Int)] 5)
                    refine hK.out _ _ hH2 ?_
                    clear hK K
                    try simp only [List.getElem_toArray, List.getElem_cons_zero, List.getElem_cons_succ, Act.put, List.setIfInBounds_toArray, List.set_cons_zero, List.set_cons_succ]
                    replace hHeld := hH2
                    refine readyX (rs := [10]) (by kernel_rfl) (by rfl) ?_
                    refine AllReadyX.cons rfl (fun K hK => ?_) AllReadyX.nil
                    refine step_app0 (by rfl) (.tmp 88) (.tmp 94) 22 (by rfl) w.heap.size 5 Try.underlying22 hi5 hz50 hz51 hz52 rfl (by decide) _ 0 (by rfl) ((own_empty wz.drew hzs).alloc _) _ fA rl fc (run.map bv) (by rfl) (hRz.grown0 hHeld).rd bv_one hx63 hxby (Nat.le_trans hzs hHeld.size) ?_
                    intro A5 c5 w5 hO5 hg5 hloc5
                    have hHeld2 := gb_own hHeld hg5 (fun g h => by simp [blk] at h; subst h; simp)
                    refine hK.out _ _ hHeld2 ?_
                    clear hK K
                    try simp only [List.getElem_toArray, List.getElem_cons_zero, List.getElem_cons_succ, Act.put, List.setIfInBounds_toArray, List.set_cons_zero, List.set_cons_succ]
                    have hA5 : ∀ g, blk A5 = some g → wz.drew.heap.size ≤ g := fun g h => by
                      show wz.heap.size ≤ g
                      rcases hloc5 with e | e
                      · rw [e] at h; simp [blk] at h; omega
                      · rw [e] at h; simp at h; omega
                    have hR0 := rd_row (rd_new (wz.drew.alloc (.cells #[] 5)) [bv fp] 5) hg5 (by simp [blk]) (by simp)
                    have hR1 : Rd w5 (wz.heap.size + 1 + 1) 1 (some ⟨wz.heap.size + 1, 0, none⟩) 1 [bv fp] := by simpa using hR0
                    replace hHeld := hHeld2
                    refine readyX (rs := [16]) (by kernel_rfl) (by rfl) ?_
                    refine AllReadyX.cons rfl (fun K hK => ?_) AllReadyX.nil
                    refine step_appN _ (by rfl) (.tmp 95) (.tmp 100) 22 (by rfl) w.heap.size 5 Try.underlying22 hi5 hz50 hz51 hz52 rfl (by decide) A5 c5 rl (run.map bv) (by rfl) (hO5) _ _ 1 _ [bv fp] (by rfl) (hR1) (hone fp) hx64 hxby2 (Nat.le_trans hzs hHeld.size) ?_
                    intro A6 c6 w6 hO6 hg6 hloc6
                    have hHeld3 := gb_own hHeld hg6 hA5
                    refine hK.out _ _ hHeld3 ?_
                    clear hK K
                    try simp only [List.getElem_toArray, List.getElem_cons_zero, List.getElem_cons_succ, Act.put, List.setIfInBounds_toArray, List.set_cons_zero, List.set_cons_succ]
                    refine ⟨?_, by kernel_rfl⟩
                    show wpAny _ _ _ _ 3 _ _ _
                    have hgz6 := gb_trans hgd hHeld3
                    have hOz6 := hOz.grown0 hgz6
                    have k94 := d94 _ hHeld3
                    have f94 := hOz6.free rfl (m * 2 + 1)
                    refine wpAny_ready (rs := [17]) (by kernel_rfl) (by simp) ?_
                    refine AllReady.cons rfl (fun K hK => ?_) AllReady.nil
                    go_simp
                    refine hK _ _ ?_
                    clear hK K
                    try simp only [List.getElem_toArray, List.getElem_cons_zero, List.getElem_cons_succ, Act.put, List.setIfInBounds_toArray, List.set_cons_zero, List.set_cons_succ]
                    refine wpAny_ready (rs := [18]) (by kernel_rfl) (by simp) ?_
                    refine AllReady.cons rfl (fun K hK => ?_) AllReady.nil
                    go_simp
                    refine hK _ _ ?_
                    clear hK K
                    try simp only [List.getElem_toArray, List.getElem_cons_zero, List.getElem_cons_succ, Act.put, List.setIfInBounds_toArray, List.set_cons_zero, List.set_cons_succ]
                    refine wpAny_ready (rs := [19]) (by kernel_rfl) (by simp) ?_
                    refine AllReady.cons rfl (fun K hK => ?_) AllReady.nil
                    go_simp
                    refine hK _ _ ?_
                    clear hK K
                    refine wpAny_done (by kernel_rfl) ?_ _
                    go_wp2_with fail
                    go_roundw
                    case rel =>
                      refine ⟨p + 1, run ++ [fp], outS, X ++ [⟨-1, run ++ [fp], A6, c6⟩], some ⟨gz, 0, none⟩, cz, by simp [hmX.out], by go_num, by omega, by have := hrlq.out; simp; omega, by simp; have := hmX.out; omega, Lib.hid ?_, Lib.hid (fun h => by simp at h), ?_, ?_, HT2, gb_new_set (p := ⟨gz, m * 2 + 1, none⟩) (gb_trans hgwz hgz6) (by have := (hOz.lt gz rfl).1; exact this)⟩
                      · rw [List.map_append, hmX2.out]
                        unfold shutS
                        rw [if_neg (by simp)]
                        rfl
                      · have h := hOz6.set (m * 2 + 1) (.slice A6 (rl + 1) c6)
                        rw [set_last X _ _ _ m hmX.out] at h
                        rw [List.length_append, List.flatMap_append, hmX.out]
                        have e : ([⟨-1, run ++ [fp], A6, c6⟩] : List Pt).flatMap ptC = [.int .i64 (-1), .slice A6 (rl + 1) c6] := by simp [ptC, hrlq.out]
                        rw [e]
                        exact h
                      · intro q hq
                        rcases List.mem_append.1 hq with hq | hq
                        · exact ((hPz.grown0 hgz6).cell26 hOz6) q hq
                        · simp at hq
                          subst hq
                          refine ⟨?_, ?_, fun k hk => by simp [blk]⟩
                          · have h := hO6.other (p := ⟨gz, m * 2 + 1, none⟩) (fun e => own_ne_own hO6 hOz6 (by decide) e rfl) (.slice A6 (rl + 1) c6)
                            have e : (run ++ [fp]).length = rl + 1 := by simp [hrlq.out]
                            have e2 : (run ++ [fp]).map bv = run.map bv ++ [bv fp] := by simp
                            show Own _ _ 5 1 A6 c6 (run ++ [fp]).length ((run ++ [fp]).map bv)
                            rw [e, e2]
                            exact h
                          · intro v hv
                            rcases List.mem_append.1 hv with hv | hv
                            · exact hrv v hv
                            · simp at hv; subst hv; exact hpb
                    case measure => first | (simp [intOf]; done) | (simp [intOf]; omega)
                · go_simp
                  have hH1 := gb_alloc hHeld (.cells #[.int .u8 (fp : Int)] 5)
                  refine hK.out _ _ hH1 ?_
                  clear hK K
                  try simp only [List.getElem_toArray, List.getElem_cons_zero, List.getElem_cons_succ, Act.put, List.setIfInBounds_toArray, List.set_cons_zero, List.set_cons_succ]
                  replace hHeld := hH1
                  refine readyX (rs := [3]) (by kernel_rfl) (by rfl) ?_
                  refine AllReadyX.cons rfl (fun K hK => ?_) AllReadyX.nil
                  go_simp
                  have hH2 := gb_alloc hHeld (.cells #[] 5)
                  refine hK.out _ _ hH2 ?_
                  clear hK K
                  try simp only [List.getElem_toArray, List.getElem_cons_zero, List.getElem_cons_succ, Act.put, List.setIfInBounds_toArray, List.set_cons_zero, List.set_cons_succ]
                  replace hHeld := hH2
                  refine readyX (rs := [10]) (by kernel_rfl) (by rfl) ?_
                  refine AllReadyX.cons rfl (fun K hK => ?_) AllReadyX.nil
                  have hE3 : Own ((wz.drew.alloc (.cells #[.int .u8 (fp : Int)] 5)).alloc (.cells #[] 5)) w.heap.size 5 1 (some ⟨wz.heap.size + 1, 0, none⟩) 0 0 [] := by
                    have h := own_empty (wz.drew.alloc (.cells #[.int .u8 (fp : Int)] 5)) (base := w.heap.size) (by simp; exact Nat.le_succ_of_le hzs)
                    simpa using h
                  refine step_app0 (by rfl) (.tmp 88) (.tmp 94) 22 (by rfl) w.heap.size 5 Try.underlying22 hi5 hz50 hz51 hz52 rfl (by decide) _ 0 (by rfl) (hE3) _ fA rl fc (run.map bv) (by rfl) (hRz.grown0 hHeld).rd bv_one hx63 hxby (Nat.le_trans hzs hHeld.size) ?_
                  intro A5 c5 w5 hO5 hg5 hloc5
                  have hHeld2 := gb_own hHeld hg5 (fun g h => by simp [blk] at h; subst h; simp)
                  refine hK.out _ _ hHeld2 ?_
                  clear hK K
                  try simp only [List.getElem_toArray, List.getElem_cons_zero, List.getElem_cons_succ, Act.put, List.setIfInBounds_toArray, List.set_cons_zero, List.set_cons_succ]
                  have hA5 : ∀ g, blk A5 = some g → wz.drew.heap.size ≤ g := fun g h => by
                    show wz.heap.size ≤ g
                    rcases hloc5 with e | e
                    · rw [e] at h; simp [blk] at h; omega
                    · rw [e] at h; simp at h; omega
                  have hR1 := rd_row ((rd_new wz.drew [bv fp] 5).later (gb_alloc (gb_refl _ none) (.cells #[] 5)) (by simp)) hg5 (by simp [blk]) (by simp)
                  replace hHeld := hHeld2
                  refine readyX (rs := [16]) (by kernel_rfl) (by rfl) ?_
                  refine AllReadyX.cons rfl (fun K hK => ?_) AllReadyX.nil
                  refine step_appN _ (by rfl) (.tmp 95) (.tmp 100) 22 (by rfl) w.heap.size 5 Try.underlying22 hi5 hz50 hz51 hz52 rfl (by decide) A5 c5 rl (run.map bv) (by rfl) (hO5) _ _ 1 _ [bv fp] (by rfl) (hR1) (hone fp) hx64 hxby2 (Nat.le_trans hzs hHeld.size) ?_
                  intro A6 c6 w6 hO6 hg6 hloc6
                  have hHeld3 := gb_own hHeld hg6 hA5
                  refine hK.out _ _ hHeld3 ?_
                  clear hK K
                  try simp only [List.getElem_toArray, List.getElem_cons_zero, List.getElem_cons_succ, Act.put, List.setIfInBounds_toArray, List.set_cons_zero, List.set_cons_succ]
                  refine ⟨?_, by kernel_rfl⟩
                  show wpAny _ _ _ _ 3 _ _ _
                  have hgz6 := gb_trans hgd hHeld3
                  have hOz6 := hOz.grown0 hgz6
                  have k94 := d94 _ hHeld3
                  have f94 := hOz6.free rfl (m * 2 + 1)
                  refine wpAny_ready (rs := [17]) (by kernel_rfl) (by simp) ?_
                  refine AllReady.cons rfl (fun K hK => ?_) AllReady.nil
                  go_simp
                  refine hK _ _ ?_
                  clear hK K
                  try simp only [List.getElem_toArray, List.getElem_cons_zero, List.getElem_cons_succ, Act.put, List.setIfInBounds_toArray, List.set_cons_zero, List.set_cons_succ]
                  refine wpAny_ready (rs := [18]) (by kernel_rfl) (by simp) ?_
                  refine AllReady.cons rfl (fun K hK => ?_) AllReady.nil
                  go_simp
                  refine hK _ _ ?_
                  clear hK K
                  try simp only [List.getElem_toArray, List.getElem_cons_zero, List.getElem_cons_succ, Act.put, List.setIfInBounds_toArray, List.set_cons_zero, List.set_cons_succ]
                  refine wpAny_ready (rs := [19]) (by kernel_rfl) (by simp) ?_
                  refine AllReady.cons rfl (fun K hK => ?_) AllReady.nil
                  go_simp
                  refine hK _ _ ?_
                  clear hK K
                  refine wpAny_done (by kernel_rfl) ?_ _
                  go_wp2_with fail
                  go_roundw
                  case rel =>
                    refine ⟨p + 1, run ++ [fp], outS, X ++ [⟨-1, run ++ [fp], A6, c6⟩], some ⟨gz, 0, none⟩, cz, by simp [hmX.out], by go_num, by omega, by have := hrlq.out; simp; omega, by simp; have := hmX.out; omega, Lib.hid ?_, Lib.hid (fun h => by simp at h), ?_, ?_, HT2, gb_new_set (p := ⟨gz, m * 2 + 1, none⟩) (gb_trans hgwz hgz6) (by have := (hOz.lt gz rfl).1; exact this)⟩
                    · rw [List.map_append, hmX2.out]
                      unfold shutS
                      rw [if_neg (by simp)]
                      rfl
                    · have h := hOz6.set (m * 2 + 1) (.slice A6 (rl + 1) c6)
                      rw [set_last X _ _ _ m hmX.out] at h
                      rw [List.length_append, List.flatMap_append, hmX.out]
                      have e : ([⟨-1, run ++ [fp], A6, c6⟩] : List Pt).flatMap ptC = [.int .i64 (-1), .slice A6 (rl + 1) c6] := by simp [ptC, hrlq.out]
                      rw [e]
                      exact h
                    · intro q hq
                      rcases List.mem_append.1 hq with hq | hq
                      · exact ((hPz.grown0 hgz6).cell26 hOz6) q hq
                      · simp at hq
                        subst hq
                        refine ⟨?_, ?_, fun k hk => by simp [blk]⟩
                        · have h := hO6.other (p := ⟨gz, m * 2 + 1, none⟩) (fun e => own_ne_own hO6 hOz6 (by decide) e rfl) (.slice A6 (rl + 1) c6)
                          have e : (run ++ [fp]).length = rl + 1 := by simp [hrlq.out]
                          have e2 : (run ++ [fp]).map bv = run.map bv ++ [bv fp] := by simp
                          show Own _ _ 5 1 A6 c6 (run ++ [fp]).length ((run ++ [fp]).map bv)
                          rw [e, e2]
                          exact h
                        · intro v hv
                          rcases List.mem_append.1 hv with hv | hv
                          · exact hrv v hv
                          · simp at hv; subst hv; exact hpb
                  case measure => first | (simp [intOf]; done) | (simp [intOf]; omega)
            · have h2i : (p : Int) + (size : Int) ≤ (fresh.length : Int) := by omega
              have h2c : (p : Int) + (size : Int) ≤ (cf : Int) := by omega
              have h2d : (z : Int) + (size : Int) ≤ (co : Int) := by omega
              have hsc1 : fi = scan old hr i (nb - i) := by
                rcases hsc with h | h
                · exact absurd h h2
                · exact h
              have hre := hrl2 h2
              rw [show nb - i = (nb - (i + 1)) + 1 by omega] at hsc1
              obtain ⟨og, oo, rfl, hog, hoc⟩ := rd_byte hO (show 0 < old.length by omega)
              have hpart := rd_part hO z size hle
              have hbe : (old.drop z).take size = blkOf old size i := by unfold blkOf; rw [hz]
              rw [hbe] at hpart
              have hbl : (blkOf old size i).length = size := blkOf_len old size i (by rw [hm1]; exact hle)
              have hv1 := fun n => conv_any (co - z) (hpart.later (gb_drewN (row := none) hg2 n) hB) hbl
              have hv2 := fun n => conv_any (cf - p) ((hhd h2).later (gb_drewN (row := none) hg2 n) hB) hre
              have hblt := blk_lt hbo size i
              have hsy := @scan_yes old hr i (nb - (i + 1))
              have hsn := @scan_no old hr i (nb - (i + 1))
              rw [hre] at hsy hsn
              replace hz := Lib.hid hz
              replace hre := Lib.hid hre
              replace hbl := Lib.hid hbl
              clear hm1 hbe hpart hoc hsc hcp2 hOo2 hPt2
              by_cases hb : blkOf old size i = hr
              · rw [hb] at hv1
                have HE := Lib.hid (hsc1.trans (hsy hb))
                clear hb hblt hsy hsn hsc1 hbl
                go_wp2
                go_quiet (fail)
                go_wp2
                go_roundw
                case rel => exact ⟨i + 1, (i : Int), rfl, by go_num, by omega, Lib.hid (.inr ⟨by omega, HE.out.symm, h2⟩), by omega, gb_drewN hgi _⟩
                case measure =>
                  have h0 : ¬ ((i : Int) < 0) := by omega
                  simp [intOf, h0]
                  omega
              · have HE := Lib.hid (hsc1.trans (hsn hb))
                have hne := beq_strB hblt hrb hb
                clear hb hblt hsy hsn hsc1 hbl
                go_wp2
                go_quiet (fail)
                go_wp2
                go_roundw
                case rel => exact ⟨i + 1, -1, rfl, by go_num, by omega, Lib.hid (.inl ⟨rfl, .inr (by rw [HE.out])⟩), by omega, gb_drewN hgi _⟩
                case measure => first | (simp [intOf]; done) | (simp [intOf]; omega)
          · have hin2 : i = nb := by omega
            have hnle : ¬ ((i + 1) * size ≤ old.length) := fun h => hil ((hnbi.out i).2 h)
            have hi2 : ((i : Int) + 1) * (size : Int) = (((i + 1) * size : Nat) : Int) := by push_cast; rfl
            have hi4 : (i + 1) * size ≤ 1000000000 := Nat.le_trans (Nat.mul_le_mul (show i + 1 ≤ 1001 by omega) hs4) (by decide)
            generalize (i + 1) * size = z at *
            have hi3 : ¬ ((z : Int) ≤ (old.length : Int)) := by omega
            have HT2 := Lib.hid (HT.out.trans (hbyt.out (by
              rcases hsc with h | h
              · exact .inl h
              · right
                rw [h, hin2, Nat.sub_self, scan_end]
                decide)))
            replace hin2 := Lib.hid hin2
            clear hil hin hnle hsc
            by_cases hrun : run = []
            · subst hrun
              have hmp : out.map prt = outS := hmap.out
              have hl0 := hlast.out rfl
              have hor : ((out.length : Int) == 0) = true ∨ (((out.length : Int) == 0) = false ∧ ∃ m tb, out.length = m + 1 ∧ 0 ≤ tb ∧ ∃ gz, Ao = some ⟨gz, 0, none⟩ ∧ wr.cell? ⟨gz, m * 2, none⟩ = some (.int .i64 tb)) := by
                by_cases h0 : out = []
                · left; subst h0; rfl
                · right
                  obtain ⟨X, t, rfl⟩ : ∃ X t, out = X ++ [t] := ⟨_, _, (List.dropLast_concat_getLast h0).symm⟩
                  refine ⟨by first | (simp; done) | (simp; omega), X.length, t.b, by simp, ?_, ?_⟩
                  · rw [← hmp] at hl0
                    exact hl0 (prt t) (by simp)
                  · obtain ⟨gz, hA, _, _⟩ := hOo2.form (by simp)
                    refine ⟨gz, hA, hOo2.cell hA (j := X.length * 2) (by rw [List.length_append, List.length_singleton]; omega) ?_⟩
                    rw [List.flatMap_append, List.getElem?_append_right (by rw [ptC_len]; omega), ptC_len, Nat.sub_self]
                    rfl
              have hXl := Lib.hid (show out.length = out.length from rfl)
              have hone26 := ptC_one ⟨-1, [], none, 0⟩
              have hby : (out.length + 1) * 32 ≤ 140737488355328 := by omega
              have hol2 : (out.length : Int) ≤ 2000 := by omega
              replace hmp := Lib.hid hmp
              clear hl0
              rcases hor with h0 | ⟨h0, m0, tb, hm0, htb, gz0, hA0, hc0⟩
              · go_wp2_with (
                  at_builtin
                  refine wpList_app1 wr rfl (.tmp 79) (.tmp 81) 23 rfl w.heap.size 26 Try.underlying23 hi26 hz260 hz261 hz262 rfl (by decide) _ co' out.length (out.flatMap ptC) rfl hOo2 (ptC ⟨-1, [], none, 0⟩) 26 1 (by rfl) rfl hone26 hby (by decide) hgs2 ?_
                  intro gz cz wz hO6 hgr6 hloc6 hbg6 hlt6)
                have hgwz := gb_own hg2 hgr6 (fun g h => (hOo2.lt g h).1)
                have hPz := hPt2.out26 hOo2 hgr6
                have hcpz := hgwz.cell hcpw.out (by simp)
                obtain ⟨X, hXX⟩ : ∃ X, X = out := ⟨_, rfl⟩
                obtain ⟨fA, fc, rl, run, hOz, hRz, hrlq, hrv, hrl', HT2, hmX2⟩ : ∃ (fA : Option Addr) (fc rl : Nat) (run : List Nat), Own wz w.heap.size 26 2 (some ⟨gz, 0, none⟩) cz (out.length + 1) (X.flatMap ptC ++ [.int .i64 (-1), .slice fA rl fc]) ∧ Own wz w.heap.size 5 1 fA fc rl (run.map bv) ∧ Hid (run.length = rl) ∧ (∀ v ∈ run, v < 256) ∧ rl ≤ p ∧ Hid (target = diffT old fresh size (p + 1) (run ++ [fp]) outS) ∧ Hid (X.map prt = outS) :=
                  ⟨none, 0, 0, [], by rw [hXX]; exact hO6, Own.nil _ _ _ _, Lib.hid rfl, fun v hv => by simp at hv, Nat.zero_le _, HT2, Lib.hid (by rw [hXX]; exact hmp.out)⟩
                rw [← hXX] at hPz
                have hmX := Lib.hid (congrArg List.length hXX)
                clear hXX hO6 hgr6 hOo2 hPt2 hmp hone26 hby hXl hmap hlast h0 hOo hPt 
                generalize out.length = m at *
                have hm0j : (m : Int) < (m : Int) + 1 := by omega
                have hm0k : (m : Int) ≤ 2000 := by omega
                have hgd := gb_drew (gb_refl wz none)
                have hHeld := gb_refl wz.drew none
                have d94 : ∀ W, wz.drew.grownBy W none → W.cell? ⟨gz, m * 2 + 1, none⟩ = some (.slice fA rl fc) := fun W h => (gb_trans hgd h).cell (hOz.cell rfl (j := m * 2 + 1) (by omega) (by rw [List.getElem?_append_right (by rw [ptC_len, hmX.out]; omega), ptC_len, hmX.out, show m * 2 + 1 - m * 2 = 1 by omega]; rfl)) (by simp)
                have d99 : ∀ W, wz.drew.grownBy W none → W.cell? ⟨fg, fo + p, none⟩ = some (.int .u8 (fp : Int)) := fun W h => (gb_trans hgd h).cell hcpz (by simp)
                have hzs : w.heap.size ≤ wz.drew.heap.size := hgwz.size
                have hx63 : rl ≤ maxLen := by simp only [maxLen]; have := hrlq.out; omega
                have hxby : rl * 1 ≤ 140737488355328 := by have := hrlq.out; omega
                have hx64 : rl + 1 ≤ maxLen := by simp only [maxLen]; have := hrlq.out; omega
                have hxby2 : (rl + 1) * 1 ≤ 140737488355328 := by have := hrlq.out; omega
                replace hRz := hRz.grown0 hgd
                have hwm : IntKind.i64.wrap (m : Int) = (m : Int) := by rw [IntKind.wrap_i64]; omega
                refine wp_region_X 17 (fun W => wz.drew.grownBy W none) (by kernel_rfl) (by decide) hHeld (fun hHeld => ?_)
                refine' takeX (i := 0) (d := 85) (v := _) rfl rfl (by kernel_rfl) (fun _ _ _ h => h) (Or.inl ⟨by rfl, ?hy0⟩) (by assumption) ?rest0
                case hy0 => (intro W hSw; (try dsimp only at hSw); go_simp; (try with_reducible rfl))
                case rest0 =>
                try simp only [Act.put, List.setIfInBounds_toArray, List.set_cons_zero, List.set_cons_succ]
                refine' takeX (i := 1) (d := 86) (v := _) rfl rfl (by kernel_rfl) (fun _ _ _ h => h) (Or.inl ⟨by rfl, ?hy1⟩) (by assumption) ?rest1
                case hy1 => (intro W hSw; (try dsimp only at hSw); go_simp; (try with_reducible rfl))
                case rest1 =>
                try simp only [Act.put, List.setIfInBounds_toArray, List.set_cons_zero, List.set_cons_succ]
                refine' takeX (i := 2) (d := 87) (v := _) rfl rfl (by kernel_rfl) (fun _ _ _ h => h) (Or.inl ⟨by rfl, ?hy2⟩) (by assumption) ?rest2
                case hy2 => (intro W hSw; (try dsimp only at hSw); go_simp; (try with_reducible rfl))
                case rest2 =>
                try simp only [Act.put, List.setIfInBounds_toArray, List.set_cons_zero, List.set_cons_succ]
                refine' takeX (i := 4) (d := 89) (v := _) rfl rfl (by kernel_rfl) (fun _ _ _ h => h) (Or.inl ⟨by rfl, ?hy4⟩) (by assumption) ?rest4
                case hy4 => (intro W hSw; (try dsimp only at hSw); go_simp; (try with_reducible rfl))
                case rest4 =>
                try simp only [Act.put, List.setIfInBounds_toArray, List.set_cons_zero, List.set_cons_succ]
                refine' takeX (i := 5) (d := 90) (v := _) rfl rfl (by kernel_rfl) (fun _ _ _ h => h) (Or.inl ⟨by rfl, ?hy5⟩) (by assumption) ?rest5
                case hy5 => (intro W hSw; (try dsimp only at hSw); go_simp; (try with_reducible rfl))
                case rest5 =>
                try simp only [Act.put, List.setIfInBounds_toArray, List.set_cons_zero, List.set_cons_succ]
                refine' takeX (i := 6) (d := 91) (v := _) rfl rfl (by kernel_rfl) (fun _ _ _ h => h) (Or.inl ⟨by rfl, ?hy6⟩) (by assumption) ?rest6
                case hy6 => (intro W hSw; (try dsimp only at hSw); go_simp; (try with_reducible rfl))
                case rest6 =>
                try simp only [Act.put, List.setIfInBounds_toArray, List.set_cons_zero, List.set_cons_succ]
                refine' takeX (i := 7) (d := 92) (v := _) rfl rfl (by kernel_rfl) (fun _ _ _ h => h) (Or.inl ⟨by rfl, ?hy7⟩) (by assumption) ?rest7
                case hy7 => (intro W hSw; (try dsimp only at hSw); go_simp; (try with_reducible rfl))
                case rest7 =>
                try simp only [Act.put, List.setIfInBounds_toArray, List.set_cons_zero, List.set_cons_succ]
                refine' takeX (i := 8) (d := 93) (v := _) rfl rfl (by kernel_rfl) (fun _ _ _ h => h) (Or.inl ⟨by rfl, ?hy8⟩) (by assumption) ?rest8
                case hy8 => (intro W hSw; (try dsimp only at hSw); go_simp; (try with_reducible rfl))
                case rest8 =>
                try simp only [Act.put, List.setIfInBounds_toArray, List.set_cons_zero, List.set_cons_succ]
                refine' takeX (i := 9) (d := 94) (v := _) rfl rfl (by kernel_rfl) (fun _ _ _ h => h) (Or.inl ⟨by rfl, ?hy9⟩) (by assumption) ?rest9
                case hy9 => (intro W hSw; (try dsimp only at hSw); go_simp; (try with_reducible rfl))
                case rest9 =>
                try simp only [Act.put, List.setIfInBounds_toArray, List.set_cons_zero, List.set_cons_succ]
                refine' takeX (i := 11) (d := 96) (v := _) rfl rfl (by kernel_rfl) (fun _ _ _ h => h) (Or.inl ⟨by rfl, ?hy11⟩) (by assumption) ?rest11
                case hy11 => (intro W hSw; (try dsimp only at hSw); go_simp; (try with_reducible rfl))
                case rest11 =>
                try simp only [Act.put, List.setIfInBounds_toArray, List.set_cons_zero, List.set_cons_succ]
                refine' takeX (i := 12) (d := 97) (v := _) rfl rfl (by kernel_rfl) (fun _ _ _ h => h) (Or.inl ⟨by rfl, ?hy12⟩) (by assumption) ?rest12
                case hy12 => (intro W hSw; (try dsimp only at hSw); go_simp; (try with_reducible rfl))
                case rest12 =>
                try simp only [Act.put, List.setIfInBounds_toArray, List.set_cons_zero, List.set_cons_succ]
                refine' takeX (i := 13) (d := 98) (v := _) rfl rfl (by kernel_rfl) (fun _ _ _ h => h) (Or.inl ⟨by rfl, ?hy13⟩) (by assumption) ?rest13
                case hy13 => (intro W hSw; (try dsimp only at hSw); go_simp; (try with_reducible rfl))
                case rest13 =>
                try simp only [Act.put, List.setIfInBounds_toArray, List.set_cons_zero, List.set_cons_succ]
                refine' takeX (i := 14) (d := 99) (v := _) rfl rfl (by kernel_rfl) (fun _ _ _ h => h) (Or.inl ⟨by rfl, ?hy14⟩) (by assumption) ?rest14
                case hy14 => (intro W hSw; (try dsimp only at hSw); go_simp; (try with_reducible rfl))
                case rest14 =>
                try simp only [Act.put, List.setIfInBounds_toArray, List.set_cons_zero, List.set_cons_succ]
                refine readyX (rs := [3, 15]) (by kernel_rfl) (by rfl) ?_
                refine AllReadyX.cons rfl (fun K hK => ?_) (AllReadyX.cons rfl (fun K hK => ?_) AllReadyX.nil)
                · go_simp
                  have hH1 := gb_alloc hHeld (.cells #[] 5)
                  refine hK.out _ _ hH1 ?_
                  clear hK K
                  try simp only [List.getElem_toArray, List.getElem_cons_zero, List.getElem_cons_succ, Act.put, List.setIfInBounds_toArray, List.set_cons_zero, List.set_cons_succ]
                  replace hHeld := hH1
                  refine readyX (rs := [10, 15]) (by kernel_rfl) (by rfl) ?_
                  refine AllReadyX.cons rfl (fun K hK => ?_) (AllReadyX.cons rfl (fun K hK => ?_) AllReadyX.nil)
                  · refine step_app0 (by rfl) (.tmp 88) (.tmp 94) 22 (by rfl) w.heap.size 5 Try.underlying22 hi5 hz50 hz51 hz52 rfl (by decide) _ 0 (by rfl) (own_empty wz.drew hzs) _ fA rl fc (run.map bv) (by rfl) (hRz.grown0 hHeld).rd bv_one hx63 hxby (Nat.le_trans hzs hHeld.size) ?_
                    intro A5 c5 w5 hO5 hg5 hloc5
                    have hHeld2 := gb_own hHeld hg5 (fun g h => by simp [blk] at h; subst h; simp)
                    refine hK.out _ _ hHeld2 ?_
                    clear hK K
                    try simp only [List.getElem_toArray, List.getElem_cons_zero, List.getElem_cons_succ, Act.put, List.setIfInBounds_toArray, List.set_cons_zero, List.set_cons_succ]
                    have hA5 : ∀ g, blk A5 = some g → wz.drew.heap.size ≤ g := fun g h => by
                      show wz.heap.size ≤ g
                      rcases hloc5 with e | e
                      · rw [e] at h; simp [blk] at h; omega
                      · rw [e] at h; simp at h; omega
                    replace hHeld := hHeld2
                    refine readyX (rs := [15]) (by kernel_rfl) (by rfl) ?_
                    refine AllReadyX.cons rfl (fun K hK => ?_) AllReadyX.nil
                    go_simp
                    have hH3 := gb_alloc hHeld (.cells #[.int .u8 (fp : Int)] 5)
                    refine hK.out _ _ hH3 ?_
                    clear hK K
                    try simp only [List.getElem_toArray, List.getElem_cons_zero, List.getElem_cons_succ, Act.put, List.setIfInBounds_toArray, List.set_cons_zero, List.set_cons_succ]
                    replace hHeld := hH3
                    refine readyX (rs := [16]) (by kernel_rfl) (by rfl) ?_
                    refine AllReadyX.cons rfl (fun K hK => ?_) AllReadyX.nil
                    refine step_appN _ (by rfl) (.tmp 95) (.tmp 100) 22 (by rfl) w.heap.size 5 Try.underlying22 hi5 hz50 hz51 hz52 rfl (by decide) A5 c5 rl (run.map bv) (by rfl) (hO5.alloc _) _ _ 1 _ [bv fp] (by rfl) (rd_new _ [bv fp] 5) (hone fp) hx64 hxby2 (Nat.le_trans hzs hHeld.size) ?_
                    intro A6 c6 w6 hO6 hg6 hloc6
                    have hHeld3 := gb_own hHeld hg6 hA5
                    refine hK.out _ _ hHeld3 ?_
                    clear hK K
                    try simp only [List.getElem_toArray, List.getElem_cons_zero, List.getElem_cons_succ, Act.put, List.setIfInBounds_toArray, List.set_cons_zero, List.set_cons_succ]
                    refine ⟨?_, by kernel_rfl⟩
                    show wpAny _ _ _ _ 3 _ _ _
                    have hgz6 := gb_trans hgd hHeld3
                    have hOz6 := hOz.grown0 hgz6
                    have k94 := d94 _ hHeld3
                    have f94 := hOz6.free rfl (m * 2 + 1)
                    refine wpAny_ready (rs := [17]) (by kernel_rfl) (by simp) ?_
                    refine AllReady.cons rfl (fun K hK => ?_) AllReady.nil
                    go_simp
                    refine hK _ _ ?_
                    clear hK K
                    try simp only [List.getElem_toArray, List.getElem_cons_zero, List.getElem_cons_succ, Act.put, List.setIfInBounds_toArray, List.set_cons_zero, List.set_cons_succ]
                    refine wpAny_ready (rs := [18]) (by kernel_rfl) (by simp) ?_
                    refine AllReady.cons rfl (fun K hK => ?_) AllReady.nil
                    go_simp
                    refine hK _ _ ?_
                    clear hK K
                    try simp only [List.getElem_toArray, List.getElem_cons_zero, List.getElem_cons_succ, Act.put, List.setIfInBounds_toArray, List.set_cons_zero, List.set_cons_succ]
                    refine wpAny_ready (rs := [19]) (by kernel_rfl) (by simp) ?_
                    refine AllReady.cons rfl (fun K hK => ?_) AllReady.nil
                    go_simp
                    refine hK _ _ ?_
                    clear hK K
                    refine wpAny_done (by kernel_rfl) ?_ _
                    go_wp2_with fail
                    go_roundw
                    case rel =>
                      refine ⟨p + 1, run ++ [fp], outS, X ++ [⟨-1, run ++ [fp], A6, c6⟩], some ⟨gz, 0, none⟩, cz, by simp [hmX.out], by go_num, by omega, by have := hrlq.out; simp; omega, by simp; have := hmX.out; omega, Lib.hid ?_, Lib.hid (fun h => by simp at h), ?_, ?_, HT2, gb_new_set (p := ⟨gz, m * 2 + 1, none⟩) (gb_trans hgwz hgz6) (by have := (hOz.lt gz rfl).1; exact this)⟩
                      · rw [List.map_append, hmX2.out]
                        unfold shutS
                        rw [if_neg (by simp)]
                        rfl
                      · have h := hOz6.set (m * 2 + 1) (.slice A6 (rl + 1) c6)
                        rw [set_last X _ _ _ m hmX.out] at h
                        rw [List.length_append, List.flatMap_append, hmX.out]
                        have e : ([⟨-1, run ++ [fp], A6, c6⟩] : List Pt).flatMap ptC = [.int .i64 (-1), .slice A6 (rl + 1) c6] := by simp [ptC, hrlq.out]
                        rw [e]
                        exact h
                      · intro q hq
                        rcases List.mem_append.1 hq with hq | hq
                        · exact ((hPz.grown0 hgz6).cell26 hOz6) q hq
                        · simp at hq
                          subst hq
                          refine ⟨?_, ?_, fun k hk => by simp [blk]⟩
                          · have h := hO6.other (p := ⟨gz, m * 2 + 1, none⟩) (fun e => own_ne_own hO6 hOz6 (by decide) e rfl) (.slice A6 (rl + 1) c6)
                            have e : (run ++ [fp]).length = rl + 1 := by simp [hrlq.out]
                            have e2 : (run ++ [fp]).map bv = run.map bv ++ [bv fp] := by simp
                            show Own _ _ 5 1 A6 c6 (run ++ [fp]).length ((run ++ [fp]).map bv)
                            rw [e, e2]
                            exact h
                          · intro v hv
                            rcases List.mem_append.1 hv with hv | hv
                            · exact hrv v hv
                            · simp at hv; subst hv; exact hpb
                    case measure => first | (simp [intOf]; done) | (simp [intOf]; omega)
                  · go_simp
                    have hH2 := gb_alloc hHeld (.cells #[.int .u8 (fp : Int)] 5)
                    refine hK.out _ _ hH2 ?_
                    clear hK K
                    try simp only [List.getElem_toArray, List.getElem_cons_zero, List.getElem_cons_succ, Act.put, List.setIfInBounds_toArray, List.set_cons_zero, List.set_cons_succ]
                    replace hHeld := hH2
                    refine readyX (rs := [10]) (by kernel_rfl) (by rfl) ?_
                    refine AllReadyX.cons rfl (fun K hK => ?_) AllReadyX.nil
                    refine step_app0 (by rfl) (.tmp 88) (.tmp 94) 22 (by rfl) w.heap.size 5 Try.underlying22 hi5 hz50 hz51 hz52 rfl (by decide) _ 0 (by rfl) ((own_empty wz.drew hzs).alloc _) _ fA rl fc (run.map bv) (by rfl) (hRz.grown0 hHeld).rd bv_one hx63 hxby (Nat.le_trans hzs hHeld.size) ?_
                    intro A5 c5 w5 hO5 hg5 hloc5
                    have hHeld2 := gb_own hHeld hg5 (fun g h => by simp [blk] at h; subst h; simp)
                    refine hK.out _ _ hHeld2 ?_
                    clear hK K
                    try simp only [List.getElem_toArray, List.getElem_cons_zero, List.getElem_cons_succ, Act.put, List.setIfInBounds_toArray, List.set_cons_zero, List.set_cons_succ]
                    have hA5 : ∀ g, blk A5 = some g → wz.drew.heap.size ≤ g := fun g h => by
                      show wz.heap.size ≤ g
                      rcases hloc5 with e | e
                      · rw [e] at h; simp [blk] at h; omega
                      · rw [e] at h; simp at h; omega
                    have hR0 := rd_row (rd_new (wz.drew.alloc (.cells #[] 5)) [bv fp] 5) hg5 (by simp [blk]) (by simp)
                    have hR1 : Rd w5 (wz.heap.size + 1 + 1) 1 (some ⟨wz.heap.size + 1, 0, none⟩) 1 [bv fp] := by simpa using hR0
                    replace hHeld := hHeld2
                    refine readyX (rs := [16]) (by kernel_rfl) (by rfl) ?_
                    refine AllReadyX.cons rfl (fun K hK => ?_) AllReadyX.nil
                    refine step_appN _ (by rfl) (.tmp 95) (.tmp 100) 22 (by rfl) w.heap.size 5 Try.underlying22 hi5 hz50 hz51 hz52 rfl (by decide) A5 c5 rl (run.map bv) (by rfl) (hO5) _ _ 1 _ [bv fp] (by rfl) (hR1) (hone fp) hx64 hxby2 (Nat.le_trans hzs hHeld.size) ?_
                    intro A6 c6 w6 hO6 hg6 hloc6
                    have hHeld3 := gb_own hHeld hg6 hA5
                    refine hK.out _ _ hHeld3 ?_
                    clear hK K
                    try simp only [List.getElem_toArray, List.getElem_cons_zero, List.getElem_cons_succ, Act.put, List.setIfInBounds_toArray, List.set_cons_zero, List.set_cons_succ]
                    refine ⟨?_, by kernel_rfl⟩
                    show wpAny _ _ _ _ 3 _ _ _
                    have hgz6 := gb_trans hgd hHeld3
                    have hOz6 := hOz.grown0 hgz6
                    have k94 := d94 _ hHeld3
                    have f94 := hOz6.free rfl (m * 2 + 1)
                    refine wpAny_ready (rs := [17]) (by kernel_rfl) (by simp) ?_
                    refine AllReady.cons rfl (fun K hK => ?_) AllReady.nil
                    go_simp
                    refine hK _ _ ?_
                    clear hK K
                    try simp only [List.getElem_toArray, List.getElem_cons_zero, List.getElem_cons_succ, Act.put, List.setIfInBounds_toArray, List.set_cons_zero, List.set_cons_succ]
                    refine wpAny_ready (rs := [18]) (by kernel_rfl) (by simp) ?_
                    refine AllReady.cons rfl (fun K hK => ?_) AllReady.nil
                    go_simp
                    refine hK _ _ ?_
                    clear hK K
                    try simp only [List.getElem_toArray, List.getElem_cons_zero, List.getElem_cons_succ, Act.put, List.setIfInBounds_toArray, List.set_cons_zero, List.set_cons_succ]
                    refine wpAny_ready (rs := [19]) (by kernel_rfl) (by simp) ?_
                    refine AllReady.cons rfl (fun K hK => ?_) AllReady.nil
                    go_simp
                    refine hK _ _ ?_
                    clear hK K
                    refine wpAny_done (by kernel_rfl) ?_ _
                    go_wp2_with fail
                    go_roundw
                    case rel =>
                      refine ⟨p + 1, run ++ [fp], outS, X ++ [⟨-1, run ++ [fp], A6, c6⟩], some ⟨gz, 0, none⟩, cz, by simp [hmX.out], by go_num, by omega, by have := hrlq.out; simp; omega, by simp; have := hmX.out; omega, Lib.hid ?_, Lib.hid (fun h => by simp at h), ?_, ?_, HT2, gb_new_set (p := ⟨gz, m * 2 + 1, none⟩) (gb_trans hgwz hgz6) (by have := (hOz.lt gz rfl).1; exact this)⟩
                      · rw [List.map_append, hmX2.out]
                        unfold shutS
                        rw [if_neg (by simp)]
                        rfl
                      · have h := hOz6.set (m * 2 + 1) (.slice A6 (rl + 1) c6)
                        rw [set_last X _ _ _ m hmX.out] at h
                        rw [List.length_append, List.flatMap_append, hmX.out]
                        have e : ([⟨-1, run ++ [fp], A6, c6⟩] : List Pt).flatMap ptC = [.int .i64 (-1), .slice A6 (rl + 1) c6] := by simp [ptC, hrlq.out]
                        rw [e]
                        exact h
                      · intro q hq
                        rcases List.mem_append.1 hq with hq | hq
                        · exact ((hPz.grown0 hgz6).cell26 hOz6) q hq
                        · simp at hq
                          subst hq
                          refine ⟨?_, ?_, fun k hk => by simp [blk]⟩
                          · have h := hO6.other (p := ⟨gz, m * 2 + 1, none⟩) (fun e => own_ne_own hO6 hOz6 (by decide) e rfl) (.slice A6 (rl + 1) c6)
                            have e : (run ++ [fp]).length = rl + 1 := by simp [hrlq.out]
                            have e2 : (run ++ [fp]).map bv = run.map bv ++ [bv fp] := by simp
                            show Own _ _ 5 1 A6 c6 (run ++ [fp]).length ((run ++ [fp]).map bv)
                            rw [e, e2]
                            exact h
                          · intro v hv
                            rcases List.mem_append.1 hv with hv | hv
                            · exact hrv v hv
                            · simp at hv; subst hv; exact hpb
                    case measure => first | (simp [intOf]; done) | (simp [intOf]; omega)
                · go_simp
                  have hH1 := gb_alloc hHeld (.cells #[.int .u8 (fp : Int)] 5)
                  refine hK.out _ _ hH1 ?_
                  clear hK K
                  try simp only [List.getElem_toArray, List.getElem_cons_zero, List.getElem_cons_succ, Act.put, List.setIfInBounds_toArray, List.set_cons_zero, List.set_cons_succ]
                  replace hHeld := hH1
                  refine readyX (rs := [3]) (by kernel_rfl) (by rfl) ?_
                  refine AllReadyX.cons rfl (fun K hK => ?_) AllReadyX.nil
                  go_simp
                  have hH2 := gb_alloc hHeld (.cells #[] 5)
                  refine hK.out _ _ hH2 ?_
                  clear hK K
                  try simp only [List.getElem_toArray, List.getElem_cons_zero, List.getElem_cons_succ, Act.put, List.setIfInBounds_toArray, List.set_cons_zero, List.set_cons_succ]
                  replace hHeld := hH2
                  refine readyX (rs := [10]) (by kernel_rfl) (by rfl) ?_
                  refine AllReadyX.cons rfl (fun K hK => ?_) AllReadyX.nil
                  have hE3 : Own ((wz.drew.alloc (.cells #[.int .u8 (fp : Int)] 5)).alloc (.cells #[] 5)) w.heap.size 5 1 (some ⟨wz.heap.size + 1, 0, none⟩) 0 0 [] := by
                    have h := own_empty (wz.drew.alloc (.cells #[.int .u8 (fp : Int)] 5)) (base := w.heap.size) (by simp; exact Nat.le_succ_of_le hzs)
                    simpa using h
                  refine step_app0 (by rfl) (.tmp 88) (.tmp 94) 22 (by rfl) w.heap.size 5 Try.underlying22 hi5 hz50 hz51 hz52 rfl (by decide) _ 0 (by rfl) (hE3) _ fA rl fc (run.map bv) (by rfl) (hRz.grown0 hHeld).rd bv_one hx63 hxby (Nat.le_trans hzs hHeld.size) ?_
                  intro A5 c5 w5 hO5 hg5 hloc5
                  have hHeld2 := gb_own hHeld hg5 (fun g h => by simp [blk] at h; subst h; simp)
                  refine hK.out _ _ hHeld2 ?_
                  clear hK K
                  try simp only [List.getElem_toArray, List.getElem_cons_zero, List.getElem_cons_succ, Act.put, List.setIfInBounds_toArray, List.set_cons_zero, List.set_cons_succ]
                  have hA5 : ∀ g, blk A5 = some g → wz.drew.heap.size ≤ g := fun g h => by
                    show wz.heap.size ≤ g
                    rcases hloc5 with e | e
                    · rw [e] at h; simp [blk] at h; omega
                    · rw [e] at h; simp at h; omega
                  have hR1 := rd_row ((rd_new wz.drew [bv fp] 5).later (gb_alloc (gb_refl _ none) (.cells #[] 5)) (by simp)) hg5 (by simp [blk]) (by simp)
                  replace hHeld := hHeld2
                  refine readyX (rs := [16]) (by kernel_rfl) (by rfl) ?_
                  refine AllReadyX.cons rfl (fun K hK => ?_) AllReadyX.nil
                  refine step_appN _ (by rfl) (.tmp 95) (.tmp 100) 22 (by rfl) w.heap.size 5 Try.underlying22 hi5 hz50 hz51 hz52 rfl (by decide) A5 c5 rl (run.map bv) (by rfl) (hO5) _ _ 1 _ [bv fp] (by rfl) (hR1) (hone fp) hx64 hxby2 (Nat.le_trans hzs hHeld.size) ?_
                  intro A6 c6 w6 hO6 hg6 hloc6
                  have hHeld3 := gb_own hHeld hg6 hA5
                  refine hK.out _ _ hHeld3 ?_
                  clear hK K
                  try simp only [List.getElem_toArray, List.getElem_cons_zero, List.getElem_cons_succ, Act.put, List.setIfInBounds_toArray, List.set_cons_zero, List.set_cons_succ]
                  refine ⟨?_, by kernel_rfl⟩
                  show wpAny _ _ _ _ 3 _ _ _
                  have hgz6 := gb_trans hgd hHeld3
                  have hOz6 := hOz.grown0 hgz6
                  have k94 := d94 _ hHeld3
                  have f94 := hOz6.free rfl (m * 2 + 1)
                  refine wpAny_ready (rs := [17]) (by kernel_rfl) (by simp) ?_
                  refine AllReady.cons rfl (fun K hK => ?_) AllReady.nil
                  go_simp
                  refine hK _ _ ?_
                  clear hK K
                  try simp only [List.getElem_toArray, List.getElem_cons_zero, List.getElem_cons_succ, Act.put, List.setIfInBounds_toArray, List.set_cons_zero, List.set_cons_succ]
                  refine wpAny_ready (rs := [18]) (by kernel_rfl) (by simp) ?_
                  refine AllReady.cons rfl (fun K hK => ?_) AllReady.nil
                  go_simp
                  refine hK _ _ ?_
                  clear hK K
                  try simp only [List.getElem_toArray, List.getElem_cons_zero, List.getElem_cons_succ, Act.put, List.setIfInBounds_toArray, List.set_cons_zero, List.set_cons_succ]
                  refine wpAny_ready (rs := [19]) (by kernel_rfl) (by simp) ?_
                  refine AllReady.cons rfl (fun K hK => ?_) AllReady.nil
                  go_simp
                  refine hK _ _ ?_
                  clear hK K
                  refine wpAny_done (by kernel_rfl) ?_ _
                  go_wp2_with fail
                  go_roundw
                  case rel =>
                    refine ⟨p + 1, run ++ [fp], outS, X ++ [⟨-1, run ++ [fp], A6, c6⟩], some ⟨gz, 0, none⟩, cz, by simp [hmX.out], by go_num, by omega, by have := hrlq.out; simp; omega, by simp; have := hmX.out; omega, Lib.hid ?_, Lib.hid (fun h => by simp at h), ?_, ?_, HT2, gb_new_set (p := ⟨gz, m * 2 + 1, none⟩) (gb_trans hgwz hgz6) (by have := (hOz.lt gz rfl).1; exact this)⟩
                    · rw [List.map_append, hmX2.out]
                      unfold shutS
                      rw [if_neg (by simp)]
                      rfl
                    · have h := hOz6.set (m * 2 + 1) (.slice A6 (rl + 1) c6)
                      rw [set_last X _ _ _ m hmX.out] at h
                      rw [List.length_append, List.flatMap_append, hmX.out]
                      have e : ([⟨-1, run ++ [fp], A6, c6⟩] : List Pt).flatMap ptC = [.int .i64 (-1), .slice A6 (rl + 1) c6] := by simp [ptC, hrlq.out]
                      rw [e]
                      exact h
                    · intro q hq
                      rcases List.mem_append.1 hq with hq | hq
                      · exact ((hPz.grown0 hgz6).cell26 hOz6) q hq
                      · simp at hq
                        subst hq
                        refine ⟨?_, ?_, fun k hk => by simp [blk]⟩
                        · have h := hO6.other (p := ⟨gz, m * 2 + 1, none⟩) (fun e => own_ne_own hO6 hOz6 (by decide) e rfl) (.slice A6 (rl + 1) c6)
                          have e : (run ++ [fp]).length = rl + 1 := by simp [hrlq.out]
                          have e2 : (run ++ [fp]).map bv = run.map bv ++ [bv fp] := by simp
                          show Own _ _ 5 1 A6 c6 (run ++ [fp]).length ((run ++ [fp]).map bv)
                          rw [e, e2]
                          exact h
                        · intro v hv
                          rcases List.mem_append.1 hv with hv | hv
                          · exact hrv v hv
                          · simp at hv; subst hv; exact hpb
                  case measure => first | (simp [intOf]; done) | (simp [intOf]; omega)
              · subst hA0
                have hm0i : (out.length : Int) - 1 = (m0 : Int) := by omega
                have hm0j : (m0 : Int) < (out.length : Int) := by omega
                have hm0k : (m0 : Int) ≤ 2000 := by omega
                replace hm0 := Lib.hid hm0
                go_wp2_with (
                  at_builtin
                  refine wpList_app1 wr rfl (.tmp 79) (.tmp 81) 23 rfl w.heap.size 26 Try.underlying23 hi26 hz260 hz261 hz262 rfl (by decide) _ co' out.length (out.flatMap ptC) rfl hOo2 (ptC ⟨-1, [], none, 0⟩) 26 1 (by rfl) rfl hone26 hby (by decide) hgs2 ?_
                  intro gz cz wz hO6 hgr6 hloc6 hbg6 hlt6)
                have hgwz := gb_own hg2 hgr6 (fun g h => (hOo2.lt g h).1)
                have hPz := hPt2.out26 hOo2 hgr6
                have hcpz := hgwz.cell hcpw.out (by simp)
                obtain ⟨X, hXX⟩ : ∃ X, X = out := ⟨_, rfl⟩
                obtain ⟨fA, fc, rl, run, hOz, hRz, hrlq, hrv, hrl', HT2, hmX2⟩ : ∃ (fA : Option Addr) (fc rl : Nat) (run : List Nat), Own wz w.heap.size 26 2 (some ⟨gz, 0, none⟩) cz (out.length + 1) (X.flatMap ptC ++ [.int .i64 (-1), .slice fA rl fc]) ∧ Own wz w.heap.size 5 1 fA fc rl (run.map bv) ∧ Hid (run.length = rl) ∧ (∀ v ∈ run, v < 256) ∧ rl ≤ p ∧ Hid (target = diffT old fresh size (p + 1) (run ++ [fp]) outS) ∧ Hid (X.map prt = outS) :=
                  ⟨none, 0, 0, [], by rw [hXX]; exact hO6, Own.nil _ _ _ _, Lib.hid rfl, fun v hv => by simp at hv, Nat.zero_le _, HT2, Lib.hid (by rw [hXX]; exact hmp.out)⟩
                rw [← hXX] at hPz
                have hmX := Lib.hid (congrArg List.length hXX)
                clear hXX hO6 hgr6 hOo2 hPt2 hmp hone26 hby hXl hmap hlast h0 hOo hPt hm0i hm0j hm0k hc0 htb
                generalize out.length = m at *
                have hm0j : (m : Int) < (m : Int) + 1 := by omega
                have hm0k : (m : Int) ≤ 2000 := by omega
                have hgd := gb_drew (gb_refl wz none)
                have hHeld := gb_refl wz.drew none
                have d94 : ∀ W, wz.drew.grownBy W none → W.cell? ⟨gz, m * 2 + 1, none⟩ = some (.slice fA rl fc) := fun W h => (gb_trans hgd h).cell (hOz.cell rfl (j := m * 2 + 1) (by omega) (by rw [List.getElem?_append_right (by rw [ptC_len, hmX.out]; omega), ptC_len, hmX.out, show m * 2 + 1 - m * 2 = 1 by omega]; rfl)) (by simp)
                have d99 : ∀ W, wz.drew.grownBy W none → W.cell? ⟨fg, fo + p, none⟩ = some (.int .u8 (fp : Int)) := fun W h => (gb_trans hgd h).cell hcpz (by simp)
                have hzs : w.heap.size ≤ wz.drew.heap.size := hgwz.size
                have hx63 : rl ≤ maxLen := by simp only [maxLen]; have := hrlq.out; omega
                have hxby : rl * 1 ≤ 140737488355328 := by have := hrlq.out; omega
                have hx64 : rl + 1 ≤ maxLen := by simp only [maxLen]; have := hrlq.out; omega
                have hxby2 : (rl + 1) * 1 ≤ 140737488355328 := by have := hrlq.out; omega
                replace hRz := hRz.grown0 hgd
                have hwm : IntKind.i64.wrap (m : Int) = (m : Int) := by rw [IntKind.wrap_i64]; omega
                refine wp_region_X 17 (fun W => wz.drew.grownBy W none) (by kernel_rfl) (by decide) hHeld (fun hHeld => ?_)
                refine' takeX (i := 0) (d := 85) (v := _) rfl rfl (by kernel_rfl) (fun _ _ _ h => h) (Or.inl ⟨by rfl, ?hy0⟩) (by assumption) ?rest0
                case hy0 => (intro W hSw; (try dsimp only at hSw); go_simp; (try with_reducible rfl))
                case rest0 =>
                try simp only [Act.put, List.setIfInBounds_toArray, List.set_cons_zero, List.set_cons_succ]
                refine' takeX (i := 1) (d := 86) (v := _) rfl rfl (by kernel_rfl) (fun _ _ _ h => h) (Or.inl ⟨by rfl, ?hy1⟩) (by assumption) ?rest1
                case hy1 => (intro W hSw; (try dsimp only at hSw); go_simp; (try with_reducible rfl))
                case rest1 =>
                try simp only [Act.put, List.setIfInBounds_toArray, List.set_cons_zero, List.set_cons_succ]
                refine' takeX (i := 2) (d := 87) (v := _) rfl rfl (by kernel_rfl) (fun _ _ _ h => h) (Or.inl ⟨by rfl, ?hy2⟩) (by assumption) ?rest2
                case hy2 => (intro W hSw; (try dsimp only at hSw); go_simp; (try with_reducible rfl))
                case rest2 =>
                try simp only [Act.put, List.setIfInBounds_toArray, List.set_cons_zero, List.set_cons_succ]
                refine' takeX (i := 4) (d := 89) (v := _) rfl rfl (by kernel_rfl) (fun _ _ _ h => h) (Or.inl ⟨by rfl, ?hy4⟩) (by assumption) ?rest4
                case hy4 => (intro W hSw; (try dsimp only at hSw); go_simp; (try with_reducible rfl))
                case rest4 =>
                try simp only [Act.put, List.setIfInBounds_toArray, List.set_cons_zero, List.set_cons_succ]
                refine' takeX (i := 5) (d := 90) (v := _) rfl rfl (by kernel_rfl) (fun _ _ _ h => h) (Or.inl ⟨by rfl, ?hy5⟩) (by assumption) ?rest5
                case hy5 => (intro W hSw; (try dsimp only at hSw); go_simp; (try with_reducible rfl))
                case rest5 =>
                try simp only [Act.put, List.setIfInBounds_toArray, List.set_cons_zero, List.set_cons_succ]
                refine' takeX (i := 6) (d := 91) (v := _) rfl rfl (by kernel_rfl) (fun _ _ _ h => h) (Or.inl ⟨by rfl, ?hy6⟩) (by assumption) ?rest6
                case hy6 => (intro W hSw; (try dsimp only at hSw); go_simp; (try with_reducible rfl))
                case rest6 =>
                try simp only [Act.put, List.setIfInBounds_toArray, List.set_cons_zero, List.set_cons_succ]
                refine' takeX (i := 7) (d := 92) (v := _) rfl rfl (by kernel_rfl) (fun _ _ _ h => h) (Or.inl ⟨by rfl, ?hy7⟩) (by assumption) ?rest7
                case hy7 => (intro W hSw; (try dsimp only at hSw); go_simp; (try with_reducible rfl))
                case rest7 =>
                try simp only [Act.put, List.setIfInBounds_toArray, List.set_cons_zero, List.set_cons_succ]
                refine' takeX (i := 8) (d := 93) (v := _) rfl rfl (by kernel_rfl) (fun _ _ _ h => h) (Or.inl ⟨by rfl, ?hy8⟩) (by assumption) ?rest8
                case hy8 => (intro W hSw; (try dsimp only at hSw); go_simp; (try with_reducible rfl))
                case rest8 =>
                try simp only [Act.put, List.setIfInBounds_toArray, List.set_cons_zero, List.set_cons_succ]
                refine' takeX (i := 9) (d := 94) (v := _) rfl rfl (by kernel_rfl) (fun _ _ _ h => h) (Or.inl ⟨by rfl, ?hy9⟩) (by assumption) ?rest9
                case hy9 => (intro W hSw; (try dsimp only at hSw); go_simp; (try with_reducible rfl))
                case rest9 =>
                try simp only [Act.put, List.setIfInBounds_toArray, List.set_cons_zero, List.set_cons_succ]
                refine' takeX (i := 11) (d := 96) (v := _) rfl rfl (by kernel_rfl) (fun _ _ _ h => h) (Or.inl ⟨by rfl, ?hy11⟩) (by assumption) ?rest11
                case hy11 => (intro W hSw; (try dsimp only at hSw); go_simp; (try with_reducible rfl))
                case rest11 =>
                try simp only [Act.put, List.setIfInBounds_toArray, List.set_cons_zero, List.set_cons_succ]
                refine' takeX (i := 12) (d := 97) (v := _) rfl rfl (by kernel_rfl) (fun _ _ _ h => h) (Or.inl ⟨by rfl, ?hy12⟩) (by assumption) ?rest12
                case hy12 => (intro W hSw; (try dsimp only at hSw); go_simp; (try with_reducible rfl))
                case rest12 =>
                try simp only [Act.put, List.setIfInBounds_toArray, List.set_cons_zero, List.set_cons_succ]
                refine' takeX (i := 13) (d := 98) (v := _) rfl rfl (by kernel_rfl) (fun _ _ _ h => h) (Or.inl ⟨by rfl, ?hy13⟩) (by assumption) ?rest13
                case hy13 => (intro W hSw; (try dsimp only at hSw); go_simp; (try with_reducible rfl))
                case rest13 =>
                try simp only [Act.put, List.setIfInBounds_toArray, List.set_cons_zero, List.set_cons_succ]
                refine' takeX (i := 14) (d := 99) (v := _) rfl rfl (by kernel_rfl) (fun _ _ _ h => h) (Or.inl ⟨by rfl, ?hy14⟩) (by assumption) ?rest14
                case hy14 => (intro W hSw; (try dsimp only at hSw); go_simp; (try with_reducible rfl))
                case rest14 =>
                try simp only [Act.put, List.setIfInBounds_toArray, List.set_cons_zero, List.set_cons_succ]
                refine readyX (rs := [3, 15]) (by kernel_rfl) (by rfl) ?_
                refine AllReadyX.cons rfl (fun K hK => ?_) (AllReadyX.cons rfl (fun K hK => ?_) AllReadyX.nil)
                · go_simp
                  have hH1 := gb_alloc hHeld (.cells #[] 5)
                  refine hK.out _ _ hH1 ?_
                  clear hK K
                  try simp only [List.getElem_toArray, List.getElem_cons_zero, List.getElem_cons_succ, Act.put, List.setIfInBounds_toArray, List.set_cons_zero, List.set_cons_succ]
                  replace hHeld := hH1
                  refine readyX (rs := [10, 15]) (by kernel_rfl) (by rfl) ?_
                  refine AllReadyX.cons rfl (fun K hK => ?_) (AllReadyX.cons rfl (fun K hK => ?_) AllReadyX.nil)
                  · refine step_app0 (by rfl) (.tmp 88) (.tmp 94) 22 (by rfl) w.heap.size 5 Try.underlying22 hi5 hz50 hz51 hz52 rfl (by decide) _ 0 (by rfl) (own_empty wz.drew hzs) _ fA rl fc (run.map bv) (by rfl) (hRz.grown0 hHeld).rd bv_one hx63 hxby (Nat.le_trans hzs hHeld.size) ?_
                    intro A5 c5 w5 hO5 hg5 hloc5
                    have hHeld2 := gb_own hHeld hg5 (fun g h => by simp [blk] at h; subst h; simp)
                    refine hK.out _ _ hHeld2 ?_
                    clear hK K
                    try simp only [List.getElem_toArray, List.getElem_cons_zero, List.getElem_cons_succ, Act.put, List.setIfInBounds_toArray, List.set_cons_zero, List.set_cons_succ]
                    have hA5 : ∀ g, blk A5 = some g → wz.drew.heap.size ≤ g := fun g h => by
                      show wz.heap.size ≤ g
                      rcases hloc5 with e | e
                      · rw [e] at h; simp [blk] at h; omega
                      · rw [e] at h; simp at h; omega
                    replace hHeld := hHeld2
                    refine readyX (rs := [15]) (by kernel_rfl) (by rfl) ?_
                    refine AllReadyX.cons rfl (fun K hK => ?_) AllReadyX.nil
                    go_simp
                    have hH3 := gb_alloc hHeld (.cells #[.int .u8 (fp : Int)] 5)
                    refine hK.out _ _ hH3 ?_
                    clear hK K
                    try simp only [List.getElem_toArray, List.getElem_cons_zero, List.getElem_cons_succ, Act.put, List.setIfInBounds_toArray, List.set_cons_zero, List.set_cons_succ]
                    replace hHeld := hH3
                    refine readyX (rs := [16]) (by kernel_rfl) (by rfl) ?_
                    refine AllReadyX.cons rfl (fun K hK => ?_) AllReadyX.nil
                    refine step_appN _ (by rfl) (.tmp 95) (.tmp 100) 22 (by rfl) w.heap.size 5 Try.underlying22 hi5 hz50 hz51 hz52 rfl (by decide) A5 c5 rl (run.map bv) (by rfl) (hO5.alloc _) _ _ 1 _ [bv fp] (by rfl) (rd_new _ [bv fp] 5) (hone fp) hx64 hxby2 (Nat.le_trans hzs hHeld.size) ?_
                    intro A6 c6 w6 hO6 hg6 hloc6
                    have hHeld3 := gb_own hHeld hg6 hA5
                    refine hK.out _ _ hHeld3 ?_
                    clear hK K
                    try simp only [List.getElem_toArray, List.getElem_cons_zero, List.getElem_cons_succ, Act.put, List.setIfInBounds_toArray, List.set_cons_zero, List.set_cons_succ]
                    refine ⟨?_, by kernel_rfl⟩
                    show wpAny _ _ _ _ 3 _ _ _
                    have hgz6 := gb_trans hgd hHeld3
                    have hOz6 := hOz.grown0 hgz6
                    have k94 := d94 _ hHeld3
                    have f94 := hOz6.free rfl (m * 2 + 1)
                    refine wpAny_ready (rs := [17]) (by kernel_rfl) (by simp) ?_
                    refine AllReady.cons rfl (fun K hK => ?_) AllReady.nil
                    go_simp
                    refine hK _ _ ?_
                    clear hK K
                    try simp only [List.getElem_toArray, List.getElem_cons_zero, List.getElem_cons_succ, Act.put, List.setIfInBounds_toArray, List.set_cons_zero, List.set_cons_succ]
                    refine wpAny_ready (rs := [18]) (by kernel_rfl) (by simp) ?_
                    refine AllReady.cons rfl (fun K hK => ?_) AllReady.nil
                    go_simp
                    refine hK _ _ ?_
                    clear hK K
                    try simp only [List.getElem_toArray, List.getElem_cons_zero, List.getElem_cons_succ, Act.put, List.setIfInBounds_toArray, List.set_cons_zero, List.set_cons_succ]
                    refine wpAny_ready (rs := [19]) (by kernel_rfl) (by simp) ?_
                    refine AllReady.cons rfl (fun K hK => ?_) AllReady.nil
                    go_simp
                    refine hK _ _ ?_
                    clear hK K
                    refine wpAny_done (by kernel_rfl) ?_ _
                    go_wp2_with fail
                    go_roundw
                    case rel =>
                      refine ⟨p + 1, run ++ [fp], outS, X ++ [⟨-1, run ++ [fp], A6, c6⟩], some ⟨gz, 0, none⟩, cz, by simp [hmX.out], by go_num, by omega, by have := hrlq.out; simp; omega, by simp; have := hmX.out; omega, Lib.hid ?_, Lib.hid (fun h => by simp at h), ?_, ?_, HT2, gb_new_set (p := ⟨gz, m * 2 + 1, none⟩) (gb_trans hgwz hgz6) (by have := (hOz.lt gz rfl).1; exact this)⟩
                      · rw [List.map_append, hmX2.out]
                        unfold shutS
                        rw [if_neg (by simp)]
                        rfl
                      · have h := hOz6.set (m * 2 + 1) (.slice A6 (rl + 1) c6)
                        rw [set_last X _ _ _ m hmX.out] at h
                        rw [List.length_append, List.flatMap_append, hmX.out]
                        have e : ([⟨-1, run ++ [fp], A6, c6⟩] : List Pt).flatMap ptC = [.int .i64 (-1), .slice A6 (rl + 1) c6] := by simp [ptC, hrlq.out]
                        rw [e]
                        exact h
                      · intro q hq
                        rcases List.mem_append.1 hq with hq | hq
                        · exact ((hPz.grown0 hgz6).cell26 hOz6) q hq
                        · simp at hq
                          subst hq
                          refine ⟨?_, ?_, fun k hk => by simp [blk]⟩
                          · have h := hO6.other (p := ⟨gz, m * 2 + 1, none⟩) (fun e => own_ne_own hO6 hOz6 (by decide) e rfl) (.slice A6 (rl + 1) c6)
                            have e : (run ++ [fp]).length = rl + 1 := by simp [hrlq.out]
                            have e2 : (run ++ [fp]).map bv = run.map bv ++ [bv fp] := by simp
                            show Own _ _ 5 1 A6 c6 (run ++ [fp]).length ((run ++ [fp]).map bv)
                            rw [e, e2]
                            exact h
                          · intro v hv
                            rcases List.mem_append.1 hv with hv | hv
                            · exact hrv v hv
                            · simp at hv; subst hv; exact hpb
                    case measure => first | (simp [intOf]; done) | (simp [intOf]; omega)
                  · go_simp
                    have hH2 := gb_alloc hHeld (.cells #[.int .u8 (fp : Int)] 5)
                    refine hK.out _ _ hH2 ?_
                    clear hK K
                    try simp only [List.getElem_toArray, List.getElem_cons_zero, List.getElem_cons_succ, Act.put, List.setIfInBounds_toArray, List.set_cons_zero, List.set_cons_succ]
                    replace hHeld := hH2
                    refine readyX (rs := [10]) (by kernel_rfl) (by rfl) ?_
                    refine AllReadyX.cons rfl (fun K hK => ?_) AllReadyX.nil
                    refine step_app0 (by rfl) (.tmp 88) (.tmp 94) 22 (by rfl) w.heap.size 5 Try.underlying22 hi5 hz50 hz51 hz52 rfl (by decide) _ 0 (by rfl) ((own_empty wz.drew hzs).alloc _) _ fA rl fc (run.map bv) (by rfl) (hRz.grown0 hHeld).rd bv_one hx63 hxby (Nat.le_trans hzs hHeld.size) ?_
                    intro A5 c5 w5 hO5 hg5 hloc5
                    have hHeld2 := gb_own hHeld hg5 (fun g h => by simp [blk] at h; subst h; simp)
                    refine hK.out _ _ hHeld2 ?_
                    clear hK K
                    try simp only [List.getElem_toArray, List.getElem_cons_zero, List.getElem_cons_succ, Act.put, List.setIfInBounds_toArray, List.set_cons_zero, List.set_cons_succ]
                    have hA5 : ∀ g, blk A5 = some g → wz.drew.heap.size ≤ g := fun g h => by
                      show wz.heap.size ≤ g
                      rcases hloc5 with e | e
                      · rw [e] at h; simp [blk] at h; omega
                      · rw [e] at h; simp at h; omega
                    have hR0 := rd_row (rd_new (wz.drew.alloc (.cells #[] 5)) [bv fp] 5) hg5 (by simp [blk]) (by simp)
                    have hR1 : Rd w5 (wz.heap.size + 1 + 1) 1 (some ⟨wz.heap.size + 1, 0, none⟩) 1 [bv fp] := by simpa using hR0
                    replace hHeld := hHeld2
                    refine readyX (rs := [16]) (by kernel_rfl) (by rfl) ?_
                    refine AllReadyX.cons rfl (fun K hK => ?_) AllReadyX.nil
                    refine step_appN _ (by rfl) (.tmp 95) (.tmp 100) 22 (by rfl) w.heap.size 5 Try.underlying22 hi5 hz50 hz51 hz52 rfl (by decide) A5 c5 rl (run.map bv) (by rfl) (hO5) _ _ 1 _ [bv fp] (by rfl) (hR1) (hone fp) hx64 hxby2 (Nat.le_trans hzs hHeld.size) ?_
                    intro A6 c6 w6 hO6 hg6 hloc6
                    have hHeld3 := gb_own hHeld hg6 hA5
                    refine hK.out _ _ hHeld3 ?_
                    clear hK K
                    try simp only [List.getElem_toArray, List.getElem_cons_zero, List.getElem_cons_succ, Act.put, List.setIfInBounds_toArray, List.set_cons_zero, List.set_cons_succ]
                    refine ⟨?_, by kernel_rfl⟩
                    show wpAny _ _ _ _ 3 _ _ _
                    have hgz6 := gb_trans hgd hHeld3
                    have hOz6 := hOz.grown0 hgz6
                    have k94 := d94 _ hHeld3
                    have f94 := hOz6.free rfl (m * 2 + 1)
                    refine wpAny_ready (rs := [17]) (by kernel_rfl) (by simp) ?_
                    refine AllReady.cons rfl (fun K hK => ?_) AllReady.nil
                    go_simp
                    refine hK _ _ ?_
                    clear hK K
                    try simp only [List.getElem_toArray, List.getElem_cons_zero, List.getElem_cons_succ, Act.put, List.setIfInBounds_toArray, List.set_cons_zero, List.set_cons_succ]
                    refine wpAny_ready (rs := [18]) (by kernel_rfl) (by simp) ?_
                    refine AllReady.cons rfl (fun K hK => ?_) AllReady.nil
                    go_simp
                    refine hK _ _ ?_
                    clear hK K
                    try simp only [List.getElem_toArray, List.getElem_cons_zero, List.getElem_cons_succ, Act.put, List.setIfInBounds_toArray, List.set_cons_zero, List.set_cons_succ]
                    refine wpAny_ready (rs := [19]) (by kernel_rfl) (by simp) ?_
                    refine AllReady.cons rfl (fun K hK => ?_) AllReady.nil
                    go_simp
                    refine hK _ _ ?_
                    clear hK K
                    refine wpAny_done (by kernel_rfl) ?_ _
                    go_wp2_with fail
                    go_roundw
                    case rel =>
                      refine ⟨p + 1, run ++ [fp], outS, X ++ [⟨-1, run ++ [fp], A6, c6⟩], some ⟨gz, 0, none⟩, cz, by simp [hmX.out], by go_num, by omega, by have := hrlq.out; simp; omega, by simp; have := hmX.out; omega, Lib.hid ?_, Lib.hid (fun h => by simp at h), ?_, ?_, HT2, gb_new_set (p := ⟨gz, m * 2 + 1, none⟩) (gb_trans hgwz hgz6) (by have := (hOz.lt gz rfl).1; exact this)⟩
                      · rw [List.map_append, hmX2.out]
                        unfold shutS
                        rw [if_neg (by simp)]
                        rfl
                      · have h := hOz6.set (m * 2 + 1) (.slice A6 (rl + 1) c6)
                        rw [set_last X _ _ _ m hmX.out] at h
                        rw [List.length_append, List.flatMap_append, hmX.out]
                        have e : ([⟨-1, run ++ [fp], A6, c6⟩] : List Pt).flatMap ptC = [.int .i64 (-1), .slice A6 (rl + 1) c6] := by simp [ptC, hrlq.out]
                        rw [e]
                        exact h
                      · intro q hq
                        rcases List.mem_append.1 hq with hq | hq
                        · exact ((hPz.grown0 hgz6).cell26 hOz6) q hq
                        · simp at hq
                          subst hq
                          refine ⟨?_, ?_, fun k hk => by simp [blk]⟩
                          · have h := hO6.other (p := ⟨gz, m * 2 + 1, none⟩) (fun e => own_ne_own hO6 hOz6 (by decide) e rfl) (.slice A6 (rl + 1) c6)
                            have e : (run ++ [fp]).length = rl + 1 := by simp [hrlq.out]
                            have e2 : (run ++ [fp]).map bv = run.map bv ++ [bv fp] := by simp
                            show Own _ _ 5 1 A6 c6 (run ++ [fp]).length ((run ++ [fp]).map bv)
                            rw [e, e2]
                            exact h
                          · intro v hv
                            rcases List.mem_append.1 hv with hv | hv
                            · exact hrv v hv
                            · simp at hv; subst hv; exact hpb
                    case measure => first | (simp [intOf]; done) | (simp [intOf]; omega)
                · go_simp
                  have hH1 := gb_alloc hHeld (.cells #[.int .u8 (fp : Int)] 5)
                  refine hK.out _ _ hH1 ?_
                  clear hK K
                  try simp only [List.getElem_toArray, List.getElem_cons_zero, List.getElem_cons_succ, Act.put, List.setIfInBounds_toArray, List.set_cons_zero, List.set_cons_succ]
                  replace hHeld := hH1
                  refine readyX (rs := [3]) (by kernel_rfl) (by rfl) ?_
                  refine AllReadyX.cons rfl (fun K hK => ?_) AllReadyX.nil
                  go_simp
                  have hH2 := gb_alloc hHeld (.cells #[] 5)
                  refine hK.out _ _ hH2 ?_
                  clear hK K
                  try simp only [List.getElem_toArray, List.getElem_cons_zero, List.getElem_cons_succ, Act.put, List.setIfInBounds_toArray, List.set_cons_zero, List.set_cons_succ]
                  replace hHeld := hH2
                  refine readyX (rs := [10]) (by kernel_rfl) (by rfl) ?_
                  refine AllReadyX.cons rfl (fun K hK => ?_) AllReadyX.nil
                  have hE3 : Own ((wz.drew.alloc (.cells #[.int .u8 (fp : Int)] 5)).alloc (.cells #[] 5)) w.heap.size 5 1 (some ⟨wz.heap.size + 1, 0, none⟩) 0 0 [] := by
                    have h := own_empty (wz.drew.alloc (.cells #[.int .u8 (fp : Int)] 5)) (base := w.heap.size) (by simp; exact Nat.le_succ_of_le hzs)
                    simpa using h
                  refine step_app0 (by rfl) (.tmp 88) (.tmp 94) 22 (by rfl) w.heap.size 5 Try.underlying22 hi5 hz50 hz51 hz52 rfl (by decide) _ 0 (by rfl) (hE3) _ fA rl fc (run.map bv) (by rfl) (hRz.grown0 hHeld).rd bv_one hx63 hxby (Nat.le_trans hzs hHeld.size) ?_
                  intro A5 c5 w5 hO5 hg5 hloc5
                  have hHeld2 := gb_own hHeld hg5 (fun g h => by simp [blk] at h; subst h; simp)
                  refine hK.out _ _ hHeld2 ?_
                  clear hK K
                  try simp only [List.getElem_toArray, List.getElem_cons_zero, List.getElem_cons_succ, Act.put, List.setIfInBounds_toArray, List.set_cons_zero, List.set_cons_succ]
                  have hA5 : ∀ g, blk A5 = some g → wz.drew.heap.size ≤ g := fun g h => by
                    show wz.heap.size ≤ g
                    rcases hloc5 with e | e
                    · rw [e] at h; simp [blk] at h; omega
                    · rw [e] at h; simp at h; omega
                  have hR1 := rd_row ((rd_new wz.drew [bv fp] 5).later (gb_alloc (gb_refl _ none) (.cells #[] 5)) (by simp)) hg5 (by simp [blk]) (by simp)
                  replace hHeld := hHeld2
                  refine readyX (rs := [16]) (by kernel_rfl) (by rfl) ?_
                  refine AllReadyX.cons rfl (fun K hK => ?_) AllReadyX.nil
                  refine step_appN _ (by rfl) (.tmp 95) (.tmp 100) 22 (by rfl) w.heap.size 5 Try.underlying22 hi5 hz50 hz51 hz52 rfl (by decide) A5 c5 rl (run.map bv) (by rfl) (hO5) _ _ 1 _ [bv fp] (by rfl) (hR1) (hone fp) hx64 hxby2 (Nat.le_trans hzs hHeld.size) ?_
                  intro A6 c6 w6 hO6 hg6 hloc6
                  have hHeld3 := gb_own hHeld hg6 hA5
                  refine hK.out _ _ hHeld3 ?_
                  clear hK K
                  try simp only [List.getElem_toArray, List.getElem_cons_zero, List.getElem_cons_succ, Act.put, List.setIfInBounds_toArray, List.set_cons_zero, List.set_cons_succ]
                  refine ⟨?_, by kernel_rfl⟩
                  show wpAny _ _ _ _ 3 _ _ _
                  have hgz6 := gb_trans hgd hHeld3
                  have hOz6 := hOz.grown0 hgz6
                  have k94 := d94 _ hHeld3
                  have f94 := hOz6.free rfl (m * 2 + 1)
                  refine wpAny_ready (rs := [17]) (by kernel_rfl) (by simp) ?_
                  refine AllReady.cons rfl (fun K hK => ?_) AllReady.nil
                  go_simp
                  refine hK _ _ ?_
                  clear hK K
                  try simp only [List.getElem_toArray, List.getElem_cons_zero, List.getElem_cons_succ, Act.put, List.setIfInBounds_toArray, List.set_cons_zero, List.set_cons_succ]
                  refine wpAny_ready (rs := [18]) (by kernel_rfl) (by simp) ?_
                  refine AllReady.cons rfl (fun K hK => ?_) AllReady.nil
                  go_simp
                  refine hK _ _ ?_
                  clear hK K
                  try simp only [List.getElem_toArray, List.getElem_cons_zero, List.getElem_cons_succ, Act.put, List.setIfInBounds_toArray, List.set_cons_zero, List.set_cons_succ]
                  refine wpAny_ready (rs := [19]) (by kernel_rfl) (by simp) ?_
                  refine AllReady.cons rfl (fun K hK => ?_) AllReady.nil
                  go_simp
                  refine hK _ _ ?_
                  clear hK K
                  refine wpAny_done (by kernel_rfl) ?_ _
                  go_wp2_with fail
                  go_roundw
                  case rel =>
                    refine ⟨p + 1, run ++ [fp], outS, X ++ [⟨-1, run ++ [fp], A6, c6⟩], some ⟨gz, 0, none⟩, cz, by simp [hmX.out], by go_num, by omega, by have := hrlq.out; simp; omega, by simp; have := hmX.out; omega, Lib.hid ?_, Lib.hid (fun h => by simp at h), ?_, ?_, HT2, gb_new_set (p := ⟨gz, m * 2 + 1, none⟩) (gb_trans hgwz hgz6) (by have := (hOz.lt gz rfl).1; exact this)⟩
                    · rw [List.map_append, hmX2.out]
                      unfold shutS
                      rw [if_neg (by simp)]
                      rfl
                    · have h := hOz6.set (m * 2 + 1) (.slice A6 (rl + 1) c6)
                      rw [set_last X _ _ _ m hmX.out] at h
                      rw [List.length_append, List.flatMap_append, hmX.out]
                      have e : ([⟨-1, run ++ [fp], A6, c6⟩] : List Pt).flatMap ptC = [.int .i64 (-1), .slice A6 (rl + 1) c6] := by simp [ptC, hrlq.out]
                      rw [e]
                      exact h
                    · intro q hq
                      rcases List.mem_append.1 hq with hq | hq
                      · exact ((hPz.grown0 hgz6).cell26 hOz6) q hq
                      · simp at hq
                        subst hq
                        refine ⟨?_, ?_, fun k hk => by simp [blk]⟩
                        · have h := hO6.other (p := ⟨gz, m * 2 + 1, none⟩) (fun e => own_ne_own hO6 hOz6 (by decide) e rfl) (.slice A6 (rl + 1) c6)
                          have e : (run ++ [fp]).length = rl + 1 := by simp [hrlq.out]
                          have e2 : (run ++ [fp]).map bv = run.map bv ++ [bv fp] := by simp
                          show Own _ _ 5 1 A6 c6 (run ++ [fp]).length ((run ++ [fp]).map bv)
                          rw [e, e2]
                          exact h
                        · intro v hv
                          rcases List.mem_append.1 hv with hv | hv
                          · exact hrv v hv
                          · simp at hv; subst hv; exact hpb
                  case measure => first | (simp [intOf]; done) | (simp [intOf]; omega)
            · obtain ⟨X, t, hX⟩ : ∃ X t, out = X ++ [t] := by
                have hne : out ≠ [] := fun h => by
                  have := hmap.out
                  rw [h] at this
                  unfold shutS at this
                  rw [if_neg hrun] at this
                  simp at this
                exact ⟨_, _, (List.dropLast_concat_getLast hne).symm⟩
              subst hX
              have hmp : X.map prt = outS ∧ prt t = (-1, run) := by
                have := hmap.out
                unfold shutS at this
                rw [if_neg hrun, List.map_append] at this
                have h1 := List.append_inj' this rfl
                exact ⟨h1.1, by simpa using h1.2⟩
              obtain ⟨tb, tf, fA, fc⟩ := t
              simp only [prt, Prod.mk.injEq] at hmp
              obtain ⟨hmX2, rfl, rfl⟩ := hmp
              have hlen : (X ++ [(⟨-1, tf, fA, fc⟩ : Pt)]).length = X.length + 1 := by simp
              obtain ⟨gz, rfl, hgz1, hgz2⟩ := hOo2.form (by rw [hlen]; omega)
              have hOz := hOo2
              rw [List.flatMap_append] at hOz
              rw [hlen] at hOz hotl ⊢
              have hPz : PtA wr w.heap.size X none := fun q hq => hPt2 q (List.mem_append_left _ hq)
              have hRz := (hPt2 ⟨-1, tf, fA, fc⟩ (by simp)).1
              have hrv := (hPt2 ⟨-1, tf, fA, fc⟩ (by simp)).2.1
              dsimp only at hRz hrv
              clear hOo hPt hOo2 hPt2 hlen hmap hlast
              generalize hmX : X.length = m at *
              have hml : m ≤ 2000 := by omega
              have hc0 := hOz.cell rfl (j := m * 2) (u := .int .i64 (-1)) (by omega) (by rw [List.getElem?_append_right (by rw [ptC_len, hmX]; omega), ptC_len, hmX, Nat.sub_self]; rfl)
              replace hmX := Lib.hid hmX
              replace hmX2 := Lib.hid hmX2
              replace hrun := Lib.hid hrun
              generalize hrlq : tf.length = rl at *
              replace hrlq := Lib.hid hrlq
              have hOz' : Own wr w.heap.size 26 2 (some ⟨gz, 0, none⟩) co' (m + 1) (X.flatMap ptC ++ [.int .i64 (-1), .slice fA rl fc]) := by
                have := hOz
                simpa [ptC, hrlq.out] using this
              clear hOz
              have hOz := hOz'
              clear hOz'
              obtain ⟨run, hrr⟩ : ∃ run, run = tf := ⟨_, rfl⟩
              subst hrr
              obtain ⟨cz, hcz⟩ : ∃ cz, cz = co' := ⟨_, rfl⟩
              subst hcz
              have hm0j : (m : Int) < (m : Int) + 1 := by omega
              have hm0k : (m : Int) ≤ 2000 := by omega
              have hcpz := hcp2
              have hgwz := hg2
              go_wp2_with fail
              obtain ⟨wz, hwz⟩ : ∃ wz, wz = wr := ⟨_, rfl⟩
              subst hwz
              have hgd := gb_drew (gb_refl wz none)
              have hHeld := gb_refl wz.drew none
              have d94 : ∀ W, wz.drew.grownBy W none → W.cell? ⟨gz, m * 2 + 1, none⟩ = some (.slice fA rl fc) := fun W h => (gb_trans hgd h).cell (hOz.cell rfl (j := m * 2 + 1) (by omega) (by rw [List.getElem?_append_right (by rw [ptC_len, hmX.out]; omega), ptC_len, hmX.out, show m * 2 + 1 - m * 2 = 1 by omega]; rfl)) (by simp)
              have d99 : ∀ W, wz.drew.grownBy W none → W.cell? ⟨fg, fo + p, none⟩ = some (.int .u8 (fp : Int)) := fun W h => (gb_trans hgd h).cell hcpz (by simp)
              have hzs : w.heap.size ≤ wz.drew.heap.size := hgwz.size
              have hx63 : rl ≤ maxLen := by simp only [maxLen]; have := hrlq.out; omega
              have hxby : rl * 1 ≤ 140737488355328 := by have := hrlq.out; omega
              have hx64 : rl + 1 ≤ maxLen := by simp only [maxLen]; have := hrlq.out; omega
              have hxby2 : (rl + 1) * 1 ≤ 140737488355328 := by have := hrlq.out; omega
              replace hRz := hRz.grown0 hgd
              have hwm : IntKind.i64.wrap (m : Int) = (m : Int) := by rw [IntKind.wrap_i64]; omega
              refine wp_region_X 17 (fun W => wz.drew.grownBy W none) (by kernel_rfl) (by decide) hHeld (fun hHeld => ?_)
              refine' takeX (i := 0) (d := 85) (v := _) rfl rfl (by kernel_rfl) (fun _ _ _ h => h) (Or.inl ⟨by rfl, ?hy0⟩) (by assumption) ?rest0
              case hy0 => (intro W hSw; (try dsimp only at hSw); go_simp; (try with_reducible rfl))
              case rest0 =>
              try simp only [Act.put, List.setIfInBounds_toArray, List.set_cons_zero, List.set_cons_succ]
              refine' takeX (i := 1) (d := 86) (v := _) rfl rfl (by kernel_rfl) (fun _ _ _ h => h) (Or.inl ⟨by rfl, ?hy1⟩) (by assumption) ?rest1
              case hy1 => (intro W hSw; (try dsimp only at hSw); go_simp; (try with_reducible rfl))
              case rest1 =>
              try simp only [Act.put, List.setIfInBounds_toArray, List.set_cons_zero, List.set_cons_succ]
              refine' takeX (i := 2) (d := 87) (v := _) rfl rfl (by kernel_rfl) (fun _ _ _ h => h) (Or.inl ⟨by rfl, ?hy2⟩) (by assumption) ?rest2
              case hy2 => (intro W hSw; (try dsimp only at hSw); go_simp; (try with_reducible rfl))
              case rest2 =>
              try simp only [Act.put, List.setIfInBounds_toArray, List.set_cons_zero, List.set_cons_succ]
              refine' takeX (i := 4) (d := 89) (v := _) rfl rfl (by kernel_rfl) (fun _ _ _ h => h) (Or.inl ⟨by rfl, ?hy4⟩) (by assumption) ?rest4
              case hy4 => (intro W hSw; (try dsimp only at hSw); go_simp; (try with_reducible rfl))
              case rest4 =>
              try simp only [Act.put, List.setIfInBounds_toArray, List.set_cons_zero, List.set_cons_succ]
              refine' takeX (i := 5) (d := 90) (v := _) rfl rfl (by kernel_rfl) (fun _ _ _ h => h) (Or.inl ⟨by rfl, ?hy5⟩) (by assumption) ?rest5
              case hy5 => (intro W hSw; (try dsimp only at hSw); go_simp; (try with_reducible rfl))
              case rest5 =>
              try simp only [Act.put, List.setIfInBounds_toArray, List.set_cons_zero, List.set_cons_succ]
              refine' takeX (i := 6) (d := 91) (v := _) rfl rfl (by kernel_rfl) (fun _ _ _ h => h) (Or.inl ⟨by rfl, ?hy6⟩) (by assumption) ?rest6
              case hy6 => (intro W hSw; (try dsimp only at hSw); go_simp; (try with_reducible rfl))
              case rest6 =>
              try simp only [Act.put, List.setIfInBounds_toArray, List.set_cons_zero, List.set_cons_succ]
              refine' takeX (i := 7) (d := 92) (v := _) rfl rfl (by kernel_rfl) (fun _ _ _ h => h) (Or.inl ⟨by rfl, ?hy7⟩) (by assumption) ?rest7
              case hy7 => (intro W hSw; (try dsimp only at hSw); go_simp; (try with_reducible rfl))
              case rest7 =>
              try simp only [Act.put, List.setIfInBounds_toArray, List.set_cons_zero, List.set_cons_succ]
              refine' takeX (i := 8) (d := 93) (v := _) rfl rfl (by kernel_rfl) (fun _ _ _ h => h) (Or.inl ⟨by rfl, ?hy8⟩) (by assumption) ?rest8
              case hy8 => (intro W hSw; (try dsimp only at hSw); go_simp; (try with_reducible rfl))
              case rest8 =>
              try simp only [Act.put, List.setIfInBounds_toArray, List.set_cons_zero, List.set_cons_succ]
              refine' takeX (i := 9) (d := 94) (v := _) rfl rfl (by kernel_rfl) (fun _ _ _ h => h) (Or.inl ⟨by rfl, ?hy9⟩) (by assumption) ?rest9
              case hy9 => (intro W hSw; (try dsimp only at hSw); go_simp; (try with_reducible rfl))
              case rest9 =>
              try simp only [Act.put, List.setIfInBounds_toArray, List.set_cons_zero, List.set_cons_succ]
              refine' takeX (i := 11) (d := 96) (v := _) rfl rfl (by kernel_rfl) (fun _ _ _ h => h) (Or.inl ⟨by rfl, ?hy11⟩) (by assumption) ?rest11
              case hy11 => (intro W hSw; (try dsimp only at hSw); go_simp; (try with_reducible rfl))
              case rest11 =>
              try simp only [Act.put, List.setIfInBounds_toArray, List.set_cons_zero, List.set_cons_succ]
              refine' takeX (i := 12) (d := 97) (v := _) rfl rfl (by kernel_rfl) (fun _ _ _ h => h) (Or.inl ⟨by rfl, ?hy12⟩) (by assumption) ?rest12
              case hy12 => (intro W hSw; (try dsimp only at hSw); go_simp; (try with_reducible rfl))
              case rest12 =>
              try simp only [Act.put, List.setIfInBounds_toArray, List.set_cons_zero, List.set_cons_succ]
              refine' takeX (i := 13) (d := 98) (v := _) rfl rfl (by kernel_rfl) (fun _ _ _ h => h) (Or.inl ⟨by rfl, ?hy13⟩) (by assumption) ?rest13
              case hy13 => (intro W hSw; (try dsimp only at hSw); go_simp; (try with_reducible rfl))
              case rest13 =>
              try simp only [Act.put, List.setIfInBounds_toArray, List.set_cons_zero, List.set_cons_succ]
              refine' takeX (i := 14) (d := 99) (v := _) rfl rfl (by kernel_rfl) (fun _ _ _ h => h) (Or.inl ⟨by rfl, ?hy14⟩) (by assumption) ?rest14
              case hy14 => (intro W hSw; (try dsimp only at hSw); go_simp; (try with_reducible rfl))
              case rest14 =>
              try simp only [Act.put, List.setIfInBounds_toArray, List.set_cons_zero, List.set_cons_succ]
              refine readyX (rs := [3, 15]) (by kernel_rfl) (by rfl) ?_
              refine AllReadyX.cons rfl (fun K hK => ?_) (AllReadyX.cons rfl (fun K hK => ?_) AllReadyX.nil)
              · go_simp
                have hH1 := gb_alloc hHeld (.cells #[] 5)
                refine hK.out _ _ hH1 ?_
                clear hK K
                try simp only [List.getElem_toArray, List.getElem_cons_zero, List.getElem_cons_succ, Act.put, List.setIfInBounds_toArray, List.set_cons_zero, List.set_cons_succ]
                replace hHeld := hH1
                refine readyX (rs := [10, 15]) (by kernel_rfl) (by rfl) ?_
                refine AllReadyX.cons rfl (fun K hK => ?_) (AllReadyX.cons rfl (fun K hK => ?_) AllReadyX.nil)
                · refine step_app0 (by rfl) (.tmp 88) (.tmp 94) 22 (by rfl) w.heap.size 5 Try.underlying22 hi5 hz50 hz51 hz52 rfl (by decide) _ 0 (by rfl) (own_empty wz.drew hzs) _ fA rl fc (run.map bv) (by rfl) (hRz.grown0 hHeld).rd bv_one hx63 hxby (Nat.le_trans hzs hHeld.size) ?_
                  intro A5 c5 w5 hO5 hg5 hloc5
                  have hHeld2 := gb_own hHeld hg5 (fun g h => by simp [blk] at h; subst h; simp)
                  refine hK.out _ _ hHeld2 ?_
                  clear hK K
                  try simp only [List.getElem_toArray, List.getElem_cons_zero, List.getElem_cons_succ, Act.put, List.setIfInBounds_toArray, List.set_cons_zero, List.set_cons_succ]
                  have hA5 : ∀ g, blk A5 = some g → wz.drew.heap.size ≤ g := fun g h => by
                    show wz.heap.size ≤ g
                    rcases hloc5 with e | e
                    · rw [e] at h; simp [blk] at h; omega
                    · rw [e] at h; simp at h; omega
                  replace hHeld := hHeld2
                  refine readyX (rs := [15]) (by kernel_rfl) (by rfl) ?_
                  refine AllReadyX.cons rfl (fun K hK => ?_) AllReadyX.nil
                  go_simp
                  have hH3 := gb_alloc hHeld (.cells #[.int .u8 (fp : Int)] 5)
                  refine hK.out _ _ hH3 ?_
                  clear hK K
                  try simp only [List.getElem_toArray, List.getElem_cons_zero, List.getElem_cons_succ, Act.put, List.setIfInBounds_toArray, List.set_cons_zero, List.set_cons_succ]
                  replace hHeld := hH3
                  refine readyX (rs := [16]) (by kernel_rfl) (by rfl) ?_
                  refine AllReadyX.cons rfl (fun K hK => ?_) AllReadyX.nil
                  refine step_appN _ (by rfl) (.tmp 95) (.tmp 100) 22 (by rfl) w.heap.size 5 Try.underlying22 hi5 hz50 hz51 hz52 rfl (by decide) A5 c5 rl (run.map bv) (by rfl) (hO5.alloc _) _ _ 1 _ [bv fp] (by rfl) (rd_new _ [bv fp] 5) (hone fp) hx64 hxby2 (Nat.le_trans hzs hHeld.size) ?_
                  intro A6 c6 w6 hO6 hg6 hloc6
                  have hHeld3 := gb_own hHeld hg6 hA5
                  refine hK.out _ _ hHeld3 ?_
                  clear hK K
                  try simp only [List.getElem_toArray, List.getElem_cons_zero, List.getElem_cons_succ, Act.put, List.setIfInBounds_toArray, List.set_cons_zero, List.set_cons_succ]
                  refine ⟨?_, by kernel_rfl⟩
                  show wpAny _ _ _ _ 3 _ _ _
                  have hgz6 := gb_trans hgd hHeld3
                  have hOz6 := hOz.grown0 hgz6
                  have k94 := d94 _ hHeld3
                  have f94 := hOz6.free rfl (m * 2 + 1)
                  refine wpAny_ready (rs := [17]) (by kernel_rfl) (by simp) ?_
                  refine AllReady.cons rfl (fun K hK => ?_) AllReady.nil
                  go_simp
                  refine hK _ _ ?_
                  clear hK K
                  try simp only [List.getElem_toArray, List.getElem_cons_zero, List.getElem_cons_succ, Act.put, List.setIfInBounds_toArray, List.set_cons_zero, List.set_cons_succ]
                  refine wpAny_ready (rs := [18]) (by kernel_rfl) (by simp) ?_
                  refine AllReady.cons rfl (fun K hK => ?_) AllReady.nil
                  go_simp
                  refine hK _ _ ?_
                  clear hK K
                  try simp only [List.getElem_toArray, List.getElem_cons_zero, List.getElem_cons_succ, Act.put, List.setIfInBounds_toArray, List.set_cons_zero, List.set_cons_succ]
                  refine wpAny_ready (rs := [19]) (by kernel_rfl) (by simp) ?_
                  refine AllReady.cons rfl (fun K hK => ?_) AllReady.nil
                  go_simp
                  refine hK _ _ ?_
                  clear hK K
                  refine wpAny_done (by kernel_rfl) ?_ _
                  go_wp2_with fail
                  go_roundw
                  case rel =>
                    refine ⟨p + 1, run ++ [fp], outS, X ++ [⟨-1, run ++ [fp], A6, c6⟩], some ⟨gz, 0, none⟩, cz, by simp [hmX.out], by go_num, by omega, by have := hrlq.out; simp; omega, by simp; have := hmX.out; omega, Lib.hid ?_, Lib.hid (fun h => by simp at h), ?_, ?_, HT2, gb_new_set (p := ⟨gz, m * 2 + 1, none⟩) (gb_trans hgwz hgz6) (by have := (hOz.lt gz rfl).1; exact this)⟩
                    · rw [List.map_append, hmX2.out]
                      unfold shutS
                      rw [if_neg (by simp)]
                      rfl
                    · have h := hOz6.set (m * 2 + 1) (.slice A6 (rl + 1) c6)
                      rw [set_last X _ _ _ m hmX.out] at h
                      rw [List.length_append, List.flatMap_append, hmX.out]
                      have e : ([⟨-1, run ++ [fp], A6, c6⟩] : List Pt).flatMap ptC = [.int .i64 (-1), .slice A6 (rl + 1) c6] := by simp [ptC, hrlq.out]
                      rw [e]
                      exact h
                    · intro q hq
                      rcases List.mem_append.1 hq with hq | hq
                      · exact ((hPz.grown0 hgz6).cell26 hOz6) q hq
                      · simp at hq
                        subst hq
                        refine ⟨?_, ?_, fun k hk => by simp [blk]⟩
                        · have h := hO6.other (p := ⟨gz, m * 2 + 1, none⟩) (fun e => own_ne_own hO6 hOz6 (by decide) e rfl) (.slice A6 (rl + 1) c6)
                          have e : (run ++ [fp]).length = rl + 1 := by simp [hrlq.out]
                          have e2 : (run ++ [fp]).map bv = run.map bv ++ [bv fp] := by simp
                          show Own _ _ 5 1 A6 c6 (run ++ [fp]).length ((run ++ [fp]).map bv)
                          rw [e, e2]
                          exact h
                        · intro v hv
                          rcases List.mem_append.1 hv with hv | hv
                          · exact hrv v hv
                          · simp at hv; subst hv; exact hpb
                  case measure => first | (simp [intOf]; done) | (simp [intOf]; omega)
                · go_simp
                  have hH2 := gb_alloc hHeld (.cells #[.int .u8 (fp : Int)] 5)
                  refine hK.out _ _ hH2 ?_
                  clear hK K
                  try simp only [List.getElem_toArray, List.getElem_cons_zero, List.getElem_cons_succ, Act.put, List.setIfInBounds_toArray, List.set_cons_zero, List.set_cons_succ]
                  replace hHeld := hH2
                  refine readyX (rs := [10]) (by kernel_rfl) (by rfl) ?_
                  refine AllReadyX.cons rfl (fun K hK => ?_) AllReadyX.nil
                  refine step_app0 (by rfl) (.tmp 88) (.tmp 94) 22 (by rfl) w.heap.size 5 Try.underlying22 hi5 hz50 hz51 hz52 rfl (by decide) _ 0 (by rfl) ((own_empty wz.drew hzs).alloc _) _ fA rl fc (run.map bv) (by rfl) (hRz.grown0 hHeld).rd bv_one hx63 hxby (Nat.le_trans hzs hHeld.size) ?_
                  intro A5 c5 w5 hO5 hg5 hloc5
                  have hHeld2 := gb_own hHeld hg5 (fun g h => by simp [blk] at h; subst h; simp)
                  refine hK.out _ _ hHeld2 ?_
                  clear hK K
                  try simp only [List.getElem_toArray, List.getElem_cons_zero, List.getElem_cons_succ, Act.put, List.setIfInBounds_toArray, List.set_cons_zero, List.set_cons_succ]
                  have hA5 : ∀ g, blk A5 = some g → wz.drew.heap.size ≤ g := fun g h => by
                    show wz.heap.size ≤ g
                    rcases hloc5 with e | e
                    · rw [e] at h; simp [blk] at h; omega
                    · rw [e] at h; simp at h; omega
                  have hR0 := rd_row (rd_new (wz.drew.alloc (.cells #[] 5)) [bv fp] 5) hg5 (by simp [blk]) (by simp)
                  have hR1 : Rd w5 (wz.heap.size + 1 + 1) 1 (some ⟨wz.heap.size + 1, 0, none⟩) 1 [bv fp] := by simpa using hR0
                  replace hHeld := hHeld2
                  refine readyX (rs := [16]) (by kernel_rfl) (by rfl) ?_
                  refine AllReadyX.cons rfl (fun K hK => ?_) AllReadyX.nil
                  refine step_appN _ (by rfl) (.tmp 95) (.tmp 100) 22 (by rfl) w.heap.size 5 Try.underlying22 hi5 hz50 hz51 hz52 rfl (by decide) A5 c5 rl (run.map bv) (by rfl) (hO5) _ _ 1 _ [bv fp] (by rfl) (hR1) (hone fp) hx64 hxby2 (Nat.le_trans hzs hHeld.size) ?_
                  intro A6 c6 w6 hO6 hg6 hloc6
                  have hHeld3 := gb_own hHeld hg6 hA5
                  refine hK.out _ _ hHeld3 ?_
                  clear hK K
                  try simp only [List.getElem_toArray, List.getElem_cons_zero, List.getElem_cons_succ, Act.put, List.setIfInBounds_toArray, List.set_cons_zero, List.set_cons_succ]
                  refine ⟨?_, by kernel_rfl⟩
                  show wpAny _ _ _ _ 3 _ _ _
                  have hgz6 := gb_trans hgd hHeld3
                  have hOz6 := hOz.grown0 hgz6
                  have k94 := d94 _ hHeld3
                  have f94 := hOz6.free rfl (m * 2 + 1)
                  refine wpAny_ready (rs := [17]) (by kernel_rfl) (by simp) ?_
                  refine AllReady.cons rfl (fun K hK => ?_) AllReady.nil
                  go_simp
                  refine hK _ _ ?_
                  clear hK K
                  try simp only [List.getElem_toArray, List.getElem_cons_zero, List.getElem_cons_succ, Act.put, List.setIfInBounds_toArray, List.set_cons_zero, List.set_cons_succ]
                  refine wpAny_ready (rs := [18]) (by kernel_rfl) (by simp) ?_
                  refine AllReady.cons rfl (fun K hK => ?_) AllReady.nil
                  go_simp
                  refine hK _ _ ?_
                  clear hK K
                  try simp only [List.getElem_toArray, List.getElem_cons_zero, List.getElem_cons_succ, Act.put, List.setIfInBounds_toArray, List.set_cons_zero, List.set_cons_succ]
                  refine wpAny_ready (rs := [19]) (by kernel_rfl) (by simp) ?_
                  refine AllReady.cons rfl (fun K hK => ?_) AllReady.nil
                  go_simp
                  refine hK _ _ ?_
                  clear hK K
                  refine wpAny_done (by kernel_rfl) ?_ _
                  go_wp2_with fail
                  go_roundw
                  case rel =>
                    refine ⟨p + 1, run ++ [fp], outS, X ++ [⟨-1, run ++ [fp], A6, c6⟩], some ⟨gz, 0, none⟩, cz, by simp [hmX.out], by go_num, by omega, by have := hrlq.out; simp; omega, by simp; have := hmX.out; omega, Lib.hid ?_, Lib.hid (fun h => by simp at h), ?_, ?_, HT2, gb_new_set (p := ⟨gz, m * 2 + 1, none⟩) (gb_trans hgwz hgz6) (by have := (hOz.lt gz rfl).1; exact this)⟩
                    · rw [List.map_append, hmX2.out]
                      unfold shutS
                      rw [if_neg (by simp)]
                      rfl
                    · have h := hOz6.set (m * 2 + 1) (.slice A6 (rl + 1) c6)
                      rw [set_last X _ _ _ m hmX.out] at h
                      rw [List.length_append, List.flatMap_append, hmX.out]
                      have e : ([⟨-1, run ++ [fp], A6, c6⟩] : List Pt).flatMap ptC = [.int .i64 (-1), .slice A6 (rl + 1) c6] := by simp [ptC, hrlq.out]
                      rw [e]
                      exact h
                    · intro q hq
                      rcases List.mem_append.1 hq with hq | hq
                      · exact ((hPz.grown0 hgz6).cell26 hOz6) q hq
                      · simp at hq
                        subst hq
                        refine ⟨?_, ?_, fun k hk => by simp [blk]⟩
                        · have h := hO6.other (p := ⟨gz, m * 2 + 1, none⟩) (fun e => own_ne_own hO6 hOz6 (by decide) e rfl) (.slice A6 (rl + 1) c6)
                          have e : (run ++ [fp]).length = rl + 1 := by simp [hrlq.out]
                          have e2 : (run ++ [fp]).map bv = run.map bv ++ [bv fp] := by simp
                          show Own _ _ 5 1 A6 c6 (run ++ [fp]).length ((run ++ [fp]).map bv)
                          rw [e, e2]
                          exact h
                        · intro v hv
                          rcases List.mem_append.1 hv with hv | hv
                          · exact hrv v hv
                          · simp at hv; subst hv; exact hpb
                  case measure => first | (simp [intOf]; done) | (simp [intOf]; omega)
              · go_simp
                have hH1 := gb_alloc hHeld (.cells #[.int .u8 (fp : Int)] 5)
                refine hK.out _ _ hH1 ?_
                clear hK K
                try simp only [List.getElem_toArray, List.getElem_cons_zero, List.getElem_cons_succ, Act.put, List.setIfInBounds_toArray, List.set_cons_zero, List.set_cons_succ]
                replace hHeld := hH1
                refine readyX (rs := [3]) (by kernel_rfl) (by rfl) ?_
                refine AllReadyX.cons rfl (fun K hK => ?_) AllReadyX.nil
                go_simp
                have hH2 := gb_alloc hHeld (.cells #[] 5)
                refine hK.out _ _ hH2 ?_
                clear hK K
                try simp only [List.getElem_toArray, List.getElem_cons_zero, List.getElem_cons_succ, Act.put, List.setIfInBounds_toArray, List.set_cons_zero, List.set_cons_succ]
                replace hHeld := hH2
                refine readyX (rs := [10]) (by kernel_rfl) (by rfl) ?_
                refine AllReadyX.cons rfl (fun K hK => ?_) AllReadyX.nil
                have hE3 : Own ((wz.drew.alloc (.cells #[.int .u8 (fp : Int)] 5)).alloc (.cells #[] 5)) w.heap.size 5 1 (some ⟨wz.heap.size + 1, 0, none⟩) 0 0 [] := by
                  have h := own_empty (wz.drew.alloc (.cells #[.int .u8 (fp : Int)] 5)) (base := w.heap.size) (by simp; exact Nat.le_succ_of_le hzs)
                  simpa using h
                refine step_app0 (by rfl) (.tmp 88) (.tmp 94) 22 (by rfl) w.heap.size 5 Try.underlying22 hi5 hz50 hz51 hz52 rfl (by decide) _ 0 (by rfl) (hE3) _ fA rl fc (run.map bv) (by rfl) (hRz.grown0 hHeld).rd bv_one hx63 hxby (Nat.le_trans hzs hHeld.size) ?_
                intro A5 c5 w5 hO5 hg5 hloc5
                have hHeld2 := gb_own hHeld hg5 (fun g h => by simp [blk] at h; subst h; simp)
                refine hK.out _ _ hHeld2 ?_
                clear hK K
                try simp only [List.getElem_toArray, List.getElem_cons_zero, List.getElem_cons_succ, Act.put, List.setIfInBounds_toArray, List.set_cons_zero, List.set_cons_succ]
                have hA5 : ∀ g, blk A5 = some g → wz.drew.heap.size ≤ g := fun g h => by
                  show wz.heap.size ≤ g
                  rcases hloc5 with e | e
                  · rw [e] at h; simp [blk] at h; omega
                  · rw [e] at h; simp at h; omega
                have hR1 := rd_row ((rd_new wz.drew [bv fp] 5).later (gb_alloc (gb_refl _ none) (.cells #[] 5)) (by simp)) hg5 (by simp [blk]) (by simp)
                replace hHeld := hHeld2
                refine readyX (rs := [16]) (by kernel_rfl) (by rfl) ?_
                refine AllReadyX.cons rfl (fun K hK => ?_) AllReadyX.nil
                refine step_appN _ (by rfl) (.tmp 95) (.tmp 100) 22 (by rfl) w.heap.size 5 Try.underlying22 hi5 hz50 hz51 hz52 rfl (by decide) A5 c5 rl (run.map bv) (by rfl) (hO5) _ _ 1 _ [bv fp] (by rfl) (hR1) (hone fp) hx64 hxby2 (Nat.le_trans hzs hHeld.size) ?_
                intro A6 c6 w6 hO6 hg6 hloc6
                have hHeld3 := gb_own hHeld hg6 hA5
                refine hK.out _ _ hHeld3 ?_
                clear hK K
                try simp only [List.getElem_toArray, List.getElem_cons_zero, List.getElem_cons_succ, Act.put, List.setIfInBounds_toArray, List.set_cons_zero, List.set_cons_succ]
                refine ⟨?_, by kernel_rfl⟩
                show wpAny _ _ _ _ 3 _ _ _
                have hgz6 := gb_trans hgd hHeld3
                have hOz6 := hOz.grown0 hgz6
                have k94 := d94 _ hHeld3
                have f94 := hOz6.free rfl (m * 2 + 1)
                refine wpAny_ready (rs := [17]) (by kernel_rfl) (by simp) ?_
                refine AllReady.cons rfl (fun K hK => ?_) AllReady.nil
                go_simp
                refine hK _ _ ?_
                clear hK K
                try simp only [List.getElem_toArray, List.getElem_cons_zero, List.getElem_cons_succ, Act.put, List.setIfInBounds_toArray, List.set_cons_zero, List.set_cons_succ]
                refine wpAny_ready (rs := [18]) (by kernel_rfl) (by simp) ?_
                refine AllReady.cons rfl (fun K hK => ?_) AllReady.nil
                go_simp
                refine hK _ _ ?_
                clear hK K
                try simp only [List.getElem_toArray, List.getElem_cons_zero, List.getElem_cons_succ, Act.put, List.setIfInBounds_toArray, List.set_cons_zero, List.set_cons_succ]
                refine wpAny_ready (rs := [19]) (by kernel_rfl) (by simp) ?_
                refine AllReady.cons rfl (fun K hK => ?_) AllReady.nil
                go_simp
                refine hK _ _ ?_
                clear hK K
                refine wpAny_done (by kernel_rfl) ?_ _
                go_wp2_with fail
                go_roundw
                case rel =>
                  refine ⟨p + 1, run ++ [fp], outS, X ++ [⟨-1, run ++ [fp], A6, c6⟩], some ⟨gz, 0, none⟩, cz, by simp [hmX.out], by go_num, by omega, by have := hrlq.out; simp; omega, by simp; have := hmX.out; omega, Lib.hid ?_, Lib.hid (fun h => by simp at h), ?_, ?_, HT2, gb_new_set (p := ⟨gz, m * 2 + 1, none⟩) (gb_trans hgwz hgz6) (by have := (hOz.lt gz rfl).1; exact this)⟩
                  · rw [List.map_append, hmX2.out]
                    unfold shutS
                    rw [if_neg (by simp)]
                    rfl
                  · have h := hOz6.set (m * 2 + 1) (.slice A6 (rl + 1) c6)
                    rw [set_last X _ _ _ m hmX.out] at h
                    rw [List.length_append, List.flatMap_append, hmX.out]
                    have e : ([⟨-1, run ++ [fp], A6, c6⟩] : List Pt).flatMap ptC = [.int .i64 (-1), .slice A6 (rl + 1) c6] := by simp [ptC, hrlq.out]
                    rw [e]
                    exact h
                  · intro q hq
                    rcases List.mem_append.1 hq with hq | hq
                    · exact ((hPz.grown0 hgz6).cell26 hOz6) q hq
                    · simp at hq
                      subst hq
                      refine ⟨?_, ?_, fun k hk => by simp [blk]⟩
                      · have h := hO6.other (p := ⟨gz, m * 2 + 1, none⟩) (fun e => own_ne_own hO6 hOz6 (by decide) e rfl) (.slice A6 (rl + 1) c6)
                        have e : (run ++ [fp]).length = rl + 1 := by simp [hrlq.out]
                        have e2 : (run ++ [fp]).map bv = run.map bv ++ [bv fp] := by simp
                        show Own _ _ 5 1 A6 c6 (run ++ [fp]).length ((run ++ [fp]).map bv)
                        rw [e, e2]
                        exact h
                      · intro v hv
                        rcases List.mem_append.1 hv with hv | hv
                        · exact hrv v hv
                        · simp at hv; subst hv; exact hpb
                case measure => first | (simp [intOf]; done) | (simp [intOf]; omega)
    · have hp2 : p = fresh.length := by omega
      subst hp2
      have HT2 := Lib.hid (HT.out.trans (diffT_end (Nat.le_refl _)))
      go_wp2_with fail
      go_ret
      exact ⟨Ao, co', out, rfl, by rw [hmap.out, HT2.out], hOo, hPt.ok, hg⟩
end Go.Proofs.Ytgahefehnhggjaa
