/-
  cut (printed by wip/tools/gen_cut.py). Helpers of the claims.
  PLAIN: what the reference asks of a step's text, and how long that text is. Helpers of the claims.
-/
import Derived.Test.YtifliekahdgobaaGreatDoorJC1ToL5
import Derived.Test.YtifliekahdgobaaGreatDoorJW29ToW31
import Derived.Test.YtifliekahdgobaaGreatDoorJW15ToW27
import Derived.Test.YtifliekahdgobaaGreatDoorJThQToW23
set_option linter.unusedSimpArgs false
set_option linter.unusedVariables false
namespace Go.Proofs.YtifliekahdgobaaGreatDoor
open Go.RowKit Sp

def cutCmp (x : CmpS) : CmpS := { x with key := x.key.take 50, val := x.val.take 50 }
def cutCmps (l : List CmpS) : List CmpS := (l.take 10).map cutCmp
def cutReq (r : ReqS) : ReqS := { r with cmps := cutCmps r.cmps, thn := cutOps r.thn, els := cutOps r.els }
def cutWatch (x : WatchS) : WatchS := { x with key := x.key.take 50, fin := x.fin.take 50 }
def cutStep (s : StepS) : StepS := { s with req := cutReq s.req, watch := cutWatch s.watch }
def cutSteps (l : List StepS) : List StepS := (l.take 200).map cutStep
theorem cutCmps_step (l : List CmpS) (k : Nat) (hk : k < l.length) : (l.take (k + 1)).map cutCmp = (l.take k).map cutCmp ++ [cutCmp l[k]] := by
  rw [List.take_succ_eq_append_getElem hk, List.map_append]
  rfl
theorem cutSteps_step (l : List StepS) (k : Nat) (hk : k < l.length) : (l.take (k + 1)).map cutStep = (l.take k).map cutStep ++ [cutStep l[k]] := by
  rw [List.take_succ_eq_append_getElem hk, List.map_append]
  rfl
theorem cutCmps_end (l : List CmpS) (k : Nat) (hk : k ≤ 10) (h : k = 10 ∨ l.length ≤ k) : cutCmps l = (l.take k).map cutCmp := by
  unfold cutCmps
  rcases h with h | h
  · rw [h]
  · rw [List.take_of_length_le (by omega : l.length ≤ k), List.take_of_length_le (by omega : l.length ≤ 10)]
theorem cutSteps_end (l : List StepS) (k : Nat) (hk : k ≤ 200) (h : k = 200 ∨ l.length ≤ k) : cutSteps l = (l.take k).map cutStep := by
  unfold cutSteps
  rcases h with h | h
  · rw [h]
  · rw [List.take_of_length_le (by omega : l.length ≤ k), List.take_of_length_le (by omega : l.length ≤ 200)]
theorem row_slice {α : Type} {enc : α → Array Value} {size : Nat} {w : World} {v : Value} {l : List α} (h : RowRead enc size w v l) : ∃ a c, v = .slice a l.length c := by
  obtain ⟨a, c, h, _⟩ := h
  exact ⟨a, c, h⟩
theorem cmpsAt_far {w w' : World} {base : Nat} {v : Value} {l : List CmpS} (h : CmpsAt w base v l) (hk : Keep (fun _ => False) w w') : CmpsAt w' base v l := ownsRow_keep h hk (fun _ _ _ _ e => e)
/-- a cell of a block below the row's base is set: the row stays -/
theorem owns_set {w : World} {base e size n : Nat} {v : Value} {xs : List Value} {b i : Nat} {u : Value} (h : w.ownsRow base e size v n xs) (hb : b < base) : (w.setCell ⟨b, i, none⟩ u).ownsRow base e size v n xs :=
  ownsRow_keep h ((Keep.refl (fun k => k = b) w).setCell _ _ (.inr rfl)) (fun g _ hg _ e => by have := (h.lt g hg).1; omega)
/-- how long a script's lists may be: as long as a machine's slice -/
def CutLens (x : StepS) : Prop := (x.req.cmps.length : Int) ≤ 9223372036854775807 ∧ (x.req.thn.length : Int) ≤ 9223372036854775807 ∧ (x.req.els.length : Int) ≤ 9223372036854775807
set_option maxRecDepth 100000 in
set_option maxHeartbeats 12800000 in
theorem cut_any (n0 : Int) (l : List StepS) (v : Value) (w : World) (hl : (l.length : Int) ≤ 9223372036854775807) (hr : StepsRead w v l) (hls : ∀ x ∈ l, CutLens x) :
    Calls Tryz.prog 14 #[.agg #[.int .i64 n0, v]] w fun e w' => ∃ v', e = .returned (.agg #[.int .i64 n0, v']) ∧ Keep (fun _ => False) w w' ∧ StepsAt w' w.heap.size v' (cutSteps l) := by
  obtain ⟨a, c, rfl⟩ := hr.slice
  obtain ⟨B, hB⟩ : ∃ B : Nat, B = w.heap.size := ⟨_, rfl⟩
  obtain ⟨W, hW⟩ : ∃ W : World, W = (w.alloc (.cells #[.int .i64 n0, .slice a l.length c] 29)).alloc (.cells #[.int .i64 0, .slice none 0 0] 29) := ⟨_, rfl⟩
  have hkW : Keep (fun _ => False) w W := by rw [hW]; exact ((Keep.refl _ w).alloc _).alloc _
  have hb0 : W.heap[B]? = some (.cells #[.int .i64 n0, .slice a l.length c] 29 (0, 0)) := by rw [hW, hB]; exact block_alloc (block_new _ _) _
  have hb1 : W.heap[B + 1]? = some (.cells #[.int .i64 0, .slice none 0 0] 29 (0, 0)) := by rw [hW, hB]; exact block_new' _ _ (by simp)
  have hsW : W.heap.size = B + 2 := by rw [hW, hB]; simp
  rw [← hB]
  have HRR := Lib.hid (fun w' (hk : Keep (fun _ => False) W w') => hr.far (hkW.trans' hk))
  have HW := Lib.hid hW
  have HB := Lib.hid hB
  have HKW := Lib.hid hkW
  have HB0 := Lib.hid hb0
  have HB1 := Lib.hid hb1
  have HSW := Lib.hid hsW
  have HLS := Lib.hid hls
  clear hr hB hW hkW hb0 hb1 hsW hls
  go_enter Tryz.func14, Tryz.ntmps14
  go_upto_region 1 with fail
  rw [← HW.out, ← HB.out]
  clear HW
  go_wp2_with fail
  go_loopw [3, 4] (fun v3 v4 wr => ∃ k : Nat, k ≤ l.length ∧ k ≤ 200 ∧ v4 = .int .i64 k ∧ StepsAt wr (B + 2) v3 ((l.take k).map cutStep) ∧ Keep (fun _ => False) W wr) (fun _ v4 _ => 200 - (intOf v4).toNat)
  case atStart => exact ⟨0, Nat.zero_le _, by omega, rfl, StepsAt.nil _ _, Keep.refl _ _⟩
  case round =>
    obtain ⟨wo, rfl⟩ : ∃ V : World, V = wr := ⟨_, rfl⟩
    obtain ⟨k, hk, hk200, rfl, hsts, hkr⟩ := hrel
    obtain ⟨as3, cs3, hv3, -⟩ := hsts.slice
    subst hv3
    have hlen : ((l.take k).map cutStep).length = k := by rw [List.length_map, List.length_take]; omega
    have HSTEP := Lib.hid (fun hlt : k < l.length => cutSteps_step l k hlt)
    have HEND := Lib.hid (fun h => cutSteps_end l k hk200 h)
    generalize hL : (l.take k).map cutStep = L at *
    have HL := Lib.hid hL
    have HLEN := Lib.hid hlen
    clear hL hlen
    have c1 : wo.cell? ⟨B, 1, none⟩ = some (.slice a l.length c) := cell_of_block (hkr.at' HB0.out (fun e => e)) 1
    have HSTS := Lib.hid hsts
    have HKR := Lib.hid hkr
    clear hsts
    by_cases hlt : k < l.length
    · by_cases h200 : k < 200
      · obtain ⟨b, o, vc, vt, ve, hbo, hrng, hrq⟩ := (HRR.out _ hkr).at k hlt
        subst hbo
        have hlt' : (k : Int) < (l.length : Int) := by omega
        have h200' : (k : Int) < 200 := by omega
        have HST := Lib.hid (HSTEP.out hlt)
        have hcl := HLS.out l[k] (List.getElem_mem hlt)
        clear HSTEP HEND
        generalize hx : l[k] = x at *
        obtain ⟨kind, node, n, ⟨rk, cl, nu, se, cmps, thn, els, rev⟩, ⟨wid, wk, wf, wst, wp, wnp, wnd, wpr⟩⟩ := x
        obtain ⟨hcl1, hcl2, hcl3⟩ := hcl
        dsimp only at hcl1 hcl2 hcl3
        obtain ⟨hrc, hrt, hre⟩ := hrq
        dsimp only at hrc hrt hre
        obtain ⟨ac, cc, rfl⟩ := row_slice hrc
        obtain ⟨at1, ct, rfl⟩ := row_slice hrt
        obtain ⟨ae, ce, rfl⟩ := row_slice hre
        obtain ⟨cs, hcs⟩ : ∃ cs, cs = stepCells ⟨kind, node, n, ⟨rk, cl, nu, se, cmps, thn, els, rev⟩, ⟨wid, wk, wf, wst, wp, wnp, wnd, wpr⟩⟩ (.slice ac cmps.length cc) (.slice at1 thn.length ct) (.slice ae els.length ce) := ⟨_, rfl⟩
        rw [← hcs] at hrng
        have hld := run_ld63 wo b _ cs (by rw [hcs]; rfl) hrng
        have hst2 := run_st63 (wo.alloc (.cells (stepCells .zero nilS nilS nilS) 63)) wo.heap.size 0 cs (there_of_block (block_new _ _) (by decide)) (by rw [hcs]; rfl) (by rw [hcs]; exact stepCells_one _ _ _ _ rfl rfl rfl)
        obtain ⟨W1, hW1⟩ : ∃ W1 : World, W1 = (wo.alloc (.cells (stepCells .zero nilS nilS nilS) 63)).setCells wo.heap.size 0 cs.toList := ⟨_, rfl⟩
        rw [← hW1] at hst2
        obtain ⟨N, hN⟩ : ∃ N : Nat, N = wo.heap.size := ⟨_, rfl⟩
        have hb1 : W1.heap[N]? = some (.cells (stepCells ⟨kind, node, n, ⟨rk, cl, nu, se, cmps, thn, els, rev⟩, ⟨wid, wk, wf, wst, wp, wnp, wnd, wpr⟩⟩ (.slice ac cmps.length cc) (.slice at1 thn.length ct) (.slice ae els.length ce)) 63 (0, 0)) := by
          rw [hW1, hN, block_setCells_all (block_new _ _) _ (by rw [hcs]; rfl), hcs]
        have hk1 : Keep (fun _ => False) wo W1 := by rw [hW1]; exact ((Keep.refl _ wo).alloc _).setCells _ _ _ (.inl (Nat.le_refl _))
        have HRC := Lib.hid (fun w' (hk : Keep (fun _ => False) wo w') => hrc.keep hk (fun _ _ _ _ _ e => e))
        have HRT := Lib.hid (fun w' (hk : Keep (fun _ => False) wo w') => hrt.keep hk (fun _ _ _ _ _ e => e))
        have HRE := Lib.hid (fun w' (hk : Keep (fun _ => False) wo w') => hre.keep hk (fun _ _ _ _ _ e => e))
        have HK1 := Lib.hid hk1
        have HN := Lib.hid hN
        have HB1' := Lib.hid hb1
        have d12 : W1.cell? ⟨N, 12, none⟩ = some (sv wk) := cell_of_block hb1 12
        have e12 : W1.frozen? ⟨N, 12, none⟩ = false := free_of_block hb1 12
        clear hrng hW1 hcs hkr hk1 hb1 hN hrc hrt hre hx
        unfold stepCells StepS.zero ReqS.zero WatchS.zero at hst2
        dsimp only at hst2
        go_upto_region 6 with fail
        rw [← HN.out]
        clear hst2 hld c1
        go_upto_region 7 with fail
        rw [cut50]
        obtain ⟨W2, hW2⟩ : ∃ W : World, W = W1.setCell ⟨N, 12, none⟩ (sv (wk.take 50)) := ⟨_, rfl⟩
        rw [← hW2]
        have hb2 : W2.heap[N]? = some (.cells (stepCells ⟨kind, node, n, ⟨rk, cl, nu, se, cmps, thn, els, rev⟩, ⟨wid, wk.take 50, wf, wst, wp, wnp, wnd, wpr⟩⟩ (.slice ac cmps.length cc) (.slice at1 thn.length ct) (.slice ae els.length ce)) 63 (0, 0)) := by rw [hW2]; exact block_setCell HB1'.out 12 _
        have HK2 := Lib.hid (show Keep (fun _ => False) wo W2 by rw [hW2]; exact HK1.out.setCell _ _ (.inl (by have := HN.out; simp only; omega)))
        have d13 : W2.cell? ⟨N, 13, none⟩ = some (sv wf) := cell_of_block hb2 13
        have e13 : W2.frozen? ⟨N, 13, none⟩ = false := free_of_block hb2 13
        have HB2 := Lib.hid hb2
        clear hW2 d12 e12 HB1' HK1 hb2
        go_upto_region 8 with fail
        rw [cut50]
        obtain ⟨W3, hW3⟩ : ∃ W : World, W = W2.setCell ⟨N, 13, none⟩ (sv (wf.take 50)) := ⟨_, rfl⟩
        rw [← hW3]
        have hb3 : W3.heap[N]? = some (.cells (stepCells ⟨kind, node, n, ⟨rk, cl, nu, se, cmps, thn, els, rev⟩, ⟨wid, wk.take 50, wf.take 50, wst, wp, wnp, wnd, wpr⟩⟩ (.slice ac cmps.length cc) (.slice at1 thn.length ct) (.slice ae els.length ce)) 63 (0, 0)) := by rw [hW3]; exact block_setCell HB2.out 13 _
        have HK3 := Lib.hid (show Keep (fun _ => False) wo W3 by rw [hW3]; exact HK2.out.setCell _ _ (.inl (by have := HN.out; simp only; omega)))
        have HB3 := Lib.hid hb3
        clear hW3 d13 e13 HB2 HK2 hb3
        go_wp2_with fail
        obtain ⟨B3, hB3⟩ : ∃ B : Nat, B = W3.heap.size := ⟨_, rfl⟩
        have HB3S := Lib.hid hB3
        have hNB3 : N < B3 := by rw [hB3]; exact lt_of_block HB3.out
        clear hB3
        go_loopw [6, 7] (fun v6 v7 wi => ∃ j : Nat, j ≤ cmps.length ∧ j ≤ 10 ∧ v7 = .int .i64 j ∧ CmpsAt wi B3 v6 ((cmps.take j).map cutCmp) ∧ Keep (fun _ => False) W3 wi) (fun _ v7 _ => 10 - (intOf v7).toNat)
        case atStart => exact ⟨0, Nat.zero_le _, by omega, rfl, World.ownsRow_nil _ _ _ _, Keep.refl _ _⟩
        case round =>
          obtain ⟨wi, rfl⟩ : ∃ V : World, V = wr := ⟨_, rfl⟩
          obtain ⟨j, hj, hj10, rfl, hcm, hki⟩ := hrel
          obtain ⟨as6, cs6, hv6, -⟩ := ownsRow_len hcm
          subst hv6
          have hlen : ((cmps.take j).map cutCmp).length = j := by rw [List.length_map, List.length_take]; omega
          have HSTEP2 := Lib.hid (fun hlt : j < cmps.length => cutCmps_step cmps j hlt)
          have HEND2 := Lib.hid (fun h => cutCmps_end cmps j hj10 h)
          generalize hM : (cmps.take j).map cutCmp = M at *
          have HM := Lib.hid hM
          have HMLEN := Lib.hid hlen
          clear hM hlen
          have hbi := hki.at' HB3.out (fun e => e)
          have d7 : wi.cell? ⟨N, 7, none⟩ = some (.slice ac cmps.length cc) := cell_of_block hbi 7
          have HBI := Lib.hid hbi
          have HCM := Lib.hid hcm
          have HKI := Lib.hid hki
          clear hbi hcm
          by_cases hjl : j < cmps.length
          · by_cases hj10' : j < 10
            · obtain ⟨b2, o2, hbo2, hrng2⟩ := (HRC.out _ (HK3.out.trans' hki)).at j hjl
              subst hbo2
              have hjl' : (j : Int) < (cmps.length : Int) := by omega
              have hj10'' : (j : Int) < 10 := by omega
              have HST2 := Lib.hid (HSTEP2.out hjl)
              clear HSTEP2 HEND2
              generalize hy : cmps[j] = y at *
              obtain ⟨key, what, how, num, val⟩ := y
              obtain ⟨cs, hcs⟩ : ∃ cs, cs = cmpCells ⟨key, what, how, num, val⟩ := ⟨_, rfl⟩
              rw [← hcs] at hrng2
              have hld := run_ld65 wi b2 _ cs (by rw [hcs]; rfl) hrng2
              have hst2 := run_st65 (wi.alloc (.cells (cmpCells ⟨[], 0, 0, 0, []⟩) 65)) wi.heap.size 0 cs (there_of_block (block_new _ _) (by decide)) (by rw [hcs]; rfl) (by rw [hcs]; exact cmpCells_one _)
              obtain ⟨V1, hV1⟩ : ∃ V : World, V = (wi.alloc (.cells (cmpCells ⟨[], 0, 0, 0, []⟩) 65)).setCells wi.heap.size 0 cs.toList := ⟨_, rfl⟩
              rw [← hV1] at hst2
              obtain ⟨P, hP⟩ : ∃ N : Nat, N = wi.heap.size := ⟨_, rfl⟩
              have hp1 : V1.heap[P]? = some (.cells (cmpCells ⟨key, what, how, num, val⟩) 65 (0, 0)) := by
                rw [hV1, hP, block_setCells_all (block_new _ _) _ (by rw [hcs]; rfl), hcs]
              have hq1 : Keep (fun _ => False) wi V1 := by rw [hV1]; exact ((Keep.refl _ wi).alloc _).setCells _ _ _ (.inl (Nat.le_refl _))
              have HQ1 := Lib.hid hq1
              have HP := Lib.hid hP
              have HP1 := Lib.hid hp1
              have f0 : V1.cell? ⟨P, 0, none⟩ = some (sv key) := cell_of_block hp1 0
              have g0 : V1.frozen? ⟨P, 0, none⟩ = false := free_of_block hp1 0
              clear hrng2 hV1 hcs hki hq1 hp1 hP hy
              unfold cmpCells at hst2
              dsimp only at hst2
              go_upto_region 13 with fail
              rw [← HP.out]
              clear hst2 hld d7
              go_upto_region 14 with fail
              rw [cut50]
              obtain ⟨V2, hV2⟩ : ∃ V : World, V = V1.setCell ⟨P, 0, none⟩ (sv (key.take 50)) := ⟨_, rfl⟩
              rw [← hV2]
              have hp2 : V2.heap[P]? = some (.cells (cmpCells ⟨key.take 50, what, how, num, val⟩) 65 (0, 0)) := by rw [hV2]; exact block_setCell HP1.out 0 _
              have HQ2 := Lib.hid (show Keep (fun _ => False) wi V2 by rw [hV2]; exact HQ1.out.setCell _ _ (.inl (by have := HP.out; simp only; omega)))
              have f4 : V2.cell? ⟨P, 4, none⟩ = some (sv val) := cell_of_block hp2 4
              have g4 : V2.frozen? ⟨P, 4, none⟩ = false := free_of_block hp2 4
              have HP2 := Lib.hid hp2
              clear hV2 f0 g0 HP1 HQ1 hp2
              go_upto_region 15 with fail
              rw [cut50]
              obtain ⟨V3, hV3⟩ : ∃ V : World, V = V2.setCell ⟨P, 4, none⟩ (sv (val.take 50)) := ⟨_, rfl⟩
              rw [← hV3]
              have hp3 : V3.heap[P]? = some (.cells (cmpCells ⟨key.take 50, what, how, num, val.take 50⟩) 65 (0, 0)) := by rw [hV3]; exact block_setCell HP2.out 4 _
              have HQ3 := Lib.hid (show Keep (fun _ => False) wi V3 by rw [hV3]; exact HQ2.out.setCell _ _ (.inl (by have := HP.out; simp only; omega)))
              have hld3 := run_ld65 V3 P 0 (cmpCells ⟨key.take 50, what, how, num, val.take 50⟩) rfl (range_of_block hp3)
              obtain ⟨v', w', hap, h2, h3, h4⟩ := app_cmp V3 B3 (.slice as6 M.length cs6) M ⟨key.take 50, what, how, num, val.take 50⟩ (cmpsAt_far HCM.out HQ3.out) (by have := HMLEN.out; omega) (by have := HQ3.out.size; have := HKI.out.size; have := HB3S.out; omega)
              have HOP2 := Lib.hid h2
              have hown : ∀ g, (Value.slice as6 M.length cs6).ownBlock = some g → B3 ≤ g := fun g hg => (HCM.out.lt g hg).1
              have HKK := Lib.hid (show Keep (fun _ => False) W3 w' from ((HKI.out.trans' HQ3.out).alloc _).trans (Keep.of_grown (M := fun b => some b = (Value.slice as6 M.length cs6).ownBlock) h3 (fun _ e _ => e.symm)) (fun b hb e => by have := hown b e.symm; have := HB3S.out; omega))
              obtain ⟨as7, cs7, hv7, -⟩ := ownsRow_len h2
              subst hv7
              clear hV3 f4 g4 HP2 HQ2 hp3 h2 h3 h4 hown
              refine wp_region_lit ?_
              refine wpList_plain rfl (fun K hK => ?_)
              go_simp
              refine hK _ _ ?_
              clear hK K
              try simp only [Act.put, List.setIfInBounds_toArray, List.set_cons_zero, List.set_cons_succ]
              refine wpList_plain rfl (fun K hK => ?_)
              go_simp
              refine hK _ _ ?_
              clear hK K
              try simp only [Act.put, List.setIfInBounds_toArray, List.set_cons_zero, List.set_cons_succ]
              refine wpList_plain rfl (fun K hK => ?_)
              refine wp_bs_run (.tmp 82) 56 rfl (by exact run_bs56 _ _) ?_
              refine hK _ _ ?_
              clear hK K
              try simp only [Act.put, List.setIfInBounds_toArray, List.set_cons_zero, List.set_cons_succ]
              refine wpList_plain rfl (fun K hK => ?_)
              refine wp_append_run (.tmp 81) (.tmp 83) 56 rfl rfl (by exact hap) ?_
              refine hK _ _ ?_
              clear hK K
              try simp only [Act.put, List.setIfInBounds_toArray, List.set_cons_zero, List.set_cons_succ]
              clear hap hld3
              go_wp2_with fail
              exact ⟨⟨j + 1, by omega, by omega, by go_num, by rw [HST2.out]; exact HOP2.out, HKK.out⟩, by simp [intOf]; omega⟩
            · have hj10'' : ¬ (j : Int) < 10 := by omega
              have hjl' : (j : Int) < (cmps.length : Int) := by omega
              have HE2 := Lib.hid (HEND2.out (.inl (by omega)))
              clear hj hj10 hjl hj10' hki HSTEP2 HEND2
              have e7 : wi.frozen? ⟨N, 7, none⟩ = false := free_of_block HBI.out 7
              go_upto_region 17 with fail
              obtain ⟨W4, hW4⟩ : ∃ W : World, W = wi.setCell ⟨N, 7, none⟩ (.slice as6 M.length cs6) := ⟨_, rfl⟩
              rw [← hW4]
              have hb4 : W4.heap[N]? = some (.cells (stepCells ⟨kind, node, n, ⟨rk, cl, nu, se, cmps, thn, els, rev⟩, ⟨wid, wk.take 50, wf.take 50, wst, wp, wnp, wnd, wpr⟩⟩ (.slice as6 M.length cs6) (.slice at1 thn.length ct) (.slice ae els.length ce)) 63 (0, 0)) := by rw [hW4]; exact block_setCell HBI.out 7 _
              have HK4 := Lib.hid (show Keep (fun _ => False) wo W4 by rw [hW4]; exact (HK3.out.trans' HKI.out).setCell _ _ (.inl (by have := HN.out; simp only; omega)))
              have HC4 := Lib.hid (show CmpsAt W4 B3 (.slice as6 M.length cs6) M by rw [hW4]; exact owns_set HCM.out hNB3)
              have d8 : W4.cell? ⟨N, 8, none⟩ = some (.slice at1 thn.length ct) := cell_of_block hb4 8
              have e8 : W4.frozen? ⟨N, 8, none⟩ = false := free_of_block hb4 8
              have HO1 := Lib.hid (ops_any thn (.slice at1 thn.length ct) W4 hcl2 (HRT.out _ HK4.out))
              have HB4 := Lib.hid hb4
              clear hW4 d7 e7 hb4
              go_wp2_with fail
              refine HO1.out.mono ?_
              rintro e w5 ⟨v5, rfl, hk5, ho5⟩
              obtain ⟨at5, ct5, hv5, -⟩ := ownsRow_len ho5
              subst hv5
              have hb5 := hk5.at' HB4.out (fun e => e)
              have d8' : w5.cell? ⟨N, 8, none⟩ = some (.slice at1 thn.length ct) := cell_of_block hb5 8
              have e8' : w5.frozen? ⟨N, 8, none⟩ = false := free_of_block hb5 8
              have HB5 := Lib.hid hb5
              have HK5 := Lib.hid (HK4.out.trans' hk5)
              have HC5 := Lib.hid (cmpsAt_far HC4.out hk5)
              have HO5 := Lib.hid ho5
              have hN5 : N < W4.heap.size := lt_of_block HB4.out
              clear d8 e8 hk5 hb5 ho5 HO1
              generalize hz5 : (cutOps thn).length = z5 at *
              go_upto_region 18 with fail
              obtain ⟨W6, hW6⟩ : ∃ W : World, W = w5.setCell ⟨N, 8, none⟩ (.slice at5 z5 ct5) := ⟨_, rfl⟩
              rw [← hW6]
              have hb6 : W6.heap[N]? = some (.cells (stepCells ⟨kind, node, n, ⟨rk, cl, nu, se, cmps, thn, els, rev⟩, ⟨wid, wk.take 50, wf.take 50, wst, wp, wnp, wnd, wpr⟩⟩ (.slice as6 M.length cs6) (.slice at5 z5 ct5) (.slice ae els.length ce)) 63 (0, 0)) := by rw [hW6]; exact block_setCell HB5.out 8 _
              have HK6 := Lib.hid (show Keep (fun _ => False) wo W6 by rw [hW6]; exact HK5.out.setCell _ _ (.inl (by have := HN.out; simp only; omega)))
              have HC6 := Lib.hid (show CmpsAt W6 B3 (.slice as6 M.length cs6) M by rw [hW6]; exact owns_set HC5.out hNB3)
              have HO6 := Lib.hid (show OpsAt W6 W4.heap.size (.slice at5 z5 ct5) (cutOps thn) by rw [hW6]; exact owns_set HO5.out hN5)
              have d9 : W6.cell? ⟨N, 9, none⟩ = some (.slice ae els.length ce) := cell_of_block hb6 9
              have e9 : W6.frozen? ⟨N, 9, none⟩ = false := free_of_block hb6 9
              have HO2 := Lib.hid (ops_any els (.slice ae els.length ce) W6 hcl3 (HRE.out _ HK6.out))
              have HB6 := Lib.hid hb6
              clear hW6 d8' e8' hb6
              go_wp2_with fail
              refine HO2.out.mono ?_
              rintro e w7 ⟨v7, rfl, hk7, ho7⟩
              obtain ⟨ae7, ce7, hv7, -⟩ := ownsRow_len ho7
              subst hv7
              have hb7 := hk7.at' HB6.out (fun e => e)
              have d9' : w7.cell? ⟨N, 9, none⟩ = some (.slice ae els.length ce) := cell_of_block hb7 9
              have e9' : w7.frozen? ⟨N, 9, none⟩ = false := free_of_block hb7 9
              have HB7 := Lib.hid hb7
              have HK7 := Lib.hid (HK6.out.trans' hk7)
              have HC7 := Lib.hid (cmpsAt_far HC6.out hk7)
              have HO7 := Lib.hid (opsAt_far HO6.out hk7)
              have HP7 := Lib.hid ho7
              have hN7 : N < W6.heap.size := lt_of_block HB6.out
              clear d9 e9 hk7 hb7 ho7 HO2
              generalize hz7 : (cutOps els).length = z7 at *
              go_upto_region 19 with fail
              obtain ⟨W8, hW8⟩ : ∃ W : World, W = w7.setCell ⟨N, 9, none⟩ (.slice ae7 z7 ce7) := ⟨_, rfl⟩
              rw [← hW8]
              have hb8 : W8.heap[N]? = some (.cells (stepCells ⟨kind, node, n, ⟨rk, cl, nu, se, cmps, thn, els, rev⟩, ⟨wid, wk.take 50, wf.take 50, wst, wp, wnp, wnd, wpr⟩⟩ (.slice as6 M.length cs6) (.slice at5 z5 ct5) (.slice ae7 z7 ce7)) 63 (0, 0)) := by rw [hW8]; exact block_setCell HB7.out 9 _
              have HK8 := Lib.hid (show Keep (fun _ => False) wo W8 by rw [hW8]; exact HK7.out.setCell _ _ (.inl (by have := HN.out; simp only; omega)))
              obtain ⟨sp, hsp⟩ : ∃ sp : StepV, sp = (cutStep ⟨kind, node, n, ⟨rk, cl, nu, se, cmps, thn, els, rev⟩, ⟨wid, wk, wf, wst, wp, wnp, wnd, wpr⟩⟩, (.slice as6 M.length cs6), .slice at5 z5 ct5, .slice ae7 z7 ce7) := ⟨_, rfl⟩
              have hri : ReqIs W8 sp.1.req sp.2.1 sp.2.2.1 sp.2.2.2 := by
                rw [hsp, hW8]
                refine ⟨?_, ?_, ?_⟩
                · show CmpsAt _ 0 _ (cutCmps cmps)
                  rw [HE2.out]
                  exact ownsRow_base (owns_set HC7.out hNB3) (Nat.zero_le _)
                · have h9 := ownsRow_base (owns_set (b := N) (i := 9) (u := .slice ae7 z7 ce7) HO7.out hN5) (Nat.zero_le _)
                  exact h9
                · have h9 := ownsRow_base (owns_set (b := N) (i := 9) (u := .slice ae7 z7 ce7) HP7.out hN7) (Nat.zero_le _)
                  exact h9
              have hcs8 : stepCells ⟨kind, node, n, ⟨rk, cl, nu, se, cmps, thn, els, rev⟩, ⟨wid, wk.take 50, wf.take 50, wst, wp, wnp, wnd, wpr⟩⟩ (.slice as6 M.length cs6) (.slice at5 z5 ct5) (.slice ae7 z7 ce7) = stepEnc sp := by rw [hsp]; rfl
              rw [hcs8] at hb8
              have hsz8 : (stepEnc sp).size = 19 := by rw [hsp]; rfl
              have hld8 := run_ld63 W8 N 0 (stepEnc sp) hsz8 (range_of_block hb8)
              obtain ⟨v', w9, hap, hst9, hk9, -⟩ := app_step W8 (B + 2) (.slice as3 L.length cs3) L sp (HSTS.out.far HK8.out) hri (by have := HLEN.out; omega) (by have := HK8.out.size; have := HKR.out.size; have := HSW.out; omega)
              have hown : ∀ g, (Value.slice as3 L.length cs3).ownBlock = some g → B + 2 ≤ g := fun g hg => by
                obtain ⟨L', -, h9, -⟩ := HSTS.out
                exact (h9.lt g hg).1
              have HKK := Lib.hid (show Keep (fun _ => False) W w9 from (HKR.out.trans' HK8.out).trans hk9 (fun b hb e => by have := hown b e.symm; have := HSW.out; omega))
              obtain ⟨as9, cs9, hv9, -⟩ := hst9.slice
              subst hv9
              have HS9 := Lib.hid hst9
              have HSP := Lib.hid (show sp.1 = cutStep ⟨kind, node, n, ⟨rk, cl, nu, se, cmps, thn, els, rev⟩, ⟨wid, wk, wf, wst, wp, wnp, wnd, wpr⟩⟩ by rw [hsp])
              clear hW8 d9' e9' hb8 hri hcs8 hst9 hk9 hown hsz8 hsp
              refine wp_region_lit ?_
              refine wpList_plain rfl (fun K hK => ?_)
              go_simp
              refine hK _ _ ?_
              clear hK K
              try simp only [Act.put, List.setIfInBounds_toArray, List.set_cons_zero, List.set_cons_succ]
              refine wpList_plain rfl (fun K hK => ?_)
              go_simp
              refine hK _ _ ?_
              clear hK K
              try simp only [Act.put, List.setIfInBounds_toArray, List.set_cons_zero, List.set_cons_succ]
              refine wpList_plain rfl (fun K hK => ?_)
              refine wp_bs_run (.tmp 101) 22 rfl (by exact run_bs22 sp _) ?_
              refine hK _ _ ?_
              clear hK K
              try simp only [Act.put, List.setIfInBounds_toArray, List.set_cons_zero, List.set_cons_succ]
              refine wpList_plain rfl (fun K hK => ?_)
              refine wp_append_run (.tmp 100) (.tmp 102) 22 rfl rfl (by exact hap) ?_
              refine hK _ _ ?_
              clear hK K
              try simp only [Act.put, List.setIfInBounds_toArray, List.set_cons_zero, List.set_cons_succ]
              clear hap hld8
              go_wp2_with fail
              exact ⟨⟨k + 1, by omega, by omega, by go_num, by rw [HST.out, ← HSP.out]; exact HS9.out, HKK.out⟩, by simp [intOf]; omega⟩
          · have hjl' : ¬ (j : Int) < (cmps.length : Int) := by omega
            have HE2 := Lib.hid (HEND2.out (.inr (by omega)))
            clear hj hj10 hjl hki HSTEP2 HEND2
            have e7 : wi.frozen? ⟨N, 7, none⟩ = false := free_of_block HBI.out 7
            go_upto_region 17 with fail
            obtain ⟨W4, hW4⟩ : ∃ W : World, W = wi.setCell ⟨N, 7, none⟩ (.slice as6 M.length cs6) := ⟨_, rfl⟩
            rw [← hW4]
            have hb4 : W4.heap[N]? = some (.cells (stepCells ⟨kind, node, n, ⟨rk, cl, nu, se, cmps, thn, els, rev⟩, ⟨wid, wk.take 50, wf.take 50, wst, wp, wnp, wnd, wpr⟩⟩ (.slice as6 M.length cs6) (.slice at1 thn.length ct) (.slice ae els.length ce)) 63 (0, 0)) := by rw [hW4]; exact block_setCell HBI.out 7 _
            have HK4 := Lib.hid (show Keep (fun _ => False) wo W4 by rw [hW4]; exact (HK3.out.trans' HKI.out).setCell _ _ (.inl (by have := HN.out; simp only; omega)))
            have HC4 := Lib.hid (show CmpsAt W4 B3 (.slice as6 M.length cs6) M by rw [hW4]; exact owns_set HCM.out hNB3)
            have d8 : W4.cell? ⟨N, 8, none⟩ = some (.slice at1 thn.length ct) := cell_of_block hb4 8
            have e8 : W4.frozen? ⟨N, 8, none⟩ = false := free_of_block hb4 8
            have HO1 := Lib.hid (ops_any thn (.slice at1 thn.length ct) W4 hcl2 (HRT.out _ HK4.out))
            have HB4 := Lib.hid hb4
            clear hW4 d7 e7 hb4
            go_wp2_with fail
            refine HO1.out.mono ?_
            rintro e w5 ⟨v5, rfl, hk5, ho5⟩
            obtain ⟨at5, ct5, hv5, -⟩ := ownsRow_len ho5
            subst hv5
            have hb5 := hk5.at' HB4.out (fun e => e)
            have d8' : w5.cell? ⟨N, 8, none⟩ = some (.slice at1 thn.length ct) := cell_of_block hb5 8
            have e8' : w5.frozen? ⟨N, 8, none⟩ = false := free_of_block hb5 8
            have HB5 := Lib.hid hb5
            have HK5 := Lib.hid (HK4.out.trans' hk5)
            have HC5 := Lib.hid (cmpsAt_far HC4.out hk5)
            have HO5 := Lib.hid ho5
            have hN5 : N < W4.heap.size := lt_of_block HB4.out
            clear d8 e8 hk5 hb5 ho5 HO1
            generalize hz5 : (cutOps thn).length = z5 at *
            go_upto_region 18 with fail
            obtain ⟨W6, hW6⟩ : ∃ W : World, W = w5.setCell ⟨N, 8, none⟩ (.slice at5 z5 ct5) := ⟨_, rfl⟩
            rw [← hW6]
            have hb6 : W6.heap[N]? = some (.cells (stepCells ⟨kind, node, n, ⟨rk, cl, nu, se, cmps, thn, els, rev⟩, ⟨wid, wk.take 50, wf.take 50, wst, wp, wnp, wnd, wpr⟩⟩ (.slice as6 M.length cs6) (.slice at5 z5 ct5) (.slice ae els.length ce)) 63 (0, 0)) := by rw [hW6]; exact block_setCell HB5.out 8 _
            have HK6 := Lib.hid (show Keep (fun _ => False) wo W6 by rw [hW6]; exact HK5.out.setCell _ _ (.inl (by have := HN.out; simp only; omega)))
            have HC6 := Lib.hid (show CmpsAt W6 B3 (.slice as6 M.length cs6) M by rw [hW6]; exact owns_set HC5.out hNB3)
            have HO6 := Lib.hid (show OpsAt W6 W4.heap.size (.slice at5 z5 ct5) (cutOps thn) by rw [hW6]; exact owns_set HO5.out hN5)
            have d9 : W6.cell? ⟨N, 9, none⟩ = some (.slice ae els.length ce) := cell_of_block hb6 9
            have e9 : W6.frozen? ⟨N, 9, none⟩ = false := free_of_block hb6 9
            have HO2 := Lib.hid (ops_any els (.slice ae els.length ce) W6 hcl3 (HRE.out _ HK6.out))
            have HB6 := Lib.hid hb6
            clear hW6 d8' e8' hb6
            go_wp2_with fail
            refine HO2.out.mono ?_
            rintro e w7 ⟨v7, rfl, hk7, ho7⟩
            obtain ⟨ae7, ce7, hv7, -⟩ := ownsRow_len ho7
            subst hv7
            have hb7 := hk7.at' HB6.out (fun e => e)
            have d9' : w7.cell? ⟨N, 9, none⟩ = some (.slice ae els.length ce) := cell_of_block hb7 9
            have e9' : w7.frozen? ⟨N, 9, none⟩ = false := free_of_block hb7 9
            have HB7 := Lib.hid hb7
            have HK7 := Lib.hid (HK6.out.trans' hk7)
            have HC7 := Lib.hid (cmpsAt_far HC6.out hk7)
            have HO7 := Lib.hid (opsAt_far HO6.out hk7)
            have HP7 := Lib.hid ho7
            have hN7 : N < W6.heap.size := lt_of_block HB6.out
            clear d9 e9 hk7 hb7 ho7 HO2
            generalize hz7 : (cutOps els).length = z7 at *
            go_upto_region 19 with fail
            obtain ⟨W8, hW8⟩ : ∃ W : World, W = w7.setCell ⟨N, 9, none⟩ (.slice ae7 z7 ce7) := ⟨_, rfl⟩
            rw [← hW8]
            have hb8 : W8.heap[N]? = some (.cells (stepCells ⟨kind, node, n, ⟨rk, cl, nu, se, cmps, thn, els, rev⟩, ⟨wid, wk.take 50, wf.take 50, wst, wp, wnp, wnd, wpr⟩⟩ (.slice as6 M.length cs6) (.slice at5 z5 ct5) (.slice ae7 z7 ce7)) 63 (0, 0)) := by rw [hW8]; exact block_setCell HB7.out 9 _
            have HK8 := Lib.hid (show Keep (fun _ => False) wo W8 by rw [hW8]; exact HK7.out.setCell _ _ (.inl (by have := HN.out; simp only; omega)))
            obtain ⟨sp, hsp⟩ : ∃ sp : StepV, sp = (cutStep ⟨kind, node, n, ⟨rk, cl, nu, se, cmps, thn, els, rev⟩, ⟨wid, wk, wf, wst, wp, wnp, wnd, wpr⟩⟩, (.slice as6 M.length cs6), .slice at5 z5 ct5, .slice ae7 z7 ce7) := ⟨_, rfl⟩
            have hri : ReqIs W8 sp.1.req sp.2.1 sp.2.2.1 sp.2.2.2 := by
              rw [hsp, hW8]
              refine ⟨?_, ?_, ?_⟩
              · show CmpsAt _ 0 _ (cutCmps cmps)
                rw [HE2.out]
                exact ownsRow_base (owns_set HC7.out hNB3) (Nat.zero_le _)
              · have h9 := ownsRow_base (owns_set (b := N) (i := 9) (u := .slice ae7 z7 ce7) HO7.out hN5) (Nat.zero_le _)
                exact h9
              · have h9 := ownsRow_base (owns_set (b := N) (i := 9) (u := .slice ae7 z7 ce7) HP7.out hN7) (Nat.zero_le _)
                exact h9
            have hcs8 : stepCells ⟨kind, node, n, ⟨rk, cl, nu, se, cmps, thn, els, rev⟩, ⟨wid, wk.take 50, wf.take 50, wst, wp, wnp, wnd, wpr⟩⟩ (.slice as6 M.length cs6) (.slice at5 z5 ct5) (.slice ae7 z7 ce7) = stepEnc sp := by rw [hsp]; rfl
            rw [hcs8] at hb8
            have hsz8 : (stepEnc sp).size = 19 := by rw [hsp]; rfl
            have hld8 := run_ld63 W8 N 0 (stepEnc sp) hsz8 (range_of_block hb8)
            obtain ⟨v', w9, hap, hst9, hk9, -⟩ := app_step W8 (B + 2) (.slice as3 L.length cs3) L sp (HSTS.out.far HK8.out) hri (by have := HLEN.out; omega) (by have := HK8.out.size; have := HKR.out.size; have := HSW.out; omega)
            have hown : ∀ g, (Value.slice as3 L.length cs3).ownBlock = some g → B + 2 ≤ g := fun g hg => by
              obtain ⟨L', -, h9, -⟩ := HSTS.out
              exact (h9.lt g hg).1
            have HKK := Lib.hid (show Keep (fun _ => False) W w9 from (HKR.out.trans' HK8.out).trans hk9 (fun b hb e => by have := hown b e.symm; have := HSW.out; omega))
            obtain ⟨as9, cs9, hv9, -⟩ := hst9.slice
            subst hv9
            have HS9 := Lib.hid hst9
            have HSP := Lib.hid (show sp.1 = cutStep ⟨kind, node, n, ⟨rk, cl, nu, se, cmps, thn, els, rev⟩, ⟨wid, wk, wf, wst, wp, wnp, wnd, wpr⟩⟩ by rw [hsp])
            clear hW8 d9' e9' hb8 hri hcs8 hst9 hk9 hown hsz8 hsp
            refine wp_region_lit ?_
            refine wpList_plain rfl (fun K hK => ?_)
            go_simp
            refine hK _ _ ?_
            clear hK K
            try simp only [Act.put, List.setIfInBounds_toArray, List.set_cons_zero, List.set_cons_succ]
            refine wpList_plain rfl (fun K hK => ?_)
            go_simp
            refine hK _ _ ?_
            clear hK K
            try simp only [Act.put, List.setIfInBounds_toArray, List.set_cons_zero, List.set_cons_succ]
            refine wpList_plain rfl (fun K hK => ?_)
            refine wp_bs_run (.tmp 101) 22 rfl (by exact run_bs22 sp _) ?_
            refine hK _ _ ?_
            clear hK K
            try simp only [Act.put, List.setIfInBounds_toArray, List.set_cons_zero, List.set_cons_succ]
            refine wpList_plain rfl (fun K hK => ?_)
            refine wp_append_run (.tmp 100) (.tmp 102) 22 rfl rfl (by exact hap) ?_
            refine hK _ _ ?_
            clear hK K
            try simp only [Act.put, List.setIfInBounds_toArray, List.set_cons_zero, List.set_cons_succ]
            clear hap hld8
            go_wp2_with fail
            exact ⟨⟨k + 1, by omega, by omega, by go_num, by rw [HST.out, ← HSP.out]; exact HS9.out, HKK.out⟩, by simp [intOf]; omega⟩
      · have h200' : ¬ (k : Int) < 200 := by omega
        have hlt' : (k : Int) < (l.length : Int) := by omega
        have HE := Lib.hid (HEND.out (.inl (by omega)))
        clear hk hk200 hlt h200
        have g1 : wo.frozen? ⟨B, 1, none⟩ = false := free_of_block (HKR.out.at' HB0.out (fun e => e)) 1
        have c0 : wo.cell? ⟨B, 0, none⟩ = some (.int .i64 n0) := cell_of_block (HKR.out.at' HB0.out (fun e => e)) 0
        have g0 : wo.frozen? ⟨B, 0, none⟩ = false := free_of_block (HKR.out.at' HB0.out (fun e => e)) 0
        have r0 : wo.cell? ⟨B + 1, 0, none⟩ = some (.int .i64 0) := cell_of_block (HKR.out.at' HB1.out (fun e => e)) 0
        have r1 : wo.cell? ⟨B + 1, 1, none⟩ = some (.slice none 0 0) := cell_of_block (HKR.out.at' HB1.out (fun e => e)) 1
        have q0 : wo.frozen? ⟨B + 1, 0, none⟩ = false := free_of_block (HKR.out.at' HB1.out (fun e => e)) 0
        have q1 : wo.frozen? ⟨B + 1, 1, none⟩ = false := free_of_block (HKR.out.at' HB1.out (fun e => e)) 1
        clear hkr
        go_wp2_with fail
        refine bodyPost_ret (v := .agg #[.int .i64 n0, .slice as3 L.length cs3]) ?_ rfl ⟨_, rfl, ?_, ?_⟩
        · exact results_block (n := 2) (t := 2) (T := 29) rfl Tryz.underlying29 rfl info29b _ _ (B + 1) #[.int .i64 n0, .slice as3 L.length cs3] 29 (0, 0) rfl rfl (block_setCell (block_setCell (((Keep.refl (fun k => k = B) wo).setCell ⟨B, 1, none⟩ (.slice as3 L.length cs3) (.inr rfl)).at' (HKR.out.at' HB1.out (fun e => e)) (by omega)) 0 _) 1 _)
        · have := HB.out
          exact (((HKW.out.trans' HKR.out).setCell _ _ (.inl (by simp only; omega))).setCell _ _ (.inl (by simp only; omega))).setCell _ _ (.inl (by simp only; omega))
        · have hKE : Keep (fun k => k = B ∨ k = B + 1) wo (((wo.setCell ⟨B, 1, none⟩ (.slice as3 L.length cs3)).setCell ⟨B + 1, 0, none⟩ (.int .i64 n0)).setCell ⟨B + 1, 1, none⟩ (.slice as3 L.length cs3)) := (((Keep.refl _ wo).setCell _ _ (.inr (.inl rfl))).setCell _ _ (.inr (.inr rfl))).setCell _ _ (.inr (.inr rfl))
          rw [HE.out]
          refine (HSTS.out.keep hKE ?_ ?_).base (Nat.le_add_right B 2)
          · intro g hg hm
            obtain ⟨L', -, h9, -⟩ := HSTS.out
            have := (h9.lt g hg).1
            omega
          · intro g cs T hc hm
            rcases hm with rfl | rfl
            · have h9 := hc.symm.trans (HKR.out.at' HB0.out (fun e => e))
              injection h9 with h10
              injection h10 with h11 h12
              subst h12
              decide
            · have h9 := hc.symm.trans (HKR.out.at' HB1.out (fun e => e))
              injection h9 with h10
              injection h10 with h11 h12
              subst h12
              decide
    · have hlt' : ¬ (k : Int) < (l.length : Int) := by omega
      have HE := Lib.hid (HEND.out (.inr (by omega)))
      clear hk hk200 hlt
      have g1 : wo.frozen? ⟨B, 1, none⟩ = false := free_of_block (HKR.out.at' HB0.out (fun e => e)) 1
      have c0 : wo.cell? ⟨B, 0, none⟩ = some (.int .i64 n0) := cell_of_block (HKR.out.at' HB0.out (fun e => e)) 0
      have g0 : wo.frozen? ⟨B, 0, none⟩ = false := free_of_block (HKR.out.at' HB0.out (fun e => e)) 0
      have r0 : wo.cell? ⟨B + 1, 0, none⟩ = some (.int .i64 0) := cell_of_block (HKR.out.at' HB1.out (fun e => e)) 0
      have r1 : wo.cell? ⟨B + 1, 1, none⟩ = some (.slice none 0 0) := cell_of_block (HKR.out.at' HB1.out (fun e => e)) 1
      have q0 : wo.frozen? ⟨B + 1, 0, none⟩ = false := free_of_block (HKR.out.at' HB1.out (fun e => e)) 0
      have q1 : wo.frozen? ⟨B + 1, 1, none⟩ = false := free_of_block (HKR.out.at' HB1.out (fun e => e)) 1
      clear hkr
      go_wp2_with fail
      refine bodyPost_ret (v := .agg #[.int .i64 n0, .slice as3 L.length cs3]) ?_ rfl ⟨_, rfl, ?_, ?_⟩
      · exact results_block (n := 2) (t := 2) (T := 29) rfl Tryz.underlying29 rfl info29b _ _ (B + 1) #[.int .i64 n0, .slice as3 L.length cs3] 29 (0, 0) rfl rfl (block_setCell (block_setCell (((Keep.refl (fun k => k = B) wo).setCell ⟨B, 1, none⟩ (.slice as3 L.length cs3) (.inr rfl)).at' (HKR.out.at' HB1.out (fun e => e)) (by omega)) 0 _) 1 _)
      · have := HB.out
        exact (((HKW.out.trans' HKR.out).setCell _ _ (.inl (by simp only; omega))).setCell _ _ (.inl (by simp only; omega))).setCell _ _ (.inl (by simp only; omega))
      · have hKE : Keep (fun k => k = B ∨ k = B + 1) wo (((wo.setCell ⟨B, 1, none⟩ (.slice as3 L.length cs3)).setCell ⟨B + 1, 0, none⟩ (.int .i64 n0)).setCell ⟨B + 1, 1, none⟩ (.slice as3 L.length cs3)) := (((Keep.refl _ wo).setCell _ _ (.inr (.inl rfl))).setCell _ _ (.inr (.inr rfl))).setCell _ _ (.inr (.inr rfl))
        rw [HE.out]
        refine (HSTS.out.keep hKE ?_ ?_).base (Nat.le_add_right B 2)
        · intro g hg hm
          obtain ⟨L', -, h9, -⟩ := HSTS.out
          have := (h9.lt g hg).1
          omega
        · intro g cs T hc hm
          rcases hm with rfl | rfl
          · have h9 := hc.symm.trans (HKR.out.at' HB0.out (fun e => e))
            injection h9 with h10
            injection h10 with h11 h12
            subst h12
            decide
          · have h9 := hc.symm.trans (HKR.out.at' HB1.out (fun e => e))
            injection h9 with h10
            injection h10 with h11 h12
            subst h12
            decide
end Go.Proofs.YtifliekahdgobaaGreatDoor
namespace Go.Proofs.YtifliekahdgobaaGreatDoor
open Sp

/-- the line that the reference lays ahead of a step's -/
def head1 : Str := [110, 111, 100, 101, 115, 32, 49, 10]
theorem head1_eq : head1 = nodesLine 1 := by decide
theorem back_ok {x : StepS} (h : okStep x = true) : parse (head1 ++ join (rstepWords x)) = .ok ⟨1, [x]⟩ := by
  rw [rstep_text h, head1_eq]
  exact parse_one x h
theorem back_step {t : Str} {n : Int} {x : StepS} (h : parse t = .ok ⟨n, [x]⟩) : okStep x = true := by
  have := ((okScript_iff _).1 (parse_ok h)).2.2
  simpa using this
theorem parseGo_err : ∀ (ts : List Str) (s : ScriptS) (no k : Nat) (c : Int), parseGo s no ts = .error (c, k) → 3 ≤ c
  | [], s, no, k, c, h => by
    simp only [parseGo] at h
    split at h
    · injection h with h; injection h with h1 h2; omega
    · cases h
  | t :: ts, s, no, k, c, h => by
    simp only [parseGo] at h
    split at h
    · exact parseGo_err ts _ _ _ _ h
    · rename_i hl
      injection h with h
      injection h with h1 h2
      subst h1
      exact line_err hl
theorem parse_err {t : Str} {k : Nat} {c : Int} (h : parse t = .error (c, k)) : 3 ≤ c := parseGo_err _ _ _ _ _ h
/-- one step that may not be: the script may not be -/
theorem script_no {n : Int} {l : List StepS} {k : Nat} (hk : k < l.length) (h : okStep l[k] = false) : okScript ⟨n, l⟩ = false := by
  cases ho : okScript ⟨n, l⟩
  · rfl
  · have := List.all_eq_true.1 ((okScript_iff _).1 ho).2.2 _ (List.getElem_mem hk)
    rw [h] at this
    cases this
theorem kind_no {x : StepS} (h : x.kind < 0 ∨ 11 < x.kind ∨ x.node < 0 ∨ x.kind = 7 ∧ (x.req.kind < 0 ∨ 3 < x.req.kind)) : okStep x = false := by
  cases ho : okStep x
  · rfl
  · obtain ⟨h0, h1, h2⟩ := (okStep_iff x).1 ho
    have hn : 0 ≤ x.node := by
      unfold okNode at h1
      split at h1
      · rw [okSmall_iff] at h1; omega
      · rw [beq_iff_eq] at h1; omega
    have hr := okStep_req ho
    omega

/-! ### how long a text is -/
structure ShortStep (s : StepS) : Prop where
  wk : s.watch.key.length ≤ 50
  wf : s.watch.fin.length ≤ 50
  lc : s.req.cmps.length ≤ 10
  lt : s.req.thn.length ≤ 12
  le : s.req.els.length ≤ 12
  cmps : ∀ x ∈ s.req.cmps, x.key.length ≤ 50 ∧ x.val.length ≤ 50
  thn : ∀ x ∈ s.req.thn, x.key.length ≤ 50 ∧ x.fin.length ≤ 50 ∧ x.val.length ≤ 50
  els : ∀ x ∈ s.req.els, x.key.length ≤ 50 ∧ x.fin.length ≤ 50 ∧ x.val.length ≤ 50
theorem take_50 (s : Str) : (s.take 50).length ≤ 50 := by rw [List.length_take]; omega
theorem cutOps_short (l : List OpS) : (cutOps l).length ≤ 12 ∧ ∀ x ∈ cutOps l, x.key.length ≤ 50 ∧ x.fin.length ≤ 50 ∧ x.val.length ≤ 50 := by
  unfold cutOps
  refine ⟨by rw [List.length_map, List.length_take]; omega, fun x hx => ?_⟩
  obtain ⟨y, -, rfl⟩ := List.mem_map.1 hx
  exact ⟨take_50 _, take_50 _, take_50 _⟩
theorem cutCmps_short (l : List CmpS) : (cutCmps l).length ≤ 10 ∧ ∀ x ∈ cutCmps l, x.key.length ≤ 50 ∧ x.val.length ≤ 50 := by
  unfold cutCmps
  refine ⟨by rw [List.length_map, List.length_take]; omega, fun x hx => ?_⟩
  obtain ⟨y, -, rfl⟩ := List.mem_map.1 hx
  exact ⟨take_50 _, take_50 _⟩
theorem cut_short (l : List StepS) : ∀ x ∈ cutSteps l, ShortStep x := by
  unfold cutSteps
  intro x hx
  obtain ⟨y, -, rfl⟩ := List.mem_map.1 hx
  exact ⟨take_50 _, take_50 _, (cutCmps_short _).1, (cutOps_short _).1, (cutOps_short _).1, (cutCmps_short _).2, (cutOps_short _).2, (cutOps_short _).2⟩
theorem flat_le {α : Type} (f : α → List Str) (m n : Nat) : ∀ l : List α, (∀ x ∈ l, (∀ y ∈ f x, y.length ≤ m) ∧ (f x).length ≤ n) → (∀ y ∈ l.flatMap f, y.length ≤ m) ∧ (l.flatMap f).length ≤ l.length * n
  | [], _ => by simp
  | x :: l, h => by
    obtain ⟨h1, h2⟩ := flat_le f m n l (fun x hx => h x (.tail _ hx))
    obtain ⟨h3, h4⟩ := h x (.head _)
    rw [List.flatMap_cons]
    refine ⟨fun y hy => ?_, ?_⟩
    · rcases List.mem_append.1 hy with hy | hy
      · exact h3 y hy
      · exact h1 y hy
    · rw [List.length_append, List.length_cons, Nat.add_mul, Nat.one_mul]
      omega
theorem hex_le {s : Str} (h : s.length ≤ 50) : (hexText s).length ≤ 101 := by have := hexText_len s; omega
theorem ud_le (n : Int) : (ud n).length ≤ 101 := Nat.le_trans (dig_len _) (by omega)
theorem mark_le {ls : Str} (h : ls.length ≤ 4) (is : List Bool) : (markText ls is).length ≤ 101 := by have := markText_len ls is; omega
theorem rop_le {x : OpS} (h1 : x.key.length ≤ 50) (h2 : x.fin.length ≤ 50) (h3 : x.val.length ≤ 50) : (∀ y ∈ ropWords x, y.length ≤ 101) ∧ (ropWords x).length ≤ 6 := by
  unfold ropWords
  split
  · refine ⟨?_, by simp⟩
    simp only [List.mem_cons, List.mem_nil_iff, or_false]
    rintro y (rfl | rfl | rfl | rfl | rfl | rfl)
    · decide
    · exact hex_le h1
    · exact hex_le h2
    · exact ud_le _
    · exact ud_le _
    · exact mark_le (by decide) _
  · split
    · refine ⟨?_, by simp⟩
      simp only [List.mem_cons, List.mem_nil_iff, or_false]
      rintro y (rfl | rfl | rfl | rfl)
      · decide
      · exact hex_le h1
      · exact hex_le h3
      · exact mark_le (by decide) _
    · refine ⟨?_, by simp⟩
      simp only [List.mem_cons, List.mem_nil_iff, or_false]
      rintro y (rfl | rfl | rfl | rfl)
      · decide
      · exact hex_le h1
      · exact hex_le h2
      · exact mark_le (by decide) _
theorem rcmp_le {x : CmpS} (h1 : x.key.length ≤ 50) (h2 : x.val.length ≤ 50) : (∀ y ∈ rcmpWords x, y.length ≤ 101) ∧ (rcmpWords x).length ≤ 6 := by
  unfold rcmpWords
  refine ⟨?_, by simp⟩
  simp only [List.mem_cons, List.mem_nil_iff, or_false]
  rintro y (rfl | rfl | rfl | rfl | rfl | rfl)
  · decide
  · exact ud_le _
  · exact ud_le _
  · exact ud_le _
  · exact hex_le h1
  · exact hex_le h2
theorem getD_le {l : List Str} {m : Nat} (h : ∀ y ∈ l, y.length ≤ m) (k : Nat) : (l.getD k []).length ≤ m := by
  rw [List.getD_eq_getElem?_getD]
  rcases hk : l[k]? with _ | y
  · simp
  · exact h y (List.mem_of_getElem? hk)
theorem kind_le (k : Nat) : (kinds.getD k []).length ≤ 101 := getD_le (by decide) k
theorem name_le (k : Nat) : (names.getD k []).length ≤ 101 := getD_le (by decide) k
theorem rreq_le {r : ReqS} (h1 : r.cmps.length ≤ 10) (h2 : r.thn.length ≤ 12) (h3 : r.els.length ≤ 12) (h4 : ∀ x ∈ r.cmps, x.key.length ≤ 50 ∧ x.val.length ≤ 50)
    (h5 : ∀ x ∈ r.thn, x.key.length ≤ 50 ∧ x.fin.length ≤ 50 ∧ x.val.length ≤ 50) (h6 : ∀ x ∈ r.els, x.key.length ≤ 50 ∧ x.fin.length ≤ 50 ∧ x.val.length ≤ 50) : (∀ y ∈ rreqWords r, y.length ≤ 101) ∧ (rreqWords r).length ≤ 240 := by
  have a1 := flat_le rcmpWords 101 6 r.cmps (fun x hx => rcmp_le (h4 x hx).1 (h4 x hx).2)
  have a2 := flat_le (fun x => wThen :: ropWords x) 101 7 r.thn (fun x hx => ⟨fun y hy => by
    rcases List.mem_cons.1 hy with rfl | hy
    · decide
    · exact (rop_le (h5 x hx).1 (h5 x hx).2.1 (h5 x hx).2.2).1 y hy, by have := (rop_le (h5 x hx).1 (h5 x hx).2.1 (h5 x hx).2.2).2; simp only [List.length_cons]; omega⟩)
  have a3 := flat_le (fun x => wElse :: ropWords x) 101 7 r.els (fun x hx => ⟨fun y hy => by
    rcases List.mem_cons.1 hy with rfl | hy
    · decide
    · exact (rop_le (h6 x hx).1 (h6 x hx).2.1 (h6 x hx).2.2).1 y hy, by have := (rop_le (h6 x hx).1 (h6 x hx).2.1 (h6 x hx).2.2).2; simp only [List.length_cons]; omega⟩)
  unfold rreqWords
  refine ⟨fun y hy => ?_, ?_⟩
  · rcases List.mem_append.1 hy with hy | hy
    · rcases List.mem_append.1 hy with hy | hy
      · rcases List.mem_append.1 hy with hy | hy
        · simp only [List.mem_cons, List.mem_nil_iff, or_false] at hy
          rcases hy with rfl | rfl | rfl | rfl | rfl
          · exact kind_le _
          · exact ud_le _
          · exact ud_le _
          · exact mark_le (by decide) _
          · exact ud_le _
        · exact a1.1 y hy
      · exact a2.1 y hy
    · exact a3.1 y hy
  · simp only [List.length_append, List.length_cons, List.length_nil]
    omega
theorem rstep_short {s : StepS} (h : ShortStep s) : (join (rstepWords s)).length ≤ 50000 := by
  have hb : (∀ y ∈ rbodyWords s, y.length ≤ 101) ∧ (rbodyWords s).length ≤ 240 := by
    unfold rbodyWords
    split
    · simp
    · split
      · unfold rwatchWords
        refine ⟨?_, by simp⟩
        simp only [List.mem_cons, List.mem_nil_iff, or_false]
        rintro y (rfl | rfl | rfl | rfl | rfl)
        · exact ud_le _
        · exact hex_le h.wk
        · exact hex_le h.wf
        · exact ud_le _
        · exact mark_le (by decide) _
      · split
        · exact rreq_le h.lc h.lt h.le h.cmps h.thn h.els
        · refine ⟨?_, by simp⟩
          simp only [List.mem_cons, List.mem_nil_iff, or_false]
          rintro y rfl
          exact ud_le _
  have hn : (∀ y ∈ rnodeWords s, y.length ≤ 101) ∧ (rnodeWords s).length ≤ 1 := by
    unfold rnodeWords
    split
    · refine ⟨?_, by simp⟩
      simp only [List.mem_cons, List.mem_nil_iff, or_false]
      rintro y rfl
      exact ud_le _
    · simp
  have hw : ∀ y ∈ rstepWords s, y.length ≤ 101 := by
    unfold rstepWords
    intro y hy
    rcases List.mem_cons.1 hy with rfl | hy
    · exact name_le _
    · rcases List.mem_append.1 hy with hy | hy
      · exact hn.1 y hy
      · exact hb.1 y hy
  have hl : (rstepWords s).length ≤ 242 := by
    unfold rstepWords
    simp only [List.length_cons, List.length_append]
    omega
  have := join_len (rstepWords s) 101 hw
  omega
end Go.Proofs.YtifliekahdgobaaGreatDoor
