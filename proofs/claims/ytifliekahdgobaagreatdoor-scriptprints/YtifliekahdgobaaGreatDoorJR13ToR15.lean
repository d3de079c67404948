/-
  THE REFERENCE's WALKS, 13: line, of any other line (printed by wip/tools/gen_rline2.py). Helpers of the claims.
  THE REFERENCE's WALKS, 14: line whole. Helpers of the claims.
  PLAIN: a text cut at its newlines, by index. Helpers of the claims.
  THE REFERENCE's WALKS, 15: Parse. Helpers of the claims.
-/
import Derived.Test.YtifliekahdgobaaGreatDoorJW12ToR12
import Derived.Test.YtifliekahdgobaaGreatDoorJSpecToW1
set_option linter.unusedSimpArgs false
set_option linter.unusedVariables false
namespace Go.Proofs.YtifliekahdgobaaGreatDoor
open Go.RowKit Sp

theorem rline_done {base gb : Nat} {v v' : Value} {s : ScriptS} {y : StepS} {w V0 w9 : World} {po : Except Int ScriptS} (hs9 : w9.heap[gb]? = some (.cells #[.int .i64 s.nodes, v] 29 (0, 0))) (hst9 : StepsAt w9 base v' (s.steps ++ [y]))
    (hk9 : Keep (fun b => some b = v.ownBlock) V0 w9) (hk : Keep (fun _ => False) w V0) (hpo : po = .ok { s with steps := s.steps ++ [y] }) : GotRLine base gb v w po (.returned (.int .i64 0)) (w9.setCell ⟨gb, 1, none⟩ v') := by
  subst hpo
  have hkG : Keep (fun b => b = gb) w9 (w9.setCell ⟨gb, 1, none⟩ v') := (Keep.refl (fun b => b = gb) w9).setCell _ _ (.inr rfl)
  exact ⟨((hk.mono (fun _ _ e => e.elim)).trans hk9 (fun b _ e => .inr e)).setCell _ _ (.inr (.inl rfl)), rfl, v', block_setCell hs9 1 v', hst9.own hs9 hkG⟩

set_option maxRecDepth 100000 in
set_option maxHeartbeats 1600000 in
theorem rline_other (base gb rb off c : Nat) (v : Value) (s : ScriptS) (x : Str) (ws : List Str) (w : World) (hs : RScriptAt w base gb s v) (hw : WordsR w rb off c (x :: ws)) (hx0 : (x == [110, 111, 100, 101, 115]) = false) (hbase : base ≤ w.heap.size) (h0 : 0 ≤ s.nodes) :
    Calls Tryz.prog 29 #[.pointer (some ⟨gb, 0, none⟩), .slice (some ⟨rb, off, none⟩) (ws.length + 1) c] w (GotRLine base gb v w (line s (x :: ws))) := by
  have hx : w.cell? ⟨rb, off, none⟩ = some (.string ⟨x.toArray⟩) := hw.cells 0 x rfl
  have hrb : rb < w.heap.size := World.block_lt_of_cell? _ _ hx
  obtain ⟨off', c', hsl, hln⟩ := rline_new hw
  have hgb := lt_of_block hs.1
  obtain ⟨po, hpo⟩ : ∃ po, po = line s (x :: ws) := ⟨_, rfl⟩
  have hpo2 : po = match kindOf names x with
      | none => .error 19
      | some k => match pstep k ws with
        | none => .error 4
        | some y => if s.nodes ≤ 0 then .error 4 else if 4096 ≤ s.steps.length then .error 3 else .ok { s with steps := s.steps ++ [y] } := by
    rw [hpo]
    show (if x = wNodes then _ else _) = _
    rw [if_neg (show ¬ x = wNodes from by have h9 : ¬ x = [110, 111, 100, 101, 115] := by simpa using hx0
                                          exact h9)]
    rfl
  rw [← hpo]
  have HPO := Lib.hid hpo2
  clear hpo hpo2
  obtain ⟨W, hW⟩ : ∃ W : World, W = w.alloc (.cells #[.slice (some ⟨rb, off', none⟩) ws.length c', .bool false] 124 (0, 0)) := ⟨_, rfl⟩
  rw [← hW] at hln
  have hkW : Keep (fun _ => False) w W := by rw [hW]; exact (Keep.refl _ w).alloc _
  have hxW := hkW.cellOf hx (fun e => e)
  have hxW2 : (w.alloc (.cells #[.slice (some ⟨rb, off', none⟩) ws.length c', .bool false] 124 (0, 0))).cell? ⟨rb, off, none⟩ = some (.string ⟨x.toArray⟩) := by rw [← hW]; exact hxW
  have hsW := hkW.at' hs.1 (fun e => e)
  have HSW := Lib.hid hsW
  have HST := Lib.hid (hs.2.far hkW)
  have HLN := Lib.hid hln
  have HW := Lib.hid hW
  have HXW := Lib.hid hxW
  have hg : ¬ gb = w.heap.size := by omega
  have HVL := Lib.hid hs.2.lt
  clear hW hsW hln hx hw hs hxW
  go_enter Tryz.func29, Tryz.ntmps29
  go_wp2_with fail
  rw [← HW.out]
  clear hsl HW hxW2
  generalize hlb : w.heap.size = lb at *
  have HLB := Lib.hid hlb
  clear hlb
  refine (rnames_walk W).mono ?_
  rintro e W1 ⟨rfl, hk1⟩
  obtain ⟨cs, hcs⟩ : ∃ cs, cs = (names.map fun y => sv y).toArray := ⟨_, rfl⟩
  have hcs4 : cs.size = 12 := by rw [hcs]; rfl
  have hcs1 : cs.all (·.oneCell') = true := by rw [hcs]; simp [names, one_str]
  rw [← hcs]
  obtain ⟨K, hK⟩ : ∃ K, K = W1.heap.size := ⟨_, rfl⟩
  have hst := run_st125 (W1.alloc (.cells #[.string ⟨#[]⟩, .string ⟨#[]⟩, .string ⟨#[]⟩, .string ⟨#[]⟩, .string ⟨#[]⟩, .string ⟨#[]⟩, .string ⟨#[]⟩, .string ⟨#[]⟩, .string ⟨#[]⟩, .string ⟨#[]⟩, .string ⟨#[]⟩, .string ⟨#[]⟩] 125)) K 0 cs (there_of_block (by rw [hK]; exact block_new _ _) (by decide)) hcs4 hcs1
  rw [hK] at hst
  obtain ⟨V, hV⟩ : ∃ V, V = (W1.alloc (.cells #[.string ⟨#[]⟩, .string ⟨#[]⟩, .string ⟨#[]⟩, .string ⟨#[]⟩, .string ⟨#[]⟩, .string ⟨#[]⟩, .string ⟨#[]⟩, .string ⟨#[]⟩, .string ⟨#[]⟩, .string ⟨#[]⟩, .string ⟨#[]⟩, .string ⟨#[]⟩] 125)).setCells W1.heap.size 0 cs.toList := ⟨_, rfl⟩
  have hkV : Keep (fun _ => False) W1 V := by rw [hV]; exact ((Keep.refl _ W1).alloc _).setCells _ _ _ (.inl (Nat.le_refl _))
  have hbV : V.heap[K]? = some (.cells cs 125 (0, 0)) := by
    rw [hV, hK]
    have := block_setCells_all (block_new W1 (.cells #[.string ⟨#[]⟩, .string ⟨#[]⟩, .string ⟨#[]⟩, .string ⟨#[]⟩, .string ⟨#[]⟩, .string ⟨#[]⟩, .string ⟨#[]⟩, .string ⟨#[]⟩, .string ⟨#[]⟩, .string ⟨#[]⟩, .string ⟨#[]⟩, .string ⟨#[]⟩] 125 (0, 0))) cs.toList (by simp [hcs4])
    rwa [Array.toArray_toList] at this
  rw [← hV] at hst
  have HKV := Lib.hid (hk1.trans' hkV)
  have HBV := Lib.hid hbV
  have HCS := Lib.hid hcs
  have HK := Lib.hid hK
  clear hk1 hkV hbV hcs hK hV
  go_wp2_with fail
  rw [← HK.out]
  clear hst HK
  go_loopw [8] (fun v8 wr => ∃ k : Nat, v8 = .int .i64 k ∧ k ≤ 12 ∧ Keep (fun _ => False) V wr ∧ ∀ j, j < k → nm j ≠ x) (fun v8 _ => (12 - intOf v8).toNat)
  case atStart => exact ⟨0, rfl, by omega, Keep.refl _ _, fun j hj => by omega⟩
  case round =>
    obtain ⟨k, rfl, hk12, hkr, hno⟩ := hrel
    have HKR := Lib.hid hkr
    have HNO := Lib.hid hno
    clear hkr hno
    by_cases hk : k < 12
    · have hki : (k : Int) < 12 := by omega
      have hck : wr.cell? ⟨K, k, none⟩ = some (sv (nm k)) := by
        rw [cell_of_block (HKR.out.at' HBV.out (fun e => e)) k, HCS.out]
        unfold nm
        simp [List.getElem?_eq_getElem (show k < names.length from hk), List.getD_eq_getElem?_getD]
      have hcx : wr.cell? ⟨rb, off, none⟩ = some (.string ⟨x.toArray⟩) := (HKV.out.trans' HKR.out).cellOf HXW.out (fun e => e)
      by_cases hxy : (nm k == x) = true
      · have hxy2 : (nm k != x) = false := by rw [bne, hxy]; rfl
        go_wp2_with fail
        go_quiet (fail)
        go_wp2_with fail
        have hkd : kindOf names x = some k := by
          have hxe : nm k = x := by simpa using hxy
          rcases hq : kindOf names x with _ | j
          · exact absurd hxe (kindOf_none hq k hk)
          · obtain ⟨h1, h2⟩ := kindOf_some hq
            rw [nm_inj j h1 k hk (by rw [← h2, hxe])]
        have hkc := HKV.out.trans' (HKR.out.drewN nq)
        obtain ⟨U0, hU0⟩ : ∃ U0, U0 = wr.drewN nq := ⟨_, rfl⟩
        rw [← hU0] at hkc
        rw [← hU0]
        have hLc := HLN.out.keep hkc (fun e => e) (fun e => e)
        have hrc : rb < U0.heap.size := Nat.lt_of_lt_of_le hrb (by have := HLB.out; have := (hkW.trans' hkc).size; omega)
        refine (rstep_any lb rb ws false k hk U0 hLc hrc).mono ?_
        rintro e w1 ⟨hk1, y, vc, vt, ve, ws', b1, rfl, hri, hl1, hD⟩
        have hsc := hkc.at' HSW.out (fun e => e)
        have hstc := HST.out.far hkc
        have hkk1 : Keep (fun _ => False) w w1 := (hkW.trans' hkc).trans hk1 (fun b hb e => by have := HLB.out; omega)
        have hpo : (b1 = true → po = .error 4) ∧ (b1 = false → po = if s.nodes ≤ 0 then .error 4 else if 4096 ≤ s.steps.length then .error 3 else .ok { s with steps := s.steps ++ [y] }) := by
          rw [HPO.out, hkd]
          dsimp only
          rcases hD with ⟨-, h2, rfl⟩ | ⟨h2, rfl⟩
          · refine ⟨by simp, fun _ => ?_⟩
            rw [h2]
          · refine ⟨fun _ => ?_, by simp⟩
            have h3 : pstep k ws = none := by simpa using h2
            rw [h3]
        obtain ⟨a1, c1, rfl, -⟩ := ownsRow_len hri.1
        obtain ⟨a2, c2, rfl, -⟩ := ownsRow_len hri.2.1
        obtain ⟨a3, c3, rfl, -⟩ := ownsRow_len hri.2.2
        obtain ⟨sp, hsp⟩ : ∃ sp : StepV, sp = (y, .slice a1 y.req.cmps.length c1, .slice a2 y.req.thn.length c2, .slice a3 y.req.els.length c3) := ⟨_, rfl⟩
        obtain ⟨cs2, hcs2⟩ : ∃ c, c = stepEnc sp := ⟨_, rfl⟩
        have hcs3 : cs2 = stepCells y (.slice a1 y.req.cmps.length c1) (.slice a2 y.req.thn.length c2) (.slice a3 y.req.els.length c3) := by rw [hcs2, hsp]; rfl
        have hsz : cs2.size = 19 := by rw [hcs3]; rfl
        have hone : cs2.all (·.oneCell') = true := by rw [hcs3]; exact stepCells_one _ _ _ _ rfl rfl rfl
        have hbZ := block_new w1 (.cells (stepCells .zero nilS nilS nilS) 63 (0, 0))
        obtain ⟨U, hU⟩ : ∃ U : World, U = (w1.alloc (.cells (stepCells .zero nilS nilS nilS) 63 (0, 0))).setCells w1.heap.size 0 cs2.toList := ⟨_, rfl⟩
        have hst : (stT 63 (.pointer (some ⟨w1.heap.size, 0, none⟩)) (.agg cs2)).run Tryz.prog (w1.alloc (.cells #[.int .i64 0, .int .i64 0, .int .u64 0, .int .i64 0, .int .u64 0, .int .u64 0, .bool false, .slice none 0 0, .slice none 0 0, .slice none 0 0, .int .u64 0, .int .u64 0, .string ⟨#[]⟩, .string ⟨#[]⟩, .int .u64 0, .bool false, .bool false, .bool false, .bool false] 63 (0, 0))) = .ok .skip U := by
          rw [hU]
          exact run_st63 _ _ 0 cs2 (there_of_block hbZ (Nat.le_refl 19)) hsz hone
        have hbU : U.heap[w1.heap.size]? = some (.cells cs2 63 (0, 0)) := by
          have h9 := block_setCells_all hbZ cs2.toList (by simp [hsz, stepCells])
          rw [Array.toArray_toList] at h9
          rw [hU]
          exact h9
        have hkU : Keep (fun _ => False) w1 U := by rw [hU]; exact ((Keep.refl _ w1).alloc _).setCells _ _ _ (.inl (Nat.le_refl _))
        have hs1 := hkU.at' (hk1.at' hsc hg) (fun e => e)
        have hst1 := (hstc.rline hLc hk1 (fun g hg e => by have := HLB.out; have := (HVL.out g hg).2; omega)).far hkU
        have hri1 : ReqIs U y.req (.slice a1 y.req.cmps.length c1) (.slice a2 y.req.thn.length c2) (.slice a3 y.req.els.length c3) := hri.keep hkU (fun _ _ _ _ e => e.elim)
        have hkkU := hkk1.trans' hkU
        have hUs := hkkU.size
        obtain ⟨av, cv, hv, -⟩ := hst1.slice
        have hc0 : U.cell? ⟨gb, 0, none⟩ = some (.int .i64 s.nodes) := cell_of_block hs1 0
        have hc1 : U.cell? ⟨gb, 1, none⟩ = some (.slice av s.steps.length cv) := by rw [← hv]; exact cell_of_block hs1 1
        have hcb : U.cell? ⟨lb, 1, none⟩ = some (.bool b1) := (hl1.keep hkU (fun e => e) (fun e => e)).cellBad
        obtain ⟨P8, hP8⟩ : ∃ p, p = w1.heap.size := ⟨_, rfl⟩
        have hld8 := run_ld63 U P8 0 cs2 hsz (range_of_block (by rw [hP8]; exact hbU))
        have HP := Lib.hid hpo
        have HS1 := Lib.hid hs1
        have HST1 := Lib.hid hst1
        have HRI := Lib.hid hri1
        have HCS2 := Lib.hid hcs2
        have HSP := Lib.hid hsp
        have HV := Lib.hid hv
        have HKU := Lib.hid hkkU
        have HUS := Lib.hid hUs
        have HP8 := Lib.hid hP8
        have HBU := Lib.hid hbU
        dsimp only
        rw [← hcs3]
        clear hs1 hst1 hri1 hcs2 hsp hv hkkU hUs hP8 hcs3 hbU hkU hU hbZ hri hl1 hpo hone hk1 hkk1 hD hsc hstc hLc hkc hU0 hkd HPO HSW HST HLN HXW HKV HBV HCS HKR HNO hck hcx hxy hxy2
        cases b1
        · have hpo : po = if s.nodes ≤ 0 then .error 4 else if 4096 ≤ s.steps.length then .error 3 else .ok { s with steps := s.steps ++ [y] } := HP.out.2 rfl
          have HPOY := Lib.hid hpo
          clear hpo HP
          by_cases hn0 : s.nodes = 0
          · have hnz : (s.nodes == 0) = true := by simpa using hn0
            have HE := Lib.hid (show po = .error 4 by rw [HPOY.out, if_pos (by omega)])
            clear hn0
            go_wp2_with fail
            go_ret
            refine ⟨HKU.out.mono (fun _ _ e => e.elim), ?_⟩
            rw [HE.out]
            exact rfl
          have hnz : (s.nodes == 0) = false := by simpa using hn0
          by_cases hn1 : (s.steps.length : Int) ≥ 4096
          · have HE := Lib.hid (show po = .error 3 by rw [HPOY.out, if_neg (by omega), if_pos (by omega)])
            go_wp2_with fail
            go_ret
            refine ⟨HKU.out.mono (fun _ _ e => e.elim), ?_⟩
            rw [HE.out]
            exact rfl
          · go_wp2_with fail
            rw [← HP8.out]
            refine wp_region_held_drew (S := fun _ => True) (by kernel_rfl) trivial (fun hHeld => ?_)
            have hkD : Keep (fun _ => False) U U.drew := (Keep.refl _ U).drew
            have hsD := hkD.at' HS1.out (fun e => e)
            have hc1D : U.drew.cell? ⟨gb, 1, none⟩ = some (.slice av s.steps.length cv) := hc1
            have hld9 := run_ld63 U.drew P8 0 cs2 hsz (range_of_block (by rw [HP8.out]; exact HBU.out))
            have hriD : ReqIs U.drew sp.1.req sp.2.1 sp.2.2.1 sp.2.2.2 := by rw [HSP.out]; exact HRI.out.keep hkD (fun _ _ _ _ e => e.elim)
            have hkD2 := HKU.out.trans' hkD
            obtain ⟨v', w9, hap, hst9, hk9, -⟩ := app_step U.drew base v s.steps sp (HST1.out.far hkD) hriD (by omega) (by have := hkD2.size; have := HLB.out; omega)
            have hngb : ¬ some gb = v.ownBlock := fun e => (HST1.out.far hkD).notR hsD e.symm
            have hs9 := hk9.at' hsD hngb
            have hc9 : w9.cell? ⟨gb, 1, none⟩ = some v := cell_of_block hs9 1
            have hf9 := free_of_block hs9 1
            rw [HV.out] at hap hc9
            obtain ⟨pa, pn, pc, hve⟩ : ∃ a n c, v' = .slice a n c := let ⟨a, c, h, _⟩ := hst9.slice; ⟨a, _, c, h⟩
            subst hve
            have HS9 := Lib.hid hs9
            have HST9 := Lib.hid hst9
            have HK9 := Lib.hid hk9
            have HKD2 := Lib.hid hkD2
            have HSD := Lib.hid hsD
            clear hs9 hst9 hk9 hkD2 hsD hriD hkD hld8 hc0 hc1
            generalize U.drew = V0 at *
            refine wpAnyH_take (i := 0) (v := ?_) rfl (by kernel_rfl) (by kernel_rfl) (by kernel_rfl) (fun _ _ _ h => h) (Or.inl ⟨by rfl, ?_⟩) (by assumption) ?_
            rotate_left
            · (intro w hSw; (try dsimp only at hSw); go_simp; try with_reducible rfl)
            try simp only [Act.put, List.setIfInBounds_toArray, List.set_cons_zero, List.set_cons_succ]
            refine wpAnyH_take (i := 1) (v := ?_) rfl (by kernel_rfl) (by kernel_rfl) (by kernel_rfl) (fun _ _ _ h => h) (Or.inl ⟨by rfl, ?_⟩) (by assumption) ?_
            rotate_left
            · (intro w hSw; (try dsimp only at hSw); go_simp; try with_reducible rfl)
            try simp only [Act.put, List.setIfInBounds_toArray, List.set_cons_zero, List.set_cons_succ]
            refine wpAnyH_take (i := 2) (v := ?_) rfl (by kernel_rfl) (by kernel_rfl) (by kernel_rfl) (fun _ _ _ h => h) (Or.inl ⟨by rfl, ?_⟩) (by assumption) ?_
            rotate_left
            · (intro w hSw; (try dsimp only at hSw); go_simp; try with_reducible rfl)
            try simp only [Act.put, List.setIfInBounds_toArray, List.set_cons_zero, List.set_cons_succ]
            refine wpAnyH_take (i := 3) (v := ?_) rfl (by kernel_rfl) (by kernel_rfl) (by kernel_rfl) (fun _ _ _ h => h) (Or.inl ⟨by rfl, ?_⟩) (by assumption) ?_
            rotate_left
            · (intro w hSw; (try dsimp only at hSw); go_simp; try with_reducible rfl)
            try simp only [Act.put, List.setIfInBounds_toArray, List.set_cons_zero, List.set_cons_succ]
            refine wpAnyH_ready (rs := [4, 5]) (by kernel_rfl) (by simp) ?_
            refine AllReadyH.cons (o := ?_) (by simp only [List.getElem?_toArray, List.getElem?_cons_succ, List.getElem?_cons_zero]; exact rfl) (fun K hK => ?_) (AllReadyH.cons (o := ?_) (by simp only [List.getElem?_toArray, List.getElem?_cons_succ, List.getElem?_cons_zero]; exact rfl) (fun K hK => ?_) AllReadyH.nil)
            · go_simp
              refine hK.out _ _ trivial (fun hHeld => ?_)
              clear hK K
              try simp only [Act.put, List.setIfInBounds_toArray, List.set_cons_zero, List.set_cons_succ]
              refine wpAnyH_ready (rs := [5]) (by kernel_rfl) (by simp) ?_
              refine AllReadyH.cons (o := ?_) (by simp only [List.getElem?_toArray, List.getElem?_cons_succ, List.getElem?_cons_zero]; exact rfl) (fun K hK => ?_) AllReadyH.nil
              go_simp
              refine hK.out _ _ trivial (fun hHeld => ?_)
              clear hK K
              try simp only [Act.put, List.setIfInBounds_toArray, List.set_cons_zero, List.set_cons_succ]
              refine wpAnyH_ready (rs := [6]) (by kernel_rfl) (by simp) ?_
              refine AllReadyH.cons (o := ?_) (by simp only [List.getElem?_toArray, List.getElem?_cons_succ, List.getElem?_cons_zero]; exact rfl) (fun K hK => ?_) AllReadyH.nil
              rw [if_pos (by rfl)]
              refine wp_bs_run (.tmp 85) 22 rfl (by rw [HCS2.out]; exact run_bs22 sp _) ?_
              refine hK.out _ _ trivial (fun hHeld => ?_)
              clear hK K
              try simp only [Act.put, List.setIfInBounds_toArray, List.set_cons_zero, List.set_cons_succ]
              refine wpAnyH_ready (rs := [7]) (by kernel_rfl) (by simp) ?_
              refine AllReadyH.cons (o := ?_) (by simp only [List.getElem?_toArray, List.getElem?_cons_succ, List.getElem?_cons_zero]; exact rfl) (fun K hK => ?_) AllReadyH.nil
              rw [if_pos (by rfl)]
              refine wp_append_run (.tmp 84) (.tmp 86) 22 rfl rfl (by exact hap) ?_
              refine hK.out _ _ trivial (fun hHeld => ?_)
              clear hK K
              try simp only [Act.put, List.setIfInBounds_toArray, List.set_cons_zero, List.set_cons_succ]
              refine wpAnyH_take (i := 8) (v := ?_) rfl (by kernel_rfl) (by kernel_rfl) (by kernel_rfl) (fun _ _ _ h => h) (Or.inl ⟨by rfl, ?_⟩) (by assumption) ?_
              rotate_left
              · (intro w hSw; (try dsimp only at hSw); go_simp; try with_reducible rfl)
              try simp only [Act.put, List.setIfInBounds_toArray, List.set_cons_zero, List.set_cons_succ]
              refine wpAnyH_take (i := 9) (v := ?_) rfl (by kernel_rfl) (by kernel_rfl) (by kernel_rfl) (fun _ _ _ h => h) (Or.inl ⟨by rfl, ?_⟩) (by assumption) ?_
              rotate_left
              · (intro w hSw; (try dsimp only at hSw); go_simp; try with_reducible rfl)
              try simp only [Act.put, List.setIfInBounds_toArray, List.set_cons_zero, List.set_cons_succ]
              refine wpAnyH_ready (rs := [10]) (by kernel_rfl) (by simp) ?_
              refine AllReadyH.cons (o := ?_) (by simp only [List.getElem?_toArray, List.getElem?_cons_succ, List.getElem?_cons_zero]; exact rfl) (fun K hK => ?_) AllReadyH.nil
              go_simp
              refine hK.out _ _ trivial (fun hHeld => ?_)
              clear hK K
              try simp only [Act.put, List.setIfInBounds_toArray, List.set_cons_zero, List.set_cons_succ]
              refine wpAnyH_done (by kernel_rfl) ?_ _
              go_wp2_with fail
              go_ret
              exact rline_done (v' := .slice pa pn pc) HS9.out (by rw [HSP.out] at *; exact HST9.out) HK9.out HKD2.out (by rw [HPOY.out, if_neg (by omega), if_neg (by omega)])
            · go_simp
              refine hK.out _ _ trivial (fun hHeld => ?_)
              clear hK K
              try simp only [Act.put, List.setIfInBounds_toArray, List.set_cons_zero, List.set_cons_succ]
              refine wpAnyH_ready (rs := [4, 6]) (by kernel_rfl) (by simp) ?_
              refine AllReadyH.cons (o := ?_) (by simp only [List.getElem?_toArray, List.getElem?_cons_succ, List.getElem?_cons_zero]; exact rfl) (fun K hK => ?_) (AllReadyH.cons (o := ?_) (by simp only [List.getElem?_toArray, List.getElem?_cons_succ, List.getElem?_cons_zero]; exact rfl) (fun K hK => ?_) AllReadyH.nil)
              · go_simp
                refine hK.out _ _ trivial (fun hHeld => ?_)
                clear hK K
                try simp only [Act.put, List.setIfInBounds_toArray, List.set_cons_zero, List.set_cons_succ]
                refine wpAnyH_ready (rs := [6]) (by kernel_rfl) (by simp) ?_
                refine AllReadyH.cons (o := ?_) (by simp only [List.getElem?_toArray, List.getElem?_cons_succ, List.getElem?_cons_zero]; exact rfl) (fun K hK => ?_) AllReadyH.nil
                rw [if_pos (by rfl)]
                refine wp_bs_run (.tmp 85) 22 rfl (by rw [HCS2.out]; exact run_bs22 sp _) ?_
                refine hK.out _ _ trivial (fun hHeld => ?_)
                clear hK K
                try simp only [Act.put, List.setIfInBounds_toArray, List.set_cons_zero, List.set_cons_succ]
                refine wpAnyH_ready (rs := [7]) (by kernel_rfl) (by simp) ?_
                refine AllReadyH.cons (o := ?_) (by simp only [List.getElem?_toArray, List.getElem?_cons_succ, List.getElem?_cons_zero]; exact rfl) (fun K hK => ?_) AllReadyH.nil
                rw [if_pos (by rfl)]
                refine wp_append_run (.tmp 84) (.tmp 86) 22 rfl rfl (by exact hap) ?_
                refine hK.out _ _ trivial (fun hHeld => ?_)
                clear hK K
                try simp only [Act.put, List.setIfInBounds_toArray, List.set_cons_zero, List.set_cons_succ]
                refine wpAnyH_take (i := 8) (v := ?_) rfl (by kernel_rfl) (by kernel_rfl) (by kernel_rfl) (fun _ _ _ h => h) (Or.inl ⟨by rfl, ?_⟩) (by assumption) ?_
                rotate_left
                · (intro w hSw; (try dsimp only at hSw); go_simp; try with_reducible rfl)
                try simp only [Act.put, List.setIfInBounds_toArray, List.set_cons_zero, List.set_cons_succ]
                refine wpAnyH_take (i := 9) (v := ?_) rfl (by kernel_rfl) (by kernel_rfl) (by kernel_rfl) (fun _ _ _ h => h) (Or.inl ⟨by rfl, ?_⟩) (by assumption) ?_
                rotate_left
                · (intro w hSw; (try dsimp only at hSw); go_simp; try with_reducible rfl)
                try simp only [Act.put, List.setIfInBounds_toArray, List.set_cons_zero, List.set_cons_succ]
                refine wpAnyH_ready (rs := [10]) (by kernel_rfl) (by simp) ?_
                refine AllReadyH.cons (o := ?_) (by simp only [List.getElem?_toArray, List.getElem?_cons_succ, List.getElem?_cons_zero]; exact rfl) (fun K hK => ?_) AllReadyH.nil
                go_simp
                refine hK.out _ _ trivial (fun hHeld => ?_)
                clear hK K
                try simp only [Act.put, List.setIfInBounds_toArray, List.set_cons_zero, List.set_cons_succ]
                refine wpAnyH_done (by kernel_rfl) ?_ _
                go_wp2_with fail
                go_ret
                exact rline_done (v' := .slice pa pn pc) HS9.out (by rw [HSP.out] at *; exact HST9.out) HK9.out HKD2.out (by rw [HPOY.out, if_neg (by omega), if_neg (by omega)])
              · rw [if_pos (by rfl)]
                refine wp_bs_run (.tmp 85) 22 rfl (by rw [HCS2.out]; exact run_bs22 sp _) ?_
                refine hK.out _ _ trivial (fun hHeld => ?_)
                clear hK K
                try simp only [Act.put, List.setIfInBounds_toArray, List.set_cons_zero, List.set_cons_succ]
                have hc1A : (V0.alloc (.cells (stepEnc sp) 63 (0, 0))).cell? ⟨gb, 1, none⟩ = some (.slice av s.steps.length cv) := ((Keep.refl (fun _ => False) V0).alloc _).cellOf hc1D (fun e => e)
                refine wpAnyH_ready (rs := [4]) (by kernel_rfl) (by simp) ?_
                refine AllReadyH.cons (o := ?_) (by simp only [List.getElem?_toArray, List.getElem?_cons_succ, List.getElem?_cons_zero]; exact rfl) (fun K hK => ?_) AllReadyH.nil
                go_simp
                refine hK.out _ _ trivial (fun hHeld => ?_)
                clear hK K
                try simp only [Act.put, List.setIfInBounds_toArray, List.set_cons_zero, List.set_cons_succ]
                refine wpAnyH_ready (rs := [7]) (by kernel_rfl) (by simp) ?_
                refine AllReadyH.cons (o := ?_) (by simp only [List.getElem?_toArray, List.getElem?_cons_succ, List.getElem?_cons_zero]; exact rfl) (fun K hK => ?_) AllReadyH.nil
                rw [if_pos (by rfl)]
                refine wp_append_run (.tmp 84) (.tmp 86) 22 rfl rfl (by exact hap) ?_
                refine hK.out _ _ trivial (fun hHeld => ?_)
                clear hK K
                try simp only [Act.put, List.setIfInBounds_toArray, List.set_cons_zero, List.set_cons_succ]
                refine wpAnyH_take (i := 8) (v := ?_) rfl (by kernel_rfl) (by kernel_rfl) (by kernel_rfl) (fun _ _ _ h => h) (Or.inl ⟨by rfl, ?_⟩) (by assumption) ?_
                rotate_left
                · (intro w hSw; (try dsimp only at hSw); go_simp; try with_reducible rfl)
                try simp only [Act.put, List.setIfInBounds_toArray, List.set_cons_zero, List.set_cons_succ]
                refine wpAnyH_take (i := 9) (v := ?_) rfl (by kernel_rfl) (by kernel_rfl) (by kernel_rfl) (fun _ _ _ h => h) (Or.inl ⟨by rfl, ?_⟩) (by assumption) ?_
                rotate_left
                · (intro w hSw; (try dsimp only at hSw); go_simp; try with_reducible rfl)
                try simp only [Act.put, List.setIfInBounds_toArray, List.set_cons_zero, List.set_cons_succ]
                refine wpAnyH_ready (rs := [10]) (by kernel_rfl) (by simp) ?_
                refine AllReadyH.cons (o := ?_) (by simp only [List.getElem?_toArray, List.getElem?_cons_succ, List.getElem?_cons_zero]; exact rfl) (fun K hK => ?_) AllReadyH.nil
                go_simp
                refine hK.out _ _ trivial (fun hHeld => ?_)
                clear hK K
                try simp only [Act.put, List.setIfInBounds_toArray, List.set_cons_zero, List.set_cons_succ]
                refine wpAnyH_done (by kernel_rfl) ?_ _
                go_wp2_with fail
                go_ret
                exact rline_done (v' := .slice pa pn pc) HS9.out (by rw [HSP.out] at *; exact HST9.out) HK9.out HKD2.out (by rw [HPOY.out, if_neg (by omega), if_neg (by omega)])
        · have HE := Lib.hid (HP.out.1 rfl)
          clear HP
          go_wp2_with fail
          go_ret
          refine ⟨HKU.out.mono (fun _ _ e => e.elim), ?_⟩
          rw [HE.out]
          exact rfl
      · rw [Bool.not_eq_true] at hxy
        have hxy2 : (nm k != x) = true := by rw [bne, hxy]; rfl
        go_wp2_with fail
        go_quiet (fail)
        go_wp2_with fail
        refine ⟨⟨k + 1, by simp, by omega, HKR.out.drewN nq, fun j hj => ?_⟩, by simp [intOf]; omega⟩
        by_cases hjk : j < k
        · exact HNO.out j hjk
        · obtain rfl : j = k := by omega
          intro e
          rw [e] at hxy
          simp at hxy
    · have hki : ¬ (k : Int) < 12 := by omega
      obtain rfl : k = 12 := by omega
      have hkn : kindOf names x = none := by
        rcases hq : kindOf names x with _ | j
        · rfl
        · obtain ⟨h1, h2⟩ := kindOf_some hq
          exact absurd h2.symm (HNO.out j h1)
      have HE := Lib.hid (show po = .error 19 by rw [HPO.out, hkn])
      clear hkn
      go_wp2_with fail
      go_ret
      refine ⟨(hkW.trans' (HKV.out.trans' HKR.out)).mono (fun _ _ e => e.elim), ?_⟩
      rw [HE.out]
      exact rfl
end Go.Proofs.YtifliekahdgobaaGreatDoor
namespace Go.Proofs.YtifliekahdgobaaGreatDoor
open Go.RowKit Sp

theorem rline_any (base gb rb off c : Nat) (v : Value) (s : ScriptS) (x : Str) (ws : List Str) (w : World) (hs : RScriptAt w base gb s v) (hw : WordsR w rb off c (x :: ws)) (hbase : base ≤ w.heap.size) (h0 : 0 ≤ s.nodes) :
    Calls Tryz.prog 29 #[.pointer (some ⟨gb, 0, none⟩), .slice (some ⟨rb, off, none⟩) (ws.length + 1) c] w (GotRLine base gb v w (line s (x :: ws))) := by
  by_cases hx : x = wNodes
  · subst hx
    exact rline_nodes base gb rb off c v s ws w hs hw h0
  · exact rline_other base gb rb off c v s x ws w hs hw (by
      have h9 : ¬ x = [110, 111, 100, 101, 115] := hx
      simpa using h9) hbase h0
/-- a line that is read leaves no negative number of nodes -/
theorem line_nodes_pos {s s' : ScriptS} {ws : List Str} (h : line s ws = .ok s') (h0 : 0 ≤ s.nodes) : 0 ≤ s'.nodes := by
  cases ws with
  | nil => simp only [line, Except.ok.injEq] at h; subst h; exact h0
  | cons x ws =>
    simp only [line] at h
    split at h
    · split at h
      · rename_i n hn
        split at h
        · simp only [Except.ok.injEq] at h
          subst h
          unfold pnodes at hn
          rcases hp : pnum 7 ws with _ | ⟨a, r⟩
          · rw [hp] at hn; cases hn
          · rw [hp] at hn
            simp only [Option.bind_some] at hn
            split at hn
            · rename_i h1
              injection hn with hn
              show 0 ≤ n
              omega
            · cases hn
        · cases h
      · cases h
    · split at h
      · cases h
      · split at h
        · cases h
        · split at h
          · cases h
          · split at h
            · cases h
            · simp only [Except.ok.injEq] at h
              subst h
              exact h0
end Go.Proofs.YtifliekahdgobaaGreatDoor
namespace Go.Proofs.YtifliekahdgobaaGreatDoor
open Sp

/-- faults of lines are above 2 -/
theorem line_err {s : ScriptS} {ws : List Str} {c : Int} (h : line s ws = .error c) : 3 ≤ c := by
  cases ws with
  | nil => simp only [line] at h; cases h
  | cons x ws =>
    simp only [line] at h
    repeat' split at h
    all_goals first | (injection h with h; omega) | cases h
theorem splitNL_none : ∀ (s : Str), (∀ c ∈ s, c ≠ 10) → splitNL s = [s]
  | [], _ => rfl
  | c :: s, h => by
    have h1 := splitNL_none s (fun d hd => h d (List.mem_cons_of_mem _ hd))
    simp only [splitNL]
    rw [if_neg (h c List.mem_cons_self), h1]
theorem splitNL_at : ∀ (a b : Str), (∀ c ∈ a, c ≠ 10) → splitNL (a ++ 10 :: b) = a :: splitNL b
  | [], b, _ => by simp [splitNL]
  | c :: a, b, h => by
    have h1 := splitNL_at a b (fun d hd => h d (List.mem_cons_of_mem _ hd))
    simp only [List.cons_append, splitNL]
    rw [if_neg (h c List.mem_cons_self), h1]
/-- at a newline -/
theorem split_step (t : Str) (j i : Nat) (hj : j ≤ i) (hi : i < t.length) (hc : t[i] = 10) (hn : ∀ k, j ≤ k → k < i → t[k]? ≠ some 10) : splitNL (t.drop j) = (t.drop j).take (i - j) :: splitNL (t.drop (i + 1)) := by
  have h1 : t.drop j = (t.drop j).take (i - j) ++ 10 :: t.drop (i + 1) := by
    rw [← hc]
    have h2 := List.take_append_drop (i - j) (t.drop j)
    rw [List.drop_drop, show j + (i - j) = i by omega, List.drop_eq_getElem_cons hi] at h2
    exact h2.symm
  have h3 : ∀ c ∈ (t.drop j).take (i - j), c ≠ 10 := by
    intro c hc' e
    obtain ⟨k, hk, hkc⟩ := List.mem_iff_getElem.1 hc'
    simp only [List.length_take, List.length_drop] at hk
    refine hn (j + k) (by omega) (by omega) ?_
    rw [List.getElem_take, List.getElem_drop] at hkc
    rw [List.getElem?_eq_getElem (by omega), hkc, e]
  calc splitNL (t.drop j) = splitNL ((t.drop j).take (i - j) ++ 10 :: t.drop (i + 1)) := by rw [← h1]
    _ = _ := splitNL_at _ _ h3
/-- at the end -/
theorem split_end (t : Str) (j : Nat) (hn : ∀ k, j ≤ k → k < t.length → t[k]? ≠ some 10) : splitNL (t.drop j) = [t.drop j] := splitNL_none _ (by
  intro c hc' e
  obtain ⟨k, hk, hkc⟩ := List.mem_iff_getElem.1 hc'
  simp only [List.length_drop] at hk
  refine hn (j + k) (by omega) (by omega) ?_
  rw [List.getElem_drop] at hkc
  rw [List.getElem?_eq_getElem (by omega), hkc, e])
end Go.Proofs.YtifliekahdgobaaGreatDoor
namespace Go.Proofs.YtifliekahdgobaaGreatDoor
open Go.RowKit Sp

/-- what the reference's Parse comes to -/
def GotRParse (w : World) (o : Except (Int × Nat) ScriptS) (e : Ending) (w' : World) : Prop :=
  Keep (fun _ => False) w w' ∧ match o with
    | .ok s => ∃ v, e = .returned (.tuple #[.agg #[.int .i64 s.nodes, v], .agg #[.int .i64 0, .int .i64 0]]) ∧ StepsAt w' w.heap.size v s.steps
    | .error (c, no) => e = .returned (.tuple #[.agg #[.int .i64 0, nilS], .agg #[.int .i64 c, .int .i64 no]])
theorem words_at {w : World} {base : Nat} {v : Value} {x : Str} {ws : List Str} (h : WsAt w base v (x :: ws)) (hok : okWords (x :: ws)) (hl : (x :: ws).length ≤ 1000000) : ∃ rb off c, v = .slice (some ⟨rb, off, none⟩) (ws.length + 1) c ∧ WordsR w rb off c (x :: ws) := by
  rcases h.2 with ⟨rfl, h2⟩ | ⟨g, cap, cur, rfl, hb, hg, hnc, hmax, hsz, htk⟩
  · simp at h2
  · refine ⟨g, 0, cap, rfl, ?_, hok, hnc, by unfold maxLen at hmax; omega⟩
    intro i y hy
    rw [Nat.zero_add, cell_of_block hg i]
    have h3 := congrArg (fun l => l[i]?) htk
    obtain ⟨hi, -⟩ := List.getElem?_eq_some_iff.1 hy
    simp only [Nat.mul_one] at h3
    rw [List.getElem?_take_of_lt hi, List.getElem?_map, hy] at h3
    simpa using h3
/-- the lines from there on -/
def restFrom (t : Str) (j : Nat) : List Str := if j ≤ t.length then splitNL (t.drop j) else []
theorem rest_nl {t : Str} {j i : Nat} (hj : j ≤ i) (hi : i < t.length) (hc : t[i] = 10) (hn : ∀ k, j ≤ k → k < i → t[k]? ≠ some 10) : restFrom t j = (t.drop j).take (i - j) :: restFrom t (i + 1) := by
  unfold restFrom
  rw [if_pos (by omega), if_pos (by omega)]
  exact split_step t j i hj hi hc hn
theorem rest_end {t : Str} {j : Nat} (hj : j ≤ t.length) (hn : ∀ k, j ≤ k → k < t.length → t[k]? ≠ some 10) : restFrom t j = (t.drop j).take (t.length - j) :: restFrom t (t.length + 1) := by
  unfold restFrom
  rw [if_pos hj, if_neg (by omega), split_end t j hn, List.take_of_length_le (by simp)]
theorem parse_rest (t : Str) : parse t = parseGo ⟨0, []⟩ 0 (restFrom t 0) := by
  unfold restFrom
  rw [if_pos (Nat.zero_le _)]
  rfl
theorem info29 : (Tryz.prog.info? 29).map (·.size) = some 2 := by kernel_rfl
theorem info32 : (Tryz.prog.info? 32).map (·.size) = some 2 := by kernel_rfl
theorem results_cell_cell {fn : Func} {t t' : Tmp} {T T' n n' : Nat} {d d' : TypeDesc} (hr : fn.results = #[.cell t T, .cell t' T']) (hu : Tryz.prog.underlying T = some d) (hd : d.isRow = true) (hi : (Tryz.prog.info? T).map (·.size) = some n)
    (hu' : Tryz.prog.underlying T' = some d') (hd' : d'.isRow = true) (hi' : (Tryz.prog.info? T').map (·.size) = some n') (tmps : Array Value) (w : World) (b b' : Nat) (cs cs' : Array Value) (U U' : TypeId) (f f' : Nat × Nat)
    (ht : tmps.getD t undef = .pointer (some ⟨b, 0, none⟩)) (hs : cs.size = n) (hb : w.heap[b]? = some (.cells cs U f))
    (ht1 : tmps.getD t' undef = .pointer (some ⟨b', 0, none⟩)) (hs1 : cs'.size = n') (hb1 : w.heap[b']? = some (.cells cs' U' f')) :
    (results fn tmps).run Tryz.prog w = .ok (.tuple #[.agg cs, .agg cs']) w := by
  have hl := run_loadVar_mid (P := Tryz.prog) w b 0 T cs.toList d (range_of_block hb) hu hd (by rw [hi, ← hs]; simp)
  have hl' := run_loadVar_mid (P := Tryz.prog) w b' 0 T' cs'.toList d' (range_of_block hb1) hu' hd' (by rw [hi', ← hs1]; simp)
  have ht' : tmps[t]?.getD undef = .pointer (some ⟨b, 0, none⟩) := by simpa using ht
  have ht1' : tmps[t']?.getD undef = .pointer (some ⟨b', 0, none⟩) := by simpa using ht1
  simp [results, hr, ht', ht1', asAddr, hl, hl']
theorem two_setR {w : World} {b : Nat} {T : TypeId} {x y u v : Value} (h : w.heap[b]? = some (.cells #[x, y] T (0, 0))) : ((w.setCell ⟨b, 0, none⟩ u).setCell ⟨b, 1, none⟩ v).heap[b]? = some (.cells #[u, v] T (0, 0)) := by
  rw [block_setCell (block_setCell h 0 u) 1 v]
  rfl
theorem two_set_other {w : World} {b c : Nat} {o : Obj} {u v : Value} (h : w.heap[c]? = some o) (hne : c ≠ b) : ((w.setCell ⟨b, 0, none⟩ u).setCell ⟨b, 1, none⟩ v).heap[c]? = some o :=
  block_setCell_other (block_setCell_other h _ _ hne) _ _ hne
/-- the loop's state -/
structure PLoop (t : Str) (W : World) (gb : Nat) (i j no : Nat) (s : ScriptS) (v : Value) (wr : World) : Prop where
  ji : j ≤ i
  il : i ≤ t.length + 1
  ni : no ≤ i
  je : i = t.length + 1 → j = t.length + 1
  script : RScriptAt wr (gb + 1) gb s v
  nodes : 0 ≤ s.nodes
  keep : Keep (fun b => b = gb) W wr
  none : ∀ k, j ≤ k → k < i → t[k]? ≠ some 10
  par : parse t = parseGo s no (restFrom t j)
theorem PLoop.next {t : Str} {W wr wr' : World} {gb i j no : Nat} {s s' : ScriptS} {v v' : Value} {seg : Str} (h : PLoop t W gb i j no s v wr) (hi : i ≤ t.length) (hr : restFrom t j = seg :: restFrom t (i + 1)) (hl : line s (words seg) = .ok s')
    (hs : RScriptAt wr' (gb + 1) gb s' v') (hk : Keep (fun b => b = gb) W wr') : PLoop t W gb (i + 1) (i + 1) (no + 1) s' v' wr' :=
  ⟨Nat.le_refl _, by omega, by have := h.ni; omega, fun e => e, hs, line_nodes_pos hl h.nodes, hk, fun k h1 h2 => by omega, by rw [h.par, hr, parseGo, hl]⟩
theorem PLoop.fail {t : Str} {W wr : World} {gb i j no : Nat} {s : ScriptS} {v : Value} {seg : Str} (h : PLoop t W gb i j no s v wr) (hr : restFrom t j = seg :: restFrom t (i + 1)) {c : Int} (hl : line s (words seg) = .error c) : parse t = .error (c, no) := by
  rw [h.par, hr, parseGo, hl]
theorem PLoop.skip {t : Str} {W wr : World} {gb i j no : Nat} {s : ScriptS} {v : Value} (h : PLoop t W gb i j no s v wr) (hi : i < t.length) (hc : t[i] ≠ 10) : PLoop t W gb (i + 1) j no s v wr :=
  ⟨by have := h.ji; omega, by omega, by have := h.ni; omega, fun e => by omega, h.script, h.nodes, h.keep, fun k h1 h2 => by
    by_cases hk : k = i
    · subst hk
      rw [List.getElem?_eq_getElem hi]
      intro e
      exact hc (Option.some.inj e)
    · exact h.none k h1 (by omega), h.par⟩
set_option maxRecDepth 100000 in
set_option maxHeartbeats 1600000 in
theorem rparse_any (t : Str) (ht : t.length ≤ 100000) (w : World) : Calls Tryz.prog 9 #[sv t] w (GotRParse w (parse t)) := by
  obtain ⟨B, hB⟩ : ∃ B, B = w.heap.size := ⟨_, rfl⟩
  obtain ⟨W, hW⟩ : ∃ W : World, W = ((w.alloc (.cells #[.int .i64 0, .slice none 0 0] 29)).alloc (.cells #[.int .i64 0, .int .i64 0] 32)).alloc (.cells #[.int .i64 0, .slice none 0 0] 29) := ⟨_, rfl⟩
  have hsz : W.heap.size = B + 3 := by rw [hW, hB]; simp
  have hkW : Keep (fun _ => False) w W := by rw [hW]; exact (((Keep.refl _ w).alloc _).alloc _).alloc _
  have h0 : W.heap[B]? = some (.cells #[.int .i64 0, nilS] 29 (0, 0)) := by rw [hW, hB]; exact block_alloc (block_alloc (block_new _ _) _) _
  have h1 : W.heap[B + 1]? = some (.cells #[.int .i64 0, .int .i64 0] 32 (0, 0)) := by
    rw [hW]
    exact block_alloc (block_new' _ _ (by simp [hB])) _
  have h2 : W.heap[B + 2]? = some (.cells #[.int .i64 0, nilS] 29 (0, 0)) := by
    rw [hW]
    exact block_new' _ _ (by simp [hB])
  have HW := Lib.hid hW
  have H0 := Lib.hid h0
  have H1 := Lib.hid h1
  have H2 := Lib.hid h2
  have HKW := Lib.hid hkW
  have HSZ := Lib.hid hsz
  have HB := Lib.hid hB
  clear hW h0 h1 h2 hkW hsz hB
  go_enter Tryz.func9, Tryz.ntmps9
  go_wp2_with fail
  rw [← HW.out]
  clear HW
  obtain rfl := HB.out
  have ML0 : PLoop t W (w.heap.size + 2) 0 0 0 ⟨0, []⟩ nilS W := ⟨Nat.le_refl _, Nat.zero_le _, Nat.le_refl _, fun e => by omega, ⟨H2.out, StepsAt.nil _ _⟩, Int.le_refl _, Keep.refl _ _, fun k h1 h2 => by omega, parse_rest t⟩
  have HM := Lib.hid ML0
  clear ML0
  go_loopw [5, 6, 7] (fun v5 v6 v7 wr => ∃ (i j no : Nat) (s : ScriptS) (v : Value), v7 = .int .i64 i ∧ v5 = .int .i64 j ∧ v6 = .int .i64 no ∧ Hid (PLoop t W (w.heap.size + 2) i j no s v wr)) (fun _ _ v7 _ => t.length + 1 - (intOf v7).toNat)
  case atStart => exact ⟨0, 0, 0, _, _, rfl, rfl, rfl, HM⟩
  case round =>
    obtain ⟨i, j, no, s, v, rfl, rfl, rfl, ML⟩ := hrel
    have hji := ML.out.ji
    have hil := ML.out.il
    have hni := ML.out.ni
    by_cases hle : i ≤ t.length
    · have hle' : (i : Int) ≤ (t.length : Int) := by omega
      have hji' : (j : Int) ≤ (i : Int) := by omega
      -- what is done with a line
      have hway : (i < t.length → t[i]? = some 10) → restFrom t j = (t.drop j).take (i - j) :: restFrom t (i + 1) := fun h => by
        by_cases hlt : i < t.length
        · have h1 := h hlt
          rw [List.getElem?_eq_getElem hlt] at h1
          exact rest_nl hji hlt (Option.some.inj h1) ML.out.none
        · obtain rfl : i = t.length := by omega
          exact rest_end hji ML.out.none
      have HWAY := Lib.hid hway
      clear hway
      by_cases hsk : i < t.length ∧ t[i]? ≠ some 10
      · obtain ⟨hlt, hne⟩ := hsk
        obtain ⟨c, hc⟩ : ∃ c, t[i] = c := ⟨_, rfl⟩
        have hne' : c ≠ 10 := fun e => hne (by rw [List.getElem?_eq_getElem hlt, hc, e])
        have hb : (⟨t.toArray⟩ : ByteArray)[i]'(by show i < t.toArray.size; simp; omega) = c := hc
        have hn10 : ((c.toNat : Int) != 10) = true := by
          rw [bne, show (10 : Int) = ((10 : Nat) : Int) from rfl, u8_int (by decide)]
          simpa using hne'
        have hlt' : (i : Int) < (t.length : Int) := by omega
        have HN := Lib.hid (ML.out.skip hlt (by rw [hc]; exact hne'))
        clear hne hne' hc hji
        go_wp2_with fail
        exact ⟨⟨i + 1, j, no, s, v, by go_num, rfl, rfl, HN⟩, by simp [intOf]; omega⟩
      · have hcase : (i < t.length ∧ t[i]? = some 10) ∨ i = t.length := by
          by_cases hlt : i < t.length
          · exact .inl ⟨hlt, by
              by_cases h : t[i]? = some 10
              · exact h
              · exact absurd ⟨hlt, h⟩ hsk⟩
          · exact .inr (by omega)
        have hseg := HWAY.out (fun h => by
          rcases hcase with h1 | h1
          · exact h1.2
          · omega)
        clear hsk HWAY
        have hex : (⟨t.toArray⟩ : ByteArray).extract j i = ⟨((t.drop j).take (i - j)).toArray⟩ := extract_piece ⟨t.toArray⟩ j i
        have hxl : ((t.drop j).take (i - j)).length ≤ 100000 := by simp; omega
        generalize (t.drop j).take (i - j) = x at *
        have HNX := Lib.hid (fun wr' s' v' => ML.out.next (wr' := wr') (s' := s') (v' := v') hle hseg)
        have HFL := Lib.hid (fun c => ML.out.fail hseg (c := c))
        have hwl := words_len x
        have hwn := words_ne x
        have HXW := Lib.hid (rwords_any x hxl wr)
        generalize words x = ws at *
        have HWN := Lib.hid (show okWords ws from fun y hy => ⟨(hwn y hy).1, by have := (hwn y hy).2; omega⟩)
        have HWL := Lib.hid (show ws.length ≤ 1000000 by omega)
        have HLE := Lib.hid hle
        clear hseg hwl hwn hle hxl
        have hnos : (no : Int) + 1 ≤ 1000000 := by omega
        rcases hcase with ⟨hlt, hc⟩ | hie
        · have hc2 : t[i] = 10 := by rw [List.getElem?_eq_getElem hlt] at hc; exact Option.some.inj hc
          have hb : (⟨t.toArray⟩ : ByteArray)[i]'(by show i < t.toArray.size; simp; omega) = 10 := hc2
          have hlt' : (i : Int) < (t.length : Int) := by omega
          clear hc hc2 hji hil hni
          go_wp2_with fail
          refine HXW.out.mono ?_
          rintro e w1 ⟨vw, rfl, hws, hk1⟩
          have HSC := Lib.hid (show RScriptAt w1 (w.heap.size + 2 + 1) (w.heap.size + 2) s v from ⟨hk1.at' ML.out.script.1 (fun e => e), ML.out.script.2.far hk1⟩)
          have HKK := Lib.hid (show Keep (fun b => b = w.heap.size + 2) W w1 from ML.out.keep.trans hk1 (fun _ _ e => e.elim))
          rcases ws with _ | ⟨y, ys⟩
          · obtain ⟨aw, cw, rfl⟩ := hws.slice
            simp only [List.length_nil]
            clear hws hk1
            go_wp2_with fail
            exact ⟨⟨i + 1, i + 1, no + 1, s, v, by go_num, by go_num, by go_num, Lib.hid (HNX.out _ _ _ rfl HSC.out HKK.out)⟩, by have := HLE.out; simp [intOf]; omega⟩
          · obtain ⟨rb, off, c, rfl, hwr⟩ := words_at hws HWN.out HWL.out
            have h29 := rline_any (w.heap.size + 2 + 1) (w.heap.size + 2) rb off c v s y ys w1 HSC.out hwr (by have := HKK.out.size; have := HSZ.out; omega) ML.out.nodes
            have H29 := Lib.hid h29
            have HVL := Lib.hid (fun g hg => (HSC.out.2.lt g hg).1)
            clear h29 hws hk1 hwr
            go_wp2_with fail
            refine H29.out.mono ?_
            rintro e w3 ⟨hk3, h3⟩
            have HK4 := Lib.hid (show Keep (fun b => b = w.heap.size + 2) W w3 from HKK.out.trans hk3 (fun b hb e => by
              rcases e with e | e
              · exact e
              · have := HVL.out b e.symm; have := HSZ.out; omega))
            clear hk3
            rcases hl : line s (y :: ys) with c' | s'
            · rw [hl] at h3
              subst h3
              have hc3 := line_err hl
              have hc0 : (c' != 0) = true := by rw [bne_iff_ne]; omega
              have HE := Lib.hid (HFL.out _ hl)
              have hbr := HK4.out.at' H0.out (by omega)
              have hbr1 := HK4.out.at' H1.out (by omega)
              have hb0 : w3.cell? ⟨w.heap.size, 0, none⟩ = some (.int .i64 0) := cell_of_block hbr 0
              have hb1 : w3.cell? ⟨w.heap.size, 1, none⟩ = some nilS := cell_of_block hbr 1
              have hf0 := free_of_block hbr 0
              have hf1 := free_of_block hbr 1
              have hb2 : w3.cell? ⟨w.heap.size + 1, 0, none⟩ = some (.int .i64 0) := cell_of_block hbr1 0
              have hb3 : w3.cell? ⟨w.heap.size + 1, 1, none⟩ = some (.int .i64 0) := cell_of_block hbr1 1
              have hf2 := free_of_block hbr1 0
              have hf3 := free_of_block hbr1 1
              have HBR := Lib.hid hbr
              have HBR1 := Lib.hid hbr1
              clear hc3 hl hbr hbr1
              go_wp2_with fail
              refine bodyPost_ret (v := .tuple #[.agg #[.int .i64 0, nilS], .agg #[.int .i64 c', .int .i64 (no : Int)]]) (results_cell_cell (n := 2) (n' := 2) Tryz.results9 Tryz.underlying29 rfl info29 Tryz.underlying32 rfl info32 _ _ w.heap.size (w.heap.size + 1) _ _ 29 32 (0, 0) (0, 0) rfl rfl (two_set_other (two_setR HBR.out) (show w.heap.size ≠ w.heap.size + 1 by omega)) rfl rfl (two_setR (two_set_other HBR1.out (show w.heap.size + 1 ≠ w.heap.size by omega)))) rfl ?_
              refine ⟨HKW.out.trans (((((HK4.out.mono (M' := fun b => b = w.heap.size + 2 ∨ b = w.heap.size ∨ b = w.heap.size + 1) (fun _ _ e => .inl e)).setCell _ _ (.inr (.inr (.inl rfl)))).setCell _ _ (.inr (.inr (.inl rfl)))).setCell _ _ (.inr (.inr (.inr rfl)))).setCell _ _ (.inr (.inr (.inr rfl)))) (fun b hb e => by omega), ?_⟩
              rw [HE.out]
            · rw [hl] at h3
              obtain ⟨rfl, v', h3⟩ := h3
              have H3 := Lib.hid h3
              have HL := Lib.hid hl
              clear h3 hl
              go_wp2_with fail
              exact ⟨⟨i + 1, i + 1, no + 1, s', v', by go_num, by go_num, by go_num, Lib.hid (HNX.out _ _ _ HL.out H3.out HK4.out)⟩, by have := HLE.out; simp [intOf]; omega⟩
        · have hge : ¬ (i : Int) < (t.length : Int) := by omega
          clear hie hji hil hni
          go_wp2_with fail
          refine HXW.out.mono ?_
          rintro e w1 ⟨vw, rfl, hws, hk1⟩
          have HSC := Lib.hid (show RScriptAt w1 (w.heap.size + 2 + 1) (w.heap.size + 2) s v from ⟨hk1.at' ML.out.script.1 (fun e => e), ML.out.script.2.far hk1⟩)
          have HKK := Lib.hid (show Keep (fun b => b = w.heap.size + 2) W w1 from ML.out.keep.trans hk1 (fun _ _ e => e.elim))
          rcases ws with _ | ⟨y, ys⟩
          · obtain ⟨aw, cw, rfl⟩ := hws.slice
            simp only [List.length_nil]
            clear hws hk1
            go_wp2_with fail
            exact ⟨⟨i + 1, i + 1, no + 1, s, v, by go_num, by go_num, by go_num, Lib.hid (HNX.out _ _ _ rfl HSC.out HKK.out)⟩, by have := HLE.out; simp [intOf]; omega⟩
          · obtain ⟨rb, off, c, rfl, hwr⟩ := words_at hws HWN.out HWL.out
            have h29 := rline_any (w.heap.size + 2 + 1) (w.heap.size + 2) rb off c v s y ys w1 HSC.out hwr (by have := HKK.out.size; have := HSZ.out; omega) ML.out.nodes
            have H29 := Lib.hid h29
            have HVL := Lib.hid (fun g hg => (HSC.out.2.lt g hg).1)
            clear h29 hws hk1 hwr
            go_wp2_with fail
            refine H29.out.mono ?_
            rintro e w3 ⟨hk3, h3⟩
            have HK4 := Lib.hid (show Keep (fun b => b = w.heap.size + 2) W w3 from HKK.out.trans hk3 (fun b hb e => by
              rcases e with e | e
              · exact e
              · have := HVL.out b e.symm; have := HSZ.out; omega))
            clear hk3
            rcases hl : line s (y :: ys) with c' | s'
            · rw [hl] at h3
              subst h3
              have hc3 := line_err hl
              have hc0 : (c' != 0) = true := by rw [bne_iff_ne]; omega
              have HE := Lib.hid (HFL.out _ hl)
              have hbr := HK4.out.at' H0.out (by omega)
              have hbr1 := HK4.out.at' H1.out (by omega)
              have hb0 : w3.cell? ⟨w.heap.size, 0, none⟩ = some (.int .i64 0) := cell_of_block hbr 0
              have hb1 : w3.cell? ⟨w.heap.size, 1, none⟩ = some nilS := cell_of_block hbr 1
              have hf0 := free_of_block hbr 0
              have hf1 := free_of_block hbr 1
              have hb2 : w3.cell? ⟨w.heap.size + 1, 0, none⟩ = some (.int .i64 0) := cell_of_block hbr1 0
              have hb3 : w3.cell? ⟨w.heap.size + 1, 1, none⟩ = some (.int .i64 0) := cell_of_block hbr1 1
              have hf2 := free_of_block hbr1 0
              have hf3 := free_of_block hbr1 1
              have HBR := Lib.hid hbr
              have HBR1 := Lib.hid hbr1
              clear hc3 hl hbr hbr1
              go_wp2_with fail
              refine bodyPost_ret (v := .tuple #[.agg #[.int .i64 0, nilS], .agg #[.int .i64 c', .int .i64 (no : Int)]]) (results_cell_cell (n := 2) (n' := 2) Tryz.results9 Tryz.underlying29 rfl info29 Tryz.underlying32 rfl info32 _ _ w.heap.size (w.heap.size + 1) _ _ 29 32 (0, 0) (0, 0) rfl rfl (two_set_other (two_setR HBR.out) (show w.heap.size ≠ w.heap.size + 1 by omega)) rfl rfl (two_setR (two_set_other HBR1.out (show w.heap.size + 1 ≠ w.heap.size by omega)))) rfl ?_
              refine ⟨HKW.out.trans (((((HK4.out.mono (M' := fun b => b = w.heap.size + 2 ∨ b = w.heap.size ∨ b = w.heap.size + 1) (fun _ _ e => .inl e)).setCell _ _ (.inr (.inr (.inl rfl)))).setCell _ _ (.inr (.inr (.inl rfl)))).setCell _ _ (.inr (.inr (.inr rfl)))).setCell _ _ (.inr (.inr (.inr rfl)))) (fun b hb e => by omega), ?_⟩
              rw [HE.out]
            · rw [hl] at h3
              obtain ⟨rfl, v', h3⟩ := h3
              have H3 := Lib.hid h3
              have HL := Lib.hid hl
              clear h3 hl
              go_wp2_with fail
              exact ⟨⟨i + 1, i + 1, no + 1, s', v', by go_num, by go_num, by go_num, Lib.hid (HNX.out _ _ _ HL.out H3.out HK4.out)⟩, by have := HLE.out; simp [intOf]; omega⟩
    · have hi1 : i = t.length + 1 := by omega
      have hge : ¬ (i : Int) ≤ (t.length : Int) := by omega
      have hj := ML.out.je hi1
      have HP := Lib.hid (show parse t = if s.nodes = 0 then .error (4, no) else .ok s by
        rw [ML.out.par, hj]
        unfold restFrom
        rw [if_neg (by omega)]
        rfl)
      have hbs := ML.out.script.1
      have hc0 : wr.cell? ⟨w.heap.size + 1 + 1, 0, none⟩ = some (.int .i64 s.nodes) := cell_of_block hbs 0
      have hc1 : wr.cell? ⟨w.heap.size + 1 + 1, 1, none⟩ = some v := cell_of_block hbs 1
      have hbr := ML.out.keep.at' H0.out (by omega)
      have hbr1 := ML.out.keep.at' H1.out (by omega)
      have hb0 : wr.cell? ⟨w.heap.size, 0, none⟩ = some (.int .i64 0) := cell_of_block hbr 0
      have hb1 : wr.cell? ⟨w.heap.size, 1, none⟩ = some nilS := cell_of_block hbr 1
      have hf0 := free_of_block hbr 0
      have hf1 := free_of_block hbr 1
      have hb2 : wr.cell? ⟨w.heap.size + 1, 0, none⟩ = some (.int .i64 0) := cell_of_block hbr1 0
      have hb3 : wr.cell? ⟨w.heap.size + 1, 1, none⟩ = some (.int .i64 0) := cell_of_block hbr1 1
      have hf2 := free_of_block hbr1 0
      have hf3 := free_of_block hbr1 1
      have HBR := Lib.hid hbr
      have HBR1 := Lib.hid hbr1
      obtain ⟨av, cv, hv, -⟩ := ML.out.script.2.slice
      have HK4 := Lib.hid ML.out.keep
      have HV := Lib.hid (ML.out.script.2.base (show w.heap.size ≤ w.heap.size + 2 + 1 by omega))
      have HVL := Lib.hid ML.out.script.2.lt
      clear hbs hbr hbr1 hj hi1 hji hil hni hle
      subst hv
      by_cases hz : s.nodes = 0
      · have hz' : (s.nodes == 0) = true := by simpa using hz
        have HE := Lib.hid (show parse t = .error (4, no) by rw [HP.out, if_pos hz])
        clear hz HP
        go_wp2_with fail
        refine bodyPost_ret (v := .tuple #[.agg #[.int .i64 0, nilS], .agg #[.int .i64 4, .int .i64 (no : Int)]]) (results_cell_cell (n := 2) (n' := 2) Tryz.results9 Tryz.underlying29 rfl info29 Tryz.underlying32 rfl info32 _ _ w.heap.size (w.heap.size + 1) _ _ 29 32 (0, 0) (0, 0) rfl rfl (two_set_other (two_setR HBR.out) (show w.heap.size ≠ w.heap.size + 1 by omega)) rfl rfl (two_setR (two_set_other HBR1.out (show w.heap.size + 1 ≠ w.heap.size by omega)))) rfl ?_
        refine ⟨HKW.out.trans (((((HK4.out.mono (M' := fun b => b = w.heap.size + 2 ∨ b = w.heap.size ∨ b = w.heap.size + 1) (fun _ _ e => .inl e)).setCell _ _ (.inr (.inr (.inl rfl)))).setCell _ _ (.inr (.inr (.inl rfl)))).setCell _ _ (.inr (.inr (.inr rfl)))).setCell _ _ (.inr (.inr (.inr rfl)))) (fun b hb e => by omega), ?_⟩
        rw [HE.out]
      · have hz' : (s.nodes == 0) = false := by simpa using hz
        have HE := Lib.hid (show parse t = .ok s by rw [HP.out, if_neg hz])
        clear hz HP
        go_wp2_with fail
        refine bodyPost_ret (v := .tuple #[.agg #[.int .i64 s.nodes, .slice av s.steps.length cv], .agg #[.int .i64 0, .int .i64 0]]) (results_cell_cell (n := 2) (n' := 2) Tryz.results9 Tryz.underlying29 rfl info29 Tryz.underlying32 rfl info32 _ _ w.heap.size (w.heap.size + 1) _ _ 29 32 (0, 0) (0, 0) rfl rfl (two_set_other (two_setR HBR.out) (show w.heap.size ≠ w.heap.size + 1 by omega)) rfl rfl (two_setR (two_set_other HBR1.out (show w.heap.size + 1 ≠ w.heap.size by omega)))) rfl ?_
        have hke : Keep (fun b => b = w.heap.size ∨ b = w.heap.size + 1) wr ((((wr.setCell ⟨w.heap.size, 0, none⟩ (.int .i64 s.nodes)).setCell ⟨w.heap.size, 1, none⟩ (.slice av s.steps.length cv)).setCell ⟨w.heap.size + 1, 0, none⟩ (.int .i64 0)).setCell ⟨w.heap.size + 1, 1, none⟩ (.int .i64 0)) := ((((Keep.refl (fun b => b = w.heap.size ∨ b = w.heap.size + 1) wr).setCell _ _ (.inr (.inl rfl))).setCell _ _ (.inr (.inl rfl))).setCell _ _ (.inr (.inr rfl))).setCell _ _ (.inr (.inr rfl))
        refine ⟨HKW.out.trans ((HK4.out.mono (M' := fun b => b = w.heap.size + 2 ∨ b = w.heap.size ∨ b = w.heap.size + 1) (fun _ _ e => .inl e)).trans hke (fun b hb e => .inr e)) (fun b hb e => by omega), ?_⟩
        rw [HE.out]
        refine ⟨_, rfl, HV.out.keep hke (fun g hg e => by have := (HVL.out g hg).1; omega) (fun g cs T hc e => ?_)⟩
        rcases e with rfl | rfl
        · rw [HBR.out] at hc
          injection hc with e2
          injection e2 with e3 e4
          subst e4
          decide
        · rw [HBR1.out] at hc
          injection hc with e2
          injection e2 with e3 e4
          subst e4
          decide
end Go.Proofs.YtifliekahdgobaaGreatDoor
