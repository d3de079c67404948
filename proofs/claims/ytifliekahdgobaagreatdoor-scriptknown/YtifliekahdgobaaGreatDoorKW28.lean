/-
  THE WALKS, 28: stepText (printed by wip/tools/gen_stext.py). Helpers of the claims.
-/
import Derived.Deep.CutRange
import Derived.Test.YtifliekahdgobaaGreatDoorKW15ToAD
set_option linter.unusedSimpArgs false
set_option linter.unusedVariables false
namespace Go.Proofs.YtifliekahdgobaaGreatDoor
open Go.RowKit Sp

theorem run_tail_all (rb off n c : Nat) (h1 : n + 1 ≤ c) : ∃ off' c', (∀ w, (Instr.sliceAt 48 (.slice (some ⟨rb, off, none⟩) (n + 1) c) (some (.int .i64 1)) none none).run Tryz.prog w = .ok (.slice (some ⟨rb, off', none⟩) n c') w) ∧ (n = 0 ∨ off' = off + 1) ∧ n ≤ c' ∧ c' ≤ c := by
  by_cases hc1 : c = 1
  · subst hc1
    obtain rfl : n = 0 := by omega
    refine ⟨off, 0, fun w => ?_, .inl rfl, by omega, by omega⟩
    go_simp
  · refine ⟨off + 1, c - 1, fun w => ?_, .inr rfl, by omega, by omega⟩
    go_simp
    intro h9
    omega
/-- the new line's block, wherever it is laid -/
theorem line_later {w : World} {rb off c : Nat} {x : Str} {ws : List Str} (h : WordsAt w rb off c (x :: ws)) :
    ∃ off' c', (∀ w, (Instr.sliceAt 48 (.slice (some ⟨rb, off, none⟩) (ws.length + 1) c) (some (.int .i64 1)) none none).run Tryz.prog w = .ok (.slice (some ⟨rb, off', none⟩) ws.length c') w) ∧
      ∀ u, Keep (fun _ => False) w u → LineAt (u.alloc (.cells #[.slice (some ⟨rb, off', none⟩) ws.length c'] 117 (0, 0))) u.heap.size rb ws := by
  have h1 := h.cap
  simp only [List.length_cons] at h1
  obtain ⟨off', c', h2, h3, h4, h5⟩ := run_tail_all rb off ws.length c h1
  have hrb : rb < w.heap.size := World.block_lt_of_cell? _ _ (h.cells 0 x rfl)
  refine ⟨off', c', h2, fun u hk => ⟨off', c', block_new _ _, h4, Nat.le_trans h5 h.small, by have := hk.size; omega, ?_, h.ok.tail⟩⟩
  rcases h3 with h3 | h3
  · intro i y hy
    have : ws = [] := List.length_eq_zero_iff.1 h3
    subst this
    simp at hy
  · subst h3
    exact h.cells.tail.keep (hk.alloc _) (fun e => e)
/-- what has come of the reading back -/
def CutS (W : World) (k : Nat) (ws : List Str) (s11 : Value) (wx : World) : Prop :=
  Keep (fun _ => False) W wx ∧ ∃ (q : Nat) (y : StepS) (vc vt ve : Value), s11 = .pointer (some ⟨q, 0, none⟩) ∧ pstep k ws = some y ∧ StepBlk wx q y vc vt ve ∧ ReqRead wx y.req vc vt ve
theorem CutS.mk {W u : World} {k q : Nat} {ws : List Str} {y : StepS} {vc vt ve : Value} {cz : Array Value} (hk : Keep (fun _ => False) W u) (hWq : W.heap.size ≤ q) (hq : u.heap[q]? = some (.cells cz 63 (0, 0))) (hz : cz.size = 19) (hps : pstep k ws = some y) (hri : ReqIs u y.req vc vt ve) :
    ∃ u', (stT 63 (.pointer (some ⟨q, 0, none⟩)) (.agg (stepCells y vc vt ve))).run Tryz.prog u = .ok .skip u' ∧ Keep (fun _ => False) W u' ∧ CutS W k ws (.pointer (some ⟨q, 0, none⟩)) u' := by
  obtain ⟨a1, c1, rfl, -⟩ := ownsRow_len hri.1
  obtain ⟨a2, c2, rfl, -⟩ := ownsRow_len hri.2.1
  obtain ⟨a3, c3, rfl, -⟩ := ownsRow_len hri.2.2
  have hst := run_st63 u q 0 (stepCells y (.slice a1 y.req.cmps.length c1) (.slice a2 y.req.thn.length c2) (.slice a3 y.req.els.length c3)) (there_of_block hq (by rw [hz]; exact Nat.le_refl _)) rfl (stepCells_one _ _ _ _ rfl rfl rfl)
  have hkq : Keep (fun b => b = q) u (u.setCells q 0 (stepCells y (.slice a1 y.req.cmps.length c1) (.slice a2 y.req.thn.length c2) (.slice a3 y.req.els.length c3)).toList) := (Keep.refl _ u).setCells _ _ _ (.inr rfl)
  have hkW : Keep (fun _ => False) W (u.setCells q 0 (stepCells y (.slice a1 y.req.cmps.length c1) (.slice a2 y.req.thn.length c2) (.slice a3 y.req.els.length c3)).toList) := hk.trans hkq (fun b hb e => by omega)
  refine ⟨_, hst, hkW, hkW, q, y, _, _, _, rfl, hps, ⟨block_setCells_all hq _ (by rw [hz]; rfl)⟩, ReqRead.of_is (hri.keep hkq (fun g cs T hc e => ?_))⟩
  subst e
  rw [hq] at hc
  injection hc with e2
  injection e2 with e3 e4
  subst e4
  decide
theorem ok_lens {y : StepS} (h : okStep y = true) : y.req.cmps.length ≤ 1000000 ∧ y.req.thn.length ≤ 1000000 ∧ y.req.els.length ≤ 1000000 := by
  have h1 := ((okStep_iff y).1 h).2.2
  have hz : y.req = .zero → y.req.cmps.length ≤ 1000000 ∧ y.req.thn.length ≤ 1000000 ∧ y.req.els.length ≤ 1000000 := fun e => by rw [e]; decide
  unfold okBody at h1
  split at h1
  · simp only [Bool.and_eq_true, beq_iff_eq] at h1
    exact hz h1.1.2
  · split at h1
    · simp only [Bool.and_eq_true, beq_iff_eq] at h1
      exact hz h1.1.2
    · split at h1
      · simp only [Bool.and_eq_true, beq_iff_eq] at h1
        have := ((okReq_iff y.req).1 h1.1.2).2.2.2.2.1
        unfold okParts at this
        simp only [Bool.and_eq_true, decide_eq_true_eq] at this
        omega
      · simp only [Bool.and_eq_true, beq_iff_eq] at h1
        exact hz h1.1.2
attribute [local go_sem ↓] execOp_add9

theorem enter_fn {f : FuncId} {fn : Func} {c : Code} (hf : Tryz.prog.funcs[f]? = some fn) (hname : (fn.name == "runtime.NumGoroutine") = false) (hb : fn.body = some c) (args : Array Value) (w : World) : (callFunc f args).run Tryz.prog w = .ok (.enter f args) w := by
  have h1 : fn.name ≠ "runtime.NumGoroutine" := by simpa using hname
  simp [callFunc, hf, h1, hb]
set_option maxRecDepth 100000 in
set_option maxHeartbeats 6400000 in
theorem stext_node (R F : FuncId) (hen : ∀ args w, (callFunc F args).run Tryz.prog w = .ok (.enter F args) w) (k : Nat) (hk12 : k < 12) (hnode : 2 < k) (s : StepS) (hsk : s.kind = k) (hR : readF k = R) (hF : writeF k = F) (vc vt ve : Value) (hm : MidStep s) (r n : Nat) (w : World) (hg : Glob w) (hr : RulesAt w r) (hn : NamesAt w n) (hq : ReqRead w s.req vc vt ve)
    (hb : ∀ w', Keep (fun _ => False) w w' → Calls Tryz.prog F #[.agg (stepCells s vc vt ve)] w' (GotText (bodyText k s) (bodyOk k s) w')) (hls : s.req.cmps.length ≤ 1000000 ∧ s.req.thn.length ≤ 1000000 ∧ s.req.els.length ≤ 1000000) :
    Calls Tryz.prog 38 #[.agg (stepCells s vc vt ve), .map (some r), .map (some n)] w (GotSText s w) := by
  obtain ⟨B, hB⟩ : ∃ B, B = w.heap.size := ⟨_, rfl⟩
  obtain ⟨cs, hcs⟩ : ∃ cs, cs = stepCells s vc vt ve := ⟨_, rfl⟩
  obtain ⟨W0, hW0⟩ : ∃ W : World, W = w.alloc (.cells cs 63) := ⟨_, rfl⟩
  have hk0 : Keep (fun _ => False) w W0 := by rw [hW0]; exact (Keep.refl _ w).alloc _
  have hB0 : StepBlk W0 B s vc vt ve := ⟨by rw [hW0, hB, ← hcs]; exact block_new _ _⟩
  have hlk := look_name (hn.keep hk0) k hk12
  have hc0 : W0.cell? ⟨B, 0, none⟩ = some (.int .i64 (k : Int)) := by rw [← hsk]; exact cell_of_block hB0.blk 0
  obtain ⟨B1, hB1⟩ : ∃ B, B = W0.heap.size := ⟨_, rfl⟩
  obtain ⟨W1, hW1⟩ : ∃ W : World, W = W0.alloc (.cells #[sv (nm k)] 90) := ⟨_, rfl⟩
  have hk1 : Keep (fun _ => False) w W1 := by rw [hW1]; exact hk0.alloc _
  have hB1k : Keep (fun _ => False) W0 W1 := by rw [hW1]; exact (Keep.refl _ W0).alloc _
  have hc7 : W1.heap[B1]? = some (.cells #[sv (nm k)] 90 (0, 0)) := by rw [hW1, hB1]; exact block_new _ _
  have c7 : W1.cell? ⟨B1, 0, none⟩ = some (sv (nm k)) := cell_of_block hc7 0
  obtain ⟨rc, hrc⟩ : ∃ rc, rc = ruleCells k (decide (2 < k)) (readF k) (writeF k) := ⟨_, rfl⟩
  have hlk2 := look_rule1 (hr.keep hk1) k hk12
  rw [← hrc] at hlk2
  obtain ⟨B2, hB2⟩ : ∃ B, B = W1.heap.size := ⟨_, rfl⟩
  have hz : (W1.alloc (.cells #[.int .i64 0, .bool false, .nilFunc, .nilFunc] 88)).heap[B2]? = some (.cells #[.int .i64 0, .bool false, .nilFunc, .nilFunc] 88 (0, 0)) := by rw [hB2]; exact block_new _ _
  have hst := run_st88 (W1.alloc (.cells #[.int .i64 0, .bool false, .nilFunc, .nilFunc] 88)) B2 0 rc (there_of_block hz (Nat.le_refl 4)) (by rw [hrc]; rfl) (by rw [hrc]; simp [ruleCells, one_int, one_bool, one_func])
  obtain ⟨W2, hW2⟩ : ∃ W : World, W = (W1.alloc (.cells #[.int .i64 0, .bool false, .nilFunc, .nilFunc] 88)).setCells B2 0 rc.toList := ⟨_, rfl⟩
  rw [← hW2] at hst
  have hk12' : Keep (fun _ => False) W1 W2 := by rw [hW2]; exact ((Keep.refl _ W1).alloc _).setCells _ _ _ (.inl (by omega))
  have hb2 : W2.heap[B2]? = some (.cells rc 88 (0, 0)) := by
    have h9 := block_setCells_all hz rc.toList (by rw [hrc]; rfl)
    rw [Array.toArray_toList] at h9
    rw [hW2]
    exact h9
  have hb2' : W2.heap[B2]? = some (.cells #[.int .i64 (k : Int), .bool true, .func (.func R) #[] #[], .func (.func F) #[] #[]] 88 (0, 0)) := by rw [hb2, hrc, hR, hF, decide_eq_true hnode]; rfl
  have hk2 := hk1.trans' hk12'
  have e7 : W2.cell? ⟨B1, 0, none⟩ = some (sv (nm k)) := hk12'.cellOf c7 (fun e => e)
  have f1 : W2.cell? ⟨B2, 1, none⟩ = some (.bool true) := cell_of_block hb2' 1
  have hB2s := hB0.keep (hB1k.trans' hk12') (fun e => e)
  have cn : W2.cell? ⟨B, 1, none⟩ = some (.int .i64 s.node) := cell_of_block hB2s.blk 1
  have HLD2 := Lib.hid (fun w' (hk : Keep (fun _ => False) W2 w') => run_ld88 w' B2 0 rc (by rw [hrc]; rfl) (range_of_block (hk.at' hb2 (fun e => e))))
  have HF3 := Lib.hid (fun w' (hk : Keep (fun _ => False) W2 w') => (cell_of_block (hk.at' hb2' (fun e => e)) 3 : w'.cell? ⟨B2, 3, none⟩ = some (.func (.func F) #[] #[])))
  have HSB := Lib.hid (fun w' (hk : Keep (fun _ => False) W2 w') => hB2s.keep hk (fun e => e))
  have HBD := Lib.hid (fun w' (hk : Keep (fun _ => False) W2 w') => hb w' (hk2.trans' hk))
  have HGL := Lib.hid (hg.far hk2)
  have HRQ := Lib.hid (hq.far hk2)
  have HSTEP : Hid (∀ (lb A : Nat) (u : World), LineAt u lb A (nodeWords s ++ bodyWords s) → A < u.heap.size → Calls Tryz.prog 55 #[.agg rc, .pointer (some ⟨lb, 0, none⟩)] u (GotPStep lb A u (pstep k (nodeWords s ++ bodyWords s)))) := Lib.hid (fun lb A u h hA => by rw [hrc]; exact step_any lb A k _ u h hA)
  have hbl := body_le k s hm
  have hnl := nm_len k hk12
  have hil := itoa_len s.node
  obtain ⟨T0, E0, n0, r0⟩ := add_step [32] (itoa s.node) (by simp only [List.length_cons, List.length_nil]; omega)
  simp only [List.length_cons, List.length_nil] at n0
  obtain ⟨T1, E1, n1, r1⟩ := add_step (nm k) T0 (by omega)
  obtain ⟨T2, E2, n2, r2⟩ := add_step T1 (bodyText k s) (by omega)
  have HT : Hid (T2 = Sp.stepText s) := Lib.hid (by rw [stepText_parts s k hsk]; unfold nodeText; rw [if_pos hnode]; rw [E2.out, E1.out, E0.out]; simp)
  have HTL := Lib.hid (show T2.length ≤ 1073741824 by omega)
  have HWT := Lib.hid (fun (hbo : bodyOk k s = true) => by rw [HT.out]; exact stepText_words s k hsk hk12 hbo : bodyOk k s = true → words T2 = nm k :: (nodeWords s ++ bodyWords s))
  have HNB := Lib.hid (show pstep k (nodeWords s ++ bodyWords s) ≠ some s → okStep s = false from fun h => by
    cases ho : okStep s
    · rfl
    · exact absurd (step_back hsk ho) h)
  have HNF := Lib.hid (show bodyOk k s = false → okStep s = false from body_not hsk)
  have HOK := Lib.hid (fun (y : StepS) (h : pstep k (nodeWords s ++ bodyWords s) = some y) => pstep_ok hk12 h)
  have HSK := Lib.hid hsk
  have HM := Lib.hid hm
  have HLS := Lib.hid hls
  have HW0 := Lib.hid hW0
  have HW1 := Lib.hid hW1
  have HB := Lib.hid hB
  have HB1 := Lib.hid hB1
  have HB2 := Lib.hid hB2
  have HK2 := Lib.hid hk2
  rw [← hcs]
  have HCS := Lib.hid hcs
  clear hcs hW0 hk0 hB0 hW1 hk1 hB1k hc7 hrc hz hW2 hk12' hb2 hb2' hk2 hB2s hb hg hr hn hq hm hls n0 n1 n2 hB hB1 hB2 hsk hR hF hnode hk12
  generalize nodeWords s ++ bodyWords s = ws at *
  go_enter Tryz.func38, Tryz.ntmps38
  go_upto_region 1 with fail
  rw [← HW0.out]
  rw [← HB.out]
  go_wp2_with fail
  refine (must_ok _ _).mono ?_
  rintro e w' ⟨rfl, rfl⟩
  rw [← HW1.out, ← HB1.out]
  clear hlk hc0 HW0 HW1 HB HB1
  obtain rfl := HB2.out
  clear HB2
  go_wp2_with fail
  generalize W1.heap.size = B2 at *
  refine (itoa_any s.node HM.out.n0 HM.out.n1 _ HGL.out).mono ?_
  rintro e w3 ⟨rfl, hk3⟩
  have HK3 := Lib.hid hk3
  clear hk3
  have g3 := HF3.out w3 HK3.out
  have hld := run_ld63 w3 B 0 cs (by rw [HCS.out]; rfl) (range_of_block (by rw [HCS.out]; exact (HSB.out w3 HK3.out).blk))
  have HBB := Lib.hid (show Calls Tryz.prog F #[.agg cs] w3 (GotText (bodyText k s) (bodyOk k s) w3) from by rw [HCS.out]; exact HBD.out w3 HK3.out)
  generalize bodyText k s = bt at *
  go_wp2_with fail
  refine HBB.out.mono ?_
  rintro e w4 ⟨hk4, ⟨ho, rfl⟩ | ⟨ho, rfl⟩⟩
  rotate_left
  · exact ⟨rfl, HK2.out.trans' (HK3.out.trans' hk4), .inr ⟨HNF.out ho, 2, by decide, rfl⟩⟩
  have HK24 := Lib.hid (HK3.out.trans' hk4)
  have HK4 := Lib.hid (HK2.out.trans' HK24.out)
  have HLD := Lib.hid (fun w' (hk : Keep (fun _ => False) w4 w') => HLD2.out w' (HK24.out.trans' hk))
  have HWD : Hid (∀ u, Calls Tryz.prog 24 #[sv T2] u (GotWords u (nm k :: ws))) := Lib.hid (fun u => by
    have := words_any T2 u HTL.out
    rwa [HWT.out ho] at this)
  clear hk4 ho g3 hld HBB e7 f1 cn c7 hlk2 hst hbl hnl hil
  go_upto_region 8 with fail
  clear r0 r1 r2
  go_cut [11] from 41 to 48 (fun s11 wx => CutS w4 k ws s11 wx)
  case first =>
    refine wp_region_held_drew (S := fun w' => (ldT 88 (.pointer (some ⟨B2, 0, none⟩))).run Tryz.prog w' = .ok (.value (.agg rc)) w') (by kernel_rfl) (HLD.out _ ((Keep.refl _ w4).drew)) (fun hHeld => ?_)
    have hkD : Keep (fun _ => False) w4 w4.drew := (Keep.refl _ w4).drew
    generalize w4.drew = V0 at *
    refine wpAnyH_take (i := 0) (oi := ?_) (v := ?_) (by simp only [List.getElem?_toArray, List.getElem?_cons_succ, List.getElem?_cons_zero]; exact rfl) (by kernel_rfl) (by kernel_rfl) (by kernel_rfl) (by exact fun _ _ _ h => h) (Or.inl ⟨by rfl, ?_⟩) (by assumption) ?_
    rotate_left
    · (intro w hSw; (try dsimp only at hSw); go_simp; try with_reducible rfl)
    try simp only [Act.put, List.setIfInBounds_toArray, List.set_cons_zero, List.set_cons_succ]
    refine wpAnyH_take (i := 1) (oi := ?_) (v := ?_) (by simp only [List.getElem?_toArray, List.getElem?_cons_succ, List.getElem?_cons_zero]; exact rfl) (by kernel_rfl) (by kernel_rfl) (by kernel_rfl) (by exact fun _ _ _ h => h) (Or.inl ⟨by rfl, ?_⟩) (by assumption) ?_
    rotate_left
    · (intro w hSw; (try dsimp only at hSw); go_simp; try with_reducible rfl)
    try simp only [Act.put, List.setIfInBounds_toArray, List.set_cons_zero, List.set_cons_succ]
    refine wpAnyH_ready (rs := [2, 7]) (by kernel_rfl) (by simp) ?_
    refine AllReadyH.cons (o := ?_) (by simp only [List.getElem?_toArray, List.getElem?_cons_succ, List.getElem?_cons_zero]; exact rfl) (fun K hK => ?_) (AllReadyH.cons (o := ?_) (by simp only [List.getElem?_toArray, List.getElem?_cons_succ, List.getElem?_cons_zero]; exact rfl) (fun K hK => ?_) AllReadyH.nil)
    · go_simp
      refine (HWD.out V0).mono ?_
      rintro e u1 ⟨A, c, rfl, hws, hA, hA2, hkc⟩
      have hkD1 := hkD.trans' hkc
      obtain ⟨off', c', hsl, hln⟩ := line_later hws
      have HLNN := Lib.hid hln
      clear hln hA hws
      have hkA : Keep (fun _ => False) u1 u1 := Keep.refl _ _
      clear hkc
      simp only [List.length_cons]
      refine hK.out _ _ (HLD.out _ hkD1) (fun hHeld => ?_)
      clear hK K
      try simp only [Act.put, List.setIfInBounds_toArray, List.set_cons_zero, List.set_cons_succ]
      refine wpAnyH_take (i := 3) (oi := ?_) (v := ?_) (by simp only [List.getElem?_toArray, List.getElem?_cons_succ, List.getElem?_cons_zero]; exact rfl) (by kernel_rfl) (by kernel_rfl) (by kernel_rfl) (by exact fun _ _ _ h => h) (Or.inl ⟨by rfl, ?_⟩) (by assumption) ?_
      rotate_left
      · (intro w hSw; (try dsimp only at hSw); go_simp; try with_reducible rfl)
      try simp only [Act.put, List.setIfInBounds_toArray, List.set_cons_zero, List.set_cons_succ]
      refine wpAnyH_take (i := 4) (oi := ?_) (v := ?_) (by simp only [List.getElem?_toArray, List.getElem?_cons_succ, List.getElem?_cons_zero]; exact rfl) (by kernel_rfl) (by kernel_rfl) (by kernel_rfl) (by exact fun _ _ _ h => h) (Or.inl ⟨by rfl, ?_⟩) (by assumption) ?_
      rotate_left
      · (intro w hSw; (try dsimp only at hSw); go_simp; try with_reducible rfl)
      try simp only [Act.put, List.setIfInBounds_toArray, List.set_cons_zero, List.set_cons_succ]
      refine wpAnyH_ready (rs := [5, 7]) (by kernel_rfl) (by simp) ?_
      refine AllReadyH.cons (o := ?_) (by simp only [List.getElem?_toArray, List.getElem?_cons_succ, List.getElem?_cons_zero]; exact rfl) (fun K hK => ?_) (AllReadyH.cons (o := ?_) (by simp only [List.getElem?_toArray, List.getElem?_cons_succ, List.getElem?_cons_zero]; exact rfl) (fun K hK => ?_) AllReadyH.nil)
      · obtain ⟨u2, hu⟩ : ∃ u : World, u = u1.alloc (.cells #[.slice (some ⟨A, off', none⟩) ws.length c'] 117) := ⟨_, rfl⟩
        obtain ⟨lb, hlb⟩ : ∃ lb, lb = u1.heap.size := ⟨_, rfl⟩
        have hl : LineAt u2 lb A ws := by rw [hu, hlb]; exact HLNN.out _ hkA
        have hkc : Keep (fun _ => False) u1 u2 := by rw [hu]; exact (Keep.refl _ _).alloc _
        have hkD2 := hkD1.trans' hkc
        have hWl : w4.heap.size ≤ lb := by rw [hlb]; exact hkD1.size
        have hA3 : A < u2.heap.size := by have := hkc.size; have := hkA.size; omega
        have HWL := Lib.hid hWl
        have HU := Lib.hid hu
        have HLB := Lib.hid hlb
        have HL := Lib.hid hl
        clear hu hlb hkc hWl hl hA2 hkA
        go_simp
        rw [← HU.out, ← HLB.out]
        refine hK.out _ _ (HLD.out _ hkD2) (fun hHeld => ?_)
        clear hK K
        try simp only [Act.put, List.setIfInBounds_toArray, List.set_cons_zero, List.set_cons_succ]
        clear HU
        refine wpAnyH_ready (rs := [6, 7]) (by kernel_rfl) (by simp) ?_
        refine AllReadyH.cons (o := ?_) (by simp only [List.getElem?_toArray, List.getElem?_cons_succ, List.getElem?_cons_zero]; exact rfl) (fun K hK => ?_) (AllReadyH.cons (o := ?_) (by simp only [List.getElem?_toArray, List.getElem?_cons_succ, List.getElem?_cons_zero]; exact rfl) (fun K hK => ?_) AllReadyH.nil)
        · go_simp
          refine (HSTEP.out lb A u2 HL.out hA3).mono ?_
          rintro e u3 ⟨hkc, hg⟩
          have hkD3 := hkD2.trans hkc (fun b hb e => by have := HWL.out; omega)
          rcases hps : pstep k ws with _ | y
          · rw [hps] at hg
            subst hg
            have HKE := Lib.hid hkD3
            exact ⟨rfl, (HK4.out.trans' HKE.out), .inr ⟨HNB.out (fun e => by rw [hps] at e; cases e), 4, by decide, rfl⟩⟩
          · rw [hps] at hg
            obtain ⟨vc', vt', ve', rfl, hri, hl'⟩ := hg
            have HRI := Lib.hid hri
            have HPS := Lib.hid hps
            clear hri hl' hkc hps
            refine hK.out _ _ (HLD.out _ hkD3) (fun hHeld => ?_)
            clear hK K
            try simp only [Act.put, List.setIfInBounds_toArray, List.set_cons_zero, List.set_cons_succ]
            refine wpAnyH_ready (rs := [7]) (by kernel_rfl) (by simp) ?_
            refine AllReadyH.cons (o := ?_) (by simp only [List.getElem?_toArray, List.getElem?_cons_succ, List.getElem?_cons_zero]; exact rfl) (fun K hK => ?_) AllReadyH.nil
            obtain ⟨u4, hu⟩ : ∃ u : World, u = u3.alloc (.cells (#[.int .i64 0, .int .i64 0, .int .u64 0, .int .i64 0, .int .u64 0, .int .u64 0, .bool false, .slice none 0 0, .slice none 0 0, .slice none 0 0, .int .u64 0, .int .u64 0, .string ⟨#[]⟩, .string ⟨#[]⟩, .int .u64 0, .bool false, .bool false, .bool false, .bool false]) 63 (0, 0)) := ⟨_, rfl⟩
            obtain ⟨q, hqq⟩ : ∃ q, q = u3.heap.size := ⟨_, rfl⟩
            have hkc : Keep (fun _ => False) u3 u4 := by rw [hu]; exact (Keep.refl _ _).alloc _
            have hkD4 := hkD3.trans' hkc
            have hWq : w4.heap.size ≤ q := by rw [hqq]; exact hkD3.size
            have hq : u4.heap[q]? = some (.cells (#[.int .i64 0, .int .i64 0, .int .u64 0, .int .i64 0, .int .u64 0, .int .u64 0, .bool false, .slice none 0 0, .slice none 0 0, .slice none 0 0, .int .u64 0, .int .u64 0, .string ⟨#[]⟩, .string ⟨#[]⟩, .int .u64 0, .bool false, .bool false, .bool false, .bool false]) 63 (0, 0)) := by rw [hu, hqq]; exact block_new _ _
            have HRI2 := Lib.hid (HRI.out.keep hkc (fun _ _ _ _ e => e.elim))
            clear HRI
            have HRI := HRI2
            clear HRI2
            have HWQ := Lib.hid hWq
            have HU := Lib.hid hu
            have HQ := Lib.hid hqq
            clear hu hqq hkc hWq
            go_simp
            rw [← HU.out, ← HQ.out]
            refine hK.out _ _ (HLD.out _ hkD4) (fun hHeld => ?_)
            clear hK K
            try simp only [Act.put, List.setIfInBounds_toArray, List.set_cons_zero, List.set_cons_succ]
            clear HU
            obtain ⟨ue, hst, hke, hcs⟩ := CutS.mk hkD4 HWQ.out hq rfl HPS.out HRI.out
            have HCS := Lib.hid hcs
            clear hcs
            refine wpAnyH_ready (rs := [8]) (by kernel_rfl) (by simp) ?_
            refine AllReadyH.cons (o := ?_) (by simp only [List.getElem?_toArray, List.getElem?_cons_succ, List.getElem?_cons_zero]; exact rfl) (fun K hK => ?_) AllReadyH.nil
            unfold stepCells at hst ⊢
            go_simp
            refine hK.out _ _ (HLD.out _ hke) (fun hHeld => ?_)
            clear hK K
            try simp only [Act.put, List.setIfInBounds_toArray, List.set_cons_zero, List.set_cons_succ]
            refine wpAnyH_done (by kernel_rfl) ?_ _
            go_wp2_with fail
            go_meet
            exact HCS.out
        · obtain ⟨u3, hu⟩ : ∃ u : World, u = u2.alloc (.cells (#[.int .i64 0, .int .i64 0, .int .u64 0, .int .i64 0, .int .u64 0, .int .u64 0, .bool false, .slice none 0 0, .slice none 0 0, .slice none 0 0, .int .u64 0, .int .u64 0, .string ⟨#[]⟩, .string ⟨#[]⟩, .int .u64 0, .bool false, .bool false, .bool false, .bool false]) 63 (0, 0)) := ⟨_, rfl⟩
          obtain ⟨q, hqq⟩ : ∃ q, q = u2.heap.size := ⟨_, rfl⟩
          have hkc : Keep (fun _ => False) u2 u3 := by rw [hu]; exact (Keep.refl _ _).alloc _
          have hkD3 := hkD2.trans' hkc
          have hWq : w4.heap.size ≤ q := by rw [hqq]; exact hkD2.size
          have hq : u3.heap[q]? = some (.cells (#[.int .i64 0, .int .i64 0, .int .u64 0, .int .i64 0, .int .u64 0, .int .u64 0, .bool false, .slice none 0 0, .slice none 0 0, .slice none 0 0, .int .u64 0, .int .u64 0, .string ⟨#[]⟩, .string ⟨#[]⟩, .int .u64 0, .bool false, .bool false, .bool false, .bool false]) 63 (0, 0)) := by rw [hu, hqq]; exact block_new _ _
          have hql : ¬ q = lb := by have := HL.out.lt; omega
          have HL2 := Lib.hid (HL.out.keep hkc (fun e => e) (fun e => e))
          clear HL
          have HL := HL2
          clear HL2
          have hA4 : A < u3.heap.size := by have := hkc.size; omega
          clear hA3
          have hA3 := hA4
          clear hA4
          have HWQ := Lib.hid hWq
          have HU := Lib.hid hu
          have HQ := Lib.hid hqq
          clear hu hqq hkc hWq
          go_simp
          rw [← HU.out, ← HQ.out]
          refine hK.out _ _ (HLD.out _ hkD3) (fun hHeld => ?_)
          clear hK K
          try simp only [Act.put, List.setIfInBounds_toArray, List.set_cons_zero, List.set_cons_succ]
          clear HU
          refine wpAnyH_ready (rs := [6]) (by kernel_rfl) (by simp) ?_
          refine AllReadyH.cons (o := ?_) (by simp only [List.getElem?_toArray, List.getElem?_cons_succ, List.getElem?_cons_zero]; exact rfl) (fun K hK => ?_) AllReadyH.nil
          go_simp
          refine (HSTEP.out lb A u3 HL.out hA3).mono ?_
          rintro e u4 ⟨hkc, hg⟩
          have hkD4 := hkD3.trans hkc (fun b hb e => by have := HWL.out; omega)
          rcases hps : pstep k ws with _ | y
          · rw [hps] at hg
            subst hg
            have HKE := Lib.hid hkD4
            exact ⟨rfl, (HK4.out.trans' HKE.out), .inr ⟨HNB.out (fun e => by rw [hps] at e; cases e), 4, by decide, rfl⟩⟩
          · rw [hps] at hg
            obtain ⟨vc', vt', ve', rfl, hri, hl'⟩ := hg
            have HRI := Lib.hid hri
            have HPS := Lib.hid hps
            have hq2 := hkc.at' hq hql
            clear hq
            have hq := hq2
            clear hq2
            clear hri hl' hkc hps
            refine hK.out _ _ (HLD.out _ hkD4) (fun hHeld => ?_)
            clear hK K
            try simp only [Act.put, List.setIfInBounds_toArray, List.set_cons_zero, List.set_cons_succ]
            obtain ⟨ue, hst, hke, hcs⟩ := CutS.mk hkD4 HWQ.out hq rfl HPS.out HRI.out
            have HCS := Lib.hid hcs
            clear hcs
            refine wpAnyH_ready (rs := [8]) (by kernel_rfl) (by simp) ?_
            refine AllReadyH.cons (o := ?_) (by simp only [List.getElem?_toArray, List.getElem?_cons_succ, List.getElem?_cons_zero]; exact rfl) (fun K hK => ?_) AllReadyH.nil
            unfold stepCells at hst ⊢
            go_simp
            refine hK.out _ _ (HLD.out _ hke) (fun hHeld => ?_)
            clear hK K
            try simp only [Act.put, List.setIfInBounds_toArray, List.set_cons_zero, List.set_cons_succ]
            refine wpAnyH_done (by kernel_rfl) ?_ _
            go_wp2_with fail
            go_meet
            exact HCS.out
      · obtain ⟨u2, hu⟩ : ∃ u : World, u = u1.alloc (.cells (#[.int .i64 0, .int .i64 0, .int .u64 0, .int .i64 0, .int .u64 0, .int .u64 0, .bool false, .slice none 0 0, .slice none 0 0, .slice none 0 0, .int .u64 0, .int .u64 0, .string ⟨#[]⟩, .string ⟨#[]⟩, .int .u64 0, .bool false, .bool false, .bool false, .bool false]) 63 (0, 0)) := ⟨_, rfl⟩
        obtain ⟨q, hqq⟩ : ∃ q, q = u1.heap.size := ⟨_, rfl⟩
        have hkc : Keep (fun _ => False) u1 u2 := by rw [hu]; exact (Keep.refl _ _).alloc _
        have hkD2 := hkD1.trans' hkc
        have hWq : w4.heap.size ≤ q := by rw [hqq]; exact hkD1.size
        have hq : u2.heap[q]? = some (.cells (#[.int .i64 0, .int .i64 0, .int .u64 0, .int .i64 0, .int .u64 0, .int .u64 0, .bool false, .slice none 0 0, .slice none 0 0, .slice none 0 0, .int .u64 0, .int .u64 0, .string ⟨#[]⟩, .string ⟨#[]⟩, .int .u64 0, .bool false, .bool false, .bool false, .bool false]) 63 (0, 0)) := by rw [hu, hqq]; exact block_new _ _
        have hkA2 := hkA.trans' hkc
        clear hkA
        have hkA := hkA2
        clear hkA2
        have HWQ := Lib.hid hWq
        have HU := Lib.hid hu
        have HQ := Lib.hid hqq
        clear hu hqq hkc hWq
        go_simp
        rw [← HU.out, ← HQ.out]
        refine hK.out _ _ (HLD.out _ hkD2) (fun hHeld => ?_)
        clear hK K
        try simp only [Act.put, List.setIfInBounds_toArray, List.set_cons_zero, List.set_cons_succ]
        clear HU
        refine wpAnyH_ready (rs := [5]) (by kernel_rfl) (by simp) ?_
        refine AllReadyH.cons (o := ?_) (by simp only [List.getElem?_toArray, List.getElem?_cons_succ, List.getElem?_cons_zero]; exact rfl) (fun K hK => ?_) AllReadyH.nil
        obtain ⟨u3, hu⟩ : ∃ u : World, u = u2.alloc (.cells #[.slice (some ⟨A, off', none⟩) ws.length c'] 117) := ⟨_, rfl⟩
        obtain ⟨lb, hlb⟩ : ∃ lb, lb = u2.heap.size := ⟨_, rfl⟩
        have hl : LineAt u3 lb A ws := by rw [hu, hlb]; exact HLNN.out _ hkA
        have hkc : Keep (fun _ => False) u2 u3 := by rw [hu]; exact (Keep.refl _ _).alloc _
        have hkD3 := hkD2.trans' hkc
        have hWl : w4.heap.size ≤ lb := by rw [hlb]; exact hkD2.size
        have hA3 : A < u3.heap.size := by have := hkc.size; have := hkA.size; omega
        have hql : ¬ q = lb := by have := lt_of_block hq; omega
        have hq2 := hkc.at' hq (fun e => e)
        clear hq
        have hq := hq2
        clear hq2
        have HWL := Lib.hid hWl
        have HU := Lib.hid hu
        have HLB := Lib.hid hlb
        have HL := Lib.hid hl
        clear hu hlb hkc hWl hl hA2 hkA
        go_simp
        rw [← HU.out, ← HLB.out]
        refine hK.out _ _ (HLD.out _ hkD3) (fun hHeld => ?_)
        clear hK K
        try simp only [Act.put, List.setIfInBounds_toArray, List.set_cons_zero, List.set_cons_succ]
        clear HU
        refine wpAnyH_ready (rs := [6]) (by kernel_rfl) (by simp) ?_
        refine AllReadyH.cons (o := ?_) (by simp only [List.getElem?_toArray, List.getElem?_cons_succ, List.getElem?_cons_zero]; exact rfl) (fun K hK => ?_) AllReadyH.nil
        go_simp
        refine (HSTEP.out lb A u3 HL.out hA3).mono ?_
        rintro e u4 ⟨hkc, hg⟩
        have hkD4 := hkD3.trans hkc (fun b hb e => by have := HWL.out; omega)
        rcases hps : pstep k ws with _ | y
        · rw [hps] at hg
          subst hg
          have HKE := Lib.hid hkD4
          exact ⟨rfl, (HK4.out.trans' HKE.out), .inr ⟨HNB.out (fun e => by rw [hps] at e; cases e), 4, by decide, rfl⟩⟩
        · rw [hps] at hg
          obtain ⟨vc', vt', ve', rfl, hri, hl'⟩ := hg
          have HRI := Lib.hid hri
          have HPS := Lib.hid hps
          have hq2 := hkc.at' hq hql
          clear hq
          have hq := hq2
          clear hq2
          clear hri hl' hkc hps
          refine hK.out _ _ (HLD.out _ hkD4) (fun hHeld => ?_)
          clear hK K
          try simp only [Act.put, List.setIfInBounds_toArray, List.set_cons_zero, List.set_cons_succ]
          obtain ⟨ue, hst, hke, hcs⟩ := CutS.mk hkD4 HWQ.out hq rfl HPS.out HRI.out
          have HCS := Lib.hid hcs
          clear hcs
          refine wpAnyH_ready (rs := [8]) (by kernel_rfl) (by simp) ?_
          refine AllReadyH.cons (o := ?_) (by simp only [List.getElem?_toArray, List.getElem?_cons_succ, List.getElem?_cons_zero]; exact rfl) (fun K hK => ?_) AllReadyH.nil
          unfold stepCells at hst ⊢
          go_simp
          refine hK.out _ _ (HLD.out _ hke) (fun hHeld => ?_)
          clear hK K
          try simp only [Act.put, List.setIfInBounds_toArray, List.set_cons_zero, List.set_cons_succ]
          refine wpAnyH_done (by kernel_rfl) ?_ _
          go_wp2_with fail
          go_meet
          exact HCS.out
    · obtain ⟨u1, hu⟩ : ∃ u : World, u = V0.alloc (.cells (#[.int .i64 0, .int .i64 0, .int .u64 0, .int .i64 0, .int .u64 0, .int .u64 0, .bool false, .slice none 0 0, .slice none 0 0, .slice none 0 0, .int .u64 0, .int .u64 0, .string ⟨#[]⟩, .string ⟨#[]⟩, .int .u64 0, .bool false, .bool false, .bool false, .bool false]) 63 (0, 0)) := ⟨_, rfl⟩
      obtain ⟨q, hqq⟩ : ∃ q, q = V0.heap.size := ⟨_, rfl⟩
      have hkc : Keep (fun _ => False) V0 u1 := by rw [hu]; exact (Keep.refl _ _).alloc _
      have hkD1 := hkD.trans' hkc
      have hWq : w4.heap.size ≤ q := by rw [hqq]; exact hkD.size
      have hq : u1.heap[q]? = some (.cells (#[.int .i64 0, .int .i64 0, .int .u64 0, .int .i64 0, .int .u64 0, .int .u64 0, .bool false, .slice none 0 0, .slice none 0 0, .slice none 0 0, .int .u64 0, .int .u64 0, .string ⟨#[]⟩, .string ⟨#[]⟩, .int .u64 0, .bool false, .bool false, .bool false, .bool false]) 63 (0, 0)) := by rw [hu, hqq]; exact block_new _ _
      have HWQ := Lib.hid hWq
      have HU := Lib.hid hu
      have HQ := Lib.hid hqq
      clear hu hqq hkc hWq
      go_simp
      rw [← HU.out, ← HQ.out]
      refine hK.out _ _ (HLD.out _ hkD1) (fun hHeld => ?_)
      clear hK K
      try simp only [Act.put, List.setIfInBounds_toArray, List.set_cons_zero, List.set_cons_succ]
      clear HU
      refine wpAnyH_ready (rs := [2]) (by kernel_rfl) (by simp) ?_
      refine AllReadyH.cons (o := ?_) (by simp only [List.getElem?_toArray, List.getElem?_cons_succ, List.getElem?_cons_zero]; exact rfl) (fun K hK => ?_) AllReadyH.nil
      go_simp
      refine (HWD.out u1).mono ?_
      rintro e u2 ⟨A, c, rfl, hws, hA, hA2, hkc⟩
      have hkD2 := hkD1.trans' hkc
      obtain ⟨off', c', hsl, hln⟩ := line_later hws
      have HLNN := Lib.hid hln
      clear hln hA hws
      have hkA : Keep (fun _ => False) u2 u2 := Keep.refl _ _
      have hq2 := hkc.at' hq (fun e => e)
      clear hq
      have hq := hq2
      clear hq2
      clear hkc
      simp only [List.length_cons]
      refine hK.out _ _ (HLD.out _ hkD2) (fun hHeld => ?_)
      clear hK K
      try simp only [Act.put, List.setIfInBounds_toArray, List.set_cons_zero, List.set_cons_succ]
      refine wpAnyH_take (i := 3) (oi := ?_) (v := ?_) (by simp only [List.getElem?_toArray, List.getElem?_cons_succ, List.getElem?_cons_zero]; exact rfl) (by kernel_rfl) (by kernel_rfl) (by kernel_rfl) (by exact fun _ _ _ h => h) (Or.inl ⟨by rfl, ?_⟩) (by assumption) ?_
      rotate_left
      · (intro w hSw; (try dsimp only at hSw); go_simp; try with_reducible rfl)
      try simp only [Act.put, List.setIfInBounds_toArray, List.set_cons_zero, List.set_cons_succ]
      refine wpAnyH_take (i := 4) (oi := ?_) (v := ?_) (by simp only [List.getElem?_toArray, List.getElem?_cons_succ, List.getElem?_cons_zero]; exact rfl) (by kernel_rfl) (by kernel_rfl) (by kernel_rfl) (by exact fun _ _ _ h => h) (Or.inl ⟨by rfl, ?_⟩) (by assumption) ?_
      rotate_left
      · (intro w hSw; (try dsimp only at hSw); go_simp; try with_reducible rfl)
      try simp only [Act.put, List.setIfInBounds_toArray, List.set_cons_zero, List.set_cons_succ]
      refine wpAnyH_ready (rs := [5]) (by kernel_rfl) (by simp) ?_
      refine AllReadyH.cons (o := ?_) (by simp only [List.getElem?_toArray, List.getElem?_cons_succ, List.getElem?_cons_zero]; exact rfl) (fun K hK => ?_) AllReadyH.nil
      obtain ⟨u3, hu⟩ : ∃ u : World, u = u2.alloc (.cells #[.slice (some ⟨A, off', none⟩) ws.length c'] 117) := ⟨_, rfl⟩
      obtain ⟨lb, hlb⟩ : ∃ lb, lb = u2.heap.size := ⟨_, rfl⟩
      have hl : LineAt u3 lb A ws := by rw [hu, hlb]; exact HLNN.out _ hkA
      have hkc : Keep (fun _ => False) u2 u3 := by rw [hu]; exact (Keep.refl _ _).alloc _
      have hkD3 := hkD2.trans' hkc
      have hWl : w4.heap.size ≤ lb := by rw [hlb]; exact hkD2.size
      have hA3 : A < u3.heap.size := by have := hkc.size; have := hkA.size; omega
      have hql : ¬ q = lb := by have := lt_of_block hq; omega
      have hq2 := hkc.at' hq (fun e => e)
      clear hq
      have hq := hq2
      clear hq2
      have HWL := Lib.hid hWl
      have HU := Lib.hid hu
      have HLB := Lib.hid hlb
      have HL := Lib.hid hl
      clear hu hlb hkc hWl hl hA2 hkA
      go_simp
      rw [← HU.out, ← HLB.out]
      refine hK.out _ _ (HLD.out _ hkD3) (fun hHeld => ?_)
      clear hK K
      try simp only [Act.put, List.setIfInBounds_toArray, List.set_cons_zero, List.set_cons_succ]
      clear HU
      refine wpAnyH_ready (rs := [6]) (by kernel_rfl) (by simp) ?_
      refine AllReadyH.cons (o := ?_) (by simp only [List.getElem?_toArray, List.getElem?_cons_succ, List.getElem?_cons_zero]; exact rfl) (fun K hK => ?_) AllReadyH.nil
      go_simp
      refine (HSTEP.out lb A u3 HL.out hA3).mono ?_
      rintro e u4 ⟨hkc, hg⟩
      have hkD4 := hkD3.trans hkc (fun b hb e => by have := HWL.out; omega)
      rcases hps : pstep k ws with _ | y
      · rw [hps] at hg
        subst hg
        have HKE := Lib.hid hkD4
        exact ⟨rfl, (HK4.out.trans' HKE.out), .inr ⟨HNB.out (fun e => by rw [hps] at e; cases e), 4, by decide, rfl⟩⟩
      · rw [hps] at hg
        obtain ⟨vc', vt', ve', rfl, hri, hl'⟩ := hg
        have HRI := Lib.hid hri
        have HPS := Lib.hid hps
        have hq2 := hkc.at' hq hql
        clear hq
        have hq := hq2
        clear hq2
        clear hri hl' hkc hps
        refine hK.out _ _ (HLD.out _ hkD4) (fun hHeld => ?_)
        clear hK K
        try simp only [Act.put, List.setIfInBounds_toArray, List.set_cons_zero, List.set_cons_succ]
        obtain ⟨ue, hst, hke, hcs⟩ := CutS.mk hkD4 HWQ.out hq rfl HPS.out HRI.out
        have HCS := Lib.hid hcs
        clear hcs
        refine wpAnyH_ready (rs := [8]) (by kernel_rfl) (by simp) ?_
        refine AllReadyH.cons (o := ?_) (by simp only [List.getElem?_toArray, List.getElem?_cons_succ, List.getElem?_cons_zero]; exact rfl) (fun K hK => ?_) AllReadyH.nil
        unfold stepCells at hst ⊢
        go_simp
        refine hK.out _ _ (HLD.out _ hke) (fun hHeld => ?_)
        clear hK K
        try simp only [Act.put, List.setIfInBounds_toArray, List.set_cons_zero, List.set_cons_succ]
        refine wpAnyH_done (by kernel_rfl) ?_ _
        go_wp2_with fail
        go_meet
        exact HCS.out
  case rest =>
    obtain ⟨hkc, q, y, vc', vt', ve', rfl, hps, hQ, hrr⟩ := hcut
    obtain ⟨hoy, hyk⟩ := HOK.out y hps
    have hS := HSB.out wc (HK24.out.trans' hkc)
    have hrs := HRQ.out.far (HK24.out.trans' hkc)
    have q1 : wc.cell? ⟨q, 1, none⟩ = some (.int .i64 y.node) := cell_of_block hQ.blk 1
    have q2 : wc.cell? ⟨q, 2, none⟩ = some (.int .u64 y.n) := cell_of_block hQ.blk 2
    have s1 : wc.cell? ⟨B, 1, none⟩ = some (.int .i64 s.node) := cell_of_block hS.blk 1
    have s2 : wc.cell? ⟨B, 2, none⟩ = some (.int .u64 s.n) := cell_of_block hS.blk 2
    have qw := hQ.watch
    have sw := hS.watch
    have qr := hQ.req
    have sr := hS.req
    have heql := fun w => eql61 y.watch s.watch w
    have hgrd := fun (op : BinOp) (a b : Operand) (w : World) => grd61 op a b y.watch s.watch w
    have HSAME := Lib.hid (sameReq_any y.req s.req vc' vt' ve' vc vt ve wc hrr hrs (ok_lens hoy))
    have HKF := Lib.hid (HK4.out.trans' hkc)
    have HPS := Lib.hid hps
    have HOY := Lib.hid hoy
    have HYK := Lib.hid (hyk.trans HSK.out.symm)
    have HNE := Lib.hid (show y ≠ s → okStep s = false from fun h => HNB.out (fun e => h (by rw [hps] at e; exact Option.some.inj e)))
    clear hkc hps hoy hyk hQ hS hrs hrr
    generalize reqCells y.req vc' vt' ve' = ry at *
    generalize reqCells s.req vc vt ve = rs at *
    generalize watchCells y.watch = wy at *
    generalize watchCells s.watch = wsx at *
    by_cases h1 : y.node = s.node
    rotate_left
    · have g1 : (y.node == s.node) = false := by rw [beq_eq_false_iff_ne]; exact h1
      have HE := Lib.hid (HNE.out (fun e => h1 (by rw [e])))
      clear h1
      go_wp2_with fail
      refine (must_no _ _).mono ?_
      rintro e w' ⟨rfl, rfl⟩
      exact ⟨rfl, HKF.out, .inr ⟨HE.out, 2, by decide, rfl⟩⟩
    have g1 : (y.node == s.node) = true := by rw [beq_iff_eq]; exact h1
    have H1 := Lib.hid h1
    clear h1
    by_cases h2 : y.n = s.n
    rotate_left
    · have g2 : (y.n == s.n) = false := by rw [beq_eq_false_iff_ne]; exact h2
      have HE := Lib.hid (HNE.out (fun e => h2 (by rw [e])))
      clear h2
      go_wp2_with fail
      refine (must_no _ _).mono ?_
      rintro e w' ⟨rfl, rfl⟩
      exact ⟨rfl, HKF.out, .inr ⟨HE.out, 2, by decide, rfl⟩⟩
    have g2 : (y.n == s.n) = true := by rw [beq_iff_eq]; exact h2
    have H2 := Lib.hid h2
    clear h2
    by_cases h3 : y.watch = s.watch
    rotate_left
    · have g3 : decide (y.watch = s.watch) = false := decide_eq_false h3
      have HE := Lib.hid (HNE.out (fun e => h3 (by rw [e])))
      clear h3
      go_wp2_with fail
      refine (must_no _ _).mono ?_
      rintro e w' ⟨rfl, rfl⟩
      exact ⟨rfl, HKF.out, .inr ⟨HE.out, 2, by decide, rfl⟩⟩
    have g3 : decide (y.watch = s.watch) = true := decide_eq_true h3
    have H3 := Lib.hid h3
    clear h3
    go_wp2_with fail
    refine HSAME.out.mono ?_
    rintro e w5 ⟨rfl, hk5⟩
    have HK5 := Lib.hid (HKF.out.trans' hk5)
    clear hk5
    by_cases h4 : y.req = s.req
    · have g4 : decide (y.req = s.req) = true := decide_eq_true h4
      have HE := Lib.hid (show y = s from step_eq HYK.out H1.out H2.out H3.out h4)
      clear h4
      go_wp2_with fail
      refine (must_ok _ _).mono ?_
      rintro e w' ⟨rfl, rfl⟩
      go_wp2_with fail
      go_ret
      refine ⟨HK5.out, .inl ⟨by rw [← HE.out]; exact HOY.out, ?_⟩⟩
      rw [← HT.out]
      rfl
    · have g4 : decide (y.req = s.req) = false := decide_eq_false h4
      have HE := Lib.hid (HNE.out (fun e => h4 (by rw [e])))
      clear h4
      go_wp2_with fail
      refine (must_no _ _).mono ?_
      rintro e w' ⟨rfl, rfl⟩
      exact ⟨rfl, HK5.out, .inr ⟨HE.out, 2, by decide, rfl⟩⟩
set_option maxRecDepth 100000 in
set_option maxHeartbeats 6400000 in
theorem stext_77_plain (k : Nat) (hk12 : k < 12) (hnode : ¬ 2 < k) (s : StepS) (hsk : s.kind = k) (hR : readF k = 76) (hF : writeF k = 77) (vc vt ve : Value) (hm : MidStep s) (r n : Nat) (w : World) (hg : Glob w) (hr : RulesAt w r) (hn : NamesAt w n) (hq : ReqRead w s.req vc vt ve)
    (hb : ∀ w', Keep (fun _ => False) w w' → Calls Tryz.prog 77 #[.agg (stepCells s vc vt ve)] w' (GotText (bodyText k s) (bodyOk k s) w')) (hls : s.req.cmps.length ≤ 1000000 ∧ s.req.thn.length ≤ 1000000 ∧ s.req.els.length ≤ 1000000) :
    Calls Tryz.prog 38 #[.agg (stepCells s vc vt ve), .map (some r), .map (some n)] w (GotSText s w) := by
  obtain ⟨B, hB⟩ : ∃ B, B = w.heap.size := ⟨_, rfl⟩
  obtain ⟨cs, hcs⟩ : ∃ cs, cs = stepCells s vc vt ve := ⟨_, rfl⟩
  obtain ⟨W0, hW0⟩ : ∃ W : World, W = w.alloc (.cells cs 63) := ⟨_, rfl⟩
  have hk0 : Keep (fun _ => False) w W0 := by rw [hW0]; exact (Keep.refl _ w).alloc _
  have hB0 : StepBlk W0 B s vc vt ve := ⟨by rw [hW0, hB, ← hcs]; exact block_new _ _⟩
  have hlk := look_name (hn.keep hk0) k hk12
  have hc0 : W0.cell? ⟨B, 0, none⟩ = some (.int .i64 (k : Int)) := by rw [← hsk]; exact cell_of_block hB0.blk 0
  obtain ⟨B1, hB1⟩ : ∃ B, B = W0.heap.size := ⟨_, rfl⟩
  obtain ⟨W1, hW1⟩ : ∃ W : World, W = W0.alloc (.cells #[sv (nm k)] 90) := ⟨_, rfl⟩
  have hk1 : Keep (fun _ => False) w W1 := by rw [hW1]; exact hk0.alloc _
  have hB1k : Keep (fun _ => False) W0 W1 := by rw [hW1]; exact (Keep.refl _ W0).alloc _
  have hc7 : W1.heap[B1]? = some (.cells #[sv (nm k)] 90 (0, 0)) := by rw [hW1, hB1]; exact block_new _ _
  have c7 : W1.cell? ⟨B1, 0, none⟩ = some (sv (nm k)) := cell_of_block hc7 0
  obtain ⟨rc, hrc⟩ : ∃ rc, rc = ruleCells k (decide (2 < k)) (readF k) (writeF k) := ⟨_, rfl⟩
  have hlk2 := look_rule1 (hr.keep hk1) k hk12
  rw [← hrc] at hlk2
  obtain ⟨B2, hB2⟩ : ∃ B, B = W1.heap.size := ⟨_, rfl⟩
  have hz : (W1.alloc (.cells #[.int .i64 0, .bool false, .nilFunc, .nilFunc] 88)).heap[B2]? = some (.cells #[.int .i64 0, .bool false, .nilFunc, .nilFunc] 88 (0, 0)) := by rw [hB2]; exact block_new _ _
  have hst := run_st88 (W1.alloc (.cells #[.int .i64 0, .bool false, .nilFunc, .nilFunc] 88)) B2 0 rc (there_of_block hz (Nat.le_refl 4)) (by rw [hrc]; rfl) (by rw [hrc]; simp [ruleCells, one_int, one_bool, one_func])
  obtain ⟨W2, hW2⟩ : ∃ W : World, W = (W1.alloc (.cells #[.int .i64 0, .bool false, .nilFunc, .nilFunc] 88)).setCells B2 0 rc.toList := ⟨_, rfl⟩
  rw [← hW2] at hst
  have hk12' : Keep (fun _ => False) W1 W2 := by rw [hW2]; exact ((Keep.refl _ W1).alloc _).setCells _ _ _ (.inl (by omega))
  have hb2 : W2.heap[B2]? = some (.cells rc 88 (0, 0)) := by
    have h9 := block_setCells_all hz rc.toList (by rw [hrc]; rfl)
    rw [Array.toArray_toList] at h9
    rw [hW2]
    exact h9
  have hb2' : W2.heap[B2]? = some (.cells #[.int .i64 (k : Int), .bool false, .func (.func 76) #[] #[], .func (.func 77) #[] #[]] 88 (0, 0)) := by rw [hb2, hrc, hR, hF, decide_eq_false hnode]; rfl
  have hk2 := hk1.trans' hk12'
  have e7 : W2.cell? ⟨B1, 0, none⟩ = some (sv (nm k)) := hk12'.cellOf c7 (fun e => e)
  have f1 : W2.cell? ⟨B2, 1, none⟩ = some (.bool false) := cell_of_block hb2' 1
  have hB2s := hB0.keep (hB1k.trans' hk12') (fun e => e)
  have cn : W2.cell? ⟨B, 1, none⟩ = some (.int .i64 s.node) := cell_of_block hB2s.blk 1
  have HLD2 := Lib.hid (fun w' (hk : Keep (fun _ => False) W2 w') => run_ld88 w' B2 0 rc (by rw [hrc]; rfl) (range_of_block (hk.at' hb2 (fun e => e))))
  have HF3 := Lib.hid (fun w' (hk : Keep (fun _ => False) W2 w') => (cell_of_block (hk.at' hb2' (fun e => e)) 3 : w'.cell? ⟨B2, 3, none⟩ = some (.func (.func 77) #[] #[])))
  have HSB := Lib.hid (fun w' (hk : Keep (fun _ => False) W2 w') => hB2s.keep hk (fun e => e))
  have HBD := Lib.hid (fun w' (hk : Keep (fun _ => False) W2 w') => hb w' (hk2.trans' hk))
  have HGL := Lib.hid (hg.far hk2)
  have HRQ := Lib.hid (hq.far hk2)
  have HSTEP : Hid (∀ (lb A : Nat) (u : World), LineAt u lb A (nodeWords s ++ bodyWords s) → A < u.heap.size → Calls Tryz.prog 55 #[.agg rc, .pointer (some ⟨lb, 0, none⟩)] u (GotPStep lb A u (pstep k (nodeWords s ++ bodyWords s)))) := Lib.hid (fun lb A u h hA => by rw [hrc]; exact step_any lb A k _ u h hA)
  have hbl := body_le k s hm
  have hnl := nm_len k hk12
  have hil := itoa_len s.node
  obtain ⟨T2, E2, n2, r2⟩ := add_step (nm k) (bodyText k s) (by omega)
  have HT : Hid (T2 = Sp.stepText s) := Lib.hid (by rw [stepText_parts s k hsk]; unfold nodeText; rw [if_neg hnode]; rw [E2.out]; simp)
  have HTL := Lib.hid (show T2.length ≤ 1073741824 by omega)
  have HWT := Lib.hid (fun (hbo : bodyOk k s = true) => by rw [HT.out]; exact stepText_words s k hsk hk12 hbo : bodyOk k s = true → words T2 = nm k :: (nodeWords s ++ bodyWords s))
  have HNB := Lib.hid (show pstep k (nodeWords s ++ bodyWords s) ≠ some s → okStep s = false from fun h => by
    cases ho : okStep s
    · rfl
    · exact absurd (step_back hsk ho) h)
  have HNF := Lib.hid (show bodyOk k s = false → okStep s = false from body_not hsk)
  have HOK := Lib.hid (fun (y : StepS) (h : pstep k (nodeWords s ++ bodyWords s) = some y) => pstep_ok hk12 h)
  have HSK := Lib.hid hsk
  have HM := Lib.hid hm
  have HLS := Lib.hid hls
  have HW0 := Lib.hid hW0
  have HW1 := Lib.hid hW1
  have HB := Lib.hid hB
  have HB1 := Lib.hid hB1
  have HB2 := Lib.hid hB2
  have HK2 := Lib.hid hk2
  rw [← hcs]
  have HCS := Lib.hid hcs
  clear hcs hW0 hk0 hB0 hW1 hk1 hB1k hc7 hrc hz hW2 hk12' hb2 hb2' hk2 hB2s hb hg hr hn hq hm hls n2 hB hB1 hB2 hsk hR hF hnode hk12
  generalize nodeWords s ++ bodyWords s = ws at *
  go_enter Tryz.func38, Tryz.ntmps38
  go_upto_region 1 with fail
  rw [← HW0.out]
  rw [← HB.out]
  go_wp2_with fail
  refine (must_ok _ _).mono ?_
  rintro e w' ⟨rfl, rfl⟩
  rw [← HW1.out, ← HB1.out]
  clear hlk hc0 HW0 HW1 HB HB1
  obtain rfl := HB2.out
  clear HB2
  have g3 := HF3.out W2 (Keep.refl _ W2)
  have hld := run_ld63 W2 B 0 cs (by rw [HCS.out]; rfl) (range_of_block (by rw [HCS.out]; exact (HSB.out W2 (Keep.refl _ W2)).blk))
  have HBB := Lib.hid (show Calls Tryz.prog 77 #[.agg cs] W2 (GotText (bodyText k s) (bodyOk k s) W2) from by rw [HCS.out]; exact HBD.out W2 (Keep.refl _ W2))
  generalize bodyText k s = bt at *
  go_wp2_with fail
  generalize W1.heap.size = B2 at *
  refine HBB.out.mono ?_
  rintro e w4 ⟨hk4, ⟨ho, rfl⟩ | ⟨ho, rfl⟩⟩
  rotate_left
  · exact ⟨rfl, HK2.out.trans' ((Keep.refl _ W2).trans' hk4), .inr ⟨HNF.out ho, 2, by decide, rfl⟩⟩
  have HK24 := Lib.hid ((Keep.refl _ W2).trans' hk4)
  have HK4 := Lib.hid (HK2.out.trans' HK24.out)
  have HLD := Lib.hid (fun w' (hk : Keep (fun _ => False) w4 w') => HLD2.out w' (HK24.out.trans' hk))
  have HWD : Hid (∀ u, Calls Tryz.prog 24 #[sv T2] u (GotWords u (nm k :: ws))) := Lib.hid (fun u => by
    have := words_any T2 u HTL.out
    rwa [HWT.out ho] at this)
  clear hk4 ho g3 hld HBB e7 f1 cn c7 hlk2 hst hbl hnl hil
  go_upto_region 8 with fail
  clear r2
  go_cut [11] from 41 to 48 (fun s11 wx => CutS w4 k ws s11 wx)
  case first =>
    refine wp_region_held_drew (S := fun w' => (ldT 88 (.pointer (some ⟨B2, 0, none⟩))).run Tryz.prog w' = .ok (.value (.agg rc)) w') (by kernel_rfl) (HLD.out _ ((Keep.refl _ w4).drew)) (fun hHeld => ?_)
    have hkD : Keep (fun _ => False) w4 w4.drew := (Keep.refl _ w4).drew
    generalize w4.drew = V0 at *
    refine wpAnyH_take (i := 0) (oi := ?_) (v := ?_) (by simp only [List.getElem?_toArray, List.getElem?_cons_succ, List.getElem?_cons_zero]; exact rfl) (by kernel_rfl) (by kernel_rfl) (by kernel_rfl) (by exact fun _ _ _ h => h) (Or.inl ⟨by rfl, ?_⟩) (by assumption) ?_
    rotate_left
    · (intro w hSw; (try dsimp only at hSw); go_simp; try with_reducible rfl)
    try simp only [Act.put, List.setIfInBounds_toArray, List.set_cons_zero, List.set_cons_succ]
    refine wpAnyH_take (i := 1) (oi := ?_) (v := ?_) (by simp only [List.getElem?_toArray, List.getElem?_cons_succ, List.getElem?_cons_zero]; exact rfl) (by kernel_rfl) (by kernel_rfl) (by kernel_rfl) (by exact fun _ _ _ h => h) (Or.inl ⟨by rfl, ?_⟩) (by assumption) ?_
    rotate_left
    · (intro w hSw; (try dsimp only at hSw); go_simp; try with_reducible rfl)
    try simp only [Act.put, List.setIfInBounds_toArray, List.set_cons_zero, List.set_cons_succ]
    refine wpAnyH_ready (rs := [2, 7]) (by kernel_rfl) (by simp) ?_
    refine AllReadyH.cons (o := ?_) (by simp only [List.getElem?_toArray, List.getElem?_cons_succ, List.getElem?_cons_zero]; exact rfl) (fun K hK => ?_) (AllReadyH.cons (o := ?_) (by simp only [List.getElem?_toArray, List.getElem?_cons_succ, List.getElem?_cons_zero]; exact rfl) (fun K hK => ?_) AllReadyH.nil)
    · go_simp
      refine (HWD.out V0).mono ?_
      rintro e u1 ⟨A, c, rfl, hws, hA, hA2, hkc⟩
      have hkD1 := hkD.trans' hkc
      obtain ⟨off', c', hsl, hln⟩ := line_later hws
      have HLNN := Lib.hid hln
      clear hln hA hws
      have hkA : Keep (fun _ => False) u1 u1 := Keep.refl _ _
      clear hkc
      simp only [List.length_cons]
      refine hK.out _ _ (HLD.out _ hkD1) (fun hHeld => ?_)
      clear hK K
      try simp only [Act.put, List.setIfInBounds_toArray, List.set_cons_zero, List.set_cons_succ]
      refine wpAnyH_take (i := 3) (oi := ?_) (v := ?_) (by simp only [List.getElem?_toArray, List.getElem?_cons_succ, List.getElem?_cons_zero]; exact rfl) (by kernel_rfl) (by kernel_rfl) (by kernel_rfl) (by exact fun _ _ _ h => h) (Or.inl ⟨by rfl, ?_⟩) (by assumption) ?_
      rotate_left
      · (intro w hSw; (try dsimp only at hSw); go_simp; try with_reducible rfl)
      try simp only [Act.put, List.setIfInBounds_toArray, List.set_cons_zero, List.set_cons_succ]
      refine wpAnyH_take (i := 4) (oi := ?_) (v := ?_) (by simp only [List.getElem?_toArray, List.getElem?_cons_succ, List.getElem?_cons_zero]; exact rfl) (by kernel_rfl) (by kernel_rfl) (by kernel_rfl) (by exact fun _ _ _ h => h) (Or.inl ⟨by rfl, ?_⟩) (by assumption) ?_
      rotate_left
      · (intro w hSw; (try dsimp only at hSw); go_simp; try with_reducible rfl)
      try simp only [Act.put, List.setIfInBounds_toArray, List.set_cons_zero, List.set_cons_succ]
      refine wpAnyH_ready (rs := [5, 7]) (by kernel_rfl) (by simp) ?_
      refine AllReadyH.cons (o := ?_) (by simp only [List.getElem?_toArray, List.getElem?_cons_succ, List.getElem?_cons_zero]; exact rfl) (fun K hK => ?_) (AllReadyH.cons (o := ?_) (by simp only [List.getElem?_toArray, List.getElem?_cons_succ, List.getElem?_cons_zero]; exact rfl) (fun K hK => ?_) AllReadyH.nil)
      · obtain ⟨u2, hu⟩ : ∃ u : World, u = u1.alloc (.cells #[.slice (some ⟨A, off', none⟩) ws.length c'] 117) := ⟨_, rfl⟩
        obtain ⟨lb, hlb⟩ : ∃ lb, lb = u1.heap.size := ⟨_, rfl⟩
        have hl : LineAt u2 lb A ws := by rw [hu, hlb]; exact HLNN.out _ hkA
        have hkc : Keep (fun _ => False) u1 u2 := by rw [hu]; exact (Keep.refl _ _).alloc _
        have hkD2 := hkD1.trans' hkc
        have hWl : w4.heap.size ≤ lb := by rw [hlb]; exact hkD1.size
        have hA3 : A < u2.heap.size := by have := hkc.size; have := hkA.size; omega
        have HWL := Lib.hid hWl
        have HU := Lib.hid hu
        have HLB := Lib.hid hlb
        have HL := Lib.hid hl
        clear hu hlb hkc hWl hl hA2 hkA
        go_simp
        rw [← HU.out, ← HLB.out]
        refine hK.out _ _ (HLD.out _ hkD2) (fun hHeld => ?_)
        clear hK K
        try simp only [Act.put, List.setIfInBounds_toArray, List.set_cons_zero, List.set_cons_succ]
        clear HU
        refine wpAnyH_ready (rs := [6, 7]) (by kernel_rfl) (by simp) ?_
        refine AllReadyH.cons (o := ?_) (by simp only [List.getElem?_toArray, List.getElem?_cons_succ, List.getElem?_cons_zero]; exact rfl) (fun K hK => ?_) (AllReadyH.cons (o := ?_) (by simp only [List.getElem?_toArray, List.getElem?_cons_succ, List.getElem?_cons_zero]; exact rfl) (fun K hK => ?_) AllReadyH.nil)
        · go_simp
          refine (HSTEP.out lb A u2 HL.out hA3).mono ?_
          rintro e u3 ⟨hkc, hg⟩
          have hkD3 := hkD2.trans hkc (fun b hb e => by have := HWL.out; omega)
          rcases hps : pstep k ws with _ | y
          · rw [hps] at hg
            subst hg
            have HKE := Lib.hid hkD3
            exact ⟨rfl, (HK4.out.trans' HKE.out), .inr ⟨HNB.out (fun e => by rw [hps] at e; cases e), 4, by decide, rfl⟩⟩
          · rw [hps] at hg
            obtain ⟨vc', vt', ve', rfl, hri, hl'⟩ := hg
            have HRI := Lib.hid hri
            have HPS := Lib.hid hps
            clear hri hl' hkc hps
            refine hK.out _ _ (HLD.out _ hkD3) (fun hHeld => ?_)
            clear hK K
            try simp only [Act.put, List.setIfInBounds_toArray, List.set_cons_zero, List.set_cons_succ]
            refine wpAnyH_ready (rs := [7]) (by kernel_rfl) (by simp) ?_
            refine AllReadyH.cons (o := ?_) (by simp only [List.getElem?_toArray, List.getElem?_cons_succ, List.getElem?_cons_zero]; exact rfl) (fun K hK => ?_) AllReadyH.nil
            obtain ⟨u4, hu⟩ : ∃ u : World, u = u3.alloc (.cells (#[.int .i64 0, .int .i64 0, .int .u64 0, .int .i64 0, .int .u64 0, .int .u64 0, .bool false, .slice none 0 0, .slice none 0 0, .slice none 0 0, .int .u64 0, .int .u64 0, .string ⟨#[]⟩, .string ⟨#[]⟩, .int .u64 0, .bool false, .bool false, .bool false, .bool false]) 63 (0, 0)) := ⟨_, rfl⟩
            obtain ⟨q, hqq⟩ : ∃ q, q = u3.heap.size := ⟨_, rfl⟩
            have hkc : Keep (fun _ => False) u3 u4 := by rw [hu]; exact (Keep.refl _ _).alloc _
            have hkD4 := hkD3.trans' hkc
            have hWq : w4.heap.size ≤ q := by rw [hqq]; exact hkD3.size
            have hq : u4.heap[q]? = some (.cells (#[.int .i64 0, .int .i64 0, .int .u64 0, .int .i64 0, .int .u64 0, .int .u64 0, .bool false, .slice none 0 0, .slice none 0 0, .slice none 0 0, .int .u64 0, .int .u64 0, .string ⟨#[]⟩, .string ⟨#[]⟩, .int .u64 0, .bool false, .bool false, .bool false, .bool false]) 63 (0, 0)) := by rw [hu, hqq]; exact block_new _ _
            have HRI2 := Lib.hid (HRI.out.keep hkc (fun _ _ _ _ e => e.elim))
            clear HRI
            have HRI := HRI2
            clear HRI2
            have HWQ := Lib.hid hWq
            have HU := Lib.hid hu
            have HQ := Lib.hid hqq
            clear hu hqq hkc hWq
            go_simp
            rw [← HU.out, ← HQ.out]
            refine hK.out _ _ (HLD.out _ hkD4) (fun hHeld => ?_)
            clear hK K
            try simp only [Act.put, List.setIfInBounds_toArray, List.set_cons_zero, List.set_cons_succ]
            clear HU
            obtain ⟨ue, hst, hke, hcs⟩ := CutS.mk hkD4 HWQ.out hq rfl HPS.out HRI.out
            have HCS := Lib.hid hcs
            clear hcs
            refine wpAnyH_ready (rs := [8]) (by kernel_rfl) (by simp) ?_
            refine AllReadyH.cons (o := ?_) (by simp only [List.getElem?_toArray, List.getElem?_cons_succ, List.getElem?_cons_zero]; exact rfl) (fun K hK => ?_) AllReadyH.nil
            unfold stepCells at hst ⊢
            go_simp
            refine hK.out _ _ (HLD.out _ hke) (fun hHeld => ?_)
            clear hK K
            try simp only [Act.put, List.setIfInBounds_toArray, List.set_cons_zero, List.set_cons_succ]
            refine wpAnyH_done (by kernel_rfl) ?_ _
            go_wp2_with fail
            go_meet
            exact HCS.out
        · obtain ⟨u3, hu⟩ : ∃ u : World, u = u2.alloc (.cells (#[.int .i64 0, .int .i64 0, .int .u64 0, .int .i64 0, .int .u64 0, .int .u64 0, .bool false, .slice none 0 0, .slice none 0 0, .slice none 0 0, .int .u64 0, .int .u64 0, .string ⟨#[]⟩, .string ⟨#[]⟩, .int .u64 0, .bool false, .bool false, .bool false, .bool false]) 63 (0, 0)) := ⟨_, rfl⟩
          obtain ⟨q, hqq⟩ : ∃ q, q = u2.heap.size := ⟨_, rfl⟩
          have hkc : Keep (fun _ => False) u2 u3 := by rw [hu]; exact (Keep.refl _ _).alloc _
          have hkD3 := hkD2.trans' hkc
          have hWq : w4.heap.size ≤ q := by rw [hqq]; exact hkD2.size
          have hq : u3.heap[q]? = some (.cells (#[.int .i64 0, .int .i64 0, .int .u64 0, .int .i64 0, .int .u64 0, .int .u64 0, .bool false, .slice none 0 0, .slice none 0 0, .slice none 0 0, .int .u64 0, .int .u64 0, .string ⟨#[]⟩, .string ⟨#[]⟩, .int .u64 0, .bool false, .bool false, .bool false, .bool false]) 63 (0, 0)) := by rw [hu, hqq]; exact block_new _ _
          have hql : ¬ q = lb := by have := HL.out.lt; omega
          have HL2 := Lib.hid (HL.out.keep hkc (fun e => e) (fun e => e))
          clear HL
          have HL := HL2
          clear HL2
          have hA4 : A < u3.heap.size := by have := hkc.size; omega
          clear hA3
          have hA3 := hA4
          clear hA4
          have HWQ := Lib.hid hWq
          have HU := Lib.hid hu
          have HQ := Lib.hid hqq
          clear hu hqq hkc hWq
          go_simp
          rw [← HU.out, ← HQ.out]
          refine hK.out _ _ (HLD.out _ hkD3) (fun hHeld => ?_)
          clear hK K
          try simp only [Act.put, List.setIfInBounds_toArray, List.set_cons_zero, List.set_cons_succ]
          clear HU
          refine wpAnyH_ready (rs := [6]) (by kernel_rfl) (by simp) ?_
          refine AllReadyH.cons (o := ?_) (by simp only [List.getElem?_toArray, List.getElem?_cons_succ, List.getElem?_cons_zero]; exact rfl) (fun K hK => ?_) AllReadyH.nil
          go_simp
          refine (HSTEP.out lb A u3 HL.out hA3).mono ?_
          rintro e u4 ⟨hkc, hg⟩
          have hkD4 := hkD3.trans hkc (fun b hb e => by have := HWL.out; omega)
          rcases hps : pstep k ws with _ | y
          · rw [hps] at hg
            subst hg
            have HKE := Lib.hid hkD4
            exact ⟨rfl, (HK4.out.trans' HKE.out), .inr ⟨HNB.out (fun e => by rw [hps] at e; cases e), 4, by decide, rfl⟩⟩
          · rw [hps] at hg
            obtain ⟨vc', vt', ve', rfl, hri, hl'⟩ := hg
            have HRI := Lib.hid hri
            have HPS := Lib.hid hps
            have hq2 := hkc.at' hq hql
            clear hq
            have hq := hq2
            clear hq2
            clear hri hl' hkc hps
            refine hK.out _ _ (HLD.out _ hkD4) (fun hHeld => ?_)
            clear hK K
            try simp only [Act.put, List.setIfInBounds_toArray, List.set_cons_zero, List.set_cons_succ]
            obtain ⟨ue, hst, hke, hcs⟩ := CutS.mk hkD4 HWQ.out hq rfl HPS.out HRI.out
            have HCS := Lib.hid hcs
            clear hcs
            refine wpAnyH_ready (rs := [8]) (by kernel_rfl) (by simp) ?_
            refine AllReadyH.cons (o := ?_) (by simp only [List.getElem?_toArray, List.getElem?_cons_succ, List.getElem?_cons_zero]; exact rfl) (fun K hK => ?_) AllReadyH.nil
            unfold stepCells at hst ⊢
            go_simp
            refine hK.out _ _ (HLD.out _ hke) (fun hHeld => ?_)
            clear hK K
            try simp only [Act.put, List.setIfInBounds_toArray, List.set_cons_zero, List.set_cons_succ]
            refine wpAnyH_done (by kernel_rfl) ?_ _
            go_wp2_with fail
            go_meet
            exact HCS.out
      · obtain ⟨u2, hu⟩ : ∃ u : World, u = u1.alloc (.cells (#[.int .i64 0, .int .i64 0, .int .u64 0, .int .i64 0, .int .u64 0, .int .u64 0, .bool false, .slice none 0 0, .slice none 0 0, .slice none 0 0, .int .u64 0, .int .u64 0, .string ⟨#[]⟩, .string ⟨#[]⟩, .int .u64 0, .bool false, .bool false, .bool false, .bool false]) 63 (0, 0)) := ⟨_, rfl⟩
        obtain ⟨q, hqq⟩ : ∃ q, q = u1.heap.size := ⟨_, rfl⟩
        have hkc : Keep (fun _ => False) u1 u2 := by rw [hu]; exact (Keep.refl _ _).alloc _
        have hkD2 := hkD1.trans' hkc
        have hWq : w4.heap.size ≤ q := by rw [hqq]; exact hkD1.size
        have hq : u2.heap[q]? = some (.cells (#[.int .i64 0, .int .i64 0, .int .u64 0, .int .i64 0, .int .u64 0, .int .u64 0, .bool false, .slice none 0 0, .slice none 0 0, .slice none 0 0, .int .u64 0, .int .u64 0, .string ⟨#[]⟩, .string ⟨#[]⟩, .int .u64 0, .bool false, .bool false, .bool false, .bool false]) 63 (0, 0)) := by rw [hu, hqq]; exact block_new _ _
        have hkA2 := hkA.trans' hkc
        clear hkA
        have hkA := hkA2
        clear hkA2
        have HWQ := Lib.hid hWq
        have HU := Lib.hid hu
        have HQ := Lib.hid hqq
        clear hu hqq hkc hWq
        go_simp
        rw [← HU.out, ← HQ.out]
        refine hK.out _ _ (HLD.out _ hkD2) (fun hHeld => ?_)
        clear hK K
        try simp only [Act.put, List.setIfInBounds_toArray, List.set_cons_zero, List.set_cons_succ]
        clear HU
        refine wpAnyH_ready (rs := [5]) (by kernel_rfl) (by simp) ?_
        refine AllReadyH.cons (o := ?_) (by simp only [List.getElem?_toArray, List.getElem?_cons_succ, List.getElem?_cons_zero]; exact rfl) (fun K hK => ?_) AllReadyH.nil
        obtain ⟨u3, hu⟩ : ∃ u : World, u = u2.alloc (.cells #[.slice (some ⟨A, off', none⟩) ws.length c'] 117) := ⟨_, rfl⟩
        obtain ⟨lb, hlb⟩ : ∃ lb, lb = u2.heap.size := ⟨_, rfl⟩
        have hl : LineAt u3 lb A ws := by rw [hu, hlb]; exact HLNN.out _ hkA
        have hkc : Keep (fun _ => False) u2 u3 := by rw [hu]; exact (Keep.refl _ _).alloc _
        have hkD3 := hkD2.trans' hkc
        have hWl : w4.heap.size ≤ lb := by rw [hlb]; exact hkD2.size
        have hA3 : A < u3.heap.size := by have := hkc.size; have := hkA.size; omega
        have hql : ¬ q = lb := by have := lt_of_block hq; omega
        have hq2 := hkc.at' hq (fun e => e)
        clear hq
        have hq := hq2
        clear hq2
        have HWL := Lib.hid hWl
        have HU := Lib.hid hu
        have HLB := Lib.hid hlb
        have HL := Lib.hid hl
        clear hu hlb hkc hWl hl hA2 hkA
        go_simp
        rw [← HU.out, ← HLB.out]
        refine hK.out _ _ (HLD.out _ hkD3) (fun hHeld => ?_)
        clear hK K
        try simp only [Act.put, List.setIfInBounds_toArray, List.set_cons_zero, List.set_cons_succ]
        clear HU
        refine wpAnyH_ready (rs := [6]) (by kernel_rfl) (by simp) ?_
        refine AllReadyH.cons (o := ?_) (by simp only [List.getElem?_toArray, List.getElem?_cons_succ, List.getElem?_cons_zero]; exact rfl) (fun K hK => ?_) AllReadyH.nil
        go_simp
        refine (HSTEP.out lb A u3 HL.out hA3).mono ?_
        rintro e u4 ⟨hkc, hg⟩
        have hkD4 := hkD3.trans hkc (fun b hb e => by have := HWL.out; omega)
        rcases hps : pstep k ws with _ | y
        · rw [hps] at hg
          subst hg
          have HKE := Lib.hid hkD4
          exact ⟨rfl, (HK4.out.trans' HKE.out), .inr ⟨HNB.out (fun e => by rw [hps] at e; cases e), 4, by decide, rfl⟩⟩
        · rw [hps] at hg
          obtain ⟨vc', vt', ve', rfl, hri, hl'⟩ := hg
          have HRI := Lib.hid hri
          have HPS := Lib.hid hps
          have hq2 := hkc.at' hq hql
          clear hq
          have hq := hq2
          clear hq2
          clear hri hl' hkc hps
          refine hK.out _ _ (HLD.out _ hkD4) (fun hHeld => ?_)
          clear hK K
          try simp only [Act.put, List.setIfInBounds_toArray, List.set_cons_zero, List.set_cons_succ]
          obtain ⟨ue, hst, hke, hcs⟩ := CutS.mk hkD4 HWQ.out hq rfl HPS.out HRI.out
          have HCS := Lib.hid hcs
          clear hcs
          refine wpAnyH_ready (rs := [8]) (by kernel_rfl) (by simp) ?_
          refine AllReadyH.cons (o := ?_) (by simp only [List.getElem?_toArray, List.getElem?_cons_succ, List.getElem?_cons_zero]; exact rfl) (fun K hK => ?_) AllReadyH.nil
          unfold stepCells at hst ⊢
          go_simp
          refine hK.out _ _ (HLD.out _ hke) (fun hHeld => ?_)
          clear hK K
          try simp only [Act.put, List.setIfInBounds_toArray, List.set_cons_zero, List.set_cons_succ]
          refine wpAnyH_done (by kernel_rfl) ?_ _
          go_wp2_with fail
          go_meet
          exact HCS.out
    · obtain ⟨u1, hu⟩ : ∃ u : World, u = V0.alloc (.cells (#[.int .i64 0, .int .i64 0, .int .u64 0, .int .i64 0, .int .u64 0, .int .u64 0, .bool false, .slice none 0 0, .slice none 0 0, .slice none 0 0, .int .u64 0, .int .u64 0, .string ⟨#[]⟩, .string ⟨#[]⟩, .int .u64 0, .bool false, .bool false, .bool false, .bool false]) 63 (0, 0)) := ⟨_, rfl⟩
      obtain ⟨q, hqq⟩ : ∃ q, q = V0.heap.size := ⟨_, rfl⟩
      have hkc : Keep (fun _ => False) V0 u1 := by rw [hu]; exact (Keep.refl _ _).alloc _
      have hkD1 := hkD.trans' hkc
      have hWq : w4.heap.size ≤ q := by rw [hqq]; exact hkD.size
      have hq : u1.heap[q]? = some (.cells (#[.int .i64 0, .int .i64 0, .int .u64 0, .int .i64 0, .int .u64 0, .int .u64 0, .bool false, .slice none 0 0, .slice none 0 0, .slice none 0 0, .int .u64 0, .int .u64 0, .string ⟨#[]⟩, .string ⟨#[]⟩, .int .u64 0, .bool false, .bool false, .bool false, .bool false]) 63 (0, 0)) := by rw [hu, hqq]; exact block_new _ _
      have HWQ := Lib.hid hWq
      have HU := Lib.hid hu
      have HQ := Lib.hid hqq
      clear hu hqq hkc hWq
      go_simp
      rw [← HU.out, ← HQ.out]
      refine hK.out _ _ (HLD.out _ hkD1) (fun hHeld => ?_)
      clear hK K
      try simp only [Act.put, List.setIfInBounds_toArray, List.set_cons_zero, List.set_cons_succ]
      clear HU
      refine wpAnyH_ready (rs := [2]) (by kernel_rfl) (by simp) ?_
      refine AllReadyH.cons (o := ?_) (by simp only [List.getElem?_toArray, List.getElem?_cons_succ, List.getElem?_cons_zero]; exact rfl) (fun K hK => ?_) AllReadyH.nil
      go_simp
      refine (HWD.out u1).mono ?_
      rintro e u2 ⟨A, c, rfl, hws, hA, hA2, hkc⟩
      have hkD2 := hkD1.trans' hkc
      obtain ⟨off', c', hsl, hln⟩ := line_later hws
      have HLNN := Lib.hid hln
      clear hln hA hws
      have hkA : Keep (fun _ => False) u2 u2 := Keep.refl _ _
      have hq2 := hkc.at' hq (fun e => e)
      clear hq
      have hq := hq2
      clear hq2
      clear hkc
      simp only [List.length_cons]
      refine hK.out _ _ (HLD.out _ hkD2) (fun hHeld => ?_)
      clear hK K
      try simp only [Act.put, List.setIfInBounds_toArray, List.set_cons_zero, List.set_cons_succ]
      refine wpAnyH_take (i := 3) (oi := ?_) (v := ?_) (by simp only [List.getElem?_toArray, List.getElem?_cons_succ, List.getElem?_cons_zero]; exact rfl) (by kernel_rfl) (by kernel_rfl) (by kernel_rfl) (by exact fun _ _ _ h => h) (Or.inl ⟨by rfl, ?_⟩) (by assumption) ?_
      rotate_left
      · (intro w hSw; (try dsimp only at hSw); go_simp; try with_reducible rfl)
      try simp only [Act.put, List.setIfInBounds_toArray, List.set_cons_zero, List.set_cons_succ]
      refine wpAnyH_take (i := 4) (oi := ?_) (v := ?_) (by simp only [List.getElem?_toArray, List.getElem?_cons_succ, List.getElem?_cons_zero]; exact rfl) (by kernel_rfl) (by kernel_rfl) (by kernel_rfl) (by exact fun _ _ _ h => h) (Or.inl ⟨by rfl, ?_⟩) (by assumption) ?_
      rotate_left
      · (intro w hSw; (try dsimp only at hSw); go_simp; try with_reducible rfl)
      try simp only [Act.put, List.setIfInBounds_toArray, List.set_cons_zero, List.set_cons_succ]
      refine wpAnyH_ready (rs := [5]) (by kernel_rfl) (by simp) ?_
      refine AllReadyH.cons (o := ?_) (by simp only [List.getElem?_toArray, List.getElem?_cons_succ, List.getElem?_cons_zero]; exact rfl) (fun K hK => ?_) AllReadyH.nil
      obtain ⟨u3, hu⟩ : ∃ u : World, u = u2.alloc (.cells #[.slice (some ⟨A, off', none⟩) ws.length c'] 117) := ⟨_, rfl⟩
      obtain ⟨lb, hlb⟩ : ∃ lb, lb = u2.heap.size := ⟨_, rfl⟩
      have hl : LineAt u3 lb A ws := by rw [hu, hlb]; exact HLNN.out _ hkA
      have hkc : Keep (fun _ => False) u2 u3 := by rw [hu]; exact (Keep.refl _ _).alloc _
      have hkD3 := hkD2.trans' hkc
      have hWl : w4.heap.size ≤ lb := by rw [hlb]; exact hkD2.size
      have hA3 : A < u3.heap.size := by have := hkc.size; have := hkA.size; omega
      have hql : ¬ q = lb := by have := lt_of_block hq; omega
      have hq2 := hkc.at' hq (fun e => e)
      clear hq
      have hq := hq2
      clear hq2
      have HWL := Lib.hid hWl
      have HU := Lib.hid hu
      have HLB := Lib.hid hlb
      have HL := Lib.hid hl
      clear hu hlb hkc hWl hl hA2 hkA
      go_simp
      rw [← HU.out, ← HLB.out]
      refine hK.out _ _ (HLD.out _ hkD3) (fun hHeld => ?_)
      clear hK K
      try simp only [Act.put, List.setIfInBounds_toArray, List.set_cons_zero, List.set_cons_succ]
      clear HU
      refine wpAnyH_ready (rs := [6]) (by kernel_rfl) (by simp) ?_
      refine AllReadyH.cons (o := ?_) (by simp only [List.getElem?_toArray, List.getElem?_cons_succ, List.getElem?_cons_zero]; exact rfl) (fun K hK => ?_) AllReadyH.nil
      go_simp
      refine (HSTEP.out lb A u3 HL.out hA3).mono ?_
      rintro e u4 ⟨hkc, hg⟩
      have hkD4 := hkD3.trans hkc (fun b hb e => by have := HWL.out; omega)
      rcases hps : pstep k ws with _ | y
      · rw [hps] at hg
        subst hg
        have HKE := Lib.hid hkD4
        exact ⟨rfl, (HK4.out.trans' HKE.out), .inr ⟨HNB.out (fun e => by rw [hps] at e; cases e), 4, by decide, rfl⟩⟩
      · rw [hps] at hg
        obtain ⟨vc', vt', ve', rfl, hri, hl'⟩ := hg
        have HRI := Lib.hid hri
        have HPS := Lib.hid hps
        have hq2 := hkc.at' hq hql
        clear hq
        have hq := hq2
        clear hq2
        clear hri hl' hkc hps
        refine hK.out _ _ (HLD.out _ hkD4) (fun hHeld => ?_)
        clear hK K
        try simp only [Act.put, List.setIfInBounds_toArray, List.set_cons_zero, List.set_cons_succ]
        obtain ⟨ue, hst, hke, hcs⟩ := CutS.mk hkD4 HWQ.out hq rfl HPS.out HRI.out
        have HCS := Lib.hid hcs
        clear hcs
        refine wpAnyH_ready (rs := [8]) (by kernel_rfl) (by simp) ?_
        refine AllReadyH.cons (o := ?_) (by simp only [List.getElem?_toArray, List.getElem?_cons_succ, List.getElem?_cons_zero]; exact rfl) (fun K hK => ?_) AllReadyH.nil
        unfold stepCells at hst ⊢
        go_simp
        refine hK.out _ _ (HLD.out _ hke) (fun hHeld => ?_)
        clear hK K
        try simp only [Act.put, List.setIfInBounds_toArray, List.set_cons_zero, List.set_cons_succ]
        refine wpAnyH_done (by kernel_rfl) ?_ _
        go_wp2_with fail
        go_meet
        exact HCS.out
  case rest =>
    obtain ⟨hkc, q, y, vc', vt', ve', rfl, hps, hQ, hrr⟩ := hcut
    obtain ⟨hoy, hyk⟩ := HOK.out y hps
    have hS := HSB.out wc (HK24.out.trans' hkc)
    have hrs := HRQ.out.far (HK24.out.trans' hkc)
    have q1 : wc.cell? ⟨q, 1, none⟩ = some (.int .i64 y.node) := cell_of_block hQ.blk 1
    have q2 : wc.cell? ⟨q, 2, none⟩ = some (.int .u64 y.n) := cell_of_block hQ.blk 2
    have s1 : wc.cell? ⟨B, 1, none⟩ = some (.int .i64 s.node) := cell_of_block hS.blk 1
    have s2 : wc.cell? ⟨B, 2, none⟩ = some (.int .u64 s.n) := cell_of_block hS.blk 2
    have qw := hQ.watch
    have sw := hS.watch
    have qr := hQ.req
    have sr := hS.req
    have heql := fun w => eql61 y.watch s.watch w
    have hgrd := fun (op : BinOp) (a b : Operand) (w : World) => grd61 op a b y.watch s.watch w
    have HSAME := Lib.hid (sameReq_any y.req s.req vc' vt' ve' vc vt ve wc hrr hrs (ok_lens hoy))
    have HKF := Lib.hid (HK4.out.trans' hkc)
    have HPS := Lib.hid hps
    have HOY := Lib.hid hoy
    have HYK := Lib.hid (hyk.trans HSK.out.symm)
    have HNE := Lib.hid (show y ≠ s → okStep s = false from fun h => HNB.out (fun e => h (by rw [hps] at e; exact Option.some.inj e)))
    clear hkc hps hoy hyk hQ hS hrs hrr
    generalize reqCells y.req vc' vt' ve' = ry at *
    generalize reqCells s.req vc vt ve = rs at *
    generalize watchCells y.watch = wy at *
    generalize watchCells s.watch = wsx at *
    by_cases h1 : y.node = s.node
    rotate_left
    · have g1 : (y.node == s.node) = false := by rw [beq_eq_false_iff_ne]; exact h1
      have HE := Lib.hid (HNE.out (fun e => h1 (by rw [e])))
      clear h1
      go_wp2_with fail
      refine (must_no _ _).mono ?_
      rintro e w' ⟨rfl, rfl⟩
      exact ⟨rfl, HKF.out, .inr ⟨HE.out, 2, by decide, rfl⟩⟩
    have g1 : (y.node == s.node) = true := by rw [beq_iff_eq]; exact h1
    have H1 := Lib.hid h1
    clear h1
    by_cases h2 : y.n = s.n
    rotate_left
    · have g2 : (y.n == s.n) = false := by rw [beq_eq_false_iff_ne]; exact h2
      have HE := Lib.hid (HNE.out (fun e => h2 (by rw [e])))
      clear h2
      go_wp2_with fail
      refine (must_no _ _).mono ?_
      rintro e w' ⟨rfl, rfl⟩
      exact ⟨rfl, HKF.out, .inr ⟨HE.out, 2, by decide, rfl⟩⟩
    have g2 : (y.n == s.n) = true := by rw [beq_iff_eq]; exact h2
    have H2 := Lib.hid h2
    clear h2
    by_cases h3 : y.watch = s.watch
    rotate_left
    · have g3 : decide (y.watch = s.watch) = false := decide_eq_false h3
      have HE := Lib.hid (HNE.out (fun e => h3 (by rw [e])))
      clear h3
      go_wp2_with fail
      refine (must_no _ _).mono ?_
      rintro e w' ⟨rfl, rfl⟩
      exact ⟨rfl, HKF.out, .inr ⟨HE.out, 2, by decide, rfl⟩⟩
    have g3 : decide (y.watch = s.watch) = true := decide_eq_true h3
    have H3 := Lib.hid h3
    clear h3
    go_wp2_with fail
    refine HSAME.out.mono ?_
    rintro e w5 ⟨rfl, hk5⟩
    have HK5 := Lib.hid (HKF.out.trans' hk5)
    clear hk5
    by_cases h4 : y.req = s.req
    · have g4 : decide (y.req = s.req) = true := decide_eq_true h4
      have HE := Lib.hid (show y = s from step_eq HYK.out H1.out H2.out H3.out h4)
      clear h4
      go_wp2_with fail
      refine (must_ok _ _).mono ?_
      rintro e w' ⟨rfl, rfl⟩
      go_wp2_with fail
      go_ret
      refine ⟨HK5.out, .inl ⟨by rw [← HE.out]; exact HOY.out, ?_⟩⟩
      rw [← HT.out]
      rfl
    · have g4 : decide (y.req = s.req) = false := decide_eq_false h4
      have HE := Lib.hid (HNE.out (fun e => h4 (by rw [e])))
      clear h4
      go_wp2_with fail
      refine (must_no _ _).mono ?_
      rintro e w' ⟨rfl, rfl⟩
      exact ⟨rfl, HK5.out, .inr ⟨HE.out, 2, by decide, rfl⟩⟩
set_option maxRecDepth 100000 in
theorem stext_bad (s : StepS) (hk : s.kind < 0 ∨ 11 < s.kind) (vc vt ve : Value) (r n : Nat) (w : World) (hn : NamesAt w n) :
    Calls Tryz.prog 38 #[.agg (stepCells s vc vt ve), .map (some r), .map (some n)] w (GotSText s w) := by
  obtain ⟨cs, hcs⟩ : ∃ cs, cs = stepCells s vc vt ve := ⟨_, rfl⟩
  obtain ⟨W0, hW0⟩ : ∃ W : World, W = w.alloc (.cells cs 63) := ⟨_, rfl⟩
  have hk0 : Keep (fun _ => False) w W0 := by rw [hW0]; exact (Keep.refl _ w).alloc _
  have hb : W0.heap[w.heap.size]? = some (.cells (stepCells s vc vt ve) 63 (0, 0)) := by rw [hW0, ← hcs]; exact block_new _ _
  have hlk := look_noname (hn.keep hk0) s.kind hk
  have hc0 : W0.cell? ⟨w.heap.size, 0, none⟩ = some (.int .i64 s.kind) := cell_of_block hb 0
  have HNO := Lib.hid (kind_not hk)
  have HW0 := Lib.hid hW0
  have HK0 := Lib.hid hk0
  rw [← hcs]
  clear hcs hW0 hk0 hb hn hk
  go_enter Tryz.func38, Tryz.ntmps38
  go_upto_region 1 with fail
  rw [← HW0.out]
  go_wp2_with fail
  refine (must_no _ _).mono ?_
  rintro e w' ⟨rfl, rfl⟩
  exact ⟨rfl, HK0.out.alloc _, .inr ⟨HNO.out, 2, by decide, rfl⟩⟩
theorem mid_lens {s : StepS} (h : MidStep s) : s.req.cmps.length ≤ 1000000 ∧ s.req.thn.length ≤ 1000000 ∧ s.req.els.length ≤ 1000000 := by
  have h1 := h.req.lc; have h2 := h.req.lt; have h3 := h.req.le
  omega
theorem stepText_any (s : StepS) (vc vt ve : Value) (hm : MidStep s) (r n : Nat) (w : World) (hg : Glob w) (hr : RulesAt w r) (hn : NamesAt w n) (hq : ReqRead w s.req vc vt ve) :
    Calls Tryz.prog 38 #[.agg (stepCells s vc vt ve), .map (some r), .map (some n)] w (GotSText s w) := by
  by_cases hk : s.kind < 0 ∨ 11 < s.kind
  · exact stext_bad s hk vc vt ve r n w hn
  · obtain ⟨k, hsk⟩ : ∃ k : Nat, s.kind = k := ⟨s.kind.toNat, by omega⟩
    have hk12 : k < 12 := by omega
    have hb := fun w' (hk' : Keep (fun _ => False) w w') => write_any k s vc vt ve hm w' (hg.far hk') (hq.far hk')
    have hl := mid_lens hm
    by_cases h11 : k = 11
    · have hF : writeF k = 67 := by unfold writeF; rw [if_pos h11]
      rw [hF] at hb
      exact stext_node 66 67 (enter_fn Tryz.func67 (by kernel_rfl) rfl) k hk12 (by omega) s hsk (by unfold readF; rw [if_pos h11]) hF vc vt ve hm r n w hg hr hn hq hb hl
    · by_cases h8 : k = 8
      · have hF : writeF k = 70 := by unfold writeF; rw [if_neg h11, if_pos h8]
        rw [hF] at hb
        exact stext_node 68 70 (enter_fn Tryz.func70 (by kernel_rfl) rfl) k hk12 (by omega) s hsk (by unfold readF; rw [if_neg h11, if_pos h8]) hF vc vt ve hm r n w hg hr hn hq hb hl
      · by_cases h7 : k = 7
        · have hF : writeF k = 74 := by unfold writeF; rw [if_neg h11, if_neg h8, if_pos h7]
          rw [hF] at hb
          exact stext_node 72 74 (enter_fn Tryz.func74 (by kernel_rfl) rfl) k hk12 (by omega) s hsk (by unfold readF; rw [if_neg h11, if_neg h8, if_pos h7]) hF vc vt ve hm r n w hg hr hn hq hb hl
        · have hF : writeF k = 77 := by unfold writeF; rw [if_neg h11, if_neg h8, if_neg h7]
          have hR : readF k = 76 := by unfold readF; rw [if_neg h11, if_neg h8, if_neg h7]
          rw [hF] at hb
          by_cases h2 : 2 < k
          · exact stext_node 76 77 (enter_fn Tryz.func77 (by kernel_rfl) rfl) k hk12 h2 s hsk hR hF vc vt ve hm r n w hg hr hn hq hb hl
          · exact stext_77_plain k hk12 h2 s hsk hR hF vc vt ve hm r n w hg hr hn hq hb hl

end Go.Proofs.YtifliekahdgobaaGreatDoor
