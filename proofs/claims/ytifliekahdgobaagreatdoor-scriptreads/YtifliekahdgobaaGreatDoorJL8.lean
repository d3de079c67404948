/-
  ScriptReads (printed by wip/tools/gen_reads.py).
-/
import Derived.Test.YtifliekahdgobaaGreatDoorJR13ToL7
set_option linter.unusedSimpArgs false
set_option linter.unusedVariables false
namespace Go.Proofs.YtifliekahdgobaaGreatDoor
open Go.RowKit Sp

theorem cut_sv (t : Str) (n : Nat) : ∃ ct : Str, Value.string ((⟨t.toArray⟩ : ByteArray).extract 0 (min (t.length : Int) (n : Int)).toNat) = sv ct ∧ ct.length ≤ n := by
  refine ⟨t.take n, ?_, by rw [List.length_take]; omega⟩
  rw [extract_piece]
  unfold piece
  simp only [List.drop_zero, Nat.sub_zero]
  have e : t.take (min (t.length : Int) (n : Int)).toNat = t.take n := by
    rcases Nat.lt_or_ge t.length n with h | h
    · rw [List.take_of_length_le (l := t) (i := n) (by omega), List.take_of_length_le (by omega)]
    · congr 1; omega
  rw [e]
set_option maxRecDepth 100000 in
set_option maxHeartbeats 4000000 in
theorem reads_any (t : Str) (w : World) (hg : Glob w) : Calls Tryz.prog 3 #[sv t] w (Tells true w) := by
  obtain ⟨ct, hct, hlc⟩ := cut_sv t 9000
  have HG := Lib.hid hg
  have H8 := Lib.hid (fun w' (hk : Keep (fun _ => False) w w') => mparse_any ct (by omega) w' (hg.far hk))
  have H9 := Lib.hid (fun w' => rparse_any ct (by omega) w')
  clear hg hlc
  go_enter Tryz.func3, Tryz.ntmps3
  go_upto_region 2 with fail
  rw [show ((9000 : Nat) : Int) = 9000 from rfl] at hct
  rw [hct]
  clear hct
  go_wp2_with fail
  refine (H8.out w (Keep.refl _ _)).mono ?_
  intro e w1 h1
  obtain ⟨s, v, x, c, no, rfl, hu⟩ := parse_uni ct w w1 HG.out e h1
  clear h1
  obtain ⟨a, cp, rfl⟩ := hu.steps.slice
  have HU := Lib.hid hu
  clear hu
  go_upto_region 3 with fail
  obtain ⟨W1, hW1⟩ : ∃ W : World, W = w1.alloc (.cells #[.int .i64 s.nodes, .slice a s.steps.length cp] 24) := ⟨_, rfl⟩
  obtain ⟨b1, hb1⟩ : ∃ b, b = w1.heap.size := ⟨_, rfl⟩
  have hkW1 : Keep (fun _ => False) w1 W1 := by rw [hW1]; exact (Keep.refl _ _).alloc _
  have hbl1 : W1.heap[b1]? = some (.cells #[.int .i64 s.nodes, .slice a s.steps.length cp] 24 (0, 0)) := by rw [hW1, hb1]; exact block_new _ _
  rw [← hW1, ← hb1]
  have HKW1 := Lib.hid hkW1
  have HBL1 := Lib.hid hbl1
  clear hW1 hkW1 hbl1 hb1
  go_wp2_with fail
  refine (H9.out W1).mono ?_
  intro e w2 h2
  obtain ⟨hk2, v2, rfl, hs2⟩ := HU.out.their _ _ _ h2
  clear h2
  obtain ⟨a2, cp2, rfl⟩ := hs2.slice
  have HK2 := Lib.hid hk2
  have HS2 := Lib.hid hs2
  clear hk2 hs2
  go_upto_region 4 with fail
  obtain ⟨V, hV⟩ : ∃ W : World, W = (w2.alloc (.cells #[.int .i64 s.nodes, (.slice a2 s.steps.length cp2)] 29)).alloc (.cells #[.int .i64 c, .int .i64 no] 32) := ⟨_, rfl⟩
  obtain ⟨b2, hb2⟩ : ∃ b, b = w2.heap.size := ⟨_, rfl⟩
  have hkV : Keep (fun _ => False) w2 V := by rw [hV]; exact ((Keep.refl _ _).alloc _).alloc _
  have hbl2 : V.heap[b2]? = some (.cells #[.int .i64 s.nodes, (.slice a2 s.steps.length cp2)] 29 (0, 0)) := by rw [hV, hb2]; exact block_alloc (block_new _ _) _
  have hbl3 : V.heap[b2 + 1]? = some (.cells #[.int .i64 c, .int .i64 no] 32 (0, 0)) := by rw [hV, hb2]; exact block_new' _ _ (by simp)
  rw [← hV, ← hb2]
  have hk1V : Keep (fun _ => False) W1 V := HK2.out.trans' hkV
  have hkw1V : Keep (fun _ => False) w1 V := HKW1.out.trans' hk1V
  have hS : ∀ w', Keep (fun _ => False) V w' → (w'.cell? ⟨b1, 0, none⟩ = some (.int .i64 s.nodes) ∧ w'.cell? ⟨b1, 1, none⟩ = some (.slice a s.steps.length cp) ∧ w'.cell? ⟨b2, 0, none⟩ = some (.int .i64 s.nodes) ∧ w'.cell? ⟨b2, 1, none⟩ = some (.slice a2 s.steps.length cp2) ∧ w'.cell? ⟨b2 + 1, 0, none⟩ = some (.int .i64 c) ∧ w'.cell? ⟨b2 + 1, 1, none⟩ = some (.int .i64 no)) := fun w' hk =>
    ⟨cell_of_block ((hk1V.trans' hk).at' HBL1.out (fun e => e)) 0, cell_of_block ((hk1V.trans' hk).at' HBL1.out (fun e => e)) 1, cell_of_block (hk.at' hbl2 (fun e => e)) 0, cell_of_block (hk.at' hbl2 (fun e => e)) 1, cell_of_block (hk.at' hbl3 (fun e => e)) 0, cell_of_block (hk.at' hbl3 (fun e => e)) 1⟩
  have hsv1 : ∀ w', Keep (fun _ => False) V w' → StepsRead w' (.slice a s.steps.length cp) s.steps := fun w' hk => HU.out.steps.far (hkw1V.trans' hk)
  have hsv2 : ∀ w', Keep (fun _ => False) V w' → StepsRead w' (.slice a2 s.steps.length cp2) s.steps := fun w' hk => HS2.out.far (hkV.trans' hk)
  have HS := Lib.hid hS
  have HT := Lib.hid (fun w' (hk : Keep (fun _ => False) V w') => HU.out.told w' (hkw1V.trans' hk))
  have HO := Lib.hid (fun w' => ours_any s.nodes a s.steps.length cp w')
  have HM := Lib.hid (fun w' (hk : Keep (fun _ => False) V w') => (rSame_any s s _ _ w' (hsv1 w' hk) (hsv2 w' hk) HU.out.lens HU.out.few : Calls Tryz.prog 11 #[.agg #[.int .i64 s.nodes, .slice a s.steps.length cp], .agg #[.int .i64 s.nodes, (.slice a2 s.steps.length cp2)]] w' (Tells (decide (s = s)) w')))
  have HKA := Lib.hid (HU.out.keep.trans' hkw1V)
  have HWK := Lib.hid (fun w' (hk : Keep (fun _ => False) V w') => works_any w' (HG.out.far (HKA.out.trans' hk)))
  have hd : decide (s = s) = true := decide_eq_true rfl
  generalize s.steps.length = SL at *
  generalize s.nodes = NN at *
  clear hV hb2 hkV hbl2 hbl3 hk1V hkw1V hS hsv1 hsv2 HU HS2 HK2 HKW1 HBL1 H8 H9 HG
  refine wp_region_held_drew (S := fun w' => w'.cell? ⟨b1, 0, none⟩ = some (.int .i64 NN) ∧ w'.cell? ⟨b1, 1, none⟩ = some (.slice a SL cp) ∧ w'.cell? ⟨b2, 0, none⟩ = some (.int .i64 NN) ∧ w'.cell? ⟨b2, 1, none⟩ = some (.slice a2 SL cp2) ∧ w'.cell? ⟨b2 + 1, 0, none⟩ = some (.int .i64 c) ∧ w'.cell? ⟨b2 + 1, 1, none⟩ = some (.int .i64 no)) (by kernel_rfl) (HS.out _ ((Keep.refl _ V).drew)) (fun hHeld => ?_)
  have hkk3 : Keep (fun _ => False) V V.drew := (Keep.refl _ V).drew
  refine wpAnyH_take (i := 0) (oi := ?_) (v := ?_) (by simp only [List.getElem?_toArray, List.getElem?_cons_succ, List.getElem?_cons_zero]; exact rfl) (by kernel_rfl) (by kernel_rfl) (by kernel_rfl) (by exact fun _ _ _ h => h) (Or.inl ⟨by rfl, ?_⟩) (by assumption) ?_
  rotate_left
  · (intro w hSw; (try dsimp only at hSw); go_simp; try with_reducible rfl)
  try simp only [Act.put, List.setIfInBounds_toArray, List.set_cons_zero, List.set_cons_succ]
  refine wpAnyH_take (i := 1) (oi := ?_) (v := ?_) (by simp only [List.getElem?_toArray, List.getElem?_cons_succ, List.getElem?_cons_zero]; exact rfl) (by kernel_rfl) (by kernel_rfl) (by kernel_rfl) (by exact fun _ _ _ h => h) (Or.inl ⟨by rfl, ?_⟩) (by assumption) ?_
  rotate_left
  · (intro w hSw; (try dsimp only at hSw); go_simp; try with_reducible rfl)
  try simp only [Act.put, List.setIfInBounds_toArray, List.set_cons_zero, List.set_cons_succ]
  refine wpAnyH_ready (rs := [2]) (by kernel_rfl) (by simp) ?_
  refine AllReadyH.cons (o := ?_) (by simp only [List.getElem?_toArray, List.getElem?_cons_succ, List.getElem?_cons_zero]; exact rfl) (fun K hK => ?_) AllReadyH.nil
  go_simp
  refine (HT.out _ hkk3).mono ?_
  rintro ev w4 ⟨rfl, hk4⟩
  have hkk4 : Keep (fun _ => False) V w4 := hkk3.trans' hk4
  clear hk4
  refine hK.out _ _ (HS.out _ hkk4) (fun hHeld => ?_)
  clear hK K
  try simp only [Act.put, List.setIfInBounds_toArray, List.set_cons_zero, List.set_cons_succ]
  refine wpAnyH_take (i := 3) (oi := ?_) (v := ?_) (by simp only [List.getElem?_toArray, List.getElem?_cons_succ, List.getElem?_cons_zero]; exact rfl) (by kernel_rfl) (by kernel_rfl) (by kernel_rfl) (by exact fun _ _ _ h => h) (Or.inl ⟨by rfl, ?_⟩) (by assumption) ?_
  rotate_left
  · (intro w hSw; (try dsimp only at hSw); go_simp; try with_reducible rfl)
  try simp only [Act.put, List.setIfInBounds_toArray, List.set_cons_zero, List.set_cons_succ]
  refine wpAnyH_take (i := 4) (oi := ?_) (v := ?_) (by simp only [List.getElem?_toArray, List.getElem?_cons_succ, List.getElem?_cons_zero]; exact rfl) (by kernel_rfl) (by kernel_rfl) (by kernel_rfl) (by exact fun _ _ _ h => h) (Or.inl ⟨by rfl, ?_⟩) (by assumption) ?_
  rotate_left
  · (intro w hSw; (try dsimp only at hSw); go_simp; try with_reducible rfl)
  try simp only [Act.put, List.setIfInBounds_toArray, List.set_cons_zero, List.set_cons_succ]
  refine wpAnyH_take (i := 6) (oi := ?_) (v := ?_) (by simp only [List.getElem?_toArray, List.getElem?_cons_succ, List.getElem?_cons_zero]; exact rfl) (by kernel_rfl) (by kernel_rfl) (by kernel_rfl) (by exact fun _ _ _ h => h) (Or.inl ⟨by rfl, ?_⟩) (by assumption) ?_
  rotate_left
  · (intro w hSw; (try dsimp only at hSw); go_simp; try with_reducible rfl)
  try simp only [Act.put, List.setIfInBounds_toArray, List.set_cons_zero, List.set_cons_succ]
  refine wpAnyH_ready (rs := [5]) (by kernel_rfl) (by simp) ?_
  refine AllReadyH.cons (o := ?_) (by simp only [List.getElem?_toArray, List.getElem?_cons_succ, List.getElem?_cons_zero]; exact rfl) (fun K hK => ?_) AllReadyH.nil
  go_simp
  refine (HO.out _).mono ?_
  rintro ev w5 ⟨rfl, hk5⟩
  have hkk5 : Keep (fun _ => False) V w5 := hkk4.trans' hk5
  clear hk5
  refine hK.out _ _ (HS.out _ hkk5) (fun hHeld => ?_)
  clear hK K
  try simp only [Act.put, List.setIfInBounds_toArray, List.set_cons_zero, List.set_cons_succ]
  refine wpAnyH_ready (rs := [7]) (by kernel_rfl) (by simp) ?_
  refine AllReadyH.cons (o := ?_) (by simp only [List.getElem?_toArray, List.getElem?_cons_succ, List.getElem?_cons_zero]; exact rfl) (fun K hK => ?_) AllReadyH.nil
  go_simp
  refine (HM.out _ hkk5).mono ?_
  rintro ev w6 ⟨rfl, hk6⟩
  have hkk6 : Keep (fun _ => False) V w6 := hkk5.trans' hk6
  clear hk6
  refine hK.out _ _ (HS.out _ hkk6) (fun hHeld => ?_)
  clear hK K
  try simp only [Act.put, List.setIfInBounds_toArray, List.set_cons_zero, List.set_cons_succ]
  refine wpAnyH_take (i := 8) (oi := ?_) (v := ?_) (by simp only [List.getElem?_toArray, List.getElem?_cons_succ, List.getElem?_cons_zero]; exact rfl) (by kernel_rfl) (by kernel_rfl) (by kernel_rfl) (by exact fun _ _ _ h => h) (Or.inl ⟨by rfl, ?_⟩) (by assumption) ?_
  rotate_left
  · (intro w hSw; (try dsimp only at hSw); go_simp; try with_reducible rfl)
  try simp only [Act.put, List.setIfInBounds_toArray, List.set_cons_zero, List.set_cons_succ]
  refine wpAnyH_take (i := 9) (oi := ?_) (v := ?_) (by simp only [List.getElem?_toArray, List.getElem?_cons_succ, List.getElem?_cons_zero]; exact rfl) (by kernel_rfl) (by kernel_rfl) (by kernel_rfl) (by exact fun _ _ _ h => h) (Or.inl ⟨by rfl, ?_⟩) (by assumption) ?_
  rotate_left
  · (intro w hSw; (try dsimp only at hSw); go_simp; try with_reducible rfl)
  try simp only [Act.put, List.setIfInBounds_toArray, List.set_cons_zero, List.set_cons_succ]
  refine wpAnyH_ready (rs := [10]) (by kernel_rfl) (by simp) ?_
  refine AllReadyH.cons (o := ?_) (by simp only [List.getElem?_toArray, List.getElem?_cons_succ, List.getElem?_cons_zero]; exact rfl) (fun K hK => ?_) AllReadyH.nil
  go_simp
  refine (HWK.out _ hkk6).mono ?_
  rintro ev w7 ⟨rfl, hk7⟩
  have hkk7 : Keep (fun _ => False) V w7 := hkk6.trans' hk7
  clear hk7
  refine hK.out _ _ (HS.out _ hkk7) (fun hHeld => ?_)
  clear hK K
  try simp only [Act.put, List.setIfInBounds_toArray, List.set_cons_zero, List.set_cons_succ]
  refine wpAnyH_take (i := 11) (oi := ?_) (v := ?_) (by simp only [List.getElem?_toArray, List.getElem?_cons_succ, List.getElem?_cons_zero]; exact rfl) (by kernel_rfl) (by kernel_rfl) (by kernel_rfl) (by exact fun _ _ _ h => h) (Or.inl ⟨by rfl, ?_⟩) (by assumption) ?_
  rotate_left
  · (intro w hSw; (try dsimp only at hSw); go_simp; try with_reducible rfl)
  try simp only [Act.put, List.setIfInBounds_toArray, List.set_cons_zero, List.set_cons_succ]
  refine wpAnyH_ready (rs := [12]) (by kernel_rfl) (by simp) ?_
  refine AllReadyH.cons (o := ?_) (by simp only [List.getElem?_toArray, List.getElem?_cons_succ, List.getElem?_cons_zero]; exact rfl) (fun K hK => ?_) AllReadyH.nil
  go_simp
  refine hK.out _ _ (HS.out _ hkk7) (fun hHeld => ?_)
  clear hK K
  try simp only [Act.put, List.setIfInBounds_toArray, List.set_cons_zero, List.set_cons_succ]
  refine wpAnyH_done (by kernel_rfl) ?_ _
  go_wp2_with fail
  go_ret
  exact ⟨rfl, HKA.out.trans' hkk7⟩
end Go.Proofs.YtifliekahdgobaaGreatDoor
