/-
  ScriptKnown: the walk. Helpers of the claim.
-/
import Derived.Great.BuildSlice
import Derived.Test.YtifliekahdgobaaGreatDoorKW12ToThY
import Derived.Test.YtifliekahdgobaaGreatDoorKL6ToC2
import Derived.Test.YtifliekahdgobaaGreatDoorKW15ToAD
set_option linter.unusedSimpArgs false
set_option linter.unusedVariables false
namespace Go.Proofs.YtifliekahdgobaaGreatDoor
open Go.RowKit Sp

theorem lines_walk_k (w : World) : Calls Tryz.prog 18 #[] w fun e w' => e = .returned (.slice (some ⟨w.heap.size, 0, none⟩) 18 18) ∧ w' = w.alloc (.cells (lines18.map fun y => sv y).toArray 9 (0, 0)) := by
  go_enter Tryz.func18, Tryz.ntmps18
  go_wp2_with fail
  go_ret
  exact ⟨rfl, rfl⟩
/-- strings.Join of the lines -/
theorem join_lines (LB : Nat) (w : World) (hb : w.heap[LB]? = some (.cells (lines18.map fun y => sv y).toArray 9 (0, 0))) : Calls Tryz.prog 20 #[.slice (some ⟨LB, 0, none⟩) 18 18, sv [10]] w (Gives (sv joinK) w) := by
  have e : (lines18.map fun y => (⟨y.toArray⟩ : ByteArray)).map (·.data.toList) = lines18 := by
    rw [List.map_map, List.map_congr_left (g := id) (fun _ _ => by simp)]; simp
  have h := Tryz.strings_Join LB 0 18 (lines18.map fun y => (⟨y.toArray⟩ : ByteArray)) ⟨#[10]⟩ w (by
    intro j x hx
    simp only [List.getElem?_map, Option.map_eq_some_iff] at hx
    obtain ⟨y, hy, rfl⟩ := hx
    rw [Nat.zero_add, cell_of_block hb j]
    simp [hy]) (lt_of_block hb) (by decide) (by decide) (by
    rw [e]
    have := joinK_len
    unfold joinK at this
    exact Nat.le_trans this (by decide))
  rw [e] at h
  refine h.mono ?_
  rintro e w' ⟨rfl, hb'⟩
  exact ⟨rfl, Keep.of_below hb' (Nat.le_refl _)⟩
theorem repeat_any (s : Str) (n : Nat) (w : World) (h : s.length * n ≤ 1000000) (hn : n ≤ 1000000) : Calls Tryz.prog 21 #[sv s, .int .i64 n] w (Gives (sv (Lib.repeatL s n)) w) := by
  refine (Tryz.strings_Repeat ⟨s.toArray⟩ n w (by omega) (by show s.toArray.size * n ≤ _; simp only [List.size_toArray]; omega)).mono ?_
  rintro e w' ⟨rfl, hb'⟩
  exact ⟨rfl, Keep.of_below hb' (Nat.le_refl _)⟩
theorem repeat_c (s : Str) (n : Nat) (c : Int) (hc : c = n) (w : World) (h : s.length * n ≤ 1000000) (hn : n ≤ 1000000) : Calls Tryz.prog 21 #[sv s, .int .i64 c] w (Gives (sv (Lib.repeatL s n)) w) := by
  subst hc
  exact repeat_any s n w h hn
theorem bads_cell (k : Nat) (hk : k < 30) : ∃ x, x ∈ bads ∧ (bads.map fun y => sv y).toArray[k]? = some (sv x) := by
  have hl : k < bads.length := hk
  refine ⟨bads[k], List.getElem_mem hl, ?_⟩
  rw [List.getElem?_toArray, List.getElem?_map, List.getElem?_eq_getElem hl]
  rfl
theorem wrong_k (t : Str) (ht : t.length ≤ 1000000000) (c : Int) (n : Nat) (m : Int) (hm : m = n) (hp : parse t = .error (c, n)) (hc : c ≠ 0) (w : World) (hg : Glob w) : Calls Tryz.prog 22 #[sv t, .int .i64 c, .int .i64 m] w (Tells true w) := by
  subst hm
  exact wrong_any t ht c n hp hc w hg
theorem range_req {w : World} {b o : Nat} {s : StepS} {vc vt ve : Value} (h : w.rangeAt b o (stepCells s vc vt ve).toList) : w.rangeAt b (o + 3) (reqCells s.req vc vt ve).toList := fun j v hv => by
  have := h (3 + j) v (by rw [Array.getElem?_toList]; exact step_req s vc vt ve j v hv)
  rw [Nat.add_assoc]
  exact this
/-- the odd steps, as they lie: the rows of three of them in the blocks n, n + 1, n + 2 -/
def oddsV (n : Nat) : List StepV := (odds.take 11).map (fun x => (x, nilS, nilS, nilS)) ++ [(⟨7, 0, 0, reqThen odd11, .zero⟩, nilS, .slice (some ⟨n, 0, none⟩) 1 1, nilS), (⟨7, 0, 0, reqThen odd12, .zero⟩, nilS, .slice (some ⟨n + 1, 0, none⟩) 1 1, nilS), (⟨7, 0, 0, reqCmps odd13, .zero⟩, .slice (some ⟨n + 2, 0, none⟩) 1 1, nilS, nilS)]
theorem oddsV_map (n : Nat) : (oddsV n).map (·.1) = odds := rfl
theorem oddsV_len (n : Nat) : (oddsV n).length = 14 := rfl
noncomputable def ie63 : TypeInfo := (Tryz.prog.info? 63).get (by kernel_rfl)
noncomputable def z63 : Value := .agg #[.int .i64 0, .int .i64 0, .int .u64 0, .int .i64 0, .int .u64 0, .int .u64 0, .bool false, .slice none 0 0, .slice none 0 0, .slice none 0 0, .int .u64 0, .int .u64 0, .string ⟨#[]⟩, .string ⟨#[]⟩, .int .u64 0, .bool false, .bool false, .bool false, .bool false]
theorem ie63_is : Tryz.prog.info? 63 = some ie63 := by kernel_rfl
theorem ie63_zero : ie63.zero = some z63 := by kernel_rfl
theorem odds_row {O : World} {n : Nat} (h0 : O.heap[n]? = some (.cells (opCells odd11) 67 (0, 0))) (h1 : O.heap[n + 1]? = some (.cells (opCells odd12) 67 (0, 0))) (h2 : O.heap[n + 2]? = some (.cells (cmpCells odd13) 65 (0, 0)))
    (h3 : O.heap[n + 3]? = some (.cells (flat stepEnc (oddsV n)).toArray 63 (0, 0))) (k : Nat) (hk : k < 14) : ∃ x, x ∈ odds ∧ StepsRead O (.slice (some ⟨n + 3, k * 19, none⟩) 1 (14 - k)) [x] := by
  have hrow := RowRead.of_block (enc := stepEnc) (size := 19) (fun _ => rfl) h3 14
  have hl : k < (oddsV n).length := hk
  obtain ⟨b, o, ha, hr⟩ := hrow.at k hl
  have hb : b = n + 3 ∧ o = 0 := by
    injection ha with ha
    injection ha with e1 e2
    exact ⟨e1.symm, e2.symm⟩
  obtain ⟨rfl, rfl⟩ := hb
  have r0 := RowRead.of_block (enc := opCells) (size := 9) (l := [odd11]) (fun _ => rfl) (T := 67) (w := O) (b := n) (by simpa [flat] using h0) 1
  have r1 := RowRead.of_block (enc := opCells) (size := 9) (l := [odd12]) (fun _ => rfl) (T := 67) (w := O) (b := n + 1) (by simpa [flat] using h1) 1
  have r2 := RowRead.of_block (enc := cmpCells) (size := 5) (l := [odd13]) (fun _ => rfl) (T := 65) (w := O) (b := n + 2) (by simpa [flat] using h2) 1
  have hq : ∀ p ∈ oddsV n, ReqRead O p.1.req p.2.1 p.2.2.1 p.2.2.2 := by
    intro p hp
    unfold oddsV at hp
    rcases List.mem_append.1 hp with hp | hp
    · obtain ⟨x, hx, rfl⟩ := List.mem_map.1 hp
      have hz : x.req.cmps = [] ∧ x.req.thn = [] ∧ x.req.els = [] := by
        have : ∀ x ∈ odds.take 11, x.req.cmps = [] ∧ x.req.thn = [] ∧ x.req.els = [] := by decide
        exact this x hx
      unfold ReqRead
      dsimp only
      rw [hz.1, hz.2.1, hz.2.2]
      exact ⟨RowRead.nil _ _ _, RowRead.nil _ _ _, RowRead.nil _ _ _⟩
    · simp only [List.mem_cons, List.mem_nil_iff, or_false] at hp
      rcases hp with rfl | rfl | rfl
      · exact ⟨RowRead.nil _ _ _, r0, RowRead.nil _ _ _⟩
      · exact ⟨RowRead.nil _ _ _, r1, RowRead.nil _ _ _⟩
      · exact ⟨r2, RowRead.nil _ _ _, RowRead.nil _ _ _⟩
  refine ⟨((oddsV n)[k]).1, ?_, [(oddsV n)[k]], rfl, ⟨_, _, rfl, ?_⟩, ?_⟩
  · rw [← oddsV_map n]
    exact List.mem_map.2 ⟨_, List.getElem_mem hl, rfl⟩
  · intro i x hx
    obtain rfl : i = 0 := by
      rcases i with _ | i
      · rfl
      · simp at hx
    simp only [List.getElem?_cons_zero, Option.some.injEq] at hx
    subst hx
    refine ⟨_, _, rfl, ?_⟩
    rw [Nat.zero_mul, Nat.add_zero]
    rw [Nat.zero_add] at hr
    exact hr
  · intro p hp
    rw [List.mem_singleton.1 hp]
    exact hq _ (List.getElem_mem hl)
theorem slice_odd (b k : Nat) (hk : k < 14) (w : World) : (Instr.sliceAt 22 (.slice (some ⟨b, 0, none⟩) 14 14) (some (.int .i64 k)) (some (.int .i64 ((k : Int) + 1))) none).run Tryz.prog w = .ok (.slice (some ⟨b, k * 19, none⟩) 1 (14 - k)) w := by
  rcases (by omega : k = 0 ∨ k = 1 ∨ k = 2 ∨ k = 3 ∨ k = 4 ∨ k = 5 ∨ k = 6 ∨ k = 7 ∨ k = 8 ∨ k = 9 ∨ k = 10 ∨ k = 11 ∨ k = 12 ∨ k = 13) with rfl | rfl | rfl | rfl | rfl | rfl | rfl | rfl | rfl | rfl | rfl | rfl | rfl | rfl <;> kernel_rfl
attribute [local go_sem ↓] execOp_add9
set_option maxRecDepth 100000 in
set_option maxHeartbeats 12800000 in
theorem known_any (w : World) (hg : Glob w) : Calls Tryz.prog 7 #[] w (Tells true w) := by
  have HG := Lib.hid hg
  clear hg
  go_enter Tryz.func7, Tryz.ntmps7
  go_wp2_with fail
  refine (lines_walk_k w).mono ?_
  rintro e w1 ⟨rfl, hw1⟩
  have hbL : w1.heap[w.heap.size]? = some (.cells (lines18.map fun y => sv y).toArray 9 (0, 0)) := by rw [hw1]; exact block_new _ _
  have hk1 : Keep (fun _ => False) w w1 := by rw [hw1]; exact (Keep.refl _ w).alloc _
  have HK1 := Lib.hid hk1
  have HJ := Lib.hid (join_lines w.heap.size w1 hbL)
  generalize w.heap.size = LB at *
  clear hw1 hbL hk1
  go_wp2_with fail
  refine HJ.out.mono ?_
  rintro e w2 ⟨rfl, hk2⟩
  have HK2 := Lib.hid (HK1.out.trans' hk2)
  have hjl := joinK_len
  have hte : textK = headK ++ joinK ++ [10] := rfl
  generalize joinK = jk at *
  obtain ⟨T0, E0, n0, r0⟩ := add_step headK jk (by simp only [headK, List.length_cons, List.length_nil]; omega)
  obtain ⟨T1, E1, n1, r1⟩ := add_step T0 ([10] : Str) (by simp only [headK, List.length_cons, List.length_nil] at n0 ⊢; omega)
  have htk : textK = T1 := by rw [E1.out, E0.out, hte]
  have htl : T1.length ≤ 3000 := by simp only [headK, List.length_cons, List.length_nil] at n0 n1; omega
  unfold headK at r0
  have hpk := parseK
  have hok := scriptK_ok
  have htx := textK_eq
  have hmid : ∀ y ∈ (List.range 18).map stepAt, MidStep y := fun y hy => ok_mid (List.all_eq_true.1 ((okScript_iff _).1 hok).2.2 y hy)
  have hsl := stepsK_len
  have hs17 : ((List.range 18).map stepAt)[17]? = some ⟨7, 0, 0, lastK, .zero⟩ := by rw [List.getElem?_eq_getElem (by rw [hsl]; decide), stepsK_last]
  unfold scriptK at hpk hok htx
  rw [htk] at hpk htx
  clear hte htk n0 n1 hk2 HJ HK1
  generalize (List.range 18).map stepAt = SK at *
  have HPK := Lib.hid hpk
  have HOK := Lib.hid hok
  have HTX := Lib.hid htx
  have HMID := Lib.hid hmid
  have HSL := Lib.hid hsl
  have HS17 := Lib.hid hs17
  have H8 := Lib.hid (mparse_any T1 (by omega) w2 (HG.out.far HK2.out))
  clear hpk hok htx hmid hsl hs17
  go_wp2_with fail
  refine H8.out.mono ?_
  rintro e w3 ⟨hk3, h3⟩
  rw [HPK.out] at h3
  obtain ⟨v3, rfl, hs3⟩ := h3
  obtain ⟨a3, c3, hv3, -⟩ := hs3.slice
  dsimp only at hv3 hs3
  rw [HSL.out] at hv3
  subst hv3
  have HSR3 := Lib.hid (StepsRead.of_at hs3)
  have HK3 := Lib.hid (HK2.out.trans' hk3)
  clear hs3 hk3 H8 r0 r1 E0 E1 HPK
  dsimp only
  go_upto_region 4 with fail
  obtain ⟨V, hV⟩ : ∃ W : World, W = w3.alloc (.cells #[.int .i64 7, .slice a3 18 c3] 24) := ⟨_, rfl⟩
  obtain ⟨b3, hb3⟩ : ∃ b, b = w3.heap.size := ⟨_, rfl⟩
  have hkV : Keep (fun _ => False) w3 V := by rw [hV]; exact (Keep.refl _ _).alloc _
  have hbl3 : V.heap[b3]? = some (.cells #[.int .i64 7, .slice a3 18 c3] 24 (0, 0)) := by rw [hV, hb3]; exact block_new _ _
  rw [← hV, ← hb3]
  have HSRV := Lib.hid (HSR3.out.far hkV)
  have HKV := Lib.hid (HK3.out.trans' hkV)
  have HBL3 := Lib.hid hbl3
  have d0 : V.cell? ⟨b3, 0, none⟩ = some (.int .i64 7) := cell_of_block hbl3 0
  have d1 : V.cell? ⟨b3, 1, none⟩ = some (.slice a3 18 c3) := cell_of_block hbl3 1
  have H15 := Lib.hid (mprint_any 7 SK (.slice a3 18 c3) V (HG.out.far HKV.out) HSRV.out HMID.out)
  clear hV hb3 hkV hbl3 HSR3 HK3 HK2
  go_wp2_with fail
  refine H15.out.mono ?_
  rintro e w4 ⟨hk4, h4⟩
  rcases h4 with ⟨-, rfl⟩ | ⟨hno, -⟩
  rotate_left
  · rw [HOK.out] at hno
    cases hno
  rw [HTX.out]
  have hb4 := hk4.at' HBL3.out (fun e => e)
  have f0 : w4.cell? ⟨b3, 0, none⟩ = some (.int .i64 7) := cell_of_block hb4 0
  have f1 : w4.cell? ⟨b3, 1, none⟩ = some (.slice a3 18 c3) := cell_of_block hb4 1
  have HK4 := Lib.hid (HKV.out.trans' hk4)
  have HSR4 := Lib.hid (HSRV.out.far hk4)
  clear d0 d1 hk4 hb4 H15 HBL3 HSRV HKV HTX HOK HMID
  go_upto_region 7 with fail
  have h17 : 17 < SK.length := by rw [HSL.out]; decide
  obtain ⟨b, o, vc, vt, ve, ha, hrng, hrr⟩ := HSR4.out.at 17 h17
  have hx : SK[17]'h17 = ⟨7, 0, 0, lastK, .zero⟩ := by
    have := HS17.out
    rw [List.getElem?_eq_getElem h17] at this
    exact Option.some.inj this
  rw [hx] at hrng hrr
  subst ha
  have hrq := range_req hrng
  obtain ⟨hR1, hR2, hR3⟩ := hrr
  dsimp only at hrq hR1 hR2 hR3
  obtain ⟨ac, cc, rfl⟩ := row_slice hR1
  obtain ⟨at1, ct, rfl⟩ := row_slice hR2
  obtain ⟨ae, ce, rfl⟩ := row_slice hR3
  obtain ⟨bc, oc, hac, hcr⟩ := hR1.at 0 (by decide)
  obtain ⟨bt, ot, hat, htr⟩ := hR2.at 0 (by decide)
  subst hac hat
  have hcr2 : w4.rangeAt bc oc (cmpCells ⟨[97], 0, 9, 5, []⟩).toList := by simpa [lastK] using hcr
  have htr2 : w4.rangeAt bt ot (opCells ⟨0, [97], [0], [], 7, 2, true, true, false⟩).toList := by simpa [lastK] using htr
  obtain ⟨rc, hrc⟩ : ∃ rc, rc = reqCells lastK (.slice (some ⟨bc, oc, none⟩) 2 cc) (.slice (some ⟨bt, ot, none⟩) 2 ct) (.slice ae 1 ce) := ⟨_, rfl⟩
  have hrq2 : w4.rangeAt b (o + 17 * 19 + 3) rc.toList := by rw [hrc]; exact hrq
  have hld : (ldT 59 (.pointer (some ⟨b, o + 323 + 3, none⟩))).run Tryz.prog w4 = .ok (.value (.agg rc)) w4 := run_ld59 w4 b _ rc (by rw [hrc]; rfl) hrq2
  have hz := block_new w4 (.cells (reqCells .zero nilS nilS nilS) 59 (0, 0))
  have hst := run_st59 (w4.alloc (.cells (reqCells .zero nilS nilS nilS) 59 (0, 0))) w4.heap.size 0 rc (there_of_block hz (Nat.le_refl 8)) (by rw [hrc]; rfl) (by rw [hrc]; simp [reqCells, one_int, one_bool, one_slice])
  obtain ⟨X, hX⟩ : ∃ X : World, X = (w4.alloc (.cells (reqCells .zero nilS nilS nilS) 59 (0, 0))).setCells w4.heap.size 0 rc.toList := ⟨_, rfl⟩
  rw [← hX] at hst
  have hst3 : (stT 59 (.pointer (some ⟨w4.heap.size, 0, none⟩)) (.agg rc)).run Tryz.prog (w4.alloc (.cells #[.int .i64 0, .int .u64 0, .int .u64 0, .bool false, .slice none 0 0, .slice none 0 0, .slice none 0 0, .int .u64 0] 59)) = .ok .skip X := hst
  obtain ⟨B, hB⟩ : ∃ B : Nat, B = w4.heap.size := ⟨_, rfl⟩
  have hbX : X.heap[B]? = some (.cells rc 59 (0, 0)) := by
    have h9 := block_setCells_all hz rc.toList (by rw [hrc]; rfl)
    rw [Array.toArray_toList] at h9
    rw [hX, hB]
    exact h9
  have hkX : Keep (fun _ => False) w4 X := by rw [hX]; exact ((Keep.refl _ w4).alloc _).setCells _ _ _ (.inl (Nat.le_refl _))
  have hl65 : (ldT 65 (.pointer (some ⟨bc, oc, none⟩))).run Tryz.prog X = .ok (.value (.agg (cmpCells ⟨[97], 0, 9, 5, []⟩))) X := run_ld65 X bc oc _ rfl (fun j v hv => hkX.cellOf (hcr2 j v hv) (fun e => e))
  have hl67 : (ldT 67 (.pointer (some ⟨bt, ot, none⟩))).run Tryz.prog X = .ok (.value (.agg (opCells ⟨0, [97], [0], [], 7, 2, true, true, false⟩))) X := run_ld67 X bt ot _ rfl (fun j v hv => hkX.cellOf (htr2 j v hv) (fun e => e))
  have g3 : X.cell? ⟨B, 3, none⟩ = some (.bool true) := by rw [cell_of_block hbX 3, hrc]; rfl
  have g4 : X.cell? ⟨B, 4, none⟩ = some (.slice (some ⟨bc, oc, none⟩) 2 cc) := by rw [cell_of_block hbX 4, hrc]; rfl
  have g5 : X.cell? ⟨B, 5, none⟩ = some (.slice (some ⟨bt, ot, none⟩) 2 ct) := by rw [cell_of_block hbX 5, hrc]; rfl
  have g6 : X.cell? ⟨B, 6, none⟩ = some (.slice ae 1 ce) := by rw [cell_of_block hbX 6, hrc]; rfl
  have n65 := fun w => neq65 ⟨[97], 0, 9, 5, []⟩ ⟨[97], 0, 9, 5, []⟩ w
  have d65 := fun (op : BinOp) (x y : Operand) (w : World) => grd65 op x y ⟨[97], 0, 9, 5, []⟩ ⟨[97], 0, 9, 5, []⟩ w
  have n67 := fun w => neq67 ⟨0, [97], [0], [], 7, 2, true, true, false⟩ ⟨0, [97], [0], [], 7, 2, true, true, false⟩ w
  have d67 := fun (op : BinOp) (x y : Operand) (w : World) => grd67 op x y ⟨0, [97], [0], [], 7, 2, true, true, false⟩ ⟨0, [97], [0], [], 7, 2, true, true, false⟩ w
  unfold cmpCells at hl65 n65 d65
  unfold opCells at hl67 n67 d67
  dsimp only at hl65 n65 d65 hl67 n67 d67
  have HKX := Lib.hid (HK4.out.trans' hkX)
  have HB := Lib.hid hB
  clear hR1 hR2 hR3 hcr htr hcr2 htr2 hrc hrq hrq2 hz hst hX hB hbX hkX hrng hx h17 HS17 HSL HK4 HSR4
  go_upto_region 8 with fail
  rw [← HB.out]
  clear hst3 hld f0 f1
  go_upto_region 10 with fail
  clear hl65 hl67 g3 g4 g5 g6 n65 d65 n67 d67 HB
  have HR0 := Lib.hid (fun w' => repeat_c [54, 49] 41 41 rfl w' (by decide) (by decide))
  have q0 := Lib.repeatL_length [54, 49] 41
  simp only [List.length_cons, List.length_nil] at q0
  obtain ⟨X0, hX0⟩ : ∃ X, X = Lib.repeatL [54, 49] 41 := ⟨_, rfl⟩
  rw [← hX0] at HR0 q0
  obtain ⟨A0, EA0, na0, ra0⟩ := add_step ([119, 97, 116, 99, 104, 32, 48, 32, 49, 32] : Str) X0 (by simp only [List.length_cons, List.length_nil]; omega)
  simp only [List.length_cons, List.length_nil] at na0
  obtain ⟨B0, EB0, nb0, rb0⟩ := add_step A0 ([32, 45, 32, 48, 32, 45] : Str) (by simp only [List.length_cons, List.length_nil]; omega)
  have HR1 := Lib.hid (fun w' => repeat_c [32, 105, 102, 32, 48, 32, 48, 32, 48, 32, 45, 32, 45] 9 9 rfl w' (by decide) (by decide))
  have q1 := Lib.repeatL_length [32, 105, 102, 32, 48, 32, 48, 32, 48, 32, 45, 32, 45] 9
  simp only [List.length_cons, List.length_nil] at q1
  obtain ⟨X1, hX1⟩ : ∃ X, X = Lib.repeatL [32, 105, 102, 32, 48, 32, 48, 32, 48, 32, 45, 32, 45] 9 := ⟨_, rfl⟩
  rw [← hX1] at HR1 q1
  obtain ⟨A1, EA1, na1, ra1⟩ := add_step ([97, 115, 107, 32, 48, 32, 116, 120, 110, 32, 48, 32, 48, 32, 45, 32, 48] : Str) X1 (by simp only [List.length_cons, List.length_nil]; omega)
  have HR2 := Lib.hid (fun w' => repeat_c [32, 116, 104, 101, 110, 32, 112, 117, 116, 32, 45, 32, 45, 32, 45] 11 11 rfl w' (by decide) (by decide))
  have q2 := Lib.repeatL_length [32, 116, 104, 101, 110, 32, 112, 117, 116, 32, 45, 32, 45, 32, 45] 11
  simp only [List.length_cons, List.length_nil] at q2
  obtain ⟨X2, hX2⟩ : ∃ X, X = Lib.repeatL [32, 116, 104, 101, 110, 32, 112, 117, 116, 32, 45, 32, 45, 32, 45] 11 := ⟨_, rfl⟩
  rw [← hX2] at HR2 q2
  obtain ⟨A2, EA2, na2, ra2⟩ := add_step ([97, 115, 107, 32, 48, 32, 116, 120, 110, 32, 48, 32, 48, 32, 45, 32, 48] : Str) X2 (by simp only [List.length_cons, List.length_nil]; omega)
  have HR3 := Lib.hid (fun w' => repeat_c [32, 101, 108, 115, 101, 32, 112, 117, 116, 32, 45, 32, 45, 32, 45] 11 11 rfl w' (by decide) (by decide))
  have q3 := Lib.repeatL_length [32, 101, 108, 115, 101, 32, 112, 117, 116, 32, 45, 32, 45, 32, 45] 11
  simp only [List.length_cons, List.length_nil] at q3
  obtain ⟨X3, hX3⟩ : ∃ X, X = Lib.repeatL [32, 101, 108, 115, 101, 32, 112, 117, 116, 32, 45, 32, 45, 32, 45] 11 := ⟨_, rfl⟩
  rw [← hX3] at HR3 q3
  obtain ⟨A3, EA3, na3, ra3⟩ := add_step ([97, 115, 107, 32, 48, 32, 116, 120, 110, 32, 48, 32, 48, 32, 45, 32, 48] : Str) X3 (by simp only [List.length_cons, List.length_nil]; omega)
  have hbads : (bads.map fun y => sv y) = (bads.take 26).map (fun y => sv y) ++ [sv B0, sv A1, sv A2, sv A3] := by
    rw [EB0.out, EA0.out, EA1.out, EA2.out, EA3.out, hX0, hX1, hX2, hX3]
    rfl
  have HBADS := Lib.hid hbads
  clear hbads hX0 hX1 hX2 hX3 EA0 EA1 EA2 EA3 EB0 na0 nb0 na1 na2 na3
  go_wp2_with fail
  refine (HR0.out _).mono ?_
  rintro e y0 ⟨rfl, hk0⟩
  have HY0 := Lib.hid (HKX.out.trans' hk0)
  clear hk0
  go_wp2_with fail
  refine (HR1.out _).mono ?_
  rintro e y1 ⟨rfl, hk1⟩
  have HY1 := Lib.hid (HY0.out.trans' hk1)
  clear hk1
  go_wp2_with fail
  refine (HR2.out _).mono ?_
  rintro e y2 ⟨rfl, hk2⟩
  have HY2 := Lib.hid (HY1.out.trans' hk2)
  clear hk2
  go_wp2_with fail
  refine (HR3.out _).mono ?_
  rintro e y3 ⟨rfl, hk3⟩
  have HY3 := Lib.hid (HY2.out.trans' hk3)
  clear hk3
  go_upto_region 11 with fail
  obtain ⟨Y, hY⟩ : ∃ Y : World, Y = y3.alloc (.cells ((bads.take 26).map (fun y => sv y) ++ [sv B0, sv A1, sv A2, sv A3]).toArray 9 (0, 0)) := ⟨_, rfl⟩
  conv in (World.alloc y3 _) => change y3.alloc (.cells ((bads.take 26).map (fun y => sv y) ++ [sv B0, sv A1, sv A2, sv A3]).toArray 9 (0, 0))
  rw [← hY]
  rw [← HBADS.out] at hY
  have hkY : Keep (fun _ => False) y3 Y := by rw [hY]; exact (Keep.refl _ _).alloc _
  have hbY : Y.heap[y3.heap.size]? = some (.cells (bads.map fun y => sv y).toArray 9 (0, 0)) := by rw [hY]; exact block_new _ _
  have HYY := Lib.hid (HY3.out.trans' hkY)
  have HBY := Lib.hid hbY
  generalize y3.heap.size = BB at *
  clear hY hkY hbY HBADS HY0 HY1 HY2 HY3 HKX ra0 ra1 ra2 ra3 rb0 HR0 HR1 HR2 HR3 q0 q1 q2 q3
  go_wp2_with fail
  go_loopw [9] (fun v9 wr => ∃ k : Nat, k ≤ 30 ∧ v9 = .int .i64 k ∧ Hid (Keep (fun _ => False) Y wr)) (fun v9 _ => 30 - (intOf v9).toNat)
  case atStart => exact ⟨0, by decide, rfl, Lib.hid (Keep.refl _ _)⟩
  case round =>
    obtain ⟨k, hk, rfl, HKR⟩ := hrel
    by_cases hlt : k < 30
    · have hlt' : (k : Int) < 30 := by omega
      have hk0 : (0 : Int) ≤ (k : Int) := by omega
      obtain ⟨x, hx, hc⟩ := bads_cell k hlt
      have hcell : wr.cell? ⟨BB, k, none⟩ = some (sv x) := (cell_of_block (HKR.out.at' HBY.out (fun e => e)) k).trans hc
      obtain ⟨hp, hxl⟩ := bad_ok hx
      obtain ⟨t3, E3, n3, r3⟩ := add_step head3 x (by simp only [head3, List.length_cons, List.length_nil]; omega)
      simp only [head3, List.length_cons, List.length_nil] at n3
      unfold head3 at r3
      rw [← E3.out] at hp
      have H22 := Lib.hid (wrong_k t3 (by omega) 4 1 1 rfl hp (by decide) wr (HG.out.far (HYY.out.trans' HKR.out)))
      clear hx hc hp n3 E3
      go_wp2_with fail
      refine H22.out.mono ?_
      rintro e z ⟨rfl, hkz⟩
      have HKZ := Lib.hid (HKR.out.trans' hkz)
      clear hkz hcell r3 H22
      go_wp2_with fail
      exact ⟨⟨k + 1, by omega, by go_num, HKZ⟩, by simp [intOf]; omega⟩
    · have hge : ¬ (k : Int) < 30 := by omega
      obtain ⟨Z, rfl⟩ : ∃ Z : World, Z = wr := ⟨_, rfl⟩
      have HZ := Lib.hid (HYY.out.trans' HKR.out)
      clear HKR HYY HBY hlt hk
      have HRM := Lib.hid (repeat_c [100, 114, 111, 112, 32, 49, 10] 4096 4096 rfl Z (by decide) (by decide))
      have hml := manyM_len
      have hpm := parseM
      have htm := textM_eq
      have hpl := parse_moreL
      have hpf := parse_moreF
      rw [show Lib.repeatL [100, 114, 111, 112, 32, 49, 10] 4096 = manyM from rfl] at HRM
      generalize manyM = many at *
      go_wp2_with fail
      refine HRM.out.mono ?_
      rintro e z1 ⟨rfl, hz1⟩
      have HZ1 := Lib.hid (HZ.out.trans' hz1)
      clear hz1 HRM HZ hge
      have hsl := stepsM_len
      have hmo := more_not
      have hmm := more_mid
      have hmk : ∀ y ∈ stepsM, MidStep y := fun y hy => hmm y (List.mem_append_left _ hy)
      have hmok := stepsM_ok
      generalize stepsM = SM at *
      obtain ⟨M1, EM, nM, rM⟩ := add_step headM many (by simp only [headM, List.length_cons, List.length_nil]; omega)
      simp only [headM, List.length_cons, List.length_nil] at nM
      obtain ⟨M2, EL, nL, rL⟩ := add_step M1 moreL (by simp only [moreL, List.length_cons, List.length_nil]; omega)
      simp only [moreL, List.length_cons, List.length_nil] at nL
      obtain ⟨M3, EF, nF, rF⟩ := add_step M1 moreF (by simp only [moreF, List.length_cons, List.length_nil]; omega)
      simp only [moreF, List.length_cons, List.length_nil] at nF
      unfold headM at rM
      unfold moreL at rL
      unfold moreF at rF
      rw [← EM.out] at hpm htm hpl hpf
      rw [← EL.out] at hpl
      rw [← EF.out] at hpf
      have HPM := Lib.hid hpm
      have HTM := Lib.hid htm
      have HSL := Lib.hid hsl
      have HMO := Lib.hid hmo
      have HMM := Lib.hid hmm
      have HMK := Lib.hid hmk
      have HMOK := Lib.hid hmok
      have HPL := Lib.hid (fun w' hG => wrong_k M2 (by omega) 3 4097 4097 rfl hpl (by decide) w' hG)
      have HPF := Lib.hid (fun w' hG => wrong_k M3 (by omega) 4 4097 4097 rfl hpf (by decide) w' hG)
      have H8 := Lib.hid (mparse_any M1 (by omega) z1 (HG.out.far HZ1.out))
      clear hpm htm hpl hpf hsl hmo hmm hmk hmok EM EL EF nM nL nF hml
      go_wp2_with fail
      refine H8.out.mono ?_
      rintro e z2 ⟨hz2, h2⟩
      rw [HPM.out] at h2
      obtain ⟨vM, rfl, hsM⟩ := h2
      dsimp only at hsM
      obtain ⟨aM, cM, hvM, -⟩ := hsM.slice
      rw [HSL.out] at hvM
      subst hvM
      have HSM := Lib.hid hsM
      have HZ2 := Lib.hid hz2
      clear hsM hz2 H8 HPM
      dsimp only
      go_upto_region 18 with fail
      obtain ⟨V, hV⟩ : ∃ W : World, W = z2.alloc (.cells #[.int .i64 1, .slice aM 4096 cM] 24) := ⟨_, rfl⟩
      obtain ⟨b11, hb11⟩ : ∃ b, b = z2.heap.size := ⟨_, rfl⟩
      have hkV : Keep (fun _ => False) z2 V := by rw [hV]; exact (Keep.refl _ _).alloc _
      have hbl : V.heap[b11]? = some (.cells #[.int .i64 1, .slice aM 4096 cM] 24 (0, 0)) := by rw [hV, hb11]; exact block_new _ _
      rw [← hV, ← hb11]
      have hg11 : ∀ g, (Value.slice aM 4096 cM).ownBlock = some g → z1.heap.size ≤ g ∧ g < b11 := fun g hg => by
        have := HSM.out.lt g hg
        rw [hb11]
        exact this
      have HG11 := Lib.hid hg11
      have HB11 := Lib.hid (show z1.heap.size ≤ b11 by rw [hb11]; exact HZ2.out.size)
      have HBL := Lib.hid hbl
      have HSV := Lib.hid (HSM.out.far hkV)
      have HKV := Lib.hid (HZ2.out.trans' hkV)
      have d0 : V.cell? ⟨b11, 0, none⟩ = some (.int .i64 1) := cell_of_block hbl 0
      have d1 : V.cell? ⟨b11, 1, none⟩ = some (.slice aM 4096 cM) := cell_of_block hbl 1
      have H15 := Lib.hid (mprint_any 1 SM (.slice aM 4096 cM) V (HG.out.far (HZ1.out.trans' HKV.out)) (StepsRead.of_at HSV.out) HMK.out)
      clear hV hb11 hkV hbl hg11 HSM HZ2
      go_wp2_with fail
      refine H15.out.mono ?_
      rintro e z3 ⟨hz3, h3⟩
      rcases h3 with ⟨-, rfl⟩ | ⟨hno, -⟩
      rotate_left
      · rw [HMOK.out] at hno
        cases hno
      rw [HTM.out]
      have hb3 := hz3.at' HBL.out (fun e => e)
      have f1 : z3.cell? ⟨b11, 1, none⟩ = some (.slice aM 4096 cM) := cell_of_block hb3 1
      have hs3 := HSV.out.far hz3
      have hk3 := HKV.out.trans' hz3
      obtain ⟨sp, hsp⟩ : ∃ sp : StepV, sp = (⟨1, 0, 0, .zero, .zero⟩, nilS, nilS, nilS) := ⟨_, rfl⟩
      obtain ⟨v', w9, hap, hst9, hk9, how⟩ := app_step z3 z1.heap.size (.slice aM 4096 cM) SM sp hs3 (by rw [hsp]; exact ReqIs.zero _) (by rw [HSL.out]; decide) hk3.size
      have hb9 := hk9.at' hb3 (fun e => by have := HG11.out b11 e.symm; omega)
      have f9 : w9.cell? ⟨b11, 1, none⟩ = some (.slice aM 4096 cM) := cell_of_block hb9 1
      have g9 : w9.frozen? ⟨b11, 1, none⟩ = false := free_of_block hb9 1
      obtain ⟨a9, c9, hv9, -⟩ := hst9.slice
      rw [List.length_append, HSL.out, show 4096 + ([sp.1] : List StepS).length = 4097 from rfl] at hv9
      subst hv9
      have HOW := Lib.hid (show ∀ g, (Value.slice a9 4097 c9).ownBlock = some g → g ≠ b11 from fun g hg e => by
        have hb := lt_of_block hb3
        rcases how with h | h
        · have := HG11.out g (by rw [← h]; exact hg); omega
        · rw [h] at hg; injection hg with hg; omega)
      have HB9 := Lib.hid hb9
      have HST9 := Lib.hid hst9
      have HK9 := Lib.hid (show Keep (fun _ => False) z1 w9 from hk3.trans hk9 (fun b hb e => by have := (HG11.out b e.symm).1; omega))
      have HSP := Lib.hid hsp
      clear hz3 hb3 hs3 hk3 hst9 hk9 hb9 d0 d1 H15 HSV HKV HBL HG11
      go_upto_region 21 with fail
      have hse : stepEnc sp = #[.int .i64 1, .int .i64 0, .int .u64 0, .int .i64 0, .int .u64 0, .int .u64 0, .bool false, .slice none 0 0, .slice none 0 0, .slice none 0 0, .int .u64 0, .int .u64 0, .string ⟨#[]⟩, .string ⟨#[]⟩, .int .u64 0, .bool false, .bool false, .bool false, .bool false] := by rw [hsp]; rfl
      have hbs := run_bs22 sp z3
      rw [hse] at hbs hap
      clear hse hsp
      refine wp_region_lit ?_
      refine wpList_plain rfl (fun K hK => ?_)
      go_simp
      refine hK _ _ ?_
      clear hK K
      try simp only [Act.put, List.setIfInBounds_toArray, List.set_cons_zero, List.set_cons_succ]
      refine wpList_plain rfl (fun K hK => ?_)
      go_simp
      refine hK _ _ ?_
      clear hK K
      try simp only [Act.put, List.setIfInBounds_toArray, List.set_cons_zero, List.set_cons_succ]
      refine wpList_plain rfl (fun K hK => ?_)
      go_simp
      refine hK _ _ ?_
      clear hK K
      try simp only [Act.put, List.setIfInBounds_toArray, List.set_cons_zero, List.set_cons_succ]
      refine wpList_plain rfl (fun K hK => ?_)
      refine wp_bs_run (.tmp 148) 22 rfl (by exact hbs) ?_
      refine hK _ _ ?_
      clear hK K
      try simp only [Act.put, List.setIfInBounds_toArray, List.set_cons_zero, List.set_cons_succ]
      refine wpList_plain rfl (fun K hK => ?_)
      refine wp_append_run (.tmp 147) (.tmp 149) 22 rfl rfl (by exact hap) ?_
      refine hK _ _ ?_
      clear hK K
      try simp only [Act.put, List.setIfInBounds_toArray, List.set_cons_zero, List.set_cons_succ]
      clear hap hbs f1
      go_upto_region 22 with fail
      obtain ⟨U, hU⟩ : ∃ W : World, W = w9.setCell ⟨b11, 1, none⟩ (.slice a9 4097 c9) := ⟨_, rfl⟩
      rw [← hU]
      have hbU : U.heap[b11]? = some (.cells #[.int .i64 1, .slice a9 4097 c9] 24 (0, 0)) := by rw [hU]; exact block_setCell HB9.out 1 _
      have hkB : Keep (fun k => k = b11) w9 U := by rw [hU]; exact (Keep.refl (fun k => k = b11) w9).setCell _ _ (.inr rfl)
      have hsU : StepsRead U (.slice a9 4097 c9) (SM ++ [⟨1, 0, 0, .zero, .zero⟩]) := StepsRead.of_at (HST9.out.keep hkB (fun g hg hm => HOW.out g hg hm) (fun g cs T hc hm => by
        subst hm
        have h9 := hc.symm.trans HB9.out
        injection h9 with h10
        injection h10 with h11 h12
        subst h12
        decide) |> fun h => by rw [HSP.out] at h; exact h)
      have HZU := Lib.hid (show Keep (fun _ => False) z1 U from HK9.out.trans hkB (fun b hb e => by have := HB11.out; omega))
      have e0 : U.cell? ⟨b11, 0, none⟩ = some (.int .i64 1) := cell_of_block hbU 0
      have e1 : U.cell? ⟨b11, 1, none⟩ = some (.slice a9 4097 c9) := cell_of_block hbU 1
      have H15 := Lib.hid (mprint_any 1 (SM ++ [⟨1, 0, 0, .zero, .zero⟩]) (.slice a9 4097 c9) U (HG.out.far (HZ1.out.trans' HZU.out)) hsU HMM.out)
      clear hU hbU hkB hsU HB9 HST9 HOW HSP HK9 f9 g9
      go_wp2_with fail
      refine H15.out.mono ?_
      rintro e z4 ⟨hz4, h4⟩
      rcases h4 with ⟨hyes, -⟩ | ⟨-, rfl⟩
      · rw [HMO.out] at hyes
        cases hyes
      have HZ4 := Lib.hid (HZ1.out.trans' (HZU.out.trans' hz4))
      clear hz4 e0 e1 H15 HZU HZ1 HMM HMO HTM HSL HMK HMOK HB11
      go_upto_region 24 with fail
      refine wp_buildSlice 22 63 14 _ rfl (flat stepEnc (oddsV z4.heap.size)).toArray ie63 z63 Tryz.underlying22 ie63_is ie63_zero (of_decide_eq_false (by kernel_rfl)) (of_decide_eq_false (by kernel_rfl)) (by kernel_rfl) ?_
      rename_i hK
      refine hK _ _ ?_
      clear hK
      try simp only [Act.put, List.setIfInBounds_toArray, List.set_cons_zero, List.set_cons_succ]
      obtain ⟨O, hO⟩ : ∃ O : World, O = (((z4.alloc (.cells (opCells odd11) 67)).alloc (.cells (opCells odd12) 67)).alloc (.cells (cmpCells odd13) 65)).alloc (.cells (flat stepEnc (oddsV z4.heap.size)).toArray 63) := ⟨_, rfl⟩
      have hkO : Keep (fun _ => False) z4 O := by rw [hO]; exact ((((Keep.refl _ _).alloc _).alloc _).alloc _).alloc _
      have hz0 : O.heap[z4.heap.size]? = some (.cells (opCells odd11) 67 (0, 0)) := by rw [hO]; exact block_alloc (block_alloc (block_alloc (block_new _ _) _) _) _
      have hz1 : O.heap[z4.heap.size + 1]? = some (.cells (opCells odd12) 67 (0, 0)) := by rw [hO]; exact block_alloc (block_alloc (block_new' _ _ (by simp)) _) _
      have hz2 : O.heap[z4.heap.size + 2]? = some (.cells (cmpCells odd13) 65 (0, 0)) := by rw [hO]; exact block_alloc (block_new' _ _ (by simp)) _
      have hz3 : O.heap[z4.heap.size + 3]? = some (.cells (flat stepEnc (oddsV z4.heap.size)).toArray 63 (0, 0)) := by rw [hO]; exact block_new' _ _ (by simp)
      unfold opCells cmpCells odd11 odd12 odd13 at hO
      dsimp only at hO
      simp only [alloc_size]
      rw [← hO]
      have HZO := Lib.hid (HZ4.out.trans' hkO)
      have HROW := Lib.hid (fun wr (hk : Keep (fun _ => False) O wr) (k : Nat) (hk14 : k < 14) => odds_row (O := wr) (hk.at' hz0 (fun e => e)) (hk.at' hz1 (fun e => e)) (hk.at' hz2 (fun e => e)) (hk.at' hz3 (fun e => e)) k hk14)
      generalize z4.heap.size = n0 at *
      clear hO hkO hz0 hz1 hz2 hz3 HZ4
      go_upto_region 24 with fail
      generalize hob : n0 + 1 + 1 + 1 = ob at *
      clear hob
      go_wp2_with fail
      go_loopw [17] (fun v17 wr => ∃ k : Nat, k ≤ 14 ∧ v17 = .int .i64 k ∧ Hid (Keep (fun _ => False) O wr)) (fun v17 _ => 14 - (intOf v17).toNat)
      case atStart => exact ⟨0, by decide, rfl, Lib.hid (Keep.refl _ _)⟩
      case round =>
        obtain ⟨j, hj, rfl, HKO⟩ := hrel
        by_cases hlj : j < 14
        · have hlj' : (j : Int) < 14 := by omega
          have hj0 : (0 : Int) ≤ (j : Int) := by omega
          obtain ⟨x, hx, hsr⟩ := HROW.out _ HKO.out j hlj
          have hsl := slice_odd ob j hlj
          have HNO := Lib.hid (odds_not x hx)
          have H15 := Lib.hid (mprint_any 1 [x] (.slice (some ⟨ob, j * 19, none⟩) 1 (14 - j)) wr (HG.out.far (HZO.out.trans' HKO.out)) hsr (fun y hy => by rw [List.mem_singleton.1 hy]; exact odds_mid x hx))
          clear hx hsr
          go_wp2_with fail
          refine H15.out.mono ?_
          rintro e q ⟨hkq, hq⟩
          rcases hq with ⟨hyes, -⟩ | ⟨-, rfl⟩
          · rw [HNO.out] at hyes
            cases hyes
          have HQ := Lib.hid (HKO.out.trans' hkq)
          clear hkq hsl H15 HNO
          go_wp2_with fail
          exact ⟨⟨j + 1, by omega, by go_num, HQ⟩, by simp [intOf]; omega⟩
        · have hgj : ¬ (j : Int) < 14 := by omega
          obtain ⟨P, rfl⟩ : ∃ P : World, P = wr := ⟨_, rfl⟩
          have HP := Lib.hid (HZO.out.trans' HKO.out)
          have H15 := Lib.hid (mprint_any 0 [] nilS P (HG.out.far HP.out) ⟨[], rfl, RowRead.nil _ _ _, fun p hp => (by cases hp)⟩ (fun y hy => (by cases hy)))
          clear hlj hj HKO HZO HROW
          go_wp2_with fail
          refine H15.out.mono ?_
          rintro e p1 ⟨hk1, h1⟩
          rcases h1 with ⟨hyes, -⟩ | ⟨-, rfl⟩
          · rw [none_not] at hyes
            cases hyes
          have HP1 := Lib.hid (HP.out.trans' hk1)
          have H15' := Lib.hid (mprint_any 8 [] nilS p1 (HG.out.far HP1.out) ⟨[], rfl, RowRead.nil _ _ _, fun p hp => (by cases hp)⟩ (fun y hy => (by cases hy)))
          clear hk1 H15 HP hgj
          go_wp2_with fail
          refine H15'.out.mono ?_
          rintro e p2 ⟨hk2, h2⟩
          rcases h2 with ⟨hyes, -⟩ | ⟨-, rfl⟩
          · rw [eight_not] at hyes
            cases hyes
          have HP2 := Lib.hid (HP1.out.trans' hk2)
          have H13 := Lib.hid (works_any p2 (HG.out.far HP2.out))
          clear hk2 H15' HP1
          go_wp2_with fail
          refine H13.out.mono ?_
          rintro e p3 ⟨rfl, hk3⟩
          have HP3 := Lib.hid (HP2.out.trans' hk3)
          clear hk3 H13 HP2
          go_wp2_with fail
          refine (HPL.out _ (HG.out.far HP3.out)).mono ?_
          rintro e p4 ⟨rfl, hk4⟩
          have HP4 := Lib.hid (HP3.out.trans' hk4)
          clear hk4 HP3
          go_wp2_with fail
          refine (HPF.out _ (HG.out.far HP4.out)).mono ?_
          rintro e p5 ⟨rfl, hk5⟩
          have HP5 := Lib.hid (HP4.out.trans' hk5)
          have HW8 := Lib.hid (wrong_k wrong8 (by decide) 4 0 0 rfl parse_wrong8 (by decide) p5 (HG.out.far HP5.out))
          unfold wrong8 at HW8
          clear hk5 HP4 HPF HPL
          go_wp2_with fail
          refine HW8.out.mono ?_
          rintro e p6 ⟨rfl, hk6⟩
          have HP6 := Lib.hid (HP5.out.trans' hk6)
          have HWF := Lib.hid (wrong_k wrongFly (by decide) 19 1 1 rfl parse_wrongFly (by decide) p6 (HG.out.far HP6.out))
          unfold wrongFly at HWF
          clear hk6 HP5 HW8
          go_wp2_with fail
          refine HWF.out.mono ?_
          rintro e p7 ⟨rfl, hk7⟩
          have HP7 := Lib.hid (HP6.out.trans' hk7)
          clear hk7 HWF HP6
          go_wp2_with fail
          go_ret
          exact ⟨rfl, HP7.out⟩
end Go.Proofs.YtifliekahdgobaaGreatDoor
