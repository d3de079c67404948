/-
  THE REFERENCE's WALKS, 7: op (printed by wip/tools/gen_rop.py). Helpers of the claims.
  THE REFERENCE's WALKS, 8: op, whatever stands there. Helpers of the claims.
  THE REFERENCE's WALKS, 9: what stands in memory while the reference reads a request. Helpers of the claims.
-/
import Derived.Test.YtifliekahdgobaaGreatDoorJR5ToR6
import Derived.Test.YtifliekahdgobaaGreatDoorJW7ToW18
set_option linter.unusedSimpArgs false
set_option linter.unusedVariables false
namespace Go.Proofs.YtifliekahdgobaaGreatDoor
open Go.RowKit Sp

/-- how a reader of the reference ends: good, or bad -/
def D {α : Type} (bad : Bool) (o : Option α) (r : α) (bad' : Bool) : Prop := (bad = false ∧ o = some r ∧ bad' = false) ∨ ((bad = true ∨ o = none) ∧ bad' = true)
theorem D.bind {α β : Type} {bad b1 b2 : Bool} {o : Option α} {a : α} {f : α → Option β} {r : β} (h1 : D bad o a b1) (h2 : D b1 (f a) r b2) : D bad (o.bind f) r b2 := by
  rcases h1 with ⟨rfl, rfl, rfl⟩ | ⟨h, rfl⟩
  · exact h2
  · right
    rcases h2 with ⟨h3, _⟩ | ⟨_, rfl⟩
    · cases h3
    · refine ⟨?_, rfl⟩
      rcases h with h | h
      · exact .inl h
      · right; rw [h]; rfl
theorem D.some {α : Type} (b : Bool) (r : α) : D b (some r) r b := by
  cases b
  · exact .inl ⟨rfl, rfl, rfl⟩
  · exact .inr ⟨.inl rfl, rfl⟩
theorem D.none {α : Type} (b : Bool) (r : α) : D b (none : Option α) r true := .inr ⟨.inr rfl, rfl⟩
theorem flags_index0 (m : List Bool) (w : World) : (Instr.index 154 (.agg (flags m)) (.int .i64 0)).run Tryz.prog w = .ok (.bool (at' m 0)) w := by
  unfold flags
  kernel_rfl
theorem new_block67 (w : World) (x : OpS) : ∃ W : World, W = (w.alloc (.cells #[.int .i64 0, .string ⟨#[]⟩, .string ⟨#[]⟩, .string ⟨#[]⟩, .int .u64 0, .int .i64 0, .bool false, .bool false, .bool false] 67)).setCells w.heap.size 0 (opCells x).toList ∧
    (stT 67 (.pointer (some ⟨w.heap.size, 0, none⟩)) (.agg (opCells x))).run Tryz.prog (w.alloc (.cells #[.int .i64 0, .string ⟨#[]⟩, .string ⟨#[]⟩, .string ⟨#[]⟩, .int .u64 0, .int .i64 0, .bool false, .bool false, .bool false] 67)) = .ok .skip W ∧
    W.heap[w.heap.size]? = some (.cells (opCells x) 67 (0, 0)) ∧ Keep (fun _ => False) w W := by
  refine ⟨_, rfl, run_st67 _ _ _ _ (there_of_block (block_new _ _) (by decide)) rfl (opCells_one _), ?_, ((Keep.refl _ w).alloc _).setCells _ _ _ (.inl (Nat.le_refl _))⟩
  have := block_setCells_all (block_new w (.cells #[.int .i64 0, .string ⟨#[]⟩, .string ⟨#[]⟩, .string ⟨#[]⟩, .int .u64 0, .int .i64 0, .bool false, .bool false, .bool false] 67 (0, 0))) (opCells x).toList rfl
  rwa [Array.toArray_toList] at this
theorem new_block154 (w : World) (m : List Bool) : ∃ W : World, W = (w.alloc (.cells #[.bool false, .bool false, .bool false, .bool false] 154)).setCells w.heap.size 0 (flags m).toList ∧
    (stT 154 (.pointer (some ⟨w.heap.size, 0, none⟩)) (.agg (flags m))).run Tryz.prog (w.alloc (.cells #[.bool false, .bool false, .bool false, .bool false] 154)) = .ok .skip W ∧
    W.heap[w.heap.size]? = some (.cells (flags m) 154 (0, 0)) ∧ Keep (fun _ => False) w W := by
  refine ⟨_, rfl, run_st154 _ _ _ _ (there_of_block (block_new _ _) (by decide)) rfl (flags_one _), ?_, ((Keep.refl _ w).alloc _).setCells _ _ _ (.inl (Nat.le_refl _))⟩
  have := block_setCells_all (block_new w (.cells #[.bool false, .bool false, .bool false, .bool false] 154 (0, 0))) (flags m).toList rfl
  rwa [Array.toArray_toList] at this
/-- the way out: a struct goes into the result's variable -/
theorem op_out {V : World} {B N : Nat} {U : Array Value} {x : OpS} (hU : U.size = 9) (h2 : V.heap[N]? = some (.cells U 67 (0, 0))) (h3 : V.heap[B]? = some (.cells (opCells x) 67 (0, 0))) :
    ∃ cs, cs = opCells x ∧ (ldT 67 (.pointer (some ⟨B, 0, none⟩))).run Tryz.prog V = .ok (.value (.agg cs)) V ∧
    (stT 67 (.pointer (some ⟨N, 0, none⟩)) (.agg cs)).run Tryz.prog V = .ok .skip (V.setCells N 0 cs.toList) ∧
    (V.setCells N 0 cs.toList).heap[N]? = some (.cells cs 67 (0, 0)) := by
  refine ⟨_, rfl, run_ld67 V B 0 _ rfl (range_of_block h3), run_st67 V N 0 _ (there_of_block h2 (by rw [hU]; decide)) rfl (opCells_one x), ?_⟩
  have := block_setCells_all h2 (opCells x).toList (by rw [hU]; rfl)
  rwa [Array.toArray_toList] at this

set_option maxHeartbeats 3200000 in
set_option maxRecDepth 100000 in
theorem rop_put (lb rb : Nat) (ws : List Str) (bad : Bool) (w : World) (h : RLineAt w lb rb (wPut :: ws) bad) (hr : rb < w.heap.size) :
    Calls Tryz.prog 133 #[.pointer (some ⟨lb, 0, none⟩)] w (GotR (fun x => .agg (opCells x)) (fun _ => True) lb rb w bad (wPut :: ws) (pput ws)) := by
  have hlt := h.lt
  have hbm : (most : Int) = 999999999999999999 := rfl
  obtain ⟨N, hN⟩ : ∃ N : Nat, N = w.heap.size := ⟨_, rfl⟩
  obtain ⟨W, hW⟩ : ∃ W : World, W = w.alloc (.cells (opCells opZero) 67) := ⟨_, rfl⟩
  have hkk0 : Keep (fun b => b = lb) w W := by rw [hW]; exact (Keep.refl _ w).alloc _
  have hN0 : W.heap[N]? = some (.cells (opCells opZero) 67 (0, 0)) := by rw [hW, hN]; exact block_new _ _
  have hl0 : RLineAt W lb rb (wPut :: ws) bad := by rw [hW]; exact h.keep ((Keep.refl (fun _ => False) w).alloc _) (fun e => e) (fun e => e)
  have HL0 := Lib.hid hl0
  have HN0 := Lib.hid hN0
  have HKK0 := Lib.hid hkk0
  have HW := Lib.hid (show W = w.alloc (.cells #[.int .i64 0, .string ⟨#[]⟩, .string ⟨#[]⟩, .string ⟨#[]⟩, .int .u64 0, .int .i64 0, .bool false, .bool false, .bool false] 67) from hW)
  have HNN := Lib.hid hN
  have hNlb : ¬ N = lb := by omega
  have hNrb : ¬ N = rb := by omega
  have hrb' : rb < N := by omega
  have hlb' : lb < N := by omega
  have hwN : w.heap.size ≤ N := by omega
  clear hW hl0 hN0 hkk0 h hN
  go_enter Tryz.func133, Tryz.ntmps133
  go_wp2_with fail
  rw [← HW.out, ← HNN.out]
  have hkk0 := HKK0.out
  have hN0 := HN0.out
  refine (rword_some lb rb wPut ws bad W HL0.out).mono ?_
  rintro e w1 ⟨rfl, hk1, hl1⟩
  have HL1 := Lib.hid hl1
  clear hl1
  have hN1 := hk1.at' hN0 (show ¬ N = lb by omega)
  have hkk1 : Keep (fun b => b = lb) w w1 := hkk0.trans' hk1
  clear hN0 hkk0
  obtain ⟨b1, hb1⟩ : ∃ b1, b1 = bad := ⟨_, rfl⟩
  rw [← hb1] at HL1
  have HB1 := Lib.hid hb1
  obtain ⟨ws1, hws1⟩ : ∃ ws1, ws1 = ws := ⟨_, rfl⟩
  rw [← hws1] at HL1
  have HWS1 := Lib.hid hws1
  have hle1' : ws1.length ≤ ws.length := by rw [hws1]; exact Nat.le_refl _
  clear hb1 hws1
  unfold sv
  have HNB1 := Lib.hid hN1
  have HKK1 := Lib.hid hkk1
  clear hN1 hkk1
  go_wp2_with fail
  refine (rbytes_any lb rb ws1 b1 w1 HL1.out).mono ?_
  rintro e w2 ⟨hk2, kk, ws2, b2, rfl, hl2, hP2, hle2, hD2⟩
  have HL2 := Lib.hid hl2
  have HD2 := Lib.hid (show D b1 _ (kk, ws2) b2 from hD2)
  have hle2' : ws2.length ≤ ws.length := by omega
  clear hl2 hD2 hle2
  have hN1 := HNB1.out
  have hkk1 := HKK1.out
  have hN2 := hk2.at' hN1 (show ¬ N = lb by omega)
  have hkk2 : Keep (fun b => b = lb) w w2 := hkk1.trans' hk2
  clear hN1 hkk1
  have HNB2 := Lib.hid hN2
  have HKK2 := Lib.hid hkk2
  clear hN2 hkk2
  go_wp2_with fail
  refine (rbytes_any lb rb ws2 b2 w2 HL2.out).mono ?_
  rintro e w3 ⟨hk3, vv, ws3, b3, rfl, hl3, hP3, hle3, hD3⟩
  have HL3 := Lib.hid hl3
  have HD3 := Lib.hid (show D b2 _ (vv, ws3) b3 from hD3)
  have hle3' : ws3.length ≤ ws.length := by omega
  clear hl3 hD3 hle3
  have hN2 := HNB2.out
  have hkk2 := HKK2.out
  have hN3 := hk3.at' hN2 (show ¬ N = lb by omega)
  have hkk3 : Keep (fun b => b = lb) w w3 := hkk2.trans' hk3
  clear hN2 hkk2
  have HNB3 := Lib.hid hN3
  have HKK3 := Lib.hid hkk3
  clear hN3 hkk3
  have hN3 := HNB3.out
  have hkk3 := HKK3.out
  have hszN : N < w3.heap.size := lt_of_block hN3
  obtain ⟨V, hV, hst, hbV, hkV⟩ := new_block67 w3 ⟨1, kk, [], vv, 0, 0, false, false, false⟩
  have hVB := hbV
  generalize hB : w3.heap.size = B at hbV hszN
  have hNV := hkV.at' hN3 (fun e => e)
  have hlV := HL3.out.keep hkV (fun e => e) (fun e => e)
  have hkkV : Keep (fun b => b = lb) w V := hkk3.trans hkV (fun _ _ e => e.elim)
  have HNV := Lib.hid hNV
  have HBV := Lib.hid hbV
  have HLV := Lib.hid hlV
  have HKKV := Lib.hid hkkV
  have HB := Lib.hid hB
  clear hV hVB hB hNV hbV hlV hkV hkkV hN3 hkk3
  unfold opCells at hst
  go_wp2_with fail
  rw [HB.out]
  refine (rmarks_any lb rb lP ws3 b3 V HLV.out (Nat.lt_of_lt_of_le hr HKKV.out.size) (by decide)).mono ?_
  rintro e w7 ⟨hk7, m, ws7, b7, rfl, hl7, hP7, hle7, hD7⟩
  have hNm := hk7.at' HNV.out (show ¬ N = lb by omega)
  have hBm := hk7.at' HBV.out (show ¬ B = lb by omega)
  have hkkm : Keep (fun b => b = lb) w w7 := HKKV.out.trans' hk7
  have HD7 := Lib.hid (show D b3 _ (m, ws7) b7 from hD7)
  have hle7' : ws7.length ≤ ws.length := by omega
  have HL7 := Lib.hid hl7
  have HNM := Lib.hid hNm
  have HBM := Lib.hid hBm
  have HKKM := Lib.hid hkkm
  clear hl7 hNm hBm hkkm hD7 hk7 hle7 hP7
  have i0 := flags_index0 m
  have hc8 : w7.cell? ⟨B, 8, none⟩ = some (.bool false) := cell_of_block HBM.out 8
  have hf8 := free_of_block HBM.out 8
  obtain ⟨V8, hV8⟩ : ∃ V8 : World, V8 = w7.setCell ⟨B, 8, none⟩ (.bool (at' m 0)) := ⟨_, rfl⟩
  have hB8 : V8.heap[B]? = some (.cells (opCells ⟨1, kk, [], vv, 0, 0, false, false, (at' m 0)⟩) 67 (0, 0)) := by rw [hV8]; exact block_setCell HBM.out 8 _
  have hN8 : V8.heap[N]? = some (.cells (opCells opZero) 67 (0, 0)) := by rw [hV8]; exact block_setCell_other HNM.out _ _ (show N ≠ B by omega)
  have hk8 : Keep (fun b => b = B) w7 V8 := by rw [hV8]; exact (Keep.refl (fun b => b = B) w7).setCell _ _ (.inr rfl)
  have hl8 := HL7.out.keep hk8 (by omega) (by omega)
  have hkk8 : Keep (fun b => b = lb) w V8 := HKKM.out.trans hk8 (fun b hb e => by omega)
  have HN8 := Lib.hid hN8
  have HB8 := Lib.hid hB8
  have HL8 := Lib.hid hl8
  have HKK8 := Lib.hid hkk8
  clear hN8 hB8 hk8 hl8 hkk8
  obtain ⟨cs, hcs, hld, hst, hbf⟩ := op_out (V := V8) (B := B) (N := N) (x := ⟨1, kk, [], vv, 0, 0, false, false, (at' m 0)⟩) rfl HN8.out HB8.out
  have HCS := Lib.hid hcs
  have HBF := Lib.hid hbf
  have HLF := Lib.hid (HL8.out.keep ((Keep.refl (fun b => b = N) V8).setCells N 0 cs.toList (.inr rfl)) (by omega) (by omega))
  have HKF := Lib.hid (HKK8.out.setCells N 0 cs.toList (.inl hwN))
  clear hcs hbf
  subst hV8
  go_wp2_with fail
  (try simp only [Exit.inBlock, Exit.then])
  refine bodyPost_ret (v := .agg cs) ?_ rfl ?_
  · exact results_block (n := 9) rfl Tryz.underlying67 rfl info67 _ _ _ cs 67 (0, 0) rfl (by rw [HCS.out]; rfl) HBF.out
  refine ⟨HKF.out, ⟨1, kk, [], vv, 0, 0, false, false, (at' m 0)⟩, ws7, b7, by rw [HCS.out], HLF.out, trivial, by simp; omega, ?_⟩
  show D bad (pput ws) (_, ws7) b7
  rw [← HB1.out, ← HWS1.out]
  exact HD2.out.bind (HD3.out.bind (HD7.out.bind (D.some _ _)))
set_option maxHeartbeats 3200000 in
set_option maxRecDepth 100000 in
theorem rop_del (lb rb : Nat) (ws : List Str) (bad : Bool) (w : World) (h : RLineAt w lb rb (wDel :: ws) bad) (hr : rb < w.heap.size) :
    Calls Tryz.prog 133 #[.pointer (some ⟨lb, 0, none⟩)] w (GotR (fun x => .agg (opCells x)) (fun _ => True) lb rb w bad (wDel :: ws) (pdel ws)) := by
  have hlt := h.lt
  have hbm : (most : Int) = 999999999999999999 := rfl
  obtain ⟨N, hN⟩ : ∃ N : Nat, N = w.heap.size := ⟨_, rfl⟩
  obtain ⟨W, hW⟩ : ∃ W : World, W = w.alloc (.cells (opCells opZero) 67) := ⟨_, rfl⟩
  have hkk0 : Keep (fun b => b = lb) w W := by rw [hW]; exact (Keep.refl _ w).alloc _
  have hN0 : W.heap[N]? = some (.cells (opCells opZero) 67 (0, 0)) := by rw [hW, hN]; exact block_new _ _
  have hl0 : RLineAt W lb rb (wDel :: ws) bad := by rw [hW]; exact h.keep ((Keep.refl (fun _ => False) w).alloc _) (fun e => e) (fun e => e)
  have HL0 := Lib.hid hl0
  have HN0 := Lib.hid hN0
  have HKK0 := Lib.hid hkk0
  have HW := Lib.hid (show W = w.alloc (.cells #[.int .i64 0, .string ⟨#[]⟩, .string ⟨#[]⟩, .string ⟨#[]⟩, .int .u64 0, .int .i64 0, .bool false, .bool false, .bool false] 67) from hW)
  have HNN := Lib.hid hN
  have hNlb : ¬ N = lb := by omega
  have hNrb : ¬ N = rb := by omega
  have hrb' : rb < N := by omega
  have hlb' : lb < N := by omega
  have hwN : w.heap.size ≤ N := by omega
  clear hW hl0 hN0 hkk0 h hN
  go_enter Tryz.func133, Tryz.ntmps133
  go_wp2_with fail
  rw [← HW.out, ← HNN.out]
  have hkk0 := HKK0.out
  have hN0 := HN0.out
  refine (rword_some lb rb wDel ws bad W HL0.out).mono ?_
  rintro e w1 ⟨rfl, hk1, hl1⟩
  have HL1 := Lib.hid hl1
  clear hl1
  have hN1 := hk1.at' hN0 (show ¬ N = lb by omega)
  have hkk1 : Keep (fun b => b = lb) w w1 := hkk0.trans' hk1
  clear hN0 hkk0
  obtain ⟨b1, hb1⟩ : ∃ b1, b1 = bad := ⟨_, rfl⟩
  rw [← hb1] at HL1
  have HB1 := Lib.hid hb1
  obtain ⟨ws1, hws1⟩ : ∃ ws1, ws1 = ws := ⟨_, rfl⟩
  rw [← hws1] at HL1
  have HWS1 := Lib.hid hws1
  have hle1' : ws1.length ≤ ws.length := by rw [hws1]; exact Nat.le_refl _
  clear hb1 hws1
  unfold sv
  have HNB1 := Lib.hid hN1
  have HKK1 := Lib.hid hkk1
  clear hN1 hkk1
  go_wp2_with fail
  refine (rbytes_any lb rb ws1 b1 w1 HL1.out).mono ?_
  rintro e w2 ⟨hk2, kk, ws2, b2, rfl, hl2, hP2, hle2, hD2⟩
  have HL2 := Lib.hid hl2
  have HD2 := Lib.hid (show D b1 _ (kk, ws2) b2 from hD2)
  have hle2' : ws2.length ≤ ws.length := by omega
  clear hl2 hD2 hle2
  have hN1 := HNB1.out
  have hkk1 := HKK1.out
  have hN2 := hk2.at' hN1 (show ¬ N = lb by omega)
  have hkk2 : Keep (fun b => b = lb) w w2 := hkk1.trans' hk2
  clear hN1 hkk1
  have HNB2 := Lib.hid hN2
  have HKK2 := Lib.hid hkk2
  clear hN2 hkk2
  go_wp2_with fail
  refine (rbytes_any lb rb ws2 b2 w2 HL2.out).mono ?_
  rintro e w3 ⟨hk3, ff, ws3, b3, rfl, hl3, hP3, hle3, hD3⟩
  have HL3 := Lib.hid hl3
  have HD3 := Lib.hid (show D b2 _ (ff, ws3) b3 from hD3)
  have hle3' : ws3.length ≤ ws.length := by omega
  clear hl3 hD3 hle3
  have hN2 := HNB2.out
  have hkk2 := HKK2.out
  have hN3 := hk3.at' hN2 (show ¬ N = lb by omega)
  have hkk3 : Keep (fun b => b = lb) w w3 := hkk2.trans' hk3
  clear hN2 hkk2
  have HNB3 := Lib.hid hN3
  have HKK3 := Lib.hid hkk3
  clear hN3 hkk3
  have hN3 := HNB3.out
  have hkk3 := HKK3.out
  have hszN : N < w3.heap.size := lt_of_block hN3
  obtain ⟨V, hV, hst, hbV, hkV⟩ := new_block67 w3 ⟨2, kk, ff, [], 0, 0, false, false, false⟩
  have hVB := hbV
  generalize hB : w3.heap.size = B at hbV hszN
  have hNV := hkV.at' hN3 (fun e => e)
  have hlV := HL3.out.keep hkV (fun e => e) (fun e => e)
  have hkkV : Keep (fun b => b = lb) w V := hkk3.trans hkV (fun _ _ e => e.elim)
  have HNV := Lib.hid hNV
  have HBV := Lib.hid hbV
  have HLV := Lib.hid hlV
  have HKKV := Lib.hid hkkV
  have HB := Lib.hid hB
  clear hV hVB hB hNV hbV hlV hkV hkkV hN3 hkk3
  unfold opCells at hst
  go_wp2_with fail
  rw [HB.out]
  refine (rmarks_any lb rb lP ws3 b3 V HLV.out (Nat.lt_of_lt_of_le hr HKKV.out.size) (by decide)).mono ?_
  rintro e w7 ⟨hk7, m, ws7, b7, rfl, hl7, hP7, hle7, hD7⟩
  have hNm := hk7.at' HNV.out (show ¬ N = lb by omega)
  have hBm := hk7.at' HBV.out (show ¬ B = lb by omega)
  have hkkm : Keep (fun b => b = lb) w w7 := HKKV.out.trans' hk7
  have HD7 := Lib.hid (show D b3 _ (m, ws7) b7 from hD7)
  have hle7' : ws7.length ≤ ws.length := by omega
  have HL7 := Lib.hid hl7
  have HNM := Lib.hid hNm
  have HBM := Lib.hid hBm
  have HKKM := Lib.hid hkkm
  clear hl7 hNm hBm hkkm hD7 hk7 hle7 hP7
  have i0 := flags_index0 m
  have hc8 : w7.cell? ⟨B, 8, none⟩ = some (.bool false) := cell_of_block HBM.out 8
  have hf8 := free_of_block HBM.out 8
  obtain ⟨V8, hV8⟩ : ∃ V8 : World, V8 = w7.setCell ⟨B, 8, none⟩ (.bool (at' m 0)) := ⟨_, rfl⟩
  have hB8 : V8.heap[B]? = some (.cells (opCells ⟨2, kk, ff, [], 0, 0, false, false, (at' m 0)⟩) 67 (0, 0)) := by rw [hV8]; exact block_setCell HBM.out 8 _
  have hN8 : V8.heap[N]? = some (.cells (opCells opZero) 67 (0, 0)) := by rw [hV8]; exact block_setCell_other HNM.out _ _ (show N ≠ B by omega)
  have hk8 : Keep (fun b => b = B) w7 V8 := by rw [hV8]; exact (Keep.refl (fun b => b = B) w7).setCell _ _ (.inr rfl)
  have hl8 := HL7.out.keep hk8 (by omega) (by omega)
  have hkk8 : Keep (fun b => b = lb) w V8 := HKKM.out.trans hk8 (fun b hb e => by omega)
  have HN8 := Lib.hid hN8
  have HB8 := Lib.hid hB8
  have HL8 := Lib.hid hl8
  have HKK8 := Lib.hid hkk8
  clear hN8 hB8 hk8 hl8 hkk8
  obtain ⟨cs, hcs, hld, hst, hbf⟩ := op_out (V := V8) (B := B) (N := N) (x := ⟨2, kk, ff, [], 0, 0, false, false, (at' m 0)⟩) rfl HN8.out HB8.out
  have HCS := Lib.hid hcs
  have HBF := Lib.hid hbf
  have HLF := Lib.hid (HL8.out.keep ((Keep.refl (fun b => b = N) V8).setCells N 0 cs.toList (.inr rfl)) (by omega) (by omega))
  have HKF := Lib.hid (HKK8.out.setCells N 0 cs.toList (.inl hwN))
  clear hcs hbf
  subst hV8
  go_wp2_with fail
  (try simp only [Exit.inBlock, Exit.then])
  refine bodyPost_ret (v := .agg cs) ?_ rfl ?_
  · exact results_block (n := 9) rfl Tryz.underlying67 rfl info67 _ _ _ cs 67 (0, 0) rfl (by rw [HCS.out]; rfl) HBF.out
  refine ⟨HKF.out, ⟨2, kk, ff, [], 0, 0, false, false, (at' m 0)⟩, ws7, b7, by rw [HCS.out], HLF.out, trivial, by simp; omega, ?_⟩
  show D bad (pdel ws) (_, ws7) b7
  rw [← HB1.out, ← HWS1.out]
  exact HD2.out.bind (HD3.out.bind (HD7.out.bind (D.some _ _)))
set_option maxHeartbeats 3200000 in
set_option maxRecDepth 100000 in
theorem rop_range (lb rb : Nat) (ws : List Str) (bad : Bool) (w : World) (h : RLineAt w lb rb (wRange :: ws) bad) (hr : rb < w.heap.size) :
    Calls Tryz.prog 133 #[.pointer (some ⟨lb, 0, none⟩)] w (GotR (fun x => .agg (opCells x)) (fun _ => True) lb rb w bad (wRange :: ws) (prange ws)) := by
  have hlt := h.lt
  have hbm : (most : Int) = 999999999999999999 := rfl
  obtain ⟨N, hN⟩ : ∃ N : Nat, N = w.heap.size := ⟨_, rfl⟩
  obtain ⟨W, hW⟩ : ∃ W : World, W = w.alloc (.cells (opCells opZero) 67) := ⟨_, rfl⟩
  have hkk0 : Keep (fun b => b = lb) w W := by rw [hW]; exact (Keep.refl _ w).alloc _
  have hN0 : W.heap[N]? = some (.cells (opCells opZero) 67 (0, 0)) := by rw [hW, hN]; exact block_new _ _
  have hl0 : RLineAt W lb rb (wRange :: ws) bad := by rw [hW]; exact h.keep ((Keep.refl (fun _ => False) w).alloc _) (fun e => e) (fun e => e)
  have HL0 := Lib.hid hl0
  have HN0 := Lib.hid hN0
  have HKK0 := Lib.hid hkk0
  have HW := Lib.hid (show W = w.alloc (.cells #[.int .i64 0, .string ⟨#[]⟩, .string ⟨#[]⟩, .string ⟨#[]⟩, .int .u64 0, .int .i64 0, .bool false, .bool false, .bool false] 67) from hW)
  have HNN := Lib.hid hN
  have hNlb : ¬ N = lb := by omega
  have hNrb : ¬ N = rb := by omega
  have hrb' : rb < N := by omega
  have hlb' : lb < N := by omega
  have hwN : w.heap.size ≤ N := by omega
  clear hW hl0 hN0 hkk0 h hN
  go_enter Tryz.func133, Tryz.ntmps133
  go_wp2_with fail
  rw [← HW.out, ← HNN.out]
  have hkk0 := HKK0.out
  have hN0 := HN0.out
  refine (rword_some lb rb wRange ws bad W HL0.out).mono ?_
  rintro e w1 ⟨rfl, hk1, hl1⟩
  have HL1 := Lib.hid hl1
  clear hl1
  have hN1 := hk1.at' hN0 (show ¬ N = lb by omega)
  have hkk1 : Keep (fun b => b = lb) w w1 := hkk0.trans' hk1
  clear hN0 hkk0
  obtain ⟨b1, hb1⟩ : ∃ b1, b1 = bad := ⟨_, rfl⟩
  rw [← hb1] at HL1
  have HB1 := Lib.hid hb1
  obtain ⟨ws1, hws1⟩ : ∃ ws1, ws1 = ws := ⟨_, rfl⟩
  rw [← hws1] at HL1
  have HWS1 := Lib.hid hws1
  have hle1' : ws1.length ≤ ws.length := by rw [hws1]; exact Nat.le_refl _
  clear hb1 hws1
  unfold sv
  have HNB1 := Lib.hid hN1
  have HKK1 := Lib.hid hkk1
  clear hN1 hkk1
  go_wp2_with fail
  refine (rbytes_any lb rb ws1 b1 w1 HL1.out).mono ?_
  rintro e w2 ⟨hk2, kk, ws2, b2, rfl, hl2, hP2, hle2, hD2⟩
  have HL2 := Lib.hid hl2
  have HD2 := Lib.hid (show D b1 _ (kk, ws2) b2 from hD2)
  have hle2' : ws2.length ≤ ws.length := by omega
  clear hl2 hD2 hle2
  have hN1 := HNB1.out
  have hkk1 := HKK1.out
  have hN2 := hk2.at' hN1 (show ¬ N = lb by omega)
  have hkk2 : Keep (fun b => b = lb) w w2 := hkk1.trans' hk2
  clear hN1 hkk1
  have HNB2 := Lib.hid hN2
  have HKK2 := Lib.hid hkk2
  clear hN2 hkk2
  go_wp2_with fail
  refine (rbytes_any lb rb ws2 b2 w2 HL2.out).mono ?_
  rintro e w3 ⟨hk3, ff, ws3, b3, rfl, hl3, hP3, hle3, hD3⟩
  have HL3 := Lib.hid hl3
  have HD3 := Lib.hid (show D b2 _ (ff, ws3) b3 from hD3)
  have hle3' : ws3.length ≤ ws.length := by omega
  clear hl3 hD3 hle3
  have hN2 := HNB2.out
  have hkk2 := HKK2.out
  have hN3 := hk3.at' hN2 (show ¬ N = lb by omega)
  have hkk3 : Keep (fun b => b = lb) w w3 := hkk2.trans' hk3
  clear hN2 hkk2
  have HNB3 := Lib.hid hN3
  have HKK3 := Lib.hid hkk3
  clear hN3 hkk3
  go_wp2_with fail
  refine (rnum_any most (by decide) (by decide) lb rb ws3 b3 w3 HL3.out).mono ?_
  rintro e w4 ⟨hk4, rr, ws4, b4, rfl, hl4, hP4, hle4, hD4⟩
  have HL4 := Lib.hid hl4
  have HD4 := Lib.hid (show D b3 _ (rr, ws4) b4 from hD4)
  have hle4' : ws4.length ≤ ws.length := by omega
  clear hl4 hD4 hle4
  have hN3 := HNB3.out
  have hkk3 := HKK3.out
  have hN4 := hk4.at' hN3 (show ¬ N = lb by omega)
  have hkk4 : Keep (fun b => b = lb) w w4 := hkk3.trans' hk4
  clear hN3 hkk3
  have HNB4 := Lib.hid hN4
  have HKK4 := Lib.hid hkk4
  clear hN4 hkk4
  rw [hbm] at hP4
  have hN4 := HNB4.out
  have hkk4 := HKK4.out
  have hszN : N < w4.heap.size := lt_of_block hN4
  obtain ⟨V, hV, hst, hbV, hkV⟩ := new_block67 w4 ⟨0, kk, ff, [], rr, 0, false, false, false⟩
  have hVB := hbV
  generalize hB : w4.heap.size = B at hbV hszN
  have hNV := hkV.at' hN4 (fun e => e)
  have hlV := HL4.out.keep hkV (fun e => e) (fun e => e)
  have hkkV : Keep (fun b => b = lb) w V := hkk4.trans hkV (fun _ _ e => e.elim)
  have HNV := Lib.hid hNV
  have HBV := Lib.hid hbV
  have HLV := Lib.hid hlV
  have HKKV := Lib.hid hkkV
  have HB := Lib.hid hB
  clear hV hVB hB hNV hbV hlV hkV hkkV hN4 hkk4
  unfold opCells at hst
  go_wp2_with fail
  rw [HB.out]
  refine (rnum_any most (by decide) (by decide) lb rb ws4 b4 V HLV.out).mono ?_
  rintro e w5 ⟨hk5, ll, ws5, b5, rfl, hl5, hP5, hle5, hD5⟩
  have HD5 := Lib.hid (show D b4 _ (ll, ws5) b5 from hD5)
  have hle5' : ws5.length ≤ ws.length := by omega
  rw [hbm] at hP5
  obtain ⟨hP50, hP51⟩ := hP5
  have hwr : IntKind.i64.wrap ll = ll := IntWalk.i64_in _ (by omega)
  have hBn := hk5.at' HBV.out (show ¬ B = lb by omega)
  have hNn := hk5.at' HNV.out (show ¬ N = lb by omega)
  have hkkn : Keep (fun b => b = lb) w w5 := HKKV.out.trans' hk5
  have hc5 : w5.cell? ⟨B, 5, none⟩ = some (.int .i64 0) := cell_of_block hBn 5
  have hf5 := free_of_block hBn 5
  obtain ⟨V6, hV6⟩ : ∃ V6 : World, V6 = w5.setCell ⟨B, 5, none⟩ (.int .i64 ll) := ⟨_, rfl⟩
  have hB6 : V6.heap[B]? = some (.cells (opCells ⟨0, kk, ff, [], rr, ll, false, false, false⟩) 67 (0, 0)) := by rw [hV6]; exact block_setCell hBn 5 _
  have hN6 : V6.heap[N]? = some (.cells (opCells opZero) 67 (0, 0)) := by rw [hV6]; exact block_setCell_other hNn _ _ (show N ≠ B by omega)
  have hk6 : Keep (fun b => b = B) w5 V6 := by rw [hV6]; exact (Keep.refl (fun b => b = B) w5).setCell _ _ (.inr rfl)
  have hl6 := hl5.keep hk6 (by omega) (by omega)
  have hkk6 : Keep (fun b => b = lb) w V6 := hkkn.trans hk6 (fun b hb e => by omega)
  unfold u64w
  clear HNV HBV HLV HKKV
  have HNV := Lib.hid hN6
  have HBV := Lib.hid hB6
  have HLV := Lib.hid hl6
  have HKKV := Lib.hid hkk6
  clear hl5 hD5 hk5 hBn hNn hkkn hB6 hN6 hk6 hl6 hkk6 hle5 hst
  go_wp2_with fail
  rw [← hV6]
  clear hV6 hc5 hf5 hwr
  refine (rmarks_any lb rb lCk ws5 b5 V6 HLV.out (Nat.lt_of_lt_of_le hr HKKV.out.size) (by decide)).mono ?_
  rintro e w7 ⟨hk7, m, ws7, b7, rfl, hl7, hP7, hle7, hD7⟩
  have hNm := hk7.at' HNV.out (show ¬ N = lb by omega)
  have hBm := hk7.at' HBV.out (show ¬ B = lb by omega)
  have hkkm : Keep (fun b => b = lb) w w7 := HKKV.out.trans' hk7
  have HD7 := Lib.hid (show D b5 _ (m, ws7) b7 from hD7)
  have hle7' : ws7.length ≤ ws.length := by omega
  have HL7 := Lib.hid hl7
  have HNM := Lib.hid hNm
  have HBM := Lib.hid hBm
  have HKKM := Lib.hid hkkm
  clear hl7 hNm hBm hkkm hD7 hk7 hle7 hP7
  obtain ⟨V9, hV9, hst9, hF9, hk9⟩ := new_block154 w7 m
  have hsz7 : B < w7.heap.size := lt_of_block HBM.out
  generalize hC : w7.heap.size = C at *
  have hc90 : V9.cell? ⟨C, 0, none⟩ = some (.bool (at' m 0)) := cell_of_block hF9 0
  have hc91 : V9.cell? ⟨C, 1, none⟩ = some (.bool (at' m 1)) := cell_of_block hF9 1
  have hB9 := hk9.at' HBM.out (fun e => e)
  have hN9 := hk9.at' HNM.out (fun e => e)
  have hl9 := HL7.out.keep hk9 (fun e => e) (fun e => e)
  have hkk9 : Keep (fun b => b = lb) w V9 := HKKM.out.trans hk9 (fun _ _ e => e.elim)
  have hc6 : V9.cell? ⟨B, 6, none⟩ = some (.bool false) := cell_of_block hB9 6
  have hf6 := free_of_block hB9 6
  have hc7 : V9.cell? ⟨B, 7, none⟩ = some (.bool false) := cell_of_block hB9 7
  have hf7 := free_of_block hB9 7
  obtain ⟨V8, hV8⟩ : ∃ V8 : World, V8 = (V9.setCell ⟨B, 6, none⟩ (.bool (at' m 0))).setCell ⟨B, 7, none⟩ (.bool (at' m 1)) := ⟨_, rfl⟩
  have hB8 : V8.heap[B]? = some (.cells (opCells ⟨0, kk, ff, [], rr, ll, (at' m 0), (at' m 1), false⟩) 67 (0, 0)) := by rw [hV8]; exact block_setCell (block_setCell hB9 6 _) 7 _
  have hN8 : V8.heap[N]? = some (.cells (opCells opZero) 67 (0, 0)) := by rw [hV8]; exact block_setCell_other (block_setCell_other hN9 _ _ (show N ≠ B by omega)) _ _ (show N ≠ B by omega)
  have hk8 : Keep (fun b => b = B) V9 V8 := by rw [hV8]; exact ((Keep.refl (fun b => b = B) V9).setCell _ _ (.inr rfl)).setCell _ _ (.inr rfl)
  have hl8 := hl9.keep hk8 (by omega) (by omega)
  have hkk8 : Keep (fun b => b = lb) w V8 := hkk9.trans hk8 (fun b hb e => by omega)
  have HN8 := Lib.hid hN8
  have HB8 := Lib.hid hB8
  have HL8 := Lib.hid hl8
  have HKK8 := Lib.hid hkk8
  clear hN8 hB8 hk8 hl8 hkk8 hB9 hN9 hl9 hkk9 hV9 hF9 hk9
  unfold flags at hst9
  unfold flags
  obtain ⟨cs, hcs, hld, hst, hbf⟩ := op_out (V := V8) (B := B) (N := N) (x := ⟨0, kk, ff, [], rr, ll, (at' m 0), (at' m 1), false⟩) rfl HN8.out HB8.out
  have HCS := Lib.hid hcs
  have HBF := Lib.hid hbf
  have HLF := Lib.hid (HL8.out.keep ((Keep.refl (fun b => b = N) V8).setCells N 0 cs.toList (.inr rfl)) (by omega) (by omega))
  have HKF := Lib.hid (HKK8.out.setCells N 0 cs.toList (.inl hwN))
  clear hcs hbf
  subst hV8
  go_wp2_with fail
  (try simp only [Exit.inBlock, Exit.then])
  refine bodyPost_ret (v := .agg cs) ?_ rfl ?_
  · exact results_block (n := 9) rfl Tryz.underlying67 rfl info67 _ _ _ cs 67 (0, 0) rfl (by rw [HCS.out]; rfl) HBF.out
  refine ⟨HKF.out, ⟨0, kk, ff, [], rr, ll, (at' m 0), (at' m 1), false⟩, ws7, b7, by rw [HCS.out], HLF.out, trivial, by simp; omega, ?_⟩
  show D bad (prange ws) (_, ws7) b7
  rw [← HB1.out, ← HWS1.out]
  exact HD2.out.bind (HD3.out.bind (HD4.out.bind (HD5.out.bind (HD7.out.bind (D.some _ _)))))
end Go.Proofs.YtifliekahdgobaaGreatDoor
namespace Go.Proofs.YtifliekahdgobaaGreatDoor
open Go.RowKit Sp

set_option maxRecDepth 100000 in
/-- behind a word that is no operation -/
theorem rop_tail (lb rb : Nat) (x : Str) (ws ws1 : List Str) (bad b1 : Bool) (w : World) (hlt : lb < w.heap.size) (hr : rb < w.heap.size)
    (h1 : (x == wRange) = false) (h2 : (x == wPut) = false) (h3 : (x == wDel) = false) (hlen : ws1.length ≤ ws.length) (hpop : bad = true ∨ pop ws = none)
    (H : ∀ W : World, RLineAt W lb rb ws bad → Calls Tryz.prog 96 #[.pointer (some ⟨lb, 0, none⟩)] W fun e w' => e = .returned (sv x) ∧ Keep (fun b => b = lb) W w' ∧ RLineAt w' lb rb ws1 b1) (h : RLineAt w lb rb ws bad) :
    Calls Tryz.prog 133 #[.pointer (some ⟨lb, 0, none⟩)] w (GotR (fun x => .agg (opCells x)) (fun _ => True) lb rb w bad ws (pop ws)) := by
  obtain ⟨N, hN⟩ : ∃ N : Nat, N = w.heap.size := ⟨_, rfl⟩
  obtain ⟨W, hW⟩ : ∃ W : World, W = w.alloc (.cells (opCells opZero) 67) := ⟨_, rfl⟩
  have hkk0 : Keep (fun b => b = lb) w W := by rw [hW]; exact (Keep.refl _ w).alloc _
  have hN0 : W.heap[N]? = some (.cells (opCells opZero) 67 (0, 0)) := by rw [hW, hN]; exact block_new _ _
  have hl0 : RLineAt W lb rb ws bad := by rw [hW]; exact h.keep ((Keep.refl (fun _ => False) w).alloc _) (fun e => e) (fun e => e)
  have HH := Lib.hid (H W hl0)
  have HN0 := Lib.hid hN0
  have HKK0 := Lib.hid hkk0
  have HW := Lib.hid (show W = w.alloc (.cells #[.int .i64 0, .string ⟨#[]⟩, .string ⟨#[]⟩, .string ⟨#[]⟩, .int .u64 0, .int .i64 0, .bool false, .bool false, .bool false] 67) from hW)
  have HNN := Lib.hid hN
  have hNlb : ¬ N = lb := by omega
  have hNrb : ¬ N = rb := by omega
  have hwN : w.heap.size ≤ N := by omega
  have HP := Lib.hid hpop
  have hx1 : (x == [114, 97, 110, 103, 101]) = false := h1
  have hx2 : (x == [112, 117, 116]) = false := h2
  have hx3 : (x == [100, 101, 108]) = false := h3
  clear hW hl0 hN0 hkk0 h hN H h1 h2 h3 hpop
  go_enter Tryz.func133, Tryz.ntmps133
  go_wp2_with fail
  rw [← HW.out, ← HNN.out]
  refine HH.out.mono ?_
  rintro e w1 ⟨rfl, hk1, hl1⟩
  have hN1 := hk1.at' HN0.out hNlb
  have hc := hl1.cellBad
  have hf := hl1.free 1
  obtain ⟨V, hV⟩ : ∃ V : World, V = w1.setCell ⟨lb, 1, none⟩ (.bool true) := ⟨_, rfl⟩
  have hNV : V.heap[N]? = some (.cells (opCells opZero) 67 (0, 0)) := by rw [hV]; exact block_setCell_other hN1 _ _ hNlb
  have hlV := hl1.mark true
  have hkV : Keep (fun b => b = lb) w V := by rw [hV]; exact (HKK0.out.trans' hk1).setCell _ _ (.inr rfl)
  rw [← hV] at hlV
  have hst := run_st67 V N 0 (opCells opZero) (there_of_block hNV (by decide)) rfl (opCells_one _)
  have hbf : (V.setCells N 0 (opCells opZero).toList).heap[N]? = some (.cells (opCells opZero) 67 (0, 0)) := by
    have := block_setCells_all hNV (opCells opZero).toList rfl
    rwa [Array.toArray_toList] at this
  have HBF := Lib.hid hbf
  have HLF := Lib.hid (hlV.keep ((Keep.refl (fun b => b = N) V).setCells N 0 (opCells opZero).toList (.inr rfl)) (fun e => hNlb e.symm) (fun e => hNrb e.symm))
  have HKF := Lib.hid (hkV.setCells N 0 (opCells opZero).toList (.inl hwN))
  clear hbf hlV hkV hNV hN1 hl1 hk1
  subst hV
  unfold opCells opZero at hst
  unfold sv
  go_wp2_with fail
  (try simp only [Exit.inBlock, Exit.then])
  refine bodyPost_ret (v := .agg (opCells opZero)) ?_ rfl ?_
  · exact results_block (n := 9) rfl Tryz.underlying67 rfl info67 _ _ _ (opCells opZero) 67 (0, 0) rfl rfl HBF.out
  exact ⟨HKF.out, opZero, ws1, true, rfl, HLF.out, trivial, hlen, .inr ⟨HP.out, rfl⟩⟩
theorem rop_any (lb rb : Nat) (ws : List Str) (bad : Bool) (w : World) (h : RLineAt w lb rb ws bad) (hr : rb < w.heap.size) :
    Calls Tryz.prog 133 #[.pointer (some ⟨lb, 0, none⟩)] w (GotR (fun x => .agg (opCells x)) (fun _ => True) lb rb w bad ws (pop ws)) := by
  have hlt := h.lt
  cases ws with
  | nil => exact rop_tail lb rb [] [] [] bad true w hlt hr rfl rfl rfl (Nat.le_refl _) (.inr rfl) (fun W hl => rword_none lb rb bad W hl) h
  | cons x ws =>
    have hp : pop (x :: ws) = if x = wRange then prange ws else if x = wPut then pput ws else if x = wDel then pdel ws else none := rfl
    by_cases h1 : x = wRange
    · subst h1
      rw [hp, if_pos rfl]
      exact rop_range lb rb ws bad w h hr
    · by_cases h2 : x = wPut
      · subst h2
        rw [hp, if_neg h1, if_pos rfl]
        exact rop_put lb rb ws bad w h hr
      · by_cases h3 : x = wDel
        · subst h3
          rw [hp, if_neg h1, if_neg h2, if_pos rfl]
          exact rop_del lb rb ws bad w h hr
        · exact rop_tail lb rb x (x :: ws) ws bad bad w hlt hr (by simpa using h1) (by simpa using h2) (by simpa using h3) (by simp) (.inr (by rw [hp, if_neg h1, if_neg h2, if_neg h3])) (fun W hl => rword_some lb rb x ws bad W hl) h
end Go.Proofs.YtifliekahdgobaaGreatDoor
namespace Go.Proofs.YtifliekahdgobaaGreatDoor
open Go.RowKit Sp

/-- the state at the head of req's loop: wz is what is left of the line; st what was read; B the result's block -/
structure RReqMem (lb rb B : Nat) (w : World) (r0 : ReqS) (st : PartS) (wz : List Str) (bad : Bool) (vc vt ve : Value) (wr : World) : Prop where
  line : RLineAt wr lb rb wz bad
  res : wr.heap[B]? = some (.cells (reqCells r0 vc vt ve) 59 (0, 0))
  cmps : CmpsAt wr (B + 1) vc st.cmps
  thn : OpsAt wr (B + 1) vt st.thn
  els : OpsAt wr (B + 1) ve st.els
  apart : vt.ownBlock = none ∨ vt.ownBlock ≠ ve.ownBlock
  keep : Keep (fun b => b = lb) w wr
variable {lb rb B : Nat} {w wr : World} {r0 : ReqS} {st : PartS} {wz : List Str} {bad : Bool} {vc vt ve : Value}
theorem RReqMem.step (h : RReqMem lb rb B w r0 st wz bad vc vt ve wr) (hb : lb < B) {wr' : World} {wz' : List Str} {bad' : Bool} (hk : Keep (fun b => b = lb) wr wr') (hl : RLineAt wr' lb rb wz' bad') : RReqMem lb rb B w r0 st wz' bad' vc vt ve wr' := by
  have hM : ∀ (v : Value) (base e size n : Nat) (xs : List Value), wr.ownsRow (B + 1) e size v n xs → ∀ g cur, v.ownBlock = some g → wr.heap[g]? = some (.cells cur e (0, 0)) → ¬ g = lb := fun v base e size n xs h g cur hg _ e => by
    have := (h.lt g hg).1
    omega
  exact ⟨hl, hk.at' h.res (by omega), ownsRow_keep h.cmps hk (hM _ 0 _ _ _ _ h.cmps), ownsRow_keep h.thn hk (hM _ 0 _ _ _ _ h.thn), ownsRow_keep h.els hk (hM _ 0 _ _ _ _ h.els), h.apart, h.keep.trans' hk⟩
theorem RReqMem.drew (h : RReqMem lb rb B w r0 st wz bad vc vt ve wr) (hb : lb < B) : RReqMem lb rb B w r0 st wz bad vc vt ve wr.drew :=
  h.step hb (Keep.refl _ wr).drew (h.line.keep (Keep.refl (fun _ => False) wr).drew (fun e => e) (fun e => e))
theorem RReqMem.alloc (h : RReqMem lb rb B w r0 st wz bad vc vt ve wr) (hb : lb < B) (o : Obj) : RReqMem lb rb B w r0 st wz bad vc vt ve (wr.alloc o) :=
  h.step hb ((Keep.refl _ wr).alloc o) (h.line.keep ((Keep.refl (fun _ => False) wr).alloc o) (fun e => e) (fun e => e))
theorem RReqMem.addCmp (h : RReqMem lb rb B w r0 st wz bad vc vt ve wr) (hb : lb < B) (hw : w.heap.size ≤ B) (hrb : rb < B) (x : CmpS) (hn : st.cmps.length + 1 ≤ 1099511627776) :
    ∃ v' w', (Builtin.append_ #[56, 56] 56 #[vc, .slice (some ⟨wr.heap.size, 0, none⟩) 1 1]).run Tryz.prog (wr.alloc (.cells (cmpCells x) 65 (0, 0))) = .ok v' w' ∧
      w'.cell? ⟨B, 4, none⟩ = some vc ∧ w'.frozen? ⟨B, 4, none⟩ = false ∧ RReqMem lb rb B w r0 { st with cmps := st.cmps ++ [x] } wz bad v' vt ve (w'.setCell ⟨B, 4, none⟩ v') := by
  have hBs := lt_of_block h.res
  obtain ⟨v', w', hr, h2, h3, h4⟩ := app_cmp wr (B + 1) vc st.cmps x h.cmps hn (by omega)
  have ha := h.alloc hb (.cells (cmpCells x) 65 (0, 0))
  have hkG : Keep (fun b => some b = vc.ownBlock) (wr.alloc (.cells (cmpCells x) 65 (0, 0))) w' := Keep.of_grown h3 (fun k e _ => e.symm)
  have hres : w'.heap[B]? = some (.cells (reqCells r0 vc vt ve) 59 (0, 0)) := hkG.at' ha.res (fun e => res_far ha.cmps (by omega) e.symm)
  refine ⟨v', w', hr, cell_of_block hres 4, free_of_block hres 4, ?_⟩
  have hkL : ∀ b, b ≤ B → ¬ some b = vc.ownBlock := fun b hb e => by have := (ha.cmps.lt b e.symm).1; omega
  have hkS : Keep (fun b => b = B) w' (w'.setCell ⟨B, 4, none⟩ v') := (Keep.refl _ w').setCell _ _ (.inr rfl)
  exact ⟨(ha.line.keep hkG (hkL lb (by omega)) (hkL rb (by omega))).keep hkS (by omega) (by omega), block_setCell hres 4 v', put_cell hres _ h2 (by omega),
    put_cell hres _ (row_kept ha.thn h3 (own_type ha.thn ha.cmps (by decide))) (by omega), put_cell hres _ (row_kept ha.els h3 (own_type ha.els ha.cmps (by decide))) (by omega), h.apart,
    (ha.keep.trans hkG (fun b hb' e => absurd e (hkL b (by omega)))).trans hkS (fun b hb' e => by omega)⟩
theorem RReqMem.addThn (h : RReqMem lb rb B w r0 st wz bad vc vt ve wr) (hb : lb < B) (hw : w.heap.size ≤ B) (hrb : rb < B) (x : OpS) (hn : st.thn.length + 1 ≤ 1099511627776) :
    ∃ v' w', (Builtin.append_ #[57, 57] 57 #[vt, .slice (some ⟨wr.heap.size, 0, none⟩) 1 1]).run Tryz.prog (wr.alloc (.cells (opCells x) 67 (0, 0))) = .ok v' w' ∧
      w'.cell? ⟨B, 5, none⟩ = some vt ∧ w'.frozen? ⟨B, 5, none⟩ = false ∧ RReqMem lb rb B w r0 { st with part := 1, thn := st.thn ++ [x] } wz bad vc v' ve (w'.setCell ⟨B, 5, none⟩ v') := by
  have hBs := lt_of_block h.res
  obtain ⟨v', w', hr, h2, h3, h4⟩ := app_op wr (B + 1) vt st.thn x h.thn hn (by omega)
  have ha := h.alloc hb (.cells (opCells x) 67 (0, 0))
  have hkG : Keep (fun b => some b = vt.ownBlock) (wr.alloc (.cells (opCells x) 67 (0, 0))) w' := Keep.of_grown h3 (fun k e _ => e.symm)
  have hres : w'.heap[B]? = some (.cells (reqCells r0 vc vt ve) 59 (0, 0)) := hkG.at' ha.res (fun e => res_far ha.thn (by omega) e.symm)
  refine ⟨v', w', hr, cell_of_block hres 5, free_of_block hres 5, ?_⟩
  have hkL : ∀ b, b ≤ B → ¬ some b = vt.ownBlock := fun b hb e => by have := (ha.thn.lt b e.symm).1; omega
  have hkS : Keep (fun b => b = B) w' (w'.setCell ⟨B, 5, none⟩ v') := (Keep.refl _ w').setCell _ _ (.inr rfl)
  have hap : v'.ownBlock = none ∨ v'.ownBlock ≠ ve.ownBlock := by
    rcases h4 with h4 | h4
    · rw [h4]; exact h.apart
    · right
      rw [h4]
      intro e
      have := (h.els.lt _ e.symm).2
      omega
  have hne : ve.ownBlock = none ∨ ve.ownBlock ≠ vt.ownBlock := by
    rcases h.apart with h5 | h5
    · rcases he : ve.ownBlock with _ | g
      · exact .inl rfl
      · right; rw [h5]; simp
    · exact .inr (fun e => h5 e.symm)
  exact ⟨(ha.line.keep hkG (hkL lb (by omega)) (hkL rb (by omega))).keep hkS (by omega) (by omega), block_setCell hres 5 v', put_cell hres _ (row_kept ha.cmps h3 (own_type ha.cmps ha.thn (by decide))) (by omega),
    put_cell hres _ h2 (by omega), put_cell hres _ (row_kept ha.els h3 hne) (by omega), hap,
    (ha.keep.trans hkG (fun b hb' e => absurd e (hkL b (by omega)))).trans hkS (fun b hb' e => by omega)⟩
theorem RReqMem.addEls (h : RReqMem lb rb B w r0 st wz bad vc vt ve wr) (hb : lb < B) (hw : w.heap.size ≤ B) (hrb : rb < B) (x : OpS) (hn : st.els.length + 1 ≤ 1099511627776) :
    ∃ v' w', (Builtin.append_ #[57, 57] 57 #[ve, .slice (some ⟨wr.heap.size, 0, none⟩) 1 1]).run Tryz.prog (wr.alloc (.cells (opCells x) 67 (0, 0))) = .ok v' w' ∧
      w'.cell? ⟨B, 6, none⟩ = some ve ∧ w'.frozen? ⟨B, 6, none⟩ = false ∧ RReqMem lb rb B w r0 { st with part := 2, els := st.els ++ [x] } wz bad vc vt v' (w'.setCell ⟨B, 6, none⟩ v') := by
  have hBs := lt_of_block h.res
  obtain ⟨v', w', hr, h2, h3, h4⟩ := app_op wr (B + 1) ve st.els x h.els hn (by omega)
  have ha := h.alloc hb (.cells (opCells x) 67 (0, 0))
  have hkG : Keep (fun b => some b = ve.ownBlock) (wr.alloc (.cells (opCells x) 67 (0, 0))) w' := Keep.of_grown h3 (fun k e _ => e.symm)
  have hres : w'.heap[B]? = some (.cells (reqCells r0 vc vt ve) 59 (0, 0)) := hkG.at' ha.res (fun e => res_far ha.els (by omega) e.symm)
  refine ⟨v', w', hr, cell_of_block hres 6, free_of_block hres 6, ?_⟩
  have hkL : ∀ b, b ≤ B → ¬ some b = ve.ownBlock := fun b hb e => by have := (ha.els.lt b e.symm).1; omega
  have hkS : Keep (fun b => b = B) w' (w'.setCell ⟨B, 6, none⟩ v') := (Keep.refl _ w').setCell _ _ (.inr rfl)
  have hap : vt.ownBlock = none ∨ vt.ownBlock ≠ v'.ownBlock := by
    rcases h4 with h4 | h4
    · rw [h4]; exact h.apart
    · rcases hv : vt.ownBlock with _ | g
      · exact .inl rfl
      · right
        rw [h4]
        intro e
        have := (h.thn.lt g hv).2
        injection e with e
        omega
  exact ⟨(ha.line.keep hkG (hkL lb (by omega)) (hkL rb (by omega))).keep hkS (by omega) (by omega), block_setCell hres 6 v', put_cell hres _ (row_kept ha.cmps h3 (own_type ha.cmps ha.els (by decide))) (by omega),
    put_cell hres _ (row_kept ha.thn h3 h.apart) (by omega), put_cell hres _ h2 (by omega), hap,
    (ha.keep.trans hkG (fun b hb' e => absurd e (hkL b (by omega)))).trans hkS (fun b hb' e => by omega)⟩

/-- a request's head -/
def phead (ws : List Str) : Option ((Nat × Int × Int × Bool × Int) × List Str) :=
  (pword ws).bind fun w => (kindOf kinds w.1).bind fun k => (pnum most w.2).bind fun c => (pnum most c.2).bind fun n => (pmarks lS n.2).bind fun m => (pnum most m.2).bind fun r => some ((k, c.1, n.1, at' m.1 0, r.1), r.2)
theorem preq_head (ws : List Str) : preq ws = (phead ws).bind fun h => (items ⟨0, [], [], []⟩ h.2).bind fun st => if okParts st = true then some ⟨h.1.1, h.1.2.1, h.1.2.2.1, h.1.2.2.2.1, st.cmps, st.thn, st.els, h.1.2.2.2.2⟩ else none := by
  unfold preq phead
  rcases pword ws with _ | ⟨x, w1⟩
  · rfl
  simp only [Option.bind_some]
  rcases kindOf kinds x with _ | k
  · rfl
  simp only [Option.bind_some]
  rcases pnum most w1 with _ | ⟨c, w2⟩
  · rfl
  simp only [Option.bind_some]
  rcases pnum most w2 with _ | ⟨n, w3⟩
  · rfl
  simp only [Option.bind_some]
  rcases pmarks lS w3 with _ | ⟨m, w4⟩
  · rfl
  simp only [Option.bind_some]
  rcases pnum most w4 with _ | ⟨r, w5⟩
  · rfl
  rfl
/-- the kind, after so many words of the table -/
def kAt (l : List Str) (x : Str) : Nat → Int
  | 0 => -1
  | i + 1 => if l.getD i [] = x then i else kAt l x i
theorem kAt_kinds (x : Str) : kAt kinds x 4 = idxOf kinds x := by
  unfold idxOf kindOf kinds
  simp only [kAt, List.findIdx?_cons, List.findIdx?_nil]
  by_cases h0 : ([116, 120, 110] : Str) = x
  · subst h0; decide
  by_cases h1 : ([99, 111, 109, 112, 97, 99, 116] : Str) = x
  · subst h1; decide
  by_cases h2 : ([104, 97, 115, 104] : Str) = x
  · subst h2; decide
  by_cases h3 : ([115, 116, 97, 116, 117, 115] : Str) = x
  · subst h3; decide
  simp [h0, h1, h2, h3]
theorem info51 : (Tryz.prog.info? 51).map (·.size) = some 4 := by kernel_rfl
theorem info125 : (Tryz.prog.info? 125).map (·.size) = some 12 := by kernel_rfl
theorem rkinds_walk (w : World) : Calls Tryz.prog 116 #[] w fun e w' => e = .returned (.agg (kinds.map fun y => sv y).toArray) ∧ Keep (fun _ => False) w w' := by
  go_enter Tryz.func116, Tryz.ntmps116
  go_wp2_with fail
  go_goals
  all_goals refine bodyPost_ret (v := .agg (kinds.map fun y => sv y).toArray) ?_ rfl ⟨rfl, (Keep.refl _ w).alloc _⟩
  exact results_block (n := 4) (t := 0) (T := 51) rfl Tryz.underlying51 rfl info51 _ _ w.heap.size (kinds.map fun y => sv y).toArray 51 (0, 0) rfl rfl (block_new w (.cells (kinds.map fun y => sv y).toArray 51))
theorem rnames_walk (w : World) : Calls Tryz.prog 57 #[] w fun e w' => e = .returned (.agg (names.map fun y => sv y).toArray) ∧ Keep (fun _ => False) w w' := by
  go_enter Tryz.func57, Tryz.ntmps57
  go_wp2_with fail
  go_goals
  all_goals refine bodyPost_ret (v := .agg (names.map fun y => sv y).toArray) ?_ rfl ⟨rfl, (Keep.refl _ w).alloc _⟩
  exact results_block (n := 12) (t := 0) (T := 125) rfl Tryz.underlying125 rfl info125 _ _ w.heap.size (names.map fun y => sv y).toArray 125 (0, 0) rfl rfl (block_new w (.cells (names.map fun y => sv y).toArray 125))
@[go_sem ↓] theorem execOp_store51 (ρ : Operand → Value) (x y : Operand) (d : Option Tmp) (t : TypeId) (p : String) (af : Array Edge) (g : Option (Nat × Bool)) :
    execOp ρ { dst := d, op := Op.store 51 x y, type := t, pos := p, after := af, guard := g } = stT 51 (ρ x) (ρ y) := rfl
theorem run_st51 (w : World) (b o : Nat) (cells : Array Value) (ht : w.there b o 4) (hs : cells.size = 4) (h1 : cells.all (·.oneCell') = true) :
    (stT 51 (.pointer (some ⟨b, o, none⟩)) (.agg cells)).run Tryz.prog w = .ok .skip (w.setCells b o cells.toList) := run_stT info51 w b o cells ht hs h1
@[go_sem ↓] theorem execOp_store125 (ρ : Operand → Value) (x y : Operand) (d : Option Tmp) (t : TypeId) (p : String) (af : Array Edge) (g : Option (Nat × Bool)) :
    execOp ρ { dst := d, op := Op.store 125 x y, type := t, pos := p, after := af, guard := g } = stT 125 (ρ x) (ρ y) := rfl
theorem run_st125 (w : World) (b o : Nat) (cells : Array Value) (ht : w.there b o 12) (hs : cells.size = 12) (h1 : cells.all (·.oneCell') = true) :
    (stT 125 (.pointer (some ⟨b, o, none⟩)) (.agg cells)).run Tryz.prog w = .ok .skip (w.setCells b o cells.toList) := run_stT info125 w b o cells ht hs h1
end Go.Proofs.YtifliekahdgobaaGreatDoor
