/-
  works. Helpers of the claims.
  ops, the cut of a branch's operations. Helpers of the claims.
  cut (printed by wip/tools/gen_cut.py). Helpers of the claims.
-/
import Derived.Test.YtifliekahdgobaaGreatDoorKW29ToL5
import Derived.Test.YtifliekahdgobaaGreatDoorKW10ToSB
import Derived.Test.YtifliekahdgobaaGreatDoorKW26ToW13
import Derived.Test.YtifliekahdgobaaGreatDoorKW15ToAD
set_option linter.unusedSimpArgs false
set_option linter.unusedVariables false
namespace Go.Proofs.YtifliekahdgobaaGreatDoor
open Go.RowKit Sp

/-- a row that fills a block, read -/
theorem RowRead.of_block {α : Type} {enc : α → Array Value} {size : Nat} (hs : ∀ x, (enc x).size = size) {w : World} {b : Nat} {T : TypeId} {l : List α} (hb : w.heap[b]? = some (.cells (flat enc l).toArray T (0, 0))) (c : Nat) : RowRead enc size w (.slice (some ⟨b, 0, none⟩) l.length c) l := by
  refine ⟨_, c, rfl, fun i x hx => ⟨b, 0, rfl, fun j u hu => ?_⟩⟩
  have h := flat_get enc size hs l i x j u hx hu
  rw [show 0 + i * size + j = i * size + j by omega, cell_of_block hb]
  simpa using h
theorem RowRead.nil {α : Type} (enc : α → Array Value) (size : Nat) (w : World) : RowRead enc size w nilS [] := ⟨none, 0, rfl, fun i x hx => by simp at hx⟩
set_option maxRecDepth 100000 in
set_option maxHeartbeats 3200000 in
theorem works_any (w : World) (hg : Glob w) : Calls Tryz.prog 13 #[] w (Tells true w) := by
  have H8 := Lib.hid (show Calls Tryz.prog 8 #[.string ⟨#[110, 111, 100, 101, 115, 32, 51, 10, 116, 105, 99, 107, 32, 48, 32, 53, 32, 35, 32, 102, 105, 118, 101, 10, 97, 115, 107, 32, 49, 32, 116, 120, 110, 32, 55, 32, 49, 32, 45, 32, 48, 32, 116, 104, 101, 110, 32, 112, 117, 116, 32, 54, 49, 32, 54, 50, 32, 112]⟩] w (GotParse w (parse wkText)) from mparse_any wkText (by decide) w hg)
  have HG := Lib.hid hg
  clear hg
  go_enter Tryz.func13, Tryz.ntmps13
  go_wp2_with fail
  refine H8.out.mono ?_
  rintro e w1 ⟨hk1, h1⟩
  rw [wk_parse] at h1
  obtain ⟨v, rfl, hst⟩ := h1
  obtain ⟨a, c, hv, -⟩ := hst.slice
  have hv2 : v = .slice a 2 c := hv
  subst hv2
  obtain ⟨V1, hV1⟩ : ∃ V : World, V = w1.alloc (.cells #[.int .i64 wkS.nodes, .slice a 2 c] 24) := ⟨_, rfl⟩
  have hkV : Keep (fun _ => False) w1 V1 := by rw [hV1]; exact (Keep.refl _ _).alloc _
  have hbV : V1.heap[w1.heap.size]? = some (.cells #[.int .i64 wkS.nodes, .slice a 2 c] 24 (0, 0)) := by rw [hV1]; exact block_new _ _
  have hsr := (StepsRead.of_at hst).far hkV
  have hp := mprint_any wkS.nodes wkS.steps (.slice a 2 c) V1 (HG.out.far (hk1.trans' hkV)) hsr wk_mid
  obtain ⟨n1, hn1⟩ : ∃ n, n = w1.heap.size := ⟨_, rfl⟩
  rw [← hn1] at hbV
  have HP := Lib.hid hp
  have HSR := Lib.hid hsr
  have HK1 := Lib.hid (hk1.trans' hkV)
  have HBV := Lib.hid hbV
  have HV1 := Lib.hid hV1
  have HN1 := Lib.hid hn1
  clear hp hsr hst hk1 hkV hbV hV1 hn1 H8 hv
  go_wp2_with fail
  rw [← HV1.out, ← HN1.out]
  refine HP.out.mono ?_
  rintro e w2 ⟨hk2, ⟨-, rfl⟩ | ⟨ho, -⟩⟩
  rotate_left
  · exact absurd (show okScript wkS = true from wk_ok) (by rw [show okScript wkS = false from ho]; simp)
  rw [show text ⟨wkS.nodes, wkS.steps⟩ = wkOut from wk_text]
  obtain ⟨W3, hW3⟩ : ∃ W : World, W = (w2.alloc (.cells #[.int .i64 1, .string ⟨#[97]⟩, .string ⟨#[]⟩, .string ⟨#[98]⟩, .int .u64 0, .int .i64 0, .bool false, .bool false, .bool true] 67)).alloc (.cells #[.int .i64 3, .int .i64 0, .int .u64 5, .int .i64 0, .int .u64 0, .int .u64 0, .bool false, .slice none 0 0, .slice none 0 0, .slice none 0 0, .int .u64 0, .int .u64 0, .string ⟨#[]⟩, .string ⟨#[]⟩, .int .u64 0, .bool false, .bool false, .bool false, .bool false, .int .i64 7, .int .i64 1, .int .u64 0, .int .i64 0, .int .u64 7, .int .u64 1, .bool false, .slice none 0 0, .slice (some ⟨w2.heap.size, 0, none⟩) 1 1, .slice none 0 0, .int .u64 0, .int .u64 0, .string ⟨#[]⟩, .string ⟨#[]⟩, .int .u64 0, .bool false, .bool false, .bool false, .bool false] 63) := ⟨_, rfl⟩
  have hk3 : Keep (fun _ => False) w2 W3 := by rw [hW3]; exact ((Keep.refl _ w2).alloc _).alloc _
  have hb67 : W3.heap[w2.heap.size]? = some (.cells (flat opCells [wkOp]).toArray 67 (0, 0)) := by rw [hW3]; exact block_alloc (block_new _ _) _
  have hb63 : W3.heap[w2.heap.size + 1]? = some (.cells (flat stepEnc [(wkTick, nilS, nilS, nilS), (wkAsk, nilS, .slice (some ⟨w2.heap.size, 0, none⟩) 1 1, nilS)]).toArray 63 (0, 0)) := by rw [hW3]; exact block_new' _ _ (by simp)
  have hwant : StepsRead W3 (.slice (some ⟨w2.heap.size + 1, 0, none⟩) 2 2) wkS.steps := ⟨[(wkTick, nilS, nilS, nilS), (wkAsk, nilS, .slice (some ⟨w2.heap.size, 0, none⟩) 1 1, nilS)], rfl, RowRead.of_block (size := 19) (fun _ => rfl) hb63 2, fun p hp => by
    simp only [List.mem_cons, List.mem_nil_iff, or_false] at hp
    rcases hp with rfl | rfl
    · exact ⟨RowRead.nil _ _ _, RowRead.nil _ _ _, RowRead.nil _ _ _⟩
    · exact ⟨RowRead.nil _ _ _, RowRead.of_block (size := 9) (fun _ => rfl) hb67 1, RowRead.nil _ _ _⟩⟩
  have hk23 := hk2.trans' hk3
  have c0 : W3.cell? ⟨n1, 0, none⟩ = some (.int .i64 wkS.nodes) := cell_of_block (hk23.at' HBV.out (fun e => e)) 0
  have c1 : W3.cell? ⟨n1, 1, none⟩ = some (.slice a 2 c) := cell_of_block (hk23.at' HBV.out (fun e => e)) 1
  have HK3 := Lib.hid (HK1.out.trans' hk23)
  have HSR3 := Lib.hid (HSR.out.far hk23)
  have HWANT := Lib.hid hwant
  have HW3 := Lib.hid hW3
  clear hk2 hk3 hk23 hb67 hb63 hwant hW3 HP HSR HBV HV1 HN1 HK1
  go_upto_region 4 with fail
  rw [← HW3.out]
  clear HW3
  generalize w2.heap.size = n2 at *
  have hq : (wkOut == [110, 111, 100, 101, 115, 32, 51, 10, 116, 105, 99, 107, 32, 48, 32, 53, 10, 97, 115, 107, 32, 49, 32, 116, 120, 110, 32, 55, 32, 49, 32, 45, 32, 48, 32, 116, 104, 101, 110, 32, 112, 117, 116, 32, 54, 49, 32, 54, 50, 32, 112, 10]) = true := by decide
  have HX := Lib.hid (ours_any wkS.nodes a 2 c W3)
  go_wp2_with fail
  refine HX.out.mono ?_
  rintro e w4 ⟨rfl, hk4⟩
  have HSM := Lib.hid (show Calls Tryz.prog 11 #[.agg #[.int .i64 wkS.nodes, .slice a 2 c], .agg #[.int .i64 3, .slice (some ⟨n2 + 1, 0, none⟩) 2 2]] w4 (Tells (decide (wkS = wkS)) w4) from rSame_any wkS wkS _ _ w4 (HSR3.out.far hk4) (HWANT.out.far hk4) (fun x hx => by have := wk_mid x hx; exact mid_lens this) (by decide))
  have HK4 := Lib.hid (HK3.out.trans' hk4)
  clear hk4
  go_wp2_with fail
  refine HSM.out.mono ?_
  rintro e w5 ⟨rfl, hk5⟩
  have hd : decide (wkS = wkS) = true := decide_eq_true rfl
  have HK5 := Lib.hid (HK4.out.trans' hk5)
  clear hk5
  have HW1 := Lib.hid (wrong_any [] (by decide) 4 1 wk1 (by decide) w5 (HG.out.far HK5.out))
  go_wp2_with fail
  refine HW1.out.mono ?_
  rintro e w6 ⟨rfl, hk6⟩
  have HK6 := Lib.hid (HK5.out.trans' hk6)
  have HW2 := Lib.hid (wrong_any _ (by decide) 19 0 wk2 (by decide) w6 (HG.out.far HK6.out))
  clear hk6
  go_wp2_with fail
  refine HW2.out.mono ?_
  rintro e w7 ⟨rfl, hk7⟩
  have HK7 := Lib.hid (HK6.out.trans' hk7)
  have HW3 := Lib.hid (wrong_any _ (by decide) 4 0 wk3 (by decide) w7 (HG.out.far HK7.out))
  clear hk7
  go_wp2_with fail
  refine HW3.out.mono ?_
  rintro e w8 ⟨rfl, hk8⟩
  have HK8 := Lib.hid (HK7.out.trans' hk8)
  have HW4 := Lib.hid (wrong_any _ (by decide) 4 0 wk4 (by decide) w8 (HG.out.far HK8.out))
  clear hk8
  go_wp2_with fail
  refine HW4.out.mono ?_
  rintro e w9 ⟨rfl, hk9⟩
  have HK9 := Lib.hid (HK8.out.trans' hk9)
  have HW5 := Lib.hid (wrong_any _ (by decide) 4 1 wk5 (by decide) w9 (HG.out.far HK9.out))
  clear hk9
  go_wp2_with fail
  refine HW5.out.mono ?_
  rintro e w10 ⟨rfl, hk10⟩
  have HK10 := Lib.hid (HK9.out.trans' hk10)
  clear hk10
  go_wp2_with fail
  go_ret
  exact ⟨rfl, HK10.out⟩
end Go.Proofs.YtifliekahdgobaaGreatDoor
namespace Go.Proofs.YtifliekahdgobaaGreatDoor
open Go.RowKit Sp

theorem cut_str (t : Str) (n : Nat) : Value.string ((⟨t.toArray⟩ : ByteArray).extract 0 (min (t.length : Int) (n : Int)).toNat) = sv (t.take n) := by
  rw [extract_piece]
  unfold piece
  simp only [List.drop_zero, Nat.sub_zero]
  have e : t.take (min (t.length : Int) (n : Int)).toNat = t.take n := by
    rcases Nat.lt_or_ge t.length n with h | h
    · rw [List.take_of_length_le (l := t) (i := n) (by omega), List.take_of_length_le (by omega)]
    · congr 1; omega
  rw [e]
theorem cut50 (t : Str) : Value.string ((⟨t.toArray⟩ : ByteArray).extract 0 (min (t.length : Int) 50).toNat) = sv (t.take 50) := cut_str t 50
def cutOp (x : OpS) : OpS := { x with key := x.key.take 50, fin := x.fin.take 50, val := x.val.take 50 }
def cutOps (l : List OpS) : List OpS := (l.take 12).map cutOp
theorem cutOps_step (l : List OpS) (k : Nat) (hk : k < l.length) : (l.take (k + 1)).map cutOp = (l.take k).map cutOp ++ [cutOp l[k]] := by
  rw [List.take_succ_eq_append_getElem hk, List.map_append]
  rfl
theorem cutOps_end (l : List OpS) (k : Nat) (hk : k ≤ 12) (h : k = 12 ∨ l.length ≤ k) : cutOps l = (l.take k).map cutOp := by
  unfold cutOps
  rcases h with h | h
  · rw [h]
  · rw [List.take_of_length_le (by omega : l.length ≤ k), List.take_of_length_le (by omega : l.length ≤ 12)]
theorem opsAt_far {w w' : World} {base : Nat} {v : Value} {l : List OpS} (h : OpsAt w base v l) (hk : Keep (fun _ => False) w w') : OpsAt w' base v l := ownsRow_keep h hk (fun _ _ _ _ e => e)
set_option maxRecDepth 100000 in
set_option maxHeartbeats 3200000 in
theorem ops_any (l : List OpS) (v : Value) (w : World) (hl : (l.length : Int) ≤ 9223372036854775807) (hr : RowRead opCells 9 w v l) :
    Calls Tryz.prog 33 #[v] w fun e w' => ∃ v', e = .returned v' ∧ Keep (fun _ => False) w w' ∧ OpsAt w' w.heap.size v' (cutOps l) := by
  obtain ⟨a, c, rfl, -⟩ : ∃ a c, v = .slice a l.length c ∧ True := by
    obtain ⟨a, c, h, _⟩ := hr
    exact ⟨a, c, h, trivial⟩
  obtain ⟨B, hB⟩ : ∃ B : Nat, B = w.heap.size := ⟨_, rfl⟩
  rw [← hB]
  have HRR := Lib.hid (fun w' (hk : Keep (fun _ => False) w w') => (hr.keep hk (fun _ _ _ _ _ e => e) : RowRead opCells 9 w' (.slice a l.length c) l))
  have HB := Lib.hid hB
  clear hr hB
  go_enter Tryz.func33, Tryz.ntmps33
  go_wp2_with fail
  go_loopw [3, 4] (fun v3 v4 wr => ∃ k : Nat, k ≤ l.length ∧ k ≤ 12 ∧ v4 = .int .i64 k ∧ OpsAt wr B v3 ((l.take k).map cutOp) ∧ Keep (fun _ => False) w wr) (fun _ v4 _ => 12 - (intOf v4).toNat)
  case atStart => exact ⟨0, Nat.zero_le _, by omega, rfl, World.ownsRow_nil _ _ _ _, Keep.refl _ _⟩
  case round =>
    obtain ⟨k, hk, hk12, rfl, hops, hkr⟩ := hrel
    obtain ⟨as3, cs3, hv3, -⟩ := ownsRow_len hops
    subst hv3
    have HSTEP := Lib.hid (fun hlt : k < l.length => cutOps_step l k hlt)
    have HEND := Lib.hid (fun h => cutOps_end l k hk12 h)
    have hlen : ((l.take k).map cutOp).length = k := by rw [List.length_map, List.length_take]; omega
    generalize hL : (l.take k).map cutOp = L at *
    have HL := Lib.hid hL
    have HLEN := Lib.hid hlen
    clear hL hlen
    by_cases hlt : k < l.length
    · by_cases h12 : k < 12
      · obtain ⟨b, o, hbo, hrng⟩ := (HRR.out _ hkr).at k hlt
        subst hbo
        have hlt' : (k : Int) < (l.length : Int) := by omega
        have h12' : (k : Int) < 12 := by omega
        have HST := Lib.hid (HSTEP.out hlt)
        clear HSTEP
        generalize hx : l[k] = x at *
        obtain ⟨kind, key, fin, val, rev, limit, count, keys, prev⟩ := x
        obtain ⟨cs, hcs⟩ : ∃ cs, cs = opCells ⟨kind, key, fin, val, rev, limit, count, keys, prev⟩ := ⟨_, rfl⟩
        rw [← hcs] at hrng
        have hld := run_ld67 wr b _ cs (by rw [hcs]; rfl) hrng
        have hst2 := run_st67 (wr.alloc (.cells (opCells opZero) 67)) wr.heap.size 0 cs (there_of_block (block_new _ _) (by decide)) (by rw [hcs]; rfl) (by rw [hcs]; exact opCells_one _)
        obtain ⟨W1, hW1⟩ : ∃ W1 : World, W1 = (wr.alloc (.cells (opCells opZero) 67)).setCells wr.heap.size 0 cs.toList := ⟨_, rfl⟩
        rw [← hW1] at hst2
        obtain ⟨N, hN⟩ : ∃ N : Nat, N = wr.heap.size := ⟨_, rfl⟩
        have hb1 : W1.heap[N]? = some (.cells (opCells ⟨kind, key, fin, val, rev, limit, count, keys, prev⟩) 67 (0, 0)) := by
          rw [hW1, hN, block_setCells_all (block_new _ _) _ (by rw [hcs]; rfl), hcs]
        have hk1 : Keep (fun _ => False) wr W1 := by rw [hW1]; exact ((Keep.refl _ wr).alloc _).setCells _ _ _ (.inl (Nat.le_refl _))
        have HK1 := Lib.hid hk1
        have HN := Lib.hid hN
        have HW1 := Lib.hid hW1
        have HCS := Lib.hid hcs
        have HOPS := Lib.hid hops
        have HKR := Lib.hid hkr
        have c1 : W1.cell? ⟨N, 1, none⟩ = some (sv key) := cell_of_block hb1 1
        have f1 : W1.frozen? ⟨N, 1, none⟩ = false := free_of_block hb1 1
        have HB1 := Lib.hid hb1
        clear hrng hW1 hcs hops hkr hk1 hb1 hN
        unfold opCells opZero at hst2
        go_upto_region 6 with fail
        rw [← HN.out]
        go_upto_region 7 with fail
        rw [cut50]
        obtain ⟨W2, hW2⟩ : ∃ W : World, W = W1.setCell ⟨N, 1, none⟩ (sv (key.take 50)) := ⟨_, rfl⟩
        rw [← hW2]
        have hb2 : W2.heap[N]? = some (.cells (opCells ⟨kind, key.take 50, fin, val, rev, limit, count, keys, prev⟩) 67 (0, 0)) := by rw [hW2]; exact block_setCell HB1.out 1 _
        have HK2 := Lib.hid (show Keep (fun _ => False) wr W2 by rw [hW2]; exact HK1.out.setCell _ _ (.inl (by have := HN.out; simp only; omega)))
        clear hW2 c1 f1
        have c2 : W2.cell? ⟨N, 2, none⟩ = some (sv fin) := cell_of_block hb2 2
        have f2 : W2.frozen? ⟨N, 2, none⟩ = false := free_of_block hb2 2
        have HB2 := Lib.hid hb2
        clear hb2
        go_upto_region 8 with fail
        rw [cut50]
        obtain ⟨W3, hW3⟩ : ∃ W : World, W = W2.setCell ⟨N, 2, none⟩ (sv (fin.take 50)) := ⟨_, rfl⟩
        rw [← hW3]
        have hb3 : W3.heap[N]? = some (.cells (opCells ⟨kind, key.take 50, fin.take 50, val, rev, limit, count, keys, prev⟩) 67 (0, 0)) := by rw [hW3]; exact block_setCell HB2.out 2 _
        have HK3 := Lib.hid (show Keep (fun _ => False) wr W3 by rw [hW3]; exact HK2.out.setCell _ _ (.inl (by have := HN.out; simp only; omega)))
        clear hW3 c2 f2
        have c3 : W3.cell? ⟨N, 3, none⟩ = some (sv val) := cell_of_block hb3 3
        have f3 : W3.frozen? ⟨N, 3, none⟩ = false := free_of_block hb3 3
        have HB3 := Lib.hid hb3
        clear hb3
        go_upto_region 9 with fail
        rw [cut50]
        obtain ⟨W4, hW4⟩ : ∃ W : World, W = W3.setCell ⟨N, 3, none⟩ (sv (val.take 50)) := ⟨_, rfl⟩
        rw [← hW4]
        have hb4 : W4.heap[N]? = some (.cells (opCells ⟨kind, key.take 50, fin.take 50, val.take 50, rev, limit, count, keys, prev⟩) 67 (0, 0)) := by rw [hW4]; exact block_setCell HB3.out 3 _
        have HK4 := Lib.hid (show Keep (fun _ => False) wr W4 by rw [hW4]; exact HK3.out.setCell _ _ (.inl (by have := HN.out; simp only; omega)))
        clear hW4 c3 f3
        have hld4 := run_ld67 W4 N 0 (opCells ⟨kind, key.take 50, fin.take 50, val.take 50, rev, limit, count, keys, prev⟩) rfl (range_of_block hb4)
        have hbs4 := run_bs57 ⟨kind, key.take 50, fin.take 50, val.take 50, rev, limit, count, keys, prev⟩ W4
        obtain ⟨v', w', hap, h2, h3, h4⟩ := app_op W4 B (.slice as3 L.length cs3) L ⟨kind, key.take 50, fin.take 50, val.take 50, rev, limit, count, keys, prev⟩ (opsAt_far HOPS.out HK4.out) (by have := HLEN.out; omega) (by have := HK4.out.size; have := HKR.out.size; have := HB.out; omega)
        have HOP2 := Lib.hid h2
        have hown : ∀ g, (Value.slice as3 L.length cs3).ownBlock = some g → B ≤ g := fun g hg => (HOPS.out.lt g hg).1
        have HKK := Lib.hid (show Keep (fun _ => False) w w' from ((HKR.out.trans' HK4.out).alloc _).trans (Keep.of_grown (M := fun b => some b = (Value.slice as3 L.length cs3).ownBlock) h3 (fun _ e _ => e.symm)) (fun b hb e => by have := hown b e.symm; have := HB.out; omega))
        obtain ⟨as4, cs4, hv4, -⟩ := ownsRow_len h2
        subst hv4
        clear h2 h3 h4 hown hb4 hbs4
        refine wp_region_lit ?_
        refine wpList_plain rfl (fun K hK => ?_)
        go_simp
        refine hK _ _ ?_
        clear hK K
        try simp only [Act.put, List.setIfInBounds_toArray, List.set_cons_zero, List.set_cons_succ]
        refine wpList_plain rfl (fun K hK => ?_)
        go_simp
        refine hK _ _ ?_
        clear hK K
        try simp only [Act.put, List.setIfInBounds_toArray, List.set_cons_zero, List.set_cons_succ]
        refine wpList_plain rfl (fun K hK => ?_)
        refine wp_bs_run (.tmp 45) 57 rfl (by exact run_bs57 _ _) ?_
        refine hK _ _ ?_
        clear hK K
        try simp only [Act.put, List.setIfInBounds_toArray, List.set_cons_zero, List.set_cons_succ]
        refine wpList_plain rfl (fun K hK => ?_)
        refine wp_append_run (.tmp 44) (.tmp 46) 57 rfl rfl (by exact hap) ?_
        refine hK _ _ ?_
        clear hK K
        try simp only [Act.put, List.setIfInBounds_toArray, List.set_cons_zero, List.set_cons_succ]
        clear hap hld4
        go_wp2_with fail
        exact ⟨⟨k + 1, by omega, by omega, by go_num, by rw [HST.out]; exact HOP2.out, HKK.out⟩, by simp [intOf]; omega⟩
      · have h12' : ¬ (k : Int) < 12 := by omega
        have hlt' : (k : Int) < (l.length : Int) := by omega
        have HOPS := Lib.hid hops
        have HKR := Lib.hid hkr
        have HE := Lib.hid (HEND.out (.inl (by omega)))
        clear HSTEP HEND HL
        clear hops hkr
        clear hk hk12 hlt h12
        go_wp2_with fail
        go_ret
        exact ⟨_, rfl, HKR.out, by rw [HE.out]; exact HOPS.out⟩
    · have hlt' : ¬ (k : Int) < (l.length : Int) := by omega
      have HOPS := Lib.hid hops
      have HKR := Lib.hid hkr
      have HE := Lib.hid (HEND.out (.inr (by omega)))
      clear HSTEP HEND HL
      clear hops hkr
      go_wp2_with fail
      go_ret
      exact ⟨_, rfl, HKR.out, by rw [HE.out]; exact HOPS.out⟩
end Go.Proofs.YtifliekahdgobaaGreatDoor
namespace Go.Proofs.YtifliekahdgobaaGreatDoor
open Go.RowKit Sp

def cutCmp (x : CmpS) : CmpS := { x with key := x.key.take 50, val := x.val.take 50 }
def cutCmps (l : List CmpS) : List CmpS := (l.take 10).map cutCmp
def cutReq (r : ReqS) : ReqS := { r with cmps := cutCmps r.cmps, thn := cutOps r.thn, els := cutOps r.els }
def cutWatch (x : WatchS) : WatchS := { x with key := x.key.take 50, fin := x.fin.take 50 }
def cutStep (s : StepS) : StepS := { s with req := cutReq s.req, watch := cutWatch s.watch }
def cutSteps (l : List StepS) : List StepS := (l.take 200).map cutStep
theorem cutCmps_step (l : List CmpS) (k : Nat) (hk : k < l.length) : (l.take (k + 1)).map cutCmp = (l.take k).map cutCmp ++ [cutCmp l[k]] := by
  rw [List.take_succ_eq_append_getElem hk, List.map_append]
  rfl
theorem cutSteps_step (l : List StepS) (k : Nat) (hk : k < l.length) : (l.take (k + 1)).map cutStep = (l.take k).map cutStep ++ [cutStep l[k]] := by
  rw [List.take_succ_eq_append_getElem hk, List.map_append]
  rfl
theorem cutCmps_end (l : List CmpS) (k : Nat) (hk : k ≤ 10) (h : k = 10 ∨ l.length ≤ k) : cutCmps l = (l.take k).map cutCmp := by
  unfold cutCmps
  rcases h with h | h
  · rw [h]
  · rw [List.take_of_length_le (by omega : l.length ≤ k), List.take_of_length_le (by omega : l.length ≤ 10)]
theorem cutSteps_end (l : List StepS) (k : Nat) (hk : k ≤ 200) (h : k = 200 ∨ l.length ≤ k) : cutSteps l = (l.take k).map cutStep := by
  unfold cutSteps
  rcases h with h | h
  · rw [h]
  · rw [List.take_of_length_le (by omega : l.length ≤ k), List.take_of_length_le (by omega : l.length ≤ 200)]
theorem row_slice {α : Type} {enc : α → Array Value} {size : Nat} {w : World} {v : Value} {l : List α} (h : RowRead enc size w v l) : ∃ a c, v = .slice a l.length c := by
  obtain ⟨a, c, h, _⟩ := h
  exact ⟨a, c, h⟩
theorem cmpsAt_far {w w' : World} {base : Nat} {v : Value} {l : List CmpS} (h : CmpsAt w base v l) (hk : Keep (fun _ => False) w w') : CmpsAt w' base v l := ownsRow_keep h hk (fun _ _ _ _ e => e)
/-- a cell of a block below the row's base is set: the row stays -/
theorem owns_set {w : World} {base e size n : Nat} {v : Value} {xs : List Value} {b i : Nat} {u : Value} (h : w.ownsRow base e size v n xs) (hb : b < base) : (w.setCell ⟨b, i, none⟩ u).ownsRow base e size v n xs :=
  ownsRow_keep h ((Keep.refl (fun k => k = b) w).setCell _ _ (.inr rfl)) (fun g _ hg _ e => by have := (h.lt g hg).1; omega)
/-- how long a script's lists may be: as long as a machine's slice -/
def CutLens (x : StepS) : Prop := (x.req.cmps.length : Int) ≤ 9223372036854775807 ∧ (x.req.thn.length : Int) ≤ 9223372036854775807 ∧ (x.req.els.length : Int) ≤ 9223372036854775807
set_option maxRecDepth 100000 in
set_option maxHeartbeats 12800000 in
theorem cut_any (n0 : Int) (l : List StepS) (v : Value) (w : World) (hl : (l.length : Int) ≤ 9223372036854775807) (hr : StepsRead w v l) (hls : ∀ x ∈ l, CutLens x) :
    Calls Tryz.prog 14 #[.agg #[.int .i64 n0, v]] w fun e w' => ∃ v', e = .returned (.agg #[.int .i64 n0, v']) ∧ Keep (fun _ => False) w w' ∧ StepsAt w' w.heap.size v' (cutSteps l) := by
  obtain ⟨a, c, rfl⟩ := hr.slice
  obtain ⟨B, hB⟩ : ∃ B : Nat, B = w.heap.size := ⟨_, rfl⟩
  obtain ⟨W, hW⟩ : ∃ W : World, W = (w.alloc (.cells #[.int .i64 n0, .slice a l.length c] 29)).alloc (.cells #[.int .i64 0, .slice none 0 0] 29) := ⟨_, rfl⟩
  have hkW : Keep (fun _ => False) w W := by rw [hW]; exact ((Keep.refl _ w).alloc _).alloc _
  have hb0 : W.heap[B]? = some (.cells #[.int .i64 n0, .slice a l.length c] 29 (0, 0)) := by rw [hW, hB]; exact block_alloc (block_new _ _) _
  have hb1 : W.heap[B + 1]? = some (.cells #[.int .i64 0, .slice none 0 0] 29 (0, 0)) := by rw [hW, hB]; exact block_new' _ _ (by simp)
  have hsW : W.heap.size = B + 2 := by rw [hW, hB]; simp
  rw [← hB]
  have HRR := Lib.hid (fun w' (hk : Keep (fun _ => False) W w') => hr.far (hkW.trans' hk))
  have HW := Lib.hid hW
  have HB := Lib.hid hB
  have HKW := Lib.hid hkW
  have HB0 := Lib.hid hb0
  have HB1 := Lib.hid hb1
  have HSW := Lib.hid hsW
  have HLS := Lib.hid hls
  clear hr hB hW hkW hb0 hb1 hsW hls
  go_enter Tryz.func14, Tryz.ntmps14
  go_upto_region 1 with fail
  rw [← HW.out, ← HB.out]
  clear HW
  go_wp2_with fail
  go_loopw [3, 4] (fun v3 v4 wr => ∃ k : Nat, k ≤ l.length ∧ k ≤ 200 ∧ v4 = .int .i64 k ∧ StepsAt wr (B + 2) v3 ((l.take k).map cutStep) ∧ Keep (fun _ => False) W wr) (fun _ v4 _ => 200 - (intOf v4).toNat)
  case atStart => exact ⟨0, Nat.zero_le _, by omega, rfl, StepsAt.nil _ _, Keep.refl _ _⟩
  case round =>
    obtain ⟨wo, rfl⟩ : ∃ V : World, V = wr := ⟨_, rfl⟩
    obtain ⟨k, hk, hk200, rfl, hsts, hkr⟩ := hrel
    obtain ⟨as3, cs3, hv3, -⟩ := hsts.slice
    subst hv3
    have hlen : ((l.take k).map cutStep).length = k := by rw [List.length_map, List.length_take]; omega
    have HSTEP := Lib.hid (fun hlt : k < l.length => cutSteps_step l k hlt)
    have HEND := Lib.hid (fun h => cutSteps_end l k hk200 h)
    generalize hL : (l.take k).map cutStep = L at *
    have HL := Lib.hid hL
    have HLEN := Lib.hid hlen
    clear hL hlen
    have c1 : wo.cell? ⟨B, 1, none⟩ = some (.slice a l.length c) := cell_of_block (hkr.at' HB0.out (fun e => e)) 1
    have HSTS := Lib.hid hsts
    have HKR := Lib.hid hkr
    clear hsts
    by_cases hlt : k < l.length
    · by_cases h200 : k < 200
      · obtain ⟨b, o, vc, vt, ve, hbo, hrng, hrq⟩ := (HRR.out _ hkr).at k hlt
        subst hbo
        have hlt' : (k : Int) < (l.length : Int) := by omega
        have h200' : (k : Int) < 200 := by omega
        have HST := Lib.hid (HSTEP.out hlt)
        have hcl := HLS.out l[k] (List.getElem_mem hlt)
        clear HSTEP HEND
        generalize hx : l[k] = x at *
        obtain ⟨kind, node, n, ⟨rk, cl, nu, se, cmps, thn, els, rev⟩, ⟨wid, wk, wf, wst, wp, wnp, wnd, wpr⟩⟩ := x
        obtain ⟨hcl1, hcl2, hcl3⟩ := hcl
        dsimp only at hcl1 hcl2 hcl3
        obtain ⟨hrc, hrt, hre⟩ := hrq
        dsimp only at hrc hrt hre
        obtain ⟨ac, cc, rfl⟩ := row_slice hrc
        obtain ⟨at1, ct, rfl⟩ := row_slice hrt
        obtain ⟨ae, ce, rfl⟩ := row_slice hre
        obtain ⟨cs, hcs⟩ : ∃ cs, cs = stepCells ⟨kind, node, n, ⟨rk, cl, nu, se, cmps, thn, els, rev⟩, ⟨wid, wk, wf, wst, wp, wnp, wnd, wpr⟩⟩ (.slice ac cmps.length cc) (.slice at1 thn.length ct) (.slice ae els.length ce) := ⟨_, rfl⟩
        rw [← hcs] at hrng
        have hld := run_ld63 wo b _ cs (by rw [hcs]; rfl) hrng
        have hst2 := run_st63 (wo.alloc (.cells (stepCells .zero nilS nilS nilS) 63)) wo.heap.size 0 cs (there_of_block (block_new _ _) (by decide)) (by rw [hcs]; rfl) (by rw [hcs]; exact stepCells_one _ _ _ _ rfl rfl rfl)
        obtain ⟨W1, hW1⟩ : ∃ W1 : World, W1 = (wo.alloc (.cells (stepCells .zero nilS nilS nilS) 63)).setCells wo.heap.size 0 cs.toList := ⟨_, rfl⟩
        rw [← hW1] at hst2
        obtain ⟨N, hN⟩ : ∃ N : Nat, N = wo.heap.size := ⟨_, rfl⟩
        have hb1 : W1.heap[N]? = some (.cells (stepCells ⟨kind, node, n, ⟨rk, cl, nu, se, cmps, thn, els, rev⟩, ⟨wid, wk, wf, wst, wp, wnp, wnd, wpr⟩⟩ (.slice ac cmps.length cc) (.slice at1 thn.length ct) (.slice ae els.length ce)) 63 (0, 0)) := by
          rw [hW1, hN, block_setCells_all (block_new _ _) _ (by rw [hcs]; rfl), hcs]
        have hk1 : Keep (fun _ => False) wo W1 := by rw [hW1]; exact ((Keep.refl _ wo).alloc _).setCells _ _ _ (.inl (Nat.le_refl _))
        have HRC := Lib.hid (fun w' (hk : Keep (fun _ => False) wo w') => hrc.keep hk (fun _ _ _ _ _ e => e))
        have HRT := Lib.hid (fun w' (hk : Keep (fun _ => False) wo w') => hrt.keep hk (fun _ _ _ _ _ e => e))
        have HRE := Lib.hid (fun w' (hk : Keep (fun _ => False) wo w') => hre.keep hk (fun _ _ _ _ _ e => e))
        have HK1 := Lib.hid hk1
        have HN := Lib.hid hN
        have HB1' := Lib.hid hb1
        have d12 : W1.cell? ⟨N, 12, none⟩ = some (sv wk) := cell_of_block hb1 12
        have e12 : W1.frozen? ⟨N, 12, none⟩ = false := free_of_block hb1 12
        clear hrng hW1 hcs hkr hk1 hb1 hN hrc hrt hre hx
        unfold stepCells StepS.zero ReqS.zero WatchS.zero at hst2
        dsimp only at hst2
        go_upto_region 6 with fail
        rw [← HN.out]
        clear hst2 hld c1
        go_upto_region 7 with fail
        rw [cut50]
        obtain ⟨W2, hW2⟩ : ∃ W : World, W = W1.setCell ⟨N, 12, none⟩ (sv (wk.take 50)) := ⟨_, rfl⟩
        rw [← hW2]
        have hb2 : W2.heap[N]? = some (.cells (stepCells ⟨kind, node, n, ⟨rk, cl, nu, se, cmps, thn, els, rev⟩, ⟨wid, wk.take 50, wf, wst, wp, wnp, wnd, wpr⟩⟩ (.slice ac cmps.length cc) (.slice at1 thn.length ct) (.slice ae els.length ce)) 63 (0, 0)) := by rw [hW2]; exact block_setCell HB1'.out 12 _
        have HK2 := Lib.hid (show Keep (fun _ => False) wo W2 by rw [hW2]; exact HK1.out.setCell _ _ (.inl (by have := HN.out; simp only; omega)))
        have d13 : W2.cell? ⟨N, 13, none⟩ = some (sv wf) := cell_of_block hb2 13
        have e13 : W2.frozen? ⟨N, 13, none⟩ = false := free_of_block hb2 13
        have HB2 := Lib.hid hb2
        clear hW2 d12 e12 HB1' HK1 hb2
        go_upto_region 8 with fail
        rw [cut50]
        obtain ⟨W3, hW3⟩ : ∃ W : World, W = W2.setCell ⟨N, 13, none⟩ (sv (wf.take 50)) := ⟨_, rfl⟩
        rw [← hW3]
        have hb3 : W3.heap[N]? = some (.cells (stepCells ⟨kind, node, n, ⟨rk, cl, nu, se, cmps, thn, els, rev⟩, ⟨wid, wk.take 50, wf.take 50, wst, wp, wnp, wnd, wpr⟩⟩ (.slice ac cmps.length cc) (.slice at1 thn.length ct) (.slice ae els.length ce)) 63 (0, 0)) := by rw [hW3]; exact block_setCell HB2.out 13 _
        have HK3 := Lib.hid (show Keep (fun _ => False) wo W3 by rw [hW3]; exact HK2.out.setCell _ _ (.inl (by have := HN.out; simp only; omega)))
        have HB3 := Lib.hid hb3
        clear hW3 d13 e13 HB2 HK2 hb3
        go_wp2_with fail
        obtain ⟨B3, hB3⟩ : ∃ B : Nat, B = W3.heap.size := ⟨_, rfl⟩
        have HB3S := Lib.hid hB3
        have hNB3 : N < B3 := by rw [hB3]; exact lt_of_block HB3.out
        clear hB3
        go_loopw [6, 7] (fun v6 v7 wi => ∃ j : Nat, j ≤ cmps.length ∧ j ≤ 10 ∧ v7 = .int .i64 j ∧ CmpsAt wi B3 v6 ((cmps.take j).map cutCmp) ∧ Keep (fun _ => False) W3 wi) (fun _ v7 _ => 10 - (intOf v7).toNat)
        case atStart => exact ⟨0, Nat.zero_le _, by omega, rfl, World.ownsRow_nil _ _ _ _, Keep.refl _ _⟩
        case round =>
          obtain ⟨wi, rfl⟩ : ∃ V : World, V = wr := ⟨_, rfl⟩
          obtain ⟨j, hj, hj10, rfl, hcm, hki⟩ := hrel
          obtain ⟨as6, cs6, hv6, -⟩ := ownsRow_len hcm
          subst hv6
          have hlen : ((cmps.take j).map cutCmp).length = j := by rw [List.length_map, List.length_take]; omega
          have HSTEP2 := Lib.hid (fun hlt : j < cmps.length => cutCmps_step cmps j hlt)
          have HEND2 := Lib.hid (fun h => cutCmps_end cmps j hj10 h)
          generalize hM : (cmps.take j).map cutCmp = M at *
          have HM := Lib.hid hM
          have HMLEN := Lib.hid hlen
          clear hM hlen
          have hbi := hki.at' HB3.out (fun e => e)
          have d7 : wi.cell? ⟨N, 7, none⟩ = some (.slice ac cmps.length cc) := cell_of_block hbi 7
          have HBI := Lib.hid hbi
          have HCM := Lib.hid hcm
          have HKI := Lib.hid hki
          clear hbi hcm
          by_cases hjl : j < cmps.length
          · by_cases hj10' : j < 10
            · obtain ⟨b2, o2, hbo2, hrng2⟩ := (HRC.out _ (HK3.out.trans' hki)).at j hjl
              subst hbo2
              have hjl' : (j : Int) < (cmps.length : Int) := by omega
              have hj10'' : (j : Int) < 10 := by omega
              have HST2 := Lib.hid (HSTEP2.out hjl)
              clear HSTEP2 HEND2
              generalize hy : cmps[j] = y at *
              obtain ⟨key, what, how, num, val⟩ := y
              obtain ⟨cs, hcs⟩ : ∃ cs, cs = cmpCells ⟨key, what, how, num, val⟩ := ⟨_, rfl⟩
              rw [← hcs] at hrng2
              have hld := run_ld65 wi b2 _ cs (by rw [hcs]; rfl) hrng2
              have hst2 := run_st65 (wi.alloc (.cells (cmpCells ⟨[], 0, 0, 0, []⟩) 65)) wi.heap.size 0 cs (there_of_block (block_new _ _) (by decide)) (by rw [hcs]; rfl) (by rw [hcs]; exact cmpCells_one _)
              obtain ⟨V1, hV1⟩ : ∃ V : World, V = (wi.alloc (.cells (cmpCells ⟨[], 0, 0, 0, []⟩) 65)).setCells wi.heap.size 0 cs.toList := ⟨_, rfl⟩
              rw [← hV1] at hst2
              obtain ⟨P, hP⟩ : ∃ N : Nat, N = wi.heap.size := ⟨_, rfl⟩
              have hp1 : V1.heap[P]? = some (.cells (cmpCells ⟨key, what, how, num, val⟩) 65 (0, 0)) := by
                rw [hV1, hP, block_setCells_all (block_new _ _) _ (by rw [hcs]; rfl), hcs]
              have hq1 : Keep (fun _ => False) wi V1 := by rw [hV1]; exact ((Keep.refl _ wi).alloc _).setCells _ _ _ (.inl (Nat.le_refl _))
              have HQ1 := Lib.hid hq1
              have HP := Lib.hid hP
              have HP1 := Lib.hid hp1
              have f0 : V1.cell? ⟨P, 0, none⟩ = some (sv key) := cell_of_block hp1 0
              have g0 : V1.frozen? ⟨P, 0, none⟩ = false := free_of_block hp1 0
              clear hrng2 hV1 hcs hki hq1 hp1 hP hy
              unfold cmpCells at hst2
              dsimp only at hst2
              go_upto_region 13 with fail
              rw [← HP.out]
              clear hst2 hld d7
              go_upto_region 14 with fail
              rw [cut50]
              obtain ⟨V2, hV2⟩ : ∃ V : World, V = V1.setCell ⟨P, 0, none⟩ (sv (key.take 50)) := ⟨_, rfl⟩
              rw [← hV2]
              have hp2 : V2.heap[P]? = some (.cells (cmpCells ⟨key.take 50, what, how, num, val⟩) 65 (0, 0)) := by rw [hV2]; exact block_setCell HP1.out 0 _
              have HQ2 := Lib.hid (show Keep (fun _ => False) wi V2 by rw [hV2]; exact HQ1.out.setCell _ _ (.inl (by have := HP.out; simp only; omega)))
              have f4 : V2.cell? ⟨P, 4, none⟩ = some (sv val) := cell_of_block hp2 4
              have g4 : V2.frozen? ⟨P, 4, none⟩ = false := free_of_block hp2 4
              have HP2 := Lib.hid hp2
              clear hV2 f0 g0 HP1 HQ1 hp2
              go_upto_region 15 with fail
              rw [cut50]
              obtain ⟨V3, hV3⟩ : ∃ V : World, V = V2.setCell ⟨P, 4, none⟩ (sv (val.take 50)) := ⟨_, rfl⟩
              rw [← hV3]
              have hp3 : V3.heap[P]? = some (.cells (cmpCells ⟨key.take 50, what, how, num, val.take 50⟩) 65 (0, 0)) := by rw [hV3]; exact block_setCell HP2.out 4 _
              have HQ3 := Lib.hid (show Keep (fun _ => False) wi V3 by rw [hV3]; exact HQ2.out.setCell _ _ (.inl (by have := HP.out; simp only; omega)))
              have hld3 := run_ld65 V3 P 0 (cmpCells ⟨key.take 50, what, how, num, val.take 50⟩) rfl (range_of_block hp3)
              obtain ⟨v', w', hap, h2, h3, h4⟩ := app_cmp V3 B3 (.slice as6 M.length cs6) M ⟨key.take 50, what, how, num, val.take 50⟩ (cmpsAt_far HCM.out HQ3.out) (by have := HMLEN.out; omega) (by have := HQ3.out.size; have := HKI.out.size; have := HB3S.out; omega)
              have HOP2 := Lib.hid h2
              have hown : ∀ g, (Value.slice as6 M.length cs6).ownBlock = some g → B3 ≤ g := fun g hg => (HCM.out.lt g hg).1
              have HKK := Lib.hid (show Keep (fun _ => False) W3 w' from ((HKI.out.trans' HQ3.out).alloc _).trans (Keep.of_grown (M := fun b => some b = (Value.slice as6 M.length cs6).ownBlock) h3 (fun _ e _ => e.symm)) (fun b hb e => by have := hown b e.symm; have := HB3S.out; omega))
              obtain ⟨as7, cs7, hv7, -⟩ := ownsRow_len h2
              subst hv7
              clear hV3 f4 g4 HP2 HQ2 hp3 h2 h3 h4 hown
              refine wp_region_lit ?_
              refine wpList_plain rfl (fun K hK => ?_)
              go_simp
              refine hK _ _ ?_
              clear hK K
              try simp only [Act.put, List.setIfInBounds_toArray, List.set_cons_zero, List.set_cons_succ]
              refine wpList_plain rfl (fun K hK => ?_)
              go_simp
              refine hK _ _ ?_
              clear hK K
              try simp only [Act.put, List.setIfInBounds_toArray, List.set_cons_zero, List.set_cons_succ]
              refine wpList_plain rfl (fun K hK => ?_)
              refine wp_bs_run (.tmp 82) 56 rfl (by exact run_bs56 _ _) ?_
              refine hK _ _ ?_
              clear hK K
              try simp only [Act.put, List.setIfInBounds_toArray, List.set_cons_zero, List.set_cons_succ]
              refine wpList_plain rfl (fun K hK => ?_)
              refine wp_append_run (.tmp 81) (.tmp 83) 56 rfl rfl (by exact hap) ?_
              refine hK _ _ ?_
              clear hK K
              try simp only [Act.put, List.setIfInBounds_toArray, List.set_cons_zero, List.set_cons_succ]
              clear hap hld3
              go_wp2_with fail
              exact ⟨⟨j + 1, by omega, by omega, by go_num, by rw [HST2.out]; exact HOP2.out, HKK.out⟩, by simp [intOf]; omega⟩
            · have hj10'' : ¬ (j : Int) < 10 := by omega
              have hjl' : (j : Int) < (cmps.length : Int) := by omega
              have HE2 := Lib.hid (HEND2.out (.inl (by omega)))
              clear hj hj10 hjl hj10' hki HSTEP2 HEND2
              have e7 : wi.frozen? ⟨N, 7, none⟩ = false := free_of_block HBI.out 7
              go_upto_region 17 with fail
              obtain ⟨W4, hW4⟩ : ∃ W : World, W = wi.setCell ⟨N, 7, none⟩ (.slice as6 M.length cs6) := ⟨_, rfl⟩
              rw [← hW4]
              have hb4 : W4.heap[N]? = some (.cells (stepCells ⟨kind, node, n, ⟨rk, cl, nu, se, cmps, thn, els, rev⟩, ⟨wid, wk.take 50, wf.take 50, wst, wp, wnp, wnd, wpr⟩⟩ (.slice as6 M.length cs6) (.slice at1 thn.length ct) (.slice ae els.length ce)) 63 (0, 0)) := by rw [hW4]; exact block_setCell HBI.out 7 _
              have HK4 := Lib.hid (show Keep (fun _ => False) wo W4 by rw [hW4]; exact (HK3.out.trans' HKI.out).setCell _ _ (.inl (by have := HN.out; simp only; omega)))
              have HC4 := Lib.hid (show CmpsAt W4 B3 (.slice as6 M.length cs6) M by rw [hW4]; exact owns_set HCM.out hNB3)
              have d8 : W4.cell? ⟨N, 8, none⟩ = some (.slice at1 thn.length ct) := cell_of_block hb4 8
              have e8 : W4.frozen? ⟨N, 8, none⟩ = false := free_of_block hb4 8
              have HO1 := Lib.hid (ops_any thn (.slice at1 thn.length ct) W4 hcl2 (HRT.out _ HK4.out))
              have HB4 := Lib.hid hb4
              clear hW4 d7 e7 hb4
              go_wp2_with fail
              refine HO1.out.mono ?_
              rintro e w5 ⟨v5, rfl, hk5, ho5⟩
              obtain ⟨at5, ct5, hv5, -⟩ := ownsRow_len ho5
              subst hv5
              have hb5 := hk5.at' HB4.out (fun e => e)
              have d8' : w5.cell? ⟨N, 8, none⟩ = some (.slice at1 thn.length ct) := cell_of_block hb5 8
              have e8' : w5.frozen? ⟨N, 8, none⟩ = false := free_of_block hb5 8
              have HB5 := Lib.hid hb5
              have HK5 := Lib.hid (HK4.out.trans' hk5)
              have HC5 := Lib.hid (cmpsAt_far HC4.out hk5)
              have HO5 := Lib.hid ho5
              have hN5 : N < W4.heap.size := lt_of_block HB4.out
              clear d8 e8 hk5 hb5 ho5 HO1
              generalize hz5 : (cutOps thn).length = z5 at *
              go_upto_region 18 with fail
              obtain ⟨W6, hW6⟩ : ∃ W : World, W = w5.setCell ⟨N, 8, none⟩ (.slice at5 z5 ct5) := ⟨_, rfl⟩
              rw [← hW6]
              have hb6 : W6.heap[N]? = some (.cells (stepCells ⟨kind, node, n, ⟨rk, cl, nu, se, cmps, thn, els, rev⟩, ⟨wid, wk.take 50, wf.take 50, wst, wp, wnp, wnd, wpr⟩⟩ (.slice as6 M.length cs6) (.slice at5 z5 ct5) (.slice ae els.length ce)) 63 (0, 0)) := by rw [hW6]; exact block_setCell HB5.out 8 _
              have HK6 := Lib.hid (show Keep (fun _ => False) wo W6 by rw [hW6]; exact HK5.out.setCell _ _ (.inl (by have := HN.out; simp only; omega)))
              have HC6 := Lib.hid (show CmpsAt W6 B3 (.slice as6 M.length cs6) M by rw [hW6]; exact owns_set HC5.out hNB3)
              have HO6 := Lib.hid (show OpsAt W6 W4.heap.size (.slice at5 z5 ct5) (cutOps thn) by rw [hW6]; exact owns_set HO5.out hN5)
              have d9 : W6.cell? ⟨N, 9, none⟩ = some (.slice ae els.length ce) := cell_of_block hb6 9
              have e9 : W6.frozen? ⟨N, 9, none⟩ = false := free_of_block hb6 9
              have HO2 := Lib.hid (ops_any els (.slice ae els.length ce) W6 hcl3 (HRE.out _ HK6.out))
              have HB6 := Lib.hid hb6
              clear hW6 d8' e8' hb6
              go_wp2_with fail
              refine HO2.out.mono ?_
              rintro e w7 ⟨v7, rfl, hk7, ho7⟩
              obtain ⟨ae7, ce7, hv7, -⟩ := ownsRow_len ho7
              subst hv7
              have hb7 := hk7.at' HB6.out (fun e => e)
              have d9' : w7.cell? ⟨N, 9, none⟩ = some (.slice ae els.length ce) := cell_of_block hb7 9
              have e9' : w7.frozen? ⟨N, 9, none⟩ = false := free_of_block hb7 9
              have HB7 := Lib.hid hb7
              have HK7 := Lib.hid (HK6.out.trans' hk7)
              have HC7 := Lib.hid (cmpsAt_far HC6.out hk7)
              have HO7 := Lib.hid (opsAt_far HO6.out hk7)
              have HP7 := Lib.hid ho7
              have hN7 : N < W6.heap.size := lt_of_block HB6.out
              clear d9 e9 hk7 hb7 ho7 HO2
              generalize hz7 : (cutOps els).length = z7 at *
              go_upto_region 19 with fail
              obtain ⟨W8, hW8⟩ : ∃ W : World, W = w7.setCell ⟨N, 9, none⟩ (.slice ae7 z7 ce7) := ⟨_, rfl⟩
              rw [← hW8]
              have hb8 : W8.heap[N]? = some (.cells (stepCells ⟨kind, node, n, ⟨rk, cl, nu, se, cmps, thn, els, rev⟩, ⟨wid, wk.take 50, wf.take 50, wst, wp, wnp, wnd, wpr⟩⟩ (.slice as6 M.length cs6) (.slice at5 z5 ct5) (.slice ae7 z7 ce7)) 63 (0, 0)) := by rw [hW8]; exact block_setCell HB7.out 9 _
              have HK8 := Lib.hid (show Keep (fun _ => False) wo W8 by rw [hW8]; exact HK7.out.setCell _ _ (.inl (by have := HN.out; simp only; omega)))
              obtain ⟨sp, hsp⟩ : ∃ sp : StepV, sp = (cutStep ⟨kind, node, n, ⟨rk, cl, nu, se, cmps, thn, els, rev⟩, ⟨wid, wk, wf, wst, wp, wnp, wnd, wpr⟩⟩, (.slice as6 M.length cs6), .slice at5 z5 ct5, .slice ae7 z7 ce7) := ⟨_, rfl⟩
              have hri : ReqIs W8 sp.1.req sp.2.1 sp.2.2.1 sp.2.2.2 := by
                rw [hsp, hW8]
                refine ⟨?_, ?_, ?_⟩
                · show CmpsAt _ 0 _ (cutCmps cmps)
                  rw [HE2.out]
                  exact ownsRow_base (owns_set HC7.out hNB3) (Nat.zero_le _)
                · have h9 := ownsRow_base (owns_set (b := N) (i := 9) (u := .slice ae7 z7 ce7) HO7.out hN5) (Nat.zero_le _)
                  exact h9
                · have h9 := ownsRow_base (owns_set (b := N) (i := 9) (u := .slice ae7 z7 ce7) HP7.out hN7) (Nat.zero_le _)
                  exact h9
              have hcs8 : stepCells ⟨kind, node, n, ⟨rk, cl, nu, se, cmps, thn, els, rev⟩, ⟨wid, wk.take 50, wf.take 50, wst, wp, wnp, wnd, wpr⟩⟩ (.slice as6 M.length cs6) (.slice at5 z5 ct5) (.slice ae7 z7 ce7) = stepEnc sp := by rw [hsp]; rfl
              rw [hcs8] at hb8
              have hsz8 : (stepEnc sp).size = 19 := by rw [hsp]; rfl
              have hld8 := run_ld63 W8 N 0 (stepEnc sp) hsz8 (range_of_block hb8)
              obtain ⟨v', w9, hap, hst9, hk9, -⟩ := app_step W8 (B + 2) (.slice as3 L.length cs3) L sp (HSTS.out.far HK8.out) hri (by have := HLEN.out; omega) (by have := HK8.out.size; have := HKR.out.size; have := HSW.out; omega)
              have hown : ∀ g, (Value.slice as3 L.length cs3).ownBlock = some g → B + 2 ≤ g := fun g hg => by
                obtain ⟨L', -, h9, -⟩ := HSTS.out
                exact (h9.lt g hg).1
              have HKK := Lib.hid (show Keep (fun _ => False) W w9 from (HKR.out.trans' HK8.out).trans hk9 (fun b hb e => by have := hown b e.symm; have := HSW.out; omega))
              obtain ⟨as9, cs9, hv9, -⟩ := hst9.slice
              subst hv9
              have HS9 := Lib.hid hst9
              have HSP := Lib.hid (show sp.1 = cutStep ⟨kind, node, n, ⟨rk, cl, nu, se, cmps, thn, els, rev⟩, ⟨wid, wk, wf, wst, wp, wnp, wnd, wpr⟩⟩ by rw [hsp])
              clear hW8 d9' e9' hb8 hri hcs8 hst9 hk9 hown hsz8 hsp
              refine wp_region_lit ?_
              refine wpList_plain rfl (fun K hK => ?_)
              go_simp
              refine hK _ _ ?_
              clear hK K
              try simp only [Act.put, List.setIfInBounds_toArray, List.set_cons_zero, List.set_cons_succ]
              refine wpList_plain rfl (fun K hK => ?_)
              go_simp
              refine hK _ _ ?_
              clear hK K
              try simp only [Act.put, List.setIfInBounds_toArray, List.set_cons_zero, List.set_cons_succ]
              refine wpList_plain rfl (fun K hK => ?_)
              refine wp_bs_run (.tmp 101) 22 rfl (by exact run_bs22 sp _) ?_
              refine hK _ _ ?_
              clear hK K
              try simp only [Act.put, List.setIfInBounds_toArray, List.set_cons_zero, List.set_cons_succ]
              refine wpList_plain rfl (fun K hK => ?_)
              refine wp_append_run (.tmp 100) (.tmp 102) 22 rfl rfl (by exact hap) ?_
              refine hK _ _ ?_
              clear hK K
              try simp only [Act.put, List.setIfInBounds_toArray, List.set_cons_zero, List.set_cons_succ]
              clear hap hld8
              go_wp2_with fail
              exact ⟨⟨k + 1, by omega, by omega, by go_num, by rw [HST.out, ← HSP.out]; exact HS9.out, HKK.out⟩, by simp [intOf]; omega⟩
          · have hjl' : ¬ (j : Int) < (cmps.length : Int) := by omega
            have HE2 := Lib.hid (HEND2.out (.inr (by omega)))
            clear hj hj10 hjl hki HSTEP2 HEND2
            have e7 : wi.frozen? ⟨N, 7, none⟩ = false := free_of_block HBI.out 7
            go_upto_region 17 with fail
            obtain ⟨W4, hW4⟩ : ∃ W : World, W = wi.setCell ⟨N, 7, none⟩ (.slice as6 M.length cs6) := ⟨_, rfl⟩
            rw [← hW4]
            have hb4 : W4.heap[N]? = some (.cells (stepCells ⟨kind, node, n, ⟨rk, cl, nu, se, cmps, thn, els, rev⟩, ⟨wid, wk.take 50, wf.take 50, wst, wp, wnp, wnd, wpr⟩⟩ (.slice as6 M.length cs6) (.slice at1 thn.length ct) (.slice ae els.length ce)) 63 (0, 0)) := by rw [hW4]; exact block_setCell HBI.out 7 _
            have HK4 := Lib.hid (show Keep (fun _ => False) wo W4 by rw [hW4]; exact (HK3.out.trans' HKI.out).setCell _ _ (.inl (by have := HN.out; simp only; omega)))
            have HC4 := Lib.hid (show CmpsAt W4 B3 (.slice as6 M.length cs6) M by rw [hW4]; exact owns_set HCM.out hNB3)
            have d8 : W4.cell? ⟨N, 8, none⟩ = some (.slice at1 thn.length ct) := cell_of_block hb4 8
            have e8 : W4.frozen? ⟨N, 8, none⟩ = false := free_of_block hb4 8
            have HO1 := Lib.hid (ops_any thn (.slice at1 thn.length ct) W4 hcl2 (HRT.out _ HK4.out))
            have HB4 := Lib.hid hb4
            clear hW4 d7 e7 hb4
            go_wp2_with fail
            refine HO1.out.mono ?_
            rintro e w5 ⟨v5, rfl, hk5, ho5⟩
            obtain ⟨at5, ct5, hv5, -⟩ := ownsRow_len ho5
            subst hv5
            have hb5 := hk5.at' HB4.out (fun e => e)
            have d8' : w5.cell? ⟨N, 8, none⟩ = some (.slice at1 thn.length ct) := cell_of_block hb5 8
            have e8' : w5.frozen? ⟨N, 8, none⟩ = false := free_of_block hb5 8
            have HB5 := Lib.hid hb5
            have HK5 := Lib.hid (HK4.out.trans' hk5)
            have HC5 := Lib.hid (cmpsAt_far HC4.out hk5)
            have HO5 := Lib.hid ho5
            have hN5 : N < W4.heap.size := lt_of_block HB4.out
            clear d8 e8 hk5 hb5 ho5 HO1
            generalize hz5 : (cutOps thn).length = z5 at *
            go_upto_region 18 with fail
            obtain ⟨W6, hW6⟩ : ∃ W : World, W = w5.setCell ⟨N, 8, none⟩ (.slice at5 z5 ct5) := ⟨_, rfl⟩
            rw [← hW6]
            have hb6 : W6.heap[N]? = some (.cells (stepCells ⟨kind, node, n, ⟨rk, cl, nu, se, cmps, thn, els, rev⟩, ⟨wid, wk.take 50, wf.take 50, wst, wp, wnp, wnd, wpr⟩⟩ (.slice as6 M.length cs6) (.slice at5 z5 ct5) (.slice ae els.length ce)) 63 (0, 0)) := by rw [hW6]; exact block_setCell HB5.out 8 _
            have HK6 := Lib.hid (show Keep (fun _ => False) wo W6 by rw [hW6]; exact HK5.out.setCell _ _ (.inl (by have := HN.out; simp only; omega)))
            have HC6 := Lib.hid (show CmpsAt W6 B3 (.slice as6 M.length cs6) M by rw [hW6]; exact owns_set HC5.out hNB3)
            have HO6 := Lib.hid (show OpsAt W6 W4.heap.size (.slice at5 z5 ct5) (cutOps thn) by rw [hW6]; exact owns_set HO5.out hN5)
            have d9 : W6.cell? ⟨N, 9, none⟩ = some (.slice ae els.length ce) := cell_of_block hb6 9
            have e9 : W6.frozen? ⟨N, 9, none⟩ = false := free_of_block hb6 9
            have HO2 := Lib.hid (ops_any els (.slice ae els.length ce) W6 hcl3 (HRE.out _ HK6.out))
            have HB6 := Lib.hid hb6
            clear hW6 d8' e8' hb6
            go_wp2_with fail
            refine HO2.out.mono ?_
            rintro e w7 ⟨v7, rfl, hk7, ho7⟩
            obtain ⟨ae7, ce7, hv7, -⟩ := ownsRow_len ho7
            subst hv7
            have hb7 := hk7.at' HB6.out (fun e => e)
            have d9' : w7.cell? ⟨N, 9, none⟩ = some (.slice ae els.length ce) := cell_of_block hb7 9
            have e9' : w7.frozen? ⟨N, 9, none⟩ = false := free_of_block hb7 9
            have HB7 := Lib.hid hb7
            have HK7 := Lib.hid (HK6.out.trans' hk7)
            have HC7 := Lib.hid (cmpsAt_far HC6.out hk7)
            have HO7 := Lib.hid (opsAt_far HO6.out hk7)
            have HP7 := Lib.hid ho7
            have hN7 : N < W6.heap.size := lt_of_block HB6.out
            clear d9 e9 hk7 hb7 ho7 HO2
            generalize hz7 : (cutOps els).length = z7 at *
            go_upto_region 19 with fail
            obtain ⟨W8, hW8⟩ : ∃ W : World, W = w7.setCell ⟨N, 9, none⟩ (.slice ae7 z7 ce7) := ⟨_, rfl⟩
            rw [← hW8]
            have hb8 : W8.heap[N]? = some (.cells (stepCells ⟨kind, node, n, ⟨rk, cl, nu, se, cmps, thn, els, rev⟩, ⟨wid, wk.take 50, wf.take 50, wst, wp, wnp, wnd, wpr⟩⟩ (.slice as6 M.length cs6) (.slice at5 z5 ct5) (.slice ae7 z7 ce7)) 63 (0, 0)) := by rw [hW8]; exact block_setCell HB7.out 9 _
            have HK8 := Lib.hid (show Keep (fun _ => False) wo W8 by rw [hW8]; exact HK7.out.setCell _ _ (.inl (by have := HN.out; simp only; omega)))
            obtain ⟨sp, hsp⟩ : ∃ sp : StepV, sp = (cutStep ⟨kind, node, n, ⟨rk, cl, nu, se, cmps, thn, els, rev⟩, ⟨wid, wk, wf, wst, wp, wnp, wnd, wpr⟩⟩, (.slice as6 M.length cs6), .slice at5 z5 ct5, .slice ae7 z7 ce7) := ⟨_, rfl⟩
            have hri : ReqIs W8 sp.1.req sp.2.1 sp.2.2.1 sp.2.2.2 := by
              rw [hsp, hW8]
              refine ⟨?_, ?_, ?_⟩
              · show CmpsAt _ 0 _ (cutCmps cmps)
                rw [HE2.out]
                exact ownsRow_base (owns_set HC7.out hNB3) (Nat.zero_le _)
              · have h9 := ownsRow_base (owns_set (b := N) (i := 9) (u := .slice ae7 z7 ce7) HO7.out hN5) (Nat.zero_le _)
                exact h9
              · have h9 := ownsRow_base (owns_set (b := N) (i := 9) (u := .slice ae7 z7 ce7) HP7.out hN7) (Nat.zero_le _)
                exact h9
            have hcs8 : stepCells ⟨kind, node, n, ⟨rk, cl, nu, se, cmps, thn, els, rev⟩, ⟨wid, wk.take 50, wf.take 50, wst, wp, wnp, wnd, wpr⟩⟩ (.slice as6 M.length cs6) (.slice at5 z5 ct5) (.slice ae7 z7 ce7) = stepEnc sp := by rw [hsp]; rfl
            rw [hcs8] at hb8
            have hsz8 : (stepEnc sp).size = 19 := by rw [hsp]; rfl
            have hld8 := run_ld63 W8 N 0 (stepEnc sp) hsz8 (range_of_block hb8)
            obtain ⟨v', w9, hap, hst9, hk9, -⟩ := app_step W8 (B + 2) (.slice as3 L.length cs3) L sp (HSTS.out.far HK8.out) hri (by have := HLEN.out; omega) (by have := HK8.out.size; have := HKR.out.size; have := HSW.out; omega)
            have hown : ∀ g, (Value.slice as3 L.length cs3).ownBlock = some g → B + 2 ≤ g := fun g hg => by
              obtain ⟨L', -, h9, -⟩ := HSTS.out
              exact (h9.lt g hg).1
            have HKK := Lib.hid (show Keep (fun _ => False) W w9 from (HKR.out.trans' HK8.out).trans hk9 (fun b hb e => by have := hown b e.symm; have := HSW.out; omega))
            obtain ⟨as9, cs9, hv9, -⟩ := hst9.slice
            subst hv9
            have HS9 := Lib.hid hst9
            have HSP := Lib.hid (show sp.1 = cutStep ⟨kind, node, n, ⟨rk, cl, nu, se, cmps, thn, els, rev⟩, ⟨wid, wk, wf, wst, wp, wnp, wnd, wpr⟩⟩ by rw [hsp])
            clear hW8 d9' e9' hb8 hri hcs8 hst9 hk9 hown hsz8 hsp
            refine wp_region_lit ?_
            refine wpList_plain rfl (fun K hK => ?_)
            go_simp
            refine hK _ _ ?_
            clear hK K
            try simp only [Act.put, List.setIfInBounds_toArray, List.set_cons_zero, List.set_cons_succ]
            refine wpList_plain rfl (fun K hK => ?_)
            go_simp
            refine hK _ _ ?_
            clear hK K
            try simp only [Act.put, List.setIfInBounds_toArray, List.set_cons_zero, List.set_cons_succ]
            refine wpList_plain rfl (fun K hK => ?_)
            refine wp_bs_run (.tmp 101) 22 rfl (by exact run_bs22 sp _) ?_
            refine hK _ _ ?_
            clear hK K
            try simp only [Act.put, List.setIfInBounds_toArray, List.set_cons_zero, List.set_cons_succ]
            refine wpList_plain rfl (fun K hK => ?_)
            refine wp_append_run (.tmp 100) (.tmp 102) 22 rfl rfl (by exact hap) ?_
            refine hK _ _ ?_
            clear hK K
            try simp only [Act.put, List.setIfInBounds_toArray, List.set_cons_zero, List.set_cons_succ]
            clear hap hld8
            go_wp2_with fail
            exact ⟨⟨k + 1, by omega, by omega, by go_num, by rw [HST.out, ← HSP.out]; exact HS9.out, HKK.out⟩, by simp [intOf]; omega⟩
      · have h200' : ¬ (k : Int) < 200 := by omega
        have hlt' : (k : Int) < (l.length : Int) := by omega
        have HE := Lib.hid (HEND.out (.inl (by omega)))
        clear hk hk200 hlt h200
        have g1 : wo.frozen? ⟨B, 1, none⟩ = false := free_of_block (HKR.out.at' HB0.out (fun e => e)) 1
        have c0 : wo.cell? ⟨B, 0, none⟩ = some (.int .i64 n0) := cell_of_block (HKR.out.at' HB0.out (fun e => e)) 0
        have g0 : wo.frozen? ⟨B, 0, none⟩ = false := free_of_block (HKR.out.at' HB0.out (fun e => e)) 0
        have r0 : wo.cell? ⟨B + 1, 0, none⟩ = some (.int .i64 0) := cell_of_block (HKR.out.at' HB1.out (fun e => e)) 0
        have r1 : wo.cell? ⟨B + 1, 1, none⟩ = some (.slice none 0 0) := cell_of_block (HKR.out.at' HB1.out (fun e => e)) 1
        have q0 : wo.frozen? ⟨B + 1, 0, none⟩ = false := free_of_block (HKR.out.at' HB1.out (fun e => e)) 0
        have q1 : wo.frozen? ⟨B + 1, 1, none⟩ = false := free_of_block (HKR.out.at' HB1.out (fun e => e)) 1
        clear hkr
        go_wp2_with fail
        refine bodyPost_ret (v := .agg #[.int .i64 n0, .slice as3 L.length cs3]) ?_ rfl ⟨_, rfl, ?_, ?_⟩
        · exact results_block (n := 2) (t := 2) (T := 29) rfl Tryz.underlying29 rfl info29b _ _ (B + 1) #[.int .i64 n0, .slice as3 L.length cs3] 29 (0, 0) rfl rfl (block_setCell (block_setCell (((Keep.refl (fun k => k = B) wo).setCell ⟨B, 1, none⟩ (.slice as3 L.length cs3) (.inr rfl)).at' (HKR.out.at' HB1.out (fun e => e)) (by omega)) 0 _) 1 _)
        · have := HB.out
          exact (((HKW.out.trans' HKR.out).setCell _ _ (.inl (by simp only; omega))).setCell _ _ (.inl (by simp only; omega))).setCell _ _ (.inl (by simp only; omega))
        · have hKE : Keep (fun k => k = B ∨ k = B + 1) wo (((wo.setCell ⟨B, 1, none⟩ (.slice as3 L.length cs3)).setCell ⟨B + 1, 0, none⟩ (.int .i64 n0)).setCell ⟨B + 1, 1, none⟩ (.slice as3 L.length cs3)) := (((Keep.refl _ wo).setCell _ _ (.inr (.inl rfl))).setCell _ _ (.inr (.inr rfl))).setCell _ _ (.inr (.inr rfl))
          rw [HE.out]
          refine (HSTS.out.keep hKE ?_ ?_).base (Nat.le_add_right B 2)
          · intro g hg hm
            obtain ⟨L', -, h9, -⟩ := HSTS.out
            have := (h9.lt g hg).1
            omega
          · intro g cs T hc hm
            rcases hm with rfl | rfl
            · have h9 := hc.symm.trans (HKR.out.at' HB0.out (fun e => e))
              injection h9 with h10
              injection h10 with h11 h12
              subst h12
              decide
            · have h9 := hc.symm.trans (HKR.out.at' HB1.out (fun e => e))
              injection h9 with h10
              injection h10 with h11 h12
              subst h12
              decide
    · have hlt' : ¬ (k : Int) < (l.length : Int) := by omega
      have HE := Lib.hid (HEND.out (.inr (by omega)))
      clear hk hk200 hlt
      have g1 : wo.frozen? ⟨B, 1, none⟩ = false := free_of_block (HKR.out.at' HB0.out (fun e => e)) 1
      have c0 : wo.cell? ⟨B, 0, none⟩ = some (.int .i64 n0) := cell_of_block (HKR.out.at' HB0.out (fun e => e)) 0
      have g0 : wo.frozen? ⟨B, 0, none⟩ = false := free_of_block (HKR.out.at' HB0.out (fun e => e)) 0
      have r0 : wo.cell? ⟨B + 1, 0, none⟩ = some (.int .i64 0) := cell_of_block (HKR.out.at' HB1.out (fun e => e)) 0
      have r1 : wo.cell? ⟨B + 1, 1, none⟩ = some (.slice none 0 0) := cell_of_block (HKR.out.at' HB1.out (fun e => e)) 1
      have q0 : wo.frozen? ⟨B + 1, 0, none⟩ = false := free_of_block (HKR.out.at' HB1.out (fun e => e)) 0
      have q1 : wo.frozen? ⟨B + 1, 1, none⟩ = false := free_of_block (HKR.out.at' HB1.out (fun e => e)) 1
      clear hkr
      go_wp2_with fail
      refine bodyPost_ret (v := .agg #[.int .i64 n0, .slice as3 L.length cs3]) ?_ rfl ⟨_, rfl, ?_, ?_⟩
      · exact results_block (n := 2) (t := 2) (T := 29) rfl Tryz.underlying29 rfl info29b _ _ (B + 1) #[.int .i64 n0, .slice as3 L.length cs3] 29 (0, 0) rfl rfl (block_setCell (block_setCell (((Keep.refl (fun k => k = B) wo).setCell ⟨B, 1, none⟩ (.slice as3 L.length cs3) (.inr rfl)).at' (HKR.out.at' HB1.out (fun e => e)) (by omega)) 0 _) 1 _)
      · have := HB.out
        exact (((HKW.out.trans' HKR.out).setCell _ _ (.inl (by simp only; omega))).setCell _ _ (.inl (by simp only; omega))).setCell _ _ (.inl (by simp only; omega))
      · have hKE : Keep (fun k => k = B ∨ k = B + 1) wo (((wo.setCell ⟨B, 1, none⟩ (.slice as3 L.length cs3)).setCell ⟨B + 1, 0, none⟩ (.int .i64 n0)).setCell ⟨B + 1, 1, none⟩ (.slice as3 L.length cs3)) := (((Keep.refl _ wo).setCell _ _ (.inr (.inl rfl))).setCell _ _ (.inr (.inr rfl))).setCell _ _ (.inr (.inr rfl))
        rw [HE.out]
        refine (HSTS.out.keep hKE ?_ ?_).base (Nat.le_add_right B 2)
        · intro g hg hm
          obtain ⟨L', -, h9, -⟩ := HSTS.out
          have := (h9.lt g hg).1
          omega
        · intro g cs T hc hm
          rcases hm with rfl | rfl
          · have h9 := hc.symm.trans (HKR.out.at' HB0.out (fun e => e))
            injection h9 with h10
            injection h10 with h11 h12
            subst h12
            decide
          · have h9 := hc.symm.trans (HKR.out.at' HB1.out (fun e => e))
            injection h9 with h10
            injection h10 with h11 h12
            subst h12
            decide
end Go.Proofs.YtifliekahdgobaaGreatDoor
