/-
  THE WALKS, 9: req (printed by wip/tools/gen_req.py). Helpers of the claims.
-/
import Derived.Test.YtifliekahdgobaaGreatDoorKThQToW19
set_option linter.unusedSimpArgs false
set_option linter.unusedVariables false
namespace Go.Proofs.YtifliekahdgobaaGreatDoor
open Go.RowKit Sp

theorem word_any (lb rb : Nat) (ws : List Str) (w : World) (h : LineAt w lb rb ws) :
    Calls Tryz.prog 92 #[.pointer (some ⟨lb, 0, none⟩)] w (Got sv lb rb w (pword ws)) := by
  cases ws with
  | nil => exact (word_none lb rb w h).mono fun e w' ⟨h1, h2⟩ => ⟨h2, h1⟩
  | cons x ws => exact (word_some lb rb x ws w h).mono fun e w' ⟨h1, h2, h3⟩ => ⟨h2, h1, h3⟩
/-- what reading a request comes to -/
def GotReq (lb rb : Nat) (w : World) (o : Option ReqS) (e : Ending) (w' : World) : Prop :=
  Keep (fun b => b = lb) w w' ∧ match o with
    | some r => ∃ vc vt ve, e = .returned (.agg (reqCells r vc vt ve)) ∧ ReqIs w' r vc vt ve ∧ LineAt w' lb rb []
    | none => e = gaveUp 4
/-- how many words a line has yet -/
def lineLen (w : World) (lb : Nat) : Nat := match w.heap[lb]? with
  | some (Obj.cells cs _ _) => match cs[0]? with
    | some (Value.slice _ n _) => n
    | _ => 0
  | _ => 0
theorem LineAt.len {w : World} {lb rb : Nat} {ws : List Str} (h : LineAt w lb rb ws) : lineLen w lb = ws.length := by
  obtain ⟨off, c, h1, _⟩ := h
  unfold lineLen
  rw [h1]
  rfl
theorem LineAt.bound {w : World} {lb rb : Nat} {ws : List Str} (h : LineAt w lb rb ws) : ws.length ≤ 1099511627776 := by
  obtain ⟨off, c, h1, h2, h3, _⟩ := h
  omega
def wOrder : List Str := [wIf, wThen, wElse]
theorem pitem_if (st : PartS) (wy : List Str) (h : st.part = 0) : pitem st (wIf :: wy) = (pcmp wy).bind fun c => some ({ st with cmps := st.cmps ++ [c.1] }, c.2) := by
  simp only [pitem, pword, take1, Option.bind_some]
  rw [if_pos trivial, if_pos h]
theorem pitem_if_no (st : PartS) (wy : List Str) (h : ¬ st.part = 0) : pitem st (wIf :: wy) = none := by
  simp only [pitem, pword, take1, Option.bind_some]
  rw [if_pos trivial, if_neg h]
theorem pitem_then (st : PartS) (wy : List Str) (h : st.part ≤ 1) : pitem st (wThen :: wy) = (pop wy).bind fun x => some ({ st with part := 1, thn := st.thn ++ [x.1] }, x.2) := by
  simp only [pitem, pword, take1, Option.bind_some]
  rw [if_neg (by decide), if_pos trivial, if_pos h]
theorem pitem_then_no (st : PartS) (wy : List Str) (h : ¬ st.part ≤ 1) : pitem st (wThen :: wy) = none := by
  simp only [pitem, pword, take1, Option.bind_some]
  rw [if_neg (by decide), if_pos trivial, if_neg h]
theorem pitem_else (st : PartS) (wy : List Str) : pitem st (wElse :: wy) = (pop wy).bind fun x => some ({ st with part := 2, els := st.els ++ [x.1] }, x.2) := by
  simp only [pitem, pword, take1, Option.bind_some]
  rw [if_neg (by decide), if_neg (by decide), if_pos trivial]
theorem pitem_no (st : PartS) (y : Str) (wy : List Str) (h : y ≠ wIf) (h2 : y ≠ wThen) (h3 : y ≠ wElse) : pitem st (y :: wy) = none := by
  simp only [pitem, pword, take1, Option.bind_some]
  rw [if_neg h, if_neg h2, if_neg h3]
theorem order_no (y : Str) (h : y ≠ wIf) (h2 : y ≠ wThen) (h3 : y ≠ wElse) : idxOf wOrder y = -1 := by
  have h' : (wIf == y) = false := by simpa using fun e => h e.symm
  have h2' : (wThen == y) = false := by simpa using fun e => h2 e.symm
  have h3' : (wElse == y) = false := by simpa using fun e => h3 e.symm
  simp [idxOf, kindOf, wOrder, List.findIdx?_cons, h', h2', h3']

set_option maxRecDepth 100000 in
set_option maxHeartbeats 1600000 in
theorem req_any (lb rb : Nat) (ws : List Str) (w : World) (h : LineAt w lb rb ws) (hr : rb < w.heap.size) :
    Calls Tryz.prog 73 #[.pointer (some ⟨lb, 0, none⟩)] w (GotReq lb rb w (preq ws)) := by
  have hlt := h.lt
  obtain ⟨B, hB⟩ : ∃ B : Nat, B = w.heap.size := ⟨_, rfl⟩
  have hBlb : ¬ B = lb := by omega
  have hBrb : ¬ B = rb := by omega
  have hrl : ¬ rb = lb := by obtain ⟨_, _, _, _, _, h4, _⟩ := h; exact h4
  obtain ⟨W, hW⟩ : ∃ W : World, W = w.alloc (.cells (reqCells .zero (.slice none 0 0) (.slice none 0 0) (.slice none 0 0)) 59) := ⟨_, rfl⟩
  have hkW : Keep (fun _ => False) w W := by rw [hW]; exact (Keep.refl _ w).alloc _
  have hbX : W.heap[B]? = some (.cells (reqCells .zero (.slice none 0 0) (.slice none 0 0) (.slice none 0 0)) 59 (0, 0)) := by rw [hW, hB]; exact block_new _ _
  have hWL := h.keep hkW (fun e => e) (fun e => e)
  have HBX := Lib.hid hbX
  have HWL := Lib.hid hWL
  have HW := Lib.hid (show W = w.alloc (.cells #[.int .i64 0, .int .u64 0, .int .u64 0, .bool false, .slice none 0 0, .slice none 0 0, .slice none 0 0, .int .u64 0] 59) from hW)
  clear hbX hWL hW h
  go_enter Tryz.func73, Tryz.ntmps73
  go_wp2_with fail
  rw [← HW.out, ← hB]
  have HB := Lib.hid hB
  clear hB
  refine (kinds_walk W).mono ?_
  rintro e W1 ⟨rfl, hW1⟩
  have hkK : Keep (fun _ => False) W W1 := by rw [hW1]; exact (Keep.refl _ _).alloc _
  have hbK : W1.heap[W.heap.size]? = some (.cells (kinds.map fun y => sv y).toArray 9 (0, 0)) := by rw [hW1]; exact block_new _ _
  have hX1 := hkK.at' HBX.out (fun e => e)
  have hLW1 := HWL.out.keep hkK (fun e => e) (fun e => e)
  have hWlb : ¬ W.heap.size = lb := by have := HWL.out.lt; omega
  have hkk0 : Keep (fun b => b = lb) w W1 := (hkW.trans' hkK).mono (fun _ _ e => e.elim)
  have HBK := Lib.hid hbK
  have HX1 := Lib.hid hX1
  have HLW1 := Lib.hid hLW1
  clear hbK hX1 hLW1 hW1
  go_wp2_with fail
  refine (word_any lb rb ws W1 (HLW1.out)).mono ?_
  intro e w1 hg1
  obtain ⟨hk1, hg1⟩ := hg1
  have hkk1 : Keep (fun b => b = lb) w w1 := (hkk0).trans' hk1
  rcases hp1 : pword ws with _ | ⟨x, ws1⟩
  · rw [hp1] at hg1
    subst hg1
    refine ⟨rfl, hkk1, ?_⟩
    unfold preq
    rw [hp1]
    exact rfl
  rw [hp1] at hg1
  obtain ⟨rfl, hl1⟩ := hg1
  have HP1 := Lib.hid hp1
  have HL1 := Lib.hid hl1
  clear hp1 hl1
  have hX1 := hk1.at' HX1.out hBlb
  have hcx : w1.cell? ⟨B, 0, none⟩ = some (.int .i64 0) := cell_of_block hX1 0
  have hfx := free_of_block hX1 0
  have HX := Lib.hid hX1
  have hbK1 := hk1.at' HBK.out hWlb
  have HBK1 := Lib.hid hbK1
  clear hX1 hbK1
  go_wp2_with fail
  refine (show Calls Tryz.prog 108 #[.slice (some ⟨W.heap.size, 0, none⟩) 4 4, sv x] w1 _ from index_at W.heap.size kinds 9 (0, 0) 4 x w1 (by decide) HBK1.out).mono ?_
  rintro e w' ⟨rfl, rfl⟩
  rcases hkd : kindOf kinds x with _ | kd
  · have hix : idxOf kinds x = -1 := by unfold idxOf; rw [hkd]
    rw [hix]
    go_wp2_with fail
    refine (must_no _ _).mono ?_
    rintro e w' ⟨rfl, rfl⟩
    refine ⟨rfl, hkk1.setCell _ _ (.inl (by have := HB.out; show w.heap.size ≤ B; omega)), ?_⟩
    unfold preq
    rw [HP1.out, Option.bind_some, hkd]
    exact rfl
  have hix : idxOf kinds x = (kd : Int) := by unfold idxOf; rw [hkd]
  rw [hix]
  have HKD := Lib.hid hkd
  clear hkd hix
  go_wp2_with fail
  refine (must_ok _ _).mono ?_
  rintro e w' ⟨rfl, rfl⟩
  have hbV := block_setCell HX.out 0 (.int .i64 (kd : Int))
  have hkV : Keep (fun b => b = B) w1 (w1.setCell ⟨B, 0, none⟩ (.int .i64 (kd : Int))) := (Keep.refl (fun b => b = B) w1).setCell _ _ (.inr rfl)
  have hkkV : Keep (fun b => b = lb) w (w1.setCell ⟨B, 0, none⟩ (.int .i64 (kd : Int))) := hkk1.setCell _ _ (.inl (by have := HB.out; show w.heap.size ≤ B; omega))
  have hLV := HL1.out.keep hkV (fun e => by omega) (fun e => by omega)
  generalize w1.setCell ⟨B, 0, none⟩ (.int .i64 (kd : Int)) = V1 at *
  have HBV := Lib.hid hbV
  have HLV := Lib.hid hLV
  clear hbV hLV hcx hfx
  go_wp2_with fail
  refine (num_any lb rb ws1 V1 (HLV.out)).mono ?_
  intro e w2 hg2
  obtain ⟨hk2, hg2⟩ := hg2
  have hkk2 : Keep (fun b => b = lb) w w2 := (hkkV).trans' hk2
  rcases hp2 : pnum most ws1 with _ | ⟨cl, ws2⟩
  · rw [hp2] at hg2
    subst hg2
    refine ⟨rfl, hkk2, ?_⟩
    unfold preq
    rw [HP1.out, Option.bind_some, HKD.out, Option.bind_some, hp2]
    exact rfl
  rw [hp2] at hg2
  obtain ⟨rfl, hl2⟩ := hg2
  have hb2 := pnum_le hp2
  have HP2 := Lib.hid hp2
  have HL2 := Lib.hid hl2
  clear hp2 hl2
  go_wp2_with fail
  refine (num_any lb rb ws2 w2 (HL2.out)).mono ?_
  intro e w3 hg3
  obtain ⟨hk3, hg3⟩ := hg3
  have hkk3 : Keep (fun b => b = lb) w w3 := (hkk2).trans' hk3
  rcases hp3 : pnum most ws2 with _ | ⟨nm, ws3⟩
  · rw [hp3] at hg3
    subst hg3
    refine ⟨rfl, hkk3, ?_⟩
    unfold preq
    rw [HP1.out, Option.bind_some, HKD.out, Option.bind_some, HP2.out, Option.bind_some, hp3]
    exact rfl
  rw [hp3] at hg3
  obtain ⟨rfl, hl3⟩ := hg3
  have hb3 := pnum_le hp3
  have HP3 := Lib.hid hp3
  have HL3 := Lib.hid hl3
  clear hp3 hl3
  have hX3 := hk3.at' (hk2.at' HBV.out hBlb) hBlb
  have hcx : w3.cell? ⟨B, 1, none⟩ = some (.int .u64 0) := cell_of_block hX3 1
  have hfx := free_of_block hX3 1
  have hcx2 : w3.cell? ⟨B, 2, none⟩ = some (.int .u64 0) := cell_of_block hX3 2
  have hfx2 := free_of_block hX3 2
  unfold u64v
  obtain ⟨V2, hV2⟩ : ∃ V2, V2 = (w3.setCell ⟨B, 1, none⟩ (.int .u64 cl)).setCell ⟨B, 2, none⟩ (.int .u64 nm) := ⟨_, rfl⟩
  have hbV2 : V2.heap[B]? = some (.cells (reqCells ⟨kd, cl, nm, false, [], [], [], 0⟩ (.slice none 0 0) (.slice none 0 0) (.slice none 0 0)) 59 (0, 0)) := by
    rw [hV2]
    exact block_setCell (block_setCell hX3 1 _) 2 _
  have hkV2 : Keep (fun b => b = B) w3 V2 := by rw [hV2]; exact ((Keep.refl (fun b => b = B) w3).setCell _ _ (.inr rfl)).setCell _ _ (.inr rfl)
  have hkkV2 : Keep (fun b => b = lb) w V2 := by rw [hV2]; exact (hkk3.setCell _ _ (.inl (by have := HB.out; show w.heap.size ≤ B; omega))).setCell _ _ (.inl (by have := HB.out; show w.heap.size ≤ B; omega))
  have hLV2 := HL3.out.keep hkV2 (fun e => by omega) (fun e => by omega)
  have hV2s : V2.heap.size = w3.heap.size := by rw [hV2]; simp
  have HV2 := Lib.hid hV2
  clear hV2 hX3
  have q1 : ∀ i, i < lS.length → (#[.pointer (some ⟨B, 3, none⟩)] : Array Value)[i]? = some (.pointer (some ⟨B, 3 + i, none⟩)) := by
    intro i hi
    have hi' : i < 1 := hi
    obtain rfl : i = 0 := by omega
    rfl
  have q2 : ∀ i, i < lS.length → (reqCells ⟨kd, cl, nm, false, [], [], [], 0⟩ (.slice none 0 0) (.slice none 0 0) (.slice none 0 0))[3 + i]? = some (.bool false) := by
    intro i hi
    have hi' : i < 1 := hi
    obtain rfl : i = 0 := by omega
    rfl
  have HQ := marks_at lb rb lS ws3 B 3 59 _ #[.pointer (some ⟨B, 3, none⟩)] V2 hLV2 hbV2 hBlb hBrb q1 q2 (by decide)
  clear q1 q2
  have hxlt := lt_of_block hbV2
  clear hbV2 hLV2
  go_wp2_with fail
  rw [← HV2.out]

  refine (show Calls Tryz.prog 104 #[.pointer (some ⟨lb, 0, none⟩), .string ⟨#[115]⟩, .slice (some ⟨w3.heap.size, 0, none⟩) 1 1] _ _ from hV2s ▸ HQ).mono ?_
  rintro e w4 ⟨hk4, hg4⟩
  have hkk4 : Keep (fun b => b = lb) w w4 := hkkV2.trans hk4 (fun b hb e => e.elim id (fun e => by have := HB.out; omega))
  rcases hp4 : pmarks lS ws3 with _ | ⟨m, ws4⟩
  · rw [hp4] at hg4
    subst hg4
    refine ⟨rfl, hkk4, ?_⟩
    unfold preq
    rw [HP1.out, Option.bind_some, HKD.out, Option.bind_some, HP2.out, Option.bind_some, HP3.out, Option.bind_some, hp4]
    exact rfl
  rw [hp4] at hg4
  obtain ⟨rfl, hl4, hx4⟩ := hg4
  obtain ⟨sr, rfl⟩ : ∃ b, m = [b] := List.length_eq_one_iff.1 (pmarks_len hp4)
  have hx4' : w4.heap[B]? = some (.cells (reqCells ⟨kd, cl, nm, sr, [], [], [], 0⟩ (.slice none 0 0) (.slice none 0 0) (.slice none 0 0)) 59 (0, 0)) := hx4
  have HP4 := Lib.hid hp4
  have HL4 := Lib.hid hl4
  have HX4 := Lib.hid hx4'
  clear hp4 hl4 hx4 hx4' HQ hcx hfx hcx2 hfx2
  go_wp2_with fail
  refine (num_any lb rb ws4 w4 (HL4.out)).mono ?_
  intro e w5 hg5
  obtain ⟨hk5, hg5⟩ := hg5
  have hkk5 : Keep (fun b => b = lb) w w5 := (hkk4).trans' hk5
  rcases hp5 : pnum most ws4 with _ | ⟨rv, ws5⟩
  · rw [hp5] at hg5
    subst hg5
    refine ⟨rfl, hkk5, ?_⟩
    unfold preq
    rw [HP1.out, Option.bind_some, HKD.out, Option.bind_some, HP2.out, Option.bind_some, HP3.out, Option.bind_some, HP4.out, Option.bind_some, hp5]
    exact rfl
  rw [hp5] at hg5
  obtain ⟨rfl, hl5⟩ := hg5
  have hb5 := pnum_le hp5
  have HP5 := Lib.hid hp5
  have HL5 := Lib.hid hl5
  clear hp5 hl5
  have hX5 := hk5.at' HX4.out hBlb
  have hcx : w5.cell? ⟨B, 7, none⟩ = some (.int .u64 0) := cell_of_block hX5 7
  have hfx := free_of_block hX5 7
  unfold u64v
  obtain ⟨V3, hV3⟩ : ∃ V3, V3 = w5.setCell ⟨B, 7, none⟩ (.int .u64 rv) := ⟨_, rfl⟩
  have hbV3 : V3.heap[B]? = some (.cells (reqCells ⟨kd, cl, nm, sr, [], [], [], rv⟩ (.slice none 0 0) (.slice none 0 0) (.slice none 0 0)) 59 (0, 0)) := by
    rw [hV3]
    exact block_setCell hX5 7 _
  have hkV3 : Keep (fun b => b = B) w5 V3 := by rw [hV3]; exact (Keep.refl (fun b => b = B) w5).setCell _ _ (.inr rfl)
  have hkkV3 : Keep (fun b => b = lb) w V3 := by rw [hV3]; exact hkk5.setCell _ _ (.inl (by have := HB.out; show w.heap.size ≤ B; omega))
  have hLV3 := HL5.out.keep hkV3 (fun e => by omega) (fun e => by omega)
  have HV3 := Lib.hid hV3
  have HBV3 := Lib.hid hbV3
  have HLV3 := Lib.hid hLV3
  have hws5 := HLV3.out.bound
  clear hV3 hX5 hbV3 hLV3
  have hpre : preq ws = (items ⟨0, [], [], []⟩ ws5).bind fun st => if okParts st = true then some ⟨kd, cl, nm, sr, st.cmps, st.thn, st.els, rv⟩ else none := by
    unfold preq
    rw [HP1.out, Option.bind_some, HKD.out, Option.bind_some, HP2.out, Option.bind_some, HP3.out, Option.bind_some, HP4.out, Option.bind_some, HP5.out, Option.bind_some]
    rfl
  have HPRE := Lib.hid hpre
  clear hpre
  go_wp2_with fail
  rw [← HV3.out]
  clear hk1 hk2 hk3 hk4 hk5 hkK hkV hkV2 hkV3 hkkV hkkV2 hkk0 hkk1 hkk2 hkk3 hkk4 hkk5 hkW hb2 hb3 hb5 hV2s hxlt HW hWlb
  clear HP1 HP2 HP3 HP4 HP5 HKD HL1 HL2 HL3 HL4 HL5 HX4 HV3 HV2 HBV HLV HX HBK1 HX1 HLW1 HBK HWL HBX hcx hfx
  go_loopw [3] (fun v3 wr => ∃ (st : PartS) (wz : List Str) (vc vt ve : Value), v3 = .int .i64 st.part ∧ st.part ≤ 2 ∧ ReqMem lb rb B w ⟨kd, cl, nm, sr, [], [], [], rv⟩ st wz vc vt ve wr ∧ items ⟨0, [], [], []⟩ ws5 = items st wz ∧ st.cmps.length + st.thn.length + st.els.length + wz.length ≤ ws5.length) (fun _ wr => lineLen wr lb)
  case atStart => exact ⟨⟨0, [], [], []⟩, ws5, .slice none 0 0, .slice none 0 0, .slice none 0 0, rfl, by decide, ⟨HLV3.out, HBV3.out, World.ownsRow_nil _ _ _ _, World.ownsRow_nil _ _ _ _, World.ownsRow_nil _ _ _ _, .inl rfl, hkkV3⟩, rfl, by simp⟩
  case round =>
    obtain ⟨st, wz, vc, vt, ve, rfl, hpt, hmem, hout, hsum⟩ := hrel
    have HMEM := Lib.hid hmem
    have HOUT := Lib.hid hout
    have HSUM := Lib.hid hsum
    have hltB : lb < B := by have := HB.out; omega
    have hwB : w.heap.size ≤ B := by have := HB.out; omega
    have hrB : rb < B := by have := HB.out; omega
    have hlen := hmem.line.len
    have HLEN := Lib.hid hlen
    clear hmem hout hsum hlen HBV3 HLV3
    cases wz with
    | nil =>
      obtain ⟨off, cc, hl1, hl2⟩ := HMEM.out.line
      have hcl := cell_of_one hl1
      simp only [List.length_nil] at hcl
      clear hl1 hl2
      obtain ⟨a1, c1, rfl, -⟩ := ownsRow_len HMEM.out.cmps
      obtain ⟨a2, c2, rfl, -⟩ := ownsRow_len HMEM.out.thn
      obtain ⟨a3, c3, rfl, -⟩ := ownsRow_len HMEM.out.els
      generalize hn1 : st.cmps.length = n1 at *
      generalize hn2 : st.thn.length = n2 at *
      generalize hn3 : st.els.length = n3 at *
      have hc4 : wr.cell? ⟨B, 4, none⟩ = some (.slice a1 n1 c1) := cell_of_block HMEM.out.res 4
      have hc5 : wr.cell? ⟨B, 5, none⟩ = some (.slice a2 n2 c2) := cell_of_block HMEM.out.res 5
      have hc6 : wr.cell? ⟨B, 6, none⟩ = some (.slice a3 n3 c3) := cell_of_block HMEM.out.res 6
      have hok : okParts st = (decide (n1 ≤ 8) && decide (n2 ≤ 10) && decide (n3 ≤ 10)) := by rw [← hn1, ← hn2, ← hn3]; rfl
      have HOK := Lib.hid hok
      have HN1 := Lib.hid hn1
      have HN2 := Lib.hid hn2
      have HN3 := Lib.hid hn3
      clear hok hn1 hn2 hn3
      have hpo : preq ws = if okParts st = true then some ⟨kd, cl, nm, sr, st.cmps, st.thn, st.els, rv⟩ else none := by
        rw [HPRE.out, HOUT.out, items_nil]
        rfl
      have HPO := Lib.hid hpo
      clear hpo
      by_cases hq1 : (n1 : Int) ≤ 8
      · by_cases hq2 : (n2 : Int) ≤ 10
        · by_cases hq3 : (n3 : Int) ≤ 10
          · have hb4 := HMEM.out.res
            obtain ⟨cs, hcs⟩ : ∃ cs, cs = reqCells ⟨kd, cl, nm, sr, [], [], [], rv⟩ (.slice a1 n1 c1) (.slice a2 n2 c2) (.slice a3 n3 c3) := ⟨_, rfl⟩
            have hs : cs.size = 8 := by rw [hcs]; rfl
            have h1 : cs.all (·.oneCell') = true := by rw [hcs]; simp [reqCells, one_int, one_bool, one_slice]
            rw [← hcs] at hb4
            have hld := run_ld59 wr B 0 cs hs (range_of_block hb4)
            have hst := run_st59 wr B 0 cs (there_of_block hb4 (n := 8) (by omega)) hs h1
            have HB4 := Lib.hid hb4
            have HCS := Lib.hid hcs
            clear hb4 hcs
            go_wp2_with fail
            refine (must_ok _ _).mono ?_
            rintro e w' ⟨rfl, rfl⟩
            go_wp2_with fail
            have hb3 := block_setCells_all HB4.out cs.toList (by simp)
            rw [Array.toArray_toList] at hb3
            (try simp only [Exit.inBlock, Exit.then])
            refine bodyPost_ret (v := .agg cs) ?_ rfl ?_
            · exact results_block (n := 8) rfl Tryz.underlying59 rfl info59 _ _ B cs 59 (0, 0) rfl hs hb3
            have hkS : Keep (fun b => b = B) wr (wr.setCells B 0 cs.toList) := (Keep.refl (fun b => b = B) wr).setCells _ _ _ (.inr rfl)
            have hfar : ∀ {v : Value} {e size n : Nat} {xs : List Value}, wr.ownsRow (B + 1) e size v n xs → (wr.setCells B 0 cs.toList).ownsRow 0 e size v n xs := fun h => ownsRow_base (ownsRow_keep h hkS (fun g cur hg _ e => by have := (h.lt g hg).1; omega)) (Nat.zero_le _)
            rw [HPO.out, HOK.out, decide_eq_true (show n1 ≤ 8 by omega), decide_eq_true (show n2 ≤ 10 by omega), decide_eq_true (show n3 ≤ 10 by omega)]
            refine ⟨HMEM.out.keep.setCells _ _ _ (.inl hwB), .slice a1 n1 c1, .slice a2 n2 c2, .slice a3 n3 c3, by rw [HCS.out]; rfl, ⟨hfar HMEM.out.cmps, hfar HMEM.out.thn, hfar HMEM.out.els⟩, HMEM.out.line.keep hkS (fun e => by omega) (fun e => by omega)⟩
          · go_wp2_with fail
            refine (must_no _ _).mono ?_
            rintro e w' ⟨rfl, rfl⟩
            refine ⟨rfl, HMEM.out.keep, ?_⟩
            rw [HPO.out, HOK.out, decide_eq_false (show ¬ n3 ≤ 10 by omega), Bool.and_false]
            exact rfl
        · go_wp2_with fail
          refine (must_no _ _).mono ?_
          rintro e w' ⟨rfl, rfl⟩
          refine ⟨rfl, HMEM.out.keep, ?_⟩
          rw [HPO.out, HOK.out, decide_eq_false (show ¬ n2 ≤ 10 by omega), Bool.and_false, Bool.false_and]
          exact rfl
      · go_wp2_with fail
        refine (must_no _ _).mono ?_
        rintro e w' ⟨rfl, rfl⟩
        refine ⟨rfl, HMEM.out.keep, ?_⟩
        rw [HPO.out, HOK.out, decide_eq_false (show ¬ n1 ≤ 8 by omega), Bool.false_and, Bool.false_and]
        exact rfl
    | cons y wy =>
      obtain ⟨off, cc, hl1, hl2⟩ := HMEM.out.line
      have hcl := cell_of_one hl1
      clear hl1 hl2
      have hmX := HMEM.out.alloc hltB (.cells (wOrder.map fun y => sv y).toArray 9 (0, 0))
      have hbO := block_new wr (.cells (wOrder.map fun y => sv y).toArray 9 (0, 0))
      have hrlb : ¬ wr.heap.size = lb := by have := HMEM.out.line.lt; omega
      go_wp2_with fail
      refine (word_some lb rb y wy (wr.alloc (.cells (wOrder.map fun y => sv y).toArray 9 (0, 0))) hmX.line).mono ?_
      rintro e w6 ⟨rfl, hk6, hl6⟩
      have hm6 := hmX.step hltB hk6 hl6
      have hbO6 := hk6.at' hbO hrlb
      have HM6 := Lib.hid hm6
      have HBO6 := Lib.hid hbO6
      clear hmX hbO hk6 hl6 hm6 hbO6 hcl
      go_wp2_with fail
      refine (show Calls Tryz.prog 108 #[.slice (some ⟨wr.heap.size, 0, none⟩) 3 3, sv y] w6 _ from index_at wr.heap.size wOrder 9 (0, 0) 3 y w6 (by decide) HBO6.out).mono ?_
      rintro e w' ⟨rfl, rfl⟩
      have hfail : pitem st (y :: wy) = none → (preq ws = none) := fun h => by
        rw [HPRE.out, HOUT.out, items_cons, h]
        rfl
      have HFAIL := Lib.hid hfail
      clear hfail
      by_cases hy0 : y = wIf
      · subst hy0
        rw [show idxOf wOrder wIf = 0 from by decide]
        by_cases hp : st.part = 0
        · have hp1 : decide ((0 : Int) ≥ (st.part : Int)) = true := decide_eq_true (by omega)
          go_wp2_with fail
          refine (must_ok _ _).mono ?_
          rintro e w' ⟨rfl, rfl⟩
          go_wp2_with fail
          have hmD := HM6.out.drew hltB
          refine wp_region_held_drew (S := fun _ => True) (by kernel_rfl) trivial (fun hHeld => ?_)
          generalize w6.drew = V0 at *
          refine wpAnyH_take (i := 0) (v := ?_) rfl (by kernel_rfl) (by kernel_rfl) (by kernel_rfl) (fun _ _ _ h => h) (Or.inl ⟨by rfl, ?_⟩) (by assumption) ?_
          rotate_left
          · (intro w hSw; (try dsimp only at hSw); go_simp; try with_reducible rfl)
          try simp only [Act.put, List.setIfInBounds_toArray, List.set_cons_zero, List.set_cons_succ]
          refine wpAnyH_take (i := 2) (v := ?_) rfl (by kernel_rfl) (by kernel_rfl) (by kernel_rfl) (fun _ _ _ h => h) (Or.inl ⟨by rfl, ?_⟩) (by assumption) ?_
          rotate_left
          · (intro w hSw; (try dsimp only at hSw); go_simp; try with_reducible rfl)
          try simp only [Act.put, List.setIfInBounds_toArray, List.set_cons_zero, List.set_cons_succ]
          refine wpAnyH_take (i := 4) (v := ?_) rfl (by kernel_rfl) (by kernel_rfl) (by kernel_rfl) (fun _ _ _ h => h) (Or.inl ⟨by rfl, ?_⟩) (by assumption) ?_
          rotate_left
          · (intro w hSw; (try dsimp only at hSw); go_simp; try with_reducible rfl)
          try simp only [Act.put, List.setIfInBounds_toArray, List.set_cons_zero, List.set_cons_succ]
          refine wpAnyH_take (i := 6) (v := ?_) rfl (by kernel_rfl) (by kernel_rfl) (by kernel_rfl) (fun _ _ _ h => h) (Or.inl ⟨by rfl, ?_⟩) (by assumption) ?_
          rotate_left
          · (intro w hSw; (try dsimp only at hSw); go_simp; try with_reducible rfl)
          try simp only [Act.put, List.setIfInBounds_toArray, List.set_cons_zero, List.set_cons_succ]
          refine wpAnyH_take (i := 8) (v := ?_) rfl (by kernel_rfl) (by kernel_rfl) (by kernel_rfl) (fun _ _ _ h => h) (Or.inl ⟨by rfl, ?_⟩) (by assumption) ?_
          rotate_left
          · (intro w hSw; (try dsimp only at hSw); go_simp; try with_reducible rfl)
          try simp only [Act.put, List.setIfInBounds_toArray, List.set_cons_zero, List.set_cons_succ]
          refine wpAnyH_take (i := 10) (v := ?_) rfl (by kernel_rfl) (by kernel_rfl) (by kernel_rfl) (fun _ _ _ h => h) (Or.inl ⟨by rfl, ?_⟩) (by assumption) ?_
          rotate_left
          · (intro w hSw; (try dsimp only at hSw); go_simp; try with_reducible rfl)
          try simp only [Act.put, List.setIfInBounds_toArray, List.set_cons_zero, List.set_cons_succ]
          refine wpAnyH_ready (rs := [1, 3]) (by kernel_rfl) (by simp) ?_
          refine AllReadyH.cons (o := ?_) (by simp only [List.getElem?_toArray, List.getElem?_cons_succ, List.getElem?_cons_zero]; exact rfl) (fun K hK => ?_) (AllReadyH.cons (o := ?_) (by simp only [List.getElem?_toArray, List.getElem?_cons_succ, List.getElem?_cons_zero]; exact rfl) (fun K hK => ?_) AllReadyH.nil)
          · have hcl : V0.cell? ⟨B, 4, none⟩ = some vc := cell_of_block hmD.res 4
            go_simp
            refine hK.out _ _ trivial (fun hHeld => ?_)
            clear hK K
            try simp only [Act.put, List.setIfInBounds_toArray, List.set_cons_zero, List.set_cons_succ]
            clear hcl
            refine wpAnyH_ready (rs := [3]) (by kernel_rfl) (by simp) ?_
            refine AllReadyH.cons (o := ?_) (by simp only [List.getElem?_toArray, List.getElem?_cons_succ, List.getElem?_cons_zero]; exact rfl) (fun K hK => ?_) AllReadyH.nil
            go_simp
            refine (small_any lb rb wy _ hmD.line).mono ?_
            intro e q1 hg
            obtain ⟨hkq, hg⟩ := hg
            rcases hp1 : pnum 9 wy with _ | ⟨ca, z1⟩
            · rw [hp1] at hg
              subst hg
              refine ⟨rfl, hmD.keep.trans' hkq, ?_⟩
              rw [HFAIL.out (by rw [pitem_if _ _ hp]; unfold pcmp; rw [hp1]; rfl)]
            rw [hp1] at hg
            obtain ⟨rfl, hlq⟩ := hg
            have hm_1 := hmD.step hltB hkq hlq
            have hb_1 := pnum_le hp1
            have HP1 := Lib.hid hp1
            clear hp1 hkq hlq
            refine hK.out _ _ trivial (fun hHeld => ?_)
            clear hK K
            try simp only [Act.put, List.setIfInBounds_toArray, List.set_cons_zero, List.set_cons_succ]
            refine wpAnyH_ready (rs := [5]) (by kernel_rfl) (by simp) ?_
            refine AllReadyH.cons (o := ?_) (by simp only [List.getElem?_toArray, List.getElem?_cons_succ, List.getElem?_cons_zero]; exact rfl) (fun K hK => ?_) AllReadyH.nil
            go_simp
            refine (small_any lb rb z1 _ hm_1.line).mono ?_
            intro e q2 hg
            obtain ⟨hkq, hg⟩ := hg
            rcases hp2 : pnum 9 z1 with _ | ⟨ch, z2⟩
            · rw [hp2] at hg
              subst hg
              refine ⟨rfl, hm_1.keep.trans' hkq, ?_⟩
              rw [HFAIL.out (by rw [pitem_if _ _ hp]; unfold pcmp; rw [HP1.out, Option.bind_some, hp2]; rfl)]
            rw [hp2] at hg
            obtain ⟨rfl, hlq⟩ := hg
            have hm_2 := hm_1.step hltB hkq hlq
            have hb_2 := pnum_le hp2
            have HP2 := Lib.hid hp2
            clear hp2 hkq hlq
            refine hK.out _ _ trivial (fun hHeld => ?_)
            clear hK K
            try simp only [Act.put, List.setIfInBounds_toArray, List.set_cons_zero, List.set_cons_succ]
            refine wpAnyH_ready (rs := [7]) (by kernel_rfl) (by simp) ?_
            refine AllReadyH.cons (o := ?_) (by simp only [List.getElem?_toArray, List.getElem?_cons_succ, List.getElem?_cons_zero]; exact rfl) (fun K hK => ?_) AllReadyH.nil
            go_simp
            refine (num_any lb rb z2 _ hm_2.line).mono ?_
            intro e q3 hg
            obtain ⟨hkq, hg⟩ := hg
            rcases hp3 : pnum most z2 with _ | ⟨cn, z3⟩
            · rw [hp3] at hg
              subst hg
              refine ⟨rfl, hm_2.keep.trans' hkq, ?_⟩
              rw [HFAIL.out (by rw [pitem_if _ _ hp]; unfold pcmp; rw [HP1.out, Option.bind_some, HP2.out, Option.bind_some, hp3]; rfl)]
            rw [hp3] at hg
            obtain ⟨rfl, hlq⟩ := hg
            have hm_3 := hm_2.step hltB hkq hlq
            have hb_3 := pnum_le hp3
            have HP3 := Lib.hid hp3
            clear hp3 hkq hlq
            refine hK.out _ _ trivial (fun hHeld => ?_)
            clear hK K
            try simp only [Act.put, List.setIfInBounds_toArray, List.set_cons_zero, List.set_cons_succ]
            refine wpAnyH_ready (rs := [9]) (by kernel_rfl) (by simp) ?_
            refine AllReadyH.cons (o := ?_) (by simp only [List.getElem?_toArray, List.getElem?_cons_succ, List.getElem?_cons_zero]; exact rfl) (fun K hK => ?_) AllReadyH.nil
            go_simp
            refine (bytes_any lb rb z3 _ hm_3.line).mono ?_
            intro e q4 hg
            obtain ⟨hkq, hg⟩ := hg
            rcases hp4 : pbytes z3 with _ | ⟨ck, z4⟩
            · rw [hp4] at hg
              subst hg
              refine ⟨rfl, hm_3.keep.trans' hkq, ?_⟩
              rw [HFAIL.out (by rw [pitem_if _ _ hp]; unfold pcmp; rw [HP1.out, Option.bind_some, HP2.out, Option.bind_some, HP3.out, Option.bind_some, hp4]; rfl)]
            rw [hp4] at hg
            obtain ⟨rfl, hlq⟩ := hg
            have hm_4 := hm_3.step hltB hkq hlq
            have HP4 := Lib.hid hp4
            clear hp4 hkq hlq
            refine hK.out _ _ trivial (fun hHeld => ?_)
            clear hK K
            try simp only [Act.put, List.setIfInBounds_toArray, List.set_cons_zero, List.set_cons_succ]
            refine wpAnyH_ready (rs := [11]) (by kernel_rfl) (by simp) ?_
            refine AllReadyH.cons (o := ?_) (by simp only [List.getElem?_toArray, List.getElem?_cons_succ, List.getElem?_cons_zero]; exact rfl) (fun K hK => ?_) AllReadyH.nil
            go_simp
            refine (bytes_any lb rb z4 _ hm_4.line).mono ?_
            intro e q5 hg
            obtain ⟨hkq, hg⟩ := hg
            rcases hp5 : pbytes z4 with _ | ⟨cv, z5⟩
            · rw [hp5] at hg
              subst hg
              refine ⟨rfl, hm_4.keep.trans' hkq, ?_⟩
              rw [HFAIL.out (by rw [pitem_if _ _ hp]; unfold pcmp; rw [HP1.out, Option.bind_some, HP2.out, Option.bind_some, HP3.out, Option.bind_some, HP4.out, Option.bind_some, hp5]; rfl)]
            rw [hp5] at hg
            obtain ⟨rfl, hlq⟩ := hg
            have hm_5 := hm_4.step hltB hkq hlq
            have HP5 := Lib.hid hp5
            clear hp5 hkq hlq
            refine hK.out _ _ trivial (fun hHeld => ?_)
            clear hK K
            try simp only [Act.put, List.setIfInBounds_toArray, List.set_cons_zero, List.set_cons_succ]
            try unfold i64v
            try unfold u64v
            refine wpAnyH_take (i := 12) (v := ?_) rfl (by kernel_rfl) (by kernel_rfl) (by kernel_rfl) (fun _ _ _ h => h) (Or.inl ⟨by rfl, ?_⟩) (by assumption) ?_
            rotate_left
            · (intro w hSw; (try dsimp only at hSw); go_simp; try with_reducible rfl)
            try simp only [Act.put, List.setIfInBounds_toArray, List.set_cons_zero, List.set_cons_succ]
            obtain ⟨v', w8, hap, hc8, hf8, hm8⟩ := hm_5.addCmp hltB hwB hrB ⟨ck, ca, ch, cn, cv⟩ (by have h9 := HSUM.out; simp only [List.length_cons] at h9; omega)
            obtain ⟨pa, pn, pc, hve⟩ : ∃ a n c, v' = .slice a n c := let ⟨a, c, h, _⟩ := ownsRow_len hm8.cmps; ⟨a, _, c, h⟩
            subst hve
            have HM8 := Lib.hid hm8
            clear hm8
            refine wpAnyH_ready (rs := [13]) (by kernel_rfl) (by simp) ?_
            refine AllReadyH.cons (o := ?_) (by simp only [List.getElem?_toArray, List.getElem?_cons_succ, List.getElem?_cons_zero]; exact rfl) (fun K hK => ?_) AllReadyH.nil
            rw [if_pos (by rfl)]
            refine wp_bs_run (.tmp 64) 56 rfl (by exact run_bs56 ⟨ck, ca, ch, cn, cv⟩ _) ?_
            refine hK.out _ _ trivial (fun hHeld => ?_)
            clear hK K
            try simp only [Act.put, List.setIfInBounds_toArray, List.set_cons_zero, List.set_cons_succ]
            refine wpAnyH_ready (rs := [14]) (by kernel_rfl) (by simp) ?_
            refine AllReadyH.cons (o := ?_) (by simp only [List.getElem?_toArray, List.getElem?_cons_succ, List.getElem?_cons_zero]; exact rfl) (fun K hK => ?_) AllReadyH.nil
            rw [if_pos (by rfl)]
            refine wp_append_run (.tmp 53) (.tmp 65) 56 rfl rfl (by exact hap) ?_
            refine hK.out _ _ trivial (fun hHeld => ?_)
            clear hK K
            try simp only [Act.put, List.setIfInBounds_toArray, List.set_cons_zero, List.set_cons_succ]
            refine wpAnyH_take (i := 15) (v := ?_) rfl (by kernel_rfl) (by kernel_rfl) (by kernel_rfl) (fun _ _ _ h => h) (Or.inl ⟨by rfl, ?_⟩) (by assumption) ?_
            rotate_left
            · (intro w hSw; (try dsimp only at hSw); go_simp; try with_reducible rfl)
            try simp only [Act.put, List.setIfInBounds_toArray, List.set_cons_zero, List.set_cons_succ]
            refine wpAnyH_ready (rs := [16]) (by kernel_rfl) (by simp) ?_
            refine AllReadyH.cons (o := ?_) (by simp only [List.getElem?_toArray, List.getElem?_cons_succ, List.getElem?_cons_zero]; exact rfl) (fun K hK => ?_) AllReadyH.nil
            go_simp
            refine hK.out _ _ trivial (fun hHeld => ?_)
            clear hK K
            try simp only [Act.put, List.setIfInBounds_toArray, List.set_cons_zero, List.set_cons_succ]
            refine wpAnyH_done (by kernel_rfl) ?_ _
            go_wp2_with fail
            have hpi : pitem st (_ :: wy) = some (_, z5) := (by rw [pitem_if _ _ hp]; unfold pcmp; rw [HP1.out, Option.bind_some, HP2.out, Option.bind_some, HP3.out, Option.bind_some, HP4.out, Option.bind_some, HP5.out, Option.bind_some]; rfl)
            have hpl := pitem_len hpi
            simp only [List.length_cons] at hpl
            refine ⟨⟨{ st with cmps := st.cmps ++ [⟨ck, ca, ch, cn, cv⟩] }, _, _, _, _, (congrArg (fun n : Nat => Value.int .i64 (n : Int)) hp.symm), hpt, HM8.out, ?_, ?_⟩, ?_⟩
            · rw [HOUT.out, items_cons, hpi]; rfl
            · have h9 := HSUM.out
              simp only [List.length_cons, List.length_append, List.length_nil] at h9 ⊢
              omega
            · rw [HM8.out.line.len, HLEN.out, List.length_cons]
              omega
          · go_simp
            refine (small_any lb rb wy _ hmD.line).mono ?_
            intro e q1 hg
            obtain ⟨hkq, hg⟩ := hg
            rcases hp1 : pnum 9 wy with _ | ⟨ca, z1⟩
            · rw [hp1] at hg
              subst hg
              refine ⟨rfl, hmD.keep.trans' hkq, ?_⟩
              rw [HFAIL.out (by rw [pitem_if _ _ hp]; unfold pcmp; rw [hp1]; rfl)]
            rw [hp1] at hg
            obtain ⟨rfl, hlq⟩ := hg
            have hm_1 := hmD.step hltB hkq hlq
            have hb_1 := pnum_le hp1
            have HP1 := Lib.hid hp1
            clear hp1 hkq hlq
            refine hK.out _ _ trivial (fun hHeld => ?_)
            clear hK K
            try simp only [Act.put, List.setIfInBounds_toArray, List.set_cons_zero, List.set_cons_succ]
            refine wpAnyH_ready (rs := [1, 5]) (by kernel_rfl) (by simp) ?_
            refine AllReadyH.cons (o := ?_) (by simp only [List.getElem?_toArray, List.getElem?_cons_succ, List.getElem?_cons_zero]; exact rfl) (fun K hK => ?_) (AllReadyH.cons (o := ?_) (by simp only [List.getElem?_toArray, List.getElem?_cons_succ, List.getElem?_cons_zero]; exact rfl) (fun K hK => ?_) AllReadyH.nil)
            · have hcl : q1.cell? ⟨B, 4, none⟩ = some vc := cell_of_block hm_1.res 4
              go_simp
              refine hK.out _ _ trivial (fun hHeld => ?_)
              clear hK K
              try simp only [Act.put, List.setIfInBounds_toArray, List.set_cons_zero, List.set_cons_succ]
              clear hcl
              refine wpAnyH_ready (rs := [5]) (by kernel_rfl) (by simp) ?_
              refine AllReadyH.cons (o := ?_) (by simp only [List.getElem?_toArray, List.getElem?_cons_succ, List.getElem?_cons_zero]; exact rfl) (fun K hK => ?_) AllReadyH.nil
              go_simp
              refine (small_any lb rb z1 _ hm_1.line).mono ?_
              intro e q2 hg
              obtain ⟨hkq, hg⟩ := hg
              rcases hp2 : pnum 9 z1 with _ | ⟨ch, z2⟩
              · rw [hp2] at hg
                subst hg
                refine ⟨rfl, hm_1.keep.trans' hkq, ?_⟩
                rw [HFAIL.out (by rw [pitem_if _ _ hp]; unfold pcmp; rw [HP1.out, Option.bind_some, hp2]; rfl)]
              rw [hp2] at hg
              obtain ⟨rfl, hlq⟩ := hg
              have hm_2 := hm_1.step hltB hkq hlq
              have hb_2 := pnum_le hp2
              have HP2 := Lib.hid hp2
              clear hp2 hkq hlq
              refine hK.out _ _ trivial (fun hHeld => ?_)
              clear hK K
              try simp only [Act.put, List.setIfInBounds_toArray, List.set_cons_zero, List.set_cons_succ]
              refine wpAnyH_ready (rs := [7]) (by kernel_rfl) (by simp) ?_
              refine AllReadyH.cons (o := ?_) (by simp only [List.getElem?_toArray, List.getElem?_cons_succ, List.getElem?_cons_zero]; exact rfl) (fun K hK => ?_) AllReadyH.nil
              go_simp
              refine (num_any lb rb z2 _ hm_2.line).mono ?_
              intro e q3 hg
              obtain ⟨hkq, hg⟩ := hg
              rcases hp3 : pnum most z2 with _ | ⟨cn, z3⟩
              · rw [hp3] at hg
                subst hg
                refine ⟨rfl, hm_2.keep.trans' hkq, ?_⟩
                rw [HFAIL.out (by rw [pitem_if _ _ hp]; unfold pcmp; rw [HP1.out, Option.bind_some, HP2.out, Option.bind_some, hp3]; rfl)]
              rw [hp3] at hg
              obtain ⟨rfl, hlq⟩ := hg
              have hm_3 := hm_2.step hltB hkq hlq
              have hb_3 := pnum_le hp3
              have HP3 := Lib.hid hp3
              clear hp3 hkq hlq
              refine hK.out _ _ trivial (fun hHeld => ?_)
              clear hK K
              try simp only [Act.put, List.setIfInBounds_toArray, List.set_cons_zero, List.set_cons_succ]
              refine wpAnyH_ready (rs := [9]) (by kernel_rfl) (by simp) ?_
              refine AllReadyH.cons (o := ?_) (by simp only [List.getElem?_toArray, List.getElem?_cons_succ, List.getElem?_cons_zero]; exact rfl) (fun K hK => ?_) AllReadyH.nil
              go_simp
              refine (bytes_any lb rb z3 _ hm_3.line).mono ?_
              intro e q4 hg
              obtain ⟨hkq, hg⟩ := hg
              rcases hp4 : pbytes z3 with _ | ⟨ck, z4⟩
              · rw [hp4] at hg
                subst hg
                refine ⟨rfl, hm_3.keep.trans' hkq, ?_⟩
                rw [HFAIL.out (by rw [pitem_if _ _ hp]; unfold pcmp; rw [HP1.out, Option.bind_some, HP2.out, Option.bind_some, HP3.out, Option.bind_some, hp4]; rfl)]
              rw [hp4] at hg
              obtain ⟨rfl, hlq⟩ := hg
              have hm_4 := hm_3.step hltB hkq hlq
              have HP4 := Lib.hid hp4
              clear hp4 hkq hlq
              refine hK.out _ _ trivial (fun hHeld => ?_)
              clear hK K
              try simp only [Act.put, List.setIfInBounds_toArray, List.set_cons_zero, List.set_cons_succ]
              refine wpAnyH_ready (rs := [11]) (by kernel_rfl) (by simp) ?_
              refine AllReadyH.cons (o := ?_) (by simp only [List.getElem?_toArray, List.getElem?_cons_succ, List.getElem?_cons_zero]; exact rfl) (fun K hK => ?_) AllReadyH.nil
              go_simp
              refine (bytes_any lb rb z4 _ hm_4.line).mono ?_
              intro e q5 hg
              obtain ⟨hkq, hg⟩ := hg
              rcases hp5 : pbytes z4 with _ | ⟨cv, z5⟩
              · rw [hp5] at hg
                subst hg
                refine ⟨rfl, hm_4.keep.trans' hkq, ?_⟩
                rw [HFAIL.out (by rw [pitem_if _ _ hp]; unfold pcmp; rw [HP1.out, Option.bind_some, HP2.out, Option.bind_some, HP3.out, Option.bind_some, HP4.out, Option.bind_some, hp5]; rfl)]
              rw [hp5] at hg
              obtain ⟨rfl, hlq⟩ := hg
              have hm_5 := hm_4.step hltB hkq hlq
              have HP5 := Lib.hid hp5
              clear hp5 hkq hlq
              refine hK.out _ _ trivial (fun hHeld => ?_)
              clear hK K
              try simp only [Act.put, List.setIfInBounds_toArray, List.set_cons_zero, List.set_cons_succ]
              try unfold i64v
              try unfold u64v
              refine wpAnyH_take (i := 12) (v := ?_) rfl (by kernel_rfl) (by kernel_rfl) (by kernel_rfl) (fun _ _ _ h => h) (Or.inl ⟨by rfl, ?_⟩) (by assumption) ?_
              rotate_left
              · (intro w hSw; (try dsimp only at hSw); go_simp; try with_reducible rfl)
              try simp only [Act.put, List.setIfInBounds_toArray, List.set_cons_zero, List.set_cons_succ]
              obtain ⟨v', w8, hap, hc8, hf8, hm8⟩ := hm_5.addCmp hltB hwB hrB ⟨ck, ca, ch, cn, cv⟩ (by have h9 := HSUM.out; simp only [List.length_cons] at h9; omega)
              obtain ⟨pa, pn, pc, hve⟩ : ∃ a n c, v' = .slice a n c := let ⟨a, c, h, _⟩ := ownsRow_len hm8.cmps; ⟨a, _, c, h⟩
              subst hve
              have HM8 := Lib.hid hm8
              clear hm8
              refine wpAnyH_ready (rs := [13]) (by kernel_rfl) (by simp) ?_
              refine AllReadyH.cons (o := ?_) (by simp only [List.getElem?_toArray, List.getElem?_cons_succ, List.getElem?_cons_zero]; exact rfl) (fun K hK => ?_) AllReadyH.nil
              rw [if_pos (by rfl)]
              refine wp_bs_run (.tmp 64) 56 rfl (by exact run_bs56 ⟨ck, ca, ch, cn, cv⟩ _) ?_
              refine hK.out _ _ trivial (fun hHeld => ?_)
              clear hK K
              try simp only [Act.put, List.setIfInBounds_toArray, List.set_cons_zero, List.set_cons_succ]
              refine wpAnyH_ready (rs := [14]) (by kernel_rfl) (by simp) ?_
              refine AllReadyH.cons (o := ?_) (by simp only [List.getElem?_toArray, List.getElem?_cons_succ, List.getElem?_cons_zero]; exact rfl) (fun K hK => ?_) AllReadyH.nil
              rw [if_pos (by rfl)]
              refine wp_append_run (.tmp 53) (.tmp 65) 56 rfl rfl (by exact hap) ?_
              refine hK.out _ _ trivial (fun hHeld => ?_)
              clear hK K
              try simp only [Act.put, List.setIfInBounds_toArray, List.set_cons_zero, List.set_cons_succ]
              refine wpAnyH_take (i := 15) (v := ?_) rfl (by kernel_rfl) (by kernel_rfl) (by kernel_rfl) (fun _ _ _ h => h) (Or.inl ⟨by rfl, ?_⟩) (by assumption) ?_
              rotate_left
              · (intro w hSw; (try dsimp only at hSw); go_simp; try with_reducible rfl)
              try simp only [Act.put, List.setIfInBounds_toArray, List.set_cons_zero, List.set_cons_succ]
              refine wpAnyH_ready (rs := [16]) (by kernel_rfl) (by simp) ?_
              refine AllReadyH.cons (o := ?_) (by simp only [List.getElem?_toArray, List.getElem?_cons_succ, List.getElem?_cons_zero]; exact rfl) (fun K hK => ?_) AllReadyH.nil
              go_simp
              refine hK.out _ _ trivial (fun hHeld => ?_)
              clear hK K
              try simp only [Act.put, List.setIfInBounds_toArray, List.set_cons_zero, List.set_cons_succ]
              refine wpAnyH_done (by kernel_rfl) ?_ _
              go_wp2_with fail
              have hpi : pitem st (_ :: wy) = some (_, z5) := (by rw [pitem_if _ _ hp]; unfold pcmp; rw [HP1.out, Option.bind_some, HP2.out, Option.bind_some, HP3.out, Option.bind_some, HP4.out, Option.bind_some, HP5.out, Option.bind_some]; rfl)
              have hpl := pitem_len hpi
              simp only [List.length_cons] at hpl
              refine ⟨⟨{ st with cmps := st.cmps ++ [⟨ck, ca, ch, cn, cv⟩] }, _, _, _, _, (congrArg (fun n : Nat => Value.int .i64 (n : Int)) hp.symm), hpt, HM8.out, ?_, ?_⟩, ?_⟩
              · rw [HOUT.out, items_cons, hpi]; rfl
              · have h9 := HSUM.out
                simp only [List.length_cons, List.length_append, List.length_nil] at h9 ⊢
                omega
              · rw [HM8.out.line.len, HLEN.out, List.length_cons]
                omega
            · go_simp
              refine (small_any lb rb z1 _ hm_1.line).mono ?_
              intro e q2 hg
              obtain ⟨hkq, hg⟩ := hg
              rcases hp2 : pnum 9 z1 with _ | ⟨ch, z2⟩
              · rw [hp2] at hg
                subst hg
                refine ⟨rfl, hm_1.keep.trans' hkq, ?_⟩
                rw [HFAIL.out (by rw [pitem_if _ _ hp]; unfold pcmp; rw [HP1.out, Option.bind_some, hp2]; rfl)]
              rw [hp2] at hg
              obtain ⟨rfl, hlq⟩ := hg
              have hm_2 := hm_1.step hltB hkq hlq
              have hb_2 := pnum_le hp2
              have HP2 := Lib.hid hp2
              clear hp2 hkq hlq
              refine hK.out _ _ trivial (fun hHeld => ?_)
              clear hK K
              try simp only [Act.put, List.setIfInBounds_toArray, List.set_cons_zero, List.set_cons_succ]
              refine wpAnyH_ready (rs := [1, 7]) (by kernel_rfl) (by simp) ?_
              refine AllReadyH.cons (o := ?_) (by simp only [List.getElem?_toArray, List.getElem?_cons_succ, List.getElem?_cons_zero]; exact rfl) (fun K hK => ?_) (AllReadyH.cons (o := ?_) (by simp only [List.getElem?_toArray, List.getElem?_cons_succ, List.getElem?_cons_zero]; exact rfl) (fun K hK => ?_) AllReadyH.nil)
              · have hcl : q2.cell? ⟨B, 4, none⟩ = some vc := cell_of_block hm_2.res 4
                go_simp
                refine hK.out _ _ trivial (fun hHeld => ?_)
                clear hK K
                try simp only [Act.put, List.setIfInBounds_toArray, List.set_cons_zero, List.set_cons_succ]
                clear hcl
                refine wpAnyH_ready (rs := [7]) (by kernel_rfl) (by simp) ?_
                refine AllReadyH.cons (o := ?_) (by simp only [List.getElem?_toArray, List.getElem?_cons_succ, List.getElem?_cons_zero]; exact rfl) (fun K hK => ?_) AllReadyH.nil
                go_simp
                refine (num_any lb rb z2 _ hm_2.line).mono ?_
                intro e q3 hg
                obtain ⟨hkq, hg⟩ := hg
                rcases hp3 : pnum most z2 with _ | ⟨cn, z3⟩
                · rw [hp3] at hg
                  subst hg
                  refine ⟨rfl, hm_2.keep.trans' hkq, ?_⟩
                  rw [HFAIL.out (by rw [pitem_if _ _ hp]; unfold pcmp; rw [HP1.out, Option.bind_some, HP2.out, Option.bind_some, hp3]; rfl)]
                rw [hp3] at hg
                obtain ⟨rfl, hlq⟩ := hg
                have hm_3 := hm_2.step hltB hkq hlq
                have hb_3 := pnum_le hp3
                have HP3 := Lib.hid hp3
                clear hp3 hkq hlq
                refine hK.out _ _ trivial (fun hHeld => ?_)
                clear hK K
                try simp only [Act.put, List.setIfInBounds_toArray, List.set_cons_zero, List.set_cons_succ]
                refine wpAnyH_ready (rs := [9]) (by kernel_rfl) (by simp) ?_
                refine AllReadyH.cons (o := ?_) (by simp only [List.getElem?_toArray, List.getElem?_cons_succ, List.getElem?_cons_zero]; exact rfl) (fun K hK => ?_) AllReadyH.nil
                go_simp
                refine (bytes_any lb rb z3 _ hm_3.line).mono ?_
                intro e q4 hg
                obtain ⟨hkq, hg⟩ := hg
                rcases hp4 : pbytes z3 with _ | ⟨ck, z4⟩
                · rw [hp4] at hg
                  subst hg
                  refine ⟨rfl, hm_3.keep.trans' hkq, ?_⟩
                  rw [HFAIL.out (by rw [pitem_if _ _ hp]; unfold pcmp; rw [HP1.out, Option.bind_some, HP2.out, Option.bind_some, HP3.out, Option.bind_some, hp4]; rfl)]
                rw [hp4] at hg
                obtain ⟨rfl, hlq⟩ := hg
                have hm_4 := hm_3.step hltB hkq hlq
                have HP4 := Lib.hid hp4
                clear hp4 hkq hlq
                refine hK.out _ _ trivial (fun hHeld => ?_)
                clear hK K
                try simp only [Act.put, List.setIfInBounds_toArray, List.set_cons_zero, List.set_cons_succ]
                refine wpAnyH_ready (rs := [11]) (by kernel_rfl) (by simp) ?_
                refine AllReadyH.cons (o := ?_) (by simp only [List.getElem?_toArray, List.getElem?_cons_succ, List.getElem?_cons_zero]; exact rfl) (fun K hK => ?_) AllReadyH.nil
                go_simp
                refine (bytes_any lb rb z4 _ hm_4.line).mono ?_
                intro e q5 hg
                obtain ⟨hkq, hg⟩ := hg
                rcases hp5 : pbytes z4 with _ | ⟨cv, z5⟩
                · rw [hp5] at hg
                  subst hg
                  refine ⟨rfl, hm_4.keep.trans' hkq, ?_⟩
                  rw [HFAIL.out (by rw [pitem_if _ _ hp]; unfold pcmp; rw [HP1.out, Option.bind_some, HP2.out, Option.bind_some, HP3.out, Option.bind_some, HP4.out, Option.bind_some, hp5]; rfl)]
                rw [hp5] at hg
                obtain ⟨rfl, hlq⟩ := hg
                have hm_5 := hm_4.step hltB hkq hlq
                have HP5 := Lib.hid hp5
                clear hp5 hkq hlq
                refine hK.out _ _ trivial (fun hHeld => ?_)
                clear hK K
                try simp only [Act.put, List.setIfInBounds_toArray, List.set_cons_zero, List.set_cons_succ]
                try unfold i64v
                try unfold u64v
                refine wpAnyH_take (i := 12) (v := ?_) rfl (by kernel_rfl) (by kernel_rfl) (by kernel_rfl) (fun _ _ _ h => h) (Or.inl ⟨by rfl, ?_⟩) (by assumption) ?_
                rotate_left
                · (intro w hSw; (try dsimp only at hSw); go_simp; try with_reducible rfl)
                try simp only [Act.put, List.setIfInBounds_toArray, List.set_cons_zero, List.set_cons_succ]
                obtain ⟨v', w8, hap, hc8, hf8, hm8⟩ := hm_5.addCmp hltB hwB hrB ⟨ck, ca, ch, cn, cv⟩ (by have h9 := HSUM.out; simp only [List.length_cons] at h9; omega)
                obtain ⟨pa, pn, pc, hve⟩ : ∃ a n c, v' = .slice a n c := let ⟨a, c, h, _⟩ := ownsRow_len hm8.cmps; ⟨a, _, c, h⟩
                subst hve
                have HM8 := Lib.hid hm8
                clear hm8
                refine wpAnyH_ready (rs := [13]) (by kernel_rfl) (by simp) ?_
                refine AllReadyH.cons (o := ?_) (by simp only [List.getElem?_toArray, List.getElem?_cons_succ, List.getElem?_cons_zero]; exact rfl) (fun K hK => ?_) AllReadyH.nil
                rw [if_pos (by rfl)]
                refine wp_bs_run (.tmp 64) 56 rfl (by exact run_bs56 ⟨ck, ca, ch, cn, cv⟩ _) ?_
                refine hK.out _ _ trivial (fun hHeld => ?_)
                clear hK K
                try simp only [Act.put, List.setIfInBounds_toArray, List.set_cons_zero, List.set_cons_succ]
                refine wpAnyH_ready (rs := [14]) (by kernel_rfl) (by simp) ?_
                refine AllReadyH.cons (o := ?_) (by simp only [List.getElem?_toArray, List.getElem?_cons_succ, List.getElem?_cons_zero]; exact rfl) (fun K hK => ?_) AllReadyH.nil
                rw [if_pos (by rfl)]
                refine wp_append_run (.tmp 53) (.tmp 65) 56 rfl rfl (by exact hap) ?_
                refine hK.out _ _ trivial (fun hHeld => ?_)
                clear hK K
                try simp only [Act.put, List.setIfInBounds_toArray, List.set_cons_zero, List.set_cons_succ]
                refine wpAnyH_take (i := 15) (v := ?_) rfl (by kernel_rfl) (by kernel_rfl) (by kernel_rfl) (fun _ _ _ h => h) (Or.inl ⟨by rfl, ?_⟩) (by assumption) ?_
                rotate_left
                · (intro w hSw; (try dsimp only at hSw); go_simp; try with_reducible rfl)
                try simp only [Act.put, List.setIfInBounds_toArray, List.set_cons_zero, List.set_cons_succ]
                refine wpAnyH_ready (rs := [16]) (by kernel_rfl) (by simp) ?_
                refine AllReadyH.cons (o := ?_) (by simp only [List.getElem?_toArray, List.getElem?_cons_succ, List.getElem?_cons_zero]; exact rfl) (fun K hK => ?_) AllReadyH.nil
                go_simp
                refine hK.out _ _ trivial (fun hHeld => ?_)
                clear hK K
                try simp only [Act.put, List.setIfInBounds_toArray, List.set_cons_zero, List.set_cons_succ]
                refine wpAnyH_done (by kernel_rfl) ?_ _
                go_wp2_with fail
                have hpi : pitem st (_ :: wy) = some (_, z5) := (by rw [pitem_if _ _ hp]; unfold pcmp; rw [HP1.out, Option.bind_some, HP2.out, Option.bind_some, HP3.out, Option.bind_some, HP4.out, Option.bind_some, HP5.out, Option.bind_some]; rfl)
                have hpl := pitem_len hpi
                simp only [List.length_cons] at hpl
                refine ⟨⟨{ st with cmps := st.cmps ++ [⟨ck, ca, ch, cn, cv⟩] }, _, _, _, _, (congrArg (fun n : Nat => Value.int .i64 (n : Int)) hp.symm), hpt, HM8.out, ?_, ?_⟩, ?_⟩
                · rw [HOUT.out, items_cons, hpi]; rfl
                · have h9 := HSUM.out
                  simp only [List.length_cons, List.length_append, List.length_nil] at h9 ⊢
                  omega
                · rw [HM8.out.line.len, HLEN.out, List.length_cons]
                  omega
              · go_simp
                refine (num_any lb rb z2 _ hm_2.line).mono ?_
                intro e q3 hg
                obtain ⟨hkq, hg⟩ := hg
                rcases hp3 : pnum most z2 with _ | ⟨cn, z3⟩
                · rw [hp3] at hg
                  subst hg
                  refine ⟨rfl, hm_2.keep.trans' hkq, ?_⟩
                  rw [HFAIL.out (by rw [pitem_if _ _ hp]; unfold pcmp; rw [HP1.out, Option.bind_some, HP2.out, Option.bind_some, hp3]; rfl)]
                rw [hp3] at hg
                obtain ⟨rfl, hlq⟩ := hg
                have hm_3 := hm_2.step hltB hkq hlq
                have hb_3 := pnum_le hp3
                have HP3 := Lib.hid hp3
                clear hp3 hkq hlq
                refine hK.out _ _ trivial (fun hHeld => ?_)
                clear hK K
                try simp only [Act.put, List.setIfInBounds_toArray, List.set_cons_zero, List.set_cons_succ]
                refine wpAnyH_ready (rs := [1, 9]) (by kernel_rfl) (by simp) ?_
                refine AllReadyH.cons (o := ?_) (by simp only [List.getElem?_toArray, List.getElem?_cons_succ, List.getElem?_cons_zero]; exact rfl) (fun K hK => ?_) (AllReadyH.cons (o := ?_) (by simp only [List.getElem?_toArray, List.getElem?_cons_succ, List.getElem?_cons_zero]; exact rfl) (fun K hK => ?_) AllReadyH.nil)
                · have hcl : q3.cell? ⟨B, 4, none⟩ = some vc := cell_of_block hm_3.res 4
                  go_simp
                  refine hK.out _ _ trivial (fun hHeld => ?_)
                  clear hK K
                  try simp only [Act.put, List.setIfInBounds_toArray, List.set_cons_zero, List.set_cons_succ]
                  clear hcl
                  refine wpAnyH_ready (rs := [9]) (by kernel_rfl) (by simp) ?_
                  refine AllReadyH.cons (o := ?_) (by simp only [List.getElem?_toArray, List.getElem?_cons_succ, List.getElem?_cons_zero]; exact rfl) (fun K hK => ?_) AllReadyH.nil
                  go_simp
                  refine (bytes_any lb rb z3 _ hm_3.line).mono ?_
                  intro e q4 hg
                  obtain ⟨hkq, hg⟩ := hg
                  rcases hp4 : pbytes z3 with _ | ⟨ck, z4⟩
                  · rw [hp4] at hg
                    subst hg
                    refine ⟨rfl, hm_3.keep.trans' hkq, ?_⟩
                    rw [HFAIL.out (by rw [pitem_if _ _ hp]; unfold pcmp; rw [HP1.out, Option.bind_some, HP2.out, Option.bind_some, HP3.out, Option.bind_some, hp4]; rfl)]
                  rw [hp4] at hg
                  obtain ⟨rfl, hlq⟩ := hg
                  have hm_4 := hm_3.step hltB hkq hlq
                  have HP4 := Lib.hid hp4
                  clear hp4 hkq hlq
                  refine hK.out _ _ trivial (fun hHeld => ?_)
                  clear hK K
                  try simp only [Act.put, List.setIfInBounds_toArray, List.set_cons_zero, List.set_cons_succ]
                  refine wpAnyH_ready (rs := [11]) (by kernel_rfl) (by simp) ?_
                  refine AllReadyH.cons (o := ?_) (by simp only [List.getElem?_toArray, List.getElem?_cons_succ, List.getElem?_cons_zero]; exact rfl) (fun K hK => ?_) AllReadyH.nil
                  go_simp
                  refine (bytes_any lb rb z4 _ hm_4.line).mono ?_
                  intro e q5 hg
                  obtain ⟨hkq, hg⟩ := hg
                  rcases hp5 : pbytes z4 with _ | ⟨cv, z5⟩
                  · rw [hp5] at hg
                    subst hg
                    refine ⟨rfl, hm_4.keep.trans' hkq, ?_⟩
                    rw [HFAIL.out (by rw [pitem_if _ _ hp]; unfold pcmp; rw [HP1.out, Option.bind_some, HP2.out, Option.bind_some, HP3.out, Option.bind_some, HP4.out, Option.bind_some, hp5]; rfl)]
                  rw [hp5] at hg
                  obtain ⟨rfl, hlq⟩ := hg
                  have hm_5 := hm_4.step hltB hkq hlq
                  have HP5 := Lib.hid hp5
                  clear hp5 hkq hlq
                  refine hK.out _ _ trivial (fun hHeld => ?_)
                  clear hK K
                  try simp only [Act.put, List.setIfInBounds_toArray, List.set_cons_zero, List.set_cons_succ]
                  try unfold i64v
                  try unfold u64v
                  refine wpAnyH_take (i := 12) (v := ?_) rfl (by kernel_rfl) (by kernel_rfl) (by kernel_rfl) (fun _ _ _ h => h) (Or.inl ⟨by rfl, ?_⟩) (by assumption) ?_
                  rotate_left
                  · (intro w hSw; (try dsimp only at hSw); go_simp; try with_reducible rfl)
                  try simp only [Act.put, List.setIfInBounds_toArray, List.set_cons_zero, List.set_cons_succ]
                  obtain ⟨v', w8, hap, hc8, hf8, hm8⟩ := hm_5.addCmp hltB hwB hrB ⟨ck, ca, ch, cn, cv⟩ (by have h9 := HSUM.out; simp only [List.length_cons] at h9; omega)
                  obtain ⟨pa, pn, pc, hve⟩ : ∃ a n c, v' = .slice a n c := let ⟨a, c, h, _⟩ := ownsRow_len hm8.cmps; ⟨a, _, c, h⟩
                  subst hve
                  have HM8 := Lib.hid hm8
                  clear hm8
                  refine wpAnyH_ready (rs := [13]) (by kernel_rfl) (by simp) ?_
                  refine AllReadyH.cons (o := ?_) (by simp only [List.getElem?_toArray, List.getElem?_cons_succ, List.getElem?_cons_zero]; exact rfl) (fun K hK => ?_) AllReadyH.nil
                  rw [if_pos (by rfl)]
                  refine wp_bs_run (.tmp 64) 56 rfl (by exact run_bs56 ⟨ck, ca, ch, cn, cv⟩ _) ?_
                  refine hK.out _ _ trivial (fun hHeld => ?_)
                  clear hK K
                  try simp only [Act.put, List.setIfInBounds_toArray, List.set_cons_zero, List.set_cons_succ]
                  refine wpAnyH_ready (rs := [14]) (by kernel_rfl) (by simp) ?_
                  refine AllReadyH.cons (o := ?_) (by simp only [List.getElem?_toArray, List.getElem?_cons_succ, List.getElem?_cons_zero]; exact rfl) (fun K hK => ?_) AllReadyH.nil
                  rw [if_pos (by rfl)]
                  refine wp_append_run (.tmp 53) (.tmp 65) 56 rfl rfl (by exact hap) ?_
                  refine hK.out _ _ trivial (fun hHeld => ?_)
                  clear hK K
                  try simp only [Act.put, List.setIfInBounds_toArray, List.set_cons_zero, List.set_cons_succ]
                  refine wpAnyH_take (i := 15) (v := ?_) rfl (by kernel_rfl) (by kernel_rfl) (by kernel_rfl) (fun _ _ _ h => h) (Or.inl ⟨by rfl, ?_⟩) (by assumption) ?_
                  rotate_left
                  · (intro w hSw; (try dsimp only at hSw); go_simp; try with_reducible rfl)
                  try simp only [Act.put, List.setIfInBounds_toArray, List.set_cons_zero, List.set_cons_succ]
                  refine wpAnyH_ready (rs := [16]) (by kernel_rfl) (by simp) ?_
                  refine AllReadyH.cons (o := ?_) (by simp only [List.getElem?_toArray, List.getElem?_cons_succ, List.getElem?_cons_zero]; exact rfl) (fun K hK => ?_) AllReadyH.nil
                  go_simp
                  refine hK.out _ _ trivial (fun hHeld => ?_)
                  clear hK K
                  try simp only [Act.put, List.setIfInBounds_toArray, List.set_cons_zero, List.set_cons_succ]
                  refine wpAnyH_done (by kernel_rfl) ?_ _
                  go_wp2_with fail
                  have hpi : pitem st (_ :: wy) = some (_, z5) := (by rw [pitem_if _ _ hp]; unfold pcmp; rw [HP1.out, Option.bind_some, HP2.out, Option.bind_some, HP3.out, Option.bind_some, HP4.out, Option.bind_some, HP5.out, Option.bind_some]; rfl)
                  have hpl := pitem_len hpi
                  simp only [List.length_cons] at hpl
                  refine ⟨⟨{ st with cmps := st.cmps ++ [⟨ck, ca, ch, cn, cv⟩] }, _, _, _, _, (congrArg (fun n : Nat => Value.int .i64 (n : Int)) hp.symm), hpt, HM8.out, ?_, ?_⟩, ?_⟩
                  · rw [HOUT.out, items_cons, hpi]; rfl
                  · have h9 := HSUM.out
                    simp only [List.length_cons, List.length_append, List.length_nil] at h9 ⊢
                    omega
                  · rw [HM8.out.line.len, HLEN.out, List.length_cons]
                    omega
                · go_simp
                  refine (bytes_any lb rb z3 _ hm_3.line).mono ?_
                  intro e q4 hg
                  obtain ⟨hkq, hg⟩ := hg
                  rcases hp4 : pbytes z3 with _ | ⟨ck, z4⟩
                  · rw [hp4] at hg
                    subst hg
                    refine ⟨rfl, hm_3.keep.trans' hkq, ?_⟩
                    rw [HFAIL.out (by rw [pitem_if _ _ hp]; unfold pcmp; rw [HP1.out, Option.bind_some, HP2.out, Option.bind_some, HP3.out, Option.bind_some, hp4]; rfl)]
                  rw [hp4] at hg
                  obtain ⟨rfl, hlq⟩ := hg
                  have hm_4 := hm_3.step hltB hkq hlq
                  have HP4 := Lib.hid hp4
                  clear hp4 hkq hlq
                  refine hK.out _ _ trivial (fun hHeld => ?_)
                  clear hK K
                  try simp only [Act.put, List.setIfInBounds_toArray, List.set_cons_zero, List.set_cons_succ]
                  refine wpAnyH_ready (rs := [1, 11]) (by kernel_rfl) (by simp) ?_
                  refine AllReadyH.cons (o := ?_) (by simp only [List.getElem?_toArray, List.getElem?_cons_succ, List.getElem?_cons_zero]; exact rfl) (fun K hK => ?_) (AllReadyH.cons (o := ?_) (by simp only [List.getElem?_toArray, List.getElem?_cons_succ, List.getElem?_cons_zero]; exact rfl) (fun K hK => ?_) AllReadyH.nil)
                  · have hcl : q4.cell? ⟨B, 4, none⟩ = some vc := cell_of_block hm_4.res 4
                    go_simp
                    refine hK.out _ _ trivial (fun hHeld => ?_)
                    clear hK K
                    try simp only [Act.put, List.setIfInBounds_toArray, List.set_cons_zero, List.set_cons_succ]
                    clear hcl
                    refine wpAnyH_ready (rs := [11]) (by kernel_rfl) (by simp) ?_
                    refine AllReadyH.cons (o := ?_) (by simp only [List.getElem?_toArray, List.getElem?_cons_succ, List.getElem?_cons_zero]; exact rfl) (fun K hK => ?_) AllReadyH.nil
                    go_simp
                    refine (bytes_any lb rb z4 _ hm_4.line).mono ?_
                    intro e q5 hg
                    obtain ⟨hkq, hg⟩ := hg
                    rcases hp5 : pbytes z4 with _ | ⟨cv, z5⟩
                    · rw [hp5] at hg
                      subst hg
                      refine ⟨rfl, hm_4.keep.trans' hkq, ?_⟩
                      rw [HFAIL.out (by rw [pitem_if _ _ hp]; unfold pcmp; rw [HP1.out, Option.bind_some, HP2.out, Option.bind_some, HP3.out, Option.bind_some, HP4.out, Option.bind_some, hp5]; rfl)]
                    rw [hp5] at hg
                    obtain ⟨rfl, hlq⟩ := hg
                    have hm_5 := hm_4.step hltB hkq hlq
                    have HP5 := Lib.hid hp5
                    clear hp5 hkq hlq
                    refine hK.out _ _ trivial (fun hHeld => ?_)
                    clear hK K
                    try simp only [Act.put, List.setIfInBounds_toArray, List.set_cons_zero, List.set_cons_succ]
                    try unfold i64v
                    try unfold u64v
                    refine wpAnyH_take (i := 12) (v := ?_) rfl (by kernel_rfl) (by kernel_rfl) (by kernel_rfl) (fun _ _ _ h => h) (Or.inl ⟨by rfl, ?_⟩) (by assumption) ?_
                    rotate_left
                    · (intro w hSw; (try dsimp only at hSw); go_simp; try with_reducible rfl)
                    try simp only [Act.put, List.setIfInBounds_toArray, List.set_cons_zero, List.set_cons_succ]
                    obtain ⟨v', w8, hap, hc8, hf8, hm8⟩ := hm_5.addCmp hltB hwB hrB ⟨ck, ca, ch, cn, cv⟩ (by have h9 := HSUM.out; simp only [List.length_cons] at h9; omega)
                    obtain ⟨pa, pn, pc, hve⟩ : ∃ a n c, v' = .slice a n c := let ⟨a, c, h, _⟩ := ownsRow_len hm8.cmps; ⟨a, _, c, h⟩
                    subst hve
                    have HM8 := Lib.hid hm8
                    clear hm8
                    refine wpAnyH_ready (rs := [13]) (by kernel_rfl) (by simp) ?_
                    refine AllReadyH.cons (o := ?_) (by simp only [List.getElem?_toArray, List.getElem?_cons_succ, List.getElem?_cons_zero]; exact rfl) (fun K hK => ?_) AllReadyH.nil
                    rw [if_pos (by rfl)]
                    refine wp_bs_run (.tmp 64) 56 rfl (by exact run_bs56 ⟨ck, ca, ch, cn, cv⟩ _) ?_
                    refine hK.out _ _ trivial (fun hHeld => ?_)
                    clear hK K
                    try simp only [Act.put, List.setIfInBounds_toArray, List.set_cons_zero, List.set_cons_succ]
                    refine wpAnyH_ready (rs := [14]) (by kernel_rfl) (by simp) ?_
                    refine AllReadyH.cons (o := ?_) (by simp only [List.getElem?_toArray, List.getElem?_cons_succ, List.getElem?_cons_zero]; exact rfl) (fun K hK => ?_) AllReadyH.nil
                    rw [if_pos (by rfl)]
                    refine wp_append_run (.tmp 53) (.tmp 65) 56 rfl rfl (by exact hap) ?_
                    refine hK.out _ _ trivial (fun hHeld => ?_)
                    clear hK K
                    try simp only [Act.put, List.setIfInBounds_toArray, List.set_cons_zero, List.set_cons_succ]
                    refine wpAnyH_take (i := 15) (v := ?_) rfl (by kernel_rfl) (by kernel_rfl) (by kernel_rfl) (fun _ _ _ h => h) (Or.inl ⟨by rfl, ?_⟩) (by assumption) ?_
                    rotate_left
                    · (intro w hSw; (try dsimp only at hSw); go_simp; try with_reducible rfl)
                    try simp only [Act.put, List.setIfInBounds_toArray, List.set_cons_zero, List.set_cons_succ]
                    refine wpAnyH_ready (rs := [16]) (by kernel_rfl) (by simp) ?_
                    refine AllReadyH.cons (o := ?_) (by simp only [List.getElem?_toArray, List.getElem?_cons_succ, List.getElem?_cons_zero]; exact rfl) (fun K hK => ?_) AllReadyH.nil
                    go_simp
                    refine hK.out _ _ trivial (fun hHeld => ?_)
                    clear hK K
                    try simp only [Act.put, List.setIfInBounds_toArray, List.set_cons_zero, List.set_cons_succ]
                    refine wpAnyH_done (by kernel_rfl) ?_ _
                    go_wp2_with fail
                    have hpi : pitem st (_ :: wy) = some (_, z5) := (by rw [pitem_if _ _ hp]; unfold pcmp; rw [HP1.out, Option.bind_some, HP2.out, Option.bind_some, HP3.out, Option.bind_some, HP4.out, Option.bind_some, HP5.out, Option.bind_some]; rfl)
                    have hpl := pitem_len hpi
                    simp only [List.length_cons] at hpl
                    refine ⟨⟨{ st with cmps := st.cmps ++ [⟨ck, ca, ch, cn, cv⟩] }, _, _, _, _, (congrArg (fun n : Nat => Value.int .i64 (n : Int)) hp.symm), hpt, HM8.out, ?_, ?_⟩, ?_⟩
                    · rw [HOUT.out, items_cons, hpi]; rfl
                    · have h9 := HSUM.out
                      simp only [List.length_cons, List.length_append, List.length_nil] at h9 ⊢
                      omega
                    · rw [HM8.out.line.len, HLEN.out, List.length_cons]
                      omega
                  · go_simp
                    refine (bytes_any lb rb z4 _ hm_4.line).mono ?_
                    intro e q5 hg
                    obtain ⟨hkq, hg⟩ := hg
                    rcases hp5 : pbytes z4 with _ | ⟨cv, z5⟩
                    · rw [hp5] at hg
                      subst hg
                      refine ⟨rfl, hm_4.keep.trans' hkq, ?_⟩
                      rw [HFAIL.out (by rw [pitem_if _ _ hp]; unfold pcmp; rw [HP1.out, Option.bind_some, HP2.out, Option.bind_some, HP3.out, Option.bind_some, HP4.out, Option.bind_some, hp5]; rfl)]
                    rw [hp5] at hg
                    obtain ⟨rfl, hlq⟩ := hg
                    have hm_5 := hm_4.step hltB hkq hlq
                    have HP5 := Lib.hid hp5
                    clear hp5 hkq hlq
                    refine hK.out _ _ trivial (fun hHeld => ?_)
                    clear hK K
                    try simp only [Act.put, List.setIfInBounds_toArray, List.set_cons_zero, List.set_cons_succ]
                    try unfold i64v
                    try unfold u64v
                    refine wpAnyH_take (i := 12) (v := ?_) rfl (by kernel_rfl) (by kernel_rfl) (by kernel_rfl) (fun _ _ _ h => h) (Or.inl ⟨by rfl, ?_⟩) (by assumption) ?_
                    rotate_left
                    · (intro w hSw; (try dsimp only at hSw); go_simp; try with_reducible rfl)
                    try simp only [Act.put, List.setIfInBounds_toArray, List.set_cons_zero, List.set_cons_succ]
                    obtain ⟨v', w8, hap, hc8, hf8, hm8⟩ := hm_5.addCmp hltB hwB hrB ⟨ck, ca, ch, cn, cv⟩ (by have h9 := HSUM.out; simp only [List.length_cons] at h9; omega)
                    obtain ⟨pa, pn, pc, hve⟩ : ∃ a n c, v' = .slice a n c := let ⟨a, c, h, _⟩ := ownsRow_len hm8.cmps; ⟨a, _, c, h⟩
                    subst hve
                    have HM8 := Lib.hid hm8
                    clear hm8
                    refine wpAnyH_ready (rs := [1, 13]) (by kernel_rfl) (by simp) ?_
                    refine AllReadyH.cons (o := ?_) (by simp only [List.getElem?_toArray, List.getElem?_cons_succ, List.getElem?_cons_zero]; exact rfl) (fun K hK => ?_) (AllReadyH.cons (o := ?_) (by simp only [List.getElem?_toArray, List.getElem?_cons_succ, List.getElem?_cons_zero]; exact rfl) (fun K hK => ?_) AllReadyH.nil)
                    · have hcl : q5.cell? ⟨B, 4, none⟩ = some vc := cell_of_block hm_5.res 4
                      go_simp
                      refine hK.out _ _ trivial (fun hHeld => ?_)
                      clear hK K
                      try simp only [Act.put, List.setIfInBounds_toArray, List.set_cons_zero, List.set_cons_succ]
                      clear hcl
                      refine wpAnyH_ready (rs := [13]) (by kernel_rfl) (by simp) ?_
                      refine AllReadyH.cons (o := ?_) (by simp only [List.getElem?_toArray, List.getElem?_cons_succ, List.getElem?_cons_zero]; exact rfl) (fun K hK => ?_) AllReadyH.nil
                      rw [if_pos (by rfl)]
                      refine wp_bs_run (.tmp 64) 56 rfl (by exact run_bs56 ⟨ck, ca, ch, cn, cv⟩ _) ?_
                      refine hK.out _ _ trivial (fun hHeld => ?_)
                      clear hK K
                      try simp only [Act.put, List.setIfInBounds_toArray, List.set_cons_zero, List.set_cons_succ]
                      refine wpAnyH_ready (rs := [14]) (by kernel_rfl) (by simp) ?_
                      refine AllReadyH.cons (o := ?_) (by simp only [List.getElem?_toArray, List.getElem?_cons_succ, List.getElem?_cons_zero]; exact rfl) (fun K hK => ?_) AllReadyH.nil
                      rw [if_pos (by rfl)]
                      refine wp_append_run (.tmp 53) (.tmp 65) 56 rfl rfl (by exact hap) ?_
                      refine hK.out _ _ trivial (fun hHeld => ?_)
                      clear hK K
                      try simp only [Act.put, List.setIfInBounds_toArray, List.set_cons_zero, List.set_cons_succ]
                      refine wpAnyH_take (i := 15) (v := ?_) rfl (by kernel_rfl) (by kernel_rfl) (by kernel_rfl) (fun _ _ _ h => h) (Or.inl ⟨by rfl, ?_⟩) (by assumption) ?_
                      rotate_left
                      · (intro w hSw; (try dsimp only at hSw); go_simp; try with_reducible rfl)
                      try simp only [Act.put, List.setIfInBounds_toArray, List.set_cons_zero, List.set_cons_succ]
                      refine wpAnyH_ready (rs := [16]) (by kernel_rfl) (by simp) ?_
                      refine AllReadyH.cons (o := ?_) (by simp only [List.getElem?_toArray, List.getElem?_cons_succ, List.getElem?_cons_zero]; exact rfl) (fun K hK => ?_) AllReadyH.nil
                      go_simp
                      refine hK.out _ _ trivial (fun hHeld => ?_)
                      clear hK K
                      try simp only [Act.put, List.setIfInBounds_toArray, List.set_cons_zero, List.set_cons_succ]
                      refine wpAnyH_done (by kernel_rfl) ?_ _
                      go_wp2_with fail
                      have hpi : pitem st (_ :: wy) = some (_, z5) := (by rw [pitem_if _ _ hp]; unfold pcmp; rw [HP1.out, Option.bind_some, HP2.out, Option.bind_some, HP3.out, Option.bind_some, HP4.out, Option.bind_some, HP5.out, Option.bind_some]; rfl)
                      have hpl := pitem_len hpi
                      simp only [List.length_cons] at hpl
                      refine ⟨⟨{ st with cmps := st.cmps ++ [⟨ck, ca, ch, cn, cv⟩] }, _, _, _, _, (congrArg (fun n : Nat => Value.int .i64 (n : Int)) hp.symm), hpt, HM8.out, ?_, ?_⟩, ?_⟩
                      · rw [HOUT.out, items_cons, hpi]; rfl
                      · have h9 := HSUM.out
                        simp only [List.length_cons, List.length_append, List.length_nil] at h9 ⊢
                        omega
                      · rw [HM8.out.line.len, HLEN.out, List.length_cons]
                        omega
                    · rw [if_pos (by rfl)]
                      refine wp_bs_run (.tmp 64) 56 rfl (by exact run_bs56 ⟨ck, ca, ch, cn, cv⟩ _) ?_
                      refine hK.out _ _ trivial (fun hHeld => ?_)
                      clear hK K
                      try simp only [Act.put, List.setIfInBounds_toArray, List.set_cons_zero, List.set_cons_succ]
                      refine wpAnyH_ready (rs := [1]) (by kernel_rfl) (by simp) ?_
                      refine AllReadyH.cons (o := ?_) (by simp only [List.getElem?_toArray, List.getElem?_cons_succ, List.getElem?_cons_zero]; exact rfl) (fun K hK => ?_) AllReadyH.nil
                      have hcl : (q5.alloc (Obj.cells (cmpCells ⟨ck, ca, ch, cn, cv⟩) 65 (0, 0))).cell? ⟨B, 4, none⟩ = some vc := cell_of_block (hm_5.alloc hltB (Obj.cells (cmpCells ⟨ck, ca, ch, cn, cv⟩) 65 (0, 0))).res 4
                      go_simp
                      refine hK.out _ _ trivial (fun hHeld => ?_)
                      clear hK K
                      try simp only [Act.put, List.setIfInBounds_toArray, List.set_cons_zero, List.set_cons_succ]
                      clear hcl
                      refine wpAnyH_ready (rs := [14]) (by kernel_rfl) (by simp) ?_
                      refine AllReadyH.cons (o := ?_) (by simp only [List.getElem?_toArray, List.getElem?_cons_succ, List.getElem?_cons_zero]; exact rfl) (fun K hK => ?_) AllReadyH.nil
                      rw [if_pos (by rfl)]
                      refine wp_append_run (.tmp 53) (.tmp 65) 56 rfl rfl (by exact hap) ?_
                      refine hK.out _ _ trivial (fun hHeld => ?_)
                      clear hK K
                      try simp only [Act.put, List.setIfInBounds_toArray, List.set_cons_zero, List.set_cons_succ]
                      refine wpAnyH_take (i := 15) (v := ?_) rfl (by kernel_rfl) (by kernel_rfl) (by kernel_rfl) (fun _ _ _ h => h) (Or.inl ⟨by rfl, ?_⟩) (by assumption) ?_
                      rotate_left
                      · (intro w hSw; (try dsimp only at hSw); go_simp; try with_reducible rfl)
                      try simp only [Act.put, List.setIfInBounds_toArray, List.set_cons_zero, List.set_cons_succ]
                      refine wpAnyH_ready (rs := [16]) (by kernel_rfl) (by simp) ?_
                      refine AllReadyH.cons (o := ?_) (by simp only [List.getElem?_toArray, List.getElem?_cons_succ, List.getElem?_cons_zero]; exact rfl) (fun K hK => ?_) AllReadyH.nil
                      go_simp
                      refine hK.out _ _ trivial (fun hHeld => ?_)
                      clear hK K
                      try simp only [Act.put, List.setIfInBounds_toArray, List.set_cons_zero, List.set_cons_succ]
                      refine wpAnyH_done (by kernel_rfl) ?_ _
                      go_wp2_with fail
                      have hpi : pitem st (_ :: wy) = some (_, z5) := (by rw [pitem_if _ _ hp]; unfold pcmp; rw [HP1.out, Option.bind_some, HP2.out, Option.bind_some, HP3.out, Option.bind_some, HP4.out, Option.bind_some, HP5.out, Option.bind_some]; rfl)
                      have hpl := pitem_len hpi
                      simp only [List.length_cons] at hpl
                      refine ⟨⟨{ st with cmps := st.cmps ++ [⟨ck, ca, ch, cn, cv⟩] }, _, _, _, _, (congrArg (fun n : Nat => Value.int .i64 (n : Int)) hp.symm), hpt, HM8.out, ?_, ?_⟩, ?_⟩
                      · rw [HOUT.out, items_cons, hpi]; rfl
                      · have h9 := HSUM.out
                        simp only [List.length_cons, List.length_append, List.length_nil] at h9 ⊢
                        omega
                      · rw [HM8.out.line.len, HLEN.out, List.length_cons]
                        omega
        · have hp1 : decide ((0 : Int) ≥ (st.part : Int)) = false := decide_eq_false (by omega)
          go_wp2_with fail
          refine (must_no _ _).mono ?_
          rintro e w' ⟨rfl, rfl⟩
          refine ⟨rfl, HM6.out.keep, ?_⟩
          rw [HFAIL.out (pitem_if_no st wy hp)]
      by_cases hy1 : y = wThen
      · subst hy1
        rw [show idxOf wOrder wThen = 1 from by decide]
        by_cases hp : st.part ≤ 1
        · have hp1 : decide ((1 : Int) ≥ (st.part : Int)) = true := decide_eq_true (by omega)
          go_wp2_with fail
          refine (must_ok _ _).mono ?_
          rintro e w' ⟨rfl, rfl⟩
          go_wp2_with fail
          have hmD := HM6.out.drew hltB
          refine wp_region_held_drew (S := fun _ => True) (by kernel_rfl) trivial (fun hHeld => ?_)
          generalize w6.drew = V0 at *
          refine wpAnyH_take (i := 0) (v := ?_) rfl (by kernel_rfl) (by kernel_rfl) (by kernel_rfl) (fun _ _ _ h => h) (Or.inl ⟨by rfl, ?_⟩) (by assumption) ?_
          rotate_left
          · (intro w hSw; (try dsimp only at hSw); go_simp; try with_reducible rfl)
          try simp only [Act.put, List.setIfInBounds_toArray, List.set_cons_zero, List.set_cons_succ]
          refine wpAnyH_take (i := 2) (v := ?_) rfl (by kernel_rfl) (by kernel_rfl) (by kernel_rfl) (fun _ _ _ h => h) (Or.inl ⟨by rfl, ?_⟩) (by assumption) ?_
          rotate_left
          · (intro w hSw; (try dsimp only at hSw); go_simp; try with_reducible rfl)
          try simp only [Act.put, List.setIfInBounds_toArray, List.set_cons_zero, List.set_cons_succ]
          refine wpAnyH_ready (rs := [1, 3]) (by kernel_rfl) (by simp) ?_
          refine AllReadyH.cons (o := ?_) (by simp only [List.getElem?_toArray, List.getElem?_cons_succ, List.getElem?_cons_zero]; exact rfl) (fun K hK => ?_) (AllReadyH.cons (o := ?_) (by simp only [List.getElem?_toArray, List.getElem?_cons_succ, List.getElem?_cons_zero]; exact rfl) (fun K hK => ?_) AllReadyH.nil)
          · have hcl : V0.cell? ⟨B, 5, none⟩ = some vt := cell_of_block hmD.res 5
            go_simp
            refine hK.out _ _ trivial (fun hHeld => ?_)
            clear hK K
            try simp only [Act.put, List.setIfInBounds_toArray, List.set_cons_zero, List.set_cons_succ]
            clear hcl
            refine wpAnyH_ready (rs := [3]) (by kernel_rfl) (by simp) ?_
            refine AllReadyH.cons (o := ?_) (by simp only [List.getElem?_toArray, List.getElem?_cons_succ, List.getElem?_cons_zero]; exact rfl) (fun K hK => ?_) AllReadyH.nil
            go_simp
            refine (op_any lb rb wy _ hmD.line).mono ?_
            intro e q1 hg
            obtain ⟨hkq, hg⟩ := hg
            rcases hp1 : pop wy with _ | ⟨x, z1⟩
            · rw [hp1] at hg
              subst hg
              refine ⟨rfl, hmD.keep.trans' hkq, ?_⟩
              rw [HFAIL.out (by rw [pitem_then _ _ hp, hp1]; rfl)]
            rw [hp1] at hg
            obtain ⟨rfl, hlq⟩ := hg
            have hm_1 := hmD.step hltB hkq hlq
            have HP1 := Lib.hid hp1
            clear hp1 hkq hlq
            refine hK.out _ _ trivial (fun hHeld => ?_)
            clear hK K
            try simp only [Act.put, List.setIfInBounds_toArray, List.set_cons_zero, List.set_cons_succ]
            obtain ⟨v', w8, hap, hc8, hf8, hm8⟩ := hm_1.addThn hltB hwB hrB x (by have h9 := HSUM.out; simp only [List.length_cons] at h9; omega)
            obtain ⟨pa, pn, pc, hve⟩ : ∃ a n c, v' = .slice a n c := let ⟨a, c, h, _⟩ := ownsRow_len hm8.thn; ⟨a, _, c, h⟩
            subst hve
            have HM8 := Lib.hid hm8
            clear hm8
            refine wpAnyH_ready (rs := [4]) (by kernel_rfl) (by simp) ?_
            refine AllReadyH.cons (o := ?_) (by simp only [List.getElem?_toArray, List.getElem?_cons_succ, List.getElem?_cons_zero]; exact rfl) (fun K hK => ?_) AllReadyH.nil
            rw [if_pos (by rfl)]
            refine wp_bs_run (.tmp 73) 57 rfl (by exact run_bs57 x _) ?_
            refine hK.out _ _ trivial (fun hHeld => ?_)
            clear hK K
            try simp only [Act.put, List.setIfInBounds_toArray, List.set_cons_zero, List.set_cons_succ]
            refine wpAnyH_ready (rs := [5]) (by kernel_rfl) (by simp) ?_
            refine AllReadyH.cons (o := ?_) (by simp only [List.getElem?_toArray, List.getElem?_cons_succ, List.getElem?_cons_zero]; exact rfl) (fun K hK => ?_) AllReadyH.nil
            rw [if_pos (by rfl)]
            refine wp_append_run (.tmp 71) (.tmp 74) 57 rfl rfl (by exact hap) ?_
            refine hK.out _ _ trivial (fun hHeld => ?_)
            clear hK K
            try simp only [Act.put, List.setIfInBounds_toArray, List.set_cons_zero, List.set_cons_succ]
            refine wpAnyH_take (i := 6) (v := ?_) rfl (by kernel_rfl) (by kernel_rfl) (by kernel_rfl) (fun _ _ _ h => h) (Or.inl ⟨by rfl, ?_⟩) (by assumption) ?_
            rotate_left
            · (intro w hSw; (try dsimp only at hSw); go_simp; try with_reducible rfl)
            try simp only [Act.put, List.setIfInBounds_toArray, List.set_cons_zero, List.set_cons_succ]
            refine wpAnyH_ready (rs := [7]) (by kernel_rfl) (by simp) ?_
            refine AllReadyH.cons (o := ?_) (by simp only [List.getElem?_toArray, List.getElem?_cons_succ, List.getElem?_cons_zero]; exact rfl) (fun K hK => ?_) AllReadyH.nil
            go_simp
            refine hK.out _ _ trivial (fun hHeld => ?_)
            clear hK K
            try simp only [Act.put, List.setIfInBounds_toArray, List.set_cons_zero, List.set_cons_succ]
            refine wpAnyH_done (by kernel_rfl) ?_ _
            go_wp2_with fail
            have hpi : pitem st (_ :: wy) = some (_, z1) := (by rw [pitem_then _ _ hp]; rw [HP1.out]; rfl)
            have hpl := pitem_len hpi
            simp only [List.length_cons] at hpl
            refine ⟨⟨_, _, _, _, _, rfl, Nat.le_succ 1, HM8.out, ?_, ?_⟩, ?_⟩
            · rw [HOUT.out, items_cons, hpi]; rfl
            · have h9 := HSUM.out
              simp only [List.length_cons, List.length_append, List.length_nil] at h9 ⊢
              omega
            · rw [HM8.out.line.len, HLEN.out, List.length_cons]
              omega
          · go_simp
            refine (op_any lb rb wy _ hmD.line).mono ?_
            intro e q1 hg
            obtain ⟨hkq, hg⟩ := hg
            rcases hp1 : pop wy with _ | ⟨x, z1⟩
            · rw [hp1] at hg
              subst hg
              refine ⟨rfl, hmD.keep.trans' hkq, ?_⟩
              rw [HFAIL.out (by rw [pitem_then _ _ hp, hp1]; rfl)]
            rw [hp1] at hg
            obtain ⟨rfl, hlq⟩ := hg
            have hm_1 := hmD.step hltB hkq hlq
            have HP1 := Lib.hid hp1
            clear hp1 hkq hlq
            refine hK.out _ _ trivial (fun hHeld => ?_)
            clear hK K
            try simp only [Act.put, List.setIfInBounds_toArray, List.set_cons_zero, List.set_cons_succ]
            obtain ⟨v', w8, hap, hc8, hf8, hm8⟩ := hm_1.addThn hltB hwB hrB x (by have h9 := HSUM.out; simp only [List.length_cons] at h9; omega)
            obtain ⟨pa, pn, pc, hve⟩ : ∃ a n c, v' = .slice a n c := let ⟨a, c, h, _⟩ := ownsRow_len hm8.thn; ⟨a, _, c, h⟩
            subst hve
            have HM8 := Lib.hid hm8
            clear hm8
            refine wpAnyH_ready (rs := [1, 4]) (by kernel_rfl) (by simp) ?_
            refine AllReadyH.cons (o := ?_) (by simp only [List.getElem?_toArray, List.getElem?_cons_succ, List.getElem?_cons_zero]; exact rfl) (fun K hK => ?_) (AllReadyH.cons (o := ?_) (by simp only [List.getElem?_toArray, List.getElem?_cons_succ, List.getElem?_cons_zero]; exact rfl) (fun K hK => ?_) AllReadyH.nil)
            · have hcl : q1.cell? ⟨B, 5, none⟩ = some vt := cell_of_block hm_1.res 5
              go_simp
              refine hK.out _ _ trivial (fun hHeld => ?_)
              clear hK K
              try simp only [Act.put, List.setIfInBounds_toArray, List.set_cons_zero, List.set_cons_succ]
              clear hcl
              refine wpAnyH_ready (rs := [4]) (by kernel_rfl) (by simp) ?_
              refine AllReadyH.cons (o := ?_) (by simp only [List.getElem?_toArray, List.getElem?_cons_succ, List.getElem?_cons_zero]; exact rfl) (fun K hK => ?_) AllReadyH.nil
              rw [if_pos (by rfl)]
              refine wp_bs_run (.tmp 73) 57 rfl (by exact run_bs57 x _) ?_
              refine hK.out _ _ trivial (fun hHeld => ?_)
              clear hK K
              try simp only [Act.put, List.setIfInBounds_toArray, List.set_cons_zero, List.set_cons_succ]
              refine wpAnyH_ready (rs := [5]) (by kernel_rfl) (by simp) ?_
              refine AllReadyH.cons (o := ?_) (by simp only [List.getElem?_toArray, List.getElem?_cons_succ, List.getElem?_cons_zero]; exact rfl) (fun K hK => ?_) AllReadyH.nil
              rw [if_pos (by rfl)]
              refine wp_append_run (.tmp 71) (.tmp 74) 57 rfl rfl (by exact hap) ?_
              refine hK.out _ _ trivial (fun hHeld => ?_)
              clear hK K
              try simp only [Act.put, List.setIfInBounds_toArray, List.set_cons_zero, List.set_cons_succ]
              refine wpAnyH_take (i := 6) (v := ?_) rfl (by kernel_rfl) (by kernel_rfl) (by kernel_rfl) (fun _ _ _ h => h) (Or.inl ⟨by rfl, ?_⟩) (by assumption) ?_
              rotate_left
              · (intro w hSw; (try dsimp only at hSw); go_simp; try with_reducible rfl)
              try simp only [Act.put, List.setIfInBounds_toArray, List.set_cons_zero, List.set_cons_succ]
              refine wpAnyH_ready (rs := [7]) (by kernel_rfl) (by simp) ?_
              refine AllReadyH.cons (o := ?_) (by simp only [List.getElem?_toArray, List.getElem?_cons_succ, List.getElem?_cons_zero]; exact rfl) (fun K hK => ?_) AllReadyH.nil
              go_simp
              refine hK.out _ _ trivial (fun hHeld => ?_)
              clear hK K
              try simp only [Act.put, List.setIfInBounds_toArray, List.set_cons_zero, List.set_cons_succ]
              refine wpAnyH_done (by kernel_rfl) ?_ _
              go_wp2_with fail
              have hpi : pitem st (_ :: wy) = some (_, z1) := (by rw [pitem_then _ _ hp]; rw [HP1.out]; rfl)
              have hpl := pitem_len hpi
              simp only [List.length_cons] at hpl
              refine ⟨⟨_, _, _, _, _, rfl, Nat.le_succ 1, HM8.out, ?_, ?_⟩, ?_⟩
              · rw [HOUT.out, items_cons, hpi]; rfl
              · have h9 := HSUM.out
                simp only [List.length_cons, List.length_append, List.length_nil] at h9 ⊢
                omega
              · rw [HM8.out.line.len, HLEN.out, List.length_cons]
                omega
            · rw [if_pos (by rfl)]
              refine wp_bs_run (.tmp 73) 57 rfl (by exact run_bs57 x _) ?_
              refine hK.out _ _ trivial (fun hHeld => ?_)
              clear hK K
              try simp only [Act.put, List.setIfInBounds_toArray, List.set_cons_zero, List.set_cons_succ]
              refine wpAnyH_ready (rs := [1]) (by kernel_rfl) (by simp) ?_
              refine AllReadyH.cons (o := ?_) (by simp only [List.getElem?_toArray, List.getElem?_cons_succ, List.getElem?_cons_zero]; exact rfl) (fun K hK => ?_) AllReadyH.nil
              have hcl : (q1.alloc (Obj.cells (opCells x) 67 (0, 0))).cell? ⟨B, 5, none⟩ = some vt := cell_of_block (hm_1.alloc hltB (Obj.cells (opCells x) 67 (0, 0))).res 5
              go_simp
              refine hK.out _ _ trivial (fun hHeld => ?_)
              clear hK K
              try simp only [Act.put, List.setIfInBounds_toArray, List.set_cons_zero, List.set_cons_succ]
              clear hcl
              refine wpAnyH_ready (rs := [5]) (by kernel_rfl) (by simp) ?_
              refine AllReadyH.cons (o := ?_) (by simp only [List.getElem?_toArray, List.getElem?_cons_succ, List.getElem?_cons_zero]; exact rfl) (fun K hK => ?_) AllReadyH.nil
              rw [if_pos (by rfl)]
              refine wp_append_run (.tmp 71) (.tmp 74) 57 rfl rfl (by exact hap) ?_
              refine hK.out _ _ trivial (fun hHeld => ?_)
              clear hK K
              try simp only [Act.put, List.setIfInBounds_toArray, List.set_cons_zero, List.set_cons_succ]
              refine wpAnyH_take (i := 6) (v := ?_) rfl (by kernel_rfl) (by kernel_rfl) (by kernel_rfl) (fun _ _ _ h => h) (Or.inl ⟨by rfl, ?_⟩) (by assumption) ?_
              rotate_left
              · (intro w hSw; (try dsimp only at hSw); go_simp; try with_reducible rfl)
              try simp only [Act.put, List.setIfInBounds_toArray, List.set_cons_zero, List.set_cons_succ]
              refine wpAnyH_ready (rs := [7]) (by kernel_rfl) (by simp) ?_
              refine AllReadyH.cons (o := ?_) (by simp only [List.getElem?_toArray, List.getElem?_cons_succ, List.getElem?_cons_zero]; exact rfl) (fun K hK => ?_) AllReadyH.nil
              go_simp
              refine hK.out _ _ trivial (fun hHeld => ?_)
              clear hK K
              try simp only [Act.put, List.setIfInBounds_toArray, List.set_cons_zero, List.set_cons_succ]
              refine wpAnyH_done (by kernel_rfl) ?_ _
              go_wp2_with fail
              have hpi : pitem st (_ :: wy) = some (_, z1) := (by rw [pitem_then _ _ hp]; rw [HP1.out]; rfl)
              have hpl := pitem_len hpi
              simp only [List.length_cons] at hpl
              refine ⟨⟨_, _, _, _, _, rfl, Nat.le_succ 1, HM8.out, ?_, ?_⟩, ?_⟩
              · rw [HOUT.out, items_cons, hpi]; rfl
              · have h9 := HSUM.out
                simp only [List.length_cons, List.length_append, List.length_nil] at h9 ⊢
                omega
              · rw [HM8.out.line.len, HLEN.out, List.length_cons]
                omega
        · have hp1 : decide ((1 : Int) ≥ (st.part : Int)) = false := decide_eq_false (by omega)
          go_wp2_with fail
          refine (must_no _ _).mono ?_
          rintro e w' ⟨rfl, rfl⟩
          refine ⟨rfl, HM6.out.keep, ?_⟩
          rw [HFAIL.out (pitem_then_no st wy hp)]
      by_cases hy2 : y = wElse
      · subst hy2
        rw [show idxOf wOrder wElse = 2 from by decide]
        have hp1 : decide ((2 : Int) ≥ (st.part : Int)) = true := decide_eq_true (by omega)
        go_wp2_with fail
        refine (must_ok _ _).mono ?_
        rintro e w' ⟨rfl, rfl⟩
        go_wp2_with fail
        have hmD := HM6.out.drew hltB
        refine wp_region_held_drew (S := fun _ => True) (by kernel_rfl) trivial (fun hHeld => ?_)
        generalize w6.drew = V0 at *
        refine wpAnyH_take (i := 0) (v := ?_) rfl (by kernel_rfl) (by kernel_rfl) (by kernel_rfl) (fun _ _ _ h => h) (Or.inl ⟨by rfl, ?_⟩) (by assumption) ?_
        rotate_left
        · (intro w hSw; (try dsimp only at hSw); go_simp; try with_reducible rfl)
        try simp only [Act.put, List.setIfInBounds_toArray, List.set_cons_zero, List.set_cons_succ]
        refine wpAnyH_take (i := 2) (v := ?_) rfl (by kernel_rfl) (by kernel_rfl) (by kernel_rfl) (fun _ _ _ h => h) (Or.inl ⟨by rfl, ?_⟩) (by assumption) ?_
        rotate_left
        · (intro w hSw; (try dsimp only at hSw); go_simp; try with_reducible rfl)
        try simp only [Act.put, List.setIfInBounds_toArray, List.set_cons_zero, List.set_cons_succ]
        refine wpAnyH_ready (rs := [1, 3]) (by kernel_rfl) (by simp) ?_
        refine AllReadyH.cons (o := ?_) (by simp only [List.getElem?_toArray, List.getElem?_cons_succ, List.getElem?_cons_zero]; exact rfl) (fun K hK => ?_) (AllReadyH.cons (o := ?_) (by simp only [List.getElem?_toArray, List.getElem?_cons_succ, List.getElem?_cons_zero]; exact rfl) (fun K hK => ?_) AllReadyH.nil)
        · have hcl : V0.cell? ⟨B, 6, none⟩ = some ve := cell_of_block hmD.res 6
          go_simp
          refine hK.out _ _ trivial (fun hHeld => ?_)
          clear hK K
          try simp only [Act.put, List.setIfInBounds_toArray, List.set_cons_zero, List.set_cons_succ]
          clear hcl
          refine wpAnyH_ready (rs := [3]) (by kernel_rfl) (by simp) ?_
          refine AllReadyH.cons (o := ?_) (by simp only [List.getElem?_toArray, List.getElem?_cons_succ, List.getElem?_cons_zero]; exact rfl) (fun K hK => ?_) AllReadyH.nil
          go_simp
          refine (op_any lb rb wy _ hmD.line).mono ?_
          intro e q1 hg
          obtain ⟨hkq, hg⟩ := hg
          rcases hp1 : pop wy with _ | ⟨x, z1⟩
          · rw [hp1] at hg
            subst hg
            refine ⟨rfl, hmD.keep.trans' hkq, ?_⟩
            rw [HFAIL.out (by rw [pitem_else, hp1]; rfl)]
          rw [hp1] at hg
          obtain ⟨rfl, hlq⟩ := hg
          have hm_1 := hmD.step hltB hkq hlq
          have HP1 := Lib.hid hp1
          clear hp1 hkq hlq
          refine hK.out _ _ trivial (fun hHeld => ?_)
          clear hK K
          try simp only [Act.put, List.setIfInBounds_toArray, List.set_cons_zero, List.set_cons_succ]
          obtain ⟨v', w8, hap, hc8, hf8, hm8⟩ := hm_1.addEls hltB hwB hrB x (by have h9 := HSUM.out; simp only [List.length_cons] at h9; omega)
          obtain ⟨pa, pn, pc, hve⟩ : ∃ a n c, v' = .slice a n c := let ⟨a, c, h, _⟩ := ownsRow_len hm8.els; ⟨a, _, c, h⟩
          subst hve
          have HM8 := Lib.hid hm8
          clear hm8
          refine wpAnyH_ready (rs := [4]) (by kernel_rfl) (by simp) ?_
          refine AllReadyH.cons (o := ?_) (by simp only [List.getElem?_toArray, List.getElem?_cons_succ, List.getElem?_cons_zero]; exact rfl) (fun K hK => ?_) AllReadyH.nil
          rw [if_pos (by rfl)]
          refine wp_bs_run (.tmp 46) 57 rfl (by exact run_bs57 x _) ?_
          refine hK.out _ _ trivial (fun hHeld => ?_)
          clear hK K
          try simp only [Act.put, List.setIfInBounds_toArray, List.set_cons_zero, List.set_cons_succ]
          refine wpAnyH_ready (rs := [5]) (by kernel_rfl) (by simp) ?_
          refine AllReadyH.cons (o := ?_) (by simp only [List.getElem?_toArray, List.getElem?_cons_succ, List.getElem?_cons_zero]; exact rfl) (fun K hK => ?_) AllReadyH.nil
          rw [if_pos (by rfl)]
          refine wp_append_run (.tmp 44) (.tmp 47) 57 rfl rfl (by exact hap) ?_
          refine hK.out _ _ trivial (fun hHeld => ?_)
          clear hK K
          try simp only [Act.put, List.setIfInBounds_toArray, List.set_cons_zero, List.set_cons_succ]
          refine wpAnyH_take (i := 6) (v := ?_) rfl (by kernel_rfl) (by kernel_rfl) (by kernel_rfl) (fun _ _ _ h => h) (Or.inl ⟨by rfl, ?_⟩) (by assumption) ?_
          rotate_left
          · (intro w hSw; (try dsimp only at hSw); go_simp; try with_reducible rfl)
          try simp only [Act.put, List.setIfInBounds_toArray, List.set_cons_zero, List.set_cons_succ]
          refine wpAnyH_ready (rs := [7]) (by kernel_rfl) (by simp) ?_
          refine AllReadyH.cons (o := ?_) (by simp only [List.getElem?_toArray, List.getElem?_cons_succ, List.getElem?_cons_zero]; exact rfl) (fun K hK => ?_) AllReadyH.nil
          go_simp
          refine hK.out _ _ trivial (fun hHeld => ?_)
          clear hK K
          try simp only [Act.put, List.setIfInBounds_toArray, List.set_cons_zero, List.set_cons_succ]
          refine wpAnyH_done (by kernel_rfl) ?_ _
          go_wp2_with fail
          have hpi : pitem st (_ :: wy) = some (_, z1) := (by rw [pitem_else]; rw [HP1.out]; rfl)
          have hpl := pitem_len hpi
          simp only [List.length_cons] at hpl
          refine ⟨⟨_, _, _, _, _, rfl, Nat.le_refl 2, HM8.out, ?_, ?_⟩, ?_⟩
          · rw [HOUT.out, items_cons, hpi]; rfl
          · have h9 := HSUM.out
            simp only [List.length_cons, List.length_append, List.length_nil] at h9 ⊢
            omega
          · rw [HM8.out.line.len, HLEN.out, List.length_cons]
            omega
        · go_simp
          refine (op_any lb rb wy _ hmD.line).mono ?_
          intro e q1 hg
          obtain ⟨hkq, hg⟩ := hg
          rcases hp1 : pop wy with _ | ⟨x, z1⟩
          · rw [hp1] at hg
            subst hg
            refine ⟨rfl, hmD.keep.trans' hkq, ?_⟩
            rw [HFAIL.out (by rw [pitem_else, hp1]; rfl)]
          rw [hp1] at hg
          obtain ⟨rfl, hlq⟩ := hg
          have hm_1 := hmD.step hltB hkq hlq
          have HP1 := Lib.hid hp1
          clear hp1 hkq hlq
          refine hK.out _ _ trivial (fun hHeld => ?_)
          clear hK K
          try simp only [Act.put, List.setIfInBounds_toArray, List.set_cons_zero, List.set_cons_succ]
          obtain ⟨v', w8, hap, hc8, hf8, hm8⟩ := hm_1.addEls hltB hwB hrB x (by have h9 := HSUM.out; simp only [List.length_cons] at h9; omega)
          obtain ⟨pa, pn, pc, hve⟩ : ∃ a n c, v' = .slice a n c := let ⟨a, c, h, _⟩ := ownsRow_len hm8.els; ⟨a, _, c, h⟩
          subst hve
          have HM8 := Lib.hid hm8
          clear hm8
          refine wpAnyH_ready (rs := [1, 4]) (by kernel_rfl) (by simp) ?_
          refine AllReadyH.cons (o := ?_) (by simp only [List.getElem?_toArray, List.getElem?_cons_succ, List.getElem?_cons_zero]; exact rfl) (fun K hK => ?_) (AllReadyH.cons (o := ?_) (by simp only [List.getElem?_toArray, List.getElem?_cons_succ, List.getElem?_cons_zero]; exact rfl) (fun K hK => ?_) AllReadyH.nil)
          · have hcl : q1.cell? ⟨B, 6, none⟩ = some ve := cell_of_block hm_1.res 6
            go_simp
            refine hK.out _ _ trivial (fun hHeld => ?_)
            clear hK K
            try simp only [Act.put, List.setIfInBounds_toArray, List.set_cons_zero, List.set_cons_succ]
            clear hcl
            refine wpAnyH_ready (rs := [4]) (by kernel_rfl) (by simp) ?_
            refine AllReadyH.cons (o := ?_) (by simp only [List.getElem?_toArray, List.getElem?_cons_succ, List.getElem?_cons_zero]; exact rfl) (fun K hK => ?_) AllReadyH.nil
            rw [if_pos (by rfl)]
            refine wp_bs_run (.tmp 46) 57 rfl (by exact run_bs57 x _) ?_
            refine hK.out _ _ trivial (fun hHeld => ?_)
            clear hK K
            try simp only [Act.put, List.setIfInBounds_toArray, List.set_cons_zero, List.set_cons_succ]
            refine wpAnyH_ready (rs := [5]) (by kernel_rfl) (by simp) ?_
            refine AllReadyH.cons (o := ?_) (by simp only [List.getElem?_toArray, List.getElem?_cons_succ, List.getElem?_cons_zero]; exact rfl) (fun K hK => ?_) AllReadyH.nil
            rw [if_pos (by rfl)]
            refine wp_append_run (.tmp 44) (.tmp 47) 57 rfl rfl (by exact hap) ?_
            refine hK.out _ _ trivial (fun hHeld => ?_)
            clear hK K
            try simp only [Act.put, List.setIfInBounds_toArray, List.set_cons_zero, List.set_cons_succ]
            refine wpAnyH_take (i := 6) (v := ?_) rfl (by kernel_rfl) (by kernel_rfl) (by kernel_rfl) (fun _ _ _ h => h) (Or.inl ⟨by rfl, ?_⟩) (by assumption) ?_
            rotate_left
            · (intro w hSw; (try dsimp only at hSw); go_simp; try with_reducible rfl)
            try simp only [Act.put, List.setIfInBounds_toArray, List.set_cons_zero, List.set_cons_succ]
            refine wpAnyH_ready (rs := [7]) (by kernel_rfl) (by simp) ?_
            refine AllReadyH.cons (o := ?_) (by simp only [List.getElem?_toArray, List.getElem?_cons_succ, List.getElem?_cons_zero]; exact rfl) (fun K hK => ?_) AllReadyH.nil
            go_simp
            refine hK.out _ _ trivial (fun hHeld => ?_)
            clear hK K
            try simp only [Act.put, List.setIfInBounds_toArray, List.set_cons_zero, List.set_cons_succ]
            refine wpAnyH_done (by kernel_rfl) ?_ _
            go_wp2_with fail
            have hpi : pitem st (_ :: wy) = some (_, z1) := (by rw [pitem_else]; rw [HP1.out]; rfl)
            have hpl := pitem_len hpi
            simp only [List.length_cons] at hpl
            refine ⟨⟨_, _, _, _, _, rfl, Nat.le_refl 2, HM8.out, ?_, ?_⟩, ?_⟩
            · rw [HOUT.out, items_cons, hpi]; rfl
            · have h9 := HSUM.out
              simp only [List.length_cons, List.length_append, List.length_nil] at h9 ⊢
              omega
            · rw [HM8.out.line.len, HLEN.out, List.length_cons]
              omega
          · rw [if_pos (by rfl)]
            refine wp_bs_run (.tmp 46) 57 rfl (by exact run_bs57 x _) ?_
            refine hK.out _ _ trivial (fun hHeld => ?_)
            clear hK K
            try simp only [Act.put, List.setIfInBounds_toArray, List.set_cons_zero, List.set_cons_succ]
            refine wpAnyH_ready (rs := [1]) (by kernel_rfl) (by simp) ?_
            refine AllReadyH.cons (o := ?_) (by simp only [List.getElem?_toArray, List.getElem?_cons_succ, List.getElem?_cons_zero]; exact rfl) (fun K hK => ?_) AllReadyH.nil
            have hcl : (q1.alloc (Obj.cells (opCells x) 67 (0, 0))).cell? ⟨B, 6, none⟩ = some ve := cell_of_block (hm_1.alloc hltB (Obj.cells (opCells x) 67 (0, 0))).res 6
            go_simp
            refine hK.out _ _ trivial (fun hHeld => ?_)
            clear hK K
            try simp only [Act.put, List.setIfInBounds_toArray, List.set_cons_zero, List.set_cons_succ]
            clear hcl
            refine wpAnyH_ready (rs := [5]) (by kernel_rfl) (by simp) ?_
            refine AllReadyH.cons (o := ?_) (by simp only [List.getElem?_toArray, List.getElem?_cons_succ, List.getElem?_cons_zero]; exact rfl) (fun K hK => ?_) AllReadyH.nil
            rw [if_pos (by rfl)]
            refine wp_append_run (.tmp 44) (.tmp 47) 57 rfl rfl (by exact hap) ?_
            refine hK.out _ _ trivial (fun hHeld => ?_)
            clear hK K
            try simp only [Act.put, List.setIfInBounds_toArray, List.set_cons_zero, List.set_cons_succ]
            refine wpAnyH_take (i := 6) (v := ?_) rfl (by kernel_rfl) (by kernel_rfl) (by kernel_rfl) (fun _ _ _ h => h) (Or.inl ⟨by rfl, ?_⟩) (by assumption) ?_
            rotate_left
            · (intro w hSw; (try dsimp only at hSw); go_simp; try with_reducible rfl)
            try simp only [Act.put, List.setIfInBounds_toArray, List.set_cons_zero, List.set_cons_succ]
            refine wpAnyH_ready (rs := [7]) (by kernel_rfl) (by simp) ?_
            refine AllReadyH.cons (o := ?_) (by simp only [List.getElem?_toArray, List.getElem?_cons_succ, List.getElem?_cons_zero]; exact rfl) (fun K hK => ?_) AllReadyH.nil
            go_simp
            refine hK.out _ _ trivial (fun hHeld => ?_)
            clear hK K
            try simp only [Act.put, List.setIfInBounds_toArray, List.set_cons_zero, List.set_cons_succ]
            refine wpAnyH_done (by kernel_rfl) ?_ _
            go_wp2_with fail
            have hpi : pitem st (_ :: wy) = some (_, z1) := (by rw [pitem_else]; rw [HP1.out]; rfl)
            have hpl := pitem_len hpi
            simp only [List.length_cons] at hpl
            refine ⟨⟨_, _, _, _, _, rfl, Nat.le_refl 2, HM8.out, ?_, ?_⟩, ?_⟩
            · rw [HOUT.out, items_cons, hpi]; rfl
            · have h9 := HSUM.out
              simp only [List.length_cons, List.length_append, List.length_nil] at h9 ⊢
              omega
            · rw [HM8.out.line.len, HLEN.out, List.length_cons]
              omega
      · rw [order_no y hy0 hy1 hy2]
        have hp1 : decide ((-1 : Int) ≥ (st.part : Int)) = false := decide_eq_false (by omega)
        go_wp2_with fail
        refine (must_no _ _).mono ?_
        rintro e w' ⟨rfl, rfl⟩
        refine ⟨rfl, HM6.out.keep, ?_⟩
        rw [HFAIL.out (pitem_no st y wy hy0 hy1 hy2)]
end Go.Proofs.YtifliekahdgobaaGreatDoor
