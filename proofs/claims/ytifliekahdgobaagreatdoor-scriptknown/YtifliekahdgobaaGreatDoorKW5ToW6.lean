/-
  THE WALKS, 5: op's three closures (printed by wip/tools/gen_op.py). Helpers of the claims.
  MAPS KEYED BY STRINGS: what an insert, a look-up does to a block that is known whole. Helpers of the claims.
  THE WALKS, 6: op. Helpers of the claims.
-/
import Derived.Deep.RegionHeld3
import Derived.MapKept
import Derived.Maps.RangeRun
import Derived.Laws.EntriesVeiled
import Derived.Test.YtifliekahdgobaaGreatDoorKW1ToW4
import Derived.Test.YtifliekahdgobaaGreatDoorKSpecToThT
set_option linter.unusedSimpArgs false
set_option linter.unusedVariables false
namespace Go.Proofs.YtifliekahdgobaaGreatDoor
open Go.RowKit Sp

theorem len_two {α : Type} {l : List α} (h : l.length = 2) : ∃ a b, l = [a, b] := by
  match l, h with
  | [a, b], _ => exact ⟨a, b, rfl⟩
theorem len_four {α : Type} {l : List α} (h : l.length = 4) : ∃ a b c d, l = [a, b, c, d] := by
  match l, h with
  | [a, b, c, d], _ => exact ⟨a, b, c, d, rfl⟩
/-- an operation's cells -/
def opCells (x : OpS) : Array Value := #[.int .i64 x.kind, sv x.key, sv x.fin, sv x.val, .int .u64 x.rev, .int .i64 x.limit, .bool x.count, .bool x.keys, .bool x.prev]
def opZero : OpS := ⟨0, [], [], [], 0, 0, false, false, false⟩

/-- what a closure that reads into a variable (block xb) comes to -/
def GotInto {α : Type} (enc : α → Array Value) (T : TypeId) (lb rb xb : Nat) (w : World) (r : Option (α × List Str)) (e : Ending) (w' : World) : Prop :=
  Keep (fun b => b = lb ∨ b = xb) w w' ∧ match r with
    | some (a, ws) => e = .returned (.tuple #[]) ∧ LineAt w' lb rb ws ∧ w'.heap[xb]? = some (.cells (enc a) T (0, 0))
    | none => e = gaveUp 4

set_option maxRecDepth 100000 in
set_option maxHeartbeats 1600000 in
theorem range_any (lb rb tx lx xb : Nat) (ws : List Str) (w : World) (h : LineAt w lb rb ws)
    (ht : w.cell? ⟨tx, 0, none⟩ = some (.func (.func 103) #[.pointer (some ⟨lb, 0, none⟩)] #[])) (hl : w.cell? ⟨lx, 0, none⟩ = some (.pointer (some ⟨lb, 0, none⟩))) (hx : w.heap[xb]? = some (.cells (opCells opZero) 67 (0, 0)))
    (htl : tx ≠ lb) (hll : lx ≠ lb) (hxl : xb ≠ lb) (hxr : xb ≠ rb) (htx : tx ≠ xb) (hlx : lx ≠ xb) :
    Calls Tryz.prog 136 #[.pointer (some ⟨tx, 0, none⟩), .pointer (some ⟨lx, 0, none⟩), .pointer (some ⟨xb, 0, none⟩)] w (GotInto opCells 67 lb rb xb w (prange ws)) := by
  have hxt := there_of_block hx (show 9 ≤ (opCells opZero).size by decide)
  have HX := Lib.hid hx
  clear hx
  go_enter Tryz.func136, Tryz.ntmps136
  go_wp2_with fail
  refine wp_region_held_drew (S := fun w' => w'.cell? ⟨tx, 0, none⟩ = some (.func (.func 103) #[.pointer (some ⟨lb, 0, none⟩)] #[]) ∧ w'.cell? ⟨lx, 0, none⟩ = some (.pointer (some ⟨lb, 0, none⟩)) ∧ w'.there xb 0 9) (by kernel_rfl) ⟨ht, hl, hxt⟩ (fun hHeld => ?_)
  refine wpAnyH_take (i := 0) (v := ?_) rfl (by kernel_rfl) (by kernel_rfl) (by kernel_rfl) (fun _ _ _ h => h) (Or.inl ⟨by rfl, ?_⟩) (by assumption) ?_
  rotate_left
  · (intro w hSw; (try dsimp only at hSw); go_simp; try with_reducible rfl)
  try simp only [Act.put, List.setIfInBounds_toArray, List.set_cons_zero, List.set_cons_succ]
  refine wpAnyH_take (i := 2) (v := ?_) rfl (by kernel_rfl) (by kernel_rfl) (by kernel_rfl) (fun _ _ _ h => h) (Or.inl ⟨by rfl, ?_⟩) (by assumption) ?_
  rotate_left
  · (intro w hSw; (try dsimp only at hSw); go_simp; try with_reducible rfl)
  try simp only [Act.put, List.setIfInBounds_toArray, List.set_cons_zero, List.set_cons_succ]
  refine wpAnyH_take (i := 4) (v := ?_) rfl (by kernel_rfl) (by kernel_rfl) (by kernel_rfl) (fun _ _ _ h => h) (Or.inl ⟨by rfl, ?_⟩) (by assumption) ?_
  rotate_left
  · (intro w hSw; (try dsimp only at hSw); go_simp; try with_reducible rfl)
  try simp only [Act.put, List.setIfInBounds_toArray, List.set_cons_zero, List.set_cons_succ]
  refine wpAnyH_take (i := 6) (v := ?_) rfl (by kernel_rfl) (by kernel_rfl) (by kernel_rfl) (fun _ _ _ h => h) (Or.inl ⟨by rfl, ?_⟩) (by assumption) ?_
  rotate_left
  · (intro w hSw; (try dsimp only at hSw); go_simp; try with_reducible rfl)
  try simp only [Act.put, List.setIfInBounds_toArray, List.set_cons_zero, List.set_cons_succ]
  refine wpAnyH_ready (rs := [1]) (by kernel_rfl) (by simp) ?_
  refine AllReadyH.cons (o := ?_) (by simp only [List.getElem?_toArray, List.getElem?_cons_succ, List.getElem?_cons_zero]; exact rfl) (fun K hK => ?_) AllReadyH.nil
  go_simp
  refine (bytes_any lb rb ws _ (h.keep (Keep.refl (fun _ => False) w).drew (fun e => e) (fun e => e))).mono ?_
  intro e w1 hg1
  obtain ⟨hk1, hg1⟩ := hg1
  have hkk1 : Keep (fun b => b = lb) w w1 := (Keep.refl _ w).drew.trans' hk1
  rcases hp1 : pbytes ws with _ | ⟨k, ws1⟩
  · rw [hp1] at hg1
    subst hg1
    refine ⟨rfl, hkk1.mono (fun _ _ e => .inl e), ?_⟩
    unfold prange
    rw [hp1]
    exact rfl
  rw [hp1] at hg1
  obtain ⟨rfl, hl1⟩ := hg1
  have HP1 := Lib.hid hp1
  clear hp1
  refine hK.out _ _ (hk1.twoThere (by assumption) htl hll hxl) (fun hHeld => ?_)
  clear hK K
  try simp only [Act.put, List.setIfInBounds_toArray, List.set_cons_zero, List.set_cons_succ]
  refine wpAnyH_ready (rs := [3]) (by kernel_rfl) (by simp) ?_
  refine AllReadyH.cons (o := ?_) (by simp only [List.getElem?_toArray, List.getElem?_cons_succ, List.getElem?_cons_zero]; exact rfl) (fun K hK => ?_) AllReadyH.nil
  go_simp
  refine (bytes_any lb rb ws1 _ (hl1)).mono ?_
  intro e w2 hg2
  obtain ⟨hk2, hg2⟩ := hg2
  have hkk2 := hkk1.trans' hk2
  rcases hp2 : pbytes ws1 with _ | ⟨en, ws2⟩
  · rw [hp2] at hg2
    subst hg2
    refine ⟨rfl, hkk2.mono (fun _ _ e => .inl e), ?_⟩
    unfold prange
    rw [HP1.out, Option.bind_some, hp2]
    exact rfl
  rw [hp2] at hg2
  obtain ⟨rfl, hl2⟩ := hg2
  have HP2 := Lib.hid hp2
  clear hp2
  refine hK.out _ _ (hk2.twoThere (by assumption) htl hll hxl) (fun hHeld => ?_)
  clear hK K
  try simp only [Act.put, List.setIfInBounds_toArray, List.set_cons_zero, List.set_cons_succ]
  refine wpAnyH_ready (rs := [5]) (by kernel_rfl) (by simp) ?_
  refine AllReadyH.cons (o := ?_) (by simp only [List.getElem?_toArray, List.getElem?_cons_succ, List.getElem?_cons_zero]; exact rfl) (fun K hK => ?_) AllReadyH.nil
  go_simp
  refine (num_any lb rb ws2 _ (hl2)).mono ?_
  intro e w3 hg3
  obtain ⟨hk3, hg3⟩ := hg3
  have hkk3 := hkk2.trans' hk3
  rcases hp3 : pnum most ws2 with _ | ⟨rv, ws3⟩
  · rw [hp3] at hg3
    subst hg3
    refine ⟨rfl, hkk3.mono (fun _ _ e => .inl e), ?_⟩
    unfold prange
    rw [HP1.out, Option.bind_some, HP2.out, Option.bind_some, hp3]
    exact rfl
  rw [hp3] at hg3
  obtain ⟨rfl, hl3⟩ := hg3
  have hb3 := pnum_le hp3
  have HP3 := Lib.hid hp3
  clear hp3
  refine hK.out _ _ (hk3.twoThere (by assumption) htl hll hxl) (fun hHeld => ?_)
  clear hK K
  try simp only [Act.put, List.setIfInBounds_toArray, List.set_cons_zero, List.set_cons_succ]
  refine wpAnyH_ready (rs := [7]) (by kernel_rfl) (by simp) ?_
  refine AllReadyH.cons (o := ?_) (by simp only [List.getElem?_toArray, List.getElem?_cons_succ, List.getElem?_cons_zero]; exact rfl) (fun K hK => ?_) AllReadyH.nil
  go_simp
  refine (num_any lb rb ws3 _ (hl3)).mono ?_
  intro e w4 hg4
  obtain ⟨hk4, hg4⟩ := hg4
  have hkk4 := hkk3.trans' hk4
  rcases hp4 : pnum most ws3 with _ | ⟨lm, ws4⟩
  · rw [hp4] at hg4
    subst hg4
    refine ⟨rfl, hkk4.mono (fun _ _ e => .inl e), ?_⟩
    unfold prange
    rw [HP1.out, Option.bind_some, HP2.out, Option.bind_some, HP3.out, Option.bind_some, hp4]
    exact rfl
  rw [hp4] at hg4
  obtain ⟨rfl, hl4⟩ := hg4
  have hb4 := pnum_le hp4
  have HP4 := Lib.hid hp4
  clear hp4
  refine hK.out _ _ (hk4.twoThere (by assumption) htl hll hxl) (fun hHeld => ?_)
  clear hK K
  try simp only [Act.put, List.setIfInBounds_toArray, List.set_cons_zero, List.set_cons_succ]
  unfold u64v
  have hbm : (most : Int) = 999999999999999999 := rfl
  rw [hbm] at hb3 hb4
  have hw4 : IntKind.i64.wrap lm = lm := IntWalk.i64_in _ (by omega)
  clear hbm
  refine wpAnyH_take (i := 8) (v := ?_) rfl (by kernel_rfl) (by kernel_rfl) (by kernel_rfl) (fun _ _ _ h => h) (Or.inl ⟨by rfl, ?_⟩) (by assumption) ?_
  rotate_left
  · (intro w hSw; (try dsimp only at hSw); go_simp; try with_reducible rfl)
  try simp only [Act.put, List.setIfInBounds_toArray, List.set_cons_zero, List.set_cons_succ]
  refine wpAnyH_take (i := 9) (v := ?_) rfl (by kernel_rfl) (by kernel_rfl) (by kernel_rfl) (fun _ _ _ h => h) (Or.inl ⟨by rfl, ?_⟩) (by assumption) ?_
  rotate_left
  · (intro w hSw; (try dsimp only at hSw); go_simp; try with_reducible rfl)
  try simp only [Act.put, List.setIfInBounds_toArray, List.set_cons_zero, List.set_cons_succ]
  refine wpAnyH_ready (rs := [10]) (by kernel_rfl) (by simp) ?_
  refine AllReadyH.cons (o := ?_) (by simp only [List.getElem?_toArray, List.getElem?_cons_succ, List.getElem?_cons_zero]; exact rfl) (fun K hK => ?_) AllReadyH.nil
  go_simp
  go_wp2_with fail
  refine hK.out _ _ (held_setCells (by assumption) _ htx hlx) (fun hHeld => ?_)
  clear hK K
  try simp only [Act.put, List.setIfInBounds_toArray, List.set_cons_zero, List.set_cons_succ]
  refine wpAnyH_done (by kernel_rfl) ?_ _
  obtain ⟨cs, hcs⟩ : ∃ cs : List Value, cs = [.int .i64 0, sv k, sv en, .string ⟨#[]⟩, .int .u64 rv, .int .i64 lm, .bool false, .bool false, .bool false] := ⟨_, rfl⟩
  have hx2 := block_setCells_all (hkk4.at' HX.out hxl) cs (by rw [hcs]; rfl)
  have hkS : Keep (fun b => b = lb ∨ b = xb) w (w4.setCells xb 0 cs) := (hkk4.mono (fun _ _ e => .inl e)).setCells _ _ _ (.inr (.inr rfl))
  have hlS : LineAt (w4.setCells xb 0 cs) lb rb ws4 := hl4.keep ((Keep.refl (fun b => b = xb) w4).setCells _ _ _ (.inr rfl)) (fun e => hxl e.symm) (fun e => hxr e.symm)
  rw [← hcs]
  generalize w4.setCells xb 0 cs = W3 at *
  have hlW := hkS.cellOf hl (show ¬ (lx = lb ∨ lx = xb) by omega)
  have HX2 := Lib.hid hx2
  have HCS := Lib.hid hcs
  have HL3 := Lib.hid hlS
  have hxlt := lt_of_block hx2
  clear hx2 hcs hlS ht hl hxt h hl1 hl2 hl3 hl4
  have q1 : ∀ i, i < lCk.length → (#[.pointer (some ⟨xb, 6, none⟩), .pointer (some ⟨xb, 7, none⟩)] : Array Value)[i]? = some (.pointer (some ⟨xb, 6 + i, none⟩)) := by
    intro i hi
    have hi' : i < 2 := hi
    rcases (show i = 0 ∨ i = 1 by omega) with rfl | rfl <;> rfl
  have q2 : ∀ i, i < lCk.length → cs.toArray[6 + i]? = some (.bool false) := by
    intro i hi
    have hi' : i < 2 := hi
    rw [HCS.out]
    rcases (show i = 0 ∨ i = 1 by omega) with rfl | rfl <;> rfl
  have HQ := marks_at lb rb lCk ws4 xb 6 67 cs.toArray #[.pointer (some ⟨xb, 6, none⟩), .pointer (some ⟨xb, 7, none⟩)] W3 HL3.out HX2.out hxl hxr q1 q2 (by decide)
  clear q1 q2
  rcases hm : pmarks lCk ws4 with _ | ⟨m, r⟩
  · rw [hm] at HQ
    have HMM := Lib.hid hm
    clear hm
    go_wp2_with fail
    refine (show Calls Tryz.prog 104 #[.pointer (some ⟨lb, 0, none⟩), .string ⟨#[99, 107]⟩, .slice (some ⟨W3.heap.size, 0, none⟩) 2 2] _ _ from HQ).mono ?_
    rintro e w9 ⟨hk9, rfl⟩
    refine ⟨rfl, hkS.trans' hk9, ?_⟩
    unfold prange
    rw [HP1.out, Option.bind_some, HP2.out, Option.bind_some, HP3.out, Option.bind_some, HP4.out, Option.bind_some, HMM.out]
    exact rfl
  · rw [hm] at HQ
    have hml := pmarks_len hm
    obtain ⟨b, b2, rfl⟩ : ∃ b b2, m = [b, b2] := len_two hml
    have HMM := Lib.hid hm
    clear hm hml
    go_wp2_with fail
    refine (show Calls Tryz.prog 104 #[.pointer (some ⟨lb, 0, none⟩), .string ⟨#[99, 107]⟩, .slice (some ⟨W3.heap.size, 0, none⟩) 2 2] _ _ from HQ).mono ?_
    rintro e w9 ⟨hk9, rfl, hl9, hx9⟩
    have HX9 := Lib.hid hx9
    have HL9 := Lib.hid hl9
    clear hx9 hl9
    go_wp2_with fail
    go_end0
    refine ⟨hkS.trans' hk9, ?_⟩
    unfold prange
    rw [HP1.out, Option.bind_some, HP2.out, Option.bind_some, HP3.out, Option.bind_some, HP4.out, Option.bind_some, HMM.out]
    refine ⟨rfl, HL9.out, ?_⟩
    have h9 := HX9.out
    rw [HCS.out] at h9
    exact h9

set_option maxRecDepth 100000 in
set_option maxHeartbeats 1600000 in
theorem put_any (lb rb tx lx xb : Nat) (ws : List Str) (w : World) (h : LineAt w lb rb ws)
    (ht : w.cell? ⟨tx, 0, none⟩ = some (.func (.func 103) #[.pointer (some ⟨lb, 0, none⟩)] #[])) (hl : w.cell? ⟨lx, 0, none⟩ = some (.pointer (some ⟨lb, 0, none⟩))) (hx : w.heap[xb]? = some (.cells (opCells opZero) 67 (0, 0)))
    (htl : tx ≠ lb) (hll : lx ≠ lb) (hxl : xb ≠ lb) (hxr : xb ≠ rb) (htx : tx ≠ xb) (hlx : lx ≠ xb) :
    Calls Tryz.prog 137 #[.pointer (some ⟨tx, 0, none⟩), .pointer (some ⟨xb, 0, none⟩), .pointer (some ⟨lx, 0, none⟩)] w (GotInto opCells 67 lb rb xb w (pput ws)) := by
  have hxt := there_of_block hx (show 9 ≤ (opCells opZero).size by decide)
  have HX := Lib.hid hx
  clear hx
  go_enter Tryz.func137, Tryz.ntmps137
  go_wp2_with fail
  refine wp_region_held_drew (S := fun w' => w'.cell? ⟨tx, 0, none⟩ = some (.func (.func 103) #[.pointer (some ⟨lb, 0, none⟩)] #[]) ∧ w'.cell? ⟨lx, 0, none⟩ = some (.pointer (some ⟨lb, 0, none⟩)) ∧ w'.there xb 0 9) (by kernel_rfl) ⟨ht, hl, hxt⟩ (fun hHeld => ?_)
  refine wpAnyH_take (i := 0) (v := ?_) rfl (by kernel_rfl) (by kernel_rfl) (by kernel_rfl) (fun _ _ _ h => h) (Or.inl ⟨by rfl, ?_⟩) (by assumption) ?_
  rotate_left
  · (intro w hSw; (try dsimp only at hSw); go_simp; try with_reducible rfl)
  try simp only [Act.put, List.setIfInBounds_toArray, List.set_cons_zero, List.set_cons_succ]
  refine wpAnyH_take (i := 2) (v := ?_) rfl (by kernel_rfl) (by kernel_rfl) (by kernel_rfl) (fun _ _ _ h => h) (Or.inl ⟨by rfl, ?_⟩) (by assumption) ?_
  rotate_left
  · (intro w hSw; (try dsimp only at hSw); go_simp; try with_reducible rfl)
  try simp only [Act.put, List.setIfInBounds_toArray, List.set_cons_zero, List.set_cons_succ]
  refine wpAnyH_ready (rs := [1]) (by kernel_rfl) (by simp) ?_
  refine AllReadyH.cons (o := ?_) (by simp only [List.getElem?_toArray, List.getElem?_cons_succ, List.getElem?_cons_zero]; exact rfl) (fun K hK => ?_) AllReadyH.nil
  go_simp
  refine (bytes_any lb rb ws _ (h.keep (Keep.refl (fun _ => False) w).drew (fun e => e) (fun e => e))).mono ?_
  intro e w1 hg1
  obtain ⟨hk1, hg1⟩ := hg1
  have hkk1 : Keep (fun b => b = lb) w w1 := (Keep.refl _ w).drew.trans' hk1
  rcases hp1 : pbytes ws with _ | ⟨k, ws1⟩
  · rw [hp1] at hg1
    subst hg1
    refine ⟨rfl, hkk1.mono (fun _ _ e => .inl e), ?_⟩
    unfold pput
    rw [hp1]
    exact rfl
  rw [hp1] at hg1
  obtain ⟨rfl, hl1⟩ := hg1
  have HP1 := Lib.hid hp1
  clear hp1
  refine hK.out _ _ (hk1.twoThere (by assumption) htl hll hxl) (fun hHeld => ?_)
  clear hK K
  try simp only [Act.put, List.setIfInBounds_toArray, List.set_cons_zero, List.set_cons_succ]
  refine wpAnyH_ready (rs := [3]) (by kernel_rfl) (by simp) ?_
  refine AllReadyH.cons (o := ?_) (by simp only [List.getElem?_toArray, List.getElem?_cons_succ, List.getElem?_cons_zero]; exact rfl) (fun K hK => ?_) AllReadyH.nil
  go_simp
  refine (bytes_any lb rb ws1 _ (hl1)).mono ?_
  intro e w2 hg2
  obtain ⟨hk2, hg2⟩ := hg2
  have hkk2 := hkk1.trans' hk2
  rcases hp2 : pbytes ws1 with _ | ⟨en, ws2⟩
  · rw [hp2] at hg2
    subst hg2
    refine ⟨rfl, hkk2.mono (fun _ _ e => .inl e), ?_⟩
    unfold pput
    rw [HP1.out, Option.bind_some, hp2]
    exact rfl
  rw [hp2] at hg2
  obtain ⟨rfl, hl2⟩ := hg2
  have HP2 := Lib.hid hp2
  clear hp2
  refine hK.out _ _ (hk2.twoThere (by assumption) htl hll hxl) (fun hHeld => ?_)
  clear hK K
  try simp only [Act.put, List.setIfInBounds_toArray, List.set_cons_zero, List.set_cons_succ]
  refine wpAnyH_take (i := 4) (v := ?_) rfl (by kernel_rfl) (by kernel_rfl) (by kernel_rfl) (fun _ _ _ h => h) (Or.inl ⟨by rfl, ?_⟩) (by assumption) ?_
  rotate_left
  · (intro w hSw; (try dsimp only at hSw); go_simp; try with_reducible rfl)
  try simp only [Act.put, List.setIfInBounds_toArray, List.set_cons_zero, List.set_cons_succ]
  refine wpAnyH_ready (rs := [5]) (by kernel_rfl) (by simp) ?_
  refine AllReadyH.cons (o := ?_) (by simp only [List.getElem?_toArray, List.getElem?_cons_succ, List.getElem?_cons_zero]; exact rfl) (fun K hK => ?_) AllReadyH.nil
  go_simp
  go_wp2_with fail
  refine hK.out _ _ (held_setCells (by assumption) _ htx hlx) (fun hHeld => ?_)
  clear hK K
  try simp only [Act.put, List.setIfInBounds_toArray, List.set_cons_zero, List.set_cons_succ]
  refine wpAnyH_done (by kernel_rfl) ?_ _
  obtain ⟨cs, hcs⟩ : ∃ cs : List Value, cs = [.int .i64 1, sv k, .string ⟨#[]⟩, sv en, .int .u64 0, .int .i64 0, .bool false, .bool false, .bool false] := ⟨_, rfl⟩
  have hx2 := block_setCells_all (hkk2.at' HX.out hxl) cs (by rw [hcs]; rfl)
  have hkS : Keep (fun b => b = lb ∨ b = xb) w (w2.setCells xb 0 cs) := (hkk2.mono (fun _ _ e => .inl e)).setCells _ _ _ (.inr (.inr rfl))
  have hlS : LineAt (w2.setCells xb 0 cs) lb rb ws2 := hl2.keep ((Keep.refl (fun b => b = xb) w2).setCells _ _ _ (.inr rfl)) (fun e => hxl e.symm) (fun e => hxr e.symm)
  rw [← hcs]
  generalize w2.setCells xb 0 cs = W3 at *
  have hlW := hkS.cellOf hl (show ¬ (lx = lb ∨ lx = xb) by omega)
  have HX2 := Lib.hid hx2
  have HCS := Lib.hid hcs
  have HL3 := Lib.hid hlS
  have hxlt := lt_of_block hx2
  clear hx2 hcs hlS ht hl hxt h hl1 hl2
  have q1 : ∀ i, i < lP.length → (#[.pointer (some ⟨xb, 8, none⟩)] : Array Value)[i]? = some (.pointer (some ⟨xb, 8 + i, none⟩)) := by
    intro i hi
    have hi' : i < 1 := hi
    obtain rfl : i = 0 := by omega
    rfl
  have q2 : ∀ i, i < lP.length → cs.toArray[8 + i]? = some (.bool false) := by
    intro i hi
    have hi' : i < 1 := hi
    rw [HCS.out]
    obtain rfl : i = 0 := by omega
    rfl
  have HQ := marks_at lb rb lP ws2 xb 8 67 cs.toArray #[.pointer (some ⟨xb, 8, none⟩)] W3 HL3.out HX2.out hxl hxr q1 q2 (by decide)
  clear q1 q2
  rcases hm : pmarks lP ws2 with _ | ⟨m, r⟩
  · rw [hm] at HQ
    have HMM := Lib.hid hm
    clear hm
    go_wp2_with fail
    refine (show Calls Tryz.prog 104 #[.pointer (some ⟨lb, 0, none⟩), .string ⟨#[112]⟩, .slice (some ⟨W3.heap.size, 0, none⟩) 1 1] _ _ from HQ).mono ?_
    rintro e w9 ⟨hk9, rfl⟩
    refine ⟨rfl, hkS.trans' hk9, ?_⟩
    unfold pput
    rw [HP1.out, Option.bind_some, HP2.out, Option.bind_some, HMM.out]
    exact rfl
  · rw [hm] at HQ
    have hml := pmarks_len hm
    obtain ⟨b, rfl⟩ : ∃ b, m = [b] := List.length_eq_one_iff.1 hml
    have HMM := Lib.hid hm
    clear hm hml
    go_wp2_with fail
    refine (show Calls Tryz.prog 104 #[.pointer (some ⟨lb, 0, none⟩), .string ⟨#[112]⟩, .slice (some ⟨W3.heap.size, 0, none⟩) 1 1] _ _ from HQ).mono ?_
    rintro e w9 ⟨hk9, rfl, hl9, hx9⟩
    have HX9 := Lib.hid hx9
    have HL9 := Lib.hid hl9
    clear hx9 hl9
    go_wp2_with fail
    go_end0
    refine ⟨hkS.trans' hk9, ?_⟩
    unfold pput
    rw [HP1.out, Option.bind_some, HP2.out, Option.bind_some, HMM.out]
    refine ⟨rfl, HL9.out, ?_⟩
    have h9 := HX9.out
    rw [HCS.out] at h9
    exact h9

set_option maxRecDepth 100000 in
set_option maxHeartbeats 1600000 in
theorem del_any (lb rb tx lx xb : Nat) (ws : List Str) (w : World) (h : LineAt w lb rb ws)
    (ht : w.cell? ⟨tx, 0, none⟩ = some (.func (.func 103) #[.pointer (some ⟨lb, 0, none⟩)] #[])) (hl : w.cell? ⟨lx, 0, none⟩ = some (.pointer (some ⟨lb, 0, none⟩))) (hx : w.heap[xb]? = some (.cells (opCells opZero) 67 (0, 0)))
    (htl : tx ≠ lb) (hll : lx ≠ lb) (hxl : xb ≠ lb) (hxr : xb ≠ rb) (htx : tx ≠ xb) (hlx : lx ≠ xb) :
    Calls Tryz.prog 138 #[.pointer (some ⟨tx, 0, none⟩), .pointer (some ⟨xb, 0, none⟩), .pointer (some ⟨lx, 0, none⟩)] w (GotInto opCells 67 lb rb xb w (pdel ws)) := by
  have hxt := there_of_block hx (show 9 ≤ (opCells opZero).size by decide)
  have HX := Lib.hid hx
  clear hx
  go_enter Tryz.func138, Tryz.ntmps138
  go_wp2_with fail
  refine wp_region_held_drew (S := fun w' => w'.cell? ⟨tx, 0, none⟩ = some (.func (.func 103) #[.pointer (some ⟨lb, 0, none⟩)] #[]) ∧ w'.cell? ⟨lx, 0, none⟩ = some (.pointer (some ⟨lb, 0, none⟩)) ∧ w'.there xb 0 9) (by kernel_rfl) ⟨ht, hl, hxt⟩ (fun hHeld => ?_)
  refine wpAnyH_take (i := 0) (v := ?_) rfl (by kernel_rfl) (by kernel_rfl) (by kernel_rfl) (fun _ _ _ h => h) (Or.inl ⟨by rfl, ?_⟩) (by assumption) ?_
  rotate_left
  · (intro w hSw; (try dsimp only at hSw); go_simp; try with_reducible rfl)
  try simp only [Act.put, List.setIfInBounds_toArray, List.set_cons_zero, List.set_cons_succ]
  refine wpAnyH_take (i := 2) (v := ?_) rfl (by kernel_rfl) (by kernel_rfl) (by kernel_rfl) (fun _ _ _ h => h) (Or.inl ⟨by rfl, ?_⟩) (by assumption) ?_
  rotate_left
  · (intro w hSw; (try dsimp only at hSw); go_simp; try with_reducible rfl)
  try simp only [Act.put, List.setIfInBounds_toArray, List.set_cons_zero, List.set_cons_succ]
  refine wpAnyH_ready (rs := [1]) (by kernel_rfl) (by simp) ?_
  refine AllReadyH.cons (o := ?_) (by simp only [List.getElem?_toArray, List.getElem?_cons_succ, List.getElem?_cons_zero]; exact rfl) (fun K hK => ?_) AllReadyH.nil
  go_simp
  refine (bytes_any lb rb ws _ (h.keep (Keep.refl (fun _ => False) w).drew (fun e => e) (fun e => e))).mono ?_
  intro e w1 hg1
  obtain ⟨hk1, hg1⟩ := hg1
  have hkk1 : Keep (fun b => b = lb) w w1 := (Keep.refl _ w).drew.trans' hk1
  rcases hp1 : pbytes ws with _ | ⟨k, ws1⟩
  · rw [hp1] at hg1
    subst hg1
    refine ⟨rfl, hkk1.mono (fun _ _ e => .inl e), ?_⟩
    unfold pdel
    rw [hp1]
    exact rfl
  rw [hp1] at hg1
  obtain ⟨rfl, hl1⟩ := hg1
  have HP1 := Lib.hid hp1
  clear hp1
  refine hK.out _ _ (hk1.twoThere (by assumption) htl hll hxl) (fun hHeld => ?_)
  clear hK K
  try simp only [Act.put, List.setIfInBounds_toArray, List.set_cons_zero, List.set_cons_succ]
  refine wpAnyH_ready (rs := [3]) (by kernel_rfl) (by simp) ?_
  refine AllReadyH.cons (o := ?_) (by simp only [List.getElem?_toArray, List.getElem?_cons_succ, List.getElem?_cons_zero]; exact rfl) (fun K hK => ?_) AllReadyH.nil
  go_simp
  refine (bytes_any lb rb ws1 _ (hl1)).mono ?_
  intro e w2 hg2
  obtain ⟨hk2, hg2⟩ := hg2
  have hkk2 := hkk1.trans' hk2
  rcases hp2 : pbytes ws1 with _ | ⟨en, ws2⟩
  · rw [hp2] at hg2
    subst hg2
    refine ⟨rfl, hkk2.mono (fun _ _ e => .inl e), ?_⟩
    unfold pdel
    rw [HP1.out, Option.bind_some, hp2]
    exact rfl
  rw [hp2] at hg2
  obtain ⟨rfl, hl2⟩ := hg2
  have HP2 := Lib.hid hp2
  clear hp2
  refine hK.out _ _ (hk2.twoThere (by assumption) htl hll hxl) (fun hHeld => ?_)
  clear hK K
  try simp only [Act.put, List.setIfInBounds_toArray, List.set_cons_zero, List.set_cons_succ]
  refine wpAnyH_take (i := 4) (v := ?_) rfl (by kernel_rfl) (by kernel_rfl) (by kernel_rfl) (fun _ _ _ h => h) (Or.inl ⟨by rfl, ?_⟩) (by assumption) ?_
  rotate_left
  · (intro w hSw; (try dsimp only at hSw); go_simp; try with_reducible rfl)
  try simp only [Act.put, List.setIfInBounds_toArray, List.set_cons_zero, List.set_cons_succ]
  refine wpAnyH_ready (rs := [5]) (by kernel_rfl) (by simp) ?_
  refine AllReadyH.cons (o := ?_) (by simp only [List.getElem?_toArray, List.getElem?_cons_succ, List.getElem?_cons_zero]; exact rfl) (fun K hK => ?_) AllReadyH.nil
  go_simp
  go_wp2_with fail
  refine hK.out _ _ (held_setCells (by assumption) _ htx hlx) (fun hHeld => ?_)
  clear hK K
  try simp only [Act.put, List.setIfInBounds_toArray, List.set_cons_zero, List.set_cons_succ]
  refine wpAnyH_done (by kernel_rfl) ?_ _
  obtain ⟨cs, hcs⟩ : ∃ cs : List Value, cs = [.int .i64 2, sv k, sv en, .string ⟨#[]⟩, .int .u64 0, .int .i64 0, .bool false, .bool false, .bool false] := ⟨_, rfl⟩
  have hx2 := block_setCells_all (hkk2.at' HX.out hxl) cs (by rw [hcs]; rfl)
  have hkS : Keep (fun b => b = lb ∨ b = xb) w (w2.setCells xb 0 cs) := (hkk2.mono (fun _ _ e => .inl e)).setCells _ _ _ (.inr (.inr rfl))
  have hlS : LineAt (w2.setCells xb 0 cs) lb rb ws2 := hl2.keep ((Keep.refl (fun b => b = xb) w2).setCells _ _ _ (.inr rfl)) (fun e => hxl e.symm) (fun e => hxr e.symm)
  rw [← hcs]
  generalize w2.setCells xb 0 cs = W3 at *
  have hlW := hkS.cellOf hl (show ¬ (lx = lb ∨ lx = xb) by omega)
  have HX2 := Lib.hid hx2
  have HCS := Lib.hid hcs
  have HL3 := Lib.hid hlS
  have hxlt := lt_of_block hx2
  clear hx2 hcs hlS ht hl hxt h hl1 hl2
  have q1 : ∀ i, i < lP.length → (#[.pointer (some ⟨xb, 8, none⟩)] : Array Value)[i]? = some (.pointer (some ⟨xb, 8 + i, none⟩)) := by
    intro i hi
    have hi' : i < 1 := hi
    obtain rfl : i = 0 := by omega
    rfl
  have q2 : ∀ i, i < lP.length → cs.toArray[8 + i]? = some (.bool false) := by
    intro i hi
    have hi' : i < 1 := hi
    rw [HCS.out]
    obtain rfl : i = 0 := by omega
    rfl
  have HQ := marks_at lb rb lP ws2 xb 8 67 cs.toArray #[.pointer (some ⟨xb, 8, none⟩)] W3 HL3.out HX2.out hxl hxr q1 q2 (by decide)
  clear q1 q2
  rcases hm : pmarks lP ws2 with _ | ⟨m, r⟩
  · rw [hm] at HQ
    have HMM := Lib.hid hm
    clear hm
    go_wp2_with fail
    refine (show Calls Tryz.prog 104 #[.pointer (some ⟨lb, 0, none⟩), .string ⟨#[112]⟩, .slice (some ⟨W3.heap.size, 0, none⟩) 1 1] _ _ from HQ).mono ?_
    rintro e w9 ⟨hk9, rfl⟩
    refine ⟨rfl, hkS.trans' hk9, ?_⟩
    unfold pdel
    rw [HP1.out, Option.bind_some, HP2.out, Option.bind_some, HMM.out]
    exact rfl
  · rw [hm] at HQ
    have hml := pmarks_len hm
    obtain ⟨b, rfl⟩ : ∃ b, m = [b] := List.length_eq_one_iff.1 hml
    have HMM := Lib.hid hm
    clear hm hml
    go_wp2_with fail
    refine (show Calls Tryz.prog 104 #[.pointer (some ⟨lb, 0, none⟩), .string ⟨#[112]⟩, .slice (some ⟨W3.heap.size, 0, none⟩) 1 1] _ _ from HQ).mono ?_
    rintro e w9 ⟨hk9, rfl, hl9, hx9⟩
    have HX9 := Lib.hid hx9
    have HL9 := Lib.hid hl9
    clear hx9 hl9
    go_wp2_with fail
    go_end0
    refine ⟨hkS.trans' hk9, ?_⟩
    unfold pdel
    rw [HP1.out, Option.bind_some, HP2.out, Option.bind_some, HMM.out]
    refine ⟨rfl, HL9.out, ?_⟩
    have h9 := HX9.out
    rw [HCS.out] at h9
    exact h9
end Go.Proofs.YtifliekahdgobaaGreatDoor
namespace Go.Proofs.YtifliekahdgobaaGreatDoor
open Go.RowKit Sp

/-- block r holds o -/
def setB (w : World) (r : Nat) (o : Obj) : World := { w with heap := w.heap.setIfInBounds r o }
theorem setB_at {w : World} {r : Nat} {o x : Obj} (h : w.heap[r]? = some x) : (setB w r o).heap[r]? = some o := by
  have := lt_of_block h
  simp [setB, this]
theorem setB_other {w : World} {r k : Nat} (o : Obj) (h : k ≠ r) : (setB w r o).heap[k]? = w.heap[k]? := by
  simp only [setB]
  rw [Array.getElem?_setIfInBounds, if_neg (fun e => h e.symm)]
theorem setB_size (w : World) (r : Nat) (o : Obj) : (setB w r o).heap.size = w.heap.size := by simp [setB]
theorem Keep.setB {M : Nat → Prop} {w w' : World} (h : Keep M w w') (r : Nat) (o : Obj) (hr : w.heap.size ≤ r ∨ M r) : Keep M w (setB w' r o) :=
  ⟨h.os, h.tape, h.output, by rw [setB_size]; exact h.size, fun k hk hn => (setB_other o (fun e => by
    subst e
    rcases hr with hr | hr
    · omega
    · exact hn hr)).trans (h.block k hk hn)⟩
theorem setB_new (w : World) (o x : Obj) : YtifliekahdgobaaGreatDoor.setB (w.alloc x) w.heap.size o = w.alloc o := by
  have hh : (w.heap.push x).setIfInBounds w.heap.size o = w.heap.push o := by
    apply Array.ext_getElem?
    intro i
    rw [Array.getElem?_setIfInBounds, Array.getElem?_push, Array.getElem?_push]
    by_cases h : i = w.heap.size
    · subst h; simp
    · rw [if_neg (fun e => h e.symm), if_neg h, if_neg h]
  show ({ w with heap := (w.heap.push x).setIfInBounds w.heap.size o } : World) = { w with heap := w.heap.push o }
  rw [hh]

/-! ### a map's block as a list of pairs, in the order in which they came -/
/-- how keys stand as values -/
structure KeyEnc {α : Type} [DecidableEq α] (d : TypeDesc) (enc : α → Value) : Prop where
  same : ∀ a b, Instr.sameNow d (enc a) (enc b) = some (decide (a = b))
  key : ∀ a, MapKept.IsKey d (enc a)
theorem strKeys : KeyEnc .string (fun x : Str => sv x) := ⟨fun a b => by
  show some ((⟨a.toArray⟩ : ByteArray) == ⟨b.toArray⟩) = _
  congr 1
  have h1 : ((⟨a.toArray⟩ : ByteArray) == ⟨b.toArray⟩) = (a.toArray == b.toArray) := rfl
  rw [h1, Bool.eq_iff_iff]
  simp, fun _ => trivial⟩
theorem intKeys (k : IntKind) : KeyEnc (.int k) (fun x : Int => Value.int k x) := ⟨fun a b => by
  show (if k = k then some (a == b) else none) = _
  rw [if_pos rfl]
  congr 1, fun _ => rfl⟩
variable {α : Type}
def mkFrom (enc : α → Value) : Nat → List (α × Value) → List MapEntry
  | _, [] => []
  | i, p :: l => ⟨enc p.1, p.2, i⟩ :: mkFrom enc (i + 1) l
theorem mkFrom_append (enc : α → Value) (p : α × Value) : ∀ (l : List (α × Value)) (i : Nat), mkFrom enc i (l ++ [p]) = mkFrom enc i l ++ [⟨enc p.1, p.2, i + l.length⟩]
  | [], i => rfl
  | q :: l, i => by
    rw [List.cons_append, mkFrom, mkFrom_append enc p l (i + 1), mkFrom, List.cons_append, List.length_cons, show i + 1 + l.length = i + (l.length + 1) by omega]
theorem mkFrom_length (enc : α → Value) : ∀ (l : List (α × Value)) (i : Nat), (mkFrom enc i l).length = l.length
  | [], _ => rfl
  | _ :: l, i => by rw [mkFrom, List.length_cons, mkFrom_length enc l, List.length_cons]
theorem mkFrom_get (enc : α → Value) : ∀ (l : List (α × Value)) (i j : Nat), (mkFrom enc i l)[j]? = (l[j]?).map fun p => ⟨enc p.1, p.2, i + j⟩
  | [], _, _ => rfl
  | p :: l, i, 0 => rfl
  | p :: l, i, j + 1 => by
    rw [mkFrom, List.getElem?_cons_succ, mkFrom_get enc l (i + 1) j, List.getElem?_cons_succ, show i + 1 + j = i + (j + 1) by omega]
def mkE (enc : α → Value) (l : List (α × Value)) : Array MapEntry := (mkFrom enc 0 l).toArray
/-- block r is a map that holds just these pairs -/
def MapL (enc : α → Value) (w : World) (r : Nat) (l : List (α × Value)) : Prop := w.heap[r]? = some (.map (mkE enc l) l.length)
theorem findNow_miss [DecidableEq α] {d : TypeDesc} {enc : α → Value} (hE : KeyEnc d enc) (x : α) : ∀ (l : List (α × Value)) (i j : Nat), (∀ p ∈ l, p.1 ≠ x) → Instr.findNow d (enc x) (mkFrom enc i l) j = some none
  | [], _, _, _ => rfl
  | p :: l, i, j, h => by
    rw [mkFrom, Instr.findNow]
    simp only [hE.same]
    rw [decide_eq_false (fun e => h p List.mem_cons_self e.symm)]
    exact findNow_miss hE x l (i + 1) (j + 1) (fun q hq => h q (List.mem_cons_of_mem _ hq))
theorem findNow_hit [DecidableEq α] {d : TypeDesc} {enc : α → Value} (hE : KeyEnc d enc) (x : α) (v : Value) : ∀ (l : List (α × Value)) (i j : Nat), (x, v) ∈ l → (∀ p ∈ l, p.1 = x → p.2 = v) → ∃ k, Instr.findNow d (enc x) (mkFrom enc i l) j = some (some (k, v))
  | [], _, _, h, _ => by simp at h
  | p :: l, i, j, h, hu => by
    rw [mkFrom, Instr.findNow]
    simp only [hE.same]
    by_cases e : x = p.1
    · rw [decide_eq_true e]
      exact ⟨j, by rw [hu p List.mem_cons_self e.symm]⟩
    · rw [decide_eq_false e]
      refine findNow_hit hE x v l (i + 1) (j + 1) ?_ (fun q hq => hu q (List.mem_cons_of_mem _ hq))
      rcases List.mem_cons.1 h with h | h
      · exact absurd (congrArg Prod.fst h) e
      · exact h

section
variable {T K E : TypeId} {d : TypeDesc} {enc : α → Value}
theorem run_put [DecidableEq α] (hE : KeyEnc d enc) (hT : Tryz.prog.underlying T = some (.map K E)) (hK : Tryz.prog.underlying K = some d) (w : World) (r : Nat) (l : List (α × Value)) (hb : MapL enc w r l) (x : α) (v : Value) (hn : ∀ p ∈ l, p.1 ≠ x) :
    (Instr.mapUpdate T (.map (some r)) (enc x) v).run Tryz.prog w = .ok () (setB w r (.map (mkE enc (l ++ [(x, v)])) (l ++ [(x, v)]).length)) := by
  have he : mkE enc (l ++ [(x, v)]) = (mkE enc l).push ⟨enc x, v, l.length⟩ := by
    unfold mkE
    rw [mkFrom_append]
    simp
  have hset := MapKept.run_setObj_map (P := Tryz.prog) (.map ((mkE enc l).push ⟨enc x, v, l.length⟩) (l.length + 1)) hb
  have hget := MapKept.run_getObj_map (P := Tryz.prog) hb
  have hchk := MapKept.run_checkKey (P := Tryz.prog) (w := w) (k := enc x) hK (hE.key x) false 9999
  have hfnd := MapKept.run_findKey (P := Tryz.prog) (w := w) (k := enc x) (l := (mkE enc l).toList) hK (findNow_miss hE x l 0 0 hn)
  unfold Instr.mapUpdate
  simp only [Sem.run_bind, run_underlying hT, Result.andThen, hget, hchk, hfnd, hset]
  rw [he, List.length_append]
  rfl
theorem run_put_new [DecidableEq α] (hE : KeyEnc d enc) (hT : Tryz.prog.underlying T = some (.map K E)) (hK : Tryz.prog.underlying K = some d) (w : World) (l : List (α × Value)) (x : α) (v : Value) (hn : ∀ p ∈ l, p.1 ≠ x) :
    (Instr.mapUpdate T (.map (some w.heap.size)) (enc x) v).run Tryz.prog (w.alloc (.map (mkE enc l) l.length)) = .ok () (w.alloc (.map (mkE enc (l ++ [(x, v)])) (l ++ [(x, v)]).length)) := by
  rw [run_put hE hT hK (w.alloc (.map (mkE enc l) l.length)) w.heap.size l (block_new w _) x v hn, setB_new]
theorem run_look_hit [DecidableEq α] (hE : KeyEnc d enc) (hT : Tryz.prog.underlying T = some (.map K E)) (hK : Tryz.prog.underlying K = some d) (w : World) (r : Nat) (l : List (α × Value)) (hb : MapL enc w r l) (x : α) (v : Value) (hm : (x, v) ∈ l) (hu : ∀ p ∈ l, p.1 = x → p.2 = v) (c : Bool) :
    (Instr.lookup T (.map (some r)) (enc x) c).run Tryz.prog w = .ok (if c then .tuple #[v, .bool true] else v) w := by
  obtain ⟨i, hi⟩ := findNow_hit hE x v l 0 0 hm hu
  have hget := MapKept.run_getObj_map (P := Tryz.prog) hb
  have hchk := MapKept.run_checkKey (P := Tryz.prog) (w := w) (k := enc x) hK (hE.key x) (mkE enc l).isEmpty 9999
  have hfnd := MapKept.run_findKey (P := Tryz.prog) (w := w) (k := enc x) (l := (mkE enc l).toList) hK hi
  unfold Instr.lookup
  simp only [Sem.run_bind, run_underlying hT, Result.andThen, hget, Sem.run_pure, hchk, hfnd]
theorem run_look_miss [DecidableEq α] (hE : KeyEnc d enc) (hT : Tryz.prog.underlying T = some (.map K E)) (hK : Tryz.prog.underlying K = some d) (w : World) (r : Nat) (l : List (α × Value)) (hb : MapL enc w r l) (x : α) (z : Value) (hz : (zeroValue E).run Tryz.prog w = .ok z w) (hm : ∀ p ∈ l, p.1 ≠ x) (c : Bool) :
    (Instr.lookup T (.map (some r)) (enc x) c).run Tryz.prog w = .ok (if c then .tuple #[z, .bool false] else z) w := by
  have hget := MapKept.run_getObj_map (P := Tryz.prog) hb
  have hchk := MapKept.run_checkKey (P := Tryz.prog) (w := w) (k := enc x) hK (hE.key x) (mkE enc l).isEmpty 9999
  have hfnd := MapKept.run_findKey (P := Tryz.prog) (w := w) (k := enc x) (l := (mkE enc l).toList) hK (findNow_miss hE x l 0 0 hm)
  unfold Instr.lookup
  simp only [Sem.run_bind, run_underlying hT, Result.andThen, hget, Sem.run_pure, hchk, hfnd, hz]

/-! ### ranging over such a map, while it stays as it is -/
theorem run_range (hT : Tryz.prog.underlying T = some (.map K E)) (w : World) (m : Nat) (l : List (α × Value)) (hb : MapL enc w m l) :
    (Instr.range T (.map (some m))).run Tryz.prog w = .ok (.pointer (some ⟨w.heap.size, 0, none⟩)) (w.alloc (.mapIter (some m) l.length #[] l.length)) := by
  have hget := MapKept.run_getObj_map (P := Tryz.prog) hb
  unfold Instr.range
  simp only [Sem.run_bind, run_underlying hT, Result.andThen, hget, Sem.run_pure]
  rfl
theorem mkE_mem (enc : α → Value) (l : List (α × Value)) (e : MapEntry) : e ∈ (mkE enc l).toList ↔ ∃ j p, l[j]? = some p ∧ e = ⟨enc p.1, p.2, j⟩ := by
  show e ∈ mkFrom enc 0 l ↔ _
  rw [List.mem_iff_getElem?]
  constructor
  · rintro ⟨j, hj⟩
    rw [mkFrom_get] at hj
    rcases hp : l[j]? with _ | p
    · rw [hp] at hj; cases hj
    · rw [hp] at hj
      simp only [Option.map_some, Option.some.injEq, Nat.zero_add] at hj
      exact ⟨j, p, hp, hj.symm⟩
  · rintro ⟨j, p, hp, rfl⟩
    exact ⟨j, by rw [mkFrom_get, hp]; simp⟩
theorem mkE_born (enc : α → Value) (l : List (α × Value)) : (mkE enc l).toList.map (·.born) = List.range l.length := by
  show (mkFrom enc 0 l).map (·.born) = _
  apply List.ext_getElem?
  intro j
  rw [List.getElem?_map, mkFrom_get]
  by_cases h : j < l.length
  · rw [List.getElem?_eq_getElem h]; simp [h]
  · rw [List.getElem?_eq_none (by omega)]; simp; omega
/-- what is left: the places that have not been seen -/
def leftNo (n : Nat) (seen : Array Nat) : List Nat := (List.range n).filter fun j => !seen.contains j
theorem leftNo_push {n j : Nat} {seen : Array Nat} (h : j ∈ leftNo n seen) : (leftNo n (seen.push j)).length < (leftNo n seen).length := by
  have hs : leftNo n (seen.push j) = (leftNo n seen).filter (fun k => !(k == j)) := by
    unfold leftNo
    rw [List.filter_filter]
    congr 1
    funext k
    rw [Array.contains_push, Bool.not_or, Bool.and_comm]
  rw [hs]
  exact List.length_filter_lt_length_iff_exists.2 ⟨j, h, by simp⟩
theorem run_next (w : World) (m it : Nat) (l : List (α × Value)) (seen : Array Nat) (T0 : TypeId) (hb : MapL enc w m l) (hi : w.heap[it]? = some (.mapIter (some m) l.length seen l.length)) :
    (leftNo l.length seen = [] ∧ (Instr.next (.pointer (some ⟨it, 0, none⟩)) false T0).run Tryz.prog w = .ok (.tuple #[.bool false]) w) ∨
    ∃ j p w1, l[j]? = some p ∧ j ∈ leftNo l.length seen ∧ (w1 = w ∨ w1 = w.drew) ∧ (Instr.next (.pointer (some ⟨it, 0, none⟩)) false T0).run Tryz.prog w = .ok (.tuple #[.bool true, enc p.1, p.2]) (setB w1 it (.mapIter (some m) l.length (seen.push j) l.length)) := by
  have hold : ∀ x ∈ (mkE enc l).toList, x.born < l.length := fun x hx => by
    obtain ⟨j, p, hp, rfl⟩ := (mkE_mem enc l x).1 hx
    exact (List.getElem?_eq_some_iff.1 hp).1
  rcases run_next_at (P := Tryz.prog) w T0 it m l.length l.length seen (mkE enc l) l.length hi hb hold (Nat.le_refl _) with ⟨h0, h1⟩ | ⟨e, he, w1, hw, h1⟩
  · left
    refine ⟨?_, h1⟩
    have h2 : leftOf (mkE enc l) seen = #[] := Array.eq_empty_of_size_eq_zero h0
    unfold leftNo
    rw [List.filter_eq_nil_iff]
    intro j hj
    have hjl : j < l.length := by simpa using hj
    unfold leftOf at h2
    rw [Array.filter_eq_empty_iff] at h2
    have := h2 ⟨enc l[j].1, l[j].2, j⟩ (by
      have := (mkE_mem enc l ⟨enc l[j].1, l[j].2, j⟩).2 ⟨j, l[j], List.getElem?_eq_getElem hjl, rfl⟩
      simpa using this)
    simpa using this
  · right
    have he2 : e ∈ (mkE enc l).toList ∧ (!seen.contains e.born) = true := by
      unfold leftOf at he
      have := Array.mem_filter.1 (Array.mem_toList_iff.1 he)
      exact ⟨Array.mem_toList_iff.2 this.1, this.2⟩
    obtain ⟨j, p, hp, rfl⟩ := (mkE_mem enc l e).1 he2.1
    refine ⟨j, p, w1, hp, ?_, hw, h1⟩
    unfold leftNo
    rw [List.mem_filter]
    exact ⟨by simpa using (List.getElem?_eq_some_iff.1 hp).1, he2.2⟩
theorem run_entry (w : World) (m it : Nat) (l : List (α × Value)) (seen : Array Nat) (j : Nat) (p : α × Value) (hb : MapL enc w m l) (hi : w.heap[it]? = some (.mapIter (some m) l.length (seen.push j) l.length)) (hj : l[j]? = some p) :
    (Instr.entry (.pointer (some ⟨it, 0, none⟩))).run Tryz.prog w = .ok (.tuple #[enc p.1, p.2]) w :=
  run_entry_at (P := Tryz.prog) w it m l.length seen (mkE enc l) l.length ⟨enc p.1, p.2, j⟩ hi hb ((mkE_mem enc l _).2 ⟨j, p, hj, rfl⟩) (by rw [mkE_born]; exact List.nodup_range)
end
end Go.Proofs.YtifliekahdgobaaGreatDoor
namespace Go.Proofs.YtifliekahdgobaaGreatDoor
open Go.RowKit Sp

/-- a result that lies in memory, a struct at the head of a block -/
theorem results_block {fn : Func} {t : Tmp} {T n : Nat} {d : TypeDesc} (hr : fn.results = #[.cell t T]) (hu : Tryz.prog.underlying T = some d) (hd : d.isRow = true) (hi : (Tryz.prog.info? T).map (·.size) = some n) (tmps : Array Value) (w : World) (b : Nat) (cs : Array Value) (U : TypeId) (f : Nat × Nat)
    (ht : tmps.getD t undef = .pointer (some ⟨b, 0, none⟩)) (hs : cs.size = n) (hb : w.heap[b]? = some (.cells cs U f)) :
    (results fn tmps).run Tryz.prog w = .ok (.agg cs) w := by
  have hl := run_loadVar_mid (P := Tryz.prog) w b 0 T cs.toList d (range_of_block hb) hu hd (by rw [hi, ← hs]; simp)
  have ht' : tmps[t]?.getD undef = .pointer (some ⟨b, 0, none⟩) := by simpa using ht
  simp [results, hr, ht', asAddr, hl]

theorem block_new' (w : World) (x : Obj) {k : Nat} (hk : k = w.heap.size) : (w.alloc x).heap[k]? = some x := by subst hk; exact block_new w x
/-- the three words of op's map -/
theorem op_put1 (W : World) (v : Value) (r : Nat) (hr : r = W.heap.size) : (Instr.mapUpdate 214 (.map (some r)) (.string ⟨#[114, 97, 110, 103, 101]⟩) v).run Tryz.prog (W.alloc (.map #[] 0)) = .ok () (W.alloc (.map #[⟨.string ⟨#[114, 97, 110, 103, 101]⟩, v, 0⟩] 1)) := by
  subst hr
  exact run_put_new strKeys Tryz.underlying214 Tryz.underlying9 W [] wRange v (by simp)
theorem op_put2 (W : World) (a v : Value) (r : Nat) (hr : r = W.heap.size) : (Instr.mapUpdate 214 (.map (some r)) (.string ⟨#[112, 117, 116]⟩) v).run Tryz.prog (W.alloc (.map #[⟨.string ⟨#[114, 97, 110, 103, 101]⟩, a, 0⟩] 1)) = .ok () (W.alloc (.map #[⟨.string ⟨#[114, 97, 110, 103, 101]⟩, a, 0⟩, ⟨.string ⟨#[112, 117, 116]⟩, v, 1⟩] 2)) := by
  subst hr
  exact run_put_new strKeys Tryz.underlying214 Tryz.underlying9 W [(wRange, a)] wPut v (by intro p hp; simp only [List.mem_cons, List.mem_nil_iff, or_false] at hp; subst hp; show wRange ≠ wPut; decide)
theorem op_put3 (W : World) (a b v : Value) (r : Nat) (hr : r = W.heap.size) : (Instr.mapUpdate 214 (.map (some r)) (.string ⟨#[100, 101, 108]⟩) v).run Tryz.prog (W.alloc (.map #[⟨.string ⟨#[114, 97, 110, 103, 101]⟩, a, 0⟩, ⟨.string ⟨#[112, 117, 116]⟩, b, 1⟩] 2)) = .ok () (W.alloc (.map #[⟨.string ⟨#[114, 97, 110, 103, 101]⟩, a, 0⟩, ⟨.string ⟨#[112, 117, 116]⟩, b, 1⟩, ⟨.string ⟨#[100, 101, 108]⟩, v, 2⟩] 3)) := by
  subst hr
  exact run_put_new strKeys Tryz.underlying214 Tryz.underlying9 W [(wRange, a), (wPut, b)] wDel v (by
    intro p hp
    simp only [List.mem_cons, List.mem_nil_iff, or_false] at hp
    rcases hp with rfl | rfl
    · show wRange ≠ wDel
      decide
    · show wPut ≠ wDel
      decide)
theorem opCells_one (a : OpS) : (opCells a).all (·.oneCell') = true := by simp [opCells, one_int, one_str, one_bool]
def opPairs (a b c : Value) : List (Str × Value) := [(wRange, a), (wPut, b), (wDel, c)]

set_option maxRecDepth 100000 in
set_option maxHeartbeats 1600000 in
theorem op_word (lb rb : Nat) (x : Str) (ws : List Str) (w : World) (h : LineAt w lb rb (x :: ws)) :
    Calls Tryz.prog 110 #[.pointer (some ⟨lb, 0, none⟩)] w (Got (fun x => .agg (opCells x)) lb rb w (pop (x :: ws))) := by
  have hmf : ∀ (fn : Fn) (first cap : Array Value) (w : World), (Instr.makeFunc fn first cap).run Tryz.prog w = .ok (.func fn first cap) w := fun _ _ _ _ => rfl
  have hmm := @run_makeMap Tryz.prog
  have hp1 := op_put1
  have hp2 := op_put2
  have hp3 := op_put3
  obtain ⟨f1, hf1⟩ : ∃ v : Value, v = .func (.func 136) #[] #[.pointer (some ⟨w.heap.size + 1 + 1, 0, none⟩), .pointer (some ⟨w.heap.size, 0, none⟩), .pointer (some ⟨w.heap.size + 1, 0, none⟩)] := ⟨_, rfl⟩
  obtain ⟨f2, hf2⟩ : ∃ v : Value, v = .func (.func 137) #[] #[.pointer (some ⟨w.heap.size + 1 + 1, 0, none⟩), .pointer (some ⟨w.heap.size + 1, 0, none⟩), .pointer (some ⟨w.heap.size, 0, none⟩)] := ⟨_, rfl⟩
  obtain ⟨f3, hf3⟩ : ∃ v : Value, v = .func (.func 138) #[] #[.pointer (some ⟨w.heap.size + 1 + 1, 0, none⟩), .pointer (some ⟨w.heap.size + 1, 0, none⟩), .pointer (some ⟨w.heap.size, 0, none⟩)] := ⟨_, rfl⟩
  obtain ⟨W, hW⟩ : ∃ W : World, W = ((((w.alloc (.cells #[.pointer (some ⟨lb, 0, none⟩)] 115)).alloc (.cells #[.int .i64 0, .string ⟨#[]⟩, .string ⟨#[]⟩, .string ⟨#[]⟩, .int .u64 0, .int .i64 0, .bool false, .bool false, .bool false] 67)).alloc
      (.cells #[.func (.func 103) #[.pointer (some ⟨lb, 0, none⟩)] #[]] 98)).alloc (.map #[⟨.string ⟨#[114, 97, 110, 103, 101]⟩, f1, 0⟩, ⟨.string ⟨#[112, 117, 116]⟩, f2, 1⟩, ⟨.string ⟨#[100, 101, 108]⟩, f3, 2⟩] 3)) := ⟨_, rfl⟩
  have hkW : Keep (fun _ => False) w W := by rw [hW]; exact ((((Keep.refl _ w).alloc _).alloc _).alloc _).alloc _
  have hbL : W.heap[w.heap.size]? = some (.cells #[.pointer (some ⟨lb, 0, none⟩)] 115 (0, 0)) := by rw [hW]; exact block_alloc (block_alloc (block_alloc (block_new' _ _ rfl) _) _) _
  have hbX : W.heap[w.heap.size + 1]? = some (.cells (opCells opZero) 67 (0, 0)) := by rw [hW]; exact block_alloc (block_alloc (block_new' _ _ (by simp)) _) _
  have hbT : W.heap[w.heap.size + 1 + 1]? = some (.cells #[.func (.func 103) #[.pointer (some ⟨lb, 0, none⟩)] #[]] 98 (0, 0)) := by rw [hW]; exact block_alloc (block_new' _ _ (by simp)) _
  have hbM : MapL (fun x : Str => sv x) W (w.heap.size + 1 + 1 + 1) (opPairs f1 f2 f3) := by rw [hW]; exact block_new' _ _ (by simp)
  have hlt := h.lt
  have hrlt : rb < w.heap.size := h.rlt
  have hWL := h.keep hkW (fun e => e) (fun e => e)
  have HBX := Lib.hid hbX
  have HBT := Lib.hid hbT
  have HBL := Lib.hid hbL
  have HBM := Lib.hid hbM
  have HWL := Lib.hid hWL
  have HW := Lib.hid hW
  clear hbX hbT hbL hbM hWL hW h
  go_enter Tryz.func110, Tryz.ntmps110
  go_wp2_with fail
  rw [← hf1, ← hf2, ← hf3, ← HW.out]
  refine (word_some lb rb x ws W HWL.out).mono ?_
  rintro e w1 ⟨rfl, hk1, hl1⟩
  have hn1 : ¬ (w.heap.size = lb) := by omega
  have hn2 : ¬ (w.heap.size + 1 = lb) := by omega
  have hn3 : ¬ (w.heap.size + 1 + 1 = lb) := by omega
  have hn4 : ¬ (w.heap.size + 1 + 1 + 1 = lb) := by omega
  have hL := hk1.at' HBL.out hn1
  have hX := hk1.at' HBX.out hn2
  have hT := hk1.at' HBT.out hn3
  have hM : MapL (fun x : Str => sv x) w1 (w.heap.size + 1 + 1 + 1) (opPairs f1 f2 f3) := hk1.at' HBM.out hn4
  have hkW1 : Keep (fun b => b = lb) w w1 := (hkW.mono (fun _ _ e => e.elim)).trans hk1 (fun _ _ e => e)
  generalize hN : w.heap.size = N at *
  have HN := Lib.hid hN
  clear hN
  have hcT := cell_of_block hT 0
  have hcL := cell_of_block hL 0
  have HM := Lib.hid hM
  have HX := Lib.hid hX
  clear hM hX hT hL HBL HBX HBT HBM HW HWL hp1 hp2 hp3
  by_cases hx0 : x = wRange
  · subst hx0
    have hlk := run_look_hit strKeys Tryz.underlying214 Tryz.underlying9 w1 _ _ HM.out wRange f1 (by simp [opPairs]) (by
      intro p hp he
      simp only [opPairs, List.mem_cons, List.mem_nil_iff, or_false] at hp
      rcases hp with rfl | rfl | rfl
      · rfl
      · exact absurd (show wPut = wRange from he) (by decide)
      · exact absurd (show wDel = wRange from he) (by decide)
      ) true
    subst hf1
    clear hf2 hf3
    have hpop : pop (wRange :: ws) = prange ws := rfl
    have HPOP := Lib.hid hpop
    clear hpop
    go_wp2_with fail
    refine (must_ok _ _).mono ?_
    rintro e w' ⟨rfl, rfl⟩
    go_wp2_with fail
    refine (range_any lb rb (N + 1 + 1) N (N + 1) ws w1 hl1 hcT hcL HX.out hn3 hn1 hn2 (by omega) (by omega) (by omega)).mono ?_
    rintro e w2 ⟨hk2, hg⟩
    have hkW2 : Keep (fun b => b = lb) w w2 := hkW1.trans hk2 (fun b hb e => by
      have hNN := HN.out
      rcases e with e | e
      · exact e
      · omega)
    rcases hpr : prange ws with _ | ⟨a, r⟩
    · rw [hpr] at hg
      subst hg
      exact ⟨rfl, by rw [HPOP.out]; exact ⟨hkW2, by rw [hpr]⟩⟩
    · rw [hpr] at hg
      obtain ⟨rfl, hl2, hb2⟩ := hg
      obtain ⟨cs, hcs⟩ : ∃ cs, cs = opCells a := ⟨_, rfl⟩
      have hs : cs.size = 9 := by rw [hcs]; rfl
      have h1 : cs.all (·.oneCell') = true := by rw [hcs]; exact opCells_one a
      rw [← hcs] at hb2
      have hld := run_ld67 w2 (N + 1) 0 cs hs (range_of_block hb2)
      have hth := there_of_block hb2 (n := 9) (by omega)
      have hst := run_st67 w2 (N + 1) 0 cs hth hs h1
      have HB2 := Lib.hid hb2
      have HL2 := Lib.hid hl2
      have HPR := Lib.hid hpr
      have HCS := Lib.hid hcs
      clear hb2 hl2 hpr hcs
      go_wp2_with fail
      have hb3 := block_setCells_all HB2.out cs.toList (by simp)
      rw [Array.toArray_toList] at hb3
      (try simp only [Exit.inBlock, Exit.then])
      refine bodyPost_ret (v := .agg cs) ?_ rfl ?_
      · exact results_block (n := 9) rfl Tryz.underlying67 rfl info67 _ _ (N + 1) cs 67 (0, 0) rfl hs hb3
      rw [HCS.out, HPOP.out, HPR.out]
      exact ⟨hkW2.setCells _ _ _ (.inl (by have := HN.out; omega)), rfl, HL2.out.keep ((Keep.refl (fun b => b = N + 1) w2).setCells _ _ _ (.inr rfl)) (fun e => by omega) (fun e => by omega)⟩
  by_cases hx1 : x = wPut
  · subst hx1
    have hlk := run_look_hit strKeys Tryz.underlying214 Tryz.underlying9 w1 _ _ HM.out wPut f2 (by simp [opPairs]) (by
      intro p hp he
      simp only [opPairs, List.mem_cons, List.mem_nil_iff, or_false] at hp
      rcases hp with rfl | rfl | rfl
      · exact absurd (show wRange = wPut from he) (by decide)
      · rfl
      · exact absurd (show wDel = wPut from he) (by decide)
      ) true
    subst hf2
    clear hf1 hf3
    have hpop : pop (wPut :: ws) = pput ws := rfl
    have HPOP := Lib.hid hpop
    clear hpop
    go_wp2_with fail
    refine (must_ok _ _).mono ?_
    rintro e w' ⟨rfl, rfl⟩
    go_wp2_with fail
    refine (put_any lb rb (N + 1 + 1) N (N + 1) ws w1 hl1 hcT hcL HX.out hn3 hn1 hn2 (by omega) (by omega) (by omega)).mono ?_
    rintro e w2 ⟨hk2, hg⟩
    have hkW2 : Keep (fun b => b = lb) w w2 := hkW1.trans hk2 (fun b hb e => by
      have hNN := HN.out
      rcases e with e | e
      · exact e
      · omega)
    rcases hpr : pput ws with _ | ⟨a, r⟩
    · rw [hpr] at hg
      subst hg
      exact ⟨rfl, by rw [HPOP.out]; exact ⟨hkW2, by rw [hpr]⟩⟩
    · rw [hpr] at hg
      obtain ⟨rfl, hl2, hb2⟩ := hg
      obtain ⟨cs, hcs⟩ : ∃ cs, cs = opCells a := ⟨_, rfl⟩
      have hs : cs.size = 9 := by rw [hcs]; rfl
      have h1 : cs.all (·.oneCell') = true := by rw [hcs]; exact opCells_one a
      rw [← hcs] at hb2
      have hld := run_ld67 w2 (N + 1) 0 cs hs (range_of_block hb2)
      have hth := there_of_block hb2 (n := 9) (by omega)
      have hst := run_st67 w2 (N + 1) 0 cs hth hs h1
      have HB2 := Lib.hid hb2
      have HL2 := Lib.hid hl2
      have HPR := Lib.hid hpr
      have HCS := Lib.hid hcs
      clear hb2 hl2 hpr hcs
      go_wp2_with fail
      have hb3 := block_setCells_all HB2.out cs.toList (by simp)
      rw [Array.toArray_toList] at hb3
      (try simp only [Exit.inBlock, Exit.then])
      refine bodyPost_ret (v := .agg cs) ?_ rfl ?_
      · exact results_block (n := 9) rfl Tryz.underlying67 rfl info67 _ _ (N + 1) cs 67 (0, 0) rfl hs hb3
      rw [HCS.out, HPOP.out, HPR.out]
      exact ⟨hkW2.setCells _ _ _ (.inl (by have := HN.out; omega)), rfl, HL2.out.keep ((Keep.refl (fun b => b = N + 1) w2).setCells _ _ _ (.inr rfl)) (fun e => by omega) (fun e => by omega)⟩
  by_cases hx2 : x = wDel
  · subst hx2
    have hlk := run_look_hit strKeys Tryz.underlying214 Tryz.underlying9 w1 _ _ HM.out wDel f3 (by simp [opPairs]) (by
      intro p hp he
      simp only [opPairs, List.mem_cons, List.mem_nil_iff, or_false] at hp
      rcases hp with rfl | rfl | rfl
      · exact absurd (show wRange = wDel from he) (by decide)
      · exact absurd (show wPut = wDel from he) (by decide)
      · rfl
      ) true
    subst hf3
    clear hf1 hf2
    have hpop : pop (wDel :: ws) = pdel ws := rfl
    have HPOP := Lib.hid hpop
    clear hpop
    go_wp2_with fail
    refine (must_ok _ _).mono ?_
    rintro e w' ⟨rfl, rfl⟩
    go_wp2_with fail
    refine (del_any lb rb (N + 1 + 1) N (N + 1) ws w1 hl1 hcT hcL HX.out hn3 hn1 hn2 (by omega) (by omega) (by omega)).mono ?_
    rintro e w2 ⟨hk2, hg⟩
    have hkW2 : Keep (fun b => b = lb) w w2 := hkW1.trans hk2 (fun b hb e => by
      have hNN := HN.out
      rcases e with e | e
      · exact e
      · omega)
    rcases hpr : pdel ws with _ | ⟨a, r⟩
    · rw [hpr] at hg
      subst hg
      exact ⟨rfl, by rw [HPOP.out]; exact ⟨hkW2, by rw [hpr]⟩⟩
    · rw [hpr] at hg
      obtain ⟨rfl, hl2, hb2⟩ := hg
      obtain ⟨cs, hcs⟩ : ∃ cs, cs = opCells a := ⟨_, rfl⟩
      have hs : cs.size = 9 := by rw [hcs]; rfl
      have h1 : cs.all (·.oneCell') = true := by rw [hcs]; exact opCells_one a
      rw [← hcs] at hb2
      have hld := run_ld67 w2 (N + 1) 0 cs hs (range_of_block hb2)
      have hth := there_of_block hb2 (n := 9) (by omega)
      have hst := run_st67 w2 (N + 1) 0 cs hth hs h1
      have HB2 := Lib.hid hb2
      have HL2 := Lib.hid hl2
      have HPR := Lib.hid hpr
      have HCS := Lib.hid hcs
      clear hb2 hl2 hpr hcs
      go_wp2_with fail
      have hb3 := block_setCells_all HB2.out cs.toList (by simp)
      rw [Array.toArray_toList] at hb3
      (try simp only [Exit.inBlock, Exit.then])
      refine bodyPost_ret (v := .agg cs) ?_ rfl ?_
      · exact results_block (n := 9) rfl Tryz.underlying67 rfl info67 _ _ (N + 1) cs 67 (0, 0) rfl hs hb3
      rw [HCS.out, HPOP.out, HPR.out]
      exact ⟨hkW2.setCells _ _ _ (.inl (by have := HN.out; omega)), rfl, HL2.out.keep ((Keep.refl (fun b => b = N + 1) w2).setCells _ _ _ (.inr rfl)) (fun e => by omega) (fun e => by omega)⟩
  · have hlk := run_look_miss strKeys Tryz.underlying214 Tryz.underlying9 w1 _ _ HM.out x .nilFunc (by exact rfl) (by
      intro p hp
      simp only [opPairs, List.mem_cons, List.mem_nil_iff, or_false] at hp
      rcases hp with rfl | rfl | rfl
      · exact fun e => hx0 e.symm
      · exact fun e => hx1 e.symm
      · exact fun e => hx2 e.symm
      ) true
    have hpop : pop (x :: ws) = none := by
      show (if x = wRange then prange ws else if x = wPut then pput ws else if x = wDel then pdel ws else none) = none
      rw [if_neg hx0, if_neg hx1, if_neg hx2]
    have HPOP := Lib.hid hpop
    clear hpop hf1 hf2 hf3 hx0 hx1 hx2
    go_wp2_with fail
    refine (must_no _ _).mono ?_
    rintro e w' ⟨rfl, rfl⟩
    exact ⟨rfl, by rw [HPOP.out]; exact ⟨hkW1, rfl⟩⟩
set_option maxRecDepth 100000 in
set_option maxHeartbeats 1600000 in
theorem op_nil (lb rb : Nat) (w : World) (h : LineAt w lb rb []) :
    Calls Tryz.prog 110 #[.pointer (some ⟨lb, 0, none⟩)] w (Got (fun x => .agg (opCells x)) lb rb w (pop [])) := by
  have hmf : ∀ (fn : Fn) (first cap : Array Value) (w : World), (Instr.makeFunc fn first cap).run Tryz.prog w = .ok (.func fn first cap) w := fun _ _ _ _ => rfl
  have hmm := @run_makeMap Tryz.prog
  have hp1 := op_put1
  have hp2 := op_put2
  have hp3 := op_put3
  obtain ⟨f1, hf1⟩ : ∃ v : Value, v = .func (.func 136) #[] #[.pointer (some ⟨w.heap.size + 1 + 1, 0, none⟩), .pointer (some ⟨w.heap.size, 0, none⟩), .pointer (some ⟨w.heap.size + 1, 0, none⟩)] := ⟨_, rfl⟩
  obtain ⟨f2, hf2⟩ : ∃ v : Value, v = .func (.func 137) #[] #[.pointer (some ⟨w.heap.size + 1 + 1, 0, none⟩), .pointer (some ⟨w.heap.size + 1, 0, none⟩), .pointer (some ⟨w.heap.size, 0, none⟩)] := ⟨_, rfl⟩
  obtain ⟨f3, hf3⟩ : ∃ v : Value, v = .func (.func 138) #[] #[.pointer (some ⟨w.heap.size + 1 + 1, 0, none⟩), .pointer (some ⟨w.heap.size + 1, 0, none⟩), .pointer (some ⟨w.heap.size, 0, none⟩)] := ⟨_, rfl⟩
  obtain ⟨W, hW⟩ : ∃ W : World, W = ((((w.alloc (.cells #[.pointer (some ⟨lb, 0, none⟩)] 115)).alloc (.cells #[.int .i64 0, .string ⟨#[]⟩, .string ⟨#[]⟩, .string ⟨#[]⟩, .int .u64 0, .int .i64 0, .bool false, .bool false, .bool false] 67)).alloc
      (.cells #[.func (.func 103) #[.pointer (some ⟨lb, 0, none⟩)] #[]] 98)).alloc (.map #[⟨.string ⟨#[114, 97, 110, 103, 101]⟩, f1, 0⟩, ⟨.string ⟨#[112, 117, 116]⟩, f2, 1⟩, ⟨.string ⟨#[100, 101, 108]⟩, f3, 2⟩] 3)) := ⟨_, rfl⟩
  have hkW : Keep (fun _ => False) w W := by rw [hW]; exact ((((Keep.refl _ w).alloc _).alloc _).alloc _).alloc _
  have hlt := h.lt
  have hWL := h.keep hkW (fun e => e) (fun e => e)
  have HWL := Lib.hid hWL
  have HW := Lib.hid hW
  clear hWL hW h
  go_enter Tryz.func110, Tryz.ntmps110
  go_wp2_with fail
  rw [← hf1, ← hf2, ← hf3, ← HW.out]
  refine (word_none lb rb W HWL.out).mono ?_
  rintro e w1 ⟨rfl, hk1⟩
  exact ⟨rfl, (hkW.mono (fun _ _ e => e.elim)).trans hk1 (fun _ _ e => e), rfl⟩
theorem op_any (lb rb : Nat) (ws : List Str) (w : World) (h : LineAt w lb rb ws) :
    Calls Tryz.prog 110 #[.pointer (some ⟨lb, 0, none⟩)] w (Got (fun x => .agg (opCells x)) lb rb w (pop ws)) := by
  cases ws with
  | nil => exact op_nil lb rb w h
  | cons x ws => exact op_word lb rb x ws w h
end Go.Proofs.YtifliekahdgobaaGreatDoor
