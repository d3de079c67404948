/-
  THE WALKS, 14: Script.read of a step's line (printed by wip/tools/gen_read.py). Helpers of the claims.
-/
import Derived.Deep.CutRange
import Derived.Test.YtifliekahdgobaaGreatDoorKW26ToW13
set_option linter.unusedSimpArgs false
set_option linter.unusedVariables false
namespace Go.Proofs.YtifliekahdgobaaGreatDoor
open Go.RowKit Sp

/-- what has come of the look-up: the rule's variable, and whether there is one -/
def CutR (W : World) (x : Str) (s6 s7 : Value) (wx : World) : Prop :=
  Keep (fun _ => False) W wx ∧ ∃ q : Nat, s6 = .pointer (some ⟨q, 0, none⟩) ∧ match kindOf names x with
    | some k => s7 = .bool true ∧ wx.heap[q]? = some (.cells (ruleCells k (decide (2 < k)) (readF k) (writeF k)) 88 (0, 0))
    | none => s7 = .bool false
@[go_sem] theorem one_nilf : (Value.nilFunc).oneCell' = true := rfl

theorem read_done {base gb : Nat} {v v' : Value} {s : ScriptS} {y : StepS} {w V0 w9 : World} {po : Except Int ScriptS} (hs9 : w9.heap[gb]? = some (.cells #[.int .i64 s.nodes, v] 24 (0, 0))) (hst9 : StepsAt w9 base v' (s.steps ++ [y]))
    (hk9 : Keep (fun b => some b = v.ownBlock) V0 w9) (hk : Keep (fun _ => False) w V0) (hpo : po = .ok { s with steps := s.steps ++ [y] }) : GotRead base gb v w po (.returned (.tuple #[])) (w9.setCell ⟨gb, 1, none⟩ v') := by
  subst hpo
  have hkG : Keep (fun b => b = gb) w9 (w9.setCell ⟨gb, 1, none⟩ v') := (Keep.refl (fun b => b = gb) w9).setCell _ _ (.inr rfl)
  refine ⟨((hk.mono (fun _ _ e => e.elim)).trans hk9 (fun b _ e => .inr e)).setCell _ _ (.inr (.inl rfl)), rfl, v', block_setCell hs9 1 v', hst9.keep hkG (fun g hg e => hst9.notScript hs9 (e ▸ hg)) (fun g cs T hc e => by
    subst e
    rw [hs9] at hc
    injection hc with e2
    injection e2 with e3 e4
    subst e4
    decide)⟩

set_option maxRecDepth 100000 in
set_option maxHeartbeats 1600000 in
theorem read_other (base gb rb off c : Nat) (v : Value) (s : ScriptS) (x : Str) (ws : List Str) (w : World) (hs : ScriptAt w base gb s v) (hw : WordsAt w rb off c (x :: ws)) (hx0 : (x == [110, 111, 100, 101, 115]) = false) (hbase : base ≤ w.heap.size) :
    Calls Tryz.prog 27 #[.pointer (some ⟨gb, 0, none⟩), .slice (some ⟨rb, off, none⟩) (ws.length + 1) c] w (GotRead base gb v w (line s (x :: ws))) := by
  have hx : w.cell? ⟨rb, off, none⟩ = some (.string ⟨x.toArray⟩) := hw.cells 0 x rfl
  have hrb : rb < w.heap.size := World.block_lt_of_cell? _ _ hx
  obtain ⟨off', c', hsl, hln⟩ := line_new hw
  have hgb := lt_of_block hs.1
  obtain ⟨po, hpo⟩ : ∃ po, po = line s (x :: ws) := ⟨_, rfl⟩
  have hpo2 : po = match kindOf names x with
      | none => .error 19
      | some k => match pstep k ws with
        | none => .error 4
        | some y => if s.nodes ≤ 0 then .error 4 else if 4096 ≤ s.steps.length then .error 3 else .ok { s with steps := s.steps ++ [y] } := by
    rw [hpo]
    show (if x = wNodes then _ else _) = _
    rw [if_neg (show ¬ x = wNodes from by have h9 : ¬ x = [110, 111, 100, 101, 115] := by simpa using hx0
                                          exact h9)]
    rfl
  rw [← hpo]
  have HPO := Lib.hid hpo2
  clear hpo hpo2
  obtain ⟨W, hW⟩ : ∃ W : World, W = w.alloc (.cells #[.slice (some ⟨rb, off', none⟩) ws.length c'] 117 (0, 0)) := ⟨_, rfl⟩
  rw [← hW] at hln
  have hkW : Keep (fun _ => False) w W := by rw [hW]; exact (Keep.refl _ w).alloc _
  have hxW := hkW.cellOf hx (fun e => e)
  have hxW2 : (w.alloc (.cells #[.slice (some ⟨rb, off', none⟩) ws.length c'] 117 (0, 0))).cell? ⟨rb, off, none⟩ = some (.string ⟨x.toArray⟩) := by rw [← hW]; exact hxW
  have hsW := hkW.at' hs.1 (fun e => e)
  have HSW := Lib.hid hsW
  have HST := Lib.hid (hs.2.far hkW)
  have HLN := Lib.hid hln
  have HW := Lib.hid hW
  have HXW := Lib.hid hxW
  have hg : ¬ gb = w.heap.size := by omega
  have HVL := Lib.hid hs.2.lt
  clear hW hsW hln hx hw hs hxW
  go_enter Tryz.func27, Tryz.ntmps27
  go_wp2_with fail
  rw [← HW.out]
  clear hsl HW hxW2
  generalize hlb : w.heap.size = lb at *
  have HLB := Lib.hid hlb
  clear hlb
  go_cut [6, 7] from 42 to 49 (fun s6 s7 wx => CutR W x s6 s7 wx)
  case first =>
    rcases hkd : kindOf names x with _ | k
    · refine wp_region_held_drew (S := fun w' => w'.cell? ⟨rb, off, none⟩ = some (.string ⟨x.toArray⟩)) (by kernel_rfl) HXW.out (fun hHeld => ?_)
      have hkD : Keep (fun _ => False) W W.drew := (Keep.refl _ W).drew
      generalize W.drew = V0 at *
      refine wpAnyH_take (i := 1) (v := ?_) rfl (by kernel_rfl) (by kernel_rfl) (by kernel_rfl) (fun _ _ _ h => h) (Or.inl ⟨by rfl, ?_⟩) (by assumption) ?_
      rotate_left
      · (intro w hSw; (try dsimp only at hSw); go_simp; try with_reducible rfl)
      try simp only [Act.put, List.setIfInBounds_toArray, List.set_cons_zero, List.set_cons_succ]
      refine wpAnyH_take (i := 2) (v := ?_) rfl (by kernel_rfl) (by kernel_rfl) (by kernel_rfl) (fun _ _ _ h => h) (Or.inl ⟨by rfl, ?_⟩) (by assumption) ?_
      rotate_left
      · (intro w hSw; (try dsimp only at hSw); go_simp; try with_reducible rfl)
      try simp only [Act.put, List.setIfInBounds_toArray, List.set_cons_zero, List.set_cons_succ]
      refine wpAnyH_take (i := 3) (v := ?_) rfl (by kernel_rfl) (by kernel_rfl) (by kernel_rfl) (fun _ _ _ h => h) (Or.inl ⟨by rfl, ?_⟩) (by assumption) ?_
      rotate_left
      · (intro w hSw; (try dsimp only at hSw); go_simp; try with_reducible rfl)
      try simp only [Act.put, List.setIfInBounds_toArray, List.set_cons_zero, List.set_cons_succ]
      refine wpAnyH_ready (rs := [0, 8]) (by kernel_rfl) (by simp) ?_
      refine AllReadyH.cons (o := ?_) (by simp only [List.getElem?_toArray, List.getElem?_cons_succ, List.getElem?_cons_zero]; exact rfl) (fun K hK => ?_) (AllReadyH.cons (o := ?_) (by simp only [List.getElem?_toArray, List.getElem?_cons_succ, List.getElem?_cons_zero]; exact rfl) (fun K hK => ?_) AllReadyH.nil)
      · go_simp
        refine (rules_any V0).mono ?_
        rintro e u1 ⟨r, rfl, hru, hrr, hkc⟩
        have hkD1 := hkD.trans' hkc
        have hh := hkc.cellOf hHeld (fun e => e)
        clear hHeld
        refine hK.out _ _ hh (fun hHeld => ?_)
        clear hK K
        try simp only [Act.put, List.setIfInBounds_toArray, List.set_cons_zero, List.set_cons_succ]
        clear hh
        refine wpAnyH_ready (rs := [4, 8]) (by kernel_rfl) (by simp) ?_
        refine AllReadyH.cons (o := ?_) (by simp only [List.getElem?_toArray, List.getElem?_cons_succ, List.getElem?_cons_zero]; exact rfl) (fun K hK => ?_) (AllReadyH.cons (o := ?_) (by simp only [List.getElem?_toArray, List.getElem?_cons_succ, List.getElem?_cons_zero]; exact rfl) (fun K hK => ?_) AllReadyH.nil)
        · have hlk := look_none hru hkd
          try unfold ruleCells at hlk
          go_simp
          refine hK.out _ _ hHeld (fun hHeld => ?_)
          clear hK K
          try simp only [Act.put, List.setIfInBounds_toArray, List.set_cons_zero, List.set_cons_succ]
          clear hlk
          refine wpAnyH_take (i := 5) (v := ?_) rfl (by kernel_rfl) (by kernel_rfl) (by kernel_rfl) (fun _ _ _ h => h) (Or.inl ⟨by rfl, ?_⟩) (by assumption) ?_
          rotate_left
          · (intro w hSw; (try dsimp only at hSw); go_simp; try with_reducible rfl)
          try simp only [Act.put, List.setIfInBounds_toArray, List.set_cons_zero, List.set_cons_succ]
          refine wpAnyH_take (i := 6) (v := ?_) rfl (by kernel_rfl) (by kernel_rfl) (by kernel_rfl) (fun _ _ _ h => h) (Or.inl ⟨by rfl, ?_⟩) (by assumption) ?_
          rotate_left
          · (intro w hSw; (try dsimp only at hSw); go_simp; try with_reducible rfl)
          try simp only [Act.put, List.setIfInBounds_toArray, List.set_cons_zero, List.set_cons_succ]
          refine wpAnyH_take (i := 7) (v := ?_) rfl (by kernel_rfl) (by kernel_rfl) (by kernel_rfl) (fun _ _ _ h => h) (Or.inl ⟨by rfl, ?_⟩) (by assumption) ?_
          rotate_left
          · (intro w hSw; (try dsimp only at hSw); go_simp; try with_reducible rfl)
          try simp only [Act.put, List.setIfInBounds_toArray, List.set_cons_zero, List.set_cons_succ]
          refine wpAnyH_ready (rs := [8]) (by kernel_rfl) (by simp) ?_
          refine AllReadyH.cons (o := ?_) (by simp only [List.getElem?_toArray, List.getElem?_cons_succ, List.getElem?_cons_zero]; exact rfl) (fun K hK => ?_) AllReadyH.nil
          obtain ⟨u2, hu⟩ : ∃ u : World, u = u1.alloc (.cells #[.int .i64 0, .bool false, .nilFunc, .nilFunc] 88 (0, 0)) := ⟨_, rfl⟩
          obtain ⟨q, hqq⟩ : ∃ q, q = u1.heap.size := ⟨_, rfl⟩
          have hqz : W.heap.size ≤ u1.heap.size := hkD1.size
          have QSZ := Lib.hid hqz
          clear hqz
          have hkc : Keep (fun _ => False) u1 u2 := by rw [hu]; exact (Keep.refl _ _).alloc _
          have hkD2 := hkD1.trans' hkc
          have hh := hkc.cellOf hHeld (fun e => e)
          have hq : u2.heap[q]? = some (.cells #[.int .i64 0, .bool false, .nilFunc, .nilFunc] 88 (0, 0)) := by rw [hu, hqq]; exact block_new _ _
          have HU := Lib.hid hu
          have HQ := Lib.hid hqq
          clear hHeld hu hqq
          have hru2 := hru.keep hkc
          clear hru
          have hru := hru2
          clear hru2
          go_simp
          rw [← HU.out, ← HQ.out]
          refine hK.out _ _ hh (fun hHeld => ?_)
          clear hK K
          try simp only [Act.put, List.setIfInBounds_toArray, List.set_cons_zero, List.set_cons_succ]
          clear hh
          have hst := run_st88 u2 q 0 #[.int .i64 0, .bool false, .nilFunc, .nilFunc] (there_of_block hq (Nat.le_refl 4)) rfl (by simp [one_int, one_bool, one_func, one_nilf])
          obtain ⟨ue, hue⟩ : ∃ u : World, u = u2.setCells q 0 (#[.int .i64 0, .bool false, .nilFunc, .nilFunc] : Array Value).toList := ⟨_, rfl⟩
          rw [← hue] at hst
          have hqe : ue.heap[q]? = some (.cells #[.int .i64 0, .bool false, .nilFunc, .nilFunc] 88 (0, 0)) := by rw [hue]; exact block_setCells_all hq _ rfl
          have hke : Keep (fun _ => False) W ue := by rw [hue]; exact hkD2.setCells _ _ _ (.inl (by have := HQ.out; have := QSZ.out; omega))
          have hh : ue.cell? ⟨rb, off, none⟩ = some (.string ⟨x.toArray⟩) := hke.cellOf HXW.out (fun e => e)
          clear hue
          refine wpAnyH_ready (rs := [9]) (by kernel_rfl) (by simp) ?_
          refine AllReadyH.cons (o := ?_) (by simp only [List.getElem?_toArray, List.getElem?_cons_succ, List.getElem?_cons_zero]; exact rfl) (fun K hK => ?_) AllReadyH.nil
          go_simp
          refine hK.out _ _ hh (fun hHeld => ?_)
          clear hK K
          try simp only [Act.put, List.setIfInBounds_toArray, List.set_cons_zero, List.set_cons_succ]
          refine wpAnyH_ready (rs := [10]) (by kernel_rfl) (by simp) ?_
          refine AllReadyH.cons (o := ?_) (by simp only [List.getElem?_toArray, List.getElem?_cons_succ, List.getElem?_cons_zero]; exact rfl) (fun K hK => ?_) AllReadyH.nil
          go_simp
          refine hK.out _ _ hh (fun hHeld => ?_)
          clear hK K
          try simp only [Act.put, List.setIfInBounds_toArray, List.set_cons_zero, List.set_cons_succ]
          refine wpAnyH_done (by kernel_rfl) ?_ _
          go_wp2_with fail
          go_meet
          exact ⟨hke, q, rfl, by rw [hkd]⟩
        · obtain ⟨u2, hu⟩ : ∃ u : World, u = u1.alloc (.cells #[.int .i64 0, .bool false, .nilFunc, .nilFunc] 88 (0, 0)) := ⟨_, rfl⟩
          obtain ⟨q, hqq⟩ : ∃ q, q = u1.heap.size := ⟨_, rfl⟩
          have hqz : W.heap.size ≤ u1.heap.size := hkD1.size
          have QSZ := Lib.hid hqz
          clear hqz
          have hkc : Keep (fun _ => False) u1 u2 := by rw [hu]; exact (Keep.refl _ _).alloc _
          have hkD2 := hkD1.trans' hkc
          have hh := hkc.cellOf hHeld (fun e => e)
          have hq : u2.heap[q]? = some (.cells #[.int .i64 0, .bool false, .nilFunc, .nilFunc] 88 (0, 0)) := by rw [hu, hqq]; exact block_new _ _
          have HU := Lib.hid hu
          have HQ := Lib.hid hqq
          clear hHeld hu hqq
          have hru2 := hru.keep hkc
          clear hru
          have hru := hru2
          clear hru2
          go_simp
          rw [← HU.out, ← HQ.out]
          refine hK.out _ _ hh (fun hHeld => ?_)
          clear hK K
          try simp only [Act.put, List.setIfInBounds_toArray, List.set_cons_zero, List.set_cons_succ]
          clear hh
          refine wpAnyH_ready (rs := [4]) (by kernel_rfl) (by simp) ?_
          refine AllReadyH.cons (o := ?_) (by simp only [List.getElem?_toArray, List.getElem?_cons_succ, List.getElem?_cons_zero]; exact rfl) (fun K hK => ?_) AllReadyH.nil
          have hlk := look_none hru hkd
          try unfold ruleCells at hlk
          go_simp
          refine hK.out _ _ hHeld (fun hHeld => ?_)
          clear hK K
          try simp only [Act.put, List.setIfInBounds_toArray, List.set_cons_zero, List.set_cons_succ]
          clear hlk
          refine wpAnyH_take (i := 5) (v := ?_) rfl (by kernel_rfl) (by kernel_rfl) (by kernel_rfl) (fun _ _ _ h => h) (Or.inl ⟨by rfl, ?_⟩) (by assumption) ?_
          rotate_left
          · (intro w hSw; (try dsimp only at hSw); go_simp; try with_reducible rfl)
          try simp only [Act.put, List.setIfInBounds_toArray, List.set_cons_zero, List.set_cons_succ]
          refine wpAnyH_take (i := 6) (v := ?_) rfl (by kernel_rfl) (by kernel_rfl) (by kernel_rfl) (fun _ _ _ h => h) (Or.inl ⟨by rfl, ?_⟩) (by assumption) ?_
          rotate_left
          · (intro w hSw; (try dsimp only at hSw); go_simp; try with_reducible rfl)
          try simp only [Act.put, List.setIfInBounds_toArray, List.set_cons_zero, List.set_cons_succ]
          refine wpAnyH_take (i := 7) (v := ?_) rfl (by kernel_rfl) (by kernel_rfl) (by kernel_rfl) (fun _ _ _ h => h) (Or.inl ⟨by rfl, ?_⟩) (by assumption) ?_
          rotate_left
          · (intro w hSw; (try dsimp only at hSw); go_simp; try with_reducible rfl)
          try simp only [Act.put, List.setIfInBounds_toArray, List.set_cons_zero, List.set_cons_succ]
          have hst := run_st88 u2 q 0 #[.int .i64 0, .bool false, .nilFunc, .nilFunc] (there_of_block hq (Nat.le_refl 4)) rfl (by simp [one_int, one_bool, one_func, one_nilf])
          obtain ⟨ue, hue⟩ : ∃ u : World, u = u2.setCells q 0 (#[.int .i64 0, .bool false, .nilFunc, .nilFunc] : Array Value).toList := ⟨_, rfl⟩
          rw [← hue] at hst
          have hqe : ue.heap[q]? = some (.cells #[.int .i64 0, .bool false, .nilFunc, .nilFunc] 88 (0, 0)) := by rw [hue]; exact block_setCells_all hq _ rfl
          have hke : Keep (fun _ => False) W ue := by rw [hue]; exact hkD2.setCells _ _ _ (.inl (by have := HQ.out; have := QSZ.out; omega))
          have hh : ue.cell? ⟨rb, off, none⟩ = some (.string ⟨x.toArray⟩) := hke.cellOf HXW.out (fun e => e)
          clear hue
          refine wpAnyH_ready (rs := [9]) (by kernel_rfl) (by simp) ?_
          refine AllReadyH.cons (o := ?_) (by simp only [List.getElem?_toArray, List.getElem?_cons_succ, List.getElem?_cons_zero]; exact rfl) (fun K hK => ?_) AllReadyH.nil
          go_simp
          refine hK.out _ _ hh (fun hHeld => ?_)
          clear hK K
          try simp only [Act.put, List.setIfInBounds_toArray, List.set_cons_zero, List.set_cons_succ]
          refine wpAnyH_ready (rs := [10]) (by kernel_rfl) (by simp) ?_
          refine AllReadyH.cons (o := ?_) (by simp only [List.getElem?_toArray, List.getElem?_cons_succ, List.getElem?_cons_zero]; exact rfl) (fun K hK => ?_) AllReadyH.nil
          go_simp
          refine hK.out _ _ hh (fun hHeld => ?_)
          clear hK K
          try simp only [Act.put, List.setIfInBounds_toArray, List.set_cons_zero, List.set_cons_succ]
          refine wpAnyH_done (by kernel_rfl) ?_ _
          go_wp2_with fail
          go_meet
          exact ⟨hke, q, rfl, by rw [hkd]⟩
      · obtain ⟨u1, hu⟩ : ∃ u : World, u = V0.alloc (.cells #[.int .i64 0, .bool false, .nilFunc, .nilFunc] 88 (0, 0)) := ⟨_, rfl⟩
        obtain ⟨q, hqq⟩ : ∃ q, q = V0.heap.size := ⟨_, rfl⟩
        have hqz : W.heap.size ≤ V0.heap.size := hkD.size
        have QSZ := Lib.hid hqz
        clear hqz
        have hkc : Keep (fun _ => False) V0 u1 := by rw [hu]; exact (Keep.refl _ _).alloc _
        have hkD1 := hkD.trans' hkc
        have hh := hkc.cellOf hHeld (fun e => e)
        have hq : u1.heap[q]? = some (.cells #[.int .i64 0, .bool false, .nilFunc, .nilFunc] 88 (0, 0)) := by rw [hu, hqq]; exact block_new _ _
        have HU := Lib.hid hu
        have HQ := Lib.hid hqq
        clear hHeld hu hqq
        go_simp
        rw [← HU.out, ← HQ.out]
        refine hK.out _ _ hh (fun hHeld => ?_)
        clear hK K
        try simp only [Act.put, List.setIfInBounds_toArray, List.set_cons_zero, List.set_cons_succ]
        clear hh
        refine wpAnyH_ready (rs := [0]) (by kernel_rfl) (by simp) ?_
        refine AllReadyH.cons (o := ?_) (by simp only [List.getElem?_toArray, List.getElem?_cons_succ, List.getElem?_cons_zero]; exact rfl) (fun K hK => ?_) AllReadyH.nil
        go_simp
        refine (rules_any u1).mono ?_
        rintro e u2 ⟨r, rfl, hru, hrr, hkc⟩
        have hkD2 := hkD1.trans' hkc
        have hh := hkc.cellOf hHeld (fun e => e)
        clear hHeld
        have hq2 := hkc.at' hq (fun e => e)
        clear hq
        have hq := hq2
        clear hq2
        refine hK.out _ _ hh (fun hHeld => ?_)
        clear hK K
        try simp only [Act.put, List.setIfInBounds_toArray, List.set_cons_zero, List.set_cons_succ]
        clear hh
        refine wpAnyH_ready (rs := [4]) (by kernel_rfl) (by simp) ?_
        refine AllReadyH.cons (o := ?_) (by simp only [List.getElem?_toArray, List.getElem?_cons_succ, List.getElem?_cons_zero]; exact rfl) (fun K hK => ?_) AllReadyH.nil
        have hlk := look_none hru hkd
        try unfold ruleCells at hlk
        go_simp
        refine hK.out _ _ hHeld (fun hHeld => ?_)
        clear hK K
        try simp only [Act.put, List.setIfInBounds_toArray, List.set_cons_zero, List.set_cons_succ]
        clear hlk
        refine wpAnyH_take (i := 5) (v := ?_) rfl (by kernel_rfl) (by kernel_rfl) (by kernel_rfl) (fun _ _ _ h => h) (Or.inl ⟨by rfl, ?_⟩) (by assumption) ?_
        rotate_left
        · (intro w hSw; (try dsimp only at hSw); go_simp; try with_reducible rfl)
        try simp only [Act.put, List.setIfInBounds_toArray, List.set_cons_zero, List.set_cons_succ]
        refine wpAnyH_take (i := 6) (v := ?_) rfl (by kernel_rfl) (by kernel_rfl) (by kernel_rfl) (fun _ _ _ h => h) (Or.inl ⟨by rfl, ?_⟩) (by assumption) ?_
        rotate_left
        · (intro w hSw; (try dsimp only at hSw); go_simp; try with_reducible rfl)
        try simp only [Act.put, List.setIfInBounds_toArray, List.set_cons_zero, List.set_cons_succ]
        refine wpAnyH_take (i := 7) (v := ?_) rfl (by kernel_rfl) (by kernel_rfl) (by kernel_rfl) (fun _ _ _ h => h) (Or.inl ⟨by rfl, ?_⟩) (by assumption) ?_
        rotate_left
        · (intro w hSw; (try dsimp only at hSw); go_simp; try with_reducible rfl)
        try simp only [Act.put, List.setIfInBounds_toArray, List.set_cons_zero, List.set_cons_succ]
        have hst := run_st88 u2 q 0 #[.int .i64 0, .bool false, .nilFunc, .nilFunc] (there_of_block hq (Nat.le_refl 4)) rfl (by simp [one_int, one_bool, one_func, one_nilf])
        obtain ⟨ue, hue⟩ : ∃ u : World, u = u2.setCells q 0 (#[.int .i64 0, .bool false, .nilFunc, .nilFunc] : Array Value).toList := ⟨_, rfl⟩
        rw [← hue] at hst
        have hqe : ue.heap[q]? = some (.cells #[.int .i64 0, .bool false, .nilFunc, .nilFunc] 88 (0, 0)) := by rw [hue]; exact block_setCells_all hq _ rfl
        have hke : Keep (fun _ => False) W ue := by rw [hue]; exact hkD2.setCells _ _ _ (.inl (by have := HQ.out; have := QSZ.out; omega))
        have hh : ue.cell? ⟨rb, off, none⟩ = some (.string ⟨x.toArray⟩) := hke.cellOf HXW.out (fun e => e)
        clear hue
        refine wpAnyH_ready (rs := [9]) (by kernel_rfl) (by simp) ?_
        refine AllReadyH.cons (o := ?_) (by simp only [List.getElem?_toArray, List.getElem?_cons_succ, List.getElem?_cons_zero]; exact rfl) (fun K hK => ?_) AllReadyH.nil
        go_simp
        refine hK.out _ _ hh (fun hHeld => ?_)
        clear hK K
        try simp only [Act.put, List.setIfInBounds_toArray, List.set_cons_zero, List.set_cons_succ]
        refine wpAnyH_ready (rs := [10]) (by kernel_rfl) (by simp) ?_
        refine AllReadyH.cons (o := ?_) (by simp only [List.getElem?_toArray, List.getElem?_cons_succ, List.getElem?_cons_zero]; exact rfl) (fun K hK => ?_) AllReadyH.nil
        go_simp
        refine hK.out _ _ hh (fun hHeld => ?_)
        clear hK K
        try simp only [Act.put, List.setIfInBounds_toArray, List.set_cons_zero, List.set_cons_succ]
        refine wpAnyH_done (by kernel_rfl) ?_ _
        go_wp2_with fail
        go_meet
        exact ⟨hke, q, rfl, by rw [hkd]⟩
    · refine wp_region_held_drew (S := fun w' => w'.cell? ⟨rb, off, none⟩ = some (.string ⟨x.toArray⟩)) (by kernel_rfl) HXW.out (fun hHeld => ?_)
      have hkD : Keep (fun _ => False) W W.drew := (Keep.refl _ W).drew
      generalize W.drew = V0 at *
      refine wpAnyH_take (i := 1) (v := ?_) rfl (by kernel_rfl) (by kernel_rfl) (by kernel_rfl) (fun _ _ _ h => h) (Or.inl ⟨by rfl, ?_⟩) (by assumption) ?_
      rotate_left
      · (intro w hSw; (try dsimp only at hSw); go_simp; try with_reducible rfl)
      try simp only [Act.put, List.setIfInBounds_toArray, List.set_cons_zero, List.set_cons_succ]
      refine wpAnyH_take (i := 2) (v := ?_) rfl (by kernel_rfl) (by kernel_rfl) (by kernel_rfl) (fun _ _ _ h => h) (Or.inl ⟨by rfl, ?_⟩) (by assumption) ?_
      rotate_left
      · (intro w hSw; (try dsimp only at hSw); go_simp; try with_reducible rfl)
      try simp only [Act.put, List.setIfInBounds_toArray, List.set_cons_zero, List.set_cons_succ]
      refine wpAnyH_take (i := 3) (v := ?_) rfl (by kernel_rfl) (by kernel_rfl) (by kernel_rfl) (fun _ _ _ h => h) (Or.inl ⟨by rfl, ?_⟩) (by assumption) ?_
      rotate_left
      · (intro w hSw; (try dsimp only at hSw); go_simp; try with_reducible rfl)
      try simp only [Act.put, List.setIfInBounds_toArray, List.set_cons_zero, List.set_cons_succ]
      refine wpAnyH_ready (rs := [0, 8]) (by kernel_rfl) (by simp) ?_
      refine AllReadyH.cons (o := ?_) (by simp only [List.getElem?_toArray, List.getElem?_cons_succ, List.getElem?_cons_zero]; exact rfl) (fun K hK => ?_) (AllReadyH.cons (o := ?_) (by simp only [List.getElem?_toArray, List.getElem?_cons_succ, List.getElem?_cons_zero]; exact rfl) (fun K hK => ?_) AllReadyH.nil)
      · go_simp
        refine (rules_any V0).mono ?_
        rintro e u1 ⟨r, rfl, hru, hrr, hkc⟩
        have hkD1 := hkD.trans' hkc
        have hh := hkc.cellOf hHeld (fun e => e)
        clear hHeld
        refine hK.out _ _ hh (fun hHeld => ?_)
        clear hK K
        try simp only [Act.put, List.setIfInBounds_toArray, List.set_cons_zero, List.set_cons_succ]
        clear hh
        refine wpAnyH_ready (rs := [4, 8]) (by kernel_rfl) (by simp) ?_
        refine AllReadyH.cons (o := ?_) (by simp only [List.getElem?_toArray, List.getElem?_cons_succ, List.getElem?_cons_zero]; exact rfl) (fun K hK => ?_) (AllReadyH.cons (o := ?_) (by simp only [List.getElem?_toArray, List.getElem?_cons_succ, List.getElem?_cons_zero]; exact rfl) (fun K hK => ?_) AllReadyH.nil)
        · have hlk := look_rule hru hkd
          try unfold ruleCells at hlk
          go_simp
          refine hK.out _ _ hHeld (fun hHeld => ?_)
          clear hK K
          try simp only [Act.put, List.setIfInBounds_toArray, List.set_cons_zero, List.set_cons_succ]
          clear hlk
          refine wpAnyH_take (i := 5) (v := ?_) rfl (by kernel_rfl) (by kernel_rfl) (by kernel_rfl) (fun _ _ _ h => h) (Or.inl ⟨by rfl, ?_⟩) (by assumption) ?_
          rotate_left
          · (intro w hSw; (try dsimp only at hSw); go_simp; try with_reducible rfl)
          try simp only [Act.put, List.setIfInBounds_toArray, List.set_cons_zero, List.set_cons_succ]
          refine wpAnyH_take (i := 6) (v := ?_) rfl (by kernel_rfl) (by kernel_rfl) (by kernel_rfl) (fun _ _ _ h => h) (Or.inl ⟨by rfl, ?_⟩) (by assumption) ?_
          rotate_left
          · (intro w hSw; (try dsimp only at hSw); go_simp; try with_reducible rfl)
          try simp only [Act.put, List.setIfInBounds_toArray, List.set_cons_zero, List.set_cons_succ]
          refine wpAnyH_take (i := 7) (v := ?_) rfl (by kernel_rfl) (by kernel_rfl) (by kernel_rfl) (fun _ _ _ h => h) (Or.inl ⟨by rfl, ?_⟩) (by assumption) ?_
          rotate_left
          · (intro w hSw; (try dsimp only at hSw); go_simp; try with_reducible rfl)
          try simp only [Act.put, List.setIfInBounds_toArray, List.set_cons_zero, List.set_cons_succ]
          refine wpAnyH_ready (rs := [8]) (by kernel_rfl) (by simp) ?_
          refine AllReadyH.cons (o := ?_) (by simp only [List.getElem?_toArray, List.getElem?_cons_succ, List.getElem?_cons_zero]; exact rfl) (fun K hK => ?_) AllReadyH.nil
          obtain ⟨u2, hu⟩ : ∃ u : World, u = u1.alloc (.cells #[.int .i64 0, .bool false, .nilFunc, .nilFunc] 88 (0, 0)) := ⟨_, rfl⟩
          obtain ⟨q, hqq⟩ : ∃ q, q = u1.heap.size := ⟨_, rfl⟩
          have hqz : W.heap.size ≤ u1.heap.size := hkD1.size
          have QSZ := Lib.hid hqz
          clear hqz
          have hkc : Keep (fun _ => False) u1 u2 := by rw [hu]; exact (Keep.refl _ _).alloc _
          have hkD2 := hkD1.trans' hkc
          have hh := hkc.cellOf hHeld (fun e => e)
          have hq : u2.heap[q]? = some (.cells #[.int .i64 0, .bool false, .nilFunc, .nilFunc] 88 (0, 0)) := by rw [hu, hqq]; exact block_new _ _
          have HU := Lib.hid hu
          have HQ := Lib.hid hqq
          clear hHeld hu hqq
          have hru2 := hru.keep hkc
          clear hru
          have hru := hru2
          clear hru2
          go_simp
          rw [← HU.out, ← HQ.out]
          refine hK.out _ _ hh (fun hHeld => ?_)
          clear hK K
          try simp only [Act.put, List.setIfInBounds_toArray, List.set_cons_zero, List.set_cons_succ]
          clear hh
          have hst := run_st88 u2 q 0 #[.int .i64 k, .bool (decide (2 < k)), .func (.func (readF k)) #[] #[], .func (.func (writeF k)) #[] #[]] (there_of_block hq (Nat.le_refl 4)) rfl (by simp [one_int, one_bool, one_func, one_nilf])
          obtain ⟨ue, hue⟩ : ∃ u : World, u = u2.setCells q 0 (#[.int .i64 k, .bool (decide (2 < k)), .func (.func (readF k)) #[] #[], .func (.func (writeF k)) #[] #[]] : Array Value).toList := ⟨_, rfl⟩
          rw [← hue] at hst
          have hqe : ue.heap[q]? = some (.cells #[.int .i64 k, .bool (decide (2 < k)), .func (.func (readF k)) #[] #[], .func (.func (writeF k)) #[] #[]] 88 (0, 0)) := by rw [hue]; exact block_setCells_all hq _ rfl
          have hke : Keep (fun _ => False) W ue := by rw [hue]; exact hkD2.setCells _ _ _ (.inl (by have := HQ.out; have := QSZ.out; omega))
          have hh : ue.cell? ⟨rb, off, none⟩ = some (.string ⟨x.toArray⟩) := hke.cellOf HXW.out (fun e => e)
          clear hue
          refine wpAnyH_ready (rs := [9]) (by kernel_rfl) (by simp) ?_
          refine AllReadyH.cons (o := ?_) (by simp only [List.getElem?_toArray, List.getElem?_cons_succ, List.getElem?_cons_zero]; exact rfl) (fun K hK => ?_) AllReadyH.nil
          go_simp
          refine hK.out _ _ hh (fun hHeld => ?_)
          clear hK K
          try simp only [Act.put, List.setIfInBounds_toArray, List.set_cons_zero, List.set_cons_succ]
          refine wpAnyH_ready (rs := [10]) (by kernel_rfl) (by simp) ?_
          refine AllReadyH.cons (o := ?_) (by simp only [List.getElem?_toArray, List.getElem?_cons_succ, List.getElem?_cons_zero]; exact rfl) (fun K hK => ?_) AllReadyH.nil
          go_simp
          refine hK.out _ _ hh (fun hHeld => ?_)
          clear hK K
          try simp only [Act.put, List.setIfInBounds_toArray, List.set_cons_zero, List.set_cons_succ]
          refine wpAnyH_done (by kernel_rfl) ?_ _
          go_wp2_with fail
          go_meet
          exact ⟨hke, q, rfl, by rw [hkd]; exact ⟨rfl, hqe⟩⟩
        · obtain ⟨u2, hu⟩ : ∃ u : World, u = u1.alloc (.cells #[.int .i64 0, .bool false, .nilFunc, .nilFunc] 88 (0, 0)) := ⟨_, rfl⟩
          obtain ⟨q, hqq⟩ : ∃ q, q = u1.heap.size := ⟨_, rfl⟩
          have hqz : W.heap.size ≤ u1.heap.size := hkD1.size
          have QSZ := Lib.hid hqz
          clear hqz
          have hkc : Keep (fun _ => False) u1 u2 := by rw [hu]; exact (Keep.refl _ _).alloc _
          have hkD2 := hkD1.trans' hkc
          have hh := hkc.cellOf hHeld (fun e => e)
          have hq : u2.heap[q]? = some (.cells #[.int .i64 0, .bool false, .nilFunc, .nilFunc] 88 (0, 0)) := by rw [hu, hqq]; exact block_new _ _
          have HU := Lib.hid hu
          have HQ := Lib.hid hqq
          clear hHeld hu hqq
          have hru2 := hru.keep hkc
          clear hru
          have hru := hru2
          clear hru2
          go_simp
          rw [← HU.out, ← HQ.out]
          refine hK.out _ _ hh (fun hHeld => ?_)
          clear hK K
          try simp only [Act.put, List.setIfInBounds_toArray, List.set_cons_zero, List.set_cons_succ]
          clear hh
          refine wpAnyH_ready (rs := [4]) (by kernel_rfl) (by simp) ?_
          refine AllReadyH.cons (o := ?_) (by simp only [List.getElem?_toArray, List.getElem?_cons_succ, List.getElem?_cons_zero]; exact rfl) (fun K hK => ?_) AllReadyH.nil
          have hlk := look_rule hru hkd
          try unfold ruleCells at hlk
          go_simp
          refine hK.out _ _ hHeld (fun hHeld => ?_)
          clear hK K
          try simp only [Act.put, List.setIfInBounds_toArray, List.set_cons_zero, List.set_cons_succ]
          clear hlk
          refine wpAnyH_take (i := 5) (v := ?_) rfl (by kernel_rfl) (by kernel_rfl) (by kernel_rfl) (fun _ _ _ h => h) (Or.inl ⟨by rfl, ?_⟩) (by assumption) ?_
          rotate_left
          · (intro w hSw; (try dsimp only at hSw); go_simp; try with_reducible rfl)
          try simp only [Act.put, List.setIfInBounds_toArray, List.set_cons_zero, List.set_cons_succ]
          refine wpAnyH_take (i := 6) (v := ?_) rfl (by kernel_rfl) (by kernel_rfl) (by kernel_rfl) (fun _ _ _ h => h) (Or.inl ⟨by rfl, ?_⟩) (by assumption) ?_
          rotate_left
          · (intro w hSw; (try dsimp only at hSw); go_simp; try with_reducible rfl)
          try simp only [Act.put, List.setIfInBounds_toArray, List.set_cons_zero, List.set_cons_succ]
          refine wpAnyH_take (i := 7) (v := ?_) rfl (by kernel_rfl) (by kernel_rfl) (by kernel_rfl) (fun _ _ _ h => h) (Or.inl ⟨by rfl, ?_⟩) (by assumption) ?_
          rotate_left
          · (intro w hSw; (try dsimp only at hSw); go_simp; try with_reducible rfl)
          try simp only [Act.put, List.setIfInBounds_toArray, List.set_cons_zero, List.set_cons_succ]
          have hst := run_st88 u2 q 0 #[.int .i64 k, .bool (decide (2 < k)), .func (.func (readF k)) #[] #[], .func (.func (writeF k)) #[] #[]] (there_of_block hq (Nat.le_refl 4)) rfl (by simp [one_int, one_bool, one_func, one_nilf])
          obtain ⟨ue, hue⟩ : ∃ u : World, u = u2.setCells q 0 (#[.int .i64 k, .bool (decide (2 < k)), .func (.func (readF k)) #[] #[], .func (.func (writeF k)) #[] #[]] : Array Value).toList := ⟨_, rfl⟩
          rw [← hue] at hst
          have hqe : ue.heap[q]? = some (.cells #[.int .i64 k, .bool (decide (2 < k)), .func (.func (readF k)) #[] #[], .func (.func (writeF k)) #[] #[]] 88 (0, 0)) := by rw [hue]; exact block_setCells_all hq _ rfl
          have hke : Keep (fun _ => False) W ue := by rw [hue]; exact hkD2.setCells _ _ _ (.inl (by have := HQ.out; have := QSZ.out; omega))
          have hh : ue.cell? ⟨rb, off, none⟩ = some (.string ⟨x.toArray⟩) := hke.cellOf HXW.out (fun e => e)
          clear hue
          refine wpAnyH_ready (rs := [9]) (by kernel_rfl) (by simp) ?_
          refine AllReadyH.cons (o := ?_) (by simp only [List.getElem?_toArray, List.getElem?_cons_succ, List.getElem?_cons_zero]; exact rfl) (fun K hK => ?_) AllReadyH.nil
          go_simp
          refine hK.out _ _ hh (fun hHeld => ?_)
          clear hK K
          try simp only [Act.put, List.setIfInBounds_toArray, List.set_cons_zero, List.set_cons_succ]
          refine wpAnyH_ready (rs := [10]) (by kernel_rfl) (by simp) ?_
          refine AllReadyH.cons (o := ?_) (by simp only [List.getElem?_toArray, List.getElem?_cons_succ, List.getElem?_cons_zero]; exact rfl) (fun K hK => ?_) AllReadyH.nil
          go_simp
          refine hK.out _ _ hh (fun hHeld => ?_)
          clear hK K
          try simp only [Act.put, List.setIfInBounds_toArray, List.set_cons_zero, List.set_cons_succ]
          refine wpAnyH_done (by kernel_rfl) ?_ _
          go_wp2_with fail
          go_meet
          exact ⟨hke, q, rfl, by rw [hkd]; exact ⟨rfl, hqe⟩⟩
      · obtain ⟨u1, hu⟩ : ∃ u : World, u = V0.alloc (.cells #[.int .i64 0, .bool false, .nilFunc, .nilFunc] 88 (0, 0)) := ⟨_, rfl⟩
        obtain ⟨q, hqq⟩ : ∃ q, q = V0.heap.size := ⟨_, rfl⟩
        have hqz : W.heap.size ≤ V0.heap.size := hkD.size
        have QSZ := Lib.hid hqz
        clear hqz
        have hkc : Keep (fun _ => False) V0 u1 := by rw [hu]; exact (Keep.refl _ _).alloc _
        have hkD1 := hkD.trans' hkc
        have hh := hkc.cellOf hHeld (fun e => e)
        have hq : u1.heap[q]? = some (.cells #[.int .i64 0, .bool false, .nilFunc, .nilFunc] 88 (0, 0)) := by rw [hu, hqq]; exact block_new _ _
        have HU := Lib.hid hu
        have HQ := Lib.hid hqq
        clear hHeld hu hqq
        go_simp
        rw [← HU.out, ← HQ.out]
        refine hK.out _ _ hh (fun hHeld => ?_)
        clear hK K
        try simp only [Act.put, List.setIfInBounds_toArray, List.set_cons_zero, List.set_cons_succ]
        clear hh
        refine wpAnyH_ready (rs := [0]) (by kernel_rfl) (by simp) ?_
        refine AllReadyH.cons (o := ?_) (by simp only [List.getElem?_toArray, List.getElem?_cons_succ, List.getElem?_cons_zero]; exact rfl) (fun K hK => ?_) AllReadyH.nil
        go_simp
        refine (rules_any u1).mono ?_
        rintro e u2 ⟨r, rfl, hru, hrr, hkc⟩
        have hkD2 := hkD1.trans' hkc
        have hh := hkc.cellOf hHeld (fun e => e)
        clear hHeld
        have hq2 := hkc.at' hq (fun e => e)
        clear hq
        have hq := hq2
        clear hq2
        refine hK.out _ _ hh (fun hHeld => ?_)
        clear hK K
        try simp only [Act.put, List.setIfInBounds_toArray, List.set_cons_zero, List.set_cons_succ]
        clear hh
        refine wpAnyH_ready (rs := [4]) (by kernel_rfl) (by simp) ?_
        refine AllReadyH.cons (o := ?_) (by simp only [List.getElem?_toArray, List.getElem?_cons_succ, List.getElem?_cons_zero]; exact rfl) (fun K hK => ?_) AllReadyH.nil
        have hlk := look_rule hru hkd
        try unfold ruleCells at hlk
        go_simp
        refine hK.out _ _ hHeld (fun hHeld => ?_)
        clear hK K
        try simp only [Act.put, List.setIfInBounds_toArray, List.set_cons_zero, List.set_cons_succ]
        clear hlk
        refine wpAnyH_take (i := 5) (v := ?_) rfl (by kernel_rfl) (by kernel_rfl) (by kernel_rfl) (fun _ _ _ h => h) (Or.inl ⟨by rfl, ?_⟩) (by assumption) ?_
        rotate_left
        · (intro w hSw; (try dsimp only at hSw); go_simp; try with_reducible rfl)
        try simp only [Act.put, List.setIfInBounds_toArray, List.set_cons_zero, List.set_cons_succ]
        refine wpAnyH_take (i := 6) (v := ?_) rfl (by kernel_rfl) (by kernel_rfl) (by kernel_rfl) (fun _ _ _ h => h) (Or.inl ⟨by rfl, ?_⟩) (by assumption) ?_
        rotate_left
        · (intro w hSw; (try dsimp only at hSw); go_simp; try with_reducible rfl)
        try simp only [Act.put, List.setIfInBounds_toArray, List.set_cons_zero, List.set_cons_succ]
        refine wpAnyH_take (i := 7) (v := ?_) rfl (by kernel_rfl) (by kernel_rfl) (by kernel_rfl) (fun _ _ _ h => h) (Or.inl ⟨by rfl, ?_⟩) (by assumption) ?_
        rotate_left
        · (intro w hSw; (try dsimp only at hSw); go_simp; try with_reducible rfl)
        try simp only [Act.put, List.setIfInBounds_toArray, List.set_cons_zero, List.set_cons_succ]
        have hst := run_st88 u2 q 0 #[.int .i64 k, .bool (decide (2 < k)), .func (.func (readF k)) #[] #[], .func (.func (writeF k)) #[] #[]] (there_of_block hq (Nat.le_refl 4)) rfl (by simp [one_int, one_bool, one_func, one_nilf])
        obtain ⟨ue, hue⟩ : ∃ u : World, u = u2.setCells q 0 (#[.int .i64 k, .bool (decide (2 < k)), .func (.func (readF k)) #[] #[], .func (.func (writeF k)) #[] #[]] : Array Value).toList := ⟨_, rfl⟩
        rw [← hue] at hst
        have hqe : ue.heap[q]? = some (.cells #[.int .i64 k, .bool (decide (2 < k)), .func (.func (readF k)) #[] #[], .func (.func (writeF k)) #[] #[]] 88 (0, 0)) := by rw [hue]; exact block_setCells_all hq _ rfl
        have hke : Keep (fun _ => False) W ue := by rw [hue]; exact hkD2.setCells _ _ _ (.inl (by have := HQ.out; have := QSZ.out; omega))
        have hh : ue.cell? ⟨rb, off, none⟩ = some (.string ⟨x.toArray⟩) := hke.cellOf HXW.out (fun e => e)
        clear hue
        refine wpAnyH_ready (rs := [9]) (by kernel_rfl) (by simp) ?_
        refine AllReadyH.cons (o := ?_) (by simp only [List.getElem?_toArray, List.getElem?_cons_succ, List.getElem?_cons_zero]; exact rfl) (fun K hK => ?_) AllReadyH.nil
        go_simp
        refine hK.out _ _ hh (fun hHeld => ?_)
        clear hK K
        try simp only [Act.put, List.setIfInBounds_toArray, List.set_cons_zero, List.set_cons_succ]
        refine wpAnyH_ready (rs := [10]) (by kernel_rfl) (by simp) ?_
        refine AllReadyH.cons (o := ?_) (by simp only [List.getElem?_toArray, List.getElem?_cons_succ, List.getElem?_cons_zero]; exact rfl) (fun K hK => ?_) AllReadyH.nil
        go_simp
        refine hK.out _ _ hh (fun hHeld => ?_)
        clear hK K
        try simp only [Act.put, List.setIfInBounds_toArray, List.set_cons_zero, List.set_cons_succ]
        refine wpAnyH_done (by kernel_rfl) ?_ _
        go_wp2_with fail
        go_meet
        exact ⟨hke, q, rfl, by rw [hkd]; exact ⟨rfl, hqe⟩⟩
  case rest =>
    obtain ⟨hkc, q, rfl, hm⟩ := hcut
    rcases hkd : kindOf names x with _ | k
    · rw [hkd] at hm
      subst hm
      go_wp2_with fail
      refine (must_no _ _).mono ?_
      rintro e w' ⟨rfl, rfl⟩
      refine ⟨rfl, (hkW.trans' hkc).mono (fun _ _ e => e.elim), ?_⟩
      rw [HPO.out, hkd]
    rw [hkd] at hm
    obtain ⟨rfl, hq⟩ := hm
    obtain ⟨cs, hcs⟩ : ∃ cs, cs = ruleCells k (decide (2 < k)) (readF k) (writeF k) := ⟨_, rfl⟩
    rw [← hcs] at hq
    have hld := run_ld88 wc q 0 cs (by rw [hcs]; rfl) (range_of_block hq)
    have hLc := HLN.out.keep hkc (fun e => e) (fun e => e)
    have hrc : rb < wc.heap.size := Nat.lt_of_lt_of_le hrb (by have := HLB.out; have := (hkW.trans' hkc).size; omega)
    have hstep := step_any lb rb k ws wc hLc hrc
    have hsc := hkc.at' HSW.out (fun e => e)
    have hstc := HST.out.far hkc
    have HSTEP := Lib.hid (show Calls Tryz.prog 55 #[.agg cs, .pointer (some ⟨lb, 0, none⟩)] wc (GotPStep lb rb wc (pstep k ws)) from by rw [hcs]; exact hstep)
    have HSC := Lib.hid hsc
    have HSTC := Lib.hid hstc
    have HLC := Lib.hid hLc
    have HKD := Lib.hid hkd
    have HKC := Lib.hid hkc
    clear hcs hq hLc hstep hsc hstc hkd hkc
    go_wp2_with fail
    refine (must_ok _ _).mono ?_
    rintro e w' ⟨rfl, rfl⟩
    go_wp2_with fail
    refine HSTEP.out.mono ?_
    intro e w1 hg1
    obtain ⟨hk1, hg1⟩ := hg1
    have hlbc : lb < wc.heap.size := HLC.out.lt
    have hkk1 : Keep (fun _ => False) w w1 := (hkW.trans' HKC.out).trans hk1 (fun b hb e => by have := HLB.out; omega)
    have HKK1 := Lib.hid hkk1
    rcases hps : pstep k ws with _ | y
    · rw [hps] at hg1
      subst hg1
      refine ⟨rfl, hkk1.mono (fun _ _ e => e.elim), ?_⟩
      rw [HPO.out, HKD.out]
      dsimp only
      rw [hps]
    rw [hps] at hg1
    obtain ⟨vc, vt, ve, rfl, hri, hl1⟩ := hg1
    have hpo : po = if s.nodes ≤ 0 then .error 4 else if 4096 ≤ s.steps.length then .error 3 else .ok { s with steps := s.steps ++ [y] } := by
      rw [HPO.out, HKD.out]
      dsimp only
      rw [hps]
    have HPOY := Lib.hid hpo
    obtain ⟨a1, c1, rfl, -⟩ := ownsRow_len hri.1
    obtain ⟨a2, c2, rfl, -⟩ := ownsRow_len hri.2.1
    obtain ⟨a3, c3, rfl, -⟩ := ownsRow_len hri.2.2
    obtain ⟨sp, hsp⟩ : ∃ sp : StepV, sp = (y, .slice a1 y.req.cmps.length c1, .slice a2 y.req.thn.length c2, .slice a3 y.req.els.length c3) := ⟨_, rfl⟩
    obtain ⟨cs2, hcs2⟩ : ∃ c, c = stepEnc sp := ⟨_, rfl⟩
    have hcs3 : cs2 = stepCells y (.slice a1 y.req.cmps.length c1) (.slice a2 y.req.thn.length c2) (.slice a3 y.req.els.length c3) := by rw [hcs2, hsp]; rfl
    have hsz : cs2.size = 19 := by rw [hcs3]; rfl
    have hone : cs2.all (·.oneCell') = true := by rw [hcs3]; exact stepCells_one _ _ _ _ rfl rfl rfl
    have hbZ := block_new w1 (.cells (stepCells .zero nilS nilS nilS) 63 (0, 0))
    obtain ⟨U, hU⟩ : ∃ U : World, U = (w1.alloc (.cells (stepCells .zero nilS nilS nilS) 63 (0, 0))).setCells w1.heap.size 0 cs2.toList := ⟨_, rfl⟩
    have hst : (stT 63 (.pointer (some ⟨w1.heap.size, 0, none⟩)) (.agg cs2)).run Tryz.prog (w1.alloc (.cells #[.int .i64 0, .int .i64 0, .int .u64 0, .int .i64 0, .int .u64 0, .int .u64 0, .bool false, .slice none 0 0, .slice none 0 0, .slice none 0 0, .int .u64 0, .int .u64 0, .string ⟨#[]⟩, .string ⟨#[]⟩, .int .u64 0, .bool false, .bool false, .bool false, .bool false] 63 (0, 0))) = .ok .skip U := by
      rw [hU]
      exact run_st63 _ _ 0 cs2 (there_of_block hbZ (Nat.le_refl 19)) hsz hone
    have hbU : U.heap[w1.heap.size]? = some (.cells cs2 63 (0, 0)) := by
      have h9 := block_setCells_all hbZ cs2.toList (by simp [hsz, stepCells])
      rw [Array.toArray_toList] at h9
      rw [hU]
      exact h9
    have hkU : Keep (fun _ => False) w1 U := by rw [hU]; exact ((Keep.refl _ w1).alloc _).setCells _ _ _ (.inl (Nat.le_refl _))
    have hs1 := hkU.at' (hk1.at' HSC.out hg) (fun e => e)
    have hst1 := (HSTC.out.line HLC.out hk1 (fun g hg e => by have := (HVL.out g hg).2; omega)).far hkU
    have hri1 : ReqIs U y.req (.slice a1 y.req.cmps.length c1) (.slice a2 y.req.thn.length c2) (.slice a3 y.req.els.length c3) := hri.keep hkU (fun _ _ _ _ e => e.elim)
    have hkkU := hkk1.trans' hkU
    have hUs := hkkU.size
    obtain ⟨av, cv, hv, -⟩ := hst1.slice
    have hc0 : U.cell? ⟨gb, 0, none⟩ = some (.int .i64 s.nodes) := cell_of_block hs1 0
    have hc1 : U.cell? ⟨gb, 1, none⟩ = some (.slice av s.steps.length cv) := by rw [← hv]; exact cell_of_block hs1 1
    obtain ⟨P8, hP8⟩ : ∃ p, p = w1.heap.size := ⟨_, rfl⟩
    have hld8 := run_ld63 U P8 0 cs2 hsz (range_of_block (by rw [hP8]; exact hbU))
    have HS1 := Lib.hid hs1
    have HST1 := Lib.hid hst1
    have HRI := Lib.hid hri1
    have HCS2 := Lib.hid hcs2
    have HSP := Lib.hid hsp
    have HV := Lib.hid hv
    have HKU := Lib.hid hkkU
    have HUS := Lib.hid hUs
    have HP8 := Lib.hid hP8
    have HBU := Lib.hid hbU
    dsimp only
    rw [← hcs3]
    clear hs1 hst1 hri1 hcs2 hsp hv hkkU hUs hP8 hcs3 hbU hkU hU hbZ hri hl1 hps hpo hone hk1 hkk1
    by_cases hn0 : 0 < s.nodes
    · by_cases hn1 : (s.steps.length : Int) < 4096
      · go_wp2_with fail
        refine (must_ok _ _).mono ?_
        rintro e w' ⟨rfl, rfl⟩
        go_wp2_with fail
        refine (must_ok _ _).mono ?_
        rintro e w' ⟨rfl, rfl⟩
        go_wp2_with fail
        rw [← HP8.out]
        refine wp_region_held_drew (S := fun _ => True) (by kernel_rfl) trivial (fun hHeld => ?_)
        have hkD : Keep (fun _ => False) U U.drew := (Keep.refl _ U).drew
        have hsD := hkD.at' HS1.out (fun e => e)
        have hc1D : U.drew.cell? ⟨gb, 1, none⟩ = some (.slice av s.steps.length cv) := hc1
        have hld9 := run_ld63 U.drew P8 0 cs2 hsz (range_of_block (by rw [HP8.out]; exact HBU.out))
        have hriD : ReqIs U.drew sp.1.req sp.2.1 sp.2.2.1 sp.2.2.2 := by rw [HSP.out]; exact HRI.out.keep hkD (fun _ _ _ _ e => e.elim)
        have hkD2 := HKU.out.trans' hkD
        obtain ⟨v', w9, hap, hst9, hk9, -⟩ := app_step U.drew base v s.steps sp (HST1.out.far hkD) hriD (by omega) (by have := hkD2.size; have := HLB.out; omega)
        have hngb : ¬ some gb = v.ownBlock := fun e => (HST1.out.far hkD).notScript hsD e.symm
        have hs9 := hk9.at' hsD hngb
        have hc9 : w9.cell? ⟨gb, 1, none⟩ = some v := cell_of_block hs9 1
        have hf9 := free_of_block hs9 1
        rw [HV.out] at hap hc9
        obtain ⟨pa, pn, pc, hve⟩ : ∃ a n c, v' = .slice a n c := let ⟨a, c, h, _⟩ := hst9.slice; ⟨a, _, c, h⟩
        subst hve
        have HS9 := Lib.hid hs9
        have HST9 := Lib.hid hst9
        have HK9 := Lib.hid hk9
        have HKD2 := Lib.hid hkD2
        have HSD := Lib.hid hsD
        clear hs9 hst9 hk9 hkD2 hsD hriD hkD hld8 hc0 hc1
        generalize U.drew = V0 at *
        refine wpAnyH_take (i := 0) (v := ?_) rfl (by kernel_rfl) (by kernel_rfl) (by kernel_rfl) (fun _ _ _ h => h) (Or.inl ⟨by rfl, ?_⟩) (by assumption) ?_
        rotate_left
        · (intro w hSw; (try dsimp only at hSw); go_simp; try with_reducible rfl)
        try simp only [Act.put, List.setIfInBounds_toArray, List.set_cons_zero, List.set_cons_succ]
        refine wpAnyH_take (i := 1) (v := ?_) rfl (by kernel_rfl) (by kernel_rfl) (by kernel_rfl) (fun _ _ _ h => h) (Or.inl ⟨by rfl, ?_⟩) (by assumption) ?_
        rotate_left
        · (intro w hSw; (try dsimp only at hSw); go_simp; try with_reducible rfl)
        try simp only [Act.put, List.setIfInBounds_toArray, List.set_cons_zero, List.set_cons_succ]
        refine wpAnyH_take (i := 2) (v := ?_) rfl (by kernel_rfl) (by kernel_rfl) (by kernel_rfl) (fun _ _ _ h => h) (Or.inl ⟨by rfl, ?_⟩) (by assumption) ?_
        rotate_left
        · (intro w hSw; (try dsimp only at hSw); go_simp; try with_reducible rfl)
        try simp only [Act.put, List.setIfInBounds_toArray, List.set_cons_zero, List.set_cons_succ]
        refine wpAnyH_take (i := 3) (v := ?_) rfl (by kernel_rfl) (by kernel_rfl) (by kernel_rfl) (fun _ _ _ h => h) (Or.inl ⟨by rfl, ?_⟩) (by assumption) ?_
        rotate_left
        · (intro w hSw; (try dsimp only at hSw); go_simp; try with_reducible rfl)
        try simp only [Act.put, List.setIfInBounds_toArray, List.set_cons_zero, List.set_cons_succ]
        refine wpAnyH_ready (rs := [4, 5]) (by kernel_rfl) (by simp) ?_
        refine AllReadyH.cons (o := ?_) (by simp only [List.getElem?_toArray, List.getElem?_cons_succ, List.getElem?_cons_zero]; exact rfl) (fun K hK => ?_) (AllReadyH.cons (o := ?_) (by simp only [List.getElem?_toArray, List.getElem?_cons_succ, List.getElem?_cons_zero]; exact rfl) (fun K hK => ?_) AllReadyH.nil)
        · go_simp
          refine hK.out _ _ trivial (fun hHeld => ?_)
          clear hK K
          try simp only [Act.put, List.setIfInBounds_toArray, List.set_cons_zero, List.set_cons_succ]
          refine wpAnyH_ready (rs := [5]) (by kernel_rfl) (by simp) ?_
          refine AllReadyH.cons (o := ?_) (by simp only [List.getElem?_toArray, List.getElem?_cons_succ, List.getElem?_cons_zero]; exact rfl) (fun K hK => ?_) AllReadyH.nil
          go_simp
          refine hK.out _ _ trivial (fun hHeld => ?_)
          clear hK K
          try simp only [Act.put, List.setIfInBounds_toArray, List.set_cons_zero, List.set_cons_succ]
          refine wpAnyH_ready (rs := [6]) (by kernel_rfl) (by simp) ?_
          refine AllReadyH.cons (o := ?_) (by simp only [List.getElem?_toArray, List.getElem?_cons_succ, List.getElem?_cons_zero]; exact rfl) (fun K hK => ?_) AllReadyH.nil
          rw [if_pos (by rfl)]
          refine wp_bs_run (.tmp 73) 22 rfl (by rw [HCS2.out]; exact run_bs22 sp _) ?_
          refine hK.out _ _ trivial (fun hHeld => ?_)
          clear hK K
          try simp only [Act.put, List.setIfInBounds_toArray, List.set_cons_zero, List.set_cons_succ]
          refine wpAnyH_ready (rs := [7]) (by kernel_rfl) (by simp) ?_
          refine AllReadyH.cons (o := ?_) (by simp only [List.getElem?_toArray, List.getElem?_cons_succ, List.getElem?_cons_zero]; exact rfl) (fun K hK => ?_) AllReadyH.nil
          rw [if_pos (by rfl)]
          refine wp_append_run (.tmp 72) (.tmp 74) 22 rfl rfl (by exact hap) ?_
          refine hK.out _ _ trivial (fun hHeld => ?_)
          clear hK K
          try simp only [Act.put, List.setIfInBounds_toArray, List.set_cons_zero, List.set_cons_succ]
          refine wpAnyH_take (i := 8) (v := ?_) rfl (by kernel_rfl) (by kernel_rfl) (by kernel_rfl) (fun _ _ _ h => h) (Or.inl ⟨by rfl, ?_⟩) (by assumption) ?_
          rotate_left
          · (intro w hSw; (try dsimp only at hSw); go_simp; try with_reducible rfl)
          try simp only [Act.put, List.setIfInBounds_toArray, List.set_cons_zero, List.set_cons_succ]
          refine wpAnyH_take (i := 9) (v := ?_) rfl (by kernel_rfl) (by kernel_rfl) (by kernel_rfl) (fun _ _ _ h => h) (Or.inl ⟨by rfl, ?_⟩) (by assumption) ?_
          rotate_left
          · (intro w hSw; (try dsimp only at hSw); go_simp; try with_reducible rfl)
          try simp only [Act.put, List.setIfInBounds_toArray, List.set_cons_zero, List.set_cons_succ]
          refine wpAnyH_ready (rs := [10]) (by kernel_rfl) (by simp) ?_
          refine AllReadyH.cons (o := ?_) (by simp only [List.getElem?_toArray, List.getElem?_cons_succ, List.getElem?_cons_zero]; exact rfl) (fun K hK => ?_) AllReadyH.nil
          go_simp
          refine hK.out _ _ trivial (fun hHeld => ?_)
          clear hK K
          try simp only [Act.put, List.setIfInBounds_toArray, List.set_cons_zero, List.set_cons_succ]
          refine wpAnyH_done (by kernel_rfl) ?_ _
          go_wp2_with fail
          go_end0
          exact read_done (v' := .slice pa pn pc) HS9.out (by rw [HSP.out] at *; exact HST9.out) HK9.out HKD2.out (by rw [HPOY.out, if_neg (by omega), if_neg (by omega)])
        · go_simp
          refine hK.out _ _ trivial (fun hHeld => ?_)
          clear hK K
          try simp only [Act.put, List.setIfInBounds_toArray, List.set_cons_zero, List.set_cons_succ]
          refine wpAnyH_ready (rs := [4, 6]) (by kernel_rfl) (by simp) ?_
          refine AllReadyH.cons (o := ?_) (by simp only [List.getElem?_toArray, List.getElem?_cons_succ, List.getElem?_cons_zero]; exact rfl) (fun K hK => ?_) (AllReadyH.cons (o := ?_) (by simp only [List.getElem?_toArray, List.getElem?_cons_succ, List.getElem?_cons_zero]; exact rfl) (fun K hK => ?_) AllReadyH.nil)
          · go_simp
            refine hK.out _ _ trivial (fun hHeld => ?_)
            clear hK K
            try simp only [Act.put, List.setIfInBounds_toArray, List.set_cons_zero, List.set_cons_succ]
            refine wpAnyH_ready (rs := [6]) (by kernel_rfl) (by simp) ?_
            refine AllReadyH.cons (o := ?_) (by simp only [List.getElem?_toArray, List.getElem?_cons_succ, List.getElem?_cons_zero]; exact rfl) (fun K hK => ?_) AllReadyH.nil
            rw [if_pos (by rfl)]
            refine wp_bs_run (.tmp 73) 22 rfl (by rw [HCS2.out]; exact run_bs22 sp _) ?_
            refine hK.out _ _ trivial (fun hHeld => ?_)
            clear hK K
            try simp only [Act.put, List.setIfInBounds_toArray, List.set_cons_zero, List.set_cons_succ]
            refine wpAnyH_ready (rs := [7]) (by kernel_rfl) (by simp) ?_
            refine AllReadyH.cons (o := ?_) (by simp only [List.getElem?_toArray, List.getElem?_cons_succ, List.getElem?_cons_zero]; exact rfl) (fun K hK => ?_) AllReadyH.nil
            rw [if_pos (by rfl)]
            refine wp_append_run (.tmp 72) (.tmp 74) 22 rfl rfl (by exact hap) ?_
            refine hK.out _ _ trivial (fun hHeld => ?_)
            clear hK K
            try simp only [Act.put, List.setIfInBounds_toArray, List.set_cons_zero, List.set_cons_succ]
            refine wpAnyH_take (i := 8) (v := ?_) rfl (by kernel_rfl) (by kernel_rfl) (by kernel_rfl) (fun _ _ _ h => h) (Or.inl ⟨by rfl, ?_⟩) (by assumption) ?_
            rotate_left
            · (intro w hSw; (try dsimp only at hSw); go_simp; try with_reducible rfl)
            try simp only [Act.put, List.setIfInBounds_toArray, List.set_cons_zero, List.set_cons_succ]
            refine wpAnyH_take (i := 9) (v := ?_) rfl (by kernel_rfl) (by kernel_rfl) (by kernel_rfl) (fun _ _ _ h => h) (Or.inl ⟨by rfl, ?_⟩) (by assumption) ?_
            rotate_left
            · (intro w hSw; (try dsimp only at hSw); go_simp; try with_reducible rfl)
            try simp only [Act.put, List.setIfInBounds_toArray, List.set_cons_zero, List.set_cons_succ]
            refine wpAnyH_ready (rs := [10]) (by kernel_rfl) (by simp) ?_
            refine AllReadyH.cons (o := ?_) (by simp only [List.getElem?_toArray, List.getElem?_cons_succ, List.getElem?_cons_zero]; exact rfl) (fun K hK => ?_) AllReadyH.nil
            go_simp
            refine hK.out _ _ trivial (fun hHeld => ?_)
            clear hK K
            try simp only [Act.put, List.setIfInBounds_toArray, List.set_cons_zero, List.set_cons_succ]
            refine wpAnyH_done (by kernel_rfl) ?_ _
            go_wp2_with fail
            go_end0
            exact read_done (v' := .slice pa pn pc) HS9.out (by rw [HSP.out] at *; exact HST9.out) HK9.out HKD2.out (by rw [HPOY.out, if_neg (by omega), if_neg (by omega)])
          · rw [if_pos (by rfl)]
            refine wp_bs_run (.tmp 73) 22 rfl (by rw [HCS2.out]; exact run_bs22 sp _) ?_
            refine hK.out _ _ trivial (fun hHeld => ?_)
            clear hK K
            try simp only [Act.put, List.setIfInBounds_toArray, List.set_cons_zero, List.set_cons_succ]
            have hc1A : (V0.alloc (.cells (stepEnc sp) 63 (0, 0))).cell? ⟨gb, 1, none⟩ = some (.slice av s.steps.length cv) := ((Keep.refl (fun _ => False) V0).alloc _).cellOf hc1D (fun e => e)
            refine wpAnyH_ready (rs := [4]) (by kernel_rfl) (by simp) ?_
            refine AllReadyH.cons (o := ?_) (by simp only [List.getElem?_toArray, List.getElem?_cons_succ, List.getElem?_cons_zero]; exact rfl) (fun K hK => ?_) AllReadyH.nil
            go_simp
            refine hK.out _ _ trivial (fun hHeld => ?_)
            clear hK K
            try simp only [Act.put, List.setIfInBounds_toArray, List.set_cons_zero, List.set_cons_succ]
            refine wpAnyH_ready (rs := [7]) (by kernel_rfl) (by simp) ?_
            refine AllReadyH.cons (o := ?_) (by simp only [List.getElem?_toArray, List.getElem?_cons_succ, List.getElem?_cons_zero]; exact rfl) (fun K hK => ?_) AllReadyH.nil
            rw [if_pos (by rfl)]
            refine wp_append_run (.tmp 72) (.tmp 74) 22 rfl rfl (by exact hap) ?_
            refine hK.out _ _ trivial (fun hHeld => ?_)
            clear hK K
            try simp only [Act.put, List.setIfInBounds_toArray, List.set_cons_zero, List.set_cons_succ]
            refine wpAnyH_take (i := 8) (v := ?_) rfl (by kernel_rfl) (by kernel_rfl) (by kernel_rfl) (fun _ _ _ h => h) (Or.inl ⟨by rfl, ?_⟩) (by assumption) ?_
            rotate_left
            · (intro w hSw; (try dsimp only at hSw); go_simp; try with_reducible rfl)
            try simp only [Act.put, List.setIfInBounds_toArray, List.set_cons_zero, List.set_cons_succ]
            refine wpAnyH_take (i := 9) (v := ?_) rfl (by kernel_rfl) (by kernel_rfl) (by kernel_rfl) (fun _ _ _ h => h) (Or.inl ⟨by rfl, ?_⟩) (by assumption) ?_
            rotate_left
            · (intro w hSw; (try dsimp only at hSw); go_simp; try with_reducible rfl)
            try simp only [Act.put, List.setIfInBounds_toArray, List.set_cons_zero, List.set_cons_succ]
            refine wpAnyH_ready (rs := [10]) (by kernel_rfl) (by simp) ?_
            refine AllReadyH.cons (o := ?_) (by simp only [List.getElem?_toArray, List.getElem?_cons_succ, List.getElem?_cons_zero]; exact rfl) (fun K hK => ?_) AllReadyH.nil
            go_simp
            refine hK.out _ _ trivial (fun hHeld => ?_)
            clear hK K
            try simp only [Act.put, List.setIfInBounds_toArray, List.set_cons_zero, List.set_cons_succ]
            refine wpAnyH_done (by kernel_rfl) ?_ _
            go_wp2_with fail
            go_end0
            exact read_done (v' := .slice pa pn pc) HS9.out (by rw [HSP.out] at *; exact HST9.out) HK9.out HKD2.out (by rw [HPOY.out, if_neg (by omega), if_neg (by omega)])
      · have hn1' : decide ((s.steps.length : Int) < 4096) = false := decide_eq_false hn1
        go_wp2_with fail
        refine (must_ok _ _).mono ?_
        rintro e w' ⟨rfl, rfl⟩
        go_wp2_with fail
        refine (must_no _ _).mono ?_
        rintro e w' ⟨rfl, rfl⟩
        refine ⟨rfl, HKU.out.mono (fun _ _ e => e.elim), ?_⟩
        rw [HPOY.out, if_neg (by omega), if_pos (by omega)]
    · go_wp2_with fail
      refine (must_no _ _).mono ?_
      rintro e w' ⟨rfl, rfl⟩
      refine ⟨rfl, HKU.out.mono (fun _ _ e => e.elim), ?_⟩
      rw [HPOY.out, if_pos (by omega)]
end Go.Proofs.YtifliekahdgobaaGreatDoor
