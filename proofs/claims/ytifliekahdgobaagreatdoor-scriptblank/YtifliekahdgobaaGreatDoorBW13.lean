/-
  THE WALKS, 13: Script.read. Helpers of the claims.
-/
import Derived.Test.YtifliekahdgobaaGreatDoorBW12ToScr
set_option linter.unusedSimpArgs false
set_option linter.unusedVariables false
namespace Go.Proofs.YtifliekahdgobaaGreatDoor
open Go.RowKit Sp

theorem LineAt.type {w : World} {lb rb : Nat} {ws : List Str} (h : LineAt w lb rb ws) {cs : Array Value} {T : TypeId} (hc : w.heap[lb]? = some (.cells cs T (0, 0))) : T = 117 := by
  obtain ⟨off, c, h1, _⟩ := h
  rw [h1] at hc
  injection hc with e2
  injection e2 with e3 e4
  exact e4.symm
theorem StepsAt.lt {w : World} {base : Nat} {v : Value} {l : List StepS} (h : StepsAt w base v l) : ∀ g, v.ownBlock = some g → base ≤ g ∧ g < w.heap.size := by
  obtain ⟨L, _, h2, _⟩ := h
  exact h2.lt
/-- a line's turning leaves steps alone -/
theorem StepsAt.line {w w' : World} {base lb rb : Nat} {v : Value} {l : List StepS} {ws : List Str} (h : StepsAt w base v l) (hl : LineAt w lb rb ws) (hk : Keep (fun b => b = lb) w w') (hv : ∀ g, v.ownBlock = some g → ¬ g = lb) : StepsAt w' base v l :=
  h.keep hk hv (fun g cs T hc e => by
    subst e
    rw [hl.type hc]
    decide)
theorem StepsAt.notScript {w : World} {base gb : Nat} {v : Value} {l : List StepS} (h : StepsAt w base v l) {cs : Array Value} (hc : w.heap[gb]? = some (.cells cs 24 (0, 0))) : ¬ v.ownBlock = some gb := fun e => by
  obtain ⟨L, _, h2, _⟩ := h
  rcases h2.2 with ⟨rfl, _⟩ | ⟨g', cap, cur, rfl, _, hg, _⟩
  · cases e
  · simp only [Value.ownBlock, Option.some.injEq] at e
    subst e
    rw [hc] at hg
    injection hg with e2
    injection e2 with e3 e4
    cases e4
/-- how the words of a line stand when it is read -/
structure WordsAt (w : World) (rb off : Nat) (c : Nat) (ws : List Str) : Prop where
  cells : StrsAt w rb off ws
  ok : okWords ws
  cap : ws.length ≤ c
  small : c ≤ 1099511627776
/-- the new line's block -/
theorem line_new {w : World} {rb off c : Nat} {x : Str} {ws : List Str} (h : WordsAt w rb off c (x :: ws)) :
    ∃ off' c', (Instr.sliceAt 48 (.slice (some ⟨rb, off, none⟩) (ws.length + 1) c) (some (.int .i64 1)) none none).run Tryz.prog w = .ok (.slice (some ⟨rb, off', none⟩) ws.length c') w ∧
      LineAt (w.alloc (.cells #[.slice (some ⟨rb, off', none⟩) ws.length c'] 117 (0, 0))) w.heap.size rb ws := by
  have h1 := h.cap
  simp only [List.length_cons] at h1
  obtain ⟨off', c', h2, h3, h4, h5⟩ := run_tail rb off ws.length c w h1
  have hrb : rb < w.heap.size := World.block_lt_of_cell? _ _ (h.cells 0 x rfl)
  refine ⟨off', c', h2, off', c', block_new _ _, h4, Nat.le_trans h5 h.small, by omega, ?_, h.ok.tail⟩
  rcases h3 with h3 | h3
  · intro i y hy
    have : ws = [] := List.length_eq_zero_iff.1 h3
    subst this
    simp at hy
  · subst h3
    exact h.cells.tail.keep ((Keep.refl (fun _ => False) w).alloc _) (fun e => e)

set_option maxRecDepth 100000 in
set_option maxHeartbeats 1600000 in
theorem read_nodes (base gb rb off c : Nat) (v : Value) (s : ScriptS) (ws : List Str) (w : World) (hs : ScriptAt w base gb s v) (hw : WordsAt w rb off c (wNodes :: ws)) :
    Calls Tryz.prog 27 #[.pointer (some ⟨gb, 0, none⟩), .slice (some ⟨rb, off, none⟩) (ws.length + 1) c] w (GotRead base gb v w (line s (wNodes :: ws))) := by
  have hx : w.cell? ⟨rb, off, none⟩ = some (.string ⟨#[110, 111, 100, 101, 115]⟩) := hw.cells 0 wNodes rfl
  obtain ⟨off', c', hsl, hln⟩ := line_new hw
  have hgb := lt_of_block hs.1
  obtain ⟨po, hpo⟩ : ∃ po, po = line s (wNodes :: ws) := ⟨_, rfl⟩
  have hpo2 : po = match pnodes ws with | some n => if s.nodes = 0 then .ok { s with nodes := n } else .error 4 | none => .error 4 := by rw [hpo]; rfl
  rw [← hpo]
  have HPO := Lib.hid hpo2
  clear hpo hpo2
  obtain ⟨W, hW⟩ : ∃ W : World, W = w.alloc (.cells #[.slice (some ⟨rb, off', none⟩) ws.length c'] 117 (0, 0)) := ⟨_, rfl⟩
  rw [← hW] at hln
  have hkW : Keep (fun _ => False) w W := by rw [hW]; exact (Keep.refl _ w).alloc _
  have hxW : (w.alloc (.cells #[.slice (some ⟨rb, off', none⟩) ws.length c'] 117 (0, 0))).cell? ⟨rb, off, none⟩ = some (.string ⟨#[110, 111, 100, 101, 115]⟩) := by rw [← hW]; exact hkW.cellOf hx (fun e => e)
  have hsW := hkW.at' hs.1 (fun e => e)
  have HSW := Lib.hid hsW
  have HST := Lib.hid (hs.2.far hkW)
  have HLN := Lib.hid hln
  have HW := Lib.hid hW
  have hg : ¬ gb = w.heap.size := by omega
  have HVL := Lib.hid hs.2.lt
  clear hW hsW hln hx hw hs
  go_enter Tryz.func27, Tryz.ntmps27
  go_wp2_with fail
  rw [← HW.out]
  clear hsl hxW HW
  generalize hlb : w.heap.size = lb at *
  have HLB := Lib.hid hlb
  clear hlb
  refine (upTo_any 7 lb rb ws W HLN.out (by decide)).mono ?_
  intro e w1 hg1
  obtain ⟨hk1, hg1⟩ := hg1
  have hkk1 : Keep (fun b => b = gb ∨ some b = v.ownBlock) w w1 := hkW.trans hk1 (fun b hb e => by have := HLB.out; omega) |>.mono (fun _ _ e => e.elim)
  rcases hp1 : pnum 7 ws with _ | ⟨n, r⟩
  · rw [hp1] at hg1
    subst hg1
    refine ⟨rfl, hkk1, ?_⟩
    rw [HPO.out, show pnodes ws = none by unfold pnodes; rw [hp1]; rfl]
  rw [hp1] at hg1
  obtain ⟨rfl, hl1⟩ := hg1
  obtain ⟨h0, h7⟩ := pnum_le hp1
  have hs1 := hk1.at' HSW.out hg
  have hc0 : w1.cell? ⟨gb, 0, none⟩ = some (.int .i64 s.nodes) := cell_of_block hs1 0
  have hf0 := free_of_block hs1 0
  have hst1 := HST.out.line HLN.out hk1 (fun g hg e => by have := HLB.out; have := (HVL.out g hg).2; omega)
  obtain ⟨o2, c2, hl3, hl4⟩ := hl1
  have hcl := cell_of_one hl3
  have HS1 := Lib.hid hs1
  have HST1 := Lib.hid hst1
  clear hl3 hl4 hs1 hst1
  have hwr : IntKind.i64.wrap n = n := IntWalk.i64_in _ (by omega)
  unfold u64v
  have hpn : pnodes ws = if 0 < n ∧ r = [] then some n else none := by unfold pnodes; rw [hp1]; rfl
  have HPN := Lib.hid hpn
  clear hpn hp1
  by_cases hn : 0 < n
  · by_cases hr : r = []
    · subst hr
      simp only [List.length_nil] at hcl
      by_cases hz : s.nodes = 0
      · have hc0' : w1.cell? ⟨gb, 0, none⟩ = some (.int .i64 0) := by rw [hc0, hz]
        clear hc0
        go_wp2_with fail
        refine (must_ok _ _).mono ?_
        rintro e w' ⟨rfl, rfl⟩
        go_wp2_with fail
        (try simp only [Exit.inBlock, Exit.then])
        refine bodyPost_ret (results_none rfl _ _ _) rfl ?_
        have hkG : Keep (fun b => b = gb) w1 (w1.setCell ⟨gb, 0, none⟩ (.int .i64 n)) := (Keep.refl (fun b => b = gb) w1).setCell _ _ (.inr rfl)
        refine ⟨hkk1.setCell _ _ (.inr (.inl rfl)), ?_⟩
        rw [HPO.out, HPN.out, if_pos ⟨hn, trivial⟩]
        dsimp only
        rw [if_pos hz]
        refine ⟨rfl, v, block_setCell HS1.out 0 _, HST1.out.keep hkG (fun g hg e => HST1.out.notScript HS1.out (e ▸ hg)) (fun g cs T hc e => by
          subst e
          rw [HS1.out] at hc
          injection hc with e2
          injection e2 with e3 e4
          subst e4
          decide)⟩
      · have hz' : (s.nodes == 0) = false := by simpa using hz
        go_wp2_with fail
        refine (must_no _ _).mono ?_
        rintro e w' ⟨rfl, rfl⟩
        refine ⟨rfl, hkk1, ?_⟩
        rw [HPO.out, HPN.out, if_pos ⟨hn, trivial⟩]
        dsimp only
        rw [if_neg hz]
    · have hr' : ((r.length : Int) == 0) = false := by simpa using hr
      go_wp2_with fail
      refine (must_no _ _).mono ?_
      rintro e w' ⟨rfl, rfl⟩
      refine ⟨rfl, hkk1, ?_⟩
      rw [HPO.out, HPN.out, if_neg (fun e => hr e.2)]
  · go_wp2_with fail
    refine (must_no _ _).mono ?_
    rintro e w' ⟨rfl, rfl⟩
    refine ⟨rfl, hkk1, ?_⟩
    rw [HPO.out, HPN.out, if_neg (fun e => by have := e.1; omega)]
end Go.Proofs.YtifliekahdgobaaGreatDoor
