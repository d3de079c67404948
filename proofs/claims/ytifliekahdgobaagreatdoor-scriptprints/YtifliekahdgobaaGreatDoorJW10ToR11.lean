/-
  THE WALKS, 10: what the rules read. Helpers of the claims.
  THE REFERENCE's WALKS, 11: step (printed by wip/tools/gen_rstep.py). Helpers of the claims.
-/
import Derived.Test.YtifliekahdgobaaGreatDoorJW9
import Derived.Test.YtifliekahdgobaaGreatDoorJR10
set_option linter.unusedSimpArgs false
set_option linter.unusedVariables false
namespace Go.Proofs.YtifliekahdgobaaGreatDoor
open Go.RowKit Sp

theorem putCells_mid : ∀ (vs A B C : List Value), B.length = vs.length → putCells (A ++ (B ++ C)).toArray A.length vs = (A ++ (vs ++ C)).toArray
  | [], A, B, C, h => by
    have : B = [] := List.length_eq_zero_iff.1 h
    subst this
    rfl
  | v :: r, A, [], C, h => by simp at h
  | v :: r, A, b :: B, C, h => by
    have h1 := putCells_mid r (A ++ [v]) B C (by simpa using h)
    rw [putCells]
    have h2 : (A ++ (b :: B ++ C)).toArray.setIfInBounds A.length v = (A ++ [v] ++ (B ++ C)).toArray := by simp
    rw [h2]
    simpa using h1
/-- a step's cells -/
def stepCells (s : StepS) (vc vt ve : Value) : Array Value := #[.int .i64 s.kind, .int .i64 s.node, .int .u64 s.n,
  .int .i64 s.req.kind, .int .u64 s.req.client, .int .u64 s.req.num, .bool s.req.serial, vc, vt, ve, .int .u64 s.req.rev,
  .int .u64 s.watch.id, sv s.watch.key, sv s.watch.fin, .int .u64 s.watch.start, .bool s.watch.prev, .bool s.watch.noPut, .bool s.watch.noDelete, .bool s.watch.progress]
/-- a step in memory, at the head of a block -/
def StepAt (w : World) (sb : Nat) (s : StepS) : Prop := ∃ vc vt ve, w.heap[sb]? = some (.cells (stepCells s vc vt ve) 63 (0, 0)) ∧ ReqIs w s.req vc vt ve
/-- what a rule's reading comes to -/
def GotStep (lb rb sb : Nat) (w : World) (r : Option (StepS × List Str)) (e : Ending) (w' : World) : Prop :=
  Keep (fun b => b = lb ∨ b = sb) w w' ∧ match r with
    | some (s, ws) => e = .returned (.tuple #[]) ∧ LineAt w' lb rb ws ∧ StepAt w' sb s
    | none => e = gaveUp 4
abbrev nilS : Value := .slice none 0 0
theorem ReqIs.zero (w : World) : ReqIs w .zero nilS nilS nilS := ⟨World.ownsRow_nil _ _ _ _, World.ownsRow_nil _ _ _ _, World.ownsRow_nil _ _ _ _⟩
/-- the step that a line's reading begins with -/
def step0 (k : Nat) (n : Int) : StepS := ⟨k, n, 0, .zero, .zero⟩

theorem readN_any (lb rb sb k : Nat) (n : Int) (ws : List Str) (w : World) (h : LineAt w lb rb ws) (hs : w.heap[sb]? = some (.cells (stepCells (step0 k n) nilS nilS nilS) 63 (0, 0))) (hsl : sb ≠ lb) (hsr : sb ≠ rb) :
    Calls Tryz.prog 76 #[.pointer (some ⟨lb, 0, none⟩), .pointer (some ⟨sb, 0, none⟩)] w (GotStep lb rb sb w ((pnum most ws).bind fun x => some ({ step0 k n with n := x.1 }, x.2))) := by
  have HS := Lib.hid hs
  clear hs
  go_enter Tryz.func76, Tryz.ntmps76
  go_wp2_with fail
  refine (num_any lb rb ws w h).mono ?_
  rintro e w1 ⟨hk1, hg1⟩
  rcases hp1 : pnum most ws with _ | ⟨a, r⟩
  · rw [hp1] at hg1
    subst hg1
    exact ⟨rfl, hk1.mono (fun _ _ e => .inl e), by rw [hp1]; exact rfl⟩
  rw [hp1] at hg1
  obtain ⟨rfl, hl1⟩ := hg1
  have hs1 := hk1.at' HS.out hsl
  have hc : w1.cell? ⟨sb, 2, none⟩ = some (.int .u64 0) := cell_of_block hs1 2
  have hf := free_of_block hs1 2
  have HP1 := Lib.hid hp1
  have HS1 := Lib.hid hs1
  have HL1 := Lib.hid hl1
  clear hs1 hl1 hp1
  unfold u64v
  go_wp2_with fail
  go_end0
  have hkS : Keep (fun b => b = sb) w1 (w1.setCell ⟨sb, 2, none⟩ (.int .u64 a)) := (Keep.refl (fun b => b = sb) w1).setCell _ _ (.inr rfl)
  refine ⟨(hk1.mono (fun _ _ e => .inl e)).setCell _ _ (.inr (.inr rfl)), ?_⟩
  rw [HP1.out]
  exact ⟨rfl, HL1.out.keep hkS (fun e => hsl e.symm) (fun e => hsr e.symm), _, _, _, block_setCell HS1.out 2 _, ReqIs.zero _⟩
theorem defrag_any (lb rb sb k : Nat) (n : Int) (ws : List Str) (w : World) (h : LineAt w lb rb ws) (hs : w.heap[sb]? = some (.cells (stepCells (step0 k n) nilS nilS nilS) 63 (0, 0))) :
    Calls Tryz.prog 66 #[.pointer (some ⟨lb, 0, none⟩), .pointer (some ⟨sb, 0, none⟩)] w (GotStep lb rb sb w (some (step0 k n, ws))) := by
  have HS := Lib.hid hs
  have HL := Lib.hid h
  clear hs h
  go_enter Tryz.func66, Tryz.ntmps66
  go_wp2_with fail
  go_end0
  exact ⟨Keep.refl _ w, rfl, HL.out, _, _, _, HS.out, ReqIs.zero _⟩
theorem watchR_any (lb rb sb k : Nat) (n : Int) (ws : List Str) (w : World) (h : LineAt w lb rb ws) (hr : rb < w.heap.size) (hs : w.heap[sb]? = some (.cells (stepCells (step0 k n) nilS nilS nilS) 63 (0, 0))) (hsl : sb ≠ lb) (hsr : sb ≠ rb) :
    Calls Tryz.prog 68 #[.pointer (some ⟨lb, 0, none⟩), .pointer (some ⟨sb, 0, none⟩)] w (GotStep lb rb sb w ((pwatch ws).bind fun x => some ({ step0 k n with watch := x.1 }, x.2))) := by
  have HS := Lib.hid hs
  clear hs
  go_enter Tryz.func68, Tryz.ntmps68
  go_wp2_with fail
  refine (watch_any lb rb ws w h hr).mono ?_
  rintro e w1 ⟨hk1, hg1⟩
  rcases hp1 : pwatch ws with _ | ⟨a, r⟩
  · rw [hp1] at hg1
    subst hg1
    exact ⟨rfl, hk1.mono (fun _ _ e => .inl e), by rw [hp1]; exact rfl⟩
  rw [hp1] at hg1
  obtain ⟨rfl, hl1⟩ := hg1
  have hs1 := hk1.at' HS.out hsl
  have hth : w1.there sb 11 8 := fun j hj => by
    have := there_of_block hs1 (n := 19) (Nat.le_refl 19) (11 + j) (by omega)
    simpa using this
  obtain ⟨cs, hcs⟩ : ∃ cs, cs = watchCells a := ⟨_, rfl⟩
  have hst := run_st61 w1 sb 11 cs hth (by rw [hcs]; rfl) (by rw [hcs]; simp [watchCells, one_int, one_str, one_bool])
  have HP1 := Lib.hid hp1
  have HS1 := Lib.hid hs1
  have HL1 := Lib.hid hl1
  clear hs1 hl1 hp1 hth
  dsimp only
  rw [← hcs]
  have HCS := Lib.hid hcs
  clear hcs
  go_wp2_with fail
  go_end0
  have hkS : Keep (fun b => b = sb) w1 (w1.setCells sb 11 cs.toList) := (Keep.refl (fun b => b = sb) w1).setCells _ _ _ (.inr rfl)
  refine ⟨(hk1.mono (fun _ _ e => .inl e)).setCells _ _ _ (.inr (.inr rfl)), ?_⟩
  rw [HP1.out]
  refine ⟨rfl, HL1.out.keep hkS (fun e => hsl e.symm) (fun e => hsr e.symm), nilS, nilS, nilS, ?_, ReqIs.zero _⟩
  rw [block_setCells _ _ _ _ HS1.out, HCS.out]
  exact congrArg (fun cs => some (Obj.cells cs 63 (0, 0))) (putCells_mid (watchCells a).toList [.int .i64 k, .int .i64 n, .int .u64 0, .int .i64 0, .int .u64 0, .int .u64 0, .bool false, nilS, nilS, nilS, .int .u64 0] (watchCells .zero).toList [] rfl)
theorem askR_any (lb rb sb k : Nat) (n : Int) (ws : List Str) (w : World) (h : LineAt w lb rb ws) (hr : rb < w.heap.size) (hs : w.heap[sb]? = some (.cells (stepCells (step0 k n) nilS nilS nilS) 63 (0, 0))) (hsl : sb ≠ lb) (hsr : sb ≠ rb) :
    Calls Tryz.prog 72 #[.pointer (some ⟨lb, 0, none⟩), .pointer (some ⟨sb, 0, none⟩)] w (GotStep lb rb sb w ((preq ws).bind fun x => some ({ step0 k n with req := x }, []))) := by
  have HS := Lib.hid hs
  clear hs
  go_enter Tryz.func72, Tryz.ntmps72
  go_wp2_with fail
  refine (req_any lb rb ws w h hr).mono ?_
  rintro e w1 ⟨hk1, hg1⟩
  rcases hp1 : preq ws with _ | a
  · rw [hp1] at hg1
    subst hg1
    exact ⟨rfl, hk1.mono (fun _ _ e => .inl e), by rw [hp1]; exact rfl⟩
  rw [hp1] at hg1
  obtain ⟨vc, vt, ve, rfl, hri, hl1⟩ := hg1
  obtain ⟨a1, c1, rfl, -⟩ := ownsRow_len hri.1
  obtain ⟨a2, c2, rfl, -⟩ := ownsRow_len hri.2.1
  obtain ⟨a3, c3, rfl, -⟩ := ownsRow_len hri.2.2
  have hs1 := hk1.at' HS.out hsl
  have hth : w1.there sb 3 8 := fun j hj => by
    have := there_of_block hs1 (n := 19) (Nat.le_refl 19) (3 + j) (by omega)
    simpa using this
  obtain ⟨cs, hcs⟩ : ∃ cs, cs = reqCells a (.slice a1 a.cmps.length c1) (.slice a2 a.thn.length c2) (.slice a3 a.els.length c3) := ⟨_, rfl⟩
  have hst := run_st59 w1 sb 3 cs hth (by rw [hcs]; rfl) (by rw [hcs]; simp [reqCells, one_int, one_slice, one_bool])
  have HP1 := Lib.hid hp1
  have HS1 := Lib.hid hs1
  have HL1 := Lib.hid hl1
  have HRI := Lib.hid hri
  clear hs1 hl1 hp1 hth hri
  dsimp only
  rw [← hcs]
  have HCS := Lib.hid hcs
  clear hcs
  go_wp2_with fail
  go_end0
  have hkS : Keep (fun b => b = sb) w1 (w1.setCells sb 3 cs.toList) := (Keep.refl (fun b => b = sb) w1).setCells _ _ _ (.inr rfl)
  have hty : ∀ {v : Value} {base e size n : Nat} {xs : List Value}, w1.ownsRow base e size v n xs → e ≠ 63 → (w1.setCells sb 3 cs.toList).ownsRow base e size v n xs := fun h hne => ownsRow_keep h hkS (fun g cur hg hc e => by
    subst e
    rw [HS1.out] at hc
    injection hc with e2
    injection e2 with e3 e4
    exact hne e4.symm)
  refine ⟨(hk1.mono (fun _ _ e => .inl e)).setCells _ _ _ (.inr (.inr rfl)), ?_⟩
  rw [HP1.out]
  refine ⟨rfl, HL1.out.keep hkS (fun e => hsl e.symm) (fun e => hsr e.symm), .slice a1 a.cmps.length c1, .slice a2 a.thn.length c2, .slice a3 a.els.length c3, ?_, hty HRI.out.1 (by decide), hty HRI.out.2.1 (by decide), hty HRI.out.2.2 (by decide)⟩
  rw [block_setCells _ _ _ _ HS1.out, HCS.out]
  exact congrArg (fun cs => some (Obj.cells cs 63 (0, 0))) (putCells_mid (reqCells a (.slice a1 a.cmps.length c1) (.slice a2 a.thn.length c2) (.slice a3 a.els.length c3)).toList [.int .i64 k, .int .i64 n, .int .u64 0] (reqCells .zero nilS nilS nilS).toList (watchCells .zero).toList rfl)
end Go.Proofs.YtifliekahdgobaaGreatDoor
namespace Go.Proofs.YtifliekahdgobaaGreatDoor
open Go.RowKit Sp

/-- what reading a step comes to -/
def GotRStep (lb rb : Nat) (w : World) (bad : Bool) (k : Nat) (ws : List Str) (e : Ending) (w' : World) : Prop :=
  Keep (fun b => b = lb) w w' ∧ ∃ s vc vt ve ws' bad', e = .returned (.agg (stepCells s vc vt ve)) ∧ ReqIs w' s.req vc vt ve ∧ RLineAt w' lb rb ws' bad' ∧ D bad (pstep k ws) s bad'
/-- the two blocks of a step, and the line -/
structure SHead (lb rb N : Nat) (W : World) (s : StepS) (vc vt ve : Value) (ws : List Str) (bad : Bool) (wr : World) : Prop where
  line : RLineAt wr lb rb ws bad
  out : wr.heap[N]? = some (.cells #[.int .i64 0, .int .i64 0, .int .u64 0, .int .i64 0, .int .u64 0, .int .u64 0, .bool false, .slice none 0 0, .slice none 0 0, .slice none 0 0, .int .u64 0, .int .u64 0, .string ⟨#[]⟩, .string ⟨#[]⟩, .int .u64 0, .bool false, .bool false, .bool false, .bool false] 63 (0, 0))
  res : wr.heap[N + 1]? = some (.cells (stepCells s vc vt ve) 63 (0, 0))
  isr : ReqIs wr s.req vc vt ve
  keep : Keep (fun b => b = lb) W wr
theorem reqIs_keep {w w' : World} {b : Nat} {T : TypeId} {cs : Array Value} {r : ReqS} {vc vt ve : Value} (h : ReqIs w r vc vt ve) (hk : Keep (fun x => x = b) w w') (hb : w.heap[b]? = some (.cells cs T (0, 0))) (h1 : (65 : Nat) ≠ T) (h2 : (67 : Nat) ≠ T) : ReqIs w' r vc vt ve := by
  have hty : ∀ {v : Value} {base e size n : Nat} {xs : List Value}, w.ownsRow base e size v n xs → e ≠ T → w'.ownsRow base e size v n xs := fun h hne => ownsRow_keep h hk (fun g cur hg hc e => by
    subst e
    rw [hb] at hc
    injection hc with e2
    injection e2 with e3 e4
    exact hne e4.symm)
  exact ⟨hty h.1 h1, hty h.2.1 h2, hty h.2.2 h2⟩
theorem RLineAt.block {w : World} {lb rb : Nat} {ws : List Str} {bad : Bool} (h : RLineAt w lb rb ws bad) : ∃ cs, w.heap[lb]? = some (.cells cs 124 (0, 0)) := by
  obtain ⟨off, c, h1, _⟩ := h
  exact ⟨_, h1⟩
theorem SHead.step {lb rb N : Nat} {W : World} {s : StepS} {vc vt ve : Value} {ws ws' : List Str} {bad bad' : Bool} {wr wr' : World} (h : SHead lb rb N W s vc vt ve ws bad wr) (hlb : lb < N) (hk : Keep (fun b => b = lb) wr wr') (hl : RLineAt wr' lb rb ws' bad') : SHead lb rb N W s vc vt ve ws' bad' wr' := by
  obtain ⟨cs, hb⟩ := h.line.block
  exact ⟨hl, hk.at' h.out (by omega), hk.at' h.res (by omega), reqIs_keep h.isr hk hb (by decide) (by decide), h.keep.trans' hk⟩
/-- cells of the step are written -/
theorem SHead.puts {lb rb N : Nat} {W : World} {s s' : StepS} {vc vt ve vc' vt' ve' : Value} {ws : List Str} {bad : Bool} {wr wr' : World} (h : SHead lb rb N W s vc vt ve ws bad wr) (hlb : lb < N) (hrb : rb < N) (hW : W.heap.size ≤ N + 1) (hi : ReqIs wr s'.req vc' vt' ve')
    (hk : Keep (fun b => b = N + 1) wr wr') (he : wr'.heap[N + 1]? = some (.cells (stepCells s' vc' vt' ve') 63 (0, 0))) : SHead lb rb N W s' vc' vt' ve' ws bad wr' :=
  ⟨h.line.keep hk (by omega) (by omega), hk.at' h.out (by omega), he, reqIs_keep hi hk h.res (by decide) (by decide), h.keep.trans hk (fun b hb e => by omega)⟩
theorem SHead.put {lb rb N : Nat} {W : World} {s s' : StepS} {vc vt ve : Value} {ws : List Str} {bad : Bool} {wr : World} (h : SHead lb rb N W s vc vt ve ws bad wr) (hlb : lb < N) (hrb : rb < N) (hW : W.heap.size ≤ N + 1) (i : Nat) (v : Value)
    (hi : s'.req = s.req) (he : (stepCells s vc vt ve).setIfInBounds i v = stepCells s' vc vt ve) : SHead lb rb N W s' vc vt ve ws bad (wr.setCell ⟨N + 1, i, none⟩ v) :=
  h.puts hlb hrb hW (by rw [hi]; exact h.isr) ((Keep.refl (fun b => b = N + 1) wr).setCell _ _ (.inr rfl)) (by rw [← he]; exact block_setCell h.res i v)
theorem SHead.mark {lb rb N : Nat} {W : World} {s : StepS} {vc vt ve : Value} {ws : List Str} {bad : Bool} {wr : World} (h : SHead lb rb N W s vc vt ve ws bad wr) (hlb : lb < N) (b : Bool) : SHead lb rb N W s vc vt ve ws b (wr.setCell ⟨lb, 1, none⟩ (.bool b)) :=
  h.step hlb ((Keep.refl (fun b => b = lb) wr).setCell _ _ (.inr rfl)) (h.line.mark b)
theorem pstep_D {bad b1 b2 : Bool} {k : Nat} {nd : Int} {ws ws1 ws2 : List Str} {s : StepS} (h1 : D bad (pnode k ws) (nd, ws1) b1) (h2 : D b1 (pbody k (step0 k nd) ws1) (s, ws2) b2) : D bad (pstep k ws) s (b2 || !ws2.isEmpty) := by
  unfold pstep
  refine D.bind h1 ?_
  dsimp only
  refine D.bind h2 ?_
  dsimp only
  cases ws2 with
  | nil => simpa using D.some b2 s
  | cons y wy => simpa using D.none b2 s
theorem new_block63 (w : World) (x : StepS) (vc vt ve : Value) (h1 : (stepCells x vc vt ve).all (·.oneCell') = true) : ∃ W : World, W = (w.alloc (.cells #[.int .i64 0, .int .i64 0, .int .u64 0, .int .i64 0, .int .u64 0, .int .u64 0, .bool false, .slice none 0 0, .slice none 0 0, .slice none 0 0, .int .u64 0, .int .u64 0, .string ⟨#[]⟩, .string ⟨#[]⟩, .int .u64 0, .bool false, .bool false, .bool false, .bool false] 63)).setCells w.heap.size 0 (stepCells x vc vt ve).toList ∧
    (stT 63 (.pointer (some ⟨w.heap.size, 0, none⟩)) (.agg (stepCells x vc vt ve))).run Tryz.prog (w.alloc (.cells #[.int .i64 0, .int .i64 0, .int .u64 0, .int .i64 0, .int .u64 0, .int .u64 0, .bool false, .slice none 0 0, .slice none 0 0, .slice none 0 0, .int .u64 0, .int .u64 0, .string ⟨#[]⟩, .string ⟨#[]⟩, .int .u64 0, .bool false, .bool false, .bool false, .bool false] 63)) = .ok .skip W ∧
    W.heap[w.heap.size]? = some (.cells (stepCells x vc vt ve) 63 (0, 0)) ∧ Keep (fun _ => False) w W := by
  refine ⟨_, rfl, run_st63 _ _ _ _ (there_of_block (block_new _ _) (by decide)) rfl h1, ?_, ((Keep.refl _ w).alloc _).setCells _ _ _ (.inl (Nat.le_refl _))⟩
  have := block_setCells_all (block_new w (.cells #[.int .i64 0, .int .i64 0, .int .u64 0, .int .i64 0, .int .u64 0, .int .u64 0, .bool false, .slice none 0 0, .slice none 0 0, .slice none 0 0, .int .u64 0, .int .u64 0, .string ⟨#[]⟩, .string ⟨#[]⟩, .int .u64 0, .bool false, .bool false, .bool false, .bool false] 63 (0, 0))) (stepCells x vc vt ve).toList rfl
  rwa [Array.toArray_toList] at this

theorem reqCells_one {w : World} {r : ReqS} {vc vt ve : Value} (h : ReqIs w r vc vt ve) : (reqCells r vc vt ve).all (·.oneCell') = true := by
  obtain ⟨a1, c1, rfl, -⟩ := ownsRow_len h.1
  obtain ⟨a2, c2, rfl, -⟩ := ownsRow_len h.2.1
  obtain ⟨a3, c3, rfl, -⟩ := ownsRow_len h.2.2
  simp [reqCells, one_int, one_bool, one_slice]
theorem pwatch_D {b b1 b2 b3 b4 b5 : Bool} {wy z1 z2 z3 z4 z5 : List Str} {i st : Int} {x y : Str} {m : List Bool} (h1 : D b (pnum most wy) (i, z1) b1) (h2 : D b1 (pbytes z1) (x, z2) b2) (h3 : D b2 (pbytes z2) (y, z3) b3) (h4 : D b3 (pnum most z3) (st, z4) b4) (h5 : D b4 (pmarks lPndg z4) (m, z5) b5) :
    D b (pwatch wy) (⟨i, x, y, st, at' m 0, at' m 1, at' m 2, at' m 3⟩, z5) b5 := by
  unfold pwatch
  refine D.bind h1 ?_
  dsimp only
  refine D.bind h2 ?_
  dsimp only
  refine D.bind h3 ?_
  dsimp only
  refine D.bind h4 ?_
  dsimp only
  refine D.bind h5 ?_
  exact D.some _ _
theorem pbody_ask {b b' : Bool} {o : Option ReqS} {r : ReqS} {ws : List Str} {s : StepS} (h : D b o r b') (hn : b' = false → ws = []) : D b (o.bind fun x => some ({ s with req := x }, ([] : List Str))) ({ s with req := r }, ws) b' := by
  rcases h with ⟨h1, h2, h3⟩ | ⟨h1, h2⟩
  · left
    rw [h2, hn h3]
    exact ⟨h1, rfl, h3⟩
  · right
    refine ⟨h1.imp id (fun e => ?_), h2⟩
    rw [e]; rfl
theorem rstepCells_one {w : World} {s : StepS} {vc vt ve : Value} (h : ReqIs w s.req vc vt ve) : (stepCells s vc vt ve).all (·.oneCell') = true := by
  obtain ⟨a1, c1, rfl, -⟩ := ownsRow_len h.1
  obtain ⟨a2, c2, rfl, -⟩ := ownsRow_len h.2.1
  obtain ⟨a3, c3, rfl, -⟩ := ownsRow_len h.2.2
  simp [stepCells, one_int, one_bool, one_slice, one_str]

set_option maxRecDepth 100000 in
set_option maxHeartbeats 3200000 in
theorem rstep_any (lb rb : Nat) (ws : List Str) (bad : Bool) (k : Nat) (hk12 : k < 12) (w : World) (h : RLineAt w lb rb ws bad) (hr : rb < w.heap.size) :
    Calls Tryz.prog 58 #[.pointer (some ⟨lb, 0, none⟩), .int .i64 k] w (GotRStep lb rb w bad k ws) := by
  have hlt := h.lt
  have hbm : (most : Int) = 999999999999999999 := rfl
  obtain ⟨W, hW⟩ : ∃ W, W = w.alloc (.cells #[.int .i64 0, .int .i64 0, .int .u64 0, .int .i64 0, .int .u64 0, .int .u64 0, .bool false, .slice none 0 0, .slice none 0 0, .slice none 0 0, .int .u64 0, .int .u64 0, .string ⟨#[]⟩, .string ⟨#[]⟩, .int .u64 0, .bool false, .bool false, .bool false, .bool false] 63) := ⟨_, rfl⟩
  have hkw : Keep (fun _ => False) w W := by rw [hW]; exact (Keep.refl _ w).alloc _
  have hWs : W.heap.size = w.heap.size + 1 := by rw [hW, alloc_size]
  have hwn : W.heap[w.heap.size]? = some (.cells #[.int .i64 0, .int .i64 0, .int .u64 0, .int .i64 0, .int .u64 0, .int .u64 0, .bool false, .slice none 0 0, .slice none 0 0, .slice none 0 0, .int .u64 0, .int .u64 0, .string ⟨#[]⟩, .string ⟨#[]⟩, .int .u64 0, .bool false, .bool false, .bool false, .bool false] 63 (0, 0)) := by rw [hW]; exact block_new _ _
  obtain ⟨V, hV, hst, hbV, hkV⟩ := new_block63 W (step0 k 0) nilS nilS nilS (by simp [stepCells, step0, ReqS.zero, WatchS.zero, one_int, one_bool, one_slice, one_str])
  have h0 : SHead lb rb w.heap.size W (step0 k 0) nilS nilS nilS ws bad V := by
    rw [hWs] at hbV
    exact ⟨(h.keep hkw (fun e => e) (fun e => e)).keep hkV (fun e => e) (fun e => e), hkV.at' hwn (fun e => e), hbV, ReqIs.zero _, hkV.mono (fun _ _ e => e.elim)⟩
  obtain ⟨N, hN⟩ : ∃ N : Nat, N = w.heap.size := ⟨_, rfl⟩
  rw [hWs] at hst hV
  rw [← hN] at h0 hWs
  have HV := Lib.hid (show V = ((w.alloc (.cells #[.int .i64 0, .int .i64 0, .int .u64 0, .int .i64 0, .int .u64 0, .int .u64 0, .bool false, .slice none 0 0, .slice none 0 0, .slice none 0 0, .int .u64 0, .int .u64 0, .string ⟨#[]⟩, .string ⟨#[]⟩, .int .u64 0, .bool false, .bool false, .bool false, .bool false] 63)).alloc (.cells #[.int .i64 0, .int .i64 0, .int .u64 0, .int .i64 0, .int .u64 0, .int .u64 0, .bool false, .slice none 0 0, .slice none 0 0, .slice none 0 0, .int .u64 0, .int .u64 0, .string ⟨#[]⟩, .string ⟨#[]⟩, .int .u64 0, .bool false, .bool false, .bool false, .bool false] 63)).setCells (w.heap.size + 1) 0 (stepCells (step0 k 0) nilS nilS nilS).toList by rw [hV, hW])
  rw [hW] at hst
  unfold stepCells step0 ReqS.zero WatchS.zero at hst
  have hlN : lb < N := by omega
  have hrN : rb < N := by omega
  have hwN : w.heap.size ≤ N := by omega
  have hWN : W.heap.size ≤ N + 1 := by omega
  have HN := Lib.hid hN
  have H0 := Lib.hid h0
  have HKW := Lib.hid hkw
  clear hN h hwn h0 hbV hkV hkw hWs hV hW
  go_enter Tryz.func58, Tryz.ntmps58
  go_upto_region 2 with fail
  rw [← HN.out]
  clear hst HV
  go_upto_if 10 with fail
  go_cut [6] from 10 to 14 (fun s6 wx => ∃ nd ws1 b1, SHead lb rb N W (step0 k nd) nilS nilS nilS ws1 b1 wx ∧ D bad (pnode k ws) (nd, ws1) b1)
  case first =>
    by_cases hk2 : (k : Int) > 2
    · go_wp2_with fail
      refine (rnum_any 9 (by decide) (by decide) lb rb ws bad _ H0.out.line).mono ?_
      rintro e w1 ⟨hk, nd, ws1, b1, rfl, hl, hP, hle, hD⟩
      have hh := H0.out.step hlN hk hl
      have hc : w1.cell? ⟨N + 1, 1, none⟩ = some (.int .i64 0) := cell_of_block hh.res 1
      have hf := free_of_block hh.res 1
      have H1 := Lib.hid (hh.put (s' := step0 k nd) hlN hrN hWN 1 (.int .i64 nd) rfl rfl)
      have HD := Lib.hid hD
      have hwr : IntKind.i64.wrap nd = nd := IntWalk.i64_in _ (by omega)
      clear hk hl hD hh
      unfold u64w
      go_wp2_with fail
      go_meet
      refine ⟨nd, ws1, b1, H1.out, ?_⟩
      unfold pnode
      rw [if_pos (by omega)]
      exact HD.out
    · go_wp2_with fail
      go_meet
      refine ⟨0, ws, bad, H0.out, ?_⟩
      unfold pnode
      rw [if_neg (by omega)]
      exact D.some _ _
  case rest =>
    obtain ⟨nd, ws1, b1, hh, hD⟩ := hcut
    have H1 := Lib.hid hh
    have HD1 := Lib.hid hD
    clear hh hD H0
    by_cases hq11 : k = 11
    · have hb11 : ((k : Int) == 11) = true := by rw [hq11]; rfl
      have hb8 : ((k : Int) == 8) = false := by simp; omega
      have hb7 : ((k : Int) == 7) = false := by simp; omega
      have hD : D b1 (pbody k (step0 k nd) ws1) (step0 k nd, ws1) b1 := by unfold pbody; rw [if_pos hq11]; exact D.some _ _
      have HD2 := Lib.hid hD
      clear hD hq11
      obtain ⟨s, hs⟩ : ∃ s, s = step0 k nd := ⟨_, rfl⟩
      obtain ⟨vc, hvc⟩ : ∃ vc, vc = nilS := ⟨_, rfl⟩
      have HX := Lib.hid (show SHead lb rb N W s vc vc vc ws1 b1 wc by rw [hs, hvc]; exact H1.out)
      have HD2' := Lib.hid (show D b1 (pbody k (step0 k nd) ws1) (s, ws1) b1 by rw [hs]; exact HD2.out)
      clear hs hvc HD2 H1
      go_upto_region 16 with fail
      obtain ⟨off, cc, hl1, hl2, hl3, -⟩ := HX.out.line
      have hcl : wc.cell? ⟨lb, 0, none⟩ = some (.slice (some ⟨rb, off, none⟩) ws1.length cc) := cell_of_block hl1 0
      have hcb : wc.cell? ⟨lb, 1, none⟩ = some (.bool b1) := cell_of_block hl1 1
      have hfb := HX.out.line.free 1
      clear hl1 hl2 hl3
      go_cut [7] from 56 to 70 (fun _ wx => SHead lb rb N W s vc vc vc ws1 (b1 || !ws1.isEmpty) wx)
      case first =>
        cases b1
        · cases ws1 with
          | nil =>
            simp only [List.length_nil] at hcl
            go_wp2_with fail
            go_meet
            exact HX.out.mark hlN _
          | cons y wy =>
            simp only [List.length_cons] at hcl
            have hgt : ((wy.length : Int) + 1) > 0 := by omega
            go_wp2_with fail
            go_meet
            exact HX.out.mark hlN _
        · go_wp2_with fail
          go_meet
          rw [Bool.true_or]
          exact HX.out.mark hlN _
      case rest =>
        have HC := Lib.hid hcut
        clear hcut hcl hcb hfb HX
        obtain ⟨cs, hcs⟩ : ∃ cs, cs = stepCells s vc vc vc := ⟨_, rfl⟩
        have hs : cs.size = 19 := by rw [hcs]; rfl
        have h1 : cs.all (·.oneCell') = true := by rw [hcs]; exact rstepCells_one HC.out.isr
        have hb4 := HC.out.res
        rw [← hcs] at hb4
        have hld := run_ld63 wc (N + 1) 0 cs hs (range_of_block hb4)
        have hst := run_st63 wc N 0 cs (there_of_block HC.out.out (n := 19) (by decide)) hs h1
        have HCS := Lib.hid hcs
        clear hb4 hcs
        go_wp2_with fail
        have hb3 := block_setCells_all HC.out.out cs.toList (by simp [hs])
        rw [Array.toArray_toList] at hb3
        (try simp only [Exit.inBlock, Exit.then])
        refine bodyPost_ret (v := .agg cs) ?_ rfl ?_
        · exact results_block (n := 19) rfl Tryz.underlying63 rfl info63 _ _ N cs 63 (0, 0) rfl hs hb3
        have hkS : Keep (fun b => b = N) wc (wc.setCells N 0 cs.toList) := (Keep.refl (fun b => b = N) wc).setCells _ _ _ (.inr rfl)
        exact ⟨((HKW.out.mono (fun _ _ e => e.elim)).trans' HC.out.keep).setCells _ _ _ (.inl hwN), s, vc, vc, vc, ws1, _, by rw [HCS.out], reqIs_keep HC.out.isr hkS HC.out.out (by decide) (by decide), HC.out.line.keep hkS (fun e => by omega) (fun e => by omega), pstep_D HD1.out HD2'.out⟩
    by_cases hq8 : k = 8
    · have hb11 : ((k : Int) == 11) = false := by simp; omega
      have hb8 : ((k : Int) == 8) = true := by rw [hq8]; rfl
      have hb7 : ((k : Int) == 7) = false := by simp; omega
      have HKQ := Lib.hid hq8
      clear hq11 hq8
      go_wp2_with fail
      refine (rnum_any most (by decide) (by decide) lb rb ws1 b1 _ (H1.out).line).mono ?_
      rintro e w3 ⟨hk, wi, ws3, b3, rfl, hl, hP3, hle3, hD⟩
      have H3 := Lib.hid ((H1.out).step hlN hk hl)
      have HE3 := Lib.hid (show D b1 _ (wi, ws3) b3 from hD)
      clear hk hl hD
      unfold u64w
      go_wp2_with fail
      refine (rbytes_any lb rb ws3 b3 _ (H3.out).line).mono ?_
      rintro e w4 ⟨hk, wk, ws4, b4, rfl, hl, hP4, hle4, hD⟩
      have H4 := Lib.hid ((H3.out).step hlN hk hl)
      have HE4 := Lib.hid (show D b3 _ (wk, ws4) b4 from hD)
      clear hk hl hD
      go_wp2_with fail
      refine (rbytes_any lb rb ws4 b4 _ (H4.out).line).mono ?_
      rintro e w5 ⟨hk, wf, ws5, b5, rfl, hl, hP5, hle5, hD⟩
      have H5 := Lib.hid ((H4.out).step hlN hk hl)
      have HE5 := Lib.hid (show D b4 _ (wf, ws5) b5 from hD)
      clear hk hl hD
      go_wp2_with fail
      refine (rnum_any most (by decide) (by decide) lb rb ws5 b5 _ (H5.out).line).mono ?_
      rintro e w6 ⟨hk, wst, ws6, b6, rfl, hl, hP6, hle6, hD⟩
      have H6 := Lib.hid ((H5.out).step hlN hk hl)
      have HE6 := Lib.hid (show D b5 _ (wst, ws6) b6 from hD)
      clear hk hl hD
      unfold u64w
      have hth : w6.there (N + 1) 11 8 := fun j hj => by
        have := there_of_block H6.out.res (n := 19) (Nat.le_refl 19) (11 + j) (by omega)
        simpa using this
      have hst := run_st61 w6 (N + 1) 11 (watchCells ⟨wi, wk, wf, wst, false, false, false, false⟩) hth rfl (by simp [watchCells, one_int, one_str, one_bool])
      obtain ⟨V, hV⟩ : ∃ V, V = w6.setCells (N + 1) 11 (watchCells ⟨wi, wk, wf, wst, false, false, false, false⟩).toList := ⟨_, rfl⟩
      have hx : SHead lb rb N W { step0 k nd with watch := ⟨wi, wk, wf, wst, false, false, false, false⟩ } nilS nilS nilS ws6 b6 V := by
        refine H6.out.puts hlN hrN hWN (ReqIs.zero _) (by rw [hV]; exact (Keep.refl (fun b => b = N + 1) w6).setCells _ _ _ (.inr rfl)) ?_
        rw [hV, block_setCells _ _ _ _ H6.out.res]
        exact congrArg (fun cs => some (Obj.cells cs 63 (0, 0))) (putCells_mid (watchCells ⟨wi, wk, wf, wst, false, false, false, false⟩).toList [.int .i64 k, .int .i64 nd, .int .u64 0, .int .i64 0, .int .u64 0, .int .u64 0, .bool false, nilS, nilS, nilS, .int .u64 0] (watchCells .zero).toList [] rfl)
      rw [← hV] at hst
      unfold watchCells at hst
      have HX6 := Lib.hid hx
      clear hx hV hth H6 H5 H4 H3 H1
      go_wp2_with fail
      refine (rmarks_any lb rb lPndg ws6 b6 V HX6.out.line (by have := lt_of_block HX6.out.res; omega) (by decide)).mono ?_
      rintro e w7 ⟨hk, m, ws7, b7, rfl, hl, hP7, hle7, hD⟩
      have hh := HX6.out.step hlN hk hl
      have HE7 := Lib.hid (show D b6 _ (m, ws7) b7 from hD)
      clear hk hl hD hst HX6
      obtain ⟨V9, hV9, hst9, hF9, hk9⟩ := new_block154 w7 m
      have hszB : N + 1 < w7.heap.size := lt_of_block hh.res
      have h9 := hh.step hlN (hk9.mono (fun _ _ e => e.elim)) (hh.line.keep hk9 (fun e => e) (fun e => e))
      generalize hC : w7.heap.size = C at *
      have hc90 : V9.cell? ⟨C, 0, none⟩ = some (.bool (at' m 0)) := cell_of_block hF9 0
      have hc91 : V9.cell? ⟨C, 1, none⟩ = some (.bool (at' m 1)) := cell_of_block hF9 1
      have hc92 : V9.cell? ⟨C, 2, none⟩ = some (.bool (at' m 2)) := cell_of_block hF9 2
      have hc93 : V9.cell? ⟨C, 3, none⟩ = some (.bool (at' m 3)) := cell_of_block hF9 3
      have hcs0 : V9.cell? ⟨N + 1, 15, none⟩ = some (.bool false) := cell_of_block h9.res 15
      have hfs0 := free_of_block h9.res 15
      have hcs1 : V9.cell? ⟨N + 1, 16, none⟩ = some (.bool false) := cell_of_block h9.res 16
      have hfs1 := free_of_block h9.res 16
      have hcs2 : V9.cell? ⟨N + 1, 17, none⟩ = some (.bool false) := cell_of_block h9.res 17
      have hfs2 := free_of_block h9.res 17
      have hcs3 : V9.cell? ⟨N + 1, 18, none⟩ = some (.bool false) := cell_of_block h9.res 18
      have hfs3 := free_of_block h9.res 18
      have hx1 := h9.put (s' := { step0 k nd with watch := ⟨wi, wk, wf, wst, at' m 0, false, false, false⟩ }) hlN hrN hWN 15 (.bool (at' m 0)) rfl rfl
      have hx2 := hx1.put (s' := { step0 k nd with watch := ⟨wi, wk, wf, wst, at' m 0, at' m 1, false, false⟩ }) hlN hrN hWN 16 (.bool (at' m 1)) rfl rfl
      have hx3 := hx2.put (s' := { step0 k nd with watch := ⟨wi, wk, wf, wst, at' m 0, at' m 1, at' m 2, false⟩ }) hlN hrN hWN 17 (.bool (at' m 2)) rfl rfl
      have hx := hx3.put (s' := { step0 k nd with watch := ⟨wi, wk, wf, wst, at' m 0, at' m 1, at' m 2, at' m 3⟩ }) hlN hrN hWN 18 (.bool (at' m 3)) rfl rfl
      obtain ⟨q, hq⟩ : ∃ q, q = (((V9.setCell ⟨N + 1, 15, none⟩ (.bool (at' m 0))).setCell ⟨N + 1, 16, none⟩ (.bool (at' m 1))).setCell ⟨N + 1, 17, none⟩ (.bool (at' m 2))).setCell ⟨N + 1, 18, none⟩ (.bool (at' m 3)) := ⟨_, rfl⟩
      rw [← hq] at hx
      obtain ⟨s, hs⟩ : ∃ s, s = ({ step0 k nd with watch := ⟨wi, wk, wf, wst, at' m 0, at' m 1, at' m 2, at' m 3⟩ } : StepS) := ⟨_, rfl⟩
      obtain ⟨vc, hvc⟩ : ∃ vc, vc = nilS := ⟨_, rfl⟩
      rw [← hs, ← hvc] at hx
      have HX := Lib.hid hx
      have HQ := Lib.hid hq
      have HD2 := Lib.hid (show D b1 (pbody k (step0 k nd) ws1) (s, ws7) b7 by unfold pbody; rw [if_neg (by rw [HKQ.out]; decide), if_pos HKQ.out, hs]; exact D.bind (pwatch_D HE3.out HE4.out HE5.out HE6.out HE7.out) (D.some _ _))
      clear hh hx hx1 hx2 hx3 hq hs hvc h9 hV9 hF9 hk9 HE3 HE4 HE5 HE6 HE7
      unfold flags at hst9
      unfold flags
      go_upto_region 16 with fail
      rw [← HQ.out]
      clear HQ
      obtain ⟨off, cc, hl1, hl2, hl3, -⟩ := HX.out.line
      have hcl : q.cell? ⟨lb, 0, none⟩ = some (.slice (some ⟨rb, off, none⟩) ws7.length cc) := cell_of_block hl1 0
      have hcb : q.cell? ⟨lb, 1, none⟩ = some (.bool b7) := cell_of_block hl1 1
      have hfb := HX.out.line.free 1
      clear hl1 hl2 hl3
      go_cut [7] from 56 to 70 (fun _ wx => SHead lb rb N W s vc vc vc ws7 (b7 || !ws7.isEmpty) wx)
      case first =>
        cases b7
        · cases ws7 with
          | nil =>
            simp only [List.length_nil] at hcl
            go_wp2_with fail
            go_meet
            exact HX.out.mark hlN _
          | cons y wy =>
            simp only [List.length_cons] at hcl
            have hgt : ((wy.length : Int) + 1) > 0 := by omega
            go_wp2_with fail
            go_meet
            exact HX.out.mark hlN _
        · go_wp2_with fail
          go_meet
          rw [Bool.true_or]
          exact HX.out.mark hlN _
      case rest =>
        have HC := Lib.hid hcut
        clear hcut hcl hcb hfb HX
        obtain ⟨cs, hcs⟩ : ∃ cs, cs = stepCells s vc vc vc := ⟨_, rfl⟩
        have hs : cs.size = 19 := by rw [hcs]; rfl
        have h1 : cs.all (·.oneCell') = true := by rw [hcs]; exact rstepCells_one HC.out.isr
        have hb4 := HC.out.res
        rw [← hcs] at hb4
        have hld := run_ld63 wc (N + 1) 0 cs hs (range_of_block hb4)
        have hst := run_st63 wc N 0 cs (there_of_block HC.out.out (n := 19) (by decide)) hs h1
        have HCS := Lib.hid hcs
        clear hb4 hcs
        go_wp2_with fail
        have hb3 := block_setCells_all HC.out.out cs.toList (by simp [hs])
        rw [Array.toArray_toList] at hb3
        (try simp only [Exit.inBlock, Exit.then])
        refine bodyPost_ret (v := .agg cs) ?_ rfl ?_
        · exact results_block (n := 19) rfl Tryz.underlying63 rfl info63 _ _ N cs 63 (0, 0) rfl hs hb3
        have hkS : Keep (fun b => b = N) wc (wc.setCells N 0 cs.toList) := (Keep.refl (fun b => b = N) wc).setCells _ _ _ (.inr rfl)
        exact ⟨((HKW.out.mono (fun _ _ e => e.elim)).trans' HC.out.keep).setCells _ _ _ (.inl hwN), s, vc, vc, vc, ws7, _, by rw [HCS.out], reqIs_keep HC.out.isr hkS HC.out.out (by decide) (by decide), HC.out.line.keep hkS (fun e => by omega) (fun e => by omega), pstep_D HD1.out HD2.out⟩
    by_cases hq7 : k = 7
    · have hb11 : ((k : Int) == 11) = false := by simp; omega
      have hb8 : ((k : Int) == 8) = false := by simp; omega
      have hb7 : ((k : Int) == 7) = true := by rw [hq7]; rfl
      have HKQ := Lib.hid hq7
      clear hq11 hq8 hq7
      go_wp2_with fail
      refine (rreq_any lb rb ws1 b1 _ H1.out.line (by have := lt_of_block H1.out.res; omega)).mono ?_
      rintro e w2 ⟨hk, r, vc, vt, ve, ws2, b2, rfl, hri, hl, hle, hD, hnil⟩
      have hh := H1.out.step hlN hk hl
      obtain ⟨cs, hcs⟩ : ∃ cs, cs = reqCells r vc vt ve := ⟨_, rfl⟩
      have hth : w2.there (N + 1) 3 8 := fun j hj => by
        have := there_of_block hh.res (n := 19) (Nat.le_refl 19) (3 + j) (by omega)
        simpa using this
      have hst := run_st59 w2 (N + 1) 3 cs hth (by rw [hcs]; rfl) (by rw [hcs]; exact reqCells_one hri)
      obtain ⟨q, hq⟩ : ∃ q, q = w2.setCells (N + 1) 3 cs.toList := ⟨_, rfl⟩
      have hx : SHead lb rb N W { step0 k nd with req := r } vc vt ve ws2 b2 q := by
        refine hh.puts hlN hrN hWN hri (by rw [hq]; exact (Keep.refl (fun b => b = N + 1) w2).setCells _ _ _ (.inr rfl)) ?_
        rw [hq, block_setCells _ _ _ _ hh.res, hcs]
        exact congrArg (fun cs => some (Obj.cells cs 63 (0, 0))) (putCells_mid (reqCells r vc vt ve).toList [.int .i64 k, .int .i64 nd, .int .u64 0] (reqCells .zero nilS nilS nilS).toList (watchCells .zero).toList rfl)
      obtain ⟨s, hs⟩ : ∃ s, s = ({ step0 k nd with req := r } : StepS) := ⟨_, rfl⟩
      rw [← hs] at hx
      have HX := Lib.hid hx
      have HQ := Lib.hid hq
      have HD2 := Lib.hid (show D b1 (pbody k (step0 k nd) ws1) (s, ws2) b2 by unfold pbody; rw [if_neg (by rw [HKQ.out]; decide), if_neg (by rw [HKQ.out]; decide), if_pos HKQ.out, hs]; exact pbody_ask hD hnil)
      rw [← hcs]
      clear hk hl hD hh hx hq hs hth hri hcs hnil H1
      go_upto_region 16 with fail
      rw [← HQ.out]
      clear HQ
      obtain ⟨off, cc, hl1, hl2, hl3, -⟩ := HX.out.line
      have hcl : q.cell? ⟨lb, 0, none⟩ = some (.slice (some ⟨rb, off, none⟩) ws2.length cc) := cell_of_block hl1 0
      have hcb : q.cell? ⟨lb, 1, none⟩ = some (.bool b2) := cell_of_block hl1 1
      have hfb := HX.out.line.free 1
      clear hl1 hl2 hl3
      go_cut [7] from 56 to 70 (fun _ wx => SHead lb rb N W s vc vt ve ws2 (b2 || !ws2.isEmpty) wx)
      case first =>
        cases b2
        · cases ws2 with
          | nil =>
            simp only [List.length_nil] at hcl
            go_wp2_with fail
            go_meet
            exact HX.out.mark hlN _
          | cons y wy =>
            simp only [List.length_cons] at hcl
            have hgt : ((wy.length : Int) + 1) > 0 := by omega
            go_wp2_with fail
            go_meet
            exact HX.out.mark hlN _
        · go_wp2_with fail
          go_meet
          rw [Bool.true_or]
          exact HX.out.mark hlN _
      case rest =>
        have HC := Lib.hid hcut
        clear hcut hcl hcb hfb HX
        obtain ⟨cs, hcs⟩ : ∃ cs, cs = stepCells s vc vt ve := ⟨_, rfl⟩
        have hs : cs.size = 19 := by rw [hcs]; rfl
        have h1 : cs.all (·.oneCell') = true := by rw [hcs]; exact rstepCells_one HC.out.isr
        have hb4 := HC.out.res
        rw [← hcs] at hb4
        have hld := run_ld63 wc (N + 1) 0 cs hs (range_of_block hb4)
        have hst := run_st63 wc N 0 cs (there_of_block HC.out.out (n := 19) (by decide)) hs h1
        have HCS := Lib.hid hcs
        clear hb4 hcs
        go_wp2_with fail
        have hb3 := block_setCells_all HC.out.out cs.toList (by simp [hs])
        rw [Array.toArray_toList] at hb3
        (try simp only [Exit.inBlock, Exit.then])
        refine bodyPost_ret (v := .agg cs) ?_ rfl ?_
        · exact results_block (n := 19) rfl Tryz.underlying63 rfl info63 _ _ N cs 63 (0, 0) rfl hs hb3
        have hkS : Keep (fun b => b = N) wc (wc.setCells N 0 cs.toList) := (Keep.refl (fun b => b = N) wc).setCells _ _ _ (.inr rfl)
        exact ⟨((HKW.out.mono (fun _ _ e => e.elim)).trans' HC.out.keep).setCells _ _ _ (.inl hwN), s, vc, vt, ve, ws2, _, by rw [HCS.out], reqIs_keep HC.out.isr hkS HC.out.out (by decide) (by decide), HC.out.line.keep hkS (fun e => by omega) (fun e => by omega), pstep_D HD1.out HD2.out⟩
    · have hb11 : ((k : Int) == 11) = false := by simp; omega
      have hb8 : ((k : Int) == 8) = false := by simp; omega
      have hb7 : ((k : Int) == 7) = false := by simp; omega
      have HKQ := Lib.hid (And.intro hq11 (And.intro hq8 hq7))
      clear hq11 hq8 hq7
      go_wp2_with fail
      refine (rnum_any most (by decide) (by decide) lb rb ws1 b1 _ H1.out.line).mono ?_
      rintro e w2 ⟨hk, n, ws2, b2, rfl, hl, hP, hle, hD⟩
      have hh := H1.out.step hlN hk hl
      have hc : w2.cell? ⟨N + 1, 2, none⟩ = some (.int .u64 0) := cell_of_block hh.res 2
      have hf := free_of_block hh.res 2
      obtain ⟨q, hq⟩ : ∃ q, q = w2.setCell ⟨N + 1, 2, none⟩ (.int .u64 n) := ⟨_, rfl⟩
      have hx := hh.put (s' := { step0 k nd with n := n }) hlN hrN hWN 2 (.int .u64 n) rfl rfl
      rw [← hq] at hx
      obtain ⟨s, hs⟩ : ∃ s, s = ({ step0 k nd with n := n } : StepS) := ⟨_, rfl⟩
      obtain ⟨vc, hvc⟩ : ∃ vc, vc = nilS := ⟨_, rfl⟩
      rw [← hs, ← hvc] at hx
      have HX := Lib.hid hx
      have HQ := Lib.hid hq
      have HD2 := Lib.hid (show D b1 (pbody k (step0 k nd) ws1) (s, ws2) b2 by unfold pbody; rw [if_neg HKQ.out.1, if_neg HKQ.out.2.1, if_neg HKQ.out.2.2, hs]; exact D.bind hD (D.some _ _))
      clear hk hl hD hh hx hq hs hvc H1
      unfold u64w
      go_upto_region 16 with fail
      rw [← HQ.out]
      clear HQ
      obtain ⟨off, cc, hl1, hl2, hl3, -⟩ := HX.out.line
      have hcl : q.cell? ⟨lb, 0, none⟩ = some (.slice (some ⟨rb, off, none⟩) ws2.length cc) := cell_of_block hl1 0
      have hcb : q.cell? ⟨lb, 1, none⟩ = some (.bool b2) := cell_of_block hl1 1
      have hfb := HX.out.line.free 1
      clear hl1 hl2 hl3
      go_cut [7] from 56 to 70 (fun _ wx => SHead lb rb N W s vc vc vc ws2 (b2 || !ws2.isEmpty) wx)
      case first =>
        cases b2
        · cases ws2 with
          | nil =>
            simp only [List.length_nil] at hcl
            go_wp2_with fail
            go_meet
            exact HX.out.mark hlN _
          | cons y wy =>
            simp only [List.length_cons] at hcl
            have hgt : ((wy.length : Int) + 1) > 0 := by omega
            go_wp2_with fail
            go_meet
            exact HX.out.mark hlN _
        · go_wp2_with fail
          go_meet
          rw [Bool.true_or]
          exact HX.out.mark hlN _
      case rest =>
        have HC := Lib.hid hcut
        clear hcut hcl hcb hfb HX
        obtain ⟨cs, hcs⟩ : ∃ cs, cs = stepCells s vc vc vc := ⟨_, rfl⟩
        have hs : cs.size = 19 := by rw [hcs]; rfl
        have h1 : cs.all (·.oneCell') = true := by rw [hcs]; exact rstepCells_one HC.out.isr
        have hb4 := HC.out.res
        rw [← hcs] at hb4
        have hld := run_ld63 wc (N + 1) 0 cs hs (range_of_block hb4)
        have hst := run_st63 wc N 0 cs (there_of_block HC.out.out (n := 19) (by decide)) hs h1
        have HCS := Lib.hid hcs
        clear hb4 hcs
        go_wp2_with fail
        have hb3 := block_setCells_all HC.out.out cs.toList (by simp [hs])
        rw [Array.toArray_toList] at hb3
        (try simp only [Exit.inBlock, Exit.then])
        refine bodyPost_ret (v := .agg cs) ?_ rfl ?_
        · exact results_block (n := 19) rfl Tryz.underlying63 rfl info63 _ _ N cs 63 (0, 0) rfl hs hb3
        have hkS : Keep (fun b => b = N) wc (wc.setCells N 0 cs.toList) := (Keep.refl (fun b => b = N) wc).setCells _ _ _ (.inr rfl)
        exact ⟨((HKW.out.mono (fun _ _ e => e.elim)).trans' HC.out.keep).setCells _ _ _ (.inl hwN), s, vc, vc, vc, ws2, _, by rw [HCS.out], reqIs_keep HC.out.isr hkS HC.out.out (by decide) (by decide), HC.out.line.keep hkS (fun e => by omega) (fun e => by omega), pstep_D HD1.out HD2.out⟩
end Go.Proofs.YtifliekahdgobaaGreatDoor
