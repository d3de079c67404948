/-
  THE REFERENCE's WALKS, 10: req (printed by wip/tools/gen_rreq.py). Helpers of the claims.
-/
import Derived.Test.YtifliekahdgobaaGreatDoorJR7ToR9
import Derived.Test.YtifliekahdgobaaGreatDoorJW9
import Derived.Test.YtifliekahdgobaaGreatDoorJW21ToW22
set_option linter.unusedSimpArgs false
set_option linter.unusedVariables false
namespace Go.Proofs.YtifliekahdgobaaGreatDoor
open Go.RowKit Sp

/-- what reading a request comes to -/
def GotRReq (lb rb : Nat) (w : World) (bad : Bool) (ws : List Str) (e : Ending) (w' : World) : Prop :=
  Keep (fun b => b = lb) w w' ∧ ∃ r vc vt ve ws' bad', e = .returned (.agg (reqCells r vc vt ve)) ∧ ReqIs w' r vc vt ve ∧ RLineAt w' lb rb ws' bad' ∧ ws'.length ≤ ws.length ∧ D bad (preq ws) r bad' ∧ (bad' = false → ws' = [])
/-- how many words a line has yet -/
theorem RLineAt.len {w : World} {lb rb : Nat} {ws : List Str} {bad : Bool} (h : RLineAt w lb rb ws bad) : lineLen w lb = ws.length := by
  obtain ⟨off, c, h1, _⟩ := h
  unfold lineLen
  rw [h1]
  rfl
theorem RLineAt.bound {w : World} {lb rb : Nat} {ws : List Str} {bad : Bool} (h : RLineAt w lb rb ws bad) : ws.length ≤ 1099511627776 := by
  obtain ⟨off, c, h1, h2, h3, _⟩ := h
  omega
/-- the two blocks of a request, and the line -/
structure RHead (lb rb N : Nat) (W : World) (r : ReqS) (ws : List Str) (bad : Bool) (wr : World) : Prop where
  line : RLineAt wr lb rb ws bad
  out : wr.heap[N]? = some (.cells #[.int .i64 0, .int .u64 0, .int .u64 0, .bool false, .slice none 0 0, .slice none 0 0, .slice none 0 0, .int .u64 0] 59 (0, 0))
  res : wr.heap[N + 1]? = some (.cells (reqCells r (.slice none 0 0) (.slice none 0 0) (.slice none 0 0)) 59 (0, 0))
  keep : Keep (fun b => b = lb) W wr
theorem RHead.step {lb rb N : Nat} {W : World} {r : ReqS} {ws ws' : List Str} {bad bad' : Bool} {wr wr' : World} (h : RHead lb rb N W r ws bad wr) (hlb : lb < N) (hk : Keep (fun b => b = lb) wr wr') (hl : RLineAt wr' lb rb ws' bad') : RHead lb rb N W r ws' bad' wr' :=
  ⟨hl, hk.at' h.out (by omega), hk.at' h.res (by omega), h.keep.trans' hk⟩
theorem RHead.put {lb rb N : Nat} {W : World} {r r' : ReqS} {ws : List Str} {bad : Bool} {wr : World} (h : RHead lb rb N W r ws bad wr) (hlb : lb < N) (hrb : rb < N) (hW : W.heap.size ≤ N + 1) (i : Nat) (v : Value)
    (he : (reqCells r (.slice none 0 0) (.slice none 0 0) (.slice none 0 0)).setIfInBounds i v = reqCells r' (.slice none 0 0) (.slice none 0 0) (.slice none 0 0)) : RHead lb rb N W r' ws bad (wr.setCell ⟨N + 1, i, none⟩ v) := by
  have hk : Keep (fun b => b = N + 1) wr (wr.setCell ⟨N + 1, i, none⟩ v) := (Keep.refl (fun b => b = N + 1) wr).setCell _ _ (.inr rfl)
  refine ⟨h.line.keep hk (by omega) (by omega), hk.at' h.out (by omega), ?_, h.keep.setCell _ _ (.inl (by show W.heap.size ≤ N + 1; omega))⟩
  rw [← he]
  exact block_setCell h.res i v
theorem RHead.mark {lb rb N : Nat} {W : World} {r : ReqS} {ws : List Str} {bad : Bool} {wr : World} (h : RHead lb rb N W r ws bad wr) (hlb : lb < N) (b : Bool) : RHead lb rb N W r ws b (wr.setCell ⟨lb, 1, none⟩ (.bool b)) :=
  h.step hlb ((Keep.refl (fun b => b = lb) wr).setCell _ _ (.inr rfl)) (h.line.mark b)
theorem D.back {α : Type} {b b' : Bool} {o : Option α} {r : α} (h : D b o r b') (e : b' = false) : b = false := by
  rcases h with ⟨rfl, _⟩ | ⟨_, h⟩
  · rfl
  · rw [h] at e; cases e
theorem wpList_append_run {ops : Array Oper} {rest : List Oper} {o : Oper} {a : Act} {Q : Exit → Act → World → Prop} {w w' : World} {v' : Value} (hgd : o.guard = none) (s x : Operand) (t : TypeId)
    (ho : o.op = .call { callee := .builtin .append, args := #[s, x], argTypes := #[t, t] }) (ht : o.type = t)
    (hr : (Builtin.append_ #[t, t] t #[a.eval s, a.eval x]).run Tryz.prog w = .ok v' w') (h : wpList Tryz.prog ops Q rest (a.put o.dst v') w') : wpList Tryz.prog ops Q (o :: rest) a w :=
  wpList_plain hgd fun K hK => wp_append_run s x t ho ht hr (hK _ _ h)
theorem wpList_bs_run {ops : Array Oper} {rest : List Oper} {o : Oper} {a : Act} {Q : Exit → Act → World → Prop} {w w' : World} {v' : Value} (hgd : o.guard = none) (x : Operand) (t : TypeId)
    (ho : o.op = .buildSlice t 1 #[(0, x)]) (hr : (Instr.buildSlice t 1 #[(0, a.eval x)]).run Tryz.prog w = .ok v' w') (h : wpList Tryz.prog ops Q rest (a.put o.dst v') w') : wpList Tryz.prog ops Q (o :: rest) a w :=
  wpList_plain hgd fun K hK => wp_bs_run x t ho hr (hK _ _ h)
theorem new_block65 (w : World) (x : CmpS) : ∃ W : World, W = (w.alloc (.cells #[.string ⟨#[]⟩, .int .i64 0, .int .i64 0, .int .u64 0, .string ⟨#[]⟩] 65)).setCells w.heap.size 0 (cmpCells x).toList ∧
    (stT 65 (.pointer (some ⟨w.heap.size, 0, none⟩)) (.agg (cmpCells x))).run Tryz.prog (w.alloc (.cells #[.string ⟨#[]⟩, .int .i64 0, .int .i64 0, .int .u64 0, .string ⟨#[]⟩] 65)) = .ok .skip W ∧
    W.heap[w.heap.size]? = some (.cells (cmpCells x) 65 (0, 0)) ∧ Keep (fun _ => False) w W := by
  refine ⟨_, rfl, run_st65 _ _ _ _ (there_of_block (block_new _ _) (by decide)) rfl (cmpCells_one _), ?_, ((Keep.refl _ w).alloc _).setCells _ _ _ (.inl (Nat.le_refl _))⟩
  have := block_setCells_all (block_new w (.cells #[.string ⟨#[]⟩, .int .i64 0, .int .i64 0, .int .u64 0, .string ⟨#[]⟩] 65 (0, 0))) (cmpCells x).toList rfl
  rwa [Array.toArray_toList] at this
theorem RReqMem.mark {lb rb B : Nat} {w : World} {r0 : ReqS} {st : PartS} {wz : List Str} {bad : Bool} {vc vt ve : Value} {wr : World} (h : RReqMem lb rb B w r0 st wz bad vc vt ve wr) (hb : lb < B) (b : Bool) : RReqMem lb rb B w r0 st wz b vc vt ve (wr.setCell ⟨lb, 1, none⟩ (.bool b)) :=
  h.step hb ((Keep.refl (fun b => b = lb) wr).setCell _ _ (.inr rfl)) (h.line.mark b)
/-- whether the line is bad, and the words left, when the loop stands at a state -/
def RAt (b5 : Bool) (ws5 : List Str) (st : PartS) (wz : List Str) (bz : Bool) : Prop :=
  (bz = false ∧ b5 = false ∧ items ⟨0, [], [], []⟩ ws5 = items st wz) ∨ (bz = true ∧ (b5 = true ∨ items ⟨0, [], [], []⟩ ws5 = none))
theorem RAt.step {b5 : Bool} {ws5 : List Str} {st st' : PartS} {y : Str} {wy wz : List Str} {bz : Bool} (h : RAt b5 ws5 st (y :: wy) false) (hd : D false (pitem st (y :: wy)) (st', wz) bz) : RAt b5 ws5 st' wz bz := by
  rcases h with ⟨-, rfl, h⟩ | ⟨h, _⟩
  · rcases hd with ⟨-, h2, rfl⟩ | ⟨h2 | h2, rfl⟩
    · left
      refine ⟨rfl, rfl, ?_⟩
      rw [h, items_cons, h2]; rfl
    · cases h2
    · right
      refine ⟨rfl, .inr ?_⟩
      rw [h, items_cons, h2]; rfl
  · cases h
theorem D.of_items {bad b5 : Bool} {ws ws5 : List Str} {k : Nat} {kk c n : Int} {sr : Bool} {rv : Int} {st : PartS} {bz : Bool} (hk : b5 = false → kk = k) (h1 : D bad (phead ws) ((k, c, n, sr, rv), ws5) b5) (h2 : RAt b5 ws5 st [] bz ∨ ∃ wz, RAt b5 ws5 st wz bz ∧ bz = true) :
    D bad (preq ws) ⟨kk, c, n, sr, st.cmps, st.thn, st.els, rv⟩ (bz || !okParts st) := by
  rw [preq_head]
  refine D.bind h1 ?_
  have h3 : (∃ wz, RAt b5 ws5 st wz bz) ∧ (bz = false → RAt b5 ws5 st [] bz) := by
    rcases h2 with h2 | ⟨wz, h2, rfl⟩
    · exact ⟨⟨_, h2⟩, fun _ => h2⟩
    · exact ⟨⟨_, h2⟩, fun e => by cases e⟩
  obtain ⟨⟨wz, h4⟩, h5⟩ := h3
  rcases h4 with ⟨rfl, -, -⟩ | ⟨rfl, h6⟩
  · rcases h5 rfl with ⟨-, rfl, h6⟩ | ⟨h6, _⟩
    · dsimp only
      obtain rfl := hk rfl
      rw [h6, items_nil]
      by_cases hp : okParts st = true
      · rw [hp]; exact .inl ⟨rfl, by simp [hp], rfl⟩
      · rw [Bool.not_eq_true] at hp; rw [hp]; exact .inr ⟨.inr (by simp [hp]), rfl⟩
    · cases h6
  · right
    refine ⟨?_, by simp⟩
    rcases h6 with h6 | h6
    · exact .inl h6
    · right; dsimp only; rw [h6]; rfl

theorem pcmp_D {b b1 b2 b3 b4 b5 : Bool} {wy z1 z2 z3 z4 z5 : List Str} {ca ch cn : Int} {ck cv : Str} (h1 : D b (pnum 9 wy) (ca, z1) b1) (h2 : D b1 (pnum 9 z1) (ch, z2) b2) (h3 : D b2 (pnum most z2) (cn, z3) b3) (h4 : D b3 (pbytes z3) (ck, z4) b4) (h5 : D b4 (pbytes z4) (cv, z5) b5) :
    D b (pcmp wy) (⟨ck, ca, ch, cn, cv⟩, z5) b5 := by
  unfold pcmp
  refine D.bind h1 ?_
  dsimp only
  refine D.bind h2 ?_
  dsimp only
  refine D.bind h3 ?_
  dsimp only
  refine D.bind h4 ?_
  dsimp only
  refine D.bind h5 ?_
  exact D.some _ _
theorem pitem_if_D {b b' : Bool} {st : PartS} {y : Str} {wy z : List Str} {c : CmpS} (hy : y = wIf) (hp : st.part = 0) (h : D b (pcmp wy) (c, z) b') : D b (pitem st (y :: wy)) ({ st with cmps := st.cmps ++ [c] }, z) b' := by
  rw [hy, pitem_if _ _ hp]
  refine D.bind h ?_
  exact D.some _ _

set_option maxRecDepth 100000 in
set_option maxHeartbeats 3200000 in
theorem rreq_any (lb rb : Nat) (ws : List Str) (bad : Bool) (w : World) (h : RLineAt w lb rb ws bad) (hr : rb < w.heap.size) :
    Calls Tryz.prog 99 #[.pointer (some ⟨lb, 0, none⟩)] w (GotRReq lb rb w bad ws) := by
  have hlt := h.lt
  have hbm : (most : Int) = 999999999999999999 := rfl
  have h0 : RHead lb rb w.heap.size (w.alloc (.cells #[.int .i64 0, .int .u64 0, .int .u64 0, .bool false, .slice none 0 0, .slice none 0 0, .slice none 0 0, .int .u64 0] 59)) .zero ws bad ((w.alloc (.cells #[.int .i64 0, .int .u64 0, .int .u64 0, .bool false, .slice none 0 0, .slice none 0 0, .slice none 0 0, .int .u64 0] 59)).alloc (.cells #[.int .i64 0, .int .u64 0, .int .u64 0, .bool false, .slice none 0 0, .slice none 0 0, .slice none 0 0, .int .u64 0] 59)) := by
    have hk : Keep (fun _ => False) w (w.alloc (.cells #[.int .i64 0, .int .u64 0, .int .u64 0, .bool false, .slice none 0 0, .slice none 0 0, .slice none 0 0, .int .u64 0] 59)) := (Keep.refl _ w).alloc _
    have hk2 : Keep (fun _ => False) (w.alloc (.cells #[.int .i64 0, .int .u64 0, .int .u64 0, .bool false, .slice none 0 0, .slice none 0 0, .slice none 0 0, .int .u64 0] 59)) ((w.alloc (.cells #[.int .i64 0, .int .u64 0, .int .u64 0, .bool false, .slice none 0 0, .slice none 0 0, .slice none 0 0, .int .u64 0] 59)).alloc (.cells #[.int .i64 0, .int .u64 0, .int .u64 0, .bool false, .slice none 0 0, .slice none 0 0, .slice none 0 0, .int .u64 0] 59)) := (Keep.refl _ _).alloc _
    refine ⟨h.keep (hk.trans' hk2) (fun e => e) (fun e => e), hk2.at' (block_new _ _) (fun e => e), ?_, hk2.mono (fun _ _ e => e.elim)⟩
    have := block_new (w.alloc (.cells #[.int .i64 0, .int .u64 0, .int .u64 0, .bool false, .slice none 0 0, .slice none 0 0, .slice none 0 0, .int .u64 0] 59)) (.cells #[.int .i64 0, .int .u64 0, .int .u64 0, .bool false, .slice none 0 0, .slice none 0 0, .slice none 0 0, .int .u64 0] 59)
    rw [alloc_size] at this
    exact this
  have hkw : Keep (fun b => b = lb) w (w.alloc (.cells #[.int .i64 0, .int .u64 0, .int .u64 0, .bool false, .slice none 0 0, .slice none 0 0, .slice none 0 0, .int .u64 0] 59)) := (Keep.refl _ w).alloc _
  have hWs : (w.alloc (.cells #[.int .i64 0, .int .u64 0, .int .u64 0, .bool false, .slice none 0 0, .slice none 0 0, .slice none 0 0, .int .u64 0] 59)).heap.size ≤ w.heap.size + 1 := by rw [alloc_size]; omega
  obtain ⟨W, hW⟩ : ∃ W, W = w.alloc (.cells #[.int .i64 0, .int .u64 0, .int .u64 0, .bool false, .slice none 0 0, .slice none 0 0, .slice none 0 0, .int .u64 0] 59) := ⟨_, rfl⟩
  rw [← hW] at h0 hkw hWs
  have hwn : W.heap[w.heap.size]? = some (.cells #[.int .i64 0, .int .u64 0, .int .u64 0, .bool false, .slice none 0 0, .slice none 0 0, .slice none 0 0, .int .u64 0] 59 (0, 0)) := by rw [hW]; exact block_new _ _
  obtain ⟨W0, hW0⟩ : ∃ W0, W0 = W.alloc (.cells #[.int .i64 0, .int .u64 0, .int .u64 0, .bool false, .slice none 0 0, .slice none 0 0, .slice none 0 0, .int .u64 0] 59) := ⟨_, rfl⟩
  rw [← hW0] at h0
  have HW0 := Lib.hid (show W0 = (w.alloc (.cells #[.int .i64 0, .int .u64 0, .int .u64 0, .bool false, .slice none 0 0, .slice none 0 0, .slice none 0 0, .int .u64 0] 59)).alloc (.cells #[.int .i64 0, .int .u64 0, .int .u64 0, .bool false, .slice none 0 0, .slice none 0 0, .slice none 0 0, .int .u64 0] 59) by rw [hW0, hW])
  clear hW hW0
  obtain ⟨N, hN⟩ : ∃ N : Nat, N = w.heap.size := ⟨_, rfl⟩
  rw [← hN] at h0 hWs hwn
  have hlN : lb < N := by omega
  have hrN : rb < N := by omega
  have hwN : w.heap.size ≤ N := by omega
  have HN := Lib.hid hN
  have HWN := Lib.hid hwn
  clear hN h hwn
  have H0 := Lib.hid h0
  clear h0
  go_enter Tryz.func99, Tryz.ntmps99
  go_wp2_with fail
  rw [← HW0.out, ← HN.out]
  clear HW0
  refine (rword_any lb rb ws bad _ (H0.out).line).mono ?_
  rintro e w1 ⟨hk, x, ws1, b1, rfl, hl, hP1, hle1, hD⟩
  have H1 := Lib.hid ((H0.out).step hlN hk hl)
  have HD1 := Lib.hid (show D bad _ (x, ws1) b1 from hD)
  clear hk hl hD
  go_wp2_with fail
  refine (rkinds_walk w1).mono ?_
  rintro e w1' ⟨rfl, hkk⟩
  have H1' := Lib.hid (H1.out.step hlN (hkk.mono (fun _ _ e => e.elim)) (H1.out.line.keep hkk (fun e => e) (fun e => e)))
  clear hkk H1 H0 
  obtain ⟨cs, hcs⟩ : ∃ cs, cs = (kinds.map fun y => sv y).toArray := ⟨_, rfl⟩
  have hcs4 : cs.size = 4 := by rw [hcs]; rfl
  have hcs1 : cs.all (·.oneCell') = true := by rw [hcs]; simp [kinds, one_str]
  rw [← hcs]
  obtain ⟨K, hK⟩ : ∃ K, K = w1'.heap.size := ⟨_, rfl⟩
  have hst := run_st51 (w1'.alloc (.cells #[.string ⟨#[]⟩, .string ⟨#[]⟩, .string ⟨#[]⟩, .string ⟨#[]⟩] 51)) K 0 cs (there_of_block (by rw [hK]; exact block_new _ _) (by decide)) hcs4 hcs1
  rw [hK] at hst
  obtain ⟨V, hV⟩ : ∃ V, V = (w1'.alloc (.cells #[.string ⟨#[]⟩, .string ⟨#[]⟩, .string ⟨#[]⟩, .string ⟨#[]⟩] 51)).setCells w1'.heap.size 0 cs.toList := ⟨_, rfl⟩
  have hkV : Keep (fun _ => False) w1' V := by rw [hV]; exact ((Keep.refl _ w1').alloc _).setCells _ _ _ (.inl (Nat.le_refl _))
  have hbV : V.heap[K]? = some (.cells cs 51 (0, 0)) := by
    rw [hV, hK]
    have := block_setCells_all (block_new w1' (.cells #[.string ⟨#[]⟩, .string ⟨#[]⟩, .string ⟨#[]⟩, .string ⟨#[]⟩] 51 (0, 0))) cs.toList (by simp [hcs4])
    rwa [Array.toArray_toList] at this
  have H2 := H1'.out.step hlN (hkV.mono (fun _ _ e => e.elim)) (H1'.out.line.keep hkV (fun e => e) (fun e => e))
  have hKN : N + 1 < K := by have := lt_of_block H1'.out.res; omega
  have H3 := Lib.hid (H2.put (r' := ⟨-1, 0, 0, false, [], [], [], 0⟩) hlN hrN hWs 0 (.int .i64 (-1)) rfl)
  have hc0 : V.cell? ⟨N + 1, 0, none⟩ = some (.int .i64 0) := cell_of_block H2.res 0
  have hf0 := free_of_block H2.res 0
  have hbV3 : (V.setCell ⟨N + 1, 0, none⟩ (.int .i64 (-1))).heap[K]? = some (.cells cs 51 (0, 0)) := ((Keep.refl (fun b => b = N + 1) V).setCell ⟨N + 1, 0, none⟩ (.int .i64 (-1)) (.inr rfl)).at' hbV (by omega)
  rw [hV] at hc0 hf0
  obtain ⟨V3, hV3⟩ : ∃ V3, V3 = V.setCell ⟨N + 1, 0, none⟩ (.int .i64 (-1)) := ⟨_, rfl⟩
  rw [← hV3] at H3 hbV3
  have HV3 := Lib.hid (show V3 = ((w1'.alloc (.cells #[.string ⟨#[]⟩, .string ⟨#[]⟩, .string ⟨#[]⟩, .string ⟨#[]⟩] 51)).setCells w1'.heap.size 0 cs.toList).setCell ⟨N + 1, 0, none⟩ (.int .i64 (-1)) by rw [hV3, hV])
  have HK := Lib.hid hK
  have HCS := Lib.hid hcs
  have HBV3 := Lib.hid hbV3
  clear hcs hK hV hV3 hbV H2 hkV hbV3 H1'
  go_wp2_with fail
  rw [← HV3.out, ← HK.out]
  clear hst hc0 hf0 HV3
  go_loopw [6] (fun v6 wr => ∃ k : Nat, v6 = .int .i64 k ∧ k ≤ 4 ∧ RHead lb rb N W ⟨kAt kinds x k, 0, 0, false, [], [], [], 0⟩ ws1 b1 wr ∧ wr.heap[K]? = some (.cells cs 51 (0, 0))) (fun v6 _ => (4 - intOf v6).toNat)
  case atStart => exact ⟨0, rfl, by omega, H3.out, HBV3.out⟩
  case round =>
    obtain ⟨k, rfl, hk4, hh, hkc⟩ := hrel
    have HH := Lib.hid hh
    have HKC := Lib.hid hkc
    have hh := HH.out
    by_cases hk : k < 4
    · obtain ⟨y, hy⟩ : ∃ y, y = kinds.getD k [] := ⟨_, rfl⟩
      have hcy : wr.cell? ⟨K, k, none⟩ = some (sv y) := by
        rw [cell_of_block HKC.out k, HCS.out, hy]
        simp [List.getElem?_eq_getElem (show k < kinds.length from hk), List.getD_eq_getElem?_getD]
      have hki : (k : Int) < 4 := by omega
      have hka : kAt kinds x (k + 1) = if y = x then (k : Int) else kAt kinds x k := by rw [hy]; rfl
      have HKA := Lib.hid hka
      clear hy hka hkc
      obtain ⟨r, hr0⟩ : ∃ r, r = kAt kinds x k := ⟨_, rfl⟩
      rw [← hr0] at HH hh HKA
      have hc1 : wr.cell? ⟨N + 1, 0, none⟩ = some (.int .i64 r) := cell_of_block hh.res 0
      have hf1 := free_of_block hh.res 0
      clear hr0 hh
      by_cases hxy : (y == x) = true
      · go_wp2_with fail
        have hh := (HH.out.put (r' := ⟨k, 0, 0, false, [], [], [], 0⟩) hlN hrN hWs 0 (.int .i64 k) rfl)
        have hkc := ((Keep.refl (fun b => b = N + 1) wr).setCell ⟨N + 1, 0, none⟩ (.int .i64 k) (.inr rfl)).at' HKC.out (by omega)
        refine ⟨⟨k + 1, by simp, by omega, ?_, hkc⟩, by simp [intOf]; omega⟩
        rw [HKA.out, if_pos (by simpa using hxy)]
        exact hh
      · rw [Bool.not_eq_true] at hxy
        go_wp2_with fail
        refine ⟨⟨k + 1, by simp, by omega, ?_, HKC.out⟩, by simp [intOf]; omega⟩
        rw [HKA.out, if_neg (by simpa using hxy)]
        exact HH.out
    · have hki : ¬ (k : Int) < 4 := by omega
      obtain rfl : k = 4 := by omega
      rw [kAt_kinds] at HH hh
      clear HKC HBV3 H3 HCS hkc
      obtain ⟨kk, hkk⟩ : ∃ kk, kk = idxOf kinds x := ⟨_, rfl⟩
      rw [← hkk] at HH hh
      have HKK := Lib.hid hkk
      have hcb := hh.line.cellBad
      have hfb := hh.line.free 1
      have hc1 : wr.cell? ⟨N + 1, 0, none⟩ = some (.int .i64 kk) := cell_of_block hh.res 0
      have HM := Lib.hid (fun b => hh.mark hlN b)
      clear hh hkk
      go_upto_region 10 with fail
      go_cut [6] from 25 to 36 (fun s6 wx => RHead lb rb N W ⟨kk, 0, 0, false, [], [], [], 0⟩ ws1 (b1 || decide (kk < 0)) wx)
      case first =>
        cases b1
        · by_cases hneg : kk < 0
          · go_wp2_with fail
            go_meet
            rw [decide_eq_true hneg]
            exact HM.out _
          · go_wp2_with fail
            go_meet
            rw [decide_eq_false (by omega)]
            exact HM.out _
        · go_wp2_with fail
          go_meet
          rw [Bool.true_or]
          exact HM.out _
      case rest =>
        have HC := Lib.hid hcut
        clear hcut hcb hfb hc1 HH HM hk4 hk hki hcs4 hcs1
        obtain ⟨b2, hb2⟩ : ∃ b2, b2 = (b1 || decide (kk < 0)) := ⟨_, rfl⟩
        rw [← hb2] at HC
        have hkd : ∃ kd : Nat, (b2 = false → kk = kd) ∧ D b1 (kindOf kinds x) kd b2 := by
          rw [hb2]
          have h1 := HKK.out
          unfold idxOf at h1
          rcases hq : kindOf kinds x with _ | kd
          · rw [hq] at h1
            dsimp only at h1
            subst h1
            exact ⟨0, by simp, .inr ⟨.inr rfl, by simp⟩⟩
          · rw [hq] at h1
            dsimp only at h1
            subst h1
            refine ⟨kd, fun _ => rfl, ?_⟩
            rw [decide_eq_false (by omega), Bool.or_false]
            exact D.some _ _
        obtain ⟨kd, hkk2, hD2⟩ := hkd
        have HD2 := Lib.hid hD2
        have HKD := Lib.hid hkk2
        clear hb2 hkk2 hD2 HKK
        go_wp2_with fail
        refine (rnum_any most (by decide) (by decide) lb rb ws1 b2 _ (HC.out).line).mono ?_
        rintro e w3 ⟨hk, cl, ws3, b3, rfl, hl, hP3, hle3, hD⟩
        have hh := (HC.out).step hlN hk hl
        have hc := cell_of_block hh.res 1
        have hf := free_of_block hh.res 1
        have hc : w3.cell? ⟨N + 1, 1, none⟩ = some (.int .u64 0) := hc
        have H3 := Lib.hid (hh.put (r' := ⟨kk, cl, 0, false, [], [], [], 0⟩) hlN hrN hWs 1 (u64w cl) rfl)
        have HD3 := Lib.hid (show D b2 _ (cl, ws3) b3 from hD)
        clear hk hl hD hh
        unfold u64w
        rw [hbm] at hP3
        go_wp2_with fail
        clear hc hf
        refine (rnum_any most (by decide) (by decide) lb rb ws3 b3 _ (H3.out).line).mono ?_
        rintro e w4 ⟨hk, nm, ws4, b4, rfl, hl, hP4, hle4, hD⟩
        have hh := (H3.out).step hlN hk hl
        have hc := cell_of_block hh.res 2
        have hf := free_of_block hh.res 2
        have hc : w4.cell? ⟨N + 1, 2, none⟩ = some (.int .u64 0) := hc
        have H4 := Lib.hid (hh.put (r' := ⟨kk, cl, nm, false, [], [], [], 0⟩) hlN hrN hWs 2 (u64w nm) rfl)
        have HD4 := Lib.hid (show D b3 _ (nm, ws4) b4 from hD)
        clear hk hl hD hh
        unfold u64w
        rw [hbm] at hP4
        go_wp2_with fail
        clear hc hf
        refine (rmarks_any lb rb lS ws4 b4 _ (H4.out).line (by have := lt_of_block H4.out.res; omega) (by decide)).mono ?_
        rintro e w5 ⟨hk, m, ws5, b5, rfl, hl, hP5, hle5, hD⟩
        have hh := (H4.out).step hlN hk hl
        have hc : w5.cell? ⟨N + 1, 3, none⟩ = some (.bool false) := cell_of_block hh.res 3
        have hf := free_of_block hh.res 3
        have H5 := Lib.hid (hh.put (r' := ⟨kk, cl, nm, (at' m 0), [], [], [], 0⟩) hlN hrN hWs 3 (.bool (at' m 0)) rfl)
        have HD5 := Lib.hid (show D b4 _ (m, ws5) b5 from hD)
        have i0 := flags_index0 m
        clear hk hl hD hh
        go_wp2_with fail
        clear hc hf i0
        refine (rnum_any most (by decide) (by decide) lb rb ws5 b5 _ (H5.out).line).mono ?_
        rintro e w6 ⟨hk, rv, ws6, b6, rfl, hl, hP6, hle6, hD⟩
        have hh := (H5.out).step hlN hk hl
        have hc := cell_of_block hh.res 7
        have hf := free_of_block hh.res 7
        have hc : w6.cell? ⟨N + 1, 7, none⟩ = some (.int .u64 0) := hc
        have H6 := Lib.hid (hh.put (r' := ⟨kk, cl, nm, (at' m 0), [], [], [], rv⟩) hlN hrN hWs 7 (u64w rv) rfl)
        have HD6 := Lib.hid (show D b5 _ (rv, ws6) b6 from hD)
        clear hk hl hD hh
        unfold u64w
        rw [hbm] at hP6
        go_wp2_with fail
        clear hc hf
        have hle : ws6.length ≤ ws.length := by omega
        have hws6 := H6.out.line.bound
        have hD : D bad (phead ws) ((kd, cl, nm, at' m 0, rv), ws6) b6 := HD1.out.bind (HD2.out.bind (HD3.out.bind (HD4.out.bind (HD5.out.bind (HD6.out.bind (D.some _ _))))))
        have HKD2 := Lib.hid (show b6 = false → kk = kd from fun e => HKD.out (HD3.out.back (HD4.out.back (HD5.out.back (HD6.out.back e)))))
        have HDD := Lib.hid hD
        clear hD HD1 HD2 HD3 HD4 HD5 HD6 H3 H4 H5 HC HK hle1 hle3 hle4 hle5 hle6 hP1 hP3 hP4 hP5 hP6
        have hm0 : RReqMem lb rb (N + 1) W ⟨kk, cl, nm, at' m 0, [], [], [], rv⟩ ⟨0, [], [], []⟩ ws6 b6 (.slice none 0 0) (.slice none 0 0) (.slice none 0 0) _ := ⟨H6.out.line, H6.out.res, World.ownsRow_nil _ _ _ _, World.ownsRow_nil _ _ _ _, World.ownsRow_nil _ _ _ _, .inl rfl, H6.out.keep⟩
        have HM0 := Lib.hid hm0
        clear hm0 H6 HKD
        obtain ⟨B, hB⟩ : ∃ B, B = N + 1 := ⟨_, rfl⟩
        rw [← hB] at HM0 hWs hKN
        rw [← hB]
        have hBN : N < B := by omega
        have hltB : lb < B := by omega
        have hrB : rb < B := by omega
        have HB := Lib.hid hB
        have HKW := Lib.hid hkw
        clear hB hkw hbm
        unfold sv
        go_loopw [7] (fun v7 wr => ∃ (st : PartS) (wz : List Str) (bz : Bool) (vc vt ve : Value), v7 = .int .i64 st.part ∧ st.part ≤ 2 ∧ RReqMem lb rb B W ⟨kk, cl, nm, at' m 0, [], [], [], rv⟩ st wz bz vc vt ve wr ∧ RAt b6 ws6 st wz bz ∧ st.cmps.length + st.thn.length + st.els.length + wz.length ≤ ws6.length) (fun _ wr => lineLen wr lb)
        case atStart => exact ⟨⟨0, [], [], []⟩, ws6, b6, .slice none 0 0, .slice none 0 0, .slice none 0 0, rfl, by decide, HM0.out, by cases b6; exact .inl ⟨rfl, rfl, rfl⟩; exact .inr ⟨rfl, .inl rfl⟩, by simp⟩
        case round =>
          obtain ⟨st, wz, bz, vc, vt, ve, rfl, hpt, hmem, hrat, hsum⟩ := hrel
          have HMEM := Lib.hid hmem
          have HRAT := Lib.hid hrat
          have HSUM := Lib.hid hsum
          have hlen := hmem.line.len
          have HLEN := Lib.hid hlen
          have hlb6 := hmem.line.bound
          clear hmem hrat hsum hlen HM0
          cases wz with
          | nil =>
            obtain ⟨off, cc, hl1, hl2, hl3, -⟩ := HMEM.out.line
            have hcl : wr.cell? ⟨lb, 0, none⟩ = _ := cell_of_block hl1 0
            have hcb : wr.cell? ⟨lb, 1, none⟩ = some (.bool bz) := cell_of_block hl1 1
            simp only [List.getElem?_toArray, List.getElem?_cons_zero, List.length_cons, List.length_nil] at hcl
            clear hl1 hl2 hl3
            obtain ⟨a1, c1, rfl, -⟩ := ownsRow_len HMEM.out.cmps
            obtain ⟨a2, c2, rfl, -⟩ := ownsRow_len HMEM.out.thn
            obtain ⟨a3, c3, rfl, -⟩ := ownsRow_len HMEM.out.els
            generalize hn1 : st.cmps.length = n1 at *
            generalize hn2 : st.thn.length = n2 at *
            generalize hn3 : st.els.length = n3 at *
            have hc4 : wr.cell? ⟨B, 4, none⟩ = some (.slice a1 n1 c1) := cell_of_block HMEM.out.res 4
            have hc5 : wr.cell? ⟨B, 5, none⟩ = some (.slice a2 n2 c2) := cell_of_block HMEM.out.res 5
            have hc6 : wr.cell? ⟨B, 6, none⟩ = some (.slice a3 n3 c3) := cell_of_block HMEM.out.res 6
            have hfb := HMEM.out.line.free 1
            have HOK := Lib.hid (show okParts st = (decide (n1 ≤ 8) && decide (n2 ≤ 10) && decide (n3 ≤ 10)) by rw [← hn1, ← hn2, ← hn3]; rfl)
            clear hn1 hn2 hn3
            go_upto_region 29 with fail
            go_cut [7] from 119 to 143 (fun _ wx => RReqMem lb rb B W ⟨kk, cl, nm, at' m 0, [], [], [], rv⟩ st [] (bz || !okParts st) (.slice a1 n1 c1) (.slice a2 n2 c2) (.slice a3 n3 c3) wx)
            case first =>
              cases bz
              · by_cases hq1 : (n1 : Int) > 8
                · go_wp2_with fail
                  go_meet
                  rw [HOK.out, show (false || !(decide (n1 ≤ 8) && decide (n2 ≤ 10) && decide (n3 ≤ 10))) = true by simp; omega]
                  exact HMEM.out.mark hltB _
                · by_cases hq2 : (n2 : Int) > 10
                  · go_wp2_with fail
                    go_meet
                    rw [HOK.out, show (false || !(decide (n1 ≤ 8) && decide (n2 ≤ 10) && decide (n3 ≤ 10))) = true by simp; omega]
                    exact HMEM.out.mark hltB _
                  · by_cases hq3 : (n3 : Int) > 10
                    · go_wp2_with fail
                      go_meet
                      rw [HOK.out, show (false || !(decide (n1 ≤ 8) && decide (n2 ≤ 10) && decide (n3 ≤ 10))) = true by simp; omega]
                      exact HMEM.out.mark hltB _
                    · go_wp2_with fail
                      go_meet
                      rw [HOK.out, show (false || !(decide (n1 ≤ 8) && decide (n2 ≤ 10) && decide (n3 ≤ 10))) = false by simp; omega]
                      exact HMEM.out.mark hltB _
              · go_wp2_with fail
                go_meet
                rw [Bool.true_or]
                exact HMEM.out.mark hltB _
            case rest =>
              have HMC := Lib.hid hcut
              clear hcut hcl hcb hc4 hc5 hc6 hfb HMEM
              have hb4 := HMC.out.res
              have hbn := HMC.out.keep.at' HWN.out (by omega)
              obtain ⟨cs, hcs⟩ : ∃ cs, cs = reqCells ⟨kk, cl, nm, at' m 0, [], [], [], rv⟩ (.slice a1 n1 c1) (.slice a2 n2 c2) (.slice a3 n3 c3) := ⟨_, rfl⟩
              have hs : cs.size = 8 := by rw [hcs]; rfl
              have h1 : cs.all (·.oneCell') = true := by rw [hcs]; simp [reqCells, one_int, one_bool, one_slice]
              rw [← hcs] at hb4
              have hld := run_ld59 wc B 0 cs hs (range_of_block hb4)
              have hst := run_st59 wc N 0 cs (there_of_block hbn (n := 8) (by decide)) hs h1
              have HBN := Lib.hid hbn
              have HCS := Lib.hid hcs
              clear hb4 hcs hbn
              go_wp2_with fail
              have hb3 := block_setCells_all HBN.out cs.toList (by simp [hs])
              rw [Array.toArray_toList] at hb3
              (try simp only [Exit.inBlock, Exit.then])
              refine bodyPost_ret (v := .agg cs) ?_ rfl ?_
              · exact results_block (n := 8) rfl Tryz.underlying59 rfl info59 _ _ N cs 59 (0, 0) rfl hs hb3
              have hkS : Keep (fun b => b = N) wc (wc.setCells N 0 cs.toList) := (Keep.refl (fun b => b = N) wc).setCells _ _ _ (.inr rfl)
              have hfar : ∀ {v : Value} {e size n : Nat} {xs : List Value}, wc.ownsRow (B + 1) e size v n xs → (wc.setCells N 0 cs.toList).ownsRow 0 e size v n xs := fun h => ownsRow_base (ownsRow_keep h hkS (fun g cur hg _ e => by have := (h.lt g hg).1; omega)) (Nat.zero_le _)
              refine ⟨(HKW.out.trans' HMC.out.keep).setCells _ _ _ (.inl hwN), ⟨kk, cl, nm, at' m 0, st.cmps, st.thn, st.els, rv⟩, .slice a1 n1 c1, .slice a2 n2 c2, .slice a3 n3 c3, [], _, by rw [HCS.out]; rfl, ⟨hfar HMC.out.cmps, hfar HMC.out.thn, hfar HMC.out.els⟩, HMC.out.line.keep hkS (fun e => by omega) (fun e => by omega), ?_, D.of_items HKD2.out HDD.out (.inl HRAT.out), fun _ => rfl⟩
              simp only [List.length_nil]; omega
          | cons y wy =>
            cases bz
            · obtain ⟨off, cc, hl1, hl2, hl3, -⟩ := HMEM.out.line
              have hcl : wr.cell? ⟨lb, 0, none⟩ = _ := cell_of_block hl1 0
              have hcb : wr.cell? ⟨lb, 1, none⟩ = some (.bool false) := cell_of_block hl1 1
              simp only [List.getElem?_toArray, List.getElem?_cons_zero, List.length_cons] at hcl
              have hgt : ((wy.length : Int) + 1) > 0 := by omega
              clear hl1 hl2 hl3
              go_wp2_with fail
              refine (rword_some lb rb y wy false wr HMEM.out.line).mono ?_
              rintro e w7 ⟨rfl, hk, hl⟩
              have HM7 := Lib.hid (HMEM.out.step hltB hk hl)
              clear hk hl hcl hcb HMEM hgt
              unfold sv
              by_cases hy0 : y = wIf
              · have hy0' : (y == [105, 102]) = true := by rw [hy0]; rfl
                have hy1' : (y == [116, 104, 101, 110]) = false := by rw [hy0]; rfl
                have hy2' : (y == [101, 108, 115, 101]) = false := by rw [hy0]; rfl
                have HY := Lib.hid hy0
                clear hy0
                by_cases hp : st.part = 0
                · have hpz : ((st.part : Int) == 0) = true := by simp [hp]
                  go_wp2_with fail
                  refine (rnum_any 9 (by decide) (by decide) lb rb wy false _ (HM7.out).line).mono ?_
                  rintro e q1 ⟨hk, ca, z1, bb1, rfl, hl, hQ1, hle1, hD⟩
                  have HQ1 := Lib.hid ((HM7.out).step hltB hk hl)
                  have HD1 := Lib.hid (show D false _ (ca, z1) bb1 from hD)
                  clear hk hl hD
                  have hwr1 : IntKind.i64.wrap ca = ca := IntWalk.i64_in _ (by omega)
                  unfold u64w
                  go_wp2_with fail
                  refine (rnum_any 9 (by decide) (by decide) lb rb z1 bb1 _ (HQ1.out).line).mono ?_
                  rintro e q2 ⟨hk, ch, z2, bb2, rfl, hl, hQ2, hle2, hD⟩
                  have HQ2 := Lib.hid ((HQ1.out).step hltB hk hl)
                  have HD2 := Lib.hid (show D bb1 _ (ch, z2) bb2 from hD)
                  clear hk hl hD
                  have hwr2 : IntKind.i64.wrap ch = ch := IntWalk.i64_in _ (by omega)
                  unfold u64w
                  go_wp2_with fail
                  refine (rnum_any most (by decide) (by decide) lb rb z2 bb2 _ (HQ2.out).line).mono ?_
                  rintro e q3 ⟨hk, cn, z3, bb3, rfl, hl, hQ3, hle3, hD⟩
                  have HQ3 := Lib.hid ((HQ2.out).step hltB hk hl)
                  have HD3 := Lib.hid (show D bb2 _ (cn, z3) bb3 from hD)
                  clear hk hl hD
                  unfold u64w
                  go_wp2_with fail
                  refine (rbytes_any lb rb z3 bb3 _ (HQ3.out).line).mono ?_
                  rintro e q4 ⟨hk, ck, z4, bb4, rfl, hl, hQ4, hle4, hD⟩
                  have HQ4 := Lib.hid ((HQ3.out).step hltB hk hl)
                  have HD4 := Lib.hid (show D bb3 _ (ck, z4) bb4 from hD)
                  clear hk hl hD
                  obtain ⟨V, hV, hst, hbV, hkV⟩ := new_block65 q4 ⟨ck, ca, ch, cn, []⟩
                  have hszB : B < q4.heap.size := lt_of_block HQ4.out.res
                  obtain ⟨C, hC⟩ : ∃ C, C = q4.heap.size := ⟨_, rfl⟩
                  rw [← hC] at hst hbV hszB
                  have hlV := HQ4.out.line.keep hkV (fun e => e) (fun e => e)
                  have HV := Lib.hid hV
                  have HC := Lib.hid hC
                  have HBV := Lib.hid hbV
                  have HLV := Lib.hid hlV
                  have HKV := Lib.hid hkV
                  clear hV hC hbV hlV hkV
                  unfold cmpCells at hst
                  rw [HC.out] at hst
                  go_wp2_with fail
                  rw [← HC.out]
                  clear hst hwr1 hwr2
                  refine (rbytes_any lb rb z4 bb4 V HLV.out).mono ?_
                  rintro e q5 ⟨hk5, cv, z5, bb5, rfl, hl5, hQ5, hle5, hD⟩
                  have HD5 := Lib.hid (show D bb4 _ (cv, z5) bb5 from hD)
                  have hb5 := hk5.at' HBV.out (by omega)
                  have hc5 : q5.cell? ⟨C, 4, none⟩ = some (.string ⟨#[]⟩) := cell_of_block hb5 4
                  have hf5 := free_of_block hb5 4
                  have hkS : Keep (fun b => b = C) q5 (q5.setCell ⟨C, 4, none⟩ (sv cv)) := (Keep.refl (fun b => b = C) q5).setCell _ _ (.inr rfl)
                  have hkW : Keep (fun b => b = lb) q4 (q5.setCell ⟨C, 4, none⟩ (sv cv)) := Keep.setCell (Keep.trans' (Keep.mono HKV.out (fun _ _ e => e.elim)) hk5) _ _ (.inl (by rw [← HC.out]; exact Nat.le_refl _))
                  have hb6 : (q5.setCell ⟨C, 4, none⟩ (sv cv)).heap[C]? = some (.cells (cmpCells ⟨ck, ca, ch, cn, cv⟩) 65 (0, 0)) := block_setCell hb5 4 _
                  have hm6 := HQ4.out.step hltB hkW (hl5.keep hkS (by omega) (by omega))
                  obtain ⟨Y, hY⟩ : ∃ Y, Y = q5.setCell ⟨C, 4, none⟩ (sv cv) := ⟨_, rfl⟩
                  rw [← hY] at hb6 hm6
                  have HYY := Lib.hid (show Y = q5.setCell ⟨C, 4, none⟩ (.string ⟨cv.toArray⟩) from hY)
                  have HM6 := Lib.hid hm6
                  have HB6 := Lib.hid hb6
                  clear hk5 hl5 hD hb5 hkS hkW hb6 hm6 hY HBV HLV HKV HQ4 HQ3 HQ2 HQ1 HV HC HM7
                  unfold sv
                  go_upto_region 22 with fail
                  rw [← HYY.out]
                  have hld := run_ld65 Y C 0 (cmpCells ⟨ck, ca, ch, cn, cv⟩) rfl (range_of_block HB6.out)
                  unfold cmpCells sv at hld
                  have hc4 : Y.cell? ⟨B, 4, none⟩ = some vc := cell_of_block HM6.out.res 4
                  obtain ⟨v', w8, hap, hc8, hf8, hm8⟩ := HM6.out.addCmp hltB hWs hrB ⟨ck, ca, ch, cn, cv⟩ (by have h9 := HSUM.out; simp only [List.length_cons] at h9; omega)
                  obtain ⟨pa, pn, pc, hve⟩ : ∃ a n c, v' = .slice a n c := let ⟨a, c, h, _⟩ := ownsRow_len hm8.cmps; ⟨a, _, c, h⟩
                  subst hve
                  unfold cmpCells sv at hap
                  have HAP := Lib.hid hap
                  have HM8 := Lib.hid hm8
                  clear hm8 hap HB6 HM6 HYY hc5 hf5
                  go_wp2_with (at_builtin; refine wpList_append_run rfl (.tmp 90) (.tmp 92) 56 rfl rfl (by exact HAP.out) ?_)
                  have hDp : D false (pcmp wy) (⟨ck, ca, ch, cn, cv⟩, z5) bb5 := pcmp_D HD1.out HD2.out HD3.out HD4.out HD5.out
                  refine ⟨⟨{ st with cmps := st.cmps ++ [⟨ck, ca, ch, cn, cv⟩] }, _, _, _, _, _, (congrArg (fun n : Nat => Value.int .i64 (n : Int)) hp.symm), hpt, HM8.out, HRAT.out.step (pitem_if_D HY.out hp hDp), ?_⟩, ?_⟩
                  · have h9 := HSUM.out
                    simp only [List.length_cons, List.length_append, List.length_nil] at h9 ⊢
                    omega
                  · rw [HM8.out.line.len, HLEN.out, List.length_cons]
                    omega
                · have hpz : ((st.part : Int) == 0) = false := by simp; omega
                  have hcb := HM7.out.line.cellBad
                  have hfb := HM7.out.line.free 1
                  have HM8 := Lib.hid (HM7.out.mark hltB true)
                  go_wp2_with fail
                  refine ⟨⟨_, _, _, _, _, _, rfl, hpt, HM8.out, HRAT.out.step (by rw [HY.out, pitem_if_no _ _ hp]; exact D.none _ _), ?_⟩, ?_⟩
                  · have h9 := HSUM.out
                    simp only [List.length_cons, List.length_append, List.length_nil] at h9 ⊢
                    omega
                  · rw [HM8.out.line.len, HLEN.out, List.length_cons]
                    omega
              by_cases hy1 : y = wThen
              · have hy0' : (y == [105, 102]) = false := by rw [hy1]; rfl
                have hy1' : (y == [116, 104, 101, 110]) = true := by rw [hy1]; rfl
                have hy2' : (y == [101, 108, 115, 101]) = false := by rw [hy1]; rfl
                have HY := Lib.hid hy1
                clear hy1 hy0
                by_cases hp : st.part ≤ 1
                · have hpz : (st.part : Int) ≤ 1 := by omega
                  go_wp2_with fail
                  have hmD := HM7.out.drew hltB
                  refine wp_region_held_drew (S := fun _ => True) (by kernel_rfl) trivial (fun hHeld => ?_)
                  generalize w7.drew = V0 at *
                  refine wpAnyH_take (i := 0) (v := ?_) rfl (by kernel_rfl) (by kernel_rfl) (by kernel_rfl) (fun _ _ _ h => h) (Or.inl ⟨by rfl, ?_⟩) (by assumption) ?_
                  rotate_left
                  · (intro w hSw; (try dsimp only at hSw); go_simp; try with_reducible rfl)
                  try simp only [Act.put, List.setIfInBounds_toArray, List.set_cons_zero, List.set_cons_succ]
                  refine wpAnyH_take (i := 2) (v := ?_) rfl (by kernel_rfl) (by kernel_rfl) (by kernel_rfl) (fun _ _ _ h => h) (Or.inl ⟨by rfl, ?_⟩) (by assumption) ?_
                  rotate_left
                  · (intro w hSw; (try dsimp only at hSw); go_simp; try with_reducible rfl)
                  try simp only [Act.put, List.setIfInBounds_toArray, List.set_cons_zero, List.set_cons_succ]
                  refine wpAnyH_ready (rs := [1, 3]) (by kernel_rfl) (by simp) ?_
                  refine AllReadyH.cons (o := ?_) (by simp only [List.getElem?_toArray, List.getElem?_cons_succ, List.getElem?_cons_zero]; exact rfl) (fun K hK => ?_) (AllReadyH.cons (o := ?_) (by simp only [List.getElem?_toArray, List.getElem?_cons_succ, List.getElem?_cons_zero]; exact rfl) (fun K hK => ?_) AllReadyH.nil)
                  · have hcl : V0.cell? ⟨B, 5, none⟩ = some vt := cell_of_block hmD.res 5
                    go_simp
                    refine hK.out _ _ trivial (fun hHeld => ?_)
                    clear hK K
                    try simp only [Act.put, List.setIfInBounds_toArray, List.set_cons_zero, List.set_cons_succ]
                    clear hcl
                    refine wpAnyH_ready (rs := [3]) (by kernel_rfl) (by simp) ?_
                    refine AllReadyH.cons (o := ?_) (by simp only [List.getElem?_toArray, List.getElem?_cons_succ, List.getElem?_cons_zero]; exact rfl) (fun K hK => ?_) AllReadyH.nil
                    go_simp
                    refine (rop_any lb rb wy false V0 hmD.line (by have := lt_of_block hmD.res; omega)).mono ?_
                    rintro e q1 ⟨hkq, x, z1, bz, rfl, hlq, -, hle1, hD⟩
                    have hm_1 := hmD.step hltB hkq hlq
                    have HD1 := Lib.hid (show D false (pop wy) (x, z1) bz from hD)
                    clear hkq hlq hD
                    refine hK.out _ _ trivial (fun hHeld => ?_)
                    clear hK K
                    try simp only [Act.put, List.setIfInBounds_toArray, List.set_cons_zero, List.set_cons_succ]
                    obtain ⟨v', w8, hap, hc8, hf8, hm8⟩ := hm_1.addThn hltB hWs hrB x (by have h9 := HSUM.out; simp only [List.length_cons] at h9; omega)
                    obtain ⟨pa, pn, pc, hve⟩ : ∃ a n c, v' = .slice a n c := let ⟨a, c, h, _⟩ := ownsRow_len hm8.thn; ⟨a, _, c, h⟩
                    subst hve
                    have HM8 := Lib.hid hm8
                    clear hm8
                    refine wpAnyH_ready (rs := [4]) (by kernel_rfl) (by simp) ?_
                    refine AllReadyH.cons (o := ?_) (by simp only [List.getElem?_toArray, List.getElem?_cons_succ, List.getElem?_cons_zero]; exact rfl) (fun K hK => ?_) AllReadyH.nil
                    rw [if_pos (by rfl)]
                    refine wp_bs_run (.tmp 105) 57 rfl (by exact run_bs57 x _) ?_
                    refine hK.out _ _ trivial (fun hHeld => ?_)
                    clear hK K
                    try simp only [Act.put, List.setIfInBounds_toArray, List.set_cons_zero, List.set_cons_succ]
                    refine wpAnyH_ready (rs := [5]) (by kernel_rfl) (by simp) ?_
                    refine AllReadyH.cons (o := ?_) (by simp only [List.getElem?_toArray, List.getElem?_cons_succ, List.getElem?_cons_zero]; exact rfl) (fun K hK => ?_) AllReadyH.nil
                    rw [if_pos (by rfl)]
                    refine wp_append_run (.tmp 103) (.tmp 106) 57 rfl rfl (by exact hap) ?_
                    refine hK.out _ _ trivial (fun hHeld => ?_)
                    clear hK K
                    try simp only [Act.put, List.setIfInBounds_toArray, List.set_cons_zero, List.set_cons_succ]
                    refine wpAnyH_take (i := 6) (v := ?_) rfl (by kernel_rfl) (by kernel_rfl) (by kernel_rfl) (fun _ _ _ h => h) (Or.inl ⟨by rfl, ?_⟩) (by assumption) ?_
                    rotate_left
                    · (intro w hSw; (try dsimp only at hSw); go_simp; try with_reducible rfl)
                    try simp only [Act.put, List.setIfInBounds_toArray, List.set_cons_zero, List.set_cons_succ]
                    refine wpAnyH_ready (rs := [7]) (by kernel_rfl) (by simp) ?_
                    refine AllReadyH.cons (o := ?_) (by simp only [List.getElem?_toArray, List.getElem?_cons_succ, List.getElem?_cons_zero]; exact rfl) (fun K hK => ?_) AllReadyH.nil
                    go_simp
                    refine hK.out _ _ trivial (fun hHeld => ?_)
                    clear hK K
                    try simp only [Act.put, List.setIfInBounds_toArray, List.set_cons_zero, List.set_cons_succ]
                    refine wpAnyH_done (by kernel_rfl) ?_ _
                    go_wp2_with fail
                    refine ⟨⟨_, _, _, _, _, _, rfl, Nat.le_succ 1, HM8.out, HRAT.out.step (by rw [HY.out, pitem_then _ _ hp]; exact D.bind HD1.out (D.some _ _)), ?_⟩, ?_⟩
                    · have h9 := HSUM.out
                      simp only [List.length_cons, List.length_append, List.length_nil] at h9 ⊢
                      omega
                    · rw [HM8.out.line.len, HLEN.out, List.length_cons]
                      omega
                  · go_simp
                    refine (rop_any lb rb wy false V0 hmD.line (by have := lt_of_block hmD.res; omega)).mono ?_
                    rintro e q1 ⟨hkq, x, z1, bz, rfl, hlq, -, hle1, hD⟩
                    have hm_1 := hmD.step hltB hkq hlq
                    have HD1 := Lib.hid (show D false (pop wy) (x, z1) bz from hD)
                    clear hkq hlq hD
                    refine hK.out _ _ trivial (fun hHeld => ?_)
                    clear hK K
                    try simp only [Act.put, List.setIfInBounds_toArray, List.set_cons_zero, List.set_cons_succ]
                    obtain ⟨v', w8, hap, hc8, hf8, hm8⟩ := hm_1.addThn hltB hWs hrB x (by have h9 := HSUM.out; simp only [List.length_cons] at h9; omega)
                    obtain ⟨pa, pn, pc, hve⟩ : ∃ a n c, v' = .slice a n c := let ⟨a, c, h, _⟩ := ownsRow_len hm8.thn; ⟨a, _, c, h⟩
                    subst hve
                    have HM8 := Lib.hid hm8
                    clear hm8
                    refine wpAnyH_ready (rs := [1, 4]) (by kernel_rfl) (by simp) ?_
                    refine AllReadyH.cons (o := ?_) (by simp only [List.getElem?_toArray, List.getElem?_cons_succ, List.getElem?_cons_zero]; exact rfl) (fun K hK => ?_) (AllReadyH.cons (o := ?_) (by simp only [List.getElem?_toArray, List.getElem?_cons_succ, List.getElem?_cons_zero]; exact rfl) (fun K hK => ?_) AllReadyH.nil)
                    · have hcl : q1.cell? ⟨B, 5, none⟩ = some vt := cell_of_block hm_1.res 5
                      go_simp
                      refine hK.out _ _ trivial (fun hHeld => ?_)
                      clear hK K
                      try simp only [Act.put, List.setIfInBounds_toArray, List.set_cons_zero, List.set_cons_succ]
                      clear hcl
                      refine wpAnyH_ready (rs := [4]) (by kernel_rfl) (by simp) ?_
                      refine AllReadyH.cons (o := ?_) (by simp only [List.getElem?_toArray, List.getElem?_cons_succ, List.getElem?_cons_zero]; exact rfl) (fun K hK => ?_) AllReadyH.nil
                      rw [if_pos (by rfl)]
                      refine wp_bs_run (.tmp 105) 57 rfl (by exact run_bs57 x _) ?_
                      refine hK.out _ _ trivial (fun hHeld => ?_)
                      clear hK K
                      try simp only [Act.put, List.setIfInBounds_toArray, List.set_cons_zero, List.set_cons_succ]
                      refine wpAnyH_ready (rs := [5]) (by kernel_rfl) (by simp) ?_
                      refine AllReadyH.cons (o := ?_) (by simp only [List.getElem?_toArray, List.getElem?_cons_succ, List.getElem?_cons_zero]; exact rfl) (fun K hK => ?_) AllReadyH.nil
                      rw [if_pos (by rfl)]
                      refine wp_append_run (.tmp 103) (.tmp 106) 57 rfl rfl (by exact hap) ?_
                      refine hK.out _ _ trivial (fun hHeld => ?_)
                      clear hK K
                      try simp only [Act.put, List.setIfInBounds_toArray, List.set_cons_zero, List.set_cons_succ]
                      refine wpAnyH_take (i := 6) (v := ?_) rfl (by kernel_rfl) (by kernel_rfl) (by kernel_rfl) (fun _ _ _ h => h) (Or.inl ⟨by rfl, ?_⟩) (by assumption) ?_
                      rotate_left
                      · (intro w hSw; (try dsimp only at hSw); go_simp; try with_reducible rfl)
                      try simp only [Act.put, List.setIfInBounds_toArray, List.set_cons_zero, List.set_cons_succ]
                      refine wpAnyH_ready (rs := [7]) (by kernel_rfl) (by simp) ?_
                      refine AllReadyH.cons (o := ?_) (by simp only [List.getElem?_toArray, List.getElem?_cons_succ, List.getElem?_cons_zero]; exact rfl) (fun K hK => ?_) AllReadyH.nil
                      go_simp
                      refine hK.out _ _ trivial (fun hHeld => ?_)
                      clear hK K
                      try simp only [Act.put, List.setIfInBounds_toArray, List.set_cons_zero, List.set_cons_succ]
                      refine wpAnyH_done (by kernel_rfl) ?_ _
                      go_wp2_with fail
                      refine ⟨⟨_, _, _, _, _, _, rfl, Nat.le_succ 1, HM8.out, HRAT.out.step (by rw [HY.out, pitem_then _ _ hp]; exact D.bind HD1.out (D.some _ _)), ?_⟩, ?_⟩
                      · have h9 := HSUM.out
                        simp only [List.length_cons, List.length_append, List.length_nil] at h9 ⊢
                        omega
                      · rw [HM8.out.line.len, HLEN.out, List.length_cons]
                        omega
                    · rw [if_pos (by rfl)]
                      refine wp_bs_run (.tmp 105) 57 rfl (by exact run_bs57 x _) ?_
                      refine hK.out _ _ trivial (fun hHeld => ?_)
                      clear hK K
                      try simp only [Act.put, List.setIfInBounds_toArray, List.set_cons_zero, List.set_cons_succ]
                      refine wpAnyH_ready (rs := [1]) (by kernel_rfl) (by simp) ?_
                      refine AllReadyH.cons (o := ?_) (by simp only [List.getElem?_toArray, List.getElem?_cons_succ, List.getElem?_cons_zero]; exact rfl) (fun K hK => ?_) AllReadyH.nil
                      have hcl : (q1.alloc (Obj.cells (opCells x) 67 (0, 0))).cell? ⟨B, 5, none⟩ = some vt := cell_of_block (hm_1.alloc hltB (Obj.cells (opCells x) 67 (0, 0))).res 5
                      go_simp
                      refine hK.out _ _ trivial (fun hHeld => ?_)
                      clear hK K
                      try simp only [Act.put, List.setIfInBounds_toArray, List.set_cons_zero, List.set_cons_succ]
                      clear hcl
                      refine wpAnyH_ready (rs := [5]) (by kernel_rfl) (by simp) ?_
                      refine AllReadyH.cons (o := ?_) (by simp only [List.getElem?_toArray, List.getElem?_cons_succ, List.getElem?_cons_zero]; exact rfl) (fun K hK => ?_) AllReadyH.nil
                      rw [if_pos (by rfl)]
                      refine wp_append_run (.tmp 103) (.tmp 106) 57 rfl rfl (by exact hap) ?_
                      refine hK.out _ _ trivial (fun hHeld => ?_)
                      clear hK K
                      try simp only [Act.put, List.setIfInBounds_toArray, List.set_cons_zero, List.set_cons_succ]
                      refine wpAnyH_take (i := 6) (v := ?_) rfl (by kernel_rfl) (by kernel_rfl) (by kernel_rfl) (fun _ _ _ h => h) (Or.inl ⟨by rfl, ?_⟩) (by assumption) ?_
                      rotate_left
                      · (intro w hSw; (try dsimp only at hSw); go_simp; try with_reducible rfl)
                      try simp only [Act.put, List.setIfInBounds_toArray, List.set_cons_zero, List.set_cons_succ]
                      refine wpAnyH_ready (rs := [7]) (by kernel_rfl) (by simp) ?_
                      refine AllReadyH.cons (o := ?_) (by simp only [List.getElem?_toArray, List.getElem?_cons_succ, List.getElem?_cons_zero]; exact rfl) (fun K hK => ?_) AllReadyH.nil
                      go_simp
                      refine hK.out _ _ trivial (fun hHeld => ?_)
                      clear hK K
                      try simp only [Act.put, List.setIfInBounds_toArray, List.set_cons_zero, List.set_cons_succ]
                      refine wpAnyH_done (by kernel_rfl) ?_ _
                      go_wp2_with fail
                      refine ⟨⟨_, _, _, _, _, _, rfl, Nat.le_succ 1, HM8.out, HRAT.out.step (by rw [HY.out, pitem_then _ _ hp]; exact D.bind HD1.out (D.some _ _)), ?_⟩, ?_⟩
                      · have h9 := HSUM.out
                        simp only [List.length_cons, List.length_append, List.length_nil] at h9 ⊢
                        omega
                      · rw [HM8.out.line.len, HLEN.out, List.length_cons]
                        omega
                · have hpz : ¬ (st.part : Int) ≤ 1 := by omega
                  have hcb := HM7.out.line.cellBad
                  have hfb := HM7.out.line.free 1
                  have HM8 := Lib.hid (HM7.out.mark hltB true)
                  go_wp2_with fail
                  refine ⟨⟨_, _, _, _, _, _, rfl, hpt, HM8.out, HRAT.out.step (by rw [HY.out, pitem_then_no _ _ hp]; exact D.none _ _), ?_⟩, ?_⟩
                  · have h9 := HSUM.out
                    simp only [List.length_cons, List.length_append, List.length_nil] at h9 ⊢
                    omega
                  · rw [HM8.out.line.len, HLEN.out, List.length_cons]
                    omega
              by_cases hy2 : y = wElse
              · have hy0' : (y == [105, 102]) = false := by rw [hy2]; rfl
                have hy1' : (y == [116, 104, 101, 110]) = false := by rw [hy2]; rfl
                have hy2' : (y == [101, 108, 115, 101]) = true := by rw [hy2]; rfl
                have HY := Lib.hid hy2
                clear hy2 hy1 hy0
                go_wp2_with fail
                have hmD := HM7.out.drew hltB
                refine wp_region_held_drew (S := fun _ => True) (by kernel_rfl) trivial (fun hHeld => ?_)
                generalize w7.drew = V0 at *
                refine wpAnyH_take (i := 0) (v := ?_) rfl (by kernel_rfl) (by kernel_rfl) (by kernel_rfl) (fun _ _ _ h => h) (Or.inl ⟨by rfl, ?_⟩) (by assumption) ?_
                rotate_left
                · (intro w hSw; (try dsimp only at hSw); go_simp; try with_reducible rfl)
                try simp only [Act.put, List.setIfInBounds_toArray, List.set_cons_zero, List.set_cons_succ]
                refine wpAnyH_take (i := 2) (v := ?_) rfl (by kernel_rfl) (by kernel_rfl) (by kernel_rfl) (fun _ _ _ h => h) (Or.inl ⟨by rfl, ?_⟩) (by assumption) ?_
                rotate_left
                · (intro w hSw; (try dsimp only at hSw); go_simp; try with_reducible rfl)
                try simp only [Act.put, List.setIfInBounds_toArray, List.set_cons_zero, List.set_cons_succ]
                refine wpAnyH_ready (rs := [1, 3]) (by kernel_rfl) (by simp) ?_
                refine AllReadyH.cons (o := ?_) (by simp only [List.getElem?_toArray, List.getElem?_cons_succ, List.getElem?_cons_zero]; exact rfl) (fun K hK => ?_) (AllReadyH.cons (o := ?_) (by simp only [List.getElem?_toArray, List.getElem?_cons_succ, List.getElem?_cons_zero]; exact rfl) (fun K hK => ?_) AllReadyH.nil)
                · have hcl : V0.cell? ⟨B, 6, none⟩ = some ve := cell_of_block hmD.res 6
                  go_simp
                  refine hK.out _ _ trivial (fun hHeld => ?_)
                  clear hK K
                  try simp only [Act.put, List.setIfInBounds_toArray, List.set_cons_zero, List.set_cons_succ]
                  clear hcl
                  refine wpAnyH_ready (rs := [3]) (by kernel_rfl) (by simp) ?_
                  refine AllReadyH.cons (o := ?_) (by simp only [List.getElem?_toArray, List.getElem?_cons_succ, List.getElem?_cons_zero]; exact rfl) (fun K hK => ?_) AllReadyH.nil
                  go_simp
                  refine (rop_any lb rb wy false V0 hmD.line (by have := lt_of_block hmD.res; omega)).mono ?_
                  rintro e q1 ⟨hkq, x, z1, bz, rfl, hlq, -, hle1, hD⟩
                  have hm_1 := hmD.step hltB hkq hlq
                  have HD1 := Lib.hid (show D false (pop wy) (x, z1) bz from hD)
                  clear hkq hlq hD
                  refine hK.out _ _ trivial (fun hHeld => ?_)
                  clear hK K
                  try simp only [Act.put, List.setIfInBounds_toArray, List.set_cons_zero, List.set_cons_succ]
                  obtain ⟨v', w8, hap, hc8, hf8, hm8⟩ := hm_1.addEls hltB hWs hrB x (by have h9 := HSUM.out; simp only [List.length_cons] at h9; omega)
                  obtain ⟨pa, pn, pc, hve⟩ : ∃ a n c, v' = .slice a n c := let ⟨a, c, h, _⟩ := ownsRow_len hm8.els; ⟨a, _, c, h⟩
                  subst hve
                  have HM8 := Lib.hid hm8
                  clear hm8
                  refine wpAnyH_ready (rs := [4]) (by kernel_rfl) (by simp) ?_
                  refine AllReadyH.cons (o := ?_) (by simp only [List.getElem?_toArray, List.getElem?_cons_succ, List.getElem?_cons_zero]; exact rfl) (fun K hK => ?_) AllReadyH.nil
                  rw [if_pos (by rfl)]
                  refine wp_bs_run (.tmp 115) 57 rfl (by exact run_bs57 x _) ?_
                  refine hK.out _ _ trivial (fun hHeld => ?_)
                  clear hK K
                  try simp only [Act.put, List.setIfInBounds_toArray, List.set_cons_zero, List.set_cons_succ]
                  refine wpAnyH_ready (rs := [5]) (by kernel_rfl) (by simp) ?_
                  refine AllReadyH.cons (o := ?_) (by simp only [List.getElem?_toArray, List.getElem?_cons_succ, List.getElem?_cons_zero]; exact rfl) (fun K hK => ?_) AllReadyH.nil
                  rw [if_pos (by rfl)]
                  refine wp_append_run (.tmp 113) (.tmp 116) 57 rfl rfl (by exact hap) ?_
                  refine hK.out _ _ trivial (fun hHeld => ?_)
                  clear hK K
                  try simp only [Act.put, List.setIfInBounds_toArray, List.set_cons_zero, List.set_cons_succ]
                  refine wpAnyH_take (i := 6) (v := ?_) rfl (by kernel_rfl) (by kernel_rfl) (by kernel_rfl) (fun _ _ _ h => h) (Or.inl ⟨by rfl, ?_⟩) (by assumption) ?_
                  rotate_left
                  · (intro w hSw; (try dsimp only at hSw); go_simp; try with_reducible rfl)
                  try simp only [Act.put, List.setIfInBounds_toArray, List.set_cons_zero, List.set_cons_succ]
                  refine wpAnyH_ready (rs := [7]) (by kernel_rfl) (by simp) ?_
                  refine AllReadyH.cons (o := ?_) (by simp only [List.getElem?_toArray, List.getElem?_cons_succ, List.getElem?_cons_zero]; exact rfl) (fun K hK => ?_) AllReadyH.nil
                  go_simp
                  refine hK.out _ _ trivial (fun hHeld => ?_)
                  clear hK K
                  try simp only [Act.put, List.setIfInBounds_toArray, List.set_cons_zero, List.set_cons_succ]
                  refine wpAnyH_done (by kernel_rfl) ?_ _
                  go_wp2_with fail
                  refine ⟨⟨_, _, _, _, _, _, rfl, Nat.le_refl 2, HM8.out, HRAT.out.step (by rw [HY.out, pitem_else]; exact D.bind HD1.out (D.some _ _)), ?_⟩, ?_⟩
                  · have h9 := HSUM.out
                    simp only [List.length_cons, List.length_append, List.length_nil] at h9 ⊢
                    omega
                  · rw [HM8.out.line.len, HLEN.out, List.length_cons]
                    omega
                · go_simp
                  refine (rop_any lb rb wy false V0 hmD.line (by have := lt_of_block hmD.res; omega)).mono ?_
                  rintro e q1 ⟨hkq, x, z1, bz, rfl, hlq, -, hle1, hD⟩
                  have hm_1 := hmD.step hltB hkq hlq
                  have HD1 := Lib.hid (show D false (pop wy) (x, z1) bz from hD)
                  clear hkq hlq hD
                  refine hK.out _ _ trivial (fun hHeld => ?_)
                  clear hK K
                  try simp only [Act.put, List.setIfInBounds_toArray, List.set_cons_zero, List.set_cons_succ]
                  obtain ⟨v', w8, hap, hc8, hf8, hm8⟩ := hm_1.addEls hltB hWs hrB x (by have h9 := HSUM.out; simp only [List.length_cons] at h9; omega)
                  obtain ⟨pa, pn, pc, hve⟩ : ∃ a n c, v' = .slice a n c := let ⟨a, c, h, _⟩ := ownsRow_len hm8.els; ⟨a, _, c, h⟩
                  subst hve
                  have HM8 := Lib.hid hm8
                  clear hm8
                  refine wpAnyH_ready (rs := [1, 4]) (by kernel_rfl) (by simp) ?_
                  refine AllReadyH.cons (o := ?_) (by simp only [List.getElem?_toArray, List.getElem?_cons_succ, List.getElem?_cons_zero]; exact rfl) (fun K hK => ?_) (AllReadyH.cons (o := ?_) (by simp only [List.getElem?_toArray, List.getElem?_cons_succ, List.getElem?_cons_zero]; exact rfl) (fun K hK => ?_) AllReadyH.nil)
                  · have hcl : q1.cell? ⟨B, 6, none⟩ = some ve := cell_of_block hm_1.res 6
                    go_simp
                    refine hK.out _ _ trivial (fun hHeld => ?_)
                    clear hK K
                    try simp only [Act.put, List.setIfInBounds_toArray, List.set_cons_zero, List.set_cons_succ]
                    clear hcl
                    refine wpAnyH_ready (rs := [4]) (by kernel_rfl) (by simp) ?_
                    refine AllReadyH.cons (o := ?_) (by simp only [List.getElem?_toArray, List.getElem?_cons_succ, List.getElem?_cons_zero]; exact rfl) (fun K hK => ?_) AllReadyH.nil
                    rw [if_pos (by rfl)]
                    refine wp_bs_run (.tmp 115) 57 rfl (by exact run_bs57 x _) ?_
                    refine hK.out _ _ trivial (fun hHeld => ?_)
                    clear hK K
                    try simp only [Act.put, List.setIfInBounds_toArray, List.set_cons_zero, List.set_cons_succ]
                    refine wpAnyH_ready (rs := [5]) (by kernel_rfl) (by simp) ?_
                    refine AllReadyH.cons (o := ?_) (by simp only [List.getElem?_toArray, List.getElem?_cons_succ, List.getElem?_cons_zero]; exact rfl) (fun K hK => ?_) AllReadyH.nil
                    rw [if_pos (by rfl)]
                    refine wp_append_run (.tmp 113) (.tmp 116) 57 rfl rfl (by exact hap) ?_
                    refine hK.out _ _ trivial (fun hHeld => ?_)
                    clear hK K
                    try simp only [Act.put, List.setIfInBounds_toArray, List.set_cons_zero, List.set_cons_succ]
                    refine wpAnyH_take (i := 6) (v := ?_) rfl (by kernel_rfl) (by kernel_rfl) (by kernel_rfl) (fun _ _ _ h => h) (Or.inl ⟨by rfl, ?_⟩) (by assumption) ?_
                    rotate_left
                    · (intro w hSw; (try dsimp only at hSw); go_simp; try with_reducible rfl)
                    try simp only [Act.put, List.setIfInBounds_toArray, List.set_cons_zero, List.set_cons_succ]
                    refine wpAnyH_ready (rs := [7]) (by kernel_rfl) (by simp) ?_
                    refine AllReadyH.cons (o := ?_) (by simp only [List.getElem?_toArray, List.getElem?_cons_succ, List.getElem?_cons_zero]; exact rfl) (fun K hK => ?_) AllReadyH.nil
                    go_simp
                    refine hK.out _ _ trivial (fun hHeld => ?_)
                    clear hK K
                    try simp only [Act.put, List.setIfInBounds_toArray, List.set_cons_zero, List.set_cons_succ]
                    refine wpAnyH_done (by kernel_rfl) ?_ _
                    go_wp2_with fail
                    refine ⟨⟨_, _, _, _, _, _, rfl, Nat.le_refl 2, HM8.out, HRAT.out.step (by rw [HY.out, pitem_else]; exact D.bind HD1.out (D.some _ _)), ?_⟩, ?_⟩
                    · have h9 := HSUM.out
                      simp only [List.length_cons, List.length_append, List.length_nil] at h9 ⊢
                      omega
                    · rw [HM8.out.line.len, HLEN.out, List.length_cons]
                      omega
                  · rw [if_pos (by rfl)]
                    refine wp_bs_run (.tmp 115) 57 rfl (by exact run_bs57 x _) ?_
                    refine hK.out _ _ trivial (fun hHeld => ?_)
                    clear hK K
                    try simp only [Act.put, List.setIfInBounds_toArray, List.set_cons_zero, List.set_cons_succ]
                    refine wpAnyH_ready (rs := [1]) (by kernel_rfl) (by simp) ?_
                    refine AllReadyH.cons (o := ?_) (by simp only [List.getElem?_toArray, List.getElem?_cons_succ, List.getElem?_cons_zero]; exact rfl) (fun K hK => ?_) AllReadyH.nil
                    have hcl : (q1.alloc (Obj.cells (opCells x) 67 (0, 0))).cell? ⟨B, 6, none⟩ = some ve := cell_of_block (hm_1.alloc hltB (Obj.cells (opCells x) 67 (0, 0))).res 6
                    go_simp
                    refine hK.out _ _ trivial (fun hHeld => ?_)
                    clear hK K
                    try simp only [Act.put, List.setIfInBounds_toArray, List.set_cons_zero, List.set_cons_succ]
                    clear hcl
                    refine wpAnyH_ready (rs := [5]) (by kernel_rfl) (by simp) ?_
                    refine AllReadyH.cons (o := ?_) (by simp only [List.getElem?_toArray, List.getElem?_cons_succ, List.getElem?_cons_zero]; exact rfl) (fun K hK => ?_) AllReadyH.nil
                    rw [if_pos (by rfl)]
                    refine wp_append_run (.tmp 113) (.tmp 116) 57 rfl rfl (by exact hap) ?_
                    refine hK.out _ _ trivial (fun hHeld => ?_)
                    clear hK K
                    try simp only [Act.put, List.setIfInBounds_toArray, List.set_cons_zero, List.set_cons_succ]
                    refine wpAnyH_take (i := 6) (v := ?_) rfl (by kernel_rfl) (by kernel_rfl) (by kernel_rfl) (fun _ _ _ h => h) (Or.inl ⟨by rfl, ?_⟩) (by assumption) ?_
                    rotate_left
                    · (intro w hSw; (try dsimp only at hSw); go_simp; try with_reducible rfl)
                    try simp only [Act.put, List.setIfInBounds_toArray, List.set_cons_zero, List.set_cons_succ]
                    refine wpAnyH_ready (rs := [7]) (by kernel_rfl) (by simp) ?_
                    refine AllReadyH.cons (o := ?_) (by simp only [List.getElem?_toArray, List.getElem?_cons_succ, List.getElem?_cons_zero]; exact rfl) (fun K hK => ?_) AllReadyH.nil
                    go_simp
                    refine hK.out _ _ trivial (fun hHeld => ?_)
                    clear hK K
                    try simp only [Act.put, List.setIfInBounds_toArray, List.set_cons_zero, List.set_cons_succ]
                    refine wpAnyH_done (by kernel_rfl) ?_ _
                    go_wp2_with fail
                    refine ⟨⟨_, _, _, _, _, _, rfl, Nat.le_refl 2, HM8.out, HRAT.out.step (by rw [HY.out, pitem_else]; exact D.bind HD1.out (D.some _ _)), ?_⟩, ?_⟩
                    · have h9 := HSUM.out
                      simp only [List.length_cons, List.length_append, List.length_nil] at h9 ⊢
                      omega
                    · rw [HM8.out.line.len, HLEN.out, List.length_cons]
                      omega
              · have hy0' : (y == [105, 102]) = false := by rw [Bool.eq_false_iff]; intro e; exact hy0 (eq_of_beq e)
                have hy1' : (y == [116, 104, 101, 110]) = false := by rw [Bool.eq_false_iff]; intro e; exact hy1 (eq_of_beq e)
                have hy2' : (y == [101, 108, 115, 101]) = false := by rw [Bool.eq_false_iff]; intro e; exact hy2 (eq_of_beq e)
                have HY := Lib.hid (And.intro hy0 (And.intro hy1 hy2))
                clear hy0 hy1 hy2
                have hcb := HM7.out.line.cellBad
                have hfb := HM7.out.line.free 1
                have HM8 := Lib.hid (HM7.out.mark hltB true)
                go_wp2_with fail
                refine ⟨⟨_, _, _, _, _, _, rfl, hpt, HM8.out, HRAT.out.step (by rw [pitem_no _ _ _ HY.out.1 HY.out.2.1 HY.out.2.2]; exact D.none _ _), ?_⟩, ?_⟩
                · have h9 := HSUM.out
                  simp only [List.length_cons, List.length_append, List.length_nil] at h9 ⊢
                  omega
                · rw [HM8.out.line.len, HLEN.out, List.length_cons]
                  omega
            · obtain ⟨off, cc, hl1, hl2, hl3, -⟩ := HMEM.out.line
              have hcl : wr.cell? ⟨lb, 0, none⟩ = _ := cell_of_block hl1 0
              have hcb : wr.cell? ⟨lb, 1, none⟩ = some (.bool true) := cell_of_block hl1 1
              simp only [List.getElem?_toArray, List.getElem?_cons_zero, List.length_cons, List.length_nil] at hcl
              have hgt : ((wy.length : Int) + 1) > 0 := by omega
              clear hl1 hl2 hl3
              obtain ⟨a1, c1, rfl, -⟩ := ownsRow_len HMEM.out.cmps
              obtain ⟨a2, c2, rfl, -⟩ := ownsRow_len HMEM.out.thn
              obtain ⟨a3, c3, rfl, -⟩ := ownsRow_len HMEM.out.els
              generalize hn1 : st.cmps.length = n1 at *
              generalize hn2 : st.thn.length = n2 at *
              generalize hn3 : st.els.length = n3 at *
              have hc4 : wr.cell? ⟨B, 4, none⟩ = some (.slice a1 n1 c1) := cell_of_block HMEM.out.res 4
              have hc5 : wr.cell? ⟨B, 5, none⟩ = some (.slice a2 n2 c2) := cell_of_block HMEM.out.res 5
              have hc6 : wr.cell? ⟨B, 6, none⟩ = some (.slice a3 n3 c3) := cell_of_block HMEM.out.res 6
              have hfb := HMEM.out.line.free 1
              have HOK := Lib.hid (show okParts st = (decide (n1 ≤ 8) && decide (n2 ≤ 10) && decide (n3 ≤ 10)) by rw [← hn1, ← hn2, ← hn3]; rfl)
              clear hn1 hn2 hn3
              go_upto_region 29 with fail
              go_cut [7] from 119 to 143 (fun _ wx => RReqMem lb rb B W ⟨kk, cl, nm, at' m 0, [], [], [], rv⟩ st (y :: wy) (true || !okParts st) (.slice a1 n1 c1) (.slice a2 n2 c2) (.slice a3 n3 c3) wx)
              case first =>
                go_wp2_with fail
                go_meet
                rw [Bool.true_or]
                exact HMEM.out.mark hltB _
              case rest =>
                have HMC := Lib.hid hcut
                clear hcut hcl hcb hc4 hc5 hc6 hfb HMEM
                have hb4 := HMC.out.res
                have hbn := HMC.out.keep.at' HWN.out (by omega)
                obtain ⟨cs, hcs⟩ : ∃ cs, cs = reqCells ⟨kk, cl, nm, at' m 0, [], [], [], rv⟩ (.slice a1 n1 c1) (.slice a2 n2 c2) (.slice a3 n3 c3) := ⟨_, rfl⟩
                have hs : cs.size = 8 := by rw [hcs]; rfl
                have h1 : cs.all (·.oneCell') = true := by rw [hcs]; simp [reqCells, one_int, one_bool, one_slice]
                rw [← hcs] at hb4
                have hld := run_ld59 wc B 0 cs hs (range_of_block hb4)
                have hst := run_st59 wc N 0 cs (there_of_block hbn (n := 8) (by decide)) hs h1
                have HBN := Lib.hid hbn
                have HCS := Lib.hid hcs
                clear hb4 hcs hbn
                go_wp2_with fail
                have hb3 := block_setCells_all HBN.out cs.toList (by simp [hs])
                rw [Array.toArray_toList] at hb3
                (try simp only [Exit.inBlock, Exit.then])
                refine bodyPost_ret (v := .agg cs) ?_ rfl ?_
                · exact results_block (n := 8) rfl Tryz.underlying59 rfl info59 _ _ N cs 59 (0, 0) rfl hs hb3
                have hkS : Keep (fun b => b = N) wc (wc.setCells N 0 cs.toList) := (Keep.refl (fun b => b = N) wc).setCells _ _ _ (.inr rfl)
                have hfar : ∀ {v : Value} {e size n : Nat} {xs : List Value}, wc.ownsRow (B + 1) e size v n xs → (wc.setCells N 0 cs.toList).ownsRow 0 e size v n xs := fun h => ownsRow_base (ownsRow_keep h hkS (fun g cur hg _ e => by have := (h.lt g hg).1; omega)) (Nat.zero_le _)
                refine ⟨(HKW.out.trans' HMC.out.keep).setCells _ _ _ (.inl hwN), ⟨kk, cl, nm, at' m 0, st.cmps, st.thn, st.els, rv⟩, .slice a1 n1 c1, .slice a2 n2 c2, .slice a3 n3 c3, (y :: wy), _, by rw [HCS.out]; rfl, ⟨hfar HMC.out.cmps, hfar HMC.out.thn, hfar HMC.out.els⟩, HMC.out.line.keep hkS (fun e => by omega) (fun e => by omega), ?_, D.of_items HKD2.out HDD.out (.inr ⟨_, HRAT.out, rfl⟩), fun e => by simp at e⟩
                have h9 := HSUM.out; simp only [List.length_cons] at h9 ⊢; omega
end Go.Proofs.YtifliekahdgobaaGreatDoor
