/-
  THE WALKS, 10: what the rules read. Helpers of the claims.
  THE WALKS, 23: what the rules write; sameReq. Helpers of the claims.
  EQUALITY of the program's structs, as the model tests it. Helpers of the claims.
  A STEP IN A BLOCK: what is loaded of it. Helpers of the claims.
-/
import Derived.Laws.StructEq
import Derived.Test.YtifliekahdgobaaGreatDoorKW9
import Derived.Test.YtifliekahdgobaaGreatDoorKW22
import Derived.Test.YtifliekahdgobaaGreatDoorKW7ToThP
set_option linter.unusedSimpArgs false
set_option linter.unusedVariables false
namespace Go.Proofs.YtifliekahdgobaaGreatDoor
open Go.RowKit Sp

theorem putCells_mid : ∀ (vs A B C : List Value), B.length = vs.length → putCells (A ++ (B ++ C)).toArray A.length vs = (A ++ (vs ++ C)).toArray
  | [], A, B, C, h => by
    have : B = [] := List.length_eq_zero_iff.1 h
    subst this
    rfl
  | v :: r, A, [], C, h => by simp at h
  | v :: r, A, b :: B, C, h => by
    have h1 := putCells_mid r (A ++ [v]) B C (by simpa using h)
    rw [putCells]
    have h2 : (A ++ (b :: B ++ C)).toArray.setIfInBounds A.length v = (A ++ [v] ++ (B ++ C)).toArray := by simp
    rw [h2]
    simpa using h1
/-- a step's cells -/
def stepCells (s : StepS) (vc vt ve : Value) : Array Value := #[.int .i64 s.kind, .int .i64 s.node, .int .u64 s.n,
  .int .i64 s.req.kind, .int .u64 s.req.client, .int .u64 s.req.num, .bool s.req.serial, vc, vt, ve, .int .u64 s.req.rev,
  .int .u64 s.watch.id, sv s.watch.key, sv s.watch.fin, .int .u64 s.watch.start, .bool s.watch.prev, .bool s.watch.noPut, .bool s.watch.noDelete, .bool s.watch.progress]
/-- a step in memory, at the head of a block -/
def StepAt (w : World) (sb : Nat) (s : StepS) : Prop := ∃ vc vt ve, w.heap[sb]? = some (.cells (stepCells s vc vt ve) 63 (0, 0)) ∧ ReqIs w s.req vc vt ve
/-- what a rule's reading comes to -/
def GotStep (lb rb sb : Nat) (w : World) (r : Option (StepS × List Str)) (e : Ending) (w' : World) : Prop :=
  Keep (fun b => b = lb ∨ b = sb) w w' ∧ match r with
    | some (s, ws) => e = .returned (.tuple #[]) ∧ LineAt w' lb rb ws ∧ StepAt w' sb s
    | none => e = gaveUp 4
abbrev nilS : Value := .slice none 0 0
theorem ReqIs.zero (w : World) : ReqIs w .zero nilS nilS nilS := ⟨World.ownsRow_nil _ _ _ _, World.ownsRow_nil _ _ _ _, World.ownsRow_nil _ _ _ _⟩
/-- the step that a line's reading begins with -/
def step0 (k : Nat) (n : Int) : StepS := ⟨k, n, 0, .zero, .zero⟩

theorem readN_any (lb rb sb k : Nat) (n : Int) (ws : List Str) (w : World) (h : LineAt w lb rb ws) (hs : w.heap[sb]? = some (.cells (stepCells (step0 k n) nilS nilS nilS) 63 (0, 0))) (hsl : sb ≠ lb) (hsr : sb ≠ rb) :
    Calls Tryz.prog 76 #[.pointer (some ⟨lb, 0, none⟩), .pointer (some ⟨sb, 0, none⟩)] w (GotStep lb rb sb w ((pnum most ws).bind fun x => some ({ step0 k n with n := x.1 }, x.2))) := by
  have HS := Lib.hid hs
  clear hs
  go_enter Tryz.func76, Tryz.ntmps76
  go_wp2_with fail
  refine (num_any lb rb ws w h).mono ?_
  rintro e w1 ⟨hk1, hg1⟩
  rcases hp1 : pnum most ws with _ | ⟨a, r⟩
  · rw [hp1] at hg1
    subst hg1
    exact ⟨rfl, hk1.mono (fun _ _ e => .inl e), by rw [hp1]; exact rfl⟩
  rw [hp1] at hg1
  obtain ⟨rfl, hl1⟩ := hg1
  have hs1 := hk1.at' HS.out hsl
  have hc : w1.cell? ⟨sb, 2, none⟩ = some (.int .u64 0) := cell_of_block hs1 2
  have hf := free_of_block hs1 2
  have HP1 := Lib.hid hp1
  have HS1 := Lib.hid hs1
  have HL1 := Lib.hid hl1
  clear hs1 hl1 hp1
  unfold u64v
  go_wp2_with fail
  go_end0
  have hkS : Keep (fun b => b = sb) w1 (w1.setCell ⟨sb, 2, none⟩ (.int .u64 a)) := (Keep.refl (fun b => b = sb) w1).setCell _ _ (.inr rfl)
  refine ⟨(hk1.mono (fun _ _ e => .inl e)).setCell _ _ (.inr (.inr rfl)), ?_⟩
  rw [HP1.out]
  exact ⟨rfl, HL1.out.keep hkS (fun e => hsl e.symm) (fun e => hsr e.symm), _, _, _, block_setCell HS1.out 2 _, ReqIs.zero _⟩
theorem defrag_any (lb rb sb k : Nat) (n : Int) (ws : List Str) (w : World) (h : LineAt w lb rb ws) (hs : w.heap[sb]? = some (.cells (stepCells (step0 k n) nilS nilS nilS) 63 (0, 0))) :
    Calls Tryz.prog 66 #[.pointer (some ⟨lb, 0, none⟩), .pointer (some ⟨sb, 0, none⟩)] w (GotStep lb rb sb w (some (step0 k n, ws))) := by
  have HS := Lib.hid hs
  have HL := Lib.hid h
  clear hs h
  go_enter Tryz.func66, Tryz.ntmps66
  go_wp2_with fail
  go_end0
  exact ⟨Keep.refl _ w, rfl, HL.out, _, _, _, HS.out, ReqIs.zero _⟩
theorem watchR_any (lb rb sb k : Nat) (n : Int) (ws : List Str) (w : World) (h : LineAt w lb rb ws) (hr : rb < w.heap.size) (hs : w.heap[sb]? = some (.cells (stepCells (step0 k n) nilS nilS nilS) 63 (0, 0))) (hsl : sb ≠ lb) (hsr : sb ≠ rb) :
    Calls Tryz.prog 68 #[.pointer (some ⟨lb, 0, none⟩), .pointer (some ⟨sb, 0, none⟩)] w (GotStep lb rb sb w ((pwatch ws).bind fun x => some ({ step0 k n with watch := x.1 }, x.2))) := by
  have HS := Lib.hid hs
  clear hs
  go_enter Tryz.func68, Tryz.ntmps68
  go_wp2_with fail
  refine (watch_any lb rb ws w h hr).mono ?_
  rintro e w1 ⟨hk1, hg1⟩
  rcases hp1 : pwatch ws with _ | ⟨a, r⟩
  · rw [hp1] at hg1
    subst hg1
    exact ⟨rfl, hk1.mono (fun _ _ e => .inl e), by rw [hp1]; exact rfl⟩
  rw [hp1] at hg1
  obtain ⟨rfl, hl1⟩ := hg1
  have hs1 := hk1.at' HS.out hsl
  have hth : w1.there sb 11 8 := fun j hj => by
    have := there_of_block hs1 (n := 19) (Nat.le_refl 19) (11 + j) (by omega)
    simpa using this
  obtain ⟨cs, hcs⟩ : ∃ cs, cs = watchCells a := ⟨_, rfl⟩
  have hst := run_st61 w1 sb 11 cs hth (by rw [hcs]; rfl) (by rw [hcs]; simp [watchCells, one_int, one_str, one_bool])
  have HP1 := Lib.hid hp1
  have HS1 := Lib.hid hs1
  have HL1 := Lib.hid hl1
  clear hs1 hl1 hp1 hth
  dsimp only
  rw [← hcs]
  have HCS := Lib.hid hcs
  clear hcs
  go_wp2_with fail
  go_end0
  have hkS : Keep (fun b => b = sb) w1 (w1.setCells sb 11 cs.toList) := (Keep.refl (fun b => b = sb) w1).setCells _ _ _ (.inr rfl)
  refine ⟨(hk1.mono (fun _ _ e => .inl e)).setCells _ _ _ (.inr (.inr rfl)), ?_⟩
  rw [HP1.out]
  refine ⟨rfl, HL1.out.keep hkS (fun e => hsl e.symm) (fun e => hsr e.symm), nilS, nilS, nilS, ?_, ReqIs.zero _⟩
  rw [block_setCells _ _ _ _ HS1.out, HCS.out]
  exact congrArg (fun cs => some (Obj.cells cs 63 (0, 0))) (putCells_mid (watchCells a).toList [.int .i64 k, .int .i64 n, .int .u64 0, .int .i64 0, .int .u64 0, .int .u64 0, .bool false, nilS, nilS, nilS, .int .u64 0] (watchCells .zero).toList [] rfl)
theorem askR_any (lb rb sb k : Nat) (n : Int) (ws : List Str) (w : World) (h : LineAt w lb rb ws) (hr : rb < w.heap.size) (hs : w.heap[sb]? = some (.cells (stepCells (step0 k n) nilS nilS nilS) 63 (0, 0))) (hsl : sb ≠ lb) (hsr : sb ≠ rb) :
    Calls Tryz.prog 72 #[.pointer (some ⟨lb, 0, none⟩), .pointer (some ⟨sb, 0, none⟩)] w (GotStep lb rb sb w ((preq ws).bind fun x => some ({ step0 k n with req := x }, []))) := by
  have HS := Lib.hid hs
  clear hs
  go_enter Tryz.func72, Tryz.ntmps72
  go_wp2_with fail
  refine (req_any lb rb ws w h hr).mono ?_
  rintro e w1 ⟨hk1, hg1⟩
  rcases hp1 : preq ws with _ | a
  · rw [hp1] at hg1
    subst hg1
    exact ⟨rfl, hk1.mono (fun _ _ e => .inl e), by rw [hp1]; exact rfl⟩
  rw [hp1] at hg1
  obtain ⟨vc, vt, ve, rfl, hri, hl1⟩ := hg1
  obtain ⟨a1, c1, rfl, -⟩ := ownsRow_len hri.1
  obtain ⟨a2, c2, rfl, -⟩ := ownsRow_len hri.2.1
  obtain ⟨a3, c3, rfl, -⟩ := ownsRow_len hri.2.2
  have hs1 := hk1.at' HS.out hsl
  have hth : w1.there sb 3 8 := fun j hj => by
    have := there_of_block hs1 (n := 19) (Nat.le_refl 19) (3 + j) (by omega)
    simpa using this
  obtain ⟨cs, hcs⟩ : ∃ cs, cs = reqCells a (.slice a1 a.cmps.length c1) (.slice a2 a.thn.length c2) (.slice a3 a.els.length c3) := ⟨_, rfl⟩
  have hst := run_st59 w1 sb 3 cs hth (by rw [hcs]; rfl) (by rw [hcs]; simp [reqCells, one_int, one_slice, one_bool])
  have HP1 := Lib.hid hp1
  have HS1 := Lib.hid hs1
  have HL1 := Lib.hid hl1
  have HRI := Lib.hid hri
  clear hs1 hl1 hp1 hth hri
  dsimp only
  rw [← hcs]
  have HCS := Lib.hid hcs
  clear hcs
  go_wp2_with fail
  go_end0
  have hkS : Keep (fun b => b = sb) w1 (w1.setCells sb 3 cs.toList) := (Keep.refl (fun b => b = sb) w1).setCells _ _ _ (.inr rfl)
  have hty : ∀ {v : Value} {base e size n : Nat} {xs : List Value}, w1.ownsRow base e size v n xs → e ≠ 63 → (w1.setCells sb 3 cs.toList).ownsRow base e size v n xs := fun h hne => ownsRow_keep h hkS (fun g cur hg hc e => by
    subst e
    rw [HS1.out] at hc
    injection hc with e2
    injection e2 with e3 e4
    exact hne e4.symm)
  refine ⟨(hk1.mono (fun _ _ e => .inl e)).setCells _ _ _ (.inr (.inr rfl)), ?_⟩
  rw [HP1.out]
  refine ⟨rfl, HL1.out.keep hkS (fun e => hsl e.symm) (fun e => hsr e.symm), .slice a1 a.cmps.length c1, .slice a2 a.thn.length c2, .slice a3 a.els.length c3, ?_, hty HRI.out.1 (by decide), hty HRI.out.2.1 (by decide), hty HRI.out.2.2 (by decide)⟩
  rw [block_setCells _ _ _ _ HS1.out, HCS.out]
  exact congrArg (fun cs => some (Obj.cells cs 63 (0, 0))) (putCells_mid (reqCells a (.slice a1 a.cmps.length c1) (.slice a2 a.thn.length c2) (.slice a3 a.els.length c3)).toList [.int .i64 k, .int .i64 n, .int .u64 0] (reqCells .zero nilS nilS nilS).toList (watchCells .zero).toList rfl)
end Go.Proofs.YtifliekahdgobaaGreatDoor
namespace Go.Proofs.YtifliekahdgobaaGreatDoor
open Go.RowKit Sp

/-- a step whose numbers are of their kinds, of modest bytes -/
structure MidStep (s : StepS) : Prop where
  k0 : -9223372036854775808 ≤ s.kind
  k1 : s.kind ≤ 9223372036854775807
  n0 : -9223372036854775808 ≤ s.node
  n1 : s.node ≤ 9223372036854775807
  m0 : 0 ≤ s.n
  m1 : s.n < 18446744073709551616
  rk0 : -9223372036854775808 ≤ s.req.kind
  rk1 : s.req.kind ≤ 9223372036854775807
  req : MidReq s.req
  watch : MidWatch s.watch
/-- a request in memory, to be read -/
def ReqRead (w : World) (r : ReqS) (vc vt ve : Value) : Prop := RowRead cmpCells 5 w vc r.cmps ∧ RowRead opCells 9 w vt r.thn ∧ RowRead opCells 9 w ve r.els
theorem ReqRead.of_is {w : World} {r : ReqS} {vc vt ve : Value} (h : ReqIs w r vc vt ve) : ReqRead w r vc vt ve :=
  ⟨RowRead.of_own (size := 5) (base := 0) (e := 65) (fun _ => rfl) (show w.ownsRow 0 65 5 vc _ (flat cmpCells r.cmps) from h.1), RowRead.of_own (size := 9) (base := 0) (e := 67) (fun _ => rfl) (show w.ownsRow 0 67 9 vt _ (flat opCells r.thn) from h.2.1), RowRead.of_own (size := 9) (base := 0) (e := 67) (fun _ => rfl) (show w.ownsRow 0 67 9 ve _ (flat opCells r.els) from h.2.2)⟩
theorem ReqRead.far {w w' : World} {r : ReqS} {vc vt ve : Value} (h : ReqRead w r vc vt ve) (hk : Keep (fun _ => False) w w') : ReqRead w' r vc vt ve :=
  ⟨h.1.keep hk (fun _ _ _ _ _ e => e), h.2.1.keep hk (fun _ _ _ _ _ e => e), h.2.2.keep hk (fun _ _ _ _ _ e => e)⟩
/-- what reqText comes to: it gives up, if the kind is none -/
def okKind (r : ReqS) : Bool := decide (0 ≤ r.kind) && decide (r.kind ≤ 3)
def GotText (t : Str) (ok : Bool) (w : World) (e : Ending) (w' : World) : Prop := Keep (fun _ => False) w w' ∧ ((ok = true ∧ e = .returned (sv t)) ∨ (ok = false ∧ e = gaveUp 2))
set_option maxRecDepth 100000 in
theorem reqText_bad (r : ReqS) (vc vt ve : Value) (h : okKind r = false) (w : World) :
    Calls Tryz.prog 75 #[.agg (reqCells r vc vt ve)] w fun e w' => e = gaveUp 2 ∧ Keep (fun _ => False) w w' := by
  obtain ⟨kind, client, num, serial, cmps, thn, els, rev⟩ := r
  unfold okKind at h
  dsimp only at h
  have hcase : kind < 0 ∨ (0 ≤ kind ∧ 3 < kind) := by
    rw [Bool.and_eq_false_iff, decide_eq_false_iff_not, decide_eq_false_iff_not] at h
    omega
  clear h
  unfold reqCells
  rcases hcase with h | ⟨h, h'⟩
  · have h1 : decide (0 ≤ kind) = false := decide_eq_false (by omega)
    clear h
    go_enter Tryz.func75, Tryz.ntmps75
    go_wp2_with fail
    refine (must_no _ _).mono ?_
    rintro e w' ⟨rfl, rfl⟩
    exact ⟨rfl, rfl, (Keep.refl _ w).alloc _⟩
  · have h1 : decide (0 ≤ kind) = true := decide_eq_true h
    have h2 : decide (kind ≤ 3) = false := decide_eq_false (by omega)
    clear h h'
    go_enter Tryz.func75, Tryz.ntmps75
    go_wp2_with fail
    refine (must_no _ _).mono ?_
    rintro e w' ⟨rfl, rfl⟩
    exact ⟨rfl, rfl, (Keep.refl _ w).alloc _⟩
theorem reqText_any (r : ReqS) (vc vt ve : Value) (hm : MidReq r) (w : World) (hg : Glob w) (hr : ReqRead w r vc vt ve) :
    Calls Tryz.prog 75 #[.agg (reqCells r vc vt ve)] w (GotText (join (reqWords r)) (okKind r) w) := by
  cases hk : okKind r
  · exact (reqText_bad r vc vt ve hk w).mono fun e w' h => ⟨h.2, .inr ⟨rfl, h.1⟩⟩
  · rw [← join_reqParts]
    obtain ⟨kind, client, num, serial, cmps, thn, els, rev⟩ := r
    unfold okKind at hk
    simp only [Bool.and_eq_true, decide_eq_true_eq] at hk
    obtain ⟨kd, rfl⟩ : ∃ kd : Nat, kind = kd := ⟨kind.toNat, by omega⟩
    obtain ⟨⟨ac, cc, e1, h1⟩, ⟨at1, ct, e2, h2⟩, ⟨ae, ce, e3, h3⟩⟩ := hr
    dsimp only at e1 e2 e3 h1 h2 h3
    subst e1 e2 e3
    refine (reqText_go kd (by omega) client num serial rev cmps thn els ac at1 ae cc ct ce hm.c0 hm.c1 hm.n0 hm.n1 hm.r0 hm.r1 hm.lc hm.lt hm.le hm.cmps hm.thn hm.els w hg ⟨ac, cc, rfl, h1⟩ ⟨at1, ct, rfl, h2⟩ ⟨ae, ce, rfl, h3⟩).mono ?_
    rintro e w' ⟨rfl, hk'⟩
    refine ⟨hk', .inl ⟨rfl, ?_⟩⟩
    unfold reqParts
    simp only [Int.toNat_natCast]

/-! ### what the rules write -/
/-- a step's text behind its word and node -/
def bodyText (k : Nat) (s : StepS) : Str := if k = 11 then [] else if k = 8 then 32 :: join (watchWords s.watch) else if k = 7 then 32 :: join (reqWords s.req) else 32 :: itoa s.n
def bodyOk (k : Nat) (s : StepS) : Bool := if k = 7 then okKind s.req else true
theorem ba_cons (x : Str) : (⟨#[32]⟩ : ByteArray) ++ ⟨x.toArray⟩ = ⟨(32 :: x).toArray⟩ := ba_append [32] x
set_option maxRecDepth 100000 in
theorem writeN_any (s : StepS) (vc vt ve : Value) (hm : MidStep s) (w : World) (hg : Glob w) :
    Calls Tryz.prog 77 #[.agg (stepCells s vc vt ve)] w (Gives (sv (32 :: itoa s.n)) w) := by
  obtain ⟨cs, hcs⟩ : ∃ cs, cs = stepCells s vc vt ve := ⟨_, rfl⟩
  have hc2 : cs[2]? = some (.int .u64 s.n) := by rw [hcs]; rfl
  have HG := Lib.hid hg
  have hm0 := hm.m0
  have hm1 := hm.m1
  have hl := itoa_len s.n
  rw [← hcs]
  clear hg hcs hm
  go_enter Tryz.func77, Tryz.ntmps77
  go_wp2_with fail
  have hkW : Keep (fun _ => False) w (w.alloc (.cells cs 63)) := (Keep.refl _ w).alloc _
  refine (num_text s.n hm0 hm1 _ (HG.out.far hkW)).mono ?_
  rintro e w1 ⟨rfl, hk⟩
  have HK := Lib.hid (hkW.trans' hk)
  clear hk hkW
  go_wp2_with fail
  go_ret
  refine ⟨?_, HK.out⟩
  first | exact congrArg Ending.returned (congrArg Value.string (ba_cons _)) | rfl
end Go.Proofs.YtifliekahdgobaaGreatDoor
namespace Go.Proofs.YtifliekahdgobaaGreatDoor
open Go.RowKit Sp
theorem Tryz.eg67 : Tryz.prog.eqGuardType Tryz.prog.depth 67 = false := by kernel_rfl
theorem Tryz.sh67 : Tryz.prog.stoodInHeld 67 = false := by kernel_rfl
set_option maxRecDepth 100000 in
theorem eqIn67 (w : World) (x y : OpS) : (Op.equalIn 10000 67 (.agg (opCells x)) (.agg (opCells y))).run Tryz.prog w = .ok (decide (x = y)) w := by
  obtain ⟨a0, a1, a2, a3, a4, a5, a6, a7, a8⟩ := x
  obtain ⟨b0, b1, b2, b3, b4, b5, b6, b7, b8⟩ := y
  unfold opCells
  rw [run_equalIn_agg w 9999 67 _ _ (by kernel_rfl) Tryz.sh67]
  rw [show (Tryz.prog.fieldsOf 67).toList = _ from by simp [Program.fieldsOf, Tryz.underlying67]; rfl]
  go_simp
  repeat' split
  all_goals simp [*]
theorem eql67 (x y : OpS) (w : World) : (binOp .eql 67 (.agg (opCells x)) (.agg (opCells y))).run Tryz.prog w = .ok (.bool (decide (x = y))) w := by
  rw [run_eql_struct, eqIn67]; rfl
theorem neq67 (x y : OpS) (w : World) : (binOp .neq 67 (.agg (opCells x)) (.agg (opCells y))).run Tryz.prog w = .ok (.bool (!decide (x = y))) w := by
  rw [run_neq_struct, eqIn67]; rfl
theorem grd67 (op : BinOp) (a b : Operand) (x y : OpS) (w : World) : (eqGuard op 67 a b (.agg (opCells x)) (.agg (opCells y))).run Tryz.prog w = .ok () w := run_eqGuard_agg w op 67 a b _ _ Tryz.eg67
theorem Tryz.eg65 : Tryz.prog.eqGuardType Tryz.prog.depth 65 = false := by kernel_rfl
theorem Tryz.sh65 : Tryz.prog.stoodInHeld 65 = false := by kernel_rfl
set_option maxRecDepth 100000 in
theorem eqIn65 (w : World) (x y : CmpS) : (Op.equalIn 10000 65 (.agg (cmpCells x)) (.agg (cmpCells y))).run Tryz.prog w = .ok (decide (x = y)) w := by
  obtain ⟨a0, a1, a2, a3, a4⟩ := x
  obtain ⟨b0, b1, b2, b3, b4⟩ := y
  unfold cmpCells
  rw [run_equalIn_agg w 9999 65 _ _ (by kernel_rfl) Tryz.sh65]
  rw [show (Tryz.prog.fieldsOf 65).toList = _ from by simp [Program.fieldsOf, Tryz.underlying65]; rfl]
  go_simp
  repeat' split
  all_goals simp [*]
theorem eql65 (x y : CmpS) (w : World) : (binOp .eql 65 (.agg (cmpCells x)) (.agg (cmpCells y))).run Tryz.prog w = .ok (.bool (decide (x = y))) w := by
  rw [run_eql_struct, eqIn65]; rfl
theorem neq65 (x y : CmpS) (w : World) : (binOp .neq 65 (.agg (cmpCells x)) (.agg (cmpCells y))).run Tryz.prog w = .ok (.bool (!decide (x = y))) w := by
  rw [run_neq_struct, eqIn65]; rfl
theorem grd65 (op : BinOp) (a b : Operand) (x y : CmpS) (w : World) : (eqGuard op 65 a b (.agg (cmpCells x)) (.agg (cmpCells y))).run Tryz.prog w = .ok () w := run_eqGuard_agg w op 65 a b _ _ Tryz.eg65
theorem Tryz.eg61 : Tryz.prog.eqGuardType Tryz.prog.depth 61 = false := by kernel_rfl
theorem Tryz.sh61 : Tryz.prog.stoodInHeld 61 = false := by kernel_rfl
set_option maxRecDepth 100000 in
theorem eqIn61 (w : World) (x y : WatchS) : (Op.equalIn 10000 61 (.agg (watchCells x)) (.agg (watchCells y))).run Tryz.prog w = .ok (decide (x = y)) w := by
  obtain ⟨a0, a1, a2, a3, a4, a5, a6, a7⟩ := x
  obtain ⟨b0, b1, b2, b3, b4, b5, b6, b7⟩ := y
  unfold watchCells
  rw [run_equalIn_agg w 9999 61 _ _ (by kernel_rfl) Tryz.sh61]
  rw [show (Tryz.prog.fieldsOf 61).toList = _ from by simp [Program.fieldsOf, Tryz.underlying61]; rfl]
  go_simp
  repeat' split
  all_goals simp [*]
theorem eql61 (x y : WatchS) (w : World) : (binOp .eql 61 (.agg (watchCells x)) (.agg (watchCells y))).run Tryz.prog w = .ok (.bool (decide (x = y))) w := by
  rw [run_eql_struct, eqIn61]; rfl
theorem neq61 (x y : WatchS) (w : World) : (binOp .neq 61 (.agg (watchCells x)) (.agg (watchCells y))).run Tryz.prog w = .ok (.bool (!decide (x = y))) w := by
  rw [run_neq_struct, eqIn61]; rfl
theorem grd61 (op : BinOp) (a b : Operand) (x y : WatchS) (w : World) : (eqGuard op 61 a b (.agg (watchCells x)) (.agg (watchCells y))).run Tryz.prog w = .ok () w := run_eqGuard_agg w op 61 a b _ _ Tryz.eg61
end Go.Proofs.YtifliekahdgobaaGreatDoor
namespace Go.Proofs.YtifliekahdgobaaGreatDoor
open Go.RowKit Sp

/-- a call that hands back a bool, and only lays new blocks -/
def Tells (b : Bool) (w : World) (e : Ending) (w' : World) : Prop := e = .returned (.bool b) ∧ Keep (fun _ => False) w w'
theorem range_sub {w : World} {b : Nat} {cs : Array Value} {t : TypeId} {f : Nat × Nat} (h : w.heap[b]? = some (.cells cs t f)) (o : Nat) (sub : List Value) (hs : ∀ j u, sub[j]? = some u → cs[o + j]? = some u) : w.rangeAt b o sub := fun j v hv => by
  simp only [World.cell?, h]
  exact hs j v hv
theorem step_req (s : StepS) (vc vt ve : Value) : ∀ j u, (reqCells s.req vc vt ve).toList[j]? = some u → (stepCells s vc vt ve)[3 + j]? = some u := by
  intro j u h
  have hj : j < 8 := (List.getElem?_eq_some_iff.1 h).1
  rcases (by omega : j = 0 ∨ j = 1 ∨ j = 2 ∨ j = 3 ∨ j = 4 ∨ j = 5 ∨ j = 6 ∨ j = 7) with rfl | rfl | rfl | rfl | rfl | rfl | rfl | rfl <;> exact h
theorem step_watch (s : StepS) (vc vt ve : Value) : ∀ j u, (watchCells s.watch).toList[j]? = some u → (stepCells s vc vt ve)[11 + j]? = some u := by
  intro j u h
  have hj : j < 8 := (List.getElem?_eq_some_iff.1 h).1
  rcases (by omega : j = 0 ∨ j = 1 ∨ j = 2 ∨ j = 3 ∨ j = 4 ∨ j = 5 ∨ j = 6 ∨ j = 7) with rfl | rfl | rfl | rfl | rfl | rfl | rfl | rfl <;> exact h
/-- what a step's block gives -/
structure StepBlk (w : World) (N : Nat) (s : StepS) (vc vt ve : Value) : Prop where
  blk : w.heap[N]? = some (.cells (stepCells s vc vt ve) 63 (0, 0))
theorem StepBlk.req {w : World} {N : Nat} {s : StepS} {vc vt ve : Value} (h : StepBlk w N s vc vt ve) : (ldT 59 (.pointer (some ⟨N, 3, none⟩))).run Tryz.prog w = .ok (.value (.agg (reqCells s.req vc vt ve))) w :=
  run_ld59 w N 3 _ rfl (range_sub h.blk 3 _ (step_req s vc vt ve))
theorem StepBlk.watch {w : World} {N : Nat} {s : StepS} {vc vt ve : Value} (h : StepBlk w N s vc vt ve) : (ldT 61 (.pointer (some ⟨N, 11, none⟩))).run Tryz.prog w = .ok (.value (.agg (watchCells s.watch))) w :=
  run_ld61 w N 11 _ rfl (range_sub h.blk 11 _ (step_watch s vc vt ve))
theorem StepBlk.keep {M : Nat → Prop} {w w' : World} {N : Nat} {s : StepS} {vc vt ve : Value} (h : StepBlk w N s vc vt ve) (hk : Keep M w w') (hM : ¬ M N) : StepBlk w' N s vc vt ve := ⟨hk.at' h.blk hM⟩
end Go.Proofs.YtifliekahdgobaaGreatDoor
