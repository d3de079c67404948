/-
  errors.As, errors.Is at a fault; told. Helpers of the claims.
  errors.As at a fault. Helpers of the claims.
  errors.Is at a fault; told. Helpers of the claims.
  THE WALKS, 1: must, word. Helpers of the claims.
  THE WALKS, 2: upTo, num, small. Helpers of the claims.
  THE WALKS, 3: small, bytes. Helpers of the claims.
-/
import Derived.Stop.Asserts
import Derived.LaidEql
import Derived.RowKitTokens
import Derived.Test.YtifliekahdgobaaGreatDoorJSpecToRow0
set_option linter.unusedSimpArgs false
set_option linter.unusedVariables false
namespace Go.Proofs.YtifliekahdgobaaGreatDoor
open Go.RowKit Go.Extern.Stop Go.Stop Go.Extern

theorem Tryz.handle (n : Nat) (h : n = 26 ∨ n = 74 ∨ n = 78 ∨ n = 30) : typeHandle Tryz.prog n = .pointer (some ⟨9, n, none⟩) := by
  rcases h with rfl | rfl | rfl | rfl <;> kernel_rfl
theorem as_nil (t : Value) (w : World) : Calls Tryz.prog 30 #[.nilIface, t] w fun e w' => e = .returned (.bool false) ∧ w' = w := by
  go_enter Tryz.func30, Tryz.ntmps30
  go_wp2
  go_ret
  exact ⟨rfl, rfl⟩
/-! ### closed facts on the model's entries for internal/reflectlite, at *Fault (74), **Fault (78), error (26), rtype (172), Errno (30) -/
theorem Tryz.valueOf78 (t : Addr) (w : World) : (ReflectliteValue.unpack (.iface 78 (.pointer (some t)))).run Tryz.prog w
    = .ok (.agg #[.pointer (some ⟨9, 78, none⟩), .pointer (some ⟨w.heap.size, 0, none⟩), .int .u64 150]) (w.alloc (.cells #[.pointer (some t)] 78)) := by kernel_rfl
theorem Tryz.type78 (a : Addr) (w : World) : (ReflectliteValue.methodAny (ReflectliteValue.valueError "reflectlite.Value.Type" 0) (fun t _ _ _ => ReflectliteType.toType t) #[.agg #[.pointer (some ⟨9, 78, none⟩), .pointer (some a), .int .u64 150]]).run Tryz.prog w
    = .ok (.iface 172 (.agg #[.pointer (some ⟨9, 78, none⟩)])) w := by kernel_rfl
theorem Tryz.kind78 (w : World) : ((ReflectliteType.abiMethod fun t => (fun a : Nat => Value.int IntKind.u8 (a : Int)) <$> Rtype.kind t) #[.pointer (some ⟨9, 78, none⟩)]).run Tryz.prog w = .ok (.int .u8 22) w := by kernel_rfl
theorem Tryz.kind74 (w : World) : ((ReflectliteType.abiMethod fun t => (fun a : Nat => Value.int IntKind.u8 (a : Int)) <$> Rtype.kind t) #[.pointer (some ⟨9, 74, none⟩)]).run Tryz.prog w = .ok (.int .u8 22) w := by kernel_rfl
theorem rlm (z : Sem Value) (f : TypeId → Addr → Nat → Nat → Sem Value) (v : Value) :
    ReflectliteValue.method z f #[v] = (do match ← ReflectliteValue.parts v with | none => z | some (t, a, fl) => f t a fl (fl % 32)) := rfl
theorem Tryz.parts78 (a : Addr) (w : World) : (ReflectliteValue.parts (.agg #[.pointer (some ⟨9, 78, none⟩), .pointer (some a), .int .u64 150])).run Tryz.prog w = .ok (some (78, a, 150)) w := by kernel_rfl
theorem Tryz.isNil78 (a p : Addr) (W : World) (ha : W.cell? a = some (.pointer (some p))) :
    (ReflectliteValue.method (ReflectliteValue.valueError "reflectlite.Value.IsNil" 0) ReflectliteValue.isNil #[.agg #[.pointer (some ⟨9, 78, none⟩), .pointer (some a), .int .u64 150]]).run Tryz.prog W = .ok (.bool false) W := by
  rw [rlm]
  simp only [Sem.run_bind, Tryz.parts78, Result.andThen]
  simp [ReflectliteValue.isNil, loadVar, isAgg, underlying, Tryz.underlying78, ha, Result.andThen]
theorem Tryz.elem78 (w : World) : (ReflectliteType.method ReflectliteType.elem #[.agg #[.pointer (some ⟨9, 78, none⟩)]]).run Tryz.prog w = .ok (.iface 172 (.agg #[.pointer (some ⟨9, 74, none⟩)])) w := by kernel_rfl
theorem Tryz.implements74 (w : World) : (ReflectliteType.relation "Implements" ReflectliteType.implements_ #[.agg #[.pointer (some ⟨9, 74, none⟩)], .iface 172 (.agg #[.pointer (some ⟨9, 26, none⟩)])]).run Tryz.prog w = .ok (.bool true) w := by kernel_rfl
theorem Tryz.typeOf74 (v : Value) (w : World) : (ReflectliteType.typeOf #[.iface 74 v]).run Tryz.prog w = .ok (.iface 172 (.agg #[.pointer (some ⟨9, 74, none⟩)])) w := by kernel_rfl
theorem Tryz.assignable74 (w : World) : (ReflectliteType.relation "AssignableTo" ReflectliteType.assignableTo #[.agg #[.pointer (some ⟨9, 74, none⟩)], .iface 172 (.agg #[.pointer (some ⟨9, 74, none⟩)])]).run Tryz.prog w = .ok (.bool true) w := by kernel_rfl
theorem Tryz.valueOf74 (e : Addr) (w : World) : (ReflectliteValue.unpack (.iface 74 (.pointer (some e)))).run Tryz.prog w
    = .ok (.agg #[.pointer (some ⟨9, 74, none⟩), .pointer (some ⟨w.heap.size, 0, none⟩), .int .u64 150]) (w.alloc (.cells #[.pointer (some e)] 74)) := by kernel_rfl
theorem Tryz.elemOf78 (w : World) : (Rtype.elem? 78).run Tryz.prog w = .ok (some 74) w := by kernel_rfl
theorem Tryz.mk74 (p : Addr) (w : World) : (ReflectliteValue.mk 74 p ReflectliteValue.flagAddr).run Tryz.prog w = .ok (.agg #[.pointer (some ⟨9, 74, none⟩), .pointer (some p), .int .u64 406]) w := by kernel_rfl
theorem Tryz.elemV78 (a p : Addr) (W : World) (ha : W.cell? a = some (.pointer (some p))) :
    (ReflectliteValue.method (ReflectliteValue.valueError "reflectlite.Value.Elem" 0) ReflectliteValue.elem #[.agg #[.pointer (some ⟨9, 78, none⟩), .pointer (some a), .int .u64 150]]).run Tryz.prog W
      = .ok (.agg #[.pointer (some ⟨9, 74, none⟩), .pointer (some p), .int .u64 406]) W := by
  rw [rlm]
  simp only [Sem.run_bind, Tryz.parts78, Result.andThen]
  simp [ReflectliteValue.elem, loadVar, isAgg, underlying, Tryz.underlying78, ha, Result.andThen, Tryz.elemOf78, Tryz.mk74]
theorem rls (v x : Value) : ReflectliteValue.set #[v, x] = (do
    let (some (dst, a, fl), some (src, b, _)) := (← ReflectliteValue.parts v, ← ReflectliteValue.parts x)
      | unsupported (.noEntry "extern/(internal/reflectlite.Value).Set.zeroValue")
    if fl / ReflectliteValue.flagAddr % 2 == 0 then unsupported (.noEntry "extern/(internal/reflectlite.Value).Set.unaddressable")
    let val ← loadVar src b
    if ← Rtype.directlyAssignable dst src then storeVar dst a val
    else if ← Rtype.implements dst src then
      if (← Rtype.kind src) == 20 then
        match val with
        | .nilIface => unsupported (.noEntry "extern/reflectlite: a nil value of one interface type handed on as a value of another")
        | _ => storeVar dst a val
      else storeVar dst a (.iface src val)
    else panicString ("reflectlite.Set: value of type " ++ (← Rtype.spelt src) ++ " is not assignable to type " ++ (← Rtype.spelt dst))
    pure (.tuple #[])) := rfl
theorem Tryz.parts74a (a : Addr) (w : World) : (ReflectliteValue.parts (.agg #[.pointer (some ⟨9, 74, none⟩), .pointer (some a), .int .u64 406])).run Tryz.prog w = .ok (some (74, a, 406)) w := by kernel_rfl
theorem Tryz.parts74 (a : Addr) (w : World) : (ReflectliteValue.parts (.agg #[.pointer (some ⟨9, 74, none⟩), .pointer (some a), .int .u64 150])).run Tryz.prog w = .ok (some (74, a, 150)) w := by kernel_rfl
theorem Tryz.direct74 (w : World) : (Rtype.directlyAssignable 74 74).run Tryz.prog w = .ok true w := by kernel_rfl
theorem Tryz.set74 (ta b e : Addr) (old : Value) (W : World) (hb : W.cell? b = some (.pointer (some e))) (ht : W.cell? ta = some old) (hf : W.frozen? ta = false) :
    (ReflectliteValue.set #[.agg #[.pointer (some ⟨9, 74, none⟩), .pointer (some ta), .int .u64 406], .agg #[.pointer (some ⟨9, 74, none⟩), .pointer (some b), .int .u64 150]]).run Tryz.prog W
      = .ok (.tuple #[]) (W.setCell ta (.pointer (some e))) := by
  rw [rls]
  simp only [Sem.run_bind, Tryz.parts74a, Tryz.parts74, Result.andThen]
  simp [ReflectliteValue.flagAddr, loadVar, isAgg, underlying, Tryz.underlying74, hb, Result.andThen, Tryz.direct74, storeVar, Value.cells, storeCells, Addr.add]
  rw [run_store Tryz.prog W ta _ _ (by rfl)]
  simp [ht, hf]
theorem Tryz.mKind (h : Value) (w : World) : (Go.method 374 172 (.agg #[h]) "Kind").run Tryz.prog w = .ok (185, h) w := by kernel_rfl
theorem Tryz.mElem (h : Value) (w : World) : (Go.method 374 172 (.agg #[h]) "Elem").run Tryz.prog w = .ok (198, .agg #[h]) w := by kernel_rfl
theorem Tryz.mImpl (h : Value) (w : World) : (Go.method 374 172 (.agg #[h]) "Implements").run Tryz.prog w = .ok (199, .agg #[h]) w := by kernel_rfl
theorem Tryz.mAssign (h : Value) (w : World) : (Go.method 374 172 (.agg #[h]) "AssignableTo").run Tryz.prog w = .ok (196, .agg #[h]) w := by kernel_rfl
theorem Tryz.mComp (h : Value) (w : World) : (Go.method 374 172 (.agg #[h]) "Comparable").run Tryz.prog w = .ok (197, .agg #[h]) w := by kernel_rfl
end Go.Proofs.YtifliekahdgobaaGreatDoor
namespace Go.Proofs.YtifliekahdgobaaGreatDoor
open Go.RowKit Go.Extern.Stop Go.Stop Go.Extern

set_option maxRecDepth 100000 in
set_option maxHeartbeats 4000000 in
theorem as62 (e t a : Addr) (old : Value) (w : World) (ha : w.cell? a = some (.pointer (some t))) (ht0 : w.cell? t = some old) (hf0 : w.frozen? t = false) :
    Calls Tryz.prog 62 #[.iface 74 (.pointer (some e)), .iface 78 (.pointer (some t)), .agg #[.pointer (some ⟨9, 78, none⟩), .pointer (some a), .int .u64 150], .iface 172 (.agg #[.pointer (some ⟨9, 74, none⟩)])] w
      fun ev w' => ev = .returned (.bool true) ∧ w' = ((w.alloc (.cells #[.pointer (some ⟨9, 78, none⟩), .pointer (some a), .int .u64 150] 131)).alloc (.cells #[.pointer (some e)] 74)).setCell t (.pointer (some e)) := by
  have h59 := @run_callFunc_extern Tryz.prog 59 _ (fun args => ReflectliteValue.unpack (args.getD 0 (.tuple #[]))) Tryz.func59 (by kernel_rfl) (by kernel_rfl) (by kernel_rfl) (by kernel_rfl)
  have h63 := @run_callFunc_extern Tryz.prog 63 _ ReflectliteType.typeOf Tryz.func63 (by kernel_rfl) (by kernel_rfl) (by kernel_rfl) (by kernel_rfl)
  have h196 := @run_callFunc_extern Tryz.prog 196 _ (ReflectliteType.relation "AssignableTo" ReflectliteType.assignableTo) Tryz.func196 (by kernel_rfl) (by kernel_rfl) (by kernel_rfl) (by kernel_rfl)
  have h100 := @run_callFunc_extern Tryz.prog 100 _ (ReflectliteValue.method (ReflectliteValue.valueError "reflectlite.Value.Elem" 0) ReflectliteValue.elem) Tryz.func100 (by kernel_rfl) (by kernel_rfl) (by kernel_rfl) (by kernel_rfl)
  have h101 := @run_callFunc_extern Tryz.prog 101 _ ReflectliteValue.set Tryz.func101 (by kernel_rfl) (by kernel_rfl) (by kernel_rfl) (by kernel_rfl)
  have tO := Tryz.typeOf74
  have mA := Tryz.mAssign
  have a74 := Tryz.assignable74
  have v74 := Tryz.valueOf74
  have hal : a.block < w.heap.size := World.block_lt_of_cell? _ _ ha
  have htl : t.block < w.heap.size := World.block_lt_of_cell? _ _ ht0
  have el := Tryz.elemV78 a t (w.alloc (.cells #[.pointer (some ⟨9, 78, none⟩), .pointer (some a), .int .u64 150] 131)) (by rw [World.cell?_alloc_lt _ _ a hal]; exact ha)
  have st := Tryz.set74 t ⟨w.heap.size + 1, 0, none⟩ e old ((w.alloc (.cells #[.pointer (some ⟨9, 78, none⟩), .pointer (some a), .int .u64 150] 131)).alloc (.cells #[.pointer (some e)] 74))
    (by rw [World.cell?_alloc_at _ _ _ _ (by simp)]; rfl)
    (by rw [World.cell?_alloc_lt _ _ t (by simp; omega), World.cell?_alloc_lt _ _ t htl]; exact ht0)
    (by rw [World.frozen?_alloc_old _ _ t (by simp; omega), World.frozen?_alloc_old _ _ t (Nat.ne_of_lt htl)]; exact hf0)
  go_enter Tryz.func62, Tryz.ntmps62
  go_wp2
  refine wp_loop_rounds 1 ?_
  rw [rounds_succ]
  go_wp2
  go_ret
  exact ⟨rfl, rfl⟩
set_option maxRecDepth 100000 in
set_option maxHeartbeats 4000000 in
theorem as_hit (e t : Addr) (old : Value) (w : World) (hg : w.cell? ⟨0, 0, none⟩ = some (.iface 172 (.agg #[.pointer (some ⟨9, 26, none⟩)]))) (ht0 : w.cell? t = some old) (hf0 : w.frozen? t = false) :
    Calls Tryz.prog 30 #[.iface 74 (.pointer (some e)), .iface 78 (.pointer (some t))] w fun ev w' => ev = .returned (.bool true) ∧ Keep (fun b => b = t.block) w w' ∧ w'.cell? t = some (.pointer (some e)) := by
  have h59 := @run_callFunc_extern Tryz.prog 59 _ (fun args => ReflectliteValue.unpack (args.getD 0 (.tuple #[]))) Tryz.func59 (by kernel_rfl) (by kernel_rfl) (by kernel_rfl) (by kernel_rfl)
  have h60 := @run_callFunc_extern Tryz.prog 60 _ (ReflectliteValue.methodAny (ReflectliteValue.valueError "reflectlite.Value.Type" 0) (fun t _ _ _ => ReflectliteType.toType t)) Tryz.func60 (by kernel_rfl) (by kernel_rfl) (by kernel_rfl) (by kernel_rfl)
  have h61 := @run_callFunc_extern Tryz.prog 61 _ (ReflectliteValue.method (ReflectliteValue.valueError "reflectlite.Value.IsNil" 0) ReflectliteValue.isNil) Tryz.func61 (by kernel_rfl) (by kernel_rfl) (by kernel_rfl) (by kernel_rfl)
  have h185 := @run_callFunc_extern Tryz.prog 185 _ (ReflectliteType.abiMethod fun t => do pure (.int .u8 (← Rtype.kind t))) Tryz.func185 (by kernel_rfl) (by kernel_rfl) (by kernel_rfl) (by kernel_rfl)
  have h198 := @run_callFunc_extern Tryz.prog 198 _ (ReflectliteType.method ReflectliteType.elem) Tryz.func198 (by kernel_rfl) (by kernel_rfl) (by kernel_rfl) (by kernel_rfl)
  have h199 := @run_callFunc_extern Tryz.prog 199 _ (ReflectliteType.relation "Implements" ReflectliteType.implements_) Tryz.func199 (by kernel_rfl) (by kernel_rfl) (by kernel_rfl) (by kernel_rfl)
  have f59 := Tryz.valueOf78
  have f60 := Tryz.type78
  have k78 := Tryz.kind78
  have k74 := Tryz.kind74
  have el78 := Tryz.elem78
  have i74 := Tryz.implements74
  have mK := Tryz.mKind
  have mE := Tryz.mElem
  have mI := Tryz.mImpl
  have hlt : 0 < w.heap.size := World.block_lt_of_cell? _ _ hg
  have htl : t.block < w.heap.size := World.block_lt_of_cell? _ _ ht0
  obtain ⟨W, hW⟩ : ∃ W : World, W = (w.alloc (.cells #[.pointer (some t)] 78)).alloc (.cells #[.pointer (some ⟨9, 78, none⟩), .pointer (some ⟨w.heap.size, 0, none⟩), .int .u64 150] 131) := ⟨_, rfl⟩
  have hkW : Keep (fun _ => False) w W := by rw [hW]; exact ((Keep.refl _ w).alloc _).alloc _
  have hcA : W.cell? ⟨w.heap.size, 0, none⟩ = some (.pointer (some t)) := by rw [hW]; exact cell_of_block (block_alloc (block_new _ _) _) 0
  have n8 := Tryz.isNil78 ⟨w.heap.size, 0, none⟩ t W hcA
  have hg2 := hkW.cellOf hg (fun e => e)
  have htW := hkW.cellOf ht0 (fun e => e)
  have hfW : W.frozen? t = false := by rw [hkW.frozen htl (fun e => e)]; exact hf0
  have H62 := Lib.hid (as62 e t ⟨w.heap.size, 0, none⟩ old W hcA htW hfW)
  have HKW := Lib.hid hkW
  have HTW := Lib.hid htW
  have HTL := Lib.hid (Nat.lt_of_lt_of_le htl hkW.size)
  rw [hW] at n8 hg2
  have HW := Lib.hid hW
  clear hW hkW hcA htW hfW ht0 hf0 hg
  go_enter Tryz.func30, Tryz.ntmps30
  go_wp2_with fail
  rw [← HW.out]
  refine H62.out.mono ?_
  rintro ev w1 ⟨rfl, rfl⟩
  have hk1 : Keep (fun b => b = t.block) W (((W.alloc (.cells #[.pointer (some ⟨9, 78, none⟩), .pointer (some ⟨w.heap.size, 0, none⟩), .int .u64 150] 131)).alloc (.cells #[.pointer (some e)] 74)).setCell t (.pointer (some e))) := (((Keep.refl _ W).alloc _).alloc _).setCell _ _ (.inr rfl)
  have hct : (((W.alloc (.cells #[.pointer (some ⟨9, 78, none⟩), .pointer (some ⟨w.heap.size, 0, none⟩), .int .u64 150] 131)).alloc (.cells #[.pointer (some e)] 74)).setCell t (.pointer (some e))).cell? t = some (.pointer (some e)) := by
    exact World.cell?_setCell_same _ _ _ (by
      rw [World.cell?_alloc_lt _ _ t (by simp; have := HTL.out; omega), World.cell?_alloc_lt _ _ t HTL.out]
      exact HTW.out)
  have HK1 := Lib.hid hk1
  have HCT := Lib.hid hct
  clear hk1 hct
  go_wp2_with fail
  go_ret
  exact ⟨rfl, (HKW.out.mono (fun _ _ e => e.elim)).trans' HK1.out, HCT.out⟩
end Go.Proofs.YtifliekahdgobaaGreatDoor
namespace Go.Proofs.YtifliekahdgobaaGreatDoor
open Go.RowKit Go.Extern.Stop Go.Stop Go.Extern

theorem Tryz.int30 : Tryz.prog.underlying 30 = some (.int .i64) := Tryz.underlying30
theorem Tryz.comp30 : (Tryz.prog.info? 30).map (·.comparable) = some true := by kernel_rfl
theorem equalIn_errno (w : World) (d : Nat) (a b : Int) : (Op.equalIn (d + 2) 26 (.iface 30 (.int .i64 a)) (.iface 30 (.int .i64 b))).run Tryz.prog w = .ok (a == b) w := by
  obtain ⟨i, hi, hc⟩ := Option.map_eq_some_iff.1 Tryz.comp30
  simp [Op.equalIn, run_underlying Tryz.underlying26, run_underlying Tryz.underlying30, typeInfo, hi, hc]
/-- 'x == y', both errors of the number's type: as the numbers are -/
theorem eql_errno (w : World) (a b : Int) : (binOp .eql 26 (.iface 30 (.int .i64 a)) (.iface 30 (.int .i64 b))).run Tryz.prog w = .ok (.bool (a == b)) w := by
  simp only [binOp]
  simp [Op.equal, Op.maxDepth, equalIn_errno w 9998 a b]
theorem eql_other (w : World) (e : Addr) (c : Int) : (binOp .eql 26 (.iface 74 (.pointer (some e))) (.iface 30 (.int .i64 c))).run Tryz.prog w = .ok (.bool false) w := by kernel_rfl
theorem ta184 (w : World) (e : Addr) : (Instr.typeAssert (.iface 74 (.pointer (some e))) 26 184 true).run Tryz.prog w = .ok (.tuple #[.nilIface, .bool false]) w := run_typeAssert_lacksB Tryz.underlying184 (by kernel_rfl) (by kernel_rfl) (.pointer (some e)) 26 w
theorem ta179 (w : World) (e : Addr) : (Instr.typeAssert (.iface 74 (.pointer (some e))) 26 179 true).run Tryz.prog w = .ok (.tuple #[.iface 74 (.pointer (some e)), .bool true]) w := by kernel_rfl
theorem mUnwrap (w : World) (e : Addr) : (Go.method 374 74 (.pointer (some e)) "Unwrap").run Tryz.prog w = .ok (190, .pointer (some e)) w := by kernel_rfl
theorem Tryz.typeOf30 (v : Value) (w : World) : (ReflectliteType.typeOf #[.iface 30 v]).run Tryz.prog w = .ok (.iface 172 (.agg #[.pointer (some ⟨9, 30, none⟩)])) w := by kernel_rfl
set_option maxRecDepth 100000 in
theorem unwrap_any (b : Nat) (c a : Int) (w : World) (h : w.heap[b]? = some (.cells #[.int .i64 c, .int .i64 a] 32 (0, 0))) :
    Calls Tryz.prog 190 #[.pointer (some ⟨b, 0, none⟩)] w fun e w' => e = .returned (.iface 30 (.int .i64 c)) ∧ w = w' := by
  have hc : w.cell? ⟨b, 0, none⟩ = some (.int .i64 c) := cell_of_block h 0
  clear h
  go_enter Tryz.func190, Tryz.ntmps190
  go_wp2
  go_ret
  exact ⟨rfl, rfl⟩
set_option maxRecDepth 100000 in
set_option maxHeartbeats 4000000 in
theorem is64 (b : Nat) (c a : Int) (w : World) (h : w.heap[b]? = some (.cells #[.int .i64 c, .int .i64 a] 32 (0, 0))) :
    Calls Tryz.prog 64 #[.iface 74 (.pointer (some ⟨b, 0, none⟩)), .iface 30 (.int .i64 c), .bool true] w fun e w' => e = .returned (.bool true) ∧ w = w' := by
  have e1 := fun w => eql_other w ⟨b, 0, none⟩ c
  have e2 := fun w => eql_errno w c c
  have t1 := fun w => ta184 w ⟨b, 0, none⟩
  have t2 := fun w => ta179 w ⟨b, 0, none⟩
  have m1 := fun w => mUnwrap w ⟨b, 0, none⟩
  have HU := Lib.hid (unwrap_any b c a w h)
  clear h
  go_enter Tryz.func64, Tryz.ntmps64
  go_wp2_with fail
  refine wp_loop_rounds 2 ?_
  rw [rounds_succ]
  go_wp2_with fail
  refine HU.out.mono ?_
  rintro ev w' ⟨rfl, rfl⟩
  have hcc : (c == c) = true := by simp
  go_wp2_with fail
  rw [rounds_succ]
  go_wp2_with fail
  go_ret
  exact ⟨rfl, rfl⟩
theorem Tryz.comparable30 (w : World) : (ReflectliteType.method (fun t => do Rtype.noPackHeld "Comparable" t; (fun a => Value.bool a.comparable) <$> typeInfo t) #[.agg #[.pointer (some ⟨9, 30, none⟩)]]).run Tryz.prog w = .ok (.bool true) w := by kernel_rfl
set_option maxRecDepth 100000 in
set_option maxHeartbeats 4000000 in
theorem is_hit (b : Nat) (c a : Int) (w : World) (h : w.heap[b]? = some (.cells #[.int .i64 c, .int .i64 a] 32 (0, 0))) :
    Calls Tryz.prog 31 #[.iface 74 (.pointer (some ⟨b, 0, none⟩)), .iface 30 (.int .i64 c)] w fun e w' => e = .returned (.bool true) ∧ w = w' := by
  have h63 := @run_callFunc_extern Tryz.prog 63 _ ReflectliteType.typeOf Tryz.func63 (by kernel_rfl) (by kernel_rfl) (by kernel_rfl) (by kernel_rfl)
  have h197 := @run_callFunc_extern Tryz.prog 197 _ (ReflectliteType.method (fun t => do Rtype.noPackHeld "Comparable" t; pure (.bool (← typeInfo t).comparable))) Tryz.func197 (by kernel_rfl) (by kernel_rfl) (by kernel_rfl) (by kernel_rfl)
  have tO := Tryz.typeOf30
  have mC := Tryz.mComp
  have c30 := Tryz.comparable30
  have H := Lib.hid (is64 b c a w h)
  clear h
  go_enter Tryz.func31, Tryz.ntmps31
  go_wp2_with fail
  refine H.out.mono ?_
  rintro ev w' ⟨rfl, rfl⟩
  go_wp2_with fail
  go_ret
  exact ⟨rfl, rfl⟩
end Go.Proofs.YtifliekahdgobaaGreatDoor
namespace Go.Proofs.YtifliekahdgobaaGreatDoor
open Go.RowKit Sp

theorem must_ok (n : Int) (w : World) : Calls Tryz.prog 54 #[.bool true, .int .i64 n] w fun e w' => e = .returned (.tuple #[]) ∧ w = w' := by
  go_enter Tryz.func54, Tryz.ntmps54
  go_wp2
  go_end0
  exact ⟨rfl, rfl⟩
theorem must_no (n : Int) (w : World) : Calls Tryz.prog 54 #[.bool false, .int .i64 n] w fun e w' => e = gaveUp n ∧ w = w' := by
  go_enter Tryz.func54, Tryz.ntmps54
  go_wp2
  exact ⟨rfl, rfl, rfl⟩
/-- 'must', whatever it is asked -/
def MustEnd (b : Bool) (n : Int) (w : World) (e : Ending) (w' : World) : Prop := w = w' ∧ ((b = true ∧ e = .returned (.tuple #[])) ∨ (b = false ∧ e = gaveUp n))
theorem must_any (b : Bool) (n : Int) (w : World) : Calls Tryz.prog 54 #[.bool b, .int .i64 n] w (MustEnd b n w) := by
  cases b
  · exact (must_no n w).mono fun e w' ⟨h1, h2⟩ => ⟨h2, .inr ⟨rfl, h1⟩⟩
  · exact (must_ok n w).mono fun e w' ⟨h1, h2⟩ => ⟨h2, .inl ⟨rfl, h1⟩⟩

theorem word_some (lb rb : Nat) (x : Str) (ws : List Str) (w : World) (h : LineAt w lb rb (x :: ws)) :
    Calls Tryz.prog 92 #[.pointer (some ⟨lb, 0, none⟩)] w fun e w' => e = .returned (sv x) ∧ Keep (fun b => b = lb) w w' ∧ LineAt w' lb rb ws := by
  obtain ⟨off, c, h1, h2, h3, h4, h5, h6⟩ := h
  simp only [List.length_cons] at h1 h2
  generalize hn : ws.length = n at h1 h2
  have HN := Lib.hid hn
  clear hn
  have H5 := Lib.hid h5
  have H6 := Lib.hid h6
  have hx : w.cell? ⟨rb, off, none⟩ = some (sv x) := h5 0 x rfl
  clear h5 h6
  have hl := cell_of_one h1
  have hf := free_of_one h1
  have fin : ∀ off' c', (n = 0 ∨ off' = off + 1) → n ≤ c' → c' ≤ 1099511627776 → Keep (fun b => b = lb) w (w.setCell ⟨lb, 0, none⟩ (.slice (some ⟨rb, off', none⟩) n c')) ∧ LineAt (w.setCell ⟨lb, 0, none⟩ (.slice (some ⟨rb, off', none⟩) n c')) lb rb ws := by
    intro off' c' ho hc hc'
    have hk : Keep (fun b => b = lb) w (w.setCell ⟨lb, 0, none⟩ (.slice (some ⟨rb, off', none⟩) n c')) := (Keep.refl _ w).setCell _ _ (.inr rfl)
    refine ⟨hk, off', c', ?_, by rw [HN.out]; exact hc, hc', h4, ?_, H6.out.tail⟩
    · rw [HN.out]; exact one_setCell h1
    · rcases ho with ho | ho
      · intro i y hy
        have : ws = [] := List.length_eq_zero_iff.1 (HN.out.trans ho)
        subst this
        simp at hy
      · subst ho
        exact H5.out.tail.keep hk (fun e => h4 e)
  have FIN := Lib.hid fin
  clear fin H5 H6 HN h1
  have h4' : ¬ rb = lb := h4
  go_enter Tryz.func92, Tryz.ntmps92
  go_wp2_with (go_at_call 54; refine (must_ok _ _).mono ?_; rintro e w' ⟨rfl, rfl⟩)
  · go_ret
    exact ⟨rfl, FIN.out _ _ (.inl (by omega)) (by omega) (by omega)⟩
  · go_ret
    exact ⟨rfl, FIN.out _ _ (.inr rfl) (by omega) (by omega)⟩
theorem word_none (lb rb : Nat) (w : World) (h : LineAt w lb rb []) :
    Calls Tryz.prog 92 #[.pointer (some ⟨lb, 0, none⟩)] w fun e w' => e = gaveUp 4 ∧ Keep (fun b => b = lb) w w' := by
  obtain ⟨off, c, h1, h2, h3, h4, h5, h6⟩ := h
  have hl := cell_of_one h1
  simp only [List.length_nil] at hl
  clear h5 h6 h1 h2 h3
  go_enter Tryz.func92, Tryz.ntmps92
  go_wp2_with (go_at_call 54; refine (must_no _ _).mono ?_; rintro e w' ⟨rfl, rfl⟩)
  exact ⟨rfl, rfl, Keep.refl _ _⟩
end Go.Proofs.YtifliekahdgobaaGreatDoor
namespace Go.Proofs.YtifliekahdgobaaGreatDoor
open Go.RowKit Sp

/-- what a reader comes to: the value, and the words that are left; or it gives up by ErrForm. Of the old blocks only the line turns. -/
def Got {α : Type} (enc : α → Value) (lb rb : Nat) (w : World) (o : Option (α × List Str)) (e : Ending) (w' : World) : Prop :=
  Keep (fun b => b = lb) w w' ∧ match o with
    | some (a, r) => e = .returned (enc a) ∧ LineAt w' lb rb r
    | none => e = gaveUp 4
def u64v (n : Int) : Value := .int .u64 n
def i64v (n : Int) : Value := .int .i64 n

theorem trim_any (x : Str) (w : World) (hx : x.length ≤ 4294967296) : Calls Tryz.prog 93 #[.string ⟨x.toArray⟩, .string ⟨#[48, 49, 50, 51, 52, 53, 54, 55, 56, 57]⟩] w fun e w' => e = .returned (.string ⟨(Lib.trimS x digs).toArray⟩) ∧ Keep (fun _ => False) w w' :=
  (Any.strings_Trim_laid Tryz.lays160 (by kernel_rfl) ⟨x.toArray⟩ ⟨#[48, 49, 50, 51, 52, 53, 54, 55, 56, 57]⟩ w (by show x.toArray.size ≤ _; simp; omega) (by decide) (ascii_of_all (by decide))).mono fun _ _ ⟨h1, h2⟩ => ⟨by simpa [digs] using h1, Keep.of_below h2 (Nat.le_refl _)⟩
theorem parse_any (x : Str) (w : World) (h : numWord x = true) : Calls Tryz.prog 94 #[.string ⟨x.toArray⟩, .int .i64 10, .int .i64 64] w fun e w' => e = .returned (.tuple #[.int .u64 (valFrom 0 x : Nat), .nilIface]) ∧ Keep (fun _ => False) w w' := by
  have hl := ((numWord_iff x).1 h).2.1
  refine (Tryz.strconv_ParseUint_10_at64_ok ⟨x.toArray⟩ (by show x.toArray.size ≤ _; simp; omega) (valFrom 0 x) (by simpa using parseUint_ok h) w).mono fun _ _ ⟨h1, h2⟩ => ⟨h1, ?_⟩
  rcases h2 with rfl | rfl
  · exact Keep.refl _ _
  · exact Keep.of_below (Lib.bytesWorld_below _ _ _) (Nat.le_refl _)

set_option maxHeartbeats 400000 in
theorem upTo_head (m : Int) (lb rb : Nat) (c : UInt8) (x : Str) (ws : List Str) (w : World) (h : LineAt w lb rb ((c :: x) :: ws)) (hl : (c :: x).length ≤ 18) (ht : Lib.trimS (c :: x) digs = []) (hc : ((c.toNat : Int) != 48) = true) (hv : (valFrom 0 (c :: x) : Int) ≤ m) :
    Calls Tryz.prog 53 #[.pointer (some ⟨lb, 0, none⟩), .int .u64 m] w fun e w' => e = .returned (u64v (valFrom 0 (c :: x))) ∧ Keep (fun b => b = lb) w w' ∧ LineAt w' lb rb ws := by
  have hd : (⟨#[48, 49, 50, 51, 52, 53, 54, 55, 56, 57, 97, 98, 99, 100, 101, 102]⟩ : ByteArray).extract 0 10 = ⟨#[48, 49, 50, 51, 52, 53, 54, 55, 56, 57]⟩ := by decide
  have hnw : numWord (c :: x) = true := (numWord_iff _).2 ⟨by simp, hl, (trim_nil _).1 ht, .inl (by intro e; simp at e; subst e; simp at hc)⟩
  have HP := fun w => parse_any (c :: x) w hnw
  generalize hval : (valFrom 0 (c :: x) : Int) = v at *
  have HV := Lib.hid hval
  clear hval hnw
  go_enter Tryz.func53, Tryz.ntmps53
  go_wp2_with fail
  refine (word_some lb rb (c :: x) ws w h).mono ?_
  rintro e w1 ⟨rfl, hk1, hl1⟩
  have HL1 := Lib.hid hl1
  clear hl1 h
  unfold sv
  have hl' : ((c :: x).length : Int) ≤ 18 := by omega
  go_wp2_with fail

  refine (trim_any (c :: x) w1 (by omega)).mono ?_
  rintro e w2 ⟨rfl, hk2⟩
  rw [ht]
  have hb : (⟨(c :: x).toArray⟩ : ByteArray)[0]'(by show 0 < (c :: x).toArray.size; simp) = c := rfl
  go_wp2_with fail
  refine (must_ok _ _).mono ?_
  rintro e w' ⟨rfl, rfl⟩
  go_wp2_with fail
  refine (HP w2).mono ?_
  rintro e w3 ⟨rfl, hk3⟩
  go_wp2_with fail
  refine (must_ok _ _).mono ?_
  rintro e w' ⟨rfl, rfl⟩
  go_wp2_with fail
  go_ret
  have hk := hk2.trans' hk3
  exact ⟨by rw [← HV.out]; rfl, hk1.trans hk (fun _ _ e => e.elim), HL1.out.keep hk (fun e => e) (fun e => e)⟩

set_option maxHeartbeats 400000 in
theorem upTo_zero (m : Int) (lb rb : Nat) (ws : List Str) (w : World) (h : LineAt w lb rb ([48] :: ws)) (hm : 0 ≤ m) :
    Calls Tryz.prog 53 #[.pointer (some ⟨lb, 0, none⟩), .int .u64 m] w fun e w' => e = .returned (u64v 0) ∧ Keep (fun b => b = lb) w w' ∧ LineAt w' lb rb ws := by
  have hd : (⟨#[48, 49, 50, 51, 52, 53, 54, 55, 56, 57, 97, 98, 99, 100, 101, 102]⟩ : ByteArray).extract 0 10 = ⟨#[48, 49, 50, 51, 52, 53, 54, 55, 56, 57]⟩ := by decide
  have ht : Lib.trimS [48] digs = [] := by decide
  have HP := fun w => parse_any [48] w (by decide)
  have hval : ((valFrom 0 [48] : Nat) : Int) = 0 := by decide
  rw [hval] at HP
  clear hval
  go_enter Tryz.func53, Tryz.ntmps53
  go_wp2_with fail
  refine (word_some lb rb [48] ws w h).mono ?_
  rintro e w1 ⟨rfl, hk1, hl1⟩
  have HL1 := Lib.hid hl1
  clear hl1 h
  unfold sv
  go_wp2_with fail
  refine (trim_any [48] w1 (by simp)).mono ?_
  rintro e w2 ⟨rfl, hk2⟩
  rw [ht]
  have hb : (⟨[48].toArray⟩ : ByteArray)[0]'(by show 0 < [48].toArray.size; simp) = 48 := rfl
  go_wp2_with fail
  refine (must_ok _ _).mono ?_
  rintro e w' ⟨rfl, rfl⟩
  go_wp2_with fail
  refine (HP w2).mono ?_
  rintro e w3 ⟨rfl, hk3⟩
  go_wp2_with fail
  refine (must_ok _ _).mono ?_
  rintro e w' ⟨rfl, rfl⟩
  go_wp2_with fail
  go_ret
  have hk := hk2.trans' hk3
  exact ⟨rfl, hk1.trans hk (fun _ _ e => e.elim), HL1.out.keep hk (fun e => e) (fun e => e)⟩

theorem upTo_none (m : Int) (lb rb : Nat) (w : World) (h : LineAt w lb rb []) :
    Calls Tryz.prog 53 #[.pointer (some ⟨lb, 0, none⟩), .int .u64 m] w fun e w' => e = gaveUp 4 ∧ Keep (fun b => b = lb) w w' := by
  go_enter Tryz.func53, Tryz.ntmps53
  go_wp2_with fail
  refine (word_none lb rb w h).mono ?_
  rintro e w1 ⟨rfl, hk1⟩
  exact ⟨rfl, rfl, hk1⟩
set_option maxHeartbeats 400000 in
theorem upTo_long (m : Int) (lb rb : Nat) (x : Str) (ws : List Str) (w : World) (h : LineAt w lb rb (x :: ws)) (hl : 18 < (x.length : Int)) :
    Calls Tryz.prog 53 #[.pointer (some ⟨lb, 0, none⟩), .int .u64 m] w fun e w' => e = gaveUp 4 ∧ Keep (fun b => b = lb) w w' := by
  have hl2 := h.ok.head.2
  go_enter Tryz.func53, Tryz.ntmps53
  go_wp2_with fail
  refine (word_some lb rb x ws w h).mono ?_
  rintro e w1 ⟨rfl, hk1, _⟩
  clear h
  unfold sv
  go_wp2_with fail
  refine (must_no _ _).mono ?_
  rintro e w' ⟨rfl, rfl⟩
  exact ⟨rfl, rfl, hk1⟩
set_option maxHeartbeats 400000 in
theorem upTo_odd (m : Int) (lb rb : Nat) (x : Str) (ws : List Str) (w : World) (h : LineAt w lb rb (x :: ws)) (hl : (x.length : Int) ≤ 18) (ht : Lib.trimS x digs ≠ []) :
    Calls Tryz.prog 53 #[.pointer (some ⟨lb, 0, none⟩), .int .u64 m] w fun e w' => e = gaveUp 4 ∧ Keep (fun b => b = lb) w w' := by
  obtain ⟨a, t, hat⟩ := List.exists_cons_of_ne_nil ht
  clear ht
  go_enter Tryz.func53, Tryz.ntmps53
  go_wp2_with fail
  refine (word_some lb rb x ws w h).mono ?_
  rintro e w1 ⟨rfl, hk1, _⟩
  clear h
  unfold sv
  go_wp2_with fail
  refine (trim_any x w1 (by omega)).mono ?_
  rintro e w2 ⟨rfl, hk2⟩
  rw [hat]
  clear hat
  go_wp2_with fail
  refine (must_no _ _).mono ?_
  rintro e w' ⟨rfl, rfl⟩
  exact ⟨rfl, rfl, hk1.trans hk2 (fun _ _ e => e.elim)⟩
set_option maxHeartbeats 400000 in
theorem upTo_lead (m : Int) (lb rb : Nat) (a : UInt8) (x : Str) (ws : List Str) (w : World) (h : LineAt w lb rb ((48 :: a :: x) :: ws)) (hl : ((48 :: a :: x).length : Int) ≤ 18) (ht : Lib.trimS (48 :: a :: x) digs = []) :
    Calls Tryz.prog 53 #[.pointer (some ⟨lb, 0, none⟩), .int .u64 m] w fun e w' => e = gaveUp 4 ∧ Keep (fun b => b = lb) w w' := by
  go_enter Tryz.func53, Tryz.ntmps53
  go_wp2_with fail
  refine (word_some lb rb (48 :: a :: x) ws w h).mono ?_
  rintro e w1 ⟨rfl, hk1, _⟩
  clear h
  unfold sv
  go_wp2_with fail
  refine (trim_any (48 :: a :: x) w1 (by omega)).mono ?_
  rintro e w2 ⟨rfl, hk2⟩
  rw [ht]
  clear ht
  have hb : (⟨(48 :: a :: x).toArray⟩ : ByteArray)[0]'(by show 0 < (48 :: a :: x).toArray.size; simp) = 48 := rfl
  go_wp2_with fail
  refine (must_no _ _).mono ?_
  rintro e w' ⟨rfl, rfl⟩
  exact ⟨rfl, rfl, hk1.trans hk2 (fun _ _ e => e.elim)⟩
set_option maxHeartbeats 400000 in
theorem upTo_great (m : Int) (lb rb : Nat) (c : UInt8) (x : Str) (ws : List Str) (w : World) (h : LineAt w lb rb ((c :: x) :: ws)) (hl : (c :: x).length ≤ 18) (ht : Lib.trimS (c :: x) digs = []) (hc : ((c.toNat : Int) != 48) = true) (hv : decide ((valFrom 0 (c :: x) : Int) ≤ m) = false) :
    Calls Tryz.prog 53 #[.pointer (some ⟨lb, 0, none⟩), .int .u64 m] w fun e w' => e = gaveUp 4 ∧ Keep (fun b => b = lb) w w' := by
  have hnw : numWord (c :: x) = true := (numWord_iff _).2 ⟨by simp, hl, (trim_nil _).1 ht, .inl (by intro e; simp at e; subst e; simp at hc)⟩
  have HP := fun w => parse_any (c :: x) w hnw
  generalize hval : (valFrom 0 (c :: x) : Int) = v at *
  clear hval hnw
  go_enter Tryz.func53, Tryz.ntmps53
  go_wp2_with fail
  refine (word_some lb rb (c :: x) ws w h).mono ?_
  rintro e w1 ⟨rfl, hk1, _⟩
  clear h
  unfold sv
  have hl' : ((c :: x).length : Int) ≤ 18 := by omega
  go_wp2_with fail
  refine (trim_any (c :: x) w1 (by omega)).mono ?_
  rintro e w2 ⟨rfl, hk2⟩
  rw [ht]
  have hb : (⟨(c :: x).toArray⟩ : ByteArray)[0]'(by show 0 < (c :: x).toArray.size; simp) = c := rfl
  go_wp2_with fail
  refine (must_ok _ _).mono ?_
  rintro e w' ⟨rfl, rfl⟩
  go_wp2_with fail
  refine (HP w2).mono ?_
  rintro e w3 ⟨rfl, hk3⟩
  go_wp2_with fail
  refine (must_no _ _).mono ?_
  rintro e w' ⟨rfl, rfl⟩
  exact ⟨rfl, rfl, hk1.trans (hk2.trans' hk3) (fun _ _ e => e.elim)⟩

theorem upTo_any (m : Int) (lb rb : Nat) (ws : List Str) (w : World) (h : LineAt w lb rb ws) (hm : 0 ≤ m) :
    Calls Tryz.prog 53 #[.pointer (some ⟨lb, 0, none⟩), .int .u64 m] w (Got u64v lb rb w (pnum m ws)) := by
  have no : ∀ {e w'}, pnum m ws = none → e = gaveUp 4 ∧ Keep (fun b => b = lb) w w' → Got u64v lb rb w (pnum m ws) e w' := fun h1 h2 => by
    rw [h1]; exact ⟨h2.2, h2.1⟩
  cases ws with
  | nil => exact (upTo_none m lb rb w h).mono fun e w' h1 => no rfl h1
  | cons x ws =>
    have hp : pnum m (x :: ws) = (numOf m x).bind fun a => some (a, ws) := rfl
    have hx := h.ok.head.1
    by_cases hl : x.length ≤ 18
    · by_cases ht : Lib.trimS x digs = []
      · obtain ⟨c, t, rfl⟩ := List.exists_cons_of_ne_nil hx
        have ha := (trim_nil _).1 ht
        by_cases hc : c = 48
        · subst hc
          cases t with
          | nil =>
            exact (upTo_zero m lb rb ws w h hm).mono fun e w' ⟨h1, h2, h3⟩ => by
              rw [hp, show numOf m [48] = some 0 by unfold numOf; rw [if_pos ⟨by decide, by show (0 : Int) ≤ m; exact hm⟩]; rfl]
              exact ⟨h2, h1, h3⟩
          | cons a t =>
            exact (upTo_lead m lb rb a t ws w h (by omega) ht).mono fun e w' h1 => no (by
              rw [hp, show numOf m (48 :: a :: t) = none by unfold numOf; rw [if_neg (fun e => by have := (numWord_iff _).1 e.1; simp at this)]]; rfl) h1
        · have hc' : ((c.toNat : Int) != 48) = true := by
            rw [bne_iff_ne]; intro e
            exact hc (by apply UInt8.toNat_inj.1; show c.toNat = 48; omega)
          have hnw : numWord (c :: t) = true := (numWord_iff _).2 ⟨by simp, hl, ha, .inl (by simpa using hc)⟩
          by_cases hv : (valFrom 0 (c :: t) : Int) ≤ m
          · exact (upTo_head m lb rb c t ws w h hl ht hc' hv).mono fun e w' ⟨h1, h2, h3⟩ => by
              rw [hp, show numOf m (c :: t) = some (valFrom 0 (c :: t) : Int) by unfold numOf; rw [if_pos ⟨hnw, hv⟩]]
              exact ⟨h2, h1, h3⟩
          · exact (upTo_great m lb rb c t ws w h hl ht hc' (decide_eq_false hv)).mono fun e w' h1 => no (by
              rw [hp, show numOf m (c :: t) = none by unfold numOf; rw [if_neg (fun e => hv e.2)]]; rfl) h1
      · exact (upTo_odd m lb rb x ws w h (by omega) ht).mono fun e w' h1 => no (by
          rw [hp, show numOf m x = none by unfold numOf; rw [if_neg (fun e => ht ((trim_nil _).2 ((numWord_iff _).1 e.1).2.2.1))]]; rfl) h1
    · exact (upTo_long m lb rb x ws w h (by omega)).mono fun e w' h1 => no (by
        rw [hp, show numOf m x = none by unfold numOf; rw [if_neg (fun e => hl ((numWord_iff _).1 e.1).2.1)]]; rfl) h1

theorem num_any (lb rb : Nat) (ws : List Str) (w : World) (h : LineAt w lb rb ws) :
    Calls Tryz.prog 102 #[.pointer (some ⟨lb, 0, none⟩)] w (Got u64v lb rb w (pnum most ws)) := by
  have HG := upTo_any 999999999999999999 lb rb ws w h (by decide)
  show Calls Tryz.prog 102 #[.pointer (some ⟨lb, 0, none⟩)] w (Got u64v lb rb w (pnum 999999999999999999 ws))
  clear h
  rcases hp : pnum 999999999999999999 ws with _ | ⟨a, r⟩
  · rw [hp] at HG
    clear hp
    go_enter Tryz.func102, Tryz.ntmps102
    go_wp2_with fail
    refine HG.mono ?_
    rintro e w1 ⟨hk, rfl⟩
    exact ⟨rfl, hk, rfl⟩
  · rw [hp] at HG
    clear hp
    go_enter Tryz.func102, Tryz.ntmps102
    go_wp2_with fail
    refine HG.mono ?_
    rintro e w1 ⟨hk, rfl, hl⟩
    have HL := Lib.hid hl
    clear hl
    go_wp2_with fail
    go_ret
    exact ⟨hk, rfl, HL.out⟩
end Go.Proofs.YtifliekahdgobaaGreatDoor
namespace Go.Proofs.YtifliekahdgobaaGreatDoor
open Go.RowKit Sp

theorem numOf_le {m : Int} {w : Str} {n : Int} (h : numOf m w = some n) : 0 ≤ n ∧ n ≤ m := by
  unfold numOf at h
  split at h
  · rename_i hc
    simp only [Option.some.injEq] at h
    omega
  · cases h
theorem pnum_le {m : Int} {ws r : List Str} {n : Int} (h : pnum m ws = some (n, r)) : 0 ≤ n ∧ n ≤ m := by
  cases ws with
  | nil => cases h
  | cons x ws =>
    have : (numOf m x).bind (fun a => some (a, ws)) = some (n, r) := h
    rcases hn : numOf m x with _ | a
    · rw [hn] at this; cases this
    · rw [hn] at this
      simp only [Option.bind_some, Option.some.injEq, Prod.mk.injEq] at this
      exact this.1 ▸ numOf_le hn
theorem small_any (lb rb : Nat) (ws : List Str) (w : World) (h : LineAt w lb rb ws) :
    Calls Tryz.prog 95 #[.pointer (some ⟨lb, 0, none⟩)] w (Got i64v lb rb w (pnum 9 ws)) := by
  have HG := upTo_any 9 lb rb ws w h (by decide)
  clear h
  rcases hp : pnum 9 ws with _ | ⟨a, r⟩
  · rw [hp] at HG
    clear hp
    go_enter Tryz.func95, Tryz.ntmps95
    go_wp2_with fail
    refine HG.mono ?_
    rintro e w1 ⟨hk, rfl⟩
    exact ⟨rfl, hk, rfl⟩
  · rw [hp] at HG
    obtain ⟨h0, h9⟩ := pnum_le hp
    clear hp
    go_enter Tryz.func95, Tryz.ntmps95
    go_wp2_with fail
    refine HG.mono ?_
    rintro e w1 ⟨hk, rfl, hl⟩
    have HL := Lib.hid hl
    clear hl
    unfold u64v
    go_wp2_with fail
    go_ret
    exact ⟨hk, rfl, HL.out⟩

def hexi (c : UInt8) : Int := match hexd c with | some x => x | none => -1
def hexs : Str := [48, 49, 50, 51, 52, 53, 54, 55, 56, 57, 97, 98, 99, 100, 101, 102]
theorem hexi_eq (c : UInt8) : Lib.indexByte hexs c = hexi c := by
  have := all_u8 (fun c => Lib.indexByte hexs c == hexi c) (by decide +kernel) c
  simpa using this
theorem hexi_any (c : UInt8) (w : World) : Calls Tryz.prog 134 #[.string ⟨#[48, 49, 50, 51, 52, 53, 54, 55, 56, 57, 97, 98, 99, 100, 101, 102]⟩, .int .u8 c.toNat] w fun e w' => e = .returned (.int .i64 (hexi c)) ∧ w' = w := by
  refine (Tryz.strings_IndexByte ⟨#[48, 49, 50, 51, 52, 53, 54, 55, 56, 57, 97, 98, 99, 100, 101, 102]⟩ c.toNat w).mono fun e w' ⟨h1, h2⟩ => ⟨?_, h2⟩
  rw [h1, ← hexi_eq]
  simp [hexs]
theorem Tryz.info5 : (Tryz.prog.info? 5).map (fun i => (i.zero, i.size, i.bytes)) = some (some (.int .u8 0), 1, 1) := by kernel_rfl

set_option maxHeartbeats 400000 in

/-- how far the bytes are read -/
structure Half (x : Str) (j : Nat) (acc : Str) : Prop where
  len : acc.length * 2 = j
  le : j ≤ x.length
  eq : pairs x = (pairs (x.drop j)).bind fun t => some (acc ++ t)
theorem Half.zero (x : Str) : Half x 0 [] := ⟨rfl, Nat.zero_le _, by simp⟩
theorem Half.all {x acc : Str} {j : Nat} (h : Half x j acc) (hj : x.length ≤ j) : pairs x = some acc := by
  rw [h.eq, List.drop_eq_nil_of_le hj]
  simp [pairs]
theorem drop_two {x : Str} {j : Nat} (h : j + 1 < x.length) : x.drop j = x[j] :: x[j + 1] :: x.drop (j + 2) := by
  rw [List.drop_eq_getElem_cons (by omega), List.drop_eq_getElem_cons (by omega)]
theorem Half.step {x acc : Str} {j a b : Nat} (h : Half x j acc) (hj : j + 1 < x.length) (ha : hexd x[j] = some a) (hb : hexd x[j + 1] = some b) : Half x (j + 2) (acc ++ [UInt8.ofNat (16 * a + b)]) := by
  refine ⟨by have := h.len; simp; omega, by omega, ?_⟩
  rw [h.eq, drop_two hj, pairs, ha, Option.bind_some, hb, Option.bind_some]
  rcases pairs (x.drop (j + 2)) with _ | t <;> simp
theorem Half.bad1 {x acc : Str} {j : Nat} (h : Half x j acc) (hj : j + 1 < x.length) (ha : hexd x[j] = none) : pairs x = none := by
  rw [h.eq, drop_two hj, pairs, ha]; rfl
theorem Half.bad2 {x acc : Str} {j a : Nat} (h : Half x j acc) (hj : j + 1 < x.length) (ha : hexd x[j] = some a) (hb : hexd x[j + 1] = none) : pairs x = none := by
  rw [h.eq, drop_two hj, pairs, ha, Option.bind_some, hb]; rfl
theorem hexi_some {c : UInt8} {a : Nat} (h : hexd c = some a) : hexi c = a ∧ a < 16 := by
  refine ⟨by unfold hexi; rw [h], ?_⟩
  unfold hexd at h
  split at h
  · simp only [Option.some.injEq] at h; omega
  · split at h
    · simp only [Option.some.injEq] at h; omega
    · cases h
theorem hexi_none {c : UInt8} (h : hexd c = none) : hexi c = -1 := by unfold hexi; rw [h]

theorem byte_of (a b : Nat) (ha : a < 16) (hb : b < 16) : bits BinOp.or IntKind.i64 ((a : Int) * 16) (b : Int) % 256 = ((UInt8.ofNat (16 * a + b)).toNat : Int) := by
  have := (by decide +kernel : ∀ a b : Fin 16, bits BinOp.or IntKind.i64 ((a.val : Int) * 16) (b.val : Int) % 256 = ((UInt8.ofNat (16 * a.val + b.val)).toNat : Int))
  exact this ⟨a, ha⟩ ⟨b, hb⟩

theorem strOfNums_bytes (l : Str) : strOfNums (l.map fun b => (b.toNat : Int)) = ⟨l.toArray⟩ := by
  unfold strOfNums
  rw [List.map_map]
  congr 2
  exact (List.map_congr_left (fun b _ => by simp)).trans (List.map_id l)
theorem conv_bytes (g n : Nat) (acc : Str) (w : World) (hown : w.ownsRow g 5 1 (.slice (some ⟨g, 0, none⟩) acc.length n) acc.length (Lib.byteCells acc)) :
    (convert 47 9 (.slice (some ⟨g, 0, none⟩) acc.length n)).run Tryz.prog w = .ok (.string ⟨acc.toArray⟩) w := by
  rw [← strOfNums_bytes]
  refine run_convert_bytes_arg w 47 5 Tryz.underlying47 Tryz.underlying5 g 0 acc.length n _ (by simp) ?_ 9 Tryz.underlying9
  intro i hi
  have := (hown.cellAt i (by omega))
  rw [Nat.zero_add, this]
  simp [Lib.byteCells, hi, List.getD]

set_option maxRecDepth 100000 in
set_option maxHeartbeats 1600000 in
theorem bytes_even (lb rb : Nat) (x : Str) (ws : List Str) (w : World) (h : LineAt w lb rb (x :: ws)) (hd : (x == [45]) = false) (hev : (x.length : Int) % 2 = 0) (hl : (x.length : Int) ≤ 80) :
    Calls Tryz.prog 103 #[.pointer (some ⟨lb, 0, none⟩)] w (Got sv lb rb w ((pairs x).bind fun t => some (t, ws))) := by
  obtain ⟨i5, hi, hz0, hz1, hz2⟩ := info_parts Tryz.info5
  have H := word_some lb rb x ws w h
  clear h
  obtain ⟨n, hn⟩ : ∃ n : Nat, n = x.length / 2 := ⟨_, rfl⟩
  have hq : (x.length : Int) / 2 = (n : Int) := by omega
  have HN := Lib.hid hn
  clear hn
  go_enter Tryz.func103, Tryz.ntmps103
  go_wp2_with fail
  refine H.mono ?_
  rintro e w1 ⟨rfl, hk1, hl1⟩
  have HL1 := Lib.hid hl1
  clear hl1 H
  unfold sv
  go_wp2_with fail
  refine (must_ok _ _).mono ?_
  rintro e w' ⟨rfl, rfl⟩
  have hn40 : n ≤ 40 := by omega
  go_wp2_with (at_make; refine wpList_make_own _ rfl _ _ 47 rfl w1.heap.size 5 i5 (.int .u8 0) 1 Tryz.underlying47 hi hz0 hz1 _ _ _ n rfl rfl (by omega) ?b2 ?b3 (Nat.le_refl _) ?_)
  case b2 => rw [hz2]; omega
  case b3 => unfold maxLen; omega
  intro w2 hown2 hgr2
  go_wp2_with fail
  have hk2 : Keep (fun _ => False) w1 w2 := Keep.of_grown hgr2 (fun k e => by cases e)
  clear hgr2
  go_loopw [4, 5] (fun v4 v5 wr => ∃ (j : Nat) (acc : Str), Half x j acc ∧ j % 2 = 0 ∧ v5 = .int .i64 j ∧ v4 = .slice (some ⟨w1.heap.size, 0, none⟩) acc.length n ∧ wr.ownsRow w1.heap.size 5 1 (.slice (some ⟨w1.heap.size, 0, none⟩) acc.length n) acc.length (Lib.byteCells acc) ∧ Keep (fun _ => False) w1 wr) (fun _ v5 _ => x.length - (intOf v5).toNat)
  case atStart => exact ⟨0, [], Half.zero x, rfl, rfl, rfl, hown2, hk2⟩
  case round =>
    clear hown2 hk2
    obtain ⟨j, acc, hh, hj2, rfl, rfl, hown, hkr⟩ := hrel
    have HH := Lib.hid hh
    have hle := hh.le
    clear hh
    by_cases hlt : j + 1 < x.length
    · obtain ⟨c0, hc0⟩ : ∃ c, x[j] = c := ⟨_, rfl⟩
      obtain ⟨c1, hc1⟩ : ∃ c, x[j + 1] = c := ⟨_, rfl⟩
      have hb0 : (⟨x.toArray⟩ : ByteArray)[j]'(by show j < x.toArray.size; simp; omega) = c0 := hc0
      have hb1 : (⟨x.toArray⟩ : ByteArray)[j + 1]'(by show j + 1 < x.toArray.size; simp; omega) = c1 := hc1
      have HC0 := Lib.hid hc0
      have HC1 := Lib.hid hc1
      clear hc0 hc1
      have hx0 : (j : Int) < (x.length : Int) := by omega
      have hx1 : (j : Int) + 1 < (x.length : Int) := by omega
      have Q0 := fun w => hexi_any c0 w
      have Q1 := fun w => hexi_any c1 w
      rcases h0 : hexd c0 with _ | a
      · rw [hexi_none h0] at Q0
        have HA := Lib.hid h0
        clear h0
        generalize hexi c1 = y at Q1
        go_wp2_with fail
        go_quiet ((first | (go_at_call 134; exact Calls.quiet_of_same (Q0 _)) | (go_at_call 134; exact Calls.quiet_of_same (Q1 _))))
        go_wp2_with fail
        refine (must_no _ _).mono ?_
        rintro e w' ⟨rfl, rfl⟩
        refine ⟨rfl, hk1.trans (hkr.drewN nq) (fun _ _ e => e.elim), ?_⟩
        rw [HH.out.bad1 hlt (HC0.out ▸ HA.out)]
        exact rfl
      · rcases h1 : hexd c1 with _ | b
        · rw [(hexi_some h0).1] at Q0
          rw [hexi_none h1] at Q1
          have HA := Lib.hid h0
          have HB := Lib.hid h1
          clear h0 h1
          go_wp2_with fail
          go_quiet ((first | (go_at_call 134; exact Calls.quiet_of_same (Q0 _)) | (go_at_call 134; exact Calls.quiet_of_same (Q1 _))))
          go_wp2_with fail
          refine (must_no _ _).mono ?_
          rintro e w' ⟨rfl, rfl⟩
          refine ⟨rfl, hk1.trans (hkr.drewN nq) (fun _ _ e => e.elim), ?_⟩
          rw [HH.out.bad2 hlt (HC0.out ▸ HA.out) (HC1.out ▸ HB.out)]
          exact rfl
        · rw [(hexi_some h0).1] at Q0
          rw [(hexi_some h1).1] at Q1
          have ha := (hexi_some h0).2
          have hb := (hexi_some h1).2
          have HA := Lib.hid h0
          have HB := Lib.hid h1
          clear h0 h1
          go_wp2_with fail
          go_quiet ((first | (go_at_call 134; exact Calls.quiet_of_same (Q0 _)) | (go_at_call 134; exact Calls.quiet_of_same (Q1 _))))
          go_wp2_with fail
          refine (must_ok _ _).mono ?_
          rintro e w' ⟨rfl, rfl⟩
          obtain ⟨d, hdd⟩ : ∃ d : UInt8, UInt8.ofNat (16 * a + b) = d := ⟨_, rfl⟩
          have hbits : bits BinOp.or IntKind.i64 ((a : Int) * 16) (b : Int) % 256 = (d.toNat : Int) := by rw [← hdd]; exact byte_of a b ha hb
          have HDD := Lib.hid hdd
          clear hdd
          have hown' : ((wr.drewN nq).alloc (.cells #[.int .u8 (d.toNat : Int)] 5)).ownsRow w1.heap.size 5 1 (.slice (some ⟨w1.heap.size, 0, none⟩) acc.length n) acc.length (Lib.byteCells acc) := (show (wr.drewN nq).ownsRow _ _ _ _ _ _ from hown).alloc _
          have hroom : acc.length + 1 ≤ n := by have := HH.out.len; have := HN.out; omega
          go_wp2_with (at_builtin; refine wpList_append_fits _ rfl (.tmp 48) (.tmp 54) 47 rfl w1.heap.size 5 i5 1 Tryz.underlying47 hi hz1 w1.heap.size acc.length n _ rfl hown' ⟨wr.heap.size, 0, none⟩ 1 1 [.int .u8 (d.toNat : Int)] rfl rfl ?c1 ?c2 hroom ?_)
          case c1 => exact cell_one_new _ _ _
          case c2 => intro u hu; simp at hu; subst hu; rfl
          intro w3 hown3 hgr3
          go_wp2_with fail
          go_roundw
          case rel =>
            have he : (acc ++ [d]).length = acc.length + 1 := by simp
            refine ⟨j + 2, acc ++ [d], ?_, by omega, by go_num, by rw [he], ?_, ?_⟩
            · have hs := HH.out.step hlt (HC0.out ▸ HA.out) (HC1.out ▸ HB.out)
              rwa [HDD.out] at hs
            · rw [he, Lib.byteCells_append]; exact hown3
            · exact (((hkr.drewN nq).alloc _).trans (Keep.of_grown (M := fun b => b = w1.heap.size) hgr3 (fun k e _ => (Option.some.inj e).symm)) (fun b hb e => by omega))
          case measure => simp [intOf]; omega
    · have hxj : x.length ≤ j := by omega
      have hge : ¬ (j : Int) < (x.length : Int) := by omega
      have hconv := conv_bytes w1.heap.size n acc wr hown
      have HO := Lib.hid hown
      clear hown
      go_wp2_with fail
      go_ret
      rw [HH.out.all hxj]
      exact ⟨hk1.trans hkr (fun _ _ e => e.elim), rfl, HL1.out.keep hkr (fun e => e) (fun e => e)⟩

theorem bytes_none (lb rb : Nat) (w : World) (h : LineAt w lb rb []) :
    Calls Tryz.prog 103 #[.pointer (some ⟨lb, 0, none⟩)] w fun e w' => e = gaveUp 4 ∧ Keep (fun b => b = lb) w w' := by
  go_enter Tryz.func103, Tryz.ntmps103
  go_wp2_with fail
  refine (word_none lb rb w h).mono ?_
  rintro e w1 ⟨rfl, hk1⟩
  exact ⟨rfl, rfl, hk1⟩
set_option maxRecDepth 100000 in
theorem bytes_dash (lb rb : Nat) (ws : List Str) (w : World) (h : LineAt w lb rb ([45] :: ws)) :
    Calls Tryz.prog 103 #[.pointer (some ⟨lb, 0, none⟩)] w fun e w' => e = .returned (sv []) ∧ Keep (fun b => b = lb) w w' ∧ LineAt w' lb rb ws := by
  go_enter Tryz.func103, Tryz.ntmps103
  go_wp2_with fail
  refine (word_some lb rb [45] ws w h).mono ?_
  rintro e w1 ⟨rfl, hk1, hl1⟩
  have HL1 := Lib.hid hl1
  clear hl1 h
  unfold sv
  go_wp2_with fail
  go_ret
  exact ⟨rfl, hk1, HL1.out⟩
set_option maxRecDepth 100000 in
theorem bytes_odd (lb rb : Nat) (x : Str) (ws : List Str) (w : World) (h : LineAt w lb rb (x :: ws)) (hd : (x == [45]) = false) (hev : ((x.length : Int) % 2 == 0) = false) :
    Calls Tryz.prog 103 #[.pointer (some ⟨lb, 0, none⟩)] w fun e w' => e = gaveUp 4 ∧ Keep (fun b => b = lb) w w' := by
  have hx := h.ok.head.2
  go_enter Tryz.func103, Tryz.ntmps103
  go_wp2_with fail
  refine (word_some lb rb x ws w h).mono ?_
  rintro e w1 ⟨rfl, hk1, _⟩
  clear h
  unfold sv
  go_wp2_with fail
  refine (must_no _ _).mono ?_
  rintro e w' ⟨rfl, rfl⟩
  exact ⟨rfl, rfl, hk1⟩
set_option maxRecDepth 100000 in
theorem bytes_long (lb rb : Nat) (x : Str) (ws : List Str) (w : World) (h : LineAt w lb rb (x :: ws)) (hd : (x == [45]) = false) (hev : (x.length : Int) % 2 = 0) (hl : ¬ (x.length : Int) ≤ 80) :
    Calls Tryz.prog 103 #[.pointer (some ⟨lb, 0, none⟩)] w fun e w' => e = gaveUp 4 ∧ Keep (fun b => b = lb) w w' := by
  have hx := h.ok.head.2
  have hl' : decide ((x.length : Int) ≤ 80) = false := decide_eq_false hl
  clear hl
  go_enter Tryz.func103, Tryz.ntmps103
  go_wp2_with fail
  refine (word_some lb rb x ws w h).mono ?_
  rintro e w1 ⟨rfl, hk1, _⟩
  clear h
  unfold sv
  go_wp2_with fail
  refine (must_no _ _).mono ?_
  rintro e w' ⟨rfl, rfl⟩
  exact ⟨rfl, rfl, hk1⟩

theorem bytes_any (lb rb : Nat) (ws : List Str) (w : World) (h : LineAt w lb rb ws) :
    Calls Tryz.prog 103 #[.pointer (some ⟨lb, 0, none⟩)] w (Got sv lb rb w (pbytes ws)) := by
  have no : ∀ {e w'}, pbytes ws = none → e = gaveUp 4 ∧ Keep (fun b => b = lb) w w' → Got sv lb rb w (pbytes ws) e w' := fun h1 h2 => by
    rw [h1]; exact ⟨h2.2, h2.1⟩
  cases ws with
  | nil => exact (bytes_none lb rb w h).mono fun e w' h1 => no rfl h1
  | cons x ws =>
    have hp : pbytes (x :: ws) = (bytesOf x).bind fun a => some (a, ws) := rfl
    by_cases hd : x = [45]
    · subst hd
      exact (bytes_dash lb rb ws w h).mono fun e w' ⟨h1, h2, h3⟩ => ⟨h2, h1, h3⟩
    · have hd' : (x == [45]) = false := by rw [beq_eq_false_iff_ne]; exact hd
      by_cases hev : x.length % 2 = 0
      · by_cases hl : x.length ≤ 80
        · have hb : bytesOf x = pairs x := by unfold bytesOf; rw [if_neg hd, if_pos ⟨hev, hl⟩]
          rw [hp, hb]
          exact bytes_even lb rb x ws w h hd' (by omega) (by omega)
        · have hb : bytesOf x = none := by unfold bytesOf; rw [if_neg hd, if_neg (fun e => hl e.2)]
          exact (bytes_long lb rb x ws w h hd' (by omega) (by omega)).mono fun e w' h1 => no (by rw [hp, hb]; rfl) h1
      · have hb : bytesOf x = none := by unfold bytesOf; rw [if_neg hd, if_neg (fun e => hev e.1)]
        exact (bytes_odd lb rb x ws w h hd' (by rw [beq_eq_false_iff_ne]; omega)).mono fun e w' h1 => no (by rw [hp, hb]; rfl) h1
end Go.Proofs.YtifliekahdgobaaGreatDoor
