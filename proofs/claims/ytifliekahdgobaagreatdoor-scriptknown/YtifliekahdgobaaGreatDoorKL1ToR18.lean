/-
  errors.As, errors.Is at a fault; told. Helpers of the claims.
  errors.As at a fault. Helpers of the claims.
  errors.Is at a fault; told. Helpers of the claims.
  told (printed by wip/tools/gen_told.py). Helpers of the claims.
  THE REFERENCE's WALKS, 18: sameOps, SameStep, Same. Helpers of the claims.
-/
import Derived.Stop.Asserts
import Derived.LaidEql
import Derived.RowKitTokens
import Derived.Test.YtifliekahdgobaaGreatDoorKSpecToThT
import Derived.Test.YtifliekahdgobaaGreatDoorKW10ToSB
set_option linter.unusedSimpArgs false
set_option linter.unusedVariables false
namespace Go.Proofs.YtifliekahdgobaaGreatDoor
open Go.RowKit Go.Extern.Stop Go.Stop Go.Extern

theorem Tryz.handle (n : Nat) (h : n = 26 ∨ n = 74 ∨ n = 78 ∨ n = 30) : typeHandle Tryz.prog n = .pointer (some ⟨9, n, none⟩) := by
  rcases h with rfl | rfl | rfl | rfl <;> kernel_rfl
theorem as_nil (t : Value) (w : World) : Calls Tryz.prog 30 #[.nilIface, t] w fun e w' => e = .returned (.bool false) ∧ w' = w := by
  go_enter Tryz.func30, Tryz.ntmps30
  go_wp2
  go_ret
  exact ⟨rfl, rfl⟩
/-! ### closed facts on the model's entries for internal/reflectlite, at *Fault (74), **Fault (78), error (26), rtype (172), Errno (30) -/
theorem Tryz.valueOf78 (t : Addr) (w : World) : (ReflectliteValue.unpack (.iface 78 (.pointer (some t)))).run Tryz.prog w
    = .ok (.agg #[.pointer (some ⟨9, 78, none⟩), .pointer (some ⟨w.heap.size, 0, none⟩), .int .u64 150]) (w.alloc (.cells #[.pointer (some t)] 78)) := by kernel_rfl
theorem Tryz.type78 (a : Addr) (w : World) : (ReflectliteValue.methodAny (ReflectliteValue.valueError "reflectlite.Value.Type" 0) (fun t _ _ _ => ReflectliteType.toType t) #[.agg #[.pointer (some ⟨9, 78, none⟩), .pointer (some a), .int .u64 150]]).run Tryz.prog w
    = .ok (.iface 172 (.agg #[.pointer (some ⟨9, 78, none⟩)])) w := by kernel_rfl
theorem Tryz.kind78 (w : World) : ((ReflectliteType.abiMethod fun t => (fun a : Nat => Value.int IntKind.u8 (a : Int)) <$> Rtype.kind t) #[.pointer (some ⟨9, 78, none⟩)]).run Tryz.prog w = .ok (.int .u8 22) w := by kernel_rfl
theorem Tryz.kind74 (w : World) : ((ReflectliteType.abiMethod fun t => (fun a : Nat => Value.int IntKind.u8 (a : Int)) <$> Rtype.kind t) #[.pointer (some ⟨9, 74, none⟩)]).run Tryz.prog w = .ok (.int .u8 22) w := by kernel_rfl
theorem rlm (z : Sem Value) (f : TypeId → Addr → Nat → Nat → Sem Value) (v : Value) :
    ReflectliteValue.method z f #[v] = (do match ← ReflectliteValue.parts v with | none => z | some (t, a, fl) => f t a fl (fl % 32)) := rfl
theorem Tryz.parts78 (a : Addr) (w : World) : (ReflectliteValue.parts (.agg #[.pointer (some ⟨9, 78, none⟩), .pointer (some a), .int .u64 150])).run Tryz.prog w = .ok (some (78, a, 150)) w := by kernel_rfl
theorem Tryz.isNil78 (a p : Addr) (W : World) (ha : W.cell? a = some (.pointer (some p))) :
    (ReflectliteValue.method (ReflectliteValue.valueError "reflectlite.Value.IsNil" 0) ReflectliteValue.isNil #[.agg #[.pointer (some ⟨9, 78, none⟩), .pointer (some a), .int .u64 150]]).run Tryz.prog W = .ok (.bool false) W := by
  rw [rlm]
  simp only [Sem.run_bind, Tryz.parts78, Result.andThen]
  simp [ReflectliteValue.isNil, loadVar, isAgg, underlying, Tryz.underlying78, ha, Result.andThen]
theorem Tryz.elem78 (w : World) : (ReflectliteType.method ReflectliteType.elem #[.agg #[.pointer (some ⟨9, 78, none⟩)]]).run Tryz.prog w = .ok (.iface 172 (.agg #[.pointer (some ⟨9, 74, none⟩)])) w := by kernel_rfl
theorem Tryz.implements74 (w : World) : (ReflectliteType.relation "Implements" ReflectliteType.implements_ #[.agg #[.pointer (some ⟨9, 74, none⟩)], .iface 172 (.agg #[.pointer (some ⟨9, 26, none⟩)])]).run Tryz.prog w = .ok (.bool true) w := by kernel_rfl
theorem Tryz.typeOf74 (v : Value) (w : World) : (ReflectliteType.typeOf #[.iface 74 v]).run Tryz.prog w = .ok (.iface 172 (.agg #[.pointer (some ⟨9, 74, none⟩)])) w := by kernel_rfl
theorem Tryz.assignable74 (w : World) : (ReflectliteType.relation "AssignableTo" ReflectliteType.assignableTo #[.agg #[.pointer (some ⟨9, 74, none⟩)], .iface 172 (.agg #[.pointer (some ⟨9, 74, none⟩)])]).run Tryz.prog w = .ok (.bool true) w := by kernel_rfl
theorem Tryz.valueOf74 (e : Addr) (w : World) : (ReflectliteValue.unpack (.iface 74 (.pointer (some e)))).run Tryz.prog w
    = .ok (.agg #[.pointer (some ⟨9, 74, none⟩), .pointer (some ⟨w.heap.size, 0, none⟩), .int .u64 150]) (w.alloc (.cells #[.pointer (some e)] 74)) := by kernel_rfl
theorem Tryz.elemOf78 (w : World) : (Rtype.elem? 78).run Tryz.prog w = .ok (some 74) w := by kernel_rfl
theorem Tryz.mk74 (p : Addr) (w : World) : (ReflectliteValue.mk 74 p ReflectliteValue.flagAddr).run Tryz.prog w = .ok (.agg #[.pointer (some ⟨9, 74, none⟩), .pointer (some p), .int .u64 406]) w := by kernel_rfl
theorem Tryz.elemV78 (a p : Addr) (W : World) (ha : W.cell? a = some (.pointer (some p))) :
    (ReflectliteValue.method (ReflectliteValue.valueError "reflectlite.Value.Elem" 0) ReflectliteValue.elem #[.agg #[.pointer (some ⟨9, 78, none⟩), .pointer (some a), .int .u64 150]]).run Tryz.prog W
      = .ok (.agg #[.pointer (some ⟨9, 74, none⟩), .pointer (some p), .int .u64 406]) W := by
  rw [rlm]
  simp only [Sem.run_bind, Tryz.parts78, Result.andThen]
  simp [ReflectliteValue.elem, loadVar, isAgg, underlying, Tryz.underlying78, ha, Result.andThen, Tryz.elemOf78, Tryz.mk74]
theorem rls (v x : Value) : ReflectliteValue.set #[v, x] = (do
    let (some (dst, a, fl), some (src, b, _)) := (← ReflectliteValue.parts v, ← ReflectliteValue.parts x)
      | unsupported (.noEntry "extern/(internal/reflectlite.Value).Set.zeroValue")
    if fl / ReflectliteValue.flagAddr % 2 == 0 then unsupported (.noEntry "extern/(internal/reflectlite.Value).Set.unaddressable")
    let val ← loadVar src b
    if ← Rtype.directlyAssignable dst src then storeVar dst a val
    else if ← Rtype.implements dst src then
      if (← Rtype.kind src) == 20 then
        match val with
        | .nilIface => unsupported (.noEntry "extern/reflectlite: a nil value of one interface type handed on as a value of another")
        | _ => storeVar dst a val
      else storeVar dst a (.iface src val)
    else panicString ("reflectlite.Set: value of type " ++ (← Rtype.spelt src) ++ " is not assignable to type " ++ (← Rtype.spelt dst))
    pure (.tuple #[])) := rfl
theorem Tryz.parts74a (a : Addr) (w : World) : (ReflectliteValue.parts (.agg #[.pointer (some ⟨9, 74, none⟩), .pointer (some a), .int .u64 406])).run Tryz.prog w = .ok (some (74, a, 406)) w := by kernel_rfl
theorem Tryz.parts74 (a : Addr) (w : World) : (ReflectliteValue.parts (.agg #[.pointer (some ⟨9, 74, none⟩), .pointer (some a), .int .u64 150])).run Tryz.prog w = .ok (some (74, a, 150)) w := by kernel_rfl
theorem Tryz.direct74 (w : World) : (Rtype.directlyAssignable 74 74).run Tryz.prog w = .ok true w := by kernel_rfl
theorem Tryz.set74 (ta b e : Addr) (old : Value) (W : World) (hb : W.cell? b = some (.pointer (some e))) (ht : W.cell? ta = some old) (hf : W.frozen? ta = false) :
    (ReflectliteValue.set #[.agg #[.pointer (some ⟨9, 74, none⟩), .pointer (some ta), .int .u64 406], .agg #[.pointer (some ⟨9, 74, none⟩), .pointer (some b), .int .u64 150]]).run Tryz.prog W
      = .ok (.tuple #[]) (W.setCell ta (.pointer (some e))) := by
  rw [rls]
  simp only [Sem.run_bind, Tryz.parts74a, Tryz.parts74, Result.andThen]
  simp [ReflectliteValue.flagAddr, loadVar, isAgg, underlying, Tryz.underlying74, hb, Result.andThen, Tryz.direct74, storeVar, Value.cells, storeCells, Addr.add]
  rw [run_store Tryz.prog W ta _ _ (by rfl)]
  simp [ht, hf]
theorem Tryz.mKind (h : Value) (w : World) : (Go.method 374 172 (.agg #[h]) "Kind").run Tryz.prog w = .ok (185, h) w := by kernel_rfl
theorem Tryz.mElem (h : Value) (w : World) : (Go.method 374 172 (.agg #[h]) "Elem").run Tryz.prog w = .ok (198, .agg #[h]) w := by kernel_rfl
theorem Tryz.mImpl (h : Value) (w : World) : (Go.method 374 172 (.agg #[h]) "Implements").run Tryz.prog w = .ok (199, .agg #[h]) w := by kernel_rfl
theorem Tryz.mAssign (h : Value) (w : World) : (Go.method 374 172 (.agg #[h]) "AssignableTo").run Tryz.prog w = .ok (196, .agg #[h]) w := by kernel_rfl
theorem Tryz.mComp (h : Value) (w : World) : (Go.method 374 172 (.agg #[h]) "Comparable").run Tryz.prog w = .ok (197, .agg #[h]) w := by kernel_rfl
end Go.Proofs.YtifliekahdgobaaGreatDoor
namespace Go.Proofs.YtifliekahdgobaaGreatDoor
open Go.RowKit Go.Extern.Stop Go.Stop Go.Extern

set_option maxRecDepth 100000 in
set_option maxHeartbeats 4000000 in
theorem as62 (e t a : Addr) (old : Value) (w : World) (ha : w.cell? a = some (.pointer (some t))) (ht0 : w.cell? t = some old) (hf0 : w.frozen? t = false) :
    Calls Tryz.prog 62 #[.iface 74 (.pointer (some e)), .iface 78 (.pointer (some t)), .agg #[.pointer (some ⟨9, 78, none⟩), .pointer (some a), .int .u64 150], .iface 172 (.agg #[.pointer (some ⟨9, 74, none⟩)])] w
      fun ev w' => ev = .returned (.bool true) ∧ w' = ((w.alloc (.cells #[.pointer (some ⟨9, 78, none⟩), .pointer (some a), .int .u64 150] 131)).alloc (.cells #[.pointer (some e)] 74)).setCell t (.pointer (some e)) := by
  have h59 := @run_callFunc_extern Tryz.prog 59 _ (fun args => ReflectliteValue.unpack (args.getD 0 (.tuple #[]))) Tryz.func59 (by kernel_rfl) (by kernel_rfl) (by kernel_rfl) (by kernel_rfl)
  have h63 := @run_callFunc_extern Tryz.prog 63 _ ReflectliteType.typeOf Tryz.func63 (by kernel_rfl) (by kernel_rfl) (by kernel_rfl) (by kernel_rfl)
  have h196 := @run_callFunc_extern Tryz.prog 196 _ (ReflectliteType.relation "AssignableTo" ReflectliteType.assignableTo) Tryz.func196 (by kernel_rfl) (by kernel_rfl) (by kernel_rfl) (by kernel_rfl)
  have h100 := @run_callFunc_extern Tryz.prog 100 _ (ReflectliteValue.method (ReflectliteValue.valueError "reflectlite.Value.Elem" 0) ReflectliteValue.elem) Tryz.func100 (by kernel_rfl) (by kernel_rfl) (by kernel_rfl) (by kernel_rfl)
  have h101 := @run_callFunc_extern Tryz.prog 101 _ ReflectliteValue.set Tryz.func101 (by kernel_rfl) (by kernel_rfl) (by kernel_rfl) (by kernel_rfl)
  have tO := Tryz.typeOf74
  have mA := Tryz.mAssign
  have a74 := Tryz.assignable74
  have v74 := Tryz.valueOf74
  have hal : a.block < w.heap.size := World.block_lt_of_cell? _ _ ha
  have htl : t.block < w.heap.size := World.block_lt_of_cell? _ _ ht0
  have el := Tryz.elemV78 a t (w.alloc (.cells #[.pointer (some ⟨9, 78, none⟩), .pointer (some a), .int .u64 150] 131)) (by rw [World.cell?_alloc_lt _ _ a hal]; exact ha)
  have st := Tryz.set74 t ⟨w.heap.size + 1, 0, none⟩ e old ((w.alloc (.cells #[.pointer (some ⟨9, 78, none⟩), .pointer (some a), .int .u64 150] 131)).alloc (.cells #[.pointer (some e)] 74))
    (by rw [World.cell?_alloc_at _ _ _ _ (by simp)]; rfl)
    (by rw [World.cell?_alloc_lt _ _ t (by simp; omega), World.cell?_alloc_lt _ _ t htl]; exact ht0)
    (by rw [World.frozen?_alloc_old _ _ t (by simp; omega), World.frozen?_alloc_old _ _ t (Nat.ne_of_lt htl)]; exact hf0)
  go_enter Tryz.func62, Tryz.ntmps62
  go_wp2
  refine wp_loop_rounds 1 ?_
  rw [rounds_succ]
  go_wp2
  go_ret
  exact ⟨rfl, rfl⟩
set_option maxRecDepth 100000 in
set_option maxHeartbeats 4000000 in
theorem as_hit (e t : Addr) (old : Value) (w : World) (hg : w.cell? ⟨0, 0, none⟩ = some (.iface 172 (.agg #[.pointer (some ⟨9, 26, none⟩)]))) (ht0 : w.cell? t = some old) (hf0 : w.frozen? t = false) :
    Calls Tryz.prog 30 #[.iface 74 (.pointer (some e)), .iface 78 (.pointer (some t))] w fun ev w' => ev = .returned (.bool true) ∧ Keep (fun b => b = t.block) w w' ∧ w'.cell? t = some (.pointer (some e)) := by
  have h59 := @run_callFunc_extern Tryz.prog 59 _ (fun args => ReflectliteValue.unpack (args.getD 0 (.tuple #[]))) Tryz.func59 (by kernel_rfl) (by kernel_rfl) (by kernel_rfl) (by kernel_rfl)
  have h60 := @run_callFunc_extern Tryz.prog 60 _ (ReflectliteValue.methodAny (ReflectliteValue.valueError "reflectlite.Value.Type" 0) (fun t _ _ _ => ReflectliteType.toType t)) Tryz.func60 (by kernel_rfl) (by kernel_rfl) (by kernel_rfl) (by kernel_rfl)
  have h61 := @run_callFunc_extern Tryz.prog 61 _ (ReflectliteValue.method (ReflectliteValue.valueError "reflectlite.Value.IsNil" 0) ReflectliteValue.isNil) Tryz.func61 (by kernel_rfl) (by kernel_rfl) (by kernel_rfl) (by kernel_rfl)
  have h185 := @run_callFunc_extern Tryz.prog 185 _ (ReflectliteType.abiMethod fun t => do pure (.int .u8 (← Rtype.kind t))) Tryz.func185 (by kernel_rfl) (by kernel_rfl) (by kernel_rfl) (by kernel_rfl)
  have h198 := @run_callFunc_extern Tryz.prog 198 _ (ReflectliteType.method ReflectliteType.elem) Tryz.func198 (by kernel_rfl) (by kernel_rfl) (by kernel_rfl) (by kernel_rfl)
  have h199 := @run_callFunc_extern Tryz.prog 199 _ (ReflectliteType.relation "Implements" ReflectliteType.implements_) Tryz.func199 (by kernel_rfl) (by kernel_rfl) (by kernel_rfl) (by kernel_rfl)
  have f59 := Tryz.valueOf78
  have f60 := Tryz.type78
  have k78 := Tryz.kind78
  have k74 := Tryz.kind74
  have el78 := Tryz.elem78
  have i74 := Tryz.implements74
  have mK := Tryz.mKind
  have mE := Tryz.mElem
  have mI := Tryz.mImpl
  have hlt : 0 < w.heap.size := World.block_lt_of_cell? _ _ hg
  have htl : t.block < w.heap.size := World.block_lt_of_cell? _ _ ht0
  obtain ⟨W, hW⟩ : ∃ W : World, W = (w.alloc (.cells #[.pointer (some t)] 78)).alloc (.cells #[.pointer (some ⟨9, 78, none⟩), .pointer (some ⟨w.heap.size, 0, none⟩), .int .u64 150] 131) := ⟨_, rfl⟩
  have hkW : Keep (fun _ => False) w W := by rw [hW]; exact ((Keep.refl _ w).alloc _).alloc _
  have hcA : W.cell? ⟨w.heap.size, 0, none⟩ = some (.pointer (some t)) := by rw [hW]; exact cell_of_block (block_alloc (block_new _ _) _) 0
  have n8 := Tryz.isNil78 ⟨w.heap.size, 0, none⟩ t W hcA
  have hg2 := hkW.cellOf hg (fun e => e)
  have htW := hkW.cellOf ht0 (fun e => e)
  have hfW : W.frozen? t = false := by rw [hkW.frozen htl (fun e => e)]; exact hf0
  have H62 := Lib.hid (as62 e t ⟨w.heap.size, 0, none⟩ old W hcA htW hfW)
  have HKW := Lib.hid hkW
  have HTW := Lib.hid htW
  have HTL := Lib.hid (Nat.lt_of_lt_of_le htl hkW.size)
  rw [hW] at n8 hg2
  have HW := Lib.hid hW
  clear hW hkW hcA htW hfW ht0 hf0 hg
  go_enter Tryz.func30, Tryz.ntmps30
  go_wp2_with fail
  rw [← HW.out]
  refine H62.out.mono ?_
  rintro ev w1 ⟨rfl, rfl⟩
  have hk1 : Keep (fun b => b = t.block) W (((W.alloc (.cells #[.pointer (some ⟨9, 78, none⟩), .pointer (some ⟨w.heap.size, 0, none⟩), .int .u64 150] 131)).alloc (.cells #[.pointer (some e)] 74)).setCell t (.pointer (some e))) := (((Keep.refl _ W).alloc _).alloc _).setCell _ _ (.inr rfl)
  have hct : (((W.alloc (.cells #[.pointer (some ⟨9, 78, none⟩), .pointer (some ⟨w.heap.size, 0, none⟩), .int .u64 150] 131)).alloc (.cells #[.pointer (some e)] 74)).setCell t (.pointer (some e))).cell? t = some (.pointer (some e)) := by
    exact World.cell?_setCell_same _ _ _ (by
      rw [World.cell?_alloc_lt _ _ t (by simp; have := HTL.out; omega), World.cell?_alloc_lt _ _ t HTL.out]
      exact HTW.out)
  have HK1 := Lib.hid hk1
  have HCT := Lib.hid hct
  clear hk1 hct
  go_wp2_with fail
  go_ret
  exact ⟨rfl, (HKW.out.mono (fun _ _ e => e.elim)).trans' HK1.out, HCT.out⟩
end Go.Proofs.YtifliekahdgobaaGreatDoor
namespace Go.Proofs.YtifliekahdgobaaGreatDoor
open Go.RowKit Go.Extern.Stop Go.Stop Go.Extern

theorem Tryz.int30 : Tryz.prog.underlying 30 = some (.int .i64) := Tryz.underlying30
theorem Tryz.comp30 : (Tryz.prog.info? 30).map (·.comparable) = some true := by kernel_rfl
theorem equalIn_errno (w : World) (d : Nat) (a b : Int) : (Op.equalIn (d + 2) 26 (.iface 30 (.int .i64 a)) (.iface 30 (.int .i64 b))).run Tryz.prog w = .ok (a == b) w := by
  obtain ⟨i, hi, hc⟩ := Option.map_eq_some_iff.1 Tryz.comp30
  simp [Op.equalIn, run_underlying Tryz.underlying26, run_underlying Tryz.underlying30, typeInfo, hi, hc]
/-- 'x == y', both errors of the number's type: as the numbers are -/
theorem eql_errno (w : World) (a b : Int) : (binOp .eql 26 (.iface 30 (.int .i64 a)) (.iface 30 (.int .i64 b))).run Tryz.prog w = .ok (.bool (a == b)) w := by
  simp only [binOp]
  simp [Op.equal, Op.maxDepth, equalIn_errno w 9998 a b]
theorem eql_other (w : World) (e : Addr) (c : Int) : (binOp .eql 26 (.iface 74 (.pointer (some e))) (.iface 30 (.int .i64 c))).run Tryz.prog w = .ok (.bool false) w := by kernel_rfl
theorem ta184 (w : World) (e : Addr) : (Instr.typeAssert (.iface 74 (.pointer (some e))) 26 184 true).run Tryz.prog w = .ok (.tuple #[.nilIface, .bool false]) w := run_typeAssert_lacksB Tryz.underlying184 (by kernel_rfl) (by kernel_rfl) (.pointer (some e)) 26 w
theorem ta179 (w : World) (e : Addr) : (Instr.typeAssert (.iface 74 (.pointer (some e))) 26 179 true).run Tryz.prog w = .ok (.tuple #[.iface 74 (.pointer (some e)), .bool true]) w := by kernel_rfl
theorem mUnwrap (w : World) (e : Addr) : (Go.method 374 74 (.pointer (some e)) "Unwrap").run Tryz.prog w = .ok (190, .pointer (some e)) w := by kernel_rfl
theorem Tryz.typeOf30 (v : Value) (w : World) : (ReflectliteType.typeOf #[.iface 30 v]).run Tryz.prog w = .ok (.iface 172 (.agg #[.pointer (some ⟨9, 30, none⟩)])) w := by kernel_rfl
set_option maxRecDepth 100000 in
theorem unwrap_any (b : Nat) (c a : Int) (w : World) (h : w.heap[b]? = some (.cells #[.int .i64 c, .int .i64 a] 32 (0, 0))) :
    Calls Tryz.prog 190 #[.pointer (some ⟨b, 0, none⟩)] w fun e w' => e = .returned (.iface 30 (.int .i64 c)) ∧ w = w' := by
  have hc : w.cell? ⟨b, 0, none⟩ = some (.int .i64 c) := cell_of_block h 0
  clear h
  go_enter Tryz.func190, Tryz.ntmps190
  go_wp2
  go_ret
  exact ⟨rfl, rfl⟩
set_option maxRecDepth 100000 in
set_option maxHeartbeats 4000000 in
theorem is64 (b : Nat) (c a : Int) (w : World) (h : w.heap[b]? = some (.cells #[.int .i64 c, .int .i64 a] 32 (0, 0))) :
    Calls Tryz.prog 64 #[.iface 74 (.pointer (some ⟨b, 0, none⟩)), .iface 30 (.int .i64 c), .bool true] w fun e w' => e = .returned (.bool true) ∧ w = w' := by
  have e1 := fun w => eql_other w ⟨b, 0, none⟩ c
  have e2 := fun w => eql_errno w c c
  have t1 := fun w => ta184 w ⟨b, 0, none⟩
  have t2 := fun w => ta179 w ⟨b, 0, none⟩
  have m1 := fun w => mUnwrap w ⟨b, 0, none⟩
  have HU := Lib.hid (unwrap_any b c a w h)
  clear h
  go_enter Tryz.func64, Tryz.ntmps64
  go_wp2_with fail
  refine wp_loop_rounds 2 ?_
  rw [rounds_succ]
  go_wp2_with fail
  refine HU.out.mono ?_
  rintro ev w' ⟨rfl, rfl⟩
  have hcc : (c == c) = true := by simp
  go_wp2_with fail
  rw [rounds_succ]
  go_wp2_with fail
  go_ret
  exact ⟨rfl, rfl⟩
theorem Tryz.comparable30 (w : World) : (ReflectliteType.method (fun t => do Rtype.noPackHeld "Comparable" t; (fun a => Value.bool a.comparable) <$> typeInfo t) #[.agg #[.pointer (some ⟨9, 30, none⟩)]]).run Tryz.prog w = .ok (.bool true) w := by kernel_rfl
set_option maxRecDepth 100000 in
set_option maxHeartbeats 4000000 in
theorem is_hit (b : Nat) (c a : Int) (w : World) (h : w.heap[b]? = some (.cells #[.int .i64 c, .int .i64 a] 32 (0, 0))) :
    Calls Tryz.prog 31 #[.iface 74 (.pointer (some ⟨b, 0, none⟩)), .iface 30 (.int .i64 c)] w fun e w' => e = .returned (.bool true) ∧ w = w' := by
  have h63 := @run_callFunc_extern Tryz.prog 63 _ ReflectliteType.typeOf Tryz.func63 (by kernel_rfl) (by kernel_rfl) (by kernel_rfl) (by kernel_rfl)
  have h197 := @run_callFunc_extern Tryz.prog 197 _ (ReflectliteType.method (fun t => do Rtype.noPackHeld "Comparable" t; pure (.bool (← typeInfo t).comparable))) Tryz.func197 (by kernel_rfl) (by kernel_rfl) (by kernel_rfl) (by kernel_rfl)
  have tO := Tryz.typeOf30
  have mC := Tryz.mComp
  have c30 := Tryz.comparable30
  have H := Lib.hid (is64 b c a w h)
  clear h
  go_enter Tryz.func31, Tryz.ntmps31
  go_wp2_with fail
  refine H.out.mono ?_
  rintro ev w' ⟨rfl, rfl⟩
  go_wp2_with fail
  go_ret
  exact ⟨rfl, rfl⟩
end Go.Proofs.YtifliekahdgobaaGreatDoor
namespace Go.Proofs.YtifliekahdgobaaGreatDoor
open Go.RowKit Sp

theorem Tryz.eg32 : Tryz.prog.eqGuardType Tryz.prog.depth 32 = false := by kernel_rfl
theorem Tryz.sh32 : Tryz.prog.stoodInHeld 32 = false := by kernel_rfl
theorem eql32 (c a : Int) (w : World) : (binOp .eql 32 (.agg #[.int .i64 c, .int .i64 a]) (.agg #[.int .i64 c, .int .i64 a])).run Tryz.prog w = .ok (.bool true) w := by
  rw [run_eql_struct, run_equalIn_agg w 9999 32 _ _ (by kernel_rfl) Tryz.sh32]
  rw [show (Tryz.prog.fieldsOf 32).toList = _ from by simp [Program.fieldsOf, Tryz.underlying32]; rfl]
  go_simp
theorem grd32 (op : BinOp) (x y : Operand) (c a : Int) (w : World) : (eqGuard op 32 x y (.agg #[.int .i64 c, .int .i64 a]) (.agg #[.int .i64 c, .int .i64 a])).run Tryz.prog w = .ok () w := run_eqGuard_agg w op 32 x y _ _ Tryz.eg32
set_option maxRecDepth 100000 in
theorem told_nil (a : Int) (w : World) : Calls Tryz.prog 10 #[.nilIface, .agg #[.int .i64 0, .int .i64 a]] w (Tells true w) := by
  go_enter Tryz.func10, Tryz.ntmps10
  go_wp2_with fail
  go_ret
  exact ⟨rfl, (Keep.refl _ w).alloc _⟩
/-- what is held while told looks -/
def ToldS (N0 b : Nat) (c a : Int) (w' : World) : Prop := w'.cell? ⟨N0, 0, none⟩ = some (.int .i64 c) ∧ w'.cell? ⟨N0, 1, none⟩ = some (.int .i64 a) ∧ w'.cell? ⟨b, 0, none⟩ = some (.int .i64 c) ∧ w'.cell? ⟨b, 1, none⟩ = some (.int .i64 a)
set_option maxRecDepth 100000 in
set_option maxHeartbeats 4000000 in
theorem told_fault (b : Nat) (c a : Int) (hc : c ≠ 0) (w : World) (hb : w.heap[b]? = some (.cells #[.int .i64 c, .int .i64 a] 32 (0, 0))) (hg : Glob w) :
    Calls Tryz.prog 10 #[.iface 74 (.pointer (some ⟨b, 0, none⟩)), .agg #[.int .i64 c, .int .i64 a]] w (Tells true w) := by
  have hc0 : (c == 0) = false := by rw [beq_eq_false_iff_ne]; exact hc
  obtain ⟨N0, hN0⟩ : ∃ N, N = w.heap.size := ⟨_, rfl⟩
  obtain ⟨W, hW⟩ : ∃ W : World, W = (w.alloc (.cells #[.int .i64 c, .int .i64 a] 32)).alloc (.cells #[.pointer none] 74) := ⟨_, rfl⟩
  have hkW : Keep (fun _ => False) w W := by rw [hW]; exact ((Keep.refl _ w).alloc _).alloc _
  have hbW := hkW.at' hb (fun e => e)
  have hN : W.heap[N0]? = some (.cells #[.int .i64 c, .int .i64 a] 32 (0, 0)) := by rw [hW, hN0]; exact block_alloc (block_new _ _) _
  have hT : W.heap[N0 + 1]? = some (.cells #[.pointer none] 74 (0, 0)) := by rw [hW, hN0]; exact block_new' _ _ (by simp)
  have hbl := lt_of_block hb
  have hSW : ∀ w', Keep (fun k => k = N0 + 1) W w' → ToldS N0 b c a w' := fun w' hk =>
    ⟨cell_of_block (hk.at' hN (by omega)) 0, cell_of_block (hk.at' hN (by omega)) 1, cell_of_block (hk.at' hbW (by omega)) 0, cell_of_block (hk.at' hbW (by omega)) 1⟩
  have hty : W.cell? ⟨0, 0, none⟩ = some (.iface 172 (.agg #[.pointer (some ⟨9, 26, none⟩)])) := by
    have := (hg.far hkW).ty
    rwa [Tryz.handle 26 (.inl rfl)] at this
  have HS := Lib.hid hSW
  have HAS := Lib.hid (fun w1 (hk1 : Keep (fun k => k = N0 + 1) W w1) (h0 : 0 < N0 + 1) => as_hit ⟨b, 0, none⟩ ⟨N0 + 1, 0, none⟩ (.pointer none) W.drew hty (cell_of_block hT 0) (free_of_block hT 0))
  have HAS2 := Lib.hid (as_hit ⟨b, 0, none⟩ ⟨N0 + 1, 0, none⟩ (.pointer none) W.drew hty (cell_of_block hT 0) (free_of_block hT 0))
  have HIS := Lib.hid (fun w1 (hk1 : Keep (fun k => k = N0 + 1) W w1) => is_hit b c a w1 (hk1.at' hbW (by omega)))
  have HKW := Lib.hid hkW
  have HW := Lib.hid hW
  have HN0 := Lib.hid hN0
  have heq := fun w => eql32 c a w
  have hgd := fun (op : BinOp) (x y : Operand) (w : World) => grd32 op x y c a w
  have hNw : Hid (¬ N0 + 1 < w.heap.size) := Lib.hid (by omega)
  clear hSW hty hT hN hbW hkW hW hbl hb hg hc hN0 HAS
  go_enter Tryz.func10, Tryz.ntmps10
  go_upto_region 3 with fail
  go_upto_region 4 with fail
  rw [← HW.out]
  rw [← HN0.out]
  refine wp_region_held_drew (S := fun w' => w'.cell? ⟨N0, 0, none⟩ = some (.int .i64 c) ∧ w'.cell? ⟨N0, 1, none⟩ = some (.int .i64 a) ∧ w'.cell? ⟨b, 0, none⟩ = some (.int .i64 c) ∧ w'.cell? ⟨b, 1, none⟩ = some (.int .i64 a)) (by kernel_rfl) (HS.out _ ((Keep.refl _ W).drew)) (fun hHeld => ?_)
  refine wpAnyH_take (i := 0) (oi := ?_) (v := ?_) (by simp only [List.getElem?_toArray, List.getElem?_cons_succ, List.getElem?_cons_zero]; exact rfl) (by kernel_rfl) (by kernel_rfl) (by kernel_rfl) (by exact fun _ _ _ h => h) (Or.inl ⟨by rfl, ?_⟩) (by assumption) ?_
  rotate_left
  · (intro w hSw; (try dsimp only at hSw); go_simp; try with_reducible rfl)
  try simp only [Act.put, List.setIfInBounds_toArray, List.set_cons_zero, List.set_cons_succ]
  refine wpAnyH_take (i := 1) (oi := ?_) (v := ?_) (by simp only [List.getElem?_toArray, List.getElem?_cons_succ, List.getElem?_cons_zero]; exact rfl) (by kernel_rfl) (by kernel_rfl) (by kernel_rfl) (by exact fun _ _ _ h => h) (Or.inl ⟨by rfl, ?_⟩) (by assumption) ?_
  rotate_left
  · (intro w hSw; (try dsimp only at hSw); go_simp; try with_reducible rfl)
  try simp only [Act.put, List.setIfInBounds_toArray, List.set_cons_zero, List.set_cons_succ]
  refine wpAnyH_ready (rs := [2]) (by kernel_rfl) (by simp) ?_
  refine AllReadyH.cons (o := ?_) (by simp only [List.getElem?_toArray, List.getElem?_cons_succ, List.getElem?_cons_zero]; exact rfl) (fun K hK => ?_) AllReadyH.nil
  go_simp
  refine HAS2.out.mono ?_
  rintro ev w1 ⟨rfl, hk1, hct⟩
  have hk2 : Keep (fun k => k = N0 + 1) W w1 := ((Keep.refl _ W).drew).trans' hk1
  clear hk1 HAS2
  refine hK.out _ _ (HS.out _ hk2) (fun hHeld => ?_)
  clear hK K
  try simp only [Act.put, List.setIfInBounds_toArray, List.set_cons_zero, List.set_cons_succ]
  refine wpAnyH_take (i := 3) (oi := ?_) (v := ?_) (by simp only [List.getElem?_toArray, List.getElem?_cons_succ, List.getElem?_cons_zero]; exact rfl) (by kernel_rfl) (by kernel_rfl) (by kernel_rfl) (by exact fun _ _ _ h => h) (Or.inl ⟨by rfl, ?_⟩) (by assumption) ?_
  rotate_left
  · (intro w hSw; (try dsimp only at hSw); go_simp; try with_reducible rfl)
  try simp only [Act.put, List.setIfInBounds_toArray, List.set_cons_zero, List.set_cons_succ]
  refine wpAnyH_take (i := 7) (oi := ?_) (v := ?_) (by simp only [List.getElem?_toArray, List.getElem?_cons_succ, List.getElem?_cons_zero]; exact rfl) (by kernel_rfl) (by kernel_rfl) (by kernel_rfl) (by exact fun _ _ _ h => h) (Or.inl ⟨by rfl, ?_⟩) (by assumption) ?_
  rotate_left
  · (intro w hSw; (try dsimp only at hSw); go_simp; try with_reducible rfl)
  try simp only [Act.put, List.setIfInBounds_toArray, List.set_cons_zero, List.set_cons_succ]
  refine wpAnyH_ready (rs := [4]) (by kernel_rfl) (by simp) ?_
  refine AllReadyH.cons (o := ?_) (by simp only [List.getElem?_toArray, List.getElem?_cons_succ, List.getElem?_cons_zero]; exact rfl) (fun K hK => ?_) AllReadyH.nil
  go_simp
  refine hK.out _ _ (HS.out _ hk2) (fun hHeld => ?_)
  clear hK K
  try simp only [Act.put, List.setIfInBounds_toArray, List.set_cons_zero, List.set_cons_succ]
  refine wpAnyH_take (i := 5) (oi := ?_) (v := ?_) (by simp only [List.getElem?_toArray, List.getElem?_cons_succ, List.getElem?_cons_zero]; exact rfl) (by kernel_rfl) (by kernel_rfl) (by kernel_rfl) (by exact fun _ _ _ h => h) (Or.inl ⟨by rfl, ?_⟩) (by assumption) ?_
  rotate_left
  · (intro w hSw; (try dsimp only at hSw); go_simp; try with_reducible rfl)
  try simp only [Act.put, List.setIfInBounds_toArray, List.set_cons_zero, List.set_cons_succ]
  refine wpAnyH_take (i := 6) (oi := ?_) (v := ?_) (by simp only [List.getElem?_toArray, List.getElem?_cons_succ, List.getElem?_cons_zero]; exact rfl) (by kernel_rfl) (by kernel_rfl) (by kernel_rfl) (by exact fun _ _ _ h => h) (Or.inl ⟨by rfl, ?_⟩) (by assumption) ?_
  rotate_left
  · (intro w hSw; (try dsimp only at hSw); go_simp; try with_reducible rfl)
  try simp only [Act.put, List.setIfInBounds_toArray, List.set_cons_zero, List.set_cons_succ]
  refine wpAnyH_take (i := 8) (oi := ?_) (v := ?_) (by simp only [List.getElem?_toArray, List.getElem?_cons_succ, List.getElem?_cons_zero]; exact rfl) (by kernel_rfl) (by kernel_rfl) (by kernel_rfl) (by exact fun _ _ _ h => h) (Or.inl ⟨by rfl, ?_⟩) (by assumption) ?_
  rotate_left
  · (intro w hSw; (try dsimp only at hSw); go_simp; try with_reducible rfl)
  try simp only [Act.put, List.setIfInBounds_toArray, List.set_cons_zero, List.set_cons_succ]
  refine wpAnyH_take (i := 9) (oi := ?_) (v := ?_) (by simp only [List.getElem?_toArray, List.getElem?_cons_succ, List.getElem?_cons_zero]; exact rfl) (by kernel_rfl) (by kernel_rfl) (by kernel_rfl) (by exact fun _ _ _ h => h) (Or.inl ⟨by rfl, ?_⟩) (by assumption) ?_
  rotate_left
  · (intro w hSw; (try dsimp only at hSw); go_simp; try with_reducible rfl)
  try simp only [Act.put, List.setIfInBounds_toArray, List.set_cons_zero, List.set_cons_succ]
  refine wpAnyH_take (i := 10) (oi := ?_) (v := ?_) (by simp only [List.getElem?_toArray, List.getElem?_cons_succ, List.getElem?_cons_zero]; exact rfl) (by kernel_rfl) (by kernel_rfl) (by kernel_rfl) (by exact fun _ _ _ h => h) (Or.inl ⟨by rfl, ?_⟩) (by assumption) ?_
  rotate_left
  · (intro w hSw; (try dsimp only at hSw); go_simp; try with_reducible rfl)
  try simp only [Act.put, List.setIfInBounds_toArray, List.set_cons_zero, List.set_cons_succ]
  refine wpAnyH_take (i := 11) (oi := ?_) (v := ?_) (by simp only [List.getElem?_toArray, List.getElem?_cons_succ, List.getElem?_cons_zero]; exact rfl) (by kernel_rfl) (by kernel_rfl) (by kernel_rfl) (by exact fun _ _ _ h => h) (Or.inl ⟨by rfl, ?_⟩) (by assumption) ?_
  rotate_left
  · (intro w hSw; (try dsimp only at hSw); go_simp; try with_reducible rfl)
  try simp only [Act.put, List.setIfInBounds_toArray, List.set_cons_zero, List.set_cons_succ]
  refine wpAnyH_take (i := 12) (oi := ?_) (v := ?_) (by simp only [List.getElem?_toArray, List.getElem?_cons_succ, List.getElem?_cons_zero]; exact rfl) (by kernel_rfl) (by kernel_rfl) (by kernel_rfl) (by exact fun _ _ _ h => h) (Or.inl ⟨by rfl, ?_⟩) (by assumption) ?_
  rotate_left
  · (intro w hSw; (try dsimp only at hSw); go_simp; try with_reducible rfl)
  try simp only [Act.put, List.setIfInBounds_toArray, List.set_cons_zero, List.set_cons_succ]
  refine wpAnyH_take (i := 13) (oi := ?_) (v := ?_) (by simp only [List.getElem?_toArray, List.getElem?_cons_succ, List.getElem?_cons_zero]; exact rfl) (by kernel_rfl) (by kernel_rfl) (by kernel_rfl) (by exact fun _ _ _ h => h) (Or.inl ⟨by rfl, ?_⟩) (by assumption) ?_
  rotate_left
  · (intro w hSw; (try dsimp only at hSw); go_simp; try with_reducible rfl)
  try simp only [Act.put, List.setIfInBounds_toArray, List.set_cons_zero, List.set_cons_succ]
  refine wpAnyH_take (i := 14) (oi := ?_) (v := ?_) (by simp only [List.getElem?_toArray, List.getElem?_cons_succ, List.getElem?_cons_zero]; exact rfl) (by kernel_rfl) (by kernel_rfl) (by kernel_rfl) (by exact fun _ _ _ h => h) (Or.inl ⟨by rfl, ?_⟩) (by assumption) ?_
  rotate_left
  · (intro w hSw; (try dsimp only at hSw); go_simp; try with_reducible rfl)
  try simp only [Act.put, List.setIfInBounds_toArray, List.set_cons_zero, List.set_cons_succ]
  refine wpAnyH_ready (rs := [15]) (by kernel_rfl) (by simp) ?_
  refine AllReadyH.cons (o := ?_) (by simp only [List.getElem?_toArray, List.getElem?_cons_succ, List.getElem?_cons_zero]; exact rfl) (fun K hK => ?_) AllReadyH.nil
  go_simp
  refine (HIS.out _ hk2).mono ?_
  rintro ev w' ⟨rfl, rfl⟩
  refine hK.out _ _ (HS.out _ hk2) (fun hHeld => ?_)
  clear hK K
  try simp only [Act.put, List.setIfInBounds_toArray, List.set_cons_zero, List.set_cons_succ]
  refine wpAnyH_take (i := 16) (oi := ?_) (v := ?_) (by simp only [List.getElem?_toArray, List.getElem?_cons_succ, List.getElem?_cons_zero]; exact rfl) (by kernel_rfl) (by kernel_rfl) (by kernel_rfl) (by exact fun _ _ _ h => h) (Or.inl ⟨by rfl, ?_⟩) (by assumption) ?_
  rotate_left
  · (intro w hSw; (try dsimp only at hSw); go_simp; try with_reducible rfl)
  try simp only [Act.put, List.setIfInBounds_toArray, List.set_cons_zero, List.set_cons_succ]
  refine wpAnyH_ready (rs := [17]) (by kernel_rfl) (by simp) ?_
  refine AllReadyH.cons (o := ?_) (by simp only [List.getElem?_toArray, List.getElem?_cons_succ, List.getElem?_cons_zero]; exact rfl) (fun K hK => ?_) AllReadyH.nil
  go_simp
  refine hK.out _ _ (HS.out _ hk2) (fun hHeld => ?_)
  clear hK K
  try simp only [Act.put, List.setIfInBounds_toArray, List.set_cons_zero, List.set_cons_succ]
  refine wpAnyH_done (by kernel_rfl) ?_ _
  go_wp2_with fail
  go_ret
  exact ⟨rfl, HKW.out.trans hk2 (fun k hk e => by have := hNw.out; omega)⟩
end Go.Proofs.YtifliekahdgobaaGreatDoor
namespace Go.Proofs.YtifliekahdgobaaGreatDoor
open Go.RowKit Sp

theorem take_step {α : Type} {l1 l2 : List α} {k : Nat} (h1 : k < l1.length) (h2 : k < l2.length) (h : l1.take k = l2.take k) (he : l1[k] = l2[k]) : l1.take (k + 1) = l2.take (k + 1) := by
  rw [List.take_succ_eq_append_getElem h1, List.take_succ_eq_append_getElem h2, h, he]
theorem ne_at {α : Type} {l1 l2 : List α} {k : Nat} (h1 : k < l1.length) (h2 : k < l2.length) (he : ¬ l1[k] = l2[k]) : ¬ l1 = l2 := fun e => by
  subst e
  exact he rfl
set_option maxRecDepth 100000 in
set_option maxHeartbeats 1600000 in
theorem rsameOps_any (v1 v2 : Value) (l1 l2 : List OpS) (w : World) (h1 : RowRead opCells 9 w v1 l1) (h2 : RowRead opCells 9 w v2 l2) (hn : l1.length ≤ 1000000) :
    Calls Tryz.prog 65 #[v1, v2] w (Tells (decide (l1 = l2)) w) := by
  obtain ⟨a1, c1, rfl, -⟩ := id h1
  obtain ⟨a2, c2, rfl, -⟩ := id h2
  have H1 := Lib.hid h1
  have H2 := Lib.hid h2
  clear h1 h2
  obtain ⟨r, hr⟩ : ∃ r, r = decide (l1 = l2) := ⟨_, rfl⟩
  rw [← hr]
  have HR := Lib.hid hr
  clear hr
  by_cases hl : l1.length = l2.length
  · have hl' : ((l1.length : Int) != (l2.length : Int)) = false := by rw [bne_eq_false_iff_eq, hl]
    have HL := Lib.hid hl
    clear hl
    go_enter Tryz.func65, Tryz.ntmps65
    go_wp2_with fail
    go_loopw [5] (fun v5 wr => ∃ k : Nat, k ≤ l1.length ∧ v5 = .int .i64 k ∧ Hid (l1.take k = l2.take k) ∧ Keep (fun _ => False) w wr) (fun v5 _ => l1.length - (intOf v5).toNat)
    case atStart => exact ⟨0, Nat.zero_le _, rfl, Lib.hid rfl, Keep.refl _ _⟩
    case round =>
      obtain ⟨k, hk, rfl, HT, hkr⟩ := hrel
      by_cases hlt : k < l1.length
      · have hlt2 : k < l2.length := by have := HL.out; omega
        obtain ⟨b, o, hbo, hrng⟩ := (H1.out.keep hkr (fun _ _ _ _ _ e => e)).at k hlt
        obtain ⟨b', o', hbo', hrng'⟩ := (H2.out.keep hkr (fun _ _ _ _ _ e => e)).at k hlt2
        subst hbo hbo'
        have hs := fun he => take_step hlt hlt2 HT.out he
        have hne := fun he => ne_at (l1 := l1) (l2 := l2) hlt hlt2 he
        have hlt' : (k : Int) < (l1.length : Int) := by omega
        have hlt2' : (k : Int) < (l2.length : Int) := by omega
        generalize l1[k] = x at *
        generalize l2[k] = y at *
        have hld : ∀ q, (ldT 67 (.pointer (some ⟨b, o + k * 9, none⟩))).run Tryz.prog (wr.drewN q) = .ok (.value (.agg (opCells x))) (wr.drewN q) := fun q => run_ld67 _ b _ _ rfl (fun j u hu => by rw [World.cell?_drewN]; exact hrng j u hu)
        have hld' : ∀ q, (ldT 67 (.pointer (some ⟨b', o' + k * 9, none⟩))).run Tryz.prog (wr.drewN q) = .ok (.value (.agg (opCells y))) (wr.drewN q) := fun q => run_ld67 _ b' _ _ rfl (fun j u hu => by rw [World.cell?_drewN]; exact hrng' j u hu)
        have HS := Lib.hid hs
        have HNE := Lib.hid hne
        have HKR := Lib.hid hkr
        have hneq := fun w => neq67 x y w
        have hgrd := fun (op : BinOp) (a b : Operand) (w : World) => grd67 op a b x y w
        clear hs hne hkr hrng hrng' HT
        by_cases hxy : x = y
        · have hd : decide (x = y) = true := decide_eq_true hxy
          have HE := Lib.hid hxy
          clear hxy
          go_wp2_with fail
          go_quiet (fail)
          go_wp2_with fail
          exact ⟨⟨k + 1, by omega, by go_num, Lib.hid (HS.out HE.out), HKR.out.drewN _⟩, by simp [intOf]; omega⟩
        · have hd : decide (x = y) = false := decide_eq_false hxy
          have HE := Lib.hid hxy
          clear hxy
          go_wp2_with fail
          go_quiet (fail)
          go_wp2_with fail
          go_ret
          exact ⟨by rw [HR.out, decide_eq_false (HNE.out HE.out)]; rfl, HKR.out.drewN _⟩
      · have hge : ¬ (k : Int) < (l1.length : Int) := by omega
        have HE := Lib.hid (show l1 = l2 by
          have := HT.out
          obtain rfl : k = l1.length := by omega
          rw [List.take_length, HL.out, List.take_length] at this
          exact this)
        clear HT
        have HKR := Lib.hid hkr
        clear hkr
        go_wp2_with fail
        go_ret
        exact ⟨by rw [HR.out, decide_eq_true HE.out]; rfl, HKR.out⟩
  · have hl' : ((l1.length : Int) != (l2.length : Int)) = true := by rw [bne_iff_ne]; omega
    have HL := Lib.hid (show ¬ l1 = l2 from fun e => hl (by rw [e]))
    clear hl
    go_enter Tryz.func65, Tryz.ntmps65
    go_wp2_with fail
    go_ret
    exact ⟨by rw [HR.out, decide_eq_false HL.out]; rfl, Keep.refl _ _⟩

/-! ### SameStep -/
theorem info59' : (Tryz.prog.info? 59).map (·.size) = some 8 := info59
/-- the request of a step, stored into a new block -/
structure ReqBlk (w : World) (N : Nat) (r : ReqS) (vc vt ve : Value) : Prop where
  blk : w.heap[N]? = some (.cells (reqCells r vc vt ve) 59 (0, 0))
theorem ReqBlk.keep {M : Nat → Prop} {w w' : World} {N : Nat} {r : ReqS} {vc vt ve : Value} (h : ReqBlk w N r vc vt ve) (hk : Keep M w w') (hM : ¬ M N) : ReqBlk w' N r vc vt ve := ⟨hk.at' h.blk hM⟩
def zero8 : Array Value := #[.int .i64 0, .int .u64 0, .int .u64 0, .bool false, .slice none 0 0, .slice none 0 0, .slice none 0 0, .int .u64 0]
/-- two new blocks, filled -/
theorem two_reqs (V : World) (p q : Nat) (hpq : p ≠ q) (cx cy : Array Value) (hx : cx.size = 8) (hy : cy.size = 8) (ox : cx.all (·.oneCell') = true) (oy : cy.all (·.oneCell') = true)
    (hp : V.heap[p]? = some (.cells zero8 59 (0, 0))) (hq : V.heap[q]? = some (.cells zero8 59 (0, 0))) :
    ∃ V1 V2, (stT 59 (.pointer (some ⟨p, 0, none⟩)) (.agg cx)).run Tryz.prog V = .ok .skip V1 ∧ (stT 59 (.pointer (some ⟨q, 0, none⟩)) (.agg cy)).run Tryz.prog V1 = .ok .skip V2 ∧
      V2.heap[p]? = some (.cells cx 59 (0, 0)) ∧ V2.heap[q]? = some (.cells cy 59 (0, 0)) ∧ Keep (fun b => b = p) V V1 ∧ Keep (fun b => b = p ∨ b = q) V V2 := by
  have h1 := run_st59 V p 0 cx (there_of_block hp (by decide)) hx ox
  have hq1 : (V.setCells p 0 cx.toList).heap[q]? = some (.cells zero8 59 (0, 0)) := by rw [heap_setCells _ _ (fun e => hpq e.symm)]; exact hq
  have hp1 : (V.setCells p 0 cx.toList).heap[p]? = some (.cells cx 59 (0, 0)) := by
    rw [block_setCells_all hp _ (by rw [Array.length_toList, hx]; rfl)]
  have h2 := run_st59 (V.setCells p 0 cx.toList) q 0 cy (there_of_block hq1 (by decide)) hy oy
  refine ⟨_, _, h1, h2, ?_, ?_, ?_, ?_⟩
  · rw [heap_setCells _ _ hpq]; exact hp1
  · rw [block_setCells_all hq1 _ (by rw [Array.length_toList, hy]; rfl)]
  · exact (Keep.refl _ V).setCells _ _ _ (.inr rfl)
  · exact ((Keep.refl _ V).setCells _ _ _ (.inr (.inl rfl))).setCells _ _ _ (.inr (.inr rfl))
theorem reqCells_oneS (r : ReqS) {a1 a2 a3 : Option Addr} {n1 n2 n3 c1 c2 c3 : Nat} : (reqCells r (.slice a1 n1 c1) (.slice a2 n2 c2) (.slice a3 n3 c3)).all (·.oneCell') = true := by simp [reqCells, one_int, one_bool, one_slice]
/-- all but the rows of two steps are alike, and as many comparisons -/
def Heads (a b : StepS) : Prop := a.kind = b.kind ∧ a.node = b.node ∧ a.n = b.n ∧ a.watch = b.watch ∧ a.req.kind = b.req.kind ∧ a.req.client = b.req.client ∧ a.req.num = b.req.num ∧ a.req.serial = b.req.serial ∧ a.req.rev = b.req.rev ∧ a.req.cmps.length = b.req.cmps.length
theorem Heads.eq {a b : StepS} (h : Heads a b) (h1 : a.req.cmps = b.req.cmps) (h2 : a.req.thn = b.req.thn) (h3 : a.req.els = b.req.els) : a = b := by
  obtain ⟨k, n, m, ⟨r1, r2, r3, r4, r5, r6, r7, r8⟩, w⟩ := a
  obtain ⟨k', n', m', ⟨s1, s2, s3, s4, s5, s6, s7, s8⟩, w'⟩ := b
  obtain ⟨g1, g2, g3, g4, g5, g6, g7, g8, g9, _⟩ := h
  dsimp only at *
  subst g1 g2 g3 g4 g5 g6 g7 g8 g9 h1 h2 h3
  rfl
set_option maxRecDepth 100000 in
set_option maxHeartbeats 12800000 in
theorem rsame_any (a b : StepS) (vca vta vea vcb vtb veb : Value) (w : World) (ha : ReqRead w a.req vca vta vea) (hb : ReqRead w b.req vcb vtb veb) (hla : a.req.cmps.length ≤ 1000000 ∧ a.req.thn.length ≤ 1000000 ∧ a.req.els.length ≤ 1000000) :
    Calls Tryz.prog 32 #[.agg (stepCells a vca vta vea), .agg (stepCells b vcb vtb veb)] w (Tells (decide (a = b)) w) := by
  obtain ⟨N, hN⟩ : ∃ N, N = w.heap.size := ⟨_, rfl⟩
  obtain ⟨ca, hca⟩ : ∃ c, c = stepCells a vca vta vea := ⟨_, rfl⟩
  obtain ⟨cb, hcb⟩ : ∃ c, c = stepCells b vcb vtb veb := ⟨_, rfl⟩
  obtain ⟨W, hW⟩ : ∃ W : World, W = (w.alloc (.cells ca 63)).alloc (.cells cb 63) := ⟨_, rfl⟩
  have hkW : Keep (fun _ => False) w W := by rw [hW]; exact ((Keep.refl _ w).alloc _).alloc _
  have hsz : W.heap.size = N + 2 := by rw [hW, hN]; simp
  have hA : StepBlk W N a vca vta vea := ⟨by rw [hW, hN, hca]; exact block_alloc (block_new _ _) _⟩
  have hB : StepBlk W (N + 1) b vcb vtb veb := ⟨by rw [hW, hN, hcb]; exact block_new' _ _ (by simp)⟩
  rw [← hca, ← hcb]
  have HS : ∀ w', Keep (fun _ => False) W w' → Keep (fun _ => False) W w' ∧ (ldT 59 (.pointer (some ⟨N, 3, none⟩))).run Tryz.prog w' = .ok (.value (.agg (reqCells a.req vca vta vea))) w' ∧ (ldT 59 (.pointer (some ⟨N + 1, 3, none⟩))).run Tryz.prog w' = .ok (.value (.agg (reqCells b.req vcb vtb veb))) w' := fun w' hk => ⟨hk, (hA.keep hk (fun e => e)).req, (hB.keep hk (fun e => e)).req⟩
  have HSH := Lib.hid HS
  have HW := Lib.hid hW
  have HA := Lib.hid hA
  have HB := Lib.hid hB
  have HKW := Lib.hid hkW
  have HSZ := Lib.hid hsz
  have HN := Lib.hid hN
  have HRA := Lib.hid ha
  have HRB := Lib.hid hb
  have HLA := Lib.hid hla
  obtain ⟨⟨a1, c1, e1, -⟩, ⟨a2, c2, e2, -⟩, ⟨a3, c3, e3, -⟩⟩ := ha
  obtain ⟨⟨b1, d1, f1, -⟩, ⟨b2, d2, f2, -⟩, ⟨b3, d3, f3, -⟩⟩ := hb
  clear HS hW hA hB hkW hsz hN hca hcb hla
  go_enter Tryz.func32, Tryz.ntmps32
  go_wp2_with fail
  rw [← HW.out]
  generalize hNW : w.heap.size = N' at *
  obtain rfl : N = N' := HN.out
  go_cut [5, 6] from 8 to 12 (fun v5 v6 wx => ∃ p q : Nat, v5 = .pointer (some ⟨p, 0, none⟩) ∧ v6 = .pointer (some ⟨q, 0, none⟩) ∧ Hid (ReqBlk wx p a.req vca vta vea ∧ ReqBlk wx q b.req vcb vtb veb ∧ Keep (fun _ => False) W wx))
  case first =>
    obtain ⟨V, hV⟩ : ∃ V : World, V = ((W.alloc (.cells zero8 59)).alloc (.cells zero8 59)).drew := ⟨_, rfl⟩
    have hkV : Keep (fun _ => False) W V := by rw [hV]; exact (((Keep.refl _ W).alloc _).alloc _).drew
    have hp : V.heap[W.heap.size]? = some (.cells zero8 59 (0, 0)) := by rw [hV]; exact block_alloc (block_new' _ _ rfl) _
    have hq : V.heap[W.heap.size + 1]? = some (.cells zero8 59 (0, 0)) := by rw [hV]; exact block_new' _ _ (by simp)
    have ox : (reqCells a.req vca vta vea).all (·.oneCell') = true := by rw [e1, e2, e3]; exact reqCells_oneS _
    have oy : (reqCells b.req vcb vtb veb).all (·.oneCell') = true := by rw [f1, f2, f3]; exact reqCells_oneS _
    obtain ⟨V1, V2, s1, s2, k1, k2, m1, m2⟩ := two_reqs V W.heap.size (W.heap.size + 1) (by omega) (reqCells a.req vca vta vea) (reqCells b.req vcb vtb veb) rfl rfl ox oy hp hq
    obtain ⟨U1, U2, s3, s4, k3, k4, m3, m4⟩ := two_reqs V (W.heap.size + 1) W.heap.size (by omega) (reqCells a.req vca vta vea) (reqCells b.req vcb vtb veb) rfl rfl ox oy hq hp
    have HM1 := Lib.hid (hkV.trans m1 (fun b hb e => by omega))
    have HM2 := Lib.hid (hkV.trans m2 (fun b hb e => by omega))
    have HM3 := Lib.hid (hkV.trans m3 (fun b hb e => by omega))
    have HM4 := Lib.hid (hkV.trans m4 (fun b hb e => by omega))
    have HF1 := Lib.hid (show ReqBlk V2 W.heap.size a.req vca vta vea ∧ ReqBlk V2 (W.heap.size + 1) b.req vcb vtb veb ∧ Keep (fun _ => False) W V2 from ⟨⟨k1⟩, ⟨k2⟩, HM2.out⟩)
    have HF2 := Lib.hid (show ReqBlk U2 (W.heap.size + 1) a.req vca vta vea ∧ ReqBlk U2 W.heap.size b.req vcb vtb veb ∧ Keep (fun _ => False) W U2 from ⟨⟨k3⟩, ⟨k4⟩, HM4.out⟩)
    rw [hV] at s1 s3
    unfold zero8 at s1 s3
    clear hV hkV hp hq ox oy k1 k2 k3 k4 m1 m2 m3 m4 e1 e2 e3 f1 f2 f3
    generalize reqCells a.req vca vta vea = rx at *
    generalize reqCells b.req vcb vtb veb = ry at *
    go_region_held3 (fun w' => Keep (fun _ => False) W w' ∧ (ldT 59 (.pointer (some ⟨N, 3, none⟩))).run Tryz.prog w' = .ok (.value (.agg rx)) w' ∧ (ldT 59 (.pointer (some ⟨N + 1, 3, none⟩))).run Tryz.prog w' = .ok (.value (.agg ry)) w')
      (first | exact HSH.out _ ((Keep.refl _ _).drew) | exact HSH.out _ (held_alloc (by assumption) _) | exact HSH.out _ HM1.out | exact HSH.out _ HM2.out | exact HSH.out _ HM3.out | exact HSH.out _ HM4.out)
      (fail)
    all_goals
      go_wp2_with fail
      go_meet
      first | exact ⟨_, _, rfl, rfl, HF1⟩ | exact ⟨_, _, rfl, rfl, HF2⟩
  case rest =>
    obtain ⟨p, q, rfl, rfl, HC⟩ := hcut
    obtain ⟨hp, hq, hkc⟩ := HC.out
    have hA := HA.out.keep hkc (fun e => e)
    have hB := HB.out.keep hkc (fun e => e)
    have HPB := Lib.hid hp
    have HQB := Lib.hid hq
    have HKC := Lib.hid hkc
    clear hkc HSH
    subst e1 e2 e3 f1 f2 f3
    have ca0 : wc.cell? ⟨N, 0, none⟩ = some (.int .i64 a.kind) := cell_of_block hA.blk 0
    have ca1 : wc.cell? ⟨N, 1, none⟩ = some (.int .i64 a.node) := cell_of_block hA.blk 1
    have ca2 : wc.cell? ⟨N, 2, none⟩ = some (.int .u64 a.n) := cell_of_block hA.blk 2
    have caw := hA.watch
    have cb0 : wc.cell? ⟨N + 1, 0, none⟩ = some (.int .i64 b.kind) := cell_of_block hB.blk 0
    have cb1 : wc.cell? ⟨N + 1, 1, none⟩ = some (.int .i64 b.node) := cell_of_block hB.blk 1
    have cb2 : wc.cell? ⟨N + 1, 2, none⟩ = some (.int .u64 b.n) := cell_of_block hB.blk 2
    have cbw := hB.watch
    have da0 : wc.cell? ⟨p, 0, none⟩ = some (.int .i64 a.req.kind) := cell_of_block hp.blk 0
    have da1 : wc.cell? ⟨p, 1, none⟩ = some (.int .u64 a.req.client) := cell_of_block hp.blk 1
    have da2 : wc.cell? ⟨p, 2, none⟩ = some (.int .u64 a.req.num) := cell_of_block hp.blk 2
    have da3 : wc.cell? ⟨p, 3, none⟩ = some (.bool a.req.serial) := cell_of_block hp.blk 3
    have da7 : wc.cell? ⟨p, 7, none⟩ = some (.int .u64 a.req.rev) := cell_of_block hp.blk 7
    have da4 : wc.cell? ⟨p, 4, none⟩ = some (.slice a1 a.req.cmps.length c1) := cell_of_block hp.blk 4
    have db0 : wc.cell? ⟨q, 0, none⟩ = some (.int .i64 b.req.kind) := cell_of_block hq.blk 0
    have db1 : wc.cell? ⟨q, 1, none⟩ = some (.int .u64 b.req.client) := cell_of_block hq.blk 1
    have db2 : wc.cell? ⟨q, 2, none⟩ = some (.int .u64 b.req.num) := cell_of_block hq.blk 2
    have db3 : wc.cell? ⟨q, 3, none⟩ = some (.bool b.req.serial) := cell_of_block hq.blk 3
    have db7 : wc.cell? ⟨q, 7, none⟩ = some (.int .u64 b.req.rev) := cell_of_block hq.blk 7
    have db4 : wc.cell? ⟨q, 4, none⟩ = some (.slice b1 b.req.cmps.length d1) := cell_of_block hq.blk 4
    obtain ⟨sa, hsa⟩ : ∃ s, s = a.req.serial := ⟨_, rfl⟩
    obtain ⟨sb, hsb⟩ : ∃ s, s = b.req.serial := ⟨_, rfl⟩
    rw [← hsa] at da3
    rw [← hsb] at db3
    have HSA := Lib.hid hsa
    have HSB := Lib.hid hsb
    clear hsa hsb
    have hneq := fun w => neq61 a.watch b.watch w
    have hgrd := fun (op : BinOp) (x y : Operand) (w : World) => grd61 op x y a.watch b.watch w
    clear hA hB hp hq
    go_upto_region 2 with fail
    go_cut [81] from 12 to 82 (fun v81 wx => ∃ r : Bool, v81 = .bool r ∧ wx = wc ∧ Hid ((r = true → a ≠ b) ∧ (r = false → Heads a b)))
    case first =>
      by_cases h1 : a.kind = b.kind
      rotate_left
      · have g1 : (a.kind != b.kind) = true := by rw [bne_iff_ne]; exact h1
        have HE := Lib.hid (show a ≠ b from fun e => h1 (by rw [e]))
        clear h1
        go_wp2_with fail
        go_meet
        exact ⟨true, rfl, rfl, Lib.hid ⟨fun _ => HE.out, fun e => by cases e⟩⟩
      have g1 : (a.kind != b.kind) = false := by rw [bne_eq_false_iff_eq]; exact h1
      have H1 := Lib.hid h1
      clear h1
      by_cases h2 : a.node = b.node
      rotate_left
      · have g2 : (a.node != b.node) = true := by rw [bne_iff_ne]; exact h2
        have HE := Lib.hid (show a ≠ b from fun e => h2 (by rw [e]))
        clear h2
        go_wp2_with fail
        go_meet
        exact ⟨true, rfl, rfl, Lib.hid ⟨fun _ => HE.out, fun e => by cases e⟩⟩
      have g2 : (a.node != b.node) = false := by rw [bne_eq_false_iff_eq]; exact h2
      have H2 := Lib.hid h2
      clear h2
      by_cases h3 : a.n = b.n
      rotate_left
      · have g3 : (a.n != b.n) = true := by rw [bne_iff_ne]; exact h3
        have HE := Lib.hid (show a ≠ b from fun e => h3 (by rw [e]))
        clear h3
        go_wp2_with fail
        go_meet
        exact ⟨true, rfl, rfl, Lib.hid ⟨fun _ => HE.out, fun e => by cases e⟩⟩
      have g3 : (a.n != b.n) = false := by rw [bne_eq_false_iff_eq]; exact h3
      have H3 := Lib.hid h3
      clear h3
      by_cases h4 : a.watch = b.watch
      rotate_left
      · have g4 : decide (a.watch = b.watch) = false := decide_eq_false h4
        have HE := Lib.hid (show a ≠ b from fun e => h4 (by rw [e]))
        clear h4
        go_wp2_with fail
        go_meet
        exact ⟨true, rfl, rfl, Lib.hid ⟨fun _ => HE.out, fun e => by cases e⟩⟩
      have g4 : decide (a.watch = b.watch) = true := decide_eq_true h4
      have H4 := Lib.hid h4
      clear h4
      by_cases h5 : a.req.kind = b.req.kind
      rotate_left
      · have g5 : (a.req.kind != b.req.kind) = true := by rw [bne_iff_ne]; exact h5
        have HE := Lib.hid (show a ≠ b from fun e => h5 (by rw [e]))
        clear h5
        go_wp2_with fail
        go_meet
        exact ⟨true, rfl, rfl, Lib.hid ⟨fun _ => HE.out, fun e => by cases e⟩⟩
      have g5 : (a.req.kind != b.req.kind) = false := by rw [bne_eq_false_iff_eq]; exact h5
      have H5 := Lib.hid h5
      clear h5
      by_cases h6 : a.req.client = b.req.client
      rotate_left
      · have g6 : (a.req.client != b.req.client) = true := by rw [bne_iff_ne]; exact h6
        have HE := Lib.hid (show a ≠ b from fun e => h6 (by rw [e]))
        clear h6
        go_wp2_with fail
        go_meet
        exact ⟨true, rfl, rfl, Lib.hid ⟨fun _ => HE.out, fun e => by cases e⟩⟩
      have g6 : (a.req.client != b.req.client) = false := by rw [bne_eq_false_iff_eq]; exact h6
      have H6 := Lib.hid h6
      clear h6
      by_cases h7 : a.req.num = b.req.num
      rotate_left
      · have g7 : (a.req.num != b.req.num) = true := by rw [bne_iff_ne]; exact h7
        have HE := Lib.hid (show a ≠ b from fun e => h7 (by rw [e]))
        clear h7
        go_wp2_with fail
        go_meet
        exact ⟨true, rfl, rfl, Lib.hid ⟨fun _ => HE.out, fun e => by cases e⟩⟩
      have g7 : (a.req.num != b.req.num) = false := by rw [bne_eq_false_iff_eq]; exact h7
      have H7 := Lib.hid h7
      clear h7
      by_cases h8 : sa = sb
      rotate_left
      · have HE := Lib.hid (show a ≠ b from fun e => h8 (by rw [HSA.out, HSB.out, e]))
        cases sa <;> cases sb
        · exact absurd rfl h8
        · clear h8
          go_wp2_with fail
          go_meet
          exact ⟨true, rfl, rfl, Lib.hid ⟨fun _ => HE.out, fun e => by cases e⟩⟩
        · clear h8
          go_wp2_with fail
          go_meet
          exact ⟨true, rfl, rfl, Lib.hid ⟨fun _ => HE.out, fun e => by cases e⟩⟩
        · exact absurd rfl h8
      subst h8
      have H8 := Lib.hid (HSA.out.symm.trans HSB.out)
      by_cases h9 : a.req.rev = b.req.rev
      rotate_left
      · have g9 : (a.req.rev != b.req.rev) = true := by rw [bne_iff_ne]; exact h9
        have HE := Lib.hid (show a ≠ b from fun e => h9 (by rw [e]))
        clear h9
        go_wp2_with fail
        go_meet
        exact ⟨true, rfl, rfl, Lib.hid ⟨fun _ => HE.out, fun e => by cases e⟩⟩
      have g9 : (a.req.rev != b.req.rev) = false := by rw [bne_eq_false_iff_eq]; exact h9
      have H9 := Lib.hid h9
      clear h9
      by_cases h10 : a.req.cmps.length = b.req.cmps.length
      rotate_left
      · have g10 : ((a.req.cmps.length : Int) != (b.req.cmps.length : Int)) = true := by rw [bne_iff_ne]; omega
        have HE := Lib.hid (show a ≠ b from fun e => h10 (by rw [e]))
        clear h10
        go_wp2_with fail
        go_meet
        exact ⟨_, rfl, rfl, Lib.hid ⟨fun _ => HE.out, fun e => (by first | cases e | (rw [g10] at e; cases e))⟩⟩
      have g10 : ((a.req.cmps.length : Int) != (b.req.cmps.length : Int)) = false := by rw [bne_eq_false_iff_eq, h10]
      have H10 := Lib.hid h10
      clear h10
      go_wp2_with fail
      go_meet
      exact ⟨false, rfl, rfl, Lib.hid ⟨fun e => (by cases e), fun _ => ⟨H1.out, H2.out, H3.out, H4.out, H5.out, H6.out, H7.out, H8.out, H9.out, H10.out⟩⟩⟩
    case rest =>
      obtain ⟨r, rfl, rfl, HR⟩ := hcut
      clear ca0 cb0 ca1 cb1 ca2 cb2 caw cbw hneq hgrd da0 db0 da1 db1 da2 db2 da3 db3 da7 db7
      cases r
      · have HH := Lib.hid (HR.out.2 rfl)
        clear HR
        have hlen := HH.out.2.2.2.2.2.2.2.2.2
        have HKK := Lib.hid (HKW.out.trans' HKC.out)
        have HLEN := Lib.hid hlen
        have HRA2 := Lib.hid (HRA.out.far HKK.out)
        have HRB2 := Lib.hid (HRB.out.far HKK.out)
        have dlen : (a.req.cmps.length : Int) ≤ 1000000 := by have := HLA.out.1; omega
        clear hlen HRA HRB HW HA HB
        go_wp2_with fail
        go_loopw [7] (fun v7 wr => ∃ k : Nat, k ≤ a.req.cmps.length ∧ v7 = .int .i64 k ∧ Hid (a.req.cmps.take k = b.req.cmps.take k) ∧ Keep (fun _ => False) wc wr) (fun v7 _ => a.req.cmps.length - (intOf v7).toNat)
        case atStart => exact ⟨0, Nat.zero_le _, rfl, Lib.hid rfl, Keep.refl _ _⟩
        case round =>
          obtain ⟨k, hk, rfl, HT, hkr⟩ := hrel
          have hpr := HPB.out.keep hkr (fun e => e)
          have hqr := HQB.out.keep hkr (fun e => e)
          have x4 : wr.cell? ⟨p, 4, none⟩ = some (.slice a1 a.req.cmps.length c1) := cell_of_block hpr.blk 4
          have y4 : wr.cell? ⟨q, 4, none⟩ = some (.slice b1 b.req.cmps.length d1) := cell_of_block hqr.blk 4
          by_cases hlt : k < a.req.cmps.length
          · have hlt2 : k < b.req.cmps.length := by have := HLEN.out; omega
            obtain ⟨g, o, hbo, hrng⟩ := (HRA2.out.1.keep hkr (fun _ _ _ _ _ e => e)).at k hlt
            obtain ⟨g', o', hbo', hrng'⟩ := (HRB2.out.1.keep hkr (fun _ _ _ _ _ e => e)).at k hlt2
            subst hbo hbo'
            have hs := fun he => take_step hlt hlt2 HT.out he
            have hne := fun he => ne_at (l1 := a.req.cmps) (l2 := b.req.cmps) hlt hlt2 he
            have hlt' : (k : Int) < (a.req.cmps.length : Int) := by omega
            have hlt2' : (k : Int) < (b.req.cmps.length : Int) := by omega
            generalize a.req.cmps[k] = x at *
            generalize b.req.cmps[k] = y at *
            have hld : ∀ m, (ldT 65 (.pointer (some ⟨g, o + k * 5, none⟩))).run Tryz.prog (wr.drewN m) = .ok (.value (.agg (cmpCells x))) (wr.drewN m) := fun m => run_ld65 _ g _ _ rfl (fun j u hu => by rw [World.cell?_drewN]; exact hrng j u hu)
            have hld' : ∀ m, (ldT 65 (.pointer (some ⟨g', o' + k * 5, none⟩))).run Tryz.prog (wr.drewN m) = .ok (.value (.agg (cmpCells y))) (wr.drewN m) := fun m => run_ld65 _ g' _ _ rfl (fun j u hu => by rw [World.cell?_drewN]; exact hrng' j u hu)
            have HS := Lib.hid hs
            have HNE := Lib.hid hne
            have HKR := Lib.hid hkr
            have hneq := fun w => neq65 x y w
            have hgrd := fun (op : BinOp) (a b : Operand) (w : World) => grd65 op a b x y w
            clear hs hne hkr hrng hrng' HT hpr hqr
            by_cases hxy : x = y
            · have hd : decide (x = y) = true := decide_eq_true hxy
              have HE := Lib.hid hxy
              clear hxy
              go_wp2_with fail
              go_quiet (fail)
              go_wp2_with fail
              exact ⟨⟨k + 1, by omega, by go_num, Lib.hid (HS.out HE.out), HKR.out.drewN _⟩, by simp [intOf]; omega⟩
            · have hd : decide (x = y) = false := decide_eq_false hxy
              have HE := Lib.hid hxy
              clear hxy
              go_wp2_with fail
              go_quiet (fail)
              go_wp2_with fail
              go_ret
              exact ⟨by rw [decide_eq_false (fun e => HNE.out HE.out (by rw [e]))]; rfl, (HKK.out.trans' HKR.out).drewN _⟩
          · have hge : ¬ (k : Int) < (a.req.cmps.length : Int) := by omega
            have HE := Lib.hid (show a.req.cmps = b.req.cmps by
              have := HT.out
              obtain rfl : k = a.req.cmps.length := by omega
              rw [List.take_length, HLEN.out, List.take_length] at this
              exact this)
            have x5 : wr.cell? ⟨p, 5, none⟩ = some (.slice a2 a.req.thn.length c2) := cell_of_block hpr.blk 5
            have y5 : wr.cell? ⟨q, 5, none⟩ = some (.slice b2 b.req.thn.length d2) := cell_of_block hqr.blk 5
            have HPR := Lib.hid hpr
            have HQR := Lib.hid hqr
            have HKR := Lib.hid hkr
            have hops := rsameOps_any (.slice a2 a.req.thn.length c2) (.slice b2 b.req.thn.length d2) a.req.thn b.req.thn wr (HRA2.out.2.1.keep hkr (fun _ _ _ _ _ e => e)) (HRB2.out.2.1.keep hkr (fun _ _ _ _ _ e => e)) HLA.out.2.1
            have HOPS := Lib.hid hops
            clear HT hpr hqr hkr hops
            go_wp2_with fail
            refine HOPS.out.mono ?_
            rintro e w2 ⟨rfl, hk2⟩
            by_cases ht : a.req.thn = b.req.thn
            · have hd : decide (a.req.thn = b.req.thn) = true := decide_eq_true ht
              have hpr := HPR.out.keep hk2 (fun e => e)
              have hqr := HQR.out.keep hk2 (fun e => e)
              have x6 : w2.cell? ⟨p, 6, none⟩ = some (.slice a3 a.req.els.length c3) := cell_of_block hpr.blk 6
              have y6 : w2.cell? ⟨q, 6, none⟩ = some (.slice b3 b.req.els.length d3) := cell_of_block hqr.blk 6
              have hk3 := HKR.out.trans' hk2
              have HOPS3 := Lib.hid (rsameOps_any (.slice a3 a.req.els.length c3) (.slice b3 b.req.els.length d3) a.req.els b.req.els w2 (HRA2.out.2.2.keep hk3 (fun _ _ _ _ _ e => e)) (HRB2.out.2.2.keep hk3 (fun _ _ _ _ _ e => e)) HLA.out.2.2)
              have HK3 := Lib.hid hk3
              have HTH := Lib.hid ht
              clear ht hpr hqr hk3 hk2
              go_wp2_with fail
              refine HOPS3.out.mono ?_
              rintro e w3 ⟨rfl, hk4⟩
              have HK4 := Lib.hid hk4
              clear hk4
              have HEND := Lib.hid (show decide (a.req.els = b.req.els) = decide (a = b) from decide_eq_decide.2 ⟨fun h => HH.out.eq HE.out HTH.out h, fun h => by rw [h]⟩)
              go_wp2_with fail
              go_ret
              exact ⟨by rw [← HEND.out]; rfl, (HKK.out.trans' HK3.out).trans' HK4.out⟩
            · have hd : decide (a.req.thn = b.req.thn) = false := decide_eq_false ht
              have HTH := Lib.hid (show a ≠ b from fun e => ht (by rw [e]))
              have HK2 := Lib.hid hk2
              clear ht hk2
              go_wp2_with fail
              go_ret
              exact ⟨by rw [decide_eq_false HTH.out]; rfl, (HKK.out.trans' HKR.out).trans' HK2.out⟩
      · have HNE := Lib.hid (HR.out.1 rfl)
        clear HR
        go_wp2_with fail
        go_ret
        exact ⟨by rw [decide_eq_false HNE.out]; rfl, HKW.out.trans' HKC.out⟩
end Go.Proofs.YtifliekahdgobaaGreatDoor
