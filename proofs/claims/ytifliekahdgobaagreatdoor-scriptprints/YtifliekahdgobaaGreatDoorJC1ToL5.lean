/-
  ops, the cut of a branch's operations. Helpers of the claims.
  errors.As, errors.Is at a fault; told. Helpers of the claims.
  errors.As at a fault. Helpers of the claims.
  errors.Is at a fault; told. Helpers of the claims.
  told (printed by wip/tools/gen_told.py). Helpers of the claims.
  ours, theirs, wrong, works. Helpers of the claims.
-/
import Derived.Stop.Asserts
import Derived.LaidEql
import Derived.RowKitTokens
import Derived.Test.YtifliekahdgobaaGreatDoorJThQToW23
import Derived.Test.YtifliekahdgobaaGreatDoorJW12ToR12
import Derived.Test.YtifliekahdgobaaGreatDoorJThWToR4
import Derived.Test.YtifliekahdgobaaGreatDoorJSpecToW1
import Derived.Test.YtifliekahdgobaaGreatDoorJR19ToR20
import Derived.Test.YtifliekahdgobaaGreatDoorJW29ToW31
set_option linter.unusedSimpArgs false
set_option linter.unusedVariables false
namespace Go.Proofs.YtifliekahdgobaaGreatDoor
open Go.RowKit Sp

theorem cut_str (t : Str) (n : Nat) : Value.string ((⟨t.toArray⟩ : ByteArray).extract 0 (min (t.length : Int) (n : Int)).toNat) = sv (t.take n) := by
  rw [extract_piece]
  unfold piece
  simp only [List.drop_zero, Nat.sub_zero]
  have e : t.take (min (t.length : Int) (n : Int)).toNat = t.take n := by
    rcases Nat.lt_or_ge t.length n with h | h
    · rw [List.take_of_length_le (l := t) (i := n) (by omega), List.take_of_length_le (by omega)]
    · congr 1; omega
  rw [e]
theorem cut50 (t : Str) : Value.string ((⟨t.toArray⟩ : ByteArray).extract 0 (min (t.length : Int) 50).toNat) = sv (t.take 50) := cut_str t 50
def cutOp (x : OpS) : OpS := { x with key := x.key.take 50, fin := x.fin.take 50, val := x.val.take 50 }
def cutOps (l : List OpS) : List OpS := (l.take 12).map cutOp
theorem cutOps_step (l : List OpS) (k : Nat) (hk : k < l.length) : (l.take (k + 1)).map cutOp = (l.take k).map cutOp ++ [cutOp l[k]] := by
  rw [List.take_succ_eq_append_getElem hk, List.map_append]
  rfl
theorem cutOps_end (l : List OpS) (k : Nat) (hk : k ≤ 12) (h : k = 12 ∨ l.length ≤ k) : cutOps l = (l.take k).map cutOp := by
  unfold cutOps
  rcases h with h | h
  · rw [h]
  · rw [List.take_of_length_le (by omega : l.length ≤ k), List.take_of_length_le (by omega : l.length ≤ 12)]
theorem opsAt_far {w w' : World} {base : Nat} {v : Value} {l : List OpS} (h : OpsAt w base v l) (hk : Keep (fun _ => False) w w') : OpsAt w' base v l := ownsRow_keep h hk (fun _ _ _ _ e => e)
set_option maxRecDepth 100000 in
set_option maxHeartbeats 3200000 in
theorem ops_any (l : List OpS) (v : Value) (w : World) (hl : (l.length : Int) ≤ 9223372036854775807) (hr : RowRead opCells 9 w v l) :
    Calls Tryz.prog 33 #[v] w fun e w' => ∃ v', e = .returned v' ∧ Keep (fun _ => False) w w' ∧ OpsAt w' w.heap.size v' (cutOps l) := by
  obtain ⟨a, c, rfl, -⟩ : ∃ a c, v = .slice a l.length c ∧ True := by
    obtain ⟨a, c, h, _⟩ := hr
    exact ⟨a, c, h, trivial⟩
  obtain ⟨B, hB⟩ : ∃ B : Nat, B = w.heap.size := ⟨_, rfl⟩
  rw [← hB]
  have HRR := Lib.hid (fun w' (hk : Keep (fun _ => False) w w') => (hr.keep hk (fun _ _ _ _ _ e => e) : RowRead opCells 9 w' (.slice a l.length c) l))
  have HB := Lib.hid hB
  clear hr hB
  go_enter Tryz.func33, Tryz.ntmps33
  go_wp2_with fail
  go_loopw [3, 4] (fun v3 v4 wr => ∃ k : Nat, k ≤ l.length ∧ k ≤ 12 ∧ v4 = .int .i64 k ∧ OpsAt wr B v3 ((l.take k).map cutOp) ∧ Keep (fun _ => False) w wr) (fun _ v4 _ => 12 - (intOf v4).toNat)
  case atStart => exact ⟨0, Nat.zero_le _, by omega, rfl, World.ownsRow_nil _ _ _ _, Keep.refl _ _⟩
  case round =>
    obtain ⟨k, hk, hk12, rfl, hops, hkr⟩ := hrel
    obtain ⟨as3, cs3, hv3, -⟩ := ownsRow_len hops
    subst hv3
    have HSTEP := Lib.hid (fun hlt : k < l.length => cutOps_step l k hlt)
    have HEND := Lib.hid (fun h => cutOps_end l k hk12 h)
    have hlen : ((l.take k).map cutOp).length = k := by rw [List.length_map, List.length_take]; omega
    generalize hL : (l.take k).map cutOp = L at *
    have HL := Lib.hid hL
    have HLEN := Lib.hid hlen
    clear hL hlen
    by_cases hlt : k < l.length
    · by_cases h12 : k < 12
      · obtain ⟨b, o, hbo, hrng⟩ := (HRR.out _ hkr).at k hlt
        subst hbo
        have hlt' : (k : Int) < (l.length : Int) := by omega
        have h12' : (k : Int) < 12 := by omega
        have HST := Lib.hid (HSTEP.out hlt)
        clear HSTEP
        generalize hx : l[k] = x at *
        obtain ⟨kind, key, fin, val, rev, limit, count, keys, prev⟩ := x
        obtain ⟨cs, hcs⟩ : ∃ cs, cs = opCells ⟨kind, key, fin, val, rev, limit, count, keys, prev⟩ := ⟨_, rfl⟩
        rw [← hcs] at hrng
        have hld := run_ld67 wr b _ cs (by rw [hcs]; rfl) hrng
        have hst2 := run_st67 (wr.alloc (.cells (opCells opZero) 67)) wr.heap.size 0 cs (there_of_block (block_new _ _) (by decide)) (by rw [hcs]; rfl) (by rw [hcs]; exact opCells_one _)
        obtain ⟨W1, hW1⟩ : ∃ W1 : World, W1 = (wr.alloc (.cells (opCells opZero) 67)).setCells wr.heap.size 0 cs.toList := ⟨_, rfl⟩
        rw [← hW1] at hst2
        obtain ⟨N, hN⟩ : ∃ N : Nat, N = wr.heap.size := ⟨_, rfl⟩
        have hb1 : W1.heap[N]? = some (.cells (opCells ⟨kind, key, fin, val, rev, limit, count, keys, prev⟩) 67 (0, 0)) := by
          rw [hW1, hN, block_setCells_all (block_new _ _) _ (by rw [hcs]; rfl), hcs]
        have hk1 : Keep (fun _ => False) wr W1 := by rw [hW1]; exact ((Keep.refl _ wr).alloc _).setCells _ _ _ (.inl (Nat.le_refl _))
        have HK1 := Lib.hid hk1
        have HN := Lib.hid hN
        have HW1 := Lib.hid hW1
        have HCS := Lib.hid hcs
        have HOPS := Lib.hid hops
        have HKR := Lib.hid hkr
        have c1 : W1.cell? ⟨N, 1, none⟩ = some (sv key) := cell_of_block hb1 1
        have f1 : W1.frozen? ⟨N, 1, none⟩ = false := free_of_block hb1 1
        have HB1 := Lib.hid hb1
        clear hrng hW1 hcs hops hkr hk1 hb1 hN
        unfold opCells opZero at hst2
        go_upto_region 6 with fail
        rw [← HN.out]
        go_upto_region 7 with fail
        rw [cut50]
        obtain ⟨W2, hW2⟩ : ∃ W : World, W = W1.setCell ⟨N, 1, none⟩ (sv (key.take 50)) := ⟨_, rfl⟩
        rw [← hW2]
        have hb2 : W2.heap[N]? = some (.cells (opCells ⟨kind, key.take 50, fin, val, rev, limit, count, keys, prev⟩) 67 (0, 0)) := by rw [hW2]; exact block_setCell HB1.out 1 _
        have HK2 := Lib.hid (show Keep (fun _ => False) wr W2 by rw [hW2]; exact HK1.out.setCell _ _ (.inl (by have := HN.out; simp only; omega)))
        clear hW2 c1 f1
        have c2 : W2.cell? ⟨N, 2, none⟩ = some (sv fin) := cell_of_block hb2 2
        have f2 : W2.frozen? ⟨N, 2, none⟩ = false := free_of_block hb2 2
        have HB2 := Lib.hid hb2
        clear hb2
        go_upto_region 8 with fail
        rw [cut50]
        obtain ⟨W3, hW3⟩ : ∃ W : World, W = W2.setCell ⟨N, 2, none⟩ (sv (fin.take 50)) := ⟨_, rfl⟩
        rw [← hW3]
        have hb3 : W3.heap[N]? = some (.cells (opCells ⟨kind, key.take 50, fin.take 50, val, rev, limit, count, keys, prev⟩) 67 (0, 0)) := by rw [hW3]; exact block_setCell HB2.out 2 _
        have HK3 := Lib.hid (show Keep (fun _ => False) wr W3 by rw [hW3]; exact HK2.out.setCell _ _ (.inl (by have := HN.out; simp only; omega)))
        clear hW3 c2 f2
        have c3 : W3.cell? ⟨N, 3, none⟩ = some (sv val) := cell_of_block hb3 3
        have f3 : W3.frozen? ⟨N, 3, none⟩ = false := free_of_block hb3 3
        have HB3 := Lib.hid hb3
        clear hb3
        go_upto_region 9 with fail
        rw [cut50]
        obtain ⟨W4, hW4⟩ : ∃ W : World, W = W3.setCell ⟨N, 3, none⟩ (sv (val.take 50)) := ⟨_, rfl⟩
        rw [← hW4]
        have hb4 : W4.heap[N]? = some (.cells (opCells ⟨kind, key.take 50, fin.take 50, val.take 50, rev, limit, count, keys, prev⟩) 67 (0, 0)) := by rw [hW4]; exact block_setCell HB3.out 3 _
        have HK4 := Lib.hid (show Keep (fun _ => False) wr W4 by rw [hW4]; exact HK3.out.setCell _ _ (.inl (by have := HN.out; simp only; omega)))
        clear hW4 c3 f3
        have hld4 := run_ld67 W4 N 0 (opCells ⟨kind, key.take 50, fin.take 50, val.take 50, rev, limit, count, keys, prev⟩) rfl (range_of_block hb4)
        have hbs4 := run_bs57 ⟨kind, key.take 50, fin.take 50, val.take 50, rev, limit, count, keys, prev⟩ W4
        obtain ⟨v', w', hap, h2, h3, h4⟩ := app_op W4 B (.slice as3 L.length cs3) L ⟨kind, key.take 50, fin.take 50, val.take 50, rev, limit, count, keys, prev⟩ (opsAt_far HOPS.out HK4.out) (by have := HLEN.out; omega) (by have := HK4.out.size; have := HKR.out.size; have := HB.out; omega)
        have HOP2 := Lib.hid h2
        have hown : ∀ g, (Value.slice as3 L.length cs3).ownBlock = some g → B ≤ g := fun g hg => (HOPS.out.lt g hg).1
        have HKK := Lib.hid (show Keep (fun _ => False) w w' from ((HKR.out.trans' HK4.out).alloc _).trans (Keep.of_grown (M := fun b => some b = (Value.slice as3 L.length cs3).ownBlock) h3 (fun _ e _ => e.symm)) (fun b hb e => by have := hown b e.symm; have := HB.out; omega))
        obtain ⟨as4, cs4, hv4, -⟩ := ownsRow_len h2
        subst hv4
        clear h2 h3 h4 hown hb4 hbs4
        refine wp_region_lit ?_
        refine wpList_plain rfl (fun K hK => ?_)
        go_simp
        refine hK _ _ ?_
        clear hK K
        try simp only [Act.put, List.setIfInBounds_toArray, List.set_cons_zero, List.set_cons_succ]
        refine wpList_plain rfl (fun K hK => ?_)
        go_simp
        refine hK _ _ ?_
        clear hK K
        try simp only [Act.put, List.setIfInBounds_toArray, List.set_cons_zero, List.set_cons_succ]
        refine wpList_plain rfl (fun K hK => ?_)
        refine wp_bs_run (.tmp 45) 57 rfl (by exact run_bs57 _ _) ?_
        refine hK _ _ ?_
        clear hK K
        try simp only [Act.put, List.setIfInBounds_toArray, List.set_cons_zero, List.set_cons_succ]
        refine wpList_plain rfl (fun K hK => ?_)
        refine wp_append_run (.tmp 44) (.tmp 46) 57 rfl rfl (by exact hap) ?_
        refine hK _ _ ?_
        clear hK K
        try simp only [Act.put, List.setIfInBounds_toArray, List.set_cons_zero, List.set_cons_succ]
        clear hap hld4
        go_wp2_with fail
        exact ⟨⟨k + 1, by omega, by omega, by go_num, by rw [HST.out]; exact HOP2.out, HKK.out⟩, by simp [intOf]; omega⟩
      · have h12' : ¬ (k : Int) < 12 := by omega
        have hlt' : (k : Int) < (l.length : Int) := by omega
        have HOPS := Lib.hid hops
        have HKR := Lib.hid hkr
        have HE := Lib.hid (HEND.out (.inl (by omega)))
        clear HSTEP HEND HL
        clear hops hkr
        clear hk hk12 hlt h12
        go_wp2_with fail
        go_ret
        exact ⟨_, rfl, HKR.out, by rw [HE.out]; exact HOPS.out⟩
    · have hlt' : ¬ (k : Int) < (l.length : Int) := by omega
      have HOPS := Lib.hid hops
      have HKR := Lib.hid hkr
      have HE := Lib.hid (HEND.out (.inr (by omega)))
      clear HSTEP HEND HL
      clear hops hkr
      go_wp2_with fail
      go_ret
      exact ⟨_, rfl, HKR.out, by rw [HE.out]; exact HOPS.out⟩
end Go.Proofs.YtifliekahdgobaaGreatDoor
namespace Go.Proofs.YtifliekahdgobaaGreatDoor
open Go.RowKit Go.Extern.Stop Go.Stop Go.Extern

theorem Tryz.handle (n : Nat) (h : n = 26 ∨ n = 74 ∨ n = 78 ∨ n = 30) : typeHandle Tryz.prog n = .pointer (some ⟨9, n, none⟩) := by
  rcases h with rfl | rfl | rfl | rfl <;> kernel_rfl
theorem as_nil (t : Value) (w : World) : Calls Tryz.prog 30 #[.nilIface, t] w fun e w' => e = .returned (.bool false) ∧ w' = w := by
  go_enter Tryz.func30, Tryz.ntmps30
  go_wp2
  go_ret
  exact ⟨rfl, rfl⟩
/-! ### closed facts on the model's entries for internal/reflectlite, at *Fault (74), **Fault (78), error (26), rtype (172), Errno (30) -/
theorem Tryz.valueOf78 (t : Addr) (w : World) : (ReflectliteValue.unpack (.iface 78 (.pointer (some t)))).run Tryz.prog w
    = .ok (.agg #[.pointer (some ⟨9, 78, none⟩), .pointer (some ⟨w.heap.size, 0, none⟩), .int .u64 150]) (w.alloc (.cells #[.pointer (some t)] 78)) := by kernel_rfl
theorem Tryz.type78 (a : Addr) (w : World) : (ReflectliteValue.methodAny (ReflectliteValue.valueError "reflectlite.Value.Type" 0) (fun t _ _ _ => ReflectliteType.toType t) #[.agg #[.pointer (some ⟨9, 78, none⟩), .pointer (some a), .int .u64 150]]).run Tryz.prog w
    = .ok (.iface 172 (.agg #[.pointer (some ⟨9, 78, none⟩)])) w := by kernel_rfl
theorem Tryz.kind78 (w : World) : ((ReflectliteType.abiMethod fun t => (fun a : Nat => Value.int IntKind.u8 (a : Int)) <$> Rtype.kind t) #[.pointer (some ⟨9, 78, none⟩)]).run Tryz.prog w = .ok (.int .u8 22) w := by kernel_rfl
theorem Tryz.kind74 (w : World) : ((ReflectliteType.abiMethod fun t => (fun a : Nat => Value.int IntKind.u8 (a : Int)) <$> Rtype.kind t) #[.pointer (some ⟨9, 74, none⟩)]).run Tryz.prog w = .ok (.int .u8 22) w := by kernel_rfl
theorem rlm (z : Sem Value) (f : TypeId → Addr → Nat → Nat → Sem Value) (v : Value) :
    ReflectliteValue.method z f #[v] = (do match ← ReflectliteValue.parts v with | none => z | some (t, a, fl) => f t a fl (fl % 32)) := rfl
theorem Tryz.parts78 (a : Addr) (w : World) : (ReflectliteValue.parts (.agg #[.pointer (some ⟨9, 78, none⟩), .pointer (some a), .int .u64 150])).run Tryz.prog w = .ok (some (78, a, 150)) w := by kernel_rfl
theorem Tryz.isNil78 (a p : Addr) (W : World) (ha : W.cell? a = some (.pointer (some p))) :
    (ReflectliteValue.method (ReflectliteValue.valueError "reflectlite.Value.IsNil" 0) ReflectliteValue.isNil #[.agg #[.pointer (some ⟨9, 78, none⟩), .pointer (some a), .int .u64 150]]).run Tryz.prog W = .ok (.bool false) W := by
  rw [rlm]
  simp only [Sem.run_bind, Tryz.parts78, Result.andThen]
  simp [ReflectliteValue.isNil, loadVar, isAgg, underlying, Tryz.underlying78, ha, Result.andThen]
theorem Tryz.elem78 (w : World) : (ReflectliteType.method ReflectliteType.elem #[.agg #[.pointer (some ⟨9, 78, none⟩)]]).run Tryz.prog w = .ok (.iface 172 (.agg #[.pointer (some ⟨9, 74, none⟩)])) w := by kernel_rfl
theorem Tryz.implements74 (w : World) : (ReflectliteType.relation "Implements" ReflectliteType.implements_ #[.agg #[.pointer (some ⟨9, 74, none⟩)], .iface 172 (.agg #[.pointer (some ⟨9, 26, none⟩)])]).run Tryz.prog w = .ok (.bool true) w := by kernel_rfl
theorem Tryz.typeOf74 (v : Value) (w : World) : (ReflectliteType.typeOf #[.iface 74 v]).run Tryz.prog w = .ok (.iface 172 (.agg #[.pointer (some ⟨9, 74, none⟩)])) w := by kernel_rfl
theorem Tryz.assignable74 (w : World) : (ReflectliteType.relation "AssignableTo" ReflectliteType.assignableTo #[.agg #[.pointer (some ⟨9, 74, none⟩)], .iface 172 (.agg #[.pointer (some ⟨9, 74, none⟩)])]).run Tryz.prog w = .ok (.bool true) w := by kernel_rfl
theorem Tryz.valueOf74 (e : Addr) (w : World) : (ReflectliteValue.unpack (.iface 74 (.pointer (some e)))).run Tryz.prog w
    = .ok (.agg #[.pointer (some ⟨9, 74, none⟩), .pointer (some ⟨w.heap.size, 0, none⟩), .int .u64 150]) (w.alloc (.cells #[.pointer (some e)] 74)) := by kernel_rfl
theorem Tryz.elemOf78 (w : World) : (Rtype.elem? 78).run Tryz.prog w = .ok (some 74) w := by kernel_rfl
theorem Tryz.mk74 (p : Addr) (w : World) : (ReflectliteValue.mk 74 p ReflectliteValue.flagAddr).run Tryz.prog w = .ok (.agg #[.pointer (some ⟨9, 74, none⟩), .pointer (some p), .int .u64 406]) w := by kernel_rfl
theorem Tryz.elemV78 (a p : Addr) (W : World) (ha : W.cell? a = some (.pointer (some p))) :
    (ReflectliteValue.method (ReflectliteValue.valueError "reflectlite.Value.Elem" 0) ReflectliteValue.elem #[.agg #[.pointer (some ⟨9, 78, none⟩), .pointer (some a), .int .u64 150]]).run Tryz.prog W
      = .ok (.agg #[.pointer (some ⟨9, 74, none⟩), .pointer (some p), .int .u64 406]) W := by
  rw [rlm]
  simp only [Sem.run_bind, Tryz.parts78, Result.andThen]
  simp [ReflectliteValue.elem, loadVar, isAgg, underlying, Tryz.underlying78, ha, Result.andThen, Tryz.elemOf78, Tryz.mk74]
theorem rls (v x : Value) : ReflectliteValue.set #[v, x] = (do
    let (some (dst, a, fl), some (src, b, _)) := (← ReflectliteValue.parts v, ← ReflectliteValue.parts x)
      | unsupported (.noEntry "extern/(internal/reflectlite.Value).Set.zeroValue")
    if fl / ReflectliteValue.flagAddr % 2 == 0 then unsupported (.noEntry "extern/(internal/reflectlite.Value).Set.unaddressable")
    let val ← loadVar src b
    if ← Rtype.directlyAssignable dst src then storeVar dst a val
    else if ← Rtype.implements dst src then
      if (← Rtype.kind src) == 20 then
        match val with
        | .nilIface => unsupported (.noEntry "extern/reflectlite: a nil value of one interface type handed on as a value of another")
        | _ => storeVar dst a val
      else storeVar dst a (.iface src val)
    else panicString ("reflectlite.Set: value of type " ++ (← Rtype.spelt src) ++ " is not assignable to type " ++ (← Rtype.spelt dst))
    pure (.tuple #[])) := rfl
theorem Tryz.parts74a (a : Addr) (w : World) : (ReflectliteValue.parts (.agg #[.pointer (some ⟨9, 74, none⟩), .pointer (some a), .int .u64 406])).run Tryz.prog w = .ok (some (74, a, 406)) w := by kernel_rfl
theorem Tryz.parts74 (a : Addr) (w : World) : (ReflectliteValue.parts (.agg #[.pointer (some ⟨9, 74, none⟩), .pointer (some a), .int .u64 150])).run Tryz.prog w = .ok (some (74, a, 150)) w := by kernel_rfl
theorem Tryz.direct74 (w : World) : (Rtype.directlyAssignable 74 74).run Tryz.prog w = .ok true w := by kernel_rfl
theorem Tryz.set74 (ta b e : Addr) (old : Value) (W : World) (hb : W.cell? b = some (.pointer (some e))) (ht : W.cell? ta = some old) (hf : W.frozen? ta = false) :
    (ReflectliteValue.set #[.agg #[.pointer (some ⟨9, 74, none⟩), .pointer (some ta), .int .u64 406], .agg #[.pointer (some ⟨9, 74, none⟩), .pointer (some b), .int .u64 150]]).run Tryz.prog W
      = .ok (.tuple #[]) (W.setCell ta (.pointer (some e))) := by
  rw [rls]
  simp only [Sem.run_bind, Tryz.parts74a, Tryz.parts74, Result.andThen]
  simp [ReflectliteValue.flagAddr, loadVar, isAgg, underlying, Tryz.underlying74, hb, Result.andThen, Tryz.direct74, storeVar, Value.cells, storeCells, Addr.add]
  rw [run_store Tryz.prog W ta _ _ (by rfl)]
  simp [ht, hf]
theorem Tryz.mKind (h : Value) (w : World) : (Go.method 374 172 (.agg #[h]) "Kind").run Tryz.prog w = .ok (185, h) w := by kernel_rfl
theorem Tryz.mElem (h : Value) (w : World) : (Go.method 374 172 (.agg #[h]) "Elem").run Tryz.prog w = .ok (198, .agg #[h]) w := by kernel_rfl
theorem Tryz.mImpl (h : Value) (w : World) : (Go.method 374 172 (.agg #[h]) "Implements").run Tryz.prog w = .ok (199, .agg #[h]) w := by kernel_rfl
theorem Tryz.mAssign (h : Value) (w : World) : (Go.method 374 172 (.agg #[h]) "AssignableTo").run Tryz.prog w = .ok (196, .agg #[h]) w := by kernel_rfl
theorem Tryz.mComp (h : Value) (w : World) : (Go.method 374 172 (.agg #[h]) "Comparable").run Tryz.prog w = .ok (197, .agg #[h]) w := by kernel_rfl
end Go.Proofs.YtifliekahdgobaaGreatDoor
namespace Go.Proofs.YtifliekahdgobaaGreatDoor
open Go.RowKit Go.Extern.Stop Go.Stop Go.Extern

set_option maxRecDepth 100000 in
set_option maxHeartbeats 4000000 in
theorem as62 (e t a : Addr) (old : Value) (w : World) (ha : w.cell? a = some (.pointer (some t))) (ht0 : w.cell? t = some old) (hf0 : w.frozen? t = false) :
    Calls Tryz.prog 62 #[.iface 74 (.pointer (some e)), .iface 78 (.pointer (some t)), .agg #[.pointer (some ⟨9, 78, none⟩), .pointer (some a), .int .u64 150], .iface 172 (.agg #[.pointer (some ⟨9, 74, none⟩)])] w
      fun ev w' => ev = .returned (.bool true) ∧ w' = ((w.alloc (.cells #[.pointer (some ⟨9, 78, none⟩), .pointer (some a), .int .u64 150] 131)).alloc (.cells #[.pointer (some e)] 74)).setCell t (.pointer (some e)) := by
  have h59 := @run_callFunc_extern Tryz.prog 59 _ (fun args => ReflectliteValue.unpack (args.getD 0 (.tuple #[]))) Tryz.func59 (by kernel_rfl) (by kernel_rfl) (by kernel_rfl) (by kernel_rfl)
  have h63 := @run_callFunc_extern Tryz.prog 63 _ ReflectliteType.typeOf Tryz.func63 (by kernel_rfl) (by kernel_rfl) (by kernel_rfl) (by kernel_rfl)
  have h196 := @run_callFunc_extern Tryz.prog 196 _ (ReflectliteType.relation "AssignableTo" ReflectliteType.assignableTo) Tryz.func196 (by kernel_rfl) (by kernel_rfl) (by kernel_rfl) (by kernel_rfl)
  have h100 := @run_callFunc_extern Tryz.prog 100 _ (ReflectliteValue.method (ReflectliteValue.valueError "reflectlite.Value.Elem" 0) ReflectliteValue.elem) Tryz.func100 (by kernel_rfl) (by kernel_rfl) (by kernel_rfl) (by kernel_rfl)
  have h101 := @run_callFunc_extern Tryz.prog 101 _ ReflectliteValue.set Tryz.func101 (by kernel_rfl) (by kernel_rfl) (by kernel_rfl) (by kernel_rfl)
  have tO := Tryz.typeOf74
  have mA := Tryz.mAssign
  have a74 := Tryz.assignable74
  have v74 := Tryz.valueOf74
  have hal : a.block < w.heap.size := World.block_lt_of_cell? _ _ ha
  have htl : t.block < w.heap.size := World.block_lt_of_cell? _ _ ht0
  have el := Tryz.elemV78 a t (w.alloc (.cells #[.pointer (some ⟨9, 78, none⟩), .pointer (some a), .int .u64 150] 131)) (by rw [World.cell?_alloc_lt _ _ a hal]; exact ha)
  have st := Tryz.set74 t ⟨w.heap.size + 1, 0, none⟩ e old ((w.alloc (.cells #[.pointer (some ⟨9, 78, none⟩), .pointer (some a), .int .u64 150] 131)).alloc (.cells #[.pointer (some e)] 74))
    (by rw [World.cell?_alloc_at _ _ _ _ (by simp)]; rfl)
    (by rw [World.cell?_alloc_lt _ _ t (by simp; omega), World.cell?_alloc_lt _ _ t htl]; exact ht0)
    (by rw [World.frozen?_alloc_old _ _ t (by simp; omega), World.frozen?_alloc_old _ _ t (Nat.ne_of_lt htl)]; exact hf0)
  go_enter Tryz.func62, Tryz.ntmps62
  go_wp2
  refine wp_loop_rounds 1 ?_
  rw [rounds_succ]
  go_wp2
  go_ret
  exact ⟨rfl, rfl⟩
set_option maxRecDepth 100000 in
set_option maxHeartbeats 4000000 in
theorem as_hit (e t : Addr) (old : Value) (w : World) (hg : w.cell? ⟨0, 0, none⟩ = some (.iface 172 (.agg #[.pointer (some ⟨9, 26, none⟩)]))) (ht0 : w.cell? t = some old) (hf0 : w.frozen? t = false) :
    Calls Tryz.prog 30 #[.iface 74 (.pointer (some e)), .iface 78 (.pointer (some t))] w fun ev w' => ev = .returned (.bool true) ∧ Keep (fun b => b = t.block) w w' ∧ w'.cell? t = some (.pointer (some e)) := by
  have h59 := @run_callFunc_extern Tryz.prog 59 _ (fun args => ReflectliteValue.unpack (args.getD 0 (.tuple #[]))) Tryz.func59 (by kernel_rfl) (by kernel_rfl) (by kernel_rfl) (by kernel_rfl)
  have h60 := @run_callFunc_extern Tryz.prog 60 _ (ReflectliteValue.methodAny (ReflectliteValue.valueError "reflectlite.Value.Type" 0) (fun t _ _ _ => ReflectliteType.toType t)) Tryz.func60 (by kernel_rfl) (by kernel_rfl) (by kernel_rfl) (by kernel_rfl)
  have h61 := @run_callFunc_extern Tryz.prog 61 _ (ReflectliteValue.method (ReflectliteValue.valueError "reflectlite.Value.IsNil" 0) ReflectliteValue.isNil) Tryz.func61 (by kernel_rfl) (by kernel_rfl) (by kernel_rfl) (by kernel_rfl)
  have h185 := @run_callFunc_extern Tryz.prog 185 _ (ReflectliteType.abiMethod fun t => do pure (.int .u8 (← Rtype.kind t))) Tryz.func185 (by kernel_rfl) (by kernel_rfl) (by kernel_rfl) (by kernel_rfl)
  have h198 := @run_callFunc_extern Tryz.prog 198 _ (ReflectliteType.method ReflectliteType.elem) Tryz.func198 (by kernel_rfl) (by kernel_rfl) (by kernel_rfl) (by kernel_rfl)
  have h199 := @run_callFunc_extern Tryz.prog 199 _ (ReflectliteType.relation "Implements" ReflectliteType.implements_) Tryz.func199 (by kernel_rfl) (by kernel_rfl) (by kernel_rfl) (by kernel_rfl)
  have f59 := Tryz.valueOf78
  have f60 := Tryz.type78
  have k78 := Tryz.kind78
  have k74 := Tryz.kind74
  have el78 := Tryz.elem78
  have i74 := Tryz.implements74
  have mK := Tryz.mKind
  have mE := Tryz.mElem
  have mI := Tryz.mImpl
  have hlt : 0 < w.heap.size := World.block_lt_of_cell? _ _ hg
  have htl : t.block < w.heap.size := World.block_lt_of_cell? _ _ ht0
  obtain ⟨W, hW⟩ : ∃ W : World, W = (w.alloc (.cells #[.pointer (some t)] 78)).alloc (.cells #[.pointer (some ⟨9, 78, none⟩), .pointer (some ⟨w.heap.size, 0, none⟩), .int .u64 150] 131) := ⟨_, rfl⟩
  have hkW : Keep (fun _ => False) w W := by rw [hW]; exact ((Keep.refl _ w).alloc _).alloc _
  have hcA : W.cell? ⟨w.heap.size, 0, none⟩ = some (.pointer (some t)) := by rw [hW]; exact cell_of_block (block_alloc (block_new _ _) _) 0
  have n8 := Tryz.isNil78 ⟨w.heap.size, 0, none⟩ t W hcA
  have hg2 := hkW.cellOf hg (fun e => e)
  have htW := hkW.cellOf ht0 (fun e => e)
  have hfW : W.frozen? t = false := by rw [hkW.frozen htl (fun e => e)]; exact hf0
  have H62 := Lib.hid (as62 e t ⟨w.heap.size, 0, none⟩ old W hcA htW hfW)
  have HKW := Lib.hid hkW
  have HTW := Lib.hid htW
  have HTL := Lib.hid (Nat.lt_of_lt_of_le htl hkW.size)
  rw [hW] at n8 hg2
  have HW := Lib.hid hW
  clear hW hkW hcA htW hfW ht0 hf0 hg
  go_enter Tryz.func30, Tryz.ntmps30
  go_wp2_with fail
  rw [← HW.out]
  refine H62.out.mono ?_
  rintro ev w1 ⟨rfl, rfl⟩
  have hk1 : Keep (fun b => b = t.block) W (((W.alloc (.cells #[.pointer (some ⟨9, 78, none⟩), .pointer (some ⟨w.heap.size, 0, none⟩), .int .u64 150] 131)).alloc (.cells #[.pointer (some e)] 74)).setCell t (.pointer (some e))) := (((Keep.refl _ W).alloc _).alloc _).setCell _ _ (.inr rfl)
  have hct : (((W.alloc (.cells #[.pointer (some ⟨9, 78, none⟩), .pointer (some ⟨w.heap.size, 0, none⟩), .int .u64 150] 131)).alloc (.cells #[.pointer (some e)] 74)).setCell t (.pointer (some e))).cell? t = some (.pointer (some e)) := by
    exact World.cell?_setCell_same _ _ _ (by
      rw [World.cell?_alloc_lt _ _ t (by simp; have := HTL.out; omega), World.cell?_alloc_lt _ _ t HTL.out]
      exact HTW.out)
  have HK1 := Lib.hid hk1
  have HCT := Lib.hid hct
  clear hk1 hct
  go_wp2_with fail
  go_ret
  exact ⟨rfl, (HKW.out.mono (fun _ _ e => e.elim)).trans' HK1.out, HCT.out⟩
end Go.Proofs.YtifliekahdgobaaGreatDoor
namespace Go.Proofs.YtifliekahdgobaaGreatDoor
open Go.RowKit Go.Extern.Stop Go.Stop Go.Extern

theorem Tryz.int30 : Tryz.prog.underlying 30 = some (.int .i64) := Tryz.underlying30
theorem Tryz.comp30 : (Tryz.prog.info? 30).map (·.comparable) = some true := by kernel_rfl
theorem equalIn_errno (w : World) (d : Nat) (a b : Int) : (Op.equalIn (d + 2) 26 (.iface 30 (.int .i64 a)) (.iface 30 (.int .i64 b))).run Tryz.prog w = .ok (a == b) w := by
  obtain ⟨i, hi, hc⟩ := Option.map_eq_some_iff.1 Tryz.comp30
  simp [Op.equalIn, run_underlying Tryz.underlying26, run_underlying Tryz.underlying30, typeInfo, hi, hc]
/-- 'x == y', both errors of the number's type: as the numbers are -/
theorem eql_errno (w : World) (a b : Int) : (binOp .eql 26 (.iface 30 (.int .i64 a)) (.iface 30 (.int .i64 b))).run Tryz.prog w = .ok (.bool (a == b)) w := by
  simp only [binOp]
  simp [Op.equal, Op.maxDepth, equalIn_errno w 9998 a b]
theorem eql_other (w : World) (e : Addr) (c : Int) : (binOp .eql 26 (.iface 74 (.pointer (some e))) (.iface 30 (.int .i64 c))).run Tryz.prog w = .ok (.bool false) w := by kernel_rfl
theorem ta184 (w : World) (e : Addr) : (Instr.typeAssert (.iface 74 (.pointer (some e))) 26 184 true).run Tryz.prog w = .ok (.tuple #[.nilIface, .bool false]) w := run_typeAssert_lacksB Tryz.underlying184 (by kernel_rfl) (by kernel_rfl) (.pointer (some e)) 26 w
theorem ta179 (w : World) (e : Addr) : (Instr.typeAssert (.iface 74 (.pointer (some e))) 26 179 true).run Tryz.prog w = .ok (.tuple #[.iface 74 (.pointer (some e)), .bool true]) w := by kernel_rfl
theorem mUnwrap (w : World) (e : Addr) : (Go.method 374 74 (.pointer (some e)) "Unwrap").run Tryz.prog w = .ok (190, .pointer (some e)) w := by kernel_rfl
theorem Tryz.typeOf30 (v : Value) (w : World) : (ReflectliteType.typeOf #[.iface 30 v]).run Tryz.prog w = .ok (.iface 172 (.agg #[.pointer (some ⟨9, 30, none⟩)])) w := by kernel_rfl
set_option maxRecDepth 100000 in
theorem unwrap_any (b : Nat) (c a : Int) (w : World) (h : w.heap[b]? = some (.cells #[.int .i64 c, .int .i64 a] 32 (0, 0))) :
    Calls Tryz.prog 190 #[.pointer (some ⟨b, 0, none⟩)] w fun e w' => e = .returned (.iface 30 (.int .i64 c)) ∧ w = w' := by
  have hc : w.cell? ⟨b, 0, none⟩ = some (.int .i64 c) := cell_of_block h 0
  clear h
  go_enter Tryz.func190, Tryz.ntmps190
  go_wp2
  go_ret
  exact ⟨rfl, rfl⟩
set_option maxRecDepth 100000 in
set_option maxHeartbeats 4000000 in
theorem is64 (b : Nat) (c a : Int) (w : World) (h : w.heap[b]? = some (.cells #[.int .i64 c, .int .i64 a] 32 (0, 0))) :
    Calls Tryz.prog 64 #[.iface 74 (.pointer (some ⟨b, 0, none⟩)), .iface 30 (.int .i64 c), .bool true] w fun e w' => e = .returned (.bool true) ∧ w = w' := by
  have e1 := fun w => eql_other w ⟨b, 0, none⟩ c
  have e2 := fun w => eql_errno w c c
  have t1 := fun w => ta184 w ⟨b, 0, none⟩
  have t2 := fun w => ta179 w ⟨b, 0, none⟩
  have m1 := fun w => mUnwrap w ⟨b, 0, none⟩
  have HU := Lib.hid (unwrap_any b c a w h)
  clear h
  go_enter Tryz.func64, Tryz.ntmps64
  go_wp2_with fail
  refine wp_loop_rounds 2 ?_
  rw [rounds_succ]
  go_wp2_with fail
  refine HU.out.mono ?_
  rintro ev w' ⟨rfl, rfl⟩
  have hcc : (c == c) = true := by simp
  go_wp2_with fail
  rw [rounds_succ]
  go_wp2_with fail
  go_ret
  exact ⟨rfl, rfl⟩
theorem Tryz.comparable30 (w : World) : (ReflectliteType.method (fun t => do Rtype.noPackHeld "Comparable" t; (fun a => Value.bool a.comparable) <$> typeInfo t) #[.agg #[.pointer (some ⟨9, 30, none⟩)]]).run Tryz.prog w = .ok (.bool true) w := by kernel_rfl
set_option maxRecDepth 100000 in
set_option maxHeartbeats 4000000 in
theorem is_hit (b : Nat) (c a : Int) (w : World) (h : w.heap[b]? = some (.cells #[.int .i64 c, .int .i64 a] 32 (0, 0))) :
    Calls Tryz.prog 31 #[.iface 74 (.pointer (some ⟨b, 0, none⟩)), .iface 30 (.int .i64 c)] w fun e w' => e = .returned (.bool true) ∧ w = w' := by
  have h63 := @run_callFunc_extern Tryz.prog 63 _ ReflectliteType.typeOf Tryz.func63 (by kernel_rfl) (by kernel_rfl) (by kernel_rfl) (by kernel_rfl)
  have h197 := @run_callFunc_extern Tryz.prog 197 _ (ReflectliteType.method (fun t => do Rtype.noPackHeld "Comparable" t; pure (.bool (← typeInfo t).comparable))) Tryz.func197 (by kernel_rfl) (by kernel_rfl) (by kernel_rfl) (by kernel_rfl)
  have tO := Tryz.typeOf30
  have mC := Tryz.mComp
  have c30 := Tryz.comparable30
  have H := Lib.hid (is64 b c a w h)
  clear h
  go_enter Tryz.func31, Tryz.ntmps31
  go_wp2_with fail
  refine H.out.mono ?_
  rintro ev w' ⟨rfl, rfl⟩
  go_wp2_with fail
  go_ret
  exact ⟨rfl, rfl⟩
end Go.Proofs.YtifliekahdgobaaGreatDoor
namespace Go.Proofs.YtifliekahdgobaaGreatDoor
open Go.RowKit Sp

theorem Tryz.eg32 : Tryz.prog.eqGuardType Tryz.prog.depth 32 = false := by kernel_rfl
theorem Tryz.sh32 : Tryz.prog.stoodInHeld 32 = false := by kernel_rfl
theorem eql32 (c a : Int) (w : World) : (binOp .eql 32 (.agg #[.int .i64 c, .int .i64 a]) (.agg #[.int .i64 c, .int .i64 a])).run Tryz.prog w = .ok (.bool true) w := by
  rw [run_eql_struct, run_equalIn_agg w 9999 32 _ _ (by kernel_rfl) Tryz.sh32]
  rw [show (Tryz.prog.fieldsOf 32).toList = _ from by simp [Program.fieldsOf, Tryz.underlying32]; rfl]
  go_simp
theorem grd32 (op : BinOp) (x y : Operand) (c a : Int) (w : World) : (eqGuard op 32 x y (.agg #[.int .i64 c, .int .i64 a]) (.agg #[.int .i64 c, .int .i64 a])).run Tryz.prog w = .ok () w := run_eqGuard_agg w op 32 x y _ _ Tryz.eg32
set_option maxRecDepth 100000 in
theorem told_nil (a : Int) (w : World) : Calls Tryz.prog 10 #[.nilIface, .agg #[.int .i64 0, .int .i64 a]] w (Tells true w) := by
  go_enter Tryz.func10, Tryz.ntmps10
  go_wp2_with fail
  go_ret
  exact ⟨rfl, (Keep.refl _ w).alloc _⟩
/-- what is held while told looks -/
def ToldS (N0 b : Nat) (c a : Int) (w' : World) : Prop := w'.cell? ⟨N0, 0, none⟩ = some (.int .i64 c) ∧ w'.cell? ⟨N0, 1, none⟩ = some (.int .i64 a) ∧ w'.cell? ⟨b, 0, none⟩ = some (.int .i64 c) ∧ w'.cell? ⟨b, 1, none⟩ = some (.int .i64 a)
set_option maxRecDepth 100000 in
set_option maxHeartbeats 4000000 in
theorem told_fault (b : Nat) (c a : Int) (hc : c ≠ 0) (w : World) (hb : w.heap[b]? = some (.cells #[.int .i64 c, .int .i64 a] 32 (0, 0))) (hg : Glob w) :
    Calls Tryz.prog 10 #[.iface 74 (.pointer (some ⟨b, 0, none⟩)), .agg #[.int .i64 c, .int .i64 a]] w (Tells true w) := by
  have hc0 : (c == 0) = false := by rw [beq_eq_false_iff_ne]; exact hc
  obtain ⟨N0, hN0⟩ : ∃ N, N = w.heap.size := ⟨_, rfl⟩
  obtain ⟨W, hW⟩ : ∃ W : World, W = (w.alloc (.cells #[.int .i64 c, .int .i64 a] 32)).alloc (.cells #[.pointer none] 74) := ⟨_, rfl⟩
  have hkW : Keep (fun _ => False) w W := by rw [hW]; exact ((Keep.refl _ w).alloc _).alloc _
  have hbW := hkW.at' hb (fun e => e)
  have hN : W.heap[N0]? = some (.cells #[.int .i64 c, .int .i64 a] 32 (0, 0)) := by rw [hW, hN0]; exact block_alloc (block_new _ _) _
  have hT : W.heap[N0 + 1]? = some (.cells #[.pointer none] 74 (0, 0)) := by rw [hW, hN0]; exact block_new' _ _ (by simp)
  have hbl := lt_of_block hb
  have hSW : ∀ w', Keep (fun k => k = N0 + 1) W w' → ToldS N0 b c a w' := fun w' hk =>
    ⟨cell_of_block (hk.at' hN (by omega)) 0, cell_of_block (hk.at' hN (by omega)) 1, cell_of_block (hk.at' hbW (by omega)) 0, cell_of_block (hk.at' hbW (by omega)) 1⟩
  have hty : W.cell? ⟨0, 0, none⟩ = some (.iface 172 (.agg #[.pointer (some ⟨9, 26, none⟩)])) := by
    have := (hg.far hkW).ty
    rwa [Tryz.handle 26 (.inl rfl)] at this
  have HS := Lib.hid hSW
  have HAS := Lib.hid (fun w1 (hk1 : Keep (fun k => k = N0 + 1) W w1) (h0 : 0 < N0 + 1) => as_hit ⟨b, 0, none⟩ ⟨N0 + 1, 0, none⟩ (.pointer none) W.drew hty (cell_of_block hT 0) (free_of_block hT 0))
  have HAS2 := Lib.hid (as_hit ⟨b, 0, none⟩ ⟨N0 + 1, 0, none⟩ (.pointer none) W.drew hty (cell_of_block hT 0) (free_of_block hT 0))
  have HIS := Lib.hid (fun w1 (hk1 : Keep (fun k => k = N0 + 1) W w1) => is_hit b c a w1 (hk1.at' hbW (by omega)))
  have HKW := Lib.hid hkW
  have HW := Lib.hid hW
  have HN0 := Lib.hid hN0
  have heq := fun w => eql32 c a w
  have hgd := fun (op : BinOp) (x y : Operand) (w : World) => grd32 op x y c a w
  have hNw : Hid (¬ N0 + 1 < w.heap.size) := Lib.hid (by omega)
  clear hSW hty hT hN hbW hkW hW hbl hb hg hc hN0 HAS
  go_enter Tryz.func10, Tryz.ntmps10
  go_upto_region 3 with fail
  go_upto_region 4 with fail
  rw [← HW.out]
  rw [← HN0.out]
  refine wp_region_held_drew (S := fun w' => w'.cell? ⟨N0, 0, none⟩ = some (.int .i64 c) ∧ w'.cell? ⟨N0, 1, none⟩ = some (.int .i64 a) ∧ w'.cell? ⟨b, 0, none⟩ = some (.int .i64 c) ∧ w'.cell? ⟨b, 1, none⟩ = some (.int .i64 a)) (by kernel_rfl) (HS.out _ ((Keep.refl _ W).drew)) (fun hHeld => ?_)
  refine wpAnyH_take (i := 0) (oi := ?_) (v := ?_) (by simp only [List.getElem?_toArray, List.getElem?_cons_succ, List.getElem?_cons_zero]; exact rfl) (by kernel_rfl) (by kernel_rfl) (by kernel_rfl) (by exact fun _ _ _ h => h) (Or.inl ⟨by rfl, ?_⟩) (by assumption) ?_
  rotate_left
  · (intro w hSw; (try dsimp only at hSw); go_simp; try with_reducible rfl)
  try simp only [Act.put, List.setIfInBounds_toArray, List.set_cons_zero, List.set_cons_succ]
  refine wpAnyH_take (i := 1) (oi := ?_) (v := ?_) (by simp only [List.getElem?_toArray, List.getElem?_cons_succ, List.getElem?_cons_zero]; exact rfl) (by kernel_rfl) (by kernel_rfl) (by kernel_rfl) (by exact fun _ _ _ h => h) (Or.inl ⟨by rfl, ?_⟩) (by assumption) ?_
  rotate_left
  · (intro w hSw; (try dsimp only at hSw); go_simp; try with_reducible rfl)
  try simp only [Act.put, List.setIfInBounds_toArray, List.set_cons_zero, List.set_cons_succ]
  refine wpAnyH_ready (rs := [2]) (by kernel_rfl) (by simp) ?_
  refine AllReadyH.cons (o := ?_) (by simp only [List.getElem?_toArray, List.getElem?_cons_succ, List.getElem?_cons_zero]; exact rfl) (fun K hK => ?_) AllReadyH.nil
  go_simp
  refine HAS2.out.mono ?_
  rintro ev w1 ⟨rfl, hk1, hct⟩
  have hk2 : Keep (fun k => k = N0 + 1) W w1 := ((Keep.refl _ W).drew).trans' hk1
  clear hk1 HAS2
  refine hK.out _ _ (HS.out _ hk2) (fun hHeld => ?_)
  clear hK K
  try simp only [Act.put, List.setIfInBounds_toArray, List.set_cons_zero, List.set_cons_succ]
  refine wpAnyH_take (i := 3) (oi := ?_) (v := ?_) (by simp only [List.getElem?_toArray, List.getElem?_cons_succ, List.getElem?_cons_zero]; exact rfl) (by kernel_rfl) (by kernel_rfl) (by kernel_rfl) (by exact fun _ _ _ h => h) (Or.inl ⟨by rfl, ?_⟩) (by assumption) ?_
  rotate_left
  · (intro w hSw; (try dsimp only at hSw); go_simp; try with_reducible rfl)
  try simp only [Act.put, List.setIfInBounds_toArray, List.set_cons_zero, List.set_cons_succ]
  refine wpAnyH_take (i := 7) (oi := ?_) (v := ?_) (by simp only [List.getElem?_toArray, List.getElem?_cons_succ, List.getElem?_cons_zero]; exact rfl) (by kernel_rfl) (by kernel_rfl) (by kernel_rfl) (by exact fun _ _ _ h => h) (Or.inl ⟨by rfl, ?_⟩) (by assumption) ?_
  rotate_left
  · (intro w hSw; (try dsimp only at hSw); go_simp; try with_reducible rfl)
  try simp only [Act.put, List.setIfInBounds_toArray, List.set_cons_zero, List.set_cons_succ]
  refine wpAnyH_ready (rs := [4]) (by kernel_rfl) (by simp) ?_
  refine AllReadyH.cons (o := ?_) (by simp only [List.getElem?_toArray, List.getElem?_cons_succ, List.getElem?_cons_zero]; exact rfl) (fun K hK => ?_) AllReadyH.nil
  go_simp
  refine hK.out _ _ (HS.out _ hk2) (fun hHeld => ?_)
  clear hK K
  try simp only [Act.put, List.setIfInBounds_toArray, List.set_cons_zero, List.set_cons_succ]
  refine wpAnyH_take (i := 5) (oi := ?_) (v := ?_) (by simp only [List.getElem?_toArray, List.getElem?_cons_succ, List.getElem?_cons_zero]; exact rfl) (by kernel_rfl) (by kernel_rfl) (by kernel_rfl) (by exact fun _ _ _ h => h) (Or.inl ⟨by rfl, ?_⟩) (by assumption) ?_
  rotate_left
  · (intro w hSw; (try dsimp only at hSw); go_simp; try with_reducible rfl)
  try simp only [Act.put, List.setIfInBounds_toArray, List.set_cons_zero, List.set_cons_succ]
  refine wpAnyH_take (i := 6) (oi := ?_) (v := ?_) (by simp only [List.getElem?_toArray, List.getElem?_cons_succ, List.getElem?_cons_zero]; exact rfl) (by kernel_rfl) (by kernel_rfl) (by kernel_rfl) (by exact fun _ _ _ h => h) (Or.inl ⟨by rfl, ?_⟩) (by assumption) ?_
  rotate_left
  · (intro w hSw; (try dsimp only at hSw); go_simp; try with_reducible rfl)
  try simp only [Act.put, List.setIfInBounds_toArray, List.set_cons_zero, List.set_cons_succ]
  refine wpAnyH_take (i := 8) (oi := ?_) (v := ?_) (by simp only [List.getElem?_toArray, List.getElem?_cons_succ, List.getElem?_cons_zero]; exact rfl) (by kernel_rfl) (by kernel_rfl) (by kernel_rfl) (by exact fun _ _ _ h => h) (Or.inl ⟨by rfl, ?_⟩) (by assumption) ?_
  rotate_left
  · (intro w hSw; (try dsimp only at hSw); go_simp; try with_reducible rfl)
  try simp only [Act.put, List.setIfInBounds_toArray, List.set_cons_zero, List.set_cons_succ]
  refine wpAnyH_take (i := 9) (oi := ?_) (v := ?_) (by simp only [List.getElem?_toArray, List.getElem?_cons_succ, List.getElem?_cons_zero]; exact rfl) (by kernel_rfl) (by kernel_rfl) (by kernel_rfl) (by exact fun _ _ _ h => h) (Or.inl ⟨by rfl, ?_⟩) (by assumption) ?_
  rotate_left
  · (intro w hSw; (try dsimp only at hSw); go_simp; try with_reducible rfl)
  try simp only [Act.put, List.setIfInBounds_toArray, List.set_cons_zero, List.set_cons_succ]
  refine wpAnyH_take (i := 10) (oi := ?_) (v := ?_) (by simp only [List.getElem?_toArray, List.getElem?_cons_succ, List.getElem?_cons_zero]; exact rfl) (by kernel_rfl) (by kernel_rfl) (by kernel_rfl) (by exact fun _ _ _ h => h) (Or.inl ⟨by rfl, ?_⟩) (by assumption) ?_
  rotate_left
  · (intro w hSw; (try dsimp only at hSw); go_simp; try with_reducible rfl)
  try simp only [Act.put, List.setIfInBounds_toArray, List.set_cons_zero, List.set_cons_succ]
  refine wpAnyH_take (i := 11) (oi := ?_) (v := ?_) (by simp only [List.getElem?_toArray, List.getElem?_cons_succ, List.getElem?_cons_zero]; exact rfl) (by kernel_rfl) (by kernel_rfl) (by kernel_rfl) (by exact fun _ _ _ h => h) (Or.inl ⟨by rfl, ?_⟩) (by assumption) ?_
  rotate_left
  · (intro w hSw; (try dsimp only at hSw); go_simp; try with_reducible rfl)
  try simp only [Act.put, List.setIfInBounds_toArray, List.set_cons_zero, List.set_cons_succ]
  refine wpAnyH_take (i := 12) (oi := ?_) (v := ?_) (by simp only [List.getElem?_toArray, List.getElem?_cons_succ, List.getElem?_cons_zero]; exact rfl) (by kernel_rfl) (by kernel_rfl) (by kernel_rfl) (by exact fun _ _ _ h => h) (Or.inl ⟨by rfl, ?_⟩) (by assumption) ?_
  rotate_left
  · (intro w hSw; (try dsimp only at hSw); go_simp; try with_reducible rfl)
  try simp only [Act.put, List.setIfInBounds_toArray, List.set_cons_zero, List.set_cons_succ]
  refine wpAnyH_take (i := 13) (oi := ?_) (v := ?_) (by simp only [List.getElem?_toArray, List.getElem?_cons_succ, List.getElem?_cons_zero]; exact rfl) (by kernel_rfl) (by kernel_rfl) (by kernel_rfl) (by exact fun _ _ _ h => h) (Or.inl ⟨by rfl, ?_⟩) (by assumption) ?_
  rotate_left
  · (intro w hSw; (try dsimp only at hSw); go_simp; try with_reducible rfl)
  try simp only [Act.put, List.setIfInBounds_toArray, List.set_cons_zero, List.set_cons_succ]
  refine wpAnyH_take (i := 14) (oi := ?_) (v := ?_) (by simp only [List.getElem?_toArray, List.getElem?_cons_succ, List.getElem?_cons_zero]; exact rfl) (by kernel_rfl) (by kernel_rfl) (by kernel_rfl) (by exact fun _ _ _ h => h) (Or.inl ⟨by rfl, ?_⟩) (by assumption) ?_
  rotate_left
  · (intro w hSw; (try dsimp only at hSw); go_simp; try with_reducible rfl)
  try simp only [Act.put, List.setIfInBounds_toArray, List.set_cons_zero, List.set_cons_succ]
  refine wpAnyH_ready (rs := [15]) (by kernel_rfl) (by simp) ?_
  refine AllReadyH.cons (o := ?_) (by simp only [List.getElem?_toArray, List.getElem?_cons_succ, List.getElem?_cons_zero]; exact rfl) (fun K hK => ?_) AllReadyH.nil
  go_simp
  refine (HIS.out _ hk2).mono ?_
  rintro ev w' ⟨rfl, rfl⟩
  refine hK.out _ _ (HS.out _ hk2) (fun hHeld => ?_)
  clear hK K
  try simp only [Act.put, List.setIfInBounds_toArray, List.set_cons_zero, List.set_cons_succ]
  refine wpAnyH_take (i := 16) (oi := ?_) (v := ?_) (by simp only [List.getElem?_toArray, List.getElem?_cons_succ, List.getElem?_cons_zero]; exact rfl) (by kernel_rfl) (by kernel_rfl) (by kernel_rfl) (by exact fun _ _ _ h => h) (Or.inl ⟨by rfl, ?_⟩) (by assumption) ?_
  rotate_left
  · (intro w hSw; (try dsimp only at hSw); go_simp; try with_reducible rfl)
  try simp only [Act.put, List.setIfInBounds_toArray, List.set_cons_zero, List.set_cons_succ]
  refine wpAnyH_ready (rs := [17]) (by kernel_rfl) (by simp) ?_
  refine AllReadyH.cons (o := ?_) (by simp only [List.getElem?_toArray, List.getElem?_cons_succ, List.getElem?_cons_zero]; exact rfl) (fun K hK => ?_) AllReadyH.nil
  go_simp
  refine hK.out _ _ (HS.out _ hk2) (fun hHeld => ?_)
  clear hK K
  try simp only [Act.put, List.setIfInBounds_toArray, List.set_cons_zero, List.set_cons_succ]
  refine wpAnyH_done (by kernel_rfl) ?_ _
  go_wp2_with fail
  go_ret
  exact ⟨rfl, HKW.out.trans hk2 (fun k hk e => by have := hNw.out; omega)⟩
end Go.Proofs.YtifliekahdgobaaGreatDoor
namespace Go.Proofs.YtifliekahdgobaaGreatDoor
open Go.RowKit Sp

theorem info29b : (Tryz.prog.info? 29).map (·.size) = some 2 := by kernel_rfl
set_option maxRecDepth 100000 in
theorem ours_any (n : Int) (a : Option Addr) (k c : Nat) (w : World) : Calls Tryz.prog 12 #[.agg #[.int .i64 n, .slice a k c]] w fun e w' => e = .returned (.agg #[.int .i64 n, .slice a k c]) ∧ Keep (fun _ => False) w w' := by
  go_enter Tryz.func12, Tryz.ntmps12
  go_wp2_with fail
  refine bodyPost_ret (v := .agg #[.int .i64 n, .slice a k c]) ?_ rfl ⟨rfl, ((Keep.refl _ w).alloc _).alloc _⟩
  exact results_block (n := 2) (t := 2) (T := 29) rfl Tryz.underlying29 rfl info29b _ _ (w.heap.size + 1) #[.int .i64 n, .slice a k c] 29 (0, 0) rfl rfl (block_new' _ _ (by simp))
set_option maxRecDepth 100000 in
theorem theirs_any (n : Int) (a : Option Addr) (k c : Nat) (w : World) : Calls Tryz.prog 16 #[.agg #[.int .i64 n, .slice a k c]] w fun e w' => e = .returned (.agg #[.int .i64 n, .slice a k c]) ∧ Keep (fun _ => False) w w' := by
  go_enter Tryz.func16, Tryz.ntmps16
  go_wp2_with fail
  refine bodyPost_ret (v := .agg #[.int .i64 n, .slice a k c]) ?_ rfl ⟨rfl, ((Keep.refl _ w).alloc _).alloc _⟩
  exact results_block (n := 2) (t := 2) (T := 24) rfl Tryz.underlying24 rfl info24 _ _ (w.heap.size + 1) #[.int .i64 n, .slice a k c] 24 (0, 0) rfl rfl (block_new' _ _ (by simp))
set_option maxRecDepth 100000 in
theorem wrong_any (t : Str) (ht : t.length ≤ 1000000000) (c : Int) (at' : Nat) (hp : parse t = .error (c, at')) (hc : c ≠ 0) (w : World) (hg : Glob w) :
    Calls Tryz.prog 22 #[sv t, .int .i64 c, .int .i64 (at' : Int)] w (Tells true w) := by
  have H := Lib.hid (mparse_any t ht w hg)
  have HG := Lib.hid hg
  have HP := Lib.hid hp
  have HC := Lib.hid hc
  clear hg hp hc
  go_enter Tryz.func22, Tryz.ntmps22
  go_wp2_with fail
  refine H.out.mono ?_
  rintro e w1 ⟨hk1, h1⟩
  rw [HP.out] at h1
  obtain ⟨g, hgw, rfl, hb⟩ := h1
  have hka : Keep (fun _ => False) w1 (w1.alloc (.cells #[.int .i64 0, .slice none 0 0] 24)) := (Keep.refl _ _).alloc _
  have HT := Lib.hid (told_fault g c at' HC.out (w1.alloc (.cells #[.int .i64 0, .slice none 0 0] 24)) (hka.at' hb (fun e => e)) (HG.out.far (hk1.trans' hka)))
  have HK := Lib.hid (hk1.trans' hka)
  clear hk1 hb hka hgw
  go_wp2_with fail
  refine HT.out.mono ?_
  rintro e w2 ⟨rfl, hk2⟩
  have HK2 := Lib.hid hk2
  clear hk2
  go_wp2_with fail
  go_ret
  exact ⟨rfl, HK.out.trans' HK2.out⟩
/-! ### works -/
def wkText : Str := [110, 111, 100, 101, 115, 32, 51, 10, 116, 105, 99, 107, 32, 48, 32, 53, 32, 35, 32, 102, 105, 118, 101, 10, 97, 115, 107, 32, 49, 32, 116, 120, 110, 32, 55, 32, 49, 32, 45, 32, 48, 32, 116, 104, 101, 110, 32, 112, 117, 116, 32, 54, 49, 32, 54, 50, 32, 112]
def wkOut : Str := [110, 111, 100, 101, 115, 32, 51, 10, 116, 105, 99, 107, 32, 48, 32, 53, 10, 97, 115, 107, 32, 49, 32, 116, 120, 110, 32, 55, 32, 49, 32, 45, 32, 48, 32, 116, 104, 101, 110, 32, 112, 117, 116, 32, 54, 49, 32, 54, 50, 32, 112, 10]
def wkOp : OpS := ⟨1, [97], [], [98], 0, 0, false, false, true⟩
def wkReq : ReqS := ⟨0, 7, 1, false, [], [wkOp], [], 0⟩
def wkTick : StepS := ⟨3, 0, 5, .zero, .zero⟩
def wkAsk : StepS := ⟨7, 1, 0, wkReq, .zero⟩
def wkS : ScriptS := ⟨3, [wkTick, wkAsk]⟩
theorem wk_parse : parse wkText = .ok wkS := by kernel_rfl
theorem wk_ok : okScript wkS = true := by kernel_rfl
theorem wk_text : text wkS = wkOut := by kernel_rfl
theorem wk_mid : ∀ x ∈ wkS.steps, MidStep x := by
  intro x hx
  simp only [wkS, List.mem_cons, List.mem_nil_iff, or_false] at hx
  rcases hx with rfl | rfl
  · refine ⟨by decide, by decide, by decide, by decide, by decide, by decide, by decide, by decide, ⟨by decide, by decide, by decide, by decide, by decide, by decide, by decide, by decide, by decide, ?_, ?_, ?_⟩, ⟨by decide, by decide, by decide, by decide, by decide, by decide⟩⟩
    all_goals (intro y hy; cases hy)
  · refine ⟨by decide, by decide, by decide, by decide, by decide, by decide, by decide, by decide, ⟨by decide, by decide, by decide, by decide, by decide, by decide, by decide, by decide, by decide, ?_, ?_, ?_⟩, ⟨by decide, by decide, by decide, by decide, by decide, by decide⟩⟩
    · intro y hy; cases hy
    · intro y hy
      simp only [wkAsk, wkReq, List.mem_cons, List.mem_nil_iff, or_false] at hy
      subst hy
      exact ⟨by decide, by decide, by decide, by decide, by decide, by decide, by decide⟩
    · intro y hy; cases hy
theorem wk1 : parse [] = .error (4, 1) := by kernel_rfl
theorem wk2 : parse [102, 108, 121] = .error (19, 0) := by kernel_rfl
theorem wk3 : parse [116, 105, 99, 107, 32, 48, 32, 49] = .error (4, 0) := by kernel_rfl
theorem wk4 : parse [110, 111, 100, 101, 115, 32, 48] = .error (4, 0) := by kernel_rfl
theorem wk5 : parse [110, 111, 100, 101, 115, 32, 51, 10, 97, 115, 107, 32, 48, 32, 116, 120, 110, 32, 49, 32, 49, 32, 45, 32, 48, 32, 101, 108, 115, 101, 32, 114, 97, 110, 103, 101, 32, 45, 32, 45, 32, 48, 32, 48, 32, 107, 99] = .error (4, 1) := by kernel_rfl
end Go.Proofs.YtifliekahdgobaaGreatDoor
