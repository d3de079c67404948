/-
  THE WALKS, 7: watch (printed by wip/tools/gen_watch.py). Helpers of the claims.
  ROWS OF STRUCTS that a slice owns: append of one, what keeps them; a request in memory. Helpers of the claims.
  THE WALKS, 8: requests, a request's head. Helpers of the claims.
  WHAT STANDS IN MEMORY while a request is read. Helpers of the claims.
  THE WALKS, 18: hex, marked. Helpers of the claims.
-/
import Derived.Deep.RegionHeld3
import Derived.Deep.AppendLies
import Derived.Test.YtifliekahdgobaaGreatDoorJW5ToW6
import Derived.Test.YtifliekahdgobaaGreatDoorJSpecToW1
set_option linter.unusedSimpArgs false
set_option linter.unusedVariables false
namespace Go.Proofs.YtifliekahdgobaaGreatDoor
open Go.RowKit Sp

/-- a watch's cells -/
def watchCells (x : WatchS) : Array Value := #[.int .u64 x.id, sv x.key, sv x.fin, .int .u64 x.start, .bool x.prev, .bool x.noPut, .bool x.noDelete, .bool x.progress]

set_option maxRecDepth 100000 in
set_option maxHeartbeats 1600000 in
theorem watch_any (lb rb : Nat) (ws : List Str) (w : World) (h : LineAt w lb rb ws) (hr : rb < w.heap.size) :
    Calls Tryz.prog 69 #[.pointer (some ⟨lb, 0, none⟩)] w (Got (fun x => .agg (watchCells x)) lb rb w (pwatch ws)) := by
  have hlt := h.lt
  have hbm : (most : Int) = 999999999999999999 := rfl
  obtain ⟨W, hW⟩ : ∃ W : World, W = w.alloc (.cells (watchCells .zero) 61) := ⟨_, rfl⟩
  have hkW : Keep (fun _ => False) w W := by rw [hW]; exact (Keep.refl _ w).alloc _
  have hbX : W.heap[w.heap.size]? = some (.cells (watchCells .zero) 61 (0, 0)) := by rw [hW]; exact block_new _ _
  have hWL := h.keep hkW (fun e => e) (fun e => e)
  have HBX := Lib.hid hbX
  have HWL := Lib.hid hWL
  have HW := Lib.hid (show W = w.alloc (.cells #[.int .u64 0, .string ⟨#[]⟩, .string ⟨#[]⟩, .int .u64 0, .bool false, .bool false, .bool false, .bool false] 61) from hW)
  clear hbX hWL hW h
  go_enter Tryz.func69, Tryz.ntmps69
  go_wp2_with fail
  rw [← HW.out]
  refine (num_any lb rb ws (W) (HWL.out)).mono ?_
  intro e w1 hg1
  obtain ⟨hk1, hg1⟩ := hg1
  have hkk1 : Keep (fun b => b = lb) w w1 := (hkW.mono (fun _ _ e => e.elim)).trans' hk1
  rcases hp1 : pnum most ws with _ | ⟨i, ws1⟩
  · rw [hp1] at hg1
    subst hg1
    refine ⟨rfl, hkk1, ?_⟩
    unfold pwatch
    rw [hp1]
    exact rfl
  rw [hp1] at hg1
  obtain ⟨rfl, hl1⟩ := hg1
  have hb1 := pnum_le hp1
  have HP1 := Lib.hid hp1
  have HL1 := Lib.hid hl1
  clear hp1 hl1
  go_wp2_with fail
  refine (bytes_any lb rb ws1 (w1) (HL1.out)).mono ?_
  intro e w2 hg2
  obtain ⟨hk2, hg2⟩ := hg2
  have hkk2 : Keep (fun b => b = lb) w w2 := hkk1.trans' hk2
  rcases hp2 : pbytes ws1 with _ | ⟨k, ws2⟩
  · rw [hp2] at hg2
    subst hg2
    refine ⟨rfl, hkk2, ?_⟩
    unfold pwatch
    rw [HP1.out, Option.bind_some, hp2]
    exact rfl
  rw [hp2] at hg2
  obtain ⟨rfl, hl2⟩ := hg2
  have HP2 := Lib.hid hp2
  have HL2 := Lib.hid hl2
  clear hp2 hl2
  go_wp2_with fail
  refine (bytes_any lb rb ws2 (w2) (HL2.out)).mono ?_
  intro e w3 hg3
  obtain ⟨hk3, hg3⟩ := hg3
  have hkk3 : Keep (fun b => b = lb) w w3 := hkk2.trans' hk3
  rcases hp3 : pbytes ws2 with _ | ⟨en, ws3⟩
  · rw [hp3] at hg3
    subst hg3
    refine ⟨rfl, hkk3, ?_⟩
    unfold pwatch
    rw [HP1.out, Option.bind_some, HP2.out, Option.bind_some, hp3]
    exact rfl
  rw [hp3] at hg3
  obtain ⟨rfl, hl3⟩ := hg3
  have HP3 := Lib.hid hp3
  have HL3 := Lib.hid hl3
  clear hp3 hl3
  go_wp2_with fail
  refine (num_any lb rb ws3 (w3) (HL3.out)).mono ?_
  intro e w4 hg4
  obtain ⟨hk4, hg4⟩ := hg4
  have hkk4 : Keep (fun b => b = lb) w w4 := hkk3.trans' hk4
  rcases hp4 : pnum most ws3 with _ | ⟨st, ws4⟩
  · rw [hp4] at hg4
    subst hg4
    refine ⟨rfl, hkk4, ?_⟩
    unfold pwatch
    rw [HP1.out, Option.bind_some, HP2.out, Option.bind_some, HP3.out, Option.bind_some, hp4]
    exact rfl
  rw [hp4] at hg4
  obtain ⟨rfl, hl4⟩ := hg4
  have hb4 := pnum_le hp4
  have HP4 := Lib.hid hp4
  have HL4 := Lib.hid hl4
  clear hp4 hl4
  rw [hbm] at hb1 hb4
  unfold u64v
  obtain ⟨cs, hcs⟩ : ∃ cs : List Value, cs = [.int .u64 i, sv k, sv en, .int .u64 st, .bool false, .bool false, .bool false, .bool false] := ⟨_, rfl⟩
  have hbB := block_new w4 (.cells (watchCells .zero) 61 (0, 0))
  have hth := there_of_block hbB (n := 8) (by decide)
  obtain ⟨V, hV⟩ : ∃ V : World, V = (w4.alloc (.cells (watchCells .zero) 61 (0, 0))).setCells w4.heap.size 0 cs := ⟨_, rfl⟩
  have hx2 : V.heap[w4.heap.size]? = some (.cells cs.toArray 61 (0, 0)) := by rw [hV]; exact block_setCells_all hbB cs (by rw [hcs]; rfl)
  have hkV0 : Keep (fun _ => False) w4 V := by rw [hV]; exact ((Keep.refl _ w4).alloc _).setCells _ _ _ (.inl (Nat.le_refl _))
  have hkV : Keep (fun b => b = lb) w V := hkk4.trans hkV0 (fun _ _ e => e.elim)
  have hlV := HL4.out.keep hkV0 (fun e => e) (fun e => e)
  have hs4 := hkk4.size
  have hXV := hkV0.at' (hk4.at' (hk3.at' (hk2.at' (hk1.at' HBX.out (show ¬ w.heap.size = lb by omega)) (show ¬ w.heap.size = lb by omega)) (show ¬ w.heap.size = lb by omega)) (show ¬ w.heap.size = lb by omega)) (fun e => e)
  have hN4 : w.heap.size ≠ w4.heap.size := by have := lt_of_block (hk4.at' (hk3.at' (hk2.at' (hk1.at' HBX.out (show ¬ w.heap.size = lb by omega)) (show ¬ w.heap.size = lb by omega)) (show ¬ w.heap.size = lb by omega)) (show ¬ w.heap.size = lb by omega)); omega
  have hxl : w4.heap.size ≠ lb := by omega
  have hxr : w4.heap.size ≠ rb := by omega
  have q1 : ∀ i, i < lPndg.length → (#[.pointer (some ⟨w4.heap.size, 4, none⟩), .pointer (some ⟨w4.heap.size, 5, none⟩), .pointer (some ⟨w4.heap.size, 6, none⟩), .pointer (some ⟨w4.heap.size, 7, none⟩)] : Array Value)[i]? = some (.pointer (some ⟨w4.heap.size, 4 + i, none⟩)) := by
    intro i hi
    have hi' : i < 4 := hi
    rcases (show i = 0 ∨ i = 1 ∨ i = 2 ∨ i = 3 by omega) with rfl | rfl | rfl | rfl <;> rfl
  have q2 : ∀ i, i < lPndg.length → cs.toArray[4 + i]? = some (.bool false) := by
    intro i hi
    have hi' : i < 4 := hi
    rw [hcs]
    rcases (show i = 0 ∨ i = 1 ∨ i = 2 ∨ i = 3 by omega) with rfl | rfl | rfl | rfl <;> rfl
  have HQ := marks_at lb rb lPndg ws4 w4.heap.size 4 61 cs.toArray #[.pointer (some ⟨w4.heap.size, 4, none⟩), .pointer (some ⟨w4.heap.size, 5, none⟩), .pointer (some ⟨w4.heap.size, 6, none⟩), .pointer (some ⟨w4.heap.size, 7, none⟩)] V hlV hx2 hxl hxr q1 q2 (by decide)
  clear q1 q2
  have hst : (stT 61 (.pointer (some ⟨w4.heap.size, 0, none⟩)) (.agg #[.int .u64 i, sv k, sv en, .int .u64 st, .bool false, .bool false, .bool false, .bool false])).run Tryz.prog (w4.alloc (.cells #[.int .u64 0, .string ⟨#[]⟩, .string ⟨#[]⟩, .int .u64 0, .bool false, .bool false, .bool false, .bool false] 61 (0, 0))) = .ok .skip V := by
    rw [hV, hcs]
    exact run_st61 _ _ 0 _ hth rfl (by simp [one_int, one_str, one_bool])
  have hxlt := lt_of_block hx2
  have HV := Lib.hid hV
  have HXV := Lib.hid hXV
  have HCS := Lib.hid hcs
  clear hV hXV hcs hth hbB hx2 hlV
  rcases hm : pmarks lPndg ws4 with _ | ⟨m, r⟩
  · rw [hm] at HQ
    have HMM := Lib.hid hm
    clear hm
    go_wp2_with fail
    refine (show Calls Tryz.prog 104 #[.pointer (some ⟨lb, 0, none⟩), .string ⟨#[112, 110, 100, 103]⟩, .slice (some ⟨V.heap.size, 0, none⟩) 4 4] _ _ from HQ).mono ?_
    rintro e w9 ⟨hk9, rfl⟩
    refine ⟨rfl, hkV.trans hk9 (fun b hb e => e.elim id (fun e => by omega)), ?_⟩
    unfold pwatch
    rw [HP1.out, Option.bind_some, HP2.out, Option.bind_some, HP3.out, Option.bind_some, HP4.out, Option.bind_some, HMM.out]
    exact rfl
  · rw [hm] at HQ
    have hml := pmarks_len hm
    obtain ⟨b1, b2, b3, b4, rfl⟩ : ∃ a b c d, m = [a, b, c, d] := len_four hml
    have HMM := Lib.hid hm
    clear hm hml
    go_wp2_with fail
    refine (show Calls Tryz.prog 104 #[.pointer (some ⟨lb, 0, none⟩), .string ⟨#[112, 110, 100, 103]⟩, .slice (some ⟨V.heap.size, 0, none⟩) 4 4] _ _ from HQ).mono ?_
    rintro e w9 ⟨hk9, rfl, hl9, hx9⟩
    have hx10 : w9.heap[w4.heap.size]? = some (.cells (watchCells ⟨i, k, en, st, b1, b2, b3, b4⟩) 61 (0, 0)) := by rw [hx9, HCS.out]; rfl
    have hX9 := hk9.at' HXV.out (show ¬ (w.heap.size = lb ∨ w.heap.size = w4.heap.size) by omega)
    have hld := run_ld61 w9 w4.heap.size 0 _ rfl (range_of_block hx10)
    have hst2 := run_st61 w9 w.heap.size 0 (watchCells ⟨i, k, en, st, b1, b2, b3, b4⟩) (there_of_block hX9 (by decide)) rfl (by simp [watchCells, one_int, one_str, one_bool])
    have HX9 := Lib.hid hX9
    have HL9 := Lib.hid hl9
    have hk10 : Keep (fun b => b = lb) w w9 := hkV.trans hk9 (fun b hb e => e.elim id (fun e => by omega))
    clear hX9 hl9 hx9 hx10
    generalize hcs2 : watchCells ⟨i, k, en, st, b1, b2, b3, b4⟩ = cs2 at *
    have hsz : cs2.size = 8 := by rw [← hcs2]; rfl
    have HCS2 := Lib.hid hcs2
    clear hcs2
    go_wp2_with fail
    have hb3 := block_setCells_all HX9.out cs2.toList (by simp [hsz, watchCells])
    rw [Array.toArray_toList] at hb3
    (try simp only [Exit.inBlock, Exit.then])
    refine bodyPost_ret (v := .agg cs2) ?_ rfl ?_
    · exact results_block (n := 8) rfl Tryz.underlying61 rfl info61 _ _ w.heap.size cs2 61 (0, 0) rfl hsz hb3
    have hpw : pwatch ws = some (⟨i, k, en, st, b1, b2, b3, b4⟩, r) := by
      unfold pwatch
      rw [HP1.out, Option.bind_some, HP2.out, Option.bind_some, HP3.out, Option.bind_some, HP4.out, Option.bind_some, HMM.out]
      rfl
    rw [hpw, ← HCS2.out]
    exact ⟨hk10.setCells _ _ _ (.inl (Nat.le_refl _)), rfl, HL9.out.keep ((Keep.refl (fun b => b = w.heap.size) w9).setCells _ _ _ (.inr rfl)) (fun e => by omega) (fun e => by omega)⟩
end Go.Proofs.YtifliekahdgobaaGreatDoor
namespace Go.Proofs.YtifliekahdgobaaGreatDoor
open Go.RowKit Sp

/-- the cells of many -/
def flat {α : Type} (enc : α → Array Value) (l : List α) : List Value := l.flatMap fun x => (enc x).toList
theorem flat_append {α : Type} (enc : α → Array Value) (l : List α) (x : α) : flat enc (l ++ [x]) = flat enc l ++ (enc x).toList := by simp [flat]

theorem ownsRow_keep {M : Nat → Prop} {w w' : World} {base e size n : Nat} {v : Value} {xs : List Value} (h : w.ownsRow base e size v n xs) (hk : Keep M w w') (hM : ∀ g cur, v.ownBlock = some g → w.heap[g]? = some (.cells cur e (0, 0)) → ¬ M g) : w'.ownsRow base e size v n xs := by
  refine ⟨h.1, ?_⟩
  rcases h.2 with hn | ⟨g, cap, cur, rfl, hb, hgg, rest⟩
  · exact .inl hn
  · exact .inr ⟨g, cap, cur, rfl, hb, hk.at' hgg (hM g cur rfl hgg), rest⟩
theorem ownsRow_base {w : World} {base base' e size n : Nat} {v : Value} {xs : List Value} (h : w.ownsRow base e size v n xs) (hb : base' ≤ base) : w.ownsRow base' e size v n xs := by
  refine ⟨h.1, ?_⟩
  rcases h.2 with hn | ⟨g, cap, cur, rfl, hb', rest⟩
  · exact .inl hn
  · exact .inr ⟨g, cap, cur, rfl, by omega, rest⟩
theorem ownsRow_len {w : World} {base e size n : Nat} {v : Value} {xs : List Value} (h : w.ownsRow base e size v n xs) : ∃ a c, v = .slice a n c ∧ n ≤ c := by
  rcases h.2 with ⟨rfl, rfl⟩ | ⟨g, cap, cur, rfl, _, _, h1, _⟩
  · exact ⟨_, _, rfl, Nat.le_refl _⟩
  · exact ⟨_, _, rfl, h1⟩

/-- append of one struct that has just been laid: where the row lies then -/
theorem app_one {t e size bytes : Nat} {i : TypeInfo} {z : Value} (ht : Tryz.prog.underlying t = some (.slice e)) (hi : Tryz.prog.info? e = some i) (hz : i.zero = some z)
    (hsize : i.size = size) (hby : i.bytes = bytes) (hzs : z.cells.size = size) (hsz : 0 < size)
    {α : Type} (enc : α → Array Value) (x : α) (hx1 : (enc x).size = size) (hx2 : ∀ u ∈ (enc x).toList, u.oneCell' = true)
    (w : World) (base : Nat) (v : Value) (l : List α) (hown : w.ownsRow base e size v l.length (flat enc l)) (hn : l.length + 1 ≤ 1099511627776) (hbytes : (l.length + 1) * bytes ≤ 140737488355328) (hb : base ≤ w.heap.size) :
    ∃ v' w', (Builtin.append_ #[t, t] t #[v, .slice (some ⟨w.heap.size, 0, none⟩) 1 1]).run Tryz.prog (w.alloc (.cells (enc x) e (0, 0))) = .ok v' w' ∧ w'.ownsRow base e size v' (l ++ [x]).length (flat enc (l ++ [x])) ∧
      (w.alloc (.cells (enc x) e (0, 0))).grownBy w' v.ownBlock ∧ (v'.ownBlock = v.ownBlock ∨ v'.ownBlock = some (w.heap.size + 1)) := by
  have hnew := block_new w (.cells (enc x) e (0, 0))
  have hcells : ∀ j u, (enc x).toList[j]? = some u → (w.alloc (.cells (enc x) e (0, 0))).cell? ((⟨w.heap.size, 0, none⟩ : Addr).add j) = some u := fun j u hu => by
    have hadd : (⟨w.heap.size, 0, none⟩ : Addr).add j = ⟨w.heap.size, j, none⟩ := by unfold Addr.add; split <;> simp_all
    rw [hadd, cell_of_block hnew]
    simpa using hu
  have hown' := hown.alloc (.cells (enc x) e (0, 0))
  have hby1 : bytes ≤ 140737488355328 := Nat.le_trans (Nat.le_mul_of_pos_left _ (by omega)) hbytes
  have hmax : l.length + 1 ≤ maxLen := by unfold maxLen; omega
  have hb' : base ≤ (w.alloc (.cells (enc x) e (0, 0))).heap.size := by simp; omega
  have hxl : (enc x).toList.length = 1 * size := by simp [hx1]
  obtain ⟨v', w', hr, h2, h3, -⟩ := run_append_own (P := Tryz.prog) _ base t t e i z size bytes ht hi hz hsize hby hzs hsz v l.length (flat enc l) hown' ⟨w.heap.size, 0, none⟩ 1 1 (enc x).toList hxl hcells hx2 hmax hbytes hb'
  refine ⟨v', w', hr, by rw [flat_append, List.length_append]; exact h2, h3, ?_⟩
  rcases hown'.2 with ⟨rfl, h0⟩ | ⟨g, cap, cur, rfl, hbg, hg, hnc, hcm, hcs, htake⟩
  · have hr2 := run_append_nil (P := Tryz.prog) (w.alloc (.cells (enc x) e (0, 0))) t t e i z ht hi hz ⟨w.heap.size, 0, none⟩ 1 1 (enc x).toList (by rw [hsize]; exact hxl) hcells (by omega) (by omega) (by rw [hby]; omega)
    rw [hr] at hr2
    injection hr2 with h5 h6
    rw [h5]
    right
    simp [Value.ownBlock]
  · by_cases hroom : l.length + 1 ≤ cap
    · have hr2 := run_append_room (P := Tryz.prog) (w.alloc (.cells (enc x) e (0, 0))) t t e i ht hi g l.length cap cur hg ⟨w.heap.size, 0, none⟩ 1 1 (enc x).toList (by rw [hsize]; exact hxl) hcells hx2 hroom (by
        rw [hsize, hxl, hcs, ← Nat.add_mul]; exact Nat.mul_le_mul_right _ hroom)
      rw [hr] at hr2
      injection hr2 with h5 h6
      rw [h5]
      left
      rfl
    · have hr2 := run_append_grow (P := Tryz.prog) (w.alloc (.cells (enc x) e (0, 0))) t t e i z ht hi hz ⟨g, 0, none⟩ l.length cap (flat enc l) (by rw [hsize]; exact hown.1) (hown'.cells (g := g) rfl) ⟨w.heap.size, 0, none⟩ 1 1 (enc x).toList (by rw [hsize]; exact hxl) hcells (by omega) (by omega) (growslice_fits (by omega) (by rw [hby]; exact hbytes))
      rw [hr] at hr2
      injection hr2 with h5 h6
      rw [h5]
      right
      simp [Value.ownBlock]

/-- a comparison's cells -/
def cmpCells (x : CmpS) : Array Value := #[sv x.key, .int .i64 x.what, .int .i64 x.how, .int .u64 x.n, sv x.val]
theorem cmpCells_one (a : CmpS) : (cmpCells a).all (·.oneCell') = true := by simp [cmpCells, one_int, one_str]
theorem all_one {cs : Array Value} (h : cs.all (·.oneCell') = true) : ∀ u ∈ cs.toList, u.oneCell' = true := by
  intro u hu
  rw [Array.all_eq_true] at h
  obtain ⟨i, hi, rfl⟩ := List.mem_iff_getElem.1 hu
  simpa using h i (by simpa using hi)
def CmpsAt (w : World) (base : Nat) (v : Value) (l : List CmpS) : Prop := w.ownsRow base 65 5 v l.length (flat cmpCells l)
def OpsAt (w : World) (base : Nat) (v : Value) (l : List OpS) : Prop := w.ownsRow base 67 9 v l.length (flat opCells l)
def reqCells (r : ReqS) (vc vt ve : Value) : Array Value := #[.int .i64 r.kind, .int .u64 r.client, .int .u64 r.num, .bool r.serial, vc, vt, ve, .int .u64 r.rev]
/-- a request in memory -/
def ReqIs (w : World) (r : ReqS) (vc vt ve : Value) : Prop := CmpsAt w 0 vc r.cmps ∧ OpsAt w 0 vt r.thn ∧ OpsAt w 0 ve r.els

theorem Tryz.inf65 : (Tryz.prog.info? 65).map (fun i => (i.zero, i.size, i.bytes)) = some (some (.agg #[.string ⟨#[]⟩, .int .i64 0, .int .i64 0, .int .u64 0, .string ⟨#[]⟩]), 5, 56) := by kernel_rfl
theorem Tryz.inf67 : (Tryz.prog.info? 67).map (fun i => (i.zero, i.size, i.bytes)) = some (some (.agg #[.int .i64 0, .string ⟨#[]⟩, .string ⟨#[]⟩, .string ⟨#[]⟩, .int .u64 0, .int .i64 0, .bool false, .bool false, .bool false]), 9, 80) := by kernel_rfl
theorem app_cmp (w : World) (base : Nat) (v : Value) (l : List CmpS) (x : CmpS) (hown : CmpsAt w base v l) (hn : l.length + 1 ≤ 1099511627776) (hb : base ≤ w.heap.size) :
    ∃ v' w', (Builtin.append_ #[56, 56] 56 #[v, .slice (some ⟨w.heap.size, 0, none⟩) 1 1]).run Tryz.prog (w.alloc (.cells (cmpCells x) 65 (0, 0))) = .ok v' w' ∧ CmpsAt w' base v' (l ++ [x]) ∧
      (w.alloc (.cells (cmpCells x) 65 (0, 0))).grownBy w' v.ownBlock ∧ (v'.ownBlock = v.ownBlock ∨ v'.ownBlock = some (w.heap.size + 1)) := by
  obtain ⟨i, hi, hz0, hz1, hz2⟩ := info_parts Tryz.inf65
  exact app_one Tryz.underlying56 hi hz0 hz1 hz2 rfl (by decide) cmpCells x rfl (all_one (cmpCells_one x)) w base v l hown hn (by omega) hb
theorem app_op (w : World) (base : Nat) (v : Value) (l : List OpS) (x : OpS) (hown : OpsAt w base v l) (hn : l.length + 1 ≤ 1099511627776) (hb : base ≤ w.heap.size) :
    ∃ v' w', (Builtin.append_ #[57, 57] 57 #[v, .slice (some ⟨w.heap.size, 0, none⟩) 1 1]).run Tryz.prog (w.alloc (.cells (opCells x) 67 (0, 0))) = .ok v' w' ∧ OpsAt w' base v' (l ++ [x]) ∧
      (w.alloc (.cells (opCells x) 67 (0, 0))).grownBy w' v.ownBlock ∧ (v'.ownBlock = v.ownBlock ∨ v'.ownBlock = some (w.heap.size + 1)) := by
  obtain ⟨i, hi, hz0, hz1, hz2⟩ := info_parts Tryz.inf67
  exact app_one Tryz.underlying57 hi hz0 hz1 hz2 rfl (by decide) opCells x rfl (all_one (opCells_one x)) w base v l hown hn (by omega) hb

/-! ### lengths -/
theorem take1_len {α : Type} {f : Str → Option α} {ws r : List Str} {a : α} (h : take1 f ws = some (a, r)) : ws.length = r.length + 1 := by
  cases ws with
  | nil => cases h
  | cons x ws =>
    have h : (f x).bind (fun a => some (a, ws)) = some (a, r) := h
    rcases hf : f x with _ | b
    · rw [hf] at h; cases h
    · rw [hf] at h
      simp only [Option.bind_some, Option.some.injEq, Prod.mk.injEq] at h
      rw [← h.2]; rfl
theorem bind_some_iff {α β : Type} {o : Option α} {f : α → Option β} {b : β} (h : o.bind f = some b) : ∃ a, o = some a ∧ f a = some b := by
  cases o with
  | none => cases h
  | some a => exact ⟨a, rfl, h⟩
theorem prange_len {ws r : List Str} {x : OpS} (h : prange ws = some (x, r)) : r.length ≤ ws.length := by
  unfold prange at h
  obtain ⟨a, h1, h⟩ := bind_some_iff h
  obtain ⟨b, h2, h⟩ := bind_some_iff h
  obtain ⟨c, h3, h⟩ := bind_some_iff h
  obtain ⟨d, h4, h⟩ := bind_some_iff h
  obtain ⟨e, h5, h⟩ := bind_some_iff h
  have := take1_len h1; have := take1_len h2; have := take1_len h3; have := take1_len h4; have := take1_len h5
  simp only [Option.some.injEq, Prod.mk.injEq] at h
  rw [← h.2]; omega
theorem pput_len {ws r : List Str} {x : OpS} (h : pput ws = some (x, r)) : r.length ≤ ws.length := by
  unfold pput at h
  obtain ⟨a, h1, h⟩ := bind_some_iff h
  obtain ⟨b, h2, h⟩ := bind_some_iff h
  obtain ⟨c, h3, h⟩ := bind_some_iff h
  have := take1_len h1; have := take1_len h2; have := take1_len h3
  simp only [Option.some.injEq, Prod.mk.injEq] at h
  rw [← h.2]; omega
theorem pdel_len {ws r : List Str} {x : OpS} (h : pdel ws = some (x, r)) : r.length ≤ ws.length := by
  unfold pdel at h
  obtain ⟨a, h1, h⟩ := bind_some_iff h
  obtain ⟨b, h2, h⟩ := bind_some_iff h
  obtain ⟨c, h3, h⟩ := bind_some_iff h
  have := take1_len h1; have := take1_len h2; have := take1_len h3
  simp only [Option.some.injEq, Prod.mk.injEq] at h
  rw [← h.2]; omega
theorem pop_len {ws r : List Str} {x : OpS} (h : pop ws = some (x, r)) : r.length < ws.length := by
  unfold pop at h
  obtain ⟨a, h1, h⟩ := bind_some_iff h
  have := take1_len h1
  split at h
  · have := prange_len h; omega
  · split at h
    · have := pput_len h; omega
    · split at h
      · have := pdel_len h; omega
      · cases h
theorem pcmp_len {ws r : List Str} {x : CmpS} (h : pcmp ws = some (x, r)) : r.length < ws.length := by
  unfold pcmp at h
  obtain ⟨a, h1, h⟩ := bind_some_iff h
  obtain ⟨b, h2, h⟩ := bind_some_iff h
  obtain ⟨c, h3, h⟩ := bind_some_iff h
  obtain ⟨d, h4, h⟩ := bind_some_iff h
  obtain ⟨e, h5, h⟩ := bind_some_iff h
  have := take1_len h1; have := take1_len h2; have := take1_len h3; have := take1_len h4; have := take1_len h5
  simp only [Option.some.injEq, Prod.mk.injEq] at h
  rw [← h.2]; omega
theorem pitem_len {st st' : PartS} {ws r : List Str} (h : pitem st ws = some (st', r)) : r.length < ws.length := by
  unfold pitem at h
  obtain ⟨a, h1, h⟩ := bind_some_iff h
  have := take1_len h1
  split at h
  · split at h
    · obtain ⟨b, h2, h⟩ := bind_some_iff h
      have := pcmp_len h2
      simp only [Option.some.injEq, Prod.mk.injEq] at h
      rw [← h.2]; omega
    · cases h
  · split at h
    · split at h
      · obtain ⟨b, h2, h⟩ := bind_some_iff h
        have := pop_len h2
        simp only [Option.some.injEq, Prod.mk.injEq] at h
        rw [← h.2]; omega
      · cases h
    · split at h
      · obtain ⟨b, h2, h⟩ := bind_some_iff h
        have := pop_len h2
        simp only [Option.some.injEq, Prod.mk.injEq] at h
        rw [← h.2]; omega
      · cases h
theorem pitems_any : ∀ (k k' : Nat) (st : PartS) (ws : List Str), ws.length ≤ k → ws.length ≤ k' → pitems k st ws = pitems k' st ws
  | k, k', st, [], _, _ => by cases k <;> cases k' <;> rfl
  | 0, _, _, _ :: _, h, _ => by simp at h
  | _, 0, _, _ :: _, _, h => by simp at h
  | k + 1, k' + 1, st, x :: ws, h, h' => by
    simp only [pitems, reduceCtorEq, if_false]
    rcases hp : pitem st (x :: ws) with _ | ⟨st', r⟩
    · rfl
    · have := pitem_len hp
      simp only [List.length_cons] at this h h'
      simp only [Option.bind_some]
      exact pitems_any k k' st' r (by omega) (by omega)
/-- items, with enough of a bound -/
def items (st : PartS) (ws : List Str) : Option PartS := pitems ws.length st ws
theorem items_nil (st : PartS) : items st [] = some st := rfl
theorem items_cons (st : PartS) (x : Str) (ws : List Str) : items st (x :: ws) = (pitem st (x :: ws)).bind fun y => items y.1 y.2 := by
  unfold items
  simp only [List.length_cons, pitems, reduceCtorEq, if_false]
  rcases hp : pitem st (x :: ws) with _ | ⟨st', r⟩
  · rfl
  · have := pitem_len hp
    simp only [List.length_cons] at this
    exact pitems_any _ _ _ _ (show r.length ≤ ws.length by omega) (Nat.le_refl _)
end Go.Proofs.YtifliekahdgobaaGreatDoor
namespace Go.Proofs.YtifliekahdgobaaGreatDoor
open Go.RowKit Sp

def idxOf (l : List Str) (x : Str) : Int := match kindOf l x with | some k => k | none => -1
theorem idx_from (x : Str) : ∀ (l : List Str) (i : Nat), Lib.idxFromS (l.map fun y => (⟨y.toArray⟩ : ByteArray)) ⟨x.toArray⟩ i = match kindOf l x with | some k => ((i + k : Nat) : Int) | none => -1
  | [], i => rfl
  | y :: l, i => by
    rw [List.map_cons, Lib.idxFromS]
    unfold kindOf
    rw [List.findIdx?_cons]
    by_cases h : y = x
    · subst h; simp
    · have h1 : ¬ ((⟨y.toArray⟩ : ByteArray) = ⟨x.toArray⟩) := fun e => h (by injection e with e; simpa using e)
      rw [if_neg h1, idx_from x l (i + 1)]
      have h2 : (y == x) = false := by simpa using h
      unfold kindOf
      rw [h2]
      rcases hf : l.findIdx? (· == x) with _ | k
      · rfl
      · show ((i + 1 + k : Nat) : Int) = ((i + (k + 1) : Nat) : Int)
        congr 1
        omega
theorem idx_eq (l : List Str) (x : Str) : Lib.idxOfS (l.map fun y => (⟨y.toArray⟩ : ByteArray)) ⟨x.toArray⟩ = idxOf l x := by
  unfold Lib.idxOfS idxOf
  rw [idx_from x l 0]
  rcases kindOf l x with _ | k <;> simp
/-- slices.Index over a row of words -/
theorem index_at (b : Nat) (l : List Str) (T : TypeId) (f : Nat × Nat) (c : Nat) (x : Str) (w : World) (hl : l.length ≤ 4294967296) (hb : w.heap[b]? = some (.cells (l.map fun y => sv y).toArray T f)) :
    Calls Tryz.prog 108 #[.slice (some ⟨b, 0, none⟩) l.length c, sv x] w fun e w' => e = .returned (.int .i64 (idxOf l x)) ∧ w = w' := by
  refine (Tryz.slices_Index_string b 0 l.length c (l.map fun y => (⟨y.toArray⟩ : ByteArray)) ⟨x.toArray⟩ w (by simp) (by omega) ?_).mono ?_
  · intro j hj
    simp only [List.length_map] at hj
    simp [World.cell?, hb, hj, List.getD]
  · intro e w' h
    rw [show ((l.map fun y => (⟨y.toArray⟩ : ByteArray)).take l.length) = l.map fun y => (⟨y.toArray⟩ : ByteArray) by rw [List.take_of_length_le (by simp)], idx_eq] at h
    exact ⟨h.1, h.2.symm⟩
theorem kinds_walk (w : World) : Calls Tryz.prog 109 #[] w fun e w' => e = .returned (.slice (some ⟨w.heap.size, 0, none⟩) 4 4) ∧ w' = w.alloc (.cells (kinds.map fun y => sv y).toArray 9 (0, 0)) := by
  go_enter Tryz.func109, Tryz.ntmps109
  go_wp2_with fail
  go_ret
  exact ⟨rfl, rfl⟩
end Go.Proofs.YtifliekahdgobaaGreatDoor
namespace Go.Proofs.YtifliekahdgobaaGreatDoor
open Go.RowKit Sp

/-- the state at the head of req's loop: wz is what is left of the line; st what was read; B the result's block -/
structure ReqMem (lb rb B : Nat) (w : World) (r0 : ReqS) (st : PartS) (wz : List Str) (vc vt ve : Value) (wr : World) : Prop where
  line : LineAt wr lb rb wz
  res : wr.heap[B]? = some (.cells (reqCells r0 vc vt ve) 59 (0, 0))
  cmps : CmpsAt wr (B + 1) vc st.cmps
  thn : OpsAt wr (B + 1) vt st.thn
  els : OpsAt wr (B + 1) ve st.els
  apart : vt.ownBlock = none ∨ vt.ownBlock ≠ ve.ownBlock
  keep : Keep (fun b => b = lb) w wr
variable {lb rb B : Nat} {w wr : World} {r0 : ReqS} {st : PartS} {wz : List Str} {vc vt ve : Value}
theorem ReqMem.step (h : ReqMem lb rb B w r0 st wz vc vt ve wr) (hb : lb < B) {wr' : World} {wz' : List Str} (hk : Keep (fun b => b = lb) wr wr') (hl : LineAt wr' lb rb wz') : ReqMem lb rb B w r0 st wz' vc vt ve wr' := by
  have hM : ∀ (v : Value) (base e size n : Nat) (xs : List Value), wr.ownsRow (B + 1) e size v n xs → ∀ g cur, v.ownBlock = some g → wr.heap[g]? = some (.cells cur e (0, 0)) → ¬ g = lb := fun v base e size n xs h g cur hg _ e => by
    have := (h.lt g hg).1
    omega
  exact ⟨hl, hk.at' h.res (by omega), ownsRow_keep h.cmps hk (hM _ 0 _ _ _ _ h.cmps), ownsRow_keep h.thn hk (hM _ 0 _ _ _ _ h.thn), ownsRow_keep h.els hk (hM _ 0 _ _ _ _ h.els), h.apart, h.keep.trans' hk⟩
theorem ReqMem.drew (h : ReqMem lb rb B w r0 st wz vc vt ve wr) (hb : lb < B) : ReqMem lb rb B w r0 st wz vc vt ve wr.drew :=
  h.step hb (Keep.refl _ wr).drew (h.line.keep (Keep.refl (fun _ => False) wr).drew (fun e => e) (fun e => e))
theorem ReqMem.alloc (h : ReqMem lb rb B w r0 st wz vc vt ve wr) (hb : lb < B) (o : Obj) : ReqMem lb rb B w r0 st wz vc vt ve (wr.alloc o) :=
  h.step hb ((Keep.refl _ wr).alloc o) (h.line.keep ((Keep.refl (fun _ => False) wr).alloc o) (fun e => e) (fun e => e))
/-- a row that owns its block is not touched by what turns another row -/
theorem row_kept {w w' : World} {base e size n : Nat} {v u : Value} {xs : List Value} (h : w.ownsRow base e size v n xs) (hg : w.grownBy w' u.ownBlock) (hne : v.ownBlock = none ∨ v.ownBlock ≠ u.ownBlock) : w'.ownsRow base e size v n xs := h.kept hg hne
theorem own_type {w : World} {base base' e e' size size' n n' : Nat} {v u : Value} {xs ys : List Value} (h : w.ownsRow base e size v n xs) (h' : w.ownsRow base' e' size' u n' ys) (hne : e ≠ e') : v.ownBlock = none ∨ v.ownBlock ≠ u.ownBlock := by
  rcases h.2 with ⟨rfl, _⟩ | ⟨g, cap, cur, rfl, _, hg, _⟩
  · exact .inl rfl
  · right
    intro e1
    rcases h'.2 with ⟨rfl, _⟩ | ⟨g', cap', cur', rfl, _, hg', _⟩
    · cases e1
    · simp only [Value.ownBlock, Option.some.injEq] at e1
      subst e1
      rw [hg] at hg'
      injection hg' with e2
      injection e2 with e3 e4
      exact hne e4
theorem res_far {base e size n : Nat} {v : Value} {xs : List Value} (h : wr.ownsRow base e size v n xs) (hB : B < base) : ¬ v.ownBlock = some B := fun e => by
  have := (h.lt B e).1
  omega

theorem put_cell {W : World} {B i : Nat} {cs : Array Value} {T : TypeId} (h : W.heap[B]? = some (.cells cs T (0, 0))) (v : Value) {base e size n : Nat} {u : Value} {xs : List Value} (ho : W.ownsRow base e size u n xs) (hB : B < base) : (W.setCell ⟨B, i, none⟩ v).ownsRow base e size u n xs :=
  ownsRow_keep (M := fun b => b = B) ho ((Keep.refl _ W).setCell _ _ (.inr rfl)) (fun g cur hg _ e => by have := (ho.lt g hg).1; omega)

theorem ReqMem.addCmp (h : ReqMem lb rb B w r0 st wz vc vt ve wr) (hb : lb < B) (hw : w.heap.size ≤ B) (hrb : rb < B) (x : CmpS) (hn : st.cmps.length + 1 ≤ 1099511627776) :
    ∃ v' w', (Builtin.append_ #[56, 56] 56 #[vc, .slice (some ⟨wr.heap.size, 0, none⟩) 1 1]).run Tryz.prog (wr.alloc (.cells (cmpCells x) 65 (0, 0))) = .ok v' w' ∧
      w'.cell? ⟨B, 4, none⟩ = some vc ∧ w'.frozen? ⟨B, 4, none⟩ = false ∧ ReqMem lb rb B w r0 { st with cmps := st.cmps ++ [x] } wz v' vt ve (w'.setCell ⟨B, 4, none⟩ v') := by
  have hBs := lt_of_block h.res
  obtain ⟨v', w', hr, h2, h3, h4⟩ := app_cmp wr (B + 1) vc st.cmps x h.cmps hn (by omega)
  have ha := h.alloc hb (.cells (cmpCells x) 65 (0, 0))
  have hkG : Keep (fun b => some b = vc.ownBlock) (wr.alloc (.cells (cmpCells x) 65 (0, 0))) w' := Keep.of_grown h3 (fun k e _ => e.symm)
  have hres : w'.heap[B]? = some (.cells (reqCells r0 vc vt ve) 59 (0, 0)) := hkG.at' ha.res (fun e => res_far ha.cmps (by omega) e.symm)
  refine ⟨v', w', hr, cell_of_block hres 4, free_of_block hres 4, ?_⟩
  have hkL : ∀ b, b ≤ B → ¬ some b = vc.ownBlock := fun b hb e => by have := (ha.cmps.lt b e.symm).1; omega
  have hkS : Keep (fun b => b = B) w' (w'.setCell ⟨B, 4, none⟩ v') := (Keep.refl _ w').setCell _ _ (.inr rfl)
  exact ⟨(ha.line.keep hkG (hkL lb (by omega)) (hkL rb (by omega))).keep hkS (by omega) (by omega), block_setCell hres 4 v', put_cell hres _ h2 (by omega),
    put_cell hres _ (row_kept ha.thn h3 (own_type ha.thn ha.cmps (by decide))) (by omega), put_cell hres _ (row_kept ha.els h3 (own_type ha.els ha.cmps (by decide))) (by omega), h.apart,
    (ha.keep.trans hkG (fun b hb' e => absurd e (hkL b (by omega)))).trans hkS (fun b hb' e => by omega)⟩
theorem ReqMem.addThn (h : ReqMem lb rb B w r0 st wz vc vt ve wr) (hb : lb < B) (hw : w.heap.size ≤ B) (hrb : rb < B) (x : OpS) (hn : st.thn.length + 1 ≤ 1099511627776) :
    ∃ v' w', (Builtin.append_ #[57, 57] 57 #[vt, .slice (some ⟨wr.heap.size, 0, none⟩) 1 1]).run Tryz.prog (wr.alloc (.cells (opCells x) 67 (0, 0))) = .ok v' w' ∧
      w'.cell? ⟨B, 5, none⟩ = some vt ∧ w'.frozen? ⟨B, 5, none⟩ = false ∧ ReqMem lb rb B w r0 { st with part := 1, thn := st.thn ++ [x] } wz vc v' ve (w'.setCell ⟨B, 5, none⟩ v') := by
  have hBs := lt_of_block h.res
  obtain ⟨v', w', hr, h2, h3, h4⟩ := app_op wr (B + 1) vt st.thn x h.thn hn (by omega)
  have ha := h.alloc hb (.cells (opCells x) 67 (0, 0))
  have hkG : Keep (fun b => some b = vt.ownBlock) (wr.alloc (.cells (opCells x) 67 (0, 0))) w' := Keep.of_grown h3 (fun k e _ => e.symm)
  have hres : w'.heap[B]? = some (.cells (reqCells r0 vc vt ve) 59 (0, 0)) := hkG.at' ha.res (fun e => res_far ha.thn (by omega) e.symm)
  refine ⟨v', w', hr, cell_of_block hres 5, free_of_block hres 5, ?_⟩
  have hkL : ∀ b, b ≤ B → ¬ some b = vt.ownBlock := fun b hb e => by have := (ha.thn.lt b e.symm).1; omega
  have hkS : Keep (fun b => b = B) w' (w'.setCell ⟨B, 5, none⟩ v') := (Keep.refl _ w').setCell _ _ (.inr rfl)
  have hap : v'.ownBlock = none ∨ v'.ownBlock ≠ ve.ownBlock := by
    rcases h4 with h4 | h4
    · rw [h4]; exact h.apart
    · right
      rw [h4]
      intro e
      have := (h.els.lt _ e.symm).2
      omega
  have hne : ve.ownBlock = none ∨ ve.ownBlock ≠ vt.ownBlock := by
    rcases h.apart with h5 | h5
    · rcases he : ve.ownBlock with _ | g
      · exact .inl rfl
      · right; rw [h5]; simp
    · exact .inr (fun e => h5 e.symm)
  exact ⟨(ha.line.keep hkG (hkL lb (by omega)) (hkL rb (by omega))).keep hkS (by omega) (by omega), block_setCell hres 5 v', put_cell hres _ (row_kept ha.cmps h3 (own_type ha.cmps ha.thn (by decide))) (by omega),
    put_cell hres _ h2 (by omega), put_cell hres _ (row_kept ha.els h3 hne) (by omega), hap,
    (ha.keep.trans hkG (fun b hb' e => absurd e (hkL b (by omega)))).trans hkS (fun b hb' e => by omega)⟩
theorem ReqMem.addEls (h : ReqMem lb rb B w r0 st wz vc vt ve wr) (hb : lb < B) (hw : w.heap.size ≤ B) (hrb : rb < B) (x : OpS) (hn : st.els.length + 1 ≤ 1099511627776) :
    ∃ v' w', (Builtin.append_ #[57, 57] 57 #[ve, .slice (some ⟨wr.heap.size, 0, none⟩) 1 1]).run Tryz.prog (wr.alloc (.cells (opCells x) 67 (0, 0))) = .ok v' w' ∧
      w'.cell? ⟨B, 6, none⟩ = some ve ∧ w'.frozen? ⟨B, 6, none⟩ = false ∧ ReqMem lb rb B w r0 { st with part := 2, els := st.els ++ [x] } wz vc vt v' (w'.setCell ⟨B, 6, none⟩ v') := by
  have hBs := lt_of_block h.res
  obtain ⟨v', w', hr, h2, h3, h4⟩ := app_op wr (B + 1) ve st.els x h.els hn (by omega)
  have ha := h.alloc hb (.cells (opCells x) 67 (0, 0))
  have hkG : Keep (fun b => some b = ve.ownBlock) (wr.alloc (.cells (opCells x) 67 (0, 0))) w' := Keep.of_grown h3 (fun k e _ => e.symm)
  have hres : w'.heap[B]? = some (.cells (reqCells r0 vc vt ve) 59 (0, 0)) := hkG.at' ha.res (fun e => res_far ha.els (by omega) e.symm)
  refine ⟨v', w', hr, cell_of_block hres 6, free_of_block hres 6, ?_⟩
  have hkL : ∀ b, b ≤ B → ¬ some b = ve.ownBlock := fun b hb e => by have := (ha.els.lt b e.symm).1; omega
  have hkS : Keep (fun b => b = B) w' (w'.setCell ⟨B, 6, none⟩ v') := (Keep.refl _ w').setCell _ _ (.inr rfl)
  have hap : vt.ownBlock = none ∨ vt.ownBlock ≠ v'.ownBlock := by
    rcases h4 with h4 | h4
    · rw [h4]; exact h.apart
    · rcases hv : vt.ownBlock with _ | g
      · exact .inl rfl
      · right
        rw [h4]
        intro e
        have := (h.thn.lt g hv).2
        injection e with e
        omega
  exact ⟨(ha.line.keep hkG (hkL lb (by omega)) (hkL rb (by omega))).keep hkS (by omega) (by omega), block_setCell hres 6 v', put_cell hres _ (row_kept ha.cmps h3 (own_type ha.cmps ha.els (by decide))) (by omega),
    put_cell hres _ (row_kept ha.thn h3 h.apart) (by omega), put_cell hres _ h2 (by omega), hap,
    (ha.keep.trans hkG (fun b hb' e => absurd e (hkL b (by omega)))).trans hkS (fun b hb' e => by omega)⟩
theorem wp_append_run {o : Oper} {a : Act} {K : Act → World → Prop} {Q : Exit → Act → World → Prop} {w w' : World} {v' : Value} (s x : Operand) (t : TypeId)
    (ho : o.op = .call { callee := .builtin .append, args := #[s, x], argTypes := #[t, t] }) (ht : o.type = t)
    (hr : (Builtin.append_ #[t, t] t #[a.eval s, a.eval x]).run Tryz.prog w = .ok v' w') (h : K (a.put o.dst v') w') : o.wp Tryz.prog a w K Q := by
  unfold Oper.wp execOp
  simp only [ho, ht, resolve, invoke, builtin, Sem.run_bind, Sem.run_pure, Result.andThen_ok, List.map_toArray, List.map_cons, List.map_nil, hr]
  exact h
theorem wp_bs_run {o : Oper} {a : Act} {K : Act → World → Prop} {Q : Exit → Act → World → Prop} {w w' : World} {v' : Value} (x : Operand) (t : TypeId)
    (ho : o.op = .buildSlice t 1 #[(0, x)]) (hr : (Instr.buildSlice t 1 #[(0, a.eval x)]).run Tryz.prog w = .ok v' w') (h : K (a.put o.dst v') w') : o.wp Tryz.prog a w K Q := by
  unfold Oper.wp execOp
  simp only [ho, Sem.run_bind, Sem.run_pure, Result.andThen_ok, List.map_toArray, List.map_cons, List.map_nil, hr]
  exact h
theorem run_bs57 (x : OpS) (w : World) : (Instr.buildSlice 57 1 #[(0, .agg (opCells x))]).run Tryz.prog w = .ok (.slice (some ⟨w.heap.size, 0, none⟩) 1 1) (w.alloc (.cells (opCells x) 67 (0, 0))) := by
  unfold opCells
  go_simp
  try rfl
theorem run_bs56 (x : CmpS) (w : World) : (Instr.buildSlice 56 1 #[(0, .agg (cmpCells x))]).run Tryz.prog w = .ok (.slice (some ⟨w.heap.size, 0, none⟩) 1 1) (w.alloc (.cells (cmpCells x) 65 (0, 0))) := by
  unfold cmpCells
  go_simp
  try rfl
end Go.Proofs.YtifliekahdgobaaGreatDoor
namespace Go.Proofs.YtifliekahdgobaaGreatDoor
open Go.RowKit Sp

theorem step_append_run {ops : Array Oper} {o : Oper} {a : Act} {K : Act → World → Prop} {Q : Exit → Act → World → Prop} {E : Prop} {w w' : World} {v' : Value} (hgd : o.guard = none) (s x : Operand) (t : TypeId)
    (ho : o.op = .call { callee := .builtin .append, args := #[s, x], argTypes := #[t, t] }) (ht : o.type = t)
    (hr : (Builtin.append_ #[t, t] t #[a.eval s, a.eval x]).run Tryz.prog w = .ok v' w') (h : K (a.put o.dst v') w') : if Region.wanted o (yielded ops a.tmps) = true then Oper.wp Tryz.prog o a w K Q else E := by
  have hw : Region.wanted o (yielded ops a.tmps) = true := by simp [Region.wanted, hgd]
  rw [if_pos hw]
  exact wp_append_run s x t ho ht hr h
def hex2 (c : UInt8) : Str := [hx (c.toNat / 16), hx (c.toNat % 16)]
theorem hex2_len : ∀ x : Str, (x.flatMap hex2).length = 2 * x.length
  | [] => rfl
  | c :: r => by rw [List.flatMap_cons, List.length_append, hex2_len r]; simp [hex2]; omega
theorem Tryz.info5b : (Tryz.prog.info? 5).map (fun i => (i.zero, i.size, i.bytes)) = some (some (.int .u8 0), 1, 1) := by kernel_rfl
theorem idx_hex (a : Nat) (h : a < 16) (w : World) : (Instr.index 9 (.string ⟨#[48, 49, 50, 51, 52, 53, 54, 55, 56, 57, 97, 98, 99, 100, 101, 102]⟩) (.int .u8 (a : Int))).run Tryz.prog w = .ok (.int .u8 ((hx a).toNat : Int)) w := by
  rcases (by omega : a = 0 ∨ a = 1 ∨ a = 2 ∨ a = 3 ∨ a = 4 ∨ a = 5 ∨ a = 6 ∨ a = 7 ∨ a = 8 ∨ a = 9 ∨ a = 10 ∨ a = 11 ∨ a = 12 ∨ a = 13 ∨ a = 14 ∨ a = 15) with rfl | rfl | rfl | rfl | rfl | rfl | rfl | rfl | rfl | rfl | rfl | rfl | rfl | rfl | rfl | rfl
  all_goals kernel_rfl
theorem and15 (c : UInt8) : bits BinOp.and IntKind.u8 (c.toNat : Int) 15 = ((c.toNat % 16 : Nat) : Int) := by
  have := all_u8 (fun c => bits BinOp.and IntKind.u8 (c.toNat : Int) 15 == ((c.toNat % 16 : Nat) : Int)) (by decide +kernel) c
  simpa using this
set_option maxRecDepth 100000 in
theorem hex_some (x : Str) (hxl : x.length ≤ 1000000) (hne : (x == []) = false) (w : World) : Calls Tryz.prog 106 #[sv x] w (Gives (sv (hexText x)) w) := by
  obtain ⟨i5, hi, hz0, hz1, hz2⟩ := info_parts Tryz.info5b
  have kc := fun w => Lib.run_convert_string_bytes (P := Tryz.prog) w 9 47 5 ⟨x.toArray⟩ Tryz.underlying9 Tryz.underlying47 Tryz.underlying5
  obtain ⟨n, hn⟩ : ∃ n : Nat, n = 2 * x.length := ⟨_, rfl⟩
  have hq : (2 : Int) * (x.length : Int) = (n : Int) := by omega
  have hn2 : n ≤ 2000000 := by omega
  have HN := Lib.hid hn
  clear hn
  go_enter Tryz.func106, Tryz.ntmps106
  go_wp2_with (at_make; refine wpList_make_own _ rfl _ _ 47 rfl w.heap.size 5 i5 (.int .u8 0) 1 Tryz.underlying47 hi hz0 hz1 _ _ _ n rfl rfl (by omega) ?b2 ?b3 (Nat.le_refl _) ?_)
  case b2 => rw [hz2]; omega
  case b3 => unfold maxLen; omega
  intro w1 hown hgr
  go_wp2_with fail
  have hkW : Keep (fun _ => False) w1 (Lib.bytesWorld w1 5 ⟨x.toArray⟩) := Keep.of_below (Lib.bytesWorld_below _ _ _) (Nat.le_refl _)
  have hcW := fun j hj => Lib.bytesWorld_cell w1 5 ⟨x.toArray⟩ j hj
  have hgW := Lib.bytesWorld_size w1 5 ⟨x.toArray⟩
  have hownW := ownsRow_keep hown hkW (fun _ _ _ _ e => e)
  have hk1 : Keep (fun _ => False) w w1 := Keep.of_grown hgr (fun k e => by cases e)
  have hlt1 := (hown.lt w.heap.size rfl).2
  generalize hWd : Lib.bytesWorld w1 5 ⟨x.toArray⟩ = W at *
  clear hWd kc hown hgr
  go_loopw [3, 15] (fun v3 v15 wr => ∃ k : Nat, k ≤ x.length ∧ v15 = .int .i64 k ∧ v3 = .slice (some ⟨w.heap.size, 0, none⟩) (2 * k) n ∧ wr.ownsRow w.heap.size 5 1 (.slice (some ⟨w.heap.size, 0, none⟩) (2 * k) n) (2 * k) (Lib.byteCells ((x.take k).flatMap hex2)) ∧ Keep (fun b => b = w.heap.size) W wr) (fun _ v15 _ => x.length - (intOf v15).toNat)
  case atStart => exact ⟨0, Nat.zero_le _, rfl, rfl, hownW, Keep.refl _ _⟩
  case round =>
    obtain ⟨k, hk, rfl, rfl, hown, hkr⟩ := hrel
    have HCW := Lib.hid hcW
    clear hcW hownW
    by_cases hlt : k < x.length
    · obtain ⟨c, hc⟩ : ∃ c, x[k] = c := ⟨_, rfl⟩
      have hcc : wr.cell? ⟨w1.heap.size, k, none⟩ = some (.int .u8 c.toNat) := by
        rw [hkr.cell (show w1.heap.size < W.heap.size by omega) (show ¬ w1.heap.size = w.heap.size by omega), HCW.out k (by show k < x.toArray.size; simp; omega)]
        simp [hlt, hc]
      have hlt' : (k : Int) < (x.length : Int) := by omega
      have HC := Lib.hid hc
      have HO := Lib.hid hown
      clear hc hown
      have hcb : (c.toNat : Int) < 256 := by have := c.toNat_lt; omega
      obtain ⟨a, ha⟩ : ∃ a, a = c.toNat / 16 := ⟨_, rfl⟩
      obtain ⟨b, hb⟩ : ∃ b, b = c.toNat % 16 := ⟨_, rfl⟩
      have h1 : (c.toNat : Int) / 16 = (a : Int) := by omega
      have h2 : bits BinOp.and IntKind.u8 (c.toNat : Int) 15 = (b : Int) := by rw [and15, hb]
      have ia := idx_hex a (by omega)
      have ib := idx_hex b (by omega)
      have HA := Lib.hid ha
      have HB := Lib.hid hb
      clear ha hb
      obtain ⟨w4, hr4, ho4, hg4⟩ := run_append_fits (P := Tryz.prog) (wr.drew.alloc (.cells #[.int .u8 ((hx a).toNat : Int), .int .u8 ((hx b).toNat : Int)] 5 (0, 0))) w.heap.size 47 47 5 i5 1 Tryz.underlying47 hi hz1 w.heap.size (2 * k) n _ ((show wr.drew.ownsRow _ _ _ _ _ _ from HO.out).alloc _) ⟨wr.drew.heap.size, 0, none⟩ 2 2 [.int .u8 ((hx a).toNat : Int), .int .u8 ((hx b).toNat : Int)] rfl (World.news_of_block (block_new _ _)) (by intro u hu; simp at hu; rcases hu with rfl | rfl <;> rfl) (by have := HN.out; omega)
      go_wp2_with fail
      go_region_held3 (fun _ => True) (trivial) (first | (refine step_append_run rfl (.tmp 19) (.tmp 26) 47 rfl rfl hr4 ?_))
      all_goals
        go_wp2_with fail
        go_roundw
        case rel =>
          have ht : x.take (k + 1) = x.take k ++ [c] := by rw [List.take_succ_eq_append_getElem hlt, HC.out]
          refine ⟨k + 1, by omega, by go_num, rfl, ?_, ?_⟩
          · rw [ht, List.flatMap_append]
            show w4.ownsRow _ _ _ _ _ (Lib.byteCells (_ ++ (hex2 c ++ [])))
            rw [List.append_nil, Lib.byteCells_append]
            unfold hex2
            rw [← HA.out, ← HB.out]
            exact ho4
          · exact (hkr.drew.alloc _).trans (Keep.of_grown (M := fun b => b = w.heap.size) hg4 (fun k e _ => (Option.some.inj e).symm)) (fun b hb e => e)
        case measure => simp [intOf]; omega
    · have hge : ¬ (k : Int) < (x.length : Int) := by omega
      obtain rfl : k = x.length := by omega
      rw [List.take_length] at hown
      have hln := hex2_len x
      have hconv := conv_bytes w.heap.size n (x.flatMap hex2) wr (by rw [hln]; exact hown)
      rw [hln] at hconv
      clear hown
      go_wp2_with fail
      go_ret
      refine ⟨?_, (hk1.trans' hkW).trans hkr (fun b hb e => by omega)⟩
      unfold hexText
      rw [if_neg (by simpa using hne)]
      rfl
theorem hex_nil (w : World) : Calls Tryz.prog 106 #[sv []] w (Gives (sv (hexText [])) w) := by
  go_enter Tryz.func106, Tryz.ntmps106
  go_wp2_with fail
  go_ret
  exact ⟨rfl, Keep.refl _ _⟩
theorem hex_any (x : Str) (hxl : x.length ≤ 1000000) (w : World) : Calls Tryz.prog 106 #[sv x] w (Gives (sv (hexText x)) w) := by
  by_cases h : x = []
  · subst h; exact hex_nil w
  · exact hex_some x hxl (by simpa using h) w

/-! ### marked -/
theorem ba_append (x y : Str) : (⟨x.toArray⟩ : ByteArray) ++ ⟨y.toArray⟩ = ⟨(x ++ y).toArray⟩ := by
  apply ByteArray.ext
  simp
theorem ba_one (x : Str) (i : Nat) (h : i < x.length) : (⟨x.toArray⟩ : ByteArray).extract i (i + 1) = ⟨[x[i]].toArray⟩ := by
  apply ByteArray.ext
  simp only [ByteArray.data_extract]
  apply Array.ext'
  simp [List.take_one, List.head?_drop, h, List.getElem?_eq_getElem]
theorem markGo_append : ∀ (a : Str) (b : List Bool) (c : Str) (d : List Bool), a.length = b.length → markGo (a ++ c) (b ++ d) = markGo a b ++ markGo c d
  | [], [], c, d, _ => rfl
  | [], _ :: _, _, _, h => by simp at h
  | _ :: _, [], _, _, h => by simp at h
  | l :: a, x :: b, c, d, h => by
    have ih := markGo_append a b c d (by simpa using h)
    rw [List.cons_append, List.cons_append]
    simp only [markGo]
    rw [ih]
    cases x <;> simp
theorem markGo_take : ∀ (ls : Str) (is : List Bool), markGo (ls.take is.length) is = markGo ls is
  | [], [] => rfl
  | [], _ :: _ => rfl
  | _ :: _, [] => rfl
  | l :: ls, b :: is => by
    simp only [List.length_cons, List.take_succ_cons, markGo]
    rw [markGo_take ls is]
theorem markGo_step {ls : Str} {is : List Bool} {k : Nat} (hk : k < is.length) (hl : is.length ≤ ls.length) : markGo (ls.take (k + 1)) (is.take (k + 1)) = markGo (ls.take k) (is.take k) ++ (if is[k] then [ls[k]'(by omega)] else []) := by
  rw [List.take_succ_eq_append_getElem (by omega), List.take_succ_eq_append_getElem hk, markGo_append _ _ _ _ (by simp; omega)]
  simp only [markGo]
theorem markGo_len : ∀ (a : Str) (b : List Bool), (markGo a b).length ≤ a.length
  | [], b => by simp [markGo]
  | _ :: _, [] => by simp [markGo]
  | l :: a, x :: b => by
    have := markGo_len a b
    simp only [markGo]
    cases x <;> simp <;> omega
set_option maxRecDepth 100000 in
theorem marked_any (ls : Str) (is : List Bool) (b c : Nat) (hl : is.length ≤ ls.length) (hs : ls.length ≤ 4) (w : World) (hc : ∀ i, i < is.length → w.cell? ⟨b, i, none⟩ = some (.bool (is.getD i false))) :
    Calls Tryz.prog 107 #[sv ls, .slice (some ⟨b, 0, none⟩) is.length c] w (Gives (sv (markText ls is)) w) := by
  have HC := Lib.hid hc
  clear hc
  go_enter Tryz.func107, Tryz.ntmps107
  go_wp2_with fail
  go_loop [5, 6, 7, 10] (fun v5 v6 v7 v10 => ∃ k : Nat, k ≤ is.length ∧ v10 = .int .i64 k ∧ v5 = sv (markGo (ls.take k) (is.take k))) (fun _ _ _ v10 => is.length - (intOf v10).toNat)
  case atStart => exact ⟨0, Nat.zero_le _, rfl, rfl⟩
  case round =>
    obtain ⟨k, hk, rfl, rfl⟩ := hrel
    by_cases hlt : k < is.length
    · have hlt' : (k : Int) < (is.length : Int) := by omega
      have hkl : (k : Int) + 1 ≤ (ls.length : Int) := by omega
      have hcc := HC.out k hlt
      have hst := markGo_step hlt hl
      have hd : is.getD k false = is[k] := by simp [List.getD, hlt]
      rw [hd] at hcc
      generalize is[k] = x at hcc hst
      have HST := Lib.hid hst
      have hml := markGo_len (ls.take k) (is.take k)
      have hml2 : (markGo (ls.take k) (is.take k)).length ≤ 4 := by have := List.length_take_le k ls; omega
      clear hml
      generalize hmg : markGo (ls.take k) (is.take k) = m at *
      have hex := ba_one ls k (by omega)
      have HEX := Lib.hid hex
      clear hst hd hmg hex
      cases x
      · go_wp2_with fail
        exact ⟨⟨k + 1, by omega, by go_num, by rw [HST.out]; simp⟩, by simp [intOf]; omega⟩
      · go_wp2_with fail
        refine ⟨⟨k + 1, by omega, by go_num, ?_⟩, by simp [intOf]; omega⟩
        rw [HST.out, HEX.out, ba_append]
        rfl
    · obtain rfl : k = is.length := by omega
      rw [List.take_length, markGo_take]
      have hge : ¬ (is.length : Int) < (is.length : Int) := by omega
      have fin : sv (markText ls is) = if markGo ls is = [] then sv [45] else sv (markGo ls is) := by
        unfold markText
        split <;> rfl
      clear hk hlt
      generalize markGo ls is = m at *
      have FIN := Lib.hid fin
      clear fin
      by_cases hm : m = []
      · subst hm
        go_wp2_with fail
        go_ret
        exact ⟨(congrArg Ending.returned (FIN.out.trans (by simp))).symm, Keep.refl _ _⟩
      · have hm' : (m == []) = false := by simpa using hm
        have HM := Lib.hid hm
        clear hm
        go_wp2_with fail
        go_ret
        exact ⟨(congrArg Ending.returned (FIN.out.trans (if_neg HM.out))).symm, Keep.refl _ _⟩
end Go.Proofs.YtifliekahdgobaaGreatDoor
