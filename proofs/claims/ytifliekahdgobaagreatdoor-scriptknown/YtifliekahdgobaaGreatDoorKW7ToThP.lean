/-
  THE WALKS, 7: watch (printed by wip/tools/gen_watch.py). Helpers of the claims.
  ROWS OF STRUCTS that a slice owns: append of one, what keeps them; a request in memory. Helpers of the claims.
  PLAIN: what is printed of a step that may be is read back as that step; what is read may be. Helpers of the claims.
-/
import Derived.Test.YtifliekahdgobaaGreatDoorKW5ToW6
set_option linter.unusedSimpArgs false
set_option linter.unusedVariables false
namespace Go.Proofs.YtifliekahdgobaaGreatDoor
open Go.RowKit Sp

/-- a watch's cells -/
def watchCells (x : WatchS) : Array Value := #[.int .u64 x.id, sv x.key, sv x.fin, .int .u64 x.start, .bool x.prev, .bool x.noPut, .bool x.noDelete, .bool x.progress]

set_option maxRecDepth 100000 in
set_option maxHeartbeats 1600000 in
theorem watch_any (lb rb : Nat) (ws : List Str) (w : World) (h : LineAt w lb rb ws) (hr : rb < w.heap.size) :
    Calls Tryz.prog 69 #[.pointer (some ⟨lb, 0, none⟩)] w (Got (fun x => .agg (watchCells x)) lb rb w (pwatch ws)) := by
  have hlt := h.lt
  have hbm : (most : Int) = 999999999999999999 := rfl
  obtain ⟨W, hW⟩ : ∃ W : World, W = w.alloc (.cells (watchCells .zero) 61) := ⟨_, rfl⟩
  have hkW : Keep (fun _ => False) w W := by rw [hW]; exact (Keep.refl _ w).alloc _
  have hbX : W.heap[w.heap.size]? = some (.cells (watchCells .zero) 61 (0, 0)) := by rw [hW]; exact block_new _ _
  have hWL := h.keep hkW (fun e => e) (fun e => e)
  have HBX := Lib.hid hbX
  have HWL := Lib.hid hWL
  have HW := Lib.hid (show W = w.alloc (.cells #[.int .u64 0, .string ⟨#[]⟩, .string ⟨#[]⟩, .int .u64 0, .bool false, .bool false, .bool false, .bool false] 61) from hW)
  clear hbX hWL hW h
  go_enter Tryz.func69, Tryz.ntmps69
  go_wp2_with fail
  rw [← HW.out]
  refine (num_any lb rb ws (W) (HWL.out)).mono ?_
  intro e w1 hg1
  obtain ⟨hk1, hg1⟩ := hg1
  have hkk1 : Keep (fun b => b = lb) w w1 := (hkW.mono (fun _ _ e => e.elim)).trans' hk1
  rcases hp1 : pnum most ws with _ | ⟨i, ws1⟩
  · rw [hp1] at hg1
    subst hg1
    refine ⟨rfl, hkk1, ?_⟩
    unfold pwatch
    rw [hp1]
    exact rfl
  rw [hp1] at hg1
  obtain ⟨rfl, hl1⟩ := hg1
  have hb1 := pnum_le hp1
  have HP1 := Lib.hid hp1
  have HL1 := Lib.hid hl1
  clear hp1 hl1
  go_wp2_with fail
  refine (bytes_any lb rb ws1 (w1) (HL1.out)).mono ?_
  intro e w2 hg2
  obtain ⟨hk2, hg2⟩ := hg2
  have hkk2 : Keep (fun b => b = lb) w w2 := hkk1.trans' hk2
  rcases hp2 : pbytes ws1 with _ | ⟨k, ws2⟩
  · rw [hp2] at hg2
    subst hg2
    refine ⟨rfl, hkk2, ?_⟩
    unfold pwatch
    rw [HP1.out, Option.bind_some, hp2]
    exact rfl
  rw [hp2] at hg2
  obtain ⟨rfl, hl2⟩ := hg2
  have HP2 := Lib.hid hp2
  have HL2 := Lib.hid hl2
  clear hp2 hl2
  go_wp2_with fail
  refine (bytes_any lb rb ws2 (w2) (HL2.out)).mono ?_
  intro e w3 hg3
  obtain ⟨hk3, hg3⟩ := hg3
  have hkk3 : Keep (fun b => b = lb) w w3 := hkk2.trans' hk3
  rcases hp3 : pbytes ws2 with _ | ⟨en, ws3⟩
  · rw [hp3] at hg3
    subst hg3
    refine ⟨rfl, hkk3, ?_⟩
    unfold pwatch
    rw [HP1.out, Option.bind_some, HP2.out, Option.bind_some, hp3]
    exact rfl
  rw [hp3] at hg3
  obtain ⟨rfl, hl3⟩ := hg3
  have HP3 := Lib.hid hp3
  have HL3 := Lib.hid hl3
  clear hp3 hl3
  go_wp2_with fail
  refine (num_any lb rb ws3 (w3) (HL3.out)).mono ?_
  intro e w4 hg4
  obtain ⟨hk4, hg4⟩ := hg4
  have hkk4 : Keep (fun b => b = lb) w w4 := hkk3.trans' hk4
  rcases hp4 : pnum most ws3 with _ | ⟨st, ws4⟩
  · rw [hp4] at hg4
    subst hg4
    refine ⟨rfl, hkk4, ?_⟩
    unfold pwatch
    rw [HP1.out, Option.bind_some, HP2.out, Option.bind_some, HP3.out, Option.bind_some, hp4]
    exact rfl
  rw [hp4] at hg4
  obtain ⟨rfl, hl4⟩ := hg4
  have hb4 := pnum_le hp4
  have HP4 := Lib.hid hp4
  have HL4 := Lib.hid hl4
  clear hp4 hl4
  rw [hbm] at hb1 hb4
  unfold u64v
  obtain ⟨cs, hcs⟩ : ∃ cs : List Value, cs = [.int .u64 i, sv k, sv en, .int .u64 st, .bool false, .bool false, .bool false, .bool false] := ⟨_, rfl⟩
  have hbB := block_new w4 (.cells (watchCells .zero) 61 (0, 0))
  have hth := there_of_block hbB (n := 8) (by decide)
  obtain ⟨V, hV⟩ : ∃ V : World, V = (w4.alloc (.cells (watchCells .zero) 61 (0, 0))).setCells w4.heap.size 0 cs := ⟨_, rfl⟩
  have hx2 : V.heap[w4.heap.size]? = some (.cells cs.toArray 61 (0, 0)) := by rw [hV]; exact block_setCells_all hbB cs (by rw [hcs]; rfl)
  have hkV0 : Keep (fun _ => False) w4 V := by rw [hV]; exact ((Keep.refl _ w4).alloc _).setCells _ _ _ (.inl (Nat.le_refl _))
  have hkV : Keep (fun b => b = lb) w V := hkk4.trans hkV0 (fun _ _ e => e.elim)
  have hlV := HL4.out.keep hkV0 (fun e => e) (fun e => e)
  have hs4 := hkk4.size
  have hXV := hkV0.at' (hk4.at' (hk3.at' (hk2.at' (hk1.at' HBX.out (show ¬ w.heap.size = lb by omega)) (show ¬ w.heap.size = lb by omega)) (show ¬ w.heap.size = lb by omega)) (show ¬ w.heap.size = lb by omega)) (fun e => e)
  have hN4 : w.heap.size ≠ w4.heap.size := by have := lt_of_block (hk4.at' (hk3.at' (hk2.at' (hk1.at' HBX.out (show ¬ w.heap.size = lb by omega)) (show ¬ w.heap.size = lb by omega)) (show ¬ w.heap.size = lb by omega)) (show ¬ w.heap.size = lb by omega)); omega
  have hxl : w4.heap.size ≠ lb := by omega
  have hxr : w4.heap.size ≠ rb := by omega
  have q1 : ∀ i, i < lPndg.length → (#[.pointer (some ⟨w4.heap.size, 4, none⟩), .pointer (some ⟨w4.heap.size, 5, none⟩), .pointer (some ⟨w4.heap.size, 6, none⟩), .pointer (some ⟨w4.heap.size, 7, none⟩)] : Array Value)[i]? = some (.pointer (some ⟨w4.heap.size, 4 + i, none⟩)) := by
    intro i hi
    have hi' : i < 4 := hi
    rcases (show i = 0 ∨ i = 1 ∨ i = 2 ∨ i = 3 by omega) with rfl | rfl | rfl | rfl <;> rfl
  have q2 : ∀ i, i < lPndg.length → cs.toArray[4 + i]? = some (.bool false) := by
    intro i hi
    have hi' : i < 4 := hi
    rw [hcs]
    rcases (show i = 0 ∨ i = 1 ∨ i = 2 ∨ i = 3 by omega) with rfl | rfl | rfl | rfl <;> rfl
  have HQ := marks_at lb rb lPndg ws4 w4.heap.size 4 61 cs.toArray #[.pointer (some ⟨w4.heap.size, 4, none⟩), .pointer (some ⟨w4.heap.size, 5, none⟩), .pointer (some ⟨w4.heap.size, 6, none⟩), .pointer (some ⟨w4.heap.size, 7, none⟩)] V hlV hx2 hxl hxr q1 q2 (by decide)
  clear q1 q2
  have hst : (stT 61 (.pointer (some ⟨w4.heap.size, 0, none⟩)) (.agg #[.int .u64 i, sv k, sv en, .int .u64 st, .bool false, .bool false, .bool false, .bool false])).run Tryz.prog (w4.alloc (.cells #[.int .u64 0, .string ⟨#[]⟩, .string ⟨#[]⟩, .int .u64 0, .bool false, .bool false, .bool false, .bool false] 61 (0, 0))) = .ok .skip V := by
    rw [hV, hcs]
    exact run_st61 _ _ 0 _ hth rfl (by simp [one_int, one_str, one_bool])
  have hxlt := lt_of_block hx2
  have HV := Lib.hid hV
  have HXV := Lib.hid hXV
  have HCS := Lib.hid hcs
  clear hV hXV hcs hth hbB hx2 hlV
  rcases hm : pmarks lPndg ws4 with _ | ⟨m, r⟩
  · rw [hm] at HQ
    have HMM := Lib.hid hm
    clear hm
    go_wp2_with fail
    refine (show Calls Tryz.prog 104 #[.pointer (some ⟨lb, 0, none⟩), .string ⟨#[112, 110, 100, 103]⟩, .slice (some ⟨V.heap.size, 0, none⟩) 4 4] _ _ from HQ).mono ?_
    rintro e w9 ⟨hk9, rfl⟩
    refine ⟨rfl, hkV.trans hk9 (fun b hb e => e.elim id (fun e => by omega)), ?_⟩
    unfold pwatch
    rw [HP1.out, Option.bind_some, HP2.out, Option.bind_some, HP3.out, Option.bind_some, HP4.out, Option.bind_some, HMM.out]
    exact rfl
  · rw [hm] at HQ
    have hml := pmarks_len hm
    obtain ⟨b1, b2, b3, b4, rfl⟩ : ∃ a b c d, m = [a, b, c, d] := len_four hml
    have HMM := Lib.hid hm
    clear hm hml
    go_wp2_with fail
    refine (show Calls Tryz.prog 104 #[.pointer (some ⟨lb, 0, none⟩), .string ⟨#[112, 110, 100, 103]⟩, .slice (some ⟨V.heap.size, 0, none⟩) 4 4] _ _ from HQ).mono ?_
    rintro e w9 ⟨hk9, rfl, hl9, hx9⟩
    have hx10 : w9.heap[w4.heap.size]? = some (.cells (watchCells ⟨i, k, en, st, b1, b2, b3, b4⟩) 61 (0, 0)) := by rw [hx9, HCS.out]; rfl
    have hX9 := hk9.at' HXV.out (show ¬ (w.heap.size = lb ∨ w.heap.size = w4.heap.size) by omega)
    have hld := run_ld61 w9 w4.heap.size 0 _ rfl (range_of_block hx10)
    have hst2 := run_st61 w9 w.heap.size 0 (watchCells ⟨i, k, en, st, b1, b2, b3, b4⟩) (there_of_block hX9 (by decide)) rfl (by simp [watchCells, one_int, one_str, one_bool])
    have HX9 := Lib.hid hX9
    have HL9 := Lib.hid hl9
    have hk10 : Keep (fun b => b = lb) w w9 := hkV.trans hk9 (fun b hb e => e.elim id (fun e => by omega))
    clear hX9 hl9 hx9 hx10
    generalize hcs2 : watchCells ⟨i, k, en, st, b1, b2, b3, b4⟩ = cs2 at *
    have hsz : cs2.size = 8 := by rw [← hcs2]; rfl
    have HCS2 := Lib.hid hcs2
    clear hcs2
    go_wp2_with fail
    have hb3 := block_setCells_all HX9.out cs2.toList (by simp [hsz, watchCells])
    rw [Array.toArray_toList] at hb3
    (try simp only [Exit.inBlock, Exit.then])
    refine bodyPost_ret (v := .agg cs2) ?_ rfl ?_
    · exact results_block (n := 8) rfl Tryz.underlying61 rfl info61 _ _ w.heap.size cs2 61 (0, 0) rfl hsz hb3
    have hpw : pwatch ws = some (⟨i, k, en, st, b1, b2, b3, b4⟩, r) := by
      unfold pwatch
      rw [HP1.out, Option.bind_some, HP2.out, Option.bind_some, HP3.out, Option.bind_some, HP4.out, Option.bind_some, HMM.out]
      rfl
    rw [hpw, ← HCS2.out]
    exact ⟨hk10.setCells _ _ _ (.inl (Nat.le_refl _)), rfl, HL9.out.keep ((Keep.refl (fun b => b = w.heap.size) w9).setCells _ _ _ (.inr rfl)) (fun e => by omega) (fun e => by omega)⟩
end Go.Proofs.YtifliekahdgobaaGreatDoor
namespace Go.Proofs.YtifliekahdgobaaGreatDoor
open Go.RowKit Sp

/-- the cells of many -/
def flat {α : Type} (enc : α → Array Value) (l : List α) : List Value := l.flatMap fun x => (enc x).toList
theorem flat_append {α : Type} (enc : α → Array Value) (l : List α) (x : α) : flat enc (l ++ [x]) = flat enc l ++ (enc x).toList := by simp [flat]

theorem ownsRow_keep {M : Nat → Prop} {w w' : World} {base e size n : Nat} {v : Value} {xs : List Value} (h : w.ownsRow base e size v n xs) (hk : Keep M w w') (hM : ∀ g cur, v.ownBlock = some g → w.heap[g]? = some (.cells cur e (0, 0)) → ¬ M g) : w'.ownsRow base e size v n xs := by
  refine ⟨h.1, ?_⟩
  rcases h.2 with hn | ⟨g, cap, cur, rfl, hb, hgg, rest⟩
  · exact .inl hn
  · exact .inr ⟨g, cap, cur, rfl, hb, hk.at' hgg (hM g cur rfl hgg), rest⟩
theorem ownsRow_base {w : World} {base base' e size n : Nat} {v : Value} {xs : List Value} (h : w.ownsRow base e size v n xs) (hb : base' ≤ base) : w.ownsRow base' e size v n xs := by
  refine ⟨h.1, ?_⟩
  rcases h.2 with hn | ⟨g, cap, cur, rfl, hb', rest⟩
  · exact .inl hn
  · exact .inr ⟨g, cap, cur, rfl, by omega, rest⟩
theorem ownsRow_len {w : World} {base e size n : Nat} {v : Value} {xs : List Value} (h : w.ownsRow base e size v n xs) : ∃ a c, v = .slice a n c ∧ n ≤ c := by
  rcases h.2 with ⟨rfl, rfl⟩ | ⟨g, cap, cur, rfl, _, _, h1, _⟩
  · exact ⟨_, _, rfl, Nat.le_refl _⟩
  · exact ⟨_, _, rfl, h1⟩

/-- append of one struct that has just been laid: where the row lies then -/
theorem app_one {t e size bytes : Nat} {i : TypeInfo} {z : Value} (ht : Tryz.prog.underlying t = some (.slice e)) (hi : Tryz.prog.info? e = some i) (hz : i.zero = some z)
    (hsize : i.size = size) (hby : i.bytes = bytes) (hzs : z.cells.size = size) (hsz : 0 < size)
    {α : Type} (enc : α → Array Value) (x : α) (hx1 : (enc x).size = size) (hx2 : ∀ u ∈ (enc x).toList, u.oneCell' = true)
    (w : World) (base : Nat) (v : Value) (l : List α) (hown : w.ownsRow base e size v l.length (flat enc l)) (hn : l.length + 1 ≤ 1099511627776) (hbytes : (l.length + 1) * bytes ≤ 140737488355328) (hb : base ≤ w.heap.size) :
    ∃ v' w', (Builtin.append_ #[t, t] t #[v, .slice (some ⟨w.heap.size, 0, none⟩) 1 1]).run Tryz.prog (w.alloc (.cells (enc x) e (0, 0))) = .ok v' w' ∧ w'.ownsRow base e size v' (l ++ [x]).length (flat enc (l ++ [x])) ∧
      (w.alloc (.cells (enc x) e (0, 0))).grownBy w' v.ownBlock ∧ (v'.ownBlock = v.ownBlock ∨ v'.ownBlock = some (w.heap.size + 1)) := by
  have hnew := block_new w (.cells (enc x) e (0, 0))
  have hcells : ∀ j u, (enc x).toList[j]? = some u → (w.alloc (.cells (enc x) e (0, 0))).cell? ((⟨w.heap.size, 0, none⟩ : Addr).add j) = some u := fun j u hu => by
    have hadd : (⟨w.heap.size, 0, none⟩ : Addr).add j = ⟨w.heap.size, j, none⟩ := by unfold Addr.add; split <;> simp_all
    rw [hadd, cell_of_block hnew]
    simpa using hu
  have hown' := hown.alloc (.cells (enc x) e (0, 0))
  have hby1 : bytes ≤ 140737488355328 := Nat.le_trans (Nat.le_mul_of_pos_left _ (by omega)) hbytes
  have hmax : l.length + 1 ≤ maxLen := by unfold maxLen; omega
  have hb' : base ≤ (w.alloc (.cells (enc x) e (0, 0))).heap.size := by simp; omega
  have hxl : (enc x).toList.length = 1 * size := by simp [hx1]
  obtain ⟨v', w', hr, h2, h3, -⟩ := run_append_own (P := Tryz.prog) _ base t t e i z size bytes ht hi hz hsize hby hzs hsz v l.length (flat enc l) hown' ⟨w.heap.size, 0, none⟩ 1 1 (enc x).toList hxl hcells hx2 hmax hbytes hb'
  refine ⟨v', w', hr, by rw [flat_append, List.length_append]; exact h2, h3, ?_⟩
  rcases hown'.2 with ⟨rfl, h0⟩ | ⟨g, cap, cur, rfl, hbg, hg, hnc, hcm, hcs, htake⟩
  · have hr2 := run_append_nil (P := Tryz.prog) (w.alloc (.cells (enc x) e (0, 0))) t t e i z ht hi hz ⟨w.heap.size, 0, none⟩ 1 1 (enc x).toList (by rw [hsize]; exact hxl) hcells (by omega) (by omega) (by rw [hby]; omega)
    rw [hr] at hr2
    injection hr2 with h5 h6
    rw [h5]
    right
    simp [Value.ownBlock]
  · by_cases hroom : l.length + 1 ≤ cap
    · have hr2 := run_append_room (P := Tryz.prog) (w.alloc (.cells (enc x) e (0, 0))) t t e i ht hi g l.length cap cur hg ⟨w.heap.size, 0, none⟩ 1 1 (enc x).toList (by rw [hsize]; exact hxl) hcells hx2 hroom (by
        rw [hsize, hxl, hcs, ← Nat.add_mul]; exact Nat.mul_le_mul_right _ hroom)
      rw [hr] at hr2
      injection hr2 with h5 h6
      rw [h5]
      left
      rfl
    · have hr2 := run_append_grow (P := Tryz.prog) (w.alloc (.cells (enc x) e (0, 0))) t t e i z ht hi hz ⟨g, 0, none⟩ l.length cap (flat enc l) (by rw [hsize]; exact hown.1) (hown'.cells (g := g) rfl) ⟨w.heap.size, 0, none⟩ 1 1 (enc x).toList (by rw [hsize]; exact hxl) hcells (by omega) (by omega) (growslice_fits (by omega) (by rw [hby]; exact hbytes))
      rw [hr] at hr2
      injection hr2 with h5 h6
      rw [h5]
      right
      simp [Value.ownBlock]

/-- a comparison's cells -/
def cmpCells (x : CmpS) : Array Value := #[sv x.key, .int .i64 x.what, .int .i64 x.how, .int .u64 x.n, sv x.val]
theorem cmpCells_one (a : CmpS) : (cmpCells a).all (·.oneCell') = true := by simp [cmpCells, one_int, one_str]
theorem all_one {cs : Array Value} (h : cs.all (·.oneCell') = true) : ∀ u ∈ cs.toList, u.oneCell' = true := by
  intro u hu
  rw [Array.all_eq_true] at h
  obtain ⟨i, hi, rfl⟩ := List.mem_iff_getElem.1 hu
  simpa using h i (by simpa using hi)
def CmpsAt (w : World) (base : Nat) (v : Value) (l : List CmpS) : Prop := w.ownsRow base 65 5 v l.length (flat cmpCells l)
def OpsAt (w : World) (base : Nat) (v : Value) (l : List OpS) : Prop := w.ownsRow base 67 9 v l.length (flat opCells l)
def reqCells (r : ReqS) (vc vt ve : Value) : Array Value := #[.int .i64 r.kind, .int .u64 r.client, .int .u64 r.num, .bool r.serial, vc, vt, ve, .int .u64 r.rev]
/-- a request in memory -/
def ReqIs (w : World) (r : ReqS) (vc vt ve : Value) : Prop := CmpsAt w 0 vc r.cmps ∧ OpsAt w 0 vt r.thn ∧ OpsAt w 0 ve r.els

theorem Tryz.inf65 : (Tryz.prog.info? 65).map (fun i => (i.zero, i.size, i.bytes)) = some (some (.agg #[.string ⟨#[]⟩, .int .i64 0, .int .i64 0, .int .u64 0, .string ⟨#[]⟩]), 5, 56) := by kernel_rfl
theorem Tryz.inf67 : (Tryz.prog.info? 67).map (fun i => (i.zero, i.size, i.bytes)) = some (some (.agg #[.int .i64 0, .string ⟨#[]⟩, .string ⟨#[]⟩, .string ⟨#[]⟩, .int .u64 0, .int .i64 0, .bool false, .bool false, .bool false]), 9, 80) := by kernel_rfl
theorem app_cmp (w : World) (base : Nat) (v : Value) (l : List CmpS) (x : CmpS) (hown : CmpsAt w base v l) (hn : l.length + 1 ≤ 1099511627776) (hb : base ≤ w.heap.size) :
    ∃ v' w', (Builtin.append_ #[56, 56] 56 #[v, .slice (some ⟨w.heap.size, 0, none⟩) 1 1]).run Tryz.prog (w.alloc (.cells (cmpCells x) 65 (0, 0))) = .ok v' w' ∧ CmpsAt w' base v' (l ++ [x]) ∧
      (w.alloc (.cells (cmpCells x) 65 (0, 0))).grownBy w' v.ownBlock ∧ (v'.ownBlock = v.ownBlock ∨ v'.ownBlock = some (w.heap.size + 1)) := by
  obtain ⟨i, hi, hz0, hz1, hz2⟩ := info_parts Tryz.inf65
  exact app_one Tryz.underlying56 hi hz0 hz1 hz2 rfl (by decide) cmpCells x rfl (all_one (cmpCells_one x)) w base v l hown hn (by omega) hb
theorem app_op (w : World) (base : Nat) (v : Value) (l : List OpS) (x : OpS) (hown : OpsAt w base v l) (hn : l.length + 1 ≤ 1099511627776) (hb : base ≤ w.heap.size) :
    ∃ v' w', (Builtin.append_ #[57, 57] 57 #[v, .slice (some ⟨w.heap.size, 0, none⟩) 1 1]).run Tryz.prog (w.alloc (.cells (opCells x) 67 (0, 0))) = .ok v' w' ∧ OpsAt w' base v' (l ++ [x]) ∧
      (w.alloc (.cells (opCells x) 67 (0, 0))).grownBy w' v.ownBlock ∧ (v'.ownBlock = v.ownBlock ∨ v'.ownBlock = some (w.heap.size + 1)) := by
  obtain ⟨i, hi, hz0, hz1, hz2⟩ := info_parts Tryz.inf67
  exact app_one Tryz.underlying57 hi hz0 hz1 hz2 rfl (by decide) opCells x rfl (all_one (opCells_one x)) w base v l hown hn (by omega) hb

/-! ### lengths -/
theorem take1_len {α : Type} {f : Str → Option α} {ws r : List Str} {a : α} (h : take1 f ws = some (a, r)) : ws.length = r.length + 1 := by
  cases ws with
  | nil => cases h
  | cons x ws =>
    have h : (f x).bind (fun a => some (a, ws)) = some (a, r) := h
    rcases hf : f x with _ | b
    · rw [hf] at h; cases h
    · rw [hf] at h
      simp only [Option.bind_some, Option.some.injEq, Prod.mk.injEq] at h
      rw [← h.2]; rfl
theorem bind_some_iff {α β : Type} {o : Option α} {f : α → Option β} {b : β} (h : o.bind f = some b) : ∃ a, o = some a ∧ f a = some b := by
  cases o with
  | none => cases h
  | some a => exact ⟨a, rfl, h⟩
theorem prange_len {ws r : List Str} {x : OpS} (h : prange ws = some (x, r)) : r.length ≤ ws.length := by
  unfold prange at h
  obtain ⟨a, h1, h⟩ := bind_some_iff h
  obtain ⟨b, h2, h⟩ := bind_some_iff h
  obtain ⟨c, h3, h⟩ := bind_some_iff h
  obtain ⟨d, h4, h⟩ := bind_some_iff h
  obtain ⟨e, h5, h⟩ := bind_some_iff h
  have := take1_len h1; have := take1_len h2; have := take1_len h3; have := take1_len h4; have := take1_len h5
  simp only [Option.some.injEq, Prod.mk.injEq] at h
  rw [← h.2]; omega
theorem pput_len {ws r : List Str} {x : OpS} (h : pput ws = some (x, r)) : r.length ≤ ws.length := by
  unfold pput at h
  obtain ⟨a, h1, h⟩ := bind_some_iff h
  obtain ⟨b, h2, h⟩ := bind_some_iff h
  obtain ⟨c, h3, h⟩ := bind_some_iff h
  have := take1_len h1; have := take1_len h2; have := take1_len h3
  simp only [Option.some.injEq, Prod.mk.injEq] at h
  rw [← h.2]; omega
theorem pdel_len {ws r : List Str} {x : OpS} (h : pdel ws = some (x, r)) : r.length ≤ ws.length := by
  unfold pdel at h
  obtain ⟨a, h1, h⟩ := bind_some_iff h
  obtain ⟨b, h2, h⟩ := bind_some_iff h
  obtain ⟨c, h3, h⟩ := bind_some_iff h
  have := take1_len h1; have := take1_len h2; have := take1_len h3
  simp only [Option.some.injEq, Prod.mk.injEq] at h
  rw [← h.2]; omega
theorem pop_len {ws r : List Str} {x : OpS} (h : pop ws = some (x, r)) : r.length < ws.length := by
  unfold pop at h
  obtain ⟨a, h1, h⟩ := bind_some_iff h
  have := take1_len h1
  split at h
  · have := prange_len h; omega
  · split at h
    · have := pput_len h; omega
    · split at h
      · have := pdel_len h; omega
      · cases h
theorem pcmp_len {ws r : List Str} {x : CmpS} (h : pcmp ws = some (x, r)) : r.length < ws.length := by
  unfold pcmp at h
  obtain ⟨a, h1, h⟩ := bind_some_iff h
  obtain ⟨b, h2, h⟩ := bind_some_iff h
  obtain ⟨c, h3, h⟩ := bind_some_iff h
  obtain ⟨d, h4, h⟩ := bind_some_iff h
  obtain ⟨e, h5, h⟩ := bind_some_iff h
  have := take1_len h1; have := take1_len h2; have := take1_len h3; have := take1_len h4; have := take1_len h5
  simp only [Option.some.injEq, Prod.mk.injEq] at h
  rw [← h.2]; omega
theorem pitem_len {st st' : PartS} {ws r : List Str} (h : pitem st ws = some (st', r)) : r.length < ws.length := by
  unfold pitem at h
  obtain ⟨a, h1, h⟩ := bind_some_iff h
  have := take1_len h1
  split at h
  · split at h
    · obtain ⟨b, h2, h⟩ := bind_some_iff h
      have := pcmp_len h2
      simp only [Option.some.injEq, Prod.mk.injEq] at h
      rw [← h.2]; omega
    · cases h
  · split at h
    · split at h
      · obtain ⟨b, h2, h⟩ := bind_some_iff h
        have := pop_len h2
        simp only [Option.some.injEq, Prod.mk.injEq] at h
        rw [← h.2]; omega
      · cases h
    · split at h
      · obtain ⟨b, h2, h⟩ := bind_some_iff h
        have := pop_len h2
        simp only [Option.some.injEq, Prod.mk.injEq] at h
        rw [← h.2]; omega
      · cases h
theorem pitems_any : ∀ (k k' : Nat) (st : PartS) (ws : List Str), ws.length ≤ k → ws.length ≤ k' → pitems k st ws = pitems k' st ws
  | k, k', st, [], _, _ => by cases k <;> cases k' <;> rfl
  | 0, _, _, _ :: _, h, _ => by simp at h
  | _, 0, _, _ :: _, _, h => by simp at h
  | k + 1, k' + 1, st, x :: ws, h, h' => by
    simp only [pitems, reduceCtorEq, if_false]
    rcases hp : pitem st (x :: ws) with _ | ⟨st', r⟩
    · rfl
    · have := pitem_len hp
      simp only [List.length_cons] at this h h'
      simp only [Option.bind_some]
      exact pitems_any k k' st' r (by omega) (by omega)
/-- items, with enough of a bound -/
def items (st : PartS) (ws : List Str) : Option PartS := pitems ws.length st ws
theorem items_nil (st : PartS) : items st [] = some st := rfl
theorem items_cons (st : PartS) (x : Str) (ws : List Str) : items st (x :: ws) = (pitem st (x :: ws)).bind fun y => items y.1 y.2 := by
  unfold items
  simp only [List.length_cons, pitems, reduceCtorEq, if_false]
  rcases hp : pitem st (x :: ws) with _ | ⟨st', r⟩
  · rfl
  · have := pitem_len hp
    simp only [List.length_cons] at this
    exact pitems_any _ _ _ _ (show r.length ≤ ws.length by omega) (Nat.le_refl _)
end Go.Proofs.YtifliekahdgobaaGreatDoor
namespace Go.Proofs.YtifliekahdgobaaGreatDoor
open Sp

/-! ### digits -/
theorem dgt_nat {n : Nat} (h : n < 10) : (dgt n).toNat = 48 + n := by unfold dgt; simp; omega
theorem valFrom_snoc (a : Nat) (x : Str) (c : UInt8) : valFrom a (x ++ [c]) = 10 * valFrom a x + (c.toNat - 48) := by
  unfold valFrom; rw [List.foldl_append]; rfl
theorem digGo_val : ∀ (f n : Nat), n < 10 ^ (f + 1) → valFrom 0 (digGo f n) = n
  | 0, n, h => by
    have h' : n < 10 := h
    unfold digGo
    rw [valFrom_cons, valFrom_nil, dgt_nat (by omega)]
    omega
  | f + 1, n, h => by
    unfold digGo
    by_cases h1 : n < 10
    · rw [if_pos h1, valFrom_cons, valFrom_nil, dgt_nat h1]; omega
    · rw [if_neg h1, valFrom_snoc, digGo_val f (n / 10) (by rw [Nat.pow_succ] at h; omega), dgt_nat (by omega)]; omega
theorem digGo_len : ∀ (f n k : Nat), n < 10 ^ (k + 1) → (digGo f n).length ≤ k + 1
  | 0, n, k, _ => by simp [digGo]
  | f + 1, n, k, h => by
    unfold digGo
    by_cases h1 : n < 10
    · rw [if_pos h1]; simp
    · rw [if_neg h1]
      cases k with
      | zero => simp at h; omega
      | succ k =>
        have := digGo_len f (n / 10) k (by rw [Nat.pow_succ] at h; omega)
        simp; omega
theorem digGo_ne : ∀ (f n : Nat), digGo f n ≠ []
  | 0, n => by simp [digGo]
  | f + 1, n => by unfold digGo; split <;> simp
theorem digGo_all : ∀ (f n : Nat), (digGo f n).all isDig = true
  | 0, n => by
    simp only [digGo, List.all_cons, List.all_nil, Bool.and_true]
    rw [isDig_iff, dgt_nat (by omega)]; omega
  | f + 1, n => by
    unfold digGo
    split
    · simp only [List.all_cons, List.all_nil, Bool.and_true]
      rw [isDig_iff, dgt_nat (by omega)]; omega
    · rw [List.all_append, digGo_all f]
      simp only [List.all_cons, List.all_nil, Bool.and_true, Bool.true_and]
      rw [isDig_iff, dgt_nat (by omega)]; omega
theorem digGo_head : ∀ (f n : Nat), n < 10 ^ (f + 1) → n ≠ 0 → (digGo f n).head? ≠ some 48
  | 0, n, h, h0 => by
    have h' : n < 10 := h
    simp only [digGo, List.head?_cons, ne_eq, Option.some.injEq]
    intro e
    have := congrArg UInt8.toNat e
    rw [dgt_nat (by omega)] at this
    simp at this; omega
  | f + 1, n, h, h0 => by
    unfold digGo
    by_cases h1 : n < 10
    · rw [if_pos h1]
      simp only [List.head?_cons, ne_eq, Option.some.injEq]
      intro e
      have := congrArg UInt8.toNat e
      rw [dgt_nat h1] at this
      simp at this; omega
    · rw [if_neg h1, List.head?_append, Option.or_of_isSome (by rw [List.isSome_head?]; exact digGo_ne _ _)]
      exact digGo_head f (n / 10) (by rw [Nat.pow_succ] at h; omega) (by omega)
theorem dig_zero : dig 0 = [48] := by decide
theorem numWord_dig {n : Nat} (h : n ≤ 999999999999999999) : numWord (dig n) = true := by
  rw [numWord_iff]
  have h18 : n < 10 ^ (17 + 1) := by omega
  have h21 : n < 10 ^ (20 + 1) := Nat.lt_of_lt_of_le h18 (Nat.pow_le_pow_right (by omega) (by omega))
  refine ⟨digGo_ne _ _, digGo_len 20 n 17 h18, digGo_all _ _, ?_⟩
  by_cases h0 : n = 0
  · right; rw [h0]; exact dig_zero
  · exact .inl (digGo_head 20 n h21 h0)
theorem dig_val {n : Nat} (h : n ≤ 999999999999999999) : valFrom 0 (dig n) = n :=
  digGo_val 20 n (Nat.lt_of_le_of_lt h (by decide))
theorem numOf_itoa {m n : Int} (h0 : 0 ≤ n) (h1 : n ≤ m) (h2 : n ≤ most) : numOf m (itoa n) = some n := by
  unfold most at h2
  unfold itoa
  rw [if_neg (by omega)]
  have h3 : n.toNat ≤ 999999999999999999 := by omega
  unfold numOf
  rw [numWord_dig h3, dig_val h3, if_pos ⟨rfl, by omega⟩]
  congr 1
  omega

/-! ### bytes -/
theorem hexd_hx : ∀ n, n < 16 → hexd (hx n) = some n := by decide
theorem hex_back (c : UInt8) : UInt8.ofNat (16 * (c.toNat / 16) + c.toNat % 16) = c := by
  rw [Nat.div_add_mod]; simp
theorem pairs_flat : ∀ s : Str, pairs (s.flatMap fun c => [hx (c.toNat / 16), hx (c.toNat % 16)]) = some s
  | [] => rfl
  | c :: s => by
    have hc := c.toNat_lt
    rw [List.flatMap_cons]
    simp only [List.cons_append, List.nil_append, pairs]
    rw [hexd_hx _ (by omega), hexd_hx _ (by omega), pairs_flat s]
    simp only [Option.bind_some]
    rw [hex_back]
theorem flat_len (s : Str) : (s.flatMap fun c => [hx (c.toNat / 16), hx (c.toNat % 16)]).length = 2 * s.length := by
  induction s with
  | nil => rfl
  | cons c s ih => rw [List.flatMap_cons, List.length_append, ih]; simp; omega
theorem okBytes_iff (s : Str) : okBytes s = true ↔ s.length ≤ 40 := by unfold okBytes; simp
theorem bytesOf_hex {s : Str} (h : s.length ≤ 40) : bytesOf (hexText s) = some s := by
  unfold hexText
  by_cases hs : s = []
  · subst hs; rfl
  · rw [if_neg hs]
    unfold bytesOf
    have hl := flat_len s
    rw [if_neg (fun e => by rw [e] at hl; simp at hl; omega), if_pos ⟨by omega, by omega⟩, pairs_flat]
theorem pairs_len : ∀ (w s : Str), pairs w = some s → 2 * s.length = w.length
  | [], s, h => by simp [pairs] at h; subst h; rfl
  | [_], s, h => by simp [pairs] at h
  | a :: b :: r, s, h => by
    simp only [pairs] at h
    obtain ⟨x, _, h⟩ := bind_some_iff h
    obtain ⟨y, _, h⟩ := bind_some_iff h
    obtain ⟨t, h3, h⟩ := bind_some_iff h
    simp only [Option.some.injEq] at h
    subst h
    have := pairs_len r t h3
    simp; omega
theorem bytesOf_len {w s : Str} (h : bytesOf w = some s) : s.length ≤ 40 := by
  unfold bytesOf at h
  split at h
  · simp only [Option.some.injEq] at h; subst h; simp
  · split at h
    · rename_i hc
      have := pairs_len _ _ h
      omega
    · cases h

/-! ### marks -/
theorem marks_ck (a b : Bool) : marksOf lCk (markText lCk [a, b]) = some [a, b] := by cases a <;> cases b <;> decide
theorem marks_p (a : Bool) : marksOf lP (markText lP [a]) = some [a] := by cases a <;> decide
theorem marks_s (a : Bool) : marksOf lS (markText lS [a]) = some [a] := by cases a <;> decide
theorem marks_pndg (a b c d : Bool) : marksOf lPndg (markText lPndg [a, b, c, d]) = some [a, b, c, d] := by cases a <;> cases b <;> cases c <;> cases d <;> decide

/-! ### good words -/
def goodCh (c : UInt8) : Bool := decide (36 ≤ c.toNat)
def goodW (w : Str) : Bool := w != [] && w.all goodCh
theorem goodW_iff (w : Str) : goodW w = true ↔ w ≠ [] ∧ w.all goodCh = true := by unfold goodW; rw [Bool.and_eq_true, bne_iff_ne]
theorem isDig_good {w : Str} (h : w.all isDig = true) : w.all goodCh = true := by
  rw [List.all_eq_true] at h ⊢
  intro c hc
  have := (isDig_iff c).1 (h c hc)
  unfold goodCh
  exact decide_eq_true (by omega)
theorem good_dig (n : Nat) : goodW (dig n) = true := (goodW_iff _).2 ⟨digGo_ne _ _, isDig_good (digGo_all _ _)⟩
theorem good_itoa (n : Int) : goodW (itoa n) = true := by
  unfold itoa
  split
  · rw [goodW_iff]
    refine ⟨by simp, ?_⟩
    rw [List.all_cons, ((goodW_iff _).1 (good_dig _)).2]
    decide
  · exact good_dig _
theorem good_hx : ∀ n, n < 16 → goodCh (hx n) = true := by decide
theorem good_hex (s : Str) : goodW (hexText s) = true := by
  unfold hexText
  by_cases hs : s = []
  · subst hs; decide
  · rw [if_neg hs, goodW_iff]
    refine ⟨?_, ?_⟩
    · intro e
      have := flat_len s
      rw [e] at this
      have h0 : s.length ≠ 0 := fun e => hs (List.length_eq_zero_iff.1 e)
      simp at this; omega
    · rw [List.all_eq_true]
      intro c hc
      obtain ⟨d, hd, hc⟩ := List.mem_flatMap.1 hc
      have := d.toNat_lt
      simp only [List.mem_cons, List.mem_nil_iff, or_false] at hc
      rcases hc with rfl | rfl
      · exact good_hx _ (by omega)
      · exact good_hx _ (by omega)
theorem good_mark1 (l : UInt8) (hl : goodCh l = true) (a : Bool) : goodW (markText [l] [a]) = true := by
  cases a
  · rfl
  · show goodW [l] = true
    simp [goodW, hl]
theorem good_ck (a b : Bool) : goodW (markText lCk [a, b]) = true := by cases a <;> cases b <;> decide
theorem good_p (a : Bool) : goodW (markText lP [a]) = true := by cases a <;> decide
theorem good_s (a : Bool) : goodW (markText lS [a]) = true := by cases a <;> decide
theorem good_pndg (a b c d : Bool) : goodW (markText lPndg [a, b, c, d]) = true := by cases a <;> cases b <;> cases c <;> cases d <;> decide
def goodWs (ws : List Str) : Bool := ws.all goodW
theorem good_op (x : OpS) : goodWs (Sp.opWords x) = true := by
  unfold Sp.opWords goodWs
  split
  · simp only [List.all_cons, List.all_nil, good_hex, good_itoa, good_ck, Bool.and_true]; decide
  · split
    · simp only [List.all_cons, List.all_nil, good_hex, good_p, Bool.and_true]; decide
    · simp only [List.all_cons, List.all_nil, good_hex, good_p, Bool.and_true]; decide
theorem good_cmp (x : CmpS) : goodWs (cmpWords x) = true := by
  unfold cmpWords goodWs
  simp only [List.all_cons, List.all_nil, good_hex, good_itoa, Bool.and_true]; decide
theorem goodWs_append (a b : List Str) : goodWs (a ++ b) = (goodWs a && goodWs b) := List.all_append
theorem good_flat {α : Type} (f : α → List Str) (h : ∀ x, goodWs (f x) = true) (l : List α) : goodWs (l.flatMap f) = true := by
  induction l with
  | nil => rfl
  | cons x l ih => rw [List.flatMap_cons, goodWs_append, h, ih]; rfl
theorem good_req (r : ReqS) (h : 0 ≤ r.kind ∧ r.kind ≤ 3) : goodWs (reqWords r) = true := by
  unfold reqWords
  rw [goodWs_append, goodWs_append, goodWs_append, good_flat _ good_cmp, good_flat _ (fun x => by show goodWs ([wThen] ++ Sp.opWords x) = true; rw [goodWs_append, good_op]; decide), good_flat _ (fun x => by show goodWs ([wElse] ++ Sp.opWords x) = true; rw [goodWs_append, good_op]; decide)]
  have hk : goodW (kinds.getD r.kind.toNat []) = true := by
    have : r.kind.toNat < 4 := by omega
    revert this
    generalize r.kind.toNat = k
    revert k
    decide
  simp only [goodWs, List.all_cons, List.all_nil, good_itoa, good_s, Bool.and_true, hk]
theorem good_watch (w : WatchS) : goodWs (watchWords w) = true := by
  unfold watchWords goodWs
  simp only [List.all_cons, List.all_nil, good_hex, good_itoa, good_pndg, Bool.and_true]
theorem good_name : ∀ k, k < 12 → goodW (names.getD k []) = true := by decide
theorem good_step (s : StepS) (h0 : 0 ≤ s.kind) (h1 : s.kind ≤ 11) (hr : s.kind = 7 → 0 ≤ s.req.kind ∧ s.req.kind ≤ 3) : goodWs (stepWords s) = true := by
  unfold stepWords
  show goodWs ([names.getD s.kind.toNat []] ++ (nodeWords s ++ bodyWords s)) = true
  rw [goodWs_append, goodWs_append]
  have h2 : goodWs [names.getD s.kind.toNat []] = true := by
    show (goodW _ && true) = true
    rw [good_name _ (by omega)]; rfl
  have h3 : goodWs (nodeWords s) = true := by
    unfold nodeWords
    split
    · show (goodW _ && true) = true
      rw [good_itoa]; rfl
    · rfl
  have h4 : goodWs (bodyWords s) = true := by
    unfold bodyWords
    split
    · rfl
    · split
      · exact good_watch _
      · split
        · exact good_req _ (hr (by assumption))
        · show (goodW _ && true) = true
          rw [good_itoa]; rfl
  rw [h2, h3, h4]; rfl

/-! ### words of what is joined -/
theorem goodCh_blank {c : UInt8} (h : goodCh c = true) : Sp.blank c = false := by
  have := all_u8 (fun c => !(goodCh c) || !(Sp.blank c)) (by decide +kernel) c
  simpa [h] using this
theorem goodCh_nl {c : UInt8} (h : goodCh c = true) : c ≠ 10 := by
  rintro rfl; exact absurd h (by decide)
theorem goodCh_hash {c : UInt8} (h : goodCh c = true) : c ≠ 35 := by
  rintro rfl; exact absurd h (by decide)
theorem fieldsGo_word : ∀ (w cur r : Str), w.all goodCh = true → fieldsGo cur (w ++ r) = fieldsGo (cur ++ w) r
  | [], cur, r, _ => by simp
  | c :: w, cur, r, h => by
    rw [List.all_cons, Bool.and_eq_true] at h
    rw [List.cons_append, fieldsGo, if_neg (by rw [goodCh_blank h.1]; simp), fieldsGo_word w _ r h.2]
    simp
theorem fields_join : ∀ ws : List Str, goodWs ws = true → fieldsGo [] (join ws) = ws
  | [], _ => rfl
  | [x], h => by
    have h := (goodW_iff x).1 (by simpa [goodWs] using h)
    have := fieldsGo_word x [] [] h.2
    rw [List.append_nil] at this
    rw [join, this]
    simp [fieldsGo, h.1]
  | x :: y :: r, h => by
    have h1 : goodW x = true ∧ goodWs (y :: r) = true := by simpa [goodWs] using h
    have hx := (goodW_iff x).1 h1.1
    rw [join, fieldsGo_word x [] _ hx.2]
    rw [List.nil_append, fieldsGo, if_pos (by decide), if_neg hx.1, fields_join (y :: r) h1.2]
theorem takeWhile_all {α : Type} (p : α → Bool) : ∀ l : List α, (∀ x ∈ l, p x = true) → l.takeWhile p = l
  | [], _ => rfl
  | x :: l, h => by
    rw [List.takeWhile_cons_of_pos (h x List.mem_cons_self), takeWhile_all p l (fun y hy => h y (List.mem_cons_of_mem _ hy))]
theorem words_join (ws : List Str) (h : goodWs ws = true) : words (join ws) = ws := by
  unfold words fields
  rw [fields_join ws h]
  apply takeWhile_all
  intro w hw
  have hg := (goodW_iff w).1 (by
    unfold goodWs at h
    exact List.all_eq_true.1 h w hw)
  unfold noHash
  rw [bne_iff_ne]
  intro e
  cases w with
  | nil => cases e
  | cons c w =>
    have h2 := hg.2
    rw [List.all_cons, Bool.and_eq_true] at h2
    simp only [List.head?_cons, Option.some.injEq] at e
    exact goodCh_hash h2.1 e
theorem join_nl : ∀ ws : List Str, goodWs ws = true → ∀ c ∈ join ws, c ≠ 10
  | [], _ => by simp [join]
  | [x], h => by
    have h := (goodW_iff x).1 (by simpa [goodWs] using h)
    intro c hc
    exact goodCh_nl (List.all_eq_true.1 h.2 c hc)
  | x :: y :: r, h => by
    have h1 : goodW x = true ∧ goodWs (y :: r) = true := by simpa [goodWs] using h
    have hx := (goodW_iff x).1 h1.1
    intro c hc
    rw [join, List.mem_append, List.mem_cons] at hc
    rcases hc with hc | hc | hc
    · exact goodCh_nl (List.all_eq_true.1 hx.2 c hc)
    · subst hc; decide
    · exact join_nl (y :: r) h1.2 c hc

/-! ### reading back -/
theorem pword_cons (x : Str) (r : List Str) : pword (x :: r) = some (x, r) := rfl
theorem pnum_itoa {m n : Int} (h0 : 0 ≤ n) (h1 : n ≤ m) (h2 : n ≤ most) (r : List Str) : pnum m (itoa n :: r) = some (n, r) := by
  show (numOf m (itoa n)).bind _ = _
  rw [numOf_itoa h0 h1 h2]; rfl
theorem pbytes_hex {s : Str} (h : s.length ≤ 40) (r : List Str) : pbytes (hexText s :: r) = some (s, r) := by
  show (bytesOf (hexText s)).bind _ = _
  rw [bytesOf_hex h]; rfl
theorem pmarks_of {l w : Str} {is : List Bool} (h : marksOf l w = some is) (r : List Str) : pmarks l (w :: r) = some (is, r) := by
  show (marksOf l w).bind _ = _
  rw [h]; rfl
theorem okNum_iff (n : Int) : okNum n = true ↔ 0 ≤ n ∧ n ≤ most := by unfold okNum; simp
theorem okSmall_iff (n : Int) : okSmall n = true ↔ 0 ≤ n ∧ n ≤ 9 := by unfold okSmall; simp
theorem pop_words (x : OpS) (h : okOp x = true) (r : List Str) : pop (Sp.opWords x ++ r) = some (x, r) := by
  obtain ⟨kind, key, fin, val, rev, limit, count, keys, prev⟩ := x
  unfold okOp at h
  rw [Bool.and_eq_true, okBytes_iff] at h
  obtain ⟨hk, h⟩ := h
  dsimp only at hk h
  unfold Sp.opWords
  dsimp only
  by_cases h0 : kind = 0
  · subst h0
    rw [if_pos rfl] at h
    simp only [Bool.and_eq_true, okBytes_iff, okNum_iff, beq_iff_eq, Bool.not_eq_true'] at h
    obtain ⟨⟨⟨⟨h1, h2⟩, h3⟩, h4⟩, h5⟩ := h
    subst h2 h5
    rw [if_pos rfl]
    unfold pop
    rw [List.cons_append, pword_cons, Option.bind_some, if_pos rfl]
    unfold prange
    simp only [List.cons_append, List.nil_append, pbytes_hex hk, pbytes_hex h1, pnum_itoa h3.1 h3.2 h3.2, pnum_itoa h4.1 h4.2 h4.2, pmarks_of (marks_ck count keys), Option.bind_some]
    rfl
  · rw [if_neg h0] at h ⊢
    by_cases h1 : kind = 1
    · subst h1
      rw [if_pos rfl] at h
      simp only [Bool.and_eq_true, okBytes_iff, beq_iff_eq, Bool.not_eq_true'] at h
      obtain ⟨⟨⟨⟨⟨h1, h2⟩, h3⟩, h4⟩, h5⟩, h6⟩ := h
      subst h2 h3 h4 h5 h6
      rw [if_pos rfl]
      unfold pop
      rw [List.cons_append, pword_cons, Option.bind_some]
      dsimp only
      rw [if_neg (by decide), if_pos rfl]
      unfold pput
      simp only [List.cons_append, List.nil_append, pbytes_hex hk, pbytes_hex h1, pmarks_of (marks_p prev), Option.bind_some]
      rfl
    · rw [if_neg h1] at h ⊢
      simp only [Bool.and_eq_true, okBytes_iff, beq_iff_eq, Bool.not_eq_true'] at h
      obtain ⟨⟨⟨⟨⟨⟨h1, h2⟩, h3⟩, h4⟩, h5⟩, h6⟩, h7⟩ := h
      subst h1 h3 h4 h5 h6 h7
      unfold pop
      rw [List.cons_append, pword_cons, Option.bind_some]
      dsimp only
      rw [if_neg (by decide), if_neg (by decide), if_pos rfl]
      unfold pdel
      simp only [List.cons_append, List.nil_append, pbytes_hex hk, pbytes_hex h2, pmarks_of (marks_p prev), Option.bind_some]
      rfl
theorem okCmp_iff (c : CmpS) : okCmp c = true ↔ (0 ≤ c.what ∧ c.what ≤ 9) ∧ (0 ≤ c.how ∧ c.how ≤ 9) ∧ (0 ≤ c.n ∧ c.n ≤ most) ∧ c.key.length ≤ 40 ∧ c.val.length ≤ 40 := by
  unfold okCmp
  simp only [Bool.and_eq_true, okSmall_iff, okNum_iff, okBytes_iff, and_assoc]
theorem le_most {n : Int} (h : n ≤ 9) : n ≤ most := by unfold most; omega
theorem pcmp_words (c : CmpS) (h : okCmp c = true) (r : List Str) : pcmp (itoa c.what :: itoa c.how :: itoa c.n :: hexText c.key :: hexText c.val :: r) = some (c, r) := by
  obtain ⟨h1, h2, h3, h4, h5⟩ := (okCmp_iff c).1 h
  unfold pcmp
  simp only [pnum_itoa h1.1 h1.2 (le_most h1.2), pnum_itoa h2.1 h2.2 (le_most h2.2), pnum_itoa h3.1 h3.2 h3.2, pbytes_hex h4, pbytes_hex h5, Option.bind_some]
theorem items_cmps : ∀ (l : List CmpS) (cs : List CmpS) (r : List Str), l.all okCmp = true → items ⟨0, cs, [], []⟩ (l.flatMap cmpWords ++ r) = items ⟨0, cs ++ l, [], []⟩ r
  | [], cs, r, _ => by simp
  | c :: l, cs, r, h => by
    rw [List.all_cons, Bool.and_eq_true] at h
    have h1 : pitem ⟨0, cs, [], []⟩ (wIf :: (itoa c.what :: itoa c.how :: itoa c.n :: hexText c.key :: hexText c.val :: (l.flatMap cmpWords ++ r))) = some (⟨0, cs ++ [c], [], []⟩, l.flatMap cmpWords ++ r) := by
      unfold pitem
      rw [pword_cons, Option.bind_some, if_pos rfl, if_pos rfl, pcmp_words c h.1]
      rfl
    rw [List.flatMap_cons, List.append_assoc]
    show items _ (wIf :: (itoa c.what :: itoa c.how :: itoa c.n :: hexText c.key :: hexText c.val :: (l.flatMap cmpWords ++ r))) = _
    rw [items_cons, h1, Option.bind_some, items_cmps l _ r h.2]
    simp
theorem items_thn : ∀ (l : List OpS) (p : Nat) (cs : List CmpS) (ts : List OpS) (r : List Str), p ≤ 1 → l.all okOp = true → ∃ q, q ≤ 1 ∧ items ⟨p, cs, ts, []⟩ ((l.flatMap fun x => wThen :: Sp.opWords x) ++ r) = items ⟨q, cs, ts ++ l, []⟩ r
  | [], p, cs, ts, r, hp, _ => ⟨p, hp, by simp⟩
  | x :: l, p, cs, ts, r, hp, h => by
    rw [List.all_cons, Bool.and_eq_true] at h
    have h1 : pitem ⟨p, cs, ts, []⟩ (wThen :: (Sp.opWords x ++ ((l.flatMap fun x => wThen :: Sp.opWords x) ++ r))) = some (⟨1, cs, ts ++ [x], []⟩, (l.flatMap fun x => wThen :: Sp.opWords x) ++ r) := by
      unfold pitem
      rw [pword_cons, Option.bind_some]
      dsimp only
      rw [if_neg (by decide), if_pos rfl, if_pos hp, pop_words x h.1]
      rfl
    obtain ⟨q, hq, h2⟩ := items_thn l 1 cs (ts ++ [x]) r (by omega) h.2
    refine ⟨q, hq, ?_⟩
    rw [List.flatMap_cons, List.append_assoc, List.cons_append]
    rw [items_cons, h1, Option.bind_some, h2]
    simp
theorem items_els : ∀ (l : List OpS) (p : Nat) (cs : List CmpS) (ts es : List OpS) (r : List Str), l.all okOp = true → ∃ q, items ⟨p, cs, ts, es⟩ ((l.flatMap fun x => wElse :: Sp.opWords x) ++ r) = items ⟨q, cs, ts, es ++ l⟩ r
  | [], p, cs, ts, es, r, _ => ⟨p, by simp⟩
  | x :: l, p, cs, ts, es, r, h => by
    rw [List.all_cons, Bool.and_eq_true] at h
    have h1 : pitem ⟨p, cs, ts, es⟩ (wElse :: (Sp.opWords x ++ ((l.flatMap fun x => wElse :: Sp.opWords x) ++ r))) = some (⟨2, cs, ts, es ++ [x]⟩, (l.flatMap fun x => wElse :: Sp.opWords x) ++ r) := by
      unfold pitem
      rw [pword_cons, Option.bind_some]
      dsimp only
      rw [if_neg (by decide), if_neg (by decide), if_pos rfl, pop_words x h.1]
      rfl
    obtain ⟨q, h2⟩ := items_els l 2 cs ts (es ++ [x]) r h.2
    refine ⟨q, ?_⟩
    rw [List.flatMap_cons, List.append_assoc, List.cons_append]
    rw [items_cons, h1, Option.bind_some, h2]
    simp
theorem items_all (cs : List CmpS) (ts es : List OpS) (h1 : cs.all okCmp = true) (h2 : ts.all okOp = true) (h3 : es.all okOp = true) :
    ∃ q, items ⟨0, [], [], []⟩ (cs.flatMap cmpWords ++ (ts.flatMap fun x => wThen :: Sp.opWords x) ++ (es.flatMap fun x => wElse :: Sp.opWords x)) = some ⟨q, cs, ts, es⟩ := by
  obtain ⟨q, hq, e2⟩ := items_thn ts 0 cs [] (es.flatMap fun x => wElse :: Sp.opWords x) (by omega) h2
  obtain ⟨p, e3⟩ := items_els es q cs ts [] [] h3
  rw [List.append_nil] at e3
  refine ⟨p, ?_⟩
  rw [List.append_assoc, items_cmps cs [] _ h1, List.nil_append, e2, List.nil_append, e3]
  rfl
theorem okReq_iff (r : ReqS) : okReq r = true ↔ (0 ≤ r.kind ∧ r.kind ≤ 3) ∧ (0 ≤ r.client ∧ r.client ≤ most) ∧ (0 ≤ r.num ∧ r.num ≤ most) ∧ (0 ≤ r.rev ∧ r.rev ≤ most) ∧ okParts ⟨0, r.cmps, r.thn, r.els⟩ = true ∧ r.cmps.all okCmp = true ∧ r.thn.all okOp = true ∧ r.els.all okOp = true := by
  unfold okReq
  simp only [Bool.and_eq_true, okNum_iff, decide_eq_true_eq, and_assoc]
theorem kind_back : ∀ k, k < 4 → kindOf kinds (kinds.getD k []) = some k := by decide
theorem name_back : ∀ k, k < 12 → kindOf names (names.getD k []) = some k := by decide
theorem preq_words (r : ReqS) (h : okReq r = true) : preq (reqWords r) = some r := by
  obtain ⟨hk, h1, h2, h3, h4, h5, h6, h7⟩ := (okReq_iff r).1 h
  obtain ⟨q, hi⟩ := items_all r.cmps r.thn r.els h5 h6 h7
  unfold reqWords
  rw [List.append_assoc, List.append_assoc]
  unfold preq
  simp only [List.cons_append, List.nil_append, pword_cons, Option.bind_some]
  rw [kind_back _ (by omega)]
  simp only [Option.bind_some, pnum_itoa h1.1 h1.2 h1.2, pnum_itoa h2.1 h2.2 h2.2, pmarks_of (marks_s r.serial), pnum_itoa h3.1 h3.2 h3.2]
  unfold items at hi
  rw [List.append_assoc] at hi
  rw [hi, Option.bind_some, if_pos (show okParts ⟨q, r.cmps, r.thn, r.els⟩ = true from h4)]
  obtain ⟨kind, client, num, serial, cmps, thn, els, rev⟩ := r
  dsimp only at hk ⊢
  have : ((kind.toNat : Nat) : Int) = kind := by omega
  rw [this]
  rfl
theorem okWatch_iff (w : WatchS) : okWatch w = true ↔ (0 ≤ w.id ∧ w.id ≤ most) ∧ w.key.length ≤ 40 ∧ w.fin.length ≤ 40 ∧ (0 ≤ w.start ∧ w.start ≤ most) := by
  unfold okWatch
  simp only [Bool.and_eq_true, okNum_iff, okBytes_iff, and_assoc]
theorem pwatch_words (w : WatchS) (h : okWatch w = true) (r : List Str) : pwatch (watchWords w ++ r) = some (w, r) := by
  obtain ⟨h1, h2, h3, h4⟩ := (okWatch_iff w).1 h
  unfold watchWords pwatch
  simp only [List.cons_append, List.nil_append, pnum_itoa h1.1 h1.2 h1.2, pbytes_hex h2, pbytes_hex h3, pnum_itoa h4.1 h4.2 h4.2, pmarks_of (marks_pndg w.prev w.noPut w.noDelete w.progress), Option.bind_some]
  rfl
theorem okStep_iff (s : StepS) : okStep s = true ↔ (0 ≤ s.kind ∧ s.kind ≤ 11) ∧ okNode s = true ∧ okBody s = true := by
  unfold okStep
  simp only [Bool.and_eq_true, decide_eq_true_eq, and_assoc]
theorem pstep_words (s : StepS) (h : okStep s = true) : pstep s.kind.toNat (nodeWords s ++ bodyWords s) = some s := by
  obtain ⟨hk, hn, hb⟩ := (okStep_iff s).1 h
  obtain ⟨kind, node, n, req, watch⟩ := s
  obtain ⟨k, rfl⟩ : ∃ k : Nat, kind = k := ⟨kind.toNat, by have := hk.1; dsimp only at this; omega⟩
  dsimp only at hk
  rw [Int.toNat_natCast]
  unfold okNode at hn
  unfold okBody at hb
  unfold nodeWords bodyWords pstep
  dsimp only at hn hb ⊢
  have hnode : ∀ r, pnode k ((if 2 < (k : Int) then [itoa node] else []) ++ r) = some (node, r) := by
    intro r
    unfold pnode
    by_cases h2 : 2 < k
    · rw [if_pos h2, if_pos (by omega)]
      rw [if_pos (by omega), okSmall_iff] at hn
      exact pnum_itoa hn.1 hn.2 (le_most hn.2) r
    · rw [if_neg h2, if_neg (by omega)]
      rw [if_neg (by omega), beq_iff_eq] at hn
      subst hn
      rfl
  rw [hnode, Option.bind_some]
  unfold pbody
  dsimp only
  by_cases h11 : k = 11
  · subst h11
    rw [if_pos (by decide)] at hb
    simp only [Bool.and_eq_true, beq_iff_eq] at hb
    obtain ⟨⟨rfl, rfl⟩, rfl⟩ := hb
    rw [if_pos rfl, if_pos (by decide)]
    rfl
  · have i11 : ¬ (k : Int) = 11 := by omega
    rw [if_neg i11] at hb
    rw [if_neg h11, if_neg i11]
    by_cases h8 : k = 8
    · subst h8
      have i8 : ((8 : Nat) : Int) = 8 := rfl
      rw [if_pos i8] at hb
      simp only [Bool.and_eq_true, beq_iff_eq] at hb
      obtain ⟨⟨rfl, rfl⟩, hw⟩ := hb
      have := pwatch_words watch hw []
      rw [List.append_nil] at this
      rw [if_pos (show 8 = 8 from rfl), if_pos i8, this]
      rfl
    · have i8 : ¬ (k : Int) = 8 := by omega
      rw [if_neg i8] at hb
      rw [if_neg h8, if_neg i8]
      by_cases h7 : k = 7
      · subst h7
        have i7 : ((7 : Nat) : Int) = 7 := rfl
        rw [if_pos i7] at hb
        simp only [Bool.and_eq_true, beq_iff_eq] at hb
        obtain ⟨⟨rfl, hr⟩, rfl⟩ := hb
        rw [if_pos (show 7 = 7 from rfl), if_pos i7, preq_words req hr]
        rfl
      · have i7 : ¬ (k : Int) = 7 := by omega
        rw [if_neg i7] at hb
        rw [if_neg h7, if_neg i7]
        simp only [Bool.and_eq_true, beq_iff_eq, okNum_iff] at hb
        obtain ⟨⟨hn2, rfl⟩, rfl⟩ := hb
        rw [pnum_itoa hn2.1 hn2.2 hn2.2]
        rfl

/-! ### what is read may be -/
theorem pnum_ok {m : Int} {ws r : List Str} {n : Int} (h : pnum m ws = some (n, r)) : 0 ≤ n ∧ n ≤ m := by
  cases ws with
  | nil => cases h
  | cons x ws =>
    obtain ⟨a, h1, h⟩ := bind_some_iff (show (numOf m x).bind (fun a => some (a, ws)) = some (n, r) from h)
    simp only [Option.some.injEq, Prod.mk.injEq] at h
    obtain ⟨rfl, -⟩ := h
    unfold numOf at h1
    split at h1
    · rename_i hc
      simp only [Option.some.injEq] at h1
      subst h1
      exact ⟨by omega, hc.2⟩
    · cases h1
theorem pbytes_ok {ws r : List Str} {s : Str} (h : pbytes ws = some (s, r)) : s.length ≤ 40 := by
  cases ws with
  | nil => cases h
  | cons x ws =>
    obtain ⟨a, h1, h⟩ := bind_some_iff (show (bytesOf x).bind (fun a => some (a, ws)) = some (s, r) from h)
    simp only [Option.some.injEq, Prod.mk.injEq] at h
    obtain ⟨rfl, -⟩ := h
    exact bytesOf_len h1
theorem pop_ok {ws r : List Str} {x : OpS} (h : pop ws = some (x, r)) : okOp x = true := by
  unfold pop at h
  obtain ⟨w, _, h⟩ := bind_some_iff h
  split at h
  · unfold prange at h
    obtain ⟨a, h1, h⟩ := bind_some_iff h
    obtain ⟨b, h2, h⟩ := bind_some_iff h
    obtain ⟨c, h3, h⟩ := bind_some_iff h
    obtain ⟨d, h4, h⟩ := bind_some_iff h
    obtain ⟨e, h5, h⟩ := bind_some_iff h
    simp only [Option.some.injEq, Prod.mk.injEq] at h
    obtain ⟨rfl, -⟩ := h
    unfold okOp
    simp only [Bool.and_eq_true, okBytes_iff, if_true, okNum_iff]
    exact ⟨pbytes_ok h1, ⟨⟨⟨⟨pbytes_ok h2, rfl⟩, pnum_ok h3⟩, pnum_ok h4⟩, rfl⟩⟩
  · split at h
    · unfold pput at h
      obtain ⟨a, h1, h⟩ := bind_some_iff h
      obtain ⟨b, h2, h⟩ := bind_some_iff h
      obtain ⟨c, h3, h⟩ := bind_some_iff h
      simp only [Option.some.injEq, Prod.mk.injEq] at h
      obtain ⟨rfl, -⟩ := h
      unfold okOp
      dsimp only
      rw [if_neg (by decide), if_pos rfl]
      simp only [Bool.and_eq_true, okBytes_iff]
      exact ⟨pbytes_ok h1, ⟨⟨⟨⟨⟨pbytes_ok h2, rfl⟩, rfl⟩, rfl⟩, rfl⟩, rfl⟩⟩
    · split at h
      · unfold pdel at h
        obtain ⟨a, h1, h⟩ := bind_some_iff h
        obtain ⟨b, h2, h⟩ := bind_some_iff h
        obtain ⟨c, h3, h⟩ := bind_some_iff h
        simp only [Option.some.injEq, Prod.mk.injEq] at h
        obtain ⟨rfl, -⟩ := h
        unfold okOp
        dsimp only
        rw [if_neg (by decide), if_neg (by decide)]
        simp only [Bool.and_eq_true, okBytes_iff]
        exact ⟨pbytes_ok h1, ⟨⟨⟨⟨⟨⟨rfl, pbytes_ok h2⟩, rfl⟩, rfl⟩, rfl⟩, rfl⟩, rfl⟩⟩
      · cases h
theorem pcmp_ok {ws r : List Str} {x : CmpS} (h : pcmp ws = some (x, r)) : okCmp x = true := by
  unfold pcmp at h
  obtain ⟨a, h1, h⟩ := bind_some_iff h
  obtain ⟨b, h2, h⟩ := bind_some_iff h
  obtain ⟨c, h3, h⟩ := bind_some_iff h
  obtain ⟨d, h4, h⟩ := bind_some_iff h
  obtain ⟨e, h5, h⟩ := bind_some_iff h
  simp only [Option.some.injEq, Prod.mk.injEq] at h
  obtain ⟨rfl, -⟩ := h
  exact (okCmp_iff _).2 ⟨pnum_ok h1, pnum_ok h2, pnum_ok h3, pbytes_ok h4, pbytes_ok h5⟩
def okItems (st : PartS) : Prop := st.cmps.all okCmp = true ∧ st.thn.all okOp = true ∧ st.els.all okOp = true
theorem pitem_ok {st st' : PartS} {ws r : List Str} (h : pitem st ws = some (st', r)) (ho : okItems st) : okItems st' := by
  obtain ⟨o1, o2, o3⟩ := ho
  unfold pitem at h
  obtain ⟨w, _, h⟩ := bind_some_iff h
  split at h
  · split at h
    · obtain ⟨c, h1, h⟩ := bind_some_iff h
      simp only [Option.some.injEq, Prod.mk.injEq] at h
      obtain ⟨rfl, -⟩ := h
      exact ⟨by simp only [List.all_append, o1, List.all_cons, List.all_nil, pcmp_ok h1]; rfl, o2, o3⟩
    · cases h
  · split at h
    · split at h
      · obtain ⟨c, h1, h⟩ := bind_some_iff h
        simp only [Option.some.injEq, Prod.mk.injEq] at h
        obtain ⟨rfl, -⟩ := h
        exact ⟨o1, by simp only [List.all_append, o2, List.all_cons, List.all_nil, pop_ok h1]; rfl, o3⟩
      · cases h
    · split at h
      · obtain ⟨c, h1, h⟩ := bind_some_iff h
        simp only [Option.some.injEq, Prod.mk.injEq] at h
        obtain ⟨rfl, -⟩ := h
        exact ⟨o1, o2, by simp only [List.all_append, o3, List.all_cons, List.all_nil, pop_ok h1]; rfl⟩
      · cases h
theorem pitems_ok : ∀ (k : Nat) (st st' : PartS) (ws : List Str), pitems k st ws = some st' → okItems st → okItems st'
  | 0, st, st', ws, h, ho => by
    unfold pitems at h
    split at h
    · simp only [Option.some.injEq] at h; subst h; exact ho
    · cases h
  | k + 1, st, st', ws, h, ho => by
    unfold pitems at h
    split at h
    · simp only [Option.some.injEq] at h; subst h; exact ho
    · obtain ⟨x, h1, h⟩ := bind_some_iff h
      exact pitems_ok k x.1 st' x.2 h (pitem_ok h1 ho)
theorem kindOf_lt {l : List Str} {w : Str} {k : Nat} (h : kindOf l w = some k) : k < l.length := by
  unfold kindOf at h
  exact (List.findIdx?_eq_some_iff_getElem.1 h).1
theorem preq_ok {ws : List Str} {x : ReqS} (h : preq ws = some x) : okReq x = true := by
  unfold preq at h
  obtain ⟨w, _, h⟩ := bind_some_iff h
  obtain ⟨k, hk, h⟩ := bind_some_iff h
  obtain ⟨a, h1, h⟩ := bind_some_iff h
  obtain ⟨b, h2, h⟩ := bind_some_iff h
  obtain ⟨c, h3, h⟩ := bind_some_iff h
  obtain ⟨d, h4, h⟩ := bind_some_iff h
  obtain ⟨st, h5, h⟩ := bind_some_iff h
  split at h
  · rename_i hp
    simp only [Option.some.injEq] at h
    subst h
    have hk4 : k < 4 := kindOf_lt hk
    obtain ⟨i1, i2, i3⟩ := pitems_ok _ _ _ _ h5 ⟨rfl, rfl, rfl⟩
    exact (okReq_iff _).2 ⟨by dsimp only; omega, pnum_ok h1, pnum_ok h2, pnum_ok h4, hp, i1, i2, i3⟩
  · cases h
theorem pwatch_ok {ws r : List Str} {x : WatchS} (h : pwatch ws = some (x, r)) : okWatch x = true := by
  unfold pwatch at h
  obtain ⟨a, h1, h⟩ := bind_some_iff h
  obtain ⟨b, h2, h⟩ := bind_some_iff h
  obtain ⟨c, h3, h⟩ := bind_some_iff h
  obtain ⟨d, h4, h⟩ := bind_some_iff h
  obtain ⟨e, h5, h⟩ := bind_some_iff h
  simp only [Option.some.injEq, Prod.mk.injEq] at h
  obtain ⟨rfl, -⟩ := h
  exact (okWatch_iff _).2 ⟨pnum_ok h1, pbytes_ok h2, pbytes_ok h3, pnum_ok h4⟩
theorem pstep_ok {k : Nat} (hk : k < 12) {ws : List Str} {x : StepS} (h : pstep k ws = some x) : okStep x = true ∧ x.kind = k := by
  unfold pstep at h
  obtain ⟨a, h1, h⟩ := bind_some_iff h
  obtain ⟨b, h2, h⟩ := bind_some_iff h
  split at h
  · simp only [Option.some.injEq] at h
    subst h
    have hn : ∀ (n : Int) (r : ReqS) (w : WatchS), okNode ⟨k, a.1, n, r, w⟩ = true := by
      intro n r w
      unfold okNode
      unfold pnode at h1
      dsimp only
      split at h1
      · rw [if_pos (by omega), okSmall_iff]
        exact pnum_ok h1
      · rw [if_neg (by omega)]
        simp only [Option.some.injEq] at h1
        subst h1
        rfl
    unfold pbody at h2
    dsimp only at h2
    split at h2
    · rename_i hk
      simp only [Option.some.injEq] at h2
      subst h2
      refine ⟨(okStep_iff _).2 ⟨by dsimp only; omega, hn _ _ _, ?_⟩, rfl⟩
      unfold okBody
      dsimp only
      rw [if_pos (by omega)]
      rfl
    · split at h2
      · obtain ⟨c, h3, h2⟩ := bind_some_iff h2
        simp only [Option.some.injEq] at h2
        subst h2
        refine ⟨(okStep_iff _).2 ⟨by dsimp only; omega, hn _ _ _, ?_⟩, rfl⟩
        unfold okBody
        dsimp only
        rw [if_neg (by omega), if_pos (by omega), pwatch_ok h3]
        rfl
      · split at h2
        · obtain ⟨c, h3, h2⟩ := bind_some_iff h2
          simp only [Option.some.injEq] at h2
          subst h2
          refine ⟨(okStep_iff _).2 ⟨by dsimp only; omega, hn _ _ _, ?_⟩, rfl⟩
          unfold okBody
          dsimp only
          rw [if_neg (by omega), if_neg (by omega), if_pos (by omega), preq_ok h3]
          rfl
        · obtain ⟨c, h3, h2⟩ := bind_some_iff h2
          simp only [Option.some.injEq] at h2
          subst h2
          refine ⟨(okStep_iff _).2 ⟨by dsimp only; omega, hn _ _ _, ?_⟩, rfl⟩
          unfold okBody
          dsimp only
          rw [if_neg (by omega), if_neg (by omega), if_neg (by omega), (okNum_iff _).2 (pnum_ok h3)]
          rfl
  · cases h
end Go.Proofs.YtifliekahdgobaaGreatDoor
