/-
  THE WALKS, 20: opText, watchText (printed by wip/tools/gen_text.py). Helpers of the claims.
  THE WALKS, 21: reqText. Helpers of the claims.
-/
import Derived.Test.YtifliekahdgobaaGreatDoorKThQToW19
import Derived.Test.YtifliekahdgobaaGreatDoorKW7ToThP
set_option linter.unusedSimpArgs false
set_option linter.unusedVariables false
namespace Go.Proofs.YtifliekahdgobaaGreatDoor
open Go.RowKit Sp

set_option maxHeartbeats 3200000 in
set_option maxRecDepth 100000 in
theorem opText_range (x : OpS) (hm : MidOp x) (h0 : x.kind = 0) (w : World) (hg : Glob w) :
    Calls Tryz.prog 111 #[.agg (opCells x)] w (Gives (sv (join (Sp.opWords x))) w) := by
  obtain ⟨kind, key, fin, val, rev, limit, count, keys, prev⟩ := x
  obtain ⟨hm1, hm2, hm3, hm4, hm5, hm6, hm7⟩ := hm
  dsimp only at h0 hm1 hm2 hm3 hm4 hm5 hm6 hm7
  subst h0
  obtain ⟨N, hN⟩ : ∃ N : Nat, N = w.heap.size := ⟨_, rfl⟩
  obtain ⟨W, hW⟩ : ∃ W : World, W = w.alloc (.cells (opCells ⟨0, key, fin, val, rev, limit, count, keys, prev⟩) 67) := ⟨_, rfl⟩
  have hkW : Keep (fun _ => False) w W := by rw [hW]; exact (Keep.refl _ w).alloc _
  have hbW : W.heap[N]? = some (.cells (opCells ⟨0, key, fin, val, rev, limit, count, keys, prev⟩) 67 (0, 0)) := by rw [hW, hN]; exact block_new _ _
  have HS : ∀ w', Keep (fun _ => False) W w' → Keep (fun _ => False) W w' ∧ w'.cell? ⟨N, 1, none⟩ = some (sv key) ∧ w'.cell? ⟨N, 2, none⟩ = some (sv fin) ∧ w'.cell? ⟨N, 4, none⟩ = some (.int .u64 rev) ∧ w'.cell? ⟨N, 5, none⟩ = some (.int .i64 limit) ∧ w'.cell? ⟨N, 6, none⟩ = some (.bool count) ∧ w'.cell? ⟨N, 7, none⟩ = some (.bool keys) := fun w' hk => by
    have hb := hk.at' hbW (fun e => e)
    exact ⟨hk, cell_of_block hb 1, cell_of_block hb 2, cell_of_block hb 4, cell_of_block hb 5, cell_of_block hb 6, cell_of_block hb 7⟩
  have HG : ∀ w', Keep (fun _ => False) W w' → Glob w' := fun w' hk => hg.far (hkW.trans' hk)
  have hc0 : W.cell? ⟨N, 0, none⟩ = some (.int .i64 0) := cell_of_block hbW 0
  have HM : ∀ y ∈ [wRange, hexText key, hexText fin, itoa rev, itoa limit, markText lCk [count, keys]], y.length ≤ 100000000 := mem_all ⟨by decide, hexText_le hm1, hexText_le hm2, itoa_le _, itoa_le _, markText_le (by decide) _, trivial⟩
  have HMH := Lib.hid HM
  have HSH := Lib.hid HS
  have HGH := Lib.hid HG
  have HW := Lib.hid (show W = w.alloc (.cells #[.int .i64 0, sv key, sv fin, sv val, .int .u64 rev, .int .i64 limit, .bool count, .bool keys, .bool prev] 67) from hW)
  have HNN := Lib.hid hN
  have HKW := Lib.hid hkW
  clear HM HS HG hW hN hkW hbW hg
  unfold opCells
  go_enter Tryz.func111, Tryz.ntmps111
  go_wp2_with fail
  rw [← HW.out]
  generalize hNW : w.heap.size = N' at *
  obtain rfl : N = N' := HNN.out
  go_wp2_with fail
  go_region_held3 (fun w' => Keep (fun _ => False) W w' ∧ w'.cell? ⟨N, 1, none⟩ = some (sv key) ∧ w'.cell? ⟨N, 2, none⟩ = some (sv fin) ∧ w'.cell? ⟨N, 4, none⟩ = some (.int .u64 rev) ∧ w'.cell? ⟨N, 5, none⟩ = some (.int .i64 limit) ∧ w'.cell? ⟨N, 6, none⟩ = some (.bool count) ∧ w'.cell? ⟨N, 7, none⟩ = some (.bool keys))
    (first | exact HSH.out _ ((Keep.refl _ _).drew) | exact HSH.out _ (held_call (by assumption) (by assumption)) | exact HSH.out _ (held_alloc (by assumption) _))
    (first
      | (go_at_call 106; refine (hex_any _ (by assumption) _).mono ?_; rintro e w' ⟨rfl, hk⟩)
      | (go_at_call 105; refine (num_text _ (by assumption) (by assumption) _ (HGH.out _ (And.left (by assumption)))).mono ?_; rintro e w' ⟨rfl, hk⟩)
      | (go_at_call 36; refine (itoa_any _ (by assumption) (by assumption) _ (HGH.out _ (And.left (by assumption)))).mono ?_; rintro e w' ⟨rfl, hk⟩)
      | (go_at_call 107; refine (marked_blk lCk [count, keys] _ _ _ (Nat.le_refl 2) (by decide) _ (by repeat (first | exact block_new _ _ | refine Keep.at' (by assumption) ?_ (fun e => e)))).mono ?_; rintro e w' ⟨rfl, hk⟩)
      | (go_at_call 20; refine (join_at _ _ [wRange, hexText key, hexText fin, itoa rev, itoa limit, markText lCk [count, keys]] _ _ (block_new _ _) (Nat.le_refl _) (by simp) HMH.out).mono ?_; rintro e w' ⟨rfl, hk⟩))
  all_goals
    go_wp2_with fail
    go_ret
    exact ⟨rfl, Keep.trans' HKW.out (And.left (by assumption))⟩
set_option maxHeartbeats 3200000 in
set_option maxRecDepth 100000 in
theorem opText_put (x : OpS) (hm : MidOp x) (h0 : x.kind = 1) (w : World) (hg : Glob w) :
    Calls Tryz.prog 111 #[.agg (opCells x)] w (Gives (sv (join (Sp.opWords x))) w) := by
  obtain ⟨kind, key, fin, val, rev, limit, count, keys, prev⟩ := x
  obtain ⟨hm1, hm2, hm3, hm4, hm5, hm6, hm7⟩ := hm
  dsimp only at h0 hm1 hm2 hm3 hm4 hm5 hm6 hm7
  subst h0
  obtain ⟨N, hN⟩ : ∃ N : Nat, N = w.heap.size := ⟨_, rfl⟩
  obtain ⟨W, hW⟩ : ∃ W : World, W = w.alloc (.cells (opCells ⟨1, key, fin, val, rev, limit, count, keys, prev⟩) 67) := ⟨_, rfl⟩
  have hkW : Keep (fun _ => False) w W := by rw [hW]; exact (Keep.refl _ w).alloc _
  have hbW : W.heap[N]? = some (.cells (opCells ⟨1, key, fin, val, rev, limit, count, keys, prev⟩) 67 (0, 0)) := by rw [hW, hN]; exact block_new _ _
  have HS : ∀ w', Keep (fun _ => False) W w' → Keep (fun _ => False) W w' ∧ w'.cell? ⟨N, 1, none⟩ = some (sv key) ∧ w'.cell? ⟨N, 3, none⟩ = some (sv val) ∧ w'.cell? ⟨N, 8, none⟩ = some (.bool prev) := fun w' hk => by
    have hb := hk.at' hbW (fun e => e)
    exact ⟨hk, cell_of_block hb 1, cell_of_block hb 3, cell_of_block hb 8⟩
  have HG : ∀ w', Keep (fun _ => False) W w' → Glob w' := fun w' hk => hg.far (hkW.trans' hk)
  have hc0 : W.cell? ⟨N, 0, none⟩ = some (.int .i64 1) := cell_of_block hbW 0
  have HM : ∀ y ∈ [wPut, hexText key, hexText val, markText lP [prev]], y.length ≤ 100000000 := mem_all ⟨by decide, hexText_le hm1, hexText_le hm3, markText_le (by decide) _, trivial⟩
  have HMH := Lib.hid HM
  have HSH := Lib.hid HS
  have HGH := Lib.hid HG
  have HW := Lib.hid (show W = w.alloc (.cells #[.int .i64 1, sv key, sv fin, sv val, .int .u64 rev, .int .i64 limit, .bool count, .bool keys, .bool prev] 67) from hW)
  have HNN := Lib.hid hN
  have HKW := Lib.hid hkW
  clear HM HS HG hW hN hkW hbW hg
  unfold opCells
  go_enter Tryz.func111, Tryz.ntmps111
  go_wp2_with fail
  rw [← HW.out]
  generalize hNW : w.heap.size = N' at *
  obtain rfl : N = N' := HNN.out
  go_wp2_with fail
  go_region_held3 (fun w' => Keep (fun _ => False) W w' ∧ w'.cell? ⟨N, 1, none⟩ = some (sv key) ∧ w'.cell? ⟨N, 3, none⟩ = some (sv val) ∧ w'.cell? ⟨N, 8, none⟩ = some (.bool prev))
    (first | exact HSH.out _ ((Keep.refl _ _).drew) | exact HSH.out _ (held_call (by assumption) (by assumption)) | exact HSH.out _ (held_alloc (by assumption) _))
    (first
      | (go_at_call 106; refine (hex_any _ (by assumption) _).mono ?_; rintro e w' ⟨rfl, hk⟩)
      | (go_at_call 105; refine (num_text _ (by assumption) (by assumption) _ (HGH.out _ (And.left (by assumption)))).mono ?_; rintro e w' ⟨rfl, hk⟩)
      | (go_at_call 36; refine (itoa_any _ (by assumption) (by assumption) _ (HGH.out _ (And.left (by assumption)))).mono ?_; rintro e w' ⟨rfl, hk⟩)
      | (go_at_call 107; refine (marked_blk lP [prev] _ _ _ (Nat.le_refl 1) (by decide) _ (by repeat (first | exact block_new _ _ | refine Keep.at' (by assumption) ?_ (fun e => e)))).mono ?_; rintro e w' ⟨rfl, hk⟩)
      | (go_at_call 20; refine (join_at _ _ [wPut, hexText key, hexText val, markText lP [prev]] _ _ (block_new _ _) (Nat.le_refl _) (by simp) HMH.out).mono ?_; rintro e w' ⟨rfl, hk⟩))
  all_goals
    go_wp2_with fail
    go_ret
    exact ⟨rfl, Keep.trans' HKW.out (And.left (by assumption))⟩
set_option maxHeartbeats 3200000 in
set_option maxRecDepth 100000 in
theorem opText_del (x : OpS) (hm : MidOp x) (h0 : ¬ x.kind = 0) (h1 : ¬ x.kind = 1) (w : World) (hg : Glob w) :
    Calls Tryz.prog 111 #[.agg (opCells x)] w (Gives (sv (join (Sp.opWords x))) w) := by
  obtain ⟨kind, key, fin, val, rev, limit, count, keys, prev⟩ := x
  obtain ⟨hm1, hm2, hm3, hm4, hm5, hm6, hm7⟩ := hm
  dsimp only at h0 hm1 hm2 hm3 hm4 hm5 hm6 hm7
  have k0 : (kind == 0) = false := by simpa using h0
  have k1 : (kind == 1) = false := by simpa using h1
  have HF : Sp.opWords ⟨kind, key, fin, val, rev, limit, count, keys, prev⟩ = [wDel, hexText key, hexText fin, markText lP [prev]] := by
    unfold Sp.opWords
    dsimp only
    rw [if_neg h0, if_neg h1]
  rw [HF]
  clear h0 h1 HF
  obtain ⟨N, hN⟩ : ∃ N : Nat, N = w.heap.size := ⟨_, rfl⟩
  obtain ⟨W, hW⟩ : ∃ W : World, W = w.alloc (.cells (opCells ⟨kind, key, fin, val, rev, limit, count, keys, prev⟩) 67) := ⟨_, rfl⟩
  have hkW : Keep (fun _ => False) w W := by rw [hW]; exact (Keep.refl _ w).alloc _
  have hbW : W.heap[N]? = some (.cells (opCells ⟨kind, key, fin, val, rev, limit, count, keys, prev⟩) 67 (0, 0)) := by rw [hW, hN]; exact block_new _ _
  have HS : ∀ w', Keep (fun _ => False) W w' → Keep (fun _ => False) W w' ∧ w'.cell? ⟨N, 1, none⟩ = some (sv key) ∧ w'.cell? ⟨N, 2, none⟩ = some (sv fin) ∧ w'.cell? ⟨N, 8, none⟩ = some (.bool prev) := fun w' hk => by
    have hb := hk.at' hbW (fun e => e)
    exact ⟨hk, cell_of_block hb 1, cell_of_block hb 2, cell_of_block hb 8⟩
  have HG : ∀ w', Keep (fun _ => False) W w' → Glob w' := fun w' hk => hg.far (hkW.trans' hk)
  have hc0 : W.cell? ⟨N, 0, none⟩ = some (.int .i64 kind) := cell_of_block hbW 0
  have HM : ∀ y ∈ [wDel, hexText key, hexText fin, markText lP [prev]], y.length ≤ 100000000 := mem_all ⟨by decide, hexText_le hm1, hexText_le hm2, markText_le (by decide) _, trivial⟩
  have HMH := Lib.hid HM
  have HSH := Lib.hid HS
  have HGH := Lib.hid HG
  have HW := Lib.hid (show W = w.alloc (.cells #[.int .i64 kind, sv key, sv fin, sv val, .int .u64 rev, .int .i64 limit, .bool count, .bool keys, .bool prev] 67) from hW)
  have HNN := Lib.hid hN
  have HKW := Lib.hid hkW
  clear HM HS HG hW hN hkW hbW hg
  unfold opCells
  go_enter Tryz.func111, Tryz.ntmps111
  go_wp2_with fail
  rw [← HW.out]
  generalize hNW : w.heap.size = N' at *
  obtain rfl : N = N' := HNN.out
  go_wp2_with fail
  go_region_held3 (fun w' => Keep (fun _ => False) W w' ∧ w'.cell? ⟨N, 1, none⟩ = some (sv key) ∧ w'.cell? ⟨N, 2, none⟩ = some (sv fin) ∧ w'.cell? ⟨N, 8, none⟩ = some (.bool prev))
    (first | exact HSH.out _ ((Keep.refl _ _).drew) | exact HSH.out _ (held_call (by assumption) (by assumption)) | exact HSH.out _ (held_alloc (by assumption) _))
    (first
      | (go_at_call 106; refine (hex_any _ (by assumption) _).mono ?_; rintro e w' ⟨rfl, hk⟩)
      | (go_at_call 105; refine (num_text _ (by assumption) (by assumption) _ (HGH.out _ (And.left (by assumption)))).mono ?_; rintro e w' ⟨rfl, hk⟩)
      | (go_at_call 36; refine (itoa_any _ (by assumption) (by assumption) _ (HGH.out _ (And.left (by assumption)))).mono ?_; rintro e w' ⟨rfl, hk⟩)
      | (go_at_call 107; refine (marked_blk lP [prev] _ _ _ (Nat.le_refl 1) (by decide) _ (by repeat (first | exact block_new _ _ | refine Keep.at' (by assumption) ?_ (fun e => e)))).mono ?_; rintro e w' ⟨rfl, hk⟩)
      | (go_at_call 20; refine (join_at _ _ [wDel, hexText key, hexText fin, markText lP [prev]] _ _ (block_new _ _) (Nat.le_refl _) (by simp) HMH.out).mono ?_; rintro e w' ⟨rfl, hk⟩))
  all_goals
    go_wp2_with fail
    go_ret
    exact ⟨rfl, Keep.trans' HKW.out (And.left (by assumption))⟩
theorem opText_any (x : OpS) (hm : MidOp x) (w : World) (hg : Glob w) : Calls Tryz.prog 111 #[.agg (opCells x)] w (Gives (sv (join (Sp.opWords x))) w) := by
  by_cases h0 : x.kind = 0
  · exact opText_range x hm h0 w hg
  · by_cases h1 : x.kind = 1
    · exact opText_put x hm h1 w hg
    · exact opText_del x hm h0 h1 w hg
/-- a watch whose numbers are of their kinds, of modest bytes -/
structure MidWatch (x : WatchS) : Prop where
  id0 : 0 ≤ x.id
  id1 : x.id < 18446744073709551616
  key : x.key.length ≤ 1000000
  fin : x.fin.length ≤ 1000000
  st0 : 0 ≤ x.start
  st1 : x.start < 18446744073709551616
set_option maxHeartbeats 3200000 in
set_option maxRecDepth 100000 in
theorem watchText_any (x : WatchS) (hm : MidWatch x) (w : World) (hg : Glob w) :
    Calls Tryz.prog 71 #[.agg (watchCells x)] w (Gives (sv (join (watchWords x))) w) := by
  obtain ⟨id, key, fin, start, prev, noPut, noDelete, progress⟩ := x
  obtain ⟨hm1, hm2, hm3, hm4, hm5, hm6⟩ := hm
  dsimp only at hm1 hm2 hm3 hm4 hm5 hm6
  obtain ⟨N, hN⟩ : ∃ N : Nat, N = w.heap.size := ⟨_, rfl⟩
  obtain ⟨W, hW⟩ : ∃ W : World, W = w.alloc (.cells (watchCells ⟨id, key, fin, start, prev, noPut, noDelete, progress⟩) 61) := ⟨_, rfl⟩
  have hkW : Keep (fun _ => False) w W := by rw [hW]; exact (Keep.refl _ w).alloc _
  have hbW : W.heap[N]? = some (.cells (watchCells ⟨id, key, fin, start, prev, noPut, noDelete, progress⟩) 61 (0, 0)) := by rw [hW, hN]; exact block_new _ _
  have HS : ∀ w', Keep (fun _ => False) W w' → Keep (fun _ => False) W w' ∧ w'.cell? ⟨N, 0, none⟩ = some (.int .u64 id) ∧ w'.cell? ⟨N, 1, none⟩ = some (sv key) ∧ w'.cell? ⟨N, 2, none⟩ = some (sv fin) ∧ w'.cell? ⟨N, 3, none⟩ = some (.int .u64 start) ∧ w'.cell? ⟨N, 4, none⟩ = some (.bool prev) ∧ w'.cell? ⟨N, 5, none⟩ = some (.bool noPut) ∧ w'.cell? ⟨N, 6, none⟩ = some (.bool noDelete) ∧ w'.cell? ⟨N, 7, none⟩ = some (.bool progress) := fun w' hk => by
    have hb := hk.at' hbW (fun e => e)
    exact ⟨hk, cell_of_block hb 0, cell_of_block hb 1, cell_of_block hb 2, cell_of_block hb 3, cell_of_block hb 4, cell_of_block hb 5, cell_of_block hb 6, cell_of_block hb 7⟩
  have HG : ∀ w', Keep (fun _ => False) W w' → Glob w' := fun w' hk => hg.far (hkW.trans' hk)
  have HM : ∀ y ∈ [itoa id, hexText key, hexText fin, itoa start, markText lPndg [prev, noPut, noDelete, progress]], y.length ≤ 100000000 := mem_all ⟨itoa_le _, hexText_le hm3, hexText_le hm4, itoa_le _, markText_le (by decide) _, trivial⟩
  have HMH := Lib.hid HM
  have HSH := Lib.hid HS
  have HGH := Lib.hid HG
  have HW := Lib.hid (show W = w.alloc (.cells #[.int .u64 id, sv key, sv fin, .int .u64 start, .bool prev, .bool noPut, .bool noDelete, .bool progress] 61) from hW)
  have HNN := Lib.hid hN
  have HKW := Lib.hid hkW
  clear HM HS HG hW hN hkW hbW hg
  unfold watchCells
  go_enter Tryz.func71, Tryz.ntmps71
  go_wp2_with fail
  rw [← HW.out]
  generalize hNW : w.heap.size = N' at *
  obtain rfl : N = N' := HNN.out
  go_region_held3 (fun w' => Keep (fun _ => False) W w' ∧ w'.cell? ⟨N, 0, none⟩ = some (.int .u64 id) ∧ w'.cell? ⟨N, 1, none⟩ = some (sv key) ∧ w'.cell? ⟨N, 2, none⟩ = some (sv fin) ∧ w'.cell? ⟨N, 3, none⟩ = some (.int .u64 start) ∧ w'.cell? ⟨N, 4, none⟩ = some (.bool prev) ∧ w'.cell? ⟨N, 5, none⟩ = some (.bool noPut) ∧ w'.cell? ⟨N, 6, none⟩ = some (.bool noDelete) ∧ w'.cell? ⟨N, 7, none⟩ = some (.bool progress))
    (first | exact HSH.out _ ((Keep.refl _ _).drew) | exact HSH.out _ (held_call (by assumption) (by assumption)) | exact HSH.out _ (held_alloc (by assumption) _))
    (first
      | (go_at_call 106; refine (hex_any _ (by assumption) _).mono ?_; rintro e w' ⟨rfl, hk⟩)
      | (go_at_call 105; refine (num_text _ (by assumption) (by assumption) _ (HGH.out _ (And.left (by assumption)))).mono ?_; rintro e w' ⟨rfl, hk⟩)
      | (go_at_call 36; refine (itoa_any _ (by assumption) (by assumption) _ (HGH.out _ (And.left (by assumption)))).mono ?_; rintro e w' ⟨rfl, hk⟩)
      | (go_at_call 107; refine (marked_blk lPndg [prev, noPut, noDelete, progress] _ _ _ (Nat.le_refl 4) (by decide) _ (by repeat (first | exact block_new _ _ | refine Keep.at' (by assumption) ?_ (fun e => e)))).mono ?_; rintro e w' ⟨rfl, hk⟩)
      | (go_at_call 20; refine (join_at _ _ [itoa id, hexText key, hexText fin, itoa start, markText lPndg [prev, noPut, noDelete, progress]] _ _ (block_new _ _) (Nat.le_refl _) (by simp) HMH.out).mono ?_; rintro e w' ⟨rfl, hk⟩))
  all_goals
    go_wp2_with fail
    go_ret
    exact ⟨rfl, Keep.trans' HKW.out (And.left (by assumption))⟩
end Go.Proofs.YtifliekahdgobaaGreatDoor
namespace Go.Proofs.YtifliekahdgobaaGreatDoor
open Go.RowKit Sp

/-! ### what is joined of parts that were joined -/
theorem join_append : ∀ (a b : List Str), a ≠ [] → b ≠ [] → join (a ++ b) = join a ++ 32 :: join b
  | [], _, h, _ => absurd rfl h
  | [x], [], _, h => absurd rfl h
  | [x], y :: b, _, _ => rfl
  | x :: y :: a, b, _, h => by
    have ih := join_append (y :: a) b (by simp) h
    simp only [List.cons_append, join] at ih ⊢
    rw [ih]
    simp
theorem join_cons (x : Str) (b : List Str) (h : b ≠ []) : join (x :: b) = x ++ 32 :: join b := by
  cases b with
  | nil => exact absurd rfl h
  | cons y b => rfl
/-- words of which some are themselves words that were joined -/
theorem join_parts : ∀ (l : List (List Str)), (∀ p ∈ l, p ≠ []) → join (l.map join) = join l.flatten
  | [], _ => rfl
  | [p], _ => by simp [join]
  | p :: q :: l, h => by
    have hp := h p List.mem_cons_self
    have ih := join_parts (q :: l) (fun r hr => h r (List.mem_cons_of_mem _ hr))
    have hq := h q (List.mem_cons_of_mem _ List.mem_cons_self)
    have hne : (q :: l).flatten ≠ [] := by
      intro e
      rw [List.flatten_cons] at e
      exact hq (List.append_eq_nil_iff.1 e).1
    rw [List.map_cons, join_cons _ _ (by simp), ih]
    show join p ++ 32 :: join (q :: l).flatten = join (p ++ (q :: l).flatten)
    rw [join_append p _ hp hne]
/-- a request's words, an operation being one -/
def reqParts (r : ReqS) : List Str :=
  [kinds.getD r.kind.toNat [], itoa r.client, itoa r.num, markText lS [r.serial], itoa r.rev] ++ r.cmps.flatMap cmpWords ++ (r.thn.flatMap fun x => [wThen, join (Sp.opWords x)]) ++ (r.els.flatMap fun x => [wElse, join (Sp.opWords x)])
theorem opWords_ne (x : OpS) : Sp.opWords x ≠ [] := by
  unfold Sp.opWords
  split
  · simp
  · split <;> simp
theorem single_parts (l : List Str) : (l.map fun x => [x]).map join = l ∧ (l.map fun x => [x]).flatten = l := by
  induction l with
  | nil => exact ⟨rfl, rfl⟩
  | cons x l ih =>
    refine ⟨?_, ?_⟩
    · rw [List.map_cons, List.map_cons, ih.1]; rfl
    · rw [List.map_cons, List.flatten_cons, ih.2]; rfl
theorem ops_parts (h : Str) (l : List OpS) : (l.flatMap fun x => [[h], Sp.opWords x]).map join = (l.flatMap fun x => [h, join (Sp.opWords x)]) ∧ (l.flatMap fun x => [[h], Sp.opWords x]).flatten = l.flatMap fun x => h :: Sp.opWords x := by
  induction l with
  | nil => exact ⟨rfl, rfl⟩
  | cons x l ih =>
    refine ⟨?_, ?_⟩
    · rw [List.flatMap_cons, List.map_append, ih.1, List.flatMap_cons]; rfl
    · rw [List.flatMap_cons, List.flatten_append, ih.2, List.flatMap_cons]
      simp
theorem join_reqParts (r : ReqS) : join (reqParts r) = join (reqWords r) := by
  have h1 := single_parts ([kinds.getD r.kind.toNat [], itoa r.client, itoa r.num, markText lS [r.serial], itoa r.rev] ++ r.cmps.flatMap cmpWords)
  have h2 := ops_parts wThen r.thn
  have h3 := ops_parts wElse r.els
  have h := join_parts (([kinds.getD r.kind.toNat [], itoa r.client, itoa r.num, markText lS [r.serial], itoa r.rev] ++ r.cmps.flatMap cmpWords).map (fun x => [x]) ++ (r.thn.flatMap fun x => [[wThen], Sp.opWords x]) ++ (r.els.flatMap fun x => [[wElse], Sp.opWords x])) (by
    intro p hp
    rw [List.mem_append, List.mem_append] at hp
    rcases hp with (hp | hp) | hp
    · obtain ⟨x, _, rfl⟩ := List.mem_map.1 hp
      simp
    · obtain ⟨x, _, hx⟩ := List.mem_flatMap.1 hp
      simp only [List.mem_cons, List.mem_nil_iff, or_false] at hx
      rcases hx with rfl | rfl
      · simp
      · exact opWords_ne x
    · obtain ⟨x, _, hx⟩ := List.mem_flatMap.1 hp
      simp only [List.mem_cons, List.mem_nil_iff, or_false] at hx
      rcases hx with rfl | rfl
      · simp
      · exact opWords_ne x)
  rw [List.map_append, List.map_append, List.flatten_append, List.flatten_append, h1.1, h1.2, h2.1, h2.2, h3.1, h3.2] at h
  exact h

/-! ### rows that are read -/
/-- a slice of structs of so many cells, where it lies -/
def RowRead {α : Type} (enc : α → Array Value) (size : Nat) (w : World) (v : Value) (l : List α) : Prop :=
  ∃ a c, v = .slice a l.length c ∧ ∀ i x, l[i]? = some x → ∃ b o, a = some ⟨b, o, none⟩ ∧ w.rangeAt b (o + i * size) (enc x).toList
theorem flat_get {α : Type} (enc : α → Array Value) (size : Nat) (hs : ∀ x, (enc x).size = size) : ∀ (l : List α) (i : Nat) (x : α) (j : Nat) (u : Value), l[i]? = some x → (enc x).toList[j]? = some u → (flat enc l)[i * size + j]? = some u
  | [], i, x, j, u, h, _ => by simp at h
  | y :: l, 0, x, j, u, h, hu => by
    simp only [List.getElem?_cons_zero, Option.some.injEq] at h
    subst h
    unfold flat
    rw [List.flatMap_cons, Nat.zero_mul, Nat.zero_add, List.getElem?_append_left (by
      obtain ⟨h1, _⟩ := List.getElem?_eq_some_iff.1 hu
      exact h1)]
    exact hu
  | y :: l, i + 1, x, j, u, h, hu => by
    have ih := flat_get enc size hs l i x j u (by simpa using h) hu
    unfold flat at ih ⊢
    rw [List.flatMap_cons, List.getElem?_append_right (by rw [Array.length_toList, hs]; rw [Nat.succ_mul]; omega), Array.length_toList, hs]
    rw [show (i + 1) * size + j - size = i * size + j by rw [Nat.succ_mul]; omega]
    exact ih
theorem RowRead.of_own {α : Type} {enc : α → Array Value} {size base e : Nat} (hs : ∀ x, (enc x).size = size) {w : World} {v : Value} {l : List α} (h : w.ownsRow base e size v l.length (flat enc l)) : RowRead enc size w v l := by
  obtain ⟨a, c, rfl, hc⟩ := ownsRow_len h
  refine ⟨a, c, rfl, ?_⟩
  intro i x hx
  rcases h.2 with ⟨h1, h2⟩ | ⟨g, cap, cur, h1, hb, hg, rest⟩
  · obtain ⟨h3, _⟩ := List.getElem?_eq_some_iff.1 hx
    omega
  · simp only [Value.slice.injEq] at h1
    obtain ⟨rfl, _, rfl⟩ := h1
    refine ⟨g, 0, rfl, ?_⟩
    intro j u hu
    have hh := h.cells (g := g) rfl (i * size + j) u (flat_get enc size hs l i x j u hx hu)
    rw [Lib.add_plain] at hh
    rw [show 0 + i * size + j = 0 + (i * size + j) by omega]
    exact hh
theorem RowRead.keep {α : Type} {enc : α → Array Value} {size : Nat} {M : Nat → Prop} {w w' : World} {v : Value} {l : List α} (h : RowRead enc size w v l) (hk : Keep M w w') (hM : ∀ b o n c, v = .slice (some ⟨b, o, none⟩) n c → ¬ M b) : RowRead enc size w' v l := by
  obtain ⟨a, c, rfl, h1⟩ := h
  refine ⟨a, c, rfl, ?_⟩
  intro i x hx
  obtain ⟨b, o, rfl, h2⟩ := h1 i x hx
  refine ⟨b, o, rfl, ?_⟩
  have hnb : ¬ M b := hM b o _ _ rfl
  intro j u hu
  have := h2 j u hu
  exact hk.cellOf this hnb
end Go.Proofs.YtifliekahdgobaaGreatDoor
