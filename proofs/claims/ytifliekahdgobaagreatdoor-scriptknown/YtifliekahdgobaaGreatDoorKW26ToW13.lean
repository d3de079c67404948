/-
  THE WALKS, 26: slices.Equal at structs; sameReq (printed by wip/tools/gen_w26.py). Helpers of the claims.
  A SCRIPT IN MEMORY. Helpers of the claims.
  THE WALKS, 13: Script.read. Helpers of the claims.
-/
import Derived.Test.YtifliekahdgobaaGreatDoorKW10ToSB
import Derived.Test.YtifliekahdgobaaGreatDoorKW12ToThY
set_option linter.unusedSimpArgs false
set_option linter.unusedVariables false
namespace Go.Proofs.YtifliekahdgobaaGreatDoor
open Go.RowKit Sp

theorem takeStep {α : Type} {l1 l2 : List α} {k : Nat} (h1 : k < l1.length) (h2 : k < l2.length) (h : l1.take k = l2.take k) (he : l1[k] = l2[k]) : l1.take (k + 1) = l2.take (k + 1) := by
  rw [List.take_succ_eq_append_getElem h1, List.take_succ_eq_append_getElem h2, h, he]
theorem neAt {α : Type} {l1 l2 : List α} {k : Nat} (h1 : k < l1.length) (h2 : k < l2.length) (he : ¬ l1[k] = l2[k]) : ¬ l1 = l2 := fun e => by
  subst e
  exact he rfl
set_option maxRecDepth 100000 in
set_option maxHeartbeats 1600000 in
theorem eqCmps_any (v1 v2 : Value) (l1 l2 : List CmpS) (w : World) (h1 : RowRead cmpCells 5 w v1 l1) (h2 : RowRead cmpCells 5 w v2 l2) (hn : l1.length ≤ 1000000) :
    Calls Tryz.prog 114 #[v1, v2] w (Tells (decide (l1 = l2)) w) := by
  obtain ⟨a1, c1, rfl, -⟩ := id h1
  obtain ⟨a2, c2, rfl, -⟩ := id h2
  have H1 := Lib.hid h1
  have H2 := Lib.hid h2
  clear h1 h2
  obtain ⟨r, hr⟩ : ∃ r, r = decide (l1 = l2) := ⟨_, rfl⟩
  rw [← hr]
  have HR := Lib.hid hr
  clear hr
  by_cases hl : l1.length = l2.length
  · have hl' : ((l1.length : Int) != (l2.length : Int)) = false := by rw [bne_eq_false_iff_eq, hl]
    have HL := Lib.hid hl
    clear hl
    go_enter Tryz.func114, Tryz.ntmps114
    go_wp2_with fail
    go_loopw [5, 13] (fun v5 v13 wr => ∃ k : Nat, k ≤ l1.length ∧ v13 = .int .i64 k ∧ Hid (l1.take k = l2.take k) ∧ Keep (fun _ => False) w wr) (fun _ v13 _ => l1.length - (intOf v13).toNat)
    case atStart => exact ⟨0, Nat.zero_le _, rfl, Lib.hid rfl, Keep.refl _ _⟩
    case round =>
      obtain ⟨k, hk, rfl, HT, hkr⟩ := hrel
      by_cases hlt : k < l1.length
      · have hlt2 : k < l2.length := by have := HL.out; omega
        obtain ⟨b, o, hbo, hrng⟩ := (H1.out.keep hkr (fun _ _ _ _ _ e => e)).at k hlt
        obtain ⟨b', o', hbo', hrng'⟩ := (H2.out.keep hkr (fun _ _ _ _ _ e => e)).at k hlt2
        subst hbo hbo'
        have hs := fun he => takeStep hlt hlt2 HT.out he
        have hne := fun he => neAt (l1 := l1) (l2 := l2) hlt hlt2 he
        have hlt' : (k : Int) < (l1.length : Int) := by omega
        have hlt2' : (k : Int) < (l2.length : Int) := by omega
        generalize l1[k] = x at *
        generalize l2[k] = y at *
        have hld : ∀ q, (ldT 65 (.pointer (some ⟨b, o + k * 5, none⟩))).run Tryz.prog (wr.drewN q) = .ok (.value (.agg (cmpCells x))) (wr.drewN q) := fun q => run_ld65 _ b _ _ rfl (fun j u hu => by rw [World.cell?_drewN]; exact hrng j u hu)
        have hld' : ∀ q, (ldT 65 (.pointer (some ⟨b', o' + k * 5, none⟩))).run Tryz.prog (wr.drewN q) = .ok (.value (.agg (cmpCells y))) (wr.drewN q) := fun q => run_ld65 _ b' _ _ rfl (fun j u hu => by rw [World.cell?_drewN]; exact hrng' j u hu)
        have HS := Lib.hid hs
        have HNE := Lib.hid hne
        have HKR := Lib.hid hkr
        have hneq := fun w => neq65 x y w
        have hgrd := fun (op : BinOp) (a b : Operand) (w : World) => grd65 op a b x y w
        clear hs hne hkr hrng hrng' HT
        by_cases hxy : x = y
        · have hd : decide (x = y) = true := decide_eq_true hxy
          have HE := Lib.hid hxy
          clear hxy
          go_wp2_with fail
          go_quiet (fail)
          go_wp2_with fail
          exact ⟨⟨k + 1, by omega, by go_num, Lib.hid (HS.out HE.out), HKR.out.drewN _⟩, by simp [intOf]; omega⟩
        · have hd : decide (x = y) = false := decide_eq_false hxy
          have HE := Lib.hid hxy
          clear hxy
          go_wp2_with fail
          go_quiet (fail)
          go_wp2_with fail
          go_ret
          exact ⟨by rw [HR.out, decide_eq_false (HNE.out HE.out)]; rfl, HKR.out.drewN _⟩
      · have hge : ¬ (k : Int) < (l1.length : Int) := by omega
        have HE := Lib.hid (show l1 = l2 by
          have := HT.out
          obtain rfl : k = l1.length := by omega
          rw [List.take_length, HL.out, List.take_length] at this
          exact this)
        clear HT
        have HKR := Lib.hid hkr
        clear hkr
        go_wp2_with fail
        go_ret
        exact ⟨by rw [HR.out, decide_eq_true HE.out]; rfl, HKR.out⟩
  · have hl' : ((l1.length : Int) != (l2.length : Int)) = true := by rw [bne_iff_ne]; omega
    have HL := Lib.hid (show ¬ l1 = l2 from fun e => hl (by rw [e]))
    clear hl
    go_enter Tryz.func114, Tryz.ntmps114
    go_wp2_with fail
    go_ret
    exact ⟨by rw [HR.out, decide_eq_false HL.out]; rfl, Keep.refl _ _⟩
set_option maxRecDepth 100000 in
set_option maxHeartbeats 1600000 in
theorem eqOps_any (v1 v2 : Value) (l1 l2 : List OpS) (w : World) (h1 : RowRead opCells 9 w v1 l1) (h2 : RowRead opCells 9 w v2 l2) (hn : l1.length ≤ 1000000) :
    Calls Tryz.prog 115 #[v1, v2] w (Tells (decide (l1 = l2)) w) := by
  obtain ⟨a1, c1, rfl, -⟩ := id h1
  obtain ⟨a2, c2, rfl, -⟩ := id h2
  have H1 := Lib.hid h1
  have H2 := Lib.hid h2
  clear h1 h2
  obtain ⟨r, hr⟩ : ∃ r, r = decide (l1 = l2) := ⟨_, rfl⟩
  rw [← hr]
  have HR := Lib.hid hr
  clear hr
  by_cases hl : l1.length = l2.length
  · have hl' : ((l1.length : Int) != (l2.length : Int)) = false := by rw [bne_eq_false_iff_eq, hl]
    have HL := Lib.hid hl
    clear hl
    go_enter Tryz.func115, Tryz.ntmps115
    go_wp2_with fail
    go_loopw [5, 13] (fun v5 v13 wr => ∃ k : Nat, k ≤ l1.length ∧ v13 = .int .i64 k ∧ Hid (l1.take k = l2.take k) ∧ Keep (fun _ => False) w wr) (fun _ v13 _ => l1.length - (intOf v13).toNat)
    case atStart => exact ⟨0, Nat.zero_le _, rfl, Lib.hid rfl, Keep.refl _ _⟩
    case round =>
      obtain ⟨k, hk, rfl, HT, hkr⟩ := hrel
      by_cases hlt : k < l1.length
      · have hlt2 : k < l2.length := by have := HL.out; omega
        obtain ⟨b, o, hbo, hrng⟩ := (H1.out.keep hkr (fun _ _ _ _ _ e => e)).at k hlt
        obtain ⟨b', o', hbo', hrng'⟩ := (H2.out.keep hkr (fun _ _ _ _ _ e => e)).at k hlt2
        subst hbo hbo'
        have hs := fun he => takeStep hlt hlt2 HT.out he
        have hne := fun he => neAt (l1 := l1) (l2 := l2) hlt hlt2 he
        have hlt' : (k : Int) < (l1.length : Int) := by omega
        have hlt2' : (k : Int) < (l2.length : Int) := by omega
        generalize l1[k] = x at *
        generalize l2[k] = y at *
        have hld : ∀ q, (ldT 67 (.pointer (some ⟨b, o + k * 9, none⟩))).run Tryz.prog (wr.drewN q) = .ok (.value (.agg (opCells x))) (wr.drewN q) := fun q => run_ld67 _ b _ _ rfl (fun j u hu => by rw [World.cell?_drewN]; exact hrng j u hu)
        have hld' : ∀ q, (ldT 67 (.pointer (some ⟨b', o' + k * 9, none⟩))).run Tryz.prog (wr.drewN q) = .ok (.value (.agg (opCells y))) (wr.drewN q) := fun q => run_ld67 _ b' _ _ rfl (fun j u hu => by rw [World.cell?_drewN]; exact hrng' j u hu)
        have HS := Lib.hid hs
        have HNE := Lib.hid hne
        have HKR := Lib.hid hkr
        have hneq := fun w => neq67 x y w
        have hgrd := fun (op : BinOp) (a b : Operand) (w : World) => grd67 op a b x y w
        clear hs hne hkr hrng hrng' HT
        by_cases hxy : x = y
        · have hd : decide (x = y) = true := decide_eq_true hxy
          have HE := Lib.hid hxy
          clear hxy
          go_wp2_with fail
          go_quiet (fail)
          go_wp2_with fail
          exact ⟨⟨k + 1, by omega, by go_num, Lib.hid (HS.out HE.out), HKR.out.drewN _⟩, by simp [intOf]; omega⟩
        · have hd : decide (x = y) = false := decide_eq_false hxy
          have HE := Lib.hid hxy
          clear hxy
          go_wp2_with fail
          go_quiet (fail)
          go_wp2_with fail
          go_ret
          exact ⟨by rw [HR.out, decide_eq_false (HNE.out HE.out)]; rfl, HKR.out.drewN _⟩
      · have hge : ¬ (k : Int) < (l1.length : Int) := by omega
        have HE := Lib.hid (show l1 = l2 by
          have := HT.out
          obtain rfl : k = l1.length := by omega
          rw [List.take_length, HL.out, List.take_length] at this
          exact this)
        clear HT
        have HKR := Lib.hid hkr
        clear hkr
        go_wp2_with fail
        go_ret
        exact ⟨by rw [HR.out, decide_eq_true HE.out]; rfl, HKR.out⟩
  · have hl' : ((l1.length : Int) != (l2.length : Int)) = true := by rw [bne_iff_ne]; omega
    have HL := Lib.hid (show ¬ l1 = l2 from fun e => hl (by rw [e]))
    clear hl
    go_enter Tryz.func115, Tryz.ntmps115
    go_wp2_with fail
    go_ret
    exact ⟨by rw [HR.out, decide_eq_false HL.out]; rfl, Keep.refl _ _⟩
theorem req_eq {a b : ReqS} (h1 : a.kind = b.kind) (h2 : a.client = b.client) (h3 : a.num = b.num) (h4 : a.serial = b.serial) (h5 : a.rev = b.rev) (h6 : a.cmps = b.cmps) (h7 : a.thn = b.thn) (h8 : a.els = b.els) : a = b := by
  obtain ⟨r1, r2, r3, r4, r5, r6, r7, r8⟩ := a
  obtain ⟨s1, s2, s3, s4, s5, s6, s7, s8⟩ := b
  dsimp only at *
  subst h1 h2 h3 h4 h5 h6 h7 h8
  rfl
set_option maxRecDepth 100000 in
set_option maxHeartbeats 3200000 in
theorem sameReq_any (a b : ReqS) (vca vta vea vcb vtb veb : Value) (w : World) (ha : ReqRead w a vca vta vea) (hb : ReqRead w b vcb vtb veb) (hla : a.cmps.length ≤ 1000000 ∧ a.thn.length ≤ 1000000 ∧ a.els.length ≤ 1000000) :
    Calls Tryz.prog 80 #[.agg (reqCells a vca vta vea), .agg (reqCells b vcb vtb veb)] w (Tells (decide (a = b)) w) := by
  obtain ⟨N, hN⟩ : ∃ N, N = w.heap.size := ⟨_, rfl⟩
  obtain ⟨W, hW⟩ : ∃ W : World, W = (w.alloc (.cells (reqCells a vca vta vea) 59)).alloc (.cells (reqCells b vcb vtb veb) 59) := ⟨_, rfl⟩
  have hkW : Keep (fun _ => False) w W := by rw [hW]; exact ((Keep.refl _ w).alloc _).alloc _
  have hA : W.heap[N]? = some (.cells (reqCells a vca vta vea) 59 (0, 0)) := by rw [hW, hN]; exact block_alloc (block_new _ _) _
  have hB : W.heap[N + 1]? = some (.cells (reqCells b vcb vtb veb) 59 (0, 0)) := by rw [hW, hN]; exact block_new' _ _ (by simp)
  have ca0 : ∀ w', Keep (fun _ => False) W w' → w'.cell? ⟨N, 0, none⟩ = some (.int .i64 a.kind) := fun w' hk => cell_of_block (hk.at' hA (fun e => e)) 0
  have ca1 : ∀ w', Keep (fun _ => False) W w' → w'.cell? ⟨N, 1, none⟩ = some (.int .u64 a.client) := fun w' hk => cell_of_block (hk.at' hA (fun e => e)) 1
  have ca2 : ∀ w', Keep (fun _ => False) W w' → w'.cell? ⟨N, 2, none⟩ = some (.int .u64 a.num) := fun w' hk => cell_of_block (hk.at' hA (fun e => e)) 2
  have ca3 : ∀ w', Keep (fun _ => False) W w' → w'.cell? ⟨N, 3, none⟩ = some (.bool a.serial) := fun w' hk => cell_of_block (hk.at' hA (fun e => e)) 3
  have ca7 : ∀ w', Keep (fun _ => False) W w' → w'.cell? ⟨N, 7, none⟩ = some (.int .u64 a.rev) := fun w' hk => cell_of_block (hk.at' hA (fun e => e)) 7
  have ca4 : ∀ w', Keep (fun _ => False) W w' → w'.cell? ⟨N, 4, none⟩ = some (vca) := fun w' hk => cell_of_block (hk.at' hA (fun e => e)) 4
  have ca5 : ∀ w', Keep (fun _ => False) W w' → w'.cell? ⟨N, 5, none⟩ = some (vta) := fun w' hk => cell_of_block (hk.at' hA (fun e => e)) 5
  have ca6 : ∀ w', Keep (fun _ => False) W w' → w'.cell? ⟨N, 6, none⟩ = some (vea) := fun w' hk => cell_of_block (hk.at' hA (fun e => e)) 6
  have cb0 : ∀ w', Keep (fun _ => False) W w' → w'.cell? ⟨N + 1, 0, none⟩ = some (.int .i64 b.kind) := fun w' hk => cell_of_block (hk.at' hB (fun e => e)) 0
  have cb1 : ∀ w', Keep (fun _ => False) W w' → w'.cell? ⟨N + 1, 1, none⟩ = some (.int .u64 b.client) := fun w' hk => cell_of_block (hk.at' hB (fun e => e)) 1
  have cb2 : ∀ w', Keep (fun _ => False) W w' → w'.cell? ⟨N + 1, 2, none⟩ = some (.int .u64 b.num) := fun w' hk => cell_of_block (hk.at' hB (fun e => e)) 2
  have cb3 : ∀ w', Keep (fun _ => False) W w' → w'.cell? ⟨N + 1, 3, none⟩ = some (.bool b.serial) := fun w' hk => cell_of_block (hk.at' hB (fun e => e)) 3
  have cb7 : ∀ w', Keep (fun _ => False) W w' → w'.cell? ⟨N + 1, 7, none⟩ = some (.int .u64 b.rev) := fun w' hk => cell_of_block (hk.at' hB (fun e => e)) 7
  have cb4 : ∀ w', Keep (fun _ => False) W w' → w'.cell? ⟨N + 1, 4, none⟩ = some (vcb) := fun w' hk => cell_of_block (hk.at' hB (fun e => e)) 4
  have cb5 : ∀ w', Keep (fun _ => False) W w' → w'.cell? ⟨N + 1, 5, none⟩ = some (vtb) := fun w' hk => cell_of_block (hk.at' hB (fun e => e)) 5
  have cb6 : ∀ w', Keep (fun _ => False) W w' → w'.cell? ⟨N + 1, 6, none⟩ = some (veb) := fun w' hk => cell_of_block (hk.at' hB (fun e => e)) 6
  have da0 := ca0 W (Keep.refl _ _)
  have da1 := ca1 W (Keep.refl _ _)
  have da2 := ca2 W (Keep.refl _ _)
  have da3 := ca3 W (Keep.refl _ _)
  have da7 := ca7 W (Keep.refl _ _)
  have da4 := ca4 W (Keep.refl _ _)
  have Ea5 := Lib.hid ca5
  have Ea6 := Lib.hid ca6
  have db0 := cb0 W (Keep.refl _ _)
  have db1 := cb1 W (Keep.refl _ _)
  have db2 := cb2 W (Keep.refl _ _)
  have db3 := cb3 W (Keep.refl _ _)
  have db7 := cb7 W (Keep.refl _ _)
  have db4 := cb4 W (Keep.refl _ _)
  have Eb5 := Lib.hid cb5
  have Eb6 := Lib.hid cb6
  clear ca0 ca1 ca2 ca3 ca7 ca4 ca5 ca6 cb0 cb1 cb2 cb3 cb7 cb4 cb5 cb6
  have HKW := Lib.hid hkW
  have HW := Lib.hid hW
  have HA := Lib.hid (ha.far hkW)
  have HB := Lib.hid (hb.far hkW)
  have HLA := Lib.hid hla
  obtain ⟨⟨a1, c1, rfl, -⟩, ⟨a2, c2, rfl, -⟩, ⟨a3, c3, rfl, -⟩⟩ := ha
  obtain ⟨⟨b1, d1, rfl, -⟩, ⟨b2, d2, rfl, -⟩, ⟨b3, d3, rfl, -⟩⟩ := hb
  generalize reqCells a (.slice a1 a.cmps.length c1) (.slice a2 a.thn.length c2) (.slice a3 a.els.length c3) = ca at *
  generalize reqCells b (.slice b1 b.cmps.length d1) (.slice b2 b.thn.length d2) (.slice b3 b.els.length d3) = cb at *
  subst hN
  clear hW hA hB hkW hla
  go_enter Tryz.func80, Tryz.ntmps80
  go_upto_region 1 with fail
  rw [← HW.out]
  by_cases h1 : a.kind = b.kind
  rotate_left
  · have g1 : (a.kind == b.kind) = false := by rw [beq_eq_false_iff_ne]; exact h1
    have HE := Lib.hid (show ¬ a = b from fun e => h1 (by rw [e]))
    clear h1
    go_wp2_with fail
    go_ret
    exact ⟨by rw [decide_eq_false HE.out]; rfl, HKW.out⟩
  have g1 : (a.kind == b.kind) = true := by rw [beq_iff_eq]; exact h1
  have H1 := Lib.hid h1
  clear h1
  by_cases h2 : a.client = b.client
  rotate_left
  · have g2 : (a.client == b.client) = false := by rw [beq_eq_false_iff_ne]; exact h2
    have HE := Lib.hid (show ¬ a = b from fun e => h2 (by rw [e]))
    clear h2
    go_wp2_with fail
    go_ret
    exact ⟨by rw [decide_eq_false HE.out]; rfl, HKW.out⟩
  have g2 : (a.client == b.client) = true := by rw [beq_iff_eq]; exact h2
  have H2 := Lib.hid h2
  clear h2
  by_cases h3 : a.num = b.num
  rotate_left
  · have g3 : (a.num == b.num) = false := by rw [beq_eq_false_iff_ne]; exact h3
    have HE := Lib.hid (show ¬ a = b from fun e => h3 (by rw [e]))
    clear h3
    go_wp2_with fail
    go_ret
    exact ⟨by rw [decide_eq_false HE.out]; rfl, HKW.out⟩
  have g3 : (a.num == b.num) = true := by rw [beq_iff_eq]; exact h3
  have H3 := Lib.hid h3
  clear h3
  by_cases h4 : a.serial = b.serial
  rotate_left
  · have g4 : (a.serial == b.serial) = false := by rw [beq_eq_false_iff_ne]; exact h4
    have HE := Lib.hid (show ¬ a = b from fun e => h4 (by rw [e]))
    clear h4
    go_wp2_with fail
    go_ret
    exact ⟨by rw [decide_eq_false HE.out]; rfl, HKW.out⟩
  have g4 : (a.serial == b.serial) = true := by rw [beq_iff_eq]; exact h4
  have H4 := Lib.hid h4
  clear h4
  by_cases h5 : a.rev = b.rev
  rotate_left
  · have g5 : (a.rev == b.rev) = false := by rw [beq_eq_false_iff_ne]; exact h5
    have HE := Lib.hid (show ¬ a = b from fun e => h5 (by rw [e]))
    clear h5
    go_wp2_with fail
    go_ret
    exact ⟨by rw [decide_eq_false HE.out]; rfl, HKW.out⟩
  have g5 : (a.rev == b.rev) = true := by rw [beq_iff_eq]; exact h5
  have H5 := Lib.hid h5
  clear h5
  have Q1 := Lib.hid (eqCmps_any (.slice a1 a.cmps.length c1) (.slice b1 b.cmps.length d1) a.cmps b.cmps W HA.out.1 HB.out.1 HLA.out.1)
  go_wp2_with fail
  refine Q1.out.mono ?_
  rintro e w1 ⟨rfl, hk1⟩
  have HK1 := Lib.hid hk1
  have HKT1 := Lib.hid (HKW.out.trans' hk1)
  by_cases h6 : a.cmps = b.cmps
  rotate_left
  · have g6 : decide (a.cmps = b.cmps) = false := decide_eq_false h6
    have HE := Lib.hid (show ¬ a = b from fun e => h6 (by rw [e]))
    clear h6 hk1
    go_wp2_with fail
    go_ret
    exact ⟨by rw [decide_eq_false HE.out]; rfl, HKT1.out⟩
  have g6 : decide (a.cmps = b.cmps) = true := decide_eq_true h6
  have H6 := Lib.hid h6
  clear h6
  have x5 := Ea5.out w1 hk1
  have y5 := Eb5.out w1 hk1
  have Q2 := Lib.hid (eqOps_any (.slice a2 a.thn.length c2) (.slice b2 b.thn.length d2) a.thn b.thn w1 (HA.out.far hk1).2.1 (HB.out.far hk1).2.1 HLA.out.2.1)
  clear hk1
  go_wp2_with fail
  refine Q2.out.mono ?_
  rintro e w2 ⟨rfl, hk2⟩
  have HK2 := Lib.hid (HK1.out.trans' hk2)
  by_cases h7 : a.thn = b.thn
  rotate_left
  · have g7 : decide (a.thn = b.thn) = false := decide_eq_false h7
    have HE := Lib.hid (show ¬ a = b from fun e => h7 (by rw [e]))
    clear h7 hk2
    go_wp2_with fail
    go_ret
    exact ⟨by rw [decide_eq_false HE.out]; rfl, HKW.out.trans' HK2.out⟩
  have g7 : decide (a.thn = b.thn) = true := decide_eq_true h7
  have H7 := Lib.hid h7
  clear h7 hk2
  have x6 := Ea6.out w2 HK2.out
  have y6 := Eb6.out w2 HK2.out
  have Q3 := Lib.hid (eqOps_any (.slice a3 a.els.length c3) (.slice b3 b.els.length d3) a.els b.els w2 (HA.out.far HK2.out).2.2 (HB.out.far HK2.out).2.2 HLA.out.2.2)
  go_wp2_with fail
  refine Q3.out.mono ?_
  rintro e w3 ⟨rfl, hk3⟩
  have HK3 := Lib.hid (HK2.out.trans' hk3)
  clear hk3
  have HEND := Lib.hid (show decide (a.els = b.els) = decide (a = b) from decide_eq_decide.2 ⟨fun h => req_eq H1.out H2.out H3.out H4.out H5.out H6.out H7.out h, fun h => by rw [h]⟩)
  go_wp2_with fail
  go_ret
  exact ⟨by rw [← HEND.out]; rfl, HKW.out.trans' HK3.out⟩
end Go.Proofs.YtifliekahdgobaaGreatDoor
namespace Go.Proofs.YtifliekahdgobaaGreatDoor
open Go.RowKit Sp

theorem run_tail (rb off n c : Nat) (w : World) (h1 : n + 1 ≤ c) : ∃ off' c', (Instr.sliceAt 48 (.slice (some ⟨rb, off, none⟩) (n + 1) c) (some (.int .i64 1)) none none).run Tryz.prog w = .ok (.slice (some ⟨rb, off', none⟩) n c') w ∧ (n = 0 ∨ off' = off + 1) ∧ n ≤ c' ∧ c' ≤ c := by
  by_cases hc1 : c = 1
  · subst hc1
    obtain rfl : n = 0 := by omega
    refine ⟨off, 0, ?_, .inl rfl, by omega, by omega⟩
    go_simp
  · refine ⟨off + 1, c - 1, ?_, .inr rfl, by omega, by omega⟩
    go_simp
    intro h9
    omega
theorem info88 : (Tryz.prog.info? 88).map (·.size) = some 4 := by kernel_rfl
@[go_sem ↓] theorem execOp_store88 (ρ : Operand → Value) (x y : Operand) (d : Option Tmp) (t : TypeId) (p : String) (af : Array Edge) (g : Option (Nat × Bool)) :
    execOp ρ { dst := d, op := Op.store 88 x y, type := t, pos := p, after := af, guard := g } = stT 88 (ρ x) (ρ y) := rfl
@[go_sem ↓] theorem execOp_load88 (ρ : Operand → Value) (x : Operand) (d : Option Tmp) (t : TypeId) (p : String) (af : Array Edge) (g : Option (Nat × Bool)) :
    execOp ρ { dst := d, op := Op.load 88 x, type := t, pos := p, after := af, guard := g } = ldT 88 (ρ x) := rfl
theorem run_st88 (w : World) (b o : Nat) (cells : Array Value) (ht : w.there b o 4) (hs : cells.size = 4) (h1 : cells.all (·.oneCell') = true) :
    (stT 88 (.pointer (some ⟨b, o, none⟩)) (.agg cells)).run Tryz.prog w = .ok .skip (w.setCells b o cells.toList) := run_stT info88 w b o cells ht hs h1
theorem run_ld88 (w : World) (b o : Nat) (cs : Array Value) (hs : cs.size = 4) (hc : w.rangeAt b o cs.toList) :
    (ldT 88 (.pointer (some ⟨b, o, none⟩))).run Tryz.prog w = .ok (.value (.agg cs)) w := run_ldT Tryz.underlying88 rfl info88 w b o cs hs hc
theorem kindOf_some {x : Str} {k : Nat} (h : kindOf names x = some k) : k < 12 ∧ x = nm k := by
  unfold kindOf at h
  obtain ⟨h1, h2, -⟩ := List.findIdx?_eq_some_iff_getElem.1 h
  refine ⟨h1, ?_⟩
  have h3 : names[k] = x := by simpa using h2
  unfold nm
  rw [List.getD_eq_getElem?_getD, List.getElem?_eq_getElem h1]
  exact h3.symm
theorem kindOf_none {x : Str} (h : kindOf names x = none) : ∀ k, k < 12 → nm k ≠ x := by
  intro k hk e
  unfold kindOf at h
  rw [List.findIdx?_eq_none_iff] at h
  have h1 : nm k ∈ names := by
    unfold nm
    rw [List.getD_eq_getElem?_getD, List.getElem?_eq_getElem (show k < names.length from hk)]
    exact List.getElem_mem _
  have := h _ h1
  simp [e] at this
/-- the look-up in the map of rules -/
theorem look_rule {w : World} {r : Nat} (h : RulesAt w r) {x : Str} {k : Nat} (hk : kindOf names x = some k) :
    (Instr.lookup 82 (.map (some r)) (.string ⟨x.toArray⟩) true).run Tryz.prog w = .ok (.tuple #[.agg (ruleCells k (decide (2 < k)) (readF k) (writeF k)), .bool true]) w := by
  obtain ⟨K, hp, hm⟩ := h
  obtain ⟨hk12, rfl⟩ := kindOf_some hk
  exact run_look_hit strKeys Tryz.underlying82 Tryz.underlying9 w r (rl K) hm (nm k) (ruleV k) (List.mem_map.2 ⟨k, (hp.mem_iff.2 (by simpa using hk12)), rfl⟩) (fun p hp' he => by
    obtain ⟨j, hj, rfl⟩ := List.mem_map.1 hp'
    have hj12 : j < 12 := by simpa using hp.mem_iff.1 hj
    rw [show j = k from nm_inj j hj12 k hk12 he]) true
theorem look_none {w : World} {r : Nat} (h : RulesAt w r) {x : Str} (hk : kindOf names x = none) :
    (Instr.lookup 82 (.map (some r)) (.string ⟨x.toArray⟩) true).run Tryz.prog w = .ok (.tuple #[.agg #[.int .i64 0, .bool false, .nilFunc, .nilFunc], .bool false]) w := by
  obtain ⟨K, hp, hm⟩ := h
  exact run_look_miss strKeys Tryz.underlying82 Tryz.underlying9 w r (rl K) hm x (.agg #[.int .i64 0, .bool false, .nilFunc, .nilFunc]) (by go_simp) (fun p hp' => by
    obtain ⟨j, hj, rfl⟩ := List.mem_map.1 hp'
    exact kindOf_none hk j (by simpa using hp.mem_iff.1 hj)) true
theorem RulesAt.keep {w w' : World} {r : Nat} (h : RulesAt w r) (hk : Keep (fun _ => False) w w') : RulesAt w' r := by
  obtain ⟨K, hp, hm⟩ := h
  exact ⟨K, hp, hk.at' hm (fun e => e)⟩
/-- a step with its inner rows -/
abbrev StepV := StepS × Value × Value × Value
def stepEnc (p : StepV) : Array Value := stepCells p.1 p.2.1 p.2.2.1 p.2.2.2
/-- steps as a slice that owns its row -/
def StepsAt (w : World) (base : Nat) (v : Value) (l : List StepS) : Prop :=
  ∃ L : List StepV, L.map (·.1) = l ∧ w.ownsRow base 63 19 v L.length (flat stepEnc L) ∧ ∀ p ∈ L, ReqIs w p.1.req p.2.1 p.2.2.1 p.2.2.2
theorem StepsAt.base {w : World} {b b' : Nat} {v : Value} {l : List StepS} (h : StepsAt w b v l) (hb : b' ≤ b) : StepsAt w b' v l := by
  obtain ⟨L, h1, h2, h3⟩ := h
  exact ⟨L, h1, ownsRow_base h2 hb, h3⟩
theorem StepsAt.nil (w : World) (base : Nat) : StepsAt w base nilS [] := ⟨[], rfl, World.ownsRow_nil _ _ _ _, by simp⟩
theorem StepsAt.slice {w : World} {base : Nat} {v : Value} {l : List StepS} (h : StepsAt w base v l) : ∃ a c, v = .slice a l.length c ∧ l.length ≤ c := by
  obtain ⟨L, rfl, h1, -⟩ := h
  rw [List.length_map]
  exact ownsRow_len h1
theorem ReqIs.keep {M : Nat → Prop} {w w' : World} {r : ReqS} {a b c : Value} (h : ReqIs w r a b c) (hk : Keep M w w') (hM : ∀ g cs T, w.heap[g]? = some (.cells cs T (0, 0)) → M g → T ≠ 65 ∧ T ≠ 67) : ReqIs w' r a b c :=
  ⟨ownsRow_keep h.1 hk (fun g cur _ hc hm => (hM g cur 65 hc hm).1 rfl), ownsRow_keep h.2.1 hk (fun g cur _ hc hm => (hM g cur 67 hc hm).2 rfl), ownsRow_keep h.2.2 hk (fun g cur _ hc hm => (hM g cur 67 hc hm).2 rfl)⟩
theorem StepsAt.keep {M : Nat → Prop} {w w' : World} {base : Nat} {v : Value} {l : List StepS} (h : StepsAt w base v l) (hk : Keep M w w') (hv : ∀ g, v.ownBlock = some g → ¬ M g) (hM : ∀ g cs T, w.heap[g]? = some (.cells cs T (0, 0)) → M g → T ≠ 65 ∧ T ≠ 67) : StepsAt w' base v l := by
  obtain ⟨L, h1, h2, h3⟩ := h
  exact ⟨L, h1, ownsRow_keep h2 hk (fun g cur hg _ => hv g hg), fun p hp => (h3 p hp).keep hk hM⟩
theorem StepsAt.far {w w' : World} {base : Nat} {v : Value} {l : List StepS} (h : StepsAt w base v l) (hk : Keep (fun _ => False) w w') : StepsAt w' base v l := h.keep hk (fun _ _ e => e) (fun _ _ _ _ e => e.elim)

theorem Tryz.inf63 : (Tryz.prog.info? 63).map (fun i => (i.zero, i.size, i.bytes)) = some (some (.agg (stepCells .zero nilS nilS nilS)), 19, 192) := by kernel_rfl
theorem run_bs22 (x : StepV) (w : World) : (Instr.buildSlice 22 1 #[(0, .agg (stepEnc x))]).run Tryz.prog w = .ok (.slice (some ⟨w.heap.size, 0, none⟩) 1 1) (w.alloc (.cells (stepEnc x) 63 (0, 0))) := by
  unfold stepEnc stepCells
  go_simp
  try rfl
theorem app_step (w : World) (base : Nat) (v : Value) (l : List StepS) (x : StepV) (h : StepsAt w base v l) (hx : ReqIs w x.1.req x.2.1 x.2.2.1 x.2.2.2) (hn : l.length + 1 ≤ 1048576) (hb : base ≤ w.heap.size) :
    ∃ v' w', (Builtin.append_ #[22, 22] 22 #[v, .slice (some ⟨w.heap.size, 0, none⟩) 1 1]).run Tryz.prog (w.alloc (.cells (stepEnc x) 63 (0, 0))) = .ok v' w' ∧ StepsAt w' base v' (l ++ [x.1]) ∧
      Keep (fun b => some b = v.ownBlock) w w' ∧ (v'.ownBlock = v.ownBlock ∨ v'.ownBlock = some (w.heap.size + 1)) := by
  obtain ⟨i, hi, hz0, hz1, hz2⟩ := info_parts Tryz.inf63
  obtain ⟨L, rfl, h2, h3⟩ := h
  rw [List.length_map] at hn
  obtain ⟨a1, c1, e1, -⟩ := ownsRow_len hx.1
  obtain ⟨a2, c2, e2, -⟩ := ownsRow_len hx.2.1
  obtain ⟨a3, c3, e3, -⟩ := ownsRow_len hx.2.2
  have hone : (stepEnc x).all (·.oneCell') = true := by
    unfold stepEnc
    rw [e1, e2, e3]
    exact stepCells_one _ _ _ _ rfl rfl rfl
  obtain ⟨v', w', hr, h4, h5, h6⟩ := app_one Tryz.underlying22 hi hz0 hz1 hz2 rfl (by decide) stepEnc x rfl (all_one hone) w base v L h2 (by omega) (by omega) hb
  have hk : Keep (fun b => some b = v.ownBlock) w w' := ((Keep.refl _ w).alloc _).trans' (Keep.of_grown h5 (fun k e _ => e.symm))
  have hM : ∀ g cs T, w.heap[g]? = some (.cells cs T (0, 0)) → some g = v.ownBlock → T ≠ 65 ∧ T ≠ 67 := fun g cs T hc he => by
    rcases h2.2 with ⟨rfl, _⟩ | ⟨g', cap, cur, rfl, _, hg, _⟩
    · cases he
    · simp only [Value.ownBlock, Option.some.injEq] at he
      subst he
      rw [hc] at hg
      injection hg with e2
      injection e2 with e3 e4
      subst e4
      decide
  refine ⟨v', w', hr, ⟨L ++ [x], by simp, h4, ?_⟩, hk, h6⟩
  intro p hp
  rcases List.mem_append.1 hp with hp | hp
  · exact (h3 p hp).keep hk hM
  · simp only [List.mem_cons, List.mem_nil_iff, or_false] at hp
    subst hp
    exact hx.keep hk hM
/-- a script's variable: block gb; v: its steps' slice -/
def ScriptAt (w : World) (base gb : Nat) (s : ScriptS) (v : Value) : Prop := w.heap[gb]? = some (.cells #[.int .i64 s.nodes, v] 24 (0, 0)) ∧ StepsAt w base v s.steps
/-- what reading a line's words into a script comes to -/
def GotRead (base gb : Nat) (v : Value) (w : World) (o : Except Int ScriptS) (e : Ending) (w' : World) : Prop :=
  Keep (fun b => b = gb ∨ some b = v.ownBlock) w w' ∧ match o with
    | .ok s => e = .returned (.tuple #[]) ∧ ∃ v', ScriptAt w' base gb s v'
    | .error c => e = gaveUp c
end Go.Proofs.YtifliekahdgobaaGreatDoor
namespace Go.Proofs.YtifliekahdgobaaGreatDoor
open Go.RowKit Sp

theorem LineAt.type {w : World} {lb rb : Nat} {ws : List Str} (h : LineAt w lb rb ws) {cs : Array Value} {T : TypeId} (hc : w.heap[lb]? = some (.cells cs T (0, 0))) : T = 117 := by
  obtain ⟨off, c, h1, _⟩ := h
  rw [h1] at hc
  injection hc with e2
  injection e2 with e3 e4
  exact e4.symm
theorem StepsAt.lt {w : World} {base : Nat} {v : Value} {l : List StepS} (h : StepsAt w base v l) : ∀ g, v.ownBlock = some g → base ≤ g ∧ g < w.heap.size := by
  obtain ⟨L, _, h2, _⟩ := h
  exact h2.lt
/-- a line's turning leaves steps alone -/
theorem StepsAt.line {w w' : World} {base lb rb : Nat} {v : Value} {l : List StepS} {ws : List Str} (h : StepsAt w base v l) (hl : LineAt w lb rb ws) (hk : Keep (fun b => b = lb) w w') (hv : ∀ g, v.ownBlock = some g → ¬ g = lb) : StepsAt w' base v l :=
  h.keep hk hv (fun g cs T hc e => by
    subst e
    rw [hl.type hc]
    decide)
theorem StepsAt.notScript {w : World} {base gb : Nat} {v : Value} {l : List StepS} (h : StepsAt w base v l) {cs : Array Value} (hc : w.heap[gb]? = some (.cells cs 24 (0, 0))) : ¬ v.ownBlock = some gb := fun e => by
  obtain ⟨L, _, h2, _⟩ := h
  rcases h2.2 with ⟨rfl, _⟩ | ⟨g', cap, cur, rfl, _, hg, _⟩
  · cases e
  · simp only [Value.ownBlock, Option.some.injEq] at e
    subst e
    rw [hc] at hg
    injection hg with e2
    injection e2 with e3 e4
    cases e4
/-- how the words of a line stand when it is read -/
structure WordsAt (w : World) (rb off : Nat) (c : Nat) (ws : List Str) : Prop where
  cells : StrsAt w rb off ws
  ok : okWords ws
  cap : ws.length ≤ c
  small : c ≤ 1099511627776
/-- the new line's block -/
theorem line_new {w : World} {rb off c : Nat} {x : Str} {ws : List Str} (h : WordsAt w rb off c (x :: ws)) :
    ∃ off' c', (Instr.sliceAt 48 (.slice (some ⟨rb, off, none⟩) (ws.length + 1) c) (some (.int .i64 1)) none none).run Tryz.prog w = .ok (.slice (some ⟨rb, off', none⟩) ws.length c') w ∧
      LineAt (w.alloc (.cells #[.slice (some ⟨rb, off', none⟩) ws.length c'] 117 (0, 0))) w.heap.size rb ws := by
  have h1 := h.cap
  simp only [List.length_cons] at h1
  obtain ⟨off', c', h2, h3, h4, h5⟩ := run_tail rb off ws.length c w h1
  have hrb : rb < w.heap.size := World.block_lt_of_cell? _ _ (h.cells 0 x rfl)
  refine ⟨off', c', h2, off', c', block_new _ _, h4, Nat.le_trans h5 h.small, by omega, ?_, h.ok.tail⟩
  rcases h3 with h3 | h3
  · intro i y hy
    have : ws = [] := List.length_eq_zero_iff.1 h3
    subst this
    simp at hy
  · subst h3
    exact h.cells.tail.keep ((Keep.refl (fun _ => False) w).alloc _) (fun e => e)

set_option maxRecDepth 100000 in
set_option maxHeartbeats 1600000 in
theorem read_nodes (base gb rb off c : Nat) (v : Value) (s : ScriptS) (ws : List Str) (w : World) (hs : ScriptAt w base gb s v) (hw : WordsAt w rb off c (wNodes :: ws)) :
    Calls Tryz.prog 27 #[.pointer (some ⟨gb, 0, none⟩), .slice (some ⟨rb, off, none⟩) (ws.length + 1) c] w (GotRead base gb v w (line s (wNodes :: ws))) := by
  have hx : w.cell? ⟨rb, off, none⟩ = some (.string ⟨#[110, 111, 100, 101, 115]⟩) := hw.cells 0 wNodes rfl
  obtain ⟨off', c', hsl, hln⟩ := line_new hw
  have hgb := lt_of_block hs.1
  obtain ⟨po, hpo⟩ : ∃ po, po = line s (wNodes :: ws) := ⟨_, rfl⟩
  have hpo2 : po = match pnodes ws with | some n => if s.nodes = 0 then .ok { s with nodes := n } else .error 4 | none => .error 4 := by rw [hpo]; rfl
  rw [← hpo]
  have HPO := Lib.hid hpo2
  clear hpo hpo2
  obtain ⟨W, hW⟩ : ∃ W : World, W = w.alloc (.cells #[.slice (some ⟨rb, off', none⟩) ws.length c'] 117 (0, 0)) := ⟨_, rfl⟩
  rw [← hW] at hln
  have hkW : Keep (fun _ => False) w W := by rw [hW]; exact (Keep.refl _ w).alloc _
  have hxW : (w.alloc (.cells #[.slice (some ⟨rb, off', none⟩) ws.length c'] 117 (0, 0))).cell? ⟨rb, off, none⟩ = some (.string ⟨#[110, 111, 100, 101, 115]⟩) := by rw [← hW]; exact hkW.cellOf hx (fun e => e)
  have hsW := hkW.at' hs.1 (fun e => e)
  have HSW := Lib.hid hsW
  have HST := Lib.hid (hs.2.far hkW)
  have HLN := Lib.hid hln
  have HW := Lib.hid hW
  have hg : ¬ gb = w.heap.size := by omega
  have HVL := Lib.hid hs.2.lt
  clear hW hsW hln hx hw hs
  go_enter Tryz.func27, Tryz.ntmps27
  go_wp2_with fail
  rw [← HW.out]
  clear hsl hxW HW
  generalize hlb : w.heap.size = lb at *
  have HLB := Lib.hid hlb
  clear hlb
  refine (upTo_any 7 lb rb ws W HLN.out (by decide)).mono ?_
  intro e w1 hg1
  obtain ⟨hk1, hg1⟩ := hg1
  have hkk1 : Keep (fun b => b = gb ∨ some b = v.ownBlock) w w1 := hkW.trans hk1 (fun b hb e => by have := HLB.out; omega) |>.mono (fun _ _ e => e.elim)
  rcases hp1 : pnum 7 ws with _ | ⟨n, r⟩
  · rw [hp1] at hg1
    subst hg1
    refine ⟨rfl, hkk1, ?_⟩
    rw [HPO.out, show pnodes ws = none by unfold pnodes; rw [hp1]; rfl]
  rw [hp1] at hg1
  obtain ⟨rfl, hl1⟩ := hg1
  obtain ⟨h0, h7⟩ := pnum_le hp1
  have hs1 := hk1.at' HSW.out hg
  have hc0 : w1.cell? ⟨gb, 0, none⟩ = some (.int .i64 s.nodes) := cell_of_block hs1 0
  have hf0 := free_of_block hs1 0
  have hst1 := HST.out.line HLN.out hk1 (fun g hg e => by have := HLB.out; have := (HVL.out g hg).2; omega)
  obtain ⟨o2, c2, hl3, hl4⟩ := hl1
  have hcl := cell_of_one hl3
  have HS1 := Lib.hid hs1
  have HST1 := Lib.hid hst1
  clear hl3 hl4 hs1 hst1
  have hwr : IntKind.i64.wrap n = n := IntWalk.i64_in _ (by omega)
  unfold u64v
  have hpn : pnodes ws = if 0 < n ∧ r = [] then some n else none := by unfold pnodes; rw [hp1]; rfl
  have HPN := Lib.hid hpn
  clear hpn hp1
  by_cases hn : 0 < n
  · by_cases hr : r = []
    · subst hr
      simp only [List.length_nil] at hcl
      by_cases hz : s.nodes = 0
      · have hc0' : w1.cell? ⟨gb, 0, none⟩ = some (.int .i64 0) := by rw [hc0, hz]
        clear hc0
        go_wp2_with fail
        refine (must_ok _ _).mono ?_
        rintro e w' ⟨rfl, rfl⟩
        go_wp2_with fail
        (try simp only [Exit.inBlock, Exit.then])
        refine bodyPost_ret (results_none rfl _ _ _) rfl ?_
        have hkG : Keep (fun b => b = gb) w1 (w1.setCell ⟨gb, 0, none⟩ (.int .i64 n)) := (Keep.refl (fun b => b = gb) w1).setCell _ _ (.inr rfl)
        refine ⟨hkk1.setCell _ _ (.inr (.inl rfl)), ?_⟩
        rw [HPO.out, HPN.out, if_pos ⟨hn, trivial⟩]
        dsimp only
        rw [if_pos hz]
        refine ⟨rfl, v, block_setCell HS1.out 0 _, HST1.out.keep hkG (fun g hg e => HST1.out.notScript HS1.out (e ▸ hg)) (fun g cs T hc e => by
          subst e
          rw [HS1.out] at hc
          injection hc with e2
          injection e2 with e3 e4
          subst e4
          decide)⟩
      · have hz' : (s.nodes == 0) = false := by simpa using hz
        go_wp2_with fail
        refine (must_no _ _).mono ?_
        rintro e w' ⟨rfl, rfl⟩
        refine ⟨rfl, hkk1, ?_⟩
        rw [HPO.out, HPN.out, if_pos ⟨hn, trivial⟩]
        dsimp only
        rw [if_neg hz]
    · have hr' : ((r.length : Int) == 0) = false := by simpa using hr
      go_wp2_with fail
      refine (must_no _ _).mono ?_
      rintro e w' ⟨rfl, rfl⟩
      refine ⟨rfl, hkk1, ?_⟩
      rw [HPO.out, HPN.out, if_neg (fun e => hr e.2)]
  · go_wp2_with fail
    refine (must_no _ _).mono ?_
    rintro e w' ⟨rfl, rfl⟩
    refine ⟨rfl, hkk1, ?_⟩
    rw [HPO.out, HPN.out, if_neg (fun e => by have := e.1; omega)]
end Go.Proofs.YtifliekahdgobaaGreatDoor
