/-
  THE REFERENCE's WALKS, 18: sameOps, SameStep, Same. Helpers of the claims.
-/
import Derived.Test.YtifliekahdgobaaGreatDoorBW10ToL4
set_option linter.unusedSimpArgs false
set_option linter.unusedVariables false
namespace Go.Proofs.YtifliekahdgobaaGreatDoor
open Go.RowKit Sp

theorem take_step {α : Type} {l1 l2 : List α} {k : Nat} (h1 : k < l1.length) (h2 : k < l2.length) (h : l1.take k = l2.take k) (he : l1[k] = l2[k]) : l1.take (k + 1) = l2.take (k + 1) := by
  rw [List.take_succ_eq_append_getElem h1, List.take_succ_eq_append_getElem h2, h, he]
theorem ne_at {α : Type} {l1 l2 : List α} {k : Nat} (h1 : k < l1.length) (h2 : k < l2.length) (he : ¬ l1[k] = l2[k]) : ¬ l1 = l2 := fun e => by
  subst e
  exact he rfl
set_option maxRecDepth 100000 in
set_option maxHeartbeats 1600000 in
theorem rsameOps_any (v1 v2 : Value) (l1 l2 : List OpS) (w : World) (h1 : RowRead opCells 9 w v1 l1) (h2 : RowRead opCells 9 w v2 l2) (hn : l1.length ≤ 1000000) :
    Calls Tryz.prog 65 #[v1, v2] w (Tells (decide (l1 = l2)) w) := by
  obtain ⟨a1, c1, rfl, -⟩ := id h1
  obtain ⟨a2, c2, rfl, -⟩ := id h2
  have H1 := Lib.hid h1
  have H2 := Lib.hid h2
  clear h1 h2
  obtain ⟨r, hr⟩ : ∃ r, r = decide (l1 = l2) := ⟨_, rfl⟩
  rw [← hr]
  have HR := Lib.hid hr
  clear hr
  by_cases hl : l1.length = l2.length
  · have hl' : ((l1.length : Int) != (l2.length : Int)) = false := by rw [bne_eq_false_iff_eq, hl]
    have HL := Lib.hid hl
    clear hl
    go_enter Tryz.func65, Tryz.ntmps65
    go_wp2_with fail
    go_loopw [5] (fun v5 wr => ∃ k : Nat, k ≤ l1.length ∧ v5 = .int .i64 k ∧ Hid (l1.take k = l2.take k) ∧ Keep (fun _ => False) w wr) (fun v5 _ => l1.length - (intOf v5).toNat)
    case atStart => exact ⟨0, Nat.zero_le _, rfl, Lib.hid rfl, Keep.refl _ _⟩
    case round =>
      obtain ⟨k, hk, rfl, HT, hkr⟩ := hrel
      by_cases hlt : k < l1.length
      · have hlt2 : k < l2.length := by have := HL.out; omega
        obtain ⟨b, o, hbo, hrng⟩ := (H1.out.keep hkr (fun _ _ _ _ _ e => e)).at k hlt
        obtain ⟨b', o', hbo', hrng'⟩ := (H2.out.keep hkr (fun _ _ _ _ _ e => e)).at k hlt2
        subst hbo hbo'
        have hs := fun he => take_step hlt hlt2 HT.out he
        have hne := fun he => ne_at (l1 := l1) (l2 := l2) hlt hlt2 he
        have hlt' : (k : Int) < (l1.length : Int) := by omega
        have hlt2' : (k : Int) < (l2.length : Int) := by omega
        generalize l1[k] = x at *
        generalize l2[k] = y at *
        have hld : ∀ q, (ldT 67 (.pointer (some ⟨b, o + k * 9, none⟩))).run Tryz.prog (wr.drewN q) = .ok (.value (.agg (opCells x))) (wr.drewN q) := fun q => run_ld67 _ b _ _ rfl (fun j u hu => by rw [World.cell?_drewN]; exact hrng j u hu)
        have hld' : ∀ q, (ldT 67 (.pointer (some ⟨b', o' + k * 9, none⟩))).run Tryz.prog (wr.drewN q) = .ok (.value (.agg (opCells y))) (wr.drewN q) := fun q => run_ld67 _ b' _ _ rfl (fun j u hu => by rw [World.cell?_drewN]; exact hrng' j u hu)
        have HS := Lib.hid hs
        have HNE := Lib.hid hne
        have HKR := Lib.hid hkr
        have hneq := fun w => neq67 x y w
        have hgrd := fun (op : BinOp) (a b : Operand) (w : World) => grd67 op a b x y w
        clear hs hne hkr hrng hrng' HT
        by_cases hxy : x = y
        · have hd : decide (x = y) = true := decide_eq_true hxy
          have HE := Lib.hid hxy
          clear hxy
          go_wp2_with fail
          go_quiet (fail)
          go_wp2_with fail
          exact ⟨⟨k + 1, by omega, by go_num, Lib.hid (HS.out HE.out), HKR.out.drewN _⟩, by simp [intOf]; omega⟩
        · have hd : decide (x = y) = false := decide_eq_false hxy
          have HE := Lib.hid hxy
          clear hxy
          go_wp2_with fail
          go_quiet (fail)
          go_wp2_with fail
          go_ret
          exact ⟨by rw [HR.out, decide_eq_false (HNE.out HE.out)]; rfl, HKR.out.drewN _⟩
      · have hge : ¬ (k : Int) < (l1.length : Int) := by omega
        have HE := Lib.hid (show l1 = l2 by
          have := HT.out
          obtain rfl : k = l1.length := by omega
          rw [List.take_length, HL.out, List.take_length] at this
          exact this)
        clear HT
        have HKR := Lib.hid hkr
        clear hkr
        go_wp2_with fail
        go_ret
        exact ⟨by rw [HR.out, decide_eq_true HE.out]; rfl, HKR.out⟩
  · have hl' : ((l1.length : Int) != (l2.length : Int)) = true := by rw [bne_iff_ne]; omega
    have HL := Lib.hid (show ¬ l1 = l2 from fun e => hl (by rw [e]))
    clear hl
    go_enter Tryz.func65, Tryz.ntmps65
    go_wp2_with fail
    go_ret
    exact ⟨by rw [HR.out, decide_eq_false HL.out]; rfl, Keep.refl _ _⟩

/-! ### SameStep -/
theorem info59' : (Tryz.prog.info? 59).map (·.size) = some 8 := info59
/-- the request of a step, stored into a new block -/
structure ReqBlk (w : World) (N : Nat) (r : ReqS) (vc vt ve : Value) : Prop where
  blk : w.heap[N]? = some (.cells (reqCells r vc vt ve) 59 (0, 0))
theorem ReqBlk.keep {M : Nat → Prop} {w w' : World} {N : Nat} {r : ReqS} {vc vt ve : Value} (h : ReqBlk w N r vc vt ve) (hk : Keep M w w') (hM : ¬ M N) : ReqBlk w' N r vc vt ve := ⟨hk.at' h.blk hM⟩
def zero8 : Array Value := #[.int .i64 0, .int .u64 0, .int .u64 0, .bool false, .slice none 0 0, .slice none 0 0, .slice none 0 0, .int .u64 0]
/-- two new blocks, filled -/
theorem two_reqs (V : World) (p q : Nat) (hpq : p ≠ q) (cx cy : Array Value) (hx : cx.size = 8) (hy : cy.size = 8) (ox : cx.all (·.oneCell') = true) (oy : cy.all (·.oneCell') = true)
    (hp : V.heap[p]? = some (.cells zero8 59 (0, 0))) (hq : V.heap[q]? = some (.cells zero8 59 (0, 0))) :
    ∃ V1 V2, (stT 59 (.pointer (some ⟨p, 0, none⟩)) (.agg cx)).run Tryz.prog V = .ok .skip V1 ∧ (stT 59 (.pointer (some ⟨q, 0, none⟩)) (.agg cy)).run Tryz.prog V1 = .ok .skip V2 ∧
      V2.heap[p]? = some (.cells cx 59 (0, 0)) ∧ V2.heap[q]? = some (.cells cy 59 (0, 0)) ∧ Keep (fun b => b = p) V V1 ∧ Keep (fun b => b = p ∨ b = q) V V2 := by
  have h1 := run_st59 V p 0 cx (there_of_block hp (by decide)) hx ox
  have hq1 : (V.setCells p 0 cx.toList).heap[q]? = some (.cells zero8 59 (0, 0)) := by rw [heap_setCells _ _ (fun e => hpq e.symm)]; exact hq
  have hp1 : (V.setCells p 0 cx.toList).heap[p]? = some (.cells cx 59 (0, 0)) := by
    rw [block_setCells_all hp _ (by rw [Array.length_toList, hx]; rfl)]
  have h2 := run_st59 (V.setCells p 0 cx.toList) q 0 cy (there_of_block hq1 (by decide)) hy oy
  refine ⟨_, _, h1, h2, ?_, ?_, ?_, ?_⟩
  · rw [heap_setCells _ _ hpq]; exact hp1
  · rw [block_setCells_all hq1 _ (by rw [Array.length_toList, hy]; rfl)]
  · exact (Keep.refl _ V).setCells _ _ _ (.inr rfl)
  · exact ((Keep.refl _ V).setCells _ _ _ (.inr (.inl rfl))).setCells _ _ _ (.inr (.inr rfl))
theorem reqCells_oneS (r : ReqS) {a1 a2 a3 : Option Addr} {n1 n2 n3 c1 c2 c3 : Nat} : (reqCells r (.slice a1 n1 c1) (.slice a2 n2 c2) (.slice a3 n3 c3)).all (·.oneCell') = true := by simp [reqCells, one_int, one_bool, one_slice]
/-- all but the rows of two steps are alike, and as many comparisons -/
def Heads (a b : StepS) : Prop := a.kind = b.kind ∧ a.node = b.node ∧ a.n = b.n ∧ a.watch = b.watch ∧ a.req.kind = b.req.kind ∧ a.req.client = b.req.client ∧ a.req.num = b.req.num ∧ a.req.serial = b.req.serial ∧ a.req.rev = b.req.rev ∧ a.req.cmps.length = b.req.cmps.length
theorem Heads.eq {a b : StepS} (h : Heads a b) (h1 : a.req.cmps = b.req.cmps) (h2 : a.req.thn = b.req.thn) (h3 : a.req.els = b.req.els) : a = b := by
  obtain ⟨k, n, m, ⟨r1, r2, r3, r4, r5, r6, r7, r8⟩, w⟩ := a
  obtain ⟨k', n', m', ⟨s1, s2, s3, s4, s5, s6, s7, s8⟩, w'⟩ := b
  obtain ⟨g1, g2, g3, g4, g5, g6, g7, g8, g9, _⟩ := h
  dsimp only at *
  subst g1 g2 g3 g4 g5 g6 g7 g8 g9 h1 h2 h3
  rfl
set_option maxRecDepth 100000 in
set_option maxHeartbeats 12800000 in
theorem rsame_any (a b : StepS) (vca vta vea vcb vtb veb : Value) (w : World) (ha : ReqRead w a.req vca vta vea) (hb : ReqRead w b.req vcb vtb veb) (hla : a.req.cmps.length ≤ 1000000 ∧ a.req.thn.length ≤ 1000000 ∧ a.req.els.length ≤ 1000000) :
    Calls Tryz.prog 32 #[.agg (stepCells a vca vta vea), .agg (stepCells b vcb vtb veb)] w (Tells (decide (a = b)) w) := by
  obtain ⟨N, hN⟩ : ∃ N, N = w.heap.size := ⟨_, rfl⟩
  obtain ⟨ca, hca⟩ : ∃ c, c = stepCells a vca vta vea := ⟨_, rfl⟩
  obtain ⟨cb, hcb⟩ : ∃ c, c = stepCells b vcb vtb veb := ⟨_, rfl⟩
  obtain ⟨W, hW⟩ : ∃ W : World, W = (w.alloc (.cells ca 63)).alloc (.cells cb 63) := ⟨_, rfl⟩
  have hkW : Keep (fun _ => False) w W := by rw [hW]; exact ((Keep.refl _ w).alloc _).alloc _
  have hsz : W.heap.size = N + 2 := by rw [hW, hN]; simp
  have hA : StepBlk W N a vca vta vea := ⟨by rw [hW, hN, hca]; exact block_alloc (block_new _ _) _⟩
  have hB : StepBlk W (N + 1) b vcb vtb veb := ⟨by rw [hW, hN, hcb]; exact block_new' _ _ (by simp)⟩
  rw [← hca, ← hcb]
  have HS : ∀ w', Keep (fun _ => False) W w' → Keep (fun _ => False) W w' ∧ (ldT 59 (.pointer (some ⟨N, 3, none⟩))).run Tryz.prog w' = .ok (.value (.agg (reqCells a.req vca vta vea))) w' ∧ (ldT 59 (.pointer (some ⟨N + 1, 3, none⟩))).run Tryz.prog w' = .ok (.value (.agg (reqCells b.req vcb vtb veb))) w' := fun w' hk => ⟨hk, (hA.keep hk (fun e => e)).req, (hB.keep hk (fun e => e)).req⟩
  have HSH := Lib.hid HS
  have HW := Lib.hid hW
  have HA := Lib.hid hA
  have HB := Lib.hid hB
  have HKW := Lib.hid hkW
  have HSZ := Lib.hid hsz
  have HN := Lib.hid hN
  have HRA := Lib.hid ha
  have HRB := Lib.hid hb
  have HLA := Lib.hid hla
  obtain ⟨⟨a1, c1, e1, -⟩, ⟨a2, c2, e2, -⟩, ⟨a3, c3, e3, -⟩⟩ := ha
  obtain ⟨⟨b1, d1, f1, -⟩, ⟨b2, d2, f2, -⟩, ⟨b3, d3, f3, -⟩⟩ := hb
  clear HS hW hA hB hkW hsz hN hca hcb hla
  go_enter Tryz.func32, Tryz.ntmps32
  go_wp2_with fail
  rw [← HW.out]
  generalize hNW : w.heap.size = N' at *
  obtain rfl : N = N' := HN.out
  go_cut [5, 6] from 8 to 12 (fun v5 v6 wx => ∃ p q : Nat, v5 = .pointer (some ⟨p, 0, none⟩) ∧ v6 = .pointer (some ⟨q, 0, none⟩) ∧ Hid (ReqBlk wx p a.req vca vta vea ∧ ReqBlk wx q b.req vcb vtb veb ∧ Keep (fun _ => False) W wx))
  case first =>
    obtain ⟨V, hV⟩ : ∃ V : World, V = ((W.alloc (.cells zero8 59)).alloc (.cells zero8 59)).drew := ⟨_, rfl⟩
    have hkV : Keep (fun _ => False) W V := by rw [hV]; exact (((Keep.refl _ W).alloc _).alloc _).drew
    have hp : V.heap[W.heap.size]? = some (.cells zero8 59 (0, 0)) := by rw [hV]; exact block_alloc (block_new' _ _ rfl) _
    have hq : V.heap[W.heap.size + 1]? = some (.cells zero8 59 (0, 0)) := by rw [hV]; exact block_new' _ _ (by simp)
    have ox : (reqCells a.req vca vta vea).all (·.oneCell') = true := by rw [e1, e2, e3]; exact reqCells_oneS _
    have oy : (reqCells b.req vcb vtb veb).all (·.oneCell') = true := by rw [f1, f2, f3]; exact reqCells_oneS _
    obtain ⟨V1, V2, s1, s2, k1, k2, m1, m2⟩ := two_reqs V W.heap.size (W.heap.size + 1) (by omega) (reqCells a.req vca vta vea) (reqCells b.req vcb vtb veb) rfl rfl ox oy hp hq
    obtain ⟨U1, U2, s3, s4, k3, k4, m3, m4⟩ := two_reqs V (W.heap.size + 1) W.heap.size (by omega) (reqCells a.req vca vta vea) (reqCells b.req vcb vtb veb) rfl rfl ox oy hq hp
    have HM1 := Lib.hid (hkV.trans m1 (fun b hb e => by omega))
    have HM2 := Lib.hid (hkV.trans m2 (fun b hb e => by omega))
    have HM3 := Lib.hid (hkV.trans m3 (fun b hb e => by omega))
    have HM4 := Lib.hid (hkV.trans m4 (fun b hb e => by omega))
    have HF1 := Lib.hid (show ReqBlk V2 W.heap.size a.req vca vta vea ∧ ReqBlk V2 (W.heap.size + 1) b.req vcb vtb veb ∧ Keep (fun _ => False) W V2 from ⟨⟨k1⟩, ⟨k2⟩, HM2.out⟩)
    have HF2 := Lib.hid (show ReqBlk U2 (W.heap.size + 1) a.req vca vta vea ∧ ReqBlk U2 W.heap.size b.req vcb vtb veb ∧ Keep (fun _ => False) W U2 from ⟨⟨k3⟩, ⟨k4⟩, HM4.out⟩)
    rw [hV] at s1 s3
    unfold zero8 at s1 s3
    clear hV hkV hp hq ox oy k1 k2 k3 k4 m1 m2 m3 m4 e1 e2 e3 f1 f2 f3
    generalize reqCells a.req vca vta vea = rx at *
    generalize reqCells b.req vcb vtb veb = ry at *
    go_region_held3 (fun w' => Keep (fun _ => False) W w' ∧ (ldT 59 (.pointer (some ⟨N, 3, none⟩))).run Tryz.prog w' = .ok (.value (.agg rx)) w' ∧ (ldT 59 (.pointer (some ⟨N + 1, 3, none⟩))).run Tryz.prog w' = .ok (.value (.agg ry)) w')
      (first | exact HSH.out _ ((Keep.refl _ _).drew) | exact HSH.out _ (held_alloc (by assumption) _) | exact HSH.out _ HM1.out | exact HSH.out _ HM2.out | exact HSH.out _ HM3.out | exact HSH.out _ HM4.out)
      (fail)
    all_goals
      go_wp2_with fail
      go_meet
      first | exact ⟨_, _, rfl, rfl, HF1⟩ | exact ⟨_, _, rfl, rfl, HF2⟩
  case rest =>
    obtain ⟨p, q, rfl, rfl, HC⟩ := hcut
    obtain ⟨hp, hq, hkc⟩ := HC.out
    have hA := HA.out.keep hkc (fun e => e)
    have hB := HB.out.keep hkc (fun e => e)
    have HPB := Lib.hid hp
    have HQB := Lib.hid hq
    have HKC := Lib.hid hkc
    clear hkc HSH
    subst e1 e2 e3 f1 f2 f3
    have ca0 : wc.cell? ⟨N, 0, none⟩ = some (.int .i64 a.kind) := cell_of_block hA.blk 0
    have ca1 : wc.cell? ⟨N, 1, none⟩ = some (.int .i64 a.node) := cell_of_block hA.blk 1
    have ca2 : wc.cell? ⟨N, 2, none⟩ = some (.int .u64 a.n) := cell_of_block hA.blk 2
    have caw := hA.watch
    have cb0 : wc.cell? ⟨N + 1, 0, none⟩ = some (.int .i64 b.kind) := cell_of_block hB.blk 0
    have cb1 : wc.cell? ⟨N + 1, 1, none⟩ = some (.int .i64 b.node) := cell_of_block hB.blk 1
    have cb2 : wc.cell? ⟨N + 1, 2, none⟩ = some (.int .u64 b.n) := cell_of_block hB.blk 2
    have cbw := hB.watch
    have da0 : wc.cell? ⟨p, 0, none⟩ = some (.int .i64 a.req.kind) := cell_of_block hp.blk 0
    have da1 : wc.cell? ⟨p, 1, none⟩ = some (.int .u64 a.req.client) := cell_of_block hp.blk 1
    have da2 : wc.cell? ⟨p, 2, none⟩ = some (.int .u64 a.req.num) := cell_of_block hp.blk 2
    have da3 : wc.cell? ⟨p, 3, none⟩ = some (.bool a.req.serial) := cell_of_block hp.blk 3
    have da7 : wc.cell? ⟨p, 7, none⟩ = some (.int .u64 a.req.rev) := cell_of_block hp.blk 7
    have da4 : wc.cell? ⟨p, 4, none⟩ = some (.slice a1 a.req.cmps.length c1) := cell_of_block hp.blk 4
    have db0 : wc.cell? ⟨q, 0, none⟩ = some (.int .i64 b.req.kind) := cell_of_block hq.blk 0
    have db1 : wc.cell? ⟨q, 1, none⟩ = some (.int .u64 b.req.client) := cell_of_block hq.blk 1
    have db2 : wc.cell? ⟨q, 2, none⟩ = some (.int .u64 b.req.num) := cell_of_block hq.blk 2
    have db3 : wc.cell? ⟨q, 3, none⟩ = some (.bool b.req.serial) := cell_of_block hq.blk 3
    have db7 : wc.cell? ⟨q, 7, none⟩ = some (.int .u64 b.req.rev) := cell_of_block hq.blk 7
    have db4 : wc.cell? ⟨q, 4, none⟩ = some (.slice b1 b.req.cmps.length d1) := cell_of_block hq.blk 4
    obtain ⟨sa, hsa⟩ : ∃ s, s = a.req.serial := ⟨_, rfl⟩
    obtain ⟨sb, hsb⟩ : ∃ s, s = b.req.serial := ⟨_, rfl⟩
    rw [← hsa] at da3
    rw [← hsb] at db3
    have HSA := Lib.hid hsa
    have HSB := Lib.hid hsb
    clear hsa hsb
    have hneq := fun w => neq61 a.watch b.watch w
    have hgrd := fun (op : BinOp) (x y : Operand) (w : World) => grd61 op x y a.watch b.watch w
    clear hA hB hp hq
    go_upto_region 2 with fail
    go_cut [81] from 12 to 82 (fun v81 wx => ∃ r : Bool, v81 = .bool r ∧ wx = wc ∧ Hid ((r = true → a ≠ b) ∧ (r = false → Heads a b)))
    case first =>
      by_cases h1 : a.kind = b.kind
      rotate_left
      · have g1 : (a.kind != b.kind) = true := by rw [bne_iff_ne]; exact h1
        have HE := Lib.hid (show a ≠ b from fun e => h1 (by rw [e]))
        clear h1
        go_wp2_with fail
        go_meet
        exact ⟨true, rfl, rfl, Lib.hid ⟨fun _ => HE.out, fun e => by cases e⟩⟩
      have g1 : (a.kind != b.kind) = false := by rw [bne_eq_false_iff_eq]; exact h1
      have H1 := Lib.hid h1
      clear h1
      by_cases h2 : a.node = b.node
      rotate_left
      · have g2 : (a.node != b.node) = true := by rw [bne_iff_ne]; exact h2
        have HE := Lib.hid (show a ≠ b from fun e => h2 (by rw [e]))
        clear h2
        go_wp2_with fail
        go_meet
        exact ⟨true, rfl, rfl, Lib.hid ⟨fun _ => HE.out, fun e => by cases e⟩⟩
      have g2 : (a.node != b.node) = false := by rw [bne_eq_false_iff_eq]; exact h2
      have H2 := Lib.hid h2
      clear h2
      by_cases h3 : a.n = b.n
      rotate_left
      · have g3 : (a.n != b.n) = true := by rw [bne_iff_ne]; exact h3
        have HE := Lib.hid (show a ≠ b from fun e => h3 (by rw [e]))
        clear h3
        go_wp2_with fail
        go_meet
        exact ⟨true, rfl, rfl, Lib.hid ⟨fun _ => HE.out, fun e => by cases e⟩⟩
      have g3 : (a.n != b.n) = false := by rw [bne_eq_false_iff_eq]; exact h3
      have H3 := Lib.hid h3
      clear h3
      by_cases h4 : a.watch = b.watch
      rotate_left
      · have g4 : decide (a.watch = b.watch) = false := decide_eq_false h4
        have HE := Lib.hid (show a ≠ b from fun e => h4 (by rw [e]))
        clear h4
        go_wp2_with fail
        go_meet
        exact ⟨true, rfl, rfl, Lib.hid ⟨fun _ => HE.out, fun e => by cases e⟩⟩
      have g4 : decide (a.watch = b.watch) = true := decide_eq_true h4
      have H4 := Lib.hid h4
      clear h4
      by_cases h5 : a.req.kind = b.req.kind
      rotate_left
      · have g5 : (a.req.kind != b.req.kind) = true := by rw [bne_iff_ne]; exact h5
        have HE := Lib.hid (show a ≠ b from fun e => h5 (by rw [e]))
        clear h5
        go_wp2_with fail
        go_meet
        exact ⟨true, rfl, rfl, Lib.hid ⟨fun _ => HE.out, fun e => by cases e⟩⟩
      have g5 : (a.req.kind != b.req.kind) = false := by rw [bne_eq_false_iff_eq]; exact h5
      have H5 := Lib.hid h5
      clear h5
      by_cases h6 : a.req.client = b.req.client
      rotate_left
      · have g6 : (a.req.client != b.req.client) = true := by rw [bne_iff_ne]; exact h6
        have HE := Lib.hid (show a ≠ b from fun e => h6 (by rw [e]))
        clear h6
        go_wp2_with fail
        go_meet
        exact ⟨true, rfl, rfl, Lib.hid ⟨fun _ => HE.out, fun e => by cases e⟩⟩
      have g6 : (a.req.client != b.req.client) = false := by rw [bne_eq_false_iff_eq]; exact h6
      have H6 := Lib.hid h6
      clear h6
      by_cases h7 : a.req.num = b.req.num
      rotate_left
      · have g7 : (a.req.num != b.req.num) = true := by rw [bne_iff_ne]; exact h7
        have HE := Lib.hid (show a ≠ b from fun e => h7 (by rw [e]))
        clear h7
        go_wp2_with fail
        go_meet
        exact ⟨true, rfl, rfl, Lib.hid ⟨fun _ => HE.out, fun e => by cases e⟩⟩
      have g7 : (a.req.num != b.req.num) = false := by rw [bne_eq_false_iff_eq]; exact h7
      have H7 := Lib.hid h7
      clear h7
      by_cases h8 : sa = sb
      rotate_left
      · have HE := Lib.hid (show a ≠ b from fun e => h8 (by rw [HSA.out, HSB.out, e]))
        cases sa <;> cases sb
        · exact absurd rfl h8
        · clear h8
          go_wp2_with fail
          go_meet
          exact ⟨true, rfl, rfl, Lib.hid ⟨fun _ => HE.out, fun e => by cases e⟩⟩
        · clear h8
          go_wp2_with fail
          go_meet
          exact ⟨true, rfl, rfl, Lib.hid ⟨fun _ => HE.out, fun e => by cases e⟩⟩
        · exact absurd rfl h8
      subst h8
      have H8 := Lib.hid (HSA.out.symm.trans HSB.out)
      by_cases h9 : a.req.rev = b.req.rev
      rotate_left
      · have g9 : (a.req.rev != b.req.rev) = true := by rw [bne_iff_ne]; exact h9
        have HE := Lib.hid (show a ≠ b from fun e => h9 (by rw [e]))
        clear h9
        go_wp2_with fail
        go_meet
        exact ⟨true, rfl, rfl, Lib.hid ⟨fun _ => HE.out, fun e => by cases e⟩⟩
      have g9 : (a.req.rev != b.req.rev) = false := by rw [bne_eq_false_iff_eq]; exact h9
      have H9 := Lib.hid h9
      clear h9
      by_cases h10 : a.req.cmps.length = b.req.cmps.length
      rotate_left
      · have g10 : ((a.req.cmps.length : Int) != (b.req.cmps.length : Int)) = true := by rw [bne_iff_ne]; omega
        have HE := Lib.hid (show a ≠ b from fun e => h10 (by rw [e]))
        clear h10
        go_wp2_with fail
        go_meet
        exact ⟨_, rfl, rfl, Lib.hid ⟨fun _ => HE.out, fun e => (by first | cases e | (rw [g10] at e; cases e))⟩⟩
      have g10 : ((a.req.cmps.length : Int) != (b.req.cmps.length : Int)) = false := by rw [bne_eq_false_iff_eq, h10]
      have H10 := Lib.hid h10
      clear h10
      go_wp2_with fail
      go_meet
      exact ⟨false, rfl, rfl, Lib.hid ⟨fun e => (by cases e), fun _ => ⟨H1.out, H2.out, H3.out, H4.out, H5.out, H6.out, H7.out, H8.out, H9.out, H10.out⟩⟩⟩
    case rest =>
      obtain ⟨r, rfl, rfl, HR⟩ := hcut
      clear ca0 cb0 ca1 cb1 ca2 cb2 caw cbw hneq hgrd da0 db0 da1 db1 da2 db2 da3 db3 da7 db7
      cases r
      · have HH := Lib.hid (HR.out.2 rfl)
        clear HR
        have hlen := HH.out.2.2.2.2.2.2.2.2.2
        have HKK := Lib.hid (HKW.out.trans' HKC.out)
        have HLEN := Lib.hid hlen
        have HRA2 := Lib.hid (HRA.out.far HKK.out)
        have HRB2 := Lib.hid (HRB.out.far HKK.out)
        have dlen : (a.req.cmps.length : Int) ≤ 1000000 := by have := HLA.out.1; omega
        clear hlen HRA HRB HW HA HB
        go_wp2_with fail
        go_loopw [7] (fun v7 wr => ∃ k : Nat, k ≤ a.req.cmps.length ∧ v7 = .int .i64 k ∧ Hid (a.req.cmps.take k = b.req.cmps.take k) ∧ Keep (fun _ => False) wc wr) (fun v7 _ => a.req.cmps.length - (intOf v7).toNat)
        case atStart => exact ⟨0, Nat.zero_le _, rfl, Lib.hid rfl, Keep.refl _ _⟩
        case round =>
          obtain ⟨k, hk, rfl, HT, hkr⟩ := hrel
          have hpr := HPB.out.keep hkr (fun e => e)
          have hqr := HQB.out.keep hkr (fun e => e)
          have x4 : wr.cell? ⟨p, 4, none⟩ = some (.slice a1 a.req.cmps.length c1) := cell_of_block hpr.blk 4
          have y4 : wr.cell? ⟨q, 4, none⟩ = some (.slice b1 b.req.cmps.length d1) := cell_of_block hqr.blk 4
          by_cases hlt : k < a.req.cmps.length
          · have hlt2 : k < b.req.cmps.length := by have := HLEN.out; omega
            obtain ⟨g, o, hbo, hrng⟩ := (HRA2.out.1.keep hkr (fun _ _ _ _ _ e => e)).at k hlt
            obtain ⟨g', o', hbo', hrng'⟩ := (HRB2.out.1.keep hkr (fun _ _ _ _ _ e => e)).at k hlt2
            subst hbo hbo'
            have hs := fun he => take_step hlt hlt2 HT.out he
            have hne := fun he => ne_at (l1 := a.req.cmps) (l2 := b.req.cmps) hlt hlt2 he
            have hlt' : (k : Int) < (a.req.cmps.length : Int) := by omega
            have hlt2' : (k : Int) < (b.req.cmps.length : Int) := by omega
            generalize a.req.cmps[k] = x at *
            generalize b.req.cmps[k] = y at *
            have hld : ∀ m, (ldT 65 (.pointer (some ⟨g, o + k * 5, none⟩))).run Tryz.prog (wr.drewN m) = .ok (.value (.agg (cmpCells x))) (wr.drewN m) := fun m => run_ld65 _ g _ _ rfl (fun j u hu => by rw [World.cell?_drewN]; exact hrng j u hu)
            have hld' : ∀ m, (ldT 65 (.pointer (some ⟨g', o' + k * 5, none⟩))).run Tryz.prog (wr.drewN m) = .ok (.value (.agg (cmpCells y))) (wr.drewN m) := fun m => run_ld65 _ g' _ _ rfl (fun j u hu => by rw [World.cell?_drewN]; exact hrng' j u hu)
            have HS := Lib.hid hs
            have HNE := Lib.hid hne
            have HKR := Lib.hid hkr
            have hneq := fun w => neq65 x y w
            have hgrd := fun (op : BinOp) (a b : Operand) (w : World) => grd65 op a b x y w
            clear hs hne hkr hrng hrng' HT hpr hqr
            by_cases hxy : x = y
            · have hd : decide (x = y) = true := decide_eq_true hxy
              have HE := Lib.hid hxy
              clear hxy
              go_wp2_with fail
              go_quiet (fail)
              go_wp2_with fail
              exact ⟨⟨k + 1, by omega, by go_num, Lib.hid (HS.out HE.out), HKR.out.drewN _⟩, by simp [intOf]; omega⟩
            · have hd : decide (x = y) = false := decide_eq_false hxy
              have HE := Lib.hid hxy
              clear hxy
              go_wp2_with fail
              go_quiet (fail)
              go_wp2_with fail
              go_ret
              exact ⟨by rw [decide_eq_false (fun e => HNE.out HE.out (by rw [e]))]; rfl, (HKK.out.trans' HKR.out).drewN _⟩
          · have hge : ¬ (k : Int) < (a.req.cmps.length : Int) := by omega
            have HE := Lib.hid (show a.req.cmps = b.req.cmps by
              have := HT.out
              obtain rfl : k = a.req.cmps.length := by omega
              rw [List.take_length, HLEN.out, List.take_length] at this
              exact this)
            have x5 : wr.cell? ⟨p, 5, none⟩ = some (.slice a2 a.req.thn.length c2) := cell_of_block hpr.blk 5
            have y5 : wr.cell? ⟨q, 5, none⟩ = some (.slice b2 b.req.thn.length d2) := cell_of_block hqr.blk 5
            have HPR := Lib.hid hpr
            have HQR := Lib.hid hqr
            have HKR := Lib.hid hkr
            have hops := rsameOps_any (.slice a2 a.req.thn.length c2) (.slice b2 b.req.thn.length d2) a.req.thn b.req.thn wr (HRA2.out.2.1.keep hkr (fun _ _ _ _ _ e => e)) (HRB2.out.2.1.keep hkr (fun _ _ _ _ _ e => e)) HLA.out.2.1
            have HOPS := Lib.hid hops
            clear HT hpr hqr hkr hops
            go_wp2_with fail
            refine HOPS.out.mono ?_
            rintro e w2 ⟨rfl, hk2⟩
            by_cases ht : a.req.thn = b.req.thn
            · have hd : decide (a.req.thn = b.req.thn) = true := decide_eq_true ht
              have hpr := HPR.out.keep hk2 (fun e => e)
              have hqr := HQR.out.keep hk2 (fun e => e)
              have x6 : w2.cell? ⟨p, 6, none⟩ = some (.slice a3 a.req.els.length c3) := cell_of_block hpr.blk 6
              have y6 : w2.cell? ⟨q, 6, none⟩ = some (.slice b3 b.req.els.length d3) := cell_of_block hqr.blk 6
              have hk3 := HKR.out.trans' hk2
              have HOPS3 := Lib.hid (rsameOps_any (.slice a3 a.req.els.length c3) (.slice b3 b.req.els.length d3) a.req.els b.req.els w2 (HRA2.out.2.2.keep hk3 (fun _ _ _ _ _ e => e)) (HRB2.out.2.2.keep hk3 (fun _ _ _ _ _ e => e)) HLA.out.2.2)
              have HK3 := Lib.hid hk3
              have HTH := Lib.hid ht
              clear ht hpr hqr hk3 hk2
              go_wp2_with fail
              refine HOPS3.out.mono ?_
              rintro e w3 ⟨rfl, hk4⟩
              have HK4 := Lib.hid hk4
              clear hk4
              have HEND := Lib.hid (show decide (a.req.els = b.req.els) = decide (a = b) from decide_eq_decide.2 ⟨fun h => HH.out.eq HE.out HTH.out h, fun h => by rw [h]⟩)
              go_wp2_with fail
              go_ret
              exact ⟨by rw [← HEND.out]; rfl, (HKK.out.trans' HK3.out).trans' HK4.out⟩
            · have hd : decide (a.req.thn = b.req.thn) = false := decide_eq_false ht
              have HTH := Lib.hid (show a ≠ b from fun e => ht (by rw [e]))
              have HK2 := Lib.hid hk2
              clear ht hk2
              go_wp2_with fail
              go_ret
              exact ⟨by rw [decide_eq_false HTH.out]; rfl, (HKK.out.trans' HKR.out).trans' HK2.out⟩
      · have HNE := Lib.hid (HR.out.1 rfl)
        clear HR
        go_wp2_with fail
        go_ret
        exact ⟨by rw [decide_eq_false HNE.out]; rfl, HKW.out.trans' HKC.out⟩
end Go.Proofs.YtifliekahdgobaaGreatDoor
