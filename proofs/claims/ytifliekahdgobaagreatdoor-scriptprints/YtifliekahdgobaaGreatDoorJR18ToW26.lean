/-
  THE REFERENCE's WALKS, 18: sameOps, SameStep, Same. Helpers of the claims.
  THE WALKS, 25: what the rules write, by their kinds; sameReq. Helpers of the claims.
  THE WALKS, 26: slices.Equal at structs; sameReq (printed by wip/tools/gen_w26.py). Helpers of the claims.
-/
import Derived.Test.YtifliekahdgobaaGreatDoorJR19ToR20
import Derived.Test.YtifliekahdgobaaGreatDoorJW12ToR12
set_option linter.unusedSimpArgs false
set_option linter.unusedVariables false
namespace Go.Proofs.YtifliekahdgobaaGreatDoor
open Go.RowKit Sp

theorem take_step {α : Type} {l1 l2 : List α} {k : Nat} (h1 : k < l1.length) (h2 : k < l2.length) (h : l1.take k = l2.take k) (he : l1[k] = l2[k]) : l1.take (k + 1) = l2.take (k + 1) := by
  rw [List.take_succ_eq_append_getElem h1, List.take_succ_eq_append_getElem h2, h, he]
theorem ne_at {α : Type} {l1 l2 : List α} {k : Nat} (h1 : k < l1.length) (h2 : k < l2.length) (he : ¬ l1[k] = l2[k]) : ¬ l1 = l2 := fun e => by
  subst e
  exact he rfl
set_option maxRecDepth 100000 in
set_option maxHeartbeats 1600000 in
theorem rsameOps_any (v1 v2 : Value) (l1 l2 : List OpS) (w : World) (h1 : RowRead opCells 9 w v1 l1) (h2 : RowRead opCells 9 w v2 l2) (hn : l1.length ≤ 1000000) :
    Calls Tryz.prog 65 #[v1, v2] w (Tells (decide (l1 = l2)) w) := by
  obtain ⟨a1, c1, rfl, -⟩ := id h1
  obtain ⟨a2, c2, rfl, -⟩ := id h2
  have H1 := Lib.hid h1
  have H2 := Lib.hid h2
  clear h1 h2
  obtain ⟨r, hr⟩ : ∃ r, r = decide (l1 = l2) := ⟨_, rfl⟩
  rw [← hr]
  have HR := Lib.hid hr
  clear hr
  by_cases hl : l1.length = l2.length
  · have hl' : ((l1.length : Int) != (l2.length : Int)) = false := by rw [bne_eq_false_iff_eq, hl]
    have HL := Lib.hid hl
    clear hl
    go_enter Tryz.func65, Tryz.ntmps65
    go_wp2_with fail
    go_loopw [5] (fun v5 wr => ∃ k : Nat, k ≤ l1.length ∧ v5 = .int .i64 k ∧ Hid (l1.take k = l2.take k) ∧ Keep (fun _ => False) w wr) (fun v5 _ => l1.length - (intOf v5).toNat)
    case atStart => exact ⟨0, Nat.zero_le _, rfl, Lib.hid rfl, Keep.refl _ _⟩
    case round =>
      obtain ⟨k, hk, rfl, HT, hkr⟩ := hrel
      by_cases hlt : k < l1.length
      · have hlt2 : k < l2.length := by have := HL.out; omega
        obtain ⟨b, o, hbo, hrng⟩ := (H1.out.keep hkr (fun _ _ _ _ _ e => e)).at k hlt
        obtain ⟨b', o', hbo', hrng'⟩ := (H2.out.keep hkr (fun _ _ _ _ _ e => e)).at k hlt2
        subst hbo hbo'
        have hs := fun he => take_step hlt hlt2 HT.out he
        have hne := fun he => ne_at (l1 := l1) (l2 := l2) hlt hlt2 he
        have hlt' : (k : Int) < (l1.length : Int) := by omega
        have hlt2' : (k : Int) < (l2.length : Int) := by omega
        generalize l1[k] = x at *
        generalize l2[k] = y at *
        have hld : ∀ q, (ldT 67 (.pointer (some ⟨b, o + k * 9, none⟩))).run Tryz.prog (wr.drewN q) = .ok (.value (.agg (opCells x))) (wr.drewN q) := fun q => run_ld67 _ b _ _ rfl (fun j u hu => by rw [World.cell?_drewN]; exact hrng j u hu)
        have hld' : ∀ q, (ldT 67 (.pointer (some ⟨b', o' + k * 9, none⟩))).run Tryz.prog (wr.drewN q) = .ok (.value (.agg (opCells y))) (wr.drewN q) := fun q => run_ld67 _ b' _ _ rfl (fun j u hu => by rw [World.cell?_drewN]; exact hrng' j u hu)
        have HS := Lib.hid hs
        have HNE := Lib.hid hne
        have HKR := Lib.hid hkr
        have hneq := fun w => neq67 x y w
        have hgrd := fun (op : BinOp) (a b : Operand) (w : World) => grd67 op a b x y w
        clear hs hne hkr hrng hrng' HT
        by_cases hxy : x = y
        · have hd : decide (x = y) = true := decide_eq_true hxy
          have HE := Lib.hid hxy
          clear hxy
          go_wp2_with fail
          go_quiet (fail)
          go_wp2_with fail
          exact ⟨⟨k + 1, by omega, by go_num, Lib.hid (HS.out HE.out), HKR.out.drewN _⟩, by simp [intOf]; omega⟩
        · have hd : decide (x = y) = false := decide_eq_false hxy
          have HE := Lib.hid hxy
          clear hxy
          go_wp2_with fail
          go_quiet (fail)
          go_wp2_with fail
          go_ret
          exact ⟨by rw [HR.out, decide_eq_false (HNE.out HE.out)]; rfl, HKR.out.drewN _⟩
      · have hge : ¬ (k : Int) < (l1.length : Int) := by omega
        have HE := Lib.hid (show l1 = l2 by
          have := HT.out
          obtain rfl : k = l1.length := by omega
          rw [List.take_length, HL.out, List.take_length] at this
          exact this)
        clear HT
        have HKR := Lib.hid hkr
        clear hkr
        go_wp2_with fail
        go_ret
        exact ⟨by rw [HR.out, decide_eq_true HE.out]; rfl, HKR.out⟩
  · have hl' : ((l1.length : Int) != (l2.length : Int)) = true := by rw [bne_iff_ne]; omega
    have HL := Lib.hid (show ¬ l1 = l2 from fun e => hl (by rw [e]))
    clear hl
    go_enter Tryz.func65, Tryz.ntmps65
    go_wp2_with fail
    go_ret
    exact ⟨by rw [HR.out, decide_eq_false HL.out]; rfl, Keep.refl _ _⟩

/-! ### SameStep -/
theorem info59' : (Tryz.prog.info? 59).map (·.size) = some 8 := info59
/-- the request of a step, stored into a new block -/
structure ReqBlk (w : World) (N : Nat) (r : ReqS) (vc vt ve : Value) : Prop where
  blk : w.heap[N]? = some (.cells (reqCells r vc vt ve) 59 (0, 0))
theorem ReqBlk.keep {M : Nat → Prop} {w w' : World} {N : Nat} {r : ReqS} {vc vt ve : Value} (h : ReqBlk w N r vc vt ve) (hk : Keep M w w') (hM : ¬ M N) : ReqBlk w' N r vc vt ve := ⟨hk.at' h.blk hM⟩
def zero8 : Array Value := #[.int .i64 0, .int .u64 0, .int .u64 0, .bool false, .slice none 0 0, .slice none 0 0, .slice none 0 0, .int .u64 0]
/-- two new blocks, filled -/
theorem two_reqs (V : World) (p q : Nat) (hpq : p ≠ q) (cx cy : Array Value) (hx : cx.size = 8) (hy : cy.size = 8) (ox : cx.all (·.oneCell') = true) (oy : cy.all (·.oneCell') = true)
    (hp : V.heap[p]? = some (.cells zero8 59 (0, 0))) (hq : V.heap[q]? = some (.cells zero8 59 (0, 0))) :
    ∃ V1 V2, (stT 59 (.pointer (some ⟨p, 0, none⟩)) (.agg cx)).run Tryz.prog V = .ok .skip V1 ∧ (stT 59 (.pointer (some ⟨q, 0, none⟩)) (.agg cy)).run Tryz.prog V1 = .ok .skip V2 ∧
      V2.heap[p]? = some (.cells cx 59 (0, 0)) ∧ V2.heap[q]? = some (.cells cy 59 (0, 0)) ∧ Keep (fun b => b = p) V V1 ∧ Keep (fun b => b = p ∨ b = q) V V2 := by
  have h1 := run_st59 V p 0 cx (there_of_block hp (by decide)) hx ox
  have hq1 : (V.setCells p 0 cx.toList).heap[q]? = some (.cells zero8 59 (0, 0)) := by rw [heap_setCells _ _ (fun e => hpq e.symm)]; exact hq
  have hp1 : (V.setCells p 0 cx.toList).heap[p]? = some (.cells cx 59 (0, 0)) := by
    rw [block_setCells_all hp _ (by rw [Array.length_toList, hx]; rfl)]
  have h2 := run_st59 (V.setCells p 0 cx.toList) q 0 cy (there_of_block hq1 (by decide)) hy oy
  refine ⟨_, _, h1, h2, ?_, ?_, ?_, ?_⟩
  · rw [heap_setCells _ _ hpq]; exact hp1
  · rw [block_setCells_all hq1 _ (by rw [Array.length_toList, hy]; rfl)]
  · exact (Keep.refl _ V).setCells _ _ _ (.inr rfl)
  · exact ((Keep.refl _ V).setCells _ _ _ (.inr (.inl rfl))).setCells _ _ _ (.inr (.inr rfl))
theorem reqCells_oneS (r : ReqS) {a1 a2 a3 : Option Addr} {n1 n2 n3 c1 c2 c3 : Nat} : (reqCells r (.slice a1 n1 c1) (.slice a2 n2 c2) (.slice a3 n3 c3)).all (·.oneCell') = true := by simp [reqCells, one_int, one_bool, one_slice]
/-- all but the rows of two steps are alike, and as many comparisons -/
def Heads (a b : StepS) : Prop := a.kind = b.kind ∧ a.node = b.node ∧ a.n = b.n ∧ a.watch = b.watch ∧ a.req.kind = b.req.kind ∧ a.req.client = b.req.client ∧ a.req.num = b.req.num ∧ a.req.serial = b.req.serial ∧ a.req.rev = b.req.rev ∧ a.req.cmps.length = b.req.cmps.length
theorem Heads.eq {a b : StepS} (h : Heads a b) (h1 : a.req.cmps = b.req.cmps) (h2 : a.req.thn = b.req.thn) (h3 : a.req.els = b.req.els) : a = b := by
  obtain ⟨k, n, m, ⟨r1, r2, r3, r4, r5, r6, r7, r8⟩, w⟩ := a
  obtain ⟨k', n', m', ⟨s1, s2, s3, s4, s5, s6, s7, s8⟩, w'⟩ := b
  obtain ⟨g1, g2, g3, g4, g5, g6, g7, g8, g9, _⟩ := h
  dsimp only at *
  subst g1 g2 g3 g4 g5 g6 g7 g8 g9 h1 h2 h3
  rfl
set_option maxRecDepth 100000 in
set_option maxHeartbeats 12800000 in
theorem rsame_any (a b : StepS) (vca vta vea vcb vtb veb : Value) (w : World) (ha : ReqRead w a.req vca vta vea) (hb : ReqRead w b.req vcb vtb veb) (hla : a.req.cmps.length ≤ 1000000 ∧ a.req.thn.length ≤ 1000000 ∧ a.req.els.length ≤ 1000000) :
    Calls Tryz.prog 32 #[.agg (stepCells a vca vta vea), .agg (stepCells b vcb vtb veb)] w (Tells (decide (a = b)) w) := by
  obtain ⟨N, hN⟩ : ∃ N, N = w.heap.size := ⟨_, rfl⟩
  obtain ⟨ca, hca⟩ : ∃ c, c = stepCells a vca vta vea := ⟨_, rfl⟩
  obtain ⟨cb, hcb⟩ : ∃ c, c = stepCells b vcb vtb veb := ⟨_, rfl⟩
  obtain ⟨W, hW⟩ : ∃ W : World, W = (w.alloc (.cells ca 63)).alloc (.cells cb 63) := ⟨_, rfl⟩
  have hkW : Keep (fun _ => False) w W := by rw [hW]; exact ((Keep.refl _ w).alloc _).alloc _
  have hsz : W.heap.size = N + 2 := by rw [hW, hN]; simp
  have hA : StepBlk W N a vca vta vea := ⟨by rw [hW, hN, hca]; exact block_alloc (block_new _ _) _⟩
  have hB : StepBlk W (N + 1) b vcb vtb veb := ⟨by rw [hW, hN, hcb]; exact block_new' _ _ (by simp)⟩
  rw [← hca, ← hcb]
  have HS : ∀ w', Keep (fun _ => False) W w' → Keep (fun _ => False) W w' ∧ (ldT 59 (.pointer (some ⟨N, 3, none⟩))).run Tryz.prog w' = .ok (.value (.agg (reqCells a.req vca vta vea))) w' ∧ (ldT 59 (.pointer (some ⟨N + 1, 3, none⟩))).run Tryz.prog w' = .ok (.value (.agg (reqCells b.req vcb vtb veb))) w' := fun w' hk => ⟨hk, (hA.keep hk (fun e => e)).req, (hB.keep hk (fun e => e)).req⟩
  have HSH := Lib.hid HS
  have HW := Lib.hid hW
  have HA := Lib.hid hA
  have HB := Lib.hid hB
  have HKW := Lib.hid hkW
  have HSZ := Lib.hid hsz
  have HN := Lib.hid hN
  have HRA := Lib.hid ha
  have HRB := Lib.hid hb
  have HLA := Lib.hid hla
  obtain ⟨⟨a1, c1, e1, -⟩, ⟨a2, c2, e2, -⟩, ⟨a3, c3, e3, -⟩⟩ := ha
  obtain ⟨⟨b1, d1, f1, -⟩, ⟨b2, d2, f2, -⟩, ⟨b3, d3, f3, -⟩⟩ := hb
  clear HS hW hA hB hkW hsz hN hca hcb hla
  go_enter Tryz.func32, Tryz.ntmps32
  go_wp2_with fail
  rw [← HW.out]
  generalize hNW : w.heap.size = N' at *
  obtain rfl : N = N' := HN.out
  go_cut [5, 6] from 8 to 12 (fun v5 v6 wx => ∃ p q : Nat, v5 = .pointer (some ⟨p, 0, none⟩) ∧ v6 = .pointer (some ⟨q, 0, none⟩) ∧ Hid (ReqBlk wx p a.req vca vta vea ∧ ReqBlk wx q b.req vcb vtb veb ∧ Keep (fun _ => False) W wx))
  case first =>
    obtain ⟨V, hV⟩ : ∃ V : World, V = ((W.alloc (.cells zero8 59)).alloc (.cells zero8 59)).drew := ⟨_, rfl⟩
    have hkV : Keep (fun _ => False) W V := by rw [hV]; exact (((Keep.refl _ W).alloc _).alloc _).drew
    have hp : V.heap[W.heap.size]? = some (.cells zero8 59 (0, 0)) := by rw [hV]; exact block_alloc (block_new' _ _ rfl) _
    have hq : V.heap[W.heap.size + 1]? = some (.cells zero8 59 (0, 0)) := by rw [hV]; exact block_new' _ _ (by simp)
    have ox : (reqCells a.req vca vta vea).all (·.oneCell') = true := by rw [e1, e2, e3]; exact reqCells_oneS _
    have oy : (reqCells b.req vcb vtb veb).all (·.oneCell') = true := by rw [f1, f2, f3]; exact reqCells_oneS _
    obtain ⟨V1, V2, s1, s2, k1, k2, m1, m2⟩ := two_reqs V W.heap.size (W.heap.size + 1) (by omega) (reqCells a.req vca vta vea) (reqCells b.req vcb vtb veb) rfl rfl ox oy hp hq
    obtain ⟨U1, U2, s3, s4, k3, k4, m3, m4⟩ := two_reqs V (W.heap.size + 1) W.heap.size (by omega) (reqCells a.req vca vta vea) (reqCells b.req vcb vtb veb) rfl rfl ox oy hq hp
    have HM1 := Lib.hid (hkV.trans m1 (fun b hb e => by omega))
    have HM2 := Lib.hid (hkV.trans m2 (fun b hb e => by omega))
    have HM3 := Lib.hid (hkV.trans m3 (fun b hb e => by omega))
    have HM4 := Lib.hid (hkV.trans m4 (fun b hb e => by omega))
    have HF1 := Lib.hid (show ReqBlk V2 W.heap.size a.req vca vta vea ∧ ReqBlk V2 (W.heap.size + 1) b.req vcb vtb veb ∧ Keep (fun _ => False) W V2 from ⟨⟨k1⟩, ⟨k2⟩, HM2.out⟩)
    have HF2 := Lib.hid (show ReqBlk U2 (W.heap.size + 1) a.req vca vta vea ∧ ReqBlk U2 W.heap.size b.req vcb vtb veb ∧ Keep (fun _ => False) W U2 from ⟨⟨k3⟩, ⟨k4⟩, HM4.out⟩)
    rw [hV] at s1 s3
    unfold zero8 at s1 s3
    clear hV hkV hp hq ox oy k1 k2 k3 k4 m1 m2 m3 m4 e1 e2 e3 f1 f2 f3
    generalize reqCells a.req vca vta vea = rx at *
    generalize reqCells b.req vcb vtb veb = ry at *
    go_region_held3 (fun w' => Keep (fun _ => False) W w' ∧ (ldT 59 (.pointer (some ⟨N, 3, none⟩))).run Tryz.prog w' = .ok (.value (.agg rx)) w' ∧ (ldT 59 (.pointer (some ⟨N + 1, 3, none⟩))).run Tryz.prog w' = .ok (.value (.agg ry)) w')
      (first | exact HSH.out _ ((Keep.refl _ _).drew) | exact HSH.out _ (held_alloc (by assumption) _) | exact HSH.out _ HM1.out | exact HSH.out _ HM2.out | exact HSH.out _ HM3.out | exact HSH.out _ HM4.out)
      (fail)
    all_goals
      go_wp2_with fail
      go_meet
      first | exact ⟨_, _, rfl, rfl, HF1⟩ | exact ⟨_, _, rfl, rfl, HF2⟩
  case rest =>
    obtain ⟨p, q, rfl, rfl, HC⟩ := hcut
    obtain ⟨hp, hq, hkc⟩ := HC.out
    have hA := HA.out.keep hkc (fun e => e)
    have hB := HB.out.keep hkc (fun e => e)
    have HPB := Lib.hid hp
    have HQB := Lib.hid hq
    have HKC := Lib.hid hkc
    clear hkc HSH
    subst e1 e2 e3 f1 f2 f3
    have ca0 : wc.cell? ⟨N, 0, none⟩ = some (.int .i64 a.kind) := cell_of_block hA.blk 0
    have ca1 : wc.cell? ⟨N, 1, none⟩ = some (.int .i64 a.node) := cell_of_block hA.blk 1
    have ca2 : wc.cell? ⟨N, 2, none⟩ = some (.int .u64 a.n) := cell_of_block hA.blk 2
    have caw := hA.watch
    have cb0 : wc.cell? ⟨N + 1, 0, none⟩ = some (.int .i64 b.kind) := cell_of_block hB.blk 0
    have cb1 : wc.cell? ⟨N + 1, 1, none⟩ = some (.int .i64 b.node) := cell_of_block hB.blk 1
    have cb2 : wc.cell? ⟨N + 1, 2, none⟩ = some (.int .u64 b.n) := cell_of_block hB.blk 2
    have cbw := hB.watch
    have da0 : wc.cell? ⟨p, 0, none⟩ = some (.int .i64 a.req.kind) := cell_of_block hp.blk 0
    have da1 : wc.cell? ⟨p, 1, none⟩ = some (.int .u64 a.req.client) := cell_of_block hp.blk 1
    have da2 : wc.cell? ⟨p, 2, none⟩ = some (.int .u64 a.req.num) := cell_of_block hp.blk 2
    have da3 : wc.cell? ⟨p, 3, none⟩ = some (.bool a.req.serial) := cell_of_block hp.blk 3
    have da7 : wc.cell? ⟨p, 7, none⟩ = some (.int .u64 a.req.rev) := cell_of_block hp.blk 7
    have da4 : wc.cell? ⟨p, 4, none⟩ = some (.slice a1 a.req.cmps.length c1) := cell_of_block hp.blk 4
    have db0 : wc.cell? ⟨q, 0, none⟩ = some (.int .i64 b.req.kind) := cell_of_block hq.blk 0
    have db1 : wc.cell? ⟨q, 1, none⟩ = some (.int .u64 b.req.client) := cell_of_block hq.blk 1
    have db2 : wc.cell? ⟨q, 2, none⟩ = some (.int .u64 b.req.num) := cell_of_block hq.blk 2
    have db3 : wc.cell? ⟨q, 3, none⟩ = some (.bool b.req.serial) := cell_of_block hq.blk 3
    have db7 : wc.cell? ⟨q, 7, none⟩ = some (.int .u64 b.req.rev) := cell_of_block hq.blk 7
    have db4 : wc.cell? ⟨q, 4, none⟩ = some (.slice b1 b.req.cmps.length d1) := cell_of_block hq.blk 4
    obtain ⟨sa, hsa⟩ : ∃ s, s = a.req.serial := ⟨_, rfl⟩
    obtain ⟨sb, hsb⟩ : ∃ s, s = b.req.serial := ⟨_, rfl⟩
    rw [← hsa] at da3
    rw [← hsb] at db3
    have HSA := Lib.hid hsa
    have HSB := Lib.hid hsb
    clear hsa hsb
    have hneq := fun w => neq61 a.watch b.watch w
    have hgrd := fun (op : BinOp) (x y : Operand) (w : World) => grd61 op x y a.watch b.watch w
    clear hA hB hp hq
    go_upto_region 2 with fail
    go_cut [81] from 12 to 82 (fun v81 wx => ∃ r : Bool, v81 = .bool r ∧ wx = wc ∧ Hid ((r = true → a ≠ b) ∧ (r = false → Heads a b)))
    case first =>
      by_cases h1 : a.kind = b.kind
      rotate_left
      · have g1 : (a.kind != b.kind) = true := by rw [bne_iff_ne]; exact h1
        have HE := Lib.hid (show a ≠ b from fun e => h1 (by rw [e]))
        clear h1
        go_wp2_with fail
        go_meet
        exact ⟨true, rfl, rfl, Lib.hid ⟨fun _ => HE.out, fun e => by cases e⟩⟩
      have g1 : (a.kind != b.kind) = false := by rw [bne_eq_false_iff_eq]; exact h1
      have H1 := Lib.hid h1
      clear h1
      by_cases h2 : a.node = b.node
      rotate_left
      · have g2 : (a.node != b.node) = true := by rw [bne_iff_ne]; exact h2
        have HE := Lib.hid (show a ≠ b from fun e => h2 (by rw [e]))
        clear h2
        go_wp2_with fail
        go_meet
        exact ⟨true, rfl, rfl, Lib.hid ⟨fun _ => HE.out, fun e => by cases e⟩⟩
      have g2 : (a.node != b.node) = false := by rw [bne_eq_false_iff_eq]; exact h2
      have H2 := Lib.hid h2
      clear h2
      by_cases h3 : a.n = b.n
      rotate_left
      · have g3 : (a.n != b.n) = true := by rw [bne_iff_ne]; exact h3
        have HE := Lib.hid (show a ≠ b from fun e => h3 (by rw [e]))
        clear h3
        go_wp2_with fail
        go_meet
        exact ⟨true, rfl, rfl, Lib.hid ⟨fun _ => HE.out, fun e => by cases e⟩⟩
      have g3 : (a.n != b.n) = false := by rw [bne_eq_false_iff_eq]; exact h3
      have H3 := Lib.hid h3
      clear h3
      by_cases h4 : a.watch = b.watch
      rotate_left
      · have g4 : decide (a.watch = b.watch) = false := decide_eq_false h4
        have HE := Lib.hid (show a ≠ b from fun e => h4 (by rw [e]))
        clear h4
        go_wp2_with fail
        go_meet
        exact ⟨true, rfl, rfl, Lib.hid ⟨fun _ => HE.out, fun e => by cases e⟩⟩
      have g4 : decide (a.watch = b.watch) = true := decide_eq_true h4
      have H4 := Lib.hid h4
      clear h4
      by_cases h5 : a.req.kind = b.req.kind
      rotate_left
      · have g5 : (a.req.kind != b.req.kind) = true := by rw [bne_iff_ne]; exact h5
        have HE := Lib.hid (show a ≠ b from fun e => h5 (by rw [e]))
        clear h5
        go_wp2_with fail
        go_meet
        exact ⟨true, rfl, rfl, Lib.hid ⟨fun _ => HE.out, fun e => by cases e⟩⟩
      have g5 : (a.req.kind != b.req.kind) = false := by rw [bne_eq_false_iff_eq]; exact h5
      have H5 := Lib.hid h5
      clear h5
      by_cases h6 : a.req.client = b.req.client
      rotate_left
      · have g6 : (a.req.client != b.req.client) = true := by rw [bne_iff_ne]; exact h6
        have HE := Lib.hid (show a ≠ b from fun e => h6 (by rw [e]))
        clear h6
        go_wp2_with fail
        go_meet
        exact ⟨true, rfl, rfl, Lib.hid ⟨fun _ => HE.out, fun e => by cases e⟩⟩
      have g6 : (a.req.client != b.req.client) = false := by rw [bne_eq_false_iff_eq]; exact h6
      have H6 := Lib.hid h6
      clear h6
      by_cases h7 : a.req.num = b.req.num
      rotate_left
      · have g7 : (a.req.num != b.req.num) = true := by rw [bne_iff_ne]; exact h7
        have HE := Lib.hid (show a ≠ b from fun e => h7 (by rw [e]))
        clear h7
        go_wp2_with fail
        go_meet
        exact ⟨true, rfl, rfl, Lib.hid ⟨fun _ => HE.out, fun e => by cases e⟩⟩
      have g7 : (a.req.num != b.req.num) = false := by rw [bne_eq_false_iff_eq]; exact h7
      have H7 := Lib.hid h7
      clear h7
      by_cases h8 : sa = sb
      rotate_left
      · have HE := Lib.hid (show a ≠ b from fun e => h8 (by rw [HSA.out, HSB.out, e]))
        cases sa <;> cases sb
        · exact absurd rfl h8
        · clear h8
          go_wp2_with fail
          go_meet
          exact ⟨true, rfl, rfl, Lib.hid ⟨fun _ => HE.out, fun e => by cases e⟩⟩
        · clear h8
          go_wp2_with fail
          go_meet
          exact ⟨true, rfl, rfl, Lib.hid ⟨fun _ => HE.out, fun e => by cases e⟩⟩
        · exact absurd rfl h8
      subst h8
      have H8 := Lib.hid (HSA.out.symm.trans HSB.out)
      by_cases h9 : a.req.rev = b.req.rev
      rotate_left
      · have g9 : (a.req.rev != b.req.rev) = true := by rw [bne_iff_ne]; exact h9
        have HE := Lib.hid (show a ≠ b from fun e => h9 (by rw [e]))
        clear h9
        go_wp2_with fail
        go_meet
        exact ⟨true, rfl, rfl, Lib.hid ⟨fun _ => HE.out, fun e => by cases e⟩⟩
      have g9 : (a.req.rev != b.req.rev) = false := by rw [bne_eq_false_iff_eq]; exact h9
      have H9 := Lib.hid h9
      clear h9
      by_cases h10 : a.req.cmps.length = b.req.cmps.length
      rotate_left
      · have g10 : ((a.req.cmps.length : Int) != (b.req.cmps.length : Int)) = true := by rw [bne_iff_ne]; omega
        have HE := Lib.hid (show a ≠ b from fun e => h10 (by rw [e]))
        clear h10
        go_wp2_with fail
        go_meet
        exact ⟨_, rfl, rfl, Lib.hid ⟨fun _ => HE.out, fun e => (by first | cases e | (rw [g10] at e; cases e))⟩⟩
      have g10 : ((a.req.cmps.length : Int) != (b.req.cmps.length : Int)) = false := by rw [bne_eq_false_iff_eq, h10]
      have H10 := Lib.hid h10
      clear h10
      go_wp2_with fail
      go_meet
      exact ⟨false, rfl, rfl, Lib.hid ⟨fun e => (by cases e), fun _ => ⟨H1.out, H2.out, H3.out, H4.out, H5.out, H6.out, H7.out, H8.out, H9.out, H10.out⟩⟩⟩
    case rest =>
      obtain ⟨r, rfl, rfl, HR⟩ := hcut
      clear ca0 cb0 ca1 cb1 ca2 cb2 caw cbw hneq hgrd da0 db0 da1 db1 da2 db2 da3 db3 da7 db7
      cases r
      · have HH := Lib.hid (HR.out.2 rfl)
        clear HR
        have hlen := HH.out.2.2.2.2.2.2.2.2.2
        have HKK := Lib.hid (HKW.out.trans' HKC.out)
        have HLEN := Lib.hid hlen
        have HRA2 := Lib.hid (HRA.out.far HKK.out)
        have HRB2 := Lib.hid (HRB.out.far HKK.out)
        have dlen : (a.req.cmps.length : Int) ≤ 1000000 := by have := HLA.out.1; omega
        clear hlen HRA HRB HW HA HB
        go_wp2_with fail
        go_loopw [7] (fun v7 wr => ∃ k : Nat, k ≤ a.req.cmps.length ∧ v7 = .int .i64 k ∧ Hid (a.req.cmps.take k = b.req.cmps.take k) ∧ Keep (fun _ => False) wc wr) (fun v7 _ => a.req.cmps.length - (intOf v7).toNat)
        case atStart => exact ⟨0, Nat.zero_le _, rfl, Lib.hid rfl, Keep.refl _ _⟩
        case round =>
          obtain ⟨k, hk, rfl, HT, hkr⟩ := hrel
          have hpr := HPB.out.keep hkr (fun e => e)
          have hqr := HQB.out.keep hkr (fun e => e)
          have x4 : wr.cell? ⟨p, 4, none⟩ = some (.slice a1 a.req.cmps.length c1) := cell_of_block hpr.blk 4
          have y4 : wr.cell? ⟨q, 4, none⟩ = some (.slice b1 b.req.cmps.length d1) := cell_of_block hqr.blk 4
          by_cases hlt : k < a.req.cmps.length
          · have hlt2 : k < b.req.cmps.length := by have := HLEN.out; omega
            obtain ⟨g, o, hbo, hrng⟩ := (HRA2.out.1.keep hkr (fun _ _ _ _ _ e => e)).at k hlt
            obtain ⟨g', o', hbo', hrng'⟩ := (HRB2.out.1.keep hkr (fun _ _ _ _ _ e => e)).at k hlt2
            subst hbo hbo'
            have hs := fun he => take_step hlt hlt2 HT.out he
            have hne := fun he => ne_at (l1 := a.req.cmps) (l2 := b.req.cmps) hlt hlt2 he
            have hlt' : (k : Int) < (a.req.cmps.length : Int) := by omega
            have hlt2' : (k : Int) < (b.req.cmps.length : Int) := by omega
            generalize a.req.cmps[k] = x at *
            generalize b.req.cmps[k] = y at *
            have hld : ∀ m, (ldT 65 (.pointer (some ⟨g, o + k * 5, none⟩))).run Tryz.prog (wr.drewN m) = .ok (.value (.agg (cmpCells x))) (wr.drewN m) := fun m => run_ld65 _ g _ _ rfl (fun j u hu => by rw [World.cell?_drewN]; exact hrng j u hu)
            have hld' : ∀ m, (ldT 65 (.pointer (some ⟨g', o' + k * 5, none⟩))).run Tryz.prog (wr.drewN m) = .ok (.value (.agg (cmpCells y))) (wr.drewN m) := fun m => run_ld65 _ g' _ _ rfl (fun j u hu => by rw [World.cell?_drewN]; exact hrng' j u hu)
            have HS := Lib.hid hs
            have HNE := Lib.hid hne
            have HKR := Lib.hid hkr
            have hneq := fun w => neq65 x y w
            have hgrd := fun (op : BinOp) (a b : Operand) (w : World) => grd65 op a b x y w
            clear hs hne hkr hrng hrng' HT hpr hqr
            by_cases hxy : x = y
            · have hd : decide (x = y) = true := decide_eq_true hxy
              have HE := Lib.hid hxy
              clear hxy
              go_wp2_with fail
              go_quiet (fail)
              go_wp2_with fail
              exact ⟨⟨k + 1, by omega, by go_num, Lib.hid (HS.out HE.out), HKR.out.drewN _⟩, by simp [intOf]; omega⟩
            · have hd : decide (x = y) = false := decide_eq_false hxy
              have HE := Lib.hid hxy
              clear hxy
              go_wp2_with fail
              go_quiet (fail)
              go_wp2_with fail
              go_ret
              exact ⟨by rw [decide_eq_false (fun e => HNE.out HE.out (by rw [e]))]; rfl, (HKK.out.trans' HKR.out).drewN _⟩
          · have hge : ¬ (k : Int) < (a.req.cmps.length : Int) := by omega
            have HE := Lib.hid (show a.req.cmps = b.req.cmps by
              have := HT.out
              obtain rfl : k = a.req.cmps.length := by omega
              rw [List.take_length, HLEN.out, List.take_length] at this
              exact this)
            have x5 : wr.cell? ⟨p, 5, none⟩ = some (.slice a2 a.req.thn.length c2) := cell_of_block hpr.blk 5
            have y5 : wr.cell? ⟨q, 5, none⟩ = some (.slice b2 b.req.thn.length d2) := cell_of_block hqr.blk 5
            have HPR := Lib.hid hpr
            have HQR := Lib.hid hqr
            have HKR := Lib.hid hkr
            have hops := rsameOps_any (.slice a2 a.req.thn.length c2) (.slice b2 b.req.thn.length d2) a.req.thn b.req.thn wr (HRA2.out.2.1.keep hkr (fun _ _ _ _ _ e => e)) (HRB2.out.2.1.keep hkr (fun _ _ _ _ _ e => e)) HLA.out.2.1
            have HOPS := Lib.hid hops
            clear HT hpr hqr hkr hops
            go_wp2_with fail
            refine HOPS.out.mono ?_
            rintro e w2 ⟨rfl, hk2⟩
            by_cases ht : a.req.thn = b.req.thn
            · have hd : decide (a.req.thn = b.req.thn) = true := decide_eq_true ht
              have hpr := HPR.out.keep hk2 (fun e => e)
              have hqr := HQR.out.keep hk2 (fun e => e)
              have x6 : w2.cell? ⟨p, 6, none⟩ = some (.slice a3 a.req.els.length c3) := cell_of_block hpr.blk 6
              have y6 : w2.cell? ⟨q, 6, none⟩ = some (.slice b3 b.req.els.length d3) := cell_of_block hqr.blk 6
              have hk3 := HKR.out.trans' hk2
              have HOPS3 := Lib.hid (rsameOps_any (.slice a3 a.req.els.length c3) (.slice b3 b.req.els.length d3) a.req.els b.req.els w2 (HRA2.out.2.2.keep hk3 (fun _ _ _ _ _ e => e)) (HRB2.out.2.2.keep hk3 (fun _ _ _ _ _ e => e)) HLA.out.2.2)
              have HK3 := Lib.hid hk3
              have HTH := Lib.hid ht
              clear ht hpr hqr hk3 hk2
              go_wp2_with fail
              refine HOPS3.out.mono ?_
              rintro e w3 ⟨rfl, hk4⟩
              have HK4 := Lib.hid hk4
              clear hk4
              have HEND := Lib.hid (show decide (a.req.els = b.req.els) = decide (a = b) from decide_eq_decide.2 ⟨fun h => HH.out.eq HE.out HTH.out h, fun h => by rw [h]⟩)
              go_wp2_with fail
              go_ret
              exact ⟨by rw [← HEND.out]; rfl, (HKK.out.trans' HK3.out).trans' HK4.out⟩
            · have hd : decide (a.req.thn = b.req.thn) = false := decide_eq_false ht
              have HTH := Lib.hid (show a ≠ b from fun e => ht (by rw [e]))
              have HK2 := Lib.hid hk2
              clear ht hk2
              go_wp2_with fail
              go_ret
              exact ⟨by rw [decide_eq_false HTH.out]; rfl, (HKK.out.trans' HKR.out).trans' HK2.out⟩
      · have HNE := Lib.hid (HR.out.1 rfl)
        clear HR
        go_wp2_with fail
        go_ret
        exact ⟨by rw [decide_eq_false HNE.out]; rfl, HKW.out.trans' HKC.out⟩
end Go.Proofs.YtifliekahdgobaaGreatDoor
namespace Go.Proofs.YtifliekahdgobaaGreatDoor
open Go.RowKit Sp

set_option maxRecDepth 100000 in
theorem write67_any (c : Array Value) (w : World) : Calls Tryz.prog 67 #[.agg c] w (Gives (sv []) w) := by
  go_enter Tryz.func67, Tryz.ntmps67
  go_wp2_with fail
  go_ret
  exact ⟨rfl, (Keep.refl _ w).alloc _⟩
theorem join_watch_le {x : WatchS} (h : MidWatch x) : (join (watchWords x)).length ≤ 50000000 := by
  have h1 : ∀ y ∈ watchWords x, y.length ≤ 2000001 := by
    have := hexText_len x.key; have := hexText_len x.fin
    have := itoa_len x.id; have := itoa_len x.start
    have := h.key; have := h.fin
    have hm : (markText lPndg [x.prev, x.noPut, x.noDelete, x.progress]).length ≤ 5 := markText_len lPndg _
    unfold watchWords
    intro y hy
    simp only [List.mem_cons, List.mem_nil_iff, or_false] at hy
    rcases hy with rfl | rfl | rfl | rfl | rfl <;> omega
  have h2 := join_len (watchWords x) 2000001 h1
  unfold watchWords at h2 ⊢
  simp only [List.length_cons, List.length_nil] at h2
  omega
set_option maxRecDepth 100000 in
theorem write70_any (s : StepS) (vc vt ve : Value) (hm : MidWatch s.watch) (w : World) (hg : Glob w) : Calls Tryz.prog 70 #[.agg (stepCells s vc vt ve)] w (Gives (sv (32 :: join (watchWords s.watch))) w) := by
  obtain ⟨cs, hcs⟩ : ∃ cs, cs = stepCells s vc vt ve := ⟨_, rfl⟩
  obtain ⟨W, hW⟩ : ∃ W : World, W = w.alloc (.cells cs 63) := ⟨_, rfl⟩
  have hkW : Keep (fun _ => False) w W := by rw [hW]; exact (Keep.refl _ w).alloc _
  have hB : StepBlk W w.heap.size s vc vt ve := ⟨by rw [hW, ← hcs]; exact block_new _ _⟩
  have hld := hB.watch
  have hl := join_watch_le hm
  have H := Lib.hid (watchText_any s.watch hm W (hg.far hkW))
  have HW := Lib.hid hW
  have HK := Lib.hid hkW
  rw [← hcs]
  clear hW hkW hB hg hm hcs
  generalize watchCells s.watch = cw at *
  generalize join (watchWords s.watch) = t at *
  rw [HW.out] at hld
  have H2 := H.out
  rw [HW.out] at H2
  have H := Lib.hid H2
  have HK2 := HK.out
  rw [HW.out] at HK2
  have HK := Lib.hid HK2
  clear H2 HK2 HW
  go_enter Tryz.func70, Tryz.ntmps70
  go_wp2_with fail
  refine H.out.mono ?_
  rintro e w1 ⟨rfl, hk⟩
  have HK1 := Lib.hid hk
  clear hk
  go_wp2_with fail
  go_ret
  refine ⟨?_, HK.out.trans' HK1.out⟩
  first | exact congrArg Ending.returned (congrArg Value.string (ba_cons _)) | rfl
theorem join_req_le {r : ReqS} (h : MidReq r) : (join (reqWords r)).length ≤ 900000000 := by
  have lop : ∀ x : OpS, MidOp x → ∀ y ∈ Sp.opWords x, y.length ≤ 2000001 := fun x hx y hy => by
    have := hexText_len x.key; have := hexText_len x.fin; have := hexText_len x.val
    have := itoa_len x.rev; have := itoa_len x.limit
    have := hx.key; have := hx.fin; have := hx.val
    have hm1 : (markText lCk [x.count, x.keys]).length ≤ 3 := markText_len lCk _
    have hm2 : (markText lP [x.prev]).length ≤ 2 := markText_len lP _
    unfold Sp.opWords at hy
    split at hy
    · simp only [List.mem_cons, List.mem_nil_iff, or_false] at hy
      rcases hy with rfl | rfl | rfl | rfl | rfl | rfl
      · simp [wRange]
      all_goals omega
    · split at hy
      · simp only [List.mem_cons, List.mem_nil_iff, or_false] at hy
        rcases hy with rfl | rfl | rfl | rfl
        · simp [wPut]
        all_goals omega
      · simp only [List.mem_cons, List.mem_nil_iff, or_false] at hy
        rcases hy with rfl | rfl | rfl | rfl
        · simp [wDel]
        all_goals omega
  have l7 : ∀ x : OpS, (Sp.opWords x).length ≤ 6 := fun x => by
    unfold Sp.opWords
    split
    · simp
    · split <;> simp
  have hkd : (kinds.getD r.kind.toNat []).length ≤ 7 := by
    rcases (by omega : r.kind.toNat = 0 ∨ r.kind.toNat = 1 ∨ r.kind.toNat = 2 ∨ r.kind.toNat = 3 ∨ 4 ≤ r.kind.toNat) with e | e | e | e | e
    · rw [e]; decide
    · rw [e]; decide
    · rw [e]; decide
    · rw [e]; decide
    · rw [List.getD_eq_getElem?_getD, List.getElem?_eq_none (by exact e)]; simp
  have h1 : ∀ y ∈ reqWords r, y.length ≤ 2000001 := by
    intro y hy
    unfold reqWords at hy
    rw [List.mem_append, List.mem_append, List.mem_append] at hy
    rcases hy with ((hy | hy) | hy) | hy
    · have := itoa_len r.client; have := itoa_len r.num; have := itoa_len r.rev
      have hm1 : (markText lS [r.serial]).length ≤ 2 := markText_len lS _
      simp only [List.mem_cons, List.mem_nil_iff, or_false] at hy
      rcases hy with rfl | rfl | rfl | rfl | rfl <;> omega
    · obtain ⟨c, hc, hy⟩ := List.mem_flatMap.1 hy
      have hx := h.cmps c hc
      have := hexText_len c.key; have := hexText_len c.val
      have := itoa_len c.what; have := itoa_len c.how; have := itoa_len c.n
      have := hx.key; have := hx.val
      unfold cmpWords at hy
      simp only [List.mem_cons, List.mem_nil_iff, or_false] at hy
      rcases hy with rfl | rfl | rfl | rfl | rfl | rfl
      · simp [wIf]
      all_goals omega
    · obtain ⟨x, hx, hy⟩ := List.mem_flatMap.1 hy
      rcases List.mem_cons.1 hy with rfl | hy
      · simp [wThen]
      · exact lop x (h.thn x hx) y hy
    · obtain ⟨x, hx, hy⟩ := List.mem_flatMap.1 hy
      rcases List.mem_cons.1 hy with rfl | hy
      · simp [wElse]
      · exact lop x (h.els x hx) y hy
  have h2 := join_len (reqWords r) 2000001 h1
  have lf : ∀ (w : Str) (l : List OpS), (l.flatMap fun x => w :: Sp.opWords x).length ≤ 7 * l.length := fun w l => by
    induction l with
    | nil => simp
    | cons x l ih => rw [List.flatMap_cons, List.length_append, List.length_cons, List.length_cons]; have := l7 x; omega
  have h3 : (reqWords r).length ≤ 405 := by
    have h4 := lf wThen r.thn
    have h5 := lf wElse r.els
    have h6 := flat6 r.cmps
    have := h.lc; have := h.lt; have := h.le
    unfold reqWords
    simp only [List.length_append, List.length_cons, List.length_nil]
    omega
  have h4 := Nat.mul_le_mul_right (2000001 + 1) h3
  omega
set_option maxRecDepth 100000 in
theorem write74_any (s : StepS) (vc vt ve : Value) (hm : MidReq s.req) (w : World) (hg : Glob w) (hr : ReqRead w s.req vc vt ve) :
    Calls Tryz.prog 74 #[.agg (stepCells s vc vt ve)] w (GotText (32 :: join (reqWords s.req)) (okKind s.req) w) := by
  obtain ⟨cs, hcs⟩ : ∃ cs, cs = stepCells s vc vt ve := ⟨_, rfl⟩
  obtain ⟨W, hW⟩ : ∃ W : World, W = w.alloc (.cells cs 63) := ⟨_, rfl⟩
  have hkW : Keep (fun _ => False) w W := by rw [hW]; exact (Keep.refl _ w).alloc _
  have hB : StepBlk W w.heap.size s vc vt ve := ⟨by rw [hW, ← hcs]; exact block_new _ _⟩
  have hld := hB.req
  have hl := join_req_le hm
  have H := Lib.hid (reqText_any s.req vc vt ve hm W (hg.far hkW) (hr.far hkW))
  have HW := Lib.hid hW
  have HK := Lib.hid hkW
  rw [← hcs]
  clear hW hkW hB hg hm hcs hr
  generalize reqCells s.req vc vt ve = cr at *
  generalize join (reqWords s.req) = t at *
  rw [HW.out] at hld
  have H2 := H.out
  rw [HW.out] at H2
  have H := Lib.hid H2
  have HK2 := HK.out
  rw [HW.out] at HK2
  have HK := Lib.hid HK2
  clear H2 HK2 HW
  go_enter Tryz.func74, Tryz.ntmps74
  go_wp2_with fail
  refine H.out.mono ?_
  rintro e w1 ⟨hk, ⟨ho, rfl⟩ | ⟨ho, rfl⟩⟩
  · have HK1 := Lib.hid hk
    have HO := Lib.hid ho
    clear hk ho
    go_wp2_with fail
    go_ret
    refine ⟨HK.out.trans' HK1.out, .inl ⟨HO.out, ?_⟩⟩
    first | exact congrArg Ending.returned (congrArg Value.string (ba_cons _)) | rfl
  · exact ⟨rfl, HK.out.trans' hk, .inr ⟨ho, rfl⟩⟩
/-- what a kind's writing comes to -/
theorem write_any (k : Nat) (s : StepS) (vc vt ve : Value) (hm : MidStep s) (w : World) (hg : Glob w) (hr : ReqRead w s.req vc vt ve) :
    Calls Tryz.prog (writeF k) #[.agg (stepCells s vc vt ve)] w (GotText (bodyText k s) (bodyOk k s) w) := by
  unfold writeF bodyText bodyOk
  by_cases h11 : k = 11
  · subst h11
    exact (write67_any _ w).mono fun e w' h => ⟨h.2, .inl ⟨rfl, h.1⟩⟩
  · rw [if_neg h11, if_neg h11]
    by_cases h8 : k = 8
    · subst h8
      exact (write70_any s vc vt ve hm.watch w hg).mono fun e w' h => ⟨h.2, .inl ⟨rfl, h.1⟩⟩
    · rw [if_neg h8, if_neg h8]
      by_cases h7 : k = 7
      · subst h7
        exact write74_any s vc vt ve hm.req w hg hr
      · rw [if_neg h7, if_neg h7, if_neg h7]
        exact (writeN_any s vc vt ve hm w hg).mono fun e w' h => ⟨h.2, .inl ⟨rfl, h.1⟩⟩
end Go.Proofs.YtifliekahdgobaaGreatDoor
namespace Go.Proofs.YtifliekahdgobaaGreatDoor
open Go.RowKit Sp

theorem takeStep {α : Type} {l1 l2 : List α} {k : Nat} (h1 : k < l1.length) (h2 : k < l2.length) (h : l1.take k = l2.take k) (he : l1[k] = l2[k]) : l1.take (k + 1) = l2.take (k + 1) := by
  rw [List.take_succ_eq_append_getElem h1, List.take_succ_eq_append_getElem h2, h, he]
theorem neAt {α : Type} {l1 l2 : List α} {k : Nat} (h1 : k < l1.length) (h2 : k < l2.length) (he : ¬ l1[k] = l2[k]) : ¬ l1 = l2 := fun e => by
  subst e
  exact he rfl
set_option maxRecDepth 100000 in
set_option maxHeartbeats 1600000 in
theorem eqCmps_any (v1 v2 : Value) (l1 l2 : List CmpS) (w : World) (h1 : RowRead cmpCells 5 w v1 l1) (h2 : RowRead cmpCells 5 w v2 l2) (hn : l1.length ≤ 1000000) :
    Calls Tryz.prog 114 #[v1, v2] w (Tells (decide (l1 = l2)) w) := by
  obtain ⟨a1, c1, rfl, -⟩ := id h1
  obtain ⟨a2, c2, rfl, -⟩ := id h2
  have H1 := Lib.hid h1
  have H2 := Lib.hid h2
  clear h1 h2
  obtain ⟨r, hr⟩ : ∃ r, r = decide (l1 = l2) := ⟨_, rfl⟩
  rw [← hr]
  have HR := Lib.hid hr
  clear hr
  by_cases hl : l1.length = l2.length
  · have hl' : ((l1.length : Int) != (l2.length : Int)) = false := by rw [bne_eq_false_iff_eq, hl]
    have HL := Lib.hid hl
    clear hl
    go_enter Tryz.func114, Tryz.ntmps114
    go_wp2_with fail
    go_loopw [5, 13] (fun v5 v13 wr => ∃ k : Nat, k ≤ l1.length ∧ v13 = .int .i64 k ∧ Hid (l1.take k = l2.take k) ∧ Keep (fun _ => False) w wr) (fun _ v13 _ => l1.length - (intOf v13).toNat)
    case atStart => exact ⟨0, Nat.zero_le _, rfl, Lib.hid rfl, Keep.refl _ _⟩
    case round =>
      obtain ⟨k, hk, rfl, HT, hkr⟩ := hrel
      by_cases hlt : k < l1.length
      · have hlt2 : k < l2.length := by have := HL.out; omega
        obtain ⟨b, o, hbo, hrng⟩ := (H1.out.keep hkr (fun _ _ _ _ _ e => e)).at k hlt
        obtain ⟨b', o', hbo', hrng'⟩ := (H2.out.keep hkr (fun _ _ _ _ _ e => e)).at k hlt2
        subst hbo hbo'
        have hs := fun he => takeStep hlt hlt2 HT.out he
        have hne := fun he => neAt (l1 := l1) (l2 := l2) hlt hlt2 he
        have hlt' : (k : Int) < (l1.length : Int) := by omega
        have hlt2' : (k : Int) < (l2.length : Int) := by omega
        generalize l1[k] = x at *
        generalize l2[k] = y at *
        have hld : ∀ q, (ldT 65 (.pointer (some ⟨b, o + k * 5, none⟩))).run Tryz.prog (wr.drewN q) = .ok (.value (.agg (cmpCells x))) (wr.drewN q) := fun q => run_ld65 _ b _ _ rfl (fun j u hu => by rw [World.cell?_drewN]; exact hrng j u hu)
        have hld' : ∀ q, (ldT 65 (.pointer (some ⟨b', o' + k * 5, none⟩))).run Tryz.prog (wr.drewN q) = .ok (.value (.agg (cmpCells y))) (wr.drewN q) := fun q => run_ld65 _ b' _ _ rfl (fun j u hu => by rw [World.cell?_drewN]; exact hrng' j u hu)
        have HS := Lib.hid hs
        have HNE := Lib.hid hne
        have HKR := Lib.hid hkr
        have hneq := fun w => neq65 x y w
        have hgrd := fun (op : BinOp) (a b : Operand) (w : World) => grd65 op a b x y w
        clear hs hne hkr hrng hrng' HT
        by_cases hxy : x = y
        · have hd : decide (x = y) = true := decide_eq_true hxy
          have HE := Lib.hid hxy
          clear hxy
          go_wp2_with fail
          go_quiet (fail)
          go_wp2_with fail
          exact ⟨⟨k + 1, by omega, by go_num, Lib.hid (HS.out HE.out), HKR.out.drewN _⟩, by simp [intOf]; omega⟩
        · have hd : decide (x = y) = false := decide_eq_false hxy
          have HE := Lib.hid hxy
          clear hxy
          go_wp2_with fail
          go_quiet (fail)
          go_wp2_with fail
          go_ret
          exact ⟨by rw [HR.out, decide_eq_false (HNE.out HE.out)]; rfl, HKR.out.drewN _⟩
      · have hge : ¬ (k : Int) < (l1.length : Int) := by omega
        have HE := Lib.hid (show l1 = l2 by
          have := HT.out
          obtain rfl : k = l1.length := by omega
          rw [List.take_length, HL.out, List.take_length] at this
          exact this)
        clear HT
        have HKR := Lib.hid hkr
        clear hkr
        go_wp2_with fail
        go_ret
        exact ⟨by rw [HR.out, decide_eq_true HE.out]; rfl, HKR.out⟩
  · have hl' : ((l1.length : Int) != (l2.length : Int)) = true := by rw [bne_iff_ne]; omega
    have HL := Lib.hid (show ¬ l1 = l2 from fun e => hl (by rw [e]))
    clear hl
    go_enter Tryz.func114, Tryz.ntmps114
    go_wp2_with fail
    go_ret
    exact ⟨by rw [HR.out, decide_eq_false HL.out]; rfl, Keep.refl _ _⟩
set_option maxRecDepth 100000 in
set_option maxHeartbeats 1600000 in
theorem eqOps_any (v1 v2 : Value) (l1 l2 : List OpS) (w : World) (h1 : RowRead opCells 9 w v1 l1) (h2 : RowRead opCells 9 w v2 l2) (hn : l1.length ≤ 1000000) :
    Calls Tryz.prog 115 #[v1, v2] w (Tells (decide (l1 = l2)) w) := by
  obtain ⟨a1, c1, rfl, -⟩ := id h1
  obtain ⟨a2, c2, rfl, -⟩ := id h2
  have H1 := Lib.hid h1
  have H2 := Lib.hid h2
  clear h1 h2
  obtain ⟨r, hr⟩ : ∃ r, r = decide (l1 = l2) := ⟨_, rfl⟩
  rw [← hr]
  have HR := Lib.hid hr
  clear hr
  by_cases hl : l1.length = l2.length
  · have hl' : ((l1.length : Int) != (l2.length : Int)) = false := by rw [bne_eq_false_iff_eq, hl]
    have HL := Lib.hid hl
    clear hl
    go_enter Tryz.func115, Tryz.ntmps115
    go_wp2_with fail
    go_loopw [5, 13] (fun v5 v13 wr => ∃ k : Nat, k ≤ l1.length ∧ v13 = .int .i64 k ∧ Hid (l1.take k = l2.take k) ∧ Keep (fun _ => False) w wr) (fun _ v13 _ => l1.length - (intOf v13).toNat)
    case atStart => exact ⟨0, Nat.zero_le _, rfl, Lib.hid rfl, Keep.refl _ _⟩
    case round =>
      obtain ⟨k, hk, rfl, HT, hkr⟩ := hrel
      by_cases hlt : k < l1.length
      · have hlt2 : k < l2.length := by have := HL.out; omega
        obtain ⟨b, o, hbo, hrng⟩ := (H1.out.keep hkr (fun _ _ _ _ _ e => e)).at k hlt
        obtain ⟨b', o', hbo', hrng'⟩ := (H2.out.keep hkr (fun _ _ _ _ _ e => e)).at k hlt2
        subst hbo hbo'
        have hs := fun he => takeStep hlt hlt2 HT.out he
        have hne := fun he => neAt (l1 := l1) (l2 := l2) hlt hlt2 he
        have hlt' : (k : Int) < (l1.length : Int) := by omega
        have hlt2' : (k : Int) < (l2.length : Int) := by omega
        generalize l1[k] = x at *
        generalize l2[k] = y at *
        have hld : ∀ q, (ldT 67 (.pointer (some ⟨b, o + k * 9, none⟩))).run Tryz.prog (wr.drewN q) = .ok (.value (.agg (opCells x))) (wr.drewN q) := fun q => run_ld67 _ b _ _ rfl (fun j u hu => by rw [World.cell?_drewN]; exact hrng j u hu)
        have hld' : ∀ q, (ldT 67 (.pointer (some ⟨b', o' + k * 9, none⟩))).run Tryz.prog (wr.drewN q) = .ok (.value (.agg (opCells y))) (wr.drewN q) := fun q => run_ld67 _ b' _ _ rfl (fun j u hu => by rw [World.cell?_drewN]; exact hrng' j u hu)
        have HS := Lib.hid hs
        have HNE := Lib.hid hne
        have HKR := Lib.hid hkr
        have hneq := fun w => neq67 x y w
        have hgrd := fun (op : BinOp) (a b : Operand) (w : World) => grd67 op a b x y w
        clear hs hne hkr hrng hrng' HT
        by_cases hxy : x = y
        · have hd : decide (x = y) = true := decide_eq_true hxy
          have HE := Lib.hid hxy
          clear hxy
          go_wp2_with fail
          go_quiet (fail)
          go_wp2_with fail
          exact ⟨⟨k + 1, by omega, by go_num, Lib.hid (HS.out HE.out), HKR.out.drewN _⟩, by simp [intOf]; omega⟩
        · have hd : decide (x = y) = false := decide_eq_false hxy
          have HE := Lib.hid hxy
          clear hxy
          go_wp2_with fail
          go_quiet (fail)
          go_wp2_with fail
          go_ret
          exact ⟨by rw [HR.out, decide_eq_false (HNE.out HE.out)]; rfl, HKR.out.drewN _⟩
      · have hge : ¬ (k : Int) < (l1.length : Int) := by omega
        have HE := Lib.hid (show l1 = l2 by
          have := HT.out
          obtain rfl : k = l1.length := by omega
          rw [List.take_length, HL.out, List.take_length] at this
          exact this)
        clear HT
        have HKR := Lib.hid hkr
        clear hkr
        go_wp2_with fail
        go_ret
        exact ⟨by rw [HR.out, decide_eq_true HE.out]; rfl, HKR.out⟩
  · have hl' : ((l1.length : Int) != (l2.length : Int)) = true := by rw [bne_iff_ne]; omega
    have HL := Lib.hid (show ¬ l1 = l2 from fun e => hl (by rw [e]))
    clear hl
    go_enter Tryz.func115, Tryz.ntmps115
    go_wp2_with fail
    go_ret
    exact ⟨by rw [HR.out, decide_eq_false HL.out]; rfl, Keep.refl _ _⟩
theorem req_eq {a b : ReqS} (h1 : a.kind = b.kind) (h2 : a.client = b.client) (h3 : a.num = b.num) (h4 : a.serial = b.serial) (h5 : a.rev = b.rev) (h6 : a.cmps = b.cmps) (h7 : a.thn = b.thn) (h8 : a.els = b.els) : a = b := by
  obtain ⟨r1, r2, r3, r4, r5, r6, r7, r8⟩ := a
  obtain ⟨s1, s2, s3, s4, s5, s6, s7, s8⟩ := b
  dsimp only at *
  subst h1 h2 h3 h4 h5 h6 h7 h8
  rfl
set_option maxRecDepth 100000 in
set_option maxHeartbeats 3200000 in
theorem sameReq_any (a b : ReqS) (vca vta vea vcb vtb veb : Value) (w : World) (ha : ReqRead w a vca vta vea) (hb : ReqRead w b vcb vtb veb) (hla : a.cmps.length ≤ 1000000 ∧ a.thn.length ≤ 1000000 ∧ a.els.length ≤ 1000000) :
    Calls Tryz.prog 80 #[.agg (reqCells a vca vta vea), .agg (reqCells b vcb vtb veb)] w (Tells (decide (a = b)) w) := by
  obtain ⟨N, hN⟩ : ∃ N, N = w.heap.size := ⟨_, rfl⟩
  obtain ⟨W, hW⟩ : ∃ W : World, W = (w.alloc (.cells (reqCells a vca vta vea) 59)).alloc (.cells (reqCells b vcb vtb veb) 59) := ⟨_, rfl⟩
  have hkW : Keep (fun _ => False) w W := by rw [hW]; exact ((Keep.refl _ w).alloc _).alloc _
  have hA : W.heap[N]? = some (.cells (reqCells a vca vta vea) 59 (0, 0)) := by rw [hW, hN]; exact block_alloc (block_new _ _) _
  have hB : W.heap[N + 1]? = some (.cells (reqCells b vcb vtb veb) 59 (0, 0)) := by rw [hW, hN]; exact block_new' _ _ (by simp)
  have ca0 : ∀ w', Keep (fun _ => False) W w' → w'.cell? ⟨N, 0, none⟩ = some (.int .i64 a.kind) := fun w' hk => cell_of_block (hk.at' hA (fun e => e)) 0
  have ca1 : ∀ w', Keep (fun _ => False) W w' → w'.cell? ⟨N, 1, none⟩ = some (.int .u64 a.client) := fun w' hk => cell_of_block (hk.at' hA (fun e => e)) 1
  have ca2 : ∀ w', Keep (fun _ => False) W w' → w'.cell? ⟨N, 2, none⟩ = some (.int .u64 a.num) := fun w' hk => cell_of_block (hk.at' hA (fun e => e)) 2
  have ca3 : ∀ w', Keep (fun _ => False) W w' → w'.cell? ⟨N, 3, none⟩ = some (.bool a.serial) := fun w' hk => cell_of_block (hk.at' hA (fun e => e)) 3
  have ca7 : ∀ w', Keep (fun _ => False) W w' → w'.cell? ⟨N, 7, none⟩ = some (.int .u64 a.rev) := fun w' hk => cell_of_block (hk.at' hA (fun e => e)) 7
  have ca4 : ∀ w', Keep (fun _ => False) W w' → w'.cell? ⟨N, 4, none⟩ = some (vca) := fun w' hk => cell_of_block (hk.at' hA (fun e => e)) 4
  have ca5 : ∀ w', Keep (fun _ => False) W w' → w'.cell? ⟨N, 5, none⟩ = some (vta) := fun w' hk => cell_of_block (hk.at' hA (fun e => e)) 5
  have ca6 : ∀ w', Keep (fun _ => False) W w' → w'.cell? ⟨N, 6, none⟩ = some (vea) := fun w' hk => cell_of_block (hk.at' hA (fun e => e)) 6
  have cb0 : ∀ w', Keep (fun _ => False) W w' → w'.cell? ⟨N + 1, 0, none⟩ = some (.int .i64 b.kind) := fun w' hk => cell_of_block (hk.at' hB (fun e => e)) 0
  have cb1 : ∀ w', Keep (fun _ => False) W w' → w'.cell? ⟨N + 1, 1, none⟩ = some (.int .u64 b.client) := fun w' hk => cell_of_block (hk.at' hB (fun e => e)) 1
  have cb2 : ∀ w', Keep (fun _ => False) W w' → w'.cell? ⟨N + 1, 2, none⟩ = some (.int .u64 b.num) := fun w' hk => cell_of_block (hk.at' hB (fun e => e)) 2
  have cb3 : ∀ w', Keep (fun _ => False) W w' → w'.cell? ⟨N + 1, 3, none⟩ = some (.bool b.serial) := fun w' hk => cell_of_block (hk.at' hB (fun e => e)) 3
  have cb7 : ∀ w', Keep (fun _ => False) W w' → w'.cell? ⟨N + 1, 7, none⟩ = some (.int .u64 b.rev) := fun w' hk => cell_of_block (hk.at' hB (fun e => e)) 7
  have cb4 : ∀ w', Keep (fun _ => False) W w' → w'.cell? ⟨N + 1, 4, none⟩ = some (vcb) := fun w' hk => cell_of_block (hk.at' hB (fun e => e)) 4
  have cb5 : ∀ w', Keep (fun _ => False) W w' → w'.cell? ⟨N + 1, 5, none⟩ = some (vtb) := fun w' hk => cell_of_block (hk.at' hB (fun e => e)) 5
  have cb6 : ∀ w', Keep (fun _ => False) W w' → w'.cell? ⟨N + 1, 6, none⟩ = some (veb) := fun w' hk => cell_of_block (hk.at' hB (fun e => e)) 6
  have da0 := ca0 W (Keep.refl _ _)
  have da1 := ca1 W (Keep.refl _ _)
  have da2 := ca2 W (Keep.refl _ _)
  have da3 := ca3 W (Keep.refl _ _)
  have da7 := ca7 W (Keep.refl _ _)
  have da4 := ca4 W (Keep.refl _ _)
  have Ea5 := Lib.hid ca5
  have Ea6 := Lib.hid ca6
  have db0 := cb0 W (Keep.refl _ _)
  have db1 := cb1 W (Keep.refl _ _)
  have db2 := cb2 W (Keep.refl _ _)
  have db3 := cb3 W (Keep.refl _ _)
  have db7 := cb7 W (Keep.refl _ _)
  have db4 := cb4 W (Keep.refl _ _)
  have Eb5 := Lib.hid cb5
  have Eb6 := Lib.hid cb6
  clear ca0 ca1 ca2 ca3 ca7 ca4 ca5 ca6 cb0 cb1 cb2 cb3 cb7 cb4 cb5 cb6
  have HKW := Lib.hid hkW
  have HW := Lib.hid hW
  have HA := Lib.hid (ha.far hkW)
  have HB := Lib.hid (hb.far hkW)
  have HLA := Lib.hid hla
  obtain ⟨⟨a1, c1, rfl, -⟩, ⟨a2, c2, rfl, -⟩, ⟨a3, c3, rfl, -⟩⟩ := ha
  obtain ⟨⟨b1, d1, rfl, -⟩, ⟨b2, d2, rfl, -⟩, ⟨b3, d3, rfl, -⟩⟩ := hb
  generalize reqCells a (.slice a1 a.cmps.length c1) (.slice a2 a.thn.length c2) (.slice a3 a.els.length c3) = ca at *
  generalize reqCells b (.slice b1 b.cmps.length d1) (.slice b2 b.thn.length d2) (.slice b3 b.els.length d3) = cb at *
  subst hN
  clear hW hA hB hkW hla
  go_enter Tryz.func80, Tryz.ntmps80
  go_upto_region 1 with fail
  rw [← HW.out]
  by_cases h1 : a.kind = b.kind
  rotate_left
  · have g1 : (a.kind == b.kind) = false := by rw [beq_eq_false_iff_ne]; exact h1
    have HE := Lib.hid (show ¬ a = b from fun e => h1 (by rw [e]))
    clear h1
    go_wp2_with fail
    go_ret
    exact ⟨by rw [decide_eq_false HE.out]; rfl, HKW.out⟩
  have g1 : (a.kind == b.kind) = true := by rw [beq_iff_eq]; exact h1
  have H1 := Lib.hid h1
  clear h1
  by_cases h2 : a.client = b.client
  rotate_left
  · have g2 : (a.client == b.client) = false := by rw [beq_eq_false_iff_ne]; exact h2
    have HE := Lib.hid (show ¬ a = b from fun e => h2 (by rw [e]))
    clear h2
    go_wp2_with fail
    go_ret
    exact ⟨by rw [decide_eq_false HE.out]; rfl, HKW.out⟩
  have g2 : (a.client == b.client) = true := by rw [beq_iff_eq]; exact h2
  have H2 := Lib.hid h2
  clear h2
  by_cases h3 : a.num = b.num
  rotate_left
  · have g3 : (a.num == b.num) = false := by rw [beq_eq_false_iff_ne]; exact h3
    have HE := Lib.hid (show ¬ a = b from fun e => h3 (by rw [e]))
    clear h3
    go_wp2_with fail
    go_ret
    exact ⟨by rw [decide_eq_false HE.out]; rfl, HKW.out⟩
  have g3 : (a.num == b.num) = true := by rw [beq_iff_eq]; exact h3
  have H3 := Lib.hid h3
  clear h3
  by_cases h4 : a.serial = b.serial
  rotate_left
  · have g4 : (a.serial == b.serial) = false := by rw [beq_eq_false_iff_ne]; exact h4
    have HE := Lib.hid (show ¬ a = b from fun e => h4 (by rw [e]))
    clear h4
    go_wp2_with fail
    go_ret
    exact ⟨by rw [decide_eq_false HE.out]; rfl, HKW.out⟩
  have g4 : (a.serial == b.serial) = true := by rw [beq_iff_eq]; exact h4
  have H4 := Lib.hid h4
  clear h4
  by_cases h5 : a.rev = b.rev
  rotate_left
  · have g5 : (a.rev == b.rev) = false := by rw [beq_eq_false_iff_ne]; exact h5
    have HE := Lib.hid (show ¬ a = b from fun e => h5 (by rw [e]))
    clear h5
    go_wp2_with fail
    go_ret
    exact ⟨by rw [decide_eq_false HE.out]; rfl, HKW.out⟩
  have g5 : (a.rev == b.rev) = true := by rw [beq_iff_eq]; exact h5
  have H5 := Lib.hid h5
  clear h5
  have Q1 := Lib.hid (eqCmps_any (.slice a1 a.cmps.length c1) (.slice b1 b.cmps.length d1) a.cmps b.cmps W HA.out.1 HB.out.1 HLA.out.1)
  go_wp2_with fail
  refine Q1.out.mono ?_
  rintro e w1 ⟨rfl, hk1⟩
  have HK1 := Lib.hid hk1
  have HKT1 := Lib.hid (HKW.out.trans' hk1)
  by_cases h6 : a.cmps = b.cmps
  rotate_left
  · have g6 : decide (a.cmps = b.cmps) = false := decide_eq_false h6
    have HE := Lib.hid (show ¬ a = b from fun e => h6 (by rw [e]))
    clear h6 hk1
    go_wp2_with fail
    go_ret
    exact ⟨by rw [decide_eq_false HE.out]; rfl, HKT1.out⟩
  have g6 : decide (a.cmps = b.cmps) = true := decide_eq_true h6
  have H6 := Lib.hid h6
  clear h6
  have x5 := Ea5.out w1 hk1
  have y5 := Eb5.out w1 hk1
  have Q2 := Lib.hid (eqOps_any (.slice a2 a.thn.length c2) (.slice b2 b.thn.length d2) a.thn b.thn w1 (HA.out.far hk1).2.1 (HB.out.far hk1).2.1 HLA.out.2.1)
  clear hk1
  go_wp2_with fail
  refine Q2.out.mono ?_
  rintro e w2 ⟨rfl, hk2⟩
  have HK2 := Lib.hid (HK1.out.trans' hk2)
  by_cases h7 : a.thn = b.thn
  rotate_left
  · have g7 : decide (a.thn = b.thn) = false := decide_eq_false h7
    have HE := Lib.hid (show ¬ a = b from fun e => h7 (by rw [e]))
    clear h7 hk2
    go_wp2_with fail
    go_ret
    exact ⟨by rw [decide_eq_false HE.out]; rfl, HKW.out.trans' HK2.out⟩
  have g7 : decide (a.thn = b.thn) = true := decide_eq_true h7
  have H7 := Lib.hid h7
  clear h7 hk2
  have x6 := Ea6.out w2 HK2.out
  have y6 := Eb6.out w2 HK2.out
  have Q3 := Lib.hid (eqOps_any (.slice a3 a.els.length c3) (.slice b3 b.els.length d3) a.els b.els w2 (HA.out.far HK2.out).2.2 (HB.out.far HK2.out).2.2 HLA.out.2.2)
  go_wp2_with fail
  refine Q3.out.mono ?_
  rintro e w3 ⟨rfl, hk3⟩
  have HK3 := Lib.hid (HK2.out.trans' hk3)
  clear hk3
  have HEND := Lib.hid (show decide (a.els = b.els) = decide (a = b) from decide_eq_decide.2 ⟨fun h => req_eq H1.out H2.out H3.out H4.out H5.out H6.out H7.out h, fun h => by rw [h]⟩)
  go_wp2_with fail
  go_ret
  exact ⟨by rw [← HEND.out]; rfl, HKW.out.trans' HK3.out⟩
end Go.Proofs.YtifliekahdgobaaGreatDoor
