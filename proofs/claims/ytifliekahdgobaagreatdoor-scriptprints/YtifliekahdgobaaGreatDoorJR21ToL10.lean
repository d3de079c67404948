/-
  THE REFERENCE's WALKS, 21: Print (printed by wip/tools/gen_rprint.py). Helpers of the claims.
  works. Helpers of the claims.
  ScriptPrints: the walk. Helpers of the claim.
-/
import Derived.Test.YtifliekahdgobaaGreatDoorJR13ToR15
import Derived.Test.YtifliekahdgobaaGreatDoorJR19ToR20
import Derived.Test.YtifliekahdgobaaGreatDoorJW29ToW31
import Derived.Test.YtifliekahdgobaaGreatDoorJC2ToThV
import Derived.Test.YtifliekahdgobaaGreatDoorJC1ToL5
set_option linter.unusedSimpArgs false
set_option linter.unusedVariables false
namespace Go.Proofs.YtifliekahdgobaaGreatDoor
open Go.RowKit Sp

set_option maxRecDepth 100000 in
set_option maxHeartbeats 1600000 in
theorem rprint_early (nodes : Int) (steps : List StepS) (vs : Value) (w : World) (hs : StepsRead w vs steps) (h : nodes < 1 ∨ 7 < nodes ∨ 4096 < steps.length) :
    Calls Tryz.prog 17 #[.agg #[.int .i64 nodes, vs]] w (GotPrint ⟨nodes, steps⟩ w) := by
  obtain ⟨a, c, rfl⟩ := hs.slice
  have HN := Lib.hid (script_not (s := ⟨nodes, steps⟩) h)
  have hk : Keep (fun _ => False) w (w.alloc (.cells #[.int .i64 nodes, .slice a steps.length c] 29)) := (Keep.refl _ w).alloc _
  have HK := Lib.hid hk
  clear hk hs
  by_cases h1 : nodes < 1
  · have g1 : decide (nodes < 1) = true := decide_eq_true h1
    clear h h1
    go_enter Tryz.func17, Tryz.ntmps17
    go_wp2_with fail
    go_ret2
    exact ⟨HK.out, .inr ⟨HN.out, rfl⟩⟩
  · have g1 : decide (nodes < 1) = false := decide_eq_false h1
    by_cases h2 : 7 < nodes
    · have g2 : decide (7 < nodes) = true := decide_eq_true h2
      clear h h1 h2
      go_enter Tryz.func17, Tryz.ntmps17
      go_wp2_with fail
      go_ret2
      exact ⟨HK.out, .inr ⟨HN.out, rfl⟩⟩
    · have g2 : decide (7 < nodes) = false := decide_eq_false h2
      have g3 : decide ((4096 : Int) < (steps.length : Int)) = true := decide_eq_true (by omega)
      clear h h1 h2
      go_enter Tryz.func17, Tryz.ntmps17
      go_wp2_with fail
      go_ret2
      exact ⟨HK.out, .inr ⟨HN.out, rfl⟩⟩
/-- the reference's first line -/
theorem nodes_ud {n : Int} (h1 : 1 ≤ n) (h7 : n ≤ 7) : nodesLine n = [110, 111, 100, 101, 115, 32] ++ ud n ++ [10] := by
  rw [ud_itoa (by omega) (by unfold most; omega)]
  unfold nodesLine wNodes
  simp
def badHead (x : StepS) : Bool := decide (x.kind < 0 ∨ 11 < x.kind ∨ x.node < 0 ∨ x.kind = 7 ∧ (x.req.kind < 0 ∨ 3 < x.req.kind))
attribute [local go_sem ↓] execOp_add9 in
set_option maxRecDepth 100000 in
set_option maxHeartbeats 12800000 in
theorem rprint_go (nodes : Int) (steps : List StepS) (vs : Value) (w : World) (hs : StepsRead w vs steps) (hm : ∀ x ∈ steps, MidStep x) (hsh : ∀ x ∈ steps, ShortStep x) (h1 : 1 ≤ nodes) (h7 : nodes ≤ 7) (hl : steps.length ≤ 4096) :
    Calls Tryz.prog 17 #[.agg #[.int .i64 nodes, vs]] w (GotPrint ⟨nodes, steps⟩ w) := by
  obtain ⟨a, c, rfl⟩ := hs.slice
  obtain ⟨N0, hN0⟩ : ∃ N, N = w.heap.size := ⟨_, rfl⟩
  obtain ⟨W, hW⟩ : ∃ W : World, W = w.alloc (.cells #[.int .i64 nodes, .slice a steps.length c] 29) := ⟨_, rfl⟩
  have hkW : Keep (fun _ => False) w W := by rw [hW]; exact (Keep.refl _ w).alloc _
  have hbW : W.heap[N0]? = some (.cells #[.int .i64 nodes, .slice a steps.length c] 29 (0, 0)) := by rw [hW, hN0]; exact block_new _ _
  have c0 : W.cell? ⟨N0, 0, none⟩ = some (.int .i64 nodes) := cell_of_block hbW 0
  have c1 : W.cell? ⟨N0, 1, none⟩ = some (.slice a steps.length c) := cell_of_block hbW 1
  have g1 : decide (nodes < 1) = false := decide_eq_false (by omega)
  have g2 : decide (7 < nodes) = false := decide_eq_false (by omega)
  have g3 : decide ((4096 : Int) < (steps.length : Int)) = false := decide_eq_false (by omega)
  have hwr : IntKind.u64.wrap nodes = nodes := by unfold IntKind.wrap; simp [IntKind.bits, IntKind.signed]; omega
  have hu0 : 0 ≤ nodes := by omega
  have hu1 : nodes < 18446744073709551616 := by omega
  have hul := ud_len nodes
  obtain ⟨A, EA, nA, rA⟩ := add_step ([110, 111, 100, 101, 115, 32] : Str) (ud nodes) (by simp only [List.length_cons, List.length_nil]; omega)
  simp only [List.length_cons, List.length_nil] at nA
  obtain ⟨T0, ET, nT, rT⟩ := add_step A ([10] : Str) (by simp only [List.length_cons, List.length_nil]; omega)
  simp only [List.length_cons, List.length_nil] at nT
  have hTl : T0.length ≤ 200 := by omega
  have hT0 : T0 = nodesLine nodes := by rw [nodes_ud h1 h7, ET.out, EA.out]
  have HT0 := Lib.hid hT0
  have HS := Lib.hid (hs.far hkW)
  have HM := Lib.hid hm
  have HSHO := Lib.hid hsh
  have HW := Lib.hid hW
  have HN0 := Lib.hid hN0
  have HKW := Lib.hid hkW
  have HBW := Lib.hid hbW
  clear hs hm hsh hW hN0 hkW hbW hT0 nA nT
  go_enter Tryz.func17, Tryz.ntmps17
  go_upto_region 1 with fail
  rw [← HW.out, ← HN0.out]
  clear HW
  go_wp2_with fail
  refine (rnumU_any nodes hu0 hu1 _).mono ?_
  rintro e w1 ⟨rfl, hk1⟩
  have c1' := hk1.cellOf c1 (fun e => e)
  have HK1 := Lib.hid hk1
  clear hk1 c0 c1
  go_wp2_with fail
  clear g1 g2 g3 rA rT hwr hul c1'
  go_loopw [4, 5] (fun v4 v5 wr => ∃ k : Nat, k ≤ steps.length ∧ v5 = .int .i64 k ∧ v4 = sv (T0 ++ (steps.take k).flatMap stepLine) ∧ Hid ((∀ x ∈ steps.take k, okStep x = true) ∧ (T0 ++ (steps.take k).flatMap stepLine).length ≤ 1000 + k * 60000) ∧ Keep (fun _ => False) W wr) (fun _ v5 _ => steps.length - (intOf v5).toNat)
  case atStart => exact ⟨0, Nat.zero_le _, rfl, by simp, Lib.hid ⟨by simp, by simp; omega⟩, HK1.out⟩
  case round =>
    obtain ⟨k, hk, rfl, rfl, PL, hkr⟩ := hrel
    have hx1 : wr.cell? ⟨N0, 1, none⟩ = some (.slice a steps.length c) := cell_of_block (hkr.at' HBW.out (fun e => e)) 1
    by_cases hlt : k < steps.length
    · have hlt' : (k : Int) < (steps.length : Int) := by omega
      obtain ⟨b, o, vc, vt, ve, ha, hrng, hrr⟩ := (HS.out.far hkr).at k hlt
      subst ha
      have hmx := HM.out _ (List.getElem_mem hlt)
      have hshx := HSHO.out _ (List.getElem_mem hlt)
      have hst2 : (steps.take (k + 1)).flatMap stepLine = (steps.take k).flatMap stepLine ++ stepLine steps[k] := by
        rw [List.take_succ_eq_append_getElem hlt, List.flatMap_append]
        simp
      have htk : ∀ x ∈ steps.take (k + 1), x ∈ steps.take k ∨ x = steps[k] := by
        intro x hx
        rw [List.take_succ_eq_append_getElem hlt] at hx
        rcases List.mem_append.1 hx with h | h
        · exact .inl h
        · exact .inr (by simpa using h)
      have HBAD : Hid (okStep (steps[k]'hlt) = false → okScript ⟨nodes, steps⟩ = false) := Lib.hid (fun h => script_no hlt h)
      have hk0 : (0 : Int) ≤ (k : Int) := by omega
      generalize steps[k] = x at *
      obtain ⟨cs, hcs⟩ : ∃ cs, cs = stepCells x vc vt ve := ⟨_, rfl⟩
      have hone : cs.all (·.oneCell') = true := by
        obtain ⟨⟨a1, c1, r1, -⟩, ⟨a2, c2, r2, -⟩, ⟨a3, c3, r3, -⟩⟩ := hrr
        rw [hcs, r1, r2, r3]
        exact stepCells_one _ _ _ _ rfl rfl rfl
      rw [← hcs] at hrng
      have hld := run_ld63 wr b (o + k * 19) cs (by rw [hcs]; rfl) hrng
      have hz := block_new wr (.cells (stepCells .zero nilS nilS nilS) 63 (0, 0))
      have hst := run_st63 (wr.alloc (.cells (stepCells .zero nilS nilS nilS) 63 (0, 0))) wr.heap.size 0 cs (there_of_block hz (Nat.le_refl 19)) (by rw [hcs]; rfl) hone
      obtain ⟨X, hX⟩ : ∃ X : World, X = (wr.alloc (.cells (stepCells .zero nilS nilS nilS) 63 (0, 0))).setCells wr.heap.size 0 cs.toList := ⟨_, rfl⟩
      rw [← hX] at hst
      have hst3 : (stT 63 (.pointer (some ⟨wr.heap.size, 0, none⟩)) (.agg cs)).run Tryz.prog (wr.alloc (.cells #[.int .i64 0, .int .i64 0, .int .u64 0, .int .i64 0, .int .u64 0, .int .u64 0, .bool false, .slice none 0 0, .slice none 0 0, .slice none 0 0, .int .u64 0, .int .u64 0, .string ⟨#[]⟩, .string ⟨#[]⟩, .int .u64 0, .bool false, .bool false, .bool false, .bool false] 63)) = .ok .skip X := hst
      clear hst
      obtain ⟨B, hB⟩ : ∃ B : Nat, B = wr.heap.size := ⟨_, rfl⟩
      have hbX : StepBlk X B x vc vt ve := ⟨by
        have h9 := block_setCells_all hz cs.toList (by rw [hcs]; rfl)
        rw [Array.toArray_toList, hcs] at h9
        rw [hX, hcs, hB]
        exact h9⟩
      have hkX : Keep (fun _ => False) wr X := by rw [hX]; exact ((Keep.refl _ wr).alloc _).setCells _ _ _ (.inl (Nat.le_refl _))
      have hkVX := hkr.trans' hkX
      have f0 : X.cell? ⟨B, 0, none⟩ = some (.int .i64 x.kind) := cell_of_block hbX.blk 0
      have f1 : X.cell? ⟨B, 1, none⟩ = some (.int .i64 x.node) := cell_of_block hbX.blk 1
      have f3 : X.cell? ⟨B, 3, none⟩ = some (.int .i64 x.req.kind) := cell_of_block hbX.blk 3
      have HCS := Lib.hid hcs
      have HB := Lib.hid hB
      have HBX := Lib.hid hbX
      have HRX := Lib.hid (hrr.far hkX)
      have HKV := Lib.hid hkVX
      have HMX := Lib.hid hmx
      have HSX := Lib.hid hshx
      have HST2 := Lib.hid hst2
      have HTK := Lib.hid htk
      clear hkr hrr hmx hshx hst2 htk hcs hone hrng hz hX hbX hkX hkVX hB
      go_upto_region 8 with fail
      rw [← HB.out]
      clear hst3 hld hx1
      go_cut [71] from 42 to 71 (fun v71 wx => v71 = .bool (badHead x) ∧ wx = X)
      case first =>
        by_cases q1 : x.kind < 0
        · have g1 : decide (x.kind < 0) = true := decide_eq_true q1
          have gb : badHead x = true := decide_eq_true (.inl q1)
          clear q1
          go_wp2_with fail
          go_meet
          exact ⟨by rw [gb], rfl⟩
        have g1 : decide (x.kind < 0) = false := decide_eq_false q1
        by_cases q2 : 11 < x.kind
        · have g2 : decide (11 < x.kind) = true := decide_eq_true q2
          have gb : badHead x = true := decide_eq_true (.inr (.inl q2))
          clear q1 q2
          go_wp2_with fail
          go_meet
          exact ⟨by rw [gb], rfl⟩
        have g2 : decide (11 < x.kind) = false := decide_eq_false q2
        by_cases q3 : x.node < 0
        · have g3 : decide (x.node < 0) = true := decide_eq_true q3
          have gb : badHead x = true := decide_eq_true (.inr (.inr (.inl q3)))
          clear q1 q2 q3
          go_wp2_with fail
          go_meet
          exact ⟨by rw [gb], rfl⟩
        have g3 : decide (x.node < 0) = false := decide_eq_false q3
        by_cases q4 : x.kind = 7
        rotate_left
        · have g4 : (x.kind == 7) = false := by simpa using q4
          have gb : badHead x = false := decide_eq_false (by omega)
          clear q1 q2 q3 q4
          go_wp2_with fail
          go_meet
          exact ⟨by rw [gb], rfl⟩
        have g4 : (x.kind == 7) = true := by simpa using q4
        by_cases q5 : x.req.kind < 0
        · have g5 : decide (x.req.kind < 0) = true := decide_eq_true q5
          have gb : badHead x = true := decide_eq_true (by omega)
          clear q1 q2 q3 q4 q5
          go_wp2_with fail
          go_meet
          exact ⟨by rw [gb], rfl⟩
        have g5 : decide (x.req.kind < 0) = false := decide_eq_false q5
        by_cases q6 : 3 < x.req.kind
        · have g6 : decide (3 < x.req.kind) = true := decide_eq_true q6
          have gb : badHead x = true := decide_eq_true (by omega)
          clear q1 q2 q3 q4 q5 q6
          go_wp2_with fail
          go_meet
          exact ⟨by rw [gb], rfl⟩
        have g6 : decide (3 < x.req.kind) = false := decide_eq_false q6
        have gb : badHead x = false := decide_eq_false (by omega)
        clear q1 q2 q3 q4 q5 q6
        go_wp2_with fail
        go_meet
        exact ⟨by rw [gb], rfl⟩
      case rest =>
        obtain ⟨rfl, rfl⟩ := hcut
        clear f0 f1 f3
        cases hbh : badHead x
        rotate_left
        · have HNO := Lib.hid (HBAD.out (kind_no (of_decide_eq_true hbh)))
          clear hbh
          go_wp2_with fail
          go_ret2
          exact ⟨HKW.out.trans' HKV.out, .inr ⟨HNO.out, rfl⟩⟩
        have hgood : ¬ (x.kind < 0 ∨ 11 < x.kind ∨ x.node < 0 ∨ x.kind = 7 ∧ (x.req.kind < 0 ∨ 3 < x.req.kind)) := of_decide_eq_false hbh
        have hldB : (ldT 63 (.pointer (some ⟨B, 0, none⟩))).run Tryz.prog wc = .ok (.value (.agg cs)) wc := run_ld63 wc B 0 cs (by rw [HCS.out]; rfl) (by rw [HCS.out]; exact range_of_block HBX.out.blk)
        have HT := Lib.hid (by
          rw [HCS.out]
          exact rstepText_any x vc vt ve HMX.out (by omega) (by omega) (fun e => by omega) wc HRX.out : Calls Tryz.prog 41 #[.agg cs] wc (Gives (sv (join (rstepWords x))) wc))
        have htl := rstep_short HSX.out
        have HOKB := Lib.hid (fun (h : okStep x = true) => back_ok h)
        have HOKT := Lib.hid (fun (h : okStep x = true) => rstep_text h)
        obtain ⟨t, ht⟩ : ∃ t, t = join (rstepWords x) := ⟨_, rfl⟩
        rw [← ht] at HT htl HOKB HOKT
        clear hgood hbh ht
        go_wp2_with fail
        refine HT.out.mono ?_
        rintro e w2 ⟨rfl, hk2⟩
        have HK2 := Lib.hid hk2
        obtain ⟨pt, EP, nP, rP⟩ := add_step head1 t (by simp only [head1, List.length_cons, List.length_nil]; omega)
        unfold head1 at rP
        simp only [head1, List.length_cons, List.length_nil] at nP
        rw [← EP.out] at HOKB
        have hptl : pt.length ≤ 100000 := by omega
        have H9 := Lib.hid (rparse_any pt hptl w2)
        clear hk2 HT hptl nP
        go_wp2_with fail
        refine H9.out.mono ?_
        rintro e w3 ⟨hk3, h3⟩
        have HK3 := Lib.hid (HK2.out.trans' hk3)
        have HBX3 := Lib.hid (HBX.out.keep HK3.out (fun e => e))
        have HRX3 := Lib.hid (HRX.out.far HK3.out)
        have HKV3 := Lib.hid (HKV.out.trans' HK3.out)
        clear hk3 H9 HBX HRX HK2
        rcases hp : parse pt with ⟨cd, no⟩ | y
        · rw [hp] at h3
          dsimp only at h3
          subst h3
          have hc3 := parse_err hp
          have HNO := Lib.hid (HBAD.out (by
            cases ho : okStep x
            · rfl
            · have := HOKB.out ho
              rw [hp] at this
              cases this))
          have hc0 : (cd != 0) = true := by rw [bne_iff_ne]; omega
          clear hp hc3
          go_upto_region 12 with fail
          obtain ⟨V, hV⟩ : ∃ V : World, V = (w3.alloc (.cells #[.int .i64 0, .slice none 0 0] 29)).alloc (.cells #[.int .i64 cd, .int .i64 no] 32) := ⟨_, rfl⟩
          obtain ⟨b8, hb8⟩ : ∃ b, b = w3.heap.size := ⟨_, rfl⟩
          have hkV : Keep (fun _ => False) w3 V := by rw [hV]; exact ((Keep.refl _ _).alloc _).alloc _
          have hbl9 : V.heap[b8 + 1]? = some (.cells #[.int .i64 cd, .int .i64 no] 32 (0, 0)) := by rw [hV, hb8]; exact block_new' _ _ (by simp)
          rw [← hV, ← hb8]
          have d9 : V.cell? ⟨b8 + 1, 0, none⟩ = some (.int .i64 cd) := cell_of_block hbl9 0
          have HKZ := Lib.hid (HKW.out.trans' (HKV3.out.trans' hkV))
          clear hV hb8 hkV hbl9
          go_quiet (fail)
          go_wp2_with fail
          go_ret2
          exact ⟨HKZ.out.trans' (Keep.drewN (Keep.refl _ _) _), .inr ⟨HNO.out, rfl⟩⟩
        · rw [hp] at h3
          obtain ⟨vy, rfl, hsy⟩ := h3
          obtain ⟨ny, ly⟩ := y
          obtain ⟨ay, cy, hvy, -⟩ := hsy.slice
          dsimp only at hvy hsy
          subst hvy
          have HP := Lib.hid hp
          have HSR := Lib.hid (StepsRead.of_at hsy)
          clear hp hsy
          dsimp only
          go_upto_region 12 with fail
          obtain ⟨V, hV⟩ : ∃ V : World, V = (w3.alloc (.cells #[.int .i64 ny, .slice ay ly.length cy] 29)).alloc (.cells #[.int .i64 0, .int .i64 0] 32) := ⟨_, rfl⟩
          obtain ⟨b8, hb8⟩ : ∃ b, b = w3.heap.size := ⟨_, rfl⟩
          have hkV : Keep (fun _ => False) w3 V := by rw [hV]; exact ((Keep.refl _ _).alloc _).alloc _
          have hbl8 : V.heap[b8]? = some (.cells #[.int .i64 ny, .slice ay ly.length cy] 29 (0, 0)) := by rw [hV, hb8]; exact block_alloc (block_new _ _) _
          have hbl9 : V.heap[b8 + 1]? = some (.cells #[.int .i64 0, .int .i64 0] 32 (0, 0)) := by rw [hV, hb8]; exact block_new' _ _ (by simp)
          rw [← hV, ← hb8]
          have d9 : V.cell? ⟨b8 + 1, 0, none⟩ = some (.int .i64 0) := cell_of_block hbl9 0
          have HKZ := Lib.hid (HKV3.out.trans' hkV)
          have HKV4 := Lib.hid hkV
          have HBL8 := Lib.hid hbl8
          have HBL9 := Lib.hid hbl9
          clear hV hb8 hkV hbl8 hbl9
          by_cases hl1 : ly.length = 1
          rotate_left
          · have HNO := Lib.hid (HBAD.out (by
              cases ho : okStep x
              · rfl
              · have h1 := HOKB.out ho
                rw [HP.out] at h1
                injection h1 with h1
                injection h1 with _ h2
                rw [h2] at hl1
                exact absurd rfl hl1))
            have gl : ((ly.length : Int) != 1) = true := by rw [bne_iff_ne]; omega
            have d8 : V.cell? ⟨b8, 1, none⟩ = some (.slice ay ly.length cy) := cell_of_block HBL8.out 1
            clear hl1
            go_quiet (fail)
            go_wp2_with fail
            go_ret2
            exact ⟨HKW.out.trans' (HKZ.out.trans' (Keep.drewN (Keep.refl _ _) _)), .inr ⟨HNO.out, rfl⟩⟩
          obtain ⟨y0, rfl⟩ : ∃ y0, ly = [y0] := List.length_eq_one_iff.1 hl1
          clear hl1 d9
          simp only [List.length_cons, List.length_nil, Nat.zero_add] at HBL8 HSR
          obtain ⟨b', o', vc', vt', ve', ha', hrng', hrr'⟩ := HSR.out.at 0 (by simp)
          subst ha'
          simp only [List.getElem_cons_zero, Nat.zero_mul, Nat.add_zero] at hrng' hrr'
          have hoy : okStep y0 = true := back_step HP.out
          obtain ⟨cyy, hcyy⟩ : ∃ c, c = stepCells y0 vc' vt' ve' := ⟨_, rfl⟩
          rw [← hcyy] at hrng'
          have HS := Lib.hid (fun w' (hk : Keep (fun _ => False) V w') => (⟨cell_of_block (hk.at' HBL9.out (fun e => e)) 0, cell_of_block (hk.at' HBL8.out (fun e => e)) 1,
              run_ld63 w' b' _ cyy (by rw [hcyy]; rfl) (fun j u hu => (HKV4.out.trans' hk).cellOf (hrng' j u hu) (fun e => e)),
              run_ld63 w' B 0 cs (by rw [HCS.out]; rfl) (by rw [HCS.out]; exact range_of_block ((HBX3.out.keep (HKV4.out.trans' hk) (fun e => e)).blk))⟩ :
            w'.cell? ⟨b8 + 1, 0, none⟩ = some (.int .i64 0) ∧ w'.cell? ⟨b8, 1, none⟩ = some (.slice (some ⟨b', o', none⟩) 1 cy) ∧
            (ldT 63 (.pointer (some ⟨b', o', none⟩))).run Tryz.prog w' = .ok (.value (.agg cyy)) w' ∧ (ldT 63 (.pointer (some ⟨B, 0, none⟩))).run Tryz.prog w' = .ok (.value (.agg cs)) w'))
          have HCALL := Lib.hid (fun w' (hk : Keep (fun _ => False) V w') => (by
            rw [hcyy, HCS.out]
            exact rsame_any y0 x vc' vt' ve' vc vt ve w' (hrr'.far (HKV4.out.trans' hk)) (HRX3.out.far (HKV4.out.trans' hk)) (ok_lens hoy) : Calls Tryz.prog 32 #[.agg cyy, .agg cs] w' (Tells (decide (y0 = x)) w')))
          have HOY := Lib.hid hoy
          clear hrng' hrr' hcyy hoy HSR HBL8 HBL9
          have hkk0 : Keep (fun _ => False) V V.drew := (Keep.refl _ V).drew
          simp only [List.length_cons, List.length_nil, Nat.zero_add]
          by_cases hyx : y0 = x
          · have HYX := Lib.hid hyx
            have hd : decide (y0 = x) = true := decide_eq_true hyx
            rw [hd] at HCALL
            clear hyx hd
            refine wp_region_held_drew (S := fun w' => w'.cell? ⟨b8 + 1, 0, none⟩ = some (.int .i64 0) ∧ w'.cell? ⟨b8, 1, none⟩ = some (.slice (some ⟨b', o', none⟩) 1 cy) ∧ (ldT 63 (.pointer (some ⟨b', o', none⟩))).run Tryz.prog w' = .ok (.value (.agg cyy)) w' ∧ (ldT 63 (.pointer (some ⟨B, 0, none⟩))).run Tryz.prog w' = .ok (.value (.agg cs)) w') (by kernel_rfl) (HS.out _ hkk0) (fun hHeld => ?_)
            refine wpAnyH_take (i := 0) (oi := ?_) (v := ?_) (by simp only [List.getElem?_toArray, List.getElem?_cons_succ, List.getElem?_cons_zero]; exact rfl) (by kernel_rfl) (by kernel_rfl) (by kernel_rfl) (by exact fun _ _ _ h => h) (Or.inl ⟨by rfl, ?_⟩) (by assumption) ?_
            rotate_left
            · (intro w hSw; (try dsimp only at hSw); go_simp; try with_reducible rfl)
            try simp only [Act.put, List.setIfInBounds_toArray, List.set_cons_zero, List.set_cons_succ]
            refine wpAnyH_take (i := 1) (oi := ?_) (v := ?_) (by simp only [List.getElem?_toArray, List.getElem?_cons_succ, List.getElem?_cons_zero]; exact rfl) (by kernel_rfl) (by kernel_rfl) (by kernel_rfl) (by exact fun _ _ _ h => h) (Or.inl ⟨by rfl, ?_⟩) (by assumption) ?_
            rotate_left
            · (intro w hSw; (try dsimp only at hSw); go_simp; try with_reducible rfl)
            try simp only [Act.put, List.setIfInBounds_toArray, List.set_cons_zero, List.set_cons_succ]
            refine wpAnyH_take (i := 2) (oi := ?_) (v := ?_) (by simp only [List.getElem?_toArray, List.getElem?_cons_succ, List.getElem?_cons_zero]; exact rfl) (by kernel_rfl) (by kernel_rfl) (by kernel_rfl) (by exact fun _ _ _ h => h) (Or.inl ⟨by rfl, ?_⟩) (by assumption) ?_
            rotate_left
            · (intro w hSw; (try dsimp only at hSw); go_simp; try with_reducible rfl)
            try simp only [Act.put, List.setIfInBounds_toArray, List.set_cons_zero, List.set_cons_succ]
            refine wpAnyH_take (i := 3) (oi := ?_) (v := ?_) (by simp only [List.getElem?_toArray, List.getElem?_cons_succ, List.getElem?_cons_zero]; exact rfl) (by kernel_rfl) (by kernel_rfl) (by kernel_rfl) (by exact fun _ _ _ h => h) (Or.inl ⟨by rfl, ?_⟩) (by assumption) ?_
            rotate_left
            · (intro w hSw; (try dsimp only at hSw); go_simp; try with_reducible rfl)
            try simp only [Act.put, List.setIfInBounds_toArray, List.set_cons_zero, List.set_cons_succ]
            refine wpAnyH_take (i := 4) (oi := ?_) (v := ?_) (by simp only [List.getElem?_toArray, List.getElem?_cons_succ, List.getElem?_cons_zero]; exact rfl) (by kernel_rfl) (by kernel_rfl) (by kernel_rfl) (by exact fun _ _ _ h => h) (Or.inl ⟨by rfl, ?_⟩) (by assumption) ?_
            rotate_left
            · (intro w hSw; (try dsimp only at hSw); go_simp; try with_reducible rfl)
            try simp only [Act.put, List.setIfInBounds_toArray, List.set_cons_zero, List.set_cons_succ]
            refine wpAnyH_take (i := 5) (oi := ?_) (v := ?_) (by simp only [List.getElem?_toArray, List.getElem?_cons_succ, List.getElem?_cons_zero]; exact rfl) (by kernel_rfl) (by kernel_rfl) (by kernel_rfl) (by exact fun _ _ _ h => h) (Or.inl ⟨by rfl, ?_⟩) (by assumption) ?_
            rotate_left
            · (intro w hSw; (try dsimp only at hSw); go_simp; try with_reducible rfl)
            try simp only [Act.put, List.setIfInBounds_toArray, List.set_cons_zero, List.set_cons_succ]
            refine wpAnyH_take (i := 6) (oi := ?_) (v := ?_) (by simp only [List.getElem?_toArray, List.getElem?_cons_succ, List.getElem?_cons_zero]; exact rfl) (by kernel_rfl) (by kernel_rfl) (by kernel_rfl) (by exact fun _ _ _ h => h) (Or.inl ⟨by rfl, ?_⟩) (by assumption) ?_
            rotate_left
            · (intro w hSw; (try dsimp only at hSw); go_simp; try with_reducible rfl)
            try simp only [Act.put, List.setIfInBounds_toArray, List.set_cons_zero, List.set_cons_succ]
            refine wpAnyH_take (i := 7) (oi := ?_) (v := ?_) (by simp only [List.getElem?_toArray, List.getElem?_cons_succ, List.getElem?_cons_zero]; exact rfl) (by kernel_rfl) (by kernel_rfl) (by kernel_rfl) (by exact fun _ _ _ h => h) (Or.inl ⟨by rfl, ?_⟩) (by assumption) ?_
            rotate_left
            · (intro w hSw; (try dsimp only at hSw); go_simp; try with_reducible rfl)
            try simp only [Act.put, List.setIfInBounds_toArray, List.set_cons_zero, List.set_cons_succ]
            refine wpAnyH_take (i := 8) (oi := ?_) (v := ?_) (by simp only [List.getElem?_toArray, List.getElem?_cons_succ, List.getElem?_cons_zero]; exact rfl) (by kernel_rfl) (by kernel_rfl) (by kernel_rfl) (by exact fun _ _ _ h => h) (Or.inl ⟨by rfl, ?_⟩) (by assumption) ?_
            rotate_left
            · (intro w hSw; (try dsimp only at hSw); go_simp; try with_reducible rfl)
            try simp only [Act.put, List.setIfInBounds_toArray, List.set_cons_zero, List.set_cons_succ]
            refine wpAnyH_take (i := 9) (oi := ?_) (v := ?_) (by simp only [List.getElem?_toArray, List.getElem?_cons_succ, List.getElem?_cons_zero]; exact rfl) (by kernel_rfl) (by kernel_rfl) (by kernel_rfl) (by exact fun _ _ _ h => h) (Or.inl ⟨by rfl, ?_⟩) (by assumption) ?_
            rotate_left
            · (intro w hSw; (try dsimp only at hSw); go_simp; try with_reducible rfl)
            try simp only [Act.put, List.setIfInBounds_toArray, List.set_cons_zero, List.set_cons_succ]
            refine wpAnyH_take (i := 10) (oi := ?_) (v := ?_) (by simp only [List.getElem?_toArray, List.getElem?_cons_succ, List.getElem?_cons_zero]; exact rfl) (by kernel_rfl) (by kernel_rfl) (by kernel_rfl) (by exact fun _ _ _ h => h) (Or.inl ⟨by rfl, ?_⟩) (by assumption) ?_
            rotate_left
            · (intro w hSw; (try dsimp only at hSw); go_simp; try with_reducible rfl)
            try simp only [Act.put, List.setIfInBounds_toArray, List.set_cons_zero, List.set_cons_succ]
            refine wpAnyH_take (i := 11) (oi := ?_) (v := ?_) (by simp only [List.getElem?_toArray, List.getElem?_cons_succ, List.getElem?_cons_zero]; exact rfl) (by kernel_rfl) (by kernel_rfl) (by kernel_rfl) (by exact fun _ _ _ h => h) (Or.inl ⟨by rfl, ?_⟩) (by assumption) ?_
            rotate_left
            · (intro w hSw; (try dsimp only at hSw); go_simp; try with_reducible rfl)
            try simp only [Act.put, List.setIfInBounds_toArray, List.set_cons_zero, List.set_cons_succ]
            refine wpAnyH_take (i := 12) (oi := ?_) (v := ?_) (by simp only [List.getElem?_toArray, List.getElem?_cons_succ, List.getElem?_cons_zero]; exact rfl) (by kernel_rfl) (by kernel_rfl) (by kernel_rfl) (by exact fun _ _ _ h => h) (Or.inl ⟨by rfl, ?_⟩) (by assumption) ?_
            rotate_left
            · (intro w hSw; (try dsimp only at hSw); go_simp; try with_reducible rfl)
            try simp only [Act.put, List.setIfInBounds_toArray, List.set_cons_zero, List.set_cons_succ]
            refine wpAnyH_take (i := 13) (oi := ?_) (v := ?_) (by simp only [List.getElem?_toArray, List.getElem?_cons_succ, List.getElem?_cons_zero]; exact rfl) (by kernel_rfl) (by kernel_rfl) (by kernel_rfl) (by exact fun _ _ _ h => h) (Or.inl ⟨by rfl, ?_⟩) (by assumption) ?_
            rotate_left
            · (intro w hSw; (try dsimp only at hSw); go_simp; try with_reducible rfl)
            try simp only [Act.put, List.setIfInBounds_toArray, List.set_cons_zero, List.set_cons_succ]
            refine wpAnyH_take (i := 14) (oi := ?_) (v := ?_) (by simp only [List.getElem?_toArray, List.getElem?_cons_succ, List.getElem?_cons_zero]; exact rfl) (by kernel_rfl) (by kernel_rfl) (by kernel_rfl) (by exact fun _ _ _ h => h) (Or.inl ⟨by rfl, ?_⟩) (by assumption) ?_
            rotate_left
            · (intro w hSw; (try dsimp only at hSw); go_simp; try with_reducible rfl)
            try simp only [Act.put, List.setIfInBounds_toArray, List.set_cons_zero, List.set_cons_succ]
            refine wpAnyH_ready (rs := [15]) (by kernel_rfl) (by simp) ?_
            refine AllReadyH.cons (o := ?_) (by simp only [List.getElem?_toArray, List.getElem?_cons_succ, List.getElem?_cons_zero]; exact rfl) (fun K hK => ?_) AllReadyH.nil
            go_simp
            refine (HCALL.out _ hkk0).mono ?_
            rintro ev wq1 ⟨rfl, hkq⟩
            have hkk1 : Keep (fun _ => False) V wq1 := hkk0.trans' hkq
            clear hkq
            refine hK.out _ _ (HS.out _ hkk1) (fun hHeld => ?_)
            clear hK K
            try simp only [Act.put, List.setIfInBounds_toArray, List.set_cons_zero, List.set_cons_succ]
            refine wpAnyH_take (i := 16) (oi := ?_) (v := ?_) (by simp only [List.getElem?_toArray, List.getElem?_cons_succ, List.getElem?_cons_zero]; exact rfl) (by kernel_rfl) (by kernel_rfl) (by kernel_rfl) (by exact fun _ _ _ h => h) (Or.inl ⟨by rfl, ?_⟩) (by assumption) ?_
            rotate_left
            · (intro w hSw; (try dsimp only at hSw); go_simp; try with_reducible rfl)
            try simp only [Act.put, List.setIfInBounds_toArray, List.set_cons_zero, List.set_cons_succ]
            refine wpAnyH_take (i := 17) (oi := ?_) (v := ?_) (by simp only [List.getElem?_toArray, List.getElem?_cons_succ, List.getElem?_cons_zero]; exact rfl) (by kernel_rfl) (by kernel_rfl) (by kernel_rfl) (by exact fun _ _ _ h => h) (Or.inl ⟨by rfl, ?_⟩) (by assumption) ?_
            rotate_left
            · (intro w hSw; (try dsimp only at hSw); go_simp; try with_reducible rfl)
            try simp only [Act.put, List.setIfInBounds_toArray, List.set_cons_zero, List.set_cons_succ]
            refine wpAnyH_done (by kernel_rfl) ?_ _
            have hokx : okStep x = true := by rw [← HYX.out]; exact HOY.out
            have hPL := PL.out
            have htx := HOKT.out hokx
            have HKN := Lib.hid (HKZ.out.trans' hkk1)
            obtain ⟨P, hP⟩ : ∃ P, P = T0 ++ (steps.take k).flatMap stepLine := ⟨_, rfl⟩
            rw [← hP] at hPL
            rw [← hP]
            have hpl : P.length ≤ 300000000 := by omega
            obtain ⟨P1, E1, n1, r1⟩ := add_step P t (by omega)
            obtain ⟨P2, E2, n2, r2⟩ := add_step P1 [10] (by simp only [List.length_cons, List.length_nil]; omega)
            simp only [List.length_cons, List.length_nil] at n2
            have HPN : Hid ((∀ y ∈ steps.take (k + 1), okStep y = true) ∧ (T0 ++ (steps.take (k + 1)).flatMap stepLine).length ≤ 1000 + (k + 1) * 60000) := Lib.hid ⟨fun y hy => by
                rcases HTK.out y hy with h | h
                · exact hPL.1 y h
                · rw [h]; exact hokx, by
              have h2 := hPL.2
              rw [HST2.out, ← List.append_assoc, ← hP, List.length_append]
              have h3 : (stepLine x).length = t.length + 1 := by unfold stepLine; rw [← htx]; simp
              omega⟩
            have HPX := Lib.hid (show P2 = T0 ++ (steps.take (k + 1)).flatMap stepLine by
              rw [HST2.out, ← List.append_assoc, ← hP, E2.out, E1.out]
              unfold stepLine
              rw [htx]
              simp)
            clear hPL htx hP hpl n1 n2 hokx hHeld hkk0 hkk1 HCALL HS
            go_wp2_with fail
            exact ⟨⟨k + 1, by omega, by go_num, by rw [← HPX.out], HPN, HKN.out⟩, by simp [intOf]; omega⟩
          · have HNO := Lib.hid (HBAD.out (by
              cases ho : okStep x
              · rfl
              · have h1 := HOKB.out ho
                rw [HP.out] at h1
                injection h1 with h1
                injection h1 with _ h2
                injection h2 with h2
                exact absurd h2 hyx))
            have hd : decide (y0 = x) = false := decide_eq_false hyx
            rw [hd] at HCALL
            clear hyx hd
            refine wp_region_held_drew (S := fun w' => w'.cell? ⟨b8 + 1, 0, none⟩ = some (.int .i64 0) ∧ w'.cell? ⟨b8, 1, none⟩ = some (.slice (some ⟨b', o', none⟩) 1 cy) ∧ (ldT 63 (.pointer (some ⟨b', o', none⟩))).run Tryz.prog w' = .ok (.value (.agg cyy)) w' ∧ (ldT 63 (.pointer (some ⟨B, 0, none⟩))).run Tryz.prog w' = .ok (.value (.agg cs)) w') (by kernel_rfl) (HS.out _ hkk0) (fun hHeld => ?_)
            refine wpAnyH_take (i := 0) (oi := ?_) (v := ?_) (by simp only [List.getElem?_toArray, List.getElem?_cons_succ, List.getElem?_cons_zero]; exact rfl) (by kernel_rfl) (by kernel_rfl) (by kernel_rfl) (by exact fun _ _ _ h => h) (Or.inl ⟨by rfl, ?_⟩) (by assumption) ?_
            rotate_left
            · (intro w hSw; (try dsimp only at hSw); go_simp; try with_reducible rfl)
            try simp only [Act.put, List.setIfInBounds_toArray, List.set_cons_zero, List.set_cons_succ]
            refine wpAnyH_take (i := 1) (oi := ?_) (v := ?_) (by simp only [List.getElem?_toArray, List.getElem?_cons_succ, List.getElem?_cons_zero]; exact rfl) (by kernel_rfl) (by kernel_rfl) (by kernel_rfl) (by exact fun _ _ _ h => h) (Or.inl ⟨by rfl, ?_⟩) (by assumption) ?_
            rotate_left
            · (intro w hSw; (try dsimp only at hSw); go_simp; try with_reducible rfl)
            try simp only [Act.put, List.setIfInBounds_toArray, List.set_cons_zero, List.set_cons_succ]
            refine wpAnyH_take (i := 2) (oi := ?_) (v := ?_) (by simp only [List.getElem?_toArray, List.getElem?_cons_succ, List.getElem?_cons_zero]; exact rfl) (by kernel_rfl) (by kernel_rfl) (by kernel_rfl) (by exact fun _ _ _ h => h) (Or.inl ⟨by rfl, ?_⟩) (by assumption) ?_
            rotate_left
            · (intro w hSw; (try dsimp only at hSw); go_simp; try with_reducible rfl)
            try simp only [Act.put, List.setIfInBounds_toArray, List.set_cons_zero, List.set_cons_succ]
            refine wpAnyH_take (i := 3) (oi := ?_) (v := ?_) (by simp only [List.getElem?_toArray, List.getElem?_cons_succ, List.getElem?_cons_zero]; exact rfl) (by kernel_rfl) (by kernel_rfl) (by kernel_rfl) (by exact fun _ _ _ h => h) (Or.inl ⟨by rfl, ?_⟩) (by assumption) ?_
            rotate_left
            · (intro w hSw; (try dsimp only at hSw); go_simp; try with_reducible rfl)
            try simp only [Act.put, List.setIfInBounds_toArray, List.set_cons_zero, List.set_cons_succ]
            refine wpAnyH_take (i := 4) (oi := ?_) (v := ?_) (by simp only [List.getElem?_toArray, List.getElem?_cons_succ, List.getElem?_cons_zero]; exact rfl) (by kernel_rfl) (by kernel_rfl) (by kernel_rfl) (by exact fun _ _ _ h => h) (Or.inl ⟨by rfl, ?_⟩) (by assumption) ?_
            rotate_left
            · (intro w hSw; (try dsimp only at hSw); go_simp; try with_reducible rfl)
            try simp only [Act.put, List.setIfInBounds_toArray, List.set_cons_zero, List.set_cons_succ]
            refine wpAnyH_take (i := 5) (oi := ?_) (v := ?_) (by simp only [List.getElem?_toArray, List.getElem?_cons_succ, List.getElem?_cons_zero]; exact rfl) (by kernel_rfl) (by kernel_rfl) (by kernel_rfl) (by exact fun _ _ _ h => h) (Or.inl ⟨by rfl, ?_⟩) (by assumption) ?_
            rotate_left
            · (intro w hSw; (try dsimp only at hSw); go_simp; try with_reducible rfl)
            try simp only [Act.put, List.setIfInBounds_toArray, List.set_cons_zero, List.set_cons_succ]
            refine wpAnyH_take (i := 6) (oi := ?_) (v := ?_) (by simp only [List.getElem?_toArray, List.getElem?_cons_succ, List.getElem?_cons_zero]; exact rfl) (by kernel_rfl) (by kernel_rfl) (by kernel_rfl) (by exact fun _ _ _ h => h) (Or.inl ⟨by rfl, ?_⟩) (by assumption) ?_
            rotate_left
            · (intro w hSw; (try dsimp only at hSw); go_simp; try with_reducible rfl)
            try simp only [Act.put, List.setIfInBounds_toArray, List.set_cons_zero, List.set_cons_succ]
            refine wpAnyH_take (i := 7) (oi := ?_) (v := ?_) (by simp only [List.getElem?_toArray, List.getElem?_cons_succ, List.getElem?_cons_zero]; exact rfl) (by kernel_rfl) (by kernel_rfl) (by kernel_rfl) (by exact fun _ _ _ h => h) (Or.inl ⟨by rfl, ?_⟩) (by assumption) ?_
            rotate_left
            · (intro w hSw; (try dsimp only at hSw); go_simp; try with_reducible rfl)
            try simp only [Act.put, List.setIfInBounds_toArray, List.set_cons_zero, List.set_cons_succ]
            refine wpAnyH_take (i := 8) (oi := ?_) (v := ?_) (by simp only [List.getElem?_toArray, List.getElem?_cons_succ, List.getElem?_cons_zero]; exact rfl) (by kernel_rfl) (by kernel_rfl) (by kernel_rfl) (by exact fun _ _ _ h => h) (Or.inl ⟨by rfl, ?_⟩) (by assumption) ?_
            rotate_left
            · (intro w hSw; (try dsimp only at hSw); go_simp; try with_reducible rfl)
            try simp only [Act.put, List.setIfInBounds_toArray, List.set_cons_zero, List.set_cons_succ]
            refine wpAnyH_take (i := 9) (oi := ?_) (v := ?_) (by simp only [List.getElem?_toArray, List.getElem?_cons_succ, List.getElem?_cons_zero]; exact rfl) (by kernel_rfl) (by kernel_rfl) (by kernel_rfl) (by exact fun _ _ _ h => h) (Or.inl ⟨by rfl, ?_⟩) (by assumption) ?_
            rotate_left
            · (intro w hSw; (try dsimp only at hSw); go_simp; try with_reducible rfl)
            try simp only [Act.put, List.setIfInBounds_toArray, List.set_cons_zero, List.set_cons_succ]
            refine wpAnyH_take (i := 10) (oi := ?_) (v := ?_) (by simp only [List.getElem?_toArray, List.getElem?_cons_succ, List.getElem?_cons_zero]; exact rfl) (by kernel_rfl) (by kernel_rfl) (by kernel_rfl) (by exact fun _ _ _ h => h) (Or.inl ⟨by rfl, ?_⟩) (by assumption) ?_
            rotate_left
            · (intro w hSw; (try dsimp only at hSw); go_simp; try with_reducible rfl)
            try simp only [Act.put, List.setIfInBounds_toArray, List.set_cons_zero, List.set_cons_succ]
            refine wpAnyH_take (i := 11) (oi := ?_) (v := ?_) (by simp only [List.getElem?_toArray, List.getElem?_cons_succ, List.getElem?_cons_zero]; exact rfl) (by kernel_rfl) (by kernel_rfl) (by kernel_rfl) (by exact fun _ _ _ h => h) (Or.inl ⟨by rfl, ?_⟩) (by assumption) ?_
            rotate_left
            · (intro w hSw; (try dsimp only at hSw); go_simp; try with_reducible rfl)
            try simp only [Act.put, List.setIfInBounds_toArray, List.set_cons_zero, List.set_cons_succ]
            refine wpAnyH_take (i := 12) (oi := ?_) (v := ?_) (by simp only [List.getElem?_toArray, List.getElem?_cons_succ, List.getElem?_cons_zero]; exact rfl) (by kernel_rfl) (by kernel_rfl) (by kernel_rfl) (by exact fun _ _ _ h => h) (Or.inl ⟨by rfl, ?_⟩) (by assumption) ?_
            rotate_left
            · (intro w hSw; (try dsimp only at hSw); go_simp; try with_reducible rfl)
            try simp only [Act.put, List.setIfInBounds_toArray, List.set_cons_zero, List.set_cons_succ]
            refine wpAnyH_take (i := 13) (oi := ?_) (v := ?_) (by simp only [List.getElem?_toArray, List.getElem?_cons_succ, List.getElem?_cons_zero]; exact rfl) (by kernel_rfl) (by kernel_rfl) (by kernel_rfl) (by exact fun _ _ _ h => h) (Or.inl ⟨by rfl, ?_⟩) (by assumption) ?_
            rotate_left
            · (intro w hSw; (try dsimp only at hSw); go_simp; try with_reducible rfl)
            try simp only [Act.put, List.setIfInBounds_toArray, List.set_cons_zero, List.set_cons_succ]
            refine wpAnyH_take (i := 14) (oi := ?_) (v := ?_) (by simp only [List.getElem?_toArray, List.getElem?_cons_succ, List.getElem?_cons_zero]; exact rfl) (by kernel_rfl) (by kernel_rfl) (by kernel_rfl) (by exact fun _ _ _ h => h) (Or.inl ⟨by rfl, ?_⟩) (by assumption) ?_
            rotate_left
            · (intro w hSw; (try dsimp only at hSw); go_simp; try with_reducible rfl)
            try simp only [Act.put, List.setIfInBounds_toArray, List.set_cons_zero, List.set_cons_succ]
            refine wpAnyH_ready (rs := [15]) (by kernel_rfl) (by simp) ?_
            refine AllReadyH.cons (o := ?_) (by simp only [List.getElem?_toArray, List.getElem?_cons_succ, List.getElem?_cons_zero]; exact rfl) (fun K hK => ?_) AllReadyH.nil
            go_simp
            refine (HCALL.out _ hkk0).mono ?_
            rintro ev wq1 ⟨rfl, hkq⟩
            have hkk1 : Keep (fun _ => False) V wq1 := hkk0.trans' hkq
            clear hkq
            refine hK.out _ _ (HS.out _ hkk1) (fun hHeld => ?_)
            clear hK K
            try simp only [Act.put, List.setIfInBounds_toArray, List.set_cons_zero, List.set_cons_succ]
            refine wpAnyH_take (i := 16) (oi := ?_) (v := ?_) (by simp only [List.getElem?_toArray, List.getElem?_cons_succ, List.getElem?_cons_zero]; exact rfl) (by kernel_rfl) (by kernel_rfl) (by kernel_rfl) (by exact fun _ _ _ h => h) (Or.inl ⟨by rfl, ?_⟩) (by assumption) ?_
            rotate_left
            · (intro w hSw; (try dsimp only at hSw); go_simp; try with_reducible rfl)
            try simp only [Act.put, List.setIfInBounds_toArray, List.set_cons_zero, List.set_cons_succ]
            refine wpAnyH_take (i := 17) (oi := ?_) (v := ?_) (by simp only [List.getElem?_toArray, List.getElem?_cons_succ, List.getElem?_cons_zero]; exact rfl) (by kernel_rfl) (by kernel_rfl) (by kernel_rfl) (by exact fun _ _ _ h => h) (Or.inl ⟨by rfl, ?_⟩) (by assumption) ?_
            rotate_left
            · (intro w hSw; (try dsimp only at hSw); go_simp; try with_reducible rfl)
            try simp only [Act.put, List.setIfInBounds_toArray, List.set_cons_zero, List.set_cons_succ]
            refine wpAnyH_done (by kernel_rfl) ?_ _
            go_wp2_with fail
            go_ret2
            exact ⟨HKW.out.trans' (HKZ.out.trans' hkk1), .inr ⟨HNO.out, rfl⟩⟩
    · have hge : ¬ (k : Int) < (steps.length : Int) := by omega
      obtain rfl : k = steps.length := by omega
      have HOKS := Lib.hid (show okScript ⟨nodes, steps⟩ = true from (okScript_iff _).2 ⟨⟨h1, h7⟩, hl, List.all_eq_true.2 (fun x hx => PL.out.1 x (by rw [List.take_length]; exact hx))⟩)
      rw [List.take_length]
      have HKR := Lib.hid hkr
      clear hkr PL
      go_wp2_with fail
      go_ret2
      refine ⟨HKW.out.trans' HKR.out, .inl ⟨HOKS.out, ?_⟩⟩
      rw [HT0.out]
      rfl
theorem rprint_any (nodes : Int) (steps : List StepS) (vs : Value) (w : World) (hs : StepsRead w vs steps) (hm : ∀ x ∈ steps, MidStep x) (hsh : ∀ x ∈ steps, ShortStep x) :
    Calls Tryz.prog 17 #[.agg #[.int .i64 nodes, vs]] w (GotPrint ⟨nodes, steps⟩ w) := by
  by_cases h : nodes < 1 ∨ 7 < nodes ∨ 4096 < steps.length
  · exact rprint_early nodes steps vs w hs h
  · exact rprint_go nodes steps vs w hs hm hsh (by omega) (by omega) (by omega)
end Go.Proofs.YtifliekahdgobaaGreatDoor
namespace Go.Proofs.YtifliekahdgobaaGreatDoor
open Go.RowKit Sp

/-- a row that fills a block, read -/
theorem RowRead.of_block {α : Type} {enc : α → Array Value} {size : Nat} (hs : ∀ x, (enc x).size = size) {w : World} {b : Nat} {T : TypeId} {l : List α} (hb : w.heap[b]? = some (.cells (flat enc l).toArray T (0, 0))) (c : Nat) : RowRead enc size w (.slice (some ⟨b, 0, none⟩) l.length c) l := by
  refine ⟨_, c, rfl, fun i x hx => ⟨b, 0, rfl, fun j u hu => ?_⟩⟩
  have h := flat_get enc size hs l i x j u hx hu
  rw [show 0 + i * size + j = i * size + j by omega, cell_of_block hb]
  simpa using h
theorem RowRead.nil {α : Type} (enc : α → Array Value) (size : Nat) (w : World) : RowRead enc size w nilS [] := ⟨none, 0, rfl, fun i x hx => by simp at hx⟩
set_option maxRecDepth 100000 in
set_option maxHeartbeats 3200000 in
theorem works_any (w : World) (hg : Glob w) : Calls Tryz.prog 13 #[] w (Tells true w) := by
  have H8 := Lib.hid (show Calls Tryz.prog 8 #[.string ⟨#[110, 111, 100, 101, 115, 32, 51, 10, 116, 105, 99, 107, 32, 48, 32, 53, 32, 35, 32, 102, 105, 118, 101, 10, 97, 115, 107, 32, 49, 32, 116, 120, 110, 32, 55, 32, 49, 32, 45, 32, 48, 32, 116, 104, 101, 110, 32, 112, 117, 116, 32, 54, 49, 32, 54, 50, 32, 112]⟩] w (GotParse w (parse wkText)) from mparse_any wkText (by decide) w hg)
  have HG := Lib.hid hg
  clear hg
  go_enter Tryz.func13, Tryz.ntmps13
  go_wp2_with fail
  refine H8.out.mono ?_
  rintro e w1 ⟨hk1, h1⟩
  rw [wk_parse] at h1
  obtain ⟨v, rfl, hst⟩ := h1
  obtain ⟨a, c, hv, -⟩ := hst.slice
  have hv2 : v = .slice a 2 c := hv
  subst hv2
  obtain ⟨V1, hV1⟩ : ∃ V : World, V = w1.alloc (.cells #[.int .i64 wkS.nodes, .slice a 2 c] 24) := ⟨_, rfl⟩
  have hkV : Keep (fun _ => False) w1 V1 := by rw [hV1]; exact (Keep.refl _ _).alloc _
  have hbV : V1.heap[w1.heap.size]? = some (.cells #[.int .i64 wkS.nodes, .slice a 2 c] 24 (0, 0)) := by rw [hV1]; exact block_new _ _
  have hsr := (StepsRead.of_at hst).far hkV
  have hp := mprint_any wkS.nodes wkS.steps (.slice a 2 c) V1 (HG.out.far (hk1.trans' hkV)) hsr wk_mid
  obtain ⟨n1, hn1⟩ : ∃ n, n = w1.heap.size := ⟨_, rfl⟩
  rw [← hn1] at hbV
  have HP := Lib.hid hp
  have HSR := Lib.hid hsr
  have HK1 := Lib.hid (hk1.trans' hkV)
  have HBV := Lib.hid hbV
  have HV1 := Lib.hid hV1
  have HN1 := Lib.hid hn1
  clear hp hsr hst hk1 hkV hbV hV1 hn1 H8 hv
  go_wp2_with fail
  rw [← HV1.out, ← HN1.out]
  refine HP.out.mono ?_
  rintro e w2 ⟨hk2, ⟨-, rfl⟩ | ⟨ho, -⟩⟩
  rotate_left
  · exact absurd (show okScript wkS = true from wk_ok) (by rw [show okScript wkS = false from ho]; simp)
  rw [show text ⟨wkS.nodes, wkS.steps⟩ = wkOut from wk_text]
  obtain ⟨W3, hW3⟩ : ∃ W : World, W = (w2.alloc (.cells #[.int .i64 1, .string ⟨#[97]⟩, .string ⟨#[]⟩, .string ⟨#[98]⟩, .int .u64 0, .int .i64 0, .bool false, .bool false, .bool true] 67)).alloc (.cells #[.int .i64 3, .int .i64 0, .int .u64 5, .int .i64 0, .int .u64 0, .int .u64 0, .bool false, .slice none 0 0, .slice none 0 0, .slice none 0 0, .int .u64 0, .int .u64 0, .string ⟨#[]⟩, .string ⟨#[]⟩, .int .u64 0, .bool false, .bool false, .bool false, .bool false, .int .i64 7, .int .i64 1, .int .u64 0, .int .i64 0, .int .u64 7, .int .u64 1, .bool false, .slice none 0 0, .slice (some ⟨w2.heap.size, 0, none⟩) 1 1, .slice none 0 0, .int .u64 0, .int .u64 0, .string ⟨#[]⟩, .string ⟨#[]⟩, .int .u64 0, .bool false, .bool false, .bool false, .bool false] 63) := ⟨_, rfl⟩
  have hk3 : Keep (fun _ => False) w2 W3 := by rw [hW3]; exact ((Keep.refl _ w2).alloc _).alloc _
  have hb67 : W3.heap[w2.heap.size]? = some (.cells (flat opCells [wkOp]).toArray 67 (0, 0)) := by rw [hW3]; exact block_alloc (block_new _ _) _
  have hb63 : W3.heap[w2.heap.size + 1]? = some (.cells (flat stepEnc [(wkTick, nilS, nilS, nilS), (wkAsk, nilS, .slice (some ⟨w2.heap.size, 0, none⟩) 1 1, nilS)]).toArray 63 (0, 0)) := by rw [hW3]; exact block_new' _ _ (by simp)
  have hwant : StepsRead W3 (.slice (some ⟨w2.heap.size + 1, 0, none⟩) 2 2) wkS.steps := ⟨[(wkTick, nilS, nilS, nilS), (wkAsk, nilS, .slice (some ⟨w2.heap.size, 0, none⟩) 1 1, nilS)], rfl, RowRead.of_block (size := 19) (fun _ => rfl) hb63 2, fun p hp => by
    simp only [List.mem_cons, List.mem_nil_iff, or_false] at hp
    rcases hp with rfl | rfl
    · exact ⟨RowRead.nil _ _ _, RowRead.nil _ _ _, RowRead.nil _ _ _⟩
    · exact ⟨RowRead.nil _ _ _, RowRead.of_block (size := 9) (fun _ => rfl) hb67 1, RowRead.nil _ _ _⟩⟩
  have hk23 := hk2.trans' hk3
  have c0 : W3.cell? ⟨n1, 0, none⟩ = some (.int .i64 wkS.nodes) := cell_of_block (hk23.at' HBV.out (fun e => e)) 0
  have c1 : W3.cell? ⟨n1, 1, none⟩ = some (.slice a 2 c) := cell_of_block (hk23.at' HBV.out (fun e => e)) 1
  have HK3 := Lib.hid (HK1.out.trans' hk23)
  have HSR3 := Lib.hid (HSR.out.far hk23)
  have HWANT := Lib.hid hwant
  have HW3 := Lib.hid hW3
  clear hk2 hk3 hk23 hb67 hb63 hwant hW3 HP HSR HBV HV1 HN1 HK1
  go_upto_region 4 with fail
  rw [← HW3.out]
  clear HW3
  generalize w2.heap.size = n2 at *
  have hq : (wkOut == [110, 111, 100, 101, 115, 32, 51, 10, 116, 105, 99, 107, 32, 48, 32, 53, 10, 97, 115, 107, 32, 49, 32, 116, 120, 110, 32, 55, 32, 49, 32, 45, 32, 48, 32, 116, 104, 101, 110, 32, 112, 117, 116, 32, 54, 49, 32, 54, 50, 32, 112, 10]) = true := by decide
  have HX := Lib.hid (ours_any wkS.nodes a 2 c W3)
  go_wp2_with fail
  refine HX.out.mono ?_
  rintro e w4 ⟨rfl, hk4⟩
  have HSM := Lib.hid (show Calls Tryz.prog 11 #[.agg #[.int .i64 wkS.nodes, .slice a 2 c], .agg #[.int .i64 3, .slice (some ⟨n2 + 1, 0, none⟩) 2 2]] w4 (Tells (decide (wkS = wkS)) w4) from rSame_any wkS wkS _ _ w4 (HSR3.out.far hk4) (HWANT.out.far hk4) (fun x hx => by have := wk_mid x hx; exact mid_lens this) (by decide))
  have HK4 := Lib.hid (HK3.out.trans' hk4)
  clear hk4
  go_wp2_with fail
  refine HSM.out.mono ?_
  rintro e w5 ⟨rfl, hk5⟩
  have hd : decide (wkS = wkS) = true := decide_eq_true rfl
  have HK5 := Lib.hid (HK4.out.trans' hk5)
  clear hk5
  have HW1 := Lib.hid (wrong_any [] (by decide) 4 1 wk1 (by decide) w5 (HG.out.far HK5.out))
  go_wp2_with fail
  refine HW1.out.mono ?_
  rintro e w6 ⟨rfl, hk6⟩
  have HK6 := Lib.hid (HK5.out.trans' hk6)
  have HW2 := Lib.hid (wrong_any _ (by decide) 19 0 wk2 (by decide) w6 (HG.out.far HK6.out))
  clear hk6
  go_wp2_with fail
  refine HW2.out.mono ?_
  rintro e w7 ⟨rfl, hk7⟩
  have HK7 := Lib.hid (HK6.out.trans' hk7)
  have HW3 := Lib.hid (wrong_any _ (by decide) 4 0 wk3 (by decide) w7 (HG.out.far HK7.out))
  clear hk7
  go_wp2_with fail
  refine HW3.out.mono ?_
  rintro e w8 ⟨rfl, hk8⟩
  have HK8 := Lib.hid (HK7.out.trans' hk8)
  have HW4 := Lib.hid (wrong_any _ (by decide) 4 0 wk4 (by decide) w8 (HG.out.far HK8.out))
  clear hk8
  go_wp2_with fail
  refine HW4.out.mono ?_
  rintro e w9 ⟨rfl, hk9⟩
  have HK9 := Lib.hid (HK8.out.trans' hk9)
  have HW5 := Lib.hid (wrong_any _ (by decide) 4 1 wk5 (by decide) w9 (HG.out.far HK9.out))
  clear hk9
  go_wp2_with fail
  refine HW5.out.mono ?_
  rintro e w10 ⟨rfl, hk10⟩
  have HK10 := Lib.hid (HK9.out.trans' hk10)
  clear hk10
  go_wp2_with fail
  go_ret
  exact ⟨rfl, HK10.out⟩
end Go.Proofs.YtifliekahdgobaaGreatDoor
namespace Go.Proofs.YtifliekahdgobaaGreatDoor
open Go.RowKit Sp

/-- what both Prints give -/
theorem print_one {s : ScriptS} {w w' w2 w2' : World} {e e2 : Ending} (h : GotPrint s w e w') (h2 : GotPrint s w2 e2 w2') : ∃ (t : Str) (c : Int), e = .returned (.tuple #[sv t, .int .i64 c]) ∧ e2 = .returned (.tuple #[sv t, .int .i64 c]) := by
  rcases h.2 with ⟨ho, rfl⟩ | ⟨ho, rfl⟩
  · rcases h2.2 with ⟨-, rfl⟩ | ⟨hn, -⟩
    · exact ⟨_, _, rfl, rfl⟩
    · rw [ho] at hn; cases hn
  · rcases h2.2 with ⟨hn, -⟩ | ⟨-, rfl⟩
    · rw [ho] at hn; cases hn
    · exact ⟨_, _, rfl, rfl⟩
set_option maxRecDepth 100000 in
set_option maxHeartbeats 8000000 in
theorem prints_any (n0 : Int) (l : List StepS) (v : Value) (w : World) (hg : Glob w) (hl : (l.length : Int) ≤ 9223372036854775807) (hr : StepsRead w v l) (hls : ∀ x ∈ l, CutLens x) (hmid : ∀ x ∈ cutSteps l, MidStep x) :
    Calls Tryz.prog 4 #[.agg #[.int .i64 n0, v]] w (Tells true w) := by
  obtain ⟨a, c, rfl⟩ := hr.slice
  have HG := Lib.hid hg
  have HRR := Lib.hid (fun w' (hk : Keep (fun _ => False) w w') => cut_any n0 l (.slice a l.length c) w' hl (hr.far hk) hls)
  have HMID := Lib.hid hmid
  have HSHO := Lib.hid (cut_short l)
  clear hr hls hmid hg
  obtain ⟨B, hB⟩ : ∃ B : Nat, B = w.heap.size := ⟨_, rfl⟩
  obtain ⟨W, hW⟩ : ∃ W : World, W = w.alloc (.cells #[.int .i64 n0, .slice a l.length c] 29) := ⟨_, rfl⟩
  have hkW : Keep (fun _ => False) w W := by rw [hW]; exact (Keep.refl _ w).alloc _
  have hbW : W.heap[B]? = some (.cells #[.int .i64 n0, .slice a l.length c] 29 (0, 0)) := by rw [hW, hB]; exact block_new _ _
  have c0 : W.cell? ⟨B, 0, none⟩ = some (.int .i64 n0) := cell_of_block hbW 0
  have c1 : W.cell? ⟨B, 1, none⟩ = some (.slice a l.length c) := cell_of_block hbW 1
  have HW := Lib.hid hW
  have HB := Lib.hid hB
  have HKW := Lib.hid hkW
  have HBW := Lib.hid hbW
  have HBL := Lib.hid (show B < W.heap.size from lt_of_block hbW)
  have H14 := Lib.hid (HRR.out W hkW)
  clear hB hW hkW hbW HRR
  go_enter Tryz.func4, Tryz.ntmps4
  go_upto_region 1 with fail
  rw [← HW.out, ← HB.out]
  clear HW
  go_wp2_with fail
  refine H14.out.mono ?_
  rintro e w2 ⟨v2, rfl, hk2, hs2⟩
  obtain ⟨a2, c2, hv2, -⟩ := hs2.slice
  subst hv2
  have hb2 := hk2.at' HBW.out (fun e => e)
  have d0 : w2.cell? ⟨B, 0, none⟩ = some (.int .i64 n0) := cell_of_block hb2 0
  have d1 : w2.cell? ⟨B, 1, none⟩ = some (.slice a l.length c) := cell_of_block hb2 1
  have f0 : w2.frozen? ⟨B, 0, none⟩ = false := free_of_block hb2 0
  have f1 : w2.frozen? ⟨B, 1, none⟩ = false := free_of_block hb2 1
  have HB2 := Lib.hid hb2
  have HK2 := Lib.hid (HKW.out.trans' hk2)
  have HS2 := Lib.hid hs2
  clear c0 c1 hk2 hb2 hs2 H14
  generalize hsl : cutSteps l = sl at *
  go_upto_region 2 with fail
  obtain ⟨W3, hW3⟩ : ∃ W : World, W = (w2.setCell ⟨B, 0, none⟩ (.int .i64 n0)).setCell ⟨B, 1, none⟩ (.slice a2 sl.length c2) := ⟨_, rfl⟩
  rw [← hW3]
  have hb3 : W3.heap[B]? = some (.cells #[.int .i64 n0, .slice a2 sl.length c2] 29 (0, 0)) := by rw [hW3]; exact block_setCell (block_setCell HB2.out 0 _) 1 _
  have hkB : Keep (fun k => k = B) w2 W3 := by rw [hW3]; exact ((Keep.refl (fun k => k = B) w2).setCell _ _ (.inr rfl)).setCell _ _ (.inr rfl)
  have HK3 := Lib.hid (show Keep (fun _ => False) w W3 from HK2.out.trans hkB (fun b hb e => by have := HB.out; omega))
  have hs3 : StepsAt W3 W.heap.size (.slice a2 sl.length c2) sl := HS2.out.keep hkB (fun g hg hm => by
    obtain ⟨L', -, h9, -⟩ := HS2.out
    have := (h9.lt g hg).1
    have := HBL.out
    omega) (fun g cs T hc hm => by
    subst hm
    have h9 := hc.symm.trans HB2.out
    injection h9 with h10
    injection h10 with h11 h12
    subst h12
    decide)
  have HSR3 := Lib.hid (StepsRead.of_at hs3)
  have HB3 := Lib.hid hb3
  have d0 : W3.cell? ⟨B, 0, none⟩ = some (.int .i64 n0) := cell_of_block hb3 0
  have d1 : W3.cell? ⟨B, 1, none⟩ = some (.slice a2 sl.length c2) := cell_of_block hb3 1
  have H16 := Lib.hid (theirs_any n0 a2 sl.length c2 W3)
  have HMID2 := Lib.hid (show ∀ x ∈ sl, MidStep x from HMID.out)
  have HSHO2 := Lib.hid (show ∀ x ∈ sl, ShortStep x from HSHO.out)
  clear hW3 f0 f1 hb3 hkB hs3 HS2 HB2 HMID HSHO
  go_wp2_with fail
  refine H16.out.mono ?_
  rintro e w4 ⟨rfl, hk4⟩
  have HK4 := Lib.hid (HK3.out.trans' hk4)
  have H15 := Lib.hid (mprint_any n0 sl (.slice a2 sl.length c2) w4 (HG.out.far HK4.out) (HSR3.out.far hk4) HMID2.out)
  have HK34 := Lib.hid hk4
  clear hk4 d0 d1 H16
  go_wp2_with fail
  refine H15.out.mono ?_
  rintro e w5 h5
  have HK35 := Lib.hid (HK34.out.trans' h5.1)
  have H17 := Lib.hid (rprint_any n0 sl (.slice a2 sl.length c2) w5 (HSR3.out.far HK35.out) HMID2.out HSHO2.out)
  have HK5 := Lib.hid (HK3.out.trans' HK35.out)
  have x0 : w5.cell? ⟨B, 0, none⟩ = some (.int .i64 n0) := cell_of_block (HK35.out.at' HB3.out (fun e => e)) 0
  have x1 : w5.cell? ⟨B, 1, none⟩ = some (.slice a2 sl.length c2) := cell_of_block (HK35.out.at' HB3.out (fun e => e)) 1
  have H5 := Lib.hid h5
  obtain ⟨t, cd, rfl⟩ : ∃ (t : Str) (c : Int), e = .returned (.tuple #[sv t, .int .i64 c]) := by
    rcases h5.2 with ⟨-, rfl⟩ | ⟨-, rfl⟩ <;> exact ⟨_, _, rfl⟩
  clear h5 H15
  go_wp2_with fail
  refine H17.out.mono ?_
  rintro e w6 h6
  have HK6 := Lib.hid (HK5.out.trans' h6.1)
  have H13 := Lib.hid (works_any w6 (HG.out.far HK6.out))
  obtain ⟨t', cd', e1, rfl⟩ := print_one H5.out h6
  injection e1 with e1
  injection e1 with e1
  have e2 : t' = t ∧ cd' = cd := by
    simp only [Array.mk.injEq, List.cons.injEq, Value.string.injEq, ByteArray.mk.injEq, Value.int.injEq, true_and, and_true] at e1
    exact ⟨e1.1.symm, e1.2.symm⟩
  obtain ⟨rfl, rfl⟩ := e2
  clear h6 H17 x0 x1 H5 e1
  go_wp2_with fail
  refine H13.out.mono ?_
  rintro e w7 ⟨rfl, hk7⟩
  have HK7 := Lib.hid (HK6.out.trans' hk7)
  clear hk7 H13
  go_wp2_with fail
  go_ret
  exact ⟨rfl, HK7.out⟩
end Go.Proofs.YtifliekahdgobaaGreatDoor
