/-
  PLAIN: a script that may be: its steps are of middling size, its text is not long. Helpers of the claims.
  ScriptBack (printed by wip/tools/gen_back.py).
-/
import Derived.Test.YtifliekahdgobaaGreatDoorJW12ToScr
import Derived.Test.YtifliekahdgobaaGreatDoorJW10ToL4
import Derived.Test.YtifliekahdgobaaGreatDoorJThQToAD
import Derived.Test.YtifliekahdgobaaGreatDoorJL6ToC2
set_option linter.unusedSimpArgs false
set_option linter.unusedVariables false
namespace Go.Proofs.YtifliekahdgobaaGreatDoor
open Sp

theorem hmost : most = 999999999999999999 := rfl
theorem okOp_mid {x : OpS} (h : okOp x = true) : MidOp x ∧ x.key.length ≤ 40 ∧ x.fin.length ≤ 40 ∧ x.val.length ≤ 40 := by
  have hm := hmost
  unfold okOp at h
  simp only [Bool.and_eq_true, okBytes_iff] at h
  obtain ⟨hk, h⟩ := h
  split at h
  · simp only [Bool.and_eq_true, okBytes_iff, okNum_iff, beq_iff_eq] at h
    obtain ⟨⟨⟨⟨h1, h2⟩, h3⟩, h4⟩, -⟩ := h
    rw [h2]
    exact ⟨⟨by omega, by omega, by rw [h2]; simp, by omega, by omega, by omega, by omega⟩, hk, h1, by simp⟩
  · split at h
    · simp only [Bool.and_eq_true, okBytes_iff, okNum_iff, beq_iff_eq] at h
      obtain ⟨⟨⟨⟨⟨h1, h2⟩, h3⟩, h4⟩, -⟩, -⟩ := h
      rw [h2]
      exact ⟨⟨by omega, by rw [h2]; simp, by omega, by omega, by omega, by omega, by omega⟩, hk, by simp, h1⟩
    · simp only [Bool.and_eq_true, okBytes_iff, okNum_iff, beq_iff_eq] at h
      obtain ⟨⟨⟨⟨⟨⟨h0, h1⟩, h2⟩, h3⟩, h4⟩, -⟩, -⟩ := h
      rw [h2]
      exact ⟨⟨by omega, by omega, by rw [h2]; simp, by omega, by omega, by omega, by omega⟩, hk, h1, by simp⟩
theorem okCmp_mid {x : CmpS} (h : okCmp x = true) : MidCmp x ∧ x.key.length ≤ 40 ∧ x.val.length ≤ 40 := by
  have hm := hmost
  unfold okCmp at h
  simp only [Bool.and_eq_true, okBytes_iff, okNum_iff, okSmall_iff] at h
  obtain ⟨⟨⟨⟨h1, h2⟩, h3⟩, h4⟩, h5⟩ := h
  exact ⟨⟨by omega, by omega, by omega, by omega, by omega, by omega, by omega, by omega⟩, h4, h5⟩
theorem okReq_parts {r : ReqS} (h : okReq r = true) : MidReq r ∧ r.cmps.length ≤ 8 ∧ r.thn.length ≤ 10 ∧ r.els.length ≤ 10 ∧ (∀ x ∈ r.cmps, okCmp x = true) ∧ (∀ x ∈ r.thn, okOp x = true) ∧ (∀ x ∈ r.els, okOp x = true) := by
  have hm := hmost
  unfold okReq okParts at h
  simp only [Bool.and_eq_true, okNum_iff, decide_eq_true_eq, List.all_eq_true] at h
  obtain ⟨⟨⟨⟨⟨⟨⟨⟨h1, h2⟩, h3⟩, h4⟩, h5⟩, h6⟩, h7⟩, h8⟩, h9⟩ := h
  exact ⟨⟨by omega, by omega, by omega, by omega, by omega, by omega, by omega, by omega, by omega, fun x hx => (okCmp_mid (h7 x hx)).1, fun x hx => (okOp_mid (h8 x hx)).1, fun x hx => (okOp_mid (h9 x hx)).1⟩, by omega, by omega, by omega, h7, h8, h9⟩
theorem mid_req_zero : MidReq ReqS.zero := ⟨by decide, by decide, by decide, by decide, by decide, by decide, by decide, by decide, by decide, fun x hx => (by cases hx), fun x hx => (by cases hx), fun x hx => (by cases hx)⟩
theorem mid_watch_zero : MidWatch WatchS.zero := ⟨by decide, by decide, by decide, by decide, by decide, by decide⟩
theorem ok_mid {s : StepS} (h : okStep s = true) : MidStep s := by
  have hm := hmost
  obtain ⟨h0, h1, h2⟩ := (okStep_iff s).1 h
  have hn : -9223372036854775808 ≤ s.node ∧ s.node ≤ 9223372036854775807 := by
    unfold okNode at h1
    split at h1
    · rw [okSmall_iff] at h1; omega
    · rw [beq_iff_eq] at h1; omega
  unfold okBody at h2
  split at h2
  · simp only [Bool.and_eq_true, beq_iff_eq] at h2
    obtain ⟨⟨e1, e2⟩, e3⟩ := h2
    exact ⟨by omega, by omega, hn.1, hn.2, by omega, by omega, by rw [e2]; decide, by rw [e2]; decide, by rw [e2]; exact mid_req_zero, by rw [e3]; exact mid_watch_zero⟩
  · split at h2
    · simp only [Bool.and_eq_true, beq_iff_eq] at h2
      obtain ⟨⟨e1, e2⟩, e3⟩ := h2
      unfold okWatch at e3
      simp only [Bool.and_eq_true, okBytes_iff, okNum_iff] at e3
      obtain ⟨⟨⟨w1, w2⟩, w3⟩, w4⟩ := e3
      exact ⟨by omega, by omega, hn.1, hn.2, by omega, by omega, by rw [e2]; decide, by rw [e2]; decide, by rw [e2]; exact mid_req_zero, ⟨by omega, by omega, by omega, by omega, by omega, by omega⟩⟩
    · split at h2
      · simp only [Bool.and_eq_true, beq_iff_eq] at h2
        obtain ⟨⟨e1, e2⟩, e3⟩ := h2
        have hk : 0 ≤ s.req.kind ∧ s.req.kind ≤ 3 := by
          unfold okReq at e2
          simp only [Bool.and_eq_true, decide_eq_true_eq] at e2
          omega
        exact ⟨by omega, by omega, hn.1, hn.2, by omega, by omega, by omega, by omega, (okReq_parts e2).1, by rw [e3]; exact mid_watch_zero⟩
      · simp only [Bool.and_eq_true, beq_iff_eq, okNum_iff] at h2
        obtain ⟨⟨e1, e2⟩, e3⟩ := h2
        exact ⟨by omega, by omega, hn.1, hn.2, by omega, by omega, by rw [e2]; decide, by rw [e2]; decide, by rw [e2]; exact mid_req_zero, by rw [e3]; exact mid_watch_zero⟩
/-! ### how long a text is -/
theorem hex_short {s : Str} (h : s.length ≤ 40) : (hexText s).length ≤ 100 := by have := hexText_len s; omega
theorem mark_short {ls : Str} (h : ls.length ≤ 4) (is : List Bool) : (markText ls is).length ≤ 100 := by have := markText_len ls is; omega
theorem op_short {x : OpS} (h : okOp x = true) : (∀ y ∈ Sp.opWords x, y.length ≤ 100) ∧ (Sp.opWords x).length ≤ 6 := by
  obtain ⟨-, h1, h2, h3⟩ := okOp_mid h
  unfold Sp.opWords
  split
  · refine ⟨?_, by simp⟩
    simp only [List.mem_cons, List.mem_nil_iff, or_false]
    rintro y (rfl | rfl | rfl | rfl | rfl | rfl)
    · decide
    · exact hex_short h1
    · exact hex_short h2
    · exact itoa_len _
    · exact itoa_len _
    · exact mark_short (by decide) _
  · split
    · refine ⟨?_, by simp⟩
      simp only [List.mem_cons, List.mem_nil_iff, or_false]
      rintro y (rfl | rfl | rfl | rfl)
      · decide
      · exact hex_short h1
      · exact hex_short h3
      · exact mark_short (by decide) _
    · refine ⟨?_, by simp⟩
      simp only [List.mem_cons, List.mem_nil_iff, or_false]
      rintro y (rfl | rfl | rfl | rfl)
      · decide
      · exact hex_short h1
      · exact hex_short h2
      · exact mark_short (by decide) _
theorem cmp_short {x : CmpS} (h : okCmp x = true) : (∀ y ∈ cmpWords x, y.length ≤ 100) ∧ (cmpWords x).length ≤ 6 := by
  obtain ⟨-, h1, h2⟩ := okCmp_mid h
  unfold cmpWords
  refine ⟨?_, by simp⟩
  simp only [List.mem_cons, List.mem_nil_iff, or_false]
  rintro y (rfl | rfl | rfl | rfl | rfl | rfl)
  · decide
  · exact itoa_len _
  · exact itoa_len _
  · exact itoa_len _
  · exact hex_short h1
  · exact hex_short h2
theorem flat_short {α : Type} (f : α → List Str) (n : Nat) : ∀ l : List α, (∀ x ∈ l, (∀ y ∈ f x, y.length ≤ 100) ∧ (f x).length ≤ n) → (∀ y ∈ l.flatMap f, y.length ≤ 100) ∧ (l.flatMap f).length ≤ l.length * n
  | [], _ => by simp
  | x :: l, h => by
    obtain ⟨h1, h2⟩ := flat_short f n l (fun x hx => h x (.tail _ hx))
    obtain ⟨h3, h4⟩ := h x (.head _)
    rw [List.flatMap_cons]
    refine ⟨fun y hy => ?_, ?_⟩
    · rcases List.mem_append.1 hy with hy | hy
      · exact h3 y hy
      · exact h1 y hy
    · rw [List.length_append, List.length_cons, Nat.add_mul, Nat.one_mul]
      omega
theorem req_short {r : ReqS} (h : okReq r = true) : (∀ y ∈ reqWords r, y.length ≤ 100) ∧ (reqWords r).length ≤ 200 := by
  obtain ⟨-, h1, h2, h3, h4, h5, h6⟩ := okReq_parts h
  have hk : 0 ≤ r.kind ∧ r.kind ≤ 3 := by
    unfold okReq at h
    simp only [Bool.and_eq_true, decide_eq_true_eq] at h
    omega
  have a1 := flat_short cmpWords 6 r.cmps (fun x hx => cmp_short (h4 x hx))
  have a2 := flat_short (fun x => wThen :: Sp.opWords x) 7 r.thn (fun x hx => ⟨fun y hy => by
    rcases List.mem_cons.1 hy with rfl | hy
    · decide
    · exact (op_short (h5 x hx)).1 y hy, by have := (op_short (h5 x hx)).2; simp only [List.length_cons]; omega⟩)
  have a3 := flat_short (fun x => wElse :: Sp.opWords x) 7 r.els (fun x hx => ⟨fun y hy => by
    rcases List.mem_cons.1 hy with rfl | hy
    · decide
    · exact (op_short (h6 x hx)).1 y hy, by have := (op_short (h6 x hx)).2; simp only [List.length_cons]; omega⟩)
  unfold reqWords
  refine ⟨fun y hy => ?_, ?_⟩
  · rcases List.mem_append.1 hy with hy | hy
    · rcases List.mem_append.1 hy with hy | hy
      · rcases List.mem_append.1 hy with hy | hy
        · simp only [List.mem_cons, List.mem_nil_iff, or_false] at hy
          rcases hy with rfl | rfl | rfl | rfl | rfl
          · have hall : ∀ k < 4, (kinds.getD k []).length ≤ 100 := by decide
            exact hall _ (by omega)
          · exact itoa_len _
          · exact itoa_len _
          · exact mark_short (by decide) _
          · exact itoa_len _
        · exact a1.1 y hy
      · exact a2.1 y hy
    · exact a3.1 y hy
  · simp only [List.length_append, List.length_cons, List.length_nil]
    omega
theorem step_short {s : StepS} (h : okStep s = true) : (stepText s).length ≤ 30000 := by
  obtain ⟨h0, h1, h2⟩ := (okStep_iff s).1 h
  have hb : (∀ y ∈ bodyWords s, y.length ≤ 100) ∧ (bodyWords s).length ≤ 200 := by
    unfold bodyWords
    unfold okBody at h2
    by_cases k1 : s.kind = 11
    · rw [if_pos k1]; simp
    · rw [if_neg k1] at h2 ⊢
      by_cases k2 : s.kind = 8
      · rw [if_pos k2] at h2 ⊢
        simp only [Bool.and_eq_true] at h2
        obtain ⟨-, e3⟩ := h2
        unfold okWatch at e3
        simp only [Bool.and_eq_true, okBytes_iff] at e3
        obtain ⟨⟨⟨w1, w2⟩, w3⟩, w4⟩ := e3
        unfold watchWords
        refine ⟨?_, by simp⟩
        simp only [List.mem_cons, List.mem_nil_iff, or_false]
        rintro y (rfl | rfl | rfl | rfl | rfl)
        · exact itoa_len _
        · exact hex_short w2
        · exact hex_short w3
        · exact itoa_len _
        · exact mark_short (by decide) _
      · rw [if_neg k2] at h2 ⊢
        by_cases k3 : s.kind = 7
        · rw [if_pos k3] at h2 ⊢
          simp only [Bool.and_eq_true] at h2
          exact req_short h2.1.2
        · rw [if_neg k3]
          refine ⟨?_, by simp⟩
          simp only [List.mem_cons, List.mem_nil_iff, or_false]
          rintro y rfl
          exact itoa_len _
  have hn : (∀ y ∈ nodeWords s, y.length ≤ 100) ∧ (nodeWords s).length ≤ 1 := by
    unfold nodeWords
    split
    · refine ⟨?_, by simp⟩
      simp only [List.mem_cons, List.mem_nil_iff, or_false]
      rintro y rfl
      exact itoa_len _
    · simp
  have hw : ∀ y ∈ stepWords s, y.length ≤ 100 := by
    unfold stepWords
    intro y hy
    rcases List.mem_cons.1 hy with rfl | hy
    · have hall : ∀ k < 12, (names.getD k []).length ≤ 100 := by decide
      exact hall _ (by omega)
    · rcases List.mem_append.1 hy with hy | hy
      · exact hn.1 y hy
      · exact hb.1 y hy
  have hl : (stepWords s).length ≤ 202 := by
    unfold stepWords
    simp only [List.length_cons, List.length_append]
    omega
  have := join_len (stepWords s) 100 hw
  unfold stepText
  omega
theorem lines_short : ∀ l : List StepS, l.all okStep = true → (l.flatMap stepLine).length ≤ l.length * 30001
  | [], _ => by simp
  | x :: l, h => by
    simp only [List.all_cons, Bool.and_eq_true] at h
    have h1 := lines_short l h.2
    have h2 := step_short h.1
    rw [List.flatMap_cons, List.length_append, List.length_cons, Nat.add_mul, Nat.one_mul]
    have h3 : (stepLine x).length = (stepText x).length + 1 := by simp [stepLine]
    omega
theorem text_short {s : ScriptS} (h : okScript s = true) : (text s).length ≤ 1000000000 := by
  obtain ⟨-, h1, h2⟩ := (okScript_iff s).1 h
  have h3 := lines_short s.steps h2
  have h4 := itoa_len s.nodes
  unfold text nodesLine
  simp only [List.length_append, List.length_cons, List.length_nil]
  have : wNodes.length = 5 := rfl
  omega
end Go.Proofs.YtifliekahdgobaaGreatDoor
namespace Go.Proofs.YtifliekahdgobaaGreatDoor
open Go.RowKit Sp

theorem cut_text (t : Str) (n : Nat) : ∃ ct : Str, Value.string ((⟨t.toArray⟩ : ByteArray).extract 0 (min (t.length : Int) (n : Int)).toNat) = sv ct ∧ ct.length ≤ n :=
  ⟨t.take n, cut_str t n, by rw [List.length_take]; omega⟩
theorem ok_lens' {s : ScriptS} (h : okScript s = true) : (∀ y ∈ s.steps, LensOk y) ∧ s.steps.length ≤ 1000000 := by
  have hok := (okScript_iff s).1 h
  exact ⟨fun y hy => ok_lens (List.all_eq_true.1 hok.2.2 y hy), by omega⟩
theorem ok_mids {s : ScriptS} (h : okScript s = true) : ∀ y ∈ s.steps, MidStep y := fun y hy => ok_mid (List.all_eq_true.1 ((okScript_iff s).1 h).2.2 y hy)
set_option maxRecDepth 100000 in
set_option maxHeartbeats 8000000 in
/-- the second half: what was parsed, printed and parsed again -/
theorem back_any (n0 : Int) (l : List StepS) (v : Value) (t : Str) (w : World) (hg : Glob w) (hl : (l.length : Int) ≤ 9223372036854775807) (hr : StepsRead w v l) (hls : ∀ x ∈ l, CutLens x) (hmid : ∀ x ∈ cutSteps l, MidStep x) :
    Calls Tryz.prog 5 #[.agg #[.int .i64 n0, v], sv t] w (Tells true w) := by
  obtain ⟨ct, hct, hlc⟩ := cut_text t 9000
  rw [show ((9000 : Nat) : Int) = 9000 from rfl] at hct
  obtain ⟨a, c, rfl⟩ := hr.slice
  have HG := Lib.hid hg
  have HPC := Lib.hid (fun w' (hk : Keep (fun _ => False) w w') => (by rw [hct]; exact mparse_any ct (by omega) w' (hg.far hk) : Calls Tryz.prog 8 #[Value.string ((⟨t.toArray⟩ : ByteArray).extract 0 (min (t.length : Int) 9000).toNat)] w' (GotParse w' (parse ct))))
  have HRR := Lib.hid (fun w' (hk : Keep (fun _ => False) w w') => cut_any n0 l (.slice a l.length c) w' hl (hr.far hk) hls)
  have HMID := Lib.hid hmid
  have HCT := Lib.hid hct
  clear hr hls hmid hlc hg hct
  obtain ⟨B, hB⟩ : ∃ B : Nat, B = w.heap.size := ⟨_, rfl⟩
  obtain ⟨W, hW⟩ : ∃ W : World, W = w.alloc (.cells #[.int .i64 n0, .slice a l.length c] 29) := ⟨_, rfl⟩
  have hkW : Keep (fun _ => False) w W := by rw [hW]; exact (Keep.refl _ w).alloc _
  have hbW : W.heap[B]? = some (.cells #[.int .i64 n0, .slice a l.length c] 29 (0, 0)) := by rw [hW, hB]; exact block_new _ _
  have HW := Lib.hid hW
  have HB := Lib.hid hB
  have HKW := Lib.hid hkW
  have HBW := Lib.hid hbW
  have H13 := Lib.hid (works_any W (HG.out.far hkW))
  clear hB hW hkW hbW
  go_enter Tryz.func5, Tryz.ntmps5
  go_upto_region 1 with fail
  rw [← HW.out, ← HB.out]
  clear HW
  go_wp2_with fail
  refine H13.out.mono ?_
  rintro e w1 ⟨rfl, hk1⟩
  have HK1 := Lib.hid (HKW.out.trans' hk1)
  have hb1 := hk1.at' HBW.out (fun e => e)
  have c0 : w1.cell? ⟨B, 0, none⟩ = some (.int .i64 n0) := cell_of_block hb1 0
  have c1 : w1.cell? ⟨B, 1, none⟩ = some (.slice a l.length c) := cell_of_block hb1 1
  have HB1 := Lib.hid hb1
  have H14 := Lib.hid (HRR.out w1 HK1.out)
  clear hk1 hb1 H13 HRR HBW HKW
  go_upto_region 3 with fail
  go_wp2_with fail
  refine H14.out.mono ?_
  rintro e w2 ⟨v2, rfl, hk2, hs2⟩
  obtain ⟨a2, c2, hv2, -⟩ := hs2.slice
  subst hv2
  have hb2 := hk2.at' HB1.out (fun e => e)
  have d0 : w2.cell? ⟨B, 0, none⟩ = some (.int .i64 n0) := cell_of_block hb2 0
  have d1 : w2.cell? ⟨B, 1, none⟩ = some (.slice a l.length c) := cell_of_block hb2 1
  have f0 : w2.frozen? ⟨B, 0, none⟩ = false := free_of_block hb2 0
  have f1 : w2.frozen? ⟨B, 1, none⟩ = false := free_of_block hb2 1
  have HB2 := Lib.hid hb2
  have HK2 := Lib.hid (HK1.out.trans' hk2)
  have HS2 := Lib.hid hs2
  have HBL := Lib.hid (show B < w1.heap.size from lt_of_block HB1.out)
  clear c0 c1 hk2 hb2 hs2 H14
  generalize hsl : cutSteps l = sl at *
  go_upto_region 4 with fail
  obtain ⟨W3, hW3⟩ : ∃ W : World, W = (w2.setCell ⟨B, 0, none⟩ (.int .i64 n0)).setCell ⟨B, 1, none⟩ (.slice a2 sl.length c2) := ⟨_, rfl⟩
  rw [← hW3]
  have hb3 : W3.heap[B]? = some (.cells #[.int .i64 n0, .slice a2 sl.length c2] 29 (0, 0)) := by rw [hW3]; exact block_setCell (block_setCell HB2.out 0 _) 1 _
  have hkB : Keep (fun k => k = B) w2 W3 := by rw [hW3]; exact ((Keep.refl (fun k => k = B) w2).setCell _ _ (.inr rfl)).setCell _ _ (.inr rfl)
  have HK3 := Lib.hid (show Keep (fun _ => False) w W3 from HK2.out.trans hkB (fun b hb e => by have := HB.out; omega))
  have hs3 : StepsAt W3 w1.heap.size (.slice a2 sl.length c2) sl := HS2.out.keep hkB (fun g hg hm => by
    obtain ⟨L', -, h9, -⟩ := HS2.out
    have := (h9.lt g hg).1
    have := HBL.out
    omega) (fun g cs T hc hm => by
    subst hm
    have h9 := hc.symm.trans HB2.out
    injection h9 with h10
    injection h10 with h11 h12
    subst h12
    decide)
  have HSR3 := Lib.hid (StepsRead.of_at hs3)
  have HB3 := Lib.hid hb3
  have d0 : W3.cell? ⟨B, 0, none⟩ = some (.int .i64 n0) := cell_of_block hb3 0
  have d1 : W3.cell? ⟨B, 1, none⟩ = some (.slice a2 sl.length c2) := cell_of_block hb3 1
  have H16 := Lib.hid (theirs_any n0 a2 sl.length c2 W3)
  have HMID2 := Lib.hid (show ∀ x ∈ sl, MidStep x from HMID.out)
  clear hW3 f0 f1 hb3 hkB hs3 HS2 HB2 HMID
  go_wp2_with fail
  refine H16.out.mono ?_
  rintro e w4 ⟨rfl, hk4⟩
  have HK4 := Lib.hid (HK3.out.trans' hk4)
  have H15 := Lib.hid (mprint_any n0 sl (.slice a2 sl.length c2) w4 (HG.out.far HK4.out) (HSR3.out.far hk4) HMID2.out)
  have HK34 := Lib.hid hk4
  clear hk4 d0 d1 H16
  go_wp2_with fail
  refine H15.out.mono ?_
  rintro e w5 ⟨hk5, h5⟩
  have HK5 := Lib.hid (HK4.out.trans' hk5)
  have HK35 := Lib.hid (HK34.out.trans' hk5)
  clear hk5 H15
  rcases h5 with ⟨hok, rfl⟩ | ⟨hok, rfl⟩
  · have HOK := Lib.hid hok
    clear hok
    have H8 := Lib.hid (mparse_any (text ⟨n0, sl⟩) (text_short HOK.out) w5 (HG.out.far HK5.out))
    go_wp2_with fail
    refine H8.out.mono ?_
    rintro e w6 ⟨hk6, h6⟩
    rw [parse_text _ HOK.out] at h6
    obtain ⟨v6, rfl, hs6⟩ := h6
    obtain ⟨a6, c6, hv6, -⟩ := hs6.slice
    subst hv6
    have HSR6 := Lib.hid (StepsRead.of_at hs6)
    have HK36 := Lib.hid (HK35.out.trans' hk6)
    clear hs6 hk6 H8
    go_upto_region 7 with fail
    obtain ⟨V, hV⟩ : ∃ W : World, W = w6.alloc (.cells #[.int .i64 n0, .slice a6 sl.length c6] 24) := ⟨_, rfl⟩
    obtain ⟨b7, hb7⟩ : ∃ b, b = w6.heap.size := ⟨_, rfl⟩
    have hkV : Keep (fun _ => False) w6 V := by rw [hV]; exact (Keep.refl _ _).alloc _
    have hbl7 : V.heap[b7]? = some (.cells #[.int .i64 n0, .slice a6 sl.length c6] 24 (0, 0)) := by rw [hV, hb7]; exact block_new _ _
    rw [← hV, ← hb7]
    have hk3V : Keep (fun _ => False) W3 V := HK36.out.trans' hkV
    have HS := Lib.hid (fun w' (hk : Keep (fun _ => False) V w') => (⟨cell_of_block ((hk3V.trans' hk).at' HB3.out (fun e => e)) 0, cell_of_block ((hk3V.trans' hk).at' HB3.out (fun e => e)) 1, cell_of_block (hk.at' hbl7 (fun e => e)) 0, cell_of_block (hk.at' hbl7 (fun e => e)) 1⟩ :
      w'.cell? ⟨B, 0, none⟩ = some (.int .i64 n0) ∧ w'.cell? ⟨B, 1, none⟩ = some (.slice a2 sl.length c2) ∧ w'.cell? ⟨b7, 0, none⟩ = some (.int .i64 n0) ∧ w'.cell? ⟨b7, 1, none⟩ = some (.slice a6 sl.length c6)))
    have HO := Lib.hid (fun w' => ours_any n0 a6 sl.length c6 w')
    have HM := Lib.hid (fun w' (hk : Keep (fun _ => False) V w') => (rSame_any ⟨n0, sl⟩ ⟨n0, sl⟩ _ _ w' (HSR3.out.far (hk3V.trans' hk)) (HSR6.out.far (hkV.trans' hk)) (ok_lens' HOK.out).1 (ok_lens' HOK.out).2 : Calls Tryz.prog 11 #[.agg #[.int .i64 n0, .slice a2 sl.length c2], .agg #[.int .i64 n0, .slice a6 sl.length c6]] w' (Tells (decide ((⟨n0, sl⟩ : ScriptS) = ⟨n0, sl⟩)) w')))
    have hd : decide ((⟨n0, sl⟩ : ScriptS) = ⟨n0, sl⟩) = true := decide_eq_true rfl
    rw [hd] at HM
    have HKV := Lib.hid (HK3.out.trans' hk3V)
    clear hV hb7 hkV hbl7 hk3V HSR6 HK36
    generalize sl.length = SL at *
    have hkk0 : Keep (fun _ => False) V V.drew := (Keep.refl _ V).drew
    refine wp_region_held_drew (S := fun w' => w'.cell? ⟨B, 0, none⟩ = some (.int .i64 n0) ∧ w'.cell? ⟨B, 1, none⟩ = some (.slice a2 SL c2) ∧ w'.cell? ⟨b7, 0, none⟩ = some (.int .i64 n0) ∧ w'.cell? ⟨b7, 1, none⟩ = some (.slice a6 SL c6)) (by kernel_rfl) (HS.out _ hkk0) (fun hHeld => ?_)
    refine wpAnyH_take (i := 0) (oi := ?_) (v := ?_) (by simp only [List.getElem?_toArray, List.getElem?_cons_succ, List.getElem?_cons_zero]; exact rfl) (by kernel_rfl) (by kernel_rfl) (by kernel_rfl) (by exact fun _ _ _ h => h) (Or.inl ⟨by rfl, ?_⟩) (by assumption) ?_
    rotate_left
    · (intro w hSw; (try dsimp only at hSw); go_simp; try with_reducible rfl)
    try simp only [Act.put, List.setIfInBounds_toArray, List.set_cons_zero, List.set_cons_succ]
    refine wpAnyH_take (i := 1) (oi := ?_) (v := ?_) (by simp only [List.getElem?_toArray, List.getElem?_cons_succ, List.getElem?_cons_zero]; exact rfl) (by kernel_rfl) (by kernel_rfl) (by kernel_rfl) (by exact fun _ _ _ h => h) (Or.inl ⟨by rfl, ?_⟩) (by assumption) ?_
    rotate_left
    · (intro w hSw; (try dsimp only at hSw); go_simp; try with_reducible rfl)
    try simp only [Act.put, List.setIfInBounds_toArray, List.set_cons_zero, List.set_cons_succ]
    refine wpAnyH_take (i := 2) (oi := ?_) (v := ?_) (by simp only [List.getElem?_toArray, List.getElem?_cons_succ, List.getElem?_cons_zero]; exact rfl) (by kernel_rfl) (by kernel_rfl) (by kernel_rfl) (by exact fun _ _ _ h => h) (Or.inl ⟨by rfl, ?_⟩) (by assumption) ?_
    rotate_left
    · (intro w hSw; (try dsimp only at hSw); go_simp; try with_reducible rfl)
    try simp only [Act.put, List.setIfInBounds_toArray, List.set_cons_zero, List.set_cons_succ]
    refine wpAnyH_take (i := 3) (oi := ?_) (v := ?_) (by simp only [List.getElem?_toArray, List.getElem?_cons_succ, List.getElem?_cons_zero]; exact rfl) (by kernel_rfl) (by kernel_rfl) (by kernel_rfl) (by exact fun _ _ _ h => h) (Or.inl ⟨by rfl, ?_⟩) (by assumption) ?_
    rotate_left
    · (intro w hSw; (try dsimp only at hSw); go_simp; try with_reducible rfl)
    try simp only [Act.put, List.setIfInBounds_toArray, List.set_cons_zero, List.set_cons_succ]
    refine wpAnyH_take (i := 4) (oi := ?_) (v := ?_) (by simp only [List.getElem?_toArray, List.getElem?_cons_succ, List.getElem?_cons_zero]; exact rfl) (by kernel_rfl) (by kernel_rfl) (by kernel_rfl) (by exact fun _ _ _ h => h) (Or.inl ⟨by rfl, ?_⟩) (by assumption) ?_
    rotate_left
    · (intro w hSw; (try dsimp only at hSw); go_simp; try with_reducible rfl)
    try simp only [Act.put, List.setIfInBounds_toArray, List.set_cons_zero, List.set_cons_succ]
    refine wpAnyH_ready (rs := [5]) (by kernel_rfl) (by simp) ?_
    refine AllReadyH.cons (o := ?_) (by simp only [List.getElem?_toArray, List.getElem?_cons_succ, List.getElem?_cons_zero]; exact rfl) (fun K hK => ?_) AllReadyH.nil
    go_simp
    refine (HO.out _).mono ?_
    rintro ev wq1 ⟨rfl, hkq⟩
    have hkk1 : Keep (fun _ => False) V wq1 := hkk0.trans' hkq
    clear hkq
    refine hK.out _ _ (HS.out _ hkk1) (fun hHeld => ?_)
    clear hK K
    try simp only [Act.put, List.setIfInBounds_toArray, List.set_cons_zero, List.set_cons_succ]
    refine wpAnyH_ready (rs := [6]) (by kernel_rfl) (by simp) ?_
    refine AllReadyH.cons (o := ?_) (by simp only [List.getElem?_toArray, List.getElem?_cons_succ, List.getElem?_cons_zero]; exact rfl) (fun K hK => ?_) AllReadyH.nil
    go_simp
    refine (HM.out _ hkk1).mono ?_
    rintro ev wq2 ⟨rfl, hkq⟩
    have hkk2 : Keep (fun _ => False) V wq2 := hkk1.trans' hkq
    clear hkq
    refine hK.out _ _ (HS.out _ hkk2) (fun hHeld => ?_)
    clear hK K
    try simp only [Act.put, List.setIfInBounds_toArray, List.set_cons_zero, List.set_cons_succ]
    refine wpAnyH_take (i := 7) (oi := ?_) (v := ?_) (by simp only [List.getElem?_toArray, List.getElem?_cons_succ, List.getElem?_cons_zero]; exact rfl) (by kernel_rfl) (by kernel_rfl) (by kernel_rfl) (by exact fun _ _ _ h => h) (Or.inl ⟨by rfl, ?_⟩) (by assumption) ?_
    rotate_left
    · (intro w hSw; (try dsimp only at hSw); go_simp; try with_reducible rfl)
    try simp only [Act.put, List.setIfInBounds_toArray, List.set_cons_zero, List.set_cons_succ]
    refine wpAnyH_take (i := 8) (oi := ?_) (v := ?_) (by simp only [List.getElem?_toArray, List.getElem?_cons_succ, List.getElem?_cons_zero]; exact rfl) (by kernel_rfl) (by kernel_rfl) (by kernel_rfl) (by exact fun _ _ _ h => h) (Or.inl ⟨by rfl, ?_⟩) (by assumption) ?_
    rotate_left
    · (intro w hSw; (try dsimp only at hSw); go_simp; try with_reducible rfl)
    try simp only [Act.put, List.setIfInBounds_toArray, List.set_cons_zero, List.set_cons_succ]
    refine wpAnyH_done (by kernel_rfl) ?_ _
    go_upto_region 11 with fail
    have HKX := Lib.hid (HKV.out.trans' hkk2)
    clear hkk0 hkk1 hkk2 hHeld HS HO HM
    obtain ⟨U, rfl⟩ : ∃ U : World, U = wq2 := ⟨_, rfl⟩
    clear HCT
    go_wp2_with fail
    refine (HPC.out _ HKX.out).mono ?_
    rintro e u1 ⟨hq1, h1⟩
    have HQ1 := Lib.hid (HKX.out.trans' hq1)
    cases hp : parse ct with
    | error o =>
      obtain ⟨cd, no⟩ := o
      rw [hp] at h1
      obtain ⟨g, hgw, rfl, hb⟩ := h1
      clear hgw hb hq1
      go_wp2_with fail
      go_ret
      exact ⟨rfl, HQ1.out.alloc _⟩
    | ok m =>
      rw [hp] at h1
      obtain ⟨v1, rfl, hs1⟩ := h1
      obtain ⟨a1, k1, hv1, -⟩ := hs1.slice
      subst hv1
      obtain ⟨mn, ms⟩ := m
      have HOM := Lib.hid (parse_ok hp)
      have HSR1 := Lib.hid (StepsRead.of_at hs1)
      clear hs1 hq1 hp
      dsimp only
      go_upto_region 14 with fail
      obtain ⟨V1, hV1⟩ : ∃ W : World, W = u1.alloc (.cells #[.int .i64 mn, .slice a1 ms.length k1] 24) := ⟨_, rfl⟩
      obtain ⟨b9, hb9⟩ : ∃ b, b = u1.heap.size := ⟨_, rfl⟩
      have hkV1 : Keep (fun _ => False) u1 V1 := by rw [hV1]; exact (Keep.refl _ _).alloc _
      have hbl9 : V1.heap[b9]? = some (.cells #[.int .i64 mn, .slice a1 ms.length k1] 24 (0, 0)) := by rw [hV1, hb9]; exact block_new _ _
      rw [← hV1, ← hb9]
      have d0 : V1.cell? ⟨b9, 0, none⟩ = some (.int .i64 mn) := cell_of_block hbl9 0
      have d1 : V1.cell? ⟨b9, 1, none⟩ = some (.slice a1 ms.length k1) := cell_of_block hbl9 1
      have HQV1 := Lib.hid (HQ1.out.trans' hkV1)
      have HSRV1 := Lib.hid (HSR1.out.far hkV1)
      have HBL9 := Lib.hid hbl9
      have H15 := Lib.hid (mprint_any mn ms (.slice a1 ms.length k1) V1 (HG.out.far HQV1.out) HSRV1.out (ok_mids HOM.out))
      clear hV1 hb9 hkV1 hbl9 HSR1
      go_wp2_with fail
      refine H15.out.mono ?_
      rintro e u2 ⟨hq2, h2⟩
      have HQ2 := Lib.hid hq2
      clear hq2 H15
      rcases h2 with ⟨-, rfl⟩ | ⟨hno, -⟩
      · have H8 := Lib.hid (mparse_any (text ⟨mn, ms⟩) (text_short HOM.out) u2 (HG.out.far (HQV1.out.trans' HQ2.out)))
        clear d0 d1
        go_wp2_with fail
        refine H8.out.mono ?_
        rintro e u3 ⟨hq3, h3⟩
        rw [parse_text _ HOM.out] at h3
        obtain ⟨v3, rfl, hs3⟩ := h3
        obtain ⟨a3, k3, hv3, -⟩ := hs3.slice
        subst hv3
        have HSR3' := Lib.hid (StepsRead.of_at hs3)
        have HQ3 := Lib.hid (HQ2.out.trans' hq3)
        clear hs3 hq3 H8
        dsimp only
        go_upto_region 16 with fail
        obtain ⟨V, hV⟩ : ∃ W : World, W = u3.alloc (.cells #[.int .i64 mn, .slice a3 ms.length k3] 24) := ⟨_, rfl⟩
        obtain ⟨b13, hb13⟩ : ∃ b, b = u3.heap.size := ⟨_, rfl⟩
        have hkV : Keep (fun _ => False) u3 V := by rw [hV]; exact (Keep.refl _ _).alloc _
        have hbl13 : V.heap[b13]? = some (.cells #[.int .i64 mn, .slice a3 ms.length k3] 24 (0, 0)) := by rw [hV, hb13]; exact block_new _ _
        rw [← hV, ← hb13]
        have hk1V : Keep (fun _ => False) V1 V := HQ3.out.trans' hkV
        have HS := Lib.hid (fun w' (hk : Keep (fun _ => False) V w') => (⟨cell_of_block ((hk1V.trans' hk).at' HBL9.out (fun e => e)) 0, cell_of_block ((hk1V.trans' hk).at' HBL9.out (fun e => e)) 1, cell_of_block (hk.at' hbl13 (fun e => e)) 0, cell_of_block (hk.at' hbl13 (fun e => e)) 1⟩ :
          w'.cell? ⟨b9, 0, none⟩ = some (.int .i64 mn) ∧ w'.cell? ⟨b9, 1, none⟩ = some (.slice a1 ms.length k1) ∧ w'.cell? ⟨b13, 0, none⟩ = some (.int .i64 mn) ∧ w'.cell? ⟨b13, 1, none⟩ = some (.slice a3 ms.length k3)))
        have HO1 := Lib.hid (fun w' => ours_any mn a1 ms.length k1 w')
        have HO3 := Lib.hid (fun w' => ours_any mn a3 ms.length k3 w')
        have HM := Lib.hid (fun w' (hk : Keep (fun _ => False) V w') => (rSame_any ⟨mn, ms⟩ ⟨mn, ms⟩ _ _ w' (HSRV1.out.far (hk1V.trans' hk)) (HSR3'.out.far (hkV.trans' hk)) (ok_lens' HOM.out).1 (ok_lens' HOM.out).2 : Calls Tryz.prog 11 #[.agg #[.int .i64 mn, .slice a1 ms.length k1], .agg #[.int .i64 mn, .slice a3 ms.length k3]] w' (Tells (decide ((⟨mn, ms⟩ : ScriptS) = ⟨mn, ms⟩)) w')))
        have hd : decide ((⟨mn, ms⟩ : ScriptS) = ⟨mn, ms⟩) = true := decide_eq_true rfl
        rw [hd] at HM
        have HKZ := Lib.hid (HQV1.out.trans' hk1V)
        clear hV hb13 hkV hbl13 hk1V HSR3' HQ3 HSRV1 HBL9
        generalize ms.length = ML at *
        have hkk0 : Keep (fun _ => False) V V.drew := (Keep.refl _ V).drew
        refine wp_region_held_drew (S := fun w' => w'.cell? ⟨b9, 0, none⟩ = some (.int .i64 mn) ∧ w'.cell? ⟨b9, 1, none⟩ = some (.slice a1 ML k1) ∧ w'.cell? ⟨b13, 0, none⟩ = some (.int .i64 mn) ∧ w'.cell? ⟨b13, 1, none⟩ = some (.slice a3 ML k3)) (by kernel_rfl) (HS.out _ hkk0) (fun hHeld => ?_)
        refine wpAnyH_take (i := 0) (oi := ?_) (v := ?_) (by simp only [List.getElem?_toArray, List.getElem?_cons_succ, List.getElem?_cons_zero]; exact rfl) (by kernel_rfl) (by kernel_rfl) (by kernel_rfl) (by exact fun _ _ _ h => h) (Or.inl ⟨by rfl, ?_⟩) (by assumption) ?_
        rotate_left
        · (intro w hSw; (try dsimp only at hSw); go_simp; try with_reducible rfl)
        try simp only [Act.put, List.setIfInBounds_toArray, List.set_cons_zero, List.set_cons_succ]
        refine wpAnyH_take (i := 1) (oi := ?_) (v := ?_) (by simp only [List.getElem?_toArray, List.getElem?_cons_succ, List.getElem?_cons_zero]; exact rfl) (by kernel_rfl) (by kernel_rfl) (by kernel_rfl) (by exact fun _ _ _ h => h) (Or.inl ⟨by rfl, ?_⟩) (by assumption) ?_
        rotate_left
        · (intro w hSw; (try dsimp only at hSw); go_simp; try with_reducible rfl)
        try simp only [Act.put, List.setIfInBounds_toArray, List.set_cons_zero, List.set_cons_succ]
        refine wpAnyH_take (i := 2) (oi := ?_) (v := ?_) (by simp only [List.getElem?_toArray, List.getElem?_cons_succ, List.getElem?_cons_zero]; exact rfl) (by kernel_rfl) (by kernel_rfl) (by kernel_rfl) (by exact fun _ _ _ h => h) (Or.inl ⟨by rfl, ?_⟩) (by assumption) ?_
        rotate_left
        · (intro w hSw; (try dsimp only at hSw); go_simp; try with_reducible rfl)
        try simp only [Act.put, List.setIfInBounds_toArray, List.set_cons_zero, List.set_cons_succ]
        refine wpAnyH_take (i := 3) (oi := ?_) (v := ?_) (by simp only [List.getElem?_toArray, List.getElem?_cons_succ, List.getElem?_cons_zero]; exact rfl) (by kernel_rfl) (by kernel_rfl) (by kernel_rfl) (by exact fun _ _ _ h => h) (Or.inl ⟨by rfl, ?_⟩) (by assumption) ?_
        rotate_left
        · (intro w hSw; (try dsimp only at hSw); go_simp; try with_reducible rfl)
        try simp only [Act.put, List.setIfInBounds_toArray, List.set_cons_zero, List.set_cons_succ]
        refine wpAnyH_take (i := 4) (oi := ?_) (v := ?_) (by simp only [List.getElem?_toArray, List.getElem?_cons_succ, List.getElem?_cons_zero]; exact rfl) (by kernel_rfl) (by kernel_rfl) (by kernel_rfl) (by exact fun _ _ _ h => h) (Or.inl ⟨by rfl, ?_⟩) (by assumption) ?_
        rotate_left
        · (intro w hSw; (try dsimp only at hSw); go_simp; try with_reducible rfl)
        try simp only [Act.put, List.setIfInBounds_toArray, List.set_cons_zero, List.set_cons_succ]
        refine wpAnyH_take (i := 5) (oi := ?_) (v := ?_) (by simp only [List.getElem?_toArray, List.getElem?_cons_succ, List.getElem?_cons_zero]; exact rfl) (by kernel_rfl) (by kernel_rfl) (by kernel_rfl) (by exact fun _ _ _ h => h) (Or.inl ⟨by rfl, ?_⟩) (by assumption) ?_
        rotate_left
        · (intro w hSw; (try dsimp only at hSw); go_simp; try with_reducible rfl)
        try simp only [Act.put, List.setIfInBounds_toArray, List.set_cons_zero, List.set_cons_succ]
        refine wpAnyH_take (i := 6) (oi := ?_) (v := ?_) (by simp only [List.getElem?_toArray, List.getElem?_cons_succ, List.getElem?_cons_zero]; exact rfl) (by kernel_rfl) (by kernel_rfl) (by kernel_rfl) (by exact fun _ _ _ h => h) (Or.inl ⟨by rfl, ?_⟩) (by assumption) ?_
        rotate_left
        · (intro w hSw; (try dsimp only at hSw); go_simp; try with_reducible rfl)
        try simp only [Act.put, List.setIfInBounds_toArray, List.set_cons_zero, List.set_cons_succ]
        refine wpAnyH_take (i := 7) (oi := ?_) (v := ?_) (by simp only [List.getElem?_toArray, List.getElem?_cons_succ, List.getElem?_cons_zero]; exact rfl) (by kernel_rfl) (by kernel_rfl) (by kernel_rfl) (by exact fun _ _ _ h => h) (Or.inl ⟨by rfl, ?_⟩) (by assumption) ?_
        rotate_left
        · (intro w hSw; (try dsimp only at hSw); go_simp; try with_reducible rfl)
        try simp only [Act.put, List.setIfInBounds_toArray, List.set_cons_zero, List.set_cons_succ]
        refine wpAnyH_take (i := 9) (oi := ?_) (v := ?_) (by simp only [List.getElem?_toArray, List.getElem?_cons_succ, List.getElem?_cons_zero]; exact rfl) (by kernel_rfl) (by kernel_rfl) (by kernel_rfl) (by exact fun _ _ _ h => h) (Or.inl ⟨by rfl, ?_⟩) (by assumption) ?_
        rotate_left
        · (intro w hSw; (try dsimp only at hSw); go_simp; try with_reducible rfl)
        try simp only [Act.put, List.setIfInBounds_toArray, List.set_cons_zero, List.set_cons_succ]
        refine wpAnyH_ready (rs := [8]) (by kernel_rfl) (by simp) ?_
        refine AllReadyH.cons (o := ?_) (by simp only [List.getElem?_toArray, List.getElem?_cons_succ, List.getElem?_cons_zero]; exact rfl) (fun K hK => ?_) AllReadyH.nil
        go_simp
        refine (HO1.out _).mono ?_
        rintro ev wq1 ⟨rfl, hkq⟩
        have hkk1 : Keep (fun _ => False) V wq1 := hkk0.trans' hkq
        clear hkq
        refine hK.out _ _ (HS.out _ hkk1) (fun hHeld => ?_)
        clear hK K
        try simp only [Act.put, List.setIfInBounds_toArray, List.set_cons_zero, List.set_cons_succ]
        refine wpAnyH_ready (rs := [10]) (by kernel_rfl) (by simp) ?_
        refine AllReadyH.cons (o := ?_) (by simp only [List.getElem?_toArray, List.getElem?_cons_succ, List.getElem?_cons_zero]; exact rfl) (fun K hK => ?_) AllReadyH.nil
        go_simp
        refine (HO3.out _).mono ?_
        rintro ev wq2 ⟨rfl, hkq⟩
        have hkk2 : Keep (fun _ => False) V wq2 := hkk1.trans' hkq
        clear hkq
        refine hK.out _ _ (HS.out _ hkk2) (fun hHeld => ?_)
        clear hK K
        try simp only [Act.put, List.setIfInBounds_toArray, List.set_cons_zero, List.set_cons_succ]
        refine wpAnyH_ready (rs := [11]) (by kernel_rfl) (by simp) ?_
        refine AllReadyH.cons (o := ?_) (by simp only [List.getElem?_toArray, List.getElem?_cons_succ, List.getElem?_cons_zero]; exact rfl) (fun K hK => ?_) AllReadyH.nil
        go_simp
        refine (HM.out _ hkk2).mono ?_
        rintro ev wq4 ⟨rfl, hkq⟩
        have hkk4 : Keep (fun _ => False) V wq4 := hkk2.trans' hkq
        clear hkq
        refine hK.out _ _ (HS.out _ hkk4) (fun hHeld => ?_)
        clear hK K
        try simp only [Act.put, List.setIfInBounds_toArray, List.set_cons_zero, List.set_cons_succ]
        refine wpAnyH_take (i := 12) (oi := ?_) (v := ?_) (by simp only [List.getElem?_toArray, List.getElem?_cons_succ, List.getElem?_cons_zero]; exact rfl) (by kernel_rfl) (by kernel_rfl) (by kernel_rfl) (by exact fun _ _ _ h => h) (Or.inl ⟨by rfl, ?_⟩) (by assumption) ?_
        rotate_left
        · (intro w hSw; (try dsimp only at hSw); go_simp; try with_reducible rfl)
        try simp only [Act.put, List.setIfInBounds_toArray, List.set_cons_zero, List.set_cons_succ]
        refine wpAnyH_ready (rs := [13]) (by kernel_rfl) (by simp) ?_
        refine AllReadyH.cons (o := ?_) (by simp only [List.getElem?_toArray, List.getElem?_cons_succ, List.getElem?_cons_zero]; exact rfl) (fun K hK => ?_) AllReadyH.nil
        go_simp
        refine hK.out _ _ (HS.out _ hkk4) (fun hHeld => ?_)
        clear hK K
        try simp only [Act.put, List.setIfInBounds_toArray, List.set_cons_zero, List.set_cons_succ]
        refine wpAnyH_done (by kernel_rfl) ?_ _
        go_wp2_with fail
        go_ret
        exact ⟨rfl, HKZ.out.trans' hkk4⟩
      · rw [HOM.out] at hno
        cases hno
  · have HOK := Lib.hid hok
    clear hok
    go_upto_region 11 with fail
    have HKX := Lib.hid HK5.out
    obtain ⟨U, rfl⟩ : ∃ U : World, U = w5 := ⟨_, rfl⟩
    clear HCT
    go_wp2_with fail
    refine (HPC.out _ HKX.out).mono ?_
    rintro e u1 ⟨hq1, h1⟩
    have HQ1 := Lib.hid (HKX.out.trans' hq1)
    cases hp : parse ct with
    | error o =>
      obtain ⟨cd, no⟩ := o
      rw [hp] at h1
      obtain ⟨g, hgw, rfl, hb⟩ := h1
      clear hgw hb hq1
      go_wp2_with fail
      go_ret
      exact ⟨rfl, HQ1.out.alloc _⟩
    | ok m =>
      rw [hp] at h1
      obtain ⟨v1, rfl, hs1⟩ := h1
      obtain ⟨a1, k1, hv1, -⟩ := hs1.slice
      subst hv1
      obtain ⟨mn, ms⟩ := m
      have HOM := Lib.hid (parse_ok hp)
      have HSR1 := Lib.hid (StepsRead.of_at hs1)
      clear hs1 hq1 hp
      dsimp only
      go_upto_region 14 with fail
      obtain ⟨V1, hV1⟩ : ∃ W : World, W = u1.alloc (.cells #[.int .i64 mn, .slice a1 ms.length k1] 24) := ⟨_, rfl⟩
      obtain ⟨b9, hb9⟩ : ∃ b, b = u1.heap.size := ⟨_, rfl⟩
      have hkV1 : Keep (fun _ => False) u1 V1 := by rw [hV1]; exact (Keep.refl _ _).alloc _
      have hbl9 : V1.heap[b9]? = some (.cells #[.int .i64 mn, .slice a1 ms.length k1] 24 (0, 0)) := by rw [hV1, hb9]; exact block_new _ _
      rw [← hV1, ← hb9]
      have d0 : V1.cell? ⟨b9, 0, none⟩ = some (.int .i64 mn) := cell_of_block hbl9 0
      have d1 : V1.cell? ⟨b9, 1, none⟩ = some (.slice a1 ms.length k1) := cell_of_block hbl9 1
      have HQV1 := Lib.hid (HQ1.out.trans' hkV1)
      have HSRV1 := Lib.hid (HSR1.out.far hkV1)
      have HBL9 := Lib.hid hbl9
      have H15 := Lib.hid (mprint_any mn ms (.slice a1 ms.length k1) V1 (HG.out.far HQV1.out) HSRV1.out (ok_mids HOM.out))
      clear hV1 hb9 hkV1 hbl9 HSR1
      go_wp2_with fail
      refine H15.out.mono ?_
      rintro e u2 ⟨hq2, h2⟩
      have HQ2 := Lib.hid hq2
      clear hq2 H15
      rcases h2 with ⟨-, rfl⟩ | ⟨hno, -⟩
      · have H8 := Lib.hid (mparse_any (text ⟨mn, ms⟩) (text_short HOM.out) u2 (HG.out.far (HQV1.out.trans' HQ2.out)))
        clear d0 d1
        go_wp2_with fail
        refine H8.out.mono ?_
        rintro e u3 ⟨hq3, h3⟩
        rw [parse_text _ HOM.out] at h3
        obtain ⟨v3, rfl, hs3⟩ := h3
        obtain ⟨a3, k3, hv3, -⟩ := hs3.slice
        subst hv3
        have HSR3' := Lib.hid (StepsRead.of_at hs3)
        have HQ3 := Lib.hid (HQ2.out.trans' hq3)
        clear hs3 hq3 H8
        dsimp only
        go_upto_region 16 with fail
        obtain ⟨V, hV⟩ : ∃ W : World, W = u3.alloc (.cells #[.int .i64 mn, .slice a3 ms.length k3] 24) := ⟨_, rfl⟩
        obtain ⟨b13, hb13⟩ : ∃ b, b = u3.heap.size := ⟨_, rfl⟩
        have hkV : Keep (fun _ => False) u3 V := by rw [hV]; exact (Keep.refl _ _).alloc _
        have hbl13 : V.heap[b13]? = some (.cells #[.int .i64 mn, .slice a3 ms.length k3] 24 (0, 0)) := by rw [hV, hb13]; exact block_new _ _
        rw [← hV, ← hb13]
        have hk1V : Keep (fun _ => False) V1 V := HQ3.out.trans' hkV
        have HS := Lib.hid (fun w' (hk : Keep (fun _ => False) V w') => (⟨cell_of_block ((hk1V.trans' hk).at' HBL9.out (fun e => e)) 0, cell_of_block ((hk1V.trans' hk).at' HBL9.out (fun e => e)) 1, cell_of_block (hk.at' hbl13 (fun e => e)) 0, cell_of_block (hk.at' hbl13 (fun e => e)) 1⟩ :
          w'.cell? ⟨b9, 0, none⟩ = some (.int .i64 mn) ∧ w'.cell? ⟨b9, 1, none⟩ = some (.slice a1 ms.length k1) ∧ w'.cell? ⟨b13, 0, none⟩ = some (.int .i64 mn) ∧ w'.cell? ⟨b13, 1, none⟩ = some (.slice a3 ms.length k3)))
        have HO1 := Lib.hid (fun w' => ours_any mn a1 ms.length k1 w')
        have HO3 := Lib.hid (fun w' => ours_any mn a3 ms.length k3 w')
        have HM := Lib.hid (fun w' (hk : Keep (fun _ => False) V w') => (rSame_any ⟨mn, ms⟩ ⟨mn, ms⟩ _ _ w' (HSRV1.out.far (hk1V.trans' hk)) (HSR3'.out.far (hkV.trans' hk)) (ok_lens' HOM.out).1 (ok_lens' HOM.out).2 : Calls Tryz.prog 11 #[.agg #[.int .i64 mn, .slice a1 ms.length k1], .agg #[.int .i64 mn, .slice a3 ms.length k3]] w' (Tells (decide ((⟨mn, ms⟩ : ScriptS) = ⟨mn, ms⟩)) w')))
        have hd : decide ((⟨mn, ms⟩ : ScriptS) = ⟨mn, ms⟩) = true := decide_eq_true rfl
        rw [hd] at HM
        have HKZ := Lib.hid (HQV1.out.trans' hk1V)
        clear hV hb13 hkV hbl13 hk1V HSR3' HQ3 HSRV1 HBL9
        generalize ms.length = ML at *
        have hkk0 : Keep (fun _ => False) V V.drew := (Keep.refl _ V).drew
        refine wp_region_held_drew (S := fun w' => w'.cell? ⟨b9, 0, none⟩ = some (.int .i64 mn) ∧ w'.cell? ⟨b9, 1, none⟩ = some (.slice a1 ML k1) ∧ w'.cell? ⟨b13, 0, none⟩ = some (.int .i64 mn) ∧ w'.cell? ⟨b13, 1, none⟩ = some (.slice a3 ML k3)) (by kernel_rfl) (HS.out _ hkk0) (fun hHeld => ?_)
        refine wpAnyH_take (i := 0) (oi := ?_) (v := ?_) (by simp only [List.getElem?_toArray, List.getElem?_cons_succ, List.getElem?_cons_zero]; exact rfl) (by kernel_rfl) (by kernel_rfl) (by kernel_rfl) (by exact fun _ _ _ h => h) (Or.inl ⟨by rfl, ?_⟩) (by assumption) ?_
        rotate_left
        · (intro w hSw; (try dsimp only at hSw); go_simp; try with_reducible rfl)
        try simp only [Act.put, List.setIfInBounds_toArray, List.set_cons_zero, List.set_cons_succ]
        refine wpAnyH_take (i := 1) (oi := ?_) (v := ?_) (by simp only [List.getElem?_toArray, List.getElem?_cons_succ, List.getElem?_cons_zero]; exact rfl) (by kernel_rfl) (by kernel_rfl) (by kernel_rfl) (by exact fun _ _ _ h => h) (Or.inl ⟨by rfl, ?_⟩) (by assumption) ?_
        rotate_left
        · (intro w hSw; (try dsimp only at hSw); go_simp; try with_reducible rfl)
        try simp only [Act.put, List.setIfInBounds_toArray, List.set_cons_zero, List.set_cons_succ]
        refine wpAnyH_take (i := 2) (oi := ?_) (v := ?_) (by simp only [List.getElem?_toArray, List.getElem?_cons_succ, List.getElem?_cons_zero]; exact rfl) (by kernel_rfl) (by kernel_rfl) (by kernel_rfl) (by exact fun _ _ _ h => h) (Or.inl ⟨by rfl, ?_⟩) (by assumption) ?_
        rotate_left
        · (intro w hSw; (try dsimp only at hSw); go_simp; try with_reducible rfl)
        try simp only [Act.put, List.setIfInBounds_toArray, List.set_cons_zero, List.set_cons_succ]
        refine wpAnyH_take (i := 3) (oi := ?_) (v := ?_) (by simp only [List.getElem?_toArray, List.getElem?_cons_succ, List.getElem?_cons_zero]; exact rfl) (by kernel_rfl) (by kernel_rfl) (by kernel_rfl) (by exact fun _ _ _ h => h) (Or.inl ⟨by rfl, ?_⟩) (by assumption) ?_
        rotate_left
        · (intro w hSw; (try dsimp only at hSw); go_simp; try with_reducible rfl)
        try simp only [Act.put, List.setIfInBounds_toArray, List.set_cons_zero, List.set_cons_succ]
        refine wpAnyH_take (i := 4) (oi := ?_) (v := ?_) (by simp only [List.getElem?_toArray, List.getElem?_cons_succ, List.getElem?_cons_zero]; exact rfl) (by kernel_rfl) (by kernel_rfl) (by kernel_rfl) (by exact fun _ _ _ h => h) (Or.inl ⟨by rfl, ?_⟩) (by assumption) ?_
        rotate_left
        · (intro w hSw; (try dsimp only at hSw); go_simp; try with_reducible rfl)
        try simp only [Act.put, List.setIfInBounds_toArray, List.set_cons_zero, List.set_cons_succ]
        refine wpAnyH_take (i := 5) (oi := ?_) (v := ?_) (by simp only [List.getElem?_toArray, List.getElem?_cons_succ, List.getElem?_cons_zero]; exact rfl) (by kernel_rfl) (by kernel_rfl) (by kernel_rfl) (by exact fun _ _ _ h => h) (Or.inl ⟨by rfl, ?_⟩) (by assumption) ?_
        rotate_left
        · (intro w hSw; (try dsimp only at hSw); go_simp; try with_reducible rfl)
        try simp only [Act.put, List.setIfInBounds_toArray, List.set_cons_zero, List.set_cons_succ]
        refine wpAnyH_take (i := 6) (oi := ?_) (v := ?_) (by simp only [List.getElem?_toArray, List.getElem?_cons_succ, List.getElem?_cons_zero]; exact rfl) (by kernel_rfl) (by kernel_rfl) (by kernel_rfl) (by exact fun _ _ _ h => h) (Or.inl ⟨by rfl, ?_⟩) (by assumption) ?_
        rotate_left
        · (intro w hSw; (try dsimp only at hSw); go_simp; try with_reducible rfl)
        try simp only [Act.put, List.setIfInBounds_toArray, List.set_cons_zero, List.set_cons_succ]
        refine wpAnyH_take (i := 7) (oi := ?_) (v := ?_) (by simp only [List.getElem?_toArray, List.getElem?_cons_succ, List.getElem?_cons_zero]; exact rfl) (by kernel_rfl) (by kernel_rfl) (by kernel_rfl) (by exact fun _ _ _ h => h) (Or.inl ⟨by rfl, ?_⟩) (by assumption) ?_
        rotate_left
        · (intro w hSw; (try dsimp only at hSw); go_simp; try with_reducible rfl)
        try simp only [Act.put, List.setIfInBounds_toArray, List.set_cons_zero, List.set_cons_succ]
        refine wpAnyH_take (i := 9) (oi := ?_) (v := ?_) (by simp only [List.getElem?_toArray, List.getElem?_cons_succ, List.getElem?_cons_zero]; exact rfl) (by kernel_rfl) (by kernel_rfl) (by kernel_rfl) (by exact fun _ _ _ h => h) (Or.inl ⟨by rfl, ?_⟩) (by assumption) ?_
        rotate_left
        · (intro w hSw; (try dsimp only at hSw); go_simp; try with_reducible rfl)
        try simp only [Act.put, List.setIfInBounds_toArray, List.set_cons_zero, List.set_cons_succ]
        refine wpAnyH_ready (rs := [8]) (by kernel_rfl) (by simp) ?_
        refine AllReadyH.cons (o := ?_) (by simp only [List.getElem?_toArray, List.getElem?_cons_succ, List.getElem?_cons_zero]; exact rfl) (fun K hK => ?_) AllReadyH.nil
        go_simp
        refine (HO1.out _).mono ?_
        rintro ev wq1 ⟨rfl, hkq⟩
        have hkk1 : Keep (fun _ => False) V wq1 := hkk0.trans' hkq
        clear hkq
        refine hK.out _ _ (HS.out _ hkk1) (fun hHeld => ?_)
        clear hK K
        try simp only [Act.put, List.setIfInBounds_toArray, List.set_cons_zero, List.set_cons_succ]
        refine wpAnyH_ready (rs := [10]) (by kernel_rfl) (by simp) ?_
        refine AllReadyH.cons (o := ?_) (by simp only [List.getElem?_toArray, List.getElem?_cons_succ, List.getElem?_cons_zero]; exact rfl) (fun K hK => ?_) AllReadyH.nil
        go_simp
        refine (HO3.out _).mono ?_
        rintro ev wq2 ⟨rfl, hkq⟩
        have hkk2 : Keep (fun _ => False) V wq2 := hkk1.trans' hkq
        clear hkq
        refine hK.out _ _ (HS.out _ hkk2) (fun hHeld => ?_)
        clear hK K
        try simp only [Act.put, List.setIfInBounds_toArray, List.set_cons_zero, List.set_cons_succ]
        refine wpAnyH_ready (rs := [11]) (by kernel_rfl) (by simp) ?_
        refine AllReadyH.cons (o := ?_) (by simp only [List.getElem?_toArray, List.getElem?_cons_succ, List.getElem?_cons_zero]; exact rfl) (fun K hK => ?_) AllReadyH.nil
        go_simp
        refine (HM.out _ hkk2).mono ?_
        rintro ev wq4 ⟨rfl, hkq⟩
        have hkk4 : Keep (fun _ => False) V wq4 := hkk2.trans' hkq
        clear hkq
        refine hK.out _ _ (HS.out _ hkk4) (fun hHeld => ?_)
        clear hK K
        try simp only [Act.put, List.setIfInBounds_toArray, List.set_cons_zero, List.set_cons_succ]
        refine wpAnyH_take (i := 12) (oi := ?_) (v := ?_) (by simp only [List.getElem?_toArray, List.getElem?_cons_succ, List.getElem?_cons_zero]; exact rfl) (by kernel_rfl) (by kernel_rfl) (by kernel_rfl) (by exact fun _ _ _ h => h) (Or.inl ⟨by rfl, ?_⟩) (by assumption) ?_
        rotate_left
        · (intro w hSw; (try dsimp only at hSw); go_simp; try with_reducible rfl)
        try simp only [Act.put, List.setIfInBounds_toArray, List.set_cons_zero, List.set_cons_succ]
        refine wpAnyH_ready (rs := [13]) (by kernel_rfl) (by simp) ?_
        refine AllReadyH.cons (o := ?_) (by simp only [List.getElem?_toArray, List.getElem?_cons_succ, List.getElem?_cons_zero]; exact rfl) (fun K hK => ?_) AllReadyH.nil
        go_simp
        refine hK.out _ _ (HS.out _ hkk4) (fun hHeld => ?_)
        clear hK K
        try simp only [Act.put, List.setIfInBounds_toArray, List.set_cons_zero, List.set_cons_succ]
        refine wpAnyH_done (by kernel_rfl) ?_ _
        go_wp2_with fail
        go_ret
        exact ⟨rfl, HKZ.out.trans' hkk4⟩
      · rw [HOM.out] at hno
        cases hno
end Go.Proofs.YtifliekahdgobaaGreatDoor
