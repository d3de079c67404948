/-
  PLAIN: a script that may be: its steps are of middling size, its text is not long. Helpers of the claims.
  ScriptBlank: the walk (printed by wip/tools/gen_blank.py). Helpers of the claim.
-/
import Derived.Test.YtifliekahdgobaaGreatDoorBW12ToScr
import Derived.Test.YtifliekahdgobaaGreatDoorBW10ToL4
import Derived.Test.YtifliekahdgobaaGreatDoorBThQToReqM
import Derived.Test.YtifliekahdgobaaGreatDoorBL6ToC2
import Derived.Test.YtifliekahdgobaaGreatDoorBW29ToL5
import Derived.Test.YtifliekahdgobaaGreatDoorBW15ToAD
set_option linter.unusedSimpArgs false
set_option linter.unusedVariables false
namespace Go.Proofs.YtifliekahdgobaaGreatDoor
open Sp

theorem hmost : most = 999999999999999999 := rfl
theorem okOp_mid {x : OpS} (h : okOp x = true) : MidOp x ∧ x.key.length ≤ 40 ∧ x.fin.length ≤ 40 ∧ x.val.length ≤ 40 := by
  have hm := hmost
  unfold okOp at h
  simp only [Bool.and_eq_true, okBytes_iff] at h
  obtain ⟨hk, h⟩ := h
  split at h
  · simp only [Bool.and_eq_true, okBytes_iff, okNum_iff, beq_iff_eq] at h
    obtain ⟨⟨⟨⟨h1, h2⟩, h3⟩, h4⟩, -⟩ := h
    rw [h2]
    exact ⟨⟨by omega, by omega, by rw [h2]; simp, by omega, by omega, by omega, by omega⟩, hk, h1, by simp⟩
  · split at h
    · simp only [Bool.and_eq_true, okBytes_iff, okNum_iff, beq_iff_eq] at h
      obtain ⟨⟨⟨⟨⟨h1, h2⟩, h3⟩, h4⟩, -⟩, -⟩ := h
      rw [h2]
      exact ⟨⟨by omega, by rw [h2]; simp, by omega, by omega, by omega, by omega, by omega⟩, hk, by simp, h1⟩
    · simp only [Bool.and_eq_true, okBytes_iff, okNum_iff, beq_iff_eq] at h
      obtain ⟨⟨⟨⟨⟨⟨h0, h1⟩, h2⟩, h3⟩, h4⟩, -⟩, -⟩ := h
      rw [h2]
      exact ⟨⟨by omega, by omega, by rw [h2]; simp, by omega, by omega, by omega, by omega⟩, hk, h1, by simp⟩
theorem okCmp_mid {x : CmpS} (h : okCmp x = true) : MidCmp x ∧ x.key.length ≤ 40 ∧ x.val.length ≤ 40 := by
  have hm := hmost
  unfold okCmp at h
  simp only [Bool.and_eq_true, okBytes_iff, okNum_iff, okSmall_iff] at h
  obtain ⟨⟨⟨⟨h1, h2⟩, h3⟩, h4⟩, h5⟩ := h
  exact ⟨⟨by omega, by omega, by omega, by omega, by omega, by omega, by omega, by omega⟩, h4, h5⟩
theorem okReq_parts {r : ReqS} (h : okReq r = true) : MidReq r ∧ r.cmps.length ≤ 8 ∧ r.thn.length ≤ 10 ∧ r.els.length ≤ 10 ∧ (∀ x ∈ r.cmps, okCmp x = true) ∧ (∀ x ∈ r.thn, okOp x = true) ∧ (∀ x ∈ r.els, okOp x = true) := by
  have hm := hmost
  unfold okReq okParts at h
  simp only [Bool.and_eq_true, okNum_iff, decide_eq_true_eq, List.all_eq_true] at h
  obtain ⟨⟨⟨⟨⟨⟨⟨⟨h1, h2⟩, h3⟩, h4⟩, h5⟩, h6⟩, h7⟩, h8⟩, h9⟩ := h
  exact ⟨⟨by omega, by omega, by omega, by omega, by omega, by omega, by omega, by omega, by omega, fun x hx => (okCmp_mid (h7 x hx)).1, fun x hx => (okOp_mid (h8 x hx)).1, fun x hx => (okOp_mid (h9 x hx)).1⟩, by omega, by omega, by omega, h7, h8, h9⟩
theorem mid_req_zero : MidReq ReqS.zero := ⟨by decide, by decide, by decide, by decide, by decide, by decide, by decide, by decide, by decide, fun x hx => (by cases hx), fun x hx => (by cases hx), fun x hx => (by cases hx)⟩
theorem mid_watch_zero : MidWatch WatchS.zero := ⟨by decide, by decide, by decide, by decide, by decide, by decide⟩
theorem ok_mid {s : StepS} (h : okStep s = true) : MidStep s := by
  have hm := hmost
  obtain ⟨h0, h1, h2⟩ := (okStep_iff s).1 h
  have hn : -9223372036854775808 ≤ s.node ∧ s.node ≤ 9223372036854775807 := by
    unfold okNode at h1
    split at h1
    · rw [okSmall_iff] at h1; omega
    · rw [beq_iff_eq] at h1; omega
  unfold okBody at h2
  split at h2
  · simp only [Bool.and_eq_true, beq_iff_eq] at h2
    obtain ⟨⟨e1, e2⟩, e3⟩ := h2
    exact ⟨by omega, by omega, hn.1, hn.2, by omega, by omega, by rw [e2]; decide, by rw [e2]; decide, by rw [e2]; exact mid_req_zero, by rw [e3]; exact mid_watch_zero⟩
  · split at h2
    · simp only [Bool.and_eq_true, beq_iff_eq] at h2
      obtain ⟨⟨e1, e2⟩, e3⟩ := h2
      unfold okWatch at e3
      simp only [Bool.and_eq_true, okBytes_iff, okNum_iff] at e3
      obtain ⟨⟨⟨w1, w2⟩, w3⟩, w4⟩ := e3
      exact ⟨by omega, by omega, hn.1, hn.2, by omega, by omega, by rw [e2]; decide, by rw [e2]; decide, by rw [e2]; exact mid_req_zero, ⟨by omega, by omega, by omega, by omega, by omega, by omega⟩⟩
    · split at h2
      · simp only [Bool.and_eq_true, beq_iff_eq] at h2
        obtain ⟨⟨e1, e2⟩, e3⟩ := h2
        have hk : 0 ≤ s.req.kind ∧ s.req.kind ≤ 3 := by
          unfold okReq at e2
          simp only [Bool.and_eq_true, decide_eq_true_eq] at e2
          omega
        exact ⟨by omega, by omega, hn.1, hn.2, by omega, by omega, by omega, by omega, (okReq_parts e2).1, by rw [e3]; exact mid_watch_zero⟩
      · simp only [Bool.and_eq_true, beq_iff_eq, okNum_iff] at h2
        obtain ⟨⟨e1, e2⟩, e3⟩ := h2
        exact ⟨by omega, by omega, hn.1, hn.2, by omega, by omega, by rw [e2]; decide, by rw [e2]; decide, by rw [e2]; exact mid_req_zero, by rw [e3]; exact mid_watch_zero⟩
/-! ### how long a text is -/
theorem hex_short {s : Str} (h : s.length ≤ 40) : (hexText s).length ≤ 100 := by have := hexText_len s; omega
theorem mark_short {ls : Str} (h : ls.length ≤ 4) (is : List Bool) : (markText ls is).length ≤ 100 := by have := markText_len ls is; omega
theorem op_short {x : OpS} (h : okOp x = true) : (∀ y ∈ Sp.opWords x, y.length ≤ 100) ∧ (Sp.opWords x).length ≤ 6 := by
  obtain ⟨-, h1, h2, h3⟩ := okOp_mid h
  unfold Sp.opWords
  split
  · refine ⟨?_, by simp⟩
    simp only [List.mem_cons, List.mem_nil_iff, or_false]
    rintro y (rfl | rfl | rfl | rfl | rfl | rfl)
    · decide
    · exact hex_short h1
    · exact hex_short h2
    · exact itoa_len _
    · exact itoa_len _
    · exact mark_short (by decide) _
  · split
    · refine ⟨?_, by simp⟩
      simp only [List.mem_cons, List.mem_nil_iff, or_false]
      rintro y (rfl | rfl | rfl | rfl)
      · decide
      · exact hex_short h1
      · exact hex_short h3
      · exact mark_short (by decide) _
    · refine ⟨?_, by simp⟩
      simp only [List.mem_cons, List.mem_nil_iff, or_false]
      rintro y (rfl | rfl | rfl | rfl)
      · decide
      · exact hex_short h1
      · exact hex_short h2
      · exact mark_short (by decide) _
theorem cmp_short {x : CmpS} (h : okCmp x = true) : (∀ y ∈ cmpWords x, y.length ≤ 100) ∧ (cmpWords x).length ≤ 6 := by
  obtain ⟨-, h1, h2⟩ := okCmp_mid h
  unfold cmpWords
  refine ⟨?_, by simp⟩
  simp only [List.mem_cons, List.mem_nil_iff, or_false]
  rintro y (rfl | rfl | rfl | rfl | rfl | rfl)
  · decide
  · exact itoa_len _
  · exact itoa_len _
  · exact itoa_len _
  · exact hex_short h1
  · exact hex_short h2
theorem flat_short {α : Type} (f : α → List Str) (n : Nat) : ∀ l : List α, (∀ x ∈ l, (∀ y ∈ f x, y.length ≤ 100) ∧ (f x).length ≤ n) → (∀ y ∈ l.flatMap f, y.length ≤ 100) ∧ (l.flatMap f).length ≤ l.length * n
  | [], _ => by simp
  | x :: l, h => by
    obtain ⟨h1, h2⟩ := flat_short f n l (fun x hx => h x (.tail _ hx))
    obtain ⟨h3, h4⟩ := h x (.head _)
    rw [List.flatMap_cons]
    refine ⟨fun y hy => ?_, ?_⟩
    · rcases List.mem_append.1 hy with hy | hy
      · exact h3 y hy
      · exact h1 y hy
    · rw [List.length_append, List.length_cons, Nat.add_mul, Nat.one_mul]
      omega
theorem req_short {r : ReqS} (h : okReq r = true) : (∀ y ∈ reqWords r, y.length ≤ 100) ∧ (reqWords r).length ≤ 200 := by
  obtain ⟨-, h1, h2, h3, h4, h5, h6⟩ := okReq_parts h
  have hk : 0 ≤ r.kind ∧ r.kind ≤ 3 := by
    unfold okReq at h
    simp only [Bool.and_eq_true, decide_eq_true_eq] at h
    omega
  have a1 := flat_short cmpWords 6 r.cmps (fun x hx => cmp_short (h4 x hx))
  have a2 := flat_short (fun x => wThen :: Sp.opWords x) 7 r.thn (fun x hx => ⟨fun y hy => by
    rcases List.mem_cons.1 hy with rfl | hy
    · decide
    · exact (op_short (h5 x hx)).1 y hy, by have := (op_short (h5 x hx)).2; simp only [List.length_cons]; omega⟩)
  have a3 := flat_short (fun x => wElse :: Sp.opWords x) 7 r.els (fun x hx => ⟨fun y hy => by
    rcases List.mem_cons.1 hy with rfl | hy
    · decide
    · exact (op_short (h6 x hx)).1 y hy, by have := (op_short (h6 x hx)).2; simp only [List.length_cons]; omega⟩)
  unfold reqWords
  refine ⟨fun y hy => ?_, ?_⟩
  · rcases List.mem_append.1 hy with hy | hy
    · rcases List.mem_append.1 hy with hy | hy
      · rcases List.mem_append.1 hy with hy | hy
        · simp only [List.mem_cons, List.mem_nil_iff, or_false] at hy
          rcases hy with rfl | rfl | rfl | rfl | rfl
          · have hall : ∀ k < 4, (kinds.getD k []).length ≤ 100 := by decide
            exact hall _ (by omega)
          · exact itoa_len _
          · exact itoa_len _
          · exact mark_short (by decide) _
          · exact itoa_len _
        · exact a1.1 y hy
      · exact a2.1 y hy
    · exact a3.1 y hy
  · simp only [List.length_append, List.length_cons, List.length_nil]
    omega
theorem step_short {s : StepS} (h : okStep s = true) : (stepText s).length ≤ 30000 := by
  obtain ⟨h0, h1, h2⟩ := (okStep_iff s).1 h
  have hb : (∀ y ∈ bodyWords s, y.length ≤ 100) ∧ (bodyWords s).length ≤ 200 := by
    unfold bodyWords
    unfold okBody at h2
    by_cases k1 : s.kind = 11
    · rw [if_pos k1]; simp
    · rw [if_neg k1] at h2 ⊢
      by_cases k2 : s.kind = 8
      · rw [if_pos k2] at h2 ⊢
        simp only [Bool.and_eq_true] at h2
        obtain ⟨-, e3⟩ := h2
        unfold okWatch at e3
        simp only [Bool.and_eq_true, okBytes_iff] at e3
        obtain ⟨⟨⟨w1, w2⟩, w3⟩, w4⟩ := e3
        unfold watchWords
        refine ⟨?_, by simp⟩
        simp only [List.mem_cons, List.mem_nil_iff, or_false]
        rintro y (rfl | rfl | rfl | rfl | rfl)
        · exact itoa_len _
        · exact hex_short w2
        · exact hex_short w3
        · exact itoa_len _
        · exact mark_short (by decide) _
      · rw [if_neg k2] at h2 ⊢
        by_cases k3 : s.kind = 7
        · rw [if_pos k3] at h2 ⊢
          simp only [Bool.and_eq_true] at h2
          exact req_short h2.1.2
        · rw [if_neg k3]
          refine ⟨?_, by simp⟩
          simp only [List.mem_cons, List.mem_nil_iff, or_false]
          rintro y rfl
          exact itoa_len _
  have hn : (∀ y ∈ nodeWords s, y.length ≤ 100) ∧ (nodeWords s).length ≤ 1 := by
    unfold nodeWords
    split
    · refine ⟨?_, by simp⟩
      simp only [List.mem_cons, List.mem_nil_iff, or_false]
      rintro y rfl
      exact itoa_len _
    · simp
  have hw : ∀ y ∈ stepWords s, y.length ≤ 100 := by
    unfold stepWords
    intro y hy
    rcases List.mem_cons.1 hy with rfl | hy
    · have hall : ∀ k < 12, (names.getD k []).length ≤ 100 := by decide
      exact hall _ (by omega)
    · rcases List.mem_append.1 hy with hy | hy
      · exact hn.1 y hy
      · exact hb.1 y hy
  have hl : (stepWords s).length ≤ 202 := by
    unfold stepWords
    simp only [List.length_cons, List.length_append]
    omega
  have := join_len (stepWords s) 100 hw
  unfold stepText
  omega
theorem lines_short : ∀ l : List StepS, l.all okStep = true → (l.flatMap stepLine).length ≤ l.length * 30001
  | [], _ => by simp
  | x :: l, h => by
    simp only [List.all_cons, Bool.and_eq_true] at h
    have h1 := lines_short l h.2
    have h2 := step_short h.1
    rw [List.flatMap_cons, List.length_append, List.length_cons, Nat.add_mul, Nat.one_mul]
    have h3 : (stepLine x).length = (stepText x).length + 1 := by simp [stepLine]
    omega
theorem text_short {s : ScriptS} (h : okScript s = true) : (text s).length ≤ 1000000000 := by
  obtain ⟨-, h1, h2⟩ := (okScript_iff s).1 h
  have h3 := lines_short s.steps h2
  have h4 := itoa_len s.nodes
  unfold text nodesLine
  simp only [List.length_append, List.length_cons, List.length_nil]
  have : wNodes.length = 5 := rfl
  omega
end Go.Proofs.YtifliekahdgobaaGreatDoor
namespace Go.Proofs.YtifliekahdgobaaGreatDoor
open Go.RowKit Sp

theorem lines_walk (w : World) : Calls Tryz.prog 18 #[] w fun e w' => e = .returned (.slice (some ⟨w.heap.size, 0, none⟩) 18 18) ∧ w' = w.alloc (.cells (lines18.map fun y => sv y).toArray 9 (0, 0)) := by
  go_enter Tryz.func18, Tryz.ntmps18
  go_wp2_with fail
  go_ret
  exact ⟨rfl, rfl⟩
/-- a byte in memory -/
def byteEnc (c : UInt8) : Array Value := #[.int .u8 c.toNat]
theorem row_byte {w : World} {a : Option Addr} {c : Nat} {l : List UInt8} (h : RowRead byteEnc 1 w (.slice a l.length c) l) (k : Nat) (hk : k < l.length) : ∃ b o, a = some ⟨b, o, none⟩ ∧ w.cell? ⟨b, o + k, none⟩ = some (.int .u8 l[k].toNat) := by
  obtain ⟨b, o, h1, h2⟩ := h.at k hk
  have := h2 0 _ rfl
  rw [Nat.mul_one, Nat.add_zero] at this
  exact ⟨b, o, h1, this⟩
theorem line_cell (i : Nat) (h : i < 18) : (lines18.map fun y => sv y).toArray[i]? = some (sv (lineAt i)) := by
  rw [List.getElem?_toArray, List.getElem?_map]
  unfold lineAt
  rw [List.getD_eq_getElem?_getD, List.getElem?_eq_getElem (show i < lines18.length from h)]
  rfl
theorem gap_cell (i : Nat) (h : i < 5) : (gaps5.map fun y => sv y).toArray[i]? = some (sv (gapAt i)) := by
  rw [List.getElem?_toArray, List.getElem?_map]
  unfold gapAt
  rw [List.getD_eq_getElem?_getD, List.getElem?_eq_getElem (show i < gaps5.length from h)]
  rfl
theorem end_cell (i : Nat) (h : i < 4) : (ends4.map fun y => sv y).toArray[i]? = some (sv (endAt i)) := by
  rw [List.getElem?_toArray, List.getElem?_map]
  unfold endAt
  rw [List.getD_eq_getElem?_getD, List.getElem?_eq_getElem (show i < ends4.length from h)]
  rfl
theorem gap_len : ∀ i, i < 5 → (gapAt i).length ≤ 3 := by decide
theorem end_len : ∀ i, i < 4 → (endAt i).length ≤ 10 := by decide
/-- strings.ReplaceAll of one of the lines -/
theorem replace_line (i g : Nat) (hi : i < 18) (hg : g < 5) (w : World) (hG : Glob w) : Calls Tryz.prog 19 #[sv (lineAt i), sv [32], sv (gapAt g)] w (Gives (sv (Lib.replaceAll (lineAt i) [32] (gapAt g))) w) := by
  obtain ⟨m, hm⟩ := hG.ml
  have h1 := (line_ok18 hi).2.2
  have h2 := gap_len g hg
  have hc : Lib.countB ⟨(lineAt i).toArray⟩ ⟨([32] : Str).toArray⟩ ≤ 1000 := by
    have : ∀ i < 18, Lib.countB ⟨(lineAt i).toArray⟩ ⟨([32] : Str).toArray⟩ ≤ 1000 := by decide +kernel
    exact this i hi
  have hmul : Lib.countB ⟨(lineAt i).toArray⟩ ⟨([32] : Str).toArray⟩ * (gapAt g).length ≤ 1000 * 3 := Nat.mul_le_mul hc h2
  refine (Tryz.strings_ReplaceAll ⟨(lineAt i).toArray⟩ ⟨([32] : Str).toArray⟩ ⟨(gapAt g).toArray⟩ m w (by show (lineAt i).toArray.size < _; simp; omega) hm (by decide) (by
    show (lineAt i).toArray.size + _ * (gapAt g).toArray.size ≤ _
    simp only [List.size_toArray]
    omega)).mono ?_
  rintro e w' ⟨rfl, hb⟩
  exact ⟨rfl, Keep.of_below hb (Nat.le_refl _)⟩
/-- what the loop has at hand -/
structure BLoop (W : World) (LB GB EB : Nat) (wr : World) : Prop where
  keep : Keep (fun _ => False) W wr
  lines : wr.heap[LB]? = some (.cells (lines18.map fun y => sv y).toArray 9 (0, 0))
  gaps : wr.heap[GB]? = some (.cells (gaps5.map fun y => sv y).toArray 50 (0, 0))
  ends : wr.heap[EB]? = some (.cells (ends4.map fun y => sv y).toArray 51 (0, 0))
theorem BLoop.far {W wr wr' : World} {LB GB EB : Nat} (h : BLoop W LB GB EB wr) (hk : Keep (fun _ => False) wr wr') : BLoop W LB GB EB wr' :=
  ⟨h.keep.trans' hk, hk.at' h.lines (fun e => e), hk.at' h.gaps (fun e => e), hk.at' h.ends (fun e => e)⟩
theorem ok_lens_b {s : ScriptS} (h : okScript s = true) : (∀ y ∈ s.steps, LensOk y) ∧ s.steps.length ≤ 1000000 := by
  have hok := (okScript_iff s).1 h
  exact ⟨fun y hy => ok_lens (List.all_eq_true.1 hok.2.2 y hy), by omega⟩
attribute [local go_sem ↓] execOp_add9
set_option maxRecDepth 100000 in
set_option maxHeartbeats 12800000 in
theorem blank_any (l bt : List UInt8) (v1 v2 : Value) (w : World) (hg : Glob w) (hl : (l.length : Int) ≤ 9223372036854775807) (hbl : (bt.length : Int) ≤ 9223372036854775807) (h1 : RowRead byteEnc 1 w v1 l) (h2 : RowRead byteEnc 1 w v2 bt) :
    Calls Tryz.prog 6 #[v1, v2] w (Tells true w) := by
  obtain ⟨a1, q1, rfl⟩ := row_slice h1
  obtain ⟨a2, q2, rfl⟩ := row_slice h2
  have HG := Lib.hid hg
  have HR1 := Lib.hid (fun w' (hk : Keep (fun _ => False) w w') => h1.keep hk (fun _ _ _ _ _ e => e))
  have HR2 := Lib.hid (fun w' (hk : Keep (fun _ => False) w w') => h2.keep hk (fun _ _ _ _ _ e => e))
  have H13 := Lib.hid (works_any w hg)
  clear h1 h2 hg
  go_enter Tryz.func6, Tryz.ntmps6
  go_wp2_with fail
  refine H13.out.mono ?_
  rintro e w1 ⟨rfl, hk1⟩
  have HK1 := Lib.hid hk1
  clear hk1 H13
  go_wp2_with fail
  refine (lines_walk w1).mono ?_
  rintro e w2 ⟨rfl, hw2⟩
  have hbL : w2.heap[w1.heap.size]? = some (.cells (lines18.map fun y => sv y).toArray 9 (0, 0)) := by rw [hw2]; exact block_new _ _
  have hk2 : Keep (fun _ => False) w1 w2 := by rw [hw2]; exact (Keep.refl _ w1).alloc _
  generalize w1.heap.size = LB at *
  have HBL := Lib.hid hbL
  have HK2 := Lib.hid (HK1.out.trans' hk2)
  clear hw2 hbL hk2 HK1
  go_upto_region 6 with fail
  obtain ⟨W, hW⟩ : ∃ W : World, W = (w2.alloc (.cells #[.string ⟨#[32]⟩, .string ⟨#[32, 32]⟩, .string ⟨#[9]⟩, .string ⟨#[32, 9, 32]⟩, .string ⟨#[32, 32, 32]⟩] 50)).alloc (.cells #[.string ⟨#[10]⟩, .string ⟨#[32, 35, 32, 120, 10]⟩, .string ⟨#[10, 10]⟩, .string ⟨#[9, 10, 35, 32, 121, 10]⟩] 51) := ⟨_, rfl⟩
  obtain ⟨GB, hGB⟩ : ∃ b, b = w2.heap.size := ⟨_, rfl⟩
  have hkW : Keep (fun _ => False) w2 W := by rw [hW]; exact ((Keep.refl _ _).alloc _).alloc _
  have hbG : W.heap[GB]? = some (.cells (gaps5.map fun y => sv y).toArray 50 (0, 0)) := by rw [hW, hGB]; exact block_alloc (block_new _ _) _
  have hbE : W.heap[GB + 1]? = some (.cells (ends4.map fun y => sv y).toArray 51 (0, 0)) := by rw [hW, hGB]; exact block_new' _ _ (by simp)
  rw [← hW, ← hGB]
  have HKW := Lib.hid (HK2.out.trans' hkW)
  have HBLP := Lib.hid (show BLoop W LB GB (GB + 1) W from ⟨Keep.refl _ _, hkW.at' HBL.out (fun e => e), hbG, hbE⟩)
  clear hW hGB hkW hbG hbE HBL HK2
  have s1 : sv headOne = sv (oneText l 0) := by simp [oneText]
  have s2 : sv headTwo = sv (twoText l bt 0) := by simp [twoText]
  unfold headOne at s1
  unfold headTwo at s2
  go_wp2_with fail
  go_loopw [8, 9, 10] (fun v8 v9 v10 wr => ∃ k : Nat, k ≤ l.length ∧ k ≤ 40 ∧ v10 = .int .i64 k ∧ v8 = sv (oneText l k) ∧ v9 = sv (twoText l bt k) ∧ Hid (BLoop W LB GB (GB + 1) wr)) (fun _ _ v10 _ => 40 - (intOf v10).toNat)
  case atStart => exact ⟨0, Nat.zero_le _, Nat.zero_le _, rfl, s1, s2, HBLP⟩
  case round =>
    obtain ⟨k, hkl, hk40, rfl, rfl, rfl, HBR⟩ := hrel
    clear s1 s2
    have hl1 := oneText_len l k
    have hl2 := twoText_len l bt k
    by_cases hlt : k < l.length ∧ k < 40
    · obtain ⟨hlt, hl4⟩ := hlt
      obtain ⟨b, o, hb, hc⟩ := row_byte (HR1.out _ (HKW.out.trans' HBR.out.keep)) k hlt
      subst hb
      have hlt' : (k : Int) < (l.length : Int) := by omega
      have hlt4 : (k : Int) < 40 := by omega
      have hk0 : (0 : Int) ≤ (k : Int) := by omega
      have hix : (l[k].toNat : Int) % 18 = (idx l k : Int) := by
        unfold idx
        rw [List.getD_eq_getElem?_getD, List.getElem?_eq_getElem hlt]
        simp
      have hi18 := idx_lt l k
      have st1 := oneText_step l k
      have st2 := twoText_step l bt k
      have hgl := gO_lt bt[k]?
      have hel := eO_lt bt[k]?
      have hline : wr.cell? ⟨LB, idx l k, none⟩ = some (sv (lineAt (idx l k))) := (cell_of_block HBR.out.lines _).trans (line_cell _ hi18)
      have hll := (line_ok18 hi18).2.2
      have hpl := (piece_ok hi18 hgl hel).2
      have hnn := l[k].toNat_lt
      generalize l[k] = c at *
      have HST1 := Lib.hid st1
      have HST2 := Lib.hid st2
      generalize oneText l k = O at *
      generalize twoText l bt k = T at *
      clear st1 st2
      have hc0 : (0 : Int) ≤ (c.toNat : Int) := by omega
      have hc256 : (c.toNat : Int) < 256 := by omega
      have hi0 : (0 : Int) ≤ (idx l k : Int) := by omega
      have hi18' : (idx l k : Int) < 18 := by omega
      generalize idx l k = ix at *
      have hgap : wr.cell? ⟨GB, gO bt[k]?, none⟩ = some (sv (gapAt (gO bt[k]?))) := (cell_of_block HBR.out.gaps _).trans (gap_cell _ hgl)
      have hend : wr.cell? ⟨GB + 1, eO bt[k]?, none⟩ = some (sv (endAt (eO bt[k]?))) := (cell_of_block HBR.out.ends _).trans (end_cell _ hel)
      have h19 := fun (hG : Glob wr) => replace_line ix (gO bt[k]?) hi18 hgl wr hG
      have hg3 := gap_len _ hgl
      have he10 := end_len _ hel
      have hcb : k < bt.length → ∃ (b2 o2 : Nat) (c2 : UInt8), a2 = some ⟨b2, o2, none⟩ ∧ wr.cell? ⟨b2, o2 + k, none⟩ = some (.int .u8 c2.toNat) ∧ (c2.toNat : Int) % 5 = (gO bt[k]? : Int) ∧ (c2.toNat : Int) / 5 % 4 = (eO bt[k]? : Int) := fun hb => by
        obtain ⟨b2, o2, ha2, hc2⟩ := row_byte (HR2.out _ (HKW.out.trans' HBR.out.keep)) k hb
        exact ⟨b2, o2, bt[k], ha2, hc2, by rw [List.getElem?_eq_getElem hb]; simp [gO], by rw [List.getElem?_eq_getElem hb]; simp [eO]⟩
      have hcn : ¬ k < bt.length → gapAt (gO bt[k]?) = [32] ∧ endAt (eO bt[k]?) = [10] := fun hb => by
        rw [List.getElem?_eq_none (by omega)]
        exact ⟨rfl, rfl⟩
      generalize gO bt[k]? = g at *
      generalize eO bt[k]? = q at *
      have HCB := Lib.hid hcb
      have HCN := Lib.hid hcn
      have H19 := Lib.hid (h19 (HG.out.far (HKW.out.trans' HBR.out.keep)))
      have hte : turned ix g q = Lib.replaceAll (lineAt ix) [32] (gapAt g) ++ endAt q := rfl
      rw [hte, List.length_append] at hpl
      rw [hte] at HST2
      clear hcb hcn h19 hte
      generalize Lib.replaceAll (lineAt ix) [32] (gapAt g) = rt at *
      generalize lineAt ix = wl at *
      go_upto_if 47 with fail
      clear hix hline hc
      go_cut [12, 13] from 47 to 62 (fun v12 v13 wx => v12 = sv (gapAt g) ∧ v13 = sv (endAt q) ∧ wx = wr)
      case first =>
        by_cases hb : k < bt.length
        · obtain ⟨b2, o2, c2, ha2, hc2, hm5, hm4⟩ := HCB.out hb
          subst ha2
          have hb' : (k : Int) < (bt.length : Int) := by omega
          have hn2 := c2.toNat_lt
          have hg5' : (g : Int) < 5 := by omega
          have hq4' : (q : Int) < 4 := by omega
          have hg0 : (0 : Int) ≤ (g : Int) := by omega
          have hq0 : (0 : Int) ≤ (q : Int) := by omega
          go_wp2_with fail
          go_meet
          exact ⟨rfl, rfl, rfl⟩
        · obtain ⟨e1, e2⟩ := HCN.out hb
          have hb' : ¬ (k : Int) < (bt.length : Int) := by omega
          go_wp2_with fail
          go_meet
          exact ⟨by rw [e1], by rw [e2], rfl⟩
      case rest =>
        obtain ⟨rfl, rfl, rfl⟩ := hcut
        generalize gapAt g = gp at *
        generalize endAt q = eq at *
        obtain ⟨O1, E1, n1, r1⟩ := add_step O wl (by omega)
        obtain ⟨O2, E2, n2, r2⟩ := add_step O1 ([10] : Str) (by simp only [List.length_cons, List.length_nil]; omega)
        obtain ⟨T1, E3, n3, r3⟩ := add_step T rt (by omega)
        obtain ⟨T2, E4, n4, r4⟩ := add_step T1 eq (by omega)
        clear n1 n2 n3 n4 hgap hend
        go_wp2_with fail
        refine H19.out.mono ?_
        rintro e w4 ⟨rfl, hk4⟩
        have HBN := Lib.hid (HBR.out.far hk4)
        clear hk4
        go_wp2_with fail
        exact ⟨⟨k + 1, by omega, by omega, by go_num, by rw [HST1.out, E2.out, E1.out], by rw [HST2.out, E4.out, E3.out, List.append_assoc], HBN⟩, by simp [intOf]; omega⟩
    · have hmin : min (l.length : Int) 40 = (k : Int) := by omega
      have hpa := blank_one l k hk40
      have hpb := blank_two l bt k hk40
      generalize oneText l k = O at *
      generalize twoText l bt k = T at *
      have hlen := stepsOf_len l k
      generalize stepsOf l k = S at *
      have HPA := Lib.hid hpa
      have HPB := Lib.hid hpb
      have HOK := Lib.hid (parse_ok hpa)
      have H8A := Lib.hid (fun w' (hk : Keep (fun _ => False) W w') => mparse_any O (by omega) w' (HG.out.far (HKW.out.trans' hk)))
      have H8B := Lib.hid (fun w' (hk : Keep (fun _ => False) W w') => mparse_any T (by omega) w' (HG.out.far (HKW.out.trans' hk)))
      have HKR := Lib.hid HBR.out.keep
      have HLEN := Lib.hid hlen
      clear hpa hpb hl1 hl2 hlen HBR HR1 HR2 HBLP
      by_cases hkk : (k : Int) < (l.length : Int)
      · have hk4 : ¬ (k : Int) < 40 := by omega
        clear hlt hkl
        go_wp2_with fail
        refine (H8A.out _ HKR.out).mono ?_
        rintro e u1 ⟨hq1, h1⟩
        rw [HPA.out] at h1
        obtain ⟨va, rfl, hsa⟩ := h1
        obtain ⟨a3, k3, hv3, -⟩ := hsa.slice
        dsimp only at hv3 hsa
        rw [HLEN.out] at hv3
        subst hv3
        have HSA := Lib.hid (StepsRead.of_at hsa)
        have HQ1 := Lib.hid (HKR.out.trans' hq1)
        clear hsa hq1 H8A
        dsimp only
        go_upto_region 18 with fail
        obtain ⟨V1, hV1⟩ : ∃ W : World, W = u1.alloc (.cells #[.int .i64 4, .slice a3 k k3] 24) := ⟨_, rfl⟩
        obtain ⟨b14, hb14⟩ : ∃ b, b = u1.heap.size := ⟨_, rfl⟩
        have hkV1 : Keep (fun _ => False) u1 V1 := by rw [hV1]; exact (Keep.refl _ _).alloc _
        have hbl14 : V1.heap[b14]? = some (.cells #[.int .i64 4, .slice a3 k k3] 24 (0, 0)) := by rw [hV1, hb14]; exact block_new _ _
        rw [← hV1, ← hb14]
        have HSA1 := Lib.hid (HSA.out.far hkV1)
        have HBL14 := Lib.hid hbl14
        have HQ2 := Lib.hid (HQ1.out.trans' hkV1)
        clear hV1 hb14 hkV1 hbl14 HSA
        go_wp2_with fail
        refine (H8B.out _ HQ2.out).mono ?_
        rintro e u2 ⟨hq2, h2⟩
        rw [HPB.out] at h2
        obtain ⟨vb, rfl, hsb⟩ := h2
        obtain ⟨a4, k4, hv4, -⟩ := hsb.slice
        dsimp only at hv4 hsb
        rw [HLEN.out] at hv4
        subst hv4
        have HSB := Lib.hid (StepsRead.of_at hsb)
        have HQ3 := Lib.hid hq2
        clear hsb hq2 H8B
        dsimp only
        go_upto_region 19 with fail
        obtain ⟨V, hV⟩ : ∃ W : World, W = u2.alloc (.cells #[.int .i64 4, .slice a4 k k4] 24) := ⟨_, rfl⟩
        obtain ⟨b16, hb16⟩ : ∃ b, b = u2.heap.size := ⟨_, rfl⟩
        have hkV : Keep (fun _ => False) u2 V := by rw [hV]; exact (Keep.refl _ _).alloc _
        have hbl16 : V.heap[b16]? = some (.cells #[.int .i64 4, .slice a4 k k4] 24 (0, 0)) := by rw [hV, hb16]; exact block_new _ _
        rw [← hV, ← hb16]
        have hk1V : Keep (fun _ => False) V1 V := HQ3.out.trans' hkV
        have HS := Lib.hid (fun w' (hk : Keep (fun _ => False) V w') => (⟨cell_of_block ((hk1V.trans' hk).at' HBL14.out (fun e => e)) 0, cell_of_block ((hk1V.trans' hk).at' HBL14.out (fun e => e)) 1, cell_of_block (hk.at' hbl16 (fun e => e)) 0, cell_of_block (hk.at' hbl16 (fun e => e)) 1⟩ :
          w'.cell? ⟨b14, 0, none⟩ = some (.int .i64 4) ∧ w'.cell? ⟨b14, 1, none⟩ = some (.slice a3 k k3) ∧ w'.cell? ⟨b16, 0, none⟩ = some (.int .i64 4) ∧ w'.cell? ⟨b16, 1, none⟩ = some (.slice a4 k k4)))
        have HO1 := Lib.hid (fun w' => ours_any 4 a3 k k3 w')
        have HO3 := Lib.hid (fun w' => ours_any 4 a4 k k4 w')
        have HM := Lib.hid (fun w' (hk : Keep (fun _ => False) V w') => (rSame_any ⟨4, S⟩ ⟨4, S⟩ _ _ w' (HSA1.out.far (hk1V.trans' hk)) (HSB.out.far (hkV.trans' hk)) (ok_lens_b HOK.out).1 (ok_lens_b HOK.out).2 : Calls Tryz.prog 11 #[.agg #[.int .i64 4, .slice a3 k k3], .agg #[.int .i64 4, .slice a4 k k4]] w' (Tells (decide ((⟨4, S⟩ : ScriptS) = ⟨4, S⟩)) w')))
        have hd : decide ((⟨4, S⟩ : ScriptS) = ⟨4, S⟩) = true := decide_eq_true rfl
        rw [hd] at HM
        have HKZ := Lib.hid (HKW.out.trans' (HQ2.out.trans' hk1V))
        clear hV hb16 hkV hbl16 hk1V HSA1 HSB HQ3 HBL14 hd
        have hkk0 : Keep (fun _ => False) V V.drew := (Keep.refl _ V).drew
        refine wp_region_held_drew (S := fun w' => w'.cell? ⟨b14, 0, none⟩ = some (.int .i64 4) ∧ w'.cell? ⟨b14, 1, none⟩ = some (.slice a3 k k3) ∧ w'.cell? ⟨b16, 0, none⟩ = some (.int .i64 4) ∧ w'.cell? ⟨b16, 1, none⟩ = some (.slice a4 k k4)) (by kernel_rfl) (HS.out _ hkk0) (fun hHeld => ?_)
        refine wpAnyH_take (i := 0) (oi := ?_) (v := ?_) (by simp only [List.getElem?_toArray, List.getElem?_cons_succ, List.getElem?_cons_zero]; exact rfl) (by kernel_rfl) (by kernel_rfl) (by kernel_rfl) (by exact fun _ _ _ h => h) (Or.inl ⟨by rfl, ?_⟩) (by assumption) ?_
        rotate_left
        · (intro w hSw; (try dsimp only at hSw); go_simp; try with_reducible rfl)
        try simp only [Act.put, List.setIfInBounds_toArray, List.set_cons_zero, List.set_cons_succ]
        refine wpAnyH_take (i := 1) (oi := ?_) (v := ?_) (by simp only [List.getElem?_toArray, List.getElem?_cons_succ, List.getElem?_cons_zero]; exact rfl) (by kernel_rfl) (by kernel_rfl) (by kernel_rfl) (by exact fun _ _ _ h => h) (Or.inl ⟨by rfl, ?_⟩) (by assumption) ?_
        rotate_left
        · (intro w hSw; (try dsimp only at hSw); go_simp; try with_reducible rfl)
        try simp only [Act.put, List.setIfInBounds_toArray, List.set_cons_zero, List.set_cons_succ]
        refine wpAnyH_take (i := 2) (oi := ?_) (v := ?_) (by simp only [List.getElem?_toArray, List.getElem?_cons_succ, List.getElem?_cons_zero]; exact rfl) (by kernel_rfl) (by kernel_rfl) (by kernel_rfl) (by exact fun _ _ _ h => h) (Or.inl ⟨by rfl, ?_⟩) (by assumption) ?_
        rotate_left
        · (intro w hSw; (try dsimp only at hSw); go_simp; try with_reducible rfl)
        try simp only [Act.put, List.setIfInBounds_toArray, List.set_cons_zero, List.set_cons_succ]
        refine wpAnyH_take (i := 3) (oi := ?_) (v := ?_) (by simp only [List.getElem?_toArray, List.getElem?_cons_succ, List.getElem?_cons_zero]; exact rfl) (by kernel_rfl) (by kernel_rfl) (by kernel_rfl) (by exact fun _ _ _ h => h) (Or.inl ⟨by rfl, ?_⟩) (by assumption) ?_
        rotate_left
        · (intro w hSw; (try dsimp only at hSw); go_simp; try with_reducible rfl)
        try simp only [Act.put, List.setIfInBounds_toArray, List.set_cons_zero, List.set_cons_succ]
        refine wpAnyH_take (i := 4) (oi := ?_) (v := ?_) (by simp only [List.getElem?_toArray, List.getElem?_cons_succ, List.getElem?_cons_zero]; exact rfl) (by kernel_rfl) (by kernel_rfl) (by kernel_rfl) (by exact fun _ _ _ h => h) (Or.inl ⟨by rfl, ?_⟩) (by assumption) ?_
        rotate_left
        · (intro w hSw; (try dsimp only at hSw); go_simp; try with_reducible rfl)
        try simp only [Act.put, List.setIfInBounds_toArray, List.set_cons_zero, List.set_cons_succ]
        refine wpAnyH_take (i := 5) (oi := ?_) (v := ?_) (by simp only [List.getElem?_toArray, List.getElem?_cons_succ, List.getElem?_cons_zero]; exact rfl) (by kernel_rfl) (by kernel_rfl) (by kernel_rfl) (by exact fun _ _ _ h => h) (Or.inl ⟨by rfl, ?_⟩) (by assumption) ?_
        rotate_left
        · (intro w hSw; (try dsimp only at hSw); go_simp; try with_reducible rfl)
        try simp only [Act.put, List.setIfInBounds_toArray, List.set_cons_zero, List.set_cons_succ]
        refine wpAnyH_take (i := 6) (oi := ?_) (v := ?_) (by simp only [List.getElem?_toArray, List.getElem?_cons_succ, List.getElem?_cons_zero]; exact rfl) (by kernel_rfl) (by kernel_rfl) (by kernel_rfl) (by exact fun _ _ _ h => h) (Or.inl ⟨by rfl, ?_⟩) (by assumption) ?_
        rotate_left
        · (intro w hSw; (try dsimp only at hSw); go_simp; try with_reducible rfl)
        try simp only [Act.put, List.setIfInBounds_toArray, List.set_cons_zero, List.set_cons_succ]
        refine wpAnyH_take (i := 7) (oi := ?_) (v := ?_) (by simp only [List.getElem?_toArray, List.getElem?_cons_succ, List.getElem?_cons_zero]; exact rfl) (by kernel_rfl) (by kernel_rfl) (by kernel_rfl) (by exact fun _ _ _ h => h) (Or.inl ⟨by rfl, ?_⟩) (by assumption) ?_
        rotate_left
        · (intro w hSw; (try dsimp only at hSw); go_simp; try with_reducible rfl)
        try simp only [Act.put, List.setIfInBounds_toArray, List.set_cons_zero, List.set_cons_succ]
        refine wpAnyH_take (i := 9) (oi := ?_) (v := ?_) (by simp only [List.getElem?_toArray, List.getElem?_cons_succ, List.getElem?_cons_zero]; exact rfl) (by kernel_rfl) (by kernel_rfl) (by kernel_rfl) (by exact fun _ _ _ h => h) (Or.inl ⟨by rfl, ?_⟩) (by assumption) ?_
        rotate_left
        · (intro w hSw; (try dsimp only at hSw); go_simp; try with_reducible rfl)
        try simp only [Act.put, List.setIfInBounds_toArray, List.set_cons_zero, List.set_cons_succ]
        refine wpAnyH_ready (rs := [8]) (by kernel_rfl) (by simp) ?_
        refine AllReadyH.cons (o := ?_) (by simp only [List.getElem?_toArray, List.getElem?_cons_succ, List.getElem?_cons_zero]; exact rfl) (fun K hK => ?_) AllReadyH.nil
        go_simp
        refine (HO1.out _).mono ?_
        rintro ev wq1 ⟨rfl, hkq⟩
        have hkk1 : Keep (fun _ => False) V wq1 := hkk0.trans' hkq
        clear hkq
        refine hK.out _ _ (HS.out _ hkk1) (fun hHeld => ?_)
        clear hK K
        try simp only [Act.put, List.setIfInBounds_toArray, List.set_cons_zero, List.set_cons_succ]
        refine wpAnyH_ready (rs := [10]) (by kernel_rfl) (by simp) ?_
        refine AllReadyH.cons (o := ?_) (by simp only [List.getElem?_toArray, List.getElem?_cons_succ, List.getElem?_cons_zero]; exact rfl) (fun K hK => ?_) AllReadyH.nil
        go_simp
        refine (HO3.out _).mono ?_
        rintro ev wq2 ⟨rfl, hkq⟩
        have hkk2 : Keep (fun _ => False) V wq2 := hkk1.trans' hkq
        clear hkq
        refine hK.out _ _ (HS.out _ hkk2) (fun hHeld => ?_)
        clear hK K
        try simp only [Act.put, List.setIfInBounds_toArray, List.set_cons_zero, List.set_cons_succ]
        refine wpAnyH_ready (rs := [11]) (by kernel_rfl) (by simp) ?_
        refine AllReadyH.cons (o := ?_) (by simp only [List.getElem?_toArray, List.getElem?_cons_succ, List.getElem?_cons_zero]; exact rfl) (fun K hK => ?_) AllReadyH.nil
        go_simp
        refine (HM.out _ hkk2).mono ?_
        rintro ev wq3 ⟨rfl, hkq⟩
        have hkk3 : Keep (fun _ => False) V wq3 := hkk2.trans' hkq
        clear hkq
        refine hK.out _ _ (HS.out _ hkk3) (fun hHeld => ?_)
        clear hK K
        try simp only [Act.put, List.setIfInBounds_toArray, List.set_cons_zero, List.set_cons_succ]
        refine wpAnyH_take (i := 12) (oi := ?_) (v := ?_) (by simp only [List.getElem?_toArray, List.getElem?_cons_succ, List.getElem?_cons_zero]; exact rfl) (by kernel_rfl) (by kernel_rfl) (by kernel_rfl) (by exact fun _ _ _ h => h) (Or.inl ⟨by rfl, ?_⟩) (by assumption) ?_
        rotate_left
        · (intro w hSw; (try dsimp only at hSw); go_simp; try with_reducible rfl)
        try simp only [Act.put, List.setIfInBounds_toArray, List.set_cons_zero, List.set_cons_succ]
        refine wpAnyH_take (i := 13) (oi := ?_) (v := ?_) (by simp only [List.getElem?_toArray, List.getElem?_cons_succ, List.getElem?_cons_zero]; exact rfl) (by kernel_rfl) (by kernel_rfl) (by kernel_rfl) (by exact fun _ _ _ h => h) (Or.inl ⟨by rfl, ?_⟩) (by assumption) ?_
        rotate_left
        · (intro w hSw; (try dsimp only at hSw); go_simp; try with_reducible rfl)
        try simp only [Act.put, List.setIfInBounds_toArray, List.set_cons_zero, List.set_cons_succ]
        refine wpAnyH_take (i := 14) (oi := ?_) (v := ?_) (by simp only [List.getElem?_toArray, List.getElem?_cons_succ, List.getElem?_cons_zero]; exact rfl) (by kernel_rfl) (by kernel_rfl) (by kernel_rfl) (by exact fun _ _ _ h => h) (Or.inl ⟨by rfl, ?_⟩) (by assumption) ?_
        rotate_left
        · (intro w hSw; (try dsimp only at hSw); go_simp; try with_reducible rfl)
        try simp only [Act.put, List.setIfInBounds_toArray, List.set_cons_zero, List.set_cons_succ]
        refine wpAnyH_take (i := 15) (oi := ?_) (v := ?_) (by simp only [List.getElem?_toArray, List.getElem?_cons_succ, List.getElem?_cons_zero]; exact rfl) (by kernel_rfl) (by kernel_rfl) (by kernel_rfl) (by exact fun _ _ _ h => h) (Or.inl ⟨by rfl, ?_⟩) (by assumption) ?_
        rotate_left
        · (intro w hSw; (try dsimp only at hSw); go_simp; try with_reducible rfl)
        try simp only [Act.put, List.setIfInBounds_toArray, List.set_cons_zero, List.set_cons_succ]
        refine wpAnyH_take (i := 16) (oi := ?_) (v := ?_) (by simp only [List.getElem?_toArray, List.getElem?_cons_succ, List.getElem?_cons_zero]; exact rfl) (by kernel_rfl) (by kernel_rfl) (by kernel_rfl) (by exact fun _ _ _ h => h) (Or.inl ⟨by rfl, ?_⟩) (by assumption) ?_
        rotate_left
        · (intro w hSw; (try dsimp only at hSw); go_simp; try with_reducible rfl)
        try simp only [Act.put, List.setIfInBounds_toArray, List.set_cons_zero, List.set_cons_succ]
        refine wpAnyH_take (i := 17) (oi := ?_) (v := ?_) (by simp only [List.getElem?_toArray, List.getElem?_cons_succ, List.getElem?_cons_zero]; exact rfl) (by kernel_rfl) (by kernel_rfl) (by kernel_rfl) (by exact fun _ _ _ h => h) (Or.inl ⟨by rfl, ?_⟩) (by assumption) ?_
        rotate_left
        · (intro w hSw; (try dsimp only at hSw); go_simp; try with_reducible rfl)
        try simp only [Act.put, List.setIfInBounds_toArray, List.set_cons_zero, List.set_cons_succ]
        refine wpAnyH_take (i := 18) (oi := ?_) (v := ?_) (by simp only [List.getElem?_toArray, List.getElem?_cons_succ, List.getElem?_cons_zero]; exact rfl) (by kernel_rfl) (by kernel_rfl) (by kernel_rfl) (by exact fun _ _ _ h => h) (Or.inl ⟨by rfl, ?_⟩) (by assumption) ?_
        rotate_left
        · (intro w hSw; (try dsimp only at hSw); go_simp; try with_reducible rfl)
        try simp only [Act.put, List.setIfInBounds_toArray, List.set_cons_zero, List.set_cons_succ]
        refine wpAnyH_take (i := 19) (oi := ?_) (v := ?_) (by simp only [List.getElem?_toArray, List.getElem?_cons_succ, List.getElem?_cons_zero]; exact rfl) (by kernel_rfl) (by kernel_rfl) (by kernel_rfl) (by exact fun _ _ _ h => h) (Or.inl ⟨by rfl, ?_⟩) (by assumption) ?_
        rotate_left
        · (intro w hSw; (try dsimp only at hSw); go_simp; try with_reducible rfl)
        try simp only [Act.put, List.setIfInBounds_toArray, List.set_cons_zero, List.set_cons_succ]
        refine wpAnyH_take (i := 20) (oi := ?_) (v := ?_) (by simp only [List.getElem?_toArray, List.getElem?_cons_succ, List.getElem?_cons_zero]; exact rfl) (by kernel_rfl) (by kernel_rfl) (by kernel_rfl) (by exact fun _ _ _ h => h) (Or.inl ⟨by rfl, ?_⟩) (by assumption) ?_
        rotate_left
        · (intro w hSw; (try dsimp only at hSw); go_simp; try with_reducible rfl)
        try simp only [Act.put, List.setIfInBounds_toArray, List.set_cons_zero, List.set_cons_succ]
        refine wpAnyH_take (i := 21) (oi := ?_) (v := ?_) (by simp only [List.getElem?_toArray, List.getElem?_cons_succ, List.getElem?_cons_zero]; exact rfl) (by kernel_rfl) (by kernel_rfl) (by kernel_rfl) (by exact fun _ _ _ h => h) (Or.inl ⟨by rfl, ?_⟩) (by assumption) ?_
        rotate_left
        · (intro w hSw; (try dsimp only at hSw); go_simp; try with_reducible rfl)
        try simp only [Act.put, List.setIfInBounds_toArray, List.set_cons_zero, List.set_cons_succ]
        refine wpAnyH_take (i := 22) (oi := ?_) (v := ?_) (by simp only [List.getElem?_toArray, List.getElem?_cons_succ, List.getElem?_cons_zero]; exact rfl) (by kernel_rfl) (by kernel_rfl) (by kernel_rfl) (by exact fun _ _ _ h => h) (Or.inl ⟨by rfl, ?_⟩) (by assumption) ?_
        rotate_left
        · (intro w hSw; (try dsimp only at hSw); go_simp; try with_reducible rfl)
        try simp only [Act.put, List.setIfInBounds_toArray, List.set_cons_zero, List.set_cons_succ]
        refine wpAnyH_done (by kernel_rfl) ?_ _
        go_wp2_with fail
        go_ret
        exact ⟨rfl, HKZ.out.trans' hkk3⟩
      · clear hlt hkl
        go_wp2_with fail
        refine (H8A.out _ HKR.out).mono ?_
        rintro e u1 ⟨hq1, h1⟩
        rw [HPA.out] at h1
        obtain ⟨va, rfl, hsa⟩ := h1
        obtain ⟨a3, k3, hv3, -⟩ := hsa.slice
        dsimp only at hv3 hsa
        rw [HLEN.out] at hv3
        subst hv3
        have HSA := Lib.hid (StepsRead.of_at hsa)
        have HQ1 := Lib.hid (HKR.out.trans' hq1)
        clear hsa hq1 H8A
        dsimp only
        go_upto_region 18 with fail
        obtain ⟨V1, hV1⟩ : ∃ W : World, W = u1.alloc (.cells #[.int .i64 4, .slice a3 k k3] 24) := ⟨_, rfl⟩
        obtain ⟨b14, hb14⟩ : ∃ b, b = u1.heap.size := ⟨_, rfl⟩
        have hkV1 : Keep (fun _ => False) u1 V1 := by rw [hV1]; exact (Keep.refl _ _).alloc _
        have hbl14 : V1.heap[b14]? = some (.cells #[.int .i64 4, .slice a3 k k3] 24 (0, 0)) := by rw [hV1, hb14]; exact block_new _ _
        rw [← hV1, ← hb14]
        have HSA1 := Lib.hid (HSA.out.far hkV1)
        have HBL14 := Lib.hid hbl14
        have HQ2 := Lib.hid (HQ1.out.trans' hkV1)
        clear hV1 hb14 hkV1 hbl14 HSA
        go_wp2_with fail
        refine (H8B.out _ HQ2.out).mono ?_
        rintro e u2 ⟨hq2, h2⟩
        rw [HPB.out] at h2
        obtain ⟨vb, rfl, hsb⟩ := h2
        obtain ⟨a4, k4, hv4, -⟩ := hsb.slice
        dsimp only at hv4 hsb
        rw [HLEN.out] at hv4
        subst hv4
        have HSB := Lib.hid (StepsRead.of_at hsb)
        have HQ3 := Lib.hid hq2
        clear hsb hq2 H8B
        dsimp only
        go_upto_region 19 with fail
        obtain ⟨V, hV⟩ : ∃ W : World, W = u2.alloc (.cells #[.int .i64 4, .slice a4 k k4] 24) := ⟨_, rfl⟩
        obtain ⟨b16, hb16⟩ : ∃ b, b = u2.heap.size := ⟨_, rfl⟩
        have hkV : Keep (fun _ => False) u2 V := by rw [hV]; exact (Keep.refl _ _).alloc _
        have hbl16 : V.heap[b16]? = some (.cells #[.int .i64 4, .slice a4 k k4] 24 (0, 0)) := by rw [hV, hb16]; exact block_new _ _
        rw [← hV, ← hb16]
        have hk1V : Keep (fun _ => False) V1 V := HQ3.out.trans' hkV
        have HS := Lib.hid (fun w' (hk : Keep (fun _ => False) V w') => (⟨cell_of_block ((hk1V.trans' hk).at' HBL14.out (fun e => e)) 0, cell_of_block ((hk1V.trans' hk).at' HBL14.out (fun e => e)) 1, cell_of_block (hk.at' hbl16 (fun e => e)) 0, cell_of_block (hk.at' hbl16 (fun e => e)) 1⟩ :
          w'.cell? ⟨b14, 0, none⟩ = some (.int .i64 4) ∧ w'.cell? ⟨b14, 1, none⟩ = some (.slice a3 k k3) ∧ w'.cell? ⟨b16, 0, none⟩ = some (.int .i64 4) ∧ w'.cell? ⟨b16, 1, none⟩ = some (.slice a4 k k4)))
        have HO1 := Lib.hid (fun w' => ours_any 4 a3 k k3 w')
        have HO3 := Lib.hid (fun w' => ours_any 4 a4 k k4 w')
        have HM := Lib.hid (fun w' (hk : Keep (fun _ => False) V w') => (rSame_any ⟨4, S⟩ ⟨4, S⟩ _ _ w' (HSA1.out.far (hk1V.trans' hk)) (HSB.out.far (hkV.trans' hk)) (ok_lens_b HOK.out).1 (ok_lens_b HOK.out).2 : Calls Tryz.prog 11 #[.agg #[.int .i64 4, .slice a3 k k3], .agg #[.int .i64 4, .slice a4 k k4]] w' (Tells (decide ((⟨4, S⟩ : ScriptS) = ⟨4, S⟩)) w')))
        have hd : decide ((⟨4, S⟩ : ScriptS) = ⟨4, S⟩) = true := decide_eq_true rfl
        rw [hd] at HM
        have HKZ := Lib.hid (HKW.out.trans' (HQ2.out.trans' hk1V))
        clear hV hb16 hkV hbl16 hk1V HSA1 HSB HQ3 HBL14 hd
        have hkk0 : Keep (fun _ => False) V V.drew := (Keep.refl _ V).drew
        refine wp_region_held_drew (S := fun w' => w'.cell? ⟨b14, 0, none⟩ = some (.int .i64 4) ∧ w'.cell? ⟨b14, 1, none⟩ = some (.slice a3 k k3) ∧ w'.cell? ⟨b16, 0, none⟩ = some (.int .i64 4) ∧ w'.cell? ⟨b16, 1, none⟩ = some (.slice a4 k k4)) (by kernel_rfl) (HS.out _ hkk0) (fun hHeld => ?_)
        refine wpAnyH_take (i := 0) (oi := ?_) (v := ?_) (by simp only [List.getElem?_toArray, List.getElem?_cons_succ, List.getElem?_cons_zero]; exact rfl) (by kernel_rfl) (by kernel_rfl) (by kernel_rfl) (by exact fun _ _ _ h => h) (Or.inl ⟨by rfl, ?_⟩) (by assumption) ?_
        rotate_left
        · (intro w hSw; (try dsimp only at hSw); go_simp; try with_reducible rfl)
        try simp only [Act.put, List.setIfInBounds_toArray, List.set_cons_zero, List.set_cons_succ]
        refine wpAnyH_take (i := 1) (oi := ?_) (v := ?_) (by simp only [List.getElem?_toArray, List.getElem?_cons_succ, List.getElem?_cons_zero]; exact rfl) (by kernel_rfl) (by kernel_rfl) (by kernel_rfl) (by exact fun _ _ _ h => h) (Or.inl ⟨by rfl, ?_⟩) (by assumption) ?_
        rotate_left
        · (intro w hSw; (try dsimp only at hSw); go_simp; try with_reducible rfl)
        try simp only [Act.put, List.setIfInBounds_toArray, List.set_cons_zero, List.set_cons_succ]
        refine wpAnyH_take (i := 2) (oi := ?_) (v := ?_) (by simp only [List.getElem?_toArray, List.getElem?_cons_succ, List.getElem?_cons_zero]; exact rfl) (by kernel_rfl) (by kernel_rfl) (by kernel_rfl) (by exact fun _ _ _ h => h) (Or.inl ⟨by rfl, ?_⟩) (by assumption) ?_
        rotate_left
        · (intro w hSw; (try dsimp only at hSw); go_simp; try with_reducible rfl)
        try simp only [Act.put, List.setIfInBounds_toArray, List.set_cons_zero, List.set_cons_succ]
        refine wpAnyH_take (i := 3) (oi := ?_) (v := ?_) (by simp only [List.getElem?_toArray, List.getElem?_cons_succ, List.getElem?_cons_zero]; exact rfl) (by kernel_rfl) (by kernel_rfl) (by kernel_rfl) (by exact fun _ _ _ h => h) (Or.inl ⟨by rfl, ?_⟩) (by assumption) ?_
        rotate_left
        · (intro w hSw; (try dsimp only at hSw); go_simp; try with_reducible rfl)
        try simp only [Act.put, List.setIfInBounds_toArray, List.set_cons_zero, List.set_cons_succ]
        refine wpAnyH_take (i := 4) (oi := ?_) (v := ?_) (by simp only [List.getElem?_toArray, List.getElem?_cons_succ, List.getElem?_cons_zero]; exact rfl) (by kernel_rfl) (by kernel_rfl) (by kernel_rfl) (by exact fun _ _ _ h => h) (Or.inl ⟨by rfl, ?_⟩) (by assumption) ?_
        rotate_left
        · (intro w hSw; (try dsimp only at hSw); go_simp; try with_reducible rfl)
        try simp only [Act.put, List.setIfInBounds_toArray, List.set_cons_zero, List.set_cons_succ]
        refine wpAnyH_take (i := 5) (oi := ?_) (v := ?_) (by simp only [List.getElem?_toArray, List.getElem?_cons_succ, List.getElem?_cons_zero]; exact rfl) (by kernel_rfl) (by kernel_rfl) (by kernel_rfl) (by exact fun _ _ _ h => h) (Or.inl ⟨by rfl, ?_⟩) (by assumption) ?_
        rotate_left
        · (intro w hSw; (try dsimp only at hSw); go_simp; try with_reducible rfl)
        try simp only [Act.put, List.setIfInBounds_toArray, List.set_cons_zero, List.set_cons_succ]
        refine wpAnyH_take (i := 6) (oi := ?_) (v := ?_) (by simp only [List.getElem?_toArray, List.getElem?_cons_succ, List.getElem?_cons_zero]; exact rfl) (by kernel_rfl) (by kernel_rfl) (by kernel_rfl) (by exact fun _ _ _ h => h) (Or.inl ⟨by rfl, ?_⟩) (by assumption) ?_
        rotate_left
        · (intro w hSw; (try dsimp only at hSw); go_simp; try with_reducible rfl)
        try simp only [Act.put, List.setIfInBounds_toArray, List.set_cons_zero, List.set_cons_succ]
        refine wpAnyH_take (i := 7) (oi := ?_) (v := ?_) (by simp only [List.getElem?_toArray, List.getElem?_cons_succ, List.getElem?_cons_zero]; exact rfl) (by kernel_rfl) (by kernel_rfl) (by kernel_rfl) (by exact fun _ _ _ h => h) (Or.inl ⟨by rfl, ?_⟩) (by assumption) ?_
        rotate_left
        · (intro w hSw; (try dsimp only at hSw); go_simp; try with_reducible rfl)
        try simp only [Act.put, List.setIfInBounds_toArray, List.set_cons_zero, List.set_cons_succ]
        refine wpAnyH_take (i := 9) (oi := ?_) (v := ?_) (by simp only [List.getElem?_toArray, List.getElem?_cons_succ, List.getElem?_cons_zero]; exact rfl) (by kernel_rfl) (by kernel_rfl) (by kernel_rfl) (by exact fun _ _ _ h => h) (Or.inl ⟨by rfl, ?_⟩) (by assumption) ?_
        rotate_left
        · (intro w hSw; (try dsimp only at hSw); go_simp; try with_reducible rfl)
        try simp only [Act.put, List.setIfInBounds_toArray, List.set_cons_zero, List.set_cons_succ]
        refine wpAnyH_ready (rs := [8]) (by kernel_rfl) (by simp) ?_
        refine AllReadyH.cons (o := ?_) (by simp only [List.getElem?_toArray, List.getElem?_cons_succ, List.getElem?_cons_zero]; exact rfl) (fun K hK => ?_) AllReadyH.nil
        go_simp
        refine (HO1.out _).mono ?_
        rintro ev wq1 ⟨rfl, hkq⟩
        have hkk1 : Keep (fun _ => False) V wq1 := hkk0.trans' hkq
        clear hkq
        refine hK.out _ _ (HS.out _ hkk1) (fun hHeld => ?_)
        clear hK K
        try simp only [Act.put, List.setIfInBounds_toArray, List.set_cons_zero, List.set_cons_succ]
        refine wpAnyH_ready (rs := [10]) (by kernel_rfl) (by simp) ?_
        refine AllReadyH.cons (o := ?_) (by simp only [List.getElem?_toArray, List.getElem?_cons_succ, List.getElem?_cons_zero]; exact rfl) (fun K hK => ?_) AllReadyH.nil
        go_simp
        refine (HO3.out _).mono ?_
        rintro ev wq2 ⟨rfl, hkq⟩
        have hkk2 : Keep (fun _ => False) V wq2 := hkk1.trans' hkq
        clear hkq
        refine hK.out _ _ (HS.out _ hkk2) (fun hHeld => ?_)
        clear hK K
        try simp only [Act.put, List.setIfInBounds_toArray, List.set_cons_zero, List.set_cons_succ]
        refine wpAnyH_ready (rs := [11]) (by kernel_rfl) (by simp) ?_
        refine AllReadyH.cons (o := ?_) (by simp only [List.getElem?_toArray, List.getElem?_cons_succ, List.getElem?_cons_zero]; exact rfl) (fun K hK => ?_) AllReadyH.nil
        go_simp
        refine (HM.out _ hkk2).mono ?_
        rintro ev wq3 ⟨rfl, hkq⟩
        have hkk3 : Keep (fun _ => False) V wq3 := hkk2.trans' hkq
        clear hkq
        refine hK.out _ _ (HS.out _ hkk3) (fun hHeld => ?_)
        clear hK K
        try simp only [Act.put, List.setIfInBounds_toArray, List.set_cons_zero, List.set_cons_succ]
        refine wpAnyH_take (i := 12) (oi := ?_) (v := ?_) (by simp only [List.getElem?_toArray, List.getElem?_cons_succ, List.getElem?_cons_zero]; exact rfl) (by kernel_rfl) (by kernel_rfl) (by kernel_rfl) (by exact fun _ _ _ h => h) (Or.inl ⟨by rfl, ?_⟩) (by assumption) ?_
        rotate_left
        · (intro w hSw; (try dsimp only at hSw); go_simp; try with_reducible rfl)
        try simp only [Act.put, List.setIfInBounds_toArray, List.set_cons_zero, List.set_cons_succ]
        refine wpAnyH_take (i := 13) (oi := ?_) (v := ?_) (by simp only [List.getElem?_toArray, List.getElem?_cons_succ, List.getElem?_cons_zero]; exact rfl) (by kernel_rfl) (by kernel_rfl) (by kernel_rfl) (by exact fun _ _ _ h => h) (Or.inl ⟨by rfl, ?_⟩) (by assumption) ?_
        rotate_left
        · (intro w hSw; (try dsimp only at hSw); go_simp; try with_reducible rfl)
        try simp only [Act.put, List.setIfInBounds_toArray, List.set_cons_zero, List.set_cons_succ]
        refine wpAnyH_take (i := 14) (oi := ?_) (v := ?_) (by simp only [List.getElem?_toArray, List.getElem?_cons_succ, List.getElem?_cons_zero]; exact rfl) (by kernel_rfl) (by kernel_rfl) (by kernel_rfl) (by exact fun _ _ _ h => h) (Or.inl ⟨by rfl, ?_⟩) (by assumption) ?_
        rotate_left
        · (intro w hSw; (try dsimp only at hSw); go_simp; try with_reducible rfl)
        try simp only [Act.put, List.setIfInBounds_toArray, List.set_cons_zero, List.set_cons_succ]
        refine wpAnyH_take (i := 15) (oi := ?_) (v := ?_) (by simp only [List.getElem?_toArray, List.getElem?_cons_succ, List.getElem?_cons_zero]; exact rfl) (by kernel_rfl) (by kernel_rfl) (by kernel_rfl) (by exact fun _ _ _ h => h) (Or.inl ⟨by rfl, ?_⟩) (by assumption) ?_
        rotate_left
        · (intro w hSw; (try dsimp only at hSw); go_simp; try with_reducible rfl)
        try simp only [Act.put, List.setIfInBounds_toArray, List.set_cons_zero, List.set_cons_succ]
        refine wpAnyH_take (i := 16) (oi := ?_) (v := ?_) (by simp only [List.getElem?_toArray, List.getElem?_cons_succ, List.getElem?_cons_zero]; exact rfl) (by kernel_rfl) (by kernel_rfl) (by kernel_rfl) (by exact fun _ _ _ h => h) (Or.inl ⟨by rfl, ?_⟩) (by assumption) ?_
        rotate_left
        · (intro w hSw; (try dsimp only at hSw); go_simp; try with_reducible rfl)
        try simp only [Act.put, List.setIfInBounds_toArray, List.set_cons_zero, List.set_cons_succ]
        refine wpAnyH_take (i := 17) (oi := ?_) (v := ?_) (by simp only [List.getElem?_toArray, List.getElem?_cons_succ, List.getElem?_cons_zero]; exact rfl) (by kernel_rfl) (by kernel_rfl) (by kernel_rfl) (by exact fun _ _ _ h => h) (Or.inl ⟨by rfl, ?_⟩) (by assumption) ?_
        rotate_left
        · (intro w hSw; (try dsimp only at hSw); go_simp; try with_reducible rfl)
        try simp only [Act.put, List.setIfInBounds_toArray, List.set_cons_zero, List.set_cons_succ]
        refine wpAnyH_take (i := 18) (oi := ?_) (v := ?_) (by simp only [List.getElem?_toArray, List.getElem?_cons_succ, List.getElem?_cons_zero]; exact rfl) (by kernel_rfl) (by kernel_rfl) (by kernel_rfl) (by exact fun _ _ _ h => h) (Or.inl ⟨by rfl, ?_⟩) (by assumption) ?_
        rotate_left
        · (intro w hSw; (try dsimp only at hSw); go_simp; try with_reducible rfl)
        try simp only [Act.put, List.setIfInBounds_toArray, List.set_cons_zero, List.set_cons_succ]
        refine wpAnyH_take (i := 19) (oi := ?_) (v := ?_) (by simp only [List.getElem?_toArray, List.getElem?_cons_succ, List.getElem?_cons_zero]; exact rfl) (by kernel_rfl) (by kernel_rfl) (by kernel_rfl) (by exact fun _ _ _ h => h) (Or.inl ⟨by rfl, ?_⟩) (by assumption) ?_
        rotate_left
        · (intro w hSw; (try dsimp only at hSw); go_simp; try with_reducible rfl)
        try simp only [Act.put, List.setIfInBounds_toArray, List.set_cons_zero, List.set_cons_succ]
        refine wpAnyH_take (i := 20) (oi := ?_) (v := ?_) (by simp only [List.getElem?_toArray, List.getElem?_cons_succ, List.getElem?_cons_zero]; exact rfl) (by kernel_rfl) (by kernel_rfl) (by kernel_rfl) (by exact fun _ _ _ h => h) (Or.inl ⟨by rfl, ?_⟩) (by assumption) ?_
        rotate_left
        · (intro w hSw; (try dsimp only at hSw); go_simp; try with_reducible rfl)
        try simp only [Act.put, List.setIfInBounds_toArray, List.set_cons_zero, List.set_cons_succ]
        refine wpAnyH_take (i := 21) (oi := ?_) (v := ?_) (by simp only [List.getElem?_toArray, List.getElem?_cons_succ, List.getElem?_cons_zero]; exact rfl) (by kernel_rfl) (by kernel_rfl) (by kernel_rfl) (by exact fun _ _ _ h => h) (Or.inl ⟨by rfl, ?_⟩) (by assumption) ?_
        rotate_left
        · (intro w hSw; (try dsimp only at hSw); go_simp; try with_reducible rfl)
        try simp only [Act.put, List.setIfInBounds_toArray, List.set_cons_zero, List.set_cons_succ]
        refine wpAnyH_take (i := 22) (oi := ?_) (v := ?_) (by simp only [List.getElem?_toArray, List.getElem?_cons_succ, List.getElem?_cons_zero]; exact rfl) (by kernel_rfl) (by kernel_rfl) (by kernel_rfl) (by exact fun _ _ _ h => h) (Or.inl ⟨by rfl, ?_⟩) (by assumption) ?_
        rotate_left
        · (intro w hSw; (try dsimp only at hSw); go_simp; try with_reducible rfl)
        try simp only [Act.put, List.setIfInBounds_toArray, List.set_cons_zero, List.set_cons_succ]
        refine wpAnyH_done (by kernel_rfl) ?_ _
        go_wp2_with fail
        go_ret
        exact ⟨rfl, HKZ.out.trans' hkk3⟩
end Go.Proofs.YtifliekahdgobaaGreatDoor
