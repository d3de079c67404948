/-
  THE WALKS, 11: rule.step. Helpers of the claims.
-/
import Derived.Test.YtifliekahdgobaaGreatDoorKW10ToSB
set_option linter.unusedSimpArgs false
set_option linter.unusedVariables false
namespace Go.Proofs.YtifliekahdgobaaGreatDoor
open Go.RowKit Sp

def readF (k : Nat) : Nat := if k = 11 then 66 else if k = 8 then 68 else if k = 7 then 72 else 76
def writeF (k : Nat) : Nat := if k = 11 then 67 else if k = 8 then 70 else if k = 7 then 74 else 77
def ruleCells (k : Nat) (nb : Bool) (f g : Nat) : Array Value := #[.int .i64 k, .bool nb, .func (.func f) #[] #[], .func (.func g) #[] #[]]
/-- a step's rule -/
def ruleV (k : Nat) : Value := .agg (ruleCells k (decide (2 < k)) (readF k) (writeF k))
/-- what reading a step comes to -/
def GotPStep (lb rb : Nat) (w : World) (o : Option StepS) (e : Ending) (w' : World) : Prop :=
  Keep (fun b => b = lb) w w' ∧ match o with
    | some s => ∃ vc vt ve, e = .returned (.agg (stepCells s vc vt ve)) ∧ ReqIs w' s.req vc vt ve ∧ LineAt w' lb rb []
    | none => e = gaveUp 4
def stepWith (body : Int → List Str → Option (StepS × List Str)) (x : Int × List Str) : Option StepS := (body x.1 x.2).bind fun y => if y.2 = [] then some y.1 else none
theorem stepCells_one (s : StepS) (vc vt ve : Value) (h1 : vc.oneCell' = true) (h2 : vt.oneCell' = true) (h3 : ve.oneCell' = true) : (stepCells s vc vt ve).all (·.oneCell') = true := by
  simp [stepCells, one_int, one_str, one_bool, h1, h2, h3]



set_option maxRecDepth 100000 in
set_option maxHeartbeats 1600000 in
theorem step_76_plain (lb rb k g : Nat) (body : Int → List Str → Option (StepS × List Str))
  (hrd : ∀ (sb : Nat) (n : Int) (ws : List Str) (w : World), LineAt w lb rb ws → rb < w.heap.size → w.heap[sb]? = some (.cells (stepCells (step0 k n) nilS nilS nilS) 63 (0, 0)) → sb ≠ lb → sb ≠ rb →
    Calls Tryz.prog 76 #[.pointer (some ⟨lb, 0, none⟩), .pointer (some ⟨sb, 0, none⟩)] w (GotStep lb rb sb w (body n ws)))
  (ws : List Str) (w : World) (h : LineAt w lb rb ws) (hr : rb < w.heap.size) :
    Calls Tryz.prog 55 #[.agg (ruleCells k false 76 g), .pointer (some ⟨lb, 0, none⟩)] w (GotPStep lb rb w (stepWith body (0, ws))) := by
  have hlt := h.lt
  obtain ⟨po, hpo⟩ : ∃ po, po = (stepWith body (0, ws)) := ⟨_, rfl⟩
  rw [← hpo]
  have HPO := Lib.hid hpo
  clear hpo
  obtain ⟨N, hN⟩ : ∃ N : Nat, N = w.heap.size := ⟨_, rfl⟩
  have hN1 : ¬ N = lb := by omega
  have hN2 : ¬ N + 1 = lb := by omega
  have hN3 : ¬ N + 1 + 1 = lb := by omega
  have hN4 : ¬ N + 1 + 1 = rb := by omega
  obtain ⟨V, hV⟩ : ∃ V : World, V = (((w.alloc (.cells (ruleCells k false 76 g) 88)).alloc (.cells (stepCells .zero nilS nilS nilS) 63)).alloc (.cells (stepCells .zero nilS nilS nilS) 63)) := ⟨_, rfl⟩
  have hb1 : V.heap[N]? = some (.cells (ruleCells k false 76 g) 88 (0, 0)) := by rw [hV, hN]; exact block_alloc (block_alloc (block_new _ _) _) _
  have hb2 : V.heap[N + 1]? = some (.cells (stepCells .zero nilS nilS nilS) 63 (0, 0)) := by rw [hV, hN]; exact block_alloc (block_new' _ _ (by simp)) _
  have hb3 : V.heap[N + 1 + 1]? = some (.cells (stepCells .zero nilS nilS nilS) 63 (0, 0)) := by rw [hV, hN]; exact block_new' _ _ (by simp)
  have hkV : Keep (fun _ => False) w V := by rw [hV]; exact (((Keep.refl _ w).alloc _).alloc _).alloc _
  obtain ⟨W, hW⟩ : ∃ W : World, W = V.setCells (N + 1 + 1) 0 (stepCells (step0 k 0) nilS nilS nilS).toList := ⟨_, rfl⟩
  have hkS : Keep (fun b => b = N + 1 + 1) V W := by rw [hW]; exact (Keep.refl _ V).setCells _ _ _ (.inr rfl)
  have hst : (stT 63 (.pointer (some ⟨N + 1 + 1, 0, none⟩)) (.agg #[.int .i64 k, .int .i64 0, .int .u64 0, .int .i64 0, .int .u64 0, .int .u64 0, .bool false, .slice none 0 0, .slice none 0 0, .slice none 0 0, .int .u64 0, .int .u64 0, .string ⟨#[]⟩, .string ⟨#[]⟩, .int .u64 0, .bool false, .bool false, .bool false, .bool false])).run Tryz.prog
      (((w.alloc (.cells #[.int .i64 k, .bool false, .func (.func 76) #[] #[], .func (.func g) #[] #[]] 88)).alloc (.cells #[.int .i64 0, .int .i64 0, .int .u64 0, .int .i64 0, .int .u64 0, .int .u64 0, .bool false, .slice none 0 0, .slice none 0 0, .slice none 0 0, .int .u64 0, .int .u64 0, .string ⟨#[]⟩, .string ⟨#[]⟩, .int .u64 0, .bool false, .bool false, .bool false, .bool false] 63)).alloc (.cells #[.int .i64 0, .int .i64 0, .int .u64 0, .int .i64 0, .int .u64 0, .int .u64 0, .bool false, .slice none 0 0, .slice none 0 0, .slice none 0 0, .int .u64 0, .int .u64 0, .string ⟨#[]⟩, .string ⟨#[]⟩, .int .u64 0, .bool false, .bool false, .bool false, .bool false] 63)) = .ok .skip W := by
    rw [hW]
    have := run_st63 V (N + 1 + 1) 0 (stepCells (step0 k 0) nilS nilS nilS) (there_of_block hb3 (Nat.le_refl 19)) rfl (stepCells_one _ _ _ _ rfl rfl rfl)
    rw [hV] at this ⊢
    exact this
  have hbr := hkS.at' hb1 (by omega)
  have hc1 : W.cell? ⟨N, 1, none⟩ = some (.bool false) := cell_of_block hbr 1
  have hb2' := hkS.at' hb2 (by omega)
  have hb3' : W.heap[N + 1 + 1]? = some (.cells (stepCells (step0 k 0) nilS nilS nilS) 63 (0, 0)) := by rw [hW]; exact block_setCells_all hb3 _ (by simp [stepCells])
  have hkW : Keep (fun _ => False) w W := hkV.trans hkS (fun b hb e => by omega)
  have hLW := h.keep hkW (fun e => e) (fun e => e)
  have HB2 := Lib.hid hb2'
  have HB3 := Lib.hid hb3'
  have HBR := Lib.hid hbr
  have HLW := Lib.hid hLW
  have HN := Lib.hid hN
  have hNs : w.heap.size = N := hN.symm
  clear hb1 hb2 hb3 hb2' hb3' hV hW hLW hkV hkS h V hbr hN
  go_enter Tryz.func55, Tryz.ntmps55
  unfold ruleCells
  have hHR := hrd (N + 1 + 1) 0 ws W HLW.out (Nat.lt_of_lt_of_le hr hkW.size) HB3.out hN3 hN4
  have HR := Lib.hid hHR
  have HKK := Lib.hid (hkW.mono (M' := fun b => b = lb) (fun _ _ e => e.elim))
  obtain ⟨n, hn⟩ : ∃ n : Int, n = 0 := ⟨_, rfl⟩
  obtain ⟨ws1, hws1⟩ : ∃ x, x = ws := ⟨_, rfl⟩
  have hout : stepWith body (0, ws) = (body n ws1).bind fun y => if y.2 = [] then some y.1 else none := by rw [hn, hws1]; rfl
  have HOUT := Lib.hid hout
  have HNN := Lib.hid hn
  have HWS := Lib.hid hws1
  have hc2 : W.cell? ⟨N, 2, none⟩ = some (.func (.func 76) #[] #[]) := cell_of_block HBR.out 2
  clear hHR hn hws1 hout hrd hkW HLW HBR HB3
  go_wp2_with fail
  rw [← HNN.out, ← HWS.out] at HR
  refine HR.out.mono ?_
  intro e w2 hg
  obtain ⟨hk2, hg2⟩ := hg
  have hkk2 : Keep (fun b => b = lb) w w2 := HKK.out.trans hk2 (fun b hb e => by
    rcases e with e | e
    · exact e
    · have := HN.out
      omega)
  rcases hp2 : body n ws1 with _ | ⟨st, r⟩
  · rw [hp2] at hg2
    subst hg2
    refine ⟨rfl, hkk2, ?_⟩
    rw [HPO.out, HOUT.out, hp2]
    exact rfl
  rw [hp2] at hg2
  obtain ⟨rfl, hl2, vc, vt, ve, hs2, hr2⟩ := hg2
  have HP2 := Lib.hid hp2
  have hb2 := hk2.at' HB2.out (show ¬ (N + 1 = lb ∨ N + 1 = N + 1 + 1) by omega)
  obtain ⟨off, cc, hl3, hl4⟩ := hl2
  have hcl := cell_of_one hl3
  have HL2 := Lib.hid (show LineAt w2 lb rb r from ⟨off, cc, hl3, hl4⟩)
  clear hl3 hl4 hp2
  by_cases hr0 : r = []
  · subst hr0
    simp only [List.length_nil] at hcl
    obtain ⟨a1, c1, rfl, -⟩ := ownsRow_len hr2.1
    obtain ⟨a2, c2, rfl, -⟩ := ownsRow_len hr2.2.1
    obtain ⟨a3, c3, rfl, -⟩ := ownsRow_len hr2.2.2
    obtain ⟨cs, hcs⟩ : ∃ cs, cs = stepCells st (.slice a1 st.req.cmps.length c1) (.slice a2 st.req.thn.length c2) (.slice a3 st.req.els.length c3) := ⟨_, rfl⟩
    rw [← hcs] at hs2
    have hsz : cs.size = 19 := by rw [hcs]; rfl
    have h1 : cs.all (·.oneCell') = true := by rw [hcs]; exact stepCells_one _ _ _ _ rfl rfl rfl
    have hld := run_ld63 w2 (N + 1 + 1) 0 cs hsz (range_of_block hs2)
    have hst2 := run_st63 w2 (N + 1) 0 cs (there_of_block hb2 (Nat.le_refl 19)) hsz h1
    have HB := Lib.hid hb2
    have HRR := Lib.hid hr2
    have HCS := Lib.hid hcs
    clear hs2 hb2 hr2 hcs
    go_wp2_with fail
    refine (must_ok _ _).mono ?_
    rintro e w' ⟨rfl, rfl⟩
    go_wp2_with fail
    have hb3 := block_setCells_all HB.out cs.toList (by simp [hsz, stepCells])
    rw [Array.toArray_toList] at hb3
    (try simp only [Exit.inBlock, Exit.then])
    refine bodyPost_ret (v := .agg cs) ?_ rfl ?_
    · exact results_block (n := 19) rfl Tryz.underlying63 rfl info63 _ _ (N + 1) cs 63 (0, 0) rfl hsz hb3
    have hkF : Keep (fun b => b = N + 1) w2 (w2.setCells (N + 1) 0 cs.toList) := (Keep.refl (fun b => b = N + 1) w2).setCells _ _ _ (.inr rfl)
    have hty : ∀ {v : Value} {base e size n : Nat} {xs : List Value}, w2.ownsRow base e size v n xs → e ≠ 63 → (w2.setCells (N + 1) 0 cs.toList).ownsRow base e size v n xs := fun h hne => ownsRow_keep h hkF (fun g cur hg hc e => by
      subst e
      rw [HB.out] at hc
      injection hc with e2
      injection e2 with e3 e4
      exact hne e4.symm)
    rw [HPO.out, HOUT.out, HP2.out, Option.bind_some, if_pos rfl]
    exact ⟨hkk2.setCells _ _ _ (.inl (by have := HN.out; omega)), .slice a1 st.req.cmps.length c1, .slice a2 st.req.thn.length c2, .slice a3 st.req.els.length c3, by rw [HCS.out], ⟨hty HRR.out.1 (by decide), hty HRR.out.2.1 (by decide), hty HRR.out.2.2 (by decide)⟩, HL2.out.keep hkF (fun e => by omega) (fun e => by omega)⟩
  · have hne : (r.length : Int) ≠ 0 := by
      have := List.length_pos_iff.2 hr0
      omega
    have hbe : ((r.length : Int) == 0) = false := by simpa using hr0
    clear hs2 hb2 hr2
    go_wp2_with fail
    refine (must_no _ _).mono ?_
    rintro e w' ⟨rfl, rfl⟩
    refine ⟨rfl, hkk2, ?_⟩
    rw [HPO.out, HOUT.out, HP2.out, Option.bind_some, if_neg hr0]


set_option maxRecDepth 100000 in
set_option maxHeartbeats 1600000 in
theorem step_66_node (lb rb k g : Nat) (body : Int → List Str → Option (StepS × List Str))
  (hrd : ∀ (sb : Nat) (n : Int) (ws : List Str) (w : World), LineAt w lb rb ws → rb < w.heap.size → w.heap[sb]? = some (.cells (stepCells (step0 k n) nilS nilS nilS) 63 (0, 0)) → sb ≠ lb → sb ≠ rb →
    Calls Tryz.prog 66 #[.pointer (some ⟨lb, 0, none⟩), .pointer (some ⟨sb, 0, none⟩)] w (GotStep lb rb sb w (body n ws)))
  (ws : List Str) (w : World) (h : LineAt w lb rb ws) (hr : rb < w.heap.size) :
    Calls Tryz.prog 55 #[.agg (ruleCells k true 66 g), .pointer (some ⟨lb, 0, none⟩)] w (GotPStep lb rb w ((pnum 9 ws).bind (stepWith body))) := by
  have hlt := h.lt
  obtain ⟨po, hpo⟩ : ∃ po, po = ((pnum 9 ws).bind (stepWith body)) := ⟨_, rfl⟩
  rw [← hpo]
  have HPO := Lib.hid hpo
  clear hpo
  obtain ⟨N, hN⟩ : ∃ N : Nat, N = w.heap.size := ⟨_, rfl⟩
  have hN1 : ¬ N = lb := by omega
  have hN2 : ¬ N + 1 = lb := by omega
  have hN3 : ¬ N + 1 + 1 = lb := by omega
  have hN4 : ¬ N + 1 + 1 = rb := by omega
  obtain ⟨V, hV⟩ : ∃ V : World, V = (((w.alloc (.cells (ruleCells k true 66 g) 88)).alloc (.cells (stepCells .zero nilS nilS nilS) 63)).alloc (.cells (stepCells .zero nilS nilS nilS) 63)) := ⟨_, rfl⟩
  have hb1 : V.heap[N]? = some (.cells (ruleCells k true 66 g) 88 (0, 0)) := by rw [hV, hN]; exact block_alloc (block_alloc (block_new _ _) _) _
  have hb2 : V.heap[N + 1]? = some (.cells (stepCells .zero nilS nilS nilS) 63 (0, 0)) := by rw [hV, hN]; exact block_alloc (block_new' _ _ (by simp)) _
  have hb3 : V.heap[N + 1 + 1]? = some (.cells (stepCells .zero nilS nilS nilS) 63 (0, 0)) := by rw [hV, hN]; exact block_new' _ _ (by simp)
  have hkV : Keep (fun _ => False) w V := by rw [hV]; exact (((Keep.refl _ w).alloc _).alloc _).alloc _
  obtain ⟨W, hW⟩ : ∃ W : World, W = V.setCells (N + 1 + 1) 0 (stepCells (step0 k 0) nilS nilS nilS).toList := ⟨_, rfl⟩
  have hkS : Keep (fun b => b = N + 1 + 1) V W := by rw [hW]; exact (Keep.refl _ V).setCells _ _ _ (.inr rfl)
  have hst : (stT 63 (.pointer (some ⟨N + 1 + 1, 0, none⟩)) (.agg #[.int .i64 k, .int .i64 0, .int .u64 0, .int .i64 0, .int .u64 0, .int .u64 0, .bool false, .slice none 0 0, .slice none 0 0, .slice none 0 0, .int .u64 0, .int .u64 0, .string ⟨#[]⟩, .string ⟨#[]⟩, .int .u64 0, .bool false, .bool false, .bool false, .bool false])).run Tryz.prog
      (((w.alloc (.cells #[.int .i64 k, .bool true, .func (.func 66) #[] #[], .func (.func g) #[] #[]] 88)).alloc (.cells #[.int .i64 0, .int .i64 0, .int .u64 0, .int .i64 0, .int .u64 0, .int .u64 0, .bool false, .slice none 0 0, .slice none 0 0, .slice none 0 0, .int .u64 0, .int .u64 0, .string ⟨#[]⟩, .string ⟨#[]⟩, .int .u64 0, .bool false, .bool false, .bool false, .bool false] 63)).alloc (.cells #[.int .i64 0, .int .i64 0, .int .u64 0, .int .i64 0, .int .u64 0, .int .u64 0, .bool false, .slice none 0 0, .slice none 0 0, .slice none 0 0, .int .u64 0, .int .u64 0, .string ⟨#[]⟩, .string ⟨#[]⟩, .int .u64 0, .bool false, .bool false, .bool false, .bool false] 63)) = .ok .skip W := by
    rw [hW]
    have := run_st63 V (N + 1 + 1) 0 (stepCells (step0 k 0) nilS nilS nilS) (there_of_block hb3 (Nat.le_refl 19)) rfl (stepCells_one _ _ _ _ rfl rfl rfl)
    rw [hV] at this ⊢
    exact this
  have hbr := hkS.at' hb1 (by omega)
  have hc1 : W.cell? ⟨N, 1, none⟩ = some (.bool true) := cell_of_block hbr 1
  have hb2' := hkS.at' hb2 (by omega)
  have hb3' : W.heap[N + 1 + 1]? = some (.cells (stepCells (step0 k 0) nilS nilS nilS) 63 (0, 0)) := by rw [hW]; exact block_setCells_all hb3 _ (by simp [stepCells])
  have hkW : Keep (fun _ => False) w W := hkV.trans hkS (fun b hb e => by omega)
  have hLW := h.keep hkW (fun e => e) (fun e => e)
  have HB2 := Lib.hid hb2'
  have HB3 := Lib.hid hb3'
  have HBR := Lib.hid hbr
  have HLW := Lib.hid hLW
  have HN := Lib.hid hN
  have hNs : w.heap.size = N := hN.symm
  clear hb1 hb2 hb3 hb2' hb3' hV hW hLW hkV hkS h V hbr hN
  go_enter Tryz.func55, Tryz.ntmps55
  unfold ruleCells
  go_wp2_with fail
  refine (small_any lb rb ws W HLW.out).mono ?_
  intro e w1 hg1
  obtain ⟨hk1, hg1⟩ := hg1
  have hkk1 : Keep (fun b => b = lb) w w1 := (hkW.mono (fun _ _ e => e.elim)).trans' hk1
  rcases hp1 : pnum 9 ws with _ | ⟨n, ws1⟩
  · rw [hp1] at hg1
    subst hg1
    refine ⟨rfl, hkk1, ?_⟩
    rw [HPO.out, hp1]
    exact rfl
  rw [hp1] at hg1
  obtain ⟨rfl, hl1⟩ := hg1
  have hb3 := hk1.at' HB3.out hN3
  have hc3 : w1.cell? ⟨N + 1 + 1, 1, none⟩ = some (.int .i64 0) := cell_of_block hb3 1
  have hf3 := free_of_block hb3 1
  have hbr := hk1.at' HBR.out hN1
  obtain ⟨V1, hV1⟩ : ∃ V1, V1 = w1.setCell ⟨N + 1 + 1, 1, none⟩ (.int .i64 n) := ⟨_, rfl⟩
  have hkV1 : Keep (fun b => b = N + 1 + 1) w1 V1 := by rw [hV1]; exact (Keep.refl _ w1).setCell _ _ (.inr rfl)
  have hbV : V1.heap[N + 1 + 1]? = some (.cells (stepCells (step0 k n) nilS nilS nilS) 63 (0, 0)) := by rw [hV1]; exact block_setCell hb3 1 _
  have hc2 : (w1.setCell ⟨N + 1 + 1, 1, none⟩ (.int .i64 n)).cell? ⟨N, 2, none⟩ = some (.func (.func 66) #[] #[]) := by rw [← hV1]; exact cell_of_block (hkV1.at' hbr (by omega)) 2
  have hkkV : Keep (fun b => b = lb) w V1 := hkk1.trans hkV1 (fun b hb e => by have := HN.out; omega)
  have hLV := hl1.keep hkV1 (fun e => by omega) (fun e => by omega)
  have hHR := hrd (N + 1 + 1) n ws1 V1 hLV (Nat.lt_of_lt_of_le hr hkkV.size) hbV hN3 hN4
  have HB2 := Lib.hid (hkV1.at' (hk1.at' HB2.out hN2) (by omega))
  have HKK := Lib.hid hkkV
  have HV1 := Lib.hid hV1
  have hout : (pnum 9 ws).bind (stepWith body) = (body n ws1).bind fun y => if y.2 = [] then some y.1 else none := by rw [hp1]; rfl
  have HOUT := Lib.hid hout
  have HR := Lib.hid hHR
  clear hb3 hbr hbV hLV hHR hl1 hp1 hout hV1 hk1 hkV1 hkk1 hkkV HB3 HBR HLW hrd hkW
  unfold i64v
  go_wp2_with fail
  rw [← HV1.out]
  refine HR.out.mono ?_
  intro e w2 hg
  obtain ⟨hk2, hg2⟩ := hg
  have hkk2 : Keep (fun b => b = lb) w w2 := HKK.out.trans hk2 (fun b hb e => by
    rcases e with e | e
    · exact e
    · have := HN.out
      omega)
  rcases hp2 : body n ws1 with _ | ⟨st, r⟩
  · rw [hp2] at hg2
    subst hg2
    refine ⟨rfl, hkk2, ?_⟩
    rw [HPO.out, HOUT.out, hp2]
    exact rfl
  rw [hp2] at hg2
  obtain ⟨rfl, hl2, vc, vt, ve, hs2, hr2⟩ := hg2
  have HP2 := Lib.hid hp2
  have hb2 := hk2.at' HB2.out (show ¬ (N + 1 = lb ∨ N + 1 = N + 1 + 1) by omega)
  obtain ⟨off, cc, hl3, hl4⟩ := hl2
  have hcl := cell_of_one hl3
  have HL2 := Lib.hid (show LineAt w2 lb rb r from ⟨off, cc, hl3, hl4⟩)
  clear hl3 hl4 hp2
  by_cases hr0 : r = []
  · subst hr0
    simp only [List.length_nil] at hcl
    obtain ⟨a1, c1, rfl, -⟩ := ownsRow_len hr2.1
    obtain ⟨a2, c2, rfl, -⟩ := ownsRow_len hr2.2.1
    obtain ⟨a3, c3, rfl, -⟩ := ownsRow_len hr2.2.2
    obtain ⟨cs, hcs⟩ : ∃ cs, cs = stepCells st (.slice a1 st.req.cmps.length c1) (.slice a2 st.req.thn.length c2) (.slice a3 st.req.els.length c3) := ⟨_, rfl⟩
    rw [← hcs] at hs2
    have hsz : cs.size = 19 := by rw [hcs]; rfl
    have h1 : cs.all (·.oneCell') = true := by rw [hcs]; exact stepCells_one _ _ _ _ rfl rfl rfl
    have hld := run_ld63 w2 (N + 1 + 1) 0 cs hsz (range_of_block hs2)
    have hst2 := run_st63 w2 (N + 1) 0 cs (there_of_block hb2 (Nat.le_refl 19)) hsz h1
    have HB := Lib.hid hb2
    have HRR := Lib.hid hr2
    have HCS := Lib.hid hcs
    clear hs2 hb2 hr2 hcs
    go_wp2_with fail
    refine (must_ok _ _).mono ?_
    rintro e w' ⟨rfl, rfl⟩
    go_wp2_with fail
    have hb3 := block_setCells_all HB.out cs.toList (by simp [hsz, stepCells])
    rw [Array.toArray_toList] at hb3
    (try simp only [Exit.inBlock, Exit.then])
    refine bodyPost_ret (v := .agg cs) ?_ rfl ?_
    · exact results_block (n := 19) rfl Tryz.underlying63 rfl info63 _ _ (N + 1) cs 63 (0, 0) rfl hsz hb3
    have hkF : Keep (fun b => b = N + 1) w2 (w2.setCells (N + 1) 0 cs.toList) := (Keep.refl (fun b => b = N + 1) w2).setCells _ _ _ (.inr rfl)
    have hty : ∀ {v : Value} {base e size n : Nat} {xs : List Value}, w2.ownsRow base e size v n xs → e ≠ 63 → (w2.setCells (N + 1) 0 cs.toList).ownsRow base e size v n xs := fun h hne => ownsRow_keep h hkF (fun g cur hg hc e => by
      subst e
      rw [HB.out] at hc
      injection hc with e2
      injection e2 with e3 e4
      exact hne e4.symm)
    rw [HPO.out, HOUT.out, HP2.out, Option.bind_some, if_pos rfl]
    exact ⟨hkk2.setCells _ _ _ (.inl (by have := HN.out; omega)), .slice a1 st.req.cmps.length c1, .slice a2 st.req.thn.length c2, .slice a3 st.req.els.length c3, by rw [HCS.out], ⟨hty HRR.out.1 (by decide), hty HRR.out.2.1 (by decide), hty HRR.out.2.2 (by decide)⟩, HL2.out.keep hkF (fun e => by omega) (fun e => by omega)⟩
  · have hne : (r.length : Int) ≠ 0 := by
      have := List.length_pos_iff.2 hr0
      omega
    have hbe : ((r.length : Int) == 0) = false := by simpa using hr0
    clear hs2 hb2 hr2
    go_wp2_with fail
    refine (must_no _ _).mono ?_
    rintro e w' ⟨rfl, rfl⟩
    refine ⟨rfl, hkk2, ?_⟩
    rw [HPO.out, HOUT.out, HP2.out, Option.bind_some, if_neg hr0]


set_option maxRecDepth 100000 in
set_option maxHeartbeats 1600000 in
theorem step_68_node (lb rb k g : Nat) (body : Int → List Str → Option (StepS × List Str))
  (hrd : ∀ (sb : Nat) (n : Int) (ws : List Str) (w : World), LineAt w lb rb ws → rb < w.heap.size → w.heap[sb]? = some (.cells (stepCells (step0 k n) nilS nilS nilS) 63 (0, 0)) → sb ≠ lb → sb ≠ rb →
    Calls Tryz.prog 68 #[.pointer (some ⟨lb, 0, none⟩), .pointer (some ⟨sb, 0, none⟩)] w (GotStep lb rb sb w (body n ws)))
  (ws : List Str) (w : World) (h : LineAt w lb rb ws) (hr : rb < w.heap.size) :
    Calls Tryz.prog 55 #[.agg (ruleCells k true 68 g), .pointer (some ⟨lb, 0, none⟩)] w (GotPStep lb rb w ((pnum 9 ws).bind (stepWith body))) := by
  have hlt := h.lt
  obtain ⟨po, hpo⟩ : ∃ po, po = ((pnum 9 ws).bind (stepWith body)) := ⟨_, rfl⟩
  rw [← hpo]
  have HPO := Lib.hid hpo
  clear hpo
  obtain ⟨N, hN⟩ : ∃ N : Nat, N = w.heap.size := ⟨_, rfl⟩
  have hN1 : ¬ N = lb := by omega
  have hN2 : ¬ N + 1 = lb := by omega
  have hN3 : ¬ N + 1 + 1 = lb := by omega
  have hN4 : ¬ N + 1 + 1 = rb := by omega
  obtain ⟨V, hV⟩ : ∃ V : World, V = (((w.alloc (.cells (ruleCells k true 68 g) 88)).alloc (.cells (stepCells .zero nilS nilS nilS) 63)).alloc (.cells (stepCells .zero nilS nilS nilS) 63)) := ⟨_, rfl⟩
  have hb1 : V.heap[N]? = some (.cells (ruleCells k true 68 g) 88 (0, 0)) := by rw [hV, hN]; exact block_alloc (block_alloc (block_new _ _) _) _
  have hb2 : V.heap[N + 1]? = some (.cells (stepCells .zero nilS nilS nilS) 63 (0, 0)) := by rw [hV, hN]; exact block_alloc (block_new' _ _ (by simp)) _
  have hb3 : V.heap[N + 1 + 1]? = some (.cells (stepCells .zero nilS nilS nilS) 63 (0, 0)) := by rw [hV, hN]; exact block_new' _ _ (by simp)
  have hkV : Keep (fun _ => False) w V := by rw [hV]; exact (((Keep.refl _ w).alloc _).alloc _).alloc _
  obtain ⟨W, hW⟩ : ∃ W : World, W = V.setCells (N + 1 + 1) 0 (stepCells (step0 k 0) nilS nilS nilS).toList := ⟨_, rfl⟩
  have hkS : Keep (fun b => b = N + 1 + 1) V W := by rw [hW]; exact (Keep.refl _ V).setCells _ _ _ (.inr rfl)
  have hst : (stT 63 (.pointer (some ⟨N + 1 + 1, 0, none⟩)) (.agg #[.int .i64 k, .int .i64 0, .int .u64 0, .int .i64 0, .int .u64 0, .int .u64 0, .bool false, .slice none 0 0, .slice none 0 0, .slice none 0 0, .int .u64 0, .int .u64 0, .string ⟨#[]⟩, .string ⟨#[]⟩, .int .u64 0, .bool false, .bool false, .bool false, .bool false])).run Tryz.prog
      (((w.alloc (.cells #[.int .i64 k, .bool true, .func (.func 68) #[] #[], .func (.func g) #[] #[]] 88)).alloc (.cells #[.int .i64 0, .int .i64 0, .int .u64 0, .int .i64 0, .int .u64 0, .int .u64 0, .bool false, .slice none 0 0, .slice none 0 0, .slice none 0 0, .int .u64 0, .int .u64 0, .string ⟨#[]⟩, .string ⟨#[]⟩, .int .u64 0, .bool false, .bool false, .bool false, .bool false] 63)).alloc (.cells #[.int .i64 0, .int .i64 0, .int .u64 0, .int .i64 0, .int .u64 0, .int .u64 0, .bool false, .slice none 0 0, .slice none 0 0, .slice none 0 0, .int .u64 0, .int .u64 0, .string ⟨#[]⟩, .string ⟨#[]⟩, .int .u64 0, .bool false, .bool false, .bool false, .bool false] 63)) = .ok .skip W := by
    rw [hW]
    have := run_st63 V (N + 1 + 1) 0 (stepCells (step0 k 0) nilS nilS nilS) (there_of_block hb3 (Nat.le_refl 19)) rfl (stepCells_one _ _ _ _ rfl rfl rfl)
    rw [hV] at this ⊢
    exact this
  have hbr := hkS.at' hb1 (by omega)
  have hc1 : W.cell? ⟨N, 1, none⟩ = some (.bool true) := cell_of_block hbr 1
  have hb2' := hkS.at' hb2 (by omega)
  have hb3' : W.heap[N + 1 + 1]? = some (.cells (stepCells (step0 k 0) nilS nilS nilS) 63 (0, 0)) := by rw [hW]; exact block_setCells_all hb3 _ (by simp [stepCells])
  have hkW : Keep (fun _ => False) w W := hkV.trans hkS (fun b hb e => by omega)
  have hLW := h.keep hkW (fun e => e) (fun e => e)
  have HB2 := Lib.hid hb2'
  have HB3 := Lib.hid hb3'
  have HBR := Lib.hid hbr
  have HLW := Lib.hid hLW
  have HN := Lib.hid hN
  have hNs : w.heap.size = N := hN.symm
  clear hb1 hb2 hb3 hb2' hb3' hV hW hLW hkV hkS h V hbr hN
  go_enter Tryz.func55, Tryz.ntmps55
  unfold ruleCells
  go_wp2_with fail
  refine (small_any lb rb ws W HLW.out).mono ?_
  intro e w1 hg1
  obtain ⟨hk1, hg1⟩ := hg1
  have hkk1 : Keep (fun b => b = lb) w w1 := (hkW.mono (fun _ _ e => e.elim)).trans' hk1
  rcases hp1 : pnum 9 ws with _ | ⟨n, ws1⟩
  · rw [hp1] at hg1
    subst hg1
    refine ⟨rfl, hkk1, ?_⟩
    rw [HPO.out, hp1]
    exact rfl
  rw [hp1] at hg1
  obtain ⟨rfl, hl1⟩ := hg1
  have hb3 := hk1.at' HB3.out hN3
  have hc3 : w1.cell? ⟨N + 1 + 1, 1, none⟩ = some (.int .i64 0) := cell_of_block hb3 1
  have hf3 := free_of_block hb3 1
  have hbr := hk1.at' HBR.out hN1
  obtain ⟨V1, hV1⟩ : ∃ V1, V1 = w1.setCell ⟨N + 1 + 1, 1, none⟩ (.int .i64 n) := ⟨_, rfl⟩
  have hkV1 : Keep (fun b => b = N + 1 + 1) w1 V1 := by rw [hV1]; exact (Keep.refl _ w1).setCell _ _ (.inr rfl)
  have hbV : V1.heap[N + 1 + 1]? = some (.cells (stepCells (step0 k n) nilS nilS nilS) 63 (0, 0)) := by rw [hV1]; exact block_setCell hb3 1 _
  have hc2 : (w1.setCell ⟨N + 1 + 1, 1, none⟩ (.int .i64 n)).cell? ⟨N, 2, none⟩ = some (.func (.func 68) #[] #[]) := by rw [← hV1]; exact cell_of_block (hkV1.at' hbr (by omega)) 2
  have hkkV : Keep (fun b => b = lb) w V1 := hkk1.trans hkV1 (fun b hb e => by have := HN.out; omega)
  have hLV := hl1.keep hkV1 (fun e => by omega) (fun e => by omega)
  have hHR := hrd (N + 1 + 1) n ws1 V1 hLV (Nat.lt_of_lt_of_le hr hkkV.size) hbV hN3 hN4
  have HB2 := Lib.hid (hkV1.at' (hk1.at' HB2.out hN2) (by omega))
  have HKK := Lib.hid hkkV
  have HV1 := Lib.hid hV1
  have hout : (pnum 9 ws).bind (stepWith body) = (body n ws1).bind fun y => if y.2 = [] then some y.1 else none := by rw [hp1]; rfl
  have HOUT := Lib.hid hout
  have HR := Lib.hid hHR
  clear hb3 hbr hbV hLV hHR hl1 hp1 hout hV1 hk1 hkV1 hkk1 hkkV HB3 HBR HLW hrd hkW
  unfold i64v
  go_wp2_with fail
  rw [← HV1.out]
  refine HR.out.mono ?_
  intro e w2 hg
  obtain ⟨hk2, hg2⟩ := hg
  have hkk2 : Keep (fun b => b = lb) w w2 := HKK.out.trans hk2 (fun b hb e => by
    rcases e with e | e
    · exact e
    · have := HN.out
      omega)
  rcases hp2 : body n ws1 with _ | ⟨st, r⟩
  · rw [hp2] at hg2
    subst hg2
    refine ⟨rfl, hkk2, ?_⟩
    rw [HPO.out, HOUT.out, hp2]
    exact rfl
  rw [hp2] at hg2
  obtain ⟨rfl, hl2, vc, vt, ve, hs2, hr2⟩ := hg2
  have HP2 := Lib.hid hp2
  have hb2 := hk2.at' HB2.out (show ¬ (N + 1 = lb ∨ N + 1 = N + 1 + 1) by omega)
  obtain ⟨off, cc, hl3, hl4⟩ := hl2
  have hcl := cell_of_one hl3
  have HL2 := Lib.hid (show LineAt w2 lb rb r from ⟨off, cc, hl3, hl4⟩)
  clear hl3 hl4 hp2
  by_cases hr0 : r = []
  · subst hr0
    simp only [List.length_nil] at hcl
    obtain ⟨a1, c1, rfl, -⟩ := ownsRow_len hr2.1
    obtain ⟨a2, c2, rfl, -⟩ := ownsRow_len hr2.2.1
    obtain ⟨a3, c3, rfl, -⟩ := ownsRow_len hr2.2.2
    obtain ⟨cs, hcs⟩ : ∃ cs, cs = stepCells st (.slice a1 st.req.cmps.length c1) (.slice a2 st.req.thn.length c2) (.slice a3 st.req.els.length c3) := ⟨_, rfl⟩
    rw [← hcs] at hs2
    have hsz : cs.size = 19 := by rw [hcs]; rfl
    have h1 : cs.all (·.oneCell') = true := by rw [hcs]; exact stepCells_one _ _ _ _ rfl rfl rfl
    have hld := run_ld63 w2 (N + 1 + 1) 0 cs hsz (range_of_block hs2)
    have hst2 := run_st63 w2 (N + 1) 0 cs (there_of_block hb2 (Nat.le_refl 19)) hsz h1
    have HB := Lib.hid hb2
    have HRR := Lib.hid hr2
    have HCS := Lib.hid hcs
    clear hs2 hb2 hr2 hcs
    go_wp2_with fail
    refine (must_ok _ _).mono ?_
    rintro e w' ⟨rfl, rfl⟩
    go_wp2_with fail
    have hb3 := block_setCells_all HB.out cs.toList (by simp [hsz, stepCells])
    rw [Array.toArray_toList] at hb3
    (try simp only [Exit.inBlock, Exit.then])
    refine bodyPost_ret (v := .agg cs) ?_ rfl ?_
    · exact results_block (n := 19) rfl Tryz.underlying63 rfl info63 _ _ (N + 1) cs 63 (0, 0) rfl hsz hb3
    have hkF : Keep (fun b => b = N + 1) w2 (w2.setCells (N + 1) 0 cs.toList) := (Keep.refl (fun b => b = N + 1) w2).setCells _ _ _ (.inr rfl)
    have hty : ∀ {v : Value} {base e size n : Nat} {xs : List Value}, w2.ownsRow base e size v n xs → e ≠ 63 → (w2.setCells (N + 1) 0 cs.toList).ownsRow base e size v n xs := fun h hne => ownsRow_keep h hkF (fun g cur hg hc e => by
      subst e
      rw [HB.out] at hc
      injection hc with e2
      injection e2 with e3 e4
      exact hne e4.symm)
    rw [HPO.out, HOUT.out, HP2.out, Option.bind_some, if_pos rfl]
    exact ⟨hkk2.setCells _ _ _ (.inl (by have := HN.out; omega)), .slice a1 st.req.cmps.length c1, .slice a2 st.req.thn.length c2, .slice a3 st.req.els.length c3, by rw [HCS.out], ⟨hty HRR.out.1 (by decide), hty HRR.out.2.1 (by decide), hty HRR.out.2.2 (by decide)⟩, HL2.out.keep hkF (fun e => by omega) (fun e => by omega)⟩
  · have hne : (r.length : Int) ≠ 0 := by
      have := List.length_pos_iff.2 hr0
      omega
    have hbe : ((r.length : Int) == 0) = false := by simpa using hr0
    clear hs2 hb2 hr2
    go_wp2_with fail
    refine (must_no _ _).mono ?_
    rintro e w' ⟨rfl, rfl⟩
    refine ⟨rfl, hkk2, ?_⟩
    rw [HPO.out, HOUT.out, HP2.out, Option.bind_some, if_neg hr0]


set_option maxRecDepth 100000 in
set_option maxHeartbeats 1600000 in
theorem step_72_node (lb rb k g : Nat) (body : Int → List Str → Option (StepS × List Str))
  (hrd : ∀ (sb : Nat) (n : Int) (ws : List Str) (w : World), LineAt w lb rb ws → rb < w.heap.size → w.heap[sb]? = some (.cells (stepCells (step0 k n) nilS nilS nilS) 63 (0, 0)) → sb ≠ lb → sb ≠ rb →
    Calls Tryz.prog 72 #[.pointer (some ⟨lb, 0, none⟩), .pointer (some ⟨sb, 0, none⟩)] w (GotStep lb rb sb w (body n ws)))
  (ws : List Str) (w : World) (h : LineAt w lb rb ws) (hr : rb < w.heap.size) :
    Calls Tryz.prog 55 #[.agg (ruleCells k true 72 g), .pointer (some ⟨lb, 0, none⟩)] w (GotPStep lb rb w ((pnum 9 ws).bind (stepWith body))) := by
  have hlt := h.lt
  obtain ⟨po, hpo⟩ : ∃ po, po = ((pnum 9 ws).bind (stepWith body)) := ⟨_, rfl⟩
  rw [← hpo]
  have HPO := Lib.hid hpo
  clear hpo
  obtain ⟨N, hN⟩ : ∃ N : Nat, N = w.heap.size := ⟨_, rfl⟩
  have hN1 : ¬ N = lb := by omega
  have hN2 : ¬ N + 1 = lb := by omega
  have hN3 : ¬ N + 1 + 1 = lb := by omega
  have hN4 : ¬ N + 1 + 1 = rb := by omega
  obtain ⟨V, hV⟩ : ∃ V : World, V = (((w.alloc (.cells (ruleCells k true 72 g) 88)).alloc (.cells (stepCells .zero nilS nilS nilS) 63)).alloc (.cells (stepCells .zero nilS nilS nilS) 63)) := ⟨_, rfl⟩
  have hb1 : V.heap[N]? = some (.cells (ruleCells k true 72 g) 88 (0, 0)) := by rw [hV, hN]; exact block_alloc (block_alloc (block_new _ _) _) _
  have hb2 : V.heap[N + 1]? = some (.cells (stepCells .zero nilS nilS nilS) 63 (0, 0)) := by rw [hV, hN]; exact block_alloc (block_new' _ _ (by simp)) _
  have hb3 : V.heap[N + 1 + 1]? = some (.cells (stepCells .zero nilS nilS nilS) 63 (0, 0)) := by rw [hV, hN]; exact block_new' _ _ (by simp)
  have hkV : Keep (fun _ => False) w V := by rw [hV]; exact (((Keep.refl _ w).alloc _).alloc _).alloc _
  obtain ⟨W, hW⟩ : ∃ W : World, W = V.setCells (N + 1 + 1) 0 (stepCells (step0 k 0) nilS nilS nilS).toList := ⟨_, rfl⟩
  have hkS : Keep (fun b => b = N + 1 + 1) V W := by rw [hW]; exact (Keep.refl _ V).setCells _ _ _ (.inr rfl)
  have hst : (stT 63 (.pointer (some ⟨N + 1 + 1, 0, none⟩)) (.agg #[.int .i64 k, .int .i64 0, .int .u64 0, .int .i64 0, .int .u64 0, .int .u64 0, .bool false, .slice none 0 0, .slice none 0 0, .slice none 0 0, .int .u64 0, .int .u64 0, .string ⟨#[]⟩, .string ⟨#[]⟩, .int .u64 0, .bool false, .bool false, .bool false, .bool false])).run Tryz.prog
      (((w.alloc (.cells #[.int .i64 k, .bool true, .func (.func 72) #[] #[], .func (.func g) #[] #[]] 88)).alloc (.cells #[.int .i64 0, .int .i64 0, .int .u64 0, .int .i64 0, .int .u64 0, .int .u64 0, .bool false, .slice none 0 0, .slice none 0 0, .slice none 0 0, .int .u64 0, .int .u64 0, .string ⟨#[]⟩, .string ⟨#[]⟩, .int .u64 0, .bool false, .bool false, .bool false, .bool false] 63)).alloc (.cells #[.int .i64 0, .int .i64 0, .int .u64 0, .int .i64 0, .int .u64 0, .int .u64 0, .bool false, .slice none 0 0, .slice none 0 0, .slice none 0 0, .int .u64 0, .int .u64 0, .string ⟨#[]⟩, .string ⟨#[]⟩, .int .u64 0, .bool false, .bool false, .bool false, .bool false] 63)) = .ok .skip W := by
    rw [hW]
    have := run_st63 V (N + 1 + 1) 0 (stepCells (step0 k 0) nilS nilS nilS) (there_of_block hb3 (Nat.le_refl 19)) rfl (stepCells_one _ _ _ _ rfl rfl rfl)
    rw [hV] at this ⊢
    exact this
  have hbr := hkS.at' hb1 (by omega)
  have hc1 : W.cell? ⟨N, 1, none⟩ = some (.bool true) := cell_of_block hbr 1
  have hb2' := hkS.at' hb2 (by omega)
  have hb3' : W.heap[N + 1 + 1]? = some (.cells (stepCells (step0 k 0) nilS nilS nilS) 63 (0, 0)) := by rw [hW]; exact block_setCells_all hb3 _ (by simp [stepCells])
  have hkW : Keep (fun _ => False) w W := hkV.trans hkS (fun b hb e => by omega)
  have hLW := h.keep hkW (fun e => e) (fun e => e)
  have HB2 := Lib.hid hb2'
  have HB3 := Lib.hid hb3'
  have HBR := Lib.hid hbr
  have HLW := Lib.hid hLW
  have HN := Lib.hid hN
  have hNs : w.heap.size = N := hN.symm
  clear hb1 hb2 hb3 hb2' hb3' hV hW hLW hkV hkS h V hbr hN
  go_enter Tryz.func55, Tryz.ntmps55
  unfold ruleCells
  go_wp2_with fail
  refine (small_any lb rb ws W HLW.out).mono ?_
  intro e w1 hg1
  obtain ⟨hk1, hg1⟩ := hg1
  have hkk1 : Keep (fun b => b = lb) w w1 := (hkW.mono (fun _ _ e => e.elim)).trans' hk1
  rcases hp1 : pnum 9 ws with _ | ⟨n, ws1⟩
  · rw [hp1] at hg1
    subst hg1
    refine ⟨rfl, hkk1, ?_⟩
    rw [HPO.out, hp1]
    exact rfl
  rw [hp1] at hg1
  obtain ⟨rfl, hl1⟩ := hg1
  have hb3 := hk1.at' HB3.out hN3
  have hc3 : w1.cell? ⟨N + 1 + 1, 1, none⟩ = some (.int .i64 0) := cell_of_block hb3 1
  have hf3 := free_of_block hb3 1
  have hbr := hk1.at' HBR.out hN1
  obtain ⟨V1, hV1⟩ : ∃ V1, V1 = w1.setCell ⟨N + 1 + 1, 1, none⟩ (.int .i64 n) := ⟨_, rfl⟩
  have hkV1 : Keep (fun b => b = N + 1 + 1) w1 V1 := by rw [hV1]; exact (Keep.refl _ w1).setCell _ _ (.inr rfl)
  have hbV : V1.heap[N + 1 + 1]? = some (.cells (stepCells (step0 k n) nilS nilS nilS) 63 (0, 0)) := by rw [hV1]; exact block_setCell hb3 1 _
  have hc2 : (w1.setCell ⟨N + 1 + 1, 1, none⟩ (.int .i64 n)).cell? ⟨N, 2, none⟩ = some (.func (.func 72) #[] #[]) := by rw [← hV1]; exact cell_of_block (hkV1.at' hbr (by omega)) 2
  have hkkV : Keep (fun b => b = lb) w V1 := hkk1.trans hkV1 (fun b hb e => by have := HN.out; omega)
  have hLV := hl1.keep hkV1 (fun e => by omega) (fun e => by omega)
  have hHR := hrd (N + 1 + 1) n ws1 V1 hLV (Nat.lt_of_lt_of_le hr hkkV.size) hbV hN3 hN4
  have HB2 := Lib.hid (hkV1.at' (hk1.at' HB2.out hN2) (by omega))
  have HKK := Lib.hid hkkV
  have HV1 := Lib.hid hV1
  have hout : (pnum 9 ws).bind (stepWith body) = (body n ws1).bind fun y => if y.2 = [] then some y.1 else none := by rw [hp1]; rfl
  have HOUT := Lib.hid hout
  have HR := Lib.hid hHR
  clear hb3 hbr hbV hLV hHR hl1 hp1 hout hV1 hk1 hkV1 hkk1 hkkV HB3 HBR HLW hrd hkW
  unfold i64v
  go_wp2_with fail
  rw [← HV1.out]
  refine HR.out.mono ?_
  intro e w2 hg
  obtain ⟨hk2, hg2⟩ := hg
  have hkk2 : Keep (fun b => b = lb) w w2 := HKK.out.trans hk2 (fun b hb e => by
    rcases e with e | e
    · exact e
    · have := HN.out
      omega)
  rcases hp2 : body n ws1 with _ | ⟨st, r⟩
  · rw [hp2] at hg2
    subst hg2
    refine ⟨rfl, hkk2, ?_⟩
    rw [HPO.out, HOUT.out, hp2]
    exact rfl
  rw [hp2] at hg2
  obtain ⟨rfl, hl2, vc, vt, ve, hs2, hr2⟩ := hg2
  have HP2 := Lib.hid hp2
  have hb2 := hk2.at' HB2.out (show ¬ (N + 1 = lb ∨ N + 1 = N + 1 + 1) by omega)
  obtain ⟨off, cc, hl3, hl4⟩ := hl2
  have hcl := cell_of_one hl3
  have HL2 := Lib.hid (show LineAt w2 lb rb r from ⟨off, cc, hl3, hl4⟩)
  clear hl3 hl4 hp2
  by_cases hr0 : r = []
  · subst hr0
    simp only [List.length_nil] at hcl
    obtain ⟨a1, c1, rfl, -⟩ := ownsRow_len hr2.1
    obtain ⟨a2, c2, rfl, -⟩ := ownsRow_len hr2.2.1
    obtain ⟨a3, c3, rfl, -⟩ := ownsRow_len hr2.2.2
    obtain ⟨cs, hcs⟩ : ∃ cs, cs = stepCells st (.slice a1 st.req.cmps.length c1) (.slice a2 st.req.thn.length c2) (.slice a3 st.req.els.length c3) := ⟨_, rfl⟩
    rw [← hcs] at hs2
    have hsz : cs.size = 19 := by rw [hcs]; rfl
    have h1 : cs.all (·.oneCell') = true := by rw [hcs]; exact stepCells_one _ _ _ _ rfl rfl rfl
    have hld := run_ld63 w2 (N + 1 + 1) 0 cs hsz (range_of_block hs2)
    have hst2 := run_st63 w2 (N + 1) 0 cs (there_of_block hb2 (Nat.le_refl 19)) hsz h1
    have HB := Lib.hid hb2
    have HRR := Lib.hid hr2
    have HCS := Lib.hid hcs
    clear hs2 hb2 hr2 hcs
    go_wp2_with fail
    refine (must_ok _ _).mono ?_
    rintro e w' ⟨rfl, rfl⟩
    go_wp2_with fail
    have hb3 := block_setCells_all HB.out cs.toList (by simp [hsz, stepCells])
    rw [Array.toArray_toList] at hb3
    (try simp only [Exit.inBlock, Exit.then])
    refine bodyPost_ret (v := .agg cs) ?_ rfl ?_
    · exact results_block (n := 19) rfl Tryz.underlying63 rfl info63 _ _ (N + 1) cs 63 (0, 0) rfl hsz hb3
    have hkF : Keep (fun b => b = N + 1) w2 (w2.setCells (N + 1) 0 cs.toList) := (Keep.refl (fun b => b = N + 1) w2).setCells _ _ _ (.inr rfl)
    have hty : ∀ {v : Value} {base e size n : Nat} {xs : List Value}, w2.ownsRow base e size v n xs → e ≠ 63 → (w2.setCells (N + 1) 0 cs.toList).ownsRow base e size v n xs := fun h hne => ownsRow_keep h hkF (fun g cur hg hc e => by
      subst e
      rw [HB.out] at hc
      injection hc with e2
      injection e2 with e3 e4
      exact hne e4.symm)
    rw [HPO.out, HOUT.out, HP2.out, Option.bind_some, if_pos rfl]
    exact ⟨hkk2.setCells _ _ _ (.inl (by have := HN.out; omega)), .slice a1 st.req.cmps.length c1, .slice a2 st.req.thn.length c2, .slice a3 st.req.els.length c3, by rw [HCS.out], ⟨hty HRR.out.1 (by decide), hty HRR.out.2.1 (by decide), hty HRR.out.2.2 (by decide)⟩, HL2.out.keep hkF (fun e => by omega) (fun e => by omega)⟩
  · have hne : (r.length : Int) ≠ 0 := by
      have := List.length_pos_iff.2 hr0
      omega
    have hbe : ((r.length : Int) == 0) = false := by simpa using hr0
    clear hs2 hb2 hr2
    go_wp2_with fail
    refine (must_no _ _).mono ?_
    rintro e w' ⟨rfl, rfl⟩
    refine ⟨rfl, hkk2, ?_⟩
    rw [HPO.out, HOUT.out, HP2.out, Option.bind_some, if_neg hr0]


set_option maxRecDepth 100000 in
set_option maxHeartbeats 1600000 in
theorem step_76_node (lb rb k g : Nat) (body : Int → List Str → Option (StepS × List Str))
  (hrd : ∀ (sb : Nat) (n : Int) (ws : List Str) (w : World), LineAt w lb rb ws → rb < w.heap.size → w.heap[sb]? = some (.cells (stepCells (step0 k n) nilS nilS nilS) 63 (0, 0)) → sb ≠ lb → sb ≠ rb →
    Calls Tryz.prog 76 #[.pointer (some ⟨lb, 0, none⟩), .pointer (some ⟨sb, 0, none⟩)] w (GotStep lb rb sb w (body n ws)))
  (ws : List Str) (w : World) (h : LineAt w lb rb ws) (hr : rb < w.heap.size) :
    Calls Tryz.prog 55 #[.agg (ruleCells k true 76 g), .pointer (some ⟨lb, 0, none⟩)] w (GotPStep lb rb w ((pnum 9 ws).bind (stepWith body))) := by
  have hlt := h.lt
  obtain ⟨po, hpo⟩ : ∃ po, po = ((pnum 9 ws).bind (stepWith body)) := ⟨_, rfl⟩
  rw [← hpo]
  have HPO := Lib.hid hpo
  clear hpo
  obtain ⟨N, hN⟩ : ∃ N : Nat, N = w.heap.size := ⟨_, rfl⟩
  have hN1 : ¬ N = lb := by omega
  have hN2 : ¬ N + 1 = lb := by omega
  have hN3 : ¬ N + 1 + 1 = lb := by omega
  have hN4 : ¬ N + 1 + 1 = rb := by omega
  obtain ⟨V, hV⟩ : ∃ V : World, V = (((w.alloc (.cells (ruleCells k true 76 g) 88)).alloc (.cells (stepCells .zero nilS nilS nilS) 63)).alloc (.cells (stepCells .zero nilS nilS nilS) 63)) := ⟨_, rfl⟩
  have hb1 : V.heap[N]? = some (.cells (ruleCells k true 76 g) 88 (0, 0)) := by rw [hV, hN]; exact block_alloc (block_alloc (block_new _ _) _) _
  have hb2 : V.heap[N + 1]? = some (.cells (stepCells .zero nilS nilS nilS) 63 (0, 0)) := by rw [hV, hN]; exact block_alloc (block_new' _ _ (by simp)) _
  have hb3 : V.heap[N + 1 + 1]? = some (.cells (stepCells .zero nilS nilS nilS) 63 (0, 0)) := by rw [hV, hN]; exact block_new' _ _ (by simp)
  have hkV : Keep (fun _ => False) w V := by rw [hV]; exact (((Keep.refl _ w).alloc _).alloc _).alloc _
  obtain ⟨W, hW⟩ : ∃ W : World, W = V.setCells (N + 1 + 1) 0 (stepCells (step0 k 0) nilS nilS nilS).toList := ⟨_, rfl⟩
  have hkS : Keep (fun b => b = N + 1 + 1) V W := by rw [hW]; exact (Keep.refl _ V).setCells _ _ _ (.inr rfl)
  have hst : (stT 63 (.pointer (some ⟨N + 1 + 1, 0, none⟩)) (.agg #[.int .i64 k, .int .i64 0, .int .u64 0, .int .i64 0, .int .u64 0, .int .u64 0, .bool false, .slice none 0 0, .slice none 0 0, .slice none 0 0, .int .u64 0, .int .u64 0, .string ⟨#[]⟩, .string ⟨#[]⟩, .int .u64 0, .bool false, .bool false, .bool false, .bool false])).run Tryz.prog
      (((w.alloc (.cells #[.int .i64 k, .bool true, .func (.func 76) #[] #[], .func (.func g) #[] #[]] 88)).alloc (.cells #[.int .i64 0, .int .i64 0, .int .u64 0, .int .i64 0, .int .u64 0, .int .u64 0, .bool false, .slice none 0 0, .slice none 0 0, .slice none 0 0, .int .u64 0, .int .u64 0, .string ⟨#[]⟩, .string ⟨#[]⟩, .int .u64 0, .bool false, .bool false, .bool false, .bool false] 63)).alloc (.cells #[.int .i64 0, .int .i64 0, .int .u64 0, .int .i64 0, .int .u64 0, .int .u64 0, .bool false, .slice none 0 0, .slice none 0 0, .slice none 0 0, .int .u64 0, .int .u64 0, .string ⟨#[]⟩, .string ⟨#[]⟩, .int .u64 0, .bool false, .bool false, .bool false, .bool false] 63)) = .ok .skip W := by
    rw [hW]
    have := run_st63 V (N + 1 + 1) 0 (stepCells (step0 k 0) nilS nilS nilS) (there_of_block hb3 (Nat.le_refl 19)) rfl (stepCells_one _ _ _ _ rfl rfl rfl)
    rw [hV] at this ⊢
    exact this
  have hbr := hkS.at' hb1 (by omega)
  have hc1 : W.cell? ⟨N, 1, none⟩ = some (.bool true) := cell_of_block hbr 1
  have hb2' := hkS.at' hb2 (by omega)
  have hb3' : W.heap[N + 1 + 1]? = some (.cells (stepCells (step0 k 0) nilS nilS nilS) 63 (0, 0)) := by rw [hW]; exact block_setCells_all hb3 _ (by simp [stepCells])
  have hkW : Keep (fun _ => False) w W := hkV.trans hkS (fun b hb e => by omega)
  have hLW := h.keep hkW (fun e => e) (fun e => e)
  have HB2 := Lib.hid hb2'
  have HB3 := Lib.hid hb3'
  have HBR := Lib.hid hbr
  have HLW := Lib.hid hLW
  have HN := Lib.hid hN
  have hNs : w.heap.size = N := hN.symm
  clear hb1 hb2 hb3 hb2' hb3' hV hW hLW hkV hkS h V hbr hN
  go_enter Tryz.func55, Tryz.ntmps55
  unfold ruleCells
  go_wp2_with fail
  refine (small_any lb rb ws W HLW.out).mono ?_
  intro e w1 hg1
  obtain ⟨hk1, hg1⟩ := hg1
  have hkk1 : Keep (fun b => b = lb) w w1 := (hkW.mono (fun _ _ e => e.elim)).trans' hk1
  rcases hp1 : pnum 9 ws with _ | ⟨n, ws1⟩
  · rw [hp1] at hg1
    subst hg1
    refine ⟨rfl, hkk1, ?_⟩
    rw [HPO.out, hp1]
    exact rfl
  rw [hp1] at hg1
  obtain ⟨rfl, hl1⟩ := hg1
  have hb3 := hk1.at' HB3.out hN3
  have hc3 : w1.cell? ⟨N + 1 + 1, 1, none⟩ = some (.int .i64 0) := cell_of_block hb3 1
  have hf3 := free_of_block hb3 1
  have hbr := hk1.at' HBR.out hN1
  obtain ⟨V1, hV1⟩ : ∃ V1, V1 = w1.setCell ⟨N + 1 + 1, 1, none⟩ (.int .i64 n) := ⟨_, rfl⟩
  have hkV1 : Keep (fun b => b = N + 1 + 1) w1 V1 := by rw [hV1]; exact (Keep.refl _ w1).setCell _ _ (.inr rfl)
  have hbV : V1.heap[N + 1 + 1]? = some (.cells (stepCells (step0 k n) nilS nilS nilS) 63 (0, 0)) := by rw [hV1]; exact block_setCell hb3 1 _
  have hc2 : (w1.setCell ⟨N + 1 + 1, 1, none⟩ (.int .i64 n)).cell? ⟨N, 2, none⟩ = some (.func (.func 76) #[] #[]) := by rw [← hV1]; exact cell_of_block (hkV1.at' hbr (by omega)) 2
  have hkkV : Keep (fun b => b = lb) w V1 := hkk1.trans hkV1 (fun b hb e => by have := HN.out; omega)
  have hLV := hl1.keep hkV1 (fun e => by omega) (fun e => by omega)
  have hHR := hrd (N + 1 + 1) n ws1 V1 hLV (Nat.lt_of_lt_of_le hr hkkV.size) hbV hN3 hN4
  have HB2 := Lib.hid (hkV1.at' (hk1.at' HB2.out hN2) (by omega))
  have HKK := Lib.hid hkkV
  have HV1 := Lib.hid hV1
  have hout : (pnum 9 ws).bind (stepWith body) = (body n ws1).bind fun y => if y.2 = [] then some y.1 else none := by rw [hp1]; rfl
  have HOUT := Lib.hid hout
  have HR := Lib.hid hHR
  clear hb3 hbr hbV hLV hHR hl1 hp1 hout hV1 hk1 hkV1 hkk1 hkkV HB3 HBR HLW hrd hkW
  unfold i64v
  go_wp2_with fail
  rw [← HV1.out]
  refine HR.out.mono ?_
  intro e w2 hg
  obtain ⟨hk2, hg2⟩ := hg
  have hkk2 : Keep (fun b => b = lb) w w2 := HKK.out.trans hk2 (fun b hb e => by
    rcases e with e | e
    · exact e
    · have := HN.out
      omega)
  rcases hp2 : body n ws1 with _ | ⟨st, r⟩
  · rw [hp2] at hg2
    subst hg2
    refine ⟨rfl, hkk2, ?_⟩
    rw [HPO.out, HOUT.out, hp2]
    exact rfl
  rw [hp2] at hg2
  obtain ⟨rfl, hl2, vc, vt, ve, hs2, hr2⟩ := hg2
  have HP2 := Lib.hid hp2
  have hb2 := hk2.at' HB2.out (show ¬ (N + 1 = lb ∨ N + 1 = N + 1 + 1) by omega)
  obtain ⟨off, cc, hl3, hl4⟩ := hl2
  have hcl := cell_of_one hl3
  have HL2 := Lib.hid (show LineAt w2 lb rb r from ⟨off, cc, hl3, hl4⟩)
  clear hl3 hl4 hp2
  by_cases hr0 : r = []
  · subst hr0
    simp only [List.length_nil] at hcl
    obtain ⟨a1, c1, rfl, -⟩ := ownsRow_len hr2.1
    obtain ⟨a2, c2, rfl, -⟩ := ownsRow_len hr2.2.1
    obtain ⟨a3, c3, rfl, -⟩ := ownsRow_len hr2.2.2
    obtain ⟨cs, hcs⟩ : ∃ cs, cs = stepCells st (.slice a1 st.req.cmps.length c1) (.slice a2 st.req.thn.length c2) (.slice a3 st.req.els.length c3) := ⟨_, rfl⟩
    rw [← hcs] at hs2
    have hsz : cs.size = 19 := by rw [hcs]; rfl
    have h1 : cs.all (·.oneCell') = true := by rw [hcs]; exact stepCells_one _ _ _ _ rfl rfl rfl
    have hld := run_ld63 w2 (N + 1 + 1) 0 cs hsz (range_of_block hs2)
    have hst2 := run_st63 w2 (N + 1) 0 cs (there_of_block hb2 (Nat.le_refl 19)) hsz h1
    have HB := Lib.hid hb2
    have HRR := Lib.hid hr2
    have HCS := Lib.hid hcs
    clear hs2 hb2 hr2 hcs
    go_wp2_with fail
    refine (must_ok _ _).mono ?_
    rintro e w' ⟨rfl, rfl⟩
    go_wp2_with fail
    have hb3 := block_setCells_all HB.out cs.toList (by simp [hsz, stepCells])
    rw [Array.toArray_toList] at hb3
    (try simp only [Exit.inBlock, Exit.then])
    refine bodyPost_ret (v := .agg cs) ?_ rfl ?_
    · exact results_block (n := 19) rfl Tryz.underlying63 rfl info63 _ _ (N + 1) cs 63 (0, 0) rfl hsz hb3
    have hkF : Keep (fun b => b = N + 1) w2 (w2.setCells (N + 1) 0 cs.toList) := (Keep.refl (fun b => b = N + 1) w2).setCells _ _ _ (.inr rfl)
    have hty : ∀ {v : Value} {base e size n : Nat} {xs : List Value}, w2.ownsRow base e size v n xs → e ≠ 63 → (w2.setCells (N + 1) 0 cs.toList).ownsRow base e size v n xs := fun h hne => ownsRow_keep h hkF (fun g cur hg hc e => by
      subst e
      rw [HB.out] at hc
      injection hc with e2
      injection e2 with e3 e4
      exact hne e4.symm)
    rw [HPO.out, HOUT.out, HP2.out, Option.bind_some, if_pos rfl]
    exact ⟨hkk2.setCells _ _ _ (.inl (by have := HN.out; omega)), .slice a1 st.req.cmps.length c1, .slice a2 st.req.thn.length c2, .slice a3 st.req.els.length c3, by rw [HCS.out], ⟨hty HRR.out.1 (by decide), hty HRR.out.2.1 (by decide), hty HRR.out.2.2 (by decide)⟩, HL2.out.keep hkF (fun e => by omega) (fun e => by omega)⟩
  · have hne : (r.length : Int) ≠ 0 := by
      have := List.length_pos_iff.2 hr0
      omega
    have hbe : ((r.length : Int) == 0) = false := by simpa using hr0
    clear hs2 hb2 hr2
    go_wp2_with fail
    refine (must_no _ _).mono ?_
    rintro e w' ⟨rfl, rfl⟩
    refine ⟨rfl, hkk2, ?_⟩
    rw [HPO.out, HOUT.out, HP2.out, Option.bind_some, if_neg hr0]

theorem pbody_n {k : Nat} (h1 : k ≠ 11) (h2 : k ≠ 8) (h3 : k ≠ 7) (s : StepS) (ws : List Str) : pbody k s ws = (pnum most ws).bind fun x => some ({ s with n := x.1 }, x.2) := by
  unfold pbody
  rw [if_neg h1, if_neg h2, if_neg h3]
theorem step_any (lb rb k : Nat) (ws : List Str) (w : World) (h : LineAt w lb rb ws) (hr : rb < w.heap.size) :
    Calls Tryz.prog 55 #[ruleV k, .pointer (some ⟨lb, 0, none⟩)] w (GotPStep lb rb w (pstep k ws)) := by
  have hp : pstep k ws = (pnode k ws).bind (stepWith fun n ws => pbody k (step0 k n) ws) := rfl
  rw [hp]
  unfold ruleV
  by_cases h11 : k = 11
  · subst h11
    exact step_66_node lb rb 11 67 _ (fun sb n ws w h _ hs _ _ => defrag_any lb rb sb 11 n ws w h hs) ws w h hr
  by_cases h8 : k = 8
  · subst h8
    exact step_68_node lb rb 8 70 _ (fun sb n ws w h hr hs h1 h2 => watchR_any lb rb sb 8 n ws w h hr hs h1 h2) ws w h hr
  by_cases h7 : k = 7
  · subst h7
    exact step_72_node lb rb 7 74 _ (fun sb n ws w h hr hs h1 h2 => askR_any lb rb sb 7 n ws w h hr hs h1 h2) ws w h hr
  have hf : readF k = 76 := by unfold readF; rw [if_neg h11, if_neg h8, if_neg h7]
  rw [hf]
  have hbody : ∀ (sb : Nat) (n : Int) (ws : List Str) (w : World), LineAt w lb rb ws → rb < w.heap.size → w.heap[sb]? = some (.cells (stepCells (step0 k n) nilS nilS nilS) 63 (0, 0)) → sb ≠ lb → sb ≠ rb →
      Calls Tryz.prog 76 #[.pointer (some ⟨lb, 0, none⟩), .pointer (some ⟨sb, 0, none⟩)] w (GotStep lb rb sb w (pbody k (step0 k n) ws)) := fun sb n ws w h _ hs h1 h2 => by
    rw [pbody_n h11 h8 h7]
    exact readN_any lb rb sb k n ws w h hs h1 h2
  by_cases hn : 2 < k
  · rw [decide_eq_true hn, show pnode k ws = pnum 9 ws from if_pos hn]
    exact step_76_node lb rb k _ (fun n ws => pbody k (step0 k n) ws) hbody ws w h hr
  · rw [decide_eq_false hn, show pnode k ws = some (0, ws) from if_neg hn]
    exact step_76_plain lb rb k _ (fun n ws => pbody k (step0 k n) ws) hbody ws w h hr
end Go.Proofs.YtifliekahdgobaaGreatDoor
