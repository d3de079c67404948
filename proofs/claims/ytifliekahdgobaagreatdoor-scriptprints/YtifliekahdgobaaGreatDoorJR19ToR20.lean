/-
  THE REFERENCE's WALKS, 19: reqText (printed by wip/tools/gen_rreqtext.py). Helpers of the claims.
  EQUALITY of the program's structs, as the model tests it. Helpers of the claims.
  A STEP IN A BLOCK: what is loaded of it. Helpers of the claims.
  THE REFERENCE's WALKS, 20: stepText (printed by wip/tools/gen_rstext.py). Helpers of the claims.
-/
import Derived.Laws.StructEq
import Derived.Test.YtifliekahdgobaaGreatDoorJThQToW23
import Derived.Test.YtifliekahdgobaaGreatDoorJR7ToR9
import Derived.Test.YtifliekahdgobaaGreatDoorJW7ToW18
set_option linter.unusedSimpArgs false
set_option linter.unusedVariables false
namespace Go.Proofs.YtifliekahdgobaaGreatDoor
open Go.RowKit Sp

/-- an array's element: under a word of its own -/
def ixT (T : TypeId) (x i : Value) : Sem Next := do pure (.value (← Instr.index T x i))
theorem execOp_index51 (ρ : Operand → Value) (x y : Operand) (d : Option Tmp) (t : TypeId) (p : String) (af : Array Edge) (g : Option (Nat × Bool)) :
    execOp ρ { dst := d, op := Op.index 51 x y, type := t, pos := p, after := af, guard := g } = ixT 51 (ρ x) (ρ y) := rfl
theorem execOp_index125 (ρ : Operand → Value) (x y : Operand) (d : Option Tmp) (t : TypeId) (p : String) (af : Array Edge) (g : Option (Nat × Bool)) :
    execOp ρ { dst := d, op := Op.index 125 x y, type := t, pos := p, after := af, guard := g } = ixT 125 (ρ x) (ρ y) := rfl
theorem kidx (kd : Nat) (h : kd < 4) (w : World) : (ixT 51 (.agg (kinds.map fun y => sv y).toArray) (.int .i64 (kd : Int))).run Tryz.prog w = .ok (.value (sv (kinds.getD kd []))) w := by
  rcases (by omega : kd = 0 ∨ kd = 1 ∨ kd = 2 ∨ kd = 3) with rfl | rfl | rfl | rfl <;> kernel_rfl
/-- a request's words, as the reference comes by them -/
def rparts (L0 : List Str) (cs : List CmpS) (ts es : List OpS) : List Str := L0 ++ cs.flatMap rcmpWords ++ (ts.flatMap fun x => wThen :: ropWords x) ++ (es.flatMap fun x => wElse :: ropWords x)
def rhead (kd : Nat) (client num : Int) (serial : Bool) (rev : Int) : List Str := [kinds.getD kd [], ud client, ud num, markText lS [serial], ud rev]
theorem rop_ne (x : OpS) : ropWords x ≠ [] := by unfold ropWords; split <;> (try split) <;> simp
theorem rparts_ne {L0 : List Str} (h : L0 ≠ []) (cs : List CmpS) (ts es : List OpS) : rparts L0 cs ts es ≠ [] := by unfold rparts; simp [h]
theorem rparts_cmp {L0 : List Str} (h : L0 ≠ []) (cs : List CmpS) (k : Nat) (hk : k < cs.length) : join (rparts L0 (cs.take (k + 1)) [] []) = join (rparts L0 (cs.take k) [] []) ++ 32 :: join (rcmpWords cs[k]) := by
  rw [← join_append _ _ (rparts_ne h _ _ _) (by unfold rcmpWords; simp)]
  refine congrArg join ?_
  unfold rparts
  rw [List.take_succ_eq_append_getElem hk, List.flatMap_append]
  simp
theorem rparts_thn {L0 : List Str} (h : L0 ≠ []) (cs : List CmpS) (ts : List OpS) (k : Nat) (hk : k < ts.length) : join (rparts L0 cs (ts.take (k + 1)) []) = join (rparts L0 cs (ts.take k) []) ++ 32 :: (wThen ++ 32 :: join (ropWords ts[k])) := by
  have e := join_append [wThen] (ropWords ts[k]) (by simp) (rop_ne _)
  rw [show join [wThen] = wThen from rfl] at e
  rw [← e, ← join_append _ _ (rparts_ne h _ _ _) (by simp)]
  refine congrArg join ?_
  unfold rparts
  rw [List.take_succ_eq_append_getElem hk, List.flatMap_append]
  simp
theorem rparts_els {L0 : List Str} (h : L0 ≠ []) (cs : List CmpS) (ts es : List OpS) (k : Nat) (hk : k < es.length) : join (rparts L0 cs ts (es.take (k + 1))) = join (rparts L0 cs ts (es.take k)) ++ 32 :: (wElse ++ 32 :: join (ropWords es[k])) := by
  have e := join_append [wElse] (ropWords es[k]) (by simp) (rop_ne _)
  rw [show join [wElse] = wElse from rfl] at e
  rw [← e, ← join_append _ _ (rparts_ne h _ _ _) (by simp)]
  refine congrArg join ?_
  unfold rparts
  rw [List.take_succ_eq_append_getElem hk, List.flatMap_append]
  simp
theorem flat_mid {α : Type} (f : α → List Str) (m n : Nat) : ∀ l : List α, (∀ x ∈ l, (∀ y ∈ f x, y.length ≤ m) ∧ (f x).length ≤ n) → (∀ y ∈ l.flatMap f, y.length ≤ m) ∧ (l.flatMap f).length ≤ l.length * n
  | [], _ => by simp
  | x :: l, h => by
    obtain ⟨h1, h2⟩ := flat_mid f m n l (fun x hx => h x (.tail _ hx))
    obtain ⟨h3, h4⟩ := h x (.head _)
    rw [List.flatMap_cons]
    refine ⟨fun y hy => ?_, ?_⟩
    · rcases List.mem_append.1 hy with hy | hy
      · exact h3 y hy
      · exact h1 y hy
    · rw [List.length_append, List.length_cons, Nat.add_mul, Nat.one_mul]
      omega
theorem ud_mid (n : Int) : (ud n).length ≤ 2000001 := Nat.le_trans (ud_len n) (by omega)
theorem mark_mid {ls : Str} (h : ls.length ≤ 4) (is : List Bool) : (markText ls is).length ≤ 2000001 := by have := markText_len ls is; omega
theorem rop_mid {x : OpS} (h : MidOp x) : (∀ y ∈ ropWords x, y.length ≤ 2000001) ∧ (ropWords x).length ≤ 6 := by
  unfold ropWords
  split
  · refine ⟨?_, by simp⟩
    simp only [List.mem_cons, List.mem_nil_iff, or_false]
    rintro y (rfl | rfl | rfl | rfl | rfl | rfl)
    · decide
    · exact hexText_two h.key
    · exact hexText_two h.fin
    · exact ud_mid _
    · exact ud_mid _
    · exact mark_mid (by decide) _
  · split
    · refine ⟨?_, by simp⟩
      simp only [List.mem_cons, List.mem_nil_iff, or_false]
      rintro y (rfl | rfl | rfl | rfl)
      · decide
      · exact hexText_two h.key
      · exact hexText_two h.val
      · exact mark_mid (by decide) _
    · refine ⟨?_, by simp⟩
      simp only [List.mem_cons, List.mem_nil_iff, or_false]
      rintro y (rfl | rfl | rfl | rfl)
      · decide
      · exact hexText_two h.key
      · exact hexText_two h.fin
      · exact mark_mid (by decide) _
theorem rcmp_mid {x : CmpS} (h : MidCmp x) : (∀ y ∈ rcmpWords x, y.length ≤ 2000001) ∧ (rcmpWords x).length ≤ 6 := by
  unfold rcmpWords
  refine ⟨?_, by simp⟩
  simp only [List.mem_cons, List.mem_nil_iff, or_false]
  rintro y (rfl | rfl | rfl | rfl | rfl | rfl)
  · decide
  · exact ud_mid _
  · exact ud_mid _
  · exact ud_mid _
  · exact hexText_two h.key
  · exact hexText_two h.val
theorem rop_text_mid {x : OpS} (h : MidOp x) : (join (ropWords x)).length ≤ 100000000 := by
  have h1 := join_len (ropWords x) 2000001 (rop_mid h).1
  have h2 := Nat.mul_le_mul_right (2000001 + 1) (rop_mid h).2
  omega
theorem rhead_mid (kd : Nat) (hk : kd < 4) (client num : Int) (serial : Bool) (rev : Int) : (∀ y ∈ rhead kd client num serial rev, y.length ≤ 2000001) ∧ (rhead kd client num serial rev).length ≤ 5 := by
  unfold rhead
  refine ⟨?_, by simp⟩
  simp only [List.mem_cons, List.mem_nil_iff, or_false]
  rintro y (rfl | rfl | rfl | rfl | rfl)
  · rcases (by omega : kd = 0 ∨ kd = 1 ∨ kd = 2 ∨ kd = 3) with rfl | rfl | rfl | rfl <;> decide
  · exact ud_mid _
  · exact ud_mid _
  · exact mark_mid (by decide) _
  · exact ud_mid _
theorem rparts_mid {L0 : List Str} (h0 : (∀ y ∈ L0, y.length ≤ 2000001) ∧ L0.length ≤ 5) {cs : List CmpS} {ts es : List OpS} (h1 : cs.length ≤ 20) (h2 : ts.length ≤ 20) (h3 : es.length ≤ 20)
    (h4 : ∀ x ∈ cs, MidCmp x) (h5 : ∀ x ∈ ts, MidOp x) (h6 : ∀ x ∈ es, MidOp x) : (join (rparts L0 cs ts es)).length ≤ 10000000000 := by
  have a1 := flat_mid rcmpWords 2000001 6 cs (fun x hx => rcmp_mid (h4 x hx))
  have a2 := flat_mid (fun x => wThen :: ropWords x) 2000001 7 ts (fun x hx => ⟨fun y hy => by
    rcases List.mem_cons.1 hy with rfl | hy
    · decide
    · exact (rop_mid (h5 x hx)).1 y hy, by have := (rop_mid (h5 x hx)).2; simp only [List.length_cons]; omega⟩)
  have a3 := flat_mid (fun x => wElse :: ropWords x) 2000001 7 es (fun x hx => ⟨fun y hy => by
    rcases List.mem_cons.1 hy with rfl | hy
    · decide
    · exact (rop_mid (h6 x hx)).1 y hy, by have := (rop_mid (h6 x hx)).2; simp only [List.length_cons]; omega⟩)
  have b1 : ∀ y ∈ rparts L0 cs ts es, y.length ≤ 2000001 := by
    intro y hy
    unfold rparts at hy
    rcases List.mem_append.1 hy with hy | hy
    · rcases List.mem_append.1 hy with hy | hy
      · rcases List.mem_append.1 hy with hy | hy
        · exact h0.1 y hy
        · exact a1.1 y hy
      · exact a2.1 y hy
    · exact a3.1 y hy
  have b2 : (rparts L0 cs ts es).length ≤ 500 := by
    unfold rparts
    simp only [List.length_append]
    omega
  have b3 := join_len _ 2000001 b1
  have b4 := Nat.mul_le_mul_right (2000001 + 1) b2
  omega
theorem take_all {α : Type} {p : α → Prop} {l : List α} (h : ∀ x ∈ l, p x) (k : Nat) : ∀ x ∈ l.take k, p x := fun x hx => h x (List.mem_of_mem_take hx)
theorem take_len {α : Type} {l : List α} {n : Nat} (h : l.length ≤ n) (k : Nat) : (l.take k).length ≤ n := by rw [List.length_take]; omega
theorem rhead_join (kd : Nat) (client num : Int) (serial : Bool) (rev : Int) : join (rhead kd client num serial rev) = kinds.getD kd [] ++ 32 :: (ud client ++ 32 :: (ud num ++ 32 :: (markText lS [serial] ++ 32 :: ud rev))) := by
  simp [rhead, join]
theorem rcmp_join (x : CmpS) : join (rcmpWords x) = wIf ++ 32 :: (ud x.what ++ 32 :: (ud x.how ++ 32 :: (ud x.n ++ 32 :: (hexText x.key ++ 32 :: hexText x.val)))) := by
  simp [rcmpWords, join]
attribute [local go_sem ↓] execOp_add9 execOp_index51
set_option maxHeartbeats 6400000 in
set_option maxRecDepth 100000 in
theorem rreqText_go (kd : Nat) (hkd : kd < 4) (client num : Int) (serial : Bool) (rev : Int) (cmps : List CmpS) (thn els : List OpS) (ac at1 ae : Option Addr) (cc ct ce : Nat)
    (hc0 : 0 ≤ client) (hc1 : client < 18446744073709551616) (hn0 : 0 ≤ num) (hn1 : num < 18446744073709551616) (hr0 : 0 ≤ rev) (hr1 : rev < 18446744073709551616) (hlc : cmps.length ≤ 20) (hlt : thn.length ≤ 20) (hle : els.length ≤ 20)
    (hMC : ∀ x ∈ cmps, MidCmp x) (hMT : ∀ x ∈ thn, MidOp x) (hME : ∀ x ∈ els, MidOp x) (w : World)
    (h1 : RowRead cmpCells 5 w (.slice ac cmps.length cc) cmps) (h2 : RowRead opCells 9 w (.slice at1 thn.length ct) thn) (h3 : RowRead opCells 9 w (.slice ae els.length ce) els) :
    Calls Tryz.prog 83 #[.agg #[.int .i64 kd, .int .u64 client, .int .u64 num, .bool serial, .slice ac cmps.length cc, .slice at1 thn.length ct, .slice ae els.length ce, .int .u64 rev]] w (Gives (sv (join (rparts (rhead kd client num serial rev) cmps thn els))) w) := by
  obtain ⟨N, hN⟩ : ∃ N : Nat, N = w.heap.size := ⟨_, rfl⟩
  obtain ⟨W, hW⟩ : ∃ W : World, W = w.alloc (.cells #[.int .i64 kd, .int .u64 client, .int .u64 num, .bool serial, .slice ac cmps.length cc, .slice at1 thn.length ct, .slice ae els.length ce, .int .u64 rev] 59) := ⟨_, rfl⟩
  have hkW : Keep (fun _ => False) w W := by rw [hW]; exact (Keep.refl _ w).alloc _
  have hbW : W.heap[N]? = some (.cells #[.int .i64 kd, .int .u64 client, .int .u64 num, .bool serial, .slice ac cmps.length cc, .slice at1 thn.length ct, .slice ae els.length ce, .int .u64 rev] 59 (0, 0)) := by rw [hW, hN]; exact block_new _ _
  have HS : ∀ w', Keep (fun _ => False) W w' → Keep (fun _ => False) W w' ∧ w'.cell? ⟨N, 0, none⟩ = some (.int .i64 kd) ∧ w'.cell? ⟨N, 1, none⟩ = some (.int .u64 client) ∧ w'.cell? ⟨N, 2, none⟩ = some (.int .u64 num) ∧ w'.cell? ⟨N, 3, none⟩ = some (.bool serial) ∧ w'.cell? ⟨N, 7, none⟩ = some (.int .u64 rev) := fun w' hk => by
    have hb := hk.at' hbW (fun e => e)
    exact ⟨hk, cell_of_block hb 0, cell_of_block hb 1, cell_of_block hb 2, cell_of_block hb 3, cell_of_block hb 7⟩
  have HRC := Lib.hid (fun w' (hk : Keep (fun _ => False) W w') => h1.keep (hkW.trans' hk) (fun _ _ _ _ _ e => e))
  have HRT := Lib.hid (fun w' (hk : Keep (fun _ => False) W w') => h2.keep (hkW.trans' hk) (fun _ _ _ _ _ e => e))
  have HRE := Lib.hid (fun w' (hk : Keep (fun _ => False) W w') => h3.keep (hkW.trans' hk) (fun _ _ _ _ _ e => e))
  have HSH := Lib.hid HS
  have HW := Lib.hid hW
  have HNN := Lib.hid hN
  have HKW := Lib.hid hkW
  have HBW := Lib.hid hbW
  have HMC := Lib.hid hMC
  have HMT := Lib.hid hMT
  have HME := Lib.hid hME
  obtain ⟨ka, hka⟩ : ∃ ka, ka = (kinds.map fun y => sv y).toArray := ⟨_, rfl⟩
  have hki : ∀ w, (ixT 51 (.agg ka) (.int .i64 (kd : Int))).run Tryz.prog w = .ok (.value (sv (kinds.getD kd []))) w := fun w => by rw [hka]; exact kidx kd hkd w
  have HKD := Lib.hid (fun w => (by rw [hka]; exact rkinds_walk w : Calls Tryz.prog 116 #[] w fun e w' => e = .returned (.agg ka) ∧ Keep (fun _ => False) w w'))
  have hkl : (kinds.getD kd []).length ≤ 7 := by rcases (by omega : kd = 0 ∨ kd = 1 ∨ kd = 2 ∨ kd = 3) with rfl | rfl | rfl | rfl <;> decide
  have lc := ud_len client
  have ln := ud_len num
  have lr := ud_len rev
  have lm : (markText lS [serial]).length ≤ 2 := markText_len lS [serial]
  have HT0 := Lib.hid (rhead_join kd client num serial rev)
  have H0M := Lib.hid (rhead_mid kd hkd client num serial rev)
  have HT0N : rhead kd client num serial rev ≠ [] := by unfold rhead; simp
  have HNE := Lib.hid HT0N
  generalize rhead kd client num serial rev = L0 at *
  generalize kinds.getD kd [] = kw at *
  have hk0 : (0 : Int) ≤ (kd : Int) := by omega
  have hk4 : (kd : Int) < 4 := by omega
  clear HS hW hN hkW hbW hMC hMT hME h1 h2 h3 hkd HT0N hka
  obtain ⟨T0, E0, n0, r0⟩ := add_step kw ([32] : Str) (by (try simp only [List.length_cons, List.length_nil]); omega)
  (try simp only [List.length_cons, List.length_nil] at n0)
  obtain ⟨T1, E1, n1, r1⟩ := add_step T0 (ud client) (by (try simp only [List.length_cons, List.length_nil]); omega)
  (try simp only [List.length_cons, List.length_nil] at n1)
  obtain ⟨T2, E2, n2, r2⟩ := add_step T1 ([32] : Str) (by (try simp only [List.length_cons, List.length_nil]); omega)
  (try simp only [List.length_cons, List.length_nil] at n2)
  obtain ⟨T3, E3, n3, r3⟩ := add_step T2 (ud num) (by (try simp only [List.length_cons, List.length_nil]); omega)
  (try simp only [List.length_cons, List.length_nil] at n3)
  obtain ⟨T4, E4, n4, r4⟩ := add_step T3 ([32] : Str) (by (try simp only [List.length_cons, List.length_nil]); omega)
  (try simp only [List.length_cons, List.length_nil] at n4)
  obtain ⟨T5, E5, n5, r5⟩ := add_step T4 (markText lS [serial]) (by (try simp only [List.length_cons, List.length_nil]); omega)
  (try simp only [List.length_cons, List.length_nil] at n5)
  obtain ⟨T6, E6, n6, r6⟩ := add_step T5 ([32] : Str) (by (try simp only [List.length_cons, List.length_nil]); omega)
  (try simp only [List.length_cons, List.length_nil] at n6)
  obtain ⟨T7, E7, n7, r7⟩ := add_step T6 (ud rev) (by (try simp only [List.length_cons, List.length_nil]); omega)
  (try simp only [List.length_cons, List.length_nil] at n7)
  clear n0 n1 n2 n3 n4 n5 n6 n7
  go_enter Tryz.func83, Tryz.ntmps83
  go_wp2_with fail
  rw [← HW.out]
  generalize hNW : w.heap.size = N' at *
  obtain rfl : N = N' := HNN.out
  go_cut [3] from 8 to 33 (fun v3 wx => v3 = sv (join L0) ∧ Keep (fun _ => False) W wx)
  case first =>
    go_region_held3 (fun w' => Keep (fun _ => False) W w' ∧ w'.cell? ⟨N, 0, none⟩ = some (.int .i64 kd) ∧ w'.cell? ⟨N, 1, none⟩ = some (.int .u64 client) ∧ w'.cell? ⟨N, 2, none⟩ = some (.int .u64 num) ∧ w'.cell? ⟨N, 3, none⟩ = some (.bool serial) ∧ w'.cell? ⟨N, 7, none⟩ = some (.int .u64 rev))
      (first | exact HSH.out _ ((Keep.refl _ _).drew) | exact HSH.out _ (held_call (by assumption) (by assumption)) | exact HSH.out _ (held_alloc (by assumption) _) | exact HSH.out _ (And.left (by assumption)))
      (first
        | (go_at_call 116; refine (HKD.out _).mono ?_; rintro e w' ⟨rfl, hk⟩)
        | (go_at_call 40; refine (rnumU_any _ (by assumption) (by assumption) _).mono ?_; rintro e w' ⟨rfl, hk⟩)
        | (go_at_call 82; refine (rmarked_any lS [serial] rfl (by decide) _).mono ?_; rintro e w' ⟨rfl, hk⟩))
    all_goals
      go_wp2_with fail
      go_meet
      refine ⟨?_, And.left (by assumption)⟩
      rw [HT0.out, E7.out, E6.out, E5.out, E4.out, E3.out, E2.out, E1.out, E0.out]
      simp
  case rest =>
    obtain ⟨rfl, hkc⟩ := hcut
    clear r0 r1 r2 r3 r4 r5 r6 r7 E0 E1 E2 E3 E4 E5 E6 E7 hki hkl lc ln lr lm
    have hL0 : join L0 = join (rparts L0 (cmps.take 0) [] []) := by simp [rparts]
    rw [hL0]
    have HKC := Lib.hid hkc
    clear hL0 hkc
    go_wp2_with fail
    go_loopw [3, 4] (fun v3 v4 wr => ∃ k : Nat, k ≤ cmps.length ∧ v4 = .int .i64 k ∧ v3 = sv (join (rparts L0 (cmps.take k) [] [])) ∧ Keep (fun _ => False) W wr) (fun _ v4 _ => cmps.length - (intOf v4).toNat)
    case atStart => exact ⟨0, Nat.zero_le _, rfl, rfl, HKC.out⟩
    case round =>
      obtain ⟨k, hk, rfl, rfl, hkr⟩ := hrel
      have HB := hkr.at' HBW.out (fun e => e)
      have hcc : wr.cell? ⟨N, 4, none⟩ = some (.slice ac cmps.length cc) := cell_of_block HB 4
      by_cases hlt2 : k < cmps.length
      · obtain ⟨b, o, hbo, hrng⟩ := (HRC.out _ hkr).at k hlt2
        subst hbo
        have hmx := HMC.out _ (List.getElem_mem hlt2)
        have hst := rparts_cmp HNE.out cmps k hlt2
        have hPl := rparts_mid H0M.out (take_len hlc k) (Nat.zero_le 20) (Nat.zero_le 20) (take_all HMC.out k) (ts := []) (es := []) (fun x hx => (by cases hx)) (fun x hx => (by cases hx))
        rw [rcmp_join] at hst
        generalize hx : cmps[k] = x at *
        generalize hP : join (rparts L0 (cmps.take k) [] []) = P at *
        obtain ⟨key, what, how, n, val⟩ := x
        obtain ⟨hq1, hq2, hq3, hq4, hq5, hq6, hq7, hq8⟩ := hmx
        dsimp only at hq1 hq2 hq3 hq4 hq5 hq6 hq7 hq8 hst
        obtain ⟨cs, hcs⟩ : ∃ cs, cs = cmpCells ⟨key, what, how, n, val⟩ := ⟨_, rfl⟩
        rw [← hcs] at hrng
        have hld := run_ld65 wr b _ cs (by rw [hcs]; rfl) hrng
        have hst2 := run_st65 (wr.alloc (.cells (cmpCells ⟨[], 0, 0, 0, []⟩) 65)) wr.heap.size 0 cs (there_of_block (block_new _ _) (by decide)) (by rw [hcs]; rfl) (by rw [hcs]; exact cmpCells_one _)
        obtain ⟨W1, hW1⟩ : ∃ W1 : World, W1 = (wr.alloc (.cells (cmpCells ⟨[], 0, 0, 0, []⟩) 65)).setCells wr.heap.size 0 cs.toList := ⟨_, rfl⟩
        rw [← hW1] at hst2
        obtain ⟨N1, hN1⟩ : ∃ N1 : Nat, N1 = wr.heap.size := ⟨_, rfl⟩
        have hb1 : W1.heap[N1]? = some (.cells (cmpCells ⟨key, what, how, n, val⟩) 65 (0, 0)) := by
          rw [hW1, hN1, block_setCells_all (block_new _ _) _ (by rw [hcs]; rfl), hcs]
        have hk1 : Keep (fun _ => False) wr W1 := by rw [hW1]; exact ((Keep.refl _ wr).alloc _).setCells _ _ _ (.inl (Nat.le_refl _))
        have HS1 := Lib.hid (fun w' (hk : Keep (fun _ => False) W1 w') => (⟨hk, cell_of_block (hk.at' hb1 (fun e => e)) 0, cell_of_block (hk.at' hb1 (fun e => e)) 1, cell_of_block (hk.at' hb1 (fun e => e)) 2, cell_of_block (hk.at' hb1 (fun e => e)) 3, cell_of_block (hk.at' hb1 (fun e => e)) 4⟩ :
          Keep (fun _ => False) W1 w' ∧ w'.cell? ⟨N1, 0, none⟩ = some (sv key) ∧ w'.cell? ⟨N1, 1, none⟩ = some (.int .i64 what) ∧ w'.cell? ⟨N1, 2, none⟩ = some (.int .i64 how) ∧ w'.cell? ⟨N1, 3, none⟩ = some (.int .u64 n) ∧ w'.cell? ⟨N1, 4, none⟩ = some (sv val)))
        have HWW := Lib.hid (hkr.trans' hk1)
        have HST := Lib.hid hst
        have HN1 := Lib.hid hN1
        have hlt3 : (k : Int) < (cmps.length : Int) := by omega
        obtain ⟨hu1, hu2, hu3⟩ := ud_wrap what
        obtain ⟨hu4, hu5, hu6⟩ := ud_wrap how
        have lw := ud_len (IntKind.u64.wrap what)
        have lh := ud_len (IntKind.u64.wrap how)
        have lN := ud_len n
        have lk := hexText_two hq7
        have lv := hexText_two hq8
        have HU1 := Lib.hid hu1
        have HU2 := Lib.hid hu4
        clear hst hkr HB hk1 hW1 hN1 hb1 hrng hcs hu1 hu4 hx hP
        obtain ⟨T0, E0, n0, r0⟩ := add_step P ([32, 105, 102, 32] : Str) (by (try simp only [List.length_cons, List.length_nil]); omega)
        (try simp only [List.length_cons, List.length_nil] at n0)
        obtain ⟨T1, E1, n1, r1⟩ := add_step T0 (ud (IntKind.u64.wrap what)) (by (try simp only [List.length_cons, List.length_nil]); omega)
        (try simp only [List.length_cons, List.length_nil] at n1)
        obtain ⟨T2, E2, n2, r2⟩ := add_step T1 ([32] : Str) (by (try simp only [List.length_cons, List.length_nil]); omega)
        (try simp only [List.length_cons, List.length_nil] at n2)
        obtain ⟨T3, E3, n3, r3⟩ := add_step T2 (ud (IntKind.u64.wrap how)) (by (try simp only [List.length_cons, List.length_nil]); omega)
        (try simp only [List.length_cons, List.length_nil] at n3)
        obtain ⟨T4, E4, n4, r4⟩ := add_step T3 ([32] : Str) (by (try simp only [List.length_cons, List.length_nil]); omega)
        (try simp only [List.length_cons, List.length_nil] at n4)
        obtain ⟨T5, E5, n5, r5⟩ := add_step T4 (ud n) (by (try simp only [List.length_cons, List.length_nil]); omega)
        (try simp only [List.length_cons, List.length_nil] at n5)
        obtain ⟨T6, E6, n6, r6⟩ := add_step T5 ([32] : Str) (by (try simp only [List.length_cons, List.length_nil]); omega)
        (try simp only [List.length_cons, List.length_nil] at n6)
        obtain ⟨T7, E7, n7, r7⟩ := add_step T6 (hexText key) (by (try simp only [List.length_cons, List.length_nil]); omega)
        (try simp only [List.length_cons, List.length_nil] at n7)
        obtain ⟨T8, E8, n8, r8⟩ := add_step T7 ([32] : Str) (by (try simp only [List.length_cons, List.length_nil]); omega)
        (try simp only [List.length_cons, List.length_nil] at n8)
        obtain ⟨T9, E9, n9, r9⟩ := add_step T8 (hexText val) (by (try simp only [List.length_cons, List.length_nil]); omega)
        (try simp only [List.length_cons, List.length_nil] at n9)
        clear n0 n1 n2 n3 n4 n5 n6 n7 n8 n9
        unfold cmpCells at hst2
        go_wp2_with fail
        rw [← HN1.out]
        generalize hN1W : wr.heap.size = N1' at *
        obtain rfl : N1 = N1' := HN1.out
        clear hN1W hld hst2 hcc
        go_region_held3 (fun w' => Keep (fun _ => False) W1 w' ∧ w'.cell? ⟨N1, 0, none⟩ = some (sv key) ∧ w'.cell? ⟨N1, 1, none⟩ = some (.int .i64 what) ∧ w'.cell? ⟨N1, 2, none⟩ = some (.int .i64 how) ∧ w'.cell? ⟨N1, 3, none⟩ = some (.int .u64 n) ∧ w'.cell? ⟨N1, 4, none⟩ = some (sv val))
          (first | exact HS1.out _ ((Keep.refl _ _).drew) | exact HS1.out _ (held_call (by assumption) (by assumption)) | exact HS1.out _ (held_alloc (by assumption) _))
          (first
            | (go_at_call 40; refine (rnumU_any _ (by assumption) (by assumption) _).mono ?_; rintro e w' ⟨rfl, hk⟩)
            | (go_at_call 81; refine (rhex_any _ (by assumption) _).mono ?_; rintro e w' ⟨rfl, hk⟩))
        all_goals
          go_wp2_with fail
          go_roundw
          case rel =>
            refine ⟨k + 1, by omega, by go_num, ?_, HWW.out.trans' (And.left (by assumption))⟩
            rw [HST.out, ← HU1.out, ← HU2.out, E9.out, E8.out, E7.out, E6.out, E5.out, E4.out, E3.out, E2.out, E1.out, E0.out]
            simp [wIf]
          case measure => simp [intOf]; omega
      · obtain rfl : k = cmps.length := by omega
        rw [List.take_length]
        have HKR := Lib.hid hkr
        have hP0 : join (rparts L0 cmps [] []) = join (rparts L0 cmps (thn.take 0) []) := by simp
        rw [hP0]
        clear hkr HB hP0
        go_wp2_with fail
        clear hcc
        go_loopw [3, 6] (fun v3 vc wr => ∃ k : Nat, k ≤ thn.length ∧ vc = .int .i64 k ∧ v3 = sv (join (rparts L0 cmps (thn.take k) [])) ∧ Keep (fun _ => False) W wr) (fun _ vc _ => thn.length - (intOf vc).toNat)
        case atStart => exact ⟨0, Nat.zero_le _, rfl, rfl, HKR.out⟩
        case round =>
          obtain ⟨k, hk, rfl, rfl, hkr⟩ := hrel
          have HB := hkr.at' HBW.out (fun e => e)
          have hcc : wr.cell? ⟨N, 5, none⟩ = some (.slice at1 thn.length ct) := cell_of_block HB 5
          by_cases hlt2 : k < thn.length
          · obtain ⟨b, o, hbo, hrng⟩ := (HRT.out _ hkr).at k hlt2
            subst hbo
            have hmx := HMT.out _ (List.getElem_mem hlt2)
            have hst := rparts_thn HNE.out cmps thn k hlt2
            have hPl := rparts_mid H0M.out hlc (take_len hlt k) (Nat.zero_le 20) HMC.out (take_all HMT.out k) (es := []) (fun x hx => (by cases hx))
            have hjl := rop_text_mid hmx
            generalize hx : thn[k] = x at *
            generalize hP : join (rparts L0 cmps (thn.take k) []) = P at *
            have HCALL := Lib.hid (fun w' => ropText_any x hmx w')
            obtain ⟨ot, hot⟩ : ∃ ot, ot = join (ropWords x) := ⟨_, rfl⟩
            rw [← hot] at hst hjl HCALL
            obtain ⟨cs, hcs⟩ : ∃ cs, cs = opCells x := ⟨_, rfl⟩
            rw [← hcs] at hrng HCALL
            have hld := run_ld67 wr b _ cs (by rw [hcs]; rfl) hrng
            have HST := Lib.hid hst
            have HKR := Lib.hid hkr
            have hlt3 : (k : Int) < (thn.length : Int) := by omega
            clear hst hkr HB hrng hcs hx hP hot hmx
            obtain ⟨T0, E0, n0, r0⟩ := add_step P ([32, 116, 104, 101, 110, 32] : Str) (by simp only [List.length_cons, List.length_nil]; omega)
            simp only [List.length_cons, List.length_nil] at n0
            obtain ⟨T1, E1, n1, r1⟩ := add_step T0 ot (by omega)
            clear n0 n1
            go_wp2_with fail
            refine (HCALL.out _).mono ?_
            rintro e w1 ⟨rfl, hk⟩
            have HK := Lib.hid hk
            clear hld hk hcc
            go_wp2_with fail
            go_roundw
            case rel =>
              refine ⟨k + 1, by omega, by go_num, ?_, HKR.out.trans' HK.out⟩
              rw [HST.out, E1.out, E0.out]
              simp [wThen]
            case measure => simp [intOf]; omega
          · obtain rfl : k = thn.length := by omega
            rw [List.take_length]
            have HKR := Lib.hid hkr
            have hP0 : join (rparts L0 cmps thn []) = join (rparts L0 cmps thn (els.take 0)) := by simp
            rw [hP0]
            clear hkr HB hP0
            go_wp2_with fail
            clear hcc
            go_loopw [3, 7] (fun v3 vc wr => ∃ k : Nat, k ≤ els.length ∧ vc = .int .i64 k ∧ v3 = sv (join (rparts L0 cmps thn (els.take k))) ∧ Keep (fun _ => False) W wr) (fun _ vc _ => els.length - (intOf vc).toNat)
            case atStart => exact ⟨0, Nat.zero_le _, rfl, rfl, HKR.out⟩
            case round =>
              obtain ⟨k, hk, rfl, rfl, hkr⟩ := hrel
              have HB := hkr.at' HBW.out (fun e => e)
              have hcc : wr.cell? ⟨N, 6, none⟩ = some (.slice ae els.length ce) := cell_of_block HB 6
              by_cases hlt2 : k < els.length
              · obtain ⟨b, o, hbo, hrng⟩ := (HRE.out _ hkr).at k hlt2
                subst hbo
                have hmx := HME.out _ (List.getElem_mem hlt2)
                have hst := rparts_els HNE.out cmps thn els k hlt2
                have hPl := rparts_mid H0M.out hlc hlt (take_len hle k) HMC.out HMT.out (take_all HME.out k)
                have hjl := rop_text_mid hmx
                generalize hx : els[k] = x at *
                generalize hP : join (rparts L0 cmps thn (els.take k)) = P at *
                have HCALL := Lib.hid (fun w' => ropText_any x hmx w')
                obtain ⟨ot, hot⟩ : ∃ ot, ot = join (ropWords x) := ⟨_, rfl⟩
                rw [← hot] at hst hjl HCALL
                obtain ⟨cs, hcs⟩ : ∃ cs, cs = opCells x := ⟨_, rfl⟩
                rw [← hcs] at hrng HCALL
                have hld := run_ld67 wr b _ cs (by rw [hcs]; rfl) hrng
                have HST := Lib.hid hst
                have HKR := Lib.hid hkr
                have hlt3 : (k : Int) < (els.length : Int) := by omega
                clear hst hkr HB hrng hcs hx hP hot hmx
                obtain ⟨T0, E0, n0, r0⟩ := add_step P ([32, 101, 108, 115, 101, 32] : Str) (by simp only [List.length_cons, List.length_nil]; omega)
                simp only [List.length_cons, List.length_nil] at n0
                obtain ⟨T1, E1, n1, r1⟩ := add_step T0 ot (by omega)
                clear n0 n1
                go_wp2_with fail
                refine (HCALL.out _).mono ?_
                rintro e w1 ⟨rfl, hk⟩
                have HK := Lib.hid hk
                clear hld hk hcc
                go_wp2_with fail
                go_roundw
                case rel =>
                  refine ⟨k + 1, by omega, by go_num, ?_, HKR.out.trans' HK.out⟩
                  rw [HST.out, E1.out, E0.out]
                  simp [wElse]
                case measure => simp [intOf]; omega
              · obtain rfl : k = els.length := by omega
                rw [List.take_length]
                have HKR := Lib.hid hkr
                clear hkr HB
                go_wp2_with fail
                go_ret
                exact ⟨rfl, HKW.out.trans' HKR.out⟩
theorem rreqText_any (r : ReqS) (vc vt ve : Value) (h0 : 0 ≤ r.kind) (h3 : r.kind ≤ 3) (hm : MidReq r) (w : World) (hr : ReqRead w r vc vt ve) :
    Calls Tryz.prog 83 #[.agg (reqCells r vc vt ve)] w (Gives (sv (join (rreqWords r))) w) := by
  obtain ⟨kind, client, num, serial, cmps, thn, els, rev⟩ := r
  dsimp only at h0 h3
  obtain ⟨kd, rfl⟩ : ∃ kd : Nat, kind = kd := ⟨kind.toNat, by omega⟩
  obtain ⟨⟨ac, cc, e1, h1⟩, ⟨at1, ct, e2, h2⟩, ⟨ae, ce, e3, h3'⟩⟩ := hr
  dsimp only at e1 e2 e3 h1 h2 h3'
  subst e1 e2 e3
  have h := rreqText_go kd (by omega) client num serial rev cmps thn els ac at1 ae cc ct ce hm.c0 hm.c1 hm.n0 hm.n1 hm.r0 hm.r1 hm.lc hm.lt hm.le hm.cmps hm.thn hm.els w ⟨ac, cc, rfl, h1⟩ ⟨at1, ct, rfl, h2⟩ ⟨ae, ce, rfl, h3'⟩
  rw [show rreqWords ⟨kd, client, num, serial, cmps, thn, els, rev⟩ = rparts (rhead kd client num serial rev) cmps thn els by simp [rreqWords, rparts, rhead]]
  exact h
end Go.Proofs.YtifliekahdgobaaGreatDoor
namespace Go.Proofs.YtifliekahdgobaaGreatDoor
open Go.RowKit Sp
theorem Tryz.eg67 : Tryz.prog.eqGuardType Tryz.prog.depth 67 = false := by kernel_rfl
theorem Tryz.sh67 : Tryz.prog.stoodInHeld 67 = false := by kernel_rfl
set_option maxRecDepth 100000 in
theorem eqIn67 (w : World) (x y : OpS) : (Op.equalIn 10000 67 (.agg (opCells x)) (.agg (opCells y))).run Tryz.prog w = .ok (decide (x = y)) w := by
  obtain ⟨a0, a1, a2, a3, a4, a5, a6, a7, a8⟩ := x
  obtain ⟨b0, b1, b2, b3, b4, b5, b6, b7, b8⟩ := y
  unfold opCells
  rw [run_equalIn_agg w 9999 67 _ _ (by kernel_rfl) Tryz.sh67]
  rw [show (Tryz.prog.fieldsOf 67).toList = _ from by simp [Program.fieldsOf, Tryz.underlying67]; rfl]
  go_simp
  repeat' split
  all_goals simp [*]
theorem eql67 (x y : OpS) (w : World) : (binOp .eql 67 (.agg (opCells x)) (.agg (opCells y))).run Tryz.prog w = .ok (.bool (decide (x = y))) w := by
  rw [run_eql_struct, eqIn67]; rfl
theorem neq67 (x y : OpS) (w : World) : (binOp .neq 67 (.agg (opCells x)) (.agg (opCells y))).run Tryz.prog w = .ok (.bool (!decide (x = y))) w := by
  rw [run_neq_struct, eqIn67]; rfl
theorem grd67 (op : BinOp) (a b : Operand) (x y : OpS) (w : World) : (eqGuard op 67 a b (.agg (opCells x)) (.agg (opCells y))).run Tryz.prog w = .ok () w := run_eqGuard_agg w op 67 a b _ _ Tryz.eg67
theorem Tryz.eg65 : Tryz.prog.eqGuardType Tryz.prog.depth 65 = false := by kernel_rfl
theorem Tryz.sh65 : Tryz.prog.stoodInHeld 65 = false := by kernel_rfl
set_option maxRecDepth 100000 in
theorem eqIn65 (w : World) (x y : CmpS) : (Op.equalIn 10000 65 (.agg (cmpCells x)) (.agg (cmpCells y))).run Tryz.prog w = .ok (decide (x = y)) w := by
  obtain ⟨a0, a1, a2, a3, a4⟩ := x
  obtain ⟨b0, b1, b2, b3, b4⟩ := y
  unfold cmpCells
  rw [run_equalIn_agg w 9999 65 _ _ (by kernel_rfl) Tryz.sh65]
  rw [show (Tryz.prog.fieldsOf 65).toList = _ from by simp [Program.fieldsOf, Tryz.underlying65]; rfl]
  go_simp
  repeat' split
  all_goals simp [*]
theorem eql65 (x y : CmpS) (w : World) : (binOp .eql 65 (.agg (cmpCells x)) (.agg (cmpCells y))).run Tryz.prog w = .ok (.bool (decide (x = y))) w := by
  rw [run_eql_struct, eqIn65]; rfl
theorem neq65 (x y : CmpS) (w : World) : (binOp .neq 65 (.agg (cmpCells x)) (.agg (cmpCells y))).run Tryz.prog w = .ok (.bool (!decide (x = y))) w := by
  rw [run_neq_struct, eqIn65]; rfl
theorem grd65 (op : BinOp) (a b : Operand) (x y : CmpS) (w : World) : (eqGuard op 65 a b (.agg (cmpCells x)) (.agg (cmpCells y))).run Tryz.prog w = .ok () w := run_eqGuard_agg w op 65 a b _ _ Tryz.eg65
theorem Tryz.eg61 : Tryz.prog.eqGuardType Tryz.prog.depth 61 = false := by kernel_rfl
theorem Tryz.sh61 : Tryz.prog.stoodInHeld 61 = false := by kernel_rfl
set_option maxRecDepth 100000 in
theorem eqIn61 (w : World) (x y : WatchS) : (Op.equalIn 10000 61 (.agg (watchCells x)) (.agg (watchCells y))).run Tryz.prog w = .ok (decide (x = y)) w := by
  obtain ⟨a0, a1, a2, a3, a4, a5, a6, a7⟩ := x
  obtain ⟨b0, b1, b2, b3, b4, b5, b6, b7⟩ := y
  unfold watchCells
  rw [run_equalIn_agg w 9999 61 _ _ (by kernel_rfl) Tryz.sh61]
  rw [show (Tryz.prog.fieldsOf 61).toList = _ from by simp [Program.fieldsOf, Tryz.underlying61]; rfl]
  go_simp
  repeat' split
  all_goals simp [*]
theorem eql61 (x y : WatchS) (w : World) : (binOp .eql 61 (.agg (watchCells x)) (.agg (watchCells y))).run Tryz.prog w = .ok (.bool (decide (x = y))) w := by
  rw [run_eql_struct, eqIn61]; rfl
theorem neq61 (x y : WatchS) (w : World) : (binOp .neq 61 (.agg (watchCells x)) (.agg (watchCells y))).run Tryz.prog w = .ok (.bool (!decide (x = y))) w := by
  rw [run_neq_struct, eqIn61]; rfl
theorem grd61 (op : BinOp) (a b : Operand) (x y : WatchS) (w : World) : (eqGuard op 61 a b (.agg (watchCells x)) (.agg (watchCells y))).run Tryz.prog w = .ok () w := run_eqGuard_agg w op 61 a b _ _ Tryz.eg61
end Go.Proofs.YtifliekahdgobaaGreatDoor
namespace Go.Proofs.YtifliekahdgobaaGreatDoor
open Go.RowKit Sp

/-- a call that hands back a bool, and only lays new blocks -/
def Tells (b : Bool) (w : World) (e : Ending) (w' : World) : Prop := e = .returned (.bool b) ∧ Keep (fun _ => False) w w'
theorem range_sub {w : World} {b : Nat} {cs : Array Value} {t : TypeId} {f : Nat × Nat} (h : w.heap[b]? = some (.cells cs t f)) (o : Nat) (sub : List Value) (hs : ∀ j u, sub[j]? = some u → cs[o + j]? = some u) : w.rangeAt b o sub := fun j v hv => by
  simp only [World.cell?, h]
  exact hs j v hv
theorem step_req (s : StepS) (vc vt ve : Value) : ∀ j u, (reqCells s.req vc vt ve).toList[j]? = some u → (stepCells s vc vt ve)[3 + j]? = some u := by
  intro j u h
  have hj : j < 8 := (List.getElem?_eq_some_iff.1 h).1
  rcases (by omega : j = 0 ∨ j = 1 ∨ j = 2 ∨ j = 3 ∨ j = 4 ∨ j = 5 ∨ j = 6 ∨ j = 7) with rfl | rfl | rfl | rfl | rfl | rfl | rfl | rfl <;> exact h
theorem step_watch (s : StepS) (vc vt ve : Value) : ∀ j u, (watchCells s.watch).toList[j]? = some u → (stepCells s vc vt ve)[11 + j]? = some u := by
  intro j u h
  have hj : j < 8 := (List.getElem?_eq_some_iff.1 h).1
  rcases (by omega : j = 0 ∨ j = 1 ∨ j = 2 ∨ j = 3 ∨ j = 4 ∨ j = 5 ∨ j = 6 ∨ j = 7) with rfl | rfl | rfl | rfl | rfl | rfl | rfl | rfl <;> exact h
/-- what a step's block gives -/
structure StepBlk (w : World) (N : Nat) (s : StepS) (vc vt ve : Value) : Prop where
  blk : w.heap[N]? = some (.cells (stepCells s vc vt ve) 63 (0, 0))
theorem StepBlk.req {w : World} {N : Nat} {s : StepS} {vc vt ve : Value} (h : StepBlk w N s vc vt ve) : (ldT 59 (.pointer (some ⟨N, 3, none⟩))).run Tryz.prog w = .ok (.value (.agg (reqCells s.req vc vt ve))) w :=
  run_ld59 w N 3 _ rfl (range_sub h.blk 3 _ (step_req s vc vt ve))
theorem StepBlk.watch {w : World} {N : Nat} {s : StepS} {vc vt ve : Value} (h : StepBlk w N s vc vt ve) : (ldT 61 (.pointer (some ⟨N, 11, none⟩))).run Tryz.prog w = .ok (.value (.agg (watchCells s.watch))) w :=
  run_ld61 w N 11 _ rfl (range_sub h.blk 11 _ (step_watch s vc vt ve))
theorem StepBlk.keep {M : Nat → Prop} {w w' : World} {N : Nat} {s : StepS} {vc vt ve : Value} (h : StepBlk w N s vc vt ve) (hk : Keep M w w') (hM : ¬ M N) : StepBlk w' N s vc vt ve := ⟨hk.at' h.blk hM⟩
end Go.Proofs.YtifliekahdgobaaGreatDoor
namespace Go.Proofs.YtifliekahdgobaaGreatDoor
open Go.RowKit Sp

theorem nidx (kd : Nat) (h : kd < 12) (w : World) : (ixT 125 (.agg (names.map fun y => sv y).toArray) (.int .i64 (kd : Int))).run Tryz.prog w = .ok (.value (sv (names.getD kd []))) w := by
  rcases (by omega : kd = 0 ∨ kd = 1 ∨ kd = 2 ∨ kd = 3 ∨ kd = 4 ∨ kd = 5 ∨ kd = 6 ∨ kd = 7 ∨ kd = 8 ∨ kd = 9 ∨ kd = 10 ∨ kd = 11) with rfl | rfl | rfl | rfl | rfl | rfl | rfl | rfl | rfl | rfl | rfl | rfl <;> kernel_rfl
theorem name_seven (kd : Nat) (h : kd < 12) : (names.getD kd []).length ≤ 7 := by
  rcases (by omega : kd = 0 ∨ kd = 1 ∨ kd = 2 ∨ kd = 3 ∨ kd = 4 ∨ kd = 5 ∨ kd = 6 ∨ kd = 7 ∨ kd = 8 ∨ kd = 9 ∨ kd = 10 ∨ kd = 11) with rfl | rfl | rfl | rfl | rfl | rfl | rfl | rfl | rfl | rfl | rfl | rfl <;> decide
theorem rreq_text_mid {r : ReqS} (hk : 0 ≤ r.kind ∧ r.kind ≤ 3) (hm : MidReq r) : (join (rreqWords r)).length ≤ 10000000000 := by
  obtain ⟨kind, client, num, serial, cmps, thn, els, rev⟩ := r
  obtain ⟨kd, rfl⟩ : ∃ kd : Nat, kind = kd := ⟨kind.toNat, by dsimp only at hk; omega⟩
  dsimp only at hk
  rw [show rreqWords ⟨kd, client, num, serial, cmps, thn, els, rev⟩ = rparts (rhead kd client num serial rev) cmps thn els by simp [rreqWords, rparts, rhead]]
  exact rparts_mid (rhead_mid kd (by omega) client num serial rev) hm.lc hm.lt hm.le hm.cmps hm.thn hm.els
theorem rwatch_join (x : WatchS) : join (rwatchWords x) = ud x.id ++ 32 :: (hexText x.key ++ 32 :: (hexText x.fin ++ 32 :: (ud x.start ++ 32 :: markText lPndg [x.prev, x.noPut, x.noDelete, x.progress]))) := by
  simp [rwatchWords, join]
attribute [local go_sem ↓] execOp_add9 execOp_index125
set_option maxHeartbeats 6400000 in
set_option maxRecDepth 100000 in
theorem rstepText_go (kd : Nat) (hkd : kd < 12) (s : StepS) (hsk : s.kind = kd) (vc vt ve : Value) (hm : MidStep s) (hrk : kd = 7 → 0 ≤ s.req.kind ∧ s.req.kind ≤ 3) (w : World) (hr : ReqRead w s.req vc vt ve) :
    Calls Tryz.prog 41 #[.agg (stepCells s vc vt ve)] w (Gives (sv (join (rstepWords s))) w) := by
  obtain ⟨N, hN⟩ : ∃ N : Nat, N = w.heap.size := ⟨_, rfl⟩
  obtain ⟨W, hW⟩ : ∃ W : World, W = w.alloc (.cells (stepCells s vc vt ve) 63) := ⟨_, rfl⟩
  have hkW : Keep (fun _ => False) w W := by rw [hW]; exact (Keep.refl _ w).alloc _
  have hbW : StepBlk W N s vc vt ve := ⟨by rw [hW, hN]; exact block_new _ _⟩
  obtain ⟨nm, hnm⟩ : ∃ nm, nm = names.getD kd [] := ⟨_, rfl⟩
  obtain ⟨na, hna⟩ : ∃ na, na = (names.map fun y => sv y).toArray := ⟨_, rfl⟩
  have hni : ∀ w, (ixT 125 (.agg na) (.int .i64 (kd : Int))).run Tryz.prog w = .ok (.value (sv (names.getD kd []))) w := fun w => by rw [hna]; exact nidx kd hkd w
  have HND := Lib.hid (fun w => (by rw [hna]; exact rnames_walk w : Calls Tryz.prog 57 #[] w fun e w' => e = .returned (.agg na) ∧ Keep (fun _ => False) w w'))
  have hnl := name_seven kd hkd
  rw [← hnm] at hni hnl
  obtain ⟨fin, hfin⟩ : ∃ fin, fin = join (rstepWords s) := ⟨_, rfl⟩
  rw [← hfin]
  obtain ⟨pre, hpre⟩ : ∃ pre, pre = join (nm :: rnodeWords s) := ⟨_, rfl⟩
  have hjoin : ∀ ws : List Str, rbodyWords s = ws → ws ≠ [] → fin = pre ++ 32 :: join ws := fun ws h h0 => by
    rw [hfin, hpre, ← join_append _ _ (by simp) h0]
    unfold rstepWords
    rw [hsk, Int.toNat_natCast, ← hnm, h]
    rfl
  have hjoin0 : rbodyWords s = [] → fin = pre := fun h => by
    rw [hfin, hpre]
    unfold rstepWords
    rw [hsk, Int.toNat_natCast, ← hnm, h, List.append_nil]
  have hpre2 : (2 : Int) < kd → pre = nm ++ 32 :: ud s.node := fun h => by
    rw [hpre]
    unfold rnodeWords
    rw [if_pos (by rw [hsk]; exact h)]
    rfl
  have hpre0 : ¬ (2 : Int) < kd → pre = nm := fun h => by
    rw [hpre]
    unfold rnodeWords
    rw [if_neg (by rw [hsk]; exact h)]
    rfl
  have HS : ∀ w', Keep (fun _ => False) W w' → Keep (fun _ => False) W w' ∧ w'.cell? ⟨N, 0, none⟩ = some (.int .i64 kd) := fun w' hk => ⟨hk, by
    rw [cell_of_block (hbW.keep hk (fun e => e)).blk 0]
    show some (Value.int .i64 s.kind) = _
    rw [hsk]⟩
  have HSH := Lib.hid HS
  have HRR := Lib.hid (fun w' (hk : Keep (fun _ => False) W w') => hr.far (hkW.trans' hk))
  have HBW := Lib.hid hbW
  obtain ⟨cs, hcs⟩ : ∃ cs, cs = stepCells s vc vt ve := ⟨_, rfl⟩
  rw [← hcs] at hW
  rw [← hcs]
  have HCS := Lib.hid hcs
  have HW := Lib.hid hW
  have HNN := Lib.hid hN
  have HKW := Lib.hid hkW
  have HJ := Lib.hid hjoin
  have HJ0 := Lib.hid hjoin0
  have HP2 := Lib.hid hpre2
  have HP0 := Lib.hid hpre0
  have HSK := Lib.hid hsk
  have HM := Lib.hid hm
  have HRK := Lib.hid hrk
  have hk0 : (0 : Int) ≤ (kd : Int) := by omega
  have hk12 : (kd : Int) < 12 := by omega
  clear hna HS hr hbW hcs hW hN hkW hjoin hjoin0 hpre2 hpre0 hnm hfin hpre
  go_enter Tryz.func41, Tryz.ntmps41
  go_upto_region 1 with fail
  rw [← HW.out]
  generalize hNW : w.heap.size = N' at *
  obtain rfl : N = N' := HNN.out
  go_cut [3] from 5 to 8 (fun v3 wx => v3 = sv nm ∧ Keep (fun _ => False) W wx)
  case first =>
    go_region_held3 (fun w' => Keep (fun _ => False) W w' ∧ w'.cell? ⟨N, 0, none⟩ = some (.int .i64 kd))
      (first | exact HSH.out _ ((Keep.refl _ _).drew) | exact HSH.out _ (held_call (by assumption) (by assumption)) | exact HSH.out _ (And.left (by assumption)))
      (first
        | (go_at_call 57; refine (HND.out _).mono ?_; rintro e w' ⟨rfl, hk⟩))
    all_goals
      go_wp2_with fail
      go_meet
      exact ⟨rfl, And.left (by assumption)⟩
  case rest =>
    obtain ⟨rfl, hkc⟩ := hcut
    have HKC := Lib.hid hkc
    have hc0 := (HSH.out _ hkc).2
    have hb := HBW.out.keep hkc (fun e => e)
    have hc1 : wc.cell? ⟨N, 1, none⟩ = some (.int .i64 s.node) := cell_of_block hb.blk 1
    clear hb hkc hni
    go_upto_if 11 with fail
    go_cut [3] from 11 to 18 (fun v3 wx => v3 = sv pre ∧ Keep (fun _ => False) W wx)
    case first =>
      by_cases hk2 : (2 : Int) < (kd : Int)
      · obtain ⟨hu1, hu2, hu3⟩ := ud_wrap s.node
        have lu := ud_len (IntKind.u64.wrap s.node)
        have HU := Lib.hid hu1
        clear hu1
        obtain ⟨T0, E0, n0, r0⟩ := add_step nm ([32] : Str) (by (try simp only [List.length_cons, List.length_nil]); omega)
        (try simp only [List.length_cons, List.length_nil] at n0)
        obtain ⟨T1, E1, n1, r1⟩ := add_step T0 (ud (IntKind.u64.wrap s.node)) (by (try simp only [List.length_cons, List.length_nil]); omega)
        (try simp only [List.length_cons, List.length_nil] at n1)
        clear n0 n1
        go_wp2_with fail
        refine (rnumU_any _ hu2 hu3 _).mono ?_
        rintro e w1 ⟨rfl, hk⟩
        have HK := Lib.hid hk
        clear hk hc0 hc1
        go_wp2_with fail
        go_meet
        refine ⟨?_, HKC.out.trans' HK.out⟩
        rw [HP2.out hk2, ← HU.out, E1.out, E0.out]
        simp
      · go_wp2_with fail
        go_meet
        exact ⟨by rw [HP0.out hk2], HKC.out⟩
    case rest =>
      obtain ⟨rfl, hkd2⟩ := hcut
      have HKD := Lib.hid hkd2
      have hb := HBW.out.keep hkd2 (fun e => e)
      have d0 := (HSH.out _ hkd2).2
      have hpl : pre.length ≤ 100 := by
        have := ud_len s.node
        by_cases hk2 : (2 : Int) < (kd : Int)
        · rw [HP2.out hk2]; simp; omega
        · rw [HP0.out hk2]; omega
      clear hkd2 hc0 hc1
      by_cases k11 : kd = 11
      · have b11 : ((kd : Int) == 11) = true := by rw [k11]; rfl
        have HE := Lib.hid (HJ0.out (by unfold rbodyWords; rw [if_pos (by rw [HSK.out, k11]; rfl)]))
        clear hb k11
        go_wp2_with fail
        go_ret
        exact ⟨by rw [HE.out]; rfl, HKW.out.trans' HKD.out⟩
      have b11 : ((kd : Int) == 11) = false := by simp; omega
      by_cases k8 : kd = 8
      · have b8 : ((kd : Int) == 8) = true := by rw [k8]; rfl
        have HE := Lib.hid (HJ.out (rwatchWords s.watch) (by unfold rbodyWords; rw [if_neg (by rw [HSK.out, k8]; decide), if_pos (by rw [HSK.out, k8]; rfl)]) (by simp [rwatchWords]))
        have hld := hb.watch
        have hmw := HM.out.watch
        rw [rwatch_join] at HE
        generalize s.watch = x at *
        obtain ⟨id, key, fn, start, prev, noPut, noDelete, progress⟩ := x
        obtain ⟨hq1, hq2, hq3, hq4, hq5, hq6⟩ := hmw
        dsimp only at hq1 hq2 hq3 hq4 hq5 hq6 HE
        obtain ⟨cw, hcw⟩ : ∃ cw, cw = watchCells ⟨id, key, fn, start, prev, noPut, noDelete, progress⟩ := ⟨_, rfl⟩
        rw [← hcw] at hld
        have hst2 := run_st61 (wc.alloc (.cells (watchCells WatchS.zero) 61)) wc.heap.size 0 cw (there_of_block (block_new _ _) (by decide)) (by rw [hcw]; rfl) (by rw [hcw]; simp [watchCells, one_int, one_str, one_bool])
        obtain ⟨W1, hW1⟩ : ∃ W1 : World, W1 = (wc.alloc (.cells (watchCells WatchS.zero) 61)).setCells wc.heap.size 0 cw.toList := ⟨_, rfl⟩
        rw [← hW1] at hst2
        obtain ⟨N1, hN1⟩ : ∃ N1 : Nat, N1 = wc.heap.size := ⟨_, rfl⟩
        have hb1 : W1.heap[N1]? = some (.cells (watchCells ⟨id, key, fn, start, prev, noPut, noDelete, progress⟩) 61 (0, 0)) := by
          rw [hW1, hN1, block_setCells_all (block_new _ _) _ (by rw [hcw]; rfl), hcw]
        have hk1 : Keep (fun _ => False) wc W1 := by rw [hW1]; exact ((Keep.refl _ wc).alloc _).setCells _ _ _ (.inl (Nat.le_refl _))
        have HS1 := Lib.hid (fun w' (hk : Keep (fun _ => False) W1 w') => (⟨hk, cell_of_block (hk.at' hb1 (fun e => e)) 0, cell_of_block (hk.at' hb1 (fun e => e)) 1, cell_of_block (hk.at' hb1 (fun e => e)) 2, cell_of_block (hk.at' hb1 (fun e => e)) 3, cell_of_block (hk.at' hb1 (fun e => e)) 4, cell_of_block (hk.at' hb1 (fun e => e)) 5, cell_of_block (hk.at' hb1 (fun e => e)) 6, cell_of_block (hk.at' hb1 (fun e => e)) 7⟩ :
          Keep (fun _ => False) W1 w' ∧ w'.cell? ⟨N1, 0, none⟩ = some (.int .u64 id) ∧ w'.cell? ⟨N1, 1, none⟩ = some (sv key) ∧ w'.cell? ⟨N1, 2, none⟩ = some (sv fn) ∧ w'.cell? ⟨N1, 3, none⟩ = some (.int .u64 start) ∧ w'.cell? ⟨N1, 4, none⟩ = some (.bool prev) ∧ w'.cell? ⟨N1, 5, none⟩ = some (.bool noPut) ∧ w'.cell? ⟨N1, 6, none⟩ = some (.bool noDelete) ∧ w'.cell? ⟨N1, 7, none⟩ = some (.bool progress)))
        have HWW := Lib.hid (HKD.out.trans' hk1)
        have HN1 := Lib.hid hN1
        have li := ud_len id
        have ls := ud_len start
        have lk := hexText_two hq3
        have lf := hexText_two hq4
        have lm : (markText lPndg [prev, noPut, noDelete, progress]).length ≤ 5 := markText_len lPndg [prev, noPut, noDelete, progress]
        clear hb hk1 hW1 hN1 hb1 hcw k8 k11
        obtain ⟨T0, E0, n0, r0⟩ := add_step pre ([32] : Str) (by (try simp only [List.length_cons, List.length_nil]); omega)
        (try simp only [List.length_cons, List.length_nil] at n0)
        obtain ⟨T1, E1, n1, r1⟩ := add_step T0 (ud id) (by (try simp only [List.length_cons, List.length_nil]); omega)
        (try simp only [List.length_cons, List.length_nil] at n1)
        obtain ⟨T2, E2, n2, r2⟩ := add_step T1 ([32] : Str) (by (try simp only [List.length_cons, List.length_nil]); omega)
        (try simp only [List.length_cons, List.length_nil] at n2)
        obtain ⟨T3, E3, n3, r3⟩ := add_step T2 (hexText key) (by (try simp only [List.length_cons, List.length_nil]); omega)
        (try simp only [List.length_cons, List.length_nil] at n3)
        obtain ⟨T4, E4, n4, r4⟩ := add_step T3 ([32] : Str) (by (try simp only [List.length_cons, List.length_nil]); omega)
        (try simp only [List.length_cons, List.length_nil] at n4)
        obtain ⟨T5, E5, n5, r5⟩ := add_step T4 (hexText fn) (by (try simp only [List.length_cons, List.length_nil]); omega)
        (try simp only [List.length_cons, List.length_nil] at n5)
        obtain ⟨T6, E6, n6, r6⟩ := add_step T5 ([32] : Str) (by (try simp only [List.length_cons, List.length_nil]); omega)
        (try simp only [List.length_cons, List.length_nil] at n6)
        obtain ⟨T7, E7, n7, r7⟩ := add_step T6 (ud start) (by (try simp only [List.length_cons, List.length_nil]); omega)
        (try simp only [List.length_cons, List.length_nil] at n7)
        obtain ⟨T8, E8, n8, r8⟩ := add_step T7 ([32] : Str) (by (try simp only [List.length_cons, List.length_nil]); omega)
        (try simp only [List.length_cons, List.length_nil] at n8)
        obtain ⟨T9, E9, n9, r9⟩ := add_step T8 (markText lPndg [prev, noPut, noDelete, progress]) (by (try simp only [List.length_cons, List.length_nil]); omega)
        (try simp only [List.length_cons, List.length_nil] at n9)
        clear n0 n1 n2 n3 n4 n5 n6 n7 n8 n9
        unfold watchCells WatchS.zero at hst2
        go_wp2_with fail
        rw [← HN1.out]
        generalize hN1W : wc.heap.size = N1' at *
        obtain rfl : N1 = N1' := HN1.out
        clear hN1W hld hst2 d0 b8 b11
        go_region_held3 (fun w' => Keep (fun _ => False) W1 w' ∧ w'.cell? ⟨N1, 0, none⟩ = some (.int .u64 id) ∧ w'.cell? ⟨N1, 1, none⟩ = some (sv key) ∧ w'.cell? ⟨N1, 2, none⟩ = some (sv fn) ∧ w'.cell? ⟨N1, 3, none⟩ = some (.int .u64 start) ∧ w'.cell? ⟨N1, 4, none⟩ = some (.bool prev) ∧ w'.cell? ⟨N1, 5, none⟩ = some (.bool noPut) ∧ w'.cell? ⟨N1, 6, none⟩ = some (.bool noDelete) ∧ w'.cell? ⟨N1, 7, none⟩ = some (.bool progress))
          (first | exact HS1.out _ ((Keep.refl _ _).drew) | exact HS1.out _ (held_call (by assumption) (by assumption)) | exact HS1.out _ (held_alloc (by assumption) _))
          (first
            | (go_at_call 40; refine (rnumU_any _ (by assumption) (by assumption) _).mono ?_; rintro e w' ⟨rfl, hk⟩)
            | (go_at_call 81; refine (rhex_any _ (by assumption) _).mono ?_; rintro e w' ⟨rfl, hk⟩)
            | (go_at_call 82; refine (rmarked_any lPndg [prev, noPut, noDelete, progress] rfl (by decide) _).mono ?_; rintro e w' ⟨rfl, hk⟩))
        all_goals
          go_wp2_with fail
          go_ret
          exact ⟨congrArg Ending.returned (show sv T9 = sv fin by rw [HE.out, E9.out, E8.out, E7.out, E6.out, E5.out, E4.out, E3.out, E2.out, E1.out, E0.out]; simp), HKW.out.trans' (HWW.out.trans' (And.left (by assumption)))⟩
      have b8 : ((kd : Int) == 8) = false := by simp; omega
      by_cases k7 : kd = 7
      · have b7 : ((kd : Int) == 7) = true := by rw [k7]; rfl
        have HE := Lib.hid (HJ.out (rreqWords s.req) (by unfold rbodyWords; rw [if_neg (by rw [HSK.out, k7]; decide), if_neg (by rw [HSK.out, k7]; decide), if_pos (by rw [HSK.out, k7]; rfl)]) (by simp [rreqWords]))
        have hld := hb.req
        have hrr := HRK.out k7
        have hml := rreq_text_mid hrr HM.out.req
        have HCALL := Lib.hid (rreqText_any s.req vc vt ve hrr.1 hrr.2 HM.out.req wc (HRR.out _ HKD.out))
        generalize join (rreqWords s.req) = rt at *
        generalize reqCells s.req vc vt ve = rc at *
        clear hb k7 k8 k11 hrr
        obtain ⟨T0, E0, n0, r0⟩ := add_step pre ([32] : Str) (by (try simp only [List.length_cons, List.length_nil]); omega)
        (try simp only [List.length_cons, List.length_nil] at n0)
        obtain ⟨T1, E1, n1, r1⟩ := add_step T0 rt (by (try simp only [List.length_cons, List.length_nil]); omega)
        (try simp only [List.length_cons, List.length_nil] at n1)
        clear n0 n1
        go_wp2_with fail
        refine HCALL.out.mono ?_
        rintro e w1 ⟨rfl, hk⟩
        have HK := Lib.hid hk
        clear hk hld
        go_wp2_with fail
        go_ret
        exact ⟨congrArg Ending.returned (show sv T1 = sv fin by rw [HE.out, E1.out, E0.out]; simp), HKW.out.trans' (HKD.out.trans' HK.out)⟩
      have b7 : ((kd : Int) == 7) = false := by simp; omega
      have HE := Lib.hid (HJ.out [ud s.n] (by unfold rbodyWords; rw [if_neg (by rw [HSK.out]; omega), if_neg (by rw [HSK.out]; omega), if_neg (by rw [HSK.out]; omega)]) (by simp))
      have d2 : wc.cell? ⟨N, 2, none⟩ = some (.int .u64 s.n) := cell_of_block hb.blk 2
      have m0 := HM.out.m0
      have m1 := HM.out.m1
      have ln := ud_len s.n
      generalize s.n = sn at *
      clear hb k7 k8 k11
      obtain ⟨T0, E0, n0, r0⟩ := add_step pre ([32] : Str) (by (try simp only [List.length_cons, List.length_nil]); omega)
      (try simp only [List.length_cons, List.length_nil] at n0)
      obtain ⟨T1, E1, n1, r1⟩ := add_step T0 (ud sn) (by (try simp only [List.length_cons, List.length_nil]); omega)
      (try simp only [List.length_cons, List.length_nil] at n1)
      clear n0 n1
      go_wp2_with fail
      refine (rnumU_any _ m0 m1 _).mono ?_
      rintro e w1 ⟨rfl, hk⟩
      have HK := Lib.hid hk
      clear hk d0 d2
      go_wp2_with fail
      go_ret
      exact ⟨congrArg Ending.returned (show sv T1 = sv fin by rw [HE.out, E1.out, E0.out]; simp [join]), HKW.out.trans' (HKD.out.trans' HK.out)⟩
theorem rstepText_any (s : StepS) (vc vt ve : Value) (hm : MidStep s) (hk0 : 0 ≤ s.kind) (hk1 : s.kind ≤ 11) (hrk : s.kind = 7 → 0 ≤ s.req.kind ∧ s.req.kind ≤ 3) (w : World) (hr : ReqRead w s.req vc vt ve) :
    Calls Tryz.prog 41 #[.agg (stepCells s vc vt ve)] w (Gives (sv (join (rstepWords s))) w) :=
  rstepText_go s.kind.toNat (by omega) s (by omega) vc vt ve hm (fun h => hrk (by omega)) w hr
end Go.Proofs.YtifliekahdgobaaGreatDoor
