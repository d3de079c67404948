/-
  THE WALKS, 22: reqText (printed by wip/tools/gen_reqtext.py). Helpers of the claims.
-/
import Derived.Deep.Cut
import Derived.Deep.CutRange
import Derived.Test.YtifliekahdgobaaGreatDoorKW20ToW21
set_option linter.unusedSimpArgs false
set_option linter.unusedVariables false
namespace Go.Proofs.YtifliekahdgobaaGreatDoor
open Go.RowKit Sp

theorem info65 : (Tryz.prog.info? 65).map (·.size) = some 5 := by kernel_rfl
@[go_sem ↓] theorem execOp_store65 (ρ : Operand → Value) (x y : Operand) (d : Option Tmp) (t : TypeId) (p : String) (af : Array Edge) (g : Option (Nat × Bool)) :
    execOp ρ { dst := d, op := Op.store 65 x y, type := t, pos := p, after := af, guard := g } = stT 65 (ρ x) (ρ y) := rfl
@[go_sem ↓] theorem execOp_load65 (ρ : Operand → Value) (x : Operand) (d : Option Tmp) (t : TypeId) (p : String) (af : Array Edge) (g : Option (Nat × Bool)) :
    execOp ρ { dst := d, op := Op.load 65 x, type := t, pos := p, after := af, guard := g } = ldT 65 (ρ x) := rfl
theorem run_st65 (w : World) (b o : Nat) (cells : Array Value) (ht : w.there b o 5) (hs : cells.size = 5) (h1 : cells.all (·.oneCell') = true) :
    (stT 65 (.pointer (some ⟨b, o, none⟩)) (.agg cells)).run Tryz.prog w = .ok .skip (w.setCells b o cells.toList) := run_stT info65 w b o cells ht hs h1
theorem run_ld65 (w : World) (b o : Nat) (cs : Array Value) (hs : cs.size = 5) (hc : w.rangeAt b o cs.toList) :
    (ldT 65 (.pointer (some ⟨b, o, none⟩))).run Tryz.prog w = .ok (.value (.agg cs)) w := run_ldT Tryz.underlying65 rfl info65 w b o cs hs hc
theorem Tryz.inf9 : (Tryz.prog.info? 9).map (fun i => (i.zero, i.size, i.bytes)) = some (some (.string ⟨#[]⟩), 1, 16) := by kernel_rfl
/-- words as a row that a slice owns -/
def WsAt (w : World) (base : Nat) (v : Value) (l : List Str) : Prop := w.ownsRow base 9 1 v l.length (l.map fun y => sv y)
theorem WsAt.far {w w' : World} {base : Nat} {v : Value} {l : List Str} (h : WsAt w base v l) (hk : Keep (fun _ => False) w w') : WsAt w' base v l := ownsRow_keep h hk (fun _ _ _ _ e => e)
theorem WsAt.of_block {w : World} {b base : Nat} {l : List Str} (hb : w.heap[b]? = some (.cells (l.map fun y => sv y).toArray 9 (0, 0))) (hbb : base ≤ b) (hl : l.length ≤ 1000000) (h0 : l ≠ []) : WsAt w base (.slice (some ⟨b, 0, none⟩) l.length l.length) l := by
  have h1 : 0 < l.length := List.length_pos_iff.2 h0
  refine ⟨by simp, .inr ⟨b, l.length, _, rfl, hbb, hb, Nat.le_refl _, ?_, by simp, ?_⟩⟩
  · unfold maxLen; omega
  · rw [Nat.mul_one, List.take_of_length_le (by simp)]
/-- append of words that have just been laid -/
theorem app_strs {w1 : World} {b base c : Nat} {v : Value} {l ws : List Str} (hown : WsAt w1 base v l) (hb : w1.heap[b]? = some (.cells (ws.map fun y => sv y).toArray 9 (0, 0))) (hn : l.length + ws.length ≤ 1000000) (hbase : base ≤ w1.heap.size) :
    ∃ v' w', (Builtin.append_ #[48, 48] 48 #[v, .slice (some ⟨b, 0, none⟩) ws.length c]).run Tryz.prog w1 = .ok v' w' ∧ WsAt w' base v' (l ++ ws) ∧ w1.grownBy w' v.ownBlock := by
  obtain ⟨i, hi, hz0, hz1, hz2⟩ := info_parts Tryz.inf9
  obtain ⟨v', w', hr, h2, h3, -⟩ := run_append_own (P := Tryz.prog) w1 base 48 48 9 i (.string ⟨#[]⟩) 1 16 Tryz.underlying48 hi hz0 hz1 hz2 rfl (by omega) v l.length _ hown ⟨b, 0, none⟩ ws.length c (ws.map fun y => sv y) (by simp) (World.news_of_block hb) (by
    intro u hu
    obtain ⟨y, _, rfl⟩ := List.mem_map.1 hu
    rfl) (by unfold maxLen; omega) (by omega) hbase
  refine ⟨v', w', hr, ?_, h3⟩
  unfold WsAt
  rw [List.length_append, List.map_append]
  exact h2
theorem WsAt.slice {w : World} {base : Nat} {v : Value} {l : List Str} (h : WsAt w base v l) : ∃ a c, v = .slice a l.length c := by
  obtain ⟨a, c, h1, _⟩ := ownsRow_len h
  exact ⟨a, c, h1⟩
theorem WsAt.lt {w : World} {base : Nat} {v : Value} {l : List Str} (h : WsAt w base v l) : ∀ g, v.ownBlock = some g → base ≤ g ∧ g < w.heap.size := World.ownsRow.lt h
/-- strings.Join of a row -/
theorem join_row (ws : List Str) (base : Nat) (v : Value) (w : World) (h : WsAt w base v ws) (hn : ws.length ≤ 1000) (hm : ∀ x ∈ ws, x.length ≤ 1000000000) :
    Calls Tryz.prog 20 #[v, sv [32]] w (Gives (sv (join ws)) w) := by
  rcases h.2 with ⟨h1, h2⟩ | ⟨g, cap, cur, h1, hb, hg, hnc, rest⟩
  · have : ws = [] := List.length_eq_zero_iff.1 h2
    subst this
    subst h1
    refine (Tryz.strings_Join_none none 0 ⟨#[32]⟩ w).mono ?_
    rintro e w' ⟨rfl, rfl⟩
    exact ⟨rfl, Keep.refl _ _⟩
  · subst h1
    have hl := join_len ws 1000000000 hm
    have h := Tryz.strings_Join g 0 cap (ws.map fun y => (⟨y.toArray⟩ : ByteArray)) ⟨#[32]⟩ w (by
      intro j x hx
      simp only [List.getElem?_map, Option.map_eq_some_iff] at hx
      obtain ⟨y, hy, rfl⟩ := hx
      have := h.cells (g := g) rfl j (sv y) (by simp [hy])
      rw [Lib.add_plain] at this
      exact this) (lt_of_block hg) (by simp; omega) (by simpa using hnc) (by
      simp only [List.map_map]
      have : (ws.map ((fun x : ByteArray => x.data.toList) ∘ fun y => (⟨y.toArray⟩ : ByteArray))) = ws := by
        rw [List.map_congr_left (g := id) (fun _ _ => by simp)]; simp
      rw [this, join_lib]
      have : ws.length * (1000000000 + 1) ≤ 1000 * (1000000000 + 1) := Nat.mul_le_mul_right _ hn
      omega)
    simp only [List.length_map, List.map_map] at h
    have : (ws.map ((fun x : ByteArray => x.data.toList) ∘ fun y => (⟨y.toArray⟩ : ByteArray))) = ws := by
      rw [List.map_congr_left (g := id) (fun _ _ => by simp)]; simp
    rw [this] at h
    refine h.mono ?_
    rintro e w' ⟨rfl, hb'⟩
    rw [join_lib]
    exact ⟨rfl, Keep.of_below hb' (Nat.le_refl _)⟩
/-- a comparison whose numbers are of their kinds, of modest bytes -/
structure MidCmp (x : CmpS) : Prop where
  w0 : -9223372036854775808 ≤ x.what
  w1 : x.what ≤ 9223372036854775807
  h0 : -9223372036854775808 ≤ x.how
  h1 : x.how ≤ 9223372036854775807
  n0 : 0 ≤ x.n
  n1 : x.n < 18446744073709551616
  key : x.key.length ≤ 1000000
  val : x.val.length ≤ 1000000
structure MidReq (r : ReqS) : Prop where
  c0 : 0 ≤ r.client
  c1 : r.client < 18446744073709551616
  n0 : 0 ≤ r.num
  n1 : r.num < 18446744073709551616
  r0 : 0 ≤ r.rev
  r1 : r.rev < 18446744073709551616
  lc : r.cmps.length ≤ 20
  lt : r.thn.length ≤ 20
  le : r.els.length ≤ 20
  cmps : ∀ x ∈ r.cmps, MidCmp x
  thn : ∀ x ∈ r.thn, MidOp x
  els : ∀ x ∈ r.els, MidOp x
theorem kinds_gives (kd : Nat) (h : kd < 4) (w : World) (K : Nat) (hK : w.heap.size = K) : Calls Tryz.prog 109 #[] w fun e w' => e = .returned (.slice (some ⟨K, 0, none⟩) 4 4) ∧ Keep (fun _ => False) w w' ∧ w'.cell? ⟨K, kd, none⟩ = some (sv (kinds.getD kd [])) := by
  subst hK
  refine (kinds_walk w).mono ?_
  rintro e w' ⟨rfl, rfl⟩
  refine ⟨rfl, (Keep.refl _ w).alloc _, ?_⟩
  rw [cell_of_block (block_new _ _)]
  rcases (by omega : kd = 0 ∨ kd = 1 ∨ kd = 2 ∨ kd = 3) with rfl | rfl | rfl | rfl <;> rfl
theorem carry {w1 w2 : World} {a : Addr} {x : Str} (hk : Keep (fun _ => False) w1 w2) (hc : w1.cell? a = some (sv x)) : w2.cell? a = some (sv x) := hk.cellOf hc (fun e => e)
theorem alloc_size (W : World) (o : Obj) : (W.alloc o).heap.size = W.heap.size + 1 := by simp
theorem carry_alloc {w1 : World} {a : Addr} {x : Str} (hc : w1.cell? a = some (sv x)) (o : Obj) : (w1.alloc o).cell? a = some (sv x) := ((Keep.refl (fun _ => False) w1).alloc o).cellOf hc (fun e => e)
/-- what reqText's first words come to -/
def CutQ (W : World) (ws : List Str) (s3 : Value) (wx : World) : Prop := WsAt wx W.heap.size s3 ws ∧ Keep (fun _ => False) W wx
theorem CutQ.mk {W wx : World} {ws : List Str} {b : Nat} (hk : Keep (fun _ => False) W wx) (hb : wx.heap[b]? = some (.cells (ws.map fun y => sv y).toArray 9 (0, 0))) (hbb : W.heap.size ≤ b) (hl : ws.length ≤ 1000000) (h0 : ws ≠ []) : CutQ W ws (.slice (some ⟨b, 0, none⟩) ws.length ws.length) wx :=
  ⟨WsAt.of_block hb hbb hl h0, hk⟩

theorem RowRead.at {α : Type} {enc : α → Array Value} {size : Nat} {w : World} {a : Option Addr} {c : Nat} {l : List α} (h : RowRead enc size w (.slice a l.length c) l) (k : Nat) (hk : k < l.length) : ∃ b o, a = some ⟨b, o, none⟩ ∧ w.rangeAt b (o + k * size) (enc l[k]).toList := by
  obtain ⟨a', c', h1, h2⟩ := h
  simp only [Value.slice.injEq] at h1
  obtain ⟨rfl, _, rfl⟩ := h1
  exact h2 k l[k] (List.getElem?_eq_getElem hk)
theorem flat6 (l : List CmpS) : (l.flatMap cmpWords).length = 6 * l.length := by
  induction l with
  | nil => rfl
  | cons x l ih => rw [List.flatMap_cons, List.length_append, ih]; simp [cmpWords]; omega
theorem flat2 (h : Str) (l : List OpS) : (l.flatMap fun x => [h, join (Sp.opWords x)]).length = 2 * l.length := by
  induction l with
  | nil => rfl
  | cons x l ih => rw [List.flatMap_cons, List.length_append, ih]; simp; omega
/-- at a step of a region that draws its order -/
theorem step_app_strs {ops : Array Oper} {o : Oper} {a : Act} {K : Act → World → Prop} {Q : Exit → Act → World → Prop} {E : Prop} {w : World} (hgd : o.guard = none) (s x : Operand)
    (ho : o.op = .call { callee := .builtin .append, args := #[s, x], argTypes := #[48, 48] }) (ht : o.type = 48) {b base c : Nat} {v : Value} {l : List Str} (ws : List Str) (hs : a.eval s = v) (hx : a.eval x = .slice (some ⟨b, 0, none⟩) ws.length c)
    (hown : WsAt w base v l) (hb : w.heap[b]? = some (.cells (ws.map fun y => sv y).toArray 9 (0, 0))) (hn : l.length + ws.length ≤ 1000000) (hbase : base ≤ w.heap.size)
    (h : ∀ v' w', WsAt w' base v' (l ++ ws) → w.grownBy w' v.ownBlock → K (a.put o.dst v') w') : if Region.wanted o (yielded ops a.tmps) = true then Oper.wp Tryz.prog o a w K Q else E := by
  obtain ⟨v', w', hr, h1, h2⟩ := app_strs (c := c) hown hb hn hbase
  exact step_append_run hgd s x 48 ho ht (by rw [hs, hx]; exact hr) (h v' w' h1 h2)
/-- in a plain region -/
theorem wpList_app_strs {ops : Array Oper} {rest : List Oper} {o : Oper} {a : Act} {Q : Exit → Act → World → Prop} {w : World} (hgd : o.guard = none) (s x : Operand)
    (ho : o.op = .call { callee := .builtin .append, args := #[s, x], argTypes := #[48, 48] }) (ht : o.type = 48) {b base c : Nat} {v : Value} {l : List Str} (ws : List Str) (hs : a.eval s = v) (hx : a.eval x = .slice (some ⟨b, 0, none⟩) ws.length c)
    (hown : WsAt w base v l) (hb : w.heap[b]? = some (.cells (ws.map fun y => sv y).toArray 9 (0, 0))) (hn : l.length + ws.length ≤ 1000000) (hbase : base ≤ w.heap.size)
    (h : ∀ v' w', WsAt w' base v' (l ++ ws) → w.grownBy w' v.ownBlock → wpList Tryz.prog ops Q rest (a.put o.dst v') w') : wpList Tryz.prog ops Q (o :: rest) a w := by
  obtain ⟨v', w', hr, h1, h2⟩ := app_strs (c := c) hown hb hn hbase
  exact wpList_plain hgd fun K hK => wp_append_run s x 48 ho ht (by rw [hs, hx]; exact hr) (hK _ _ (h v' w' h1 h2))
theorem keep_grown {W w1 w2 : World} {v : Value} (hk : Keep (fun _ => False) W w1) (hg : w1.grownBy w2 v.ownBlock) (hv : ∀ g, v.ownBlock = some g → W.heap.size ≤ g) : Keep (fun _ => False) W w2 :=
  hk.trans (Keep.of_grown (M := fun b => W.heap.size ≤ b) hg (fun k e _ => hv k e)) (fun b hb e => by omega)
theorem cell_grown {w1 w2 : World} {v : Value} {B i : Nat} {u : Value} (hc : w1.cell? ⟨B, i, none⟩ = some u) (hg : w1.grownBy w2 v.ownBlock) (hv : ∀ g, v.ownBlock = some g → g ≠ B) : w2.cell? ⟨B, i, none⟩ = some u :=
  (Keep.of_grown (M := fun b => b ≠ B) hg (fun k e _ => hv k e)).cellOf hc (fun e => e rfl)
theorem join_le {l : List Str} {m : Nat} (h : ∀ y ∈ l, y.length ≤ m) (hl : l.length ≤ 6) : (join l).length ≤ 6 * (m + 1) := Nat.le_trans (join_len l m h) (Nat.mul_le_mul_right _ hl)
theorem opText_le {x : OpS} (h : MidOp x) : (join (Sp.opWords x)).length ≤ 1000000000 := by
  have h1 : ∀ y ∈ Sp.opWords x, y.length ≤ 100000000 := by
    unfold Sp.opWords
    split
    · exact mem_all ⟨by decide, hexText_le h.key, hexText_le h.fin, itoa_le _, itoa_le _, markText_le (by decide) _, trivial⟩
    · split
      · exact mem_all ⟨by decide, hexText_le h.key, hexText_le h.val, markText_le (by decide) _, trivial⟩
      · exact mem_all ⟨by decide, hexText_le h.key, hexText_le h.fin, markText_le (by decide) _, trivial⟩
  have h2 : (Sp.opWords x).length ≤ 6 := by
    unfold Sp.opWords
    split
    · simp
    · split <;> simp
  have := join_le h1 h2
  omega
theorem parts_le {kd : Nat} (hkd : kd < 4) {client num rev : Int} {serial : Bool} {cmps : List CmpS} {thn els : List OpS} (hmc : ∀ x ∈ cmps, MidCmp x) (hmt : ∀ x ∈ thn, MidOp x) (hme : ∀ x ∈ els, MidOp x) :
    ∀ y ∈ [kinds.getD kd [], itoa client, itoa num, markText lS [serial], itoa rev] ++ cmps.flatMap cmpWords ++ (thn.flatMap fun x => [wThen, join (Sp.opWords x)]) ++ (els.flatMap fun x => [wElse, join (Sp.opWords x)]), y.length ≤ 1000000000 := by
  have hk : (kinds.getD kd []).length ≤ 100000000 := by
    rcases (by omega : kd = 0 ∨ kd = 1 ∨ kd = 2 ∨ kd = 3) with rfl | rfl | rfl | rfl <;> decide
  intro y hy
  rw [List.mem_append, List.mem_append, List.mem_append] at hy
  rcases hy with ((hy | hy) | hy) | hy
  · have := (mem_all (p := fun y => y.length ≤ 100000000) ⟨hk, itoa_le _, itoa_le _, markText_le (by decide) _, itoa_le _, trivial⟩ : ∀ y ∈ [kinds.getD kd [], itoa client, itoa num, markText lS [serial], itoa rev], y.length ≤ 100000000) y hy
    omega
  · obtain ⟨c, hc, hy⟩ := List.mem_flatMap.1 hy
    have hm := hmc c hc
    have := (mem_all (p := fun y => y.length ≤ 100000000) ⟨by decide, itoa_le _, itoa_le _, itoa_le _, hexText_le hm.key, hexText_le hm.val, trivial⟩ : ∀ y ∈ cmpWords c, y.length ≤ 100000000) y hy
    omega
  · obtain ⟨c, hc, hy⟩ := List.mem_flatMap.1 hy
    simp only [List.mem_cons, List.mem_nil_iff, or_false] at hy
    rcases hy with rfl | rfl
    · decide
    · exact opText_le (hmt c hc)
  · obtain ⟨c, hc, hy⟩ := List.mem_flatMap.1 hy
    simp only [List.mem_cons, List.mem_nil_iff, or_false] at hy
    rcases hy with rfl | rfl
    · decide
    · exact opText_le (hme c hc)
/-- the load of the kind's word: its cell is made within the region that loads it -/
def kindsLoad : Op := Op.load 9 (Operand.tmp 22)
theorem kindsLoad_eq : kindsLoad = Op.load 9 (Operand.tmp 22) := rfl
attribute [local go_sem ↓] kindsLoad_eq in
set_option maxHeartbeats 12800000 in
set_option maxRecDepth 100000 in
theorem reqText_go (kd : Nat) (hkd : kd < 4) (client num : Int) (serial : Bool) (rev : Int) (cmps : List CmpS) (thn els : List OpS) (ac at1 ae : Option Addr) (cc ct ce : Nat) (hm1 : 0 ≤ client) (hm2 : client < 18446744073709551616) (hm3 : 0 ≤ num) (hm4 : num < 18446744073709551616) (hm5 : 0 ≤ rev) (hm6 : rev < 18446744073709551616)
    (hlc : cmps.length ≤ 20) (hlt : thn.length ≤ 20) (hle : els.length ≤ 20) (hmc : ∀ x ∈ cmps, MidCmp x) (hmt : ∀ x ∈ thn, MidOp x) (hme : ∀ x ∈ els, MidOp x)
    (w : World) (hg : Glob w) (hrc : RowRead cmpCells 5 w (.slice ac cmps.length cc) cmps) (hrt : RowRead opCells 9 w (.slice at1 thn.length ct) thn) (hre : RowRead opCells 9 w (.slice ae els.length ce) els) :
    Calls Tryz.prog 75 #[.agg #[.int .i64 kd, .int .u64 client, .int .u64 num, .bool serial, .slice ac cmps.length cc, .slice at1 thn.length ct, .slice ae els.length ce, .int .u64 rev]] w (Gives (sv (join ([kinds.getD kd [], itoa client, itoa num, markText lS [serial], itoa rev] ++ cmps.flatMap cmpWords ++ (thn.flatMap fun x => [wThen, join (Sp.opWords x)]) ++ (els.flatMap fun x => [wElse, join (Sp.opWords x)])))) w) := by
  obtain ⟨N, hN⟩ : ∃ N : Nat, N = w.heap.size := ⟨_, rfl⟩
  obtain ⟨W, hW⟩ : ∃ W : World, W = w.alloc (.cells #[.int .i64 kd, .int .u64 client, .int .u64 num, .bool serial, .slice ac cmps.length cc, .slice at1 thn.length ct, .slice ae els.length ce, .int .u64 rev] 59) := ⟨_, rfl⟩
  have hkW : Keep (fun _ => False) w W := by rw [hW]; exact (Keep.refl _ w).alloc _
  have hbW : W.heap[N]? = some (.cells #[.int .i64 kd, .int .u64 client, .int .u64 num, .bool serial, .slice ac cmps.length cc, .slice at1 thn.length ct, .slice ae els.length ce, .int .u64 rev] 59 (0, 0)) := by rw [hW, hN]; exact block_new _ _
  have HS : ∀ w', Keep (fun _ => False) W w' → Keep (fun _ => False) W w' ∧ w'.cell? ⟨N, 0, none⟩ = some (.int .i64 kd) ∧ w'.cell? ⟨N, 1, none⟩ = some (.int .u64 client) ∧ w'.cell? ⟨N, 2, none⟩ = some (.int .u64 num) ∧ w'.cell? ⟨N, 3, none⟩ = some (.bool serial) ∧ w'.cell? ⟨N, 7, none⟩ = some (.int .u64 rev) := fun w' hk => by
    have hb := hk.at' hbW (fun e => e)
    exact ⟨hk, cell_of_block hb 0, cell_of_block hb 1, cell_of_block hb 2, cell_of_block hb 3, cell_of_block hb 7⟩
  have HRC : ∀ w', Keep (fun _ => False) W w' → RowRead cmpCells 5 w' (.slice ac cmps.length cc) cmps := fun w' hk => hrc.keep (hkW.trans' hk) (fun _ _ _ _ _ e => e)
  have HRT : ∀ w', Keep (fun _ => False) W w' → RowRead opCells 9 w' (.slice at1 thn.length ct) thn := fun w' hk => hrt.keep (hkW.trans' hk) (fun _ _ _ _ _ e => e)
  have HRE : ∀ w', Keep (fun _ => False) W w' → RowRead opCells 9 w' (.slice ae els.length ce) els := fun w' hk => hre.keep (hkW.trans' hk) (fun _ _ _ _ _ e => e)
  have HG : ∀ w', Keep (fun _ => False) W w' → Glob w' := fun w' hk => hg.far (hkW.trans' hk)
  have hc0 : W.cell? ⟨N, 0, none⟩ = some (.int .i64 kd) := cell_of_block hbW 0
  have hNW2 : N < W.heap.size := lt_of_block hbW
  have hkd0 : (0 : Int) ≤ (kd : Int) := by omega
  have hkd3 : (kd : Int) ≤ 3 := by omega
  have hkd4 : (kd : Int) < 4 := by omega
  have HSH := Lib.hid HS
  have HGH := Lib.hid HG
  have HRCH := Lib.hid HRC
  have HRTH := Lib.hid HRT
  have HREH := Lib.hid HRE
  have HBW := Lib.hid hbW
  have HMC := Lib.hid hmc
  have HMT := Lib.hid hmt
  have HME := Lib.hid hme
  have HW := Lib.hid hW
  have HNN := Lib.hid hN
  have HKW := Lib.hid hkW
  obtain ⟨fin, hfin⟩ : ∃ fin, fin = [kinds.getD kd [], itoa client, itoa num, markText lS [serial], itoa rev] ++ cmps.flatMap cmpWords ++ (thn.flatMap fun x => [wThen, join (Sp.opWords x)]) ++ (els.flatMap fun x => [wElse, join (Sp.opWords x)]) := ⟨_, rfl⟩
  rw [← hfin]
  have HFIN := Lib.hid hfin
  clear HS HG hW hN hkW hbW hg hrc hrt hre HRC HRT HRE hmc hmt hme hfin
  go_enter Tryz.func75, Tryz.ntmps75
  go_wp2_with fail
  rw [← HW.out]
  generalize hNW : w.heap.size = N' at *
  obtain rfl : N = N' := HNN.out
  go_wp2_with fail
  refine (must_ok _ _).mono ?_
  rintro e w' ⟨rfl, rfl⟩
  go_upto_region 2 with fail
  go_cut [3] from 19 to 37 (fun s3 wx => CutQ W [kinds.getD kd [], itoa client, itoa num, markText lS [serial], itoa rev] s3 wx)
  case first =>
    rename_i K0 hK0 J1 K1 hJ1 hmt
    clear hK0
    rw [show (Op.load 9 (Operand.tmp 22) : Op) = kindsLoad from rfl]
    go_region_held3 (fun w' => Keep (fun _ => False) W w' ∧ w'.cell? ⟨N, 0, none⟩ = some (.int .i64 kd) ∧ w'.cell? ⟨N, 1, none⟩ = some (.int .u64 client) ∧ w'.cell? ⟨N, 2, none⟩ = some (.int .u64 num) ∧ w'.cell? ⟨N, 3, none⟩ = some (.bool serial) ∧ w'.cell? ⟨N, 7, none⟩ = some (.int .u64 rev))
      (first | exact HSH.out _ ((Keep.refl _ _).drew) | exact HSH.out _ (held_call (by assumption) (by assumption)) | exact HSH.out _ (held_alloc (by assumption) _) | exact HSH.out _ (And.left (by assumption)))
      (first
        | (go_at_call 109; refine (kinds_gives kd hkd _ W.heap.size (by rfl)).mono ?_; rintro e w' ⟨rfl, hk, hkc⟩; have hka := fun o => carry_alloc hkc o)
        | (go_at_call 109; refine (kinds_gives kd hkd _ (W.heap.size + 1) (by exact alloc_size W _)).mono ?_; rintro e w' ⟨rfl, hk, hkc⟩; have hka := fun o => carry_alloc hkc o)
        | (go_at_call 105; refine (num_text _ (by assumption) (by assumption) _ (HGH.out _ (And.left (by assumption)))).mono ?_; rintro e w' ⟨rfl, hk⟩; (try (first | (have hkc2 := carry hk (by assumption); have hka2 := fun o => carry_alloc hkc2 o) | (have hkc2 := carry hk (carry_alloc (by assumption) _); have hka2 := fun o => carry_alloc hkc2 o))))
        | (go_at_call 107; refine (marked_blk lS [serial] _ _ _ (Nat.le_refl 1) (by decide) _ (by repeat (first | exact block_new _ _ | refine Keep.at' (by assumption) ?_ (fun e => e)))).mono ?_; rintro e w' ⟨rfl, hk⟩; (try (first | (have hkc2 := carry hk (by assumption); have hka2 := fun o => carry_alloc hkc2 o) | (have hkc2 := carry hk (carry_alloc (by assumption) _); have hka2 := fun o => carry_alloc hkc2 o)))))
    all_goals
      go_wp2_with fail
      go_meet
      exact CutQ.mk (And.left (by assumption)) (block_new _ _) (Keep.size (M := fun _ => False) (by repeat (first | exact Keep.refl _ _ | refine Keep.drew ?_ | refine Keep.alloc ?_ _ | refine Keep.trans' ?_ (by assumption)))) (by simp) (by simp)
  case rest =>
    obtain ⟨hws, hkc⟩ := hcut
    have HB := hkc.at' HBW.out (fun e => e)
    have hcc : wc.cell? ⟨N, 4, none⟩ = some (.slice ac cmps.length cc) := cell_of_block HB 4
    have HWS := Lib.hid hws
    have HKC := Lib.hid hkc
    clear HB hws hkc
    go_wp2_with fail
    clear hcc
    go_loopw [3, 41] (fun v3 v41 wr => ∃ k : Nat, k ≤ cmps.length ∧ v41 = .int .i64 k ∧ WsAt wr W.heap.size v3 ([kinds.getD kd [], itoa client, itoa num, markText lS [serial], itoa rev] ++ (cmps.take k).flatMap cmpWords) ∧ Keep (fun _ => False) W wr) (fun _ v41 _ => cmps.length - (intOf v41).toNat)
    case atStart => exact ⟨0, Nat.zero_le _, rfl, by simpa using HWS.out, HKC.out⟩
    case round =>
      obtain ⟨k, hk, rfl, hws, hkr⟩ := hrel
      obtain ⟨as3, cs3, rfl⟩ := hws.slice
      by_cases hlt2 : k < cmps.length
      · obtain ⟨b, o, hbo, hrng⟩ := (HRCH.out _ hkr).at k hlt2
        subst hbo
        have hmx := HMC.out _ (List.getElem_mem hlt2)
        have hst : ([kinds.getD kd [], itoa client, itoa num, markText lS [serial], itoa rev] ++ (cmps.take (k + 1)).flatMap cmpWords) = ([kinds.getD kd [], itoa client, itoa num, markText lS [serial], itoa rev] ++ (cmps.take k).flatMap cmpWords) ++ cmpWords cmps[k] := by
          rw [List.take_succ_eq_append_getElem hlt2, List.flatMap_append, List.append_assoc]
          simp
        have hlen : ([kinds.getD kd [], itoa client, itoa num, markText lS [serial], itoa rev] ++ (cmps.take k).flatMap cmpWords).length + 6 ≤ 1000000 := by
          rw [List.length_append, flat6 (cmps.take k)]
          have := List.length_take_le k cmps
          simp only [List.length_cons, List.length_nil]
          omega
        generalize hx : cmps[k] = x at *
        obtain ⟨key, what, how, n, val⟩ := x
        obtain ⟨hq1, hq2, hq3, hq4, hq5, hq6, hq7, hq8⟩ := hmx
        dsimp only at hq1 hq2 hq3 hq4 hq5 hq6 hq7 hq8
        obtain ⟨cs, hcs⟩ : ∃ cs, cs = cmpCells ⟨key, what, how, n, val⟩ := ⟨_, rfl⟩
        rw [← hcs] at hrng
        have hld := run_ld65 wr b _ cs (by rw [hcs]; rfl) hrng
        have hst2 := run_st65 (wr.alloc (.cells (cmpCells ⟨[], 0, 0, 0, []⟩) 65)) wr.heap.size 0 cs (there_of_block (block_new _ _) (by decide)) (by rw [hcs]; rfl) (by rw [hcs]; exact cmpCells_one _)
        obtain ⟨W1, hW1⟩ : ∃ W1 : World, W1 = (wr.alloc (.cells (cmpCells ⟨[], 0, 0, 0, []⟩) 65)).setCells wr.heap.size 0 cs.toList := ⟨_, rfl⟩
        rw [← hW1] at hst2
        obtain ⟨N1, hN1⟩ : ∃ N1 : Nat, N1 = wr.heap.size := ⟨_, rfl⟩
        have hb1 : W1.heap[N1]? = some (.cells (cmpCells ⟨key, what, how, n, val⟩) 65 (0, 0)) := by
          rw [hW1, hN1, block_setCells_all (block_new _ _) _ (by rw [hcs]; rfl), hcs]
        have hk1 : Keep (fun _ => False) wr W1 := by rw [hW1]; exact ((Keep.refl _ wr).alloc _).setCells _ _ _ (.inl (Nat.le_refl _))
        have hW1W : Keep (fun _ => False) W W1 := hkr.trans' hk1
        have hsz : W.heap.size ≤ W1.heap.size := hW1W.size
        have hws1 := hws.far hk1
        have hvN : ∀ g, (Value.slice as3 ([kinds.getD kd [], itoa client, itoa num, markText lS [serial], itoa rev] ++ (cmps.take k).flatMap cmpWords).length cs3).ownBlock = some g → g ≠ N1 := fun g hg => by
          have := (hws.lt g hg).2
          omega
        have hvW : ∀ g, (Value.slice as3 ([kinds.getD kd [], itoa client, itoa num, markText lS [serial], itoa rev] ++ (cmps.take k).flatMap cmpWords).length cs3).ownBlock = some g → W.heap.size ≤ g := fun g hg => (hws.lt g hg).1
        have HSK : ∀ w1 w2 : World, w1.cell? ⟨N1, 0, none⟩ = some (sv key) ∧ w1.cell? ⟨N1, 1, none⟩ = some (.int .i64 what) ∧ w1.cell? ⟨N1, 2, none⟩ = some (.int .i64 how) ∧ w1.cell? ⟨N1, 3, none⟩ = some (.int .u64 n) ∧ w1.cell? ⟨N1, 4, none⟩ = some (sv val) → Keep (fun _ => False) w1 w2 → w2.cell? ⟨N1, 0, none⟩ = some (sv key) ∧ w2.cell? ⟨N1, 1, none⟩ = some (.int .i64 what) ∧ w2.cell? ⟨N1, 2, none⟩ = some (.int .i64 how) ∧ w2.cell? ⟨N1, 3, none⟩ = some (.int .u64 n) ∧ w2.cell? ⟨N1, 4, none⟩ = some (sv val) := fun w1 w2 h hk => ⟨hk.cellOf h.1 (fun e => e), hk.cellOf h.2.1 (fun e => e), hk.cellOf h.2.2.1 (fun e => e), hk.cellOf h.2.2.2.1 (fun e => e), hk.cellOf h.2.2.2.2 (fun e => e)⟩
        generalize hL : ([kinds.getD kd [], itoa client, itoa num, markText lS [serial], itoa rev] ++ (cmps.take k).flatMap cmpWords) = L at *
        have HSG : ∀ w1 w2 : World, w1.cell? ⟨N1, 0, none⟩ = some (sv key) ∧ w1.cell? ⟨N1, 1, none⟩ = some (.int .i64 what) ∧ w1.cell? ⟨N1, 2, none⟩ = some (.int .i64 how) ∧ w1.cell? ⟨N1, 3, none⟩ = some (.int .u64 n) ∧ w1.cell? ⟨N1, 4, none⟩ = some (sv val) → w1.grownBy w2 (Value.slice as3 L.length cs3).ownBlock → w2.cell? ⟨N1, 0, none⟩ = some (sv key) ∧ w2.cell? ⟨N1, 1, none⟩ = some (.int .i64 what) ∧ w2.cell? ⟨N1, 2, none⟩ = some (.int .i64 how) ∧ w2.cell? ⟨N1, 3, none⟩ = some (.int .u64 n) ∧ w2.cell? ⟨N1, 4, none⟩ = some (sv val) := fun w1 w2 h hk => ⟨cell_grown h.1 hk hvN, cell_grown h.2.1 hk hvN, cell_grown h.2.2.1 hk hvN, cell_grown h.2.2.2.1 hk hvN, cell_grown h.2.2.2.2 hk hvN⟩
        have HS0 : W1.cell? ⟨N1, 0, none⟩ = some (sv key) ∧ W1.cell? ⟨N1, 1, none⟩ = some (.int .i64 what) ∧ W1.cell? ⟨N1, 2, none⟩ = some (.int .i64 how) ∧ W1.cell? ⟨N1, 3, none⟩ = some (.int .u64 n) ∧ W1.cell? ⟨N1, 4, none⟩ = some (sv val) := ⟨cell_of_block hb1 0, cell_of_block hb1 1, cell_of_block hb1 2, cell_of_block hb1 3, cell_of_block hb1 4⟩
        have HSKH := Lib.hid HSK
        have HSGH := Lib.hid HSG
        have HS0H := Lib.hid HS0
        have HGL := Lib.hid (HGH.out _ hW1W)
        have HO := Lib.hid hws1
        have HLEN := Lib.hid hlen
        have HST := Lib.hid hst
        have HKR := Lib.hid hkr
        have HK1 := Lib.hid hk1
        have HWW := Lib.hid hW1W
        have HVW := Lib.hid hvW
        have HW1 := Lib.hid hW1
        have HN1 := Lib.hid hN1
        have HL := Lib.hid hL
        have HCS := Lib.hid hcs
        have hlt3 : (k : Int) < (cmps.length : Int) := by omega
        clear HSK HSG HS0 hws1 hlen hst hkr hk1 hW1W hvW hvN hW1 hN1 hws hb1 hL hrng hcs
        unfold cmpCells at hst2
        go_wp2_with fail
        rw [← HN1.out]
        generalize hN1W : wr.heap.size = N1' at *
        obtain rfl : N1 = N1' := HN1.out
        clear hN1W hld hst2
        go_region_held3 (fun w' => w'.cell? ⟨N1, 0, none⟩ = some (sv key) ∧ w'.cell? ⟨N1, 1, none⟩ = some (.int .i64 what) ∧ w'.cell? ⟨N1, 2, none⟩ = some (.int .i64 how) ∧ w'.cell? ⟨N1, 3, none⟩ = some (.int .u64 n) ∧ w'.cell? ⟨N1, 4, none⟩ = some (sv val))
          (first | exact HS0H.out | exact HSKH.out _ _ (by assumption) (by assumption) | exact HSKH.out _ _ (by assumption) ((Keep.refl _ _).alloc _) | exact HSGH.out _ _ (by assumption) (by assumption))
          (first
            | (go_at_call 36; refine (itoa_any _ (by assumption) (by assumption) _ (HGL.out.far (by repeat (first | exact Keep.refl _ _ | refine Keep.drew ?_ | refine Keep.alloc ?_ _ | refine Keep.trans' ?_ (by assumption))))).mono ?_; rintro e w' ⟨rfl, hk⟩)
            | (go_at_call 105; refine (num_text _ (by assumption) (by assumption) _ (HGL.out.far (by repeat (first | exact Keep.refl _ _ | refine Keep.drew ?_ | refine Keep.alloc ?_ _ | refine Keep.trans' ?_ (by assumption))))).mono ?_; rintro e w' ⟨rfl, hk⟩)
            | (go_at_call 106; refine (hex_any _ (by assumption) _).mono ?_; rintro e w' ⟨rfl, hk⟩)
            | (refine step_app_strs rfl (.tmp 45) (.tmp 61) rfl rfl [wIf, itoa what, itoa how, itoa n, hexText key, hexText val] rfl rfl (WsAt.far HO.out ?c1) ?c2 HLEN.out ?c3 ?c4; (case c1 => exact (by repeat (first | exact Keep.refl _ _ | refine Keep.drew ?_ | refine Keep.alloc ?_ _ | refine Keep.trans' ?_ (by assumption)))); (case c2 => exact block_new _ _); (case c3 => exact Nat.le_trans hsz (Keep.size (M := fun _ => False) (by repeat (first | exact Keep.refl _ _ | refine Keep.drew ?_ | refine Keep.alloc ?_ _ | refine Keep.trans' ?_ (by assumption))))); intro v' w' ho hg))
        all_goals
          go_wp2_with fail
          go_roundw
          case rel =>
            refine ⟨k + 1, by omega, by go_num, ?_, ?_⟩
            · rw [HST.out]; exact ho
            · exact keep_grown (HWW.out.trans' (by repeat (first | exact Keep.refl _ _ | refine Keep.drew ?_ | refine Keep.alloc ?_ _ | refine Keep.trans' ?_ (by assumption)))) hg HVW.out
          case measure => simp [intOf]; omega
      · obtain rfl : k = cmps.length := by omega
        rw [List.take_length] at hws
        have HB := hkr.at' HBW.out (fun e => e)
        have hcc : wr.cell? ⟨N, 5, none⟩ = some (.slice at1 thn.length ct) := cell_of_block HB 5
        have HWS2 := Lib.hid hws
        have HKR2 := Lib.hid hkr
        clear HB hws hkr
        go_wp2_with fail
        clear hcc
        go_loopw [3, 67] (fun v3 vc wr => ∃ k : Nat, k ≤ thn.length ∧ vc = .int .i64 k ∧ WsAt wr W.heap.size v3 (([kinds.getD kd [], itoa client, itoa num, markText lS [serial], itoa rev] ++ cmps.flatMap cmpWords) ++ (thn.take k).flatMap fun x => [wThen, join (Sp.opWords x)]) ∧ Keep (fun _ => False) W wr) (fun _ vc _ => thn.length - (intOf vc).toNat)
        case atStart => exact ⟨0, Nat.zero_le _, rfl, by simpa using HWS2.out, HKR2.out⟩
        case round =>
          obtain ⟨k, hk, rfl, hws, hkr⟩ := hrel
          obtain ⟨as3, cs3, rfl⟩ := hws.slice
          by_cases hlt2 : k < thn.length
          · obtain ⟨b, o, hbo, hrng⟩ := (HRTH.out _ hkr).at k hlt2
            subst hbo
            have hmx := HMT.out _ (List.getElem_mem hlt2)
            have hst : (([kinds.getD kd [], itoa client, itoa num, markText lS [serial], itoa rev] ++ cmps.flatMap cmpWords) ++ (thn.take (k + 1)).flatMap fun x => [wThen, join (Sp.opWords x)]) = (([kinds.getD kd [], itoa client, itoa num, markText lS [serial], itoa rev] ++ cmps.flatMap cmpWords) ++ (thn.take k).flatMap fun x => [wThen, join (Sp.opWords x)]) ++ [wThen, join (Sp.opWords thn[k])] := by
              rw [List.take_succ_eq_append_getElem hlt2, List.flatMap_append, List.append_assoc]
              simp
            have hlen : (([kinds.getD kd [], itoa client, itoa num, markText lS [serial], itoa rev] ++ cmps.flatMap cmpWords) ++ (thn.take k).flatMap fun x => [wThen, join (Sp.opWords x)]).length + 2 ≤ 1000000 := by
              have h2 := flat2 wThen (thn.take k)
              have := List.length_take_le k thn
              have h6 := flat6 cmps
              have h7 := flat2 wThen thn
              simp only [List.length_append, List.length_cons, List.length_nil, h2, h6, h7]
              omega
            generalize hx : thn[k] = x at *
            have hcall := fun W' hg => opText_any x hmx W' hg
            have hjl := opText_le hmx
            obtain ⟨ot, hot⟩ : ∃ ot, ot = join (Sp.opWords x) := ⟨_, rfl⟩
            rw [← hot] at hst hcall hjl
            obtain ⟨cs, hcs⟩ : ∃ cs, cs = opCells x := ⟨_, rfl⟩
            rw [← hcs] at hrng hcall
            have hld := run_ld67 wr b _ cs (by rw [hcs]; rfl) hrng
            have hst2 := run_st67 (wr.alloc (.cells (opCells opZero) 67)) wr.heap.size 0 cs (there_of_block (block_new _ _) (by decide)) (by rw [hcs]; rfl) (by rw [hcs]; exact opCells_one _)
            obtain ⟨W1, hW1⟩ : ∃ W1 : World, W1 = (wr.alloc (.cells (opCells opZero) 67)).setCells wr.heap.size 0 cs.toList := ⟨_, rfl⟩
            rw [← hW1] at hst2
            have hb1 : W1.heap[wr.heap.size]? = some (.cells cs 67 (0, 0)) := by
              rw [hW1, block_setCells_all (block_new _ _) _ (by rw [hcs]; rfl)]
            have hld2 := run_ld67 W1 wr.heap.size 0 cs (by rw [hcs]; rfl) (range_of_block hb1)
            have hk1 : Keep (fun _ => False) wr W1 := by rw [hW1]; exact ((Keep.refl _ wr).alloc _).setCells _ _ _ (.inl (Nat.le_refl _))
            have hW1W : Keep (fun _ => False) W W1 := hkr.trans' hk1
            have hws1 := hws.far hk1
            have hvW : ∀ g, (Value.slice as3 (([kinds.getD kd [], itoa client, itoa num, markText lS [serial], itoa rev] ++ cmps.flatMap cmpWords) ++ (thn.take k).flatMap fun x => [wThen, join (Sp.opWords x)]).length cs3).ownBlock = some g → W.heap.size ≤ g := fun g hg => (hws.lt g hg).1
            generalize hL : (([kinds.getD kd [], itoa client, itoa num, markText lS [serial], itoa rev] ++ cmps.flatMap cmpWords) ++ (thn.take k).flatMap fun x => [wThen, join (Sp.opWords x)]) = L at *
            have HGL := Lib.hid (HGH.out _ hW1W)
            have HCALL := Lib.hid hcall
            have HO := Lib.hid hws1
            have HLEN := Lib.hid hlen
            have HST := Lib.hid hst
            have HWW := Lib.hid hW1W
            have HVW := Lib.hid hvW
            have HW1 := Lib.hid hW1
            have HL := Lib.hid hL
            have HCS := Lib.hid hcs
            have HOT := Lib.hid hot
            have HJL := Lib.hid hjl
            have hlt3 : (k : Int) < (thn.length : Int) := by omega
            clear hcall hws1 hlen hst hkr hk1 hW1W hvW hW1 hws hb1 hL hrng hcs hot hmx hjl hx
            unfold opCells opZero at hst2
            go_wp2_with fail
            refine (HCALL.out _ HGL.out).mono ?_
            rintro e w1 ⟨rfl, hk⟩
            have HK := Lib.hid hk
            clear hld hst2 hld2 hk
            go_wp2_with (at_builtin; refine wpList_app_strs rfl (.tmp 71) (.tmp 74) rfl rfl [wThen, ot] rfl rfl (WsAt.far HO.out (HK.out.alloc _)) (block_new _ _) HLEN.out (Keep.size (M := fun _ => False) (HWW.out.trans' (HK.out.alloc _))) ?_)
            intro v' w' ho hg
            go_wp2_with fail
            go_roundw
            case rel =>
              refine ⟨k + 1, by omega, by go_num, ?_, ?_⟩
              · rw [HST.out]; exact ho
              · exact keep_grown (HWW.out.trans' (HK.out.alloc _)) hg HVW.out
            case measure => simp [intOf]; omega
          · obtain rfl : k = thn.length := by omega
            rw [List.take_length] at hws
            have HB := hkr.at' HBW.out (fun e => e)
            have hcc : wr.cell? ⟨N, 6, none⟩ = some (.slice ae els.length ce) := cell_of_block HB 6
            have HWS3 := Lib.hid hws
            have HKR3 := Lib.hid hkr
            clear HB hws hkr
            go_wp2_with fail
            clear hcc
            go_loopw [3, 80] (fun v3 vc wr => ∃ k : Nat, k ≤ els.length ∧ vc = .int .i64 k ∧ WsAt wr W.heap.size v3 (([kinds.getD kd [], itoa client, itoa num, markText lS [serial], itoa rev] ++ cmps.flatMap cmpWords ++ (thn.flatMap fun x => [wThen, join (Sp.opWords x)])) ++ (els.take k).flatMap fun x => [wElse, join (Sp.opWords x)]) ∧ Keep (fun _ => False) W wr) (fun _ vc _ => els.length - (intOf vc).toNat)
            case atStart => exact ⟨0, Nat.zero_le _, rfl, by simpa using HWS3.out, HKR3.out⟩
            case round =>
              obtain ⟨k, hk, rfl, hws, hkr⟩ := hrel
              obtain ⟨as3, cs3, rfl⟩ := hws.slice
              by_cases hlt2 : k < els.length
              · obtain ⟨b, o, hbo, hrng⟩ := (HREH.out _ hkr).at k hlt2
                subst hbo
                have hmx := HME.out _ (List.getElem_mem hlt2)
                have hst : (([kinds.getD kd [], itoa client, itoa num, markText lS [serial], itoa rev] ++ cmps.flatMap cmpWords ++ (thn.flatMap fun x => [wThen, join (Sp.opWords x)])) ++ (els.take (k + 1)).flatMap fun x => [wElse, join (Sp.opWords x)]) = (([kinds.getD kd [], itoa client, itoa num, markText lS [serial], itoa rev] ++ cmps.flatMap cmpWords ++ (thn.flatMap fun x => [wThen, join (Sp.opWords x)])) ++ (els.take k).flatMap fun x => [wElse, join (Sp.opWords x)]) ++ [wElse, join (Sp.opWords els[k])] := by
                  rw [List.take_succ_eq_append_getElem hlt2, List.flatMap_append, List.append_assoc]
                  simp
                have hlen : (([kinds.getD kd [], itoa client, itoa num, markText lS [serial], itoa rev] ++ cmps.flatMap cmpWords ++ (thn.flatMap fun x => [wThen, join (Sp.opWords x)])) ++ (els.take k).flatMap fun x => [wElse, join (Sp.opWords x)]).length + 2 ≤ 1000000 := by
                  have h2 := flat2 wElse (els.take k)
                  have := List.length_take_le k els
                  have h6 := flat6 cmps
                  have h7 := flat2 wThen thn
                  simp only [List.length_append, List.length_cons, List.length_nil, h2, h6, h7]
                  omega
                generalize hx : els[k] = x at *
                have hcall := fun W' hg => opText_any x hmx W' hg
                have hjl := opText_le hmx
                obtain ⟨ot, hot⟩ : ∃ ot, ot = join (Sp.opWords x) := ⟨_, rfl⟩
                rw [← hot] at hst hcall hjl
                obtain ⟨cs, hcs⟩ : ∃ cs, cs = opCells x := ⟨_, rfl⟩
                rw [← hcs] at hrng hcall
                have hld := run_ld67 wr b _ cs (by rw [hcs]; rfl) hrng
                have hst2 := run_st67 (wr.alloc (.cells (opCells opZero) 67)) wr.heap.size 0 cs (there_of_block (block_new _ _) (by decide)) (by rw [hcs]; rfl) (by rw [hcs]; exact opCells_one _)
                obtain ⟨W1, hW1⟩ : ∃ W1 : World, W1 = (wr.alloc (.cells (opCells opZero) 67)).setCells wr.heap.size 0 cs.toList := ⟨_, rfl⟩
                rw [← hW1] at hst2
                have hb1 : W1.heap[wr.heap.size]? = some (.cells cs 67 (0, 0)) := by
                  rw [hW1, block_setCells_all (block_new _ _) _ (by rw [hcs]; rfl)]
                have hld2 := run_ld67 W1 wr.heap.size 0 cs (by rw [hcs]; rfl) (range_of_block hb1)
                have hk1 : Keep (fun _ => False) wr W1 := by rw [hW1]; exact ((Keep.refl _ wr).alloc _).setCells _ _ _ (.inl (Nat.le_refl _))
                have hW1W : Keep (fun _ => False) W W1 := hkr.trans' hk1
                have hws1 := hws.far hk1
                have hvW : ∀ g, (Value.slice as3 (([kinds.getD kd [], itoa client, itoa num, markText lS [serial], itoa rev] ++ cmps.flatMap cmpWords ++ (thn.flatMap fun x => [wThen, join (Sp.opWords x)])) ++ (els.take k).flatMap fun x => [wElse, join (Sp.opWords x)]).length cs3).ownBlock = some g → W.heap.size ≤ g := fun g hg => (hws.lt g hg).1
                generalize hL : (([kinds.getD kd [], itoa client, itoa num, markText lS [serial], itoa rev] ++ cmps.flatMap cmpWords ++ (thn.flatMap fun x => [wThen, join (Sp.opWords x)])) ++ (els.take k).flatMap fun x => [wElse, join (Sp.opWords x)]) = L at *
                have HGL := Lib.hid (HGH.out _ hW1W)
                have HCALL := Lib.hid hcall
                have HO := Lib.hid hws1
                have HLEN := Lib.hid hlen
                have HST := Lib.hid hst
                have HWW := Lib.hid hW1W
                have HVW := Lib.hid hvW
                have HW1 := Lib.hid hW1
                have HL := Lib.hid hL
                have HCS := Lib.hid hcs
                have HOT := Lib.hid hot
                have HJL := Lib.hid hjl
                have hlt3 : (k : Int) < (els.length : Int) := by omega
                clear hcall hws1 hlen hst hkr hk1 hW1W hvW hW1 hws hb1 hL hrng hcs hot hmx hjl hx
                unfold opCells opZero at hst2
                go_wp2_with fail
                refine (HCALL.out _ HGL.out).mono ?_
                rintro e w1 ⟨rfl, hk⟩
                have HK := Lib.hid hk
                clear hld hst2 hld2 hk
                go_wp2_with (at_builtin; refine wpList_app_strs rfl (.tmp 84) (.tmp 87) rfl rfl [wElse, ot] rfl rfl (WsAt.far HO.out (HK.out.alloc _)) (block_new _ _) HLEN.out (Keep.size (M := fun _ => False) (HWW.out.trans' (HK.out.alloc _))) ?_)
                intro v' w' ho hg
                go_wp2_with fail
                go_roundw
                case rel =>
                  refine ⟨k + 1, by omega, by go_num, ?_, ?_⟩
                  · rw [HST.out]; exact ho
                  · exact keep_grown (HWW.out.trans' (HK.out.alloc _)) hg HVW.out
                case measure => simp [intOf]; omega
              · obtain rfl : k = els.length := by omega
                rw [List.take_length] at hws
                have hwf : WsAt wr W.heap.size (.slice as3 fin.length cs3) fin := by rw [HFIN.out]; exact hws
                have hfl : fin.length ≤ 1000 := by
                  have h2 := flat2 wElse els
                  have h6 := flat6 cmps
                  have h7 := flat2 wThen thn
                  rw [HFIN.out]
                  simp only [List.length_append, List.length_cons, List.length_nil, h2, h6, h7]
                  omega
                have hfm : ∀ y ∈ fin, y.length ≤ 1000000000 := by
                  rw [HFIN.out]
                  exact parts_le hkd HMC.out HMT.out HME.out
                have hj := join_row fin W.heap.size _ wr hwf hfl hfm
                have he : (([kinds.getD kd [], itoa client, itoa num, markText lS [serial], itoa rev] ++ cmps.flatMap cmpWords ++ (thn.flatMap fun x => [wThen, join (Sp.opWords x)])) ++ (els.take els.length).flatMap fun x => [wElse, join (Sp.opWords x)]) = fin := by rw [List.take_length]; exact HFIN.out.symm
                rw [he]
                have HJ := Lib.hid hj
                have HKF := Lib.hid (HKW.out.trans' hkr)
                clear hwf hfl hfm hj hws hkr
                go_wp2_with fail
                refine HJ.out.mono ?_
                rintro e w1 ⟨rfl, hk⟩
                have HK := Lib.hid hk
                clear hk
                go_wp2_with fail
                go_ret
                exact ⟨rfl, HKF.out.trans' HK.out⟩
end Go.Proofs.YtifliekahdgobaaGreatDoor
