/-
  THE WALKS, 18: hex, marked. Helpers of the claims.
  THE WALKS, 19: words that are joined. Helpers of the claims.
  THE WALKS, 20: opText, watchText (printed by wip/tools/gen_text.py). Helpers of the claims.
  THE WALKS, 21: reqText. Helpers of the claims.
-/
import Derived.Deep.RegionHeld3
import Derived.Deep.AppendLies
import Derived.Test.YtifliekahdgobaaGreatDoorBSpecToThT
import Derived.Test.YtifliekahdgobaaGreatDoorBThQToReqM
import Derived.Test.YtifliekahdgobaaGreatDoorBW7ToThP
set_option linter.unusedSimpArgs false
set_option linter.unusedVariables false
namespace Go.Proofs.YtifliekahdgobaaGreatDoor
open Go.RowKit Sp

theorem step_append_run {ops : Array Oper} {o : Oper} {a : Act} {K : Act → World → Prop} {Q : Exit → Act → World → Prop} {E : Prop} {w w' : World} {v' : Value} (hgd : o.guard = none) (s x : Operand) (t : TypeId)
    (ho : o.op = .call { callee := .builtin .append, args := #[s, x], argTypes := #[t, t] }) (ht : o.type = t)
    (hr : (Builtin.append_ #[t, t] t #[a.eval s, a.eval x]).run Tryz.prog w = .ok v' w') (h : K (a.put o.dst v') w') : if Region.wanted o (yielded ops a.tmps) = true then Oper.wp Tryz.prog o a w K Q else E := by
  have hw : Region.wanted o (yielded ops a.tmps) = true := by simp [Region.wanted, hgd]
  rw [if_pos hw]
  exact wp_append_run s x t ho ht hr h
def hex2 (c : UInt8) : Str := [hx (c.toNat / 16), hx (c.toNat % 16)]
theorem hex2_len : ∀ x : Str, (x.flatMap hex2).length = 2 * x.length
  | [] => rfl
  | c :: r => by rw [List.flatMap_cons, List.length_append, hex2_len r]; simp [hex2]; omega
theorem Tryz.info5b : (Tryz.prog.info? 5).map (fun i => (i.zero, i.size, i.bytes)) = some (some (.int .u8 0), 1, 1) := by kernel_rfl
theorem idx_hex (a : Nat) (h : a < 16) (w : World) : (Instr.index 9 (.string ⟨#[48, 49, 50, 51, 52, 53, 54, 55, 56, 57, 97, 98, 99, 100, 101, 102]⟩) (.int .u8 (a : Int))).run Tryz.prog w = .ok (.int .u8 ((hx a).toNat : Int)) w := by
  rcases (by omega : a = 0 ∨ a = 1 ∨ a = 2 ∨ a = 3 ∨ a = 4 ∨ a = 5 ∨ a = 6 ∨ a = 7 ∨ a = 8 ∨ a = 9 ∨ a = 10 ∨ a = 11 ∨ a = 12 ∨ a = 13 ∨ a = 14 ∨ a = 15) with rfl | rfl | rfl | rfl | rfl | rfl | rfl | rfl | rfl | rfl | rfl | rfl | rfl | rfl | rfl | rfl
  all_goals kernel_rfl
theorem and15 (c : UInt8) : bits BinOp.and IntKind.u8 (c.toNat : Int) 15 = ((c.toNat % 16 : Nat) : Int) := by
  have := all_u8 (fun c => bits BinOp.and IntKind.u8 (c.toNat : Int) 15 == ((c.toNat % 16 : Nat) : Int)) (by decide +kernel) c
  simpa using this
set_option maxRecDepth 100000 in
theorem hex_some (x : Str) (hxl : x.length ≤ 1000000) (hne : (x == []) = false) (w : World) : Calls Tryz.prog 106 #[sv x] w (Gives (sv (hexText x)) w) := by
  obtain ⟨i5, hi, hz0, hz1, hz2⟩ := info_parts Tryz.info5b
  have kc := fun w => Lib.run_convert_string_bytes (P := Tryz.prog) w 9 47 5 ⟨x.toArray⟩ Tryz.underlying9 Tryz.underlying47 Tryz.underlying5
  obtain ⟨n, hn⟩ : ∃ n : Nat, n = 2 * x.length := ⟨_, rfl⟩
  have hq : (2 : Int) * (x.length : Int) = (n : Int) := by omega
  have hn2 : n ≤ 2000000 := by omega
  have HN := Lib.hid hn
  clear hn
  go_enter Tryz.func106, Tryz.ntmps106
  go_wp2_with (at_make; refine wpList_make_own _ rfl _ _ 47 rfl w.heap.size 5 i5 (.int .u8 0) 1 Tryz.underlying47 hi hz0 hz1 _ _ _ n rfl rfl (by omega) ?b2 ?b3 (Nat.le_refl _) ?_)
  case b2 => rw [hz2]; omega
  case b3 => unfold maxLen; omega
  intro w1 hown hgr
  go_wp2_with fail
  have hkW : Keep (fun _ => False) w1 (Lib.bytesWorld w1 5 ⟨x.toArray⟩) := Keep.of_below (Lib.bytesWorld_below _ _ _) (Nat.le_refl _)
  have hcW := fun j hj => Lib.bytesWorld_cell w1 5 ⟨x.toArray⟩ j hj
  have hgW := Lib.bytesWorld_size w1 5 ⟨x.toArray⟩
  have hownW := ownsRow_keep hown hkW (fun _ _ _ _ e => e)
  have hk1 : Keep (fun _ => False) w w1 := Keep.of_grown hgr (fun k e => by cases e)
  have hlt1 := (hown.lt w.heap.size rfl).2
  generalize hWd : Lib.bytesWorld w1 5 ⟨x.toArray⟩ = W at *
  clear hWd kc hown hgr
  go_loopw [3, 15] (fun v3 v15 wr => ∃ k : Nat, k ≤ x.length ∧ v15 = .int .i64 k ∧ v3 = .slice (some ⟨w.heap.size, 0, none⟩) (2 * k) n ∧ wr.ownsRow w.heap.size 5 1 (.slice (some ⟨w.heap.size, 0, none⟩) (2 * k) n) (2 * k) (Lib.byteCells ((x.take k).flatMap hex2)) ∧ Keep (fun b => b = w.heap.size) W wr) (fun _ v15 _ => x.length - (intOf v15).toNat)
  case atStart => exact ⟨0, Nat.zero_le _, rfl, rfl, hownW, Keep.refl _ _⟩
  case round =>
    obtain ⟨k, hk, rfl, rfl, hown, hkr⟩ := hrel
    have HCW := Lib.hid hcW
    clear hcW hownW
    by_cases hlt : k < x.length
    · obtain ⟨c, hc⟩ : ∃ c, x[k] = c := ⟨_, rfl⟩
      have hcc : wr.cell? ⟨w1.heap.size, k, none⟩ = some (.int .u8 c.toNat) := by
        rw [hkr.cell (show w1.heap.size < W.heap.size by omega) (show ¬ w1.heap.size = w.heap.size by omega), HCW.out k (by show k < x.toArray.size; simp; omega)]
        simp [hlt, hc]
      have hlt' : (k : Int) < (x.length : Int) := by omega
      have HC := Lib.hid hc
      have HO := Lib.hid hown
      clear hc hown
      have hcb : (c.toNat : Int) < 256 := by have := c.toNat_lt; omega
      obtain ⟨a, ha⟩ : ∃ a, a = c.toNat / 16 := ⟨_, rfl⟩
      obtain ⟨b, hb⟩ : ∃ b, b = c.toNat % 16 := ⟨_, rfl⟩
      have h1 : (c.toNat : Int) / 16 = (a : Int) := by omega
      have h2 : bits BinOp.and IntKind.u8 (c.toNat : Int) 15 = (b : Int) := by rw [and15, hb]
      have ia := idx_hex a (by omega)
      have ib := idx_hex b (by omega)
      have HA := Lib.hid ha
      have HB := Lib.hid hb
      clear ha hb
      obtain ⟨w4, hr4, ho4, hg4⟩ := run_append_fits (P := Tryz.prog) (wr.drew.alloc (.cells #[.int .u8 ((hx a).toNat : Int), .int .u8 ((hx b).toNat : Int)] 5 (0, 0))) w.heap.size 47 47 5 i5 1 Tryz.underlying47 hi hz1 w.heap.size (2 * k) n _ ((show wr.drew.ownsRow _ _ _ _ _ _ from HO.out).alloc _) ⟨wr.drew.heap.size, 0, none⟩ 2 2 [.int .u8 ((hx a).toNat : Int), .int .u8 ((hx b).toNat : Int)] rfl (World.news_of_block (block_new _ _)) (by intro u hu; simp at hu; rcases hu with rfl | rfl <;> rfl) (by have := HN.out; omega)
      go_wp2_with fail
      go_region_held3 (fun _ => True) (trivial) (first | (refine step_append_run rfl (.tmp 19) (.tmp 26) 47 rfl rfl hr4 ?_))
      all_goals
        go_wp2_with fail
        go_roundw
        case rel =>
          have ht : x.take (k + 1) = x.take k ++ [c] := by rw [List.take_succ_eq_append_getElem hlt, HC.out]
          refine ⟨k + 1, by omega, by go_num, rfl, ?_, ?_⟩
          · rw [ht, List.flatMap_append]
            show w4.ownsRow _ _ _ _ _ (Lib.byteCells (_ ++ (hex2 c ++ [])))
            rw [List.append_nil, Lib.byteCells_append]
            unfold hex2
            rw [← HA.out, ← HB.out]
            exact ho4
          · exact (hkr.drew.alloc _).trans (Keep.of_grown (M := fun b => b = w.heap.size) hg4 (fun k e _ => (Option.some.inj e).symm)) (fun b hb e => e)
        case measure => simp [intOf]; omega
    · have hge : ¬ (k : Int) < (x.length : Int) := by omega
      obtain rfl : k = x.length := by omega
      rw [List.take_length] at hown
      have hln := hex2_len x
      have hconv := conv_bytes w.heap.size n (x.flatMap hex2) wr (by rw [hln]; exact hown)
      rw [hln] at hconv
      clear hown
      go_wp2_with fail
      go_ret
      refine ⟨?_, (hk1.trans' hkW).trans hkr (fun b hb e => by omega)⟩
      unfold hexText
      rw [if_neg (by simpa using hne)]
      rfl
theorem hex_nil (w : World) : Calls Tryz.prog 106 #[sv []] w (Gives (sv (hexText [])) w) := by
  go_enter Tryz.func106, Tryz.ntmps106
  go_wp2_with fail
  go_ret
  exact ⟨rfl, Keep.refl _ _⟩
theorem hex_any (x : Str) (hxl : x.length ≤ 1000000) (w : World) : Calls Tryz.prog 106 #[sv x] w (Gives (sv (hexText x)) w) := by
  by_cases h : x = []
  · subst h; exact hex_nil w
  · exact hex_some x hxl (by simpa using h) w

/-! ### marked -/
theorem ba_append (x y : Str) : (⟨x.toArray⟩ : ByteArray) ++ ⟨y.toArray⟩ = ⟨(x ++ y).toArray⟩ := by
  apply ByteArray.ext
  simp
theorem ba_one (x : Str) (i : Nat) (h : i < x.length) : (⟨x.toArray⟩ : ByteArray).extract i (i + 1) = ⟨[x[i]].toArray⟩ := by
  apply ByteArray.ext
  simp only [ByteArray.data_extract]
  apply Array.ext'
  simp [List.take_one, List.head?_drop, h, List.getElem?_eq_getElem]
theorem markGo_append : ∀ (a : Str) (b : List Bool) (c : Str) (d : List Bool), a.length = b.length → markGo (a ++ c) (b ++ d) = markGo a b ++ markGo c d
  | [], [], c, d, _ => rfl
  | [], _ :: _, _, _, h => by simp at h
  | _ :: _, [], _, _, h => by simp at h
  | l :: a, x :: b, c, d, h => by
    have ih := markGo_append a b c d (by simpa using h)
    rw [List.cons_append, List.cons_append]
    simp only [markGo]
    rw [ih]
    cases x <;> simp
theorem markGo_take : ∀ (ls : Str) (is : List Bool), markGo (ls.take is.length) is = markGo ls is
  | [], [] => rfl
  | [], _ :: _ => rfl
  | _ :: _, [] => rfl
  | l :: ls, b :: is => by
    simp only [List.length_cons, List.take_succ_cons, markGo]
    rw [markGo_take ls is]
theorem markGo_step {ls : Str} {is : List Bool} {k : Nat} (hk : k < is.length) (hl : is.length ≤ ls.length) : markGo (ls.take (k + 1)) (is.take (k + 1)) = markGo (ls.take k) (is.take k) ++ (if is[k] then [ls[k]'(by omega)] else []) := by
  rw [List.take_succ_eq_append_getElem (by omega), List.take_succ_eq_append_getElem hk, markGo_append _ _ _ _ (by simp; omega)]
  simp only [markGo]
theorem markGo_len : ∀ (a : Str) (b : List Bool), (markGo a b).length ≤ a.length
  | [], b => by simp [markGo]
  | _ :: _, [] => by simp [markGo]
  | l :: a, x :: b => by
    have := markGo_len a b
    simp only [markGo]
    cases x <;> simp <;> omega
set_option maxRecDepth 100000 in
theorem marked_any (ls : Str) (is : List Bool) (b c : Nat) (hl : is.length ≤ ls.length) (hs : ls.length ≤ 4) (w : World) (hc : ∀ i, i < is.length → w.cell? ⟨b, i, none⟩ = some (.bool (is.getD i false))) :
    Calls Tryz.prog 107 #[sv ls, .slice (some ⟨b, 0, none⟩) is.length c] w (Gives (sv (markText ls is)) w) := by
  have HC := Lib.hid hc
  clear hc
  go_enter Tryz.func107, Tryz.ntmps107
  go_wp2_with fail
  go_loop [5, 6, 7, 10] (fun v5 v6 v7 v10 => ∃ k : Nat, k ≤ is.length ∧ v10 = .int .i64 k ∧ v5 = sv (markGo (ls.take k) (is.take k))) (fun _ _ _ v10 => is.length - (intOf v10).toNat)
  case atStart => exact ⟨0, Nat.zero_le _, rfl, rfl⟩
  case round =>
    obtain ⟨k, hk, rfl, rfl⟩ := hrel
    by_cases hlt : k < is.length
    · have hlt' : (k : Int) < (is.length : Int) := by omega
      have hkl : (k : Int) + 1 ≤ (ls.length : Int) := by omega
      have hcc := HC.out k hlt
      have hst := markGo_step hlt hl
      have hd : is.getD k false = is[k] := by simp [List.getD, hlt]
      rw [hd] at hcc
      generalize is[k] = x at hcc hst
      have HST := Lib.hid hst
      have hml := markGo_len (ls.take k) (is.take k)
      have hml2 : (markGo (ls.take k) (is.take k)).length ≤ 4 := by have := List.length_take_le k ls; omega
      clear hml
      generalize hmg : markGo (ls.take k) (is.take k) = m at *
      have hex := ba_one ls k (by omega)
      have HEX := Lib.hid hex
      clear hst hd hmg hex
      cases x
      · go_wp2_with fail
        exact ⟨⟨k + 1, by omega, by go_num, by rw [HST.out]; simp⟩, by simp [intOf]; omega⟩
      · go_wp2_with fail
        refine ⟨⟨k + 1, by omega, by go_num, ?_⟩, by simp [intOf]; omega⟩
        rw [HST.out, HEX.out, ba_append]
        rfl
    · obtain rfl : k = is.length := by omega
      rw [List.take_length, markGo_take]
      have hge : ¬ (is.length : Int) < (is.length : Int) := by omega
      have fin : sv (markText ls is) = if markGo ls is = [] then sv [45] else sv (markGo ls is) := by
        unfold markText
        split <;> rfl
      clear hk hlt
      generalize markGo ls is = m at *
      have FIN := Lib.hid fin
      clear fin
      by_cases hm : m = []
      · subst hm
        go_wp2_with fail
        go_ret
        exact ⟨(congrArg Ending.returned (FIN.out.trans (by simp))).symm, Keep.refl _ _⟩
      · have hm' : (m == []) = false := by simpa using hm
        have HM := Lib.hid hm
        clear hm
        go_wp2_with fail
        go_ret
        exact ⟨(congrArg Ending.returned (FIN.out.trans (if_neg HM.out))).symm, Keep.refl _ _⟩
end Go.Proofs.YtifliekahdgobaaGreatDoor
namespace Go.Proofs.YtifliekahdgobaaGreatDoor
open Go.RowKit Sp

/-- an operation whose numbers are of their kinds, of modest bytes -/
structure MidOp (x : OpS) : Prop where
  key : x.key.length ≤ 1000000
  fin : x.fin.length ≤ 1000000
  val : x.val.length ≤ 1000000
  rev0 : 0 ≤ x.rev
  rev1 : x.rev < 18446744073709551616
  lim0 : -9223372036854775808 ≤ x.limit
  lim1 : x.limit ≤ 9223372036854775807
theorem join_lib (ws : List Str) : Lib.join ws [32] = join ws := by
  unfold Lib.join
  induction ws with
  | nil => rfl
  | cons x r ih =>
    cases r with
    | nil => simp [join, List.intercalate]
    | cons y r =>
      rw [join, ← ih, List.intercalate_cons_cons]
      simp
theorem join_len : ∀ (ws : List Str) (m : Nat), (∀ x ∈ ws, x.length ≤ m) → (join ws).length ≤ ws.length * (m + 1)
  | [], _, _ => by simp [join]
  | [x], m, h => by
    have := h x List.mem_cons_self
    simp [join]; omega
  | x :: y :: r, m, h => by
    have h1 := h x List.mem_cons_self
    have h2 := join_len (y :: r) m (fun z hz => h z (List.mem_cons_of_mem _ hz))
    rw [join, List.length_append, List.length_cons, List.length_cons]
    rw [Nat.succ_mul]
    simp only [List.length_cons] at h2 ⊢
    omega
/-- strings.Join of words that lie in a block -/
theorem join_at (b T : Nat) (ws : List Str) (c : Nat) (w : World) (hb : w.heap[b]? = some (.cells (ws.map fun y => sv y).toArray T (0, 0))) (hc : ws.length ≤ c) (hn : ws.length ≤ 1000) (hm : ∀ x ∈ ws, x.length ≤ 100000000) :
    Calls Tryz.prog 20 #[.slice (some ⟨b, 0, none⟩) ws.length c, sv [32]] w (Gives (sv (join ws)) w) := by
  have hl := join_len ws 100000000 hm
  have h := Tryz.strings_Join b 0 c (ws.map fun y => (⟨y.toArray⟩ : ByteArray)) ⟨#[32]⟩ w (by
    intro j x hx
    rw [cell_of_block hb]
    simp only [List.getElem?_map, Option.map_eq_some_iff] at hx
    obtain ⟨y, hy, rfl⟩ := hx
    simp [hy]) (lt_of_block hb) (by simp; omega) (by simpa using hc) (by
    simp only [List.map_map]
    have : (ws.map ((fun x : ByteArray => x.data.toList) ∘ fun y => (⟨y.toArray⟩ : ByteArray))) = ws := by
      rw [List.map_congr_left (g := id) (fun _ _ => by simp)]; simp
    rw [this, join_lib]
    have : ws.length * (100000000 + 1) ≤ 1000 * (100000000 + 1) := Nat.mul_le_mul_right _ hn
    omega)
  simp only [List.length_map, List.map_map] at h
  have : (ws.map ((fun x : ByteArray => x.data.toList) ∘ fun y => (⟨y.toArray⟩ : ByteArray))) = ws := by
    rw [List.map_congr_left (g := id) (fun _ _ => by simp)]; simp
  rw [this] at h
  refine h.mono ?_
  rintro e w' ⟨rfl, hb'⟩
  rw [join_lib]
  exact ⟨rfl, Keep.of_below hb' (Nat.le_refl _)⟩
theorem hexText_len (s : Str) : (hexText s).length ≤ 2 * s.length + 1 := by
  unfold hexText
  split
  · simp
  · rw [flat_len]; omega
theorem itoa_len (n : Int) : (itoa n).length ≤ 100 := by
  unfold itoa dig
  have h1 : ∀ f n, (digGo f n).length ≤ f + 1 := by
    intro f
    induction f with
    | zero => intro n; simp [digGo]
    | succ f ih =>
      intro n
      unfold digGo
      split
      · simp
      · have := ih (n / 10)
        simp; omega
  split
  · have := h1 20 n.natAbs; simp; omega
  · have := h1 20 n.toNat; omega
theorem markText_len (ls : Str) (is : List Bool) : (markText ls is).length ≤ ls.length + 1 := by
  unfold markText
  split
  · simp
  · have := markGo_len ls is; omega
theorem marked_blk (ls : Str) (is : List Bool) (b c T : Nat) (hl : is.length ≤ ls.length) (hs : ls.length ≤ 4) (w : World) (hb : w.heap[b]? = some (.cells (is.map fun x => Value.bool x).toArray T (0, 0))) :
    Calls Tryz.prog 107 #[sv ls, .slice (some ⟨b, 0, none⟩) is.length c] w (Gives (sv (markText ls is)) w) :=
  marked_any ls is b c hl hs w (fun i hi => by rw [cell_of_block hb]; simp [hi, List.getD])
theorem mem_le {ws : List Str} {m : Nat} (h : ws.all (fun x => decide (x.length ≤ m)) = true) : ∀ x ∈ ws, x.length ≤ m := fun x hx => of_decide_eq_true (List.all_eq_true.1 h x hx)
theorem hexText_le {s : Str} (h : s.length ≤ 1000000) : (hexText s).length ≤ 100000000 := by have := hexText_len s; omega
theorem itoa_le (n : Int) : (itoa n).length ≤ 100000000 := by have := itoa_len n; omega
theorem markText_le {ls : Str} (h : ls.length ≤ 4) (is : List Bool) : (markText ls is).length ≤ 100000000 := by have := markText_len ls is; omega
theorem held_call {W w1 w2 : World} {R : Prop} (h : Keep (fun _ => False) W w1 ∧ R) (hk : Keep (fun _ => False) w1 w2) : Keep (fun _ => False) W w2 := h.1.trans' hk
theorem held_alloc {W w1 : World} {R : Prop} (h : Keep (fun _ => False) W w1 ∧ R) (o : Obj) : Keep (fun _ => False) W (w1.alloc o) := h.1.alloc o
/-- every one of a list -/
def AllIn (p : Str → Prop) : List Str → Prop
  | [] => True
  | x :: r => p x ∧ AllIn p r
theorem mem_all {p : Str → Prop} : ∀ {l : List Str}, AllIn p l → ∀ y ∈ l, p y
  | [], _, y, hy => by cases hy
  | x :: r, h, y, hy => by
    rcases List.mem_cons.1 hy with rfl | hy
    · exact h.1
    · exact mem_all h.2 y hy
end Go.Proofs.YtifliekahdgobaaGreatDoor
namespace Go.Proofs.YtifliekahdgobaaGreatDoor
open Go.RowKit Sp

set_option maxHeartbeats 3200000 in
set_option maxRecDepth 100000 in
theorem opText_range (x : OpS) (hm : MidOp x) (h0 : x.kind = 0) (w : World) (hg : Glob w) :
    Calls Tryz.prog 111 #[.agg (opCells x)] w (Gives (sv (join (Sp.opWords x))) w) := by
  obtain ⟨kind, key, fin, val, rev, limit, count, keys, prev⟩ := x
  obtain ⟨hm1, hm2, hm3, hm4, hm5, hm6, hm7⟩ := hm
  dsimp only at h0 hm1 hm2 hm3 hm4 hm5 hm6 hm7
  subst h0
  obtain ⟨N, hN⟩ : ∃ N : Nat, N = w.heap.size := ⟨_, rfl⟩
  obtain ⟨W, hW⟩ : ∃ W : World, W = w.alloc (.cells (opCells ⟨0, key, fin, val, rev, limit, count, keys, prev⟩) 67) := ⟨_, rfl⟩
  have hkW : Keep (fun _ => False) w W := by rw [hW]; exact (Keep.refl _ w).alloc _
  have hbW : W.heap[N]? = some (.cells (opCells ⟨0, key, fin, val, rev, limit, count, keys, prev⟩) 67 (0, 0)) := by rw [hW, hN]; exact block_new _ _
  have HS : ∀ w', Keep (fun _ => False) W w' → Keep (fun _ => False) W w' ∧ w'.cell? ⟨N, 1, none⟩ = some (sv key) ∧ w'.cell? ⟨N, 2, none⟩ = some (sv fin) ∧ w'.cell? ⟨N, 4, none⟩ = some (.int .u64 rev) ∧ w'.cell? ⟨N, 5, none⟩ = some (.int .i64 limit) ∧ w'.cell? ⟨N, 6, none⟩ = some (.bool count) ∧ w'.cell? ⟨N, 7, none⟩ = some (.bool keys) := fun w' hk => by
    have hb := hk.at' hbW (fun e => e)
    exact ⟨hk, cell_of_block hb 1, cell_of_block hb 2, cell_of_block hb 4, cell_of_block hb 5, cell_of_block hb 6, cell_of_block hb 7⟩
  have HG : ∀ w', Keep (fun _ => False) W w' → Glob w' := fun w' hk => hg.far (hkW.trans' hk)
  have hc0 : W.cell? ⟨N, 0, none⟩ = some (.int .i64 0) := cell_of_block hbW 0
  have HM : ∀ y ∈ [wRange, hexText key, hexText fin, itoa rev, itoa limit, markText lCk [count, keys]], y.length ≤ 100000000 := mem_all ⟨by decide, hexText_le hm1, hexText_le hm2, itoa_le _, itoa_le _, markText_le (by decide) _, trivial⟩
  have HMH := Lib.hid HM
  have HSH := Lib.hid HS
  have HGH := Lib.hid HG
  have HW := Lib.hid (show W = w.alloc (.cells #[.int .i64 0, sv key, sv fin, sv val, .int .u64 rev, .int .i64 limit, .bool count, .bool keys, .bool prev] 67) from hW)
  have HNN := Lib.hid hN
  have HKW := Lib.hid hkW
  clear HM HS HG hW hN hkW hbW hg
  unfold opCells
  go_enter Tryz.func111, Tryz.ntmps111
  go_wp2_with fail
  rw [← HW.out]
  generalize hNW : w.heap.size = N' at *
  obtain rfl : N = N' := HNN.out
  go_wp2_with fail
  go_region_held3 (fun w' => Keep (fun _ => False) W w' ∧ w'.cell? ⟨N, 1, none⟩ = some (sv key) ∧ w'.cell? ⟨N, 2, none⟩ = some (sv fin) ∧ w'.cell? ⟨N, 4, none⟩ = some (.int .u64 rev) ∧ w'.cell? ⟨N, 5, none⟩ = some (.int .i64 limit) ∧ w'.cell? ⟨N, 6, none⟩ = some (.bool count) ∧ w'.cell? ⟨N, 7, none⟩ = some (.bool keys))
    (first | exact HSH.out _ ((Keep.refl _ _).drew) | exact HSH.out _ (held_call (by assumption) (by assumption)) | exact HSH.out _ (held_alloc (by assumption) _))
    (first
      | (go_at_call 106; refine (hex_any _ (by assumption) _).mono ?_; rintro e w' ⟨rfl, hk⟩)
      | (go_at_call 105; refine (num_text _ (by assumption) (by assumption) _ (HGH.out _ (And.left (by assumption)))).mono ?_; rintro e w' ⟨rfl, hk⟩)
      | (go_at_call 36; refine (itoa_any _ (by assumption) (by assumption) _ (HGH.out _ (And.left (by assumption)))).mono ?_; rintro e w' ⟨rfl, hk⟩)
      | (go_at_call 107; refine (marked_blk lCk [count, keys] _ _ _ (Nat.le_refl 2) (by decide) _ (by repeat (first | exact block_new _ _ | refine Keep.at' (by assumption) ?_ (fun e => e)))).mono ?_; rintro e w' ⟨rfl, hk⟩)
      | (go_at_call 20; refine (join_at _ _ [wRange, hexText key, hexText fin, itoa rev, itoa limit, markText lCk [count, keys]] _ _ (block_new _ _) (Nat.le_refl _) (by simp) HMH.out).mono ?_; rintro e w' ⟨rfl, hk⟩))
  all_goals
    go_wp2_with fail
    go_ret
    exact ⟨rfl, Keep.trans' HKW.out (And.left (by assumption))⟩
set_option maxHeartbeats 3200000 in
set_option maxRecDepth 100000 in
theorem opText_put (x : OpS) (hm : MidOp x) (h0 : x.kind = 1) (w : World) (hg : Glob w) :
    Calls Tryz.prog 111 #[.agg (opCells x)] w (Gives (sv (join (Sp.opWords x))) w) := by
  obtain ⟨kind, key, fin, val, rev, limit, count, keys, prev⟩ := x
  obtain ⟨hm1, hm2, hm3, hm4, hm5, hm6, hm7⟩ := hm
  dsimp only at h0 hm1 hm2 hm3 hm4 hm5 hm6 hm7
  subst h0
  obtain ⟨N, hN⟩ : ∃ N : Nat, N = w.heap.size := ⟨_, rfl⟩
  obtain ⟨W, hW⟩ : ∃ W : World, W = w.alloc (.cells (opCells ⟨1, key, fin, val, rev, limit, count, keys, prev⟩) 67) := ⟨_, rfl⟩
  have hkW : Keep (fun _ => False) w W := by rw [hW]; exact (Keep.refl _ w).alloc _
  have hbW : W.heap[N]? = some (.cells (opCells ⟨1, key, fin, val, rev, limit, count, keys, prev⟩) 67 (0, 0)) := by rw [hW, hN]; exact block_new _ _
  have HS : ∀ w', Keep (fun _ => False) W w' → Keep (fun _ => False) W w' ∧ w'.cell? ⟨N, 1, none⟩ = some (sv key) ∧ w'.cell? ⟨N, 3, none⟩ = some (sv val) ∧ w'.cell? ⟨N, 8, none⟩ = some (.bool prev) := fun w' hk => by
    have hb := hk.at' hbW (fun e => e)
    exact ⟨hk, cell_of_block hb 1, cell_of_block hb 3, cell_of_block hb 8⟩
  have HG : ∀ w', Keep (fun _ => False) W w' → Glob w' := fun w' hk => hg.far (hkW.trans' hk)
  have hc0 : W.cell? ⟨N, 0, none⟩ = some (.int .i64 1) := cell_of_block hbW 0
  have HM : ∀ y ∈ [wPut, hexText key, hexText val, markText lP [prev]], y.length ≤ 100000000 := mem_all ⟨by decide, hexText_le hm1, hexText_le hm3, markText_le (by decide) _, trivial⟩
  have HMH := Lib.hid HM
  have HSH := Lib.hid HS
  have HGH := Lib.hid HG
  have HW := Lib.hid (show W = w.alloc (.cells #[.int .i64 1, sv key, sv fin, sv val, .int .u64 rev, .int .i64 limit, .bool count, .bool keys, .bool prev] 67) from hW)
  have HNN := Lib.hid hN
  have HKW := Lib.hid hkW
  clear HM HS HG hW hN hkW hbW hg
  unfold opCells
  go_enter Tryz.func111, Tryz.ntmps111
  go_wp2_with fail
  rw [← HW.out]
  generalize hNW : w.heap.size = N' at *
  obtain rfl : N = N' := HNN.out
  go_wp2_with fail
  go_region_held3 (fun w' => Keep (fun _ => False) W w' ∧ w'.cell? ⟨N, 1, none⟩ = some (sv key) ∧ w'.cell? ⟨N, 3, none⟩ = some (sv val) ∧ w'.cell? ⟨N, 8, none⟩ = some (.bool prev))
    (first | exact HSH.out _ ((Keep.refl _ _).drew) | exact HSH.out _ (held_call (by assumption) (by assumption)) | exact HSH.out _ (held_alloc (by assumption) _))
    (first
      | (go_at_call 106; refine (hex_any _ (by assumption) _).mono ?_; rintro e w' ⟨rfl, hk⟩)
      | (go_at_call 105; refine (num_text _ (by assumption) (by assumption) _ (HGH.out _ (And.left (by assumption)))).mono ?_; rintro e w' ⟨rfl, hk⟩)
      | (go_at_call 36; refine (itoa_any _ (by assumption) (by assumption) _ (HGH.out _ (And.left (by assumption)))).mono ?_; rintro e w' ⟨rfl, hk⟩)
      | (go_at_call 107; refine (marked_blk lP [prev] _ _ _ (Nat.le_refl 1) (by decide) _ (by repeat (first | exact block_new _ _ | refine Keep.at' (by assumption) ?_ (fun e => e)))).mono ?_; rintro e w' ⟨rfl, hk⟩)
      | (go_at_call 20; refine (join_at _ _ [wPut, hexText key, hexText val, markText lP [prev]] _ _ (block_new _ _) (Nat.le_refl _) (by simp) HMH.out).mono ?_; rintro e w' ⟨rfl, hk⟩))
  all_goals
    go_wp2_with fail
    go_ret
    exact ⟨rfl, Keep.trans' HKW.out (And.left (by assumption))⟩
set_option maxHeartbeats 3200000 in
set_option maxRecDepth 100000 in
theorem opText_del (x : OpS) (hm : MidOp x) (h0 : ¬ x.kind = 0) (h1 : ¬ x.kind = 1) (w : World) (hg : Glob w) :
    Calls Tryz.prog 111 #[.agg (opCells x)] w (Gives (sv (join (Sp.opWords x))) w) := by
  obtain ⟨kind, key, fin, val, rev, limit, count, keys, prev⟩ := x
  obtain ⟨hm1, hm2, hm3, hm4, hm5, hm6, hm7⟩ := hm
  dsimp only at h0 hm1 hm2 hm3 hm4 hm5 hm6 hm7
  have k0 : (kind == 0) = false := by simpa using h0
  have k1 : (kind == 1) = false := by simpa using h1
  have HF : Sp.opWords ⟨kind, key, fin, val, rev, limit, count, keys, prev⟩ = [wDel, hexText key, hexText fin, markText lP [prev]] := by
    unfold Sp.opWords
    dsimp only
    rw [if_neg h0, if_neg h1]
  rw [HF]
  clear h0 h1 HF
  obtain ⟨N, hN⟩ : ∃ N : Nat, N = w.heap.size := ⟨_, rfl⟩
  obtain ⟨W, hW⟩ : ∃ W : World, W = w.alloc (.cells (opCells ⟨kind, key, fin, val, rev, limit, count, keys, prev⟩) 67) := ⟨_, rfl⟩
  have hkW : Keep (fun _ => False) w W := by rw [hW]; exact (Keep.refl _ w).alloc _
  have hbW : W.heap[N]? = some (.cells (opCells ⟨kind, key, fin, val, rev, limit, count, keys, prev⟩) 67 (0, 0)) := by rw [hW, hN]; exact block_new _ _
  have HS : ∀ w', Keep (fun _ => False) W w' → Keep (fun _ => False) W w' ∧ w'.cell? ⟨N, 1, none⟩ = some (sv key) ∧ w'.cell? ⟨N, 2, none⟩ = some (sv fin) ∧ w'.cell? ⟨N, 8, none⟩ = some (.bool prev) := fun w' hk => by
    have hb := hk.at' hbW (fun e => e)
    exact ⟨hk, cell_of_block hb 1, cell_of_block hb 2, cell_of_block hb 8⟩
  have HG : ∀ w', Keep (fun _ => False) W w' → Glob w' := fun w' hk => hg.far (hkW.trans' hk)
  have hc0 : W.cell? ⟨N, 0, none⟩ = some (.int .i64 kind) := cell_of_block hbW 0
  have HM : ∀ y ∈ [wDel, hexText key, hexText fin, markText lP [prev]], y.length ≤ 100000000 := mem_all ⟨by decide, hexText_le hm1, hexText_le hm2, markText_le (by decide) _, trivial⟩
  have HMH := Lib.hid HM
  have HSH := Lib.hid HS
  have HGH := Lib.hid HG
  have HW := Lib.hid (show W = w.alloc (.cells #[.int .i64 kind, sv key, sv fin, sv val, .int .u64 rev, .int .i64 limit, .bool count, .bool keys, .bool prev] 67) from hW)
  have HNN := Lib.hid hN
  have HKW := Lib.hid hkW
  clear HM HS HG hW hN hkW hbW hg
  unfold opCells
  go_enter Tryz.func111, Tryz.ntmps111
  go_wp2_with fail
  rw [← HW.out]
  generalize hNW : w.heap.size = N' at *
  obtain rfl : N = N' := HNN.out
  go_wp2_with fail
  go_region_held3 (fun w' => Keep (fun _ => False) W w' ∧ w'.cell? ⟨N, 1, none⟩ = some (sv key) ∧ w'.cell? ⟨N, 2, none⟩ = some (sv fin) ∧ w'.cell? ⟨N, 8, none⟩ = some (.bool prev))
    (first | exact HSH.out _ ((Keep.refl _ _).drew) | exact HSH.out _ (held_call (by assumption) (by assumption)) | exact HSH.out _ (held_alloc (by assumption) _))
    (first
      | (go_at_call 106; refine (hex_any _ (by assumption) _).mono ?_; rintro e w' ⟨rfl, hk⟩)
      | (go_at_call 105; refine (num_text _ (by assumption) (by assumption) _ (HGH.out _ (And.left (by assumption)))).mono ?_; rintro e w' ⟨rfl, hk⟩)
      | (go_at_call 36; refine (itoa_any _ (by assumption) (by assumption) _ (HGH.out _ (And.left (by assumption)))).mono ?_; rintro e w' ⟨rfl, hk⟩)
      | (go_at_call 107; refine (marked_blk lP [prev] _ _ _ (Nat.le_refl 1) (by decide) _ (by repeat (first | exact block_new _ _ | refine Keep.at' (by assumption) ?_ (fun e => e)))).mono ?_; rintro e w' ⟨rfl, hk⟩)
      | (go_at_call 20; refine (join_at _ _ [wDel, hexText key, hexText fin, markText lP [prev]] _ _ (block_new _ _) (Nat.le_refl _) (by simp) HMH.out).mono ?_; rintro e w' ⟨rfl, hk⟩))
  all_goals
    go_wp2_with fail
    go_ret
    exact ⟨rfl, Keep.trans' HKW.out (And.left (by assumption))⟩
theorem opText_any (x : OpS) (hm : MidOp x) (w : World) (hg : Glob w) : Calls Tryz.prog 111 #[.agg (opCells x)] w (Gives (sv (join (Sp.opWords x))) w) := by
  by_cases h0 : x.kind = 0
  · exact opText_range x hm h0 w hg
  · by_cases h1 : x.kind = 1
    · exact opText_put x hm h1 w hg
    · exact opText_del x hm h0 h1 w hg
/-- a watch whose numbers are of their kinds, of modest bytes -/
structure MidWatch (x : WatchS) : Prop where
  id0 : 0 ≤ x.id
  id1 : x.id < 18446744073709551616
  key : x.key.length ≤ 1000000
  fin : x.fin.length ≤ 1000000
  st0 : 0 ≤ x.start
  st1 : x.start < 18446744073709551616
set_option maxHeartbeats 3200000 in
set_option maxRecDepth 100000 in
theorem watchText_any (x : WatchS) (hm : MidWatch x) (w : World) (hg : Glob w) :
    Calls Tryz.prog 71 #[.agg (watchCells x)] w (Gives (sv (join (watchWords x))) w) := by
  obtain ⟨id, key, fin, start, prev, noPut, noDelete, progress⟩ := x
  obtain ⟨hm1, hm2, hm3, hm4, hm5, hm6⟩ := hm
  dsimp only at hm1 hm2 hm3 hm4 hm5 hm6
  obtain ⟨N, hN⟩ : ∃ N : Nat, N = w.heap.size := ⟨_, rfl⟩
  obtain ⟨W, hW⟩ : ∃ W : World, W = w.alloc (.cells (watchCells ⟨id, key, fin, start, prev, noPut, noDelete, progress⟩) 61) := ⟨_, rfl⟩
  have hkW : Keep (fun _ => False) w W := by rw [hW]; exact (Keep.refl _ w).alloc _
  have hbW : W.heap[N]? = some (.cells (watchCells ⟨id, key, fin, start, prev, noPut, noDelete, progress⟩) 61 (0, 0)) := by rw [hW, hN]; exact block_new _ _
  have HS : ∀ w', Keep (fun _ => False) W w' → Keep (fun _ => False) W w' ∧ w'.cell? ⟨N, 0, none⟩ = some (.int .u64 id) ∧ w'.cell? ⟨N, 1, none⟩ = some (sv key) ∧ w'.cell? ⟨N, 2, none⟩ = some (sv fin) ∧ w'.cell? ⟨N, 3, none⟩ = some (.int .u64 start) ∧ w'.cell? ⟨N, 4, none⟩ = some (.bool prev) ∧ w'.cell? ⟨N, 5, none⟩ = some (.bool noPut) ∧ w'.cell? ⟨N, 6, none⟩ = some (.bool noDelete) ∧ w'.cell? ⟨N, 7, none⟩ = some (.bool progress) := fun w' hk => by
    have hb := hk.at' hbW (fun e => e)
    exact ⟨hk, cell_of_block hb 0, cell_of_block hb 1, cell_of_block hb 2, cell_of_block hb 3, cell_of_block hb 4, cell_of_block hb 5, cell_of_block hb 6, cell_of_block hb 7⟩
  have HG : ∀ w', Keep (fun _ => False) W w' → Glob w' := fun w' hk => hg.far (hkW.trans' hk)
  have HM : ∀ y ∈ [itoa id, hexText key, hexText fin, itoa start, markText lPndg [prev, noPut, noDelete, progress]], y.length ≤ 100000000 := mem_all ⟨itoa_le _, hexText_le hm3, hexText_le hm4, itoa_le _, markText_le (by decide) _, trivial⟩
  have HMH := Lib.hid HM
  have HSH := Lib.hid HS
  have HGH := Lib.hid HG
  have HW := Lib.hid (show W = w.alloc (.cells #[.int .u64 id, sv key, sv fin, .int .u64 start, .bool prev, .bool noPut, .bool noDelete, .bool progress] 61) from hW)
  have HNN := Lib.hid hN
  have HKW := Lib.hid hkW
  clear HM HS HG hW hN hkW hbW hg
  unfold watchCells
  go_enter Tryz.func71, Tryz.ntmps71
  go_wp2_with fail
  rw [← HW.out]
  generalize hNW : w.heap.size = N' at *
  obtain rfl : N = N' := HNN.out
  go_region_held3 (fun w' => Keep (fun _ => False) W w' ∧ w'.cell? ⟨N, 0, none⟩ = some (.int .u64 id) ∧ w'.cell? ⟨N, 1, none⟩ = some (sv key) ∧ w'.cell? ⟨N, 2, none⟩ = some (sv fin) ∧ w'.cell? ⟨N, 3, none⟩ = some (.int .u64 start) ∧ w'.cell? ⟨N, 4, none⟩ = some (.bool prev) ∧ w'.cell? ⟨N, 5, none⟩ = some (.bool noPut) ∧ w'.cell? ⟨N, 6, none⟩ = some (.bool noDelete) ∧ w'.cell? ⟨N, 7, none⟩ = some (.bool progress))
    (first | exact HSH.out _ ((Keep.refl _ _).drew) | exact HSH.out _ (held_call (by assumption) (by assumption)) | exact HSH.out _ (held_alloc (by assumption) _))
    (first
      | (go_at_call 106; refine (hex_any _ (by assumption) _).mono ?_; rintro e w' ⟨rfl, hk⟩)
      | (go_at_call 105; refine (num_text _ (by assumption) (by assumption) _ (HGH.out _ (And.left (by assumption)))).mono ?_; rintro e w' ⟨rfl, hk⟩)
      | (go_at_call 36; refine (itoa_any _ (by assumption) (by assumption) _ (HGH.out _ (And.left (by assumption)))).mono ?_; rintro e w' ⟨rfl, hk⟩)
      | (go_at_call 107; refine (marked_blk lPndg [prev, noPut, noDelete, progress] _ _ _ (Nat.le_refl 4) (by decide) _ (by repeat (first | exact block_new _ _ | refine Keep.at' (by assumption) ?_ (fun e => e)))).mono ?_; rintro e w' ⟨rfl, hk⟩)
      | (go_at_call 20; refine (join_at _ _ [itoa id, hexText key, hexText fin, itoa start, markText lPndg [prev, noPut, noDelete, progress]] _ _ (block_new _ _) (Nat.le_refl _) (by simp) HMH.out).mono ?_; rintro e w' ⟨rfl, hk⟩))
  all_goals
    go_wp2_with fail
    go_ret
    exact ⟨rfl, Keep.trans' HKW.out (And.left (by assumption))⟩
end Go.Proofs.YtifliekahdgobaaGreatDoor
namespace Go.Proofs.YtifliekahdgobaaGreatDoor
open Go.RowKit Sp

/-! ### what is joined of parts that were joined -/
theorem join_append : ∀ (a b : List Str), a ≠ [] → b ≠ [] → join (a ++ b) = join a ++ 32 :: join b
  | [], _, h, _ => absurd rfl h
  | [x], [], _, h => absurd rfl h
  | [x], y :: b, _, _ => rfl
  | x :: y :: a, b, _, h => by
    have ih := join_append (y :: a) b (by simp) h
    simp only [List.cons_append, join] at ih ⊢
    rw [ih]
    simp
theorem join_cons (x : Str) (b : List Str) (h : b ≠ []) : join (x :: b) = x ++ 32 :: join b := by
  cases b with
  | nil => exact absurd rfl h
  | cons y b => rfl
/-- words of which some are themselves words that were joined -/
theorem join_parts : ∀ (l : List (List Str)), (∀ p ∈ l, p ≠ []) → join (l.map join) = join l.flatten
  | [], _ => rfl
  | [p], _ => by simp [join]
  | p :: q :: l, h => by
    have hp := h p List.mem_cons_self
    have ih := join_parts (q :: l) (fun r hr => h r (List.mem_cons_of_mem _ hr))
    have hq := h q (List.mem_cons_of_mem _ List.mem_cons_self)
    have hne : (q :: l).flatten ≠ [] := by
      intro e
      rw [List.flatten_cons] at e
      exact hq (List.append_eq_nil_iff.1 e).1
    rw [List.map_cons, join_cons _ _ (by simp), ih]
    show join p ++ 32 :: join (q :: l).flatten = join (p ++ (q :: l).flatten)
    rw [join_append p _ hp hne]
/-- a request's words, an operation being one -/
def reqParts (r : ReqS) : List Str :=
  [kinds.getD r.kind.toNat [], itoa r.client, itoa r.num, markText lS [r.serial], itoa r.rev] ++ r.cmps.flatMap cmpWords ++ (r.thn.flatMap fun x => [wThen, join (Sp.opWords x)]) ++ (r.els.flatMap fun x => [wElse, join (Sp.opWords x)])
theorem opWords_ne (x : OpS) : Sp.opWords x ≠ [] := by
  unfold Sp.opWords
  split
  · simp
  · split <;> simp
theorem single_parts (l : List Str) : (l.map fun x => [x]).map join = l ∧ (l.map fun x => [x]).flatten = l := by
  induction l with
  | nil => exact ⟨rfl, rfl⟩
  | cons x l ih =>
    refine ⟨?_, ?_⟩
    · rw [List.map_cons, List.map_cons, ih.1]; rfl
    · rw [List.map_cons, List.flatten_cons, ih.2]; rfl
theorem ops_parts (h : Str) (l : List OpS) : (l.flatMap fun x => [[h], Sp.opWords x]).map join = (l.flatMap fun x => [h, join (Sp.opWords x)]) ∧ (l.flatMap fun x => [[h], Sp.opWords x]).flatten = l.flatMap fun x => h :: Sp.opWords x := by
  induction l with
  | nil => exact ⟨rfl, rfl⟩
  | cons x l ih =>
    refine ⟨?_, ?_⟩
    · rw [List.flatMap_cons, List.map_append, ih.1, List.flatMap_cons]; rfl
    · rw [List.flatMap_cons, List.flatten_append, ih.2, List.flatMap_cons]
      simp
theorem join_reqParts (r : ReqS) : join (reqParts r) = join (reqWords r) := by
  have h1 := single_parts ([kinds.getD r.kind.toNat [], itoa r.client, itoa r.num, markText lS [r.serial], itoa r.rev] ++ r.cmps.flatMap cmpWords)
  have h2 := ops_parts wThen r.thn
  have h3 := ops_parts wElse r.els
  have h := join_parts (([kinds.getD r.kind.toNat [], itoa r.client, itoa r.num, markText lS [r.serial], itoa r.rev] ++ r.cmps.flatMap cmpWords).map (fun x => [x]) ++ (r.thn.flatMap fun x => [[wThen], Sp.opWords x]) ++ (r.els.flatMap fun x => [[wElse], Sp.opWords x])) (by
    intro p hp
    rw [List.mem_append, List.mem_append] at hp
    rcases hp with (hp | hp) | hp
    · obtain ⟨x, _, rfl⟩ := List.mem_map.1 hp
      simp
    · obtain ⟨x, _, hx⟩ := List.mem_flatMap.1 hp
      simp only [List.mem_cons, List.mem_nil_iff, or_false] at hx
      rcases hx with rfl | rfl
      · simp
      · exact opWords_ne x
    · obtain ⟨x, _, hx⟩ := List.mem_flatMap.1 hp
      simp only [List.mem_cons, List.mem_nil_iff, or_false] at hx
      rcases hx with rfl | rfl
      · simp
      · exact opWords_ne x)
  rw [List.map_append, List.map_append, List.flatten_append, List.flatten_append, h1.1, h1.2, h2.1, h2.2, h3.1, h3.2] at h
  exact h

/-! ### rows that are read -/
/-- a slice of structs of so many cells, where it lies -/
def RowRead {α : Type} (enc : α → Array Value) (size : Nat) (w : World) (v : Value) (l : List α) : Prop :=
  ∃ a c, v = .slice a l.length c ∧ ∀ i x, l[i]? = some x → ∃ b o, a = some ⟨b, o, none⟩ ∧ w.rangeAt b (o + i * size) (enc x).toList
theorem flat_get {α : Type} (enc : α → Array Value) (size : Nat) (hs : ∀ x, (enc x).size = size) : ∀ (l : List α) (i : Nat) (x : α) (j : Nat) (u : Value), l[i]? = some x → (enc x).toList[j]? = some u → (flat enc l)[i * size + j]? = some u
  | [], i, x, j, u, h, _ => by simp at h
  | y :: l, 0, x, j, u, h, hu => by
    simp only [List.getElem?_cons_zero, Option.some.injEq] at h
    subst h
    unfold flat
    rw [List.flatMap_cons, Nat.zero_mul, Nat.zero_add, List.getElem?_append_left (by
      obtain ⟨h1, _⟩ := List.getElem?_eq_some_iff.1 hu
      exact h1)]
    exact hu
  | y :: l, i + 1, x, j, u, h, hu => by
    have ih := flat_get enc size hs l i x j u (by simpa using h) hu
    unfold flat at ih ⊢
    rw [List.flatMap_cons, List.getElem?_append_right (by rw [Array.length_toList, hs]; rw [Nat.succ_mul]; omega), Array.length_toList, hs]
    rw [show (i + 1) * size + j - size = i * size + j by rw [Nat.succ_mul]; omega]
    exact ih
theorem RowRead.of_own {α : Type} {enc : α → Array Value} {size base e : Nat} (hs : ∀ x, (enc x).size = size) {w : World} {v : Value} {l : List α} (h : w.ownsRow base e size v l.length (flat enc l)) : RowRead enc size w v l := by
  obtain ⟨a, c, rfl, hc⟩ := ownsRow_len h
  refine ⟨a, c, rfl, ?_⟩
  intro i x hx
  rcases h.2 with ⟨h1, h2⟩ | ⟨g, cap, cur, h1, hb, hg, rest⟩
  · obtain ⟨h3, _⟩ := List.getElem?_eq_some_iff.1 hx
    omega
  · simp only [Value.slice.injEq] at h1
    obtain ⟨rfl, _, rfl⟩ := h1
    refine ⟨g, 0, rfl, ?_⟩
    intro j u hu
    have hh := h.cells (g := g) rfl (i * size + j) u (flat_get enc size hs l i x j u hx hu)
    rw [Lib.add_plain] at hh
    rw [show 0 + i * size + j = 0 + (i * size + j) by omega]
    exact hh
theorem RowRead.keep {α : Type} {enc : α → Array Value} {size : Nat} {M : Nat → Prop} {w w' : World} {v : Value} {l : List α} (h : RowRead enc size w v l) (hk : Keep M w w') (hM : ∀ b o n c, v = .slice (some ⟨b, o, none⟩) n c → ¬ M b) : RowRead enc size w' v l := by
  obtain ⟨a, c, rfl, h1⟩ := h
  refine ⟨a, c, rfl, ?_⟩
  intro i x hx
  obtain ⟨b, o, rfl, h2⟩ := h1 i x hx
  refine ⟨b, o, rfl, ?_⟩
  have hnb : ¬ M b := hM b o _ _ rfl
  intro j u hu
  have := h2 j u hu
  exact hk.cellOf this hnb
end Go.Proofs.YtifliekahdgobaaGreatDoor
