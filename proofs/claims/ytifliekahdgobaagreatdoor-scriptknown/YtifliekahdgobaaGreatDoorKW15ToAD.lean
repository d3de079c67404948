/-
  THE WALKS, 15: read (both kinds of line), safely. Helpers of the claims.
  PLAIN: the pieces that FieldsFunc cuts are the words (fields). Helpers of the claims.
  THE WALKS, 16: words. Helpers of the claims.
  THE WALKS, 24: Parse. Helpers of the claims.
  THE WALKS, 27: the map of names; a step's text in its parts. Helpers of the claims.
  STRINGS ADDED: the operation under a word of its own. Helpers of the claims.
-/
import Derived.Defers
import Derived.Recover
import Derived.Laws.Pointers
import Derived.Lib.FieldsP
import Derived.Lib.DecodeN
import Derived.Laws.RangeAny
import Derived.Lib.SlBy
import Derived.Test.YtifliekahdgobaaGreatDoorKW14
import Derived.Test.YtifliekahdgobaaGreatDoorKSpecToThT
import Derived.Test.YtifliekahdgobaaGreatDoorKW12ToThY
import Derived.Test.YtifliekahdgobaaGreatDoorKW26ToW13
import Derived.Test.YtifliekahdgobaaGreatDoorKThQToW19
set_option linter.unusedSimpArgs false
set_option linter.unusedVariables false
namespace Go.Proofs.YtifliekahdgobaaGreatDoor
open Go.RowKit Sp

theorem read_any (base gb rb off c : Nat) (v : Value) (s : ScriptS) (x : Str) (ws : List Str) (w : World) (hs : ScriptAt w base gb s v) (hw : WordsAt w rb off c (x :: ws)) (hbase : base ≤ w.heap.size) :
    Calls Tryz.prog 27 #[.pointer (some ⟨gb, 0, none⟩), .slice (some ⟨rb, off, none⟩) (ws.length + 1) c] w (GotRead base gb v w (line s (x :: ws))) := by
  by_cases hx : x = wNodes
  · subst hx
    exact read_nodes base gb rb off c v s ws w hs hw
  · exact read_other base gb rb off c v s x ws w hs hw (by
      have h9 : ¬ x = [110, 111, 100, 101, 115] := hx
      simpa using h9) hbase

theorem catch_idle (p : Addr) (w : World) :
    CallsD Tryz.prog 52 #[.pointer (some p)] .returning w fun e u' w' => e = .returned (.tuple #[]) ∧ u' = .returning ∧ w' = w := by
  refine callsD_of_wpS Tryz.func52 rfl fun c₀ cs hu => ?_
  apply wpS_seq
  apply wpS_region
  simp [wpOpsS, go_sem, recoverD, hu, Tryz.ntmps52, Exit.thenS]
  apply wpS_seq
  apply wpS_region
  simp [wpOpsS, go_sem, Exit.thenS]
  refine wpS_cond (t := false) (by simp [Act.eval, Array.replicate]) ?_
  simp only [Bool.false_eq_true, if_false]
  refine wpS_of_wp (wp_skip ?_)
  cases c₀
  simp_all [bodyPostS, results]
set_option maxRecDepth 100000 in
theorem catch_gave (N : Nat) (c : Int) (older : List PanicEntry) (w : World) (hb : w.heap[N]? = some (.cells #[.int .i64 0] 30 (0, 0))) :
    CallsD Tryz.prog 52 #[.pointer (some ⟨N, 0, none⟩)] (.panicking ({ v := wrongV c, recovered := false } :: older)) w fun e u' w' =>
      e = .returned (.tuple #[]) ∧ u' = .panicking ({ v := wrongV c, recovered := true } :: older) ∧ w' = (w.setCell ⟨N, 0, none⟩ (.int .i64 c)).alloc (.cells #[.int .i64 c] 112) := by
  have hlt := lt_of_block hb
  have hc : w.cell? ⟨N, 0, none⟩ = some (.int .i64 0) := cell_of_block hb 0
  have hf := free_of_block hb 0
  have hta : ∀ w : World, (Instr.typeAssert (.iface 112 (.agg #[.int .i64 c])) 20 112 true).run Tryz.prog w = .ok (.tuple #[.agg #[.int .i64 c], .bool true]) w := fun w => by kernel_rfl
  have hne : ¬ N = w.heap.size := by omega
  unfold wrongV
  refine callsD_of_wpS Tryz.func52 rfl fun c₀ cs hu => ?_
  apply wpS_seq
  apply wpS_region
  simp [wpOpsS, go_sem, recoverD, hu, Tryz.ntmps52, Exit.thenS]
  apply wpS_seq
  apply wpS_region
  simp [wpOpsS, go_sem, Exit.thenS]
  refine wpS_cond (t := true) (by simp [Act.eval, Array.replicate]) ?_
  simp only [if_true]
  refine wpS_of_wp ?_
  simp only [List.size_toArray, List.length_cons, List.length_nil, Nat.reduceAdd, Nat.reduceSub, Array.replicate_succ, Array.replicate_zero, List.push_toArray, List.append_toArray, List.nil_append, List.cons_append, List.setIfInBounds_toArray, List.set_cons_zero, List.set_cons_succ]
  go_wp2_with fail
  cases c₀
  simp_all [bodyPostS, results]
/-- safely, of a closure that ends as Q says: 0 if it returns; what it gave up by, if it gave up -/
def GotSafely (w : World) (Q : Ending → World → Prop) (e : Ending) (w' : World) : Prop :=
  ∃ e1 w1, Q e1 w1 ∧ Keep (fun b => b = w.heap.size) w1 w' ∧ ((e1 = .returned (.tuple #[]) ∧ e = .returned (.int .i64 0)) ∨ ∃ c, e1 = gaveUp c ∧ e = .returned (.int .i64 c))
theorem safely_any (x y : Value) (w : World) (Q : Ending → World → Prop)
    (h : Calls Tryz.prog 26 #[x, y] (w.alloc (.cells #[.int .i64 0] 30)) Q) (hQ : ∀ e w', Q e w' → Keep (fun b => b < w.heap.size) (w.alloc (.cells #[.int .i64 0] 30)) w' ∧ (e = .returned (.tuple #[]) ∨ ∃ c, e = gaveUp c)) :
    Calls Tryz.prog 25 #[.func (.func 26) #[] #[x, y]] w (GotSafely w Q) := by
  have hmf : ∀ (fn : Fn) (first cap : Array Value) (w : World), (Instr.makeFunc fn first cap).run Tryz.prog w = .ok (.func fn first cap) w := fun _ _ _ _ => rfl
  go_enter_defers Tryz.func25, Tryz.ntmps25
  go_wp2_with fail
  refine h.mono ?_
  intro e w1 hq
  obtain ⟨hk, hc⟩ := hQ e w1 hq
  have hb := hk.at' (block_new w (.cells #[.int .i64 0] 30 (0, 0))) (Nat.lt_irrefl _)
  have hc0 : w1.cell? ⟨w.heap.size, 0, none⟩ = some (.int .i64 0) := cell_of_block hb 0
  have hf0 := free_of_block hb 0
  rcases hc with rfl | ⟨c, rfl⟩
  · have HQQ := Lib.hid hq
    have HB := Lib.hid hb
    clear hq hQ h hb hk
    go_wp2_with fail
    refine leaves_cons (f := 52) (args := #[.pointer (some ⟨w.heap.size, 0, none⟩)]) (by simp) (by simp [go_sem]) ?_
    refine (catch_idle ⟨w.heap.size, 0, none⟩ _).mono ?_
    rintro e u' w'' ⟨rfl, rfl, rfl⟩
    have hk0 : Keep (fun b => b = w.heap.size) w1 (w1.setCell ⟨w.heap.size, 0, none⟩ (.int .i64 0)) := (Keep.refl (fun b => b = w.heap.size) w1).setCell _ _ (.inr rfl)
    have hfin : GotSafely w Q (.returned (.int .i64 0)) (w1.setCell ⟨w.heap.size, 0, none⟩ (.int .i64 0)) := ⟨_, w1, HQQ.out, hk0, .inl ⟨rfl, rfl⟩⟩
    simp [Leaves, settle, results, go_sem, hc0, hfin]
  · have HQQ := Lib.hid hq
    clear hq hQ h hk
    refine leaves_cons (f := 52) (args := #[.pointer (some ⟨w.heap.size, 0, none⟩)]) (by simp) (by simp [go_sem]) ?_
    refine (catch_gave w.heap.size c [] w1 hb).mono ?_
    rintro e u' w'' ⟨rfl, rfl, rfl⟩
    have hk0 : Keep (fun b => b = w.heap.size) w1 ((w1.setCell ⟨w.heap.size, 0, none⟩ (.int .i64 c)).alloc (.cells #[.int .i64 c] 112)) := ((Keep.refl (fun b => b = w.heap.size) w1).setCell _ _ (.inr rfl)).alloc _
    have hfin : GotSafely w Q (.returned (.int .i64 c)) ((w1.setCell ⟨w.heap.size, 0, none⟩ (.int .i64 c)).alloc (.cells #[.int .i64 c] 112)) := ⟨_, w1, HQQ.out, hk0, .inr ⟨c, rfl, rfl⟩⟩
    have hc2 : ((w1.setCell ⟨w.heap.size, 0, none⟩ (.int .i64 c)).alloc (.cells #[.int .i64 c] 112)).cell? ⟨w.heap.size, 0, none⟩ = some (.int .i64 c) := cell_of_block (block_alloc (block_setCell hb 0 (.int .i64 c)) _) 0
    simp [Leaves, settle, results, go_sem, hc2, hfin]
end Go.Proofs.YtifliekahdgobaaGreatDoor
namespace Go.Proofs.YtifliekahdgobaaGreatDoor
open Sp

/-- behind a byte of 128 and more: what else is taken with it is of 128 and more -/
theorem decode_cont (s : ByteArray) (i : Nat) (j : Nat) (h1 : 1 ≤ j) (h2 : j < (Utf8.decode s i).2) : i + j < s.size ∧ 128 ≤ (s.get! (i + j)).toNat := by
  rw [Lib.decode_at] at h2
  unfold Lib.decodeN at h2
  split at h2
  · simp at h2; omega
  · split at h2
    · rename_i h
      split at h2
      · simp only at h2
        obtain rfl : j = 1 := by omega
        omega
      · simp at h2; omega
    · split at h2
      · rename_i h
        split at h2
        · simp only at h2
          rcases (show j = 1 ∨ j = 2 by omega) with rfl | rfl <;> omega
        · simp at h2; omega
      · split at h2
        · rename_i h
          split at h2
          · simp only at h2
            rcases (show j = 1 ∨ j = 2 ∨ j = 3 by omega) with rfl | rfl | rfl <;> omega
          · simp at h2; omega
        · simp at h2; omega
/-- the Sp.blank runes -/
def bl (r : Nat) : Bool := r == 32 || r == 9
/-- the spans, byte by byte -/
def bspans (l : Str) (pos : Nat) : Option Nat → List (Nat × Nat) :=
  match l with
  | [] => fun st => match st with
    | some a => [(a, pos)]
    | none => []
  | c :: r => fun st => if Sp.blank c then (match st with
      | some a => (a, pos) :: bspans r (pos + 1) none
      | none => bspans r (pos + 1) none) else bspans r (pos + 1) (some (st.getD pos))
theorem bspans_run : ∀ (l : Str) (n pos : Nat) (st : Option Nat), n ≤ l.length → 1 ≤ n → (∀ c ∈ l.take n, Sp.blank c = false) → bspans l pos st = bspans (l.drop n) (pos + n) (some (st.getD pos))
  | l, 0, _, _, _, h, _ => by omega
  | [], n + 1, _, _, h, _, _ => by simp at h
  | c :: r, 1, pos, st, _, _, h3 => by
    have := h3 c (by simp)
    rw [bspans]
    dsimp only
    rw [if_neg (by simp [this])]
    rfl
  | c :: r, n + 2, pos, st, h1, _, h3 => by
    have := h3 c (by simp)
    rw [bspans]
    dsimp only
    rw [if_neg (by simp [this]), bspans_run r (n + 1) (pos + 1) _ (by simpa using h1) (by omega) (fun d hd => h3 d (by simp only [List.take_succ_cons]; exact List.mem_cons_of_mem _ hd))]
    rw [List.drop_succ_cons, show pos + 1 + (n + 1) = pos + (n + 2) by omega]
    rfl
theorem bl_high {r : Nat} (h : 128 ≤ r) : bl r = false := by
  unfold bl
  simp only [Bool.or_eq_false_iff, beq_eq_false_iff_ne]
  omega
theorem bl_byte (c : UInt8) : bl c.toNat = Sp.blank c := by
  unfold bl Sp.blank
  rw [Bool.eq_iff_iff]
  simp only [Bool.or_eq_true, beq_iff_eq, ← UInt8.toNat_inj]
  rfl
theorem blank_high {c : UInt8} (h : 128 ≤ c.toNat) : Sp.blank c = false := by rw [← bl_byte, bl_high h]
theorem width_in (s : ByteArray) (i : Nat) (h : i < s.size) : 1 ≤ (Utf8.decode s i).2 ∧ i + (Utf8.decode s i).2 ≤ s.size := by
  have h1 : 1 ≤ (Utf8.decode s i).2 := by
    by_cases ha : (s[i]'h).toNat < 128
    · rw [decode_ascii s i h ha]; exact Nat.le_refl _
    · exact (decode_high s i h (by omega)).2
  refine ⟨h1, ?_⟩
  by_cases h2 : (Utf8.decode s i).2 = 1
  · omega
  · have := (decode_cont s i ((Utf8.decode s i).2 - 1) (by omega) (by omega)).1
    omega
theorem get_list (s : ByteArray) (i : Nat) (h : i < s.size) : s.data.toList.drop i = (s[i]'h) :: s.data.toList.drop (i + 1) := by
  have h' : i < s.data.toList.length := by simpa using h
  rw [List.drop_eq_getElem_cons h']
  rfl
theorem spans_eq (s : ByteArray) : ∀ (f pos : Nat) (st : Option Nat) (acc : List (Nat × Nat)), pos ≤ s.size → s.size - pos ≤ f → Lib.closeSpans s (Lib.spansFromP bl s f pos st acc) = acc ++ bspans (s.data.toList.drop pos) pos st
  | 0, pos, st, acc, h, hf => by
    obtain rfl : pos = s.size := by omega
    have : s.data.toList.drop s.size = [] := List.drop_eq_nil_of_le (by simp)
    rw [this]
    cases st <;> simp [Lib.spansFromP, Lib.closeSpans, bspans]
  | f + 1, pos, st, acc, h, hf => by
    by_cases hp : pos < s.size
    · obtain ⟨hw1, hw2⟩ := width_in s pos hp
      unfold Lib.spansFromP
      rw [if_pos hp]
      by_cases ha : (s[pos]'hp).toNat < 128
      · rw [decode_ascii s pos hp ha, bl_byte, get_list s pos hp, bspans]
        dsimp only
        by_cases hb : Sp.blank (s[pos]'hp) = true
        · rw [if_pos hb, if_pos hb]
          cases st with
          | some a =>
            dsimp only
            rw [spans_eq s f (pos + 1) none _ (by omega) (by omega)]
            simp
          | none =>
            dsimp only
            rw [spans_eq s f (pos + 1) none _ (by omega) (by omega)]
        · rw [if_neg hb, if_neg hb]
          cases st with
          | some a =>
            dsimp only
            rw [spans_eq s f (pos + 1) _ _ (by omega) (by omega)]
            rfl
          | none =>
            dsimp only
            rw [spans_eq s f (pos + 1) _ _ (by omega) (by omega)]
            rfl
      · have hd := (decode_high s pos hp (by omega)).1
        rw [bl_high hd]
        simp only [Bool.false_eq_true, if_false]
        have hrun := bspans_run (s.data.toList.drop pos) (Utf8.decode s pos).2 pos st (by simp; omega) hw1 (by
          intro c hc
          obtain ⟨j, hj, rfl⟩ := List.mem_iff_getElem.1 hc
          simp only [List.length_take, List.length_drop] at hj
          simp only [List.getElem_take, List.getElem_drop]
          apply blank_high
          by_cases hj0 : j = 0
          · subst hj0
            show 128 ≤ (s.data.toList[pos + 0]).toNat
            simp only [Nat.add_zero, Array.getElem_toList]
            exact Nat.le_of_not_lt ha
          · have := (decode_cont s pos j (by omega) (by omega)).2
            have hlt : pos + j < s.size := by omega
            rw [show s.get! (pos + j) = s.data.toList[pos + j]'(by simpa using hlt) by
              simp [ByteArray.get!, getElem!_pos, hlt]] at this
            exact this)
        rw [hrun, List.drop_drop]
        cases st with
        | some a =>
          dsimp only
          rw [spans_eq s f _ _ _ hw2 (by omega)]
          rfl
        | none =>
          dsimp only
          rw [spans_eq s f _ _ _ hw2 (by omega)]
          rfl
    · obtain rfl : pos = s.size := by omega
      have : s.data.toList.drop s.size = [] := List.drop_eq_nil_of_le (by simp)
      rw [this, Lib.spansFromP_end bl s _ _ _ _ hp]
      cases st <;> simp [Lib.closeSpans, bspans]

/-- a piece of a list -/
def piece (L : Str) (x : Nat × Nat) : Str := (L.drop x.1).take (x.2 - x.1)
theorem pieces_eq : ∀ (r pre : Str), (bspans r pre.length none).map (piece (pre ++ r)) = fieldsGo [] r ∧ ∀ a, a < pre.length → (bspans r pre.length (some a)).map (piece (pre ++ r)) = fieldsGo (pre.drop a) r
  | [], pre => by
    refine ⟨rfl, fun a ha => ?_⟩
    have h1 : pre.drop a ≠ [] := by
      intro e
      have := congrArg List.length e
      simp at this; omega
    simp only [bspans, List.map_cons, List.map_nil, fieldsGo, if_neg h1, piece, List.append_nil]
    rw [List.take_of_length_le (by simp)]
  | c :: r, pre => by
    obtain ⟨h1, h2⟩ := pieces_eq r (pre ++ [c])
    have hl : (pre ++ [c]).length = pre.length + 1 := by simp
    have hL : (pre ++ [c]) ++ r = pre ++ c :: r := by simp
    rw [hl, hL] at h1 h2
    refine ⟨?_, fun a ha => ?_⟩
    · rw [bspans, fieldsGo]
      dsimp only
      by_cases hb : Sp.blank c = true
      · rw [if_pos hb, if_pos hb, if_pos rfl, h1]
      · rw [if_neg hb, if_neg hb]
        have := h2 pre.length (by omega)
        rw [show (pre ++ [c]).drop pre.length = [c] by simp] at this
        simp only [Option.getD_none, List.nil_append]
        exact this
    · have h3 : pre.drop a ≠ [] := by
        intro e
        have := congrArg List.length e
        simp at this; omega
      rw [bspans, fieldsGo]
      dsimp only
      by_cases hb : Sp.blank c = true
      · rw [if_pos hb, if_pos hb, if_neg h3, List.map_cons, h1]
        congr 1
        unfold piece
        dsimp only
        rw [List.drop_append_of_le_length (by omega), List.take_append_of_le_length (by simp), List.take_of_length_le (by simp)]
      · rw [if_neg hb, if_neg hb]
        have := h2 a (by omega)
        rw [List.drop_append_of_le_length (by omega)] at this
        exact this
theorem extract_piece (s : ByteArray) (a b : Nat) : s.extract a b = ⟨(piece s.data.toList (a, b)).toArray⟩ := by
  apply ByteArray.ext
  apply Array.ext'
  simp [piece, ByteArray.data_extract]
theorem goFields_eq (s : ByteArray) : Lib.goFieldsP bl s = (fields s.data.toList).map fun x => (⟨x.toArray⟩ : ByteArray) := by
  unfold Lib.goFieldsP Lib.spansOfP
  rw [spans_eq s s.size 0 none [] (Nat.zero_le _) (by omega)]
  simp only [List.nil_append, List.drop_zero]
  have h := (pieces_eq s.data.toList []).1
  simp only [List.nil_append, List.length_nil] at h
  unfold fields
  rw [← h, List.map_map]
  apply List.map_congr_left
  intro x hx
  exact extract_piece s x.1 x.2
theorem fieldsGo_ne : ∀ (s cur : Str), ∀ x ∈ fieldsGo cur s, x ≠ [] ∧ x.length ≤ cur.length + s.length
  | [], cur, x, h => by
    unfold fieldsGo at h
    split at h
    · cases h
    · rename_i hc
      simp only [List.mem_cons, List.mem_nil_iff, or_false] at h
      subst h
      exact ⟨hc, by simp⟩
  | c :: s, cur, x, h => by
    unfold fieldsGo at h
    split at h
    · split at h
      · have := fieldsGo_ne s [] x h
        exact ⟨this.1, by have := this.2; simp at this ⊢; omega⟩
      · rename_i hc
        rcases List.mem_cons.1 h with h | h
        · subst h
          exact ⟨hc, by simp⟩
        · have := fieldsGo_ne s [] x h
          exact ⟨this.1, by have := this.2; simp at this ⊢; omega⟩
    · have := fieldsGo_ne s (cur ++ [c]) x h
      exact ⟨this.1, by have := this.2; simp at this ⊢; omega⟩
theorem fieldsGo_len : ∀ (s cur : Str), (fieldsGo cur s).length ≤ s.length + 1
  | [], cur => by unfold fieldsGo; split <;> simp
  | c :: s, cur => by
    unfold fieldsGo
    split
    · split
      · have := fieldsGo_len s []; simp; omega
      · have := fieldsGo_len s []; simp; omega
    · have := fieldsGo_len s (cur ++ [c]); simp; omega
theorem fields_len (s : Str) : (fields s).length ≤ s.length + 1 := fieldsGo_len s []
theorem words_sub (s : Str) : ∀ x ∈ words s, x ∈ fields s := fun x hx => List.takeWhile_subset _ hx
theorem words_ne (s : Str) : ∀ x ∈ words s, x ≠ [] ∧ x.length ≤ s.length := fun x hx => by
  have := fieldsGo_ne s [] x (words_sub s x hx)
  simpa using this
theorem words_len (s : Str) : (words s).length ≤ s.length + 1 := by
  have h1 : (words s).length ≤ (fields s).length := (List.takeWhile_sublist _).length_le
  have := fields_len s
  omega
/-- where the first of a kind stands -/
theorem idx_first {α : Type} (p : α → Bool) (x : α) : ∀ (l : List α) (i : Nat), (Lib.idxByFrom (fun _ y => p y) x l i = -1 ∧ l.takeWhile (fun y => !p y) = l) ∨ ∃ k, k < l.length ∧ Lib.idxByFrom (fun _ y => p y) x l i = ((i + k : Nat) : Int) ∧ l.takeWhile (fun y => !p y) = l.take k
  | [], i => .inl ⟨rfl, rfl⟩
  | y :: l, i => by
    unfold Lib.idxByFrom
    by_cases h : p y = true
    · right
      refine ⟨0, by simp, ?_, ?_⟩
      · rw [if_pos h]; simp
      · rw [List.takeWhile_cons_of_neg (by simp [h])]; simp
    · rw [if_neg h]
      rw [List.takeWhile_cons_of_pos (by simp [h])]
      rcases idx_first p x l (i + 1) with ⟨h1, h2⟩ | ⟨k, hk, h1, h2⟩
      · left; exact ⟨h1, by rw [h2]⟩
      · right
        refine ⟨k + 1, by simp; omega, ?_, ?_⟩
        · rw [h1]; congr 1; omega
        · rw [h2]; rfl
end Go.Proofs.YtifliekahdgobaaGreatDoor
namespace Go.Proofs.YtifliekahdgobaaGreatDoor
open Go.RowKit Sp

theorem bl_cases (r : Nat) : (r = 32 ∧ bl r = true) ∨ (r ≠ 32 ∧ r = 9 ∧ bl r = true) ∨ (r ≠ 32 ∧ r ≠ 9 ∧ bl r = false) := by
  unfold bl
  by_cases h : r = 32
  · left; subst h; exact ⟨rfl, rfl⟩
  · by_cases h9 : r = 9
    · right; left; subst h9; exact ⟨h, rfl, rfl⟩
    · right; right; exact ⟨h, h9, by simp [h, h9]⟩
theorem blank_walk (r : Nat) (w : World) : Calls Tryz.prog 49 #[.int .i32 r] w fun e w' => e = .returned (.bool (bl r)) ∧ w' = w := by
  rcases bl_cases r with ⟨rfl, h⟩ | ⟨h1, rfl, h⟩ | ⟨h1, h2, h⟩
  · rw [h]
    go_enter Tryz.func49, Tryz.ntmps49
    go_wp2
    go_ret
    exact ⟨rfl, rfl⟩
  · rw [h]
    go_enter Tryz.func49, Tryz.ntmps49
    go_wp2
    go_ret
    exact ⟨rfl, rfl⟩
  · rw [h]
    have h1' : ((r : Int) == 32) = false := by rw [beq_eq_false_iff_ne]; omega
    have h2' : ((r : Int) == 9) = false := by rw [beq_eq_false_iff_ne]; omega
    clear h h1 h2
    go_enter Tryz.func49, Tryz.ntmps49
    go_wp2
    go_ret
    exact ⟨rfl, rfl⟩
theorem blank_pred (w : World) : PredAt Tryz.prog 49 #[] encR bl w := fun W r _ => by
  unfold FnGives
  exact (blank_walk r W).mono fun e w' ⟨h1, h2⟩ => ⟨h1, 0, h2⟩
/-- words that are not empty -/
abbrev NeStr := { x : Str // x ≠ [] }
instance : Inhabited NeStr := ⟨⟨[0], by simp⟩⟩
def hashed (x : Str) : Bool := !noHash x
theorem hash_walk (x : Str) (h : x ≠ []) (w : World) : Calls Tryz.prog 51 #[sv x] w fun e w' => e = .returned (.bool (hashed x)) ∧ w' = w := by
  obtain ⟨c, r, rfl⟩ := List.exists_cons_of_ne_nil h
  have hh : hashed (c :: r) = ((c.toNat : Int) == 35) := by
    unfold hashed noHash
    have := all_u8 (fun c => (!(some c != some 35)) == ((c.toNat : Int) == 35)) (by decide +kernel) c
    simpa using this
  rw [hh]
  clear hh h
  go_enter Tryz.func51, Tryz.ntmps51
  go_wp2
  go_ret
  exact ⟨rfl, rfl⟩
/-- what words hands back: a row of the line's words, in a block of its own -/
def GotWords (w : World) (ws : List Str) (e : Ending) (w' : World) : Prop :=
  ∃ A c, e = .returned (.slice (some ⟨A, 0, none⟩) ws.length c) ∧ WordsAt w' A 0 c ws ∧ w.heap.size ≤ A ∧ A < w'.heap.size ∧ Keep (fun _ => False) w w'
theorem eg49 : ∀ args w, (callFunc 49 args).run Tryz.prog w = .ok (.enter 49 args) w := enters_of Tryz.func49 (by kernel_rfl) rfl
theorem eg51 : ∀ args w, (callFunc 51 args).run Tryz.prog w = .ok (.enter 51 args) w := enters_of Tryz.func51 (by kernel_rfl) rfl
theorem hash_pred (w : World) : PredAt Tryz.prog 51 #[] (fun y : NeStr => sv y.1) (fun y => hashed y.1) w := fun W r _ => by
  unfold FnGives
  exact (hash_walk r.1 r.2 W).mono fun e w' ⟨h1, h2⟩ => ⟨h1, 0, h2⟩
theorem ne_list : ∀ l : List Str, (∀ x ∈ l, x ≠ []) → ∃ zs : List NeStr, zs.map (fun y => y.1) = l
  | [], _ => ⟨[], rfl⟩
  | x :: l, h => by
    obtain ⟨zs, hz⟩ := ne_list l (fun y hy => h y (List.mem_cons_of_mem _ hy))
    exact ⟨⟨x, h x List.mem_cons_self⟩ :: zs, by rw [List.map_cons, hz]⟩
theorem words_of {zs : List NeStr} {x : Str} (hz : zs.map (fun y => y.1) = fields x) : words x = (zs.takeWhile fun y => !hashed y.1).map fun y => y.1 := by
  unfold words
  rw [← hz, List.takeWhile_map]
  congr 1
  congr 1
  funext y
  simp [hashed]
theorem words_any (x : Str) (w : World) (hx : x.length ≤ 1073741824) : Calls Tryz.prog 24 #[sv x] w (GotWords w (words x)) := by
  have hs : (⟨x.toArray⟩ : ByteArray).size ≤ 4294967296 := by show x.toArray.size ≤ _; simp; omega
  have HF := Tryz.strings_FieldsFunc 49 #[] eg49 bl ⟨x.toArray⟩ w hs (blank_pred w)
  rw [goFields_eq] at HF
  simp only [List.length_map, List.map_map] at HF
  have hfl := fields_len x
  have hne : ∀ y ∈ fields x, y ≠ [] := fun y hy => (fieldsGo_ne x [] y hy).1
  have hsz : ∀ y ∈ words x, y ≠ [] ∧ y.length ≤ 4294967296 := fun y hy => by have := words_ne x y hy; exact ⟨this.1, by omega⟩
  obtain ⟨zs, hz⟩ := ne_list (fields x) hne
  have hzl : (fields x).length = zs.length := by rw [← hz]; simp
  have HW := words_of hz
  have HC : ∀ (A : Nat) (w1 : World), w1.ownsRow w.heap.size 9 1 (.slice (some ⟨A, 0, none⟩) (fields x).length (fields x).length) (fields x).length ((fields x).map (Value.string ∘ fun x => ⟨x.toArray⟩)) → ∀ j, j < zs.length → w1.cell? ⟨A, 0 + j, none⟩ = some (sv zs[j]!.1) := by
    intro A w1 ho j hj
    have := ho.cellAt j (by simp; omega)
    simp only [Nat.zero_add]
    rw [this]
    simp only [← hz, List.map_map]
    simp [hj, getElem!_pos]
  rw [hzl] at HF HC
  have hfl' : zs.length ≤ 1073741825 := by omega
  have hidx := idx_first (fun y : NeStr => hashed y.1) default zs 0
  obtain ⟨ws, hws⟩ : ∃ ws, ws = words x := ⟨_, rfl⟩
  rw [← hws] at HW hsz ⊢
  have HFH := Lib.hid HF
  have HCH := Lib.hid HC
  have HWH := Lib.hid HW
  have HIX := Lib.hid hidx
  have HSZ := Lib.hid hsz
  clear HF HC HW hidx hz hzl hfl hne hws hs hsz
  generalize hn : zs.length = n at *
  have HN := Lib.hid hn
  clear hn
  go_enter Tryz.func24, Tryz.ntmps24
  go_wp2_with fail
  refine HFH.out.mono ?_
  rintro e w1 ⟨A, rfl, hA, hown, hb⟩
  have hlt := (hown.lt A rfl).2
  have hcells := HCH.out A w1 hown
  have HOW := Lib.hid hown
  have HB := Lib.hid hb
  have HCE := Lib.hid hcells
  clear hown hb hcells
  go_wp2_with fail
  refine (Tryz.slices_IndexFunc (α := NeStr) (fun y => sv y.1) (fun y => hashed y.1) 51 #[] eg51 A 0 n n zs w1 (hash_pred w1) (by rw [HN.out]; exact Nat.le_refl _) (by omega) (by rw [HN.out]; exact HCE.out)).mono ?_
  rintro e w2 ⟨rfl, q, rfl⟩
  rw [List.take_of_length_le (by rw [HN.out]; exact Nat.le_refl _)]
  unfold Lib.idxBy
  have hkp : Keep (fun _ => False) w (w1.drewN q) := (Keep.of_below HB.out (Nat.le_refl _)).drewN q
  have fin : ∀ (k c : Nat), k ≤ c → c ≤ n → ws = (zs.take k).map (fun y => y.1) → k ≤ n → GotWords w ws (.returned (.slice (some ⟨A, 0, none⟩) k c)) (w1.drewN q) := by
    intro k c hkc hcn hw hkn
    have hl : ws.length = k := by have := HN.out; rw [hw]; simp; omega
    refine ⟨A, c, by rw [hl], ⟨?_, fun y hy => HSZ.out y hy, by omega, by omega⟩, hA, hlt, hkp⟩
    intro i y hy
    show w1.cell? _ = _
    rw [hw] at hy
    simp only [List.getElem?_map, Option.map_eq_some_iff] at hy
    obtain ⟨z, hz1, rfl⟩ := hy
    obtain ⟨hz2, hz3⟩ := List.getElem?_eq_some_iff.1 hz1
    simp only [List.length_take] at hz2
    rw [HCE.out i (by omega)]
    rw [getElem!_pos zs i (by omega), ← hz3]
    simp
  have FIN := Lib.hid fin
  clear fin
  rcases HIX.out with ⟨h1, h2⟩ | ⟨k, hk, h1, h2⟩
  · rw [h1]
    have H2 := Lib.hid h2
    clear h1 h2
    go_wp2_with fail
    go_ret
    exact FIN.out n n (Nat.le_refl _) (Nat.le_refl _) (by rw [HWH.out, H2.out, List.take_of_length_le (by rw [HN.out]; exact Nat.le_refl _)]) (Nat.le_refl _)
  · rw [h1]
    have H2 := Lib.hid h2
    clear h1 h2
    simp only [Nat.zero_add]
    go_wp2_with fail
    go_ret
    exact FIN.out k n (by omega) (Nat.le_refl _) (by rw [HWH.out, H2.out]) (by omega)
end Go.Proofs.YtifliekahdgobaaGreatDoor
namespace Go.Proofs.YtifliekahdgobaaGreatDoor
open Go.RowKit Sp

theorem info24 : (Tryz.prog.info? 24).map (·.size) = some 2 := by kernel_rfl
theorem results_cell_tmp {fn : Func} {t u : Tmp} {T n : Nat} {d : TypeDesc} (hr : fn.results = #[.cell t T, .tmp u]) (hu : Tryz.prog.underlying T = some d) (hd : d.isRow = true) (hi : (Tryz.prog.info? T).map (·.size) = some n) (tmps : Array Value) (w : World) (b : Nat) (cs : Array Value) (U : TypeId) (f : Nat × Nat)
    (ht : tmps.getD t undef = .pointer (some ⟨b, 0, none⟩)) (hs : cs.size = n) (hb : w.heap[b]? = some (.cells cs U f)) :
    (results fn tmps).run Tryz.prog w = .ok (.tuple #[.agg cs, tmps.getD u undef]) w := by
  have hl := run_loadVar_mid (P := Tryz.prog) w b 0 T cs.toList d (range_of_block hb) hu hd (by rw [hi, ← hs]; simp)
  have ht' : tmps[t]?.getD undef = .pointer (some ⟨b, 0, none⟩) := by simpa using ht
  simp [results, hr, ht', asAddr, hl]
/-- a result's block, when both cells were stored -/
theorem two_set {w : World} {b : Nat} {T : TypeId} {x y u v : Value} (h : w.heap[b]? = some (.cells #[x, y] T (0, 0))) : ((w.setCell ⟨b, 0, none⟩ u).setCell ⟨b, 1, none⟩ v).heap[b]? = some (.cells #[u, v] T (0, 0)) := by
  rw [block_setCell (block_setCell h 0 u) 1 v]
  rfl
/-- the closure that Parse hands to safely -/
theorem parse1_any (base gb wb rb off c : Nat) (v : Value) (s : ScriptS) (x : Str) (ws : List Str) (w : World) (hs : ScriptAt w base gb s v) (hw : WordsAt w rb off c (x :: ws)) (hbase : base ≤ w.heap.size)
    (hwb : w.cell? ⟨wb, 0, none⟩ = some (.slice (some ⟨rb, off, none⟩) (ws.length + 1) c)) :
    Calls Tryz.prog 26 #[.pointer (some ⟨gb, 0, none⟩), .pointer (some ⟨wb, 0, none⟩)] w (GotRead base gb v w (line s (x :: ws))) := by
  have H := Lib.hid (read_any base gb rb off c v s x ws w hs hw hbase)
  clear hs hw hbase
  go_enter Tryz.func26, Tryz.ntmps26
  go_wp2_with fail
  refine H.out.mono ?_
  intro e w1 hg
  obtain ⟨hk, h2⟩ := hg
  rcases hl : line s (x :: ws) with c' | s'
  · rw [hl] at h2
    subst h2
    exact ⟨rfl, hk, rfl⟩
  · rw [hl] at h2
    obtain ⟨rfl, v', h3⟩ := h2
    have HK := Lib.hid hk
    have H3 := Lib.hid h3
    have HL := Lib.hid hl
    clear hk h3 H hl
    go_wp2_with fail
    (try simp only [Exit.inBlock, Exit.then])
    refine bodyPost_ret (results_none rfl _ _ _) rfl ?_
    refine ⟨HK.out, ?_⟩
    rw [HL.out]
    exact ⟨rfl, v', H3.out⟩
theorem StepsAt.notT {w : World} {base n : Nat} {v : Value} {l : List StepS} (h : StepsAt w base v l) {cs : Array Value} {T : TypeId} (hc : w.heap[n]? = some (.cells cs T (0, 0))) (hT : T ≠ 63) : ¬ v.ownBlock = some n := fun e => by
  obtain ⟨L, _, h2, _⟩ := h
  rcases h2.2 with ⟨rfl, _⟩ | ⟨g', cap, cur, rfl, _, hg, _⟩
  · cases e
  · simp only [Value.ownBlock, Option.some.injEq] at e
    subst e
    rw [hc] at hg
    injection hg with e2
    injection e2 with e3 e4
    exact hT e4
/-- a change of a block of another kind leaves steps alone -/
theorem StepsAt.other {w w' : World} {base n : Nat} {v : Value} {l : List StepS} (h : StepsAt w base v l) {cs : Array Value} {T : TypeId} (hc : w.heap[n]? = some (.cells cs T (0, 0))) (hT : T ≠ 63 ∧ T ≠ 65 ∧ T ≠ 67) (hk : Keep (fun b => b = n) w w') : StepsAt w' base v l :=
  h.keep hk (fun g hg e => h.notT hc hT.1 (e ▸ hg)) (fun g cs T' hc2 e => by
    subst e
    rw [hc] at hc2
    injection hc2 with e2
    injection e2 with e3 e4
    subst e4
    exact hT.2)
/-- what safely comes to, of Parse's closure -/
def GotSafe (base gb : Nat) (v : Value) (V : World) (o : Except Int ScriptS) (e : Ending) (w' : World) : Prop :=
  Keep (fun b => b = gb ∨ some b = v.ownBlock) V w' ∧ match o with
    | .ok s => e = .returned (.int .i64 0) ∧ ∃ v', ScriptAt w' base gb s v'
    | .error c => e = .returned (.int .i64 c)
theorem safe_read (base gb wb rb off c : Nat) (v : Value) (s : ScriptS) (x : Str) (ws : List Str) (w : World) (hs : ScriptAt w base gb s v) (hw : WordsAt w rb off c (x :: ws)) (hbase : base ≤ w.heap.size)
    (hwb : w.cell? ⟨wb, 0, none⟩ = some (.slice (some ⟨rb, off, none⟩) (ws.length + 1) c)) :
    Calls Tryz.prog 25 #[.func (.func 26) #[] #[.pointer (some ⟨gb, 0, none⟩), .pointer (some ⟨wb, 0, none⟩)]] w (GotSafe base gb v w (line s (x :: ws))) := by
  obtain ⟨V, hV⟩ : ∃ V : World, V = w.alloc (.cells #[.int .i64 0] 30) := ⟨_, rfl⟩
  have hkV : Keep (fun _ => False) w V := by rw [hV]; exact (Keep.refl _ w).alloc _
  have hbV : V.heap[w.heap.size]? = some (.cells #[.int .i64 0] 30 (0, 0)) := by rw [hV]; exact block_new _ _
  have hgb := lt_of_block hs.1
  have hvl := hs.2.lt
  have hsV : ScriptAt V base gb s v := ⟨hkV.at' hs.1 (fun e => e), hs.2.far hkV⟩
  have h1 := parse1_any base gb wb rb off c v s x ws V hsV ⟨hw.cells.keep hkV (fun e => e), hw.ok, hw.cap, hw.small⟩ (Nat.le_trans hbase hkV.size) (hkV.cellOf hwb (fun e => e))
  rw [hV] at h1
  have h2 := safely_any _ _ w _ h1 (by
    intro e w' hq
    obtain ⟨hk, hq⟩ := hq
    refine ⟨hk.mono (fun b _ hb => ?_), ?_⟩
    · rcases hb with rfl | hb
      · exact hgb
      · exact (hvl b hb.symm).2
    · split at hq
      · exact .inl hq.1
      · exact .inr ⟨_, hq⟩)
  refine h2.mono ?_
  rintro e w3 ⟨e1, w2, hq, hk3, he⟩
  rw [← hV] at hq
  obtain ⟨hk2, hq⟩ := hq
  have hb2 : w2.heap[w.heap.size]? = some (.cells #[.int .i64 0] 30 (0, 0)) := hk2.at' hbV (by
    rintro (e | e)
    · omega
    · have := (hvl _ e.symm).2; omega)
  have hkk : Keep (fun b => b = gb ∨ some b = v.ownBlock) w w3 := ((hkV.mono (M' := fun b => b = gb ∨ some b = v.ownBlock) (fun _ _ e => e.elim)).trans' hk2).trans hk3 (fun b hb e => by omega)
  refine ⟨hkk, ?_⟩
  rcases hl : line s (x :: ws) with c' | s'
  · rw [hl] at hq
    rcases he with ⟨h, _⟩ | ⟨c2, h, rfl⟩
    · rw [hq] at h; cases h
    · rw [hq] at h
      injection h with h
      injection h with h h'
      injection h with h
      injection h with h h'
      injection h' with h'
      simp only [Array.mk.injEq, List.cons.injEq] at h'
      injection h'.1 with _ h''
      show Ending.returned _ = _
      rw [h'']
  · rw [hl] at hq
    obtain ⟨rfl, v', hs'⟩ := hq
    rcases he with ⟨_, rfl⟩ | ⟨c2, h, _⟩
    · exact ⟨rfl, v', hk3.at' hs'.1 (by omega), hs'.2.other hb2 (by decide) hk3⟩
    · cases h
/-- the pieces, as cells -/
theorem split_cells (t : Str) : (Lib.splitB ⟨#[10]⟩ 0 (Lib.countB ⟨t.toArray⟩ ⟨#[10]⟩) ⟨t.toArray⟩).map Value.string = (splitNL t).map fun y => sv y := by
  have h := splitB_nl ⟨t.toArray⟩
  simp only at h
  rw [← h, List.map_map]
  rfl
theorem split_count (t : Str) : Lib.countB ⟨t.toArray⟩ ⟨#[10]⟩ + 1 = (splitNL t).length := by
  have h := splitB_nl ⟨t.toArray⟩
  simp only at h
  rw [← h, List.length_map, Lib.splitB_all ⟨#[10]⟩ (Nat.le_refl _) 0 _ _ rfl]
theorem msplit_any (t : Str) (ht : t.length ≤ 1000000000) (w : World) (hg : Glob w) :
    Calls Tryz.prog 23 #[sv t, .string ⟨#[10]⟩] w fun e w' => e = .returned (.slice (some ⟨w.heap.size, 0, none⟩) (splitNL t).length (splitNL t).length) ∧ w' = w.alloc (.cells ((splitNL t).map fun y => sv y).toArray 9) := by
  obtain ⟨m, hm⟩ := hg.ml
  refine (Tryz.strings_Split ⟨t.toArray⟩ ⟨#[10]⟩ m w (by show t.toArray.size < _; simp; omega) hm (Nat.le_refl _)).mono ?_
  rintro e w' ⟨rfl, rfl⟩
  rw [split_count, split_cells]
  exact ⟨rfl, rfl⟩
/-- what Parse comes to -/
def GotParse (w : World) (o : Except (Int × Nat) ScriptS) (e : Ending) (w' : World) : Prop :=
  Keep (fun _ => False) w w' ∧ match o with
    | .ok s => ∃ v, e = .returned (.tuple #[.agg #[.int .i64 s.nodes, v], .nilIface]) ∧ StepsAt w' w.heap.size v s.steps
    | .error (c, no) => ∃ g, w.heap.size ≤ g ∧ e = .returned (.tuple #[.agg #[.int .i64 0, nilS], .iface 74 (.pointer (some ⟨g, 0, none⟩))]) ∧ w'.heap[g]? = some (.cells #[.int .i64 c, .int .i64 no] 32 (0, 0))
/-- the loop's state -/
structure MLoop (t : Str) (W : World) (gb : Nat) (i : Nat) (s : ScriptS) (v : Value) (wr : World) : Prop where
  il : i ≤ (splitNL t).length
  script : ScriptAt wr W.heap.size gb s v
  keep : Keep (fun b => b = gb) W wr
  par : parse t = parseGo s i ((splitNL t).drop i)
theorem MLoop.next {t : Str} {W wr wr' : World} {gb i : Nat} {s s' : ScriptS} {v v' : Value} (h : MLoop t W gb i s v wr) (hi : i < (splitNL t).length) (hl : line s (words ((splitNL t)[i])) = .ok s')
    (hs : ScriptAt wr' W.heap.size gb s' v') (hk : Keep (fun b => b = gb) W wr') : MLoop t W gb (i + 1) s' v' wr' :=
  ⟨hi, hs, hk, by rw [h.par, List.drop_eq_getElem_cons hi, parseGo, hl]⟩
theorem MLoop.fail {t : Str} {W wr : World} {gb i : Nat} {s : ScriptS} {v : Value} (h : MLoop t W gb i s v wr) (hi : i < (splitNL t).length) {c : Int} (hl : line s (words ((splitNL t)[i])) = .error c) : parse t = .error (c, i) := by
  rw [h.par, List.drop_eq_getElem_cons hi, parseGo, hl]
theorem ScriptAt.far {w w' : World} {base gb : Nat} {s : ScriptS} {v : Value} (h : ScriptAt w base gb s v) (hk : Keep (fun _ => False) w w') : ScriptAt w' base gb s v := ⟨hk.at' h.1 (fun e => e), h.2.far hk⟩
set_option maxRecDepth 100000 in
set_option maxHeartbeats 3200000 in
theorem mparse_any (t : Str) (ht : t.length ≤ 1000000000) (w : World) (hg : Glob w) : Calls Tryz.prog 8 #[sv t] w (GotParse w (parse t)) := by
  obtain ⟨B, hB⟩ : ∃ B, B = w.heap.size := ⟨_, rfl⟩
  obtain ⟨V, hV⟩ : ∃ V : World, V = (w.alloc (.cells #[.int .i64 0, .slice none 0 0] 24)).alloc (.cells #[.int .i64 0, .slice none 0 0] 24) := ⟨_, rfl⟩
  have hkV : Keep (fun _ => False) w V := by rw [hV]; exact ((Keep.refl _ w).alloc _).alloc _
  have hszV : V.heap.size = B + 2 := by rw [hV, hB]; simp
  have h0 : V.heap[B]? = some (.cells #[.int .i64 0, nilS] 24 (0, 0)) := by rw [hV, hB]; exact block_alloc (block_new _ _) _
  have h1 : V.heap[B + 1]? = some (.cells #[.int .i64 0, nilS] 24 (0, 0)) := by
    rw [hV]
    exact block_new' _ _ (by simp [hB])
  obtain ⟨W, hW⟩ : ∃ W : World, W = V.alloc (.cells ((splitNL t).map fun y => sv y).toArray 9) := ⟨_, rfl⟩
  have hkVW : Keep (fun _ => False) V W := by rw [hW]; exact (Keep.refl _ V).alloc _
  have hszW : W.heap.size = B + 3 := by rw [hW]; simp [hszV]
  have hb2 : W.heap[B + 2]? = some (.cells ((splitNL t).map fun y => sv y).toArray 9 (0, 0)) := by
    rw [hW, ← hszV]; exact block_new _ _
  have S := msplit_any t ht V (hg.far hkV)
  rw [← hW, hszV] at S
  obtain ⟨hsl, hsm⟩ := splitNL_len t
  have M0 : MLoop t W (B + 1) 0 ⟨0, []⟩ nilS W := ⟨Nat.zero_le _, ⟨hkVW.at' h1 (fun e => e), StepsAt.nil _ _⟩, Keep.refl _ _, rfl⟩
  have hcell : ∀ i (hi : i < (splitNL t).length), W.cell? ⟨B + 2, i, none⟩ = some (sv (splitNL t)[i]) := fun i hi => by
    rw [cell_of_block hb2]; simp [hi]
  have HV := Lib.hid hV
  have HH := Lib.hid (hkVW.at' h0 (fun e => e))
  have HKW := Lib.hid (hkV.trans' hkVW)
  have HSZ := Lib.hid hszW
  have HB := Lib.hid hB
  have HS := Lib.hid S
  have HM := Lib.hid M0
  have HC := Lib.hid hcell
  have HSM := Lib.hid hsm
  clear hV h0 h1 hkV hkVW hszW hszV hB S M0 hcell hsm hW hb2 hg
  go_enter Tryz.func8, Tryz.ntmps8
  go_wp2_with fail
  rw [← HV.out]
  obtain rfl := HB.out
  refine HS.out.mono ?_
  rintro e w' ⟨rfl, rfl⟩
  clear HV
  go_wp2_with fail
  obtain ⟨W, rfl⟩ : ∃ W : World, W = w' := ⟨_, rfl⟩
  go_loopw [6, 7, 8, 9, 14] (fun v6 v7 v8 v9 v14 wr => ∃ (i : Nat) (s : ScriptS) (v : Value), v14 = .int .i64 i ∧ Hid (MLoop t W (w.heap.size + 1) i s v wr)) (fun _ _ _ _ v14 _ => (splitNL t).length - (intOf v14).toNat)
  case atStart => exact ⟨0, _, _, rfl, HM⟩
  case round =>
    obtain ⟨i, s, v, rfl, ML⟩ := hrel
    have hil := ML.out.il
    by_cases hlt : i < (splitNL t).length
    · have hlt' : (i : Int) < ((splitNL t).length : Int) := by omega
      have hcell : wr.cell? ⟨w.heap.size + 2, i, none⟩ = some (sv (splitNL t)[i]) := ML.out.keep.cellOf (HC.out i hlt) (by show ¬ w.heap.size + 2 = w.heap.size + 1; omega)
      have hxl : (splitNL t)[i].length ≤ 1073741824 := by have := HSM.out _ (List.getElem_mem hlt); omega
      have HNX := Lib.hid (fun wr' s' v' => ML.out.next (wr' := wr') (s' := s') (v' := v') hlt)
      have HFL := Lib.hid (fun c => ML.out.fail hlt (c := c))
      generalize (splitNL t)[i] = x at *
      have HXW := Lib.hid (words_any x wr hxl)
      generalize words x = ws at *
      go_wp2_with fail
      refine HXW.out.mono ?_
      rintro e w1 ⟨A, c, rfl, hws, hA, hA2, hk1⟩
      have HWS := Lib.hid hws
      have HK1 := Lib.hid hk1
      have HSC := Lib.hid (ML.out.script.far hk1)
      have HLT := Lib.hid hlt
      clear hws hk1 hcell hxl HXW hA
      rcases ws with _ | ⟨y, ys⟩
      · simp only [List.length_nil]
        go_wp2_with fail
        have hka : Keep (fun _ => False) w1 (w1.alloc (.cells #[.slice (some ⟨A, 0, none⟩) 0 c] 48)) := (Keep.refl _ _).alloc _
        exact ⟨⟨i + 1, s, v, by go_num, Lib.hid (HNX.out _ _ _ rfl (HSC.out.far hka) (ML.out.keep.trans (HK1.out.trans' hka) (fun _ _ e => e.elim)))⟩, by have := HLT.out; simp [intOf]; omega⟩
      · simp only [List.length_cons]
        have hka : Keep (fun _ => False) w1 (w1.alloc (.cells #[.slice (some ⟨A, 0, none⟩) (ys.length + 1) c] 48)) := (Keep.refl _ _).alloc _
        have h25 := safe_read W.heap.size (w.heap.size + 1) w1.heap.size A 0 c v s y ys (w1.alloc (.cells #[.slice (some ⟨A, 0, none⟩) (ys.length + 1) c] 48)) (HSC.out.far hka) ⟨HWS.out.cells.keep hka (fun e => e), HWS.out.ok, HWS.out.cap, HWS.out.small⟩ (Nat.le_trans (Nat.le_trans ML.out.keep.size HK1.out.size) hka.size) (cell_of_block (block_new _ _) 0)
        have H25 := Lib.hid h25
        have hkk : Keep (fun b => b = w.heap.size + 1) W (w1.alloc (.cells #[.slice (some ⟨A, 0, none⟩) (ys.length + 1) c] 48)) := ML.out.keep.trans (HK1.out.trans' hka) (fun _ _ e => e.elim)
        have hvl := HSC.out.2.lt
        have HKK := Lib.hid hkk
        have HVL := Lib.hid (fun g hg => (hvl g hg).1)
        clear h25 hka hkk hvl hA2 HWS
        go_wp2_with fail
        refine H25.out.mono ?_
        rintro e w3 ⟨hk3, h3⟩
        have hk4 : Keep (fun b => b = w.heap.size + 1) W w3 := HKK.out.trans hk3 (fun b hb e => by
          rcases e with e | e
          · exact e
          · have := HVL.out b e.symm; omega)
        have HK4 := Lib.hid hk4
        clear hk3 hk4
        rcases hl : line s (y :: ys) with c' | s'
        · rw [hl] at h3
          subst h3
          have hc3 := line_err hl
          have hc0 : (c' != 0) = true := by rw [bne_iff_ne]; omega
          have HE := Lib.hid (HFL.out _ hl)
          have hbr := HK4.out.at' HH.out (by omega)
          have hbx := block_alloc hbr (.cells #[.int .i64 c', .int .i64 (i : Int)] 32 (0, 0))
          have hb0 : (w3.alloc (.cells #[.int .i64 c', .int .i64 (i : Int)] 32)).cell? ⟨w.heap.size, 0, none⟩ = some (.int .i64 0) := cell_of_block hbx 0
          have hb1 : (w3.alloc (.cells #[.int .i64 c', .int .i64 (i : Int)] 32)).cell? ⟨w.heap.size, 1, none⟩ = some nilS := cell_of_block hbx 1
          have hf0 : (w3.alloc (.cells #[.int .i64 c', .int .i64 (i : Int)] 32)).frozen? ⟨w.heap.size, 0, none⟩ = false := free_of_block hbx 0
          have hf1 : (w3.alloc (.cells #[.int .i64 c', .int .i64 (i : Int)] 32)).frozen? ⟨w.heap.size, 1, none⟩ = false := free_of_block hbx 1
          have HBX := Lib.hid hbx
          have HBR := Lib.hid hbr
          clear hc3 hl hbr hbx
          go_wp2_with fail
          refine bodyPost_ret (v := .tuple #[.agg #[.int .i64 0, nilS], .iface 74 (.pointer (some ⟨w3.heap.size, 0, none⟩))]) (results_cell_tmp (n := 2) (t := 2) (T := 24) Tryz.results8 Tryz.underlying24 rfl info24 _ _ w.heap.size _ 24 (0, 0) rfl (by rfl) (two_set HBX.out)) rfl ?_
          have hbs : w.heap.size < w3.heap.size := lt_of_block HBR.out
          have hke : Keep (fun b => b = w.heap.size + 1 ∨ b = w.heap.size) W (((w3.alloc (.cells #[.int .i64 c', .int .i64 (i : Int)] 32)).setCell ⟨w.heap.size, 0, none⟩ (.int .i64 0)).setCell ⟨w.heap.size, 1, none⟩ (.slice none 0 0)) := (((HK4.out.mono (fun _ _ e => .inl e)).alloc _).setCell _ _ (.inr (.inr rfl))).setCell _ _ (.inr (.inr rfl))
          refine ⟨HKW.out.trans hke (fun b hb e => by omega), ?_⟩
          rw [HE.out]
          exact ⟨w3.heap.size, by omega, rfl, block_setCell_other (block_setCell_other (block_new _ _) _ _ (show w3.heap.size ≠ w.heap.size by omega)) _ _ (show w3.heap.size ≠ w.heap.size by omega)⟩
        · rw [hl] at h3
          obtain ⟨rfl, v', h3⟩ := h3
          have H3 := Lib.hid h3
          have HL := Lib.hid hl
          clear h3 hl
          go_wp2_with fail
          exact ⟨⟨i + 1, s', v', by go_num, Lib.hid (HNX.out _ _ _ HL.out H3.out HK4.out)⟩, by have := HLT.out; simp [intOf]; omega⟩
    · have hie : i = (splitNL t).length := by omega
      have hge : ¬ (i : Int) < ((splitNL t).length : Int) := by omega
      have hbs := ML.out.script.1
      have hc0 : wr.cell? ⟨w.heap.size + 1, 0, none⟩ = some (.int .i64 s.nodes) := cell_of_block hbs 0
      have hc1 : wr.cell? ⟨w.heap.size + 1, 1, none⟩ = some v := cell_of_block hbs 1
      have HP := Lib.hid (show parse t = if s.nodes = 0 then .error (4, i) else .ok s by rw [ML.out.par, List.drop_eq_nil_of_le (by omega)]; rfl)
      have hbr := ML.out.keep.at' HH.out (by omega)
      have hb0 : wr.cell? ⟨w.heap.size, 0, none⟩ = some (.int .i64 0) := cell_of_block hbr 0
      have hb1 : wr.cell? ⟨w.heap.size, 1, none⟩ = some nilS := cell_of_block hbr 1
      have hf0 := free_of_block hbr 0
      have hf1 := free_of_block hbr 1
      have HBR := Lib.hid hbr
      obtain ⟨av, cv, hv, -⟩ := ML.out.script.2.slice
      clear hbs hbr hlt
      have HK4 := Lib.hid ML.out.keep
      have HV := Lib.hid (ML.out.script.2.base (show w.heap.size ≤ W.heap.size by have := HSZ.out; omega))
      have HML := Lib.hid (ML.out.script.2.lt)
      have HHS := Lib.hid ML.out.script.1
      subst hv
      by_cases hz : s.nodes = 0
      · have hz' : (s.nodes == 0) = true := by simpa using hz
        have HE := Lib.hid (show parse t = .error (4, i) by rw [HP.out, if_pos hz])
        have hbx := block_alloc HBR.out (.cells #[.int .i64 4, .int .i64 ((splitNL t).length : Int)] 32 (0, 0))
        have hb0 : (wr.alloc (.cells #[.int .i64 4, .int .i64 ((splitNL t).length : Int)] 32)).cell? ⟨w.heap.size, 0, none⟩ = some (.int .i64 0) := cell_of_block hbx 0
        have hb1 : (wr.alloc (.cells #[.int .i64 4, .int .i64 ((splitNL t).length : Int)] 32)).cell? ⟨w.heap.size, 1, none⟩ = some nilS := cell_of_block hbx 1
        have hf0 : (wr.alloc (.cells #[.int .i64 4, .int .i64 ((splitNL t).length : Int)] 32)).frozen? ⟨w.heap.size, 0, none⟩ = false := free_of_block hbx 0
        have hf1 : (wr.alloc (.cells #[.int .i64 4, .int .i64 ((splitNL t).length : Int)] 32)).frozen? ⟨w.heap.size, 1, none⟩ = false := free_of_block hbx 1
        have HIE := Lib.hid hie
        clear hbx hie hz HP hil
        go_wp2_with fail
        refine bodyPost_ret (v := .tuple #[.agg #[.int .i64 0, nilS], .iface 74 (.pointer (some ⟨wr.heap.size, 0, none⟩))]) (results_cell_tmp (n := 2) (t := 2) (T := 24) Tryz.results8 Tryz.underlying24 rfl info24 _ _ w.heap.size _ 24 (0, 0) rfl (by rfl) (two_set (block_alloc HBR.out _))) rfl ?_
        have hbs : w.heap.size < wr.heap.size := lt_of_block HBR.out
        have hke : Keep (fun b => b = w.heap.size + 1 ∨ b = w.heap.size) W (((wr.alloc (.cells #[.int .i64 4, .int .i64 ((splitNL t).length : Int)] 32)).setCell ⟨w.heap.size, 0, none⟩ (.int .i64 0)).setCell ⟨w.heap.size, 1, none⟩ (.slice none 0 0)) := (((HK4.out.mono (fun _ _ e => .inl e)).alloc _).setCell _ _ (.inr (.inr rfl))).setCell _ _ (.inr (.inr rfl))
        refine ⟨HKW.out.trans hke (fun b hb e => by omega), ?_⟩
        rw [HE.out, HIE.out]
        exact ⟨wr.heap.size, by omega, rfl, block_setCell_other (block_setCell_other (block_new _ _) _ _ (show wr.heap.size ≠ w.heap.size by omega)) _ _ (show wr.heap.size ≠ w.heap.size by omega)⟩
      · have hz' : (s.nodes == 0) = false := by simpa using hz
        have HE := Lib.hid (show parse t = .ok s by rw [HP.out, if_neg hz])
        clear hie hz HP hil
        go_wp2_with fail
        refine bodyPost_ret (v := .tuple #[.agg #[.int .i64 s.nodes, .slice av s.steps.length cv], .nilIface]) (results_cell_tmp (n := 2) (t := 2) (T := 24) Tryz.results8 Tryz.underlying24 rfl info24 _ _ w.heap.size _ 24 (0, 0) rfl (by rfl) (two_set HBR.out)) rfl ?_
        have hke : Keep (fun b => b = w.heap.size) wr ((wr.setCell ⟨w.heap.size, 0, none⟩ (.int .i64 s.nodes)).setCell ⟨w.heap.size, 1, none⟩ (.slice av s.steps.length cv)) := ((Keep.refl (fun b => b = w.heap.size) wr).setCell _ _ (.inr rfl)).setCell _ _ (.inr rfl)
        refine ⟨HKW.out.trans ((HK4.out.mono (M' := fun b => b = w.heap.size + 1 ∨ b = w.heap.size) (fun _ _ e => .inl e)).trans hke (fun b hb e => .inr e)) (fun b hb e => by omega), ?_⟩
        rw [HE.out]
        exact ⟨_, rfl, HV.out.other HBR.out (by decide) hke⟩
end Go.Proofs.YtifliekahdgobaaGreatDoor
namespace Go.Proofs.YtifliekahdgobaaGreatDoor
open Go.RowKit Sp

/-- names by kinds -/
def kl (K : List Nat) : List (Int × Value) := K.map fun k : Nat => ((k : Int), .agg #[sv (nm k)])
/-- all the names are in block n, in some order -/
def NamesAt (w : World) (n : Nat) : Prop := ∃ K : List Nat, K.Perm (List.range 12) ∧ MapL (fun x : Int => Value.int .i64 x) w n (kl K)
theorem NamesAt.keep {w w' : World} {n : Nat} (h : NamesAt w n) (hk : Keep (fun _ => False) w w') : NamesAt w' n := by
  obtain ⟨K, hp, hm⟩ := h
  exact ⟨K, hp, hk.at' hm (fun e => e)⟩
theorem look_name {w : World} {n : Nat} (h : NamesAt w n) (k : Nat) (hk : k < 12) :
    (Instr.lookup 84 (.map (some n)) (.int .i64 (k : Int)) true).run Tryz.prog w = .ok (.tuple #[.agg #[sv (nm k)], .bool true]) w := by
  obtain ⟨K, hp, hm⟩ := h
  exact run_look_hit (intKeys .i64) Tryz.underlying84 Tryz.underlying3 w n (kl K) hm (k : Int) (.agg #[sv (nm k)]) (List.mem_map.2 ⟨k, hp.mem_iff.2 (by simpa using hk), rfl⟩) (fun p hp' he => by
    obtain ⟨j, hj, rfl⟩ := List.mem_map.1 hp'
    have : j = k := by
      have he : (j : Int) = (k : Int) := he
      omega
    rw [this]) true
theorem look_noname {w : World} {n : Nat} (h : NamesAt w n) (x : Int) (hx : x < 0 ∨ 11 < x) :
    (Instr.lookup 84 (.map (some n)) (.int .i64 x) true).run Tryz.prog w = .ok (.tuple #[.agg #[sv []], .bool false]) w := by
  obtain ⟨K, hp, hm⟩ := h
  exact run_look_miss (intKeys .i64) Tryz.underlying84 Tryz.underlying3 w n (kl K) hm x (.agg #[sv []]) (by go_simp) (fun p hp' => by
    obtain ⟨j, hj, rfl⟩ := List.mem_map.1 hp'
    have : j < 12 := by simpa using hp.mem_iff.1 hj
    show (j : Int) ≠ x
    omega) true
theorem look_rule1 {w : World} {r : Nat} (h : RulesAt w r) (k : Nat) (hk12 : k < 12) :
    (Instr.lookup 82 (.map (some r)) (.string ⟨(nm k).toArray⟩) false).run Tryz.prog w = .ok (.agg (ruleCells k (decide (2 < k)) (readF k) (writeF k))) w := by
  obtain ⟨K, hp, hm⟩ := h
  exact run_look_hit strKeys Tryz.underlying82 Tryz.underlying9 w r (rl K) hm (nm k) (ruleV k) (List.mem_map.2 ⟨k, (hp.mem_iff.2 (by simpa using hk12)), rfl⟩) (fun p hp' he => by
    obtain ⟨j, hj, rfl⟩ := List.mem_map.1 hp'
    have hj12 : j < 12 := by simpa using hp.mem_iff.1 hj
    rw [show j = k from nm_inj j hj12 k hk12 he]) false
theorem nm_len : ∀ k, k < 12 → (nm k).length ≤ 7 := by decide
theorem nm_good : ∀ k, k < 12 → goodW (nm k) = true := by decide
/-- what stands for the node in a step's text -/
def nodeText (k : Nat) (s : StepS) : Str := if 2 < k then 32 :: itoa s.node else []
theorem join_cons2 (x y : Str) (r : List Str) : join (x :: y :: r) = x ++ 32 :: join (y :: r) := rfl
theorem stepText_parts (s : StepS) (k : Nat) (hk : s.kind = k) : Sp.stepText s = nm k ++ nodeText k s ++ bodyText k s := by
  unfold Sp.stepText stepWords nodeText nodeWords bodyText bodyWords nm
  rw [hk, Int.toNat_natCast]
  have e2 : ((2 : Int) < (k : Int)) ↔ 2 < k := by omega
  have e11 : ((k : Int) = 11) ↔ k = 11 := by omega
  have e8 : ((k : Int) = 8) ↔ k = 8 := by omega
  have e7 : ((k : Int) = 7) ↔ k = 7 := by omega
  simp only [e2, e11, e8, e7]
  by_cases h2 : 2 < k
  · rw [if_pos h2, if_pos h2]
    by_cases h11 : k = 11
    · rw [if_pos h11, if_pos h11]
      simp [join]
    · rw [if_neg h11, if_neg h11]
      by_cases h8 : k = 8
      · rw [if_pos h8, if_pos h8]
        unfold watchWords
        simp [join]
      · rw [if_neg h8, if_neg h8]
        by_cases h7 : k = 7
        · rw [if_pos h7, if_pos h7]
          unfold reqWords
          simp [join]
        · rw [if_neg h7, if_neg h7]
          simp [join]
  · have h11 : k ≠ 11 := by omega
    have h8 : k ≠ 8 := by omega
    have h7 : k ≠ 7 := by omega
    rw [if_neg h2, if_neg h2, if_neg h11, if_neg h11, if_neg h8, if_neg h8, if_neg h7, if_neg h7]
    simp [join]
/-- the words of a step's text -/
theorem stepText_words (s : StepS) (k : Nat) (hk : s.kind = k) (hk12 : k < 12) (hb : bodyOk k s = true) : words (Sp.stepText s) = nm k :: (nodeWords s ++ bodyWords s) := by
  have h1 : goodWs (stepWords s) = true := good_step s (by omega) (by omega) (fun h => by
    have : k = 7 := by omega
    subst this
    unfold bodyOk at hb
    rw [if_pos rfl] at hb
    unfold okKind at hb
    simpa using hb)
  unfold Sp.stepText
  rw [words_join _ h1]
  unfold stepWords nm
  rw [hk, Int.toNat_natCast]
theorem step_back {s : StepS} {k : Nat} (hk : s.kind = k) (h : okStep s = true) : pstep k (nodeWords s ++ bodyWords s) = some s := by
  have := pstep_words s h
  rwa [hk, Int.toNat_natCast] at this
theorem step_not {s : StepS} {k : Nat} (hk12 : k < 12) {ws : List Str} (h : okStep s = false) : pstep k ws ≠ some s := fun e => by
  have := (pstep_ok hk12 e).1
  rw [h] at this
  cases this
theorem body_not {s : StepS} {k : Nat} (hk : s.kind = k) (h : bodyOk k s = false) : okStep s = false := by
  unfold bodyOk at h
  by_cases h7 : k = 7
  · subst h7
    rw [if_pos rfl] at h
    cases ho : okStep s
    · rfl
    · exfalso
      have h1 := okStep_req ho hk
      unfold okKind at h
      rw [Bool.and_eq_false_iff, decide_eq_false_iff_not, decide_eq_false_iff_not] at h
      omega
  · rw [if_neg h7] at h
    cases h
theorem kind_not {s : StepS} (h : s.kind < 0 ∨ 11 < s.kind) : okStep s = false := by
  cases ho : okStep s
  · rfl
  · have := (okStep_iff s).1 ho
    omega
/-- what stepText comes to -/
def GotSText (s : StepS) (w : World) (e : Ending) (w' : World) : Prop :=
  Keep (fun _ => False) w w' ∧ ((okStep s = true ∧ e = .returned (sv (Sp.stepText s))) ∨ (okStep s = false ∧ ∃ c : Int, 1 ≤ c ∧ e = gaveUp c))
theorem body_le (k : Nat) (s : StepS) (h : MidStep s) : (bodyText k s).length ≤ 900000001 := by
  unfold bodyText
  split
  · simp
  · split
    · have := join_watch_le h.watch
      simp only [List.length_cons]; omega
    · split
      · have := join_req_le h.req
        simp only [List.length_cons]; omega
      · have := itoa_len s.n
        simp only [List.length_cons]; omega
theorem step_eq {a b : StepS} (h0 : a.kind = b.kind) (h1 : a.node = b.node) (h2 : a.n = b.n) (h3 : a.watch = b.watch) (h4 : a.req = b.req) : a = b := by
  obtain ⟨a1, a2, a3, a4, a5⟩ := a
  obtain ⟨b1, b2, b3, b4, b5⟩ := b
  dsimp only at *
  subst h0 h1 h2 h3 h4
  rfl
end Go.Proofs.YtifliekahdgobaaGreatDoor
namespace Go.Proofs.YtifliekahdgobaaGreatDoor
open Go.RowKit Sp

/-- two strings added: under a word of its own -/
def adT (x y : Operand) (a b : Value) : Sem Next := do pure (.value (← (do eqGuard .add 9 x y a b; binOp .add 9 a b)))
theorem execOp_add9 (ρ : Operand → Value) (x y : Operand) (d : Option Tmp) (u t : TypeId) (p : String) (af : Array Edge) (g : Option (Nat × Bool)) :
    execOp ρ { dst := d, op := Op.binOp .add 9 x y u, type := t, pos := p, after := af, guard := g } = adT x y (ρ x) (ρ y) := rfl
theorem run_adT (x y : Operand) (a b : Str) (w : World) (h : a.length + b.length ≤ 1000000000000) : (adT x y (sv a) (sv b)).run Tryz.prog w = .ok (.value (sv (a ++ b))) w := by
  have h' : ¬ ((9223372036854775807 : Int) < (a.length : Int) + (b.length : Int)) := by omega
  have e := ba_append a b
  unfold adT
  simp [eqGuard, binOp, Op.stringOp, e]
  show (a.toArray.size : Int) + (b.toArray.size : Int) ≤ 9223372036854775807
  simp
  omega
theorem add_step (a b : Str) (h : a.length + b.length ≤ 1000000000000) : ∃ T : Str, Hid (T = a ++ b) ∧ T.length ≤ a.length + b.length ∧ ∀ x y w, (adT x y (sv a) (sv b)).run Tryz.prog w = .ok (.value (sv T)) w :=
  ⟨_, Lib.hid rfl, by rw [List.length_append]; exact Nat.le_refl _, fun x y w => run_adT x y a b w h⟩
end Go.Proofs.YtifliekahdgobaaGreatDoor
