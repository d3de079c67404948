/-
  PLAIN: the pieces that FieldsFunc cuts are the words (fields). Helpers of the claims.
  THE REFERENCE's WALKS, 3: words. Helpers of the claims.
  THE REFERENCE's WALKS, 1: a line of the reference in memory; word, num. Helpers of the claims.
  THE REFERENCE's WALKS, 2: num. Helpers of the claims.
  THE REFERENCE's WALKS, 4: digit, bytes. Helpers of the claims.
-/
import Derived.Lib.FieldsP
import Derived.Lib.DecodeN
import Derived.Laws.RangeAny
import Derived.Lib.SlBy
import Derived.Test.YtifliekahdgobaaGreatDoorJSpecToW1
import Derived.Test.YtifliekahdgobaaGreatDoorJW21ToW22
import Derived.Test.YtifliekahdgobaaGreatDoorJW2ToW4
set_option linter.unusedSimpArgs false
set_option linter.unusedVariables false
namespace Go.Proofs.YtifliekahdgobaaGreatDoor
open Sp

/-- behind a byte of 128 and more: what else is taken with it is of 128 and more -/
theorem decode_cont (s : ByteArray) (i : Nat) (j : Nat) (h1 : 1 ≤ j) (h2 : j < (Utf8.decode s i).2) : i + j < s.size ∧ 128 ≤ (s.get! (i + j)).toNat := by
  rw [Lib.decode_at] at h2
  unfold Lib.decodeN at h2
  split at h2
  · simp at h2; omega
  · split at h2
    · rename_i h
      split at h2
      · simp only at h2
        obtain rfl : j = 1 := by omega
        omega
      · simp at h2; omega
    · split at h2
      · rename_i h
        split at h2
        · simp only at h2
          rcases (show j = 1 ∨ j = 2 by omega) with rfl | rfl <;> omega
        · simp at h2; omega
      · split at h2
        · rename_i h
          split at h2
          · simp only at h2
            rcases (show j = 1 ∨ j = 2 ∨ j = 3 by omega) with rfl | rfl | rfl <;> omega
          · simp at h2; omega
        · simp at h2; omega
/-- the Sp.blank runes -/
def bl (r : Nat) : Bool := r == 32 || r == 9
/-- the spans, byte by byte -/
def bspans (l : Str) (pos : Nat) : Option Nat → List (Nat × Nat) :=
  match l with
  | [] => fun st => match st with
    | some a => [(a, pos)]
    | none => []
  | c :: r => fun st => if Sp.blank c then (match st with
      | some a => (a, pos) :: bspans r (pos + 1) none
      | none => bspans r (pos + 1) none) else bspans r (pos + 1) (some (st.getD pos))
theorem bspans_run : ∀ (l : Str) (n pos : Nat) (st : Option Nat), n ≤ l.length → 1 ≤ n → (∀ c ∈ l.take n, Sp.blank c = false) → bspans l pos st = bspans (l.drop n) (pos + n) (some (st.getD pos))
  | l, 0, _, _, _, h, _ => by omega
  | [], n + 1, _, _, h, _, _ => by simp at h
  | c :: r, 1, pos, st, _, _, h3 => by
    have := h3 c (by simp)
    rw [bspans]
    dsimp only
    rw [if_neg (by simp [this])]
    rfl
  | c :: r, n + 2, pos, st, h1, _, h3 => by
    have := h3 c (by simp)
    rw [bspans]
    dsimp only
    rw [if_neg (by simp [this]), bspans_run r (n + 1) (pos + 1) _ (by simpa using h1) (by omega) (fun d hd => h3 d (by simp only [List.take_succ_cons]; exact List.mem_cons_of_mem _ hd))]
    rw [List.drop_succ_cons, show pos + 1 + (n + 1) = pos + (n + 2) by omega]
    rfl
theorem bl_high {r : Nat} (h : 128 ≤ r) : bl r = false := by
  unfold bl
  simp only [Bool.or_eq_false_iff, beq_eq_false_iff_ne]
  omega
theorem bl_byte (c : UInt8) : bl c.toNat = Sp.blank c := by
  unfold bl Sp.blank
  rw [Bool.eq_iff_iff]
  simp only [Bool.or_eq_true, beq_iff_eq, ← UInt8.toNat_inj]
  rfl
theorem blank_high {c : UInt8} (h : 128 ≤ c.toNat) : Sp.blank c = false := by rw [← bl_byte, bl_high h]
theorem width_in (s : ByteArray) (i : Nat) (h : i < s.size) : 1 ≤ (Utf8.decode s i).2 ∧ i + (Utf8.decode s i).2 ≤ s.size := by
  have h1 : 1 ≤ (Utf8.decode s i).2 := by
    by_cases ha : (s[i]'h).toNat < 128
    · rw [decode_ascii s i h ha]; exact Nat.le_refl _
    · exact (decode_high s i h (by omega)).2
  refine ⟨h1, ?_⟩
  by_cases h2 : (Utf8.decode s i).2 = 1
  · omega
  · have := (decode_cont s i ((Utf8.decode s i).2 - 1) (by omega) (by omega)).1
    omega
theorem get_list (s : ByteArray) (i : Nat) (h : i < s.size) : s.data.toList.drop i = (s[i]'h) :: s.data.toList.drop (i + 1) := by
  have h' : i < s.data.toList.length := by simpa using h
  rw [List.drop_eq_getElem_cons h']
  rfl
theorem spans_eq (s : ByteArray) : ∀ (f pos : Nat) (st : Option Nat) (acc : List (Nat × Nat)), pos ≤ s.size → s.size - pos ≤ f → Lib.closeSpans s (Lib.spansFromP bl s f pos st acc) = acc ++ bspans (s.data.toList.drop pos) pos st
  | 0, pos, st, acc, h, hf => by
    obtain rfl : pos = s.size := by omega
    have : s.data.toList.drop s.size = [] := List.drop_eq_nil_of_le (by simp)
    rw [this]
    cases st <;> simp [Lib.spansFromP, Lib.closeSpans, bspans]
  | f + 1, pos, st, acc, h, hf => by
    by_cases hp : pos < s.size
    · obtain ⟨hw1, hw2⟩ := width_in s pos hp
      unfold Lib.spansFromP
      rw [if_pos hp]
      by_cases ha : (s[pos]'hp).toNat < 128
      · rw [decode_ascii s pos hp ha, bl_byte, get_list s pos hp, bspans]
        dsimp only
        by_cases hb : Sp.blank (s[pos]'hp) = true
        · rw [if_pos hb, if_pos hb]
          cases st with
          | some a =>
            dsimp only
            rw [spans_eq s f (pos + 1) none _ (by omega) (by omega)]
            simp
          | none =>
            dsimp only
            rw [spans_eq s f (pos + 1) none _ (by omega) (by omega)]
        · rw [if_neg hb, if_neg hb]
          cases st with
          | some a =>
            dsimp only
            rw [spans_eq s f (pos + 1) _ _ (by omega) (by omega)]
            rfl
          | none =>
            dsimp only
            rw [spans_eq s f (pos + 1) _ _ (by omega) (by omega)]
            rfl
      · have hd := (decode_high s pos hp (by omega)).1
        rw [bl_high hd]
        simp only [Bool.false_eq_true, if_false]
        have hrun := bspans_run (s.data.toList.drop pos) (Utf8.decode s pos).2 pos st (by simp; omega) hw1 (by
          intro c hc
          obtain ⟨j, hj, rfl⟩ := List.mem_iff_getElem.1 hc
          simp only [List.length_take, List.length_drop] at hj
          simp only [List.getElem_take, List.getElem_drop]
          apply blank_high
          by_cases hj0 : j = 0
          · subst hj0
            show 128 ≤ (s.data.toList[pos + 0]).toNat
            simp only [Nat.add_zero, Array.getElem_toList]
            exact Nat.le_of_not_lt ha
          · have := (decode_cont s pos j (by omega) (by omega)).2
            have hlt : pos + j < s.size := by omega
            rw [show s.get! (pos + j) = s.data.toList[pos + j]'(by simpa using hlt) by
              simp [ByteArray.get!, getElem!_pos, hlt]] at this
            exact this)
        rw [hrun, List.drop_drop]
        cases st with
        | some a =>
          dsimp only
          rw [spans_eq s f _ _ _ hw2 (by omega)]
          rfl
        | none =>
          dsimp only
          rw [spans_eq s f _ _ _ hw2 (by omega)]
          rfl
    · obtain rfl : pos = s.size := by omega
      have : s.data.toList.drop s.size = [] := List.drop_eq_nil_of_le (by simp)
      rw [this, Lib.spansFromP_end bl s _ _ _ _ hp]
      cases st <;> simp [Lib.closeSpans, bspans]

/-- a piece of a list -/
def piece (L : Str) (x : Nat × Nat) : Str := (L.drop x.1).take (x.2 - x.1)
theorem pieces_eq : ∀ (r pre : Str), (bspans r pre.length none).map (piece (pre ++ r)) = fieldsGo [] r ∧ ∀ a, a < pre.length → (bspans r pre.length (some a)).map (piece (pre ++ r)) = fieldsGo (pre.drop a) r
  | [], pre => by
    refine ⟨rfl, fun a ha => ?_⟩
    have h1 : pre.drop a ≠ [] := by
      intro e
      have := congrArg List.length e
      simp at this; omega
    simp only [bspans, List.map_cons, List.map_nil, fieldsGo, if_neg h1, piece, List.append_nil]
    rw [List.take_of_length_le (by simp)]
  | c :: r, pre => by
    obtain ⟨h1, h2⟩ := pieces_eq r (pre ++ [c])
    have hl : (pre ++ [c]).length = pre.length + 1 := by simp
    have hL : (pre ++ [c]) ++ r = pre ++ c :: r := by simp
    rw [hl, hL] at h1 h2
    refine ⟨?_, fun a ha => ?_⟩
    · rw [bspans, fieldsGo]
      dsimp only
      by_cases hb : Sp.blank c = true
      · rw [if_pos hb, if_pos hb, if_pos rfl, h1]
      · rw [if_neg hb, if_neg hb]
        have := h2 pre.length (by omega)
        rw [show (pre ++ [c]).drop pre.length = [c] by simp] at this
        simp only [Option.getD_none, List.nil_append]
        exact this
    · have h3 : pre.drop a ≠ [] := by
        intro e
        have := congrArg List.length e
        simp at this; omega
      rw [bspans, fieldsGo]
      dsimp only
      by_cases hb : Sp.blank c = true
      · rw [if_pos hb, if_pos hb, if_neg h3, List.map_cons, h1]
        congr 1
        unfold piece
        dsimp only
        rw [List.drop_append_of_le_length (by omega), List.take_append_of_le_length (by simp), List.take_of_length_le (by simp)]
      · rw [if_neg hb, if_neg hb]
        have := h2 a (by omega)
        rw [List.drop_append_of_le_length (by omega)] at this
        exact this
theorem extract_piece (s : ByteArray) (a b : Nat) : s.extract a b = ⟨(piece s.data.toList (a, b)).toArray⟩ := by
  apply ByteArray.ext
  apply Array.ext'
  simp [piece, ByteArray.data_extract]
theorem goFields_eq (s : ByteArray) : Lib.goFieldsP bl s = (fields s.data.toList).map fun x => (⟨x.toArray⟩ : ByteArray) := by
  unfold Lib.goFieldsP Lib.spansOfP
  rw [spans_eq s s.size 0 none [] (Nat.zero_le _) (by omega)]
  simp only [List.nil_append, List.drop_zero]
  have h := (pieces_eq s.data.toList []).1
  simp only [List.nil_append, List.length_nil] at h
  unfold fields
  rw [← h, List.map_map]
  apply List.map_congr_left
  intro x hx
  exact extract_piece s x.1 x.2
theorem fieldsGo_ne : ∀ (s cur : Str), ∀ x ∈ fieldsGo cur s, x ≠ [] ∧ x.length ≤ cur.length + s.length
  | [], cur, x, h => by
    unfold fieldsGo at h
    split at h
    · cases h
    · rename_i hc
      simp only [List.mem_cons, List.mem_nil_iff, or_false] at h
      subst h
      exact ⟨hc, by simp⟩
  | c :: s, cur, x, h => by
    unfold fieldsGo at h
    split at h
    · split at h
      · have := fieldsGo_ne s [] x h
        exact ⟨this.1, by have := this.2; simp at this ⊢; omega⟩
      · rename_i hc
        rcases List.mem_cons.1 h with h | h
        · subst h
          exact ⟨hc, by simp⟩
        · have := fieldsGo_ne s [] x h
          exact ⟨this.1, by have := this.2; simp at this ⊢; omega⟩
    · have := fieldsGo_ne s (cur ++ [c]) x h
      exact ⟨this.1, by have := this.2; simp at this ⊢; omega⟩
theorem fieldsGo_len : ∀ (s cur : Str), (fieldsGo cur s).length ≤ s.length + 1
  | [], cur => by unfold fieldsGo; split <;> simp
  | c :: s, cur => by
    unfold fieldsGo
    split
    · split
      · have := fieldsGo_len s []; simp; omega
      · have := fieldsGo_len s []; simp; omega
    · have := fieldsGo_len s (cur ++ [c]); simp; omega
theorem fields_len (s : Str) : (fields s).length ≤ s.length + 1 := fieldsGo_len s []
theorem words_sub (s : Str) : ∀ x ∈ words s, x ∈ fields s := fun x hx => List.takeWhile_subset _ hx
theorem words_ne (s : Str) : ∀ x ∈ words s, x ≠ [] ∧ x.length ≤ s.length := fun x hx => by
  have := fieldsGo_ne s [] x (words_sub s x hx)
  simpa using this
theorem words_len (s : Str) : (words s).length ≤ s.length + 1 := by
  have h1 : (words s).length ≤ (fields s).length := (List.takeWhile_sublist _).length_le
  have := fields_len s
  omega
/-- where the first of a kind stands -/
theorem idx_first {α : Type} (p : α → Bool) (x : α) : ∀ (l : List α) (i : Nat), (Lib.idxByFrom (fun _ y => p y) x l i = -1 ∧ l.takeWhile (fun y => !p y) = l) ∨ ∃ k, k < l.length ∧ Lib.idxByFrom (fun _ y => p y) x l i = ((i + k : Nat) : Int) ∧ l.takeWhile (fun y => !p y) = l.take k
  | [], i => .inl ⟨rfl, rfl⟩
  | y :: l, i => by
    unfold Lib.idxByFrom
    by_cases h : p y = true
    · right
      refine ⟨0, by simp, ?_, ?_⟩
      · rw [if_pos h]; simp
      · rw [List.takeWhile_cons_of_neg (by simp [h])]; simp
    · rw [if_neg h]
      rw [List.takeWhile_cons_of_pos (by simp [h])]
      rcases idx_first p x l (i + 1) with ⟨h1, h2⟩ | ⟨k, hk, h1, h2⟩
      · left; exact ⟨h1, by rw [h2]⟩
      · right
        refine ⟨k + 1, by simp; omega, ?_, ?_⟩
        · rw [h1]; congr 1; omega
        · rw [h2]; rfl
end Go.Proofs.YtifliekahdgobaaGreatDoor
namespace Go.Proofs.YtifliekahdgobaaGreatDoor
open Go.RowKit Sp

/-- the words of what is left -/
def wordsFrom (r : Str) : List Str := (fieldsGo [] r).takeWhile noHash
theorem wordsFrom_all (x : Str) : wordsFrom x = words x := rfl
theorem wordsFrom_blank {c : UInt8} {r : Str} (h : Sp.blank c = true) : wordsFrom (c :: r) = wordsFrom r := by
  unfold wordsFrom
  rw [fieldsGo, if_pos h, if_pos rfl]
theorem fieldsGo_cur : ∀ (a r cur : Str), cur ≠ [] → (∀ c ∈ a, Sp.blank c = false) → (r = [] ∨ ∃ c r', r = c :: r' ∧ Sp.blank c = true) → fieldsGo cur (a ++ r) = (cur ++ a) :: fieldsGo [] r
  | [], r, cur, hc, _, hr => by
    rcases hr with rfl | ⟨c, r', rfl, hb⟩
    · simp [fieldsGo, hc]
    · rw [List.nil_append, fieldsGo, if_pos hb, if_neg hc, fieldsGo, if_pos hb, if_pos rfl]
      simp
  | c :: a, r, cur, hc, ha, hr => by
    have h1 := ha c List.mem_cons_self
    rw [List.cons_append, fieldsGo, if_neg (by simp [h1]), fieldsGo_cur a r (cur ++ [c]) (by simp) (fun d hd => ha d (List.mem_cons_of_mem _ hd)) hr]
    simp
theorem wordsFrom_word {c : UInt8} {a r : Str} (hc : Sp.blank c = false) (h35 : c ≠ 35) (ha : ∀ d ∈ a, Sp.blank d = false) (hr : r = [] ∨ ∃ d r', r = d :: r' ∧ Sp.blank d = true) : wordsFrom (c :: (a ++ r)) = (c :: a) :: wordsFrom r := by
  unfold wordsFrom
  rw [fieldsGo, if_neg (by simp [hc])]
  rw [List.nil_append, fieldsGo_cur a r [c] (by simp) ha hr, List.singleton_append, List.takeWhile_cons_of_pos (by unfold noHash; simp [h35])]
theorem span_exists : ∀ r : Str, ∃ a r', r = a ++ r' ∧ (∀ d ∈ a, Sp.blank d = false) ∧ (r' = [] ∨ ∃ d r'', r' = d :: r'' ∧ Sp.blank d = true)
  | [] => ⟨[], [], rfl, by simp, .inl rfl⟩
  | c :: r => by
    by_cases hb : Sp.blank c = true
    · exact ⟨[], c :: r, rfl, by simp, .inr ⟨c, r, rfl, hb⟩⟩
    · obtain ⟨a, r', h1, h2, h3⟩ := span_exists r
      refine ⟨c :: a, r', by rw [h1]; rfl, ?_, h3⟩
      intro d hd
      rcases List.mem_cons.1 hd with rfl | hd
      · simpa using hb
      · exact h2 d hd
theorem wordsFrom_hash (r : Str) : wordsFrom (35 :: r) = [] := by
  obtain ⟨a, r', rfl, h2, h3⟩ := span_exists r
  unfold wordsFrom
  rw [fieldsGo, if_neg (by decide), List.nil_append, fieldsGo_cur a r' [35] (by simp) h2 h3]
  rw [List.takeWhile_cons_of_neg (by unfold noHash; simp)]
/-- no Sp.blank from k on, before j -/
def NB (x : Str) (k j : Nat) : Prop := ∀ i d, k ≤ i → i < j → x[i]? = some d → Sp.blank d = false
theorem words_step {x : Str} {k j : Nat} {c : UInt8} {out : List Str} (hkj : k < j) (hj : j ≤ x.length) (hd : x.drop k = c :: x.drop (k + 1)) (hnb : NB x k j) (hc : Sp.blank c = false) (h35 : c ≠ 35) (he : j = x.length ∨ ∃ d, x[j]? = some d ∧ Sp.blank d = true)
    (heq : out ++ wordsFrom (x.drop k) = words x) : (out ++ [(x.drop k).take (j - k)]) ++ wordsFrom (x.drop j) = words x := by
  have h1 : (x.drop k).take (j - k) = c :: (x.drop (k + 1)).take (j - k - 1) := by
    rw [hd, show j - k = (j - k - 1) + 1 by omega, List.take_succ_cons]
    simp
  have h2 : x.drop k = c :: ((x.drop (k + 1)).take (j - k - 1) ++ x.drop j) := by
    rw [hd]
    congr 1
    have := (List.take_append_drop (j - k - 1) (x.drop (k + 1))).symm
    rw [List.drop_drop, show k + 1 + (j - k - 1) = j by omega] at this
    exact this
  rw [h2, wordsFrom_word hc h35 (by
    intro d hdm
    obtain ⟨i, hi, rfl⟩ := List.mem_iff_getElem.1 hdm
    simp only [List.length_take, List.length_drop] at hi
    refine hnb (k + 1 + i) _ (by omega) (by omega) ?_
    rw [List.getElem_take, List.getElem_drop]
    exact List.getElem?_eq_getElem (by omega)) (by
    rcases he with rfl | ⟨d, hd2, hb⟩
    · left; simp
    · right
      obtain ⟨hlt, hd3⟩ := List.getElem?_eq_some_iff.1 hd2
      exact ⟨d, x.drop (j + 1), by rw [← hd3]; exact List.drop_eq_getElem_cons hlt, hb⟩)] at heq
  rw [h1]
  simpa using heq
/-- what the reference's words hand back -/
def GotWordsR (w : World) (ws : List Str) (e : Ending) (w' : World) : Prop := ∃ v, e = .returned v ∧ WsAt w' w.heap.size v ws ∧ Keep (fun _ => False) w w'
theorem blank_iff (c : UInt8) : Sp.blank c = true ↔ c = 32 ∨ c = 9 := by unfold Sp.blank; simp
theorem u8_int {c : UInt8} {n : Nat} (hn : n < 256) : ((c.toNat : Int) == (n : Int)) = (c == UInt8.ofNat n) := by
  rw [Bool.eq_iff_iff]
  simp only [beq_iff_eq]
  constructor
  · intro h
    have : c.toNat = n := by omega
    rw [← UInt8.toNat_inj, this]
    simp [Nat.mod_eq_of_lt hn]
  · intro h
    rw [h]
    simp [Nat.mod_eq_of_lt hn]
set_option maxHeartbeats 3200000 in
set_option maxRecDepth 100000 in
theorem rwords_any (x : Str) (hx : x.length ≤ 100000) (w : World) : Calls Tryz.prog 28 #[sv x] w (GotWordsR w (words x)) := by
  obtain ⟨ws, hws⟩ : ∃ ws, ws = words x := ⟨_, rfl⟩
  rw [← hws]
  have HWS := Lib.hid hws
  clear hws
  go_enter Tryz.func28, Tryz.ntmps28
  go_wp2_with fail
  go_loopw [3, 4, 5] (fun v3 v4 v5 wr => ∃ (k : Nat) (out : List Str), k ≤ x.length ∧ v4 = .int .i64 k ∧ WsAt wr w.heap.size v3 out ∧ Keep (fun _ => False) w wr ∧ out ++ wordsFrom (x.drop k) = words x ∧ out.length ≤ k) (fun _ v4 _ _ => x.length - (intOf v4).toNat)
  case atStart => exact ⟨0, [], Nat.zero_le _, rfl, World.ownsRow_nil _ _ _ _, Keep.refl _ _, rfl, Nat.le_refl _⟩
  case round =>
    obtain ⟨k, out, hk, rfl, hown, hkr, heq, hlen⟩ := hrel
    obtain ⟨a3, c3, rfl⟩ := hown.slice
    by_cases hlt : k < x.length
    · obtain ⟨c, hc⟩ : ∃ c, x[k] = c := ⟨_, rfl⟩
      have hb : (⟨x.toArray⟩ : ByteArray)[k]'(by show k < x.toArray.size; simp; omega) = c := hc
      have hd : x.drop k = c :: x.drop (k + 1) := by rw [← hc]; exact List.drop_eq_getElem_cons hlt
      have hlt' : (k : Int) < (x.length : Int) := by omega
      have HO := Lib.hid hown
      have HKR := Lib.hid hkr
      have HEQ := Lib.hid heq
      have HD := Lib.hid hd
      have HC := Lib.hid hc
      clear hown hkr heq hd hc
      have s1 : Sp.blank c = true → out ++ wordsFrom (x.drop (k + 1)) = words x := fun hq => by rw [← HEQ.out, HD.out, wordsFrom_blank hq]
      have S1 := Lib.hid s1
      clear s1
      by_cases h32 : c = 32
      · subst h32
        go_wp2_with fail
        exact ⟨⟨k + 1, out, by omega, by go_num, HO.out, HKR.out, S1.out rfl, by omega⟩, by simp [intOf]; omega⟩
      · by_cases h9 : c = 9
        · subst h9
          go_wp2_with fail
          exact ⟨⟨k + 1, out, by omega, by go_num, HO.out, HKR.out, S1.out rfl, by omega⟩, by simp [intOf]; omega⟩
        · have h32' : ((c.toNat : Int) == 32) = false := by rw [show (32 : Int) = ((32 : Nat) : Int) from rfl, u8_int (by decide)]; simpa using h32
          have h9' : ((c.toNat : Int) == 9) = false := by rw [show (9 : Int) = ((9 : Nat) : Int) from rfl, u8_int (by decide)]; simpa using h9
          have hnb : Sp.blank c = false := by
            rw [Bool.eq_false_iff, ne_eq, blank_iff]
            rintro (h | h)
            · exact h32 h
            · exact h9 h
          by_cases h35 : c = 35
          · subst h35
            clear h32 h9
            go_wp2_with fail
            go_ret
            refine ⟨_, rfl, ?_, HKR.out⟩
            rw [HWS.out, ← HEQ.out, HD.out, wordsFrom_hash, List.append_nil]
            exact HO.out
          · have h35' : ((c.toNat : Int) == 35) = false := by rw [show (35 : Int) = ((35 : Nat) : Int) from rfl, u8_int (by decide)]; simpa using h35
            have H35 := Lib.hid h35
            have HNB := Lib.hid hnb
            clear h32 h9 h35 hnb
            go_wp2_with fail
            obtain ⟨wo, rfl⟩ : ∃ wo : World, wo = wr := ⟨_, rfl⟩
            go_loop [5] (fun v5 => ∃ j : Nat, k ≤ j ∧ j ≤ x.length ∧ v5 = .int .i64 j ∧ NB x k j) (fun v5 => x.length - (intOf v5).toNat)
            case atStart => exact ⟨k, Nat.le_refl _, hk, rfl, fun i d h1 h2 => by omega⟩
            case round =>
              obtain ⟨j, hkj, hjl, rfl, hnbj⟩ := hrel
              have HNJ := Lib.hid hnbj
              clear hnbj
              have done : ∀ (hkj2 : k < j) (he : j = x.length ∨ ∃ d, x[j]? = some d ∧ Sp.blank d = true), (out ++ [(x.drop k).take (j - k)]) ++ wordsFrom (x.drop j) = words x := fun hkj2 he => words_step hkj2 hjl HD.out HNJ.out HNB.out H35.out he HEQ.out
              have DONE := Lib.hid done
              clear done
              have hex : (⟨x.toArray⟩ : ByteArray).extract k j = ⟨((x.drop k).take (j - k)).toArray⟩ := extract_piece ⟨x.toArray⟩ k j
              have hkj' : (k : Int) ≤ (j : Int) := by omega
              have hjl' : (j : Int) ≤ (x.length : Int) := by omega
              have hol : out.length + 1 ≤ 1000000 := by omega
              have hpl : ((x.drop k).take (j - k)).length ≤ 100000 := by simp; omega
              generalize hpc : (x.drop k).take (j - k) = pc at *
              have HPC := Lib.hid hpc
              clear hpc
              have HOLL := Lib.hid hol
              have HOL := Lib.hid (HO.out.lt)
              have wayout : (k < j) → (j = x.length ∨ ∃ d, x[j]? = some d ∧ Sp.blank d = true) → ∀ v' w', WsAt w' w.heap.size v' (out ++ [pc]) → (wo.alloc (.cells #[sv pc] 9 (0, 0))).grownBy w' (Value.slice a3 out.length c3).ownBlock → (∃ (k : Nat) (out : List Str), k ≤ x.length ∧ Value.int .i64 (j : Int) = .int .i64 k ∧ WsAt w' w.heap.size v' out ∧ Keep (fun _ => False) w w' ∧ out ++ wordsFrom (x.drop k) = words x ∧ out.length ≤ k) := by
                intro h1 h2 v' w' h3 h4
                exact ⟨j, out ++ [pc], hjl, rfl, h3, keep_grown (HKR.out.alloc _) h4 (fun g hg => (HOL.out g hg).1), DONE.out h1 h2, by simp; omega⟩
              have WAY := Lib.hid wayout
              clear wayout
              by_cases hlt2 : j < x.length
              · obtain ⟨d, hdd⟩ : ∃ d, x[j] = d := ⟨_, rfl⟩
                have hbd : (⟨x.toArray⟩ : ByteArray)[j]'(by show j < x.toArray.size; simp; omega) = d := hdd
                have hlt3 : (j : Int) < (x.length : Int) := by omega
                have hxj : x[j]? = some d := by rw [← hdd]; exact List.getElem?_eq_getElem hlt2
                have HXJ := Lib.hid hxj
                clear hdd hxj
                by_cases hb32 : d = 32
                · subst hb32
                  have hkj2 : k < j := by
                    rcases Nat.lt_or_ge k j with h | h
                    · exact h
                    · exfalso
                      have : k = j := by omega
                      subst this
                      have h1 := HXJ.out
                      rw [List.getElem?_eq_getElem hlt2, HC.out] at h1
                      simp only [Option.some.injEq] at h1
                      exact absurd HNB.out (by rw [h1]; decide)
                  have W2 := Lib.hid (WAY.out hkj2 (.inr ⟨_, HXJ.out, by decide⟩))
                  have HK2 := Lib.hid hkj2
                  clear hkj2
                  go_wp2_with (at_builtin; refine wpList_app_strs rfl (.tmp 46) (.tmp 51) rfl rfl [pc] rfl rfl (WsAt.far HO.out ((Keep.refl _ _).alloc _)) (block_new _ _) HOLL.out (Keep.size (M := fun _ => False) (HKR.out.alloc _)) ?_)
                  intro v' w' h3 h4
                  go_wp2_with fail
                  exact ⟨W2.out v' w' h3 h4, by have := HK2.out; simp [intOf]; omega⟩
                · by_cases hb9 : d = 9
                  · subst hb9
                    have hkj2 : k < j := by
                      rcases Nat.lt_or_ge k j with h | h
                      · exact h
                      · exfalso
                        have : k = j := by omega
                        subst this
                        have h1 := HXJ.out
                        rw [List.getElem?_eq_getElem hlt2, HC.out] at h1
                        simp only [Option.some.injEq] at h1
                        exact absurd HNB.out (by rw [h1]; decide)
                    have W2 := Lib.hid (WAY.out hkj2 (.inr ⟨_, HXJ.out, by decide⟩))
                    have HK2 := Lib.hid hkj2
                    clear hkj2
                    go_wp2_with (at_builtin; refine wpList_app_strs rfl (.tmp 46) (.tmp 51) rfl rfl [pc] rfl rfl (WsAt.far HO.out ((Keep.refl _ _).alloc _)) (block_new _ _) HOLL.out (Keep.size (M := fun _ => False) (HKR.out.alloc _)) ?_)
                    intro v' w' h3 h4
                    go_wp2_with fail
                    exact ⟨W2.out v' w' h3 h4, by have := HK2.out; simp [intOf]; omega⟩
                  · have hd32 : ((d.toNat : Int) == 32) = false := by rw [show (32 : Int) = ((32 : Nat) : Int) from rfl, u8_int (by decide)]; simpa using hb32
                    have hd9 : ((d.toNat : Int) == 9) = false := by rw [show (9 : Int) = ((9 : Nat) : Int) from rfl, u8_int (by decide)]; simpa using hb9
                    have hn32 : ((d.toNat : Int) != 32) = true := by rw [bne, hd32]; rfl
                    have hn9 : ((d.toNat : Int) != 9) = true := by rw [bne, hd9]; rfl
                    have hnbd : Sp.blank d = false := by
                      rw [Bool.eq_false_iff, ne_eq, blank_iff]
                      rintro (h | h)
                      · exact hb32 h
                      · exact hb9 h
                    have HND := Lib.hid hnbd
                    clear hb32 hb9 hnbd
                    go_wp2_with fail
                    refine ⟨⟨j + 1, by omega, by omega, by go_num, ?_⟩, by simp [intOf]; omega⟩
                    intro i e h1 h2 h3
                    by_cases hij : i = j
                    · subst hij
                      rw [HXJ.out] at h3
                      simp only [Option.some.injEq] at h3
                      rw [← h3]; exact HND.out
                    · exact HNJ.out i e h1 (by omega) h3
              · have hkj2 : k < j := by omega
                have hge : ¬ (j : Int) < (x.length : Int) := by omega
                have W2 := Lib.hid (WAY.out hkj2 (.inl (by omega)))
                have HK2 := Lib.hid hkj2
                clear hkj2
                go_wp2_with (at_builtin; refine wpList_app_strs rfl (.tmp 46) (.tmp 51) rfl rfl [pc] rfl rfl (WsAt.far HO.out ((Keep.refl _ _).alloc _)) (block_new _ _) HOLL.out (Keep.size (M := fun _ => False) (HKR.out.alloc _)) ?_)
                intro v' w' h3 h4
                go_wp2_with fail
                exact ⟨W2.out v' w' h3 h4, by have := HK2.out; simp [intOf]; omega⟩
    · have hge : ¬ (k : Int) < (x.length : Int) := by omega
      have hfin : out = words x := by
        rw [List.drop_eq_nil_of_le (by omega)] at heq
        simpa [wordsFrom, fieldsGo] using heq
      have HFIN := Lib.hid hfin
      have HO := Lib.hid hown
      have HKR := Lib.hid hkr
      clear hfin hown hkr heq
      go_wp2_with fail
      go_ret
      exact ⟨_, rfl, by rw [HWS.out, ← HFIN.out]; exact HO.out, HKR.out⟩
end Go.Proofs.YtifliekahdgobaaGreatDoor
namespace Go.Proofs.YtifliekahdgobaaGreatDoor
open Go.RowKit Sp

/-- the reference's line (block lb: its words' slice, and whether one was not as it must be) -/
def RLineAt (w : World) (lb rb : Nat) (ws : List Str) (bad : Bool) : Prop :=
  ∃ off c, w.heap[lb]? = some (.cells #[.slice (some ⟨rb, off, none⟩) ws.length c, .bool bad] 124 (0, 0)) ∧ ws.length ≤ c ∧ (c ≤ 9223372036854775807 ∧ ws.length ≤ 1099511627776) ∧ rb ≠ lb ∧ StrsAt w rb off ws ∧ okWords ws
theorem RLineAt.keep {M : Nat → Prop} {w w' : World} {lb rb : Nat} {ws : List Str} {bad : Bool} (h : RLineAt w lb rb ws bad) (hk : Keep M w w') (hl : ¬ M lb) (hr : ¬ M rb) : RLineAt w' lb rb ws bad := by
  obtain ⟨off, c, h1, h2, h3, h4, h5, h6⟩ := h
  exact ⟨off, c, hk.at' h1 hl, h2, h3, h4, h5.keep hk hr, h6⟩
theorem RLineAt.lt {w : World} {lb rb : Nat} {ws : List Str} {bad : Bool} (h : RLineAt w lb rb ws bad) : lb < w.heap.size := by
  obtain ⟨off, c, h1, _⟩ := h
  exact lt_of_block h1
theorem RLineAt.ok {w : World} {lb rb : Nat} {ws : List Str} {bad : Bool} (h : RLineAt w lb rb ws bad) : okWords ws := by
  obtain ⟨off, c, _, _, _, _, _, h6⟩ := h
  exact h6
theorem RLineAt.ne {w : World} {lb rb : Nat} {ws : List Str} {bad : Bool} (h : RLineAt w lb rb ws bad) : ¬ rb = lb := by
  obtain ⟨off, c, _, _, _, h4, _, _⟩ := h
  exact h4
theorem RLineAt.cellBad {w : World} {lb rb : Nat} {ws : List Str} {bad : Bool} (h : RLineAt w lb rb ws bad) : w.cell? ⟨lb, 1, none⟩ = some (.bool bad) := by
  obtain ⟨off, c, h1, _⟩ := h
  exact cell_of_block h1 1
theorem RLineAt.free {w : World} {lb rb : Nat} {ws : List Str} {bad : Bool} (h : RLineAt w lb rb ws bad) (i : Nat) : w.frozen? ⟨lb, i, none⟩ = false := by
  obtain ⟨off, c, h1, _⟩ := h
  exact free_of_block h1 i
/-- the mark is set -/
theorem RLineAt.mark {w : World} {lb rb : Nat} {ws : List Str} {bad : Bool} (h : RLineAt w lb rb ws bad) (b : Bool) : RLineAt (w.setCell ⟨lb, 1, none⟩ (.bool b)) lb rb ws b := by
  obtain ⟨off, c, h1, h2, h3, h4, h5, h6⟩ := h
  exact ⟨off, c, block_setCell h1 1 _, h2, h3, h4, h5.keep ((Keep.refl (fun b => b = lb) w).setCell _ _ (.inr rfl)) (fun e => h4 e), h6⟩

/-- what a reader of the reference comes to: a value; the words left; it is marked bad, if it was, or if the words were not as they must be -/
def GotR {α : Type} (enc : α → Value) (P : α → Prop) (lb rb : Nat) (w : World) (bad : Bool) (ws : List Str) (o : Option (α × List Str)) (e : Ending) (w' : World) : Prop :=
  Keep (fun b => b = lb) w w' ∧ ∃ a ws' bad', e = .returned (enc a) ∧ RLineAt w' lb rb ws' bad' ∧ P a ∧ ws'.length ≤ ws.length ∧ ((bad = false ∧ o = some (a, ws') ∧ bad' = false) ∨ ((bad = true ∨ o = none) ∧ bad' = true))

theorem rword_some (lb rb : Nat) (x : Str) (ws : List Str) (bad : Bool) (w : World) (h : RLineAt w lb rb (x :: ws) bad) :
    Calls Tryz.prog 96 #[.pointer (some ⟨lb, 0, none⟩)] w fun e w' => e = .returned (sv x) ∧ Keep (fun b => b = lb) w w' ∧ RLineAt w' lb rb ws bad := by
  obtain ⟨off, c, h1, h2, ⟨h3, h3b⟩, h4, h5, h6⟩ := h
  simp only [List.length_cons] at h1 h2 h3b
  generalize hn : ws.length = n at h1 h2 h3b
  have HN := Lib.hid hn
  clear hn
  have H1 := Lib.hid h1
  have H5 := Lib.hid h5
  have H6 := Lib.hid h6
  have hx : w.cell? ⟨rb, off, none⟩ = some (sv x) := h5 0 x rfl
  clear h5 h6
  have hl : w.cell? ⟨lb, 0, none⟩ = some (.slice (some ⟨rb, off, none⟩) (n + 1) c) := cell_of_block h1 0
  have hf := free_of_block h1 0
  have fin : ∀ off' c', (n = 0 ∨ off' = off + 1) → n ≤ c' → c' ≤ 9223372036854775807 → Keep (fun b => b = lb) w (w.setCell ⟨lb, 0, none⟩ (.slice (some ⟨rb, off', none⟩) n c')) ∧ RLineAt (w.setCell ⟨lb, 0, none⟩ (.slice (some ⟨rb, off', none⟩) n c')) lb rb ws bad := by
    intro off' c' ho hc hc'
    have hk : Keep (fun b => b = lb) w (w.setCell ⟨lb, 0, none⟩ (.slice (some ⟨rb, off', none⟩) n c')) := (Keep.refl _ w).setCell _ _ (.inr rfl)
    refine ⟨hk, off', c', ?_, by rw [HN.out]; exact hc, ⟨hc', by rw [HN.out]; omega⟩, h4, ?_, H6.out.tail⟩
    · rw [HN.out]; exact block_setCell H1.out 0 _
    · rcases ho with ho | ho
      · intro i y hy
        have : ws = [] := List.length_eq_zero_iff.1 (HN.out.trans ho)
        subst this
        simp at hy
      · subst ho
        exact H5.out.tail.keep hk (fun e => h4 e)
  have FIN := Lib.hid fin
  clear fin H5 H6 HN h1
  have h4' : ¬ rb = lb := h4
  go_enter Tryz.func96, Tryz.ntmps96
  go_wp2_with fail
  · go_ret
    exact ⟨rfl, FIN.out _ _ (.inl (by omega)) (by omega) (by omega)⟩
  · go_ret
    exact ⟨rfl, FIN.out _ _ (.inr rfl) (by omega) (by omega)⟩
theorem rword_none (lb rb : Nat) (bad : Bool) (w : World) (h : RLineAt w lb rb [] bad) :
    Calls Tryz.prog 96 #[.pointer (some ⟨lb, 0, none⟩)] w fun e w' => e = .returned (sv []) ∧ Keep (fun b => b = lb) w w' ∧ RLineAt w' lb rb [] true := by
  have hl : ∃ off c, w.cell? ⟨lb, 0, none⟩ = some (.slice (some ⟨rb, off, none⟩) 0 c) := by
    obtain ⟨off, c, h1, h2, h3, h4, h5, h6⟩ := h
    exact ⟨off, c, cell_of_block h1 0⟩
  obtain ⟨off, c, hl⟩ := hl
  have hb := h.cellBad
  have hf := h.free 1
  have HM := Lib.hid (h.mark true)
  clear h
  go_enter Tryz.func96, Tryz.ntmps96
  go_wp2_with fail
  go_ret
  exact ⟨rfl, (Keep.refl _ w).setCell _ _ (.inr rfl), HM.out⟩
end Go.Proofs.YtifliekahdgobaaGreatDoor
namespace Go.Proofs.YtifliekahdgobaaGreatDoor
open Go.RowKit Sp

/-- what the reference's num comes to at a word -/
def GotNum (m : Int) (lb rb : Nat) (x : Str) (ws : List Str) (bad : Bool) (w : World) (e : Ending) (w' : World) : Prop :=
  Keep (fun b => b = lb) w w' ∧ match numOf m x with
    | some a => e = .returned (.int .u64 a) ∧ RLineAt w' lb rb ws bad
    | none => e = .returned (.int .u64 0) ∧ RLineAt w' lb rb ws true
theorem take_digs {x : Str} {k : Nat} (hk : k < x.length) (h : (x.take k).all isDig = true) : (x.take (k + 1)).all isDig = (isDig x[k]) := by
  rw [List.take_succ_eq_append_getElem hk, List.all_append, h]
  simp
theorem take_val {x : Str} {k : Nat} (hk : k < x.length) : valFrom 0 (x.take (k + 1)) = 10 * valFrom 0 (x.take k) + (x[k].toNat - 48) := by
  rw [List.take_succ_eq_append_getElem hk]
  unfold valFrom
  rw [List.foldl_append]
  rfl
theorem take_lt {x : Str} {k : Nat} (h : (x.take k).all isDig = true) (hk : k ≤ 17) : valFrom 0 (x.take k) < 100000000000000000 := by
  have h4 := valFrom_lt (x.take k) 0 0 Nat.one_pos h
  have h5 : (10 : Nat) ^ (0 + (x.take k).length) ≤ 10 ^ 17 := Nat.pow_le_pow_right (by omega) (by have := List.length_take_le k x; omega)
  have h6 : (10 : Nat) ^ 17 = 100000000000000000 := by decide
  omega
set_option maxHeartbeats 1600000 in
set_option maxRecDepth 100000 in
theorem rnum_go (m : Int) (h0 : 0 ≤ m) (hm : m ≤ 999999999999999999) (lb rb : Nat) (x : Str) (ws : List Str) (bad : Bool) (w : World) (h : RLineAt w lb rb (x :: ws) bad) (h18 : (x.length : Int) ≤ 18) (h1 : 1 ≤ (x.length : Int)) (c0 : UInt8) (hc0 : x.head? = some c0)
    (hz : ((c0.toNat : Int) == 48) = false ∨ (x.length : Int) = 1) :
    Calls Tryz.prog 56 #[.pointer (some ⟨lb, 0, none⟩), .int .u64 m] w (GotNum m lb rb x ws bad w) := by
  have H := rword_some lb rb x ws bad w h
  clear h
  have hx0 : x[0]'(by omega) = c0 := by
    cases x with
    | nil => cases hc0
    | cons a r => simpa using hc0
  have hb0 : (⟨x.toArray⟩ : ByteArray)[0]'(by show 0 < x.toArray.size; simp; omega) = c0 := hx0
  clear hx0
  have hnw : ∀ b : Bool, x.all isDig = b → numWord x = b := by
    intro b hb
    unfold numWord
    have e1 : (x != []) = true := by rw [bne_iff_ne]; rintro rfl; simp at h1
    have e2 : decide (x.length ≤ 18) = true := decide_eq_true (by omega)
    have e3 : (x.head? != some 48 || x == [48]) = true := by
      rw [hc0]
      rcases hz with hz | hz
      · have : ¬ c0 = 48 := by rintro rfl; exact absurd hz (by decide)
        simp [this]
      · cases x with
        | nil => simp at hz
        | cons a r =>
          have : r = [] := List.length_eq_zero_iff.1 (by simp only [List.length_cons] at hz; omega)
          subst this
          simp only [List.head?_cons, Option.some.injEq] at hc0
          subst hc0
          by_cases ha : a = 48 <;> simp [ha]
    rw [e1, e2, e3, hb]; simp
  have HNW := Lib.hid hnw
  clear hnw hc0
  obtain ⟨n, hn⟩ : ∃ n, n = x.length := ⟨_, rfl⟩
  have zc : ∀ P : Prop, (((c0.toNat : Int) == 48) = false → P) → (((c0.toNat : Int) == 48) = true → (x.length : Int) ≤ 1 → P) → P := by
    intro P p1 p2
    cases hq : ((c0.toNat : Int) == 48)
    · exact p1 hq
    · exact p2 hq (by rcases hz with hz | hz; rw [hz] at hq; cases hq; omega)
  clear hz
  refine zc _ ?_ ?_
  all_goals
    intros
    clear zc
    go_enter Tryz.func56, Tryz.ntmps56
    go_wp2_with fail
    refine H.mono ?_
    rintro e w1 ⟨rfl, hk1, hl1⟩
    have hbad := hl1.cellBad
    have hfr := hl1.free 1
    have HM := Lib.hid (hl1.mark true)
    have HL := Lib.hid hl1
    have hkM : Keep (fun b => b = lb) w (w1.setCell ⟨lb, 1, none⟩ (.bool true)) := hk1.setCell _ _ (.inr rfl)
    have HK1 := Lib.hid hk1
    have HKM := Lib.hid hkM
    clear hl1 H hkM hk1
    unfold sv
    go_wp2_with fail
    go_loop [6, 7] (fun v6 v7 => ∃ k : Nat, k ≤ x.length ∧ (x.take k).all isDig = true ∧ v7 = .int .i64 k ∧ v6 = .int .u64 (valFrom 0 (x.take k) : Nat)) (fun _ v7 => x.length - (intOf v7).toNat)
    case atStart => exact ⟨0, Nat.zero_le _, rfl, rfl, rfl⟩
    case round =>
      obtain ⟨k, hk, hd, rfl, rfl⟩ := hrel
      by_cases hlt : k < x.length
      · obtain ⟨c, hc⟩ : ∃ c, x[k] = c := ⟨_, rfl⟩
        have hbk : (⟨x.toArray⟩ : ByteArray)[k]'(by show k < x.toArray.size; simp; omega) = c := hc
        have hdd := take_digs hlt hd
        have hvv := take_val hlt
        rw [hc] at hdd hvv
        have hvl := take_lt hd (by omega)
        have hlt' : (k : Int) < (x.length : Int) := by omega
        obtain ⟨v, hv⟩ : ∃ v, v = valFrom 0 (x.take k) := ⟨_, rfl⟩
        rw [← hv] at hvv hvl
        rw [← hv]
        have HC := Lib.hid hc
        have HV := Lib.hid hv
        have HVV := Lib.hid hvv
        have HDD := Lib.hid hdd
        have HD := Lib.hid hd
        clear hc hv hvv hdd hd
        have hvl' : (v : Int) < 100000000000000000 := by omega
        have hcb : (c.toNat : Int) < 256 := by have := c.toNat_lt; omega
        have no : (c.toNat < 48 ∨ 57 < c.toNat) → GotNum m lb rb x ws bad w (.returned (.int .u64 0)) (w1.setCell ⟨lb, 1, none⟩ (.bool true)) := by
          intro hq
          have hf : x.all isDig = false := by
            rw [List.all_eq_false]
            refine ⟨x[k], List.getElem_mem hlt, ?_⟩
            rw [HC.out, isDig_iff]; omega
          refine ⟨HKM.out, ?_⟩
          unfold numOf
          rw [HNW.out _ hf, if_neg (fun e => by cases e.1)]
          exact ⟨rfl, HM.out⟩
        have NO := Lib.hid no
        clear no
        by_cases hlo : (c.toNat : Int) < 48
        · go_wp2_with fail
          go_ret
          exact NO.out (by omega)
        · by_cases hhi : (57 : Int) < (c.toNat : Int)
          · go_wp2_with fail
            go_ret
            exact NO.out (by omega)
          · go_wp2_with fail
            go_round
            case rel =>
              refine ⟨k + 1, by omega, ?_, by go_num, ?_⟩
              · rw [HDD.out, isDig_iff]; omega
              · rw [HVV.out]; congr 1; omega
            case measure => simp [intOf]; omega
      · have hge : ¬ (k : Int) < (x.length : Int) := by omega
        obtain rfl : k = x.length := by omega
        rw [List.take_length] at hd ⊢
        have hnw := HNW.out _ hd
        have hvl := val_lt hnw
        obtain ⟨v, hv⟩ : ∃ v, v = valFrom 0 x := ⟨_, rfl⟩
        rw [← hv] at hvl ⊢
        have hvl' : (v : Int) ≤ 999999999999999999 := by omega
        have fin : ∀ e w', GotNum m lb rb x ws bad w e w' = (Keep (fun b => b = lb) w w' ∧ (if (v : Int) ≤ m then e = .returned (.int .u64 v) ∧ RLineAt w' lb rb ws bad else e = .returned (.int .u64 0) ∧ RLineAt w' lb rb ws true)) := by
          intro e w'
          unfold GotNum numOf
          rw [hnw, ← hv]
          by_cases hq : (v : Int) ≤ m
          · rw [if_pos ⟨rfl, hq⟩, if_pos hq]
          · rw [if_neg (fun e => hq e.2), if_neg hq]
        have FIN := Lib.hid fin
        clear fin hv hnw hd
        by_cases hq : (v : Int) ≤ m
        · have hq' : ¬ m < (v : Int) := by omega
          go_wp2_with fail
          go_ret
          rw [FIN.out, if_pos hq]
          exact ⟨HK1.out, rfl, HL.out⟩
        · have hq' : m < (v : Int) := by omega
          go_wp2_with fail
          go_ret
          rw [FIN.out, if_neg (show ¬ (v : Int) ≤ m by omega)]
          exact ⟨HKM.out, rfl, HM.out⟩

theorem numOf_none {m : Int} {x : Str} (h : numWord x = false) : numOf m x = none := by
  unfold numOf
  rw [if_neg (fun e => by rw [h] at e; cases e.1)]
set_option maxRecDepth 100000 in
theorem rnum_nil (m : Int) (lb rb : Nat) (bad : Bool) (w : World) (h : RLineAt w lb rb [] bad) :
    Calls Tryz.prog 56 #[.pointer (some ⟨lb, 0, none⟩), .int .u64 m] w fun e w' => e = .returned (.int .u64 0) ∧ Keep (fun b => b = lb) w w' ∧ RLineAt w' lb rb [] true := by
  go_enter Tryz.func56, Tryz.ntmps56
  go_wp2_with fail
  refine (rword_none lb rb bad w h).mono ?_
  rintro e w1 ⟨rfl, hk1, hl1⟩
  have hbad := hl1.cellBad
  have hfr := hl1.free 1
  have HM := Lib.hid (hl1.mark true)
  have hkM : Keep (fun b => b = lb) w (w1.setCell ⟨lb, 1, none⟩ (.bool true)) := hk1.setCell _ _ (.inr rfl)
  have HKM := Lib.hid hkM
  clear hl1 h hkM hk1
  unfold sv
  go_wp2_with fail
  go_ret
  exact ⟨rfl, HKM.out, HM.out⟩
set_option maxRecDepth 100000 in
theorem rnum_long (m : Int) (lb rb : Nat) (x : Str) (ws : List Str) (bad : Bool) (w : World) (h : RLineAt w lb rb (x :: ws) bad) (h18 : (18 : Int) < x.length) :
    Calls Tryz.prog 56 #[.pointer (some ⟨lb, 0, none⟩), .int .u64 m] w (GotNum m lb rb x ws bad w) := by
  have hn : numOf m x = none := numOf_none (by
    unfold numWord
    have : decide (x.length ≤ 18) = false := decide_eq_false (by omega)
    rw [this]; simp)
  have hx := h.ok.head.2
  have h1 : ¬ (x.length : Int) < 1 := by omega
  go_enter Tryz.func56, Tryz.ntmps56
  go_wp2_with fail
  refine (rword_some lb rb x ws bad w h).mono ?_
  rintro e w1 ⟨rfl, hk1, hl1⟩
  have hbad := hl1.cellBad
  have hfr := hl1.free 1
  have HM := Lib.hid (hl1.mark true)
  have hkM : Keep (fun b => b = lb) w (w1.setCell ⟨lb, 1, none⟩ (.bool true)) := hk1.setCell _ _ (.inr rfl)
  have HKM := Lib.hid hkM
  have HN := Lib.hid hn
  clear hl1 h hkM hk1 hn
  unfold sv
  go_wp2_with fail
  go_ret
  refine ⟨HKM.out, ?_⟩
  rw [HN.out]
  exact ⟨rfl, HM.out⟩
set_option maxRecDepth 100000 in
theorem rnum_zero (m : Int) (lb rb : Nat) (d : UInt8) (r : Str) (ws : List Str) (bad : Bool) (w : World) (h : RLineAt w lb rb ((48 :: d :: r) :: ws) bad) (h18 : ((48 :: d :: r).length : Int) ≤ 18) :
    Calls Tryz.prog 56 #[.pointer (some ⟨lb, 0, none⟩), .int .u64 m] w (GotNum m lb rb (48 :: d :: r) ws bad w) := by
  have hn : numOf m (48 :: d :: r) = none := numOf_none (by
    unfold numWord
    simp)
  simp only [List.length_cons] at h18
  go_enter Tryz.func56, Tryz.ntmps56
  go_wp2_with fail
  refine (rword_some lb rb _ ws bad w h).mono ?_
  rintro e w1 ⟨rfl, hk1, hl1⟩
  have hbad := hl1.cellBad
  have hfr := hl1.free 1
  have HM := Lib.hid (hl1.mark true)
  have hkM : Keep (fun b => b = lb) w (w1.setCell ⟨lb, 1, none⟩ (.bool true)) := hk1.setCell _ _ (.inr rfl)
  have HKM := Lib.hid hkM
  have HN := Lib.hid hn
  clear hl1 h hkM hk1 hn
  unfold sv
  go_wp2_with fail
  go_ret
  refine ⟨HKM.out, ?_⟩
  rw [HN.out]
  exact ⟨rfl, HM.out⟩
theorem rnum_word (m : Int) (h0 : 0 ≤ m) (hm : m ≤ 999999999999999999) (lb rb : Nat) (x : Str) (ws : List Str) (bad : Bool) (w : World) (h : RLineAt w lb rb (x :: ws) bad) :
    Calls Tryz.prog 56 #[.pointer (some ⟨lb, 0, none⟩), .int .u64 m] w (GotNum m lb rb x ws bad w) := by
  have hne := h.ok.head.1
  by_cases h18 : x.length ≤ 18
  · obtain ⟨c, r, rfl⟩ := List.exists_cons_of_ne_nil hne
    by_cases hc : c = 48
    · subst hc
      cases r with
      | nil => exact rnum_go m h0 hm lb rb [48] ws bad w h (by simp) (by simp) 48 rfl (.inr rfl)
      | cons d r => exact rnum_zero m lb rb d r ws bad w h (by omega)
    · refine rnum_go m h0 hm lb rb (c :: r) ws bad w h (by omega) (by simp; omega) c rfl (.inl ?_)
      rw [beq_eq_false_iff_ne]
      intro e
      exact hc (UInt8.toNat_inj.1 (show c.toNat = 48 by omega))
  · exact rnum_long m lb rb x ws bad w h (by omega)
/-- a number's value -/
abbrev u64w (n : Int) : Value := .int .u64 n
theorem rnum_any (m : Int) (h0 : 0 ≤ m) (hm : m ≤ 999999999999999999) (lb rb : Nat) (ws : List Str) (bad : Bool) (w : World) (h : RLineAt w lb rb ws bad) :
    Calls Tryz.prog 56 #[.pointer (some ⟨lb, 0, none⟩), .int .u64 m] w (GotR u64w (fun n => 0 ≤ n ∧ n ≤ m) lb rb w bad ws (pnum m ws)) := by
  cases ws with
  | nil =>
    refine (rnum_nil m lb rb bad w h).mono ?_
    rintro e w' ⟨rfl, hk, hl⟩
    exact ⟨hk, 0, [], true, rfl, hl, ⟨Int.le_refl _, h0⟩, Nat.le_refl _, .inr ⟨.inr rfl, rfl⟩⟩
  | cons x ws =>
    refine (rnum_word m h0 hm lb rb x ws bad w h).mono ?_
    rintro e w' ⟨hk, hg⟩
    refine ⟨hk, ?_⟩
    have hp : pnum m (x :: ws) = (numOf m x).bind fun a => some (a, ws) := rfl
    rw [hp]
    rcases hn : numOf m x with _ | a
    · rw [hn] at hg
      obtain ⟨rfl, hl⟩ := hg
      exact ⟨0, ws, true, rfl, hl, ⟨Int.le_refl _, h0⟩, by simp, .inr ⟨.inr rfl, rfl⟩⟩
    · rw [hn] at hg
      obtain ⟨rfl, hl⟩ := hg
      have hb : 0 ≤ a ∧ a ≤ m := by
        unfold numOf at hn
        split at hn
        · rename_i hc
          simp only [Option.some.injEq] at hn
          subst hn
          exact ⟨by omega, hc.2⟩
        · cases hn
      refine ⟨a, ws, bad, rfl, hl, hb, by simp, ?_⟩
      cases bad
      · exact .inl ⟨rfl, rfl, rfl⟩
      · exact .inr ⟨.inl rfl, rfl⟩
end Go.Proofs.YtifliekahdgobaaGreatDoor
namespace Go.Proofs.YtifliekahdgobaaGreatDoor
open Go.RowKit Sp

theorem digit_any (c : UInt8) (w : World) : Calls Tryz.prog 132 #[.int .u8 c.toNat] w fun e w' => e = .returned (.int .i64 (hexi c)) ∧ w' = w := by
  have hc := c.toNat_lt
  have hcb : (c.toNat : Int) < 256 := by omega
  obtain ⟨h, hh⟩ : ∃ h, h = hexi c := ⟨_, rfl⟩
  rw [← hh]
  have HH := Lib.hid hh
  clear hh
  have val : ∀ n : Nat, (hexd c = some n) → h = n := fun n hn => by rw [HH.out]; unfold hexi; rw [hn]
  have no : hexd c = none → h = -1 := fun hn => by rw [HH.out]; unfold hexi; rw [hn]
  by_cases h1 : (c.toNat : Int) < 48
  · have := no (by unfold hexd; rw [if_neg (by omega), if_neg (by omega)])
    subst this
    clear val no
    have g1 : ¬ (48 : Int) ≤ c.toNat := by omega
    have g2 : ¬ (97 : Int) ≤ c.toNat := by omega
    go_enter Tryz.func132, Tryz.ntmps132
    go_wp2_with fail
    go_ret
    exact ⟨rfl, rfl⟩
  · by_cases h2 : (c.toNat : Int) ≤ 57
    · have := val (c.toNat - 48) (by unfold hexd; rw [if_pos (by omega)])
      have h' : h = (c.toNat : Int) - 48 := by omega
      subst h'
      clear val no this
      have g1 : (48 : Int) ≤ c.toNat := by omega
      go_enter Tryz.func132, Tryz.ntmps132
      go_wp2_with fail
      go_ret
      exact ⟨rfl, rfl⟩
    · by_cases h3 : (c.toNat : Int) < 97
      · have := no (by unfold hexd; rw [if_neg (by omega), if_neg (by omega)])
        subst this
        clear val no
        have g1 : (48 : Int) ≤ c.toNat := by omega
        have g2 : ¬ (97 : Int) ≤ c.toNat := by omega
        go_enter Tryz.func132, Tryz.ntmps132
        go_wp2_with fail
        go_ret
        exact ⟨rfl, rfl⟩
      · by_cases h4 : (c.toNat : Int) ≤ 102
        · have := val (c.toNat - 87) (by unfold hexd; rw [if_neg (by omega), if_pos (by omega)])
          have h' : h = (c.toNat : Int) - 97 + 10 := by omega
          subst h'
          clear val no this
          have g1 : (48 : Int) ≤ c.toNat := by omega
          have g2 : (97 : Int) ≤ c.toNat := by omega
          go_enter Tryz.func132, Tryz.ntmps132
          go_wp2_with fail
          go_ret
          exact ⟨rfl, rfl⟩
        · have := no (by unfold hexd; rw [if_neg (by omega), if_neg (by omega)])
          subst this
          clear val no
          have g1 : (48 : Int) ≤ c.toNat := by omega
          have g2 : (97 : Int) ≤ c.toNat := by omega
          go_enter Tryz.func132, Tryz.ntmps132
          go_wp2_with fail
          go_ret
          exact ⟨rfl, rfl⟩
end Go.Proofs.YtifliekahdgobaaGreatDoor
