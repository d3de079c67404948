/-
  PLAIN: what is printed of a step that may be is read back as that step; what is read may be. Helpers of the claims.
  THE WALKS, 19: words that are joined. Helpers of the claims.
  THE WALKS, 20: opText, watchText (printed by wip/tools/gen_text.py). Helpers of the claims.
-/
import Derived.Test.YtifliekahdgobaaGreatDoorJW7ToW18
set_option linter.unusedSimpArgs false
set_option linter.unusedVariables false
namespace Go.Proofs.YtifliekahdgobaaGreatDoor
open Sp

/-! ### digits -/
theorem dgt_nat {n : Nat} (h : n < 10) : (dgt n).toNat = 48 + n := by unfold dgt; simp; omega
theorem valFrom_snoc (a : Nat) (x : Str) (c : UInt8) : valFrom a (x ++ [c]) = 10 * valFrom a x + (c.toNat - 48) := by
  unfold valFrom; rw [List.foldl_append]; rfl
theorem digGo_val : ∀ (f n : Nat), n < 10 ^ (f + 1) → valFrom 0 (digGo f n) = n
  | 0, n, h => by
    have h' : n < 10 := h
    unfold digGo
    rw [valFrom_cons, valFrom_nil, dgt_nat (by omega)]
    omega
  | f + 1, n, h => by
    unfold digGo
    by_cases h1 : n < 10
    · rw [if_pos h1, valFrom_cons, valFrom_nil, dgt_nat h1]; omega
    · rw [if_neg h1, valFrom_snoc, digGo_val f (n / 10) (by rw [Nat.pow_succ] at h; omega), dgt_nat (by omega)]; omega
theorem digGo_len : ∀ (f n k : Nat), n < 10 ^ (k + 1) → (digGo f n).length ≤ k + 1
  | 0, n, k, _ => by simp [digGo]
  | f + 1, n, k, h => by
    unfold digGo
    by_cases h1 : n < 10
    · rw [if_pos h1]; simp
    · rw [if_neg h1]
      cases k with
      | zero => simp at h; omega
      | succ k =>
        have := digGo_len f (n / 10) k (by rw [Nat.pow_succ] at h; omega)
        simp; omega
theorem digGo_ne : ∀ (f n : Nat), digGo f n ≠ []
  | 0, n => by simp [digGo]
  | f + 1, n => by unfold digGo; split <;> simp
theorem digGo_all : ∀ (f n : Nat), (digGo f n).all isDig = true
  | 0, n => by
    simp only [digGo, List.all_cons, List.all_nil, Bool.and_true]
    rw [isDig_iff, dgt_nat (by omega)]; omega
  | f + 1, n => by
    unfold digGo
    split
    · simp only [List.all_cons, List.all_nil, Bool.and_true]
      rw [isDig_iff, dgt_nat (by omega)]; omega
    · rw [List.all_append, digGo_all f]
      simp only [List.all_cons, List.all_nil, Bool.and_true, Bool.true_and]
      rw [isDig_iff, dgt_nat (by omega)]; omega
theorem digGo_head : ∀ (f n : Nat), n < 10 ^ (f + 1) → n ≠ 0 → (digGo f n).head? ≠ some 48
  | 0, n, h, h0 => by
    have h' : n < 10 := h
    simp only [digGo, List.head?_cons, ne_eq, Option.some.injEq]
    intro e
    have := congrArg UInt8.toNat e
    rw [dgt_nat (by omega)] at this
    simp at this; omega
  | f + 1, n, h, h0 => by
    unfold digGo
    by_cases h1 : n < 10
    · rw [if_pos h1]
      simp only [List.head?_cons, ne_eq, Option.some.injEq]
      intro e
      have := congrArg UInt8.toNat e
      rw [dgt_nat h1] at this
      simp at this; omega
    · rw [if_neg h1, List.head?_append, Option.or_of_isSome (by rw [List.isSome_head?]; exact digGo_ne _ _)]
      exact digGo_head f (n / 10) (by rw [Nat.pow_succ] at h; omega) (by omega)
theorem dig_zero : dig 0 = [48] := by decide
theorem numWord_dig {n : Nat} (h : n ≤ 999999999999999999) : numWord (dig n) = true := by
  rw [numWord_iff]
  have h18 : n < 10 ^ (17 + 1) := by omega
  have h21 : n < 10 ^ (20 + 1) := Nat.lt_of_lt_of_le h18 (Nat.pow_le_pow_right (by omega) (by omega))
  refine ⟨digGo_ne _ _, digGo_len 20 n 17 h18, digGo_all _ _, ?_⟩
  by_cases h0 : n = 0
  · right; rw [h0]; exact dig_zero
  · exact .inl (digGo_head 20 n h21 h0)
theorem dig_val {n : Nat} (h : n ≤ 999999999999999999) : valFrom 0 (dig n) = n :=
  digGo_val 20 n (Nat.lt_of_le_of_lt h (by decide))
theorem numOf_itoa {m n : Int} (h0 : 0 ≤ n) (h1 : n ≤ m) (h2 : n ≤ most) : numOf m (itoa n) = some n := by
  unfold most at h2
  unfold itoa
  rw [if_neg (by omega)]
  have h3 : n.toNat ≤ 999999999999999999 := by omega
  unfold numOf
  rw [numWord_dig h3, dig_val h3, if_pos ⟨rfl, by omega⟩]
  congr 1
  omega

/-! ### bytes -/
theorem hexd_hx : ∀ n, n < 16 → hexd (hx n) = some n := by decide
theorem hex_back (c : UInt8) : UInt8.ofNat (16 * (c.toNat / 16) + c.toNat % 16) = c := by
  rw [Nat.div_add_mod]; simp
theorem pairs_flat : ∀ s : Str, pairs (s.flatMap fun c => [hx (c.toNat / 16), hx (c.toNat % 16)]) = some s
  | [] => rfl
  | c :: s => by
    have hc := c.toNat_lt
    rw [List.flatMap_cons]
    simp only [List.cons_append, List.nil_append, pairs]
    rw [hexd_hx _ (by omega), hexd_hx _ (by omega), pairs_flat s]
    simp only [Option.bind_some]
    rw [hex_back]
theorem flat_len (s : Str) : (s.flatMap fun c => [hx (c.toNat / 16), hx (c.toNat % 16)]).length = 2 * s.length := by
  induction s with
  | nil => rfl
  | cons c s ih => rw [List.flatMap_cons, List.length_append, ih]; simp; omega
theorem okBytes_iff (s : Str) : okBytes s = true ↔ s.length ≤ 40 := by unfold okBytes; simp
theorem bytesOf_hex {s : Str} (h : s.length ≤ 40) : bytesOf (hexText s) = some s := by
  unfold hexText
  by_cases hs : s = []
  · subst hs; rfl
  · rw [if_neg hs]
    unfold bytesOf
    have hl := flat_len s
    rw [if_neg (fun e => by rw [e] at hl; simp at hl; omega), if_pos ⟨by omega, by omega⟩, pairs_flat]
theorem pairs_len : ∀ (w s : Str), pairs w = some s → 2 * s.length = w.length
  | [], s, h => by simp [pairs] at h; subst h; rfl
  | [_], s, h => by simp [pairs] at h
  | a :: b :: r, s, h => by
    simp only [pairs] at h
    obtain ⟨x, _, h⟩ := bind_some_iff h
    obtain ⟨y, _, h⟩ := bind_some_iff h
    obtain ⟨t, h3, h⟩ := bind_some_iff h
    simp only [Option.some.injEq] at h
    subst h
    have := pairs_len r t h3
    simp; omega
theorem bytesOf_len {w s : Str} (h : bytesOf w = some s) : s.length ≤ 40 := by
  unfold bytesOf at h
  split at h
  · simp only [Option.some.injEq] at h; subst h; simp
  · split at h
    · rename_i hc
      have := pairs_len _ _ h
      omega
    · cases h

/-! ### marks -/
theorem marks_ck (a b : Bool) : marksOf lCk (markText lCk [a, b]) = some [a, b] := by cases a <;> cases b <;> decide
theorem marks_p (a : Bool) : marksOf lP (markText lP [a]) = some [a] := by cases a <;> decide
theorem marks_s (a : Bool) : marksOf lS (markText lS [a]) = some [a] := by cases a <;> decide
theorem marks_pndg (a b c d : Bool) : marksOf lPndg (markText lPndg [a, b, c, d]) = some [a, b, c, d] := by cases a <;> cases b <;> cases c <;> cases d <;> decide

/-! ### good words -/
def goodCh (c : UInt8) : Bool := decide (36 ≤ c.toNat)
def goodW (w : Str) : Bool := w != [] && w.all goodCh
theorem goodW_iff (w : Str) : goodW w = true ↔ w ≠ [] ∧ w.all goodCh = true := by unfold goodW; rw [Bool.and_eq_true, bne_iff_ne]
theorem isDig_good {w : Str} (h : w.all isDig = true) : w.all goodCh = true := by
  rw [List.all_eq_true] at h ⊢
  intro c hc
  have := (isDig_iff c).1 (h c hc)
  unfold goodCh
  exact decide_eq_true (by omega)
theorem good_dig (n : Nat) : goodW (dig n) = true := (goodW_iff _).2 ⟨digGo_ne _ _, isDig_good (digGo_all _ _)⟩
theorem good_itoa (n : Int) : goodW (itoa n) = true := by
  unfold itoa
  split
  · rw [goodW_iff]
    refine ⟨by simp, ?_⟩
    rw [List.all_cons, ((goodW_iff _).1 (good_dig _)).2]
    decide
  · exact good_dig _
theorem good_hx : ∀ n, n < 16 → goodCh (hx n) = true := by decide
theorem good_hex (s : Str) : goodW (hexText s) = true := by
  unfold hexText
  by_cases hs : s = []
  · subst hs; decide
  · rw [if_neg hs, goodW_iff]
    refine ⟨?_, ?_⟩
    · intro e
      have := flat_len s
      rw [e] at this
      have h0 : s.length ≠ 0 := fun e => hs (List.length_eq_zero_iff.1 e)
      simp at this; omega
    · rw [List.all_eq_true]
      intro c hc
      obtain ⟨d, hd, hc⟩ := List.mem_flatMap.1 hc
      have := d.toNat_lt
      simp only [List.mem_cons, List.mem_nil_iff, or_false] at hc
      rcases hc with rfl | rfl
      · exact good_hx _ (by omega)
      · exact good_hx _ (by omega)
theorem good_mark1 (l : UInt8) (hl : goodCh l = true) (a : Bool) : goodW (markText [l] [a]) = true := by
  cases a
  · rfl
  · show goodW [l] = true
    simp [goodW, hl]
theorem good_ck (a b : Bool) : goodW (markText lCk [a, b]) = true := by cases a <;> cases b <;> decide
theorem good_p (a : Bool) : goodW (markText lP [a]) = true := by cases a <;> decide
theorem good_s (a : Bool) : goodW (markText lS [a]) = true := by cases a <;> decide
theorem good_pndg (a b c d : Bool) : goodW (markText lPndg [a, b, c, d]) = true := by cases a <;> cases b <;> cases c <;> cases d <;> decide
def goodWs (ws : List Str) : Bool := ws.all goodW
theorem good_op (x : OpS) : goodWs (Sp.opWords x) = true := by
  unfold Sp.opWords goodWs
  split
  · simp only [List.all_cons, List.all_nil, good_hex, good_itoa, good_ck, Bool.and_true]; decide
  · split
    · simp only [List.all_cons, List.all_nil, good_hex, good_p, Bool.and_true]; decide
    · simp only [List.all_cons, List.all_nil, good_hex, good_p, Bool.and_true]; decide
theorem good_cmp (x : CmpS) : goodWs (cmpWords x) = true := by
  unfold cmpWords goodWs
  simp only [List.all_cons, List.all_nil, good_hex, good_itoa, Bool.and_true]; decide
theorem goodWs_append (a b : List Str) : goodWs (a ++ b) = (goodWs a && goodWs b) := List.all_append
theorem good_flat {α : Type} (f : α → List Str) (h : ∀ x, goodWs (f x) = true) (l : List α) : goodWs (l.flatMap f) = true := by
  induction l with
  | nil => rfl
  | cons x l ih => rw [List.flatMap_cons, goodWs_append, h, ih]; rfl
theorem good_req (r : ReqS) (h : 0 ≤ r.kind ∧ r.kind ≤ 3) : goodWs (reqWords r) = true := by
  unfold reqWords
  rw [goodWs_append, goodWs_append, goodWs_append, good_flat _ good_cmp, good_flat _ (fun x => by show goodWs ([wThen] ++ Sp.opWords x) = true; rw [goodWs_append, good_op]; decide), good_flat _ (fun x => by show goodWs ([wElse] ++ Sp.opWords x) = true; rw [goodWs_append, good_op]; decide)]
  have hk : goodW (kinds.getD r.kind.toNat []) = true := by
    have : r.kind.toNat < 4 := by omega
    revert this
    generalize r.kind.toNat = k
    revert k
    decide
  simp only [goodWs, List.all_cons, List.all_nil, good_itoa, good_s, Bool.and_true, hk]
theorem good_watch (w : WatchS) : goodWs (watchWords w) = true := by
  unfold watchWords goodWs
  simp only [List.all_cons, List.all_nil, good_hex, good_itoa, good_pndg, Bool.and_true]
theorem good_name : ∀ k, k < 12 → goodW (names.getD k []) = true := by decide
theorem good_step (s : StepS) (h0 : 0 ≤ s.kind) (h1 : s.kind ≤ 11) (hr : s.kind = 7 → 0 ≤ s.req.kind ∧ s.req.kind ≤ 3) : goodWs (stepWords s) = true := by
  unfold stepWords
  show goodWs ([names.getD s.kind.toNat []] ++ (nodeWords s ++ bodyWords s)) = true
  rw [goodWs_append, goodWs_append]
  have h2 : goodWs [names.getD s.kind.toNat []] = true := by
    show (goodW _ && true) = true
    rw [good_name _ (by omega)]; rfl
  have h3 : goodWs (nodeWords s) = true := by
    unfold nodeWords
    split
    · show (goodW _ && true) = true
      rw [good_itoa]; rfl
    · rfl
  have h4 : goodWs (bodyWords s) = true := by
    unfold bodyWords
    split
    · rfl
    · split
      · exact good_watch _
      · split
        · exact good_req _ (hr (by assumption))
        · show (goodW _ && true) = true
          rw [good_itoa]; rfl
  rw [h2, h3, h4]; rfl

/-! ### words of what is joined -/
theorem goodCh_blank {c : UInt8} (h : goodCh c = true) : Sp.blank c = false := by
  have := all_u8 (fun c => !(goodCh c) || !(Sp.blank c)) (by decide +kernel) c
  simpa [h] using this
theorem goodCh_nl {c : UInt8} (h : goodCh c = true) : c ≠ 10 := by
  rintro rfl; exact absurd h (by decide)
theorem goodCh_hash {c : UInt8} (h : goodCh c = true) : c ≠ 35 := by
  rintro rfl; exact absurd h (by decide)
theorem fieldsGo_word : ∀ (w cur r : Str), w.all goodCh = true → fieldsGo cur (w ++ r) = fieldsGo (cur ++ w) r
  | [], cur, r, _ => by simp
  | c :: w, cur, r, h => by
    rw [List.all_cons, Bool.and_eq_true] at h
    rw [List.cons_append, fieldsGo, if_neg (by rw [goodCh_blank h.1]; simp), fieldsGo_word w _ r h.2]
    simp
theorem fields_join : ∀ ws : List Str, goodWs ws = true → fieldsGo [] (join ws) = ws
  | [], _ => rfl
  | [x], h => by
    have h := (goodW_iff x).1 (by simpa [goodWs] using h)
    have := fieldsGo_word x [] [] h.2
    rw [List.append_nil] at this
    rw [join, this]
    simp [fieldsGo, h.1]
  | x :: y :: r, h => by
    have h1 : goodW x = true ∧ goodWs (y :: r) = true := by simpa [goodWs] using h
    have hx := (goodW_iff x).1 h1.1
    rw [join, fieldsGo_word x [] _ hx.2]
    rw [List.nil_append, fieldsGo, if_pos (by decide), if_neg hx.1, fields_join (y :: r) h1.2]
theorem takeWhile_all {α : Type} (p : α → Bool) : ∀ l : List α, (∀ x ∈ l, p x = true) → l.takeWhile p = l
  | [], _ => rfl
  | x :: l, h => by
    rw [List.takeWhile_cons_of_pos (h x List.mem_cons_self), takeWhile_all p l (fun y hy => h y (List.mem_cons_of_mem _ hy))]
theorem words_join (ws : List Str) (h : goodWs ws = true) : words (join ws) = ws := by
  unfold words fields
  rw [fields_join ws h]
  apply takeWhile_all
  intro w hw
  have hg := (goodW_iff w).1 (by
    unfold goodWs at h
    exact List.all_eq_true.1 h w hw)
  unfold noHash
  rw [bne_iff_ne]
  intro e
  cases w with
  | nil => cases e
  | cons c w =>
    have h2 := hg.2
    rw [List.all_cons, Bool.and_eq_true] at h2
    simp only [List.head?_cons, Option.some.injEq] at e
    exact goodCh_hash h2.1 e
theorem join_nl : ∀ ws : List Str, goodWs ws = true → ∀ c ∈ join ws, c ≠ 10
  | [], _ => by simp [join]
  | [x], h => by
    have h := (goodW_iff x).1 (by simpa [goodWs] using h)
    intro c hc
    exact goodCh_nl (List.all_eq_true.1 h.2 c hc)
  | x :: y :: r, h => by
    have h1 : goodW x = true ∧ goodWs (y :: r) = true := by simpa [goodWs] using h
    have hx := (goodW_iff x).1 h1.1
    intro c hc
    rw [join, List.mem_append, List.mem_cons] at hc
    rcases hc with hc | hc | hc
    · exact goodCh_nl (List.all_eq_true.1 hx.2 c hc)
    · subst hc; decide
    · exact join_nl (y :: r) h1.2 c hc

/-! ### reading back -/
theorem pword_cons (x : Str) (r : List Str) : pword (x :: r) = some (x, r) := rfl
theorem pnum_itoa {m n : Int} (h0 : 0 ≤ n) (h1 : n ≤ m) (h2 : n ≤ most) (r : List Str) : pnum m (itoa n :: r) = some (n, r) := by
  show (numOf m (itoa n)).bind _ = _
  rw [numOf_itoa h0 h1 h2]; rfl
theorem pbytes_hex {s : Str} (h : s.length ≤ 40) (r : List Str) : pbytes (hexText s :: r) = some (s, r) := by
  show (bytesOf (hexText s)).bind _ = _
  rw [bytesOf_hex h]; rfl
theorem pmarks_of {l w : Str} {is : List Bool} (h : marksOf l w = some is) (r : List Str) : pmarks l (w :: r) = some (is, r) := by
  show (marksOf l w).bind _ = _
  rw [h]; rfl
theorem okNum_iff (n : Int) : okNum n = true ↔ 0 ≤ n ∧ n ≤ most := by unfold okNum; simp
theorem okSmall_iff (n : Int) : okSmall n = true ↔ 0 ≤ n ∧ n ≤ 9 := by unfold okSmall; simp
theorem pop_words (x : OpS) (h : okOp x = true) (r : List Str) : pop (Sp.opWords x ++ r) = some (x, r) := by
  obtain ⟨kind, key, fin, val, rev, limit, count, keys, prev⟩ := x
  unfold okOp at h
  rw [Bool.and_eq_true, okBytes_iff] at h
  obtain ⟨hk, h⟩ := h
  dsimp only at hk h
  unfold Sp.opWords
  dsimp only
  by_cases h0 : kind = 0
  · subst h0
    rw [if_pos rfl] at h
    simp only [Bool.and_eq_true, okBytes_iff, okNum_iff, beq_iff_eq, Bool.not_eq_true'] at h
    obtain ⟨⟨⟨⟨h1, h2⟩, h3⟩, h4⟩, h5⟩ := h
    subst h2 h5
    rw [if_pos rfl]
    unfold pop
    rw [List.cons_append, pword_cons, Option.bind_some, if_pos rfl]
    unfold prange
    simp only [List.cons_append, List.nil_append, pbytes_hex hk, pbytes_hex h1, pnum_itoa h3.1 h3.2 h3.2, pnum_itoa h4.1 h4.2 h4.2, pmarks_of (marks_ck count keys), Option.bind_some]
    rfl
  · rw [if_neg h0] at h ⊢
    by_cases h1 : kind = 1
    · subst h1
      rw [if_pos rfl] at h
      simp only [Bool.and_eq_true, okBytes_iff, beq_iff_eq, Bool.not_eq_true'] at h
      obtain ⟨⟨⟨⟨⟨h1, h2⟩, h3⟩, h4⟩, h5⟩, h6⟩ := h
      subst h2 h3 h4 h5 h6
      rw [if_pos rfl]
      unfold pop
      rw [List.cons_append, pword_cons, Option.bind_some]
      dsimp only
      rw [if_neg (by decide), if_pos rfl]
      unfold pput
      simp only [List.cons_append, List.nil_append, pbytes_hex hk, pbytes_hex h1, pmarks_of (marks_p prev), Option.bind_some]
      rfl
    · rw [if_neg h1] at h ⊢
      simp only [Bool.and_eq_true, okBytes_iff, beq_iff_eq, Bool.not_eq_true'] at h
      obtain ⟨⟨⟨⟨⟨⟨h1, h2⟩, h3⟩, h4⟩, h5⟩, h6⟩, h7⟩ := h
      subst h1 h3 h4 h5 h6 h7
      unfold pop
      rw [List.cons_append, pword_cons, Option.bind_some]
      dsimp only
      rw [if_neg (by decide), if_neg (by decide), if_pos rfl]
      unfold pdel
      simp only [List.cons_append, List.nil_append, pbytes_hex hk, pbytes_hex h2, pmarks_of (marks_p prev), Option.bind_some]
      rfl
theorem okCmp_iff (c : CmpS) : okCmp c = true ↔ (0 ≤ c.what ∧ c.what ≤ 9) ∧ (0 ≤ c.how ∧ c.how ≤ 9) ∧ (0 ≤ c.n ∧ c.n ≤ most) ∧ c.key.length ≤ 40 ∧ c.val.length ≤ 40 := by
  unfold okCmp
  simp only [Bool.and_eq_true, okSmall_iff, okNum_iff, okBytes_iff, and_assoc]
theorem le_most {n : Int} (h : n ≤ 9) : n ≤ most := by unfold most; omega
theorem pcmp_words (c : CmpS) (h : okCmp c = true) (r : List Str) : pcmp (itoa c.what :: itoa c.how :: itoa c.n :: hexText c.key :: hexText c.val :: r) = some (c, r) := by
  obtain ⟨h1, h2, h3, h4, h5⟩ := (okCmp_iff c).1 h
  unfold pcmp
  simp only [pnum_itoa h1.1 h1.2 (le_most h1.2), pnum_itoa h2.1 h2.2 (le_most h2.2), pnum_itoa h3.1 h3.2 h3.2, pbytes_hex h4, pbytes_hex h5, Option.bind_some]
theorem items_cmps : ∀ (l : List CmpS) (cs : List CmpS) (r : List Str), l.all okCmp = true → items ⟨0, cs, [], []⟩ (l.flatMap cmpWords ++ r) = items ⟨0, cs ++ l, [], []⟩ r
  | [], cs, r, _ => by simp
  | c :: l, cs, r, h => by
    rw [List.all_cons, Bool.and_eq_true] at h
    have h1 : pitem ⟨0, cs, [], []⟩ (wIf :: (itoa c.what :: itoa c.how :: itoa c.n :: hexText c.key :: hexText c.val :: (l.flatMap cmpWords ++ r))) = some (⟨0, cs ++ [c], [], []⟩, l.flatMap cmpWords ++ r) := by
      unfold pitem
      rw [pword_cons, Option.bind_some, if_pos rfl, if_pos rfl, pcmp_words c h.1]
      rfl
    rw [List.flatMap_cons, List.append_assoc]
    show items _ (wIf :: (itoa c.what :: itoa c.how :: itoa c.n :: hexText c.key :: hexText c.val :: (l.flatMap cmpWords ++ r))) = _
    rw [items_cons, h1, Option.bind_some, items_cmps l _ r h.2]
    simp
theorem items_thn : ∀ (l : List OpS) (p : Nat) (cs : List CmpS) (ts : List OpS) (r : List Str), p ≤ 1 → l.all okOp = true → ∃ q, q ≤ 1 ∧ items ⟨p, cs, ts, []⟩ ((l.flatMap fun x => wThen :: Sp.opWords x) ++ r) = items ⟨q, cs, ts ++ l, []⟩ r
  | [], p, cs, ts, r, hp, _ => ⟨p, hp, by simp⟩
  | x :: l, p, cs, ts, r, hp, h => by
    rw [List.all_cons, Bool.and_eq_true] at h
    have h1 : pitem ⟨p, cs, ts, []⟩ (wThen :: (Sp.opWords x ++ ((l.flatMap fun x => wThen :: Sp.opWords x) ++ r))) = some (⟨1, cs, ts ++ [x], []⟩, (l.flatMap fun x => wThen :: Sp.opWords x) ++ r) := by
      unfold pitem
      rw [pword_cons, Option.bind_some]
      dsimp only
      rw [if_neg (by decide), if_pos rfl, if_pos hp, pop_words x h.1]
      rfl
    obtain ⟨q, hq, h2⟩ := items_thn l 1 cs (ts ++ [x]) r (by omega) h.2
    refine ⟨q, hq, ?_⟩
    rw [List.flatMap_cons, List.append_assoc, List.cons_append]
    rw [items_cons, h1, Option.bind_some, h2]
    simp
theorem items_els : ∀ (l : List OpS) (p : Nat) (cs : List CmpS) (ts es : List OpS) (r : List Str), l.all okOp = true → ∃ q, items ⟨p, cs, ts, es⟩ ((l.flatMap fun x => wElse :: Sp.opWords x) ++ r) = items ⟨q, cs, ts, es ++ l⟩ r
  | [], p, cs, ts, es, r, _ => ⟨p, by simp⟩
  | x :: l, p, cs, ts, es, r, h => by
    rw [List.all_cons, Bool.and_eq_true] at h
    have h1 : pitem ⟨p, cs, ts, es⟩ (wElse :: (Sp.opWords x ++ ((l.flatMap fun x => wElse :: Sp.opWords x) ++ r))) = some (⟨2, cs, ts, es ++ [x]⟩, (l.flatMap fun x => wElse :: Sp.opWords x) ++ r) := by
      unfold pitem
      rw [pword_cons, Option.bind_some]
      dsimp only
      rw [if_neg (by decide), if_neg (by decide), if_pos rfl, pop_words x h.1]
      rfl
    obtain ⟨q, h2⟩ := items_els l 2 cs ts (es ++ [x]) r h.2
    refine ⟨q, ?_⟩
    rw [List.flatMap_cons, List.append_assoc, List.cons_append]
    rw [items_cons, h1, Option.bind_some, h2]
    simp
theorem items_all (cs : List CmpS) (ts es : List OpS) (h1 : cs.all okCmp = true) (h2 : ts.all okOp = true) (h3 : es.all okOp = true) :
    ∃ q, items ⟨0, [], [], []⟩ (cs.flatMap cmpWords ++ (ts.flatMap fun x => wThen :: Sp.opWords x) ++ (es.flatMap fun x => wElse :: Sp.opWords x)) = some ⟨q, cs, ts, es⟩ := by
  obtain ⟨q, hq, e2⟩ := items_thn ts 0 cs [] (es.flatMap fun x => wElse :: Sp.opWords x) (by omega) h2
  obtain ⟨p, e3⟩ := items_els es q cs ts [] [] h3
  rw [List.append_nil] at e3
  refine ⟨p, ?_⟩
  rw [List.append_assoc, items_cmps cs [] _ h1, List.nil_append, e2, List.nil_append, e3]
  rfl
theorem okReq_iff (r : ReqS) : okReq r = true ↔ (0 ≤ r.kind ∧ r.kind ≤ 3) ∧ (0 ≤ r.client ∧ r.client ≤ most) ∧ (0 ≤ r.num ∧ r.num ≤ most) ∧ (0 ≤ r.rev ∧ r.rev ≤ most) ∧ okParts ⟨0, r.cmps, r.thn, r.els⟩ = true ∧ r.cmps.all okCmp = true ∧ r.thn.all okOp = true ∧ r.els.all okOp = true := by
  unfold okReq
  simp only [Bool.and_eq_true, okNum_iff, decide_eq_true_eq, and_assoc]
theorem kind_back : ∀ k, k < 4 → kindOf kinds (kinds.getD k []) = some k := by decide
theorem name_back : ∀ k, k < 12 → kindOf names (names.getD k []) = some k := by decide
theorem preq_words (r : ReqS) (h : okReq r = true) : preq (reqWords r) = some r := by
  obtain ⟨hk, h1, h2, h3, h4, h5, h6, h7⟩ := (okReq_iff r).1 h
  obtain ⟨q, hi⟩ := items_all r.cmps r.thn r.els h5 h6 h7
  unfold reqWords
  rw [List.append_assoc, List.append_assoc]
  unfold preq
  simp only [List.cons_append, List.nil_append, pword_cons, Option.bind_some]
  rw [kind_back _ (by omega)]
  simp only [Option.bind_some, pnum_itoa h1.1 h1.2 h1.2, pnum_itoa h2.1 h2.2 h2.2, pmarks_of (marks_s r.serial), pnum_itoa h3.1 h3.2 h3.2]
  unfold items at hi
  rw [List.append_assoc] at hi
  rw [hi, Option.bind_some, if_pos (show okParts ⟨q, r.cmps, r.thn, r.els⟩ = true from h4)]
  obtain ⟨kind, client, num, serial, cmps, thn, els, rev⟩ := r
  dsimp only at hk ⊢
  have : ((kind.toNat : Nat) : Int) = kind := by omega
  rw [this]
  rfl
theorem okWatch_iff (w : WatchS) : okWatch w = true ↔ (0 ≤ w.id ∧ w.id ≤ most) ∧ w.key.length ≤ 40 ∧ w.fin.length ≤ 40 ∧ (0 ≤ w.start ∧ w.start ≤ most) := by
  unfold okWatch
  simp only [Bool.and_eq_true, okNum_iff, okBytes_iff, and_assoc]
theorem pwatch_words (w : WatchS) (h : okWatch w = true) (r : List Str) : pwatch (watchWords w ++ r) = some (w, r) := by
  obtain ⟨h1, h2, h3, h4⟩ := (okWatch_iff w).1 h
  unfold watchWords pwatch
  simp only [List.cons_append, List.nil_append, pnum_itoa h1.1 h1.2 h1.2, pbytes_hex h2, pbytes_hex h3, pnum_itoa h4.1 h4.2 h4.2, pmarks_of (marks_pndg w.prev w.noPut w.noDelete w.progress), Option.bind_some]
  rfl
theorem okStep_iff (s : StepS) : okStep s = true ↔ (0 ≤ s.kind ∧ s.kind ≤ 11) ∧ okNode s = true ∧ okBody s = true := by
  unfold okStep
  simp only [Bool.and_eq_true, decide_eq_true_eq, and_assoc]
theorem pstep_words (s : StepS) (h : okStep s = true) : pstep s.kind.toNat (nodeWords s ++ bodyWords s) = some s := by
  obtain ⟨hk, hn, hb⟩ := (okStep_iff s).1 h
  obtain ⟨kind, node, n, req, watch⟩ := s
  obtain ⟨k, rfl⟩ : ∃ k : Nat, kind = k := ⟨kind.toNat, by have := hk.1; dsimp only at this; omega⟩
  dsimp only at hk
  rw [Int.toNat_natCast]
  unfold okNode at hn
  unfold okBody at hb
  unfold nodeWords bodyWords pstep
  dsimp only at hn hb ⊢
  have hnode : ∀ r, pnode k ((if 2 < (k : Int) then [itoa node] else []) ++ r) = some (node, r) := by
    intro r
    unfold pnode
    by_cases h2 : 2 < k
    · rw [if_pos h2, if_pos (by omega)]
      rw [if_pos (by omega), okSmall_iff] at hn
      exact pnum_itoa hn.1 hn.2 (le_most hn.2) r
    · rw [if_neg h2, if_neg (by omega)]
      rw [if_neg (by omega), beq_iff_eq] at hn
      subst hn
      rfl
  rw [hnode, Option.bind_some]
  unfold pbody
  dsimp only
  by_cases h11 : k = 11
  · subst h11
    rw [if_pos (by decide)] at hb
    simp only [Bool.and_eq_true, beq_iff_eq] at hb
    obtain ⟨⟨rfl, rfl⟩, rfl⟩ := hb
    rw [if_pos rfl, if_pos (by decide)]
    rfl
  · have i11 : ¬ (k : Int) = 11 := by omega
    rw [if_neg i11] at hb
    rw [if_neg h11, if_neg i11]
    by_cases h8 : k = 8
    · subst h8
      have i8 : ((8 : Nat) : Int) = 8 := rfl
      rw [if_pos i8] at hb
      simp only [Bool.and_eq_true, beq_iff_eq] at hb
      obtain ⟨⟨rfl, rfl⟩, hw⟩ := hb
      have := pwatch_words watch hw []
      rw [List.append_nil] at this
      rw [if_pos (show 8 = 8 from rfl), if_pos i8, this]
      rfl
    · have i8 : ¬ (k : Int) = 8 := by omega
      rw [if_neg i8] at hb
      rw [if_neg h8, if_neg i8]
      by_cases h7 : k = 7
      · subst h7
        have i7 : ((7 : Nat) : Int) = 7 := rfl
        rw [if_pos i7] at hb
        simp only [Bool.and_eq_true, beq_iff_eq] at hb
        obtain ⟨⟨rfl, hr⟩, rfl⟩ := hb
        rw [if_pos (show 7 = 7 from rfl), if_pos i7, preq_words req hr]
        rfl
      · have i7 : ¬ (k : Int) = 7 := by omega
        rw [if_neg i7] at hb
        rw [if_neg h7, if_neg i7]
        simp only [Bool.and_eq_true, beq_iff_eq, okNum_iff] at hb
        obtain ⟨⟨hn2, rfl⟩, rfl⟩ := hb
        rw [pnum_itoa hn2.1 hn2.2 hn2.2]
        rfl

/-! ### what is read may be -/
theorem pnum_ok {m : Int} {ws r : List Str} {n : Int} (h : pnum m ws = some (n, r)) : 0 ≤ n ∧ n ≤ m := by
  cases ws with
  | nil => cases h
  | cons x ws =>
    obtain ⟨a, h1, h⟩ := bind_some_iff (show (numOf m x).bind (fun a => some (a, ws)) = some (n, r) from h)
    simp only [Option.some.injEq, Prod.mk.injEq] at h
    obtain ⟨rfl, -⟩ := h
    unfold numOf at h1
    split at h1
    · rename_i hc
      simp only [Option.some.injEq] at h1
      subst h1
      exact ⟨by omega, hc.2⟩
    · cases h1
theorem pbytes_ok {ws r : List Str} {s : Str} (h : pbytes ws = some (s, r)) : s.length ≤ 40 := by
  cases ws with
  | nil => cases h
  | cons x ws =>
    obtain ⟨a, h1, h⟩ := bind_some_iff (show (bytesOf x).bind (fun a => some (a, ws)) = some (s, r) from h)
    simp only [Option.some.injEq, Prod.mk.injEq] at h
    obtain ⟨rfl, -⟩ := h
    exact bytesOf_len h1
theorem pop_ok {ws r : List Str} {x : OpS} (h : pop ws = some (x, r)) : okOp x = true := by
  unfold pop at h
  obtain ⟨w, _, h⟩ := bind_some_iff h
  split at h
  · unfold prange at h
    obtain ⟨a, h1, h⟩ := bind_some_iff h
    obtain ⟨b, h2, h⟩ := bind_some_iff h
    obtain ⟨c, h3, h⟩ := bind_some_iff h
    obtain ⟨d, h4, h⟩ := bind_some_iff h
    obtain ⟨e, h5, h⟩ := bind_some_iff h
    simp only [Option.some.injEq, Prod.mk.injEq] at h
    obtain ⟨rfl, -⟩ := h
    unfold okOp
    simp only [Bool.and_eq_true, okBytes_iff, if_true, okNum_iff]
    exact ⟨pbytes_ok h1, ⟨⟨⟨⟨pbytes_ok h2, rfl⟩, pnum_ok h3⟩, pnum_ok h4⟩, rfl⟩⟩
  · split at h
    · unfold pput at h
      obtain ⟨a, h1, h⟩ := bind_some_iff h
      obtain ⟨b, h2, h⟩ := bind_some_iff h
      obtain ⟨c, h3, h⟩ := bind_some_iff h
      simp only [Option.some.injEq, Prod.mk.injEq] at h
      obtain ⟨rfl, -⟩ := h
      unfold okOp
      dsimp only
      rw [if_neg (by decide), if_pos rfl]
      simp only [Bool.and_eq_true, okBytes_iff]
      exact ⟨pbytes_ok h1, ⟨⟨⟨⟨⟨pbytes_ok h2, rfl⟩, rfl⟩, rfl⟩, rfl⟩, rfl⟩⟩
    · split at h
      · unfold pdel at h
        obtain ⟨a, h1, h⟩ := bind_some_iff h
        obtain ⟨b, h2, h⟩ := bind_some_iff h
        obtain ⟨c, h3, h⟩ := bind_some_iff h
        simp only [Option.some.injEq, Prod.mk.injEq] at h
        obtain ⟨rfl, -⟩ := h
        unfold okOp
        dsimp only
        rw [if_neg (by decide), if_neg (by decide)]
        simp only [Bool.and_eq_true, okBytes_iff]
        exact ⟨pbytes_ok h1, ⟨⟨⟨⟨⟨⟨rfl, pbytes_ok h2⟩, rfl⟩, rfl⟩, rfl⟩, rfl⟩, rfl⟩⟩
      · cases h
theorem pcmp_ok {ws r : List Str} {x : CmpS} (h : pcmp ws = some (x, r)) : okCmp x = true := by
  unfold pcmp at h
  obtain ⟨a, h1, h⟩ := bind_some_iff h
  obtain ⟨b, h2, h⟩ := bind_some_iff h
  obtain ⟨c, h3, h⟩ := bind_some_iff h
  obtain ⟨d, h4, h⟩ := bind_some_iff h
  obtain ⟨e, h5, h⟩ := bind_some_iff h
  simp only [Option.some.injEq, Prod.mk.injEq] at h
  obtain ⟨rfl, -⟩ := h
  exact (okCmp_iff _).2 ⟨pnum_ok h1, pnum_ok h2, pnum_ok h3, pbytes_ok h4, pbytes_ok h5⟩
def okItems (st : PartS) : Prop := st.cmps.all okCmp = true ∧ st.thn.all okOp = true ∧ st.els.all okOp = true
theorem pitem_ok {st st' : PartS} {ws r : List Str} (h : pitem st ws = some (st', r)) (ho : okItems st) : okItems st' := by
  obtain ⟨o1, o2, o3⟩ := ho
  unfold pitem at h
  obtain ⟨w, _, h⟩ := bind_some_iff h
  split at h
  · split at h
    · obtain ⟨c, h1, h⟩ := bind_some_iff h
      simp only [Option.some.injEq, Prod.mk.injEq] at h
      obtain ⟨rfl, -⟩ := h
      exact ⟨by simp only [List.all_append, o1, List.all_cons, List.all_nil, pcmp_ok h1]; rfl, o2, o3⟩
    · cases h
  · split at h
    · split at h
      · obtain ⟨c, h1, h⟩ := bind_some_iff h
        simp only [Option.some.injEq, Prod.mk.injEq] at h
        obtain ⟨rfl, -⟩ := h
        exact ⟨o1, by simp only [List.all_append, o2, List.all_cons, List.all_nil, pop_ok h1]; rfl, o3⟩
      · cases h
    · split at h
      · obtain ⟨c, h1, h⟩ := bind_some_iff h
        simp only [Option.some.injEq, Prod.mk.injEq] at h
        obtain ⟨rfl, -⟩ := h
        exact ⟨o1, o2, by simp only [List.all_append, o3, List.all_cons, List.all_nil, pop_ok h1]; rfl⟩
      · cases h
theorem pitems_ok : ∀ (k : Nat) (st st' : PartS) (ws : List Str), pitems k st ws = some st' → okItems st → okItems st'
  | 0, st, st', ws, h, ho => by
    unfold pitems at h
    split at h
    · simp only [Option.some.injEq] at h; subst h; exact ho
    · cases h
  | k + 1, st, st', ws, h, ho => by
    unfold pitems at h
    split at h
    · simp only [Option.some.injEq] at h; subst h; exact ho
    · obtain ⟨x, h1, h⟩ := bind_some_iff h
      exact pitems_ok k x.1 st' x.2 h (pitem_ok h1 ho)
theorem kindOf_lt {l : List Str} {w : Str} {k : Nat} (h : kindOf l w = some k) : k < l.length := by
  unfold kindOf at h
  exact (List.findIdx?_eq_some_iff_getElem.1 h).1
theorem preq_ok {ws : List Str} {x : ReqS} (h : preq ws = some x) : okReq x = true := by
  unfold preq at h
  obtain ⟨w, _, h⟩ := bind_some_iff h
  obtain ⟨k, hk, h⟩ := bind_some_iff h
  obtain ⟨a, h1, h⟩ := bind_some_iff h
  obtain ⟨b, h2, h⟩ := bind_some_iff h
  obtain ⟨c, h3, h⟩ := bind_some_iff h
  obtain ⟨d, h4, h⟩ := bind_some_iff h
  obtain ⟨st, h5, h⟩ := bind_some_iff h
  split at h
  · rename_i hp
    simp only [Option.some.injEq] at h
    subst h
    have hk4 : k < 4 := kindOf_lt hk
    obtain ⟨i1, i2, i3⟩ := pitems_ok _ _ _ _ h5 ⟨rfl, rfl, rfl⟩
    exact (okReq_iff _).2 ⟨by dsimp only; omega, pnum_ok h1, pnum_ok h2, pnum_ok h4, hp, i1, i2, i3⟩
  · cases h
theorem pwatch_ok {ws r : List Str} {x : WatchS} (h : pwatch ws = some (x, r)) : okWatch x = true := by
  unfold pwatch at h
  obtain ⟨a, h1, h⟩ := bind_some_iff h
  obtain ⟨b, h2, h⟩ := bind_some_iff h
  obtain ⟨c, h3, h⟩ := bind_some_iff h
  obtain ⟨d, h4, h⟩ := bind_some_iff h
  obtain ⟨e, h5, h⟩ := bind_some_iff h
  simp only [Option.some.injEq, Prod.mk.injEq] at h
  obtain ⟨rfl, -⟩ := h
  exact (okWatch_iff _).2 ⟨pnum_ok h1, pbytes_ok h2, pbytes_ok h3, pnum_ok h4⟩
theorem pstep_ok {k : Nat} (hk : k < 12) {ws : List Str} {x : StepS} (h : pstep k ws = some x) : okStep x = true ∧ x.kind = k := by
  unfold pstep at h
  obtain ⟨a, h1, h⟩ := bind_some_iff h
  obtain ⟨b, h2, h⟩ := bind_some_iff h
  split at h
  · simp only [Option.some.injEq] at h
    subst h
    have hn : ∀ (n : Int) (r : ReqS) (w : WatchS), okNode ⟨k, a.1, n, r, w⟩ = true := by
      intro n r w
      unfold okNode
      unfold pnode at h1
      dsimp only
      split at h1
      · rw [if_pos (by omega), okSmall_iff]
        exact pnum_ok h1
      · rw [if_neg (by omega)]
        simp only [Option.some.injEq] at h1
        subst h1
        rfl
    unfold pbody at h2
    dsimp only at h2
    split at h2
    · rename_i hk
      simp only [Option.some.injEq] at h2
      subst h2
      refine ⟨(okStep_iff _).2 ⟨by dsimp only; omega, hn _ _ _, ?_⟩, rfl⟩
      unfold okBody
      dsimp only
      rw [if_pos (by omega)]
      rfl
    · split at h2
      · obtain ⟨c, h3, h2⟩ := bind_some_iff h2
        simp only [Option.some.injEq] at h2
        subst h2
        refine ⟨(okStep_iff _).2 ⟨by dsimp only; omega, hn _ _ _, ?_⟩, rfl⟩
        unfold okBody
        dsimp only
        rw [if_neg (by omega), if_pos (by omega), pwatch_ok h3]
        rfl
      · split at h2
        · obtain ⟨c, h3, h2⟩ := bind_some_iff h2
          simp only [Option.some.injEq] at h2
          subst h2
          refine ⟨(okStep_iff _).2 ⟨by dsimp only; omega, hn _ _ _, ?_⟩, rfl⟩
          unfold okBody
          dsimp only
          rw [if_neg (by omega), if_neg (by omega), if_pos (by omega), preq_ok h3]
          rfl
        · obtain ⟨c, h3, h2⟩ := bind_some_iff h2
          simp only [Option.some.injEq] at h2
          subst h2
          refine ⟨(okStep_iff _).2 ⟨by dsimp only; omega, hn _ _ _, ?_⟩, rfl⟩
          unfold okBody
          dsimp only
          rw [if_neg (by omega), if_neg (by omega), if_neg (by omega), (okNum_iff _).2 (pnum_ok h3)]
          rfl
  · cases h
end Go.Proofs.YtifliekahdgobaaGreatDoor
namespace Go.Proofs.YtifliekahdgobaaGreatDoor
open Go.RowKit Sp

/-- an operation whose numbers are of their kinds, of modest bytes -/
structure MidOp (x : OpS) : Prop where
  key : x.key.length ≤ 1000000
  fin : x.fin.length ≤ 1000000
  val : x.val.length ≤ 1000000
  rev0 : 0 ≤ x.rev
  rev1 : x.rev < 18446744073709551616
  lim0 : -9223372036854775808 ≤ x.limit
  lim1 : x.limit ≤ 9223372036854775807
theorem join_lib (ws : List Str) : Lib.join ws [32] = join ws := by
  unfold Lib.join
  induction ws with
  | nil => rfl
  | cons x r ih =>
    cases r with
    | nil => simp [join, List.intercalate]
    | cons y r =>
      rw [join, ← ih, List.intercalate_cons_cons]
      simp
theorem join_len : ∀ (ws : List Str) (m : Nat), (∀ x ∈ ws, x.length ≤ m) → (join ws).length ≤ ws.length * (m + 1)
  | [], _, _ => by simp [join]
  | [x], m, h => by
    have := h x List.mem_cons_self
    simp [join]; omega
  | x :: y :: r, m, h => by
    have h1 := h x List.mem_cons_self
    have h2 := join_len (y :: r) m (fun z hz => h z (List.mem_cons_of_mem _ hz))
    rw [join, List.length_append, List.length_cons, List.length_cons]
    rw [Nat.succ_mul]
    simp only [List.length_cons] at h2 ⊢
    omega
/-- strings.Join of words that lie in a block -/
theorem join_at (b T : Nat) (ws : List Str) (c : Nat) (w : World) (hb : w.heap[b]? = some (.cells (ws.map fun y => sv y).toArray T (0, 0))) (hc : ws.length ≤ c) (hn : ws.length ≤ 1000) (hm : ∀ x ∈ ws, x.length ≤ 100000000) :
    Calls Tryz.prog 20 #[.slice (some ⟨b, 0, none⟩) ws.length c, sv [32]] w (Gives (sv (join ws)) w) := by
  have hl := join_len ws 100000000 hm
  have h := Tryz.strings_Join b 0 c (ws.map fun y => (⟨y.toArray⟩ : ByteArray)) ⟨#[32]⟩ w (by
    intro j x hx
    rw [cell_of_block hb]
    simp only [List.getElem?_map, Option.map_eq_some_iff] at hx
    obtain ⟨y, hy, rfl⟩ := hx
    simp [hy]) (lt_of_block hb) (by simp; omega) (by simpa using hc) (by
    simp only [List.map_map]
    have : (ws.map ((fun x : ByteArray => x.data.toList) ∘ fun y => (⟨y.toArray⟩ : ByteArray))) = ws := by
      rw [List.map_congr_left (g := id) (fun _ _ => by simp)]; simp
    rw [this, join_lib]
    have : ws.length * (100000000 + 1) ≤ 1000 * (100000000 + 1) := Nat.mul_le_mul_right _ hn
    omega)
  simp only [List.length_map, List.map_map] at h
  have : (ws.map ((fun x : ByteArray => x.data.toList) ∘ fun y => (⟨y.toArray⟩ : ByteArray))) = ws := by
    rw [List.map_congr_left (g := id) (fun _ _ => by simp)]; simp
  rw [this] at h
  refine h.mono ?_
  rintro e w' ⟨rfl, hb'⟩
  rw [join_lib]
  exact ⟨rfl, Keep.of_below hb' (Nat.le_refl _)⟩
theorem hexText_len (s : Str) : (hexText s).length ≤ 2 * s.length + 1 := by
  unfold hexText
  split
  · simp
  · rw [flat_len]; omega
theorem itoa_len (n : Int) : (itoa n).length ≤ 100 := by
  unfold itoa dig
  have h1 : ∀ f n, (digGo f n).length ≤ f + 1 := by
    intro f
    induction f with
    | zero => intro n; simp [digGo]
    | succ f ih =>
      intro n
      unfold digGo
      split
      · simp
      · have := ih (n / 10)
        simp; omega
  split
  · have := h1 20 n.natAbs; simp; omega
  · have := h1 20 n.toNat; omega
theorem markText_len (ls : Str) (is : List Bool) : (markText ls is).length ≤ ls.length + 1 := by
  unfold markText
  split
  · simp
  · have := markGo_len ls is; omega
theorem marked_blk (ls : Str) (is : List Bool) (b c T : Nat) (hl : is.length ≤ ls.length) (hs : ls.length ≤ 4) (w : World) (hb : w.heap[b]? = some (.cells (is.map fun x => Value.bool x).toArray T (0, 0))) :
    Calls Tryz.prog 107 #[sv ls, .slice (some ⟨b, 0, none⟩) is.length c] w (Gives (sv (markText ls is)) w) :=
  marked_any ls is b c hl hs w (fun i hi => by rw [cell_of_block hb]; simp [hi, List.getD])
theorem mem_le {ws : List Str} {m : Nat} (h : ws.all (fun x => decide (x.length ≤ m)) = true) : ∀ x ∈ ws, x.length ≤ m := fun x hx => of_decide_eq_true (List.all_eq_true.1 h x hx)
theorem hexText_le {s : Str} (h : s.length ≤ 1000000) : (hexText s).length ≤ 100000000 := by have := hexText_len s; omega
theorem itoa_le (n : Int) : (itoa n).length ≤ 100000000 := by have := itoa_len n; omega
theorem markText_le {ls : Str} (h : ls.length ≤ 4) (is : List Bool) : (markText ls is).length ≤ 100000000 := by have := markText_len ls is; omega
theorem held_call {W w1 w2 : World} {R : Prop} (h : Keep (fun _ => False) W w1 ∧ R) (hk : Keep (fun _ => False) w1 w2) : Keep (fun _ => False) W w2 := h.1.trans' hk
theorem held_alloc {W w1 : World} {R : Prop} (h : Keep (fun _ => False) W w1 ∧ R) (o : Obj) : Keep (fun _ => False) W (w1.alloc o) := h.1.alloc o
/-- every one of a list -/
def AllIn (p : Str → Prop) : List Str → Prop
  | [] => True
  | x :: r => p x ∧ AllIn p r
theorem mem_all {p : Str → Prop} : ∀ {l : List Str}, AllIn p l → ∀ y ∈ l, p y
  | [], _, y, hy => by cases hy
  | x :: r, h, y, hy => by
    rcases List.mem_cons.1 hy with rfl | hy
    · exact h.1
    · exact mem_all h.2 y hy
end Go.Proofs.YtifliekahdgobaaGreatDoor
namespace Go.Proofs.YtifliekahdgobaaGreatDoor
open Go.RowKit Sp

set_option maxHeartbeats 3200000 in
set_option maxRecDepth 100000 in
theorem opText_range (x : OpS) (hm : MidOp x) (h0 : x.kind = 0) (w : World) (hg : Glob w) :
    Calls Tryz.prog 111 #[.agg (opCells x)] w (Gives (sv (join (Sp.opWords x))) w) := by
  obtain ⟨kind, key, fin, val, rev, limit, count, keys, prev⟩ := x
  obtain ⟨hm1, hm2, hm3, hm4, hm5, hm6, hm7⟩ := hm
  dsimp only at h0 hm1 hm2 hm3 hm4 hm5 hm6 hm7
  subst h0
  obtain ⟨N, hN⟩ : ∃ N : Nat, N = w.heap.size := ⟨_, rfl⟩
  obtain ⟨W, hW⟩ : ∃ W : World, W = w.alloc (.cells (opCells ⟨0, key, fin, val, rev, limit, count, keys, prev⟩) 67) := ⟨_, rfl⟩
  have hkW : Keep (fun _ => False) w W := by rw [hW]; exact (Keep.refl _ w).alloc _
  have hbW : W.heap[N]? = some (.cells (opCells ⟨0, key, fin, val, rev, limit, count, keys, prev⟩) 67 (0, 0)) := by rw [hW, hN]; exact block_new _ _
  have HS : ∀ w', Keep (fun _ => False) W w' → Keep (fun _ => False) W w' ∧ w'.cell? ⟨N, 1, none⟩ = some (sv key) ∧ w'.cell? ⟨N, 2, none⟩ = some (sv fin) ∧ w'.cell? ⟨N, 4, none⟩ = some (.int .u64 rev) ∧ w'.cell? ⟨N, 5, none⟩ = some (.int .i64 limit) ∧ w'.cell? ⟨N, 6, none⟩ = some (.bool count) ∧ w'.cell? ⟨N, 7, none⟩ = some (.bool keys) := fun w' hk => by
    have hb := hk.at' hbW (fun e => e)
    exact ⟨hk, cell_of_block hb 1, cell_of_block hb 2, cell_of_block hb 4, cell_of_block hb 5, cell_of_block hb 6, cell_of_block hb 7⟩
  have HG : ∀ w', Keep (fun _ => False) W w' → Glob w' := fun w' hk => hg.far (hkW.trans' hk)
  have hc0 : W.cell? ⟨N, 0, none⟩ = some (.int .i64 0) := cell_of_block hbW 0
  have HM : ∀ y ∈ [wRange, hexText key, hexText fin, itoa rev, itoa limit, markText lCk [count, keys]], y.length ≤ 100000000 := mem_all ⟨by decide, hexText_le hm1, hexText_le hm2, itoa_le _, itoa_le _, markText_le (by decide) _, trivial⟩
  have HMH := Lib.hid HM
  have HSH := Lib.hid HS
  have HGH := Lib.hid HG
  have HW := Lib.hid (show W = w.alloc (.cells #[.int .i64 0, sv key, sv fin, sv val, .int .u64 rev, .int .i64 limit, .bool count, .bool keys, .bool prev] 67) from hW)
  have HNN := Lib.hid hN
  have HKW := Lib.hid hkW
  clear HM HS HG hW hN hkW hbW hg
  unfold opCells
  go_enter Tryz.func111, Tryz.ntmps111
  go_wp2_with fail
  rw [← HW.out]
  generalize hNW : w.heap.size = N' at *
  obtain rfl : N = N' := HNN.out
  go_wp2_with fail
  go_region_held3 (fun w' => Keep (fun _ => False) W w' ∧ w'.cell? ⟨N, 1, none⟩ = some (sv key) ∧ w'.cell? ⟨N, 2, none⟩ = some (sv fin) ∧ w'.cell? ⟨N, 4, none⟩ = some (.int .u64 rev) ∧ w'.cell? ⟨N, 5, none⟩ = some (.int .i64 limit) ∧ w'.cell? ⟨N, 6, none⟩ = some (.bool count) ∧ w'.cell? ⟨N, 7, none⟩ = some (.bool keys))
    (first | exact HSH.out _ ((Keep.refl _ _).drew) | exact HSH.out _ (held_call (by assumption) (by assumption)) | exact HSH.out _ (held_alloc (by assumption) _))
    (first
      | (go_at_call 106; refine (hex_any _ (by assumption) _).mono ?_; rintro e w' ⟨rfl, hk⟩)
      | (go_at_call 105; refine (num_text _ (by assumption) (by assumption) _ (HGH.out _ (And.left (by assumption)))).mono ?_; rintro e w' ⟨rfl, hk⟩)
      | (go_at_call 36; refine (itoa_any _ (by assumption) (by assumption) _ (HGH.out _ (And.left (by assumption)))).mono ?_; rintro e w' ⟨rfl, hk⟩)
      | (go_at_call 107; refine (marked_blk lCk [count, keys] _ _ _ (Nat.le_refl 2) (by decide) _ (by repeat (first | exact block_new _ _ | refine Keep.at' (by assumption) ?_ (fun e => e)))).mono ?_; rintro e w' ⟨rfl, hk⟩)
      | (go_at_call 20; refine (join_at _ _ [wRange, hexText key, hexText fin, itoa rev, itoa limit, markText lCk [count, keys]] _ _ (block_new _ _) (Nat.le_refl _) (by simp) HMH.out).mono ?_; rintro e w' ⟨rfl, hk⟩))
  all_goals
    go_wp2_with fail
    go_ret
    exact ⟨rfl, Keep.trans' HKW.out (And.left (by assumption))⟩
set_option maxHeartbeats 3200000 in
set_option maxRecDepth 100000 in
theorem opText_put (x : OpS) (hm : MidOp x) (h0 : x.kind = 1) (w : World) (hg : Glob w) :
    Calls Tryz.prog 111 #[.agg (opCells x)] w (Gives (sv (join (Sp.opWords x))) w) := by
  obtain ⟨kind, key, fin, val, rev, limit, count, keys, prev⟩ := x
  obtain ⟨hm1, hm2, hm3, hm4, hm5, hm6, hm7⟩ := hm
  dsimp only at h0 hm1 hm2 hm3 hm4 hm5 hm6 hm7
  subst h0
  obtain ⟨N, hN⟩ : ∃ N : Nat, N = w.heap.size := ⟨_, rfl⟩
  obtain ⟨W, hW⟩ : ∃ W : World, W = w.alloc (.cells (opCells ⟨1, key, fin, val, rev, limit, count, keys, prev⟩) 67) := ⟨_, rfl⟩
  have hkW : Keep (fun _ => False) w W := by rw [hW]; exact (Keep.refl _ w).alloc _
  have hbW : W.heap[N]? = some (.cells (opCells ⟨1, key, fin, val, rev, limit, count, keys, prev⟩) 67 (0, 0)) := by rw [hW, hN]; exact block_new _ _
  have HS : ∀ w', Keep (fun _ => False) W w' → Keep (fun _ => False) W w' ∧ w'.cell? ⟨N, 1, none⟩ = some (sv key) ∧ w'.cell? ⟨N, 3, none⟩ = some (sv val) ∧ w'.cell? ⟨N, 8, none⟩ = some (.bool prev) := fun w' hk => by
    have hb := hk.at' hbW (fun e => e)
    exact ⟨hk, cell_of_block hb 1, cell_of_block hb 3, cell_of_block hb 8⟩
  have HG : ∀ w', Keep (fun _ => False) W w' → Glob w' := fun w' hk => hg.far (hkW.trans' hk)
  have hc0 : W.cell? ⟨N, 0, none⟩ = some (.int .i64 1) := cell_of_block hbW 0
  have HM : ∀ y ∈ [wPut, hexText key, hexText val, markText lP [prev]], y.length ≤ 100000000 := mem_all ⟨by decide, hexText_le hm1, hexText_le hm3, markText_le (by decide) _, trivial⟩
  have HMH := Lib.hid HM
  have HSH := Lib.hid HS
  have HGH := Lib.hid HG
  have HW := Lib.hid (show W = w.alloc (.cells #[.int .i64 1, sv key, sv fin, sv val, .int .u64 rev, .int .i64 limit, .bool count, .bool keys, .bool prev] 67) from hW)
  have HNN := Lib.hid hN
  have HKW := Lib.hid hkW
  clear HM HS HG hW hN hkW hbW hg
  unfold opCells
  go_enter Tryz.func111, Tryz.ntmps111
  go_wp2_with fail
  rw [← HW.out]
  generalize hNW : w.heap.size = N' at *
  obtain rfl : N = N' := HNN.out
  go_wp2_with fail
  go_region_held3 (fun w' => Keep (fun _ => False) W w' ∧ w'.cell? ⟨N, 1, none⟩ = some (sv key) ∧ w'.cell? ⟨N, 3, none⟩ = some (sv val) ∧ w'.cell? ⟨N, 8, none⟩ = some (.bool prev))
    (first | exact HSH.out _ ((Keep.refl _ _).drew) | exact HSH.out _ (held_call (by assumption) (by assumption)) | exact HSH.out _ (held_alloc (by assumption) _))
    (first
      | (go_at_call 106; refine (hex_any _ (by assumption) _).mono ?_; rintro e w' ⟨rfl, hk⟩)
      | (go_at_call 105; refine (num_text _ (by assumption) (by assumption) _ (HGH.out _ (And.left (by assumption)))).mono ?_; rintro e w' ⟨rfl, hk⟩)
      | (go_at_call 36; refine (itoa_any _ (by assumption) (by assumption) _ (HGH.out _ (And.left (by assumption)))).mono ?_; rintro e w' ⟨rfl, hk⟩)
      | (go_at_call 107; refine (marked_blk lP [prev] _ _ _ (Nat.le_refl 1) (by decide) _ (by repeat (first | exact block_new _ _ | refine Keep.at' (by assumption) ?_ (fun e => e)))).mono ?_; rintro e w' ⟨rfl, hk⟩)
      | (go_at_call 20; refine (join_at _ _ [wPut, hexText key, hexText val, markText lP [prev]] _ _ (block_new _ _) (Nat.le_refl _) (by simp) HMH.out).mono ?_; rintro e w' ⟨rfl, hk⟩))
  all_goals
    go_wp2_with fail
    go_ret
    exact ⟨rfl, Keep.trans' HKW.out (And.left (by assumption))⟩
set_option maxHeartbeats 3200000 in
set_option maxRecDepth 100000 in
theorem opText_del (x : OpS) (hm : MidOp x) (h0 : ¬ x.kind = 0) (h1 : ¬ x.kind = 1) (w : World) (hg : Glob w) :
    Calls Tryz.prog 111 #[.agg (opCells x)] w (Gives (sv (join (Sp.opWords x))) w) := by
  obtain ⟨kind, key, fin, val, rev, limit, count, keys, prev⟩ := x
  obtain ⟨hm1, hm2, hm3, hm4, hm5, hm6, hm7⟩ := hm
  dsimp only at h0 hm1 hm2 hm3 hm4 hm5 hm6 hm7
  have k0 : (kind == 0) = false := by simpa using h0
  have k1 : (kind == 1) = false := by simpa using h1
  have HF : Sp.opWords ⟨kind, key, fin, val, rev, limit, count, keys, prev⟩ = [wDel, hexText key, hexText fin, markText lP [prev]] := by
    unfold Sp.opWords
    dsimp only
    rw [if_neg h0, if_neg h1]
  rw [HF]
  clear h0 h1 HF
  obtain ⟨N, hN⟩ : ∃ N : Nat, N = w.heap.size := ⟨_, rfl⟩
  obtain ⟨W, hW⟩ : ∃ W : World, W = w.alloc (.cells (opCells ⟨kind, key, fin, val, rev, limit, count, keys, prev⟩) 67) := ⟨_, rfl⟩
  have hkW : Keep (fun _ => False) w W := by rw [hW]; exact (Keep.refl _ w).alloc _
  have hbW : W.heap[N]? = some (.cells (opCells ⟨kind, key, fin, val, rev, limit, count, keys, prev⟩) 67 (0, 0)) := by rw [hW, hN]; exact block_new _ _
  have HS : ∀ w', Keep (fun _ => False) W w' → Keep (fun _ => False) W w' ∧ w'.cell? ⟨N, 1, none⟩ = some (sv key) ∧ w'.cell? ⟨N, 2, none⟩ = some (sv fin) ∧ w'.cell? ⟨N, 8, none⟩ = some (.bool prev) := fun w' hk => by
    have hb := hk.at' hbW (fun e => e)
    exact ⟨hk, cell_of_block hb 1, cell_of_block hb 2, cell_of_block hb 8⟩
  have HG : ∀ w', Keep (fun _ => False) W w' → Glob w' := fun w' hk => hg.far (hkW.trans' hk)
  have hc0 : W.cell? ⟨N, 0, none⟩ = some (.int .i64 kind) := cell_of_block hbW 0
  have HM : ∀ y ∈ [wDel, hexText key, hexText fin, markText lP [prev]], y.length ≤ 100000000 := mem_all ⟨by decide, hexText_le hm1, hexText_le hm2, markText_le (by decide) _, trivial⟩
  have HMH := Lib.hid HM
  have HSH := Lib.hid HS
  have HGH := Lib.hid HG
  have HW := Lib.hid (show W = w.alloc (.cells #[.int .i64 kind, sv key, sv fin, sv val, .int .u64 rev, .int .i64 limit, .bool count, .bool keys, .bool prev] 67) from hW)
  have HNN := Lib.hid hN
  have HKW := Lib.hid hkW
  clear HM HS HG hW hN hkW hbW hg
  unfold opCells
  go_enter Tryz.func111, Tryz.ntmps111
  go_wp2_with fail
  rw [← HW.out]
  generalize hNW : w.heap.size = N' at *
  obtain rfl : N = N' := HNN.out
  go_wp2_with fail
  go_region_held3 (fun w' => Keep (fun _ => False) W w' ∧ w'.cell? ⟨N, 1, none⟩ = some (sv key) ∧ w'.cell? ⟨N, 2, none⟩ = some (sv fin) ∧ w'.cell? ⟨N, 8, none⟩ = some (.bool prev))
    (first | exact HSH.out _ ((Keep.refl _ _).drew) | exact HSH.out _ (held_call (by assumption) (by assumption)) | exact HSH.out _ (held_alloc (by assumption) _))
    (first
      | (go_at_call 106; refine (hex_any _ (by assumption) _).mono ?_; rintro e w' ⟨rfl, hk⟩)
      | (go_at_call 105; refine (num_text _ (by assumption) (by assumption) _ (HGH.out _ (And.left (by assumption)))).mono ?_; rintro e w' ⟨rfl, hk⟩)
      | (go_at_call 36; refine (itoa_any _ (by assumption) (by assumption) _ (HGH.out _ (And.left (by assumption)))).mono ?_; rintro e w' ⟨rfl, hk⟩)
      | (go_at_call 107; refine (marked_blk lP [prev] _ _ _ (Nat.le_refl 1) (by decide) _ (by repeat (first | exact block_new _ _ | refine Keep.at' (by assumption) ?_ (fun e => e)))).mono ?_; rintro e w' ⟨rfl, hk⟩)
      | (go_at_call 20; refine (join_at _ _ [wDel, hexText key, hexText fin, markText lP [prev]] _ _ (block_new _ _) (Nat.le_refl _) (by simp) HMH.out).mono ?_; rintro e w' ⟨rfl, hk⟩))
  all_goals
    go_wp2_with fail
    go_ret
    exact ⟨rfl, Keep.trans' HKW.out (And.left (by assumption))⟩
theorem opText_any (x : OpS) (hm : MidOp x) (w : World) (hg : Glob w) : Calls Tryz.prog 111 #[.agg (opCells x)] w (Gives (sv (join (Sp.opWords x))) w) := by
  by_cases h0 : x.kind = 0
  · exact opText_range x hm h0 w hg
  · by_cases h1 : x.kind = 1
    · exact opText_put x hm h1 w hg
    · exact opText_del x hm h0 h1 w hg
/-- a watch whose numbers are of their kinds, of modest bytes -/
structure MidWatch (x : WatchS) : Prop where
  id0 : 0 ≤ x.id
  id1 : x.id < 18446744073709551616
  key : x.key.length ≤ 1000000
  fin : x.fin.length ≤ 1000000
  st0 : 0 ≤ x.start
  st1 : x.start < 18446744073709551616
set_option maxHeartbeats 3200000 in
set_option maxRecDepth 100000 in
theorem watchText_any (x : WatchS) (hm : MidWatch x) (w : World) (hg : Glob w) :
    Calls Tryz.prog 71 #[.agg (watchCells x)] w (Gives (sv (join (watchWords x))) w) := by
  obtain ⟨id, key, fin, start, prev, noPut, noDelete, progress⟩ := x
  obtain ⟨hm1, hm2, hm3, hm4, hm5, hm6⟩ := hm
  dsimp only at hm1 hm2 hm3 hm4 hm5 hm6
  obtain ⟨N, hN⟩ : ∃ N : Nat, N = w.heap.size := ⟨_, rfl⟩
  obtain ⟨W, hW⟩ : ∃ W : World, W = w.alloc (.cells (watchCells ⟨id, key, fin, start, prev, noPut, noDelete, progress⟩) 61) := ⟨_, rfl⟩
  have hkW : Keep (fun _ => False) w W := by rw [hW]; exact (Keep.refl _ w).alloc _
  have hbW : W.heap[N]? = some (.cells (watchCells ⟨id, key, fin, start, prev, noPut, noDelete, progress⟩) 61 (0, 0)) := by rw [hW, hN]; exact block_new _ _
  have HS : ∀ w', Keep (fun _ => False) W w' → Keep (fun _ => False) W w' ∧ w'.cell? ⟨N, 0, none⟩ = some (.int .u64 id) ∧ w'.cell? ⟨N, 1, none⟩ = some (sv key) ∧ w'.cell? ⟨N, 2, none⟩ = some (sv fin) ∧ w'.cell? ⟨N, 3, none⟩ = some (.int .u64 start) ∧ w'.cell? ⟨N, 4, none⟩ = some (.bool prev) ∧ w'.cell? ⟨N, 5, none⟩ = some (.bool noPut) ∧ w'.cell? ⟨N, 6, none⟩ = some (.bool noDelete) ∧ w'.cell? ⟨N, 7, none⟩ = some (.bool progress) := fun w' hk => by
    have hb := hk.at' hbW (fun e => e)
    exact ⟨hk, cell_of_block hb 0, cell_of_block hb 1, cell_of_block hb 2, cell_of_block hb 3, cell_of_block hb 4, cell_of_block hb 5, cell_of_block hb 6, cell_of_block hb 7⟩
  have HG : ∀ w', Keep (fun _ => False) W w' → Glob w' := fun w' hk => hg.far (hkW.trans' hk)
  have HM : ∀ y ∈ [itoa id, hexText key, hexText fin, itoa start, markText lPndg [prev, noPut, noDelete, progress]], y.length ≤ 100000000 := mem_all ⟨itoa_le _, hexText_le hm3, hexText_le hm4, itoa_le _, markText_le (by decide) _, trivial⟩
  have HMH := Lib.hid HM
  have HSH := Lib.hid HS
  have HGH := Lib.hid HG
  have HW := Lib.hid (show W = w.alloc (.cells #[.int .u64 id, sv key, sv fin, .int .u64 start, .bool prev, .bool noPut, .bool noDelete, .bool progress] 61) from hW)
  have HNN := Lib.hid hN
  have HKW := Lib.hid hkW
  clear HM HS HG hW hN hkW hbW hg
  unfold watchCells
  go_enter Tryz.func71, Tryz.ntmps71
  go_wp2_with fail
  rw [← HW.out]
  generalize hNW : w.heap.size = N' at *
  obtain rfl : N = N' := HNN.out
  go_region_held3 (fun w' => Keep (fun _ => False) W w' ∧ w'.cell? ⟨N, 0, none⟩ = some (.int .u64 id) ∧ w'.cell? ⟨N, 1, none⟩ = some (sv key) ∧ w'.cell? ⟨N, 2, none⟩ = some (sv fin) ∧ w'.cell? ⟨N, 3, none⟩ = some (.int .u64 start) ∧ w'.cell? ⟨N, 4, none⟩ = some (.bool prev) ∧ w'.cell? ⟨N, 5, none⟩ = some (.bool noPut) ∧ w'.cell? ⟨N, 6, none⟩ = some (.bool noDelete) ∧ w'.cell? ⟨N, 7, none⟩ = some (.bool progress))
    (first | exact HSH.out _ ((Keep.refl _ _).drew) | exact HSH.out _ (held_call (by assumption) (by assumption)) | exact HSH.out _ (held_alloc (by assumption) _))
    (first
      | (go_at_call 106; refine (hex_any _ (by assumption) _).mono ?_; rintro e w' ⟨rfl, hk⟩)
      | (go_at_call 105; refine (num_text _ (by assumption) (by assumption) _ (HGH.out _ (And.left (by assumption)))).mono ?_; rintro e w' ⟨rfl, hk⟩)
      | (go_at_call 36; refine (itoa_any _ (by assumption) (by assumption) _ (HGH.out _ (And.left (by assumption)))).mono ?_; rintro e w' ⟨rfl, hk⟩)
      | (go_at_call 107; refine (marked_blk lPndg [prev, noPut, noDelete, progress] _ _ _ (Nat.le_refl 4) (by decide) _ (by repeat (first | exact block_new _ _ | refine Keep.at' (by assumption) ?_ (fun e => e)))).mono ?_; rintro e w' ⟨rfl, hk⟩)
      | (go_at_call 20; refine (join_at _ _ [itoa id, hexText key, hexText fin, itoa start, markText lPndg [prev, noPut, noDelete, progress]] _ _ (block_new _ _) (Nat.le_refl _) (by simp) HMH.out).mono ?_; rintro e w' ⟨rfl, hk⟩))
  all_goals
    go_wp2_with fail
    go_ret
    exact ⟨rfl, Keep.trans' HKW.out (And.left (by assumption))⟩
end Go.Proofs.YtifliekahdgobaaGreatDoor
