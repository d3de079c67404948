/-
  PLAIN: texts: what is printed of a script that may be is parsed as that script; what is parsed may be. Helpers of the claims.
  PLAIN: blanks, remarks and empty lines change nothing (printed by wip/tools/gen_thx.py). Helpers of the claims.
  errors.As, errors.Is at a fault; told. Helpers of the claims.
  errors.As at a fault. Helpers of the claims.
  errors.Is at a fault; told. Helpers of the claims.
  THE WALKS, 8: requests, a request's head. Helpers of the claims.
  WHAT STANDS IN MEMORY while a request is read. Helpers of the claims.
-/
import Derived.Lib.Replace
import Derived.Stop.Asserts
import Derived.LaidEql
import Derived.RowKitTokens
import Derived.Test.YtifliekahdgobaaGreatDoorBW7ToThP
import Derived.Test.YtifliekahdgobaaGreatDoorBSpecToThT
set_option linter.unusedSimpArgs false
set_option linter.unusedVariables false
namespace Go.Proofs.YtifliekahdgobaaGreatDoor
open Sp

theorem splitNL_ne : ∀ s : Str, splitNL s ≠ []
  | [] => by simp [splitNL]
  | c :: s => by
    unfold splitNL
    split
    · simp
    · split <;> simp
theorem splitNL_line : ∀ (l r : Str), (∀ c ∈ l, c ≠ 10) → splitNL (l ++ 10 :: r) = l :: splitNL r
  | [], r, _ => by simp [splitNL]
  | c :: l, r, h => by
    have hc : c ≠ 10 := h c List.mem_cons_self
    rw [List.cons_append, splitNL, if_neg hc, splitNL_line l r (fun d hd => h d (List.mem_cons_of_mem _ hd))]
theorem splitNL_one : ∀ (l : Str), (∀ c ∈ l, c ≠ 10) → splitNL l = [l]
  | [], _ => rfl
  | c :: l, h => by
    have hc : c ≠ 10 := h c List.mem_cons_self
    rw [splitNL, if_neg hc, splitNL_one l (fun d hd => h d (List.mem_cons_of_mem _ hd))]
theorem nodesLine_eq (n : Int) : nodesLine n = join [wNodes, itoa n] ++ [10] := by
  unfold nodesLine
  simp [join]
theorem good_nodes (n : Int) : goodWs [wNodes, itoa n] = true := by
  unfold goodWs
  simp only [List.all_cons, List.all_nil, good_itoa, Bool.and_true]
  decide
theorem okStep_req {s : StepS} (h : okStep s = true) : s.kind = 7 → 0 ≤ s.req.kind ∧ s.req.kind ≤ 3 := by
  intro h7
  obtain ⟨_, _, hb⟩ := (okStep_iff s).1 h
  unfold okBody at hb
  rw [if_neg (by omega), if_neg (by omega), if_pos h7] at hb
  simp only [Bool.and_eq_true] at hb
  exact ((okReq_iff _).1 hb.1.2).1
theorem good_stepWords {s : StepS} (h : okStep s = true) : goodWs (stepWords s) = true := by
  obtain ⟨hk, _, _⟩ := (okStep_iff s).1 h
  exact good_step s hk.1 hk.2 (okStep_req h)
theorem name_nodes : ∀ k, k < 12 → names.getD k [] ≠ wNodes := by decide
theorem line_nodes (n : Int) (h0 : 1 ≤ n) (h1 : n ≤ 7) : line ⟨0, []⟩ [wNodes, itoa n] = .ok ⟨n, []⟩ := by
  unfold line
  dsimp only
  rw [if_pos rfl]
  have h2 : pnodes [itoa n] = some n := by
    unfold pnodes
    rw [pnum_itoa (by omega) h1 (by unfold most; omega), Option.bind_some, if_pos ⟨by dsimp only; omega, rfl⟩]
  rw [h2]
  rfl
theorem line_step (s : ScriptS) (x : StepS) (h : okStep x = true) (hn : 0 < s.nodes) (hl : s.steps.length < 4096) : line s (stepWords x) = .ok { s with steps := s.steps ++ [x] } := by
  obtain ⟨hk, _, _⟩ := (okStep_iff x).1 h
  unfold line stepWords
  dsimp only
  rw [if_neg (name_nodes _ (by omega)), name_back _ (by omega)]
  dsimp only
  rw [pstep_words x h]
  dsimp only
  rw [if_neg (by omega), if_neg (by omega)]
theorem parseGo_steps : ∀ (l : List StepS) (s : ScriptS) (no : Nat) (r : List Str), l.all okStep = true → 0 < s.nodes → s.steps.length + l.length ≤ 4096 →
    parseGo s no (l.map stepText ++ r) = parseGo { s with steps := s.steps ++ l } (no + l.length) r
  | [], s, no, r, _, _, _ => by simp
  | x :: l, s, no, r, h, hn, hl => by
    rw [List.all_cons, Bool.and_eq_true] at h
    rw [List.length_cons] at hl
    rw [List.map_cons, List.cons_append, parseGo]
    rw [show stepText x = join (stepWords x) from rfl, words_join _ (good_stepWords h.1), line_step s x h.1 hn (by omega)]
    dsimp only
    rw [parseGo_steps l { s with steps := s.steps ++ [x] } (no + 1) r h.2 hn (by simp; omega)]
    simp only [List.append_assoc, List.singleton_append, List.length_cons]
    rw [show no + 1 + l.length = no + (l.length + 1) by omega]
theorem splitNL_steps : ∀ (l : List StepS) (r : Str), l.all okStep = true → splitNL (l.flatMap stepLine ++ r) = l.map stepText ++ splitNL r
  | [], r, _ => by simp
  | x :: l, r, h => by
    rw [List.all_cons, Bool.and_eq_true] at h
    rw [List.flatMap_cons, List.append_assoc, List.map_cons, List.cons_append]
    rw [show stepLine x = stepText x ++ [10] from rfl, List.append_assoc, List.singleton_append, splitNL_line _ _ (show ∀ c ∈ stepText x, c ≠ 10 from join_nl _ (good_stepWords h.1)), splitNL_steps l r h.2]
theorem okScript_iff (s : ScriptS) : okScript s = true ↔ (1 ≤ s.nodes ∧ s.nodes ≤ 7) ∧ s.steps.length ≤ 4096 ∧ s.steps.all okStep = true := by
  unfold okScript
  simp only [Bool.and_eq_true, decide_eq_true_eq, and_assoc]
theorem words_nodes (n : Int) : words (join [wNodes, itoa n]) = [wNodes, itoa n] := words_join _ (good_nodes n)
/-- P34.3: a valid script is parsed from what is printed of it -/
theorem parse_text (s : ScriptS) (h : okScript s = true) : parse (text s) = .ok s := by
  obtain ⟨hn, hl, hs⟩ := (okScript_iff s).1 h
  unfold parse text
  rw [nodesLine_eq, List.append_assoc, List.singleton_append, splitNL_line _ _ (join_nl _ (good_nodes _))]
  have h1 := splitNL_steps s.steps [] hs
  rw [List.append_nil] at h1
  rw [h1, parseGo, words_nodes, line_nodes _ hn.1 hn.2]
  dsimp only
  rw [parseGo_steps s.steps ⟨s.nodes, []⟩ 1 _ hs (by dsimp only; omega) (by simpa using hl)]
  rw [splitNL, parseGo]
  have hw : words [] = [] := rfl
  rw [hw]
  unfold line
  dsimp only
  unfold parseGo
  rw [if_neg (by dsimp only; omega)]
  simp
/-- one step's line behind a nodes line -/
theorem parse_one (x : StepS) (h : okStep x = true) : parse (nodesLine 1 ++ stepText x) = .ok ⟨1, [x]⟩ := by
  unfold parse
  rw [nodesLine_eq, List.append_assoc, List.singleton_append, splitNL_line _ _ (join_nl _ (good_nodes _)), splitNL_one _ (show ∀ c ∈ stepText x, c ≠ 10 from join_nl _ (good_stepWords h)), parseGo, words_nodes, line_nodes _ (by omega) (by omega)]
  dsimp only
  have := parseGo_steps [x] ⟨1, []⟩ 1 [] (by simp [h]) (by decide) (by simp)
  simp only [List.map_cons, List.map_nil, List.append_nil, List.nil_append] at this
  rw [this]
  rfl

/-! ### what is parsed may be -/
def okSoFar (s : ScriptS) : Prop := (s.nodes = 0 ∨ (1 ≤ s.nodes ∧ s.nodes ≤ 7)) ∧ s.steps.length ≤ 4096 ∧ s.steps.all okStep = true
theorem pnodes_ok {ws : List Str} {n : Int} (h : pnodes ws = some n) : 1 ≤ n ∧ n ≤ 7 := by
  unfold pnodes at h
  obtain ⟨a, h1, h⟩ := bind_some_iff h
  split at h
  · rename_i hc
    simp only [Option.some.injEq] at h
    have := pnum_ok (show pnum 7 ws = some (a.1, a.2) from h1)
    omega
  · cases h
theorem line_ok {s s' : ScriptS} {ws : List Str} (h : line s ws = .ok s') (ho : okSoFar s) : okSoFar s' := by
  cases ws with
  | nil =>
    simp only [line, Except.ok.injEq] at h
    subst h; exact ho
  | cons w ws =>
    unfold line at h
    dsimp only at h
    split at h
    · split at h
      · rename_i n hn
        split at h
        · simp only [Except.ok.injEq] at h
          subst h
          exact ⟨.inr (pnodes_ok hn), ho.2⟩
        · cases h
      · cases h
    · split at h
      · cases h
      · rename_i k hk
        split at h
        · cases h
        · rename_i x hx
          split at h
          · cases h
          · split at h
            · cases h
            · simp only [Except.ok.injEq] at h
              subst h
              refine ⟨ho.1, by simp; omega, ?_⟩
              simp only [List.all_append, ho.2.2, List.all_cons, List.all_nil, (pstep_ok (kindOf_lt hk) hx).1]
              rfl
theorem parseGo_ok : ∀ (ts : List Str) (s s' : ScriptS) (no : Nat), parseGo s no ts = .ok s' → okSoFar s → okScript s' = true
  | [], s, s', no, h, ho => by
    unfold parseGo at h
    split at h
    · cases h
    · rename_i hn
      simp only [Except.ok.injEq] at h
      subst h
      exact (okScript_iff _).2 ⟨by rcases ho.1 with h | h; exact absurd h hn; exact h, ho.2⟩
  | t :: ts, s, s', no, h, ho => by
    unfold parseGo at h
    split at h
    · rename_i s1 h1
      exact parseGo_ok ts s1 s' _ h (line_ok h1 ho)
    · cases h
theorem parse_ok {t : Str} {s : ScriptS} (h : parse t = .ok s) : okScript s = true := parseGo_ok _ _ _ _ h ⟨.inl rfl, by simp, rfl⟩
end Go.Proofs.YtifliekahdgobaaGreatDoor
namespace Go.Proofs.YtifliekahdgobaaGreatDoor
open Sp

/-! ### the words of a text's lines say it all -/
def goW (s : ScriptS) : List (List Str) → Option ScriptS
  | [] => if s.nodes = 0 then none else some s
  | ws :: r => match line s ws with
    | .ok s' => goW s' r
    | .error _ => none
theorem parseGo_goW : ∀ (ls : List Str) (s r : ScriptS) (no : Nat), goW s (ls.map words) = some r → parseGo s no ls = .ok r
  | [], s, r, no, h => by
    simp only [List.map_nil, goW] at h
    simp only [parseGo]
    split at h
    · cases h
    · rename_i h0
      rw [if_neg h0]
      injection h with h
      rw [h]
  | t :: ls, s, r, no, h => by
    simp only [List.map_cons, goW] at h
    simp only [parseGo]
    split at h
    · rename_i s' hs
      rw [hs]
      exact parseGo_goW ls s' r _ h
    · cases h
theorem parse_goW {t : Str} {r : ScriptS} (h : goW ⟨0, []⟩ ((splitNL t).map words) = some r) : parse t = .ok r := parseGo_goW _ _ _ _ h
theorem goW_nil (s : ScriptS) (r : List (List Str)) : goW s ([] :: r) = goW s r := rfl
theorem splitNL_append : ∀ (p r : Str), splitNL (p ++ 10 :: r) = splitNL p ++ splitNL r
  | [], r => by simp [splitNL]
  | c :: p, r => by
    have ih := splitNL_append p r
    simp only [List.cons_append, splitNL]
    by_cases hc : c = 10
    · rw [if_pos hc, if_pos hc, ih]; rfl
    · rw [if_neg hc, if_neg hc, ih]
      rcases hp : splitNL p with _ | ⟨x, y⟩
      · exact absurd hp (splitNL_ne p)
      · rfl
/-- what a line that is a step's says -/
def lineStep : List Str → Option StepS
  | [] => none
  | w :: ws => if w = wNodes then none else (kindOf names w).bind fun k => pstep k ws
theorem line_lineStep {s : ScriptS} {ws : List Str} {x : StepS} (h : lineStep ws = some x) (hn : 0 < s.nodes) (hl : s.steps.length < 4096) : line s ws = .ok { s with steps := s.steps ++ [x] } := by
  cases ws with
  | nil => cases h
  | cons w ws =>
    simp only [lineStep] at h
    split at h
    · cases h
    · rename_i hw
      simp only [line]
      rw [if_neg hw]
      rcases hk : kindOf names w with _ | k
      · rw [hk] at h; cases h
      · rw [hk] at h
        simp only [Option.bind_some] at h
        dsimp only
        rw [h]
        dsimp only
        rw [if_neg (by omega), if_neg (by omega)]

/-! ### the statement's lines, gaps and ends -/
def lines18 : List Str := [[100, 101, 108, 105, 118, 101, 114, 32, 48], [100, 114, 111, 112, 32, 57, 57, 57, 57, 57, 57, 57, 57, 57, 57, 57, 57, 57, 57, 57, 57, 57, 57], [116, 119, 105, 99, 101, 32, 55], [116, 105, 99, 107, 32, 48, 32, 49], [99, 104, 117, 110, 107, 32, 57, 32, 51], [99, 114, 97, 115, 104, 32, 49, 32, 48], [119, 97, 107, 101, 32, 50, 32, 55, 55], [99, 97, 110, 99, 101, 108, 32, 48, 32, 53], [116, 97, 107, 101, 32, 48, 32, 49], [100, 101, 102, 114, 97, 103, 32, 52], [119, 97, 116, 99, 104, 32, 48, 32, 49, 32, 54, 49, 32, 54, 50, 32, 51, 32, 112, 110, 100, 103], [119, 97, 116, 99, 104, 32, 48, 32, 48, 32, 45, 32, 45, 32, 48, 32, 45], [119, 97, 116, 99, 104, 32, 49, 32, 50, 32, 48, 48, 32, 45, 32, 48, 32, 100, 103], [97, 115, 107, 32, 48, 32, 115, 116, 97, 116, 117, 115, 32, 48, 32, 48, 32, 115, 32, 48], [97, 115, 107, 32, 48, 32, 104, 97, 115, 104, 32, 48, 32, 48, 32, 45, 32, 57], [97, 115, 107, 32, 48, 32, 99, 111, 109, 112, 97, 99, 116, 32, 49, 32, 50, 32, 45, 32, 53], [97, 115, 107, 32, 48, 32, 116, 120, 110, 32, 49, 32, 49, 32, 45, 32, 48], [97, 115, 107, 32, 48, 32, 116, 120, 110, 32, 49, 32, 49, 32, 115, 32, 48, 32, 105, 102, 32, 48, 32, 57, 32, 53, 32, 54, 49, 32, 45, 32, 105, 102, 32, 51, 32, 49, 32, 48, 32, 45, 32, 54, 50, 32, 116, 104, 101, 110, 32, 114, 97, 110, 103, 101, 32, 54, 49, 32, 48, 48, 32, 55, 32, 50, 32, 99, 107, 32, 116, 104, 101, 110, 32, 100, 101, 108, 32, 54, 49, 32, 45, 32, 112, 32, 101, 108, 115, 101, 32, 112, 117, 116, 32, 54, 49, 32, 45, 32, 45]]
def gaps5 : List Str := [[32], [32, 32], [9], [32, 9, 32], [32, 32, 32]]
def ends4 : List Str := [[10], [32, 35, 32, 120, 10], [10, 10], [9, 10, 35, 32, 121, 10]]
def lineAt (i : Nat) : Str := lines18.getD i []
def gapAt (i : Nat) : Str := gaps5.getD i []
def endAt (i : Nat) : Str := ends4.getD i []
def stepAt (i : Nat) : StepS := (lineStep (words (lineAt i))).getD .zero
/-- a line, turned -/
def turned (i g e : Nat) : Str := Lib.replaceAll (lineAt i) [32] (gapAt g) ++ endAt e
def noNL (s : Str) : Bool := s.all (· != 10)
def pieceOk (i g e : Nat) : Bool :=
  (turned i g e).getLast? == some 10 && (((splitNL (turned i g e).dropLast).map words == [words (lineAt i)]) || ((splitNL (turned i g e).dropLast).map words == [words (lineAt i), []]))
def lineOk (i : Nat) : Bool := noNL (lineAt i) && decide (lineStep (words (lineAt i)) = some (stepAt i)) && decide ((lineAt i).length ≤ 200)
theorem lines_ok : ((List.range 18).all lineOk) = true := by kernel_rfl
theorem pieces_ok : ((List.range 18).all fun i => (List.range 5).all fun g => (List.range 4).all fun e => pieceOk i g e && decide ((turned i g e).length ≤ 1000)) = true := by kernel_rfl
theorem all_range {n : Nat} {p : Nat → Bool} (h : (List.range n).all p = true) {i : Nat} (hi : i < n) : p i = true := List.all_eq_true.1 h i (List.mem_range.2 hi)
theorem line_ok18 {i : Nat} (h : i < 18) : (∀ c ∈ lineAt i, c ≠ 10) ∧ lineStep (words (lineAt i)) = some (stepAt i) ∧ (lineAt i).length ≤ 200 := by
  have := all_range lines_ok h
  unfold lineOk noNL at this
  simp only [Bool.and_eq_true, decide_eq_true_eq, List.all_eq_true] at this
  exact ⟨fun c hc e => (by
    have h2 := this.1.1 c hc
    rw [e] at h2
    cases h2), this.1.2, this.2⟩
theorem piece_ok {i g e : Nat} (hi : i < 18) (hg : g < 5) (he : e < 4) : (∃ p, turned i g e = p ++ [10] ∧ ((splitNL p).map words = [words (lineAt i)] ∨ (splitNL p).map words = [words (lineAt i), []])) ∧ (turned i g e).length ≤ 1000 := by
  have h := all_range (all_range (all_range pieces_ok hi) hg) he
  unfold pieceOk at h
  simp only [Bool.and_eq_true, Bool.or_eq_true, decide_eq_true_eq, beq_iff_eq] at h
  obtain ⟨⟨h1, h2⟩, h3⟩ := h
  refine ⟨⟨(turned i g e).dropLast, ?_, h2⟩, h3⟩
  obtain ⟨ys, hys⟩ := List.getLast?_eq_some_iff.1 h1
  rw [hys]
  simp

/-! ### the two texts -/
def gO (b : Option UInt8) : Nat := match b with
  | none => 0
  | some b => b.toNat % 5
def eO (b : Option UInt8) : Nat := match b with
  | none => 0
  | some b => b.toNat / 5 % 4
def idx (l : List UInt8) (i : Nat) : Nat := (l.getD i 0).toNat % 18
def headOne : Str := [110, 111, 100, 101, 115, 32, 52, 10]
def headTwo : Str := [35, 32, 122, 10, 32, 110, 111, 100, 101, 115, 9, 52, 10]
def oneText (l : List UInt8) (k : Nat) : Str := headOne ++ (List.range k).flatMap fun i => lineAt (idx l i) ++ [10]
def twoText (l bt : List UInt8) (k : Nat) : Str := headTwo ++ (List.range k).flatMap fun i => turned (idx l i) (gO bt[i]?) (eO bt[i]?)
def stepsOf (l : List UInt8) (k : Nat) : List StepS := (List.range k).map fun i => stepAt (idx l i)
theorem oneText_step (l : List UInt8) (k : Nat) : oneText l (k + 1) = oneText l k ++ lineAt (idx l k) ++ [10] := by
  unfold oneText
  rw [List.range_succ, List.flatMap_append]
  simp
theorem twoText_step (l bt : List UInt8) (k : Nat) : twoText l bt (k + 1) = twoText l bt k ++ turned (idx l k) (gO bt[k]?) (eO bt[k]?) := by
  unfold twoText
  rw [List.range_succ, List.flatMap_append]
  simp
theorem idx_lt (l : List UInt8) (i : Nat) : idx l i < 18 := Nat.mod_lt _ (by decide)
theorem gO_lt (b : Option UInt8) : gO b < 5 := by
  unfold gO
  split
  · decide
  · exact Nat.mod_lt _ (by decide)
theorem eO_lt (b : Option UInt8) : eO b < 4 := by
  unfold eO
  split
  · decide
  · exact Nat.mod_lt _ (by decide)
theorem oneText_len (l : List UInt8) : ∀ k, (oneText l k).length ≤ 100 + k * 201
  | 0 => by simp [oneText, headOne]
  | k + 1 => by
    have := oneText_len l k
    have := (line_ok18 (idx_lt l k)).2.2
    rw [oneText_step]
    simp only [List.length_append, List.length_cons, List.length_nil]
    omega
theorem twoText_len (l bt : List UInt8) : ∀ k, (twoText l bt k).length ≤ 100 + k * 1001
  | 0 => by simp [twoText, headTwo]
  | k + 1 => by
    have := twoText_len l bt k
    have := (piece_ok (idx_lt l k) (gO_lt bt[k]?) (eO_lt bt[k]?)).2
    rw [twoText_step]
    simp only [List.length_append]
    omega
/-- the steps come one by one -/
theorem goW_list : ∀ (P : List (Nat × List (List Str))) (s : ScriptS) (r : List (List Str)), (∀ p ∈ P, p.1 < 18 ∧ (p.2 = [words (lineAt p.1)] ∨ p.2 = [words (lineAt p.1), []])) → 0 < s.nodes → s.steps.length + P.length ≤ 4096 →
    goW s (P.flatMap (·.2) ++ r) = goW { s with steps := s.steps ++ P.map fun p => stepAt p.1 } r
  | [], s, r, _, _, _ => by simp
  | p :: P, s, r, h, hn, hl => by
    obtain ⟨h1, h2⟩ := h p (.head _)
    simp only [List.length_cons] at hl
    have hs := line_lineStep (s := s) (line_ok18 h1).2.1 hn (by omega)
    have ih := goW_list P { s with steps := s.steps ++ [stepAt p.1] } r (fun q hq => h q (.tail _ hq)) hn (by simp; omega)
    have hm : s.steps ++ (p :: P).map (fun p => stepAt p.1) = (s.steps ++ [stepAt p.1]) ++ P.map fun p => stepAt p.1 := by simp
    rw [hm, ← ih]
    rcases h2 with h2 | h2
    · rw [List.flatMap_cons, h2]
      simp only [List.cons_append, List.nil_append, goW]
      rw [hs]
    · rw [List.flatMap_cons, h2]
      simp only [List.cons_append, List.nil_append]
      rw [goW, hs]
      exact goW_nil _ _
theorem split_pieces : ∀ (P : List (Str × List (List Str))) (r : Str), (∀ p ∈ P, ∃ q, p.1 = q ++ [10] ∧ (splitNL q).map words = p.2) → (splitNL (P.flatMap (·.1) ++ r)).map words = P.flatMap (·.2) ++ (splitNL r).map words
  | [], r, _ => by simp
  | p :: P, r, h => by
    obtain ⟨q, h1, h2⟩ := h p (.head _)
    have ih := split_pieces P r (fun x hx => h x (.tail _ hx))
    rw [List.flatMap_cons, List.flatMap_cons, h1, show q ++ [10] ++ List.flatMap (·.1) P ++ r = q ++ 10 :: (List.flatMap (·.1) P ++ r) by simp, splitNL_append, List.map_append, h2, ih, List.append_assoc]
theorem nodes4 : line ⟨0, []⟩ [[110, 111, 100, 101, 115], [52]] = .ok ⟨4, []⟩ := by kernel_rfl
theorem headOne_words (r : Str) : (splitNL (headOne ++ r)).map words = [[110, 111, 100, 101, 115], [52]] :: (splitNL r).map words := by
  have h := splitNL_append [110, 111, 100, 101, 115, 32, 52] r
  rw [show headOne ++ r = [110, 111, 100, 101, 115, 32, 52] ++ 10 :: r by simp [headOne], h, List.map_append]
  rw [show (splitNL [110, 111, 100, 101, 115, 32, 52]).map words = [[[110, 111, 100, 101, 115], [52]]] by kernel_rfl]
  rfl
theorem headTwo_words (r : Str) : (splitNL (headTwo ++ r)).map words = [] :: [[110, 111, 100, 101, 115], [52]] :: (splitNL r).map words := by
  have h := splitNL_append [35, 32, 122, 10, 32, 110, 111, 100, 101, 115, 9, 52] r
  rw [show headTwo ++ r = [35, 32, 122, 10, 32, 110, 111, 100, 101, 115, 9, 52] ++ 10 :: r by simp [headTwo], h, List.map_append]
  rw [show (splitNL [35, 32, 122, 10, 32, 110, 111, 100, 101, 115, 9, 52]).map words = [[], [[110, 111, 100, 101, 115], [52]]] by kernel_rfl]
  rfl
theorem blank_one (l : List UInt8) (k : Nat) (hk : k ≤ 40) : parse (oneText l k) = .ok ⟨4, stepsOf l k⟩ := by
  apply parse_goW
  unfold oneText
  rw [headOne_words]
  have hp := split_pieces ((List.range k).map fun i => (lineAt (idx l i) ++ [10], [words (lineAt (idx l i))])) [] (fun p hp => by
    obtain ⟨i, -, rfl⟩ := List.mem_map.1 hp
    exact ⟨lineAt (idx l i), rfl, by rw [splitNL_none _ (line_ok18 (idx_lt l i)).1]; rfl⟩)
  rw [List.flatMap_map, List.flatMap_map, List.append_nil] at hp
  rw [hp, goW, nodes4]
  dsimp only
  have hg := goW_list ((List.range k).map fun i => (idx l i, [words (lineAt (idx l i))])) ⟨4, []⟩ ((splitNL []).map words) (fun p hp => by
    obtain ⟨i, -, rfl⟩ := List.mem_map.1 hp
    exact ⟨idx_lt l i, .inl rfl⟩) (by decide) (by simp; omega)
  rw [List.flatMap_map] at hg
  rw [hg, List.map_map]
  rfl
theorem blank_two (l bt : List UInt8) (k : Nat) (hk : k ≤ 40) : parse (twoText l bt k) = .ok ⟨4, stepsOf l k⟩ := by
  apply parse_goW
  unfold twoText
  rw [headTwo_words, goW_nil]
  have hp := split_pieces ((List.range k).map fun i => (turned (idx l i) (gO bt[i]?) (eO bt[i]?), (splitNL (turned (idx l i) (gO bt[i]?) (eO bt[i]?)).dropLast).map words)) [] (fun p hp => by
    obtain ⟨i, -, rfl⟩ := List.mem_map.1 hp
    obtain ⟨⟨q, h1, -⟩, -⟩ := piece_ok (idx_lt l i) (gO_lt bt[i]?) (eO_lt bt[i]?)
    exact ⟨q, h1, by dsimp only; rw [h1]; simp⟩)
  rw [List.flatMap_map, List.flatMap_map, List.append_nil] at hp
  rw [hp, goW, nodes4]
  dsimp only
  have hg := goW_list ((List.range k).map fun i => (idx l i, (splitNL (turned (idx l i) (gO bt[i]?) (eO bt[i]?)).dropLast).map words)) ⟨4, []⟩ ((splitNL []).map words) (fun p hp => by
    obtain ⟨i, -, rfl⟩ := List.mem_map.1 hp
    obtain ⟨⟨q, h1, h2⟩, -⟩ := piece_ok (idx_lt l i) (gO_lt bt[i]?) (eO_lt bt[i]?)
    refine ⟨idx_lt l i, ?_⟩
    dsimp only
    rw [h1]
    simpa using h2) (by decide) (by simp; omega)
  rw [List.flatMap_map] at hg
  rw [hg, List.map_map]
  rfl
theorem stepsOf_len (l : List UInt8) (k : Nat) : (stepsOf l k).length = k := by unfold stepsOf; simp
end Go.Proofs.YtifliekahdgobaaGreatDoor
namespace Go.Proofs.YtifliekahdgobaaGreatDoor
open Go.RowKit Go.Extern.Stop Go.Stop Go.Extern

theorem Tryz.handle (n : Nat) (h : n = 26 ∨ n = 74 ∨ n = 78 ∨ n = 30) : typeHandle Tryz.prog n = .pointer (some ⟨9, n, none⟩) := by
  rcases h with rfl | rfl | rfl | rfl <;> kernel_rfl
theorem as_nil (t : Value) (w : World) : Calls Tryz.prog 30 #[.nilIface, t] w fun e w' => e = .returned (.bool false) ∧ w' = w := by
  go_enter Tryz.func30, Tryz.ntmps30
  go_wp2
  go_ret
  exact ⟨rfl, rfl⟩
/-! ### closed facts on the model's entries for internal/reflectlite, at *Fault (74), **Fault (78), error (26), rtype (172), Errno (30) -/
theorem Tryz.valueOf78 (t : Addr) (w : World) : (ReflectliteValue.unpack (.iface 78 (.pointer (some t)))).run Tryz.prog w
    = .ok (.agg #[.pointer (some ⟨9, 78, none⟩), .pointer (some ⟨w.heap.size, 0, none⟩), .int .u64 150]) (w.alloc (.cells #[.pointer (some t)] 78)) := by kernel_rfl
theorem Tryz.type78 (a : Addr) (w : World) : (ReflectliteValue.methodAny (ReflectliteValue.valueError "reflectlite.Value.Type" 0) (fun t _ _ _ => ReflectliteType.toType t) #[.agg #[.pointer (some ⟨9, 78, none⟩), .pointer (some a), .int .u64 150]]).run Tryz.prog w
    = .ok (.iface 172 (.agg #[.pointer (some ⟨9, 78, none⟩)])) w := by kernel_rfl
theorem Tryz.kind78 (w : World) : ((ReflectliteType.abiMethod fun t => (fun a : Nat => Value.int IntKind.u8 (a : Int)) <$> Rtype.kind t) #[.pointer (some ⟨9, 78, none⟩)]).run Tryz.prog w = .ok (.int .u8 22) w := by kernel_rfl
theorem Tryz.kind74 (w : World) : ((ReflectliteType.abiMethod fun t => (fun a : Nat => Value.int IntKind.u8 (a : Int)) <$> Rtype.kind t) #[.pointer (some ⟨9, 74, none⟩)]).run Tryz.prog w = .ok (.int .u8 22) w := by kernel_rfl
theorem rlm (z : Sem Value) (f : TypeId → Addr → Nat → Nat → Sem Value) (v : Value) :
    ReflectliteValue.method z f #[v] = (do match ← ReflectliteValue.parts v with | none => z | some (t, a, fl) => f t a fl (fl % 32)) := rfl
theorem Tryz.parts78 (a : Addr) (w : World) : (ReflectliteValue.parts (.agg #[.pointer (some ⟨9, 78, none⟩), .pointer (some a), .int .u64 150])).run Tryz.prog w = .ok (some (78, a, 150)) w := by kernel_rfl
theorem Tryz.isNil78 (a p : Addr) (W : World) (ha : W.cell? a = some (.pointer (some p))) :
    (ReflectliteValue.method (ReflectliteValue.valueError "reflectlite.Value.IsNil" 0) ReflectliteValue.isNil #[.agg #[.pointer (some ⟨9, 78, none⟩), .pointer (some a), .int .u64 150]]).run Tryz.prog W = .ok (.bool false) W := by
  rw [rlm]
  simp only [Sem.run_bind, Tryz.parts78, Result.andThen]
  simp [ReflectliteValue.isNil, loadVar, isAgg, underlying, Tryz.underlying78, ha, Result.andThen]
theorem Tryz.elem78 (w : World) : (ReflectliteType.method ReflectliteType.elem #[.agg #[.pointer (some ⟨9, 78, none⟩)]]).run Tryz.prog w = .ok (.iface 172 (.agg #[.pointer (some ⟨9, 74, none⟩)])) w := by kernel_rfl
theorem Tryz.implements74 (w : World) : (ReflectliteType.relation "Implements" ReflectliteType.implements_ #[.agg #[.pointer (some ⟨9, 74, none⟩)], .iface 172 (.agg #[.pointer (some ⟨9, 26, none⟩)])]).run Tryz.prog w = .ok (.bool true) w := by kernel_rfl
theorem Tryz.typeOf74 (v : Value) (w : World) : (ReflectliteType.typeOf #[.iface 74 v]).run Tryz.prog w = .ok (.iface 172 (.agg #[.pointer (some ⟨9, 74, none⟩)])) w := by kernel_rfl
theorem Tryz.assignable74 (w : World) : (ReflectliteType.relation "AssignableTo" ReflectliteType.assignableTo #[.agg #[.pointer (some ⟨9, 74, none⟩)], .iface 172 (.agg #[.pointer (some ⟨9, 74, none⟩)])]).run Tryz.prog w = .ok (.bool true) w := by kernel_rfl
theorem Tryz.valueOf74 (e : Addr) (w : World) : (ReflectliteValue.unpack (.iface 74 (.pointer (some e)))).run Tryz.prog w
    = .ok (.agg #[.pointer (some ⟨9, 74, none⟩), .pointer (some ⟨w.heap.size, 0, none⟩), .int .u64 150]) (w.alloc (.cells #[.pointer (some e)] 74)) := by kernel_rfl
theorem Tryz.elemOf78 (w : World) : (Rtype.elem? 78).run Tryz.prog w = .ok (some 74) w := by kernel_rfl
theorem Tryz.mk74 (p : Addr) (w : World) : (ReflectliteValue.mk 74 p ReflectliteValue.flagAddr).run Tryz.prog w = .ok (.agg #[.pointer (some ⟨9, 74, none⟩), .pointer (some p), .int .u64 406]) w := by kernel_rfl
theorem Tryz.elemV78 (a p : Addr) (W : World) (ha : W.cell? a = some (.pointer (some p))) :
    (ReflectliteValue.method (ReflectliteValue.valueError "reflectlite.Value.Elem" 0) ReflectliteValue.elem #[.agg #[.pointer (some ⟨9, 78, none⟩), .pointer (some a), .int .u64 150]]).run Tryz.prog W
      = .ok (.agg #[.pointer (some ⟨9, 74, none⟩), .pointer (some p), .int .u64 406]) W := by
  rw [rlm]
  simp only [Sem.run_bind, Tryz.parts78, Result.andThen]
  simp [ReflectliteValue.elem, loadVar, isAgg, underlying, Tryz.underlying78, ha, Result.andThen, Tryz.elemOf78, Tryz.mk74]
theorem rls (v x : Value) : ReflectliteValue.set #[v, x] = (do
    let (some (dst, a, fl), some (src, b, _)) := (← ReflectliteValue.parts v, ← ReflectliteValue.parts x)
      | unsupported (.noEntry "extern/(internal/reflectlite.Value).Set.zeroValue")
    if fl / ReflectliteValue.flagAddr % 2 == 0 then unsupported (.noEntry "extern/(internal/reflectlite.Value).Set.unaddressable")
    let val ← loadVar src b
    if ← Rtype.directlyAssignable dst src then storeVar dst a val
    else if ← Rtype.implements dst src then
      if (← Rtype.kind src) == 20 then
        match val with
        | .nilIface => unsupported (.noEntry "extern/reflectlite: a nil value of one interface type handed on as a value of another")
        | _ => storeVar dst a val
      else storeVar dst a (.iface src val)
    else panicString ("reflectlite.Set: value of type " ++ (← Rtype.spelt src) ++ " is not assignable to type " ++ (← Rtype.spelt dst))
    pure (.tuple #[])) := rfl
theorem Tryz.parts74a (a : Addr) (w : World) : (ReflectliteValue.parts (.agg #[.pointer (some ⟨9, 74, none⟩), .pointer (some a), .int .u64 406])).run Tryz.prog w = .ok (some (74, a, 406)) w := by kernel_rfl
theorem Tryz.parts74 (a : Addr) (w : World) : (ReflectliteValue.parts (.agg #[.pointer (some ⟨9, 74, none⟩), .pointer (some a), .int .u64 150])).run Tryz.prog w = .ok (some (74, a, 150)) w := by kernel_rfl
theorem Tryz.direct74 (w : World) : (Rtype.directlyAssignable 74 74).run Tryz.prog w = .ok true w := by kernel_rfl
theorem Tryz.set74 (ta b e : Addr) (old : Value) (W : World) (hb : W.cell? b = some (.pointer (some e))) (ht : W.cell? ta = some old) (hf : W.frozen? ta = false) :
    (ReflectliteValue.set #[.agg #[.pointer (some ⟨9, 74, none⟩), .pointer (some ta), .int .u64 406], .agg #[.pointer (some ⟨9, 74, none⟩), .pointer (some b), .int .u64 150]]).run Tryz.prog W
      = .ok (.tuple #[]) (W.setCell ta (.pointer (some e))) := by
  rw [rls]
  simp only [Sem.run_bind, Tryz.parts74a, Tryz.parts74, Result.andThen]
  simp [ReflectliteValue.flagAddr, loadVar, isAgg, underlying, Tryz.underlying74, hb, Result.andThen, Tryz.direct74, storeVar, Value.cells, storeCells, Addr.add]
  rw [run_store Tryz.prog W ta _ _ (by rfl)]
  simp [ht, hf]
theorem Tryz.mKind (h : Value) (w : World) : (Go.method 374 172 (.agg #[h]) "Kind").run Tryz.prog w = .ok (185, h) w := by kernel_rfl
theorem Tryz.mElem (h : Value) (w : World) : (Go.method 374 172 (.agg #[h]) "Elem").run Tryz.prog w = .ok (198, .agg #[h]) w := by kernel_rfl
theorem Tryz.mImpl (h : Value) (w : World) : (Go.method 374 172 (.agg #[h]) "Implements").run Tryz.prog w = .ok (199, .agg #[h]) w := by kernel_rfl
theorem Tryz.mAssign (h : Value) (w : World) : (Go.method 374 172 (.agg #[h]) "AssignableTo").run Tryz.prog w = .ok (196, .agg #[h]) w := by kernel_rfl
theorem Tryz.mComp (h : Value) (w : World) : (Go.method 374 172 (.agg #[h]) "Comparable").run Tryz.prog w = .ok (197, .agg #[h]) w := by kernel_rfl
end Go.Proofs.YtifliekahdgobaaGreatDoor
namespace Go.Proofs.YtifliekahdgobaaGreatDoor
open Go.RowKit Go.Extern.Stop Go.Stop Go.Extern

set_option maxRecDepth 100000 in
set_option maxHeartbeats 4000000 in
theorem as62 (e t a : Addr) (old : Value) (w : World) (ha : w.cell? a = some (.pointer (some t))) (ht0 : w.cell? t = some old) (hf0 : w.frozen? t = false) :
    Calls Tryz.prog 62 #[.iface 74 (.pointer (some e)), .iface 78 (.pointer (some t)), .agg #[.pointer (some ⟨9, 78, none⟩), .pointer (some a), .int .u64 150], .iface 172 (.agg #[.pointer (some ⟨9, 74, none⟩)])] w
      fun ev w' => ev = .returned (.bool true) ∧ w' = ((w.alloc (.cells #[.pointer (some ⟨9, 78, none⟩), .pointer (some a), .int .u64 150] 131)).alloc (.cells #[.pointer (some e)] 74)).setCell t (.pointer (some e)) := by
  have h59 := @run_callFunc_extern Tryz.prog 59 _ (fun args => ReflectliteValue.unpack (args.getD 0 (.tuple #[]))) Tryz.func59 (by kernel_rfl) (by kernel_rfl) (by kernel_rfl) (by kernel_rfl)
  have h63 := @run_callFunc_extern Tryz.prog 63 _ ReflectliteType.typeOf Tryz.func63 (by kernel_rfl) (by kernel_rfl) (by kernel_rfl) (by kernel_rfl)
  have h196 := @run_callFunc_extern Tryz.prog 196 _ (ReflectliteType.relation "AssignableTo" ReflectliteType.assignableTo) Tryz.func196 (by kernel_rfl) (by kernel_rfl) (by kernel_rfl) (by kernel_rfl)
  have h100 := @run_callFunc_extern Tryz.prog 100 _ (ReflectliteValue.method (ReflectliteValue.valueError "reflectlite.Value.Elem" 0) ReflectliteValue.elem) Tryz.func100 (by kernel_rfl) (by kernel_rfl) (by kernel_rfl) (by kernel_rfl)
  have h101 := @run_callFunc_extern Tryz.prog 101 _ ReflectliteValue.set Tryz.func101 (by kernel_rfl) (by kernel_rfl) (by kernel_rfl) (by kernel_rfl)
  have tO := Tryz.typeOf74
  have mA := Tryz.mAssign
  have a74 := Tryz.assignable74
  have v74 := Tryz.valueOf74
  have hal : a.block < w.heap.size := World.block_lt_of_cell? _ _ ha
  have htl : t.block < w.heap.size := World.block_lt_of_cell? _ _ ht0
  have el := Tryz.elemV78 a t (w.alloc (.cells #[.pointer (some ⟨9, 78, none⟩), .pointer (some a), .int .u64 150] 131)) (by rw [World.cell?_alloc_lt _ _ a hal]; exact ha)
  have st := Tryz.set74 t ⟨w.heap.size + 1, 0, none⟩ e old ((w.alloc (.cells #[.pointer (some ⟨9, 78, none⟩), .pointer (some a), .int .u64 150] 131)).alloc (.cells #[.pointer (some e)] 74))
    (by rw [World.cell?_alloc_at _ _ _ _ (by simp)]; rfl)
    (by rw [World.cell?_alloc_lt _ _ t (by simp; omega), World.cell?_alloc_lt _ _ t htl]; exact ht0)
    (by rw [World.frozen?_alloc_old _ _ t (by simp; omega), World.frozen?_alloc_old _ _ t (Nat.ne_of_lt htl)]; exact hf0)
  go_enter Tryz.func62, Tryz.ntmps62
  go_wp2
  refine wp_loop_rounds 1 ?_
  rw [rounds_succ]
  go_wp2
  go_ret
  exact ⟨rfl, rfl⟩
set_option maxRecDepth 100000 in
set_option maxHeartbeats 4000000 in
theorem as_hit (e t : Addr) (old : Value) (w : World) (hg : w.cell? ⟨0, 0, none⟩ = some (.iface 172 (.agg #[.pointer (some ⟨9, 26, none⟩)]))) (ht0 : w.cell? t = some old) (hf0 : w.frozen? t = false) :
    Calls Tryz.prog 30 #[.iface 74 (.pointer (some e)), .iface 78 (.pointer (some t))] w fun ev w' => ev = .returned (.bool true) ∧ Keep (fun b => b = t.block) w w' ∧ w'.cell? t = some (.pointer (some e)) := by
  have h59 := @run_callFunc_extern Tryz.prog 59 _ (fun args => ReflectliteValue.unpack (args.getD 0 (.tuple #[]))) Tryz.func59 (by kernel_rfl) (by kernel_rfl) (by kernel_rfl) (by kernel_rfl)
  have h60 := @run_callFunc_extern Tryz.prog 60 _ (ReflectliteValue.methodAny (ReflectliteValue.valueError "reflectlite.Value.Type" 0) (fun t _ _ _ => ReflectliteType.toType t)) Tryz.func60 (by kernel_rfl) (by kernel_rfl) (by kernel_rfl) (by kernel_rfl)
  have h61 := @run_callFunc_extern Tryz.prog 61 _ (ReflectliteValue.method (ReflectliteValue.valueError "reflectlite.Value.IsNil" 0) ReflectliteValue.isNil) Tryz.func61 (by kernel_rfl) (by kernel_rfl) (by kernel_rfl) (by kernel_rfl)
  have h185 := @run_callFunc_extern Tryz.prog 185 _ (ReflectliteType.abiMethod fun t => do pure (.int .u8 (← Rtype.kind t))) Tryz.func185 (by kernel_rfl) (by kernel_rfl) (by kernel_rfl) (by kernel_rfl)
  have h198 := @run_callFunc_extern Tryz.prog 198 _ (ReflectliteType.method ReflectliteType.elem) Tryz.func198 (by kernel_rfl) (by kernel_rfl) (by kernel_rfl) (by kernel_rfl)
  have h199 := @run_callFunc_extern Tryz.prog 199 _ (ReflectliteType.relation "Implements" ReflectliteType.implements_) Tryz.func199 (by kernel_rfl) (by kernel_rfl) (by kernel_rfl) (by kernel_rfl)
  have f59 := Tryz.valueOf78
  have f60 := Tryz.type78
  have k78 := Tryz.kind78
  have k74 := Tryz.kind74
  have el78 := Tryz.elem78
  have i74 := Tryz.implements74
  have mK := Tryz.mKind
  have mE := Tryz.mElem
  have mI := Tryz.mImpl
  have hlt : 0 < w.heap.size := World.block_lt_of_cell? _ _ hg
  have htl : t.block < w.heap.size := World.block_lt_of_cell? _ _ ht0
  obtain ⟨W, hW⟩ : ∃ W : World, W = (w.alloc (.cells #[.pointer (some t)] 78)).alloc (.cells #[.pointer (some ⟨9, 78, none⟩), .pointer (some ⟨w.heap.size, 0, none⟩), .int .u64 150] 131) := ⟨_, rfl⟩
  have hkW : Keep (fun _ => False) w W := by rw [hW]; exact ((Keep.refl _ w).alloc _).alloc _
  have hcA : W.cell? ⟨w.heap.size, 0, none⟩ = some (.pointer (some t)) := by rw [hW]; exact cell_of_block (block_alloc (block_new _ _) _) 0
  have n8 := Tryz.isNil78 ⟨w.heap.size, 0, none⟩ t W hcA
  have hg2 := hkW.cellOf hg (fun e => e)
  have htW := hkW.cellOf ht0 (fun e => e)
  have hfW : W.frozen? t = false := by rw [hkW.frozen htl (fun e => e)]; exact hf0
  have H62 := Lib.hid (as62 e t ⟨w.heap.size, 0, none⟩ old W hcA htW hfW)
  have HKW := Lib.hid hkW
  have HTW := Lib.hid htW
  have HTL := Lib.hid (Nat.lt_of_lt_of_le htl hkW.size)
  rw [hW] at n8 hg2
  have HW := Lib.hid hW
  clear hW hkW hcA htW hfW ht0 hf0 hg
  go_enter Tryz.func30, Tryz.ntmps30
  go_wp2_with fail
  rw [← HW.out]
  refine H62.out.mono ?_
  rintro ev w1 ⟨rfl, rfl⟩
  have hk1 : Keep (fun b => b = t.block) W (((W.alloc (.cells #[.pointer (some ⟨9, 78, none⟩), .pointer (some ⟨w.heap.size, 0, none⟩), .int .u64 150] 131)).alloc (.cells #[.pointer (some e)] 74)).setCell t (.pointer (some e))) := (((Keep.refl _ W).alloc _).alloc _).setCell _ _ (.inr rfl)
  have hct : (((W.alloc (.cells #[.pointer (some ⟨9, 78, none⟩), .pointer (some ⟨w.heap.size, 0, none⟩), .int .u64 150] 131)).alloc (.cells #[.pointer (some e)] 74)).setCell t (.pointer (some e))).cell? t = some (.pointer (some e)) := by
    exact World.cell?_setCell_same _ _ _ (by
      rw [World.cell?_alloc_lt _ _ t (by simp; have := HTL.out; omega), World.cell?_alloc_lt _ _ t HTL.out]
      exact HTW.out)
  have HK1 := Lib.hid hk1
  have HCT := Lib.hid hct
  clear hk1 hct
  go_wp2_with fail
  go_ret
  exact ⟨rfl, (HKW.out.mono (fun _ _ e => e.elim)).trans' HK1.out, HCT.out⟩
end Go.Proofs.YtifliekahdgobaaGreatDoor
namespace Go.Proofs.YtifliekahdgobaaGreatDoor
open Go.RowKit Go.Extern.Stop Go.Stop Go.Extern

theorem Tryz.int30 : Tryz.prog.underlying 30 = some (.int .i64) := Tryz.underlying30
theorem Tryz.comp30 : (Tryz.prog.info? 30).map (·.comparable) = some true := by kernel_rfl
theorem equalIn_errno (w : World) (d : Nat) (a b : Int) : (Op.equalIn (d + 2) 26 (.iface 30 (.int .i64 a)) (.iface 30 (.int .i64 b))).run Tryz.prog w = .ok (a == b) w := by
  obtain ⟨i, hi, hc⟩ := Option.map_eq_some_iff.1 Tryz.comp30
  simp [Op.equalIn, run_underlying Tryz.underlying26, run_underlying Tryz.underlying30, typeInfo, hi, hc]
/-- 'x == y', both errors of the number's type: as the numbers are -/
theorem eql_errno (w : World) (a b : Int) : (binOp .eql 26 (.iface 30 (.int .i64 a)) (.iface 30 (.int .i64 b))).run Tryz.prog w = .ok (.bool (a == b)) w := by
  simp only [binOp]
  simp [Op.equal, Op.maxDepth, equalIn_errno w 9998 a b]
theorem eql_other (w : World) (e : Addr) (c : Int) : (binOp .eql 26 (.iface 74 (.pointer (some e))) (.iface 30 (.int .i64 c))).run Tryz.prog w = .ok (.bool false) w := by kernel_rfl
theorem ta184 (w : World) (e : Addr) : (Instr.typeAssert (.iface 74 (.pointer (some e))) 26 184 true).run Tryz.prog w = .ok (.tuple #[.nilIface, .bool false]) w := run_typeAssert_lacksB Tryz.underlying184 (by kernel_rfl) (by kernel_rfl) (.pointer (some e)) 26 w
theorem ta179 (w : World) (e : Addr) : (Instr.typeAssert (.iface 74 (.pointer (some e))) 26 179 true).run Tryz.prog w = .ok (.tuple #[.iface 74 (.pointer (some e)), .bool true]) w := by kernel_rfl
theorem mUnwrap (w : World) (e : Addr) : (Go.method 374 74 (.pointer (some e)) "Unwrap").run Tryz.prog w = .ok (190, .pointer (some e)) w := by kernel_rfl
theorem Tryz.typeOf30 (v : Value) (w : World) : (ReflectliteType.typeOf #[.iface 30 v]).run Tryz.prog w = .ok (.iface 172 (.agg #[.pointer (some ⟨9, 30, none⟩)])) w := by kernel_rfl
set_option maxRecDepth 100000 in
theorem unwrap_any (b : Nat) (c a : Int) (w : World) (h : w.heap[b]? = some (.cells #[.int .i64 c, .int .i64 a] 32 (0, 0))) :
    Calls Tryz.prog 190 #[.pointer (some ⟨b, 0, none⟩)] w fun e w' => e = .returned (.iface 30 (.int .i64 c)) ∧ w = w' := by
  have hc : w.cell? ⟨b, 0, none⟩ = some (.int .i64 c) := cell_of_block h 0
  clear h
  go_enter Tryz.func190, Tryz.ntmps190
  go_wp2
  go_ret
  exact ⟨rfl, rfl⟩
set_option maxRecDepth 100000 in
set_option maxHeartbeats 4000000 in
theorem is64 (b : Nat) (c a : Int) (w : World) (h : w.heap[b]? = some (.cells #[.int .i64 c, .int .i64 a] 32 (0, 0))) :
    Calls Tryz.prog 64 #[.iface 74 (.pointer (some ⟨b, 0, none⟩)), .iface 30 (.int .i64 c), .bool true] w fun e w' => e = .returned (.bool true) ∧ w = w' := by
  have e1 := fun w => eql_other w ⟨b, 0, none⟩ c
  have e2 := fun w => eql_errno w c c
  have t1 := fun w => ta184 w ⟨b, 0, none⟩
  have t2 := fun w => ta179 w ⟨b, 0, none⟩
  have m1 := fun w => mUnwrap w ⟨b, 0, none⟩
  have HU := Lib.hid (unwrap_any b c a w h)
  clear h
  go_enter Tryz.func64, Tryz.ntmps64
  go_wp2_with fail
  refine wp_loop_rounds 2 ?_
  rw [rounds_succ]
  go_wp2_with fail
  refine HU.out.mono ?_
  rintro ev w' ⟨rfl, rfl⟩
  have hcc : (c == c) = true := by simp
  go_wp2_with fail
  rw [rounds_succ]
  go_wp2_with fail
  go_ret
  exact ⟨rfl, rfl⟩
theorem Tryz.comparable30 (w : World) : (ReflectliteType.method (fun t => do Rtype.noPackHeld "Comparable" t; (fun a => Value.bool a.comparable) <$> typeInfo t) #[.agg #[.pointer (some ⟨9, 30, none⟩)]]).run Tryz.prog w = .ok (.bool true) w := by kernel_rfl
set_option maxRecDepth 100000 in
set_option maxHeartbeats 4000000 in
theorem is_hit (b : Nat) (c a : Int) (w : World) (h : w.heap[b]? = some (.cells #[.int .i64 c, .int .i64 a] 32 (0, 0))) :
    Calls Tryz.prog 31 #[.iface 74 (.pointer (some ⟨b, 0, none⟩)), .iface 30 (.int .i64 c)] w fun e w' => e = .returned (.bool true) ∧ w = w' := by
  have h63 := @run_callFunc_extern Tryz.prog 63 _ ReflectliteType.typeOf Tryz.func63 (by kernel_rfl) (by kernel_rfl) (by kernel_rfl) (by kernel_rfl)
  have h197 := @run_callFunc_extern Tryz.prog 197 _ (ReflectliteType.method (fun t => do Rtype.noPackHeld "Comparable" t; pure (.bool (← typeInfo t).comparable))) Tryz.func197 (by kernel_rfl) (by kernel_rfl) (by kernel_rfl) (by kernel_rfl)
  have tO := Tryz.typeOf30
  have mC := Tryz.mComp
  have c30 := Tryz.comparable30
  have H := Lib.hid (is64 b c a w h)
  clear h
  go_enter Tryz.func31, Tryz.ntmps31
  go_wp2_with fail
  refine H.out.mono ?_
  rintro ev w' ⟨rfl, rfl⟩
  go_wp2_with fail
  go_ret
  exact ⟨rfl, rfl⟩
end Go.Proofs.YtifliekahdgobaaGreatDoor
namespace Go.Proofs.YtifliekahdgobaaGreatDoor
open Go.RowKit Sp

def idxOf (l : List Str) (x : Str) : Int := match kindOf l x with | some k => k | none => -1
theorem idx_from (x : Str) : ∀ (l : List Str) (i : Nat), Lib.idxFromS (l.map fun y => (⟨y.toArray⟩ : ByteArray)) ⟨x.toArray⟩ i = match kindOf l x with | some k => ((i + k : Nat) : Int) | none => -1
  | [], i => rfl
  | y :: l, i => by
    rw [List.map_cons, Lib.idxFromS]
    unfold kindOf
    rw [List.findIdx?_cons]
    by_cases h : y = x
    · subst h; simp
    · have h1 : ¬ ((⟨y.toArray⟩ : ByteArray) = ⟨x.toArray⟩) := fun e => h (by injection e with e; simpa using e)
      rw [if_neg h1, idx_from x l (i + 1)]
      have h2 : (y == x) = false := by simpa using h
      unfold kindOf
      rw [h2]
      rcases hf : l.findIdx? (· == x) with _ | k
      · rfl
      · show ((i + 1 + k : Nat) : Int) = ((i + (k + 1) : Nat) : Int)
        congr 1
        omega
theorem idx_eq (l : List Str) (x : Str) : Lib.idxOfS (l.map fun y => (⟨y.toArray⟩ : ByteArray)) ⟨x.toArray⟩ = idxOf l x := by
  unfold Lib.idxOfS idxOf
  rw [idx_from x l 0]
  rcases kindOf l x with _ | k <;> simp
/-- slices.Index over a row of words -/
theorem index_at (b : Nat) (l : List Str) (T : TypeId) (f : Nat × Nat) (c : Nat) (x : Str) (w : World) (hl : l.length ≤ 4294967296) (hb : w.heap[b]? = some (.cells (l.map fun y => sv y).toArray T f)) :
    Calls Tryz.prog 108 #[.slice (some ⟨b, 0, none⟩) l.length c, sv x] w fun e w' => e = .returned (.int .i64 (idxOf l x)) ∧ w = w' := by
  refine (Tryz.slices_Index_string b 0 l.length c (l.map fun y => (⟨y.toArray⟩ : ByteArray)) ⟨x.toArray⟩ w (by simp) (by omega) ?_).mono ?_
  · intro j hj
    simp only [List.length_map] at hj
    simp [World.cell?, hb, hj, List.getD]
  · intro e w' h
    rw [show ((l.map fun y => (⟨y.toArray⟩ : ByteArray)).take l.length) = l.map fun y => (⟨y.toArray⟩ : ByteArray) by rw [List.take_of_length_le (by simp)], idx_eq] at h
    exact ⟨h.1, h.2.symm⟩
theorem kinds_walk (w : World) : Calls Tryz.prog 109 #[] w fun e w' => e = .returned (.slice (some ⟨w.heap.size, 0, none⟩) 4 4) ∧ w' = w.alloc (.cells (kinds.map fun y => sv y).toArray 9 (0, 0)) := by
  go_enter Tryz.func109, Tryz.ntmps109
  go_wp2_with fail
  go_ret
  exact ⟨rfl, rfl⟩
end Go.Proofs.YtifliekahdgobaaGreatDoor
namespace Go.Proofs.YtifliekahdgobaaGreatDoor
open Go.RowKit Sp

/-- the state at the head of req's loop: wz is what is left of the line; st what was read; B the result's block -/
structure ReqMem (lb rb B : Nat) (w : World) (r0 : ReqS) (st : PartS) (wz : List Str) (vc vt ve : Value) (wr : World) : Prop where
  line : LineAt wr lb rb wz
  res : wr.heap[B]? = some (.cells (reqCells r0 vc vt ve) 59 (0, 0))
  cmps : CmpsAt wr (B + 1) vc st.cmps
  thn : OpsAt wr (B + 1) vt st.thn
  els : OpsAt wr (B + 1) ve st.els
  apart : vt.ownBlock = none ∨ vt.ownBlock ≠ ve.ownBlock
  keep : Keep (fun b => b = lb) w wr
variable {lb rb B : Nat} {w wr : World} {r0 : ReqS} {st : PartS} {wz : List Str} {vc vt ve : Value}
theorem ReqMem.step (h : ReqMem lb rb B w r0 st wz vc vt ve wr) (hb : lb < B) {wr' : World} {wz' : List Str} (hk : Keep (fun b => b = lb) wr wr') (hl : LineAt wr' lb rb wz') : ReqMem lb rb B w r0 st wz' vc vt ve wr' := by
  have hM : ∀ (v : Value) (base e size n : Nat) (xs : List Value), wr.ownsRow (B + 1) e size v n xs → ∀ g cur, v.ownBlock = some g → wr.heap[g]? = some (.cells cur e (0, 0)) → ¬ g = lb := fun v base e size n xs h g cur hg _ e => by
    have := (h.lt g hg).1
    omega
  exact ⟨hl, hk.at' h.res (by omega), ownsRow_keep h.cmps hk (hM _ 0 _ _ _ _ h.cmps), ownsRow_keep h.thn hk (hM _ 0 _ _ _ _ h.thn), ownsRow_keep h.els hk (hM _ 0 _ _ _ _ h.els), h.apart, h.keep.trans' hk⟩
theorem ReqMem.drew (h : ReqMem lb rb B w r0 st wz vc vt ve wr) (hb : lb < B) : ReqMem lb rb B w r0 st wz vc vt ve wr.drew :=
  h.step hb (Keep.refl _ wr).drew (h.line.keep (Keep.refl (fun _ => False) wr).drew (fun e => e) (fun e => e))
theorem ReqMem.alloc (h : ReqMem lb rb B w r0 st wz vc vt ve wr) (hb : lb < B) (o : Obj) : ReqMem lb rb B w r0 st wz vc vt ve (wr.alloc o) :=
  h.step hb ((Keep.refl _ wr).alloc o) (h.line.keep ((Keep.refl (fun _ => False) wr).alloc o) (fun e => e) (fun e => e))
/-- a row that owns its block is not touched by what turns another row -/
theorem row_kept {w w' : World} {base e size n : Nat} {v u : Value} {xs : List Value} (h : w.ownsRow base e size v n xs) (hg : w.grownBy w' u.ownBlock) (hne : v.ownBlock = none ∨ v.ownBlock ≠ u.ownBlock) : w'.ownsRow base e size v n xs := h.kept hg hne
theorem own_type {w : World} {base base' e e' size size' n n' : Nat} {v u : Value} {xs ys : List Value} (h : w.ownsRow base e size v n xs) (h' : w.ownsRow base' e' size' u n' ys) (hne : e ≠ e') : v.ownBlock = none ∨ v.ownBlock ≠ u.ownBlock := by
  rcases h.2 with ⟨rfl, _⟩ | ⟨g, cap, cur, rfl, _, hg, _⟩
  · exact .inl rfl
  · right
    intro e1
    rcases h'.2 with ⟨rfl, _⟩ | ⟨g', cap', cur', rfl, _, hg', _⟩
    · cases e1
    · simp only [Value.ownBlock, Option.some.injEq] at e1
      subst e1
      rw [hg] at hg'
      injection hg' with e2
      injection e2 with e3 e4
      exact hne e4
theorem res_far {base e size n : Nat} {v : Value} {xs : List Value} (h : wr.ownsRow base e size v n xs) (hB : B < base) : ¬ v.ownBlock = some B := fun e => by
  have := (h.lt B e).1
  omega

theorem put_cell {W : World} {B i : Nat} {cs : Array Value} {T : TypeId} (h : W.heap[B]? = some (.cells cs T (0, 0))) (v : Value) {base e size n : Nat} {u : Value} {xs : List Value} (ho : W.ownsRow base e size u n xs) (hB : B < base) : (W.setCell ⟨B, i, none⟩ v).ownsRow base e size u n xs :=
  ownsRow_keep (M := fun b => b = B) ho ((Keep.refl _ W).setCell _ _ (.inr rfl)) (fun g cur hg _ e => by have := (ho.lt g hg).1; omega)

theorem ReqMem.addCmp (h : ReqMem lb rb B w r0 st wz vc vt ve wr) (hb : lb < B) (hw : w.heap.size ≤ B) (hrb : rb < B) (x : CmpS) (hn : st.cmps.length + 1 ≤ 1099511627776) :
    ∃ v' w', (Builtin.append_ #[56, 56] 56 #[vc, .slice (some ⟨wr.heap.size, 0, none⟩) 1 1]).run Tryz.prog (wr.alloc (.cells (cmpCells x) 65 (0, 0))) = .ok v' w' ∧
      w'.cell? ⟨B, 4, none⟩ = some vc ∧ w'.frozen? ⟨B, 4, none⟩ = false ∧ ReqMem lb rb B w r0 { st with cmps := st.cmps ++ [x] } wz v' vt ve (w'.setCell ⟨B, 4, none⟩ v') := by
  have hBs := lt_of_block h.res
  obtain ⟨v', w', hr, h2, h3, h4⟩ := app_cmp wr (B + 1) vc st.cmps x h.cmps hn (by omega)
  have ha := h.alloc hb (.cells (cmpCells x) 65 (0, 0))
  have hkG : Keep (fun b => some b = vc.ownBlock) (wr.alloc (.cells (cmpCells x) 65 (0, 0))) w' := Keep.of_grown h3 (fun k e _ => e.symm)
  have hres : w'.heap[B]? = some (.cells (reqCells r0 vc vt ve) 59 (0, 0)) := hkG.at' ha.res (fun e => res_far ha.cmps (by omega) e.symm)
  refine ⟨v', w', hr, cell_of_block hres 4, free_of_block hres 4, ?_⟩
  have hkL : ∀ b, b ≤ B → ¬ some b = vc.ownBlock := fun b hb e => by have := (ha.cmps.lt b e.symm).1; omega
  have hkS : Keep (fun b => b = B) w' (w'.setCell ⟨B, 4, none⟩ v') := (Keep.refl _ w').setCell _ _ (.inr rfl)
  exact ⟨(ha.line.keep hkG (hkL lb (by omega)) (hkL rb (by omega))).keep hkS (by omega) (by omega), block_setCell hres 4 v', put_cell hres _ h2 (by omega),
    put_cell hres _ (row_kept ha.thn h3 (own_type ha.thn ha.cmps (by decide))) (by omega), put_cell hres _ (row_kept ha.els h3 (own_type ha.els ha.cmps (by decide))) (by omega), h.apart,
    (ha.keep.trans hkG (fun b hb' e => absurd e (hkL b (by omega)))).trans hkS (fun b hb' e => by omega)⟩
theorem ReqMem.addThn (h : ReqMem lb rb B w r0 st wz vc vt ve wr) (hb : lb < B) (hw : w.heap.size ≤ B) (hrb : rb < B) (x : OpS) (hn : st.thn.length + 1 ≤ 1099511627776) :
    ∃ v' w', (Builtin.append_ #[57, 57] 57 #[vt, .slice (some ⟨wr.heap.size, 0, none⟩) 1 1]).run Tryz.prog (wr.alloc (.cells (opCells x) 67 (0, 0))) = .ok v' w' ∧
      w'.cell? ⟨B, 5, none⟩ = some vt ∧ w'.frozen? ⟨B, 5, none⟩ = false ∧ ReqMem lb rb B w r0 { st with part := 1, thn := st.thn ++ [x] } wz vc v' ve (w'.setCell ⟨B, 5, none⟩ v') := by
  have hBs := lt_of_block h.res
  obtain ⟨v', w', hr, h2, h3, h4⟩ := app_op wr (B + 1) vt st.thn x h.thn hn (by omega)
  have ha := h.alloc hb (.cells (opCells x) 67 (0, 0))
  have hkG : Keep (fun b => some b = vt.ownBlock) (wr.alloc (.cells (opCells x) 67 (0, 0))) w' := Keep.of_grown h3 (fun k e _ => e.symm)
  have hres : w'.heap[B]? = some (.cells (reqCells r0 vc vt ve) 59 (0, 0)) := hkG.at' ha.res (fun e => res_far ha.thn (by omega) e.symm)
  refine ⟨v', w', hr, cell_of_block hres 5, free_of_block hres 5, ?_⟩
  have hkL : ∀ b, b ≤ B → ¬ some b = vt.ownBlock := fun b hb e => by have := (ha.thn.lt b e.symm).1; omega
  have hkS : Keep (fun b => b = B) w' (w'.setCell ⟨B, 5, none⟩ v') := (Keep.refl _ w').setCell _ _ (.inr rfl)
  have hap : v'.ownBlock = none ∨ v'.ownBlock ≠ ve.ownBlock := by
    rcases h4 with h4 | h4
    · rw [h4]; exact h.apart
    · right
      rw [h4]
      intro e
      have := (h.els.lt _ e.symm).2
      omega
  have hne : ve.ownBlock = none ∨ ve.ownBlock ≠ vt.ownBlock := by
    rcases h.apart with h5 | h5
    · rcases he : ve.ownBlock with _ | g
      · exact .inl rfl
      · right; rw [h5]; simp
    · exact .inr (fun e => h5 e.symm)
  exact ⟨(ha.line.keep hkG (hkL lb (by omega)) (hkL rb (by omega))).keep hkS (by omega) (by omega), block_setCell hres 5 v', put_cell hres _ (row_kept ha.cmps h3 (own_type ha.cmps ha.thn (by decide))) (by omega),
    put_cell hres _ h2 (by omega), put_cell hres _ (row_kept ha.els h3 hne) (by omega), hap,
    (ha.keep.trans hkG (fun b hb' e => absurd e (hkL b (by omega)))).trans hkS (fun b hb' e => by omega)⟩
theorem ReqMem.addEls (h : ReqMem lb rb B w r0 st wz vc vt ve wr) (hb : lb < B) (hw : w.heap.size ≤ B) (hrb : rb < B) (x : OpS) (hn : st.els.length + 1 ≤ 1099511627776) :
    ∃ v' w', (Builtin.append_ #[57, 57] 57 #[ve, .slice (some ⟨wr.heap.size, 0, none⟩) 1 1]).run Tryz.prog (wr.alloc (.cells (opCells x) 67 (0, 0))) = .ok v' w' ∧
      w'.cell? ⟨B, 6, none⟩ = some ve ∧ w'.frozen? ⟨B, 6, none⟩ = false ∧ ReqMem lb rb B w r0 { st with part := 2, els := st.els ++ [x] } wz vc vt v' (w'.setCell ⟨B, 6, none⟩ v') := by
  have hBs := lt_of_block h.res
  obtain ⟨v', w', hr, h2, h3, h4⟩ := app_op wr (B + 1) ve st.els x h.els hn (by omega)
  have ha := h.alloc hb (.cells (opCells x) 67 (0, 0))
  have hkG : Keep (fun b => some b = ve.ownBlock) (wr.alloc (.cells (opCells x) 67 (0, 0))) w' := Keep.of_grown h3 (fun k e _ => e.symm)
  have hres : w'.heap[B]? = some (.cells (reqCells r0 vc vt ve) 59 (0, 0)) := hkG.at' ha.res (fun e => res_far ha.els (by omega) e.symm)
  refine ⟨v', w', hr, cell_of_block hres 6, free_of_block hres 6, ?_⟩
  have hkL : ∀ b, b ≤ B → ¬ some b = ve.ownBlock := fun b hb e => by have := (ha.els.lt b e.symm).1; omega
  have hkS : Keep (fun b => b = B) w' (w'.setCell ⟨B, 6, none⟩ v') := (Keep.refl _ w').setCell _ _ (.inr rfl)
  have hap : vt.ownBlock = none ∨ vt.ownBlock ≠ v'.ownBlock := by
    rcases h4 with h4 | h4
    · rw [h4]; exact h.apart
    · rcases hv : vt.ownBlock with _ | g
      · exact .inl rfl
      · right
        rw [h4]
        intro e
        have := (h.thn.lt g hv).2
        injection e with e
        omega
  exact ⟨(ha.line.keep hkG (hkL lb (by omega)) (hkL rb (by omega))).keep hkS (by omega) (by omega), block_setCell hres 6 v', put_cell hres _ (row_kept ha.cmps h3 (own_type ha.cmps ha.els (by decide))) (by omega),
    put_cell hres _ (row_kept ha.thn h3 h.apart) (by omega), put_cell hres _ h2 (by omega), hap,
    (ha.keep.trans hkG (fun b hb' e => absurd e (hkL b (by omega)))).trans hkS (fun b hb' e => by omega)⟩
theorem wp_append_run {o : Oper} {a : Act} {K : Act → World → Prop} {Q : Exit → Act → World → Prop} {w w' : World} {v' : Value} (s x : Operand) (t : TypeId)
    (ho : o.op = .call { callee := .builtin .append, args := #[s, x], argTypes := #[t, t] }) (ht : o.type = t)
    (hr : (Builtin.append_ #[t, t] t #[a.eval s, a.eval x]).run Tryz.prog w = .ok v' w') (h : K (a.put o.dst v') w') : o.wp Tryz.prog a w K Q := by
  unfold Oper.wp execOp
  simp only [ho, ht, resolve, invoke, builtin, Sem.run_bind, Sem.run_pure, Result.andThen_ok, List.map_toArray, List.map_cons, List.map_nil, hr]
  exact h
theorem wp_bs_run {o : Oper} {a : Act} {K : Act → World → Prop} {Q : Exit → Act → World → Prop} {w w' : World} {v' : Value} (x : Operand) (t : TypeId)
    (ho : o.op = .buildSlice t 1 #[(0, x)]) (hr : (Instr.buildSlice t 1 #[(0, a.eval x)]).run Tryz.prog w = .ok v' w') (h : K (a.put o.dst v') w') : o.wp Tryz.prog a w K Q := by
  unfold Oper.wp execOp
  simp only [ho, Sem.run_bind, Sem.run_pure, Result.andThen_ok, List.map_toArray, List.map_cons, List.map_nil, hr]
  exact h
theorem run_bs57 (x : OpS) (w : World) : (Instr.buildSlice 57 1 #[(0, .agg (opCells x))]).run Tryz.prog w = .ok (.slice (some ⟨w.heap.size, 0, none⟩) 1 1) (w.alloc (.cells (opCells x) 67 (0, 0))) := by
  unfold opCells
  go_simp
  try rfl
theorem run_bs56 (x : CmpS) (w : World) : (Instr.buildSlice 56 1 #[(0, .agg (cmpCells x))]).run Tryz.prog w = .ok (.slice (some ⟨w.heap.size, 0, none⟩) 1 1) (w.alloc (.cells (cmpCells x) 65 (0, 0))) := by
  unfold cmpCells
  go_simp
  try rfl
end Go.Proofs.YtifliekahdgobaaGreatDoor
