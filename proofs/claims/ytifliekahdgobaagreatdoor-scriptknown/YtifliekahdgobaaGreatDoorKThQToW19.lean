/-
  PLAIN: texts: what is printed of a script that may be is parsed as that script; what is parsed may be. Helpers of the claims.
  PLAIN: blanks, remarks and empty lines change nothing (printed by wip/tools/gen_thx.py). Helpers of the claims.
  THE WALKS, 8: requests, a request's head. Helpers of the claims.
  WHAT STANDS IN MEMORY while a request is read. Helpers of the claims.
  THE WALKS, 18: hex, marked. Helpers of the claims.
  THE WALKS, 19: words that are joined. Helpers of the claims.
-/
import Derived.Lib.Replace
import Derived.Deep.RegionHeld3
import Derived.Deep.AppendLies
import Derived.Test.YtifliekahdgobaaGreatDoorKW7ToThP
import Derived.Test.YtifliekahdgobaaGreatDoorKSpecToThT
set_option linter.unusedSimpArgs false
set_option linter.unusedVariables false
namespace Go.Proofs.YtifliekahdgobaaGreatDoor
open Sp

theorem splitNL_ne : ∀ s : Str, splitNL s ≠ []
  | [] => by simp [splitNL]
  | c :: s => by
    unfold splitNL
    split
    · simp
    · split <;> simp
theorem splitNL_line : ∀ (l r : Str), (∀ c ∈ l, c ≠ 10) → splitNL (l ++ 10 :: r) = l :: splitNL r
  | [], r, _ => by simp [splitNL]
  | c :: l, r, h => by
    have hc : c ≠ 10 := h c List.mem_cons_self
    rw [List.cons_append, splitNL, if_neg hc, splitNL_line l r (fun d hd => h d (List.mem_cons_of_mem _ hd))]
theorem splitNL_one : ∀ (l : Str), (∀ c ∈ l, c ≠ 10) → splitNL l = [l]
  | [], _ => rfl
  | c :: l, h => by
    have hc : c ≠ 10 := h c List.mem_cons_self
    rw [splitNL, if_neg hc, splitNL_one l (fun d hd => h d (List.mem_cons_of_mem _ hd))]
theorem nodesLine_eq (n : Int) : nodesLine n = join [wNodes, itoa n] ++ [10] := by
  unfold nodesLine
  simp [join]
theorem good_nodes (n : Int) : goodWs [wNodes, itoa n] = true := by
  unfold goodWs
  simp only [List.all_cons, List.all_nil, good_itoa, Bool.and_true]
  decide
theorem okStep_req {s : StepS} (h : okStep s = true) : s.kind = 7 → 0 ≤ s.req.kind ∧ s.req.kind ≤ 3 := by
  intro h7
  obtain ⟨_, _, hb⟩ := (okStep_iff s).1 h
  unfold okBody at hb
  rw [if_neg (by omega), if_neg (by omega), if_pos h7] at hb
  simp only [Bool.and_eq_true] at hb
  exact ((okReq_iff _).1 hb.1.2).1
theorem good_stepWords {s : StepS} (h : okStep s = true) : goodWs (stepWords s) = true := by
  obtain ⟨hk, _, _⟩ := (okStep_iff s).1 h
  exact good_step s hk.1 hk.2 (okStep_req h)
theorem name_nodes : ∀ k, k < 12 → names.getD k [] ≠ wNodes := by decide
theorem line_nodes (n : Int) (h0 : 1 ≤ n) (h1 : n ≤ 7) : line ⟨0, []⟩ [wNodes, itoa n] = .ok ⟨n, []⟩ := by
  unfold line
  dsimp only
  rw [if_pos rfl]
  have h2 : pnodes [itoa n] = some n := by
    unfold pnodes
    rw [pnum_itoa (by omega) h1 (by unfold most; omega), Option.bind_some, if_pos ⟨by dsimp only; omega, rfl⟩]
  rw [h2]
  rfl
theorem line_step (s : ScriptS) (x : StepS) (h : okStep x = true) (hn : 0 < s.nodes) (hl : s.steps.length < 4096) : line s (stepWords x) = .ok { s with steps := s.steps ++ [x] } := by
  obtain ⟨hk, _, _⟩ := (okStep_iff x).1 h
  unfold line stepWords
  dsimp only
  rw [if_neg (name_nodes _ (by omega)), name_back _ (by omega)]
  dsimp only
  rw [pstep_words x h]
  dsimp only
  rw [if_neg (by omega), if_neg (by omega)]
theorem parseGo_steps : ∀ (l : List StepS) (s : ScriptS) (no : Nat) (r : List Str), l.all okStep = true → 0 < s.nodes → s.steps.length + l.length ≤ 4096 →
    parseGo s no (l.map stepText ++ r) = parseGo { s with steps := s.steps ++ l } (no + l.length) r
  | [], s, no, r, _, _, _ => by simp
  | x :: l, s, no, r, h, hn, hl => by
    rw [List.all_cons, Bool.and_eq_true] at h
    rw [List.length_cons] at hl
    rw [List.map_cons, List.cons_append, parseGo]
    rw [show stepText x = join (stepWords x) from rfl, words_join _ (good_stepWords h.1), line_step s x h.1 hn (by omega)]
    dsimp only
    rw [parseGo_steps l { s with steps := s.steps ++ [x] } (no + 1) r h.2 hn (by simp; omega)]
    simp only [List.append_assoc, List.singleton_append, List.length_cons]
    rw [show no + 1 + l.length = no + (l.length + 1) by omega]
theorem splitNL_steps : ∀ (l : List StepS) (r : Str), l.all okStep = true → splitNL (l.flatMap stepLine ++ r) = l.map stepText ++ splitNL r
  | [], r, _ => by simp
  | x :: l, r, h => by
    rw [List.all_cons, Bool.and_eq_true] at h
    rw [List.flatMap_cons, List.append_assoc, List.map_cons, List.cons_append]
    rw [show stepLine x = stepText x ++ [10] from rfl, List.append_assoc, List.singleton_append, splitNL_line _ _ (show ∀ c ∈ stepText x, c ≠ 10 from join_nl _ (good_stepWords h.1)), splitNL_steps l r h.2]
theorem okScript_iff (s : ScriptS) : okScript s = true ↔ (1 ≤ s.nodes ∧ s.nodes ≤ 7) ∧ s.steps.length ≤ 4096 ∧ s.steps.all okStep = true := by
  unfold okScript
  simp only [Bool.and_eq_true, decide_eq_true_eq, and_assoc]
theorem words_nodes (n : Int) : words (join [wNodes, itoa n]) = [wNodes, itoa n] := words_join _ (good_nodes n)
/-- P34.3: a valid script is parsed from what is printed of it -/
theorem parse_text (s : ScriptS) (h : okScript s = true) : parse (text s) = .ok s := by
  obtain ⟨hn, hl, hs⟩ := (okScript_iff s).1 h
  unfold parse text
  rw [nodesLine_eq, List.append_assoc, List.singleton_append, splitNL_line _ _ (join_nl _ (good_nodes _))]
  have h1 := splitNL_steps s.steps [] hs
  rw [List.append_nil] at h1
  rw [h1, parseGo, words_nodes, line_nodes _ hn.1 hn.2]
  dsimp only
  rw [parseGo_steps s.steps ⟨s.nodes, []⟩ 1 _ hs (by dsimp only; omega) (by simpa using hl)]
  rw [splitNL, parseGo]
  have hw : words [] = [] := rfl
  rw [hw]
  unfold line
  dsimp only
  unfold parseGo
  rw [if_neg (by dsimp only; omega)]
  simp
/-- one step's line behind a nodes line -/
theorem parse_one (x : StepS) (h : okStep x = true) : parse (nodesLine 1 ++ stepText x) = .ok ⟨1, [x]⟩ := by
  unfold parse
  rw [nodesLine_eq, List.append_assoc, List.singleton_append, splitNL_line _ _ (join_nl _ (good_nodes _)), splitNL_one _ (show ∀ c ∈ stepText x, c ≠ 10 from join_nl _ (good_stepWords h)), parseGo, words_nodes, line_nodes _ (by omega) (by omega)]
  dsimp only
  have := parseGo_steps [x] ⟨1, []⟩ 1 [] (by simp [h]) (by decide) (by simp)
  simp only [List.map_cons, List.map_nil, List.append_nil, List.nil_append] at this
  rw [this]
  rfl

/-! ### what is parsed may be -/
def okSoFar (s : ScriptS) : Prop := (s.nodes = 0 ∨ (1 ≤ s.nodes ∧ s.nodes ≤ 7)) ∧ s.steps.length ≤ 4096 ∧ s.steps.all okStep = true
theorem pnodes_ok {ws : List Str} {n : Int} (h : pnodes ws = some n) : 1 ≤ n ∧ n ≤ 7 := by
  unfold pnodes at h
  obtain ⟨a, h1, h⟩ := bind_some_iff h
  split at h
  · rename_i hc
    simp only [Option.some.injEq] at h
    have := pnum_ok (show pnum 7 ws = some (a.1, a.2) from h1)
    omega
  · cases h
theorem line_ok {s s' : ScriptS} {ws : List Str} (h : line s ws = .ok s') (ho : okSoFar s) : okSoFar s' := by
  cases ws with
  | nil =>
    simp only [line, Except.ok.injEq] at h
    subst h; exact ho
  | cons w ws =>
    unfold line at h
    dsimp only at h
    split at h
    · split at h
      · rename_i n hn
        split at h
        · simp only [Except.ok.injEq] at h
          subst h
          exact ⟨.inr (pnodes_ok hn), ho.2⟩
        · cases h
      · cases h
    · split at h
      · cases h
      · rename_i k hk
        split at h
        · cases h
        · rename_i x hx
          split at h
          · cases h
          · split at h
            · cases h
            · simp only [Except.ok.injEq] at h
              subst h
              refine ⟨ho.1, by simp; omega, ?_⟩
              simp only [List.all_append, ho.2.2, List.all_cons, List.all_nil, (pstep_ok (kindOf_lt hk) hx).1]
              rfl
theorem parseGo_ok : ∀ (ts : List Str) (s s' : ScriptS) (no : Nat), parseGo s no ts = .ok s' → okSoFar s → okScript s' = true
  | [], s, s', no, h, ho => by
    unfold parseGo at h
    split at h
    · cases h
    · rename_i hn
      simp only [Except.ok.injEq] at h
      subst h
      exact (okScript_iff _).2 ⟨by rcases ho.1 with h | h; exact absurd h hn; exact h, ho.2⟩
  | t :: ts, s, s', no, h, ho => by
    unfold parseGo at h
    split at h
    · rename_i s1 h1
      exact parseGo_ok ts s1 s' _ h (line_ok h1 ho)
    · cases h
theorem parse_ok {t : Str} {s : ScriptS} (h : parse t = .ok s) : okScript s = true := parseGo_ok _ _ _ _ h ⟨.inl rfl, by simp, rfl⟩
end Go.Proofs.YtifliekahdgobaaGreatDoor
namespace Go.Proofs.YtifliekahdgobaaGreatDoor
open Sp

/-! ### the words of a text's lines say it all -/
def goW (s : ScriptS) : List (List Str) → Option ScriptS
  | [] => if s.nodes = 0 then none else some s
  | ws :: r => match line s ws with
    | .ok s' => goW s' r
    | .error _ => none
theorem parseGo_goW : ∀ (ls : List Str) (s r : ScriptS) (no : Nat), goW s (ls.map words) = some r → parseGo s no ls = .ok r
  | [], s, r, no, h => by
    simp only [List.map_nil, goW] at h
    simp only [parseGo]
    split at h
    · cases h
    · rename_i h0
      rw [if_neg h0]
      injection h with h
      rw [h]
  | t :: ls, s, r, no, h => by
    simp only [List.map_cons, goW] at h
    simp only [parseGo]
    split at h
    · rename_i s' hs
      rw [hs]
      exact parseGo_goW ls s' r _ h
    · cases h
theorem parse_goW {t : Str} {r : ScriptS} (h : goW ⟨0, []⟩ ((splitNL t).map words) = some r) : parse t = .ok r := parseGo_goW _ _ _ _ h
theorem goW_nil (s : ScriptS) (r : List (List Str)) : goW s ([] :: r) = goW s r := rfl
theorem splitNL_append : ∀ (p r : Str), splitNL (p ++ 10 :: r) = splitNL p ++ splitNL r
  | [], r => by simp [splitNL]
  | c :: p, r => by
    have ih := splitNL_append p r
    simp only [List.cons_append, splitNL]
    by_cases hc : c = 10
    · rw [if_pos hc, if_pos hc, ih]; rfl
    · rw [if_neg hc, if_neg hc, ih]
      rcases hp : splitNL p with _ | ⟨x, y⟩
      · exact absurd hp (splitNL_ne p)
      · rfl
/-- what a line that is a step's says -/
def lineStep : List Str → Option StepS
  | [] => none
  | w :: ws => if w = wNodes then none else (kindOf names w).bind fun k => pstep k ws
theorem line_lineStep {s : ScriptS} {ws : List Str} {x : StepS} (h : lineStep ws = some x) (hn : 0 < s.nodes) (hl : s.steps.length < 4096) : line s ws = .ok { s with steps := s.steps ++ [x] } := by
  cases ws with
  | nil => cases h
  | cons w ws =>
    simp only [lineStep] at h
    split at h
    · cases h
    · rename_i hw
      simp only [line]
      rw [if_neg hw]
      rcases hk : kindOf names w with _ | k
      · rw [hk] at h; cases h
      · rw [hk] at h
        simp only [Option.bind_some] at h
        dsimp only
        rw [h]
        dsimp only
        rw [if_neg (by omega), if_neg (by omega)]

/-! ### the statement's lines, gaps and ends -/
def lines18 : List Str := [[100, 101, 108, 105, 118, 101, 114, 32, 48], [100, 114, 111, 112, 32, 57, 57, 57, 57, 57, 57, 57, 57, 57, 57, 57, 57, 57, 57, 57, 57, 57, 57], [116, 119, 105, 99, 101, 32, 55], [116, 105, 99, 107, 32, 48, 32, 49], [99, 104, 117, 110, 107, 32, 57, 32, 51], [99, 114, 97, 115, 104, 32, 49, 32, 48], [119, 97, 107, 101, 32, 50, 32, 55, 55], [99, 97, 110, 99, 101, 108, 32, 48, 32, 53], [116, 97, 107, 101, 32, 48, 32, 49], [100, 101, 102, 114, 97, 103, 32, 52], [119, 97, 116, 99, 104, 32, 48, 32, 49, 32, 54, 49, 32, 54, 50, 32, 51, 32, 112, 110, 100, 103], [119, 97, 116, 99, 104, 32, 48, 32, 48, 32, 45, 32, 45, 32, 48, 32, 45], [119, 97, 116, 99, 104, 32, 49, 32, 50, 32, 48, 48, 32, 45, 32, 48, 32, 100, 103], [97, 115, 107, 32, 48, 32, 115, 116, 97, 116, 117, 115, 32, 48, 32, 48, 32, 115, 32, 48], [97, 115, 107, 32, 48, 32, 104, 97, 115, 104, 32, 48, 32, 48, 32, 45, 32, 57], [97, 115, 107, 32, 48, 32, 99, 111, 109, 112, 97, 99, 116, 32, 49, 32, 50, 32, 45, 32, 53], [97, 115, 107, 32, 48, 32, 116, 120, 110, 32, 49, 32, 49, 32, 45, 32, 48], [97, 115, 107, 32, 48, 32, 116, 120, 110, 32, 49, 32, 49, 32, 115, 32, 48, 32, 105, 102, 32, 48, 32, 57, 32, 53, 32, 54, 49, 32, 45, 32, 105, 102, 32, 51, 32, 49, 32, 48, 32, 45, 32, 54, 50, 32, 116, 104, 101, 110, 32, 114, 97, 110, 103, 101, 32, 54, 49, 32, 48, 48, 32, 55, 32, 50, 32, 99, 107, 32, 116, 104, 101, 110, 32, 100, 101, 108, 32, 54, 49, 32, 45, 32, 112, 32, 101, 108, 115, 101, 32, 112, 117, 116, 32, 54, 49, 32, 45, 32, 45]]
def gaps5 : List Str := [[32], [32, 32], [9], [32, 9, 32], [32, 32, 32]]
def ends4 : List Str := [[10], [32, 35, 32, 120, 10], [10, 10], [9, 10, 35, 32, 121, 10]]
def lineAt (i : Nat) : Str := lines18.getD i []
def gapAt (i : Nat) : Str := gaps5.getD i []
def endAt (i : Nat) : Str := ends4.getD i []
def stepAt (i : Nat) : StepS := (lineStep (words (lineAt i))).getD .zero
/-- a line, turned -/
def turned (i g e : Nat) : Str := Lib.replaceAll (lineAt i) [32] (gapAt g) ++ endAt e
def noNL (s : Str) : Bool := s.all (· != 10)
def pieceOk (i g e : Nat) : Bool :=
  (turned i g e).getLast? == some 10 && (((splitNL (turned i g e).dropLast).map words == [words (lineAt i)]) || ((splitNL (turned i g e).dropLast).map words == [words (lineAt i), []]))
def lineOk (i : Nat) : Bool := noNL (lineAt i) && decide (lineStep (words (lineAt i)) = some (stepAt i)) && decide ((lineAt i).length ≤ 200)
theorem lines_ok : ((List.range 18).all lineOk) = true := by kernel_rfl
theorem pieces_ok : ((List.range 18).all fun i => (List.range 5).all fun g => (List.range 4).all fun e => pieceOk i g e && decide ((turned i g e).length ≤ 1000)) = true := by kernel_rfl
theorem all_range {n : Nat} {p : Nat → Bool} (h : (List.range n).all p = true) {i : Nat} (hi : i < n) : p i = true := List.all_eq_true.1 h i (List.mem_range.2 hi)
theorem line_ok18 {i : Nat} (h : i < 18) : (∀ c ∈ lineAt i, c ≠ 10) ∧ lineStep (words (lineAt i)) = some (stepAt i) ∧ (lineAt i).length ≤ 200 := by
  have := all_range lines_ok h
  unfold lineOk noNL at this
  simp only [Bool.and_eq_true, decide_eq_true_eq, List.all_eq_true] at this
  exact ⟨fun c hc e => (by
    have h2 := this.1.1 c hc
    rw [e] at h2
    cases h2), this.1.2, this.2⟩
theorem piece_ok {i g e : Nat} (hi : i < 18) (hg : g < 5) (he : e < 4) : (∃ p, turned i g e = p ++ [10] ∧ ((splitNL p).map words = [words (lineAt i)] ∨ (splitNL p).map words = [words (lineAt i), []])) ∧ (turned i g e).length ≤ 1000 := by
  have h := all_range (all_range (all_range pieces_ok hi) hg) he
  unfold pieceOk at h
  simp only [Bool.and_eq_true, Bool.or_eq_true, decide_eq_true_eq, beq_iff_eq] at h
  obtain ⟨⟨h1, h2⟩, h3⟩ := h
  refine ⟨⟨(turned i g e).dropLast, ?_, h2⟩, h3⟩
  obtain ⟨ys, hys⟩ := List.getLast?_eq_some_iff.1 h1
  rw [hys]
  simp

/-! ### the two texts -/
def gO (b : Option UInt8) : Nat := match b with
  | none => 0
  | some b => b.toNat % 5
def eO (b : Option UInt8) : Nat := match b with
  | none => 0
  | some b => b.toNat / 5 % 4
def idx (l : List UInt8) (i : Nat) : Nat := (l.getD i 0).toNat % 18
def headOne : Str := [110, 111, 100, 101, 115, 32, 52, 10]
def headTwo : Str := [35, 32, 122, 10, 32, 110, 111, 100, 101, 115, 9, 52, 10]
def oneText (l : List UInt8) (k : Nat) : Str := headOne ++ (List.range k).flatMap fun i => lineAt (idx l i) ++ [10]
def twoText (l bt : List UInt8) (k : Nat) : Str := headTwo ++ (List.range k).flatMap fun i => turned (idx l i) (gO bt[i]?) (eO bt[i]?)
def stepsOf (l : List UInt8) (k : Nat) : List StepS := (List.range k).map fun i => stepAt (idx l i)
theorem oneText_step (l : List UInt8) (k : Nat) : oneText l (k + 1) = oneText l k ++ lineAt (idx l k) ++ [10] := by
  unfold oneText
  rw [List.range_succ, List.flatMap_append]
  simp
theorem twoText_step (l bt : List UInt8) (k : Nat) : twoText l bt (k + 1) = twoText l bt k ++ turned (idx l k) (gO bt[k]?) (eO bt[k]?) := by
  unfold twoText
  rw [List.range_succ, List.flatMap_append]
  simp
theorem idx_lt (l : List UInt8) (i : Nat) : idx l i < 18 := Nat.mod_lt _ (by decide)
theorem gO_lt (b : Option UInt8) : gO b < 5 := by
  unfold gO
  split
  · decide
  · exact Nat.mod_lt _ (by decide)
theorem eO_lt (b : Option UInt8) : eO b < 4 := by
  unfold eO
  split
  · decide
  · exact Nat.mod_lt _ (by decide)
theorem oneText_len (l : List UInt8) : ∀ k, (oneText l k).length ≤ 100 + k * 201
  | 0 => by simp [oneText, headOne]
  | k + 1 => by
    have := oneText_len l k
    have := (line_ok18 (idx_lt l k)).2.2
    rw [oneText_step]
    simp only [List.length_append, List.length_cons, List.length_nil]
    omega
theorem twoText_len (l bt : List UInt8) : ∀ k, (twoText l bt k).length ≤ 100 + k * 1001
  | 0 => by simp [twoText, headTwo]
  | k + 1 => by
    have := twoText_len l bt k
    have := (piece_ok (idx_lt l k) (gO_lt bt[k]?) (eO_lt bt[k]?)).2
    rw [twoText_step]
    simp only [List.length_append]
    omega
/-- the steps come one by one -/
theorem goW_list : ∀ (P : List (Nat × List (List Str))) (s : ScriptS) (r : List (List Str)), (∀ p ∈ P, p.1 < 18 ∧ (p.2 = [words (lineAt p.1)] ∨ p.2 = [words (lineAt p.1), []])) → 0 < s.nodes → s.steps.length + P.length ≤ 4096 →
    goW s (P.flatMap (·.2) ++ r) = goW { s with steps := s.steps ++ P.map fun p => stepAt p.1 } r
  | [], s, r, _, _, _ => by simp
  | p :: P, s, r, h, hn, hl => by
    obtain ⟨h1, h2⟩ := h p (.head _)
    simp only [List.length_cons] at hl
    have hs := line_lineStep (s := s) (line_ok18 h1).2.1 hn (by omega)
    have ih := goW_list P { s with steps := s.steps ++ [stepAt p.1] } r (fun q hq => h q (.tail _ hq)) hn (by simp; omega)
    have hm : s.steps ++ (p :: P).map (fun p => stepAt p.1) = (s.steps ++ [stepAt p.1]) ++ P.map fun p => stepAt p.1 := by simp
    rw [hm, ← ih]
    rcases h2 with h2 | h2
    · rw [List.flatMap_cons, h2]
      simp only [List.cons_append, List.nil_append, goW]
      rw [hs]
    · rw [List.flatMap_cons, h2]
      simp only [List.cons_append, List.nil_append]
      rw [goW, hs]
      exact goW_nil _ _
theorem split_pieces : ∀ (P : List (Str × List (List Str))) (r : Str), (∀ p ∈ P, ∃ q, p.1 = q ++ [10] ∧ (splitNL q).map words = p.2) → (splitNL (P.flatMap (·.1) ++ r)).map words = P.flatMap (·.2) ++ (splitNL r).map words
  | [], r, _ => by simp
  | p :: P, r, h => by
    obtain ⟨q, h1, h2⟩ := h p (.head _)
    have ih := split_pieces P r (fun x hx => h x (.tail _ hx))
    rw [List.flatMap_cons, List.flatMap_cons, h1, show q ++ [10] ++ List.flatMap (·.1) P ++ r = q ++ 10 :: (List.flatMap (·.1) P ++ r) by simp, splitNL_append, List.map_append, h2, ih, List.append_assoc]
theorem nodes4 : line ⟨0, []⟩ [[110, 111, 100, 101, 115], [52]] = .ok ⟨4, []⟩ := by kernel_rfl
theorem headOne_words (r : Str) : (splitNL (headOne ++ r)).map words = [[110, 111, 100, 101, 115], [52]] :: (splitNL r).map words := by
  have h := splitNL_append [110, 111, 100, 101, 115, 32, 52] r
  rw [show headOne ++ r = [110, 111, 100, 101, 115, 32, 52] ++ 10 :: r by simp [headOne], h, List.map_append]
  rw [show (splitNL [110, 111, 100, 101, 115, 32, 52]).map words = [[[110, 111, 100, 101, 115], [52]]] by kernel_rfl]
  rfl
theorem headTwo_words (r : Str) : (splitNL (headTwo ++ r)).map words = [] :: [[110, 111, 100, 101, 115], [52]] :: (splitNL r).map words := by
  have h := splitNL_append [35, 32, 122, 10, 32, 110, 111, 100, 101, 115, 9, 52] r
  rw [show headTwo ++ r = [35, 32, 122, 10, 32, 110, 111, 100, 101, 115, 9, 52] ++ 10 :: r by simp [headTwo], h, List.map_append]
  rw [show (splitNL [35, 32, 122, 10, 32, 110, 111, 100, 101, 115, 9, 52]).map words = [[], [[110, 111, 100, 101, 115], [52]]] by kernel_rfl]
  rfl
theorem blank_one (l : List UInt8) (k : Nat) (hk : k ≤ 40) : parse (oneText l k) = .ok ⟨4, stepsOf l k⟩ := by
  apply parse_goW
  unfold oneText
  rw [headOne_words]
  have hp := split_pieces ((List.range k).map fun i => (lineAt (idx l i) ++ [10], [words (lineAt (idx l i))])) [] (fun p hp => by
    obtain ⟨i, -, rfl⟩ := List.mem_map.1 hp
    exact ⟨lineAt (idx l i), rfl, by rw [splitNL_none _ (line_ok18 (idx_lt l i)).1]; rfl⟩)
  rw [List.flatMap_map, List.flatMap_map, List.append_nil] at hp
  rw [hp, goW, nodes4]
  dsimp only
  have hg := goW_list ((List.range k).map fun i => (idx l i, [words (lineAt (idx l i))])) ⟨4, []⟩ ((splitNL []).map words) (fun p hp => by
    obtain ⟨i, -, rfl⟩ := List.mem_map.1 hp
    exact ⟨idx_lt l i, .inl rfl⟩) (by decide) (by simp; omega)
  rw [List.flatMap_map] at hg
  rw [hg, List.map_map]
  rfl
theorem blank_two (l bt : List UInt8) (k : Nat) (hk : k ≤ 40) : parse (twoText l bt k) = .ok ⟨4, stepsOf l k⟩ := by
  apply parse_goW
  unfold twoText
  rw [headTwo_words, goW_nil]
  have hp := split_pieces ((List.range k).map fun i => (turned (idx l i) (gO bt[i]?) (eO bt[i]?), (splitNL (turned (idx l i) (gO bt[i]?) (eO bt[i]?)).dropLast).map words)) [] (fun p hp => by
    obtain ⟨i, -, rfl⟩ := List.mem_map.1 hp
    obtain ⟨⟨q, h1, -⟩, -⟩ := piece_ok (idx_lt l i) (gO_lt bt[i]?) (eO_lt bt[i]?)
    exact ⟨q, h1, by dsimp only; rw [h1]; simp⟩)
  rw [List.flatMap_map, List.flatMap_map, List.append_nil] at hp
  rw [hp, goW, nodes4]
  dsimp only
  have hg := goW_list ((List.range k).map fun i => (idx l i, (splitNL (turned (idx l i) (gO bt[i]?) (eO bt[i]?)).dropLast).map words)) ⟨4, []⟩ ((splitNL []).map words) (fun p hp => by
    obtain ⟨i, -, rfl⟩ := List.mem_map.1 hp
    obtain ⟨⟨q, h1, h2⟩, -⟩ := piece_ok (idx_lt l i) (gO_lt bt[i]?) (eO_lt bt[i]?)
    refine ⟨idx_lt l i, ?_⟩
    dsimp only
    rw [h1]
    simpa using h2) (by decide) (by simp; omega)
  rw [List.flatMap_map] at hg
  rw [hg, List.map_map]
  rfl
theorem stepsOf_len (l : List UInt8) (k : Nat) : (stepsOf l k).length = k := by unfold stepsOf; simp
end Go.Proofs.YtifliekahdgobaaGreatDoor
namespace Go.Proofs.YtifliekahdgobaaGreatDoor
open Go.RowKit Sp

def idxOf (l : List Str) (x : Str) : Int := match kindOf l x with | some k => k | none => -1
theorem idx_from (x : Str) : ∀ (l : List Str) (i : Nat), Lib.idxFromS (l.map fun y => (⟨y.toArray⟩ : ByteArray)) ⟨x.toArray⟩ i = match kindOf l x with | some k => ((i + k : Nat) : Int) | none => -1
  | [], i => rfl
  | y :: l, i => by
    rw [List.map_cons, Lib.idxFromS]
    unfold kindOf
    rw [List.findIdx?_cons]
    by_cases h : y = x
    · subst h; simp
    · have h1 : ¬ ((⟨y.toArray⟩ : ByteArray) = ⟨x.toArray⟩) := fun e => h (by injection e with e; simpa using e)
      rw [if_neg h1, idx_from x l (i + 1)]
      have h2 : (y == x) = false := by simpa using h
      unfold kindOf
      rw [h2]
      rcases hf : l.findIdx? (· == x) with _ | k
      · rfl
      · show ((i + 1 + k : Nat) : Int) = ((i + (k + 1) : Nat) : Int)
        congr 1
        omega
theorem idx_eq (l : List Str) (x : Str) : Lib.idxOfS (l.map fun y => (⟨y.toArray⟩ : ByteArray)) ⟨x.toArray⟩ = idxOf l x := by
  unfold Lib.idxOfS idxOf
  rw [idx_from x l 0]
  rcases kindOf l x with _ | k <;> simp
/-- slices.Index over a row of words -/
theorem index_at (b : Nat) (l : List Str) (T : TypeId) (f : Nat × Nat) (c : Nat) (x : Str) (w : World) (hl : l.length ≤ 4294967296) (hb : w.heap[b]? = some (.cells (l.map fun y => sv y).toArray T f)) :
    Calls Tryz.prog 108 #[.slice (some ⟨b, 0, none⟩) l.length c, sv x] w fun e w' => e = .returned (.int .i64 (idxOf l x)) ∧ w = w' := by
  refine (Tryz.slices_Index_string b 0 l.length c (l.map fun y => (⟨y.toArray⟩ : ByteArray)) ⟨x.toArray⟩ w (by simp) (by omega) ?_).mono ?_
  · intro j hj
    simp only [List.length_map] at hj
    simp [World.cell?, hb, hj, List.getD]
  · intro e w' h
    rw [show ((l.map fun y => (⟨y.toArray⟩ : ByteArray)).take l.length) = l.map fun y => (⟨y.toArray⟩ : ByteArray) by rw [List.take_of_length_le (by simp)], idx_eq] at h
    exact ⟨h.1, h.2.symm⟩
theorem kinds_walk (w : World) : Calls Tryz.prog 109 #[] w fun e w' => e = .returned (.slice (some ⟨w.heap.size, 0, none⟩) 4 4) ∧ w' = w.alloc (.cells (kinds.map fun y => sv y).toArray 9 (0, 0)) := by
  go_enter Tryz.func109, Tryz.ntmps109
  go_wp2_with fail
  go_ret
  exact ⟨rfl, rfl⟩
end Go.Proofs.YtifliekahdgobaaGreatDoor
namespace Go.Proofs.YtifliekahdgobaaGreatDoor
open Go.RowKit Sp

/-- the state at the head of req's loop: wz is what is left of the line; st what was read; B the result's block -/
structure ReqMem (lb rb B : Nat) (w : World) (r0 : ReqS) (st : PartS) (wz : List Str) (vc vt ve : Value) (wr : World) : Prop where
  line : LineAt wr lb rb wz
  res : wr.heap[B]? = some (.cells (reqCells r0 vc vt ve) 59 (0, 0))
  cmps : CmpsAt wr (B + 1) vc st.cmps
  thn : OpsAt wr (B + 1) vt st.thn
  els : OpsAt wr (B + 1) ve st.els
  apart : vt.ownBlock = none ∨ vt.ownBlock ≠ ve.ownBlock
  keep : Keep (fun b => b = lb) w wr
variable {lb rb B : Nat} {w wr : World} {r0 : ReqS} {st : PartS} {wz : List Str} {vc vt ve : Value}
theorem ReqMem.step (h : ReqMem lb rb B w r0 st wz vc vt ve wr) (hb : lb < B) {wr' : World} {wz' : List Str} (hk : Keep (fun b => b = lb) wr wr') (hl : LineAt wr' lb rb wz') : ReqMem lb rb B w r0 st wz' vc vt ve wr' := by
  have hM : ∀ (v : Value) (base e size n : Nat) (xs : List Value), wr.ownsRow (B + 1) e size v n xs → ∀ g cur, v.ownBlock = some g → wr.heap[g]? = some (.cells cur e (0, 0)) → ¬ g = lb := fun v base e size n xs h g cur hg _ e => by
    have := (h.lt g hg).1
    omega
  exact ⟨hl, hk.at' h.res (by omega), ownsRow_keep h.cmps hk (hM _ 0 _ _ _ _ h.cmps), ownsRow_keep h.thn hk (hM _ 0 _ _ _ _ h.thn), ownsRow_keep h.els hk (hM _ 0 _ _ _ _ h.els), h.apart, h.keep.trans' hk⟩
theorem ReqMem.drew (h : ReqMem lb rb B w r0 st wz vc vt ve wr) (hb : lb < B) : ReqMem lb rb B w r0 st wz vc vt ve wr.drew :=
  h.step hb (Keep.refl _ wr).drew (h.line.keep (Keep.refl (fun _ => False) wr).drew (fun e => e) (fun e => e))
theorem ReqMem.alloc (h : ReqMem lb rb B w r0 st wz vc vt ve wr) (hb : lb < B) (o : Obj) : ReqMem lb rb B w r0 st wz vc vt ve (wr.alloc o) :=
  h.step hb ((Keep.refl _ wr).alloc o) (h.line.keep ((Keep.refl (fun _ => False) wr).alloc o) (fun e => e) (fun e => e))
/-- a row that owns its block is not touched by what turns another row -/
theorem row_kept {w w' : World} {base e size n : Nat} {v u : Value} {xs : List Value} (h : w.ownsRow base e size v n xs) (hg : w.grownBy w' u.ownBlock) (hne : v.ownBlock = none ∨ v.ownBlock ≠ u.ownBlock) : w'.ownsRow base e size v n xs := h.kept hg hne
theorem own_type {w : World} {base base' e e' size size' n n' : Nat} {v u : Value} {xs ys : List Value} (h : w.ownsRow base e size v n xs) (h' : w.ownsRow base' e' size' u n' ys) (hne : e ≠ e') : v.ownBlock = none ∨ v.ownBlock ≠ u.ownBlock := by
  rcases h.2 with ⟨rfl, _⟩ | ⟨g, cap, cur, rfl, _, hg, _⟩
  · exact .inl rfl
  · right
    intro e1
    rcases h'.2 with ⟨rfl, _⟩ | ⟨g', cap', cur', rfl, _, hg', _⟩
    · cases e1
    · simp only [Value.ownBlock, Option.some.injEq] at e1
      subst e1
      rw [hg] at hg'
      injection hg' with e2
      injection e2 with e3 e4
      exact hne e4
theorem res_far {base e size n : Nat} {v : Value} {xs : List Value} (h : wr.ownsRow base e size v n xs) (hB : B < base) : ¬ v.ownBlock = some B := fun e => by
  have := (h.lt B e).1
  omega

theorem put_cell {W : World} {B i : Nat} {cs : Array Value} {T : TypeId} (h : W.heap[B]? = some (.cells cs T (0, 0))) (v : Value) {base e size n : Nat} {u : Value} {xs : List Value} (ho : W.ownsRow base e size u n xs) (hB : B < base) : (W.setCell ⟨B, i, none⟩ v).ownsRow base e size u n xs :=
  ownsRow_keep (M := fun b => b = B) ho ((Keep.refl _ W).setCell _ _ (.inr rfl)) (fun g cur hg _ e => by have := (ho.lt g hg).1; omega)

theorem ReqMem.addCmp (h : ReqMem lb rb B w r0 st wz vc vt ve wr) (hb : lb < B) (hw : w.heap.size ≤ B) (hrb : rb < B) (x : CmpS) (hn : st.cmps.length + 1 ≤ 1099511627776) :
    ∃ v' w', (Builtin.append_ #[56, 56] 56 #[vc, .slice (some ⟨wr.heap.size, 0, none⟩) 1 1]).run Tryz.prog (wr.alloc (.cells (cmpCells x) 65 (0, 0))) = .ok v' w' ∧
      w'.cell? ⟨B, 4, none⟩ = some vc ∧ w'.frozen? ⟨B, 4, none⟩ = false ∧ ReqMem lb rb B w r0 { st with cmps := st.cmps ++ [x] } wz v' vt ve (w'.setCell ⟨B, 4, none⟩ v') := by
  have hBs := lt_of_block h.res
  obtain ⟨v', w', hr, h2, h3, h4⟩ := app_cmp wr (B + 1) vc st.cmps x h.cmps hn (by omega)
  have ha := h.alloc hb (.cells (cmpCells x) 65 (0, 0))
  have hkG : Keep (fun b => some b = vc.ownBlock) (wr.alloc (.cells (cmpCells x) 65 (0, 0))) w' := Keep.of_grown h3 (fun k e _ => e.symm)
  have hres : w'.heap[B]? = some (.cells (reqCells r0 vc vt ve) 59 (0, 0)) := hkG.at' ha.res (fun e => res_far ha.cmps (by omega) e.symm)
  refine ⟨v', w', hr, cell_of_block hres 4, free_of_block hres 4, ?_⟩
  have hkL : ∀ b, b ≤ B → ¬ some b = vc.ownBlock := fun b hb e => by have := (ha.cmps.lt b e.symm).1; omega
  have hkS : Keep (fun b => b = B) w' (w'.setCell ⟨B, 4, none⟩ v') := (Keep.refl _ w').setCell _ _ (.inr rfl)
  exact ⟨(ha.line.keep hkG (hkL lb (by omega)) (hkL rb (by omega))).keep hkS (by omega) (by omega), block_setCell hres 4 v', put_cell hres _ h2 (by omega),
    put_cell hres _ (row_kept ha.thn h3 (own_type ha.thn ha.cmps (by decide))) (by omega), put_cell hres _ (row_kept ha.els h3 (own_type ha.els ha.cmps (by decide))) (by omega), h.apart,
    (ha.keep.trans hkG (fun b hb' e => absurd e (hkL b (by omega)))).trans hkS (fun b hb' e => by omega)⟩
theorem ReqMem.addThn (h : ReqMem lb rb B w r0 st wz vc vt ve wr) (hb : lb < B) (hw : w.heap.size ≤ B) (hrb : rb < B) (x : OpS) (hn : st.thn.length + 1 ≤ 1099511627776) :
    ∃ v' w', (Builtin.append_ #[57, 57] 57 #[vt, .slice (some ⟨wr.heap.size, 0, none⟩) 1 1]).run Tryz.prog (wr.alloc (.cells (opCells x) 67 (0, 0))) = .ok v' w' ∧
      w'.cell? ⟨B, 5, none⟩ = some vt ∧ w'.frozen? ⟨B, 5, none⟩ = false ∧ ReqMem lb rb B w r0 { st with part := 1, thn := st.thn ++ [x] } wz vc v' ve (w'.setCell ⟨B, 5, none⟩ v') := by
  have hBs := lt_of_block h.res
  obtain ⟨v', w', hr, h2, h3, h4⟩ := app_op wr (B + 1) vt st.thn x h.thn hn (by omega)
  have ha := h.alloc hb (.cells (opCells x) 67 (0, 0))
  have hkG : Keep (fun b => some b = vt.ownBlock) (wr.alloc (.cells (opCells x) 67 (0, 0))) w' := Keep.of_grown h3 (fun k e _ => e.symm)
  have hres : w'.heap[B]? = some (.cells (reqCells r0 vc vt ve) 59 (0, 0)) := hkG.at' ha.res (fun e => res_far ha.thn (by omega) e.symm)
  refine ⟨v', w', hr, cell_of_block hres 5, free_of_block hres 5, ?_⟩
  have hkL : ∀ b, b ≤ B → ¬ some b = vt.ownBlock := fun b hb e => by have := (ha.thn.lt b e.symm).1; omega
  have hkS : Keep (fun b => b = B) w' (w'.setCell ⟨B, 5, none⟩ v') := (Keep.refl _ w').setCell _ _ (.inr rfl)
  have hap : v'.ownBlock = none ∨ v'.ownBlock ≠ ve.ownBlock := by
    rcases h4 with h4 | h4
    · rw [h4]; exact h.apart
    · right
      rw [h4]
      intro e
      have := (h.els.lt _ e.symm).2
      omega
  have hne : ve.ownBlock = none ∨ ve.ownBlock ≠ vt.ownBlock := by
    rcases h.apart with h5 | h5
    · rcases he : ve.ownBlock with _ | g
      · exact .inl rfl
      · right; rw [h5]; simp
    · exact .inr (fun e => h5 e.symm)
  exact ⟨(ha.line.keep hkG (hkL lb (by omega)) (hkL rb (by omega))).keep hkS (by omega) (by omega), block_setCell hres 5 v', put_cell hres _ (row_kept ha.cmps h3 (own_type ha.cmps ha.thn (by decide))) (by omega),
    put_cell hres _ h2 (by omega), put_cell hres _ (row_kept ha.els h3 hne) (by omega), hap,
    (ha.keep.trans hkG (fun b hb' e => absurd e (hkL b (by omega)))).trans hkS (fun b hb' e => by omega)⟩
theorem ReqMem.addEls (h : ReqMem lb rb B w r0 st wz vc vt ve wr) (hb : lb < B) (hw : w.heap.size ≤ B) (hrb : rb < B) (x : OpS) (hn : st.els.length + 1 ≤ 1099511627776) :
    ∃ v' w', (Builtin.append_ #[57, 57] 57 #[ve, .slice (some ⟨wr.heap.size, 0, none⟩) 1 1]).run Tryz.prog (wr.alloc (.cells (opCells x) 67 (0, 0))) = .ok v' w' ∧
      w'.cell? ⟨B, 6, none⟩ = some ve ∧ w'.frozen? ⟨B, 6, none⟩ = false ∧ ReqMem lb rb B w r0 { st with part := 2, els := st.els ++ [x] } wz vc vt v' (w'.setCell ⟨B, 6, none⟩ v') := by
  have hBs := lt_of_block h.res
  obtain ⟨v', w', hr, h2, h3, h4⟩ := app_op wr (B + 1) ve st.els x h.els hn (by omega)
  have ha := h.alloc hb (.cells (opCells x) 67 (0, 0))
  have hkG : Keep (fun b => some b = ve.ownBlock) (wr.alloc (.cells (opCells x) 67 (0, 0))) w' := Keep.of_grown h3 (fun k e _ => e.symm)
  have hres : w'.heap[B]? = some (.cells (reqCells r0 vc vt ve) 59 (0, 0)) := hkG.at' ha.res (fun e => res_far ha.els (by omega) e.symm)
  refine ⟨v', w', hr, cell_of_block hres 6, free_of_block hres 6, ?_⟩
  have hkL : ∀ b, b ≤ B → ¬ some b = ve.ownBlock := fun b hb e => by have := (ha.els.lt b e.symm).1; omega
  have hkS : Keep (fun b => b = B) w' (w'.setCell ⟨B, 6, none⟩ v') := (Keep.refl _ w').setCell _ _ (.inr rfl)
  have hap : vt.ownBlock = none ∨ vt.ownBlock ≠ v'.ownBlock := by
    rcases h4 with h4 | h4
    · rw [h4]; exact h.apart
    · rcases hv : vt.ownBlock with _ | g
      · exact .inl rfl
      · right
        rw [h4]
        intro e
        have := (h.thn.lt g hv).2
        injection e with e
        omega
  exact ⟨(ha.line.keep hkG (hkL lb (by omega)) (hkL rb (by omega))).keep hkS (by omega) (by omega), block_setCell hres 6 v', put_cell hres _ (row_kept ha.cmps h3 (own_type ha.cmps ha.els (by decide))) (by omega),
    put_cell hres _ (row_kept ha.thn h3 h.apart) (by omega), put_cell hres _ h2 (by omega), hap,
    (ha.keep.trans hkG (fun b hb' e => absurd e (hkL b (by omega)))).trans hkS (fun b hb' e => by omega)⟩
theorem wp_append_run {o : Oper} {a : Act} {K : Act → World → Prop} {Q : Exit → Act → World → Prop} {w w' : World} {v' : Value} (s x : Operand) (t : TypeId)
    (ho : o.op = .call { callee := .builtin .append, args := #[s, x], argTypes := #[t, t] }) (ht : o.type = t)
    (hr : (Builtin.append_ #[t, t] t #[a.eval s, a.eval x]).run Tryz.prog w = .ok v' w') (h : K (a.put o.dst v') w') : o.wp Tryz.prog a w K Q := by
  unfold Oper.wp execOp
  simp only [ho, ht, resolve, invoke, builtin, Sem.run_bind, Sem.run_pure, Result.andThen_ok, List.map_toArray, List.map_cons, List.map_nil, hr]
  exact h
theorem wp_bs_run {o : Oper} {a : Act} {K : Act → World → Prop} {Q : Exit → Act → World → Prop} {w w' : World} {v' : Value} (x : Operand) (t : TypeId)
    (ho : o.op = .buildSlice t 1 #[(0, x)]) (hr : (Instr.buildSlice t 1 #[(0, a.eval x)]).run Tryz.prog w = .ok v' w') (h : K (a.put o.dst v') w') : o.wp Tryz.prog a w K Q := by
  unfold Oper.wp execOp
  simp only [ho, Sem.run_bind, Sem.run_pure, Result.andThen_ok, List.map_toArray, List.map_cons, List.map_nil, hr]
  exact h
theorem run_bs57 (x : OpS) (w : World) : (Instr.buildSlice 57 1 #[(0, .agg (opCells x))]).run Tryz.prog w = .ok (.slice (some ⟨w.heap.size, 0, none⟩) 1 1) (w.alloc (.cells (opCells x) 67 (0, 0))) := by
  unfold opCells
  go_simp
  try rfl
theorem run_bs56 (x : CmpS) (w : World) : (Instr.buildSlice 56 1 #[(0, .agg (cmpCells x))]).run Tryz.prog w = .ok (.slice (some ⟨w.heap.size, 0, none⟩) 1 1) (w.alloc (.cells (cmpCells x) 65 (0, 0))) := by
  unfold cmpCells
  go_simp
  try rfl
end Go.Proofs.YtifliekahdgobaaGreatDoor
namespace Go.Proofs.YtifliekahdgobaaGreatDoor
open Go.RowKit Sp

theorem step_append_run {ops : Array Oper} {o : Oper} {a : Act} {K : Act → World → Prop} {Q : Exit → Act → World → Prop} {E : Prop} {w w' : World} {v' : Value} (hgd : o.guard = none) (s x : Operand) (t : TypeId)
    (ho : o.op = .call { callee := .builtin .append, args := #[s, x], argTypes := #[t, t] }) (ht : o.type = t)
    (hr : (Builtin.append_ #[t, t] t #[a.eval s, a.eval x]).run Tryz.prog w = .ok v' w') (h : K (a.put o.dst v') w') : if Region.wanted o (yielded ops a.tmps) = true then Oper.wp Tryz.prog o a w K Q else E := by
  have hw : Region.wanted o (yielded ops a.tmps) = true := by simp [Region.wanted, hgd]
  rw [if_pos hw]
  exact wp_append_run s x t ho ht hr h
def hex2 (c : UInt8) : Str := [hx (c.toNat / 16), hx (c.toNat % 16)]
theorem hex2_len : ∀ x : Str, (x.flatMap hex2).length = 2 * x.length
  | [] => rfl
  | c :: r => by rw [List.flatMap_cons, List.length_append, hex2_len r]; simp [hex2]; omega
theorem Tryz.info5b : (Tryz.prog.info? 5).map (fun i => (i.zero, i.size, i.bytes)) = some (some (.int .u8 0), 1, 1) := by kernel_rfl
theorem idx_hex (a : Nat) (h : a < 16) (w : World) : (Instr.index 9 (.string ⟨#[48, 49, 50, 51, 52, 53, 54, 55, 56, 57, 97, 98, 99, 100, 101, 102]⟩) (.int .u8 (a : Int))).run Tryz.prog w = .ok (.int .u8 ((hx a).toNat : Int)) w := by
  rcases (by omega : a = 0 ∨ a = 1 ∨ a = 2 ∨ a = 3 ∨ a = 4 ∨ a = 5 ∨ a = 6 ∨ a = 7 ∨ a = 8 ∨ a = 9 ∨ a = 10 ∨ a = 11 ∨ a = 12 ∨ a = 13 ∨ a = 14 ∨ a = 15) with rfl | rfl | rfl | rfl | rfl | rfl | rfl | rfl | rfl | rfl | rfl | rfl | rfl | rfl | rfl | rfl
  all_goals kernel_rfl
theorem and15 (c : UInt8) : bits BinOp.and IntKind.u8 (c.toNat : Int) 15 = ((c.toNat % 16 : Nat) : Int) := by
  have := all_u8 (fun c => bits BinOp.and IntKind.u8 (c.toNat : Int) 15 == ((c.toNat % 16 : Nat) : Int)) (by decide +kernel) c
  simpa using this
set_option maxRecDepth 100000 in
theorem hex_some (x : Str) (hxl : x.length ≤ 1000000) (hne : (x == []) = false) (w : World) : Calls Tryz.prog 106 #[sv x] w (Gives (sv (hexText x)) w) := by
  obtain ⟨i5, hi, hz0, hz1, hz2⟩ := info_parts Tryz.info5b
  have kc := fun w => Lib.run_convert_string_bytes (P := Tryz.prog) w 9 47 5 ⟨x.toArray⟩ Tryz.underlying9 Tryz.underlying47 Tryz.underlying5
  obtain ⟨n, hn⟩ : ∃ n : Nat, n = 2 * x.length := ⟨_, rfl⟩
  have hq : (2 : Int) * (x.length : Int) = (n : Int) := by omega
  have hn2 : n ≤ 2000000 := by omega
  have HN := Lib.hid hn
  clear hn
  go_enter Tryz.func106, Tryz.ntmps106
  go_wp2_with (at_make; refine wpList_make_own _ rfl _ _ 47 rfl w.heap.size 5 i5 (.int .u8 0) 1 Tryz.underlying47 hi hz0 hz1 _ _ _ n rfl rfl (by omega) ?b2 ?b3 (Nat.le_refl _) ?_)
  case b2 => rw [hz2]; omega
  case b3 => unfold maxLen; omega
  intro w1 hown hgr
  go_wp2_with fail
  have hkW : Keep (fun _ => False) w1 (Lib.bytesWorld w1 5 ⟨x.toArray⟩) := Keep.of_below (Lib.bytesWorld_below _ _ _) (Nat.le_refl _)
  have hcW := fun j hj => Lib.bytesWorld_cell w1 5 ⟨x.toArray⟩ j hj
  have hgW := Lib.bytesWorld_size w1 5 ⟨x.toArray⟩
  have hownW := ownsRow_keep hown hkW (fun _ _ _ _ e => e)
  have hk1 : Keep (fun _ => False) w w1 := Keep.of_grown hgr (fun k e => by cases e)
  have hlt1 := (hown.lt w.heap.size rfl).2
  generalize hWd : Lib.bytesWorld w1 5 ⟨x.toArray⟩ = W at *
  clear hWd kc hown hgr
  go_loopw [3, 15] (fun v3 v15 wr => ∃ k : Nat, k ≤ x.length ∧ v15 = .int .i64 k ∧ v3 = .slice (some ⟨w.heap.size, 0, none⟩) (2 * k) n ∧ wr.ownsRow w.heap.size 5 1 (.slice (some ⟨w.heap.size, 0, none⟩) (2 * k) n) (2 * k) (Lib.byteCells ((x.take k).flatMap hex2)) ∧ Keep (fun b => b = w.heap.size) W wr) (fun _ v15 _ => x.length - (intOf v15).toNat)
  case atStart => exact ⟨0, Nat.zero_le _, rfl, rfl, hownW, Keep.refl _ _⟩
  case round =>
    obtain ⟨k, hk, rfl, rfl, hown, hkr⟩ := hrel
    have HCW := Lib.hid hcW
    clear hcW hownW
    by_cases hlt : k < x.length
    · obtain ⟨c, hc⟩ : ∃ c, x[k] = c := ⟨_, rfl⟩
      have hcc : wr.cell? ⟨w1.heap.size, k, none⟩ = some (.int .u8 c.toNat) := by
        rw [hkr.cell (show w1.heap.size < W.heap.size by omega) (show ¬ w1.heap.size = w.heap.size by omega), HCW.out k (by show k < x.toArray.size; simp; omega)]
        simp [hlt, hc]
      have hlt' : (k : Int) < (x.length : Int) := by omega
      have HC := Lib.hid hc
      have HO := Lib.hid hown
      clear hc hown
      have hcb : (c.toNat : Int) < 256 := by have := c.toNat_lt; omega
      obtain ⟨a, ha⟩ : ∃ a, a = c.toNat / 16 := ⟨_, rfl⟩
      obtain ⟨b, hb⟩ : ∃ b, b = c.toNat % 16 := ⟨_, rfl⟩
      have h1 : (c.toNat : Int) / 16 = (a : Int) := by omega
      have h2 : bits BinOp.and IntKind.u8 (c.toNat : Int) 15 = (b : Int) := by rw [and15, hb]
      have ia := idx_hex a (by omega)
      have ib := idx_hex b (by omega)
      have HA := Lib.hid ha
      have HB := Lib.hid hb
      clear ha hb
      obtain ⟨w4, hr4, ho4, hg4⟩ := run_append_fits (P := Tryz.prog) (wr.drew.alloc (.cells #[.int .u8 ((hx a).toNat : Int), .int .u8 ((hx b).toNat : Int)] 5 (0, 0))) w.heap.size 47 47 5 i5 1 Tryz.underlying47 hi hz1 w.heap.size (2 * k) n _ ((show wr.drew.ownsRow _ _ _ _ _ _ from HO.out).alloc _) ⟨wr.drew.heap.size, 0, none⟩ 2 2 [.int .u8 ((hx a).toNat : Int), .int .u8 ((hx b).toNat : Int)] rfl (World.news_of_block (block_new _ _)) (by intro u hu; simp at hu; rcases hu with rfl | rfl <;> rfl) (by have := HN.out; omega)
      go_wp2_with fail
      go_region_held3 (fun _ => True) (trivial) (first | (refine step_append_run rfl (.tmp 19) (.tmp 26) 47 rfl rfl hr4 ?_))
      all_goals
        go_wp2_with fail
        go_roundw
        case rel =>
          have ht : x.take (k + 1) = x.take k ++ [c] := by rw [List.take_succ_eq_append_getElem hlt, HC.out]
          refine ⟨k + 1, by omega, by go_num, rfl, ?_, ?_⟩
          · rw [ht, List.flatMap_append]
            show w4.ownsRow _ _ _ _ _ (Lib.byteCells (_ ++ (hex2 c ++ [])))
            rw [List.append_nil, Lib.byteCells_append]
            unfold hex2
            rw [← HA.out, ← HB.out]
            exact ho4
          · exact (hkr.drew.alloc _).trans (Keep.of_grown (M := fun b => b = w.heap.size) hg4 (fun k e _ => (Option.some.inj e).symm)) (fun b hb e => e)
        case measure => simp [intOf]; omega
    · have hge : ¬ (k : Int) < (x.length : Int) := by omega
      obtain rfl : k = x.length := by omega
      rw [List.take_length] at hown
      have hln := hex2_len x
      have hconv := conv_bytes w.heap.size n (x.flatMap hex2) wr (by rw [hln]; exact hown)
      rw [hln] at hconv
      clear hown
      go_wp2_with fail
      go_ret
      refine ⟨?_, (hk1.trans' hkW).trans hkr (fun b hb e => by omega)⟩
      unfold hexText
      rw [if_neg (by simpa using hne)]
      rfl
theorem hex_nil (w : World) : Calls Tryz.prog 106 #[sv []] w (Gives (sv (hexText [])) w) := by
  go_enter Tryz.func106, Tryz.ntmps106
  go_wp2_with fail
  go_ret
  exact ⟨rfl, Keep.refl _ _⟩
theorem hex_any (x : Str) (hxl : x.length ≤ 1000000) (w : World) : Calls Tryz.prog 106 #[sv x] w (Gives (sv (hexText x)) w) := by
  by_cases h : x = []
  · subst h; exact hex_nil w
  · exact hex_some x hxl (by simpa using h) w

/-! ### marked -/
theorem ba_append (x y : Str) : (⟨x.toArray⟩ : ByteArray) ++ ⟨y.toArray⟩ = ⟨(x ++ y).toArray⟩ := by
  apply ByteArray.ext
  simp
theorem ba_one (x : Str) (i : Nat) (h : i < x.length) : (⟨x.toArray⟩ : ByteArray).extract i (i + 1) = ⟨[x[i]].toArray⟩ := by
  apply ByteArray.ext
  simp only [ByteArray.data_extract]
  apply Array.ext'
  simp [List.take_one, List.head?_drop, h, List.getElem?_eq_getElem]
theorem markGo_append : ∀ (a : Str) (b : List Bool) (c : Str) (d : List Bool), a.length = b.length → markGo (a ++ c) (b ++ d) = markGo a b ++ markGo c d
  | [], [], c, d, _ => rfl
  | [], _ :: _, _, _, h => by simp at h
  | _ :: _, [], _, _, h => by simp at h
  | l :: a, x :: b, c, d, h => by
    have ih := markGo_append a b c d (by simpa using h)
    rw [List.cons_append, List.cons_append]
    simp only [markGo]
    rw [ih]
    cases x <;> simp
theorem markGo_take : ∀ (ls : Str) (is : List Bool), markGo (ls.take is.length) is = markGo ls is
  | [], [] => rfl
  | [], _ :: _ => rfl
  | _ :: _, [] => rfl
  | l :: ls, b :: is => by
    simp only [List.length_cons, List.take_succ_cons, markGo]
    rw [markGo_take ls is]
theorem markGo_step {ls : Str} {is : List Bool} {k : Nat} (hk : k < is.length) (hl : is.length ≤ ls.length) : markGo (ls.take (k + 1)) (is.take (k + 1)) = markGo (ls.take k) (is.take k) ++ (if is[k] then [ls[k]'(by omega)] else []) := by
  rw [List.take_succ_eq_append_getElem (by omega), List.take_succ_eq_append_getElem hk, markGo_append _ _ _ _ (by simp; omega)]
  simp only [markGo]
theorem markGo_len : ∀ (a : Str) (b : List Bool), (markGo a b).length ≤ a.length
  | [], b => by simp [markGo]
  | _ :: _, [] => by simp [markGo]
  | l :: a, x :: b => by
    have := markGo_len a b
    simp only [markGo]
    cases x <;> simp <;> omega
set_option maxRecDepth 100000 in
theorem marked_any (ls : Str) (is : List Bool) (b c : Nat) (hl : is.length ≤ ls.length) (hs : ls.length ≤ 4) (w : World) (hc : ∀ i, i < is.length → w.cell? ⟨b, i, none⟩ = some (.bool (is.getD i false))) :
    Calls Tryz.prog 107 #[sv ls, .slice (some ⟨b, 0, none⟩) is.length c] w (Gives (sv (markText ls is)) w) := by
  have HC := Lib.hid hc
  clear hc
  go_enter Tryz.func107, Tryz.ntmps107
  go_wp2_with fail
  go_loop [5, 6, 7, 10] (fun v5 v6 v7 v10 => ∃ k : Nat, k ≤ is.length ∧ v10 = .int .i64 k ∧ v5 = sv (markGo (ls.take k) (is.take k))) (fun _ _ _ v10 => is.length - (intOf v10).toNat)
  case atStart => exact ⟨0, Nat.zero_le _, rfl, rfl⟩
  case round =>
    obtain ⟨k, hk, rfl, rfl⟩ := hrel
    by_cases hlt : k < is.length
    · have hlt' : (k : Int) < (is.length : Int) := by omega
      have hkl : (k : Int) + 1 ≤ (ls.length : Int) := by omega
      have hcc := HC.out k hlt
      have hst := markGo_step hlt hl
      have hd : is.getD k false = is[k] := by simp [List.getD, hlt]
      rw [hd] at hcc
      generalize is[k] = x at hcc hst
      have HST := Lib.hid hst
      have hml := markGo_len (ls.take k) (is.take k)
      have hml2 : (markGo (ls.take k) (is.take k)).length ≤ 4 := by have := List.length_take_le k ls; omega
      clear hml
      generalize hmg : markGo (ls.take k) (is.take k) = m at *
      have hex := ba_one ls k (by omega)
      have HEX := Lib.hid hex
      clear hst hd hmg hex
      cases x
      · go_wp2_with fail
        exact ⟨⟨k + 1, by omega, by go_num, by rw [HST.out]; simp⟩, by simp [intOf]; omega⟩
      · go_wp2_with fail
        refine ⟨⟨k + 1, by omega, by go_num, ?_⟩, by simp [intOf]; omega⟩
        rw [HST.out, HEX.out, ba_append]
        rfl
    · obtain rfl : k = is.length := by omega
      rw [List.take_length, markGo_take]
      have hge : ¬ (is.length : Int) < (is.length : Int) := by omega
      have fin : sv (markText ls is) = if markGo ls is = [] then sv [45] else sv (markGo ls is) := by
        unfold markText
        split <;> rfl
      clear hk hlt
      generalize markGo ls is = m at *
      have FIN := Lib.hid fin
      clear fin
      by_cases hm : m = []
      · subst hm
        go_wp2_with fail
        go_ret
        exact ⟨(congrArg Ending.returned (FIN.out.trans (by simp))).symm, Keep.refl _ _⟩
      · have hm' : (m == []) = false := by simpa using hm
        have HM := Lib.hid hm
        clear hm
        go_wp2_with fail
        go_ret
        exact ⟨(congrArg Ending.returned (FIN.out.trans (if_neg HM.out))).symm, Keep.refl _ _⟩
end Go.Proofs.YtifliekahdgobaaGreatDoor
namespace Go.Proofs.YtifliekahdgobaaGreatDoor
open Go.RowKit Sp

/-- an operation whose numbers are of their kinds, of modest bytes -/
structure MidOp (x : OpS) : Prop where
  key : x.key.length ≤ 1000000
  fin : x.fin.length ≤ 1000000
  val : x.val.length ≤ 1000000
  rev0 : 0 ≤ x.rev
  rev1 : x.rev < 18446744073709551616
  lim0 : -9223372036854775808 ≤ x.limit
  lim1 : x.limit ≤ 9223372036854775807
theorem join_lib (ws : List Str) : Lib.join ws [32] = join ws := by
  unfold Lib.join
  induction ws with
  | nil => rfl
  | cons x r ih =>
    cases r with
    | nil => simp [join, List.intercalate]
    | cons y r =>
      rw [join, ← ih, List.intercalate_cons_cons]
      simp
theorem join_len : ∀ (ws : List Str) (m : Nat), (∀ x ∈ ws, x.length ≤ m) → (join ws).length ≤ ws.length * (m + 1)
  | [], _, _ => by simp [join]
  | [x], m, h => by
    have := h x List.mem_cons_self
    simp [join]; omega
  | x :: y :: r, m, h => by
    have h1 := h x List.mem_cons_self
    have h2 := join_len (y :: r) m (fun z hz => h z (List.mem_cons_of_mem _ hz))
    rw [join, List.length_append, List.length_cons, List.length_cons]
    rw [Nat.succ_mul]
    simp only [List.length_cons] at h2 ⊢
    omega
/-- strings.Join of words that lie in a block -/
theorem join_at (b T : Nat) (ws : List Str) (c : Nat) (w : World) (hb : w.heap[b]? = some (.cells (ws.map fun y => sv y).toArray T (0, 0))) (hc : ws.length ≤ c) (hn : ws.length ≤ 1000) (hm : ∀ x ∈ ws, x.length ≤ 100000000) :
    Calls Tryz.prog 20 #[.slice (some ⟨b, 0, none⟩) ws.length c, sv [32]] w (Gives (sv (join ws)) w) := by
  have hl := join_len ws 100000000 hm
  have h := Tryz.strings_Join b 0 c (ws.map fun y => (⟨y.toArray⟩ : ByteArray)) ⟨#[32]⟩ w (by
    intro j x hx
    rw [cell_of_block hb]
    simp only [List.getElem?_map, Option.map_eq_some_iff] at hx
    obtain ⟨y, hy, rfl⟩ := hx
    simp [hy]) (lt_of_block hb) (by simp; omega) (by simpa using hc) (by
    simp only [List.map_map]
    have : (ws.map ((fun x : ByteArray => x.data.toList) ∘ fun y => (⟨y.toArray⟩ : ByteArray))) = ws := by
      rw [List.map_congr_left (g := id) (fun _ _ => by simp)]; simp
    rw [this, join_lib]
    have : ws.length * (100000000 + 1) ≤ 1000 * (100000000 + 1) := Nat.mul_le_mul_right _ hn
    omega)
  simp only [List.length_map, List.map_map] at h
  have : (ws.map ((fun x : ByteArray => x.data.toList) ∘ fun y => (⟨y.toArray⟩ : ByteArray))) = ws := by
    rw [List.map_congr_left (g := id) (fun _ _ => by simp)]; simp
  rw [this] at h
  refine h.mono ?_
  rintro e w' ⟨rfl, hb'⟩
  rw [join_lib]
  exact ⟨rfl, Keep.of_below hb' (Nat.le_refl _)⟩
theorem hexText_len (s : Str) : (hexText s).length ≤ 2 * s.length + 1 := by
  unfold hexText
  split
  · simp
  · rw [flat_len]; omega
theorem itoa_len (n : Int) : (itoa n).length ≤ 100 := by
  unfold itoa dig
  have h1 : ∀ f n, (digGo f n).length ≤ f + 1 := by
    intro f
    induction f with
    | zero => intro n; simp [digGo]
    | succ f ih =>
      intro n
      unfold digGo
      split
      · simp
      · have := ih (n / 10)
        simp; omega
  split
  · have := h1 20 n.natAbs; simp; omega
  · have := h1 20 n.toNat; omega
theorem markText_len (ls : Str) (is : List Bool) : (markText ls is).length ≤ ls.length + 1 := by
  unfold markText
  split
  · simp
  · have := markGo_len ls is; omega
theorem marked_blk (ls : Str) (is : List Bool) (b c T : Nat) (hl : is.length ≤ ls.length) (hs : ls.length ≤ 4) (w : World) (hb : w.heap[b]? = some (.cells (is.map fun x => Value.bool x).toArray T (0, 0))) :
    Calls Tryz.prog 107 #[sv ls, .slice (some ⟨b, 0, none⟩) is.length c] w (Gives (sv (markText ls is)) w) :=
  marked_any ls is b c hl hs w (fun i hi => by rw [cell_of_block hb]; simp [hi, List.getD])
theorem mem_le {ws : List Str} {m : Nat} (h : ws.all (fun x => decide (x.length ≤ m)) = true) : ∀ x ∈ ws, x.length ≤ m := fun x hx => of_decide_eq_true (List.all_eq_true.1 h x hx)
theorem hexText_le {s : Str} (h : s.length ≤ 1000000) : (hexText s).length ≤ 100000000 := by have := hexText_len s; omega
theorem itoa_le (n : Int) : (itoa n).length ≤ 100000000 := by have := itoa_len n; omega
theorem markText_le {ls : Str} (h : ls.length ≤ 4) (is : List Bool) : (markText ls is).length ≤ 100000000 := by have := markText_len ls is; omega
theorem held_call {W w1 w2 : World} {R : Prop} (h : Keep (fun _ => False) W w1 ∧ R) (hk : Keep (fun _ => False) w1 w2) : Keep (fun _ => False) W w2 := h.1.trans' hk
theorem held_alloc {W w1 : World} {R : Prop} (h : Keep (fun _ => False) W w1 ∧ R) (o : Obj) : Keep (fun _ => False) W (w1.alloc o) := h.1.alloc o
/-- every one of a list -/
def AllIn (p : Str → Prop) : List Str → Prop
  | [] => True
  | x :: r => p x ∧ AllIn p r
theorem mem_all {p : Str → Prop} : ∀ {l : List Str}, AllIn p l → ∀ y ∈ l, p y
  | [], _, y, hy => by cases hy
  | x :: r, h, y, hy => by
    rcases List.mem_cons.1 hy with rfl | hy
    · exact h.1
    · exact mem_all h.2 y hy
end Go.Proofs.YtifliekahdgobaaGreatDoor
