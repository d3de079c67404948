/-
  PLAIN: texts: what is printed of a script that may be is parsed as that script; what is parsed may be. Helpers of the claims.
  THE WALKS, 27: the map of names; a step's text in its parts. Helpers of the claims.
  STRINGS ADDED: the operation under a word of its own. Helpers of the claims.
-/
import Derived.Test.YtifliekahdgobaaGreatDoorJW18ToW19
import Derived.Test.YtifliekahdgobaaGreatDoorJW12ToScr
import Derived.Test.YtifliekahdgobaaGreatDoorJW15ToW24
set_option linter.unusedSimpArgs false
set_option linter.unusedVariables false
namespace Go.Proofs.YtifliekahdgobaaGreatDoor
open Sp

theorem splitNL_ne : ∀ s : Str, splitNL s ≠ []
  | [] => by simp [splitNL]
  | c :: s => by
    unfold splitNL
    split
    · simp
    · split <;> simp
theorem splitNL_line : ∀ (l r : Str), (∀ c ∈ l, c ≠ 10) → splitNL (l ++ 10 :: r) = l :: splitNL r
  | [], r, _ => by simp [splitNL]
  | c :: l, r, h => by
    have hc : c ≠ 10 := h c List.mem_cons_self
    rw [List.cons_append, splitNL, if_neg hc, splitNL_line l r (fun d hd => h d (List.mem_cons_of_mem _ hd))]
theorem splitNL_one : ∀ (l : Str), (∀ c ∈ l, c ≠ 10) → splitNL l = [l]
  | [], _ => rfl
  | c :: l, h => by
    have hc : c ≠ 10 := h c List.mem_cons_self
    rw [splitNL, if_neg hc, splitNL_one l (fun d hd => h d (List.mem_cons_of_mem _ hd))]
theorem nodesLine_eq (n : Int) : nodesLine n = join [wNodes, itoa n] ++ [10] := by
  unfold nodesLine
  simp [join]
theorem good_nodes (n : Int) : goodWs [wNodes, itoa n] = true := by
  unfold goodWs
  simp only [List.all_cons, List.all_nil, good_itoa, Bool.and_true]
  decide
theorem okStep_req {s : StepS} (h : okStep s = true) : s.kind = 7 → 0 ≤ s.req.kind ∧ s.req.kind ≤ 3 := by
  intro h7
  obtain ⟨_, _, hb⟩ := (okStep_iff s).1 h
  unfold okBody at hb
  rw [if_neg (by omega), if_neg (by omega), if_pos h7] at hb
  simp only [Bool.and_eq_true] at hb
  exact ((okReq_iff _).1 hb.1.2).1
theorem good_stepWords {s : StepS} (h : okStep s = true) : goodWs (stepWords s) = true := by
  obtain ⟨hk, _, _⟩ := (okStep_iff s).1 h
  exact good_step s hk.1 hk.2 (okStep_req h)
theorem name_nodes : ∀ k, k < 12 → names.getD k [] ≠ wNodes := by decide
theorem line_nodes (n : Int) (h0 : 1 ≤ n) (h1 : n ≤ 7) : line ⟨0, []⟩ [wNodes, itoa n] = .ok ⟨n, []⟩ := by
  unfold line
  dsimp only
  rw [if_pos rfl]
  have h2 : pnodes [itoa n] = some n := by
    unfold pnodes
    rw [pnum_itoa (by omega) h1 (by unfold most; omega), Option.bind_some, if_pos ⟨by dsimp only; omega, rfl⟩]
  rw [h2]
  rfl
theorem line_step (s : ScriptS) (x : StepS) (h : okStep x = true) (hn : 0 < s.nodes) (hl : s.steps.length < 4096) : line s (stepWords x) = .ok { s with steps := s.steps ++ [x] } := by
  obtain ⟨hk, _, _⟩ := (okStep_iff x).1 h
  unfold line stepWords
  dsimp only
  rw [if_neg (name_nodes _ (by omega)), name_back _ (by omega)]
  dsimp only
  rw [pstep_words x h]
  dsimp only
  rw [if_neg (by omega), if_neg (by omega)]
theorem parseGo_steps : ∀ (l : List StepS) (s : ScriptS) (no : Nat) (r : List Str), l.all okStep = true → 0 < s.nodes → s.steps.length + l.length ≤ 4096 →
    parseGo s no (l.map stepText ++ r) = parseGo { s with steps := s.steps ++ l } (no + l.length) r
  | [], s, no, r, _, _, _ => by simp
  | x :: l, s, no, r, h, hn, hl => by
    rw [List.all_cons, Bool.and_eq_true] at h
    rw [List.length_cons] at hl
    rw [List.map_cons, List.cons_append, parseGo]
    rw [show stepText x = join (stepWords x) from rfl, words_join _ (good_stepWords h.1), line_step s x h.1 hn (by omega)]
    dsimp only
    rw [parseGo_steps l { s with steps := s.steps ++ [x] } (no + 1) r h.2 hn (by simp; omega)]
    simp only [List.append_assoc, List.singleton_append, List.length_cons]
    rw [show no + 1 + l.length = no + (l.length + 1) by omega]
theorem splitNL_steps : ∀ (l : List StepS) (r : Str), l.all okStep = true → splitNL (l.flatMap stepLine ++ r) = l.map stepText ++ splitNL r
  | [], r, _ => by simp
  | x :: l, r, h => by
    rw [List.all_cons, Bool.and_eq_true] at h
    rw [List.flatMap_cons, List.append_assoc, List.map_cons, List.cons_append]
    rw [show stepLine x = stepText x ++ [10] from rfl, List.append_assoc, List.singleton_append, splitNL_line _ _ (show ∀ c ∈ stepText x, c ≠ 10 from join_nl _ (good_stepWords h.1)), splitNL_steps l r h.2]
theorem okScript_iff (s : ScriptS) : okScript s = true ↔ (1 ≤ s.nodes ∧ s.nodes ≤ 7) ∧ s.steps.length ≤ 4096 ∧ s.steps.all okStep = true := by
  unfold okScript
  simp only [Bool.and_eq_true, decide_eq_true_eq, and_assoc]
theorem words_nodes (n : Int) : words (join [wNodes, itoa n]) = [wNodes, itoa n] := words_join _ (good_nodes n)
/-- P34.3: a valid script is parsed from what is printed of it -/
theorem parse_text (s : ScriptS) (h : okScript s = true) : parse (text s) = .ok s := by
  obtain ⟨hn, hl, hs⟩ := (okScript_iff s).1 h
  unfold parse text
  rw [nodesLine_eq, List.append_assoc, List.singleton_append, splitNL_line _ _ (join_nl _ (good_nodes _))]
  have h1 := splitNL_steps s.steps [] hs
  rw [List.append_nil] at h1
  rw [h1, parseGo, words_nodes, line_nodes _ hn.1 hn.2]
  dsimp only
  rw [parseGo_steps s.steps ⟨s.nodes, []⟩ 1 _ hs (by dsimp only; omega) (by simpa using hl)]
  rw [splitNL, parseGo]
  have hw : words [] = [] := rfl
  rw [hw]
  unfold line
  dsimp only
  unfold parseGo
  rw [if_neg (by dsimp only; omega)]
  simp
/-- one step's line behind a nodes line -/
theorem parse_one (x : StepS) (h : okStep x = true) : parse (nodesLine 1 ++ stepText x) = .ok ⟨1, [x]⟩ := by
  unfold parse
  rw [nodesLine_eq, List.append_assoc, List.singleton_append, splitNL_line _ _ (join_nl _ (good_nodes _)), splitNL_one _ (show ∀ c ∈ stepText x, c ≠ 10 from join_nl _ (good_stepWords h)), parseGo, words_nodes, line_nodes _ (by omega) (by omega)]
  dsimp only
  have := parseGo_steps [x] ⟨1, []⟩ 1 [] (by simp [h]) (by decide) (by simp)
  simp only [List.map_cons, List.map_nil, List.append_nil, List.nil_append] at this
  rw [this]
  rfl

/-! ### what is parsed may be -/
def okSoFar (s : ScriptS) : Prop := (s.nodes = 0 ∨ (1 ≤ s.nodes ∧ s.nodes ≤ 7)) ∧ s.steps.length ≤ 4096 ∧ s.steps.all okStep = true
theorem pnodes_ok {ws : List Str} {n : Int} (h : pnodes ws = some n) : 1 ≤ n ∧ n ≤ 7 := by
  unfold pnodes at h
  obtain ⟨a, h1, h⟩ := bind_some_iff h
  split at h
  · rename_i hc
    simp only [Option.some.injEq] at h
    have := pnum_ok (show pnum 7 ws = some (a.1, a.2) from h1)
    omega
  · cases h
theorem line_ok {s s' : ScriptS} {ws : List Str} (h : line s ws = .ok s') (ho : okSoFar s) : okSoFar s' := by
  cases ws with
  | nil =>
    simp only [line, Except.ok.injEq] at h
    subst h; exact ho
  | cons w ws =>
    unfold line at h
    dsimp only at h
    split at h
    · split at h
      · rename_i n hn
        split at h
        · simp only [Except.ok.injEq] at h
          subst h
          exact ⟨.inr (pnodes_ok hn), ho.2⟩
        · cases h
      · cases h
    · split at h
      · cases h
      · rename_i k hk
        split at h
        · cases h
        · rename_i x hx
          split at h
          · cases h
          · split at h
            · cases h
            · simp only [Except.ok.injEq] at h
              subst h
              refine ⟨ho.1, by simp; omega, ?_⟩
              simp only [List.all_append, ho.2.2, List.all_cons, List.all_nil, (pstep_ok (kindOf_lt hk) hx).1]
              rfl
theorem parseGo_ok : ∀ (ts : List Str) (s s' : ScriptS) (no : Nat), parseGo s no ts = .ok s' → okSoFar s → okScript s' = true
  | [], s, s', no, h, ho => by
    unfold parseGo at h
    split at h
    · cases h
    · rename_i hn
      simp only [Except.ok.injEq] at h
      subst h
      exact (okScript_iff _).2 ⟨by rcases ho.1 with h | h; exact absurd h hn; exact h, ho.2⟩
  | t :: ts, s, s', no, h, ho => by
    unfold parseGo at h
    split at h
    · rename_i s1 h1
      exact parseGo_ok ts s1 s' _ h (line_ok h1 ho)
    · cases h
theorem parse_ok {t : Str} {s : ScriptS} (h : parse t = .ok s) : okScript s = true := parseGo_ok _ _ _ _ h ⟨.inl rfl, by simp, rfl⟩
end Go.Proofs.YtifliekahdgobaaGreatDoor
namespace Go.Proofs.YtifliekahdgobaaGreatDoor
open Go.RowKit Sp

/-- names by kinds -/
def kl (K : List Nat) : List (Int × Value) := K.map fun k : Nat => ((k : Int), .agg #[sv (nm k)])
/-- all the names are in block n, in some order -/
def NamesAt (w : World) (n : Nat) : Prop := ∃ K : List Nat, K.Perm (List.range 12) ∧ MapL (fun x : Int => Value.int .i64 x) w n (kl K)
theorem NamesAt.keep {w w' : World} {n : Nat} (h : NamesAt w n) (hk : Keep (fun _ => False) w w') : NamesAt w' n := by
  obtain ⟨K, hp, hm⟩ := h
  exact ⟨K, hp, hk.at' hm (fun e => e)⟩
theorem look_name {w : World} {n : Nat} (h : NamesAt w n) (k : Nat) (hk : k < 12) :
    (Instr.lookup 84 (.map (some n)) (.int .i64 (k : Int)) true).run Tryz.prog w = .ok (.tuple #[.agg #[sv (nm k)], .bool true]) w := by
  obtain ⟨K, hp, hm⟩ := h
  exact run_look_hit (intKeys .i64) Tryz.underlying84 Tryz.underlying3 w n (kl K) hm (k : Int) (.agg #[sv (nm k)]) (List.mem_map.2 ⟨k, hp.mem_iff.2 (by simpa using hk), rfl⟩) (fun p hp' he => by
    obtain ⟨j, hj, rfl⟩ := List.mem_map.1 hp'
    have : j = k := by
      have he : (j : Int) = (k : Int) := he
      omega
    rw [this]) true
theorem look_noname {w : World} {n : Nat} (h : NamesAt w n) (x : Int) (hx : x < 0 ∨ 11 < x) :
    (Instr.lookup 84 (.map (some n)) (.int .i64 x) true).run Tryz.prog w = .ok (.tuple #[.agg #[sv []], .bool false]) w := by
  obtain ⟨K, hp, hm⟩ := h
  exact run_look_miss (intKeys .i64) Tryz.underlying84 Tryz.underlying3 w n (kl K) hm x (.agg #[sv []]) (by go_simp) (fun p hp' => by
    obtain ⟨j, hj, rfl⟩ := List.mem_map.1 hp'
    have : j < 12 := by simpa using hp.mem_iff.1 hj
    show (j : Int) ≠ x
    omega) true
theorem look_rule1 {w : World} {r : Nat} (h : RulesAt w r) (k : Nat) (hk12 : k < 12) :
    (Instr.lookup 82 (.map (some r)) (.string ⟨(nm k).toArray⟩) false).run Tryz.prog w = .ok (.agg (ruleCells k (decide (2 < k)) (readF k) (writeF k))) w := by
  obtain ⟨K, hp, hm⟩ := h
  exact run_look_hit strKeys Tryz.underlying82 Tryz.underlying9 w r (rl K) hm (nm k) (ruleV k) (List.mem_map.2 ⟨k, (hp.mem_iff.2 (by simpa using hk12)), rfl⟩) (fun p hp' he => by
    obtain ⟨j, hj, rfl⟩ := List.mem_map.1 hp'
    have hj12 : j < 12 := by simpa using hp.mem_iff.1 hj
    rw [show j = k from nm_inj j hj12 k hk12 he]) false
theorem nm_len : ∀ k, k < 12 → (nm k).length ≤ 7 := by decide
theorem nm_good : ∀ k, k < 12 → goodW (nm k) = true := by decide
/-- what stands for the node in a step's text -/
def nodeText (k : Nat) (s : StepS) : Str := if 2 < k then 32 :: itoa s.node else []
theorem join_cons2 (x y : Str) (r : List Str) : join (x :: y :: r) = x ++ 32 :: join (y :: r) := rfl
theorem stepText_parts (s : StepS) (k : Nat) (hk : s.kind = k) : Sp.stepText s = nm k ++ nodeText k s ++ bodyText k s := by
  unfold Sp.stepText stepWords nodeText nodeWords bodyText bodyWords nm
  rw [hk, Int.toNat_natCast]
  have e2 : ((2 : Int) < (k : Int)) ↔ 2 < k := by omega
  have e11 : ((k : Int) = 11) ↔ k = 11 := by omega
  have e8 : ((k : Int) = 8) ↔ k = 8 := by omega
  have e7 : ((k : Int) = 7) ↔ k = 7 := by omega
  simp only [e2, e11, e8, e7]
  by_cases h2 : 2 < k
  · rw [if_pos h2, if_pos h2]
    by_cases h11 : k = 11
    · rw [if_pos h11, if_pos h11]
      simp [join]
    · rw [if_neg h11, if_neg h11]
      by_cases h8 : k = 8
      · rw [if_pos h8, if_pos h8]
        unfold watchWords
        simp [join]
      · rw [if_neg h8, if_neg h8]
        by_cases h7 : k = 7
        · rw [if_pos h7, if_pos h7]
          unfold reqWords
          simp [join]
        · rw [if_neg h7, if_neg h7]
          simp [join]
  · have h11 : k ≠ 11 := by omega
    have h8 : k ≠ 8 := by omega
    have h7 : k ≠ 7 := by omega
    rw [if_neg h2, if_neg h2, if_neg h11, if_neg h11, if_neg h8, if_neg h8, if_neg h7, if_neg h7]
    simp [join]
/-- the words of a step's text -/
theorem stepText_words (s : StepS) (k : Nat) (hk : s.kind = k) (hk12 : k < 12) (hb : bodyOk k s = true) : words (Sp.stepText s) = nm k :: (nodeWords s ++ bodyWords s) := by
  have h1 : goodWs (stepWords s) = true := good_step s (by omega) (by omega) (fun h => by
    have : k = 7 := by omega
    subst this
    unfold bodyOk at hb
    rw [if_pos rfl] at hb
    unfold okKind at hb
    simpa using hb)
  unfold Sp.stepText
  rw [words_join _ h1]
  unfold stepWords nm
  rw [hk, Int.toNat_natCast]
theorem step_back {s : StepS} {k : Nat} (hk : s.kind = k) (h : okStep s = true) : pstep k (nodeWords s ++ bodyWords s) = some s := by
  have := pstep_words s h
  rwa [hk, Int.toNat_natCast] at this
theorem step_not {s : StepS} {k : Nat} (hk12 : k < 12) {ws : List Str} (h : okStep s = false) : pstep k ws ≠ some s := fun e => by
  have := (pstep_ok hk12 e).1
  rw [h] at this
  cases this
theorem body_not {s : StepS} {k : Nat} (hk : s.kind = k) (h : bodyOk k s = false) : okStep s = false := by
  unfold bodyOk at h
  by_cases h7 : k = 7
  · subst h7
    rw [if_pos rfl] at h
    cases ho : okStep s
    · rfl
    · exfalso
      have h1 := okStep_req ho hk
      unfold okKind at h
      rw [Bool.and_eq_false_iff, decide_eq_false_iff_not, decide_eq_false_iff_not] at h
      omega
  · rw [if_neg h7] at h
    cases h
theorem kind_not {s : StepS} (h : s.kind < 0 ∨ 11 < s.kind) : okStep s = false := by
  cases ho : okStep s
  · rfl
  · have := (okStep_iff s).1 ho
    omega
/-- what stepText comes to -/
def GotSText (s : StepS) (w : World) (e : Ending) (w' : World) : Prop :=
  Keep (fun _ => False) w w' ∧ ((okStep s = true ∧ e = .returned (sv (Sp.stepText s))) ∨ (okStep s = false ∧ ∃ c : Int, 1 ≤ c ∧ e = gaveUp c))
theorem body_le (k : Nat) (s : StepS) (h : MidStep s) : (bodyText k s).length ≤ 900000001 := by
  unfold bodyText
  split
  · simp
  · split
    · have := join_watch_le h.watch
      simp only [List.length_cons]; omega
    · split
      · have := join_req_le h.req
        simp only [List.length_cons]; omega
      · have := itoa_len s.n
        simp only [List.length_cons]; omega
theorem step_eq {a b : StepS} (h0 : a.kind = b.kind) (h1 : a.node = b.node) (h2 : a.n = b.n) (h3 : a.watch = b.watch) (h4 : a.req = b.req) : a = b := by
  obtain ⟨a1, a2, a3, a4, a5⟩ := a
  obtain ⟨b1, b2, b3, b4, b5⟩ := b
  dsimp only at *
  subst h0 h1 h2 h3 h4
  rfl
end Go.Proofs.YtifliekahdgobaaGreatDoor
namespace Go.Proofs.YtifliekahdgobaaGreatDoor
open Go.RowKit Sp

/-- two strings added: under a word of its own -/
def adT (x y : Operand) (a b : Value) : Sem Next := do pure (.value (← (do eqGuard .add 9 x y a b; binOp .add 9 a b)))
theorem execOp_add9 (ρ : Operand → Value) (x y : Operand) (d : Option Tmp) (u t : TypeId) (p : String) (af : Array Edge) (g : Option (Nat × Bool)) :
    execOp ρ { dst := d, op := Op.binOp .add 9 x y u, type := t, pos := p, after := af, guard := g } = adT x y (ρ x) (ρ y) := rfl
theorem run_adT (x y : Operand) (a b : Str) (w : World) (h : a.length + b.length ≤ 1000000000000) : (adT x y (sv a) (sv b)).run Tryz.prog w = .ok (.value (sv (a ++ b))) w := by
  have h' : ¬ ((9223372036854775807 : Int) < (a.length : Int) + (b.length : Int)) := by omega
  have e := ba_append a b
  unfold adT
  simp [eqGuard, binOp, Op.stringOp, e]
  show (a.toArray.size : Int) + (b.toArray.size : Int) ≤ 9223372036854775807
  simp
  omega
theorem add_step (a b : Str) (h : a.length + b.length ≤ 1000000000000) : ∃ T : Str, Hid (T = a ++ b) ∧ T.length ≤ a.length + b.length ∧ ∀ x y w, (adT x y (sv a) (sv b)).run Tryz.prog w = .ok (.value (sv T)) w :=
  ⟨_, Lib.hid rfl, by rw [List.length_append]; exact Nat.le_refl _, fun x y w => run_adT x y a b w h⟩
end Go.Proofs.YtifliekahdgobaaGreatDoor
