/-
  PLAIN: texts: what is printed of a script that may be is parsed as that script; what is parsed may be. Helpers of the claims.
  PLAIN: the words of the reference's texts; a step's, where it may be, are ours. Helpers of the claims.
  THE REFERENCE's WALKS, 16: digits, hex, marked. Helpers of the claims.
  STRINGS ADDED: the operation under a word of its own. Helpers of the claims.
  THE REFERENCE's WALKS, 17: opText (printed by wip/tools/gen_rtext.py). Helpers of the claims.
  THE WALKS, 23: what the rules write; sameReq. Helpers of the claims.
-/
import Derived.Test.YtifliekahdgobaaGreatDoorJThPToW20
import Derived.Test.YtifliekahdgobaaGreatDoorJR5ToR6
import Derived.Test.YtifliekahdgobaaGreatDoorJW7ToW18
import Derived.Test.YtifliekahdgobaaGreatDoorJW21ToW22
import Derived.Test.YtifliekahdgobaaGreatDoorJW10ToR11
set_option linter.unusedSimpArgs false
set_option linter.unusedVariables false
namespace Go.Proofs.YtifliekahdgobaaGreatDoor
open Sp

theorem splitNL_ne : ∀ s : Str, splitNL s ≠ []
  | [] => by simp [splitNL]
  | c :: s => by
    unfold splitNL
    split
    · simp
    · split <;> simp
theorem splitNL_line : ∀ (l r : Str), (∀ c ∈ l, c ≠ 10) → splitNL (l ++ 10 :: r) = l :: splitNL r
  | [], r, _ => by simp [splitNL]
  | c :: l, r, h => by
    have hc : c ≠ 10 := h c List.mem_cons_self
    rw [List.cons_append, splitNL, if_neg hc, splitNL_line l r (fun d hd => h d (List.mem_cons_of_mem _ hd))]
theorem splitNL_one : ∀ (l : Str), (∀ c ∈ l, c ≠ 10) → splitNL l = [l]
  | [], _ => rfl
  | c :: l, h => by
    have hc : c ≠ 10 := h c List.mem_cons_self
    rw [splitNL, if_neg hc, splitNL_one l (fun d hd => h d (List.mem_cons_of_mem _ hd))]
theorem nodesLine_eq (n : Int) : nodesLine n = join [wNodes, itoa n] ++ [10] := by
  unfold nodesLine
  simp [join]
theorem good_nodes (n : Int) : goodWs [wNodes, itoa n] = true := by
  unfold goodWs
  simp only [List.all_cons, List.all_nil, good_itoa, Bool.and_true]
  decide
theorem okStep_req {s : StepS} (h : okStep s = true) : s.kind = 7 → 0 ≤ s.req.kind ∧ s.req.kind ≤ 3 := by
  intro h7
  obtain ⟨_, _, hb⟩ := (okStep_iff s).1 h
  unfold okBody at hb
  rw [if_neg (by omega), if_neg (by omega), if_pos h7] at hb
  simp only [Bool.and_eq_true] at hb
  exact ((okReq_iff _).1 hb.1.2).1
theorem good_stepWords {s : StepS} (h : okStep s = true) : goodWs (stepWords s) = true := by
  obtain ⟨hk, _, _⟩ := (okStep_iff s).1 h
  exact good_step s hk.1 hk.2 (okStep_req h)
theorem name_nodes : ∀ k, k < 12 → names.getD k [] ≠ wNodes := by decide
theorem line_nodes (n : Int) (h0 : 1 ≤ n) (h1 : n ≤ 7) : line ⟨0, []⟩ [wNodes, itoa n] = .ok ⟨n, []⟩ := by
  unfold line
  dsimp only
  rw [if_pos rfl]
  have h2 : pnodes [itoa n] = some n := by
    unfold pnodes
    rw [pnum_itoa (by omega) h1 (by unfold most; omega), Option.bind_some, if_pos ⟨by dsimp only; omega, rfl⟩]
  rw [h2]
  rfl
theorem line_step (s : ScriptS) (x : StepS) (h : okStep x = true) (hn : 0 < s.nodes) (hl : s.steps.length < 4096) : line s (stepWords x) = .ok { s with steps := s.steps ++ [x] } := by
  obtain ⟨hk, _, _⟩ := (okStep_iff x).1 h
  unfold line stepWords
  dsimp only
  rw [if_neg (name_nodes _ (by omega)), name_back _ (by omega)]
  dsimp only
  rw [pstep_words x h]
  dsimp only
  rw [if_neg (by omega), if_neg (by omega)]
theorem parseGo_steps : ∀ (l : List StepS) (s : ScriptS) (no : Nat) (r : List Str), l.all okStep = true → 0 < s.nodes → s.steps.length + l.length ≤ 4096 →
    parseGo s no (l.map stepText ++ r) = parseGo { s with steps := s.steps ++ l } (no + l.length) r
  | [], s, no, r, _, _, _ => by simp
  | x :: l, s, no, r, h, hn, hl => by
    rw [List.all_cons, Bool.and_eq_true] at h
    rw [List.length_cons] at hl
    rw [List.map_cons, List.cons_append, parseGo]
    rw [show stepText x = join (stepWords x) from rfl, words_join _ (good_stepWords h.1), line_step s x h.1 hn (by omega)]
    dsimp only
    rw [parseGo_steps l { s with steps := s.steps ++ [x] } (no + 1) r h.2 hn (by simp; omega)]
    simp only [List.append_assoc, List.singleton_append, List.length_cons]
    rw [show no + 1 + l.length = no + (l.length + 1) by omega]
theorem splitNL_steps : ∀ (l : List StepS) (r : Str), l.all okStep = true → splitNL (l.flatMap stepLine ++ r) = l.map stepText ++ splitNL r
  | [], r, _ => by simp
  | x :: l, r, h => by
    rw [List.all_cons, Bool.and_eq_true] at h
    rw [List.flatMap_cons, List.append_assoc, List.map_cons, List.cons_append]
    rw [show stepLine x = stepText x ++ [10] from rfl, List.append_assoc, List.singleton_append, splitNL_line _ _ (show ∀ c ∈ stepText x, c ≠ 10 from join_nl _ (good_stepWords h.1)), splitNL_steps l r h.2]
theorem okScript_iff (s : ScriptS) : okScript s = true ↔ (1 ≤ s.nodes ∧ s.nodes ≤ 7) ∧ s.steps.length ≤ 4096 ∧ s.steps.all okStep = true := by
  unfold okScript
  simp only [Bool.and_eq_true, decide_eq_true_eq, and_assoc]
theorem words_nodes (n : Int) : words (join [wNodes, itoa n]) = [wNodes, itoa n] := words_join _ (good_nodes n)
/-- P34.3: a valid script is parsed from what is printed of it -/
theorem parse_text (s : ScriptS) (h : okScript s = true) : parse (text s) = .ok s := by
  obtain ⟨hn, hl, hs⟩ := (okScript_iff s).1 h
  unfold parse text
  rw [nodesLine_eq, List.append_assoc, List.singleton_append, splitNL_line _ _ (join_nl _ (good_nodes _))]
  have h1 := splitNL_steps s.steps [] hs
  rw [List.append_nil] at h1
  rw [h1, parseGo, words_nodes, line_nodes _ hn.1 hn.2]
  dsimp only
  rw [parseGo_steps s.steps ⟨s.nodes, []⟩ 1 _ hs (by dsimp only; omega) (by simpa using hl)]
  rw [splitNL, parseGo]
  have hw : words [] = [] := rfl
  rw [hw]
  unfold line
  dsimp only
  unfold parseGo
  rw [if_neg (by dsimp only; omega)]
  simp
/-- one step's line behind a nodes line -/
theorem parse_one (x : StepS) (h : okStep x = true) : parse (nodesLine 1 ++ stepText x) = .ok ⟨1, [x]⟩ := by
  unfold parse
  rw [nodesLine_eq, List.append_assoc, List.singleton_append, splitNL_line _ _ (join_nl _ (good_nodes _)), splitNL_one _ (show ∀ c ∈ stepText x, c ≠ 10 from join_nl _ (good_stepWords h)), parseGo, words_nodes, line_nodes _ (by omega) (by omega)]
  dsimp only
  have := parseGo_steps [x] ⟨1, []⟩ 1 [] (by simp [h]) (by decide) (by simp)
  simp only [List.map_cons, List.map_nil, List.append_nil, List.nil_append] at this
  rw [this]
  rfl

/-! ### what is parsed may be -/
def okSoFar (s : ScriptS) : Prop := (s.nodes = 0 ∨ (1 ≤ s.nodes ∧ s.nodes ≤ 7)) ∧ s.steps.length ≤ 4096 ∧ s.steps.all okStep = true
theorem pnodes_ok {ws : List Str} {n : Int} (h : pnodes ws = some n) : 1 ≤ n ∧ n ≤ 7 := by
  unfold pnodes at h
  obtain ⟨a, h1, h⟩ := bind_some_iff h
  split at h
  · rename_i hc
    simp only [Option.some.injEq] at h
    have := pnum_ok (show pnum 7 ws = some (a.1, a.2) from h1)
    omega
  · cases h
theorem line_ok {s s' : ScriptS} {ws : List Str} (h : line s ws = .ok s') (ho : okSoFar s) : okSoFar s' := by
  cases ws with
  | nil =>
    simp only [line, Except.ok.injEq] at h
    subst h; exact ho
  | cons w ws =>
    unfold line at h
    dsimp only at h
    split at h
    · split at h
      · rename_i n hn
        split at h
        · simp only [Except.ok.injEq] at h
          subst h
          exact ⟨.inr (pnodes_ok hn), ho.2⟩
        · cases h
      · cases h
    · split at h
      · cases h
      · rename_i k hk
        split at h
        · cases h
        · rename_i x hx
          split at h
          · cases h
          · split at h
            · cases h
            · simp only [Except.ok.injEq] at h
              subst h
              refine ⟨ho.1, by simp; omega, ?_⟩
              simp only [List.all_append, ho.2.2, List.all_cons, List.all_nil, (pstep_ok (kindOf_lt hk) hx).1]
              rfl
theorem parseGo_ok : ∀ (ts : List Str) (s s' : ScriptS) (no : Nat), parseGo s no ts = .ok s' → okSoFar s → okScript s' = true
  | [], s, s', no, h, ho => by
    unfold parseGo at h
    split at h
    · cases h
    · rename_i hn
      simp only [Except.ok.injEq] at h
      subst h
      exact (okScript_iff _).2 ⟨by rcases ho.1 with h | h; exact absurd h hn; exact h, ho.2⟩
  | t :: ts, s, s', no, h, ho => by
    unfold parseGo at h
    split at h
    · rename_i s1 h1
      exact parseGo_ok ts s1 s' _ h (line_ok h1 ho)
    · cases h
theorem parse_ok {t : Str} {s : ScriptS} (h : parse t = .ok s) : okScript s = true := parseGo_ok _ _ _ _ h ⟨.inl rfl, by simp, rfl⟩
end Go.Proofs.YtifliekahdgobaaGreatDoor
namespace Go.Proofs.YtifliekahdgobaaGreatDoor
open Sp

/-- a number as the reference prints it: as an unsigned one of 64 bits -/
def ud (n : Int) : Str := dig (n % 18446744073709551616).toNat
theorem ud_itoa {n : Int} (h0 : 0 ≤ n) (h1 : n ≤ most) : ud n = itoa n := by
  unfold most at h1
  unfold ud itoa
  rw [Int.emod_eq_of_lt h0 (by omega), if_neg (by omega)]
def ropWords (x : OpS) : List Str :=
  if x.kind = 0 then [wRange, hexText x.key, hexText x.fin, ud x.rev, ud x.limit, markText lCk [x.count, x.keys]]
  else if x.kind = 1 then [wPut, hexText x.key, hexText x.val, markText lP [x.prev]]
  else [wDel, hexText x.key, hexText x.fin, markText lP [x.prev]]
def rcmpWords (c : CmpS) : List Str := [wIf, ud c.what, ud c.how, ud c.n, hexText c.key, hexText c.val]
def rreqWords (r : ReqS) : List Str :=
  [kinds.getD r.kind.toNat [], ud r.client, ud r.num, markText lS [r.serial], ud r.rev] ++ r.cmps.flatMap rcmpWords ++ (r.thn.flatMap fun x => wThen :: ropWords x) ++ (r.els.flatMap fun x => wElse :: ropWords x)
def rwatchWords (w : WatchS) : List Str := [ud w.id, hexText w.key, hexText w.fin, ud w.start, markText lPndg [w.prev, w.noPut, w.noDelete, w.progress]]
def rnodeWords (s : StepS) : List Str := if 2 < s.kind then [ud s.node] else []
def rbodyWords (s : StepS) : List Str :=
  if s.kind = 11 then [] else if s.kind = 8 then rwatchWords s.watch else if s.kind = 7 then rreqWords s.req else [ud s.n]
def rstepWords (s : StepS) : List Str := names.getD s.kind.toNat [] :: (rnodeWords s ++ rbodyWords s)

theorem rop_ok {x : OpS} (h : okOp x = true) : ropWords x = Sp.opWords x := by
  obtain ⟨kind, key, fin, val, rev, limit, count, keys, prev⟩ := x
  unfold ropWords Sp.opWords
  unfold okOp at h
  dsimp only at h ⊢
  by_cases h0 : kind = 0
  · subst h0
    simp only [if_true, Bool.and_eq_true, okNum_iff] at h ⊢
    rw [ud_itoa h.2.1.1.2.1 h.2.1.1.2.2, ud_itoa h.2.1.2.1 h.2.1.2.2]
  · rw [if_neg h0, if_neg h0]
theorem rcmp_ok {c : CmpS} (h : okCmp c = true) : rcmpWords c = cmpWords c := by
  rw [okCmp_iff] at h
  unfold rcmpWords cmpWords
  rw [ud_itoa h.1.1 (le_most h.1.2), ud_itoa h.2.1.1 (le_most h.2.1.2), ud_itoa h.2.2.1.1 h.2.2.1.2]
theorem flatMap_same {α : Type} {f g : α → List Str} : ∀ {l : List α}, (∀ x ∈ l, f x = g x) → l.flatMap f = l.flatMap g
  | [], _ => rfl
  | x :: l, h => by rw [List.flatMap_cons, List.flatMap_cons, h x List.mem_cons_self, flatMap_same fun y hy => h y (List.mem_cons_of_mem _ hy)]
theorem rreq_ok {r : ReqS} (h : okReq r = true) : rreqWords r = reqWords r := by
  rw [okReq_iff] at h
  obtain ⟨-, h1, h2, h3, -, h5, h6, h7⟩ := h
  unfold rreqWords reqWords
  rw [ud_itoa h1.1 h1.2, ud_itoa h2.1 h2.2, ud_itoa h3.1 h3.2]
  rw [flatMap_same (g := cmpWords) fun x hx => rcmp_ok (List.all_eq_true.1 h5 x hx)]
  rw [flatMap_same (l := r.thn) (g := fun x => wThen :: Sp.opWords x) fun x hx => by rw [rop_ok (List.all_eq_true.1 h6 x hx)]]
  rw [flatMap_same (l := r.els) (g := fun x => wElse :: Sp.opWords x) fun x hx => by rw [rop_ok (List.all_eq_true.1 h7 x hx)]]
theorem rstep_ok {s : StepS} (h : okStep s = true) : rstepWords s = stepWords s := by
  rw [okStep_iff] at h
  obtain ⟨h0, h1, h2⟩ := h
  unfold rstepWords stepWords
  have e1 : rnodeWords s = nodeWords s := by
    unfold rnodeWords nodeWords
    unfold okNode at h1
    by_cases hk : 2 < s.kind
    · rw [if_pos hk, if_pos hk]
      rw [if_pos hk, okSmall_iff] at h1
      rw [ud_itoa h1.1 (le_most h1.2)]
    · rw [if_neg hk, if_neg hk]
  have e2 : rbodyWords s = bodyWords s := by
    unfold rbodyWords bodyWords
    unfold okBody at h2
    by_cases k11 : s.kind = 11
    · rw [if_pos k11, if_pos k11]
    · rw [if_neg k11] at h2 ⊢
      rw [if_neg k11]
      by_cases k8 : s.kind = 8
      · rw [if_pos k8] at h2 ⊢
        rw [if_pos k8]
        simp only [Bool.and_eq_true, okWatch_iff] at h2
        unfold rwatchWords watchWords
        rw [ud_itoa h2.2.1.1 h2.2.1.2, ud_itoa h2.2.2.2.2.1 h2.2.2.2.2.2]
      · rw [if_neg k8] at h2 ⊢
        rw [if_neg k8]
        by_cases k7 : s.kind = 7
        · rw [if_pos k7] at h2 ⊢
          rw [if_pos k7]
          simp only [Bool.and_eq_true] at h2
          exact rreq_ok h2.1.2
        · rw [if_neg k7] at h2 ⊢
          rw [if_neg k7]
          simp only [Bool.and_eq_true, okNum_iff] at h2
          rw [ud_itoa h2.1.1.1 h2.1.1.2]
  rw [e1, e2]
theorem rstep_text {s : StepS} (h : okStep s = true) : join (rstepWords s) = stepText s := by unfold stepText; rw [rstep_ok h]
end Go.Proofs.YtifliekahdgobaaGreatDoor
namespace Go.Proofs.YtifliekahdgobaaGreatDoor
open Go.RowKit Sp

theorem dig_small {n : Nat} (h : n < 10) : dig n = [dgt n] := by
  rw [← dec_dig (by omega), Lib.decDigits_one h]; rfl
theorem dig_step {n : Nat} (h : ¬ n < 10) (h64 : n < 18446744073709551616) : dig n = dig (n / 10) ++ dig (n % 10) := by
  rw [← dec_dig h64, ← dec_dig (n := n / 10) (by omega), dig_small (n := n % 10) (by omega), Lib.decDigits, dif_neg h]
  rfl
theorem dig_len (n : Nat) : (dig n).length ≤ 21 := by
  unfold dig
  have h1 : ∀ f n, (digGo f n).length ≤ f + 1 := by
    intro f
    induction f with
    | zero => intro n; simp [digGo]
    | succ f ih =>
      intro n
      unfold digGo
      split
      · simp
      · have := ih (n / 10)
        simp; omega
  exact h1 20 n
theorem dgt_int {n : Nat} (h : n < 10) : ((dgt n).toNat : Int) = 48 + (n : Int) := by rw [dgt_nat h]; omega
set_option maxRecDepth 100000 in
theorem rdigit (n : Nat) (h : n < 10) (w : World) : Calls Tryz.prog 40 #[.int .u64 n] w (Gives (sv (dig n)) w) := by
  have h1 : (n : Int) < 10 := by omega
  have hw1 : IntKind.u64.wrap (48 + (n : Int)) = 48 + (n : Int) := by unfold IntKind.wrap; simp [IntKind.bits, IntKind.signed]; omega
  have hw2 : IntKind.u8.wrap (48 + (n : Int)) = 48 + (n : Int) := by unfold IntKind.wrap; simp [IntKind.bits, IntKind.signed]; omega
  have hcv : (convert 47 9 (.slice (some ⟨w.heap.size, 0, none⟩) 1 1)).run Tryz.prog (w.alloc (.cells #[.int .u8 (48 + (n : Int))] 5)) = .ok (.string ⟨[dgt n].toArray⟩) (w.alloc (.cells #[.int .u8 (48 + (n : Int))] 5)) :=
    run_convert_bytes_back (P := Tryz.prog) (w.alloc (.cells #[.int .u8 (48 + (n : Int))] 5)) 47 9 5 ⟨w.heap.size, 0, none⟩ 1 [dgt n] Tryz.underlying47 Tryz.underlying5 Tryz.underlying9 (fun j hj => by
      obtain rfl : j = 0 := by simpa using hj
      rw [Lib.add_plain, cell_of_block (block_new _ _)]
      simp [dgt_int h])
  have HD := Lib.hid (dig_small h)
  clear h
  go_enter Tryz.func40, Tryz.ntmps40
  go_wp2_with fail
  go_ret
  exact ⟨by rw [HD.out]; rfl, (Keep.refl _ w).alloc _⟩
set_option maxRecDepth 100000 in
theorem rdigits_any : ∀ (n : Nat) (h : n < 18446744073709551616) (w : World), Calls Tryz.prog 40 #[.int .u64 n] w (Gives (sv (dig n)) w) := by
  intro n
  induction n using Nat.strongRecOn with
  | _ n ih =>
    intro h w
    by_cases hs : n < 10
    · exact rdigit n hs w
    · have I1 := Lib.hid (ih (n / 10) (by omega) (by omega))
      have I2 := Lib.hid (ih (n % 10) (by omega) (by omega))
      have hst := dig_step hs h
      have l1 := dig_len (n / 10)
      have l2 := dig_len (n % 10)
      have h1 : ¬ (n : Int) < 10 := by omega
      have hd : (n : Int) / 10 = ((n / 10 : Nat) : Int) := by omega
      have hm : (n : Int) % 10 = ((n % 10 : Nat) : Int) := by omega
      have hn0 : (0 : Int) ≤ (n : Int) := by omega
      have hwa : IntKind.u64.wrap ((n / 10 : Nat) : Int) = ((n / 10 : Nat) : Int) := by unfold IntKind.wrap; simp [IntKind.bits, IntKind.signed]; omega
      have hwb : IntKind.u64.wrap ((n % 10 : Nat) : Int) = ((n % 10 : Nat) : Int) := by unfold IntKind.wrap; simp [IntKind.bits, IntKind.signed]; omega
      generalize n / 10 = a at *
      generalize n % 10 = b at *
      have HST := Lib.hid hst
      clear ih hst hs h
      go_enter Tryz.func40, Tryz.ntmps40
      go_wp2_with fail
      refine (I1.out _).mono ?_
      rintro e w1 ⟨rfl, hk1⟩
      have HK1 := Lib.hid hk1
      clear hk1
      go_wp2_with fail
      refine (I2.out _).mono ?_
      rintro e w2 ⟨rfl, hk2⟩
      have HK2 := Lib.hid hk2
      clear hk2
      go_wp2_with fail
      go_ret
      refine ⟨?_, HK1.out.trans' HK2.out⟩
      rw [HST.out, ba_append]
      rfl
/-- a number as an unsigned one -/
theorem rnumU_any (n : Int) (h0 : 0 ≤ n) (h1 : n < 18446744073709551616) (w : World) : Calls Tryz.prog 40 #[.int .u64 n] w (Gives (sv (ud n)) w) := by
  obtain ⟨u, rfl⟩ : ∃ u : Nat, n = u := ⟨n.toNat, by omega⟩
  have := rdigits_any u (by omega) w
  unfold ud
  rw [Int.emod_eq_of_lt h0 h1, Int.toNat_natCast]
  exact this
theorem ud_len (n : Int) : (ud n).length ≤ 21 := dig_len _
/-- the wrapped number is printed alike -/
theorem ud_wrap (n : Int) : ud (IntKind.u64.wrap n) = ud n ∧ 0 ≤ IntKind.u64.wrap n ∧ IntKind.u64.wrap n < 18446744073709551616 := by
  have h : IntKind.u64.wrap n = n % 18446744073709551616 := by unfold IntKind.wrap; simp [IntKind.bits, IntKind.signed]
  rw [h]
  unfold ud
  exact ⟨by rw [Int.emod_emod], Int.emod_nonneg _ (by decide), Int.emod_lt_of_pos _ (by decide)⟩

/-! ### hex -/
theorem BsAt.lt {w : World} {base : Nat} {v : Value} {l : Str} (h : BsAt w base v l) : ∀ g, v.ownBlock = some g → base ≤ g := by
  intro g hg
  rcases h.2 with ⟨rfl, _⟩ | ⟨g', cap, cur, rfl, hb, _⟩
  · cases hg
  · simp only [Value.ownBlock, Option.some.injEq] at hg
    omega
set_option maxRecDepth 100000 in
theorem rhex_some (x : Str) (hxl : x.length ≤ 1000000) (hne : (x == []) = false) (w : World) : Calls Tryz.prog 81 #[sv x] w (Gives (sv (hexText x)) w) := by
  obtain ⟨i5, hi, hz0, hz1, hz2⟩ := info_parts Tryz.info5
  go_enter Tryz.func81, Tryz.ntmps81
  go_wp2_with fail
  go_loopw [4, 5] (fun v4 v5 wr => ∃ k : Nat, k ≤ x.length ∧ v5 = .int .i64 k ∧ BsAt wr w.heap.size v4 ((x.take k).flatMap hex2) ∧ Keep (fun _ => False) w wr) (fun _ v5 _ => x.length - (intOf v5).toNat)
  case atStart => exact ⟨0, Nat.zero_le _, rfl, World.ownsRow_nil _ _ _ _, Keep.refl _ _⟩
  case round =>
    obtain ⟨k, hk, rfl, hown, hkr⟩ := hrel
    obtain ⟨a4, c4, rfl⟩ := hown.slice
    by_cases hlt : k < x.length
    · obtain ⟨c, hc⟩ : ∃ c, x[k] = c := ⟨_, rfl⟩
      have hbc : (⟨x.toArray⟩ : ByteArray)[k]'(by show k < x.toArray.size; simp; omega) = c := hc
      have hlt' : (k : Int) < (x.length : Int) := by omega
      have hln : ((x.take k).flatMap hex2).length ≤ 2000000 := by rw [hex2_len]; have := List.length_take_le k x; omega
      have HC := Lib.hid hc
      have HKR := Lib.hid hkr
      have HO := Lib.hid hown
      have HOL := Lib.hid hown.lt
      have hsz : w.heap.size ≤ wr.heap.size := hkr.size
      have hcb : (c.toNat : Int) < 256 := by have := c.toNat_lt; omega
      obtain ⟨a, ha⟩ : ∃ a, a = c.toNat / 16 := ⟨_, rfl⟩
      obtain ⟨b, hb⟩ : ∃ b, b = c.toNat % 16 := ⟨_, rfl⟩
      have h1 : (c.toNat : Int) / 16 = (a : Int) := by omega
      have h2 : bits BinOp.and IntKind.u8 (c.toNat : Int) 15 = (b : Int) := by rw [and15, hb]
      have ia := idx_hex a (by omega)
      have ib := idx_hex b (by omega)
      have HA := Lib.hid ha
      have HB := Lib.hid hb
      clear ha hb hc hkr hown
      generalize hlen : ((x.take k).flatMap hex2).length = n at *
      have HLEN := Lib.hid hlen
      clear hlen
      obtain ⟨v', w4, hr4, ho4, hg4, -⟩ := run_append_own (P := Tryz.prog) (wr.drew.alloc (.cells #[.int .u8 ((hx a).toNat : Int), .int .u8 ((hx b).toNat : Int)] 5 (0, 0))) w.heap.size 47 47 5 i5 (.int .u8 0) 1 1 Tryz.underlying47 hi hz0 hz1 hz2 rfl (by omega) (.slice a4 n c4) n (Lib.byteCells ((x.take k).flatMap hex2)) (by
          have := (show wr.drew.ownsRow _ _ _ _ _ _ from HO.out).alloc (.cells #[.int .u8 ((hx a).toNat : Int), .int .u8 ((hx b).toNat : Int)] 5 (0, 0))
          rw [HLEN.out] at this
          exact this) ⟨wr.drew.heap.size, 0, none⟩ 2 2 [.int .u8 ((hx a).toNat : Int), .int .u8 ((hx b).toNat : Int)] rfl (World.news_of_block (block_new _ _)) (by intro u hu; simp at hu; rcases hu with rfl | rfl <;> rfl) (by unfold maxLen; omega) (by omega) (by rw [alloc_size]; show w.heap.size ≤ wr.heap.size + 1; omega)
      have HO4 := Lib.hid ho4
      have HG4 := Lib.hid hg4
      clear ho4 hg4
      go_wp2_with fail
      go_region_held3 (fun _ => True) (trivial) (first | (refine step_append_run rfl (.tmp 14) (.tmp 27) 47 rfl rfl hr4 ?_))
      all_goals
        go_wp2_with fail
        go_roundw
        case rel =>
          have ht : x.take (k + 1) = x.take k ++ [c] := by rw [List.take_succ_eq_append_getElem hlt, HC.out]
          refine ⟨k + 1, by omega, by go_num, ?_, ?_⟩
          · rw [ht, List.flatMap_append]
            unfold BsAt
            rw [List.length_append, HLEN.out, Lib.byteCells_append]
            have := HO4.out
            show w4.ownsRow _ _ _ _ _ (_ ++ Lib.byteCells (hex2 c ++ []))
            rw [List.append_nil]
            unfold hex2
            rw [← HA.out, ← HB.out]
            exact this
          · exact keep_grown (HKR.out.drew.alloc _) HG4.out (fun g hg => HOL.out g hg)
        case measure => simp [intOf]; omega
    · have hge : ¬ (k : Int) < (x.length : Int) := by omega
      obtain rfl : k = x.length := by omega
      rw [List.take_length] at hown ⊢
      have hconv := conv_row _ _ _ wr hown
      have HX := Lib.hid (show hexText x = x.flatMap hex2 by
        unfold hexText
        rw [if_neg (by simpa using hne)]
        rfl)
      generalize x.flatMap hex2 = y at *
      have HKR := Lib.hid hkr
      clear hown hkr
      go_wp2_with fail
      go_ret
      exact ⟨by rw [HX.out]; rfl, HKR.out⟩
theorem rhex_nil (w : World) : Calls Tryz.prog 81 #[sv []] w (Gives (sv (hexText [])) w) := by
  go_enter Tryz.func81, Tryz.ntmps81
  go_wp2_with fail
  go_ret
  exact ⟨rfl, Keep.refl _ _⟩
theorem rhex_any (x : Str) (hxl : x.length ≤ 1000000) (w : World) : Calls Tryz.prog 81 #[sv x] w (Gives (sv (hexText x)) w) := by
  by_cases h : x = []
  · subst h; exact rhex_nil w
  · exact rhex_some x hxl (by simpa using h) w

/-! ### marked -/
/-- four marks, of which the first count -/
def four (is : List Bool) : Array Value := #[.bool (is.getD 0 false), .bool (is.getD 1 false), .bool (is.getD 2 false), .bool (is.getD 3 false)]
theorem four_get (is : List Bool) (i : Nat) (h : i < 4) : (four is)[i]? = some (.bool (is.getD i false)) := by
  rcases (by omega : i = 0 ∨ i = 1 ∨ i = 2 ∨ i = 3) with rfl | rfl | rfl | rfl <;> rfl
set_option maxRecDepth 100000 in
theorem rmarked_any (ls : Str) (is : List Bool) (hl : is.length = ls.length) (hs : ls.length ≤ 4) (w : World) :
    Calls Tryz.prog 82 #[sv ls, .agg (four is)] w (Gives (sv (markText ls is)) w) := by
  obtain ⟨W, hW⟩ : ∃ W : World, W = w.alloc (.cells (four is) 154) := ⟨_, rfl⟩
  have hkW : Keep (fun _ => False) w W := by rw [hW]; exact (Keep.refl _ w).alloc _
  have hbW : W.heap[w.heap.size]? = some (.cells (four is) 154 (0, 0)) := by rw [hW]; exact block_new _ _
  have hc : ∀ i, i < is.length → W.cell? ⟨w.heap.size, i, none⟩ = some (.bool (is.getD i false)) := fun i hi => by rw [cell_of_block hbW]; exact four_get is i (by omega)
  have HC := Lib.hid hc
  have HW := Lib.hid (show W = w.alloc (.cells #[.bool (is.getD 0 false), .bool (is.getD 1 false), .bool (is.getD 2 false), .bool (is.getD 3 false)] 154) from hW)
  have HKW := Lib.hid hkW
  clear hc hW hkW hbW
  unfold four
  generalize is.getD 0 false = b0 at *
  generalize is.getD 1 false = b1 at *
  generalize is.getD 2 false = b2 at *
  generalize is.getD 3 false = b3 at *
  go_enter Tryz.func82, Tryz.ntmps82
  go_wp2_with fail
  rw [← HW.out]
  go_loop [5, 6] (fun v5 v6 => ∃ k : Nat, k ≤ is.length ∧ v6 = .int .i64 k ∧ v5 = sv (markGo (ls.take k) (is.take k))) (fun _ v6 => is.length - (intOf v6).toNat)
  case atStart => exact ⟨0, Nat.zero_le _, rfl, rfl⟩
  case round =>
    obtain ⟨k, hk, rfl, rfl⟩ := hrel
    by_cases hlt : k < is.length
    · have hlt' : (k : Int) < (ls.length : Int) := by omega
      have hk4 : (k : Int) < 4 := by omega
      have hkl : (k : Int) + 1 ≤ (ls.length : Int) := by omega
      have hcc := HC.out k hlt
      have hst := markGo_step (ls := ls) hlt (by omega)
      have hd : is.getD k false = is[k] := by simp [List.getD, hlt]
      rw [hd] at hcc
      generalize is[k] = x at hcc hst
      have HST := Lib.hid hst
      have hml := markGo_len (ls.take k) (is.take k)
      have hml2 : (markGo (ls.take k) (is.take k)).length ≤ 4 := by have := List.length_take_le k ls; omega
      clear hml
      generalize hmg : markGo (ls.take k) (is.take k) = m at *
      have hex := ba_one ls k (by omega)
      have HEX := Lib.hid hex
      clear hst hd hmg hex
      cases x
      · go_wp2_with fail
        exact ⟨⟨k + 1, by omega, by go_num, by rw [HST.out]; simp⟩, by simp [intOf]; omega⟩
      · go_wp2_with fail
        refine ⟨⟨k + 1, by omega, by go_num, ?_⟩, by simp [intOf]; omega⟩
        rw [HST.out, HEX.out, ba_append]
        rfl
    · obtain rfl : k = is.length := by omega
      rw [List.take_length, markGo_take]
      have hge : ¬ (is.length : Int) < (ls.length : Int) := by omega
      have fin : sv (markText ls is) = if markGo ls is = [] then sv [45] else sv (markGo ls is) := by
        unfold markText
        split <;> rfl
      clear hk hlt
      generalize markGo ls is = m at *
      have FIN := Lib.hid fin
      clear fin
      by_cases hm : m = []
      · subst hm
        go_wp2_with fail
        go_ret
        exact ⟨(congrArg Ending.returned (FIN.out.trans (by simp))).symm, HKW.out⟩
      · have hm' : (m == []) = false := by simpa using hm
        have HM := Lib.hid hm
        clear hm
        go_wp2_with fail
        go_ret
        exact ⟨(congrArg Ending.returned (FIN.out.trans (if_neg HM.out))).symm, HKW.out⟩
end Go.Proofs.YtifliekahdgobaaGreatDoor
namespace Go.Proofs.YtifliekahdgobaaGreatDoor
open Go.RowKit Sp

/-- two strings added: under a word of its own -/
def adT (x y : Operand) (a b : Value) : Sem Next := do pure (.value (← (do eqGuard .add 9 x y a b; binOp .add 9 a b)))
theorem execOp_add9 (ρ : Operand → Value) (x y : Operand) (d : Option Tmp) (u t : TypeId) (p : String) (af : Array Edge) (g : Option (Nat × Bool)) :
    execOp ρ { dst := d, op := Op.binOp .add 9 x y u, type := t, pos := p, after := af, guard := g } = adT x y (ρ x) (ρ y) := rfl
theorem run_adT (x y : Operand) (a b : Str) (w : World) (h : a.length + b.length ≤ 1000000000000) : (adT x y (sv a) (sv b)).run Tryz.prog w = .ok (.value (sv (a ++ b))) w := by
  have h' : ¬ ((9223372036854775807 : Int) < (a.length : Int) + (b.length : Int)) := by omega
  have e := ba_append a b
  unfold adT
  simp [eqGuard, binOp, Op.stringOp, e]
  show (a.toArray.size : Int) + (b.toArray.size : Int) ≤ 9223372036854775807
  simp
  omega
theorem add_step (a b : Str) (h : a.length + b.length ≤ 1000000000000) : ∃ T : Str, Hid (T = a ++ b) ∧ T.length ≤ a.length + b.length ∧ ∀ x y w, (adT x y (sv a) (sv b)).run Tryz.prog w = .ok (.value (sv T)) w :=
  ⟨_, Lib.hid rfl, by rw [List.length_append]; exact Nat.le_refl _, fun x y w => run_adT x y a b w h⟩
end Go.Proofs.YtifliekahdgobaaGreatDoor
namespace Go.Proofs.YtifliekahdgobaaGreatDoor
open Go.RowKit Sp

theorem txt_eq {b : ByteArray} {l : Str} (h : b.data.toList = l) : Ending.returned (Value.string b) = .returned (sv l) := by
  subst h
  rfl
attribute [local go_sem ↓] execOp_add9
theorem hexText_two {s : Str} (h : s.length ≤ 1000000) : (hexText s).length ≤ 2000001 := by have := hexText_len s; omega
set_option maxHeartbeats 3200000 in
set_option maxRecDepth 100000 in
theorem ropText_range (x : OpS) (hm : MidOp x) (h0 : x.kind = 0) (w : World) :
    Calls Tryz.prog 117 #[.agg (opCells x)] w (Gives (sv (join (ropWords x))) w) := by
  obtain ⟨kind, key, fin, val, rev, limit, count, keys, prev⟩ := x
  obtain ⟨hm1, hm2, hm3, hm4, hm5, hm6, hm7⟩ := hm
  dsimp only at h0 hm1 hm2 hm3 hm4 hm5 hm6 hm7
  subst h0
  have lk := hexText_two hm1
  have lf := hexText_two hm2
  have lv := hexText_two hm3
  have lr := ud_len rev
  have ll := ud_len limit
  have lm : (markText lCk [count, keys]).length ≤ 3 := markText_len lCk [count, keys]
  obtain ⟨hu1, hu2, hu3⟩ := ud_wrap limit
  have ll' := ud_len (IntKind.u64.wrap limit)
  have HU := Lib.hid hu1
  clear hu1
  obtain ⟨T0, E0, n0, r0⟩ := add_step ([114, 97, 110, 103, 101, 32] : Str) (hexText key) (by (try simp only [List.length_cons, List.length_nil]); omega)
  (try simp only [List.length_cons, List.length_nil] at n0)
  obtain ⟨T1, E1, n1, r1⟩ := add_step T0 ([32] : Str) (by (try simp only [List.length_cons, List.length_nil]); omega)
  (try simp only [List.length_cons, List.length_nil] at n1)
  obtain ⟨T2, E2, n2, r2⟩ := add_step T1 (hexText fin) (by (try simp only [List.length_cons, List.length_nil]); omega)
  (try simp only [List.length_cons, List.length_nil] at n2)
  obtain ⟨T3, E3, n3, r3⟩ := add_step T2 ([32] : Str) (by (try simp only [List.length_cons, List.length_nil]); omega)
  (try simp only [List.length_cons, List.length_nil] at n3)
  obtain ⟨T4, E4, n4, r4⟩ := add_step T3 (ud rev) (by (try simp only [List.length_cons, List.length_nil]); omega)
  (try simp only [List.length_cons, List.length_nil] at n4)
  obtain ⟨T5, E5, n5, r5⟩ := add_step T4 ([32] : Str) (by (try simp only [List.length_cons, List.length_nil]); omega)
  (try simp only [List.length_cons, List.length_nil] at n5)
  obtain ⟨T6, E6, n6, r6⟩ := add_step T5 (ud (IntKind.u64.wrap limit)) (by (try simp only [List.length_cons, List.length_nil]); omega)
  (try simp only [List.length_cons, List.length_nil] at n6)
  obtain ⟨T7, E7, n7, r7⟩ := add_step T6 ([32] : Str) (by (try simp only [List.length_cons, List.length_nil]); omega)
  (try simp only [List.length_cons, List.length_nil] at n7)
  obtain ⟨T8, E8, n8, r8⟩ := add_step T7 (markText lCk [count, keys]) (by (try simp only [List.length_cons, List.length_nil]); omega)
  (try simp only [List.length_cons, List.length_nil] at n8)
  clear n0 n1 n2 n3 n4 n5 n6 n7 n8
  obtain ⟨N, hN⟩ : ∃ N : Nat, N = w.heap.size := ⟨_, rfl⟩
  obtain ⟨W, hW⟩ : ∃ W : World, W = w.alloc (.cells (opCells ⟨0, key, fin, val, rev, limit, count, keys, prev⟩) 67) := ⟨_, rfl⟩
  have hkW : Keep (fun _ => False) w W := by rw [hW]; exact (Keep.refl _ w).alloc _
  have hbW : W.heap[N]? = some (.cells (opCells ⟨0, key, fin, val, rev, limit, count, keys, prev⟩) 67 (0, 0)) := by rw [hW, hN]; exact block_new _ _
  have HS : ∀ w', Keep (fun _ => False) W w' → Keep (fun _ => False) W w' ∧ w'.cell? ⟨N, 1, none⟩ = some (sv key) ∧ w'.cell? ⟨N, 2, none⟩ = some (sv fin) ∧ w'.cell? ⟨N, 4, none⟩ = some (.int .u64 rev) ∧ w'.cell? ⟨N, 5, none⟩ = some (.int .i64 limit) ∧ w'.cell? ⟨N, 6, none⟩ = some (.bool count) ∧ w'.cell? ⟨N, 7, none⟩ = some (.bool keys) := fun w' hk => by
    have hb := hk.at' hbW (fun e => e)
    exact ⟨hk, cell_of_block hb 1, cell_of_block hb 2, cell_of_block hb 4, cell_of_block hb 5, cell_of_block hb 6, cell_of_block hb 7⟩
  have hc0 : W.cell? ⟨N, 0, none⟩ = some (.int .i64 0) := cell_of_block hbW 0
  have HSH := Lib.hid HS
  have HW := Lib.hid (show W = w.alloc (.cells #[.int .i64 0, sv key, sv fin, sv val, .int .u64 rev, .int .i64 limit, .bool count, .bool keys, .bool prev] 67) from hW)
  have HNN := Lib.hid hN
  have HKW := Lib.hid hkW
  clear HS hW hN hkW hbW
  unfold opCells
  go_enter Tryz.func117, Tryz.ntmps117
  go_wp2_with fail
  rw [← HW.out]
  generalize hNW : w.heap.size = N' at *
  obtain rfl : N = N' := HNN.out
  go_wp2_with fail
  go_region_held3 (fun w' => Keep (fun _ => False) W w' ∧ w'.cell? ⟨N, 1, none⟩ = some (sv key) ∧ w'.cell? ⟨N, 2, none⟩ = some (sv fin) ∧ w'.cell? ⟨N, 4, none⟩ = some (.int .u64 rev) ∧ w'.cell? ⟨N, 5, none⟩ = some (.int .i64 limit) ∧ w'.cell? ⟨N, 6, none⟩ = some (.bool count) ∧ w'.cell? ⟨N, 7, none⟩ = some (.bool keys))
    (first | exact HSH.out _ ((Keep.refl _ _).drew) | exact HSH.out _ (held_call (by assumption) (by assumption)) | exact HSH.out _ (held_alloc (by assumption) _))
    (first
      | (go_at_call 81; refine (rhex_any _ (by assumption) _).mono ?_; rintro e w' ⟨rfl, hk⟩)
      | (go_at_call 40; refine (rnumU_any _ (by assumption) (by assumption) _).mono ?_; rintro e w' ⟨rfl, hk⟩)
      | (go_at_call 82; refine (rmarked_any lCk [count, keys] rfl (by decide) _).mono ?_; rintro e w' ⟨rfl, hk⟩))
  all_goals
    go_wp2_with fail
    go_ret
    exact ⟨congrArg Ending.returned (show sv T8 = sv (join [wRange, hexText key, hexText fin, ud rev, ud limit, markText lCk [count, keys]]) by rw [← HU.out]; rw [E8.out, E7.out, E6.out, E5.out, E4.out, E3.out, E2.out, E1.out, E0.out]; simp [join, wRange]), Keep.trans' HKW.out (And.left (by assumption))⟩
set_option maxHeartbeats 3200000 in
set_option maxRecDepth 100000 in
theorem ropText_put (x : OpS) (hm : MidOp x) (h0 : x.kind = 1) (w : World) :
    Calls Tryz.prog 117 #[.agg (opCells x)] w (Gives (sv (join (ropWords x))) w) := by
  obtain ⟨kind, key, fin, val, rev, limit, count, keys, prev⟩ := x
  obtain ⟨hm1, hm2, hm3, hm4, hm5, hm6, hm7⟩ := hm
  dsimp only at h0 hm1 hm2 hm3 hm4 hm5 hm6 hm7
  subst h0
  have lk := hexText_two hm1
  have lf := hexText_two hm2
  have lv := hexText_two hm3
  have lm : (markText lP [prev]).length ≤ 2 := markText_len lP [prev]
  obtain ⟨T0, E0, n0, r0⟩ := add_step ([112, 117, 116, 32] : Str) (hexText key) (by (try simp only [List.length_cons, List.length_nil]); omega)
  (try simp only [List.length_cons, List.length_nil] at n0)
  obtain ⟨T1, E1, n1, r1⟩ := add_step T0 ([32] : Str) (by (try simp only [List.length_cons, List.length_nil]); omega)
  (try simp only [List.length_cons, List.length_nil] at n1)
  obtain ⟨T2, E2, n2, r2⟩ := add_step T1 (hexText val) (by (try simp only [List.length_cons, List.length_nil]); omega)
  (try simp only [List.length_cons, List.length_nil] at n2)
  obtain ⟨T3, E3, n3, r3⟩ := add_step T2 ([32] : Str) (by (try simp only [List.length_cons, List.length_nil]); omega)
  (try simp only [List.length_cons, List.length_nil] at n3)
  obtain ⟨T4, E4, n4, r4⟩ := add_step T3 (markText lP [prev]) (by (try simp only [List.length_cons, List.length_nil]); omega)
  (try simp only [List.length_cons, List.length_nil] at n4)
  clear n0 n1 n2 n3 n4
  obtain ⟨N, hN⟩ : ∃ N : Nat, N = w.heap.size := ⟨_, rfl⟩
  obtain ⟨W, hW⟩ : ∃ W : World, W = w.alloc (.cells (opCells ⟨1, key, fin, val, rev, limit, count, keys, prev⟩) 67) := ⟨_, rfl⟩
  have hkW : Keep (fun _ => False) w W := by rw [hW]; exact (Keep.refl _ w).alloc _
  have hbW : W.heap[N]? = some (.cells (opCells ⟨1, key, fin, val, rev, limit, count, keys, prev⟩) 67 (0, 0)) := by rw [hW, hN]; exact block_new _ _
  have HS : ∀ w', Keep (fun _ => False) W w' → Keep (fun _ => False) W w' ∧ w'.cell? ⟨N, 1, none⟩ = some (sv key) ∧ w'.cell? ⟨N, 3, none⟩ = some (sv val) ∧ w'.cell? ⟨N, 8, none⟩ = some (.bool prev) := fun w' hk => by
    have hb := hk.at' hbW (fun e => e)
    exact ⟨hk, cell_of_block hb 1, cell_of_block hb 3, cell_of_block hb 8⟩
  have hc0 : W.cell? ⟨N, 0, none⟩ = some (.int .i64 1) := cell_of_block hbW 0
  have HSH := Lib.hid HS
  have HW := Lib.hid (show W = w.alloc (.cells #[.int .i64 1, sv key, sv fin, sv val, .int .u64 rev, .int .i64 limit, .bool count, .bool keys, .bool prev] 67) from hW)
  have HNN := Lib.hid hN
  have HKW := Lib.hid hkW
  clear HS hW hN hkW hbW
  unfold opCells
  go_enter Tryz.func117, Tryz.ntmps117
  go_wp2_with fail
  rw [← HW.out]
  generalize hNW : w.heap.size = N' at *
  obtain rfl : N = N' := HNN.out
  go_wp2_with fail
  go_region_held3 (fun w' => Keep (fun _ => False) W w' ∧ w'.cell? ⟨N, 1, none⟩ = some (sv key) ∧ w'.cell? ⟨N, 3, none⟩ = some (sv val) ∧ w'.cell? ⟨N, 8, none⟩ = some (.bool prev))
    (first | exact HSH.out _ ((Keep.refl _ _).drew) | exact HSH.out _ (held_call (by assumption) (by assumption)) | exact HSH.out _ (held_alloc (by assumption) _))
    (first
      | (go_at_call 81; refine (rhex_any _ (by assumption) _).mono ?_; rintro e w' ⟨rfl, hk⟩)
      | (go_at_call 40; refine (rnumU_any _ (by assumption) (by assumption) _).mono ?_; rintro e w' ⟨rfl, hk⟩)
      | (go_at_call 82; refine (rmarked_any lP [prev] rfl (by decide) _).mono ?_; rintro e w' ⟨rfl, hk⟩))
  all_goals
    go_wp2_with fail
    go_ret
    exact ⟨congrArg Ending.returned (show sv T4 = sv (join [wPut, hexText key, hexText val, markText lP [prev]]) by rw [E4.out, E3.out, E2.out, E1.out, E0.out]; simp [join, wPut]), Keep.trans' HKW.out (And.left (by assumption))⟩
set_option maxHeartbeats 3200000 in
set_option maxRecDepth 100000 in
theorem ropText_del (x : OpS) (hm : MidOp x) (h0 : ¬ x.kind = 0) (h1 : ¬ x.kind = 1) (w : World) :
    Calls Tryz.prog 117 #[.agg (opCells x)] w (Gives (sv (join (ropWords x))) w) := by
  obtain ⟨kind, key, fin, val, rev, limit, count, keys, prev⟩ := x
  obtain ⟨hm1, hm2, hm3, hm4, hm5, hm6, hm7⟩ := hm
  dsimp only at h0 hm1 hm2 hm3 hm4 hm5 hm6 hm7
  have k0 : (kind == 0) = false := by simpa using h0
  have k1 : (kind == 1) = false := by simpa using h1
  have HF : ropWords ⟨kind, key, fin, val, rev, limit, count, keys, prev⟩ = [wDel, hexText key, hexText fin, markText lP [prev]] := by
    unfold ropWords
    dsimp only
    rw [if_neg h0, if_neg h1]
  rw [HF]
  clear h0 h1 HF
  have lk := hexText_two hm1
  have lf := hexText_two hm2
  have lv := hexText_two hm3
  have lm : (markText lP [prev]).length ≤ 2 := markText_len lP [prev]
  obtain ⟨T0, E0, n0, r0⟩ := add_step ([100, 101, 108, 32] : Str) (hexText key) (by (try simp only [List.length_cons, List.length_nil]); omega)
  (try simp only [List.length_cons, List.length_nil] at n0)
  obtain ⟨T1, E1, n1, r1⟩ := add_step T0 ([32] : Str) (by (try simp only [List.length_cons, List.length_nil]); omega)
  (try simp only [List.length_cons, List.length_nil] at n1)
  obtain ⟨T2, E2, n2, r2⟩ := add_step T1 (hexText fin) (by (try simp only [List.length_cons, List.length_nil]); omega)
  (try simp only [List.length_cons, List.length_nil] at n2)
  obtain ⟨T3, E3, n3, r3⟩ := add_step T2 ([32] : Str) (by (try simp only [List.length_cons, List.length_nil]); omega)
  (try simp only [List.length_cons, List.length_nil] at n3)
  obtain ⟨T4, E4, n4, r4⟩ := add_step T3 (markText lP [prev]) (by (try simp only [List.length_cons, List.length_nil]); omega)
  (try simp only [List.length_cons, List.length_nil] at n4)
  clear n0 n1 n2 n3 n4
  obtain ⟨N, hN⟩ : ∃ N : Nat, N = w.heap.size := ⟨_, rfl⟩
  obtain ⟨W, hW⟩ : ∃ W : World, W = w.alloc (.cells (opCells ⟨kind, key, fin, val, rev, limit, count, keys, prev⟩) 67) := ⟨_, rfl⟩
  have hkW : Keep (fun _ => False) w W := by rw [hW]; exact (Keep.refl _ w).alloc _
  have hbW : W.heap[N]? = some (.cells (opCells ⟨kind, key, fin, val, rev, limit, count, keys, prev⟩) 67 (0, 0)) := by rw [hW, hN]; exact block_new _ _
  have HS : ∀ w', Keep (fun _ => False) W w' → Keep (fun _ => False) W w' ∧ w'.cell? ⟨N, 1, none⟩ = some (sv key) ∧ w'.cell? ⟨N, 2, none⟩ = some (sv fin) ∧ w'.cell? ⟨N, 8, none⟩ = some (.bool prev) := fun w' hk => by
    have hb := hk.at' hbW (fun e => e)
    exact ⟨hk, cell_of_block hb 1, cell_of_block hb 2, cell_of_block hb 8⟩
  have hc0 : W.cell? ⟨N, 0, none⟩ = some (.int .i64 kind) := cell_of_block hbW 0
  have HSH := Lib.hid HS
  have HW := Lib.hid (show W = w.alloc (.cells #[.int .i64 kind, sv key, sv fin, sv val, .int .u64 rev, .int .i64 limit, .bool count, .bool keys, .bool prev] 67) from hW)
  have HNN := Lib.hid hN
  have HKW := Lib.hid hkW
  clear HS hW hN hkW hbW
  unfold opCells
  go_enter Tryz.func117, Tryz.ntmps117
  go_wp2_with fail
  rw [← HW.out]
  generalize hNW : w.heap.size = N' at *
  obtain rfl : N = N' := HNN.out
  go_wp2_with fail
  go_region_held3 (fun w' => Keep (fun _ => False) W w' ∧ w'.cell? ⟨N, 1, none⟩ = some (sv key) ∧ w'.cell? ⟨N, 2, none⟩ = some (sv fin) ∧ w'.cell? ⟨N, 8, none⟩ = some (.bool prev))
    (first | exact HSH.out _ ((Keep.refl _ _).drew) | exact HSH.out _ (held_call (by assumption) (by assumption)) | exact HSH.out _ (held_alloc (by assumption) _))
    (first
      | (go_at_call 81; refine (rhex_any _ (by assumption) _).mono ?_; rintro e w' ⟨rfl, hk⟩)
      | (go_at_call 40; refine (rnumU_any _ (by assumption) (by assumption) _).mono ?_; rintro e w' ⟨rfl, hk⟩)
      | (go_at_call 82; refine (rmarked_any lP [prev] rfl (by decide) _).mono ?_; rintro e w' ⟨rfl, hk⟩))
  all_goals
    go_wp2_with fail
    go_ret
    exact ⟨congrArg Ending.returned (show sv T4 = sv (join [wDel, hexText key, hexText fin, markText lP [prev]]) by rw [E4.out, E3.out, E2.out, E1.out, E0.out]; simp [join, wDel]), Keep.trans' HKW.out (And.left (by assumption))⟩
theorem ropText_any (x : OpS) (hm : MidOp x) (w : World) : Calls Tryz.prog 117 #[.agg (opCells x)] w (Gives (sv (join (ropWords x))) w) := by
  by_cases h0 : x.kind = 0
  · exact ropText_range x hm h0 w
  · by_cases h1 : x.kind = 1
    · exact ropText_put x hm h1 w
    · exact ropText_del x hm h0 h1 w
end Go.Proofs.YtifliekahdgobaaGreatDoor
namespace Go.Proofs.YtifliekahdgobaaGreatDoor
open Go.RowKit Sp

/-- a step whose numbers are of their kinds, of modest bytes -/
structure MidStep (s : StepS) : Prop where
  k0 : -9223372036854775808 ≤ s.kind
  k1 : s.kind ≤ 9223372036854775807
  n0 : -9223372036854775808 ≤ s.node
  n1 : s.node ≤ 9223372036854775807
  m0 : 0 ≤ s.n
  m1 : s.n < 18446744073709551616
  rk0 : -9223372036854775808 ≤ s.req.kind
  rk1 : s.req.kind ≤ 9223372036854775807
  req : MidReq s.req
  watch : MidWatch s.watch
/-- a request in memory, to be read -/
def ReqRead (w : World) (r : ReqS) (vc vt ve : Value) : Prop := RowRead cmpCells 5 w vc r.cmps ∧ RowRead opCells 9 w vt r.thn ∧ RowRead opCells 9 w ve r.els
theorem ReqRead.of_is {w : World} {r : ReqS} {vc vt ve : Value} (h : ReqIs w r vc vt ve) : ReqRead w r vc vt ve :=
  ⟨RowRead.of_own (size := 5) (base := 0) (e := 65) (fun _ => rfl) (show w.ownsRow 0 65 5 vc _ (flat cmpCells r.cmps) from h.1), RowRead.of_own (size := 9) (base := 0) (e := 67) (fun _ => rfl) (show w.ownsRow 0 67 9 vt _ (flat opCells r.thn) from h.2.1), RowRead.of_own (size := 9) (base := 0) (e := 67) (fun _ => rfl) (show w.ownsRow 0 67 9 ve _ (flat opCells r.els) from h.2.2)⟩
theorem ReqRead.far {w w' : World} {r : ReqS} {vc vt ve : Value} (h : ReqRead w r vc vt ve) (hk : Keep (fun _ => False) w w') : ReqRead w' r vc vt ve :=
  ⟨h.1.keep hk (fun _ _ _ _ _ e => e), h.2.1.keep hk (fun _ _ _ _ _ e => e), h.2.2.keep hk (fun _ _ _ _ _ e => e)⟩
/-- what reqText comes to: it gives up, if the kind is none -/
def okKind (r : ReqS) : Bool := decide (0 ≤ r.kind) && decide (r.kind ≤ 3)
def GotText (t : Str) (ok : Bool) (w : World) (e : Ending) (w' : World) : Prop := Keep (fun _ => False) w w' ∧ ((ok = true ∧ e = .returned (sv t)) ∨ (ok = false ∧ e = gaveUp 2))
set_option maxRecDepth 100000 in
theorem reqText_bad (r : ReqS) (vc vt ve : Value) (h : okKind r = false) (w : World) :
    Calls Tryz.prog 75 #[.agg (reqCells r vc vt ve)] w fun e w' => e = gaveUp 2 ∧ Keep (fun _ => False) w w' := by
  obtain ⟨kind, client, num, serial, cmps, thn, els, rev⟩ := r
  unfold okKind at h
  dsimp only at h
  have hcase : kind < 0 ∨ (0 ≤ kind ∧ 3 < kind) := by
    rw [Bool.and_eq_false_iff, decide_eq_false_iff_not, decide_eq_false_iff_not] at h
    omega
  clear h
  unfold reqCells
  rcases hcase with h | ⟨h, h'⟩
  · have h1 : decide (0 ≤ kind) = false := decide_eq_false (by omega)
    clear h
    go_enter Tryz.func75, Tryz.ntmps75
    go_wp2_with fail
    refine (must_no _ _).mono ?_
    rintro e w' ⟨rfl, rfl⟩
    exact ⟨rfl, rfl, (Keep.refl _ w).alloc _⟩
  · have h1 : decide (0 ≤ kind) = true := decide_eq_true h
    have h2 : decide (kind ≤ 3) = false := decide_eq_false (by omega)
    clear h h'
    go_enter Tryz.func75, Tryz.ntmps75
    go_wp2_with fail
    refine (must_no _ _).mono ?_
    rintro e w' ⟨rfl, rfl⟩
    exact ⟨rfl, rfl, (Keep.refl _ w).alloc _⟩
theorem reqText_any (r : ReqS) (vc vt ve : Value) (hm : MidReq r) (w : World) (hg : Glob w) (hr : ReqRead w r vc vt ve) :
    Calls Tryz.prog 75 #[.agg (reqCells r vc vt ve)] w (GotText (join (reqWords r)) (okKind r) w) := by
  cases hk : okKind r
  · exact (reqText_bad r vc vt ve hk w).mono fun e w' h => ⟨h.2, .inr ⟨rfl, h.1⟩⟩
  · rw [← join_reqParts]
    obtain ⟨kind, client, num, serial, cmps, thn, els, rev⟩ := r
    unfold okKind at hk
    simp only [Bool.and_eq_true, decide_eq_true_eq] at hk
    obtain ⟨kd, rfl⟩ : ∃ kd : Nat, kind = kd := ⟨kind.toNat, by omega⟩
    obtain ⟨⟨ac, cc, e1, h1⟩, ⟨at1, ct, e2, h2⟩, ⟨ae, ce, e3, h3⟩⟩ := hr
    dsimp only at e1 e2 e3 h1 h2 h3
    subst e1 e2 e3
    refine (reqText_go kd (by omega) client num serial rev cmps thn els ac at1 ae cc ct ce hm.c0 hm.c1 hm.n0 hm.n1 hm.r0 hm.r1 hm.lc hm.lt hm.le hm.cmps hm.thn hm.els w hg ⟨ac, cc, rfl, h1⟩ ⟨at1, ct, rfl, h2⟩ ⟨ae, ce, rfl, h3⟩).mono ?_
    rintro e w' ⟨rfl, hk'⟩
    refine ⟨hk', .inl ⟨rfl, ?_⟩⟩
    unfold reqParts
    simp only [Int.toNat_natCast]

/-! ### what the rules write -/
/-- a step's text behind its word and node -/
def bodyText (k : Nat) (s : StepS) : Str := if k = 11 then [] else if k = 8 then 32 :: join (watchWords s.watch) else if k = 7 then 32 :: join (reqWords s.req) else 32 :: itoa s.n
def bodyOk (k : Nat) (s : StepS) : Bool := if k = 7 then okKind s.req else true
theorem ba_cons (x : Str) : (⟨#[32]⟩ : ByteArray) ++ ⟨x.toArray⟩ = ⟨(32 :: x).toArray⟩ := ba_append [32] x
set_option maxRecDepth 100000 in
theorem writeN_any (s : StepS) (vc vt ve : Value) (hm : MidStep s) (w : World) (hg : Glob w) :
    Calls Tryz.prog 77 #[.agg (stepCells s vc vt ve)] w (Gives (sv (32 :: itoa s.n)) w) := by
  obtain ⟨cs, hcs⟩ : ∃ cs, cs = stepCells s vc vt ve := ⟨_, rfl⟩
  have hc2 : cs[2]? = some (.int .u64 s.n) := by rw [hcs]; rfl
  have HG := Lib.hid hg
  have hm0 := hm.m0
  have hm1 := hm.m1
  have hl := itoa_len s.n
  rw [← hcs]
  clear hg hcs hm
  go_enter Tryz.func77, Tryz.ntmps77
  go_wp2_with fail
  have hkW : Keep (fun _ => False) w (w.alloc (.cells cs 63)) := (Keep.refl _ w).alloc _
  refine (num_text s.n hm0 hm1 _ (HG.out.far hkW)).mono ?_
  rintro e w1 ⟨rfl, hk⟩
  have HK := Lib.hid (hkW.trans' hk)
  clear hk hkW
  go_wp2_with fail
  go_ret
  refine ⟨?_, HK.out⟩
  first | exact congrArg Ending.returned (congrArg Value.string (ba_cons _)) | rfl
end Go.Proofs.YtifliekahdgobaaGreatDoor
