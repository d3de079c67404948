/-
  THE WALKS, 12: rules (printed by wip/tools/gen_rules.py). Helpers of the claims.
  THE WALKS, 25: what the rules write, by their kinds; sameReq. Helpers of the claims.
  PLAIN: a script that may be: its steps are of middling size, its text is not long. Helpers of the claims.
  PLAIN: the chapter's examples (printed by wip/tools/gen_thy.py). Helpers of the claims.
-/
import Derived.Lib.Join
import Derived.Lib.Repeat
import Derived.Test.YtifliekahdgobaaGreatDoorKW11
import Derived.Test.YtifliekahdgobaaGreatDoorKW10ToSB
import Derived.Test.YtifliekahdgobaaGreatDoorKThQToW19
set_option linter.unusedSimpArgs false
set_option linter.unusedVariables false
namespace Go.Proofs.YtifliekahdgobaaGreatDoor
open Go.RowKit Sp

/-- a kind's word -/
def nm (k : Nat) : Str := names.getD k []
theorem nm_inj : ∀ a, a < 12 → ∀ b, b < 12 → nm a = nm b → a = b := by decide
/-- rules by their kinds -/
def rl (K : List Nat) : List (Str × Value) := K.map fun k => (nm k, ruleV k)
/-- words and kinds -/
def wl (K : List Nat) : List (Str × Value) := K.map fun k => (nm k, .int .i64 k)
theorem wl_new {K : List Nat} {k : Nat} {f : Nat → Value} (hK : ∀ j ∈ K, j < 12) (hk : k < 12) (h : k ∉ K) : ∀ p ∈ K.map (fun k => (nm k, f k)), p.1 ≠ nm k := by
  intro p hp
  obtain ⟨j, hj, rfl⟩ := List.mem_map.1 hp
  intro e
  exact h (nm_inj j (hK j hj) k hk e ▸ hj)
theorem rl_append (K : List Nat) (k : Nat) : rl (K ++ [k]) = rl K ++ [(nm k, ruleV k)] := by simp [rl]
/-- all the rules are in block r, in some order -/
def RulesAt (w : World) (r : Nat) : Prop := ∃ K : List Nat, K.Perm (List.range 12) ∧ MapL (fun x : Str => sv x) w r (rl K)
theorem run_put148 (W : World) (K : List Nat) (k : Nat) (hK : ∀ j ∈ K, j < 12) (hk : k < 12) (h : k ∉ K) : (Instr.mapUpdate 148 (.map (some W.heap.size)) (sv (nm k)) (.int .i64 k)).run Tryz.prog (W.alloc (.map (mkE (fun x : Str => sv x) (wl K)) (wl K).length)) = .ok () (W.alloc (.map (mkE (fun x : Str => sv x) (wl (K ++ [k]))) (wl (K ++ [k])).length)) := by
  have := run_put_new strKeys Tryz.underlying148 Tryz.underlying9 W (wl K) (nm k) (.int .i64 k) (wl_new hK hk h)
  rw [show wl (K ++ [k]) = wl K ++ [(nm k, .int .i64 k)] by simp [wl]]
  exact this
theorem run_put82 (W : World) (K : List Nat) (k : Nat) (hK : ∀ j ∈ K, j < 12) (hk : k < 12) (h : k ∉ K) : (Instr.mapUpdate 82 (.map (some W.heap.size)) (sv (nm k)) (ruleV k)).run Tryz.prog (W.alloc (.map (mkE (fun x : Str => sv x) (rl K)) (rl K).length)) = .ok () (W.alloc (.map (mkE (fun x : Str => sv x) (rl (K ++ [k]))) (rl (K ++ [k])).length)) := by
  have := run_put_new strKeys Tryz.underlying82 Tryz.underlying9 W (rl K) (nm k) (ruleV k) (wl_new hK hk h)
  rw [rl_append]
  exact this
/-- what a map's ranging has yet to come to -/
def iterLeft (w : World) (it : Nat) : Nat := match w.heap[it]? with
  | some (Obj.mapIter _ n seen _) => (leftNo n seen).length
  | _ => 0
theorem iterLeft_eq {w : World} {it : Nat} {m : Option Nat} {n b : Nat} {seen : Array Nat} (h : w.heap[it]? = some (.mapIter m n seen b)) : iterLeft w it = (leftNo n seen).length := by
  unfold iterLeft
  rw [h]
/-- what has been seen of a list -/
structure Seen (K : List Nat) (seen : Array Nat) (js : List Nat) : Prop where
  eq : seen = js.toArray
  nodup : js.Nodup
  lt : ∀ j ∈ js, j < K.length
theorem Seen.zero (K : List Nat) : Seen K #[] [] := ⟨rfl, List.nodup_nil, by simp⟩
theorem leftNo_mem {n j : Nat} {seen : Array Nat} (h : j ∈ leftNo n seen) : j < n ∧ ¬ j ∈ seen.toList := by
  unfold leftNo at h
  rw [List.mem_filter] at h
  exact ⟨by simpa using h.1, by simpa using h.2⟩
theorem Seen.push {K : List Nat} {seen : Array Nat} {js : List Nat} {j : Nat} (h : Seen K seen js) (hj : j ∈ leftNo K.length seen) : Seen K (seen.push j) (js ++ [j]) ∧ ¬ j ∈ js := by
  obtain ⟨h1, h2⟩ := leftNo_mem hj
  have h3 : ¬ j ∈ js := by rw [h.eq] at h2; simpa using h2
  refine ⟨⟨by rw [h.eq]; simp, ?_, ?_⟩, h3⟩
  · rw [List.nodup_append]
    exact ⟨h.nodup, by simp, fun a ha b hb e => by simp at hb; subst hb; exact h3 (e ▸ ha)⟩
  · intro x hx
    rcases List.mem_append.1 hx with hx | hx
    · exact h.lt x hx
    · simp at hx; subst hx; exact h1
theorem Seen.all {K : List Nat} {seen : Array Nat} {js : List Nat} (h : Seen K seen js) (h0 : leftNo K.length seen = []) : js.Perm (List.range K.length) := by
  refine (List.perm_ext_iff_of_nodup h.nodup List.nodup_range).2 fun a => ?_
  rw [List.mem_range]
  constructor
  · exact h.lt a
  · intro ha
    by_cases hn : a ∈ js
    · exact hn
    · have : a ∈ leftNo K.length seen := by
        unfold leftNo
        rw [List.mem_filter]
        exact ⟨by simpa using ha, by rw [h.eq]; simpa using hn⟩
      rw [h0] at this
      cases this
/-- the kinds that have come -/
def come (K : List Nat) (js : List Nat) : List Nat := js.map fun j => K.getD j 0
theorem come_push (K js : List Nat) (j : Nat) : come K (js ++ [j]) = come K js ++ [K.getD j 0] := by simp [come]
theorem come_all {K js : List Nat} (h : js.Perm (List.range K.length)) : (come K js).Perm K := by
  have h1 := h.map fun j => K.getD j 0
  refine h1.trans (List.Perm.of_eq ?_)
  apply List.ext_getElem?
  intro i
  rw [List.getElem?_map]
  by_cases hi : i < K.length
  · simp [hi]
  · simp [hi]
theorem come_new {K js : List Nat} (hK : K.Nodup) {j : Nat} (hj : j < K.length) (hlt : ∀ x ∈ js, x < K.length) (h : ¬ j ∈ js) : ¬ K.getD j 0 ∈ come K js := by
  intro hm
  obtain ⟨x, hx, he⟩ := List.mem_map.1 hm
  have hx' := hlt x hx
  simp only [List.getD_eq_getElem?_getD, List.getElem?_eq_getElem hx', List.getElem?_eq_getElem hj, Option.getD_some] at he
  have hp := List.pairwise_iff_getElem.1 hK
  rcases Nat.lt_trichotomy x j with hlt' | rfl | hlt'
  · exact hp x j hx' hj hlt' he
  · exact h hx
  · exact hp j x hj hx' hlt' he.symm
theorem come_mem {K js : List Nat} (hlt : ∀ x ∈ js, x < K.length) : ∀ k ∈ come K js, k ∈ K := by
  intro k hk
  obtain ⟨x, hx, rfl⟩ := List.mem_map.1 hk
  have hx' := hlt x hx
  simp [List.getD_eq_getElem?_getD, List.getElem?_eq_getElem hx']
def K1 : List Nat := [0, 1, 2]
def K2 : List Nat := [3, 4, 5, 6, 9, 10]

/-- the state while a map of words is ranged over: K0 were in the map of rules before; js have come -/
structure RulesLoop (w : World) (r m it : Nat) (K0 K : List Nat) (js : List Nat) (wr : World) : Prop where
  keep : Keep (fun _ => False) w wr
  rls : MapL (fun x : Str => sv x) wr r (rl (K0 ++ come K js))
  wds : MapL (fun x : Str => sv x) wr m (wl K)
  iter : ∃ seen, Seen K seen js ∧ wr.heap[it]? = some (.mapIter (some m) K.length seen K.length)
  far : r ≠ m ∧ r ≠ it ∧ m ≠ it ∧ w.heap.size ≤ r ∧ w.heap.size ≤ m ∧ w.heap.size ≤ it
theorem wl_length (K : List Nat) : (wl K).length = K.length := by simp [wl]
/-- one step of the ranging -/
theorem RulesLoop.next {w : World} {r m it : Nat} {K0 K js : List Nat} {wr : World} (h : RulesLoop w r m it K0 K js wr) (hK : K.Nodup) (hK12 : ∀ k ∈ K, k < 12) (hK0 : ∀ k ∈ K0, k < 12 ∧ ¬ k ∈ K) (T0 : TypeId) :
    (js.Perm (List.range K.length) ∧ (Instr.next (.pointer (some ⟨it, 0, none⟩)) false T0).run Tryz.prog wr = .ok (.tuple #[.bool false]) wr) ∨
    ∃ k W2 W3, k ∈ K ∧ (Instr.next (.pointer (some ⟨it, 0, none⟩)) false T0).run Tryz.prog wr = .ok (.tuple #[.bool true, sv (nm k), .int .i64 k]) W2 ∧
      (Instr.entry (.pointer (some ⟨it, 0, none⟩))).run Tryz.prog W2 = .ok (.tuple #[sv (nm k), .int .i64 k]) W2 ∧
      (Instr.mapUpdate 82 (.map (some r)) (sv (nm k)) (ruleV k)).run Tryz.prog W2 = .ok () W3 ∧
      (∃ j, RulesLoop w r m it K0 K (js ++ [j]) W3) ∧ iterLeft W3 it < iterLeft wr it := by
  obtain ⟨seen, hs, hi⟩ := h.iter
  have hi' : wr.heap[it]? = some (.mapIter (some m) (wl K).length seen (wl K).length) := by rw [wl_length]; exact hi
  obtain ⟨f1, f2, f3, f4, f5, f6⟩ := h.far
  rcases run_next (enc := fun x : Str => sv x) wr m it (wl K) seen T0 h.wds hi' with ⟨h0, hr⟩ | ⟨j, p, w1, hp, hj, hw, hr⟩
  · left
    rw [wl_length] at h0
    exact ⟨hs.all h0, hr⟩
  · right
    have hk1 : Keep (fun _ => False) w w1 := by
      rcases hw with rfl | rfl
      · exact h.keep
      · exact h.keep.drew
    have hh : w1.heap = wr.heap := by rcases hw with rfl | rfl <;> rfl
    rw [wl_length] at hj
    obtain ⟨hs', hnew⟩ := hs.push hj
    obtain ⟨hjl, -⟩ := leftNo_mem hj
    have hget : K.getD j 0 = K[j] := by simp [List.getD_eq_getElem?_getD, List.getElem?_eq_getElem hjl]
    have hkm : K.getD j 0 ∈ K := by rw [hget]; exact List.getElem_mem hjl
    have hpe : p = (nm (K.getD j 0), .int .i64 (K.getD j 0 : Nat)) := by
      have : (wl K)[j]? = some (nm K[j], .int .i64 (K[j] : Nat)) := by simp [wl, List.getElem?_eq_getElem hjl]
      rw [this] at hp
      rw [hget]
      exact (Option.some.inj hp).symm
    subst hpe
    obtain ⟨W2, hW2⟩ : ∃ W2, W2 = setB w1 it (.mapIter (some m) (wl K).length (seen.push j) (wl K).length) := ⟨_, rfl⟩
    have hi2 : W2.heap[it]? = some (.mapIter (some m) (wl K).length (seen.push j) (wl K).length) := by rw [hW2]; exact setB_at (by rw [hh]; exact hi)
    have hw2 : MapL (fun x : Str => sv x) W2 m (wl K) := by
      unfold MapL
      rw [hW2, setB_other _ f3, hh]
      exact h.wds
    have hr2 : MapL (fun x : Str => sv x) W2 r (rl (K0 ++ come K js)) := by
      unfold MapL
      rw [hW2, setB_other _ f2, hh]
      exact h.rls
    have hk2 : Keep (fun _ => False) w W2 := by rw [hW2]; exact hk1.setB _ _ (.inl f6)
    have hKK : ∀ x ∈ K0 ++ come K js, x < 12 := fun x hx => by
      rcases List.mem_append.1 hx with hx | hx
      · exact (hK0 x hx).1
      · exact hK12 x (come_mem hs.lt x hx)
    have hfresh : ¬ K.getD j 0 ∈ K0 ++ come K js := fun hx => by
      rcases List.mem_append.1 hx with hx | hx
      · exact (hK0 _ hx).2 hkm
      · exact come_new hK hjl hs.lt hnew hx
    have hput := run_put strKeys Tryz.underlying82 Tryz.underlying9 W2 r _ hr2 (nm (K.getD j 0)) (ruleV (K.getD j 0)) (wl_new hKK (hK12 _ hkm) hfresh)
    refine ⟨K.getD j 0, W2, _, hkm, by rw [hW2]; exact hr, run_entry W2 m it (wl K) seen j _ hw2 hi2 hp, hput, ⟨j, hk2.setB _ _ (.inl f4), ?_, ?_, ⟨seen.push j, hs', ?_⟩, h.far⟩, ?_⟩
    · rw [come_push, ← List.append_assoc, rl_append]
      exact setB_at hr2
    · unfold MapL
      rw [setB_other _ (fun e => f1 e.symm)]
      exact hw2
    · rw [setB_other _ (fun e => f2 e.symm), hi2, wl_length]
    · have h1 : (setB W2 r (.map (mkE (fun x : Str => sv x) (rl (K0 ++ come K js) ++ [(nm (K.getD j 0), ruleV (K.getD j 0))])) (rl (K0 ++ come K js) ++ [(nm (K.getD j 0), ruleV (K.getD j 0))]).length)).heap[it]? = some (.mapIter (some m) (wl K).length (seen.push j) (wl K).length) := by rw [setB_other _ (fun e => f2 e.symm)]; exact hi2
      rw [iterLeft_eq h1, iterLeft_eq hi, wl_length]
      exact leftNo_push hj
set_option maxRecDepth 100000 in
set_option maxHeartbeats 1600000 in
theorem rules_any (w : World) : Calls Tryz.prog 34 #[] w fun e w' => ∃ r, e = .returned (.map (some r)) ∧ RulesAt w' r ∧ w.heap.size ≤ r ∧ Keep (fun _ => False) w w' := by
  have hmm := @run_makeMap Tryz.prog
  obtain ⟨A1, hA1⟩ : ∃ x : World, x = w.alloc (.map (mkE (fun x : Str => sv x) (rl [11])) (rl [11]).length) := ⟨_, rfl⟩
  have hpA1 : (Instr.mapUpdate 82 (.map (some w.heap.size)) (.string ⟨#[100, 101, 102, 114, 97, 103]⟩) (.agg #[.int .i64 11, .bool true, .func (.func 66) #[] #[], .func (.func 67) #[] #[]])).run Tryz.prog (w.alloc (.map #[] 0)) = .ok () A1 := by
    rw [hA1]; exact run_put82 w [] 11 (by decide) (by decide) (by decide)
  obtain ⟨A2, hA2⟩ : ∃ x : World, x = w.alloc (.map (mkE (fun x : Str => sv x) (rl [11, 8])) (rl [11, 8]).length) := ⟨_, rfl⟩
  have hpA2 : (Instr.mapUpdate 82 (.map (some w.heap.size)) (.string ⟨#[119, 97, 116, 99, 104]⟩) (.agg #[.int .i64 8, .bool true, .func (.func 68) #[] #[], .func (.func 70) #[] #[]])).run Tryz.prog A1 = .ok () A2 := by
    rw [hA2, hA1]; exact run_put82 w [11] 8 (by decide) (by decide) (by decide)
  obtain ⟨A3, hA3⟩ : ∃ x : World, x = w.alloc (.map (mkE (fun x : Str => sv x) (rl [11, 8, 7])) (rl [11, 8, 7]).length) := ⟨_, rfl⟩
  have hpA3 : (Instr.mapUpdate 82 (.map (some w.heap.size)) (.string ⟨#[97, 115, 107]⟩) (.agg #[.int .i64 7, .bool true, .func (.func 72) #[] #[], .func (.func 74) #[] #[]])).run Tryz.prog A2 = .ok () A3 := by
    rw [hA3, hA2]; exact run_put82 w [11, 8] 7 (by decide) (by decide) (by decide)
  have hkA : Keep (fun _ => False) w A3 := by rw [hA3]; exact (Keep.refl _ w).alloc _
  have hbA : MapL (fun x : Str => sv x) A3 w.heap.size (rl [11, 8, 7]) := by rw [hA3]; exact block_new _ _
  have hsA : A3.heap.size = w.heap.size + 1 := by rw [hA3]; simp
  obtain ⟨B1, hB1⟩ : ∃ x : World, x = A3.alloc (.map (mkE (fun x : Str => sv x) (wl [0])) (wl [0]).length) := ⟨_, rfl⟩
  have hpB1 : (Instr.mapUpdate 148 (.map (some A3.heap.size)) (.string ⟨#[100, 101, 108, 105, 118, 101, 114]⟩) (.int .i64 0)).run Tryz.prog (A3.alloc (.map #[] 0)) = .ok () B1 := by
    rw [hB1]; exact run_put148 A3 [] 0 (by decide) (by decide) (by decide)
  obtain ⟨B2, hB2⟩ : ∃ x : World, x = A3.alloc (.map (mkE (fun x : Str => sv x) (wl [0, 1])) (wl [0, 1]).length) := ⟨_, rfl⟩
  have hpB2 : (Instr.mapUpdate 148 (.map (some A3.heap.size)) (.string ⟨#[100, 114, 111, 112]⟩) (.int .i64 1)).run Tryz.prog B1 = .ok () B2 := by
    rw [hB2, hB1]; exact run_put148 A3 [0] 1 (by decide) (by decide) (by decide)
  obtain ⟨B3, hB3⟩ : ∃ x : World, x = A3.alloc (.map (mkE (fun x : Str => sv x) (wl [0, 1, 2])) (wl [0, 1, 2]).length) := ⟨_, rfl⟩
  have hpB3 : (Instr.mapUpdate 148 (.map (some A3.heap.size)) (.string ⟨#[116, 119, 105, 99, 101]⟩) (.int .i64 2)).run Tryz.prog B2 = .ok () B3 := by
    rw [hB3, hB2]; exact run_put148 A3 [0, 1] 2 (by decide) (by decide) (by decide)
  have hkB : Keep (fun _ => False) A3 B3 := by rw [hB3]; exact (Keep.refl _ A3).alloc _
  have hbB : MapL (fun x : Str => sv x) B3 A3.heap.size (wl K1) := by rw [hB3]; exact block_new _ _
  have hsB : B3.heap.size = A3.heap.size + 1 := by rw [hB3]; simp
  obtain ⟨C, hC⟩ : ∃ x : World, x = B3.alloc (.mapIter (some A3.heap.size) K1.length #[] K1.length) := ⟨_, rfl⟩
  have hrg : (Instr.range 148 (.map (some A3.heap.size))).run Tryz.prog B3 = .ok (.pointer (some ⟨B3.heap.size, 0, none⟩)) C := by
    rw [hC]; exact run_range (enc := fun x : Str => sv x) Tryz.underlying148 B3 A3.heap.size (wl K1) hbB
  have hloop : RulesLoop w w.heap.size A3.heap.size B3.heap.size [11, 8, 7] K1 [] C := by
    rw [hC]
    exact ⟨(hkA.trans' hkB).alloc _, block_alloc (hkB.at' hbA (fun e => e)) _, block_alloc hbB _, ⟨#[], Seen.zero _, block_new _ _⟩, by omega⟩
  have HLOOP := Lib.hid hloop
  obtain ⟨r, hr⟩ : ∃ r, r = w.heap.size := ⟨_, rfl⟩
  clear hloop hbA hbB hkA hkB hC hA1 hA2 hA3 hB1 hB2 hB3 hsA hsB
  go_enter Tryz.func34, Tryz.ntmps34
  go_wp2_with fail
  rw [← hr]
  rw [← hr] at HLOOP
  have HR := Lib.hid hr
  clear hr hpA1 hpA2 hpA3 hpB1 hpB2 hpB3 hrg
  generalize A3.heap.size = m1 at *
  generalize B3.heap.size = i1 at *
  go_loopw [2] (fun _ wr => ∃ js, RulesLoop w r m1 i1 [11, 8, 7] K1 js wr) (fun _ wr => iterLeft wr i1)
  case atStart => exact ⟨[], HLOOP.out⟩
  case round =>
    obtain ⟨js, hst⟩ := hrel
    have HST := Lib.hid hst
    clear hst
    rcases HST.out.next (by decide) (by decide) (by decide) 0 with ⟨hall, hnx⟩ | ⟨k, W2, W3, hk, hnx, hen, hpu, hlp, hlt⟩
    · have HALL := Lib.hid hall
      clear hall
      obtain ⟨D1, hD1⟩ : ∃ x : World, x = wr.alloc (.map (mkE (fun x : Str => sv x) (wl [3])) (wl [3]).length) := ⟨_, rfl⟩
      have hpD1 : (Instr.mapUpdate 148 (.map (some wr.heap.size)) (.string ⟨#[116, 105, 99, 107]⟩) (.int .i64 3)).run Tryz.prog (wr.alloc (.map #[] 0)) = .ok () D1 := by
        rw [hD1]; exact run_put148 wr [] 3 (by decide) (by decide) (by decide)
      obtain ⟨D2, hD2⟩ : ∃ x : World, x = wr.alloc (.map (mkE (fun x : Str => sv x) (wl [3, 4])) (wl [3, 4]).length) := ⟨_, rfl⟩
      have hpD2 : (Instr.mapUpdate 148 (.map (some wr.heap.size)) (.string ⟨#[99, 104, 117, 110, 107]⟩) (.int .i64 4)).run Tryz.prog D1 = .ok () D2 := by
        rw [hD2, hD1]; exact run_put148 wr [3] 4 (by decide) (by decide) (by decide)
      obtain ⟨D3, hD3⟩ : ∃ x : World, x = wr.alloc (.map (mkE (fun x : Str => sv x) (wl [3, 4, 5])) (wl [3, 4, 5]).length) := ⟨_, rfl⟩
      have hpD3 : (Instr.mapUpdate 148 (.map (some wr.heap.size)) (.string ⟨#[99, 114, 97, 115, 104]⟩) (.int .i64 5)).run Tryz.prog D2 = .ok () D3 := by
        rw [hD3, hD2]; exact run_put148 wr [3, 4] 5 (by decide) (by decide) (by decide)
      obtain ⟨D4, hD4⟩ : ∃ x : World, x = wr.alloc (.map (mkE (fun x : Str => sv x) (wl [3, 4, 5, 6])) (wl [3, 4, 5, 6]).length) := ⟨_, rfl⟩
      have hpD4 : (Instr.mapUpdate 148 (.map (some wr.heap.size)) (.string ⟨#[119, 97, 107, 101]⟩) (.int .i64 6)).run Tryz.prog D3 = .ok () D4 := by
        rw [hD4, hD3]; exact run_put148 wr [3, 4, 5] 6 (by decide) (by decide) (by decide)
      obtain ⟨D5, hD5⟩ : ∃ x : World, x = wr.alloc (.map (mkE (fun x : Str => sv x) (wl [3, 4, 5, 6, 9])) (wl [3, 4, 5, 6, 9]).length) := ⟨_, rfl⟩
      have hpD5 : (Instr.mapUpdate 148 (.map (some wr.heap.size)) (.string ⟨#[99, 97, 110, 99, 101, 108]⟩) (.int .i64 9)).run Tryz.prog D4 = .ok () D5 := by
        rw [hD5, hD4]; exact run_put148 wr [3, 4, 5, 6] 9 (by decide) (by decide) (by decide)
      obtain ⟨D6, hD6⟩ : ∃ x : World, x = wr.alloc (.map (mkE (fun x : Str => sv x) (wl [3, 4, 5, 6, 9, 10])) (wl [3, 4, 5, 6, 9, 10]).length) := ⟨_, rfl⟩
      have hpD6 : (Instr.mapUpdate 148 (.map (some wr.heap.size)) (.string ⟨#[116, 97, 107, 101]⟩) (.int .i64 10)).run Tryz.prog D5 = .ok () D6 := by
        rw [hD6, hD5]; exact run_put148 wr [3, 4, 5, 6, 9] 10 (by decide) (by decide) (by decide)
      have hkD : Keep (fun _ => False) wr D6 := by rw [hD6]; exact (Keep.refl _ wr).alloc _
      have hbD : MapL (fun x : Str => sv x) D6 wr.heap.size (wl K2) := by rw [hD6]; exact block_new _ _
      have hsD : D6.heap.size = wr.heap.size + 1 := by rw [hD6]; simp
      obtain ⟨F, hF⟩ : ∃ x : World, x = D6.alloc (.mapIter (some wr.heap.size) K2.length #[] K2.length) := ⟨_, rfl⟩
      have hrg2 : (Instr.range 148 (.map (some wr.heap.size))).run Tryz.prog D6 = .ok (.pointer (some ⟨D6.heap.size, 0, none⟩)) F := by
        rw [hF]; exact run_range (enc := fun x : Str => sv x) Tryz.underlying148 D6 wr.heap.size (wl K2) hbD
      have hrlt := lt_of_block HST.out.rls
      have hloop2 : RulesLoop w r wr.heap.size D6.heap.size ([11, 8, 7] ++ come K1 js) K2 [] F := by
        rw [hF]
        refine ⟨(HST.out.keep.trans' hkD).alloc _, ?_, block_alloc hbD _, ⟨#[], Seen.zero _, block_new _ _⟩, ?_⟩
        · unfold MapL
          have h9 := HST.out.rls
          unfold MapL at h9
          rw [show ([11, 8, 7] ++ come K1 js ++ come K2 [] : List Nat) = [11, 8, 7] ++ come K1 js by simp [come]]
          exact block_alloc (hkD.at' h9 (fun e => e)) _
        · have h9 := HST.out.far
          have h8 := HST.out.keep.size
          exact ⟨by omega, by omega, by omega, by omega, by omega, by omega⟩
      have HLOOP2 := Lib.hid hloop2
      have hK0 : ∀ k ∈ [11, 8, 7] ++ come K1 js, k < 12 ∧ ¬ k ∈ K2 := by
        have hd : ∀ k ∈ [11, 8, 7] ++ K1, k < 12 ∧ ¬ k ∈ K2 := by decide
        have hlt : ∀ x ∈ js, x < K1.length := fun x hx => by simpa using (HALL.out.mem_iff.1 hx)
        intro k hk
        rcases List.mem_append.1 hk with hk | hk
        · exact hd k (List.mem_append.2 (.inl hk))
        · exact hd k (List.mem_append.2 (.inr (come_mem hlt k hk)))
      have HK0 := Lib.hid hK0
      clear hloop2 hbD hkD hF hD1 hD2 hD3 hD4 hD5 hD6 hsD hrlt hK0 HLOOP
      go_wp2_with fail
      clear hpD1 hpD2 hpD3 hpD4 hpD5 hpD6 hrg2 hnx
      generalize wr.heap.size = m2 at *
      generalize D6.heap.size = i2 at *
      go_loopw [4] (fun _ wr => ∃ js2, RulesLoop w r m2 i2 ([11, 8, 7] ++ come K1 js) K2 js2 wr) (fun _ wr => iterLeft wr i2)
      case atStart => exact ⟨[], HLOOP2.out⟩
      case round =>
        obtain ⟨js2, hst2⟩ := hrel
        have HST2 := Lib.hid hst2
        clear hst2
        rcases HST2.out.next (by decide) (by decide) HK0.out 0 with ⟨hall2, hnx2⟩ | ⟨k, W2, W3, hk, hnx2, hen2, hpu2, hlp2, hlt2⟩
        · have HALL2 := Lib.hid hall2
          clear hall2
          go_wp2_with fail
          go_ret
          refine ⟨r, rfl, ⟨_, ?_, HST2.out.rls⟩, HST2.out.far.2.2.2.1, HST2.out.keep⟩
          have h1 := come_all HALL.out
          have h2 := come_all HALL2.out
          exact ((h1.append_left [11, 8, 7]).append h2).trans (by decide)
        · have hrv : ruleV k = .agg #[.int .i64 k, .bool true, .func (.func 76) #[] #[], .func (.func 77) #[] #[]] := by
            simp only [K2, List.mem_cons, List.mem_nil_iff, or_false] at hk
            rcases hk with rfl | rfl | rfl | rfl | rfl | rfl <;> rfl
          rw [hrv] at hpu2
          obtain ⟨j, hlp2⟩ := hlp2
          have HLP := Lib.hid hlp2
          have HLT := Lib.hid hlt2
          clear hrv hlp2 hlt2 hk
          go_wp2_with fail
          exact ⟨⟨_, HLP.out⟩, HLT.out⟩
    · have hrv : ruleV k = .agg #[.int .i64 k, .bool false, .func (.func 76) #[] #[], .func (.func 77) #[] #[]] := by
        simp only [K1, List.mem_cons, List.mem_nil_iff, or_false] at hk
        rcases hk with rfl | rfl | rfl <;> rfl
      rw [hrv] at hpu
      obtain ⟨j, hlp⟩ := hlp
      have HLP := Lib.hid hlp
      have HLT := Lib.hid hlt
      clear hrv hlp hlt hk
      go_wp2_with fail
      exact ⟨⟨_, HLP.out⟩, HLT.out⟩
end Go.Proofs.YtifliekahdgobaaGreatDoor
namespace Go.Proofs.YtifliekahdgobaaGreatDoor
open Go.RowKit Sp

set_option maxRecDepth 100000 in
theorem write67_any (c : Array Value) (w : World) : Calls Tryz.prog 67 #[.agg c] w (Gives (sv []) w) := by
  go_enter Tryz.func67, Tryz.ntmps67
  go_wp2_with fail
  go_ret
  exact ⟨rfl, (Keep.refl _ w).alloc _⟩
theorem join_watch_le {x : WatchS} (h : MidWatch x) : (join (watchWords x)).length ≤ 50000000 := by
  have h1 : ∀ y ∈ watchWords x, y.length ≤ 2000001 := by
    have := hexText_len x.key; have := hexText_len x.fin
    have := itoa_len x.id; have := itoa_len x.start
    have := h.key; have := h.fin
    have hm : (markText lPndg [x.prev, x.noPut, x.noDelete, x.progress]).length ≤ 5 := markText_len lPndg _
    unfold watchWords
    intro y hy
    simp only [List.mem_cons, List.mem_nil_iff, or_false] at hy
    rcases hy with rfl | rfl | rfl | rfl | rfl <;> omega
  have h2 := join_len (watchWords x) 2000001 h1
  unfold watchWords at h2 ⊢
  simp only [List.length_cons, List.length_nil] at h2
  omega
set_option maxRecDepth 100000 in
theorem write70_any (s : StepS) (vc vt ve : Value) (hm : MidWatch s.watch) (w : World) (hg : Glob w) : Calls Tryz.prog 70 #[.agg (stepCells s vc vt ve)] w (Gives (sv (32 :: join (watchWords s.watch))) w) := by
  obtain ⟨cs, hcs⟩ : ∃ cs, cs = stepCells s vc vt ve := ⟨_, rfl⟩
  obtain ⟨W, hW⟩ : ∃ W : World, W = w.alloc (.cells cs 63) := ⟨_, rfl⟩
  have hkW : Keep (fun _ => False) w W := by rw [hW]; exact (Keep.refl _ w).alloc _
  have hB : StepBlk W w.heap.size s vc vt ve := ⟨by rw [hW, ← hcs]; exact block_new _ _⟩
  have hld := hB.watch
  have hl := join_watch_le hm
  have H := Lib.hid (watchText_any s.watch hm W (hg.far hkW))
  have HW := Lib.hid hW
  have HK := Lib.hid hkW
  rw [← hcs]
  clear hW hkW hB hg hm hcs
  generalize watchCells s.watch = cw at *
  generalize join (watchWords s.watch) = t at *
  rw [HW.out] at hld
  have H2 := H.out
  rw [HW.out] at H2
  have H := Lib.hid H2
  have HK2 := HK.out
  rw [HW.out] at HK2
  have HK := Lib.hid HK2
  clear H2 HK2 HW
  go_enter Tryz.func70, Tryz.ntmps70
  go_wp2_with fail
  refine H.out.mono ?_
  rintro e w1 ⟨rfl, hk⟩
  have HK1 := Lib.hid hk
  clear hk
  go_wp2_with fail
  go_ret
  refine ⟨?_, HK.out.trans' HK1.out⟩
  first | exact congrArg Ending.returned (congrArg Value.string (ba_cons _)) | rfl
theorem join_req_le {r : ReqS} (h : MidReq r) : (join (reqWords r)).length ≤ 900000000 := by
  have lop : ∀ x : OpS, MidOp x → ∀ y ∈ Sp.opWords x, y.length ≤ 2000001 := fun x hx y hy => by
    have := hexText_len x.key; have := hexText_len x.fin; have := hexText_len x.val
    have := itoa_len x.rev; have := itoa_len x.limit
    have := hx.key; have := hx.fin; have := hx.val
    have hm1 : (markText lCk [x.count, x.keys]).length ≤ 3 := markText_len lCk _
    have hm2 : (markText lP [x.prev]).length ≤ 2 := markText_len lP _
    unfold Sp.opWords at hy
    split at hy
    · simp only [List.mem_cons, List.mem_nil_iff, or_false] at hy
      rcases hy with rfl | rfl | rfl | rfl | rfl | rfl
      · simp [wRange]
      all_goals omega
    · split at hy
      · simp only [List.mem_cons, List.mem_nil_iff, or_false] at hy
        rcases hy with rfl | rfl | rfl | rfl
        · simp [wPut]
        all_goals omega
      · simp only [List.mem_cons, List.mem_nil_iff, or_false] at hy
        rcases hy with rfl | rfl | rfl | rfl
        · simp [wDel]
        all_goals omega
  have l7 : ∀ x : OpS, (Sp.opWords x).length ≤ 6 := fun x => by
    unfold Sp.opWords
    split
    · simp
    · split <;> simp
  have hkd : (kinds.getD r.kind.toNat []).length ≤ 7 := by
    rcases (by omega : r.kind.toNat = 0 ∨ r.kind.toNat = 1 ∨ r.kind.toNat = 2 ∨ r.kind.toNat = 3 ∨ 4 ≤ r.kind.toNat) with e | e | e | e | e
    · rw [e]; decide
    · rw [e]; decide
    · rw [e]; decide
    · rw [e]; decide
    · rw [List.getD_eq_getElem?_getD, List.getElem?_eq_none (by exact e)]; simp
  have h1 : ∀ y ∈ reqWords r, y.length ≤ 2000001 := by
    intro y hy
    unfold reqWords at hy
    rw [List.mem_append, List.mem_append, List.mem_append] at hy
    rcases hy with ((hy | hy) | hy) | hy
    · have := itoa_len r.client; have := itoa_len r.num; have := itoa_len r.rev
      have hm1 : (markText lS [r.serial]).length ≤ 2 := markText_len lS _
      simp only [List.mem_cons, List.mem_nil_iff, or_false] at hy
      rcases hy with rfl | rfl | rfl | rfl | rfl <;> omega
    · obtain ⟨c, hc, hy⟩ := List.mem_flatMap.1 hy
      have hx := h.cmps c hc
      have := hexText_len c.key; have := hexText_len c.val
      have := itoa_len c.what; have := itoa_len c.how; have := itoa_len c.n
      have := hx.key; have := hx.val
      unfold cmpWords at hy
      simp only [List.mem_cons, List.mem_nil_iff, or_false] at hy
      rcases hy with rfl | rfl | rfl | rfl | rfl | rfl
      · simp [wIf]
      all_goals omega
    · obtain ⟨x, hx, hy⟩ := List.mem_flatMap.1 hy
      rcases List.mem_cons.1 hy with rfl | hy
      · simp [wThen]
      · exact lop x (h.thn x hx) y hy
    · obtain ⟨x, hx, hy⟩ := List.mem_flatMap.1 hy
      rcases List.mem_cons.1 hy with rfl | hy
      · simp [wElse]
      · exact lop x (h.els x hx) y hy
  have h2 := join_len (reqWords r) 2000001 h1
  have lf : ∀ (w : Str) (l : List OpS), (l.flatMap fun x => w :: Sp.opWords x).length ≤ 7 * l.length := fun w l => by
    induction l with
    | nil => simp
    | cons x l ih => rw [List.flatMap_cons, List.length_append, List.length_cons, List.length_cons]; have := l7 x; omega
  have h3 : (reqWords r).length ≤ 405 := by
    have h4 := lf wThen r.thn
    have h5 := lf wElse r.els
    have h6 := flat6 r.cmps
    have := h.lc; have := h.lt; have := h.le
    unfold reqWords
    simp only [List.length_append, List.length_cons, List.length_nil]
    omega
  have h4 := Nat.mul_le_mul_right (2000001 + 1) h3
  omega
set_option maxRecDepth 100000 in
theorem write74_any (s : StepS) (vc vt ve : Value) (hm : MidReq s.req) (w : World) (hg : Glob w) (hr : ReqRead w s.req vc vt ve) :
    Calls Tryz.prog 74 #[.agg (stepCells s vc vt ve)] w (GotText (32 :: join (reqWords s.req)) (okKind s.req) w) := by
  obtain ⟨cs, hcs⟩ : ∃ cs, cs = stepCells s vc vt ve := ⟨_, rfl⟩
  obtain ⟨W, hW⟩ : ∃ W : World, W = w.alloc (.cells cs 63) := ⟨_, rfl⟩
  have hkW : Keep (fun _ => False) w W := by rw [hW]; exact (Keep.refl _ w).alloc _
  have hB : StepBlk W w.heap.size s vc vt ve := ⟨by rw [hW, ← hcs]; exact block_new _ _⟩
  have hld := hB.req
  have hl := join_req_le hm
  have H := Lib.hid (reqText_any s.req vc vt ve hm W (hg.far hkW) (hr.far hkW))
  have HW := Lib.hid hW
  have HK := Lib.hid hkW
  rw [← hcs]
  clear hW hkW hB hg hm hcs hr
  generalize reqCells s.req vc vt ve = cr at *
  generalize join (reqWords s.req) = t at *
  rw [HW.out] at hld
  have H2 := H.out
  rw [HW.out] at H2
  have H := Lib.hid H2
  have HK2 := HK.out
  rw [HW.out] at HK2
  have HK := Lib.hid HK2
  clear H2 HK2 HW
  go_enter Tryz.func74, Tryz.ntmps74
  go_wp2_with fail
  refine H.out.mono ?_
  rintro e w1 ⟨hk, ⟨ho, rfl⟩ | ⟨ho, rfl⟩⟩
  · have HK1 := Lib.hid hk
    have HO := Lib.hid ho
    clear hk ho
    go_wp2_with fail
    go_ret
    refine ⟨HK.out.trans' HK1.out, .inl ⟨HO.out, ?_⟩⟩
    first | exact congrArg Ending.returned (congrArg Value.string (ba_cons _)) | rfl
  · exact ⟨rfl, HK.out.trans' hk, .inr ⟨ho, rfl⟩⟩
/-- what a kind's writing comes to -/
theorem write_any (k : Nat) (s : StepS) (vc vt ve : Value) (hm : MidStep s) (w : World) (hg : Glob w) (hr : ReqRead w s.req vc vt ve) :
    Calls Tryz.prog (writeF k) #[.agg (stepCells s vc vt ve)] w (GotText (bodyText k s) (bodyOk k s) w) := by
  unfold writeF bodyText bodyOk
  by_cases h11 : k = 11
  · subst h11
    exact (write67_any _ w).mono fun e w' h => ⟨h.2, .inl ⟨rfl, h.1⟩⟩
  · rw [if_neg h11, if_neg h11]
    by_cases h8 : k = 8
    · subst h8
      exact (write70_any s vc vt ve hm.watch w hg).mono fun e w' h => ⟨h.2, .inl ⟨rfl, h.1⟩⟩
    · rw [if_neg h8, if_neg h8]
      by_cases h7 : k = 7
      · subst h7
        exact write74_any s vc vt ve hm.req w hg hr
      · rw [if_neg h7, if_neg h7, if_neg h7]
        exact (writeN_any s vc vt ve hm w hg).mono fun e w' h => ⟨h.2, .inl ⟨rfl, h.1⟩⟩
end Go.Proofs.YtifliekahdgobaaGreatDoor
namespace Go.Proofs.YtifliekahdgobaaGreatDoor
open Sp

theorem hmost : most = 999999999999999999 := rfl
theorem okOp_mid {x : OpS} (h : okOp x = true) : MidOp x ∧ x.key.length ≤ 40 ∧ x.fin.length ≤ 40 ∧ x.val.length ≤ 40 := by
  have hm := hmost
  unfold okOp at h
  simp only [Bool.and_eq_true, okBytes_iff] at h
  obtain ⟨hk, h⟩ := h
  split at h
  · simp only [Bool.and_eq_true, okBytes_iff, okNum_iff, beq_iff_eq] at h
    obtain ⟨⟨⟨⟨h1, h2⟩, h3⟩, h4⟩, -⟩ := h
    rw [h2]
    exact ⟨⟨by omega, by omega, by rw [h2]; simp, by omega, by omega, by omega, by omega⟩, hk, h1, by simp⟩
  · split at h
    · simp only [Bool.and_eq_true, okBytes_iff, okNum_iff, beq_iff_eq] at h
      obtain ⟨⟨⟨⟨⟨h1, h2⟩, h3⟩, h4⟩, -⟩, -⟩ := h
      rw [h2]
      exact ⟨⟨by omega, by rw [h2]; simp, by omega, by omega, by omega, by omega, by omega⟩, hk, by simp, h1⟩
    · simp only [Bool.and_eq_true, okBytes_iff, okNum_iff, beq_iff_eq] at h
      obtain ⟨⟨⟨⟨⟨⟨h0, h1⟩, h2⟩, h3⟩, h4⟩, -⟩, -⟩ := h
      rw [h2]
      exact ⟨⟨by omega, by omega, by rw [h2]; simp, by omega, by omega, by omega, by omega⟩, hk, h1, by simp⟩
theorem okCmp_mid {x : CmpS} (h : okCmp x = true) : MidCmp x ∧ x.key.length ≤ 40 ∧ x.val.length ≤ 40 := by
  have hm := hmost
  unfold okCmp at h
  simp only [Bool.and_eq_true, okBytes_iff, okNum_iff, okSmall_iff] at h
  obtain ⟨⟨⟨⟨h1, h2⟩, h3⟩, h4⟩, h5⟩ := h
  exact ⟨⟨by omega, by omega, by omega, by omega, by omega, by omega, by omega, by omega⟩, h4, h5⟩
theorem okReq_parts {r : ReqS} (h : okReq r = true) : MidReq r ∧ r.cmps.length ≤ 8 ∧ r.thn.length ≤ 10 ∧ r.els.length ≤ 10 ∧ (∀ x ∈ r.cmps, okCmp x = true) ∧ (∀ x ∈ r.thn, okOp x = true) ∧ (∀ x ∈ r.els, okOp x = true) := by
  have hm := hmost
  unfold okReq okParts at h
  simp only [Bool.and_eq_true, okNum_iff, decide_eq_true_eq, List.all_eq_true] at h
  obtain ⟨⟨⟨⟨⟨⟨⟨⟨h1, h2⟩, h3⟩, h4⟩, h5⟩, h6⟩, h7⟩, h8⟩, h9⟩ := h
  exact ⟨⟨by omega, by omega, by omega, by omega, by omega, by omega, by omega, by omega, by omega, fun x hx => (okCmp_mid (h7 x hx)).1, fun x hx => (okOp_mid (h8 x hx)).1, fun x hx => (okOp_mid (h9 x hx)).1⟩, by omega, by omega, by omega, h7, h8, h9⟩
theorem mid_req_zero : MidReq ReqS.zero := ⟨by decide, by decide, by decide, by decide, by decide, by decide, by decide, by decide, by decide, fun x hx => (by cases hx), fun x hx => (by cases hx), fun x hx => (by cases hx)⟩
theorem mid_watch_zero : MidWatch WatchS.zero := ⟨by decide, by decide, by decide, by decide, by decide, by decide⟩
theorem ok_mid {s : StepS} (h : okStep s = true) : MidStep s := by
  have hm := hmost
  obtain ⟨h0, h1, h2⟩ := (okStep_iff s).1 h
  have hn : -9223372036854775808 ≤ s.node ∧ s.node ≤ 9223372036854775807 := by
    unfold okNode at h1
    split at h1
    · rw [okSmall_iff] at h1; omega
    · rw [beq_iff_eq] at h1; omega
  unfold okBody at h2
  split at h2
  · simp only [Bool.and_eq_true, beq_iff_eq] at h2
    obtain ⟨⟨e1, e2⟩, e3⟩ := h2
    exact ⟨by omega, by omega, hn.1, hn.2, by omega, by omega, by rw [e2]; decide, by rw [e2]; decide, by rw [e2]; exact mid_req_zero, by rw [e3]; exact mid_watch_zero⟩
  · split at h2
    · simp only [Bool.and_eq_true, beq_iff_eq] at h2
      obtain ⟨⟨e1, e2⟩, e3⟩ := h2
      unfold okWatch at e3
      simp only [Bool.and_eq_true, okBytes_iff, okNum_iff] at e3
      obtain ⟨⟨⟨w1, w2⟩, w3⟩, w4⟩ := e3
      exact ⟨by omega, by omega, hn.1, hn.2, by omega, by omega, by rw [e2]; decide, by rw [e2]; decide, by rw [e2]; exact mid_req_zero, ⟨by omega, by omega, by omega, by omega, by omega, by omega⟩⟩
    · split at h2
      · simp only [Bool.and_eq_true, beq_iff_eq] at h2
        obtain ⟨⟨e1, e2⟩, e3⟩ := h2
        have hk : 0 ≤ s.req.kind ∧ s.req.kind ≤ 3 := by
          unfold okReq at e2
          simp only [Bool.and_eq_true, decide_eq_true_eq] at e2
          omega
        exact ⟨by omega, by omega, hn.1, hn.2, by omega, by omega, by omega, by omega, (okReq_parts e2).1, by rw [e3]; exact mid_watch_zero⟩
      · simp only [Bool.and_eq_true, beq_iff_eq, okNum_iff] at h2
        obtain ⟨⟨e1, e2⟩, e3⟩ := h2
        exact ⟨by omega, by omega, hn.1, hn.2, by omega, by omega, by rw [e2]; decide, by rw [e2]; decide, by rw [e2]; exact mid_req_zero, by rw [e3]; exact mid_watch_zero⟩
/-! ### how long a text is -/
theorem hex_short {s : Str} (h : s.length ≤ 40) : (hexText s).length ≤ 100 := by have := hexText_len s; omega
theorem mark_short {ls : Str} (h : ls.length ≤ 4) (is : List Bool) : (markText ls is).length ≤ 100 := by have := markText_len ls is; omega
theorem op_short {x : OpS} (h : okOp x = true) : (∀ y ∈ Sp.opWords x, y.length ≤ 100) ∧ (Sp.opWords x).length ≤ 6 := by
  obtain ⟨-, h1, h2, h3⟩ := okOp_mid h
  unfold Sp.opWords
  split
  · refine ⟨?_, by simp⟩
    simp only [List.mem_cons, List.mem_nil_iff, or_false]
    rintro y (rfl | rfl | rfl | rfl | rfl | rfl)
    · decide
    · exact hex_short h1
    · exact hex_short h2
    · exact itoa_len _
    · exact itoa_len _
    · exact mark_short (by decide) _
  · split
    · refine ⟨?_, by simp⟩
      simp only [List.mem_cons, List.mem_nil_iff, or_false]
      rintro y (rfl | rfl | rfl | rfl)
      · decide
      · exact hex_short h1
      · exact hex_short h3
      · exact mark_short (by decide) _
    · refine ⟨?_, by simp⟩
      simp only [List.mem_cons, List.mem_nil_iff, or_false]
      rintro y (rfl | rfl | rfl | rfl)
      · decide
      · exact hex_short h1
      · exact hex_short h2
      · exact mark_short (by decide) _
theorem cmp_short {x : CmpS} (h : okCmp x = true) : (∀ y ∈ cmpWords x, y.length ≤ 100) ∧ (cmpWords x).length ≤ 6 := by
  obtain ⟨-, h1, h2⟩ := okCmp_mid h
  unfold cmpWords
  refine ⟨?_, by simp⟩
  simp only [List.mem_cons, List.mem_nil_iff, or_false]
  rintro y (rfl | rfl | rfl | rfl | rfl | rfl)
  · decide
  · exact itoa_len _
  · exact itoa_len _
  · exact itoa_len _
  · exact hex_short h1
  · exact hex_short h2
theorem flat_short {α : Type} (f : α → List Str) (n : Nat) : ∀ l : List α, (∀ x ∈ l, (∀ y ∈ f x, y.length ≤ 100) ∧ (f x).length ≤ n) → (∀ y ∈ l.flatMap f, y.length ≤ 100) ∧ (l.flatMap f).length ≤ l.length * n
  | [], _ => by simp
  | x :: l, h => by
    obtain ⟨h1, h2⟩ := flat_short f n l (fun x hx => h x (.tail _ hx))
    obtain ⟨h3, h4⟩ := h x (.head _)
    rw [List.flatMap_cons]
    refine ⟨fun y hy => ?_, ?_⟩
    · rcases List.mem_append.1 hy with hy | hy
      · exact h3 y hy
      · exact h1 y hy
    · rw [List.length_append, List.length_cons, Nat.add_mul, Nat.one_mul]
      omega
theorem req_short {r : ReqS} (h : okReq r = true) : (∀ y ∈ reqWords r, y.length ≤ 100) ∧ (reqWords r).length ≤ 200 := by
  obtain ⟨-, h1, h2, h3, h4, h5, h6⟩ := okReq_parts h
  have hk : 0 ≤ r.kind ∧ r.kind ≤ 3 := by
    unfold okReq at h
    simp only [Bool.and_eq_true, decide_eq_true_eq] at h
    omega
  have a1 := flat_short cmpWords 6 r.cmps (fun x hx => cmp_short (h4 x hx))
  have a2 := flat_short (fun x => wThen :: Sp.opWords x) 7 r.thn (fun x hx => ⟨fun y hy => by
    rcases List.mem_cons.1 hy with rfl | hy
    · decide
    · exact (op_short (h5 x hx)).1 y hy, by have := (op_short (h5 x hx)).2; simp only [List.length_cons]; omega⟩)
  have a3 := flat_short (fun x => wElse :: Sp.opWords x) 7 r.els (fun x hx => ⟨fun y hy => by
    rcases List.mem_cons.1 hy with rfl | hy
    · decide
    · exact (op_short (h6 x hx)).1 y hy, by have := (op_short (h6 x hx)).2; simp only [List.length_cons]; omega⟩)
  unfold reqWords
  refine ⟨fun y hy => ?_, ?_⟩
  · rcases List.mem_append.1 hy with hy | hy
    · rcases List.mem_append.1 hy with hy | hy
      · rcases List.mem_append.1 hy with hy | hy
        · simp only [List.mem_cons, List.mem_nil_iff, or_false] at hy
          rcases hy with rfl | rfl | rfl | rfl | rfl
          · have hall : ∀ k < 4, (kinds.getD k []).length ≤ 100 := by decide
            exact hall _ (by omega)
          · exact itoa_len _
          · exact itoa_len _
          · exact mark_short (by decide) _
          · exact itoa_len _
        · exact a1.1 y hy
      · exact a2.1 y hy
    · exact a3.1 y hy
  · simp only [List.length_append, List.length_cons, List.length_nil]
    omega
theorem step_short {s : StepS} (h : okStep s = true) : (stepText s).length ≤ 30000 := by
  obtain ⟨h0, h1, h2⟩ := (okStep_iff s).1 h
  have hb : (∀ y ∈ bodyWords s, y.length ≤ 100) ∧ (bodyWords s).length ≤ 200 := by
    unfold bodyWords
    unfold okBody at h2
    by_cases k1 : s.kind = 11
    · rw [if_pos k1]; simp
    · rw [if_neg k1] at h2 ⊢
      by_cases k2 : s.kind = 8
      · rw [if_pos k2] at h2 ⊢
        simp only [Bool.and_eq_true] at h2
        obtain ⟨-, e3⟩ := h2
        unfold okWatch at e3
        simp only [Bool.and_eq_true, okBytes_iff] at e3
        obtain ⟨⟨⟨w1, w2⟩, w3⟩, w4⟩ := e3
        unfold watchWords
        refine ⟨?_, by simp⟩
        simp only [List.mem_cons, List.mem_nil_iff, or_false]
        rintro y (rfl | rfl | rfl | rfl | rfl)
        · exact itoa_len _
        · exact hex_short w2
        · exact hex_short w3
        · exact itoa_len _
        · exact mark_short (by decide) _
      · rw [if_neg k2] at h2 ⊢
        by_cases k3 : s.kind = 7
        · rw [if_pos k3] at h2 ⊢
          simp only [Bool.and_eq_true] at h2
          exact req_short h2.1.2
        · rw [if_neg k3]
          refine ⟨?_, by simp⟩
          simp only [List.mem_cons, List.mem_nil_iff, or_false]
          rintro y rfl
          exact itoa_len _
  have hn : (∀ y ∈ nodeWords s, y.length ≤ 100) ∧ (nodeWords s).length ≤ 1 := by
    unfold nodeWords
    split
    · refine ⟨?_, by simp⟩
      simp only [List.mem_cons, List.mem_nil_iff, or_false]
      rintro y rfl
      exact itoa_len _
    · simp
  have hw : ∀ y ∈ stepWords s, y.length ≤ 100 := by
    unfold stepWords
    intro y hy
    rcases List.mem_cons.1 hy with rfl | hy
    · have hall : ∀ k < 12, (names.getD k []).length ≤ 100 := by decide
      exact hall _ (by omega)
    · rcases List.mem_append.1 hy with hy | hy
      · exact hn.1 y hy
      · exact hb.1 y hy
  have hl : (stepWords s).length ≤ 202 := by
    unfold stepWords
    simp only [List.length_cons, List.length_append]
    omega
  have := join_len (stepWords s) 100 hw
  unfold stepText
  omega
theorem lines_short : ∀ l : List StepS, l.all okStep = true → (l.flatMap stepLine).length ≤ l.length * 30001
  | [], _ => by simp
  | x :: l, h => by
    simp only [List.all_cons, Bool.and_eq_true] at h
    have h1 := lines_short l h.2
    have h2 := step_short h.1
    rw [List.flatMap_cons, List.length_append, List.length_cons, Nat.add_mul, Nat.one_mul]
    have h3 : (stepLine x).length = (stepText x).length + 1 := by simp [stepLine]
    omega
theorem text_short {s : ScriptS} (h : okScript s = true) : (text s).length ≤ 1000000000 := by
  obtain ⟨-, h1, h2⟩ := (okScript_iff s).1 h
  have h3 := lines_short s.steps h2
  have h4 := itoa_len s.nodes
  unfold text nodesLine
  simp only [List.length_append, List.length_cons, List.length_nil]
  have : wNodes.length = 5 := rfl
  omega
end Go.Proofs.YtifliekahdgobaaGreatDoor
namespace Go.Proofs.YtifliekahdgobaaGreatDoor
open Sp

/-! ### each kind's line -/
def headK : Str := [110, 111, 100, 101, 115, 32, 55, 10]
def joinK : Str := Lib.join lines18 [10]
def textK : Str := headK ++ joinK ++ [10]
def scriptK : ScriptS := ⟨7, (List.range 18).map stepAt⟩
theorem scriptK_ok : okScript scriptK = true := by kernel_rfl
theorem textK_eq : text scriptK = textK := by kernel_rfl
theorem parseK : parse textK = .ok scriptK := by rw [← textK_eq]; exact parse_text _ scriptK_ok
theorem joinK_len : joinK.length ≤ 2000 := by decide +kernel
/-- the last line's request -/
def lastK : ReqS := ⟨0, 1, 1, true, [⟨[97], 0, 9, 5, []⟩, ⟨[], 3, 1, 0, [98]⟩], [⟨0, [97], [0], [], 7, 2, true, true, false⟩, ⟨2, [97], [], [], 0, 0, false, false, true⟩], [⟨1, [97], [], [], 0, 0, false, false, false⟩], 0⟩
theorem lastK_eq : stepAt 17 = ⟨7, 0, 0, lastK, .zero⟩ := by kernel_rfl
theorem stepsK_len : ((List.range 18).map stepAt).length = 18 := by simp
theorem stepsK_last : ((List.range 18).map stepAt)[17]'(by simp) = ⟨7, 0, 0, lastK, .zero⟩ := by rw [List.getElem_map, List.getElem_range]; exact lastK_eq

/-! ### broken lines -/
def head3 : Str := [110, 111, 100, 101, 115, 32, 51, 10]
def bads : List Str := [[100, 101, 108, 105, 118, 101, 114], [100, 101, 108, 105, 118, 101, 114, 32, 49, 32, 50], [100, 101, 108, 105, 118, 101, 114, 32, 45, 49], [100, 101, 108, 105, 118, 101, 114, 32, 48, 49], [100, 101, 108, 105, 118, 101, 114, 32, 49, 48, 48, 48, 48, 48, 48, 48, 48, 48, 48, 48, 48, 48, 48, 48, 48, 48, 48], [116, 105, 99, 107, 32, 48], [116, 105, 99, 107, 32, 49, 48, 32, 49], [116, 105, 99, 107, 32, 48, 32, 49, 32, 49], [100, 101, 102, 114, 97, 103], [100, 101, 102, 114, 97, 103, 32, 48, 32, 49], [119, 97, 116, 99, 104, 32, 48, 32, 49, 32, 54, 49, 32, 54, 50, 32, 51], [119, 97, 116, 99, 104, 32, 48, 32, 49, 32, 54, 49, 32, 54, 50, 32, 51, 32, 110, 112], [119, 97, 116, 99, 104, 32, 48, 32, 49, 32, 54, 49, 32, 54, 50, 32, 51, 32, 112, 112], [119, 97, 116, 99, 104, 32, 48, 32, 49, 32, 54, 32, 54, 50, 32, 51, 32, 45], [119, 97, 116, 99, 104, 32, 48, 32, 49, 32, 54, 71, 32, 54, 50, 32, 51, 32, 45], [119, 97, 116, 99, 104, 32, 48, 32, 49, 32, 54, 49, 32, 54, 50, 32, 51, 32, 120], [97, 115, 107, 32, 48, 32, 102, 108, 121, 32, 48, 32, 48, 32, 45, 32, 48], [97, 115, 107, 32, 48, 32, 116, 120, 110, 32, 48, 32, 48, 32, 120, 32, 48], [97, 115, 107, 32, 48, 32, 116, 120, 110, 32, 48, 32, 48, 32, 45], [97, 115, 107, 32, 48, 32, 116, 120, 110, 32, 48, 32, 48, 32, 45, 32, 48, 32, 112, 117, 116, 32, 54, 49, 32, 54, 49, 32, 45], [97, 115, 107, 32, 48, 32, 116, 120, 110, 32, 48, 32, 48, 32, 45, 32, 48, 32, 116, 104, 101, 110, 32, 102, 108, 121], [97, 115, 107, 32, 48, 32, 116, 120, 110, 32, 48, 32, 48, 32, 45, 32, 48, 32, 116, 104, 101, 110, 32, 112, 117, 116, 32, 54, 49, 32, 54, 49], [97, 115, 107, 32, 48, 32, 116, 120, 110, 32, 48, 32, 48, 32, 45, 32, 48, 32, 105, 102, 32, 49, 48, 32, 48, 32, 48, 32, 45, 32, 45], [97, 115, 107, 32, 48, 32, 116, 120, 110, 32, 48, 32, 48, 32, 45, 32, 48, 32, 116, 104, 101, 110, 32, 112, 117, 116, 32, 54, 49, 32, 54, 49, 32, 45, 32, 105, 102, 32, 48, 32, 48, 32, 48, 32, 45, 32, 45], [97, 115, 107, 32, 48, 32, 116, 120, 110, 32, 48, 32, 48, 32, 45, 32, 48, 32, 101, 108, 115, 101, 32, 112, 117, 116, 32, 54, 49, 32, 54, 49, 32, 45, 32, 116, 104, 101, 110, 32, 112, 117, 116, 32, 54, 49, 32, 54, 49, 32, 45], [110, 111, 100, 101, 115, 32, 51], [119, 97, 116, 99, 104, 32, 48, 32, 49, 32] ++ Lib.repeatL [54, 49] 41 ++ [32, 45, 32, 48, 32, 45], [97, 115, 107, 32, 48, 32, 116, 120, 110, 32, 48, 32, 48, 32, 45, 32, 48] ++ Lib.repeatL [32, 105, 102, 32, 48, 32, 48, 32, 48, 32, 45, 32, 45] 9, [97, 115, 107, 32, 48, 32, 116, 120, 110, 32, 48, 32, 48, 32, 45, 32, 48] ++ Lib.repeatL [32, 116, 104, 101, 110, 32, 112, 117, 116, 32, 45, 32, 45, 32, 45] 11, [97, 115, 107, 32, 48, 32, 116, 120, 110, 32, 48, 32, 48, 32, 45, 32, 48] ++ Lib.repeatL [32, 101, 108, 115, 101, 32, 112, 117, 116, 32, 45, 32, 45, 32, 45] 11]
def isErr (o : Except (Int × Nat) ScriptS) (c : Int) (n : Nat) : Bool := match o with
  | .error e => decide (e = (c, n))
  | .ok _ => false
theorem isErr_eq {o : Except (Int × Nat) ScriptS} {c : Int} {n : Nat} (h : isErr o c n = true) : o = .error (c, n) := by
  cases o with
  | error e => rw [show e = (c, n) from of_decide_eq_true h]
  | ok s => cases h
theorem bads_all : (bads.all fun x => isErr (parse (head3 ++ x)) 4 1 && decide (x.length ≤ 1000)) = true := by kernel_rfl
theorem bad_ok {x : Str} (h : x ∈ bads) : parse (head3 ++ x) = .error (4, 1) ∧ x.length ≤ 1000 := by
  have := List.all_eq_true.1 bads_all x h
  simp only [Bool.and_eq_true, decide_eq_true_eq] at this
  exact ⟨isErr_eq this.1, this.2⟩
theorem bads_len : bads.length = 30 := rfl

/-! ### many -/
def dropOne : StepS := ⟨1, 0, 1, .zero, .zero⟩
def dropLine : Str := [100, 114, 111, 112, 32, 49, 10]
theorem dropLine_eq : stepLine dropOne = dropLine := by kernel_rfl
theorem drop_ok : okStep dropOne = true := by kernel_rfl
def headM : Str := [110, 111, 100, 101, 115, 32, 49, 10]
theorem headM_eq : headM = nodesLine 1 := by kernel_rfl
def manyM : Str := Lib.repeatL dropLine 4096
def stepsM : List StepS := List.replicate 4096 dropOne
theorem repeat_flat : ∀ n, (List.replicate n dropOne).flatMap stepLine = Lib.repeatL dropLine n
  | 0 => rfl
  | n + 1 => by rw [List.replicate_succ, List.flatMap_cons, repeat_flat n, dropLine_eq]; rfl
theorem all_rep : ∀ n, (List.replicate n dropOne).all okStep = true
  | 0 => rfl
  | n + 1 => by rw [List.replicate_succ, List.all_cons, all_rep n, drop_ok]; rfl
theorem stepsM_len : stepsM.length = 4096 := by unfold stepsM; rw [List.length_replicate]
theorem stepsM_all : stepsM.all okStep = true := by unfold stepsM; exact all_rep _
theorem stepsM_ok : okScript ⟨1, stepsM⟩ = true := (okScript_iff _).2 ⟨by decide, by show stepsM.length ≤ 4096; rw [stepsM_len]; decide, stepsM_all⟩
theorem flatM : stepsM.flatMap stepLine = manyM := by unfold stepsM manyM; exact repeat_flat _
theorem textM_eq : text ⟨1, stepsM⟩ = headM ++ manyM := by
  unfold text
  rw [headM_eq]
  exact congrArg (nodesLine 1 ++ ·) flatM
theorem parseM : parse (headM ++ manyM) = .ok ⟨1, stepsM⟩ := by rw [← textM_eq]; exact parse_text _ stepsM_ok
theorem manyM_len : manyM.length = 28672 := by
  unfold manyM
  rw [Lib.repeatL_length]
  rfl
theorem more_not : okScript ⟨1, stepsM ++ [⟨1, 0, 0, .zero, .zero⟩]⟩ = false := by
  cases h : okScript ⟨1, stepsM ++ [⟨1, 0, 0, .zero, .zero⟩]⟩
  · rfl
  · have := ((okScript_iff _).1 h).2.1
    simp only [List.length_append, stepsM_len, List.length_cons, List.length_nil] at this
    omega
/-- one line more than may be -/
theorem parse_more (x : Str) (hx : ∀ c ∈ x, c ≠ 10) (c : Int) (hw : line ⟨1, stepsM⟩ (words x) = .error c) : parse (headM ++ manyM ++ x) = .error (c, 4097) := by
  unfold parse
  rw [headM_eq, nodesLine_eq, List.append_assoc, List.append_assoc, List.singleton_append, splitNL_line _ _ (join_nl _ (good_nodes _)), ← flatM, splitNL_steps _ _ stepsM_all, splitNL_one _ hx, parseGo, words_nodes, line_nodes _ (by omega) (by omega)]
  dsimp only
  rw [parseGo_steps stepsM ⟨1, []⟩ 1 [x] stepsM_all (by decide) (by rw [stepsM_len]; decide), List.nil_append, parseGo, hw]
  dsimp only
  rw [stepsM_len]
def moreL : Str := [100, 114, 111, 112, 32, 49]
def moreF : Str := [100, 114, 111, 112]
theorem parse_moreL : parse (headM ++ manyM ++ moreL) = .error (3, 4097) := parse_more _ (by decide) _ (by
  have hl : lineStep (words moreL) = some dropOne := by kernel_rfl
  rw [show words moreL = [[100, 114, 111, 112], [49]] by kernel_rfl]
  simp only [line]
  rw [if_neg (by decide), show kindOf names [100, 114, 111, 112] = some 1 by kernel_rfl]
  dsimp only
  rw [show pstep 1 [[49]] = some dropOne by kernel_rfl]
  dsimp only
  rw [if_neg (by decide), if_pos (by rw [stepsM_len]; decide)])
theorem parse_moreF : parse (headM ++ manyM ++ moreF) = .error (4, 4097) := parse_more _ (by decide) _ (by
  rw [show words moreF = [[100, 114, 111, 112]] by kernel_rfl]
  simp only [line]
  rw [if_neg (by decide), show kindOf names [100, 114, 111, 112] = some 1 by kernel_rfl]
  dsimp only
  rw [show pstep 1 [] = none by kernel_rfl])
def wrong8 : Str := [110, 111, 100, 101, 115, 32, 56]
def wrongFly : Str := [110, 111, 100, 101, 115, 32, 49, 10, 102, 108, 121, 32, 49]
theorem parse_wrong8 : parse wrong8 = .error (4, 0) := isErr_eq (by kernel_rfl)
theorem parse_wrongFly : parse wrongFly = .error (19, 1) := isErr_eq (by kernel_rfl)

/-! ### steps that may not be -/
def reqNum (n : Int) : ReqS := ⟨0, 0, n, false, [], [], [], 0⟩
def reqKind (n : Int) : ReqS := ⟨n, 0, 0, false, [], [], [], 0⟩
def odd11 : OpS := ⟨1, [], [120], [], 0, 0, false, false, false⟩
def odd12 : OpS := ⟨0, [], [], [], 0, -1, false, false, false⟩
def odd13 : CmpS := ⟨[], 10, 0, 0, []⟩
def reqThen (x : OpS) : ReqS := ⟨0, 0, 0, false, [], [x], [], 0⟩
def reqCmps (x : CmpS) : ReqS := ⟨0, 0, 0, false, [x], [], [], 0⟩
def odds : List StepS := [⟨12, 0, 0, .zero, .zero⟩, ⟨-1, 0, 0, .zero, .zero⟩, ⟨1, 1, 0, .zero, .zero⟩, ⟨3, 10, 0, .zero, .zero⟩, ⟨3, -1, 0, .zero, .zero⟩, ⟨11, 0, 1, .zero, .zero⟩,
  ⟨3, 0, 0, .zero, ⟨1, [], [], 0, false, false, false, false⟩⟩, ⟨3, 0, 0, reqNum 1, .zero⟩, ⟨7, 0, 0, reqKind 4, .zero⟩, ⟨7, 0, 1, .zero, .zero⟩, ⟨1, 0, 1000000000000000000, .zero, .zero⟩, ⟨7, 0, 0, reqThen odd11, .zero⟩, ⟨7, 0, 0, reqThen odd12, .zero⟩, ⟨7, 0, 0, reqCmps odd13, .zero⟩]
theorem odds_len : odds.length = 14 := rfl
theorem odds_not : ∀ x ∈ odds, okScript ⟨1, [x]⟩ = false := by
  have h : (odds.all fun x => !okScript ⟨1, [x]⟩) = true := by kernel_rfl
  intro x hx
  simpa using List.all_eq_true.1 h x hx
def smallInt (n : Int) : Bool := decide (-9223372036854775808 ≤ n) && decide (n ≤ 9223372036854775807)
def smallUns (n : Int) : Bool := decide (0 ≤ n) && decide (n < 18446744073709551616)
def midOpB (x : OpS) : Bool := decide (x.key.length ≤ 1000000) && decide (x.fin.length ≤ 1000000) && decide (x.val.length ≤ 1000000) && smallUns x.rev && smallInt x.limit
def midCmpB (x : CmpS) : Bool := smallInt x.what && smallInt x.how && smallUns x.n && decide (x.key.length ≤ 1000000) && decide (x.val.length ≤ 1000000)
def midReqB (r : ReqS) : Bool := smallUns r.client && smallUns r.num && smallUns r.rev && decide (r.cmps.length ≤ 20) && decide (r.thn.length ≤ 20) && decide (r.els.length ≤ 20) && r.cmps.all midCmpB && r.thn.all midOpB && r.els.all midOpB
def midWatchB (x : WatchS) : Bool := smallUns x.id && decide (x.key.length ≤ 1000000) && decide (x.fin.length ≤ 1000000) && smallUns x.start
def midStepB (s : StepS) : Bool := smallInt s.kind && smallInt s.node && smallUns s.n && smallInt s.req.kind && midReqB s.req && midWatchB s.watch
theorem midOp_of {x : OpS} (h : midOpB x = true) : MidOp x := by
  unfold midOpB smallUns smallInt at h
  simp only [Bool.and_eq_true, decide_eq_true_eq] at h
  obtain ⟨⟨⟨⟨h1, h2⟩, h3⟩, h4⟩, h5⟩ := h
  exact ⟨h1, h2, h3, h4.1, h4.2, h5.1, h5.2⟩
theorem midCmp_of {x : CmpS} (h : midCmpB x = true) : MidCmp x := by
  unfold midCmpB smallUns smallInt at h
  simp only [Bool.and_eq_true, decide_eq_true_eq] at h
  obtain ⟨⟨⟨⟨h1, h2⟩, h3⟩, h4⟩, h5⟩ := h
  exact ⟨h1.1, h1.2, h2.1, h2.2, h3.1, h3.2, h4, h5⟩
theorem midReq_of {r : ReqS} (h : midReqB r = true) : MidReq r := by
  unfold midReqB smallUns at h
  simp only [Bool.and_eq_true, decide_eq_true_eq, List.all_eq_true] at h
  obtain ⟨⟨⟨⟨⟨⟨⟨⟨h1, h2⟩, h3⟩, h4⟩, h5⟩, h6⟩, h7⟩, h8⟩, h9⟩ := h
  exact ⟨h1.1, h1.2, h2.1, h2.2, h3.1, h3.2, h4, h5, h6, fun x hx => midCmp_of (h7 x hx), fun x hx => midOp_of (h8 x hx), fun x hx => midOp_of (h9 x hx)⟩
theorem midStep_of {s : StepS} (h : midStepB s = true) : MidStep s := by
  unfold midStepB midWatchB smallUns smallInt at h
  simp only [Bool.and_eq_true, decide_eq_true_eq] at h
  obtain ⟨⟨⟨⟨⟨h1, h2⟩, h3⟩, h4⟩, h5⟩, ⟨⟨h6, h7⟩, h8⟩, h9⟩ := h
  exact ⟨h1.1, h1.2, h2.1, h2.2, h3.1, h3.2, h4.1, h4.2, midReq_of h5, ⟨h6.1, h6.2, h7, h8, h9.1, h9.2⟩⟩
theorem odds_mid : ∀ x ∈ odds, MidStep x := by
  have h : (odds.all midStepB) = true := by kernel_rfl
  exact fun x hx => midStep_of (List.all_eq_true.1 h x hx)
theorem more_mid : ∀ x ∈ stepsM ++ [⟨1, 0, 0, .zero, .zero⟩], MidStep x := by
  intro x hx
  rcases List.mem_append.1 hx with hx | hx
  · exact ok_mid (List.all_eq_true.1 stepsM_all x hx)
  · rw [List.mem_singleton.1 hx]
    exact midStep_of (by kernel_rfl)
theorem none_not : okScript ⟨0, []⟩ = false := by kernel_rfl
theorem eight_not : okScript ⟨8, []⟩ = false := by kernel_rfl
end Go.Proofs.YtifliekahdgobaaGreatDoor
