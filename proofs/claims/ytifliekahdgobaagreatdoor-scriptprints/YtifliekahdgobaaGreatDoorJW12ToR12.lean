/-
  THE WALKS, 12: rules (printed by wip/tools/gen_rules.py). Helpers of the claims.
  A SCRIPT IN MEMORY. Helpers of the claims.
  THE WALKS, 13: Script.read. Helpers of the claims.
  THE REFERENCE's WALKS, 12: line, of a nodes line (printed by wip/tools/gen_rline.py). Helpers of the claims.
-/
import Derived.Test.YtifliekahdgobaaGreatDoorJW11
import Derived.Test.YtifliekahdgobaaGreatDoorJW10ToR11
set_option linter.unusedSimpArgs false
set_option linter.unusedVariables false
namespace Go.Proofs.YtifliekahdgobaaGreatDoor
open Go.RowKit Sp

/-- a kind's word -/
def nm (k : Nat) : Str := names.getD k []
theorem nm_inj : ∀ a, a < 12 → ∀ b, b < 12 → nm a = nm b → a = b := by decide
/-- rules by their kinds -/
def rl (K : List Nat) : List (Str × Value) := K.map fun k => (nm k, ruleV k)
/-- words and kinds -/
def wl (K : List Nat) : List (Str × Value) := K.map fun k => (nm k, .int .i64 k)
theorem wl_new {K : List Nat} {k : Nat} {f : Nat → Value} (hK : ∀ j ∈ K, j < 12) (hk : k < 12) (h : k ∉ K) : ∀ p ∈ K.map (fun k => (nm k, f k)), p.1 ≠ nm k := by
  intro p hp
  obtain ⟨j, hj, rfl⟩ := List.mem_map.1 hp
  intro e
  exact h (nm_inj j (hK j hj) k hk e ▸ hj)
theorem rl_append (K : List Nat) (k : Nat) : rl (K ++ [k]) = rl K ++ [(nm k, ruleV k)] := by simp [rl]
/-- all the rules are in block r, in some order -/
def RulesAt (w : World) (r : Nat) : Prop := ∃ K : List Nat, K.Perm (List.range 12) ∧ MapL (fun x : Str => sv x) w r (rl K)
theorem run_put148 (W : World) (K : List Nat) (k : Nat) (hK : ∀ j ∈ K, j < 12) (hk : k < 12) (h : k ∉ K) : (Instr.mapUpdate 148 (.map (some W.heap.size)) (sv (nm k)) (.int .i64 k)).run Tryz.prog (W.alloc (.map (mkE (fun x : Str => sv x) (wl K)) (wl K).length)) = .ok () (W.alloc (.map (mkE (fun x : Str => sv x) (wl (K ++ [k]))) (wl (K ++ [k])).length)) := by
  have := run_put_new strKeys Tryz.underlying148 Tryz.underlying9 W (wl K) (nm k) (.int .i64 k) (wl_new hK hk h)
  rw [show wl (K ++ [k]) = wl K ++ [(nm k, .int .i64 k)] by simp [wl]]
  exact this
theorem run_put82 (W : World) (K : List Nat) (k : Nat) (hK : ∀ j ∈ K, j < 12) (hk : k < 12) (h : k ∉ K) : (Instr.mapUpdate 82 (.map (some W.heap.size)) (sv (nm k)) (ruleV k)).run Tryz.prog (W.alloc (.map (mkE (fun x : Str => sv x) (rl K)) (rl K).length)) = .ok () (W.alloc (.map (mkE (fun x : Str => sv x) (rl (K ++ [k]))) (rl (K ++ [k])).length)) := by
  have := run_put_new strKeys Tryz.underlying82 Tryz.underlying9 W (rl K) (nm k) (ruleV k) (wl_new hK hk h)
  rw [rl_append]
  exact this
/-- what a map's ranging has yet to come to -/
def iterLeft (w : World) (it : Nat) : Nat := match w.heap[it]? with
  | some (Obj.mapIter _ n seen _) => (leftNo n seen).length
  | _ => 0
theorem iterLeft_eq {w : World} {it : Nat} {m : Option Nat} {n b : Nat} {seen : Array Nat} (h : w.heap[it]? = some (.mapIter m n seen b)) : iterLeft w it = (leftNo n seen).length := by
  unfold iterLeft
  rw [h]
/-- what has been seen of a list -/
structure Seen (K : List Nat) (seen : Array Nat) (js : List Nat) : Prop where
  eq : seen = js.toArray
  nodup : js.Nodup
  lt : ∀ j ∈ js, j < K.length
theorem Seen.zero (K : List Nat) : Seen K #[] [] := ⟨rfl, List.nodup_nil, by simp⟩
theorem leftNo_mem {n j : Nat} {seen : Array Nat} (h : j ∈ leftNo n seen) : j < n ∧ ¬ j ∈ seen.toList := by
  unfold leftNo at h
  rw [List.mem_filter] at h
  exact ⟨by simpa using h.1, by simpa using h.2⟩
theorem Seen.push {K : List Nat} {seen : Array Nat} {js : List Nat} {j : Nat} (h : Seen K seen js) (hj : j ∈ leftNo K.length seen) : Seen K (seen.push j) (js ++ [j]) ∧ ¬ j ∈ js := by
  obtain ⟨h1, h2⟩ := leftNo_mem hj
  have h3 : ¬ j ∈ js := by rw [h.eq] at h2; simpa using h2
  refine ⟨⟨by rw [h.eq]; simp, ?_, ?_⟩, h3⟩
  · rw [List.nodup_append]
    exact ⟨h.nodup, by simp, fun a ha b hb e => by simp at hb; subst hb; exact h3 (e ▸ ha)⟩
  · intro x hx
    rcases List.mem_append.1 hx with hx | hx
    · exact h.lt x hx
    · simp at hx; subst hx; exact h1
theorem Seen.all {K : List Nat} {seen : Array Nat} {js : List Nat} (h : Seen K seen js) (h0 : leftNo K.length seen = []) : js.Perm (List.range K.length) := by
  refine (List.perm_ext_iff_of_nodup h.nodup List.nodup_range).2 fun a => ?_
  rw [List.mem_range]
  constructor
  · exact h.lt a
  · intro ha
    by_cases hn : a ∈ js
    · exact hn
    · have : a ∈ leftNo K.length seen := by
        unfold leftNo
        rw [List.mem_filter]
        exact ⟨by simpa using ha, by rw [h.eq]; simpa using hn⟩
      rw [h0] at this
      cases this
/-- the kinds that have come -/
def come (K : List Nat) (js : List Nat) : List Nat := js.map fun j => K.getD j 0
theorem come_push (K js : List Nat) (j : Nat) : come K (js ++ [j]) = come K js ++ [K.getD j 0] := by simp [come]
theorem come_all {K js : List Nat} (h : js.Perm (List.range K.length)) : (come K js).Perm K := by
  have h1 := h.map fun j => K.getD j 0
  refine h1.trans (List.Perm.of_eq ?_)
  apply List.ext_getElem?
  intro i
  rw [List.getElem?_map]
  by_cases hi : i < K.length
  · simp [hi]
  · simp [hi]
theorem come_new {K js : List Nat} (hK : K.Nodup) {j : Nat} (hj : j < K.length) (hlt : ∀ x ∈ js, x < K.length) (h : ¬ j ∈ js) : ¬ K.getD j 0 ∈ come K js := by
  intro hm
  obtain ⟨x, hx, he⟩ := List.mem_map.1 hm
  have hx' := hlt x hx
  simp only [List.getD_eq_getElem?_getD, List.getElem?_eq_getElem hx', List.getElem?_eq_getElem hj, Option.getD_some] at he
  have hp := List.pairwise_iff_getElem.1 hK
  rcases Nat.lt_trichotomy x j with hlt' | rfl | hlt'
  · exact hp x j hx' hj hlt' he
  · exact h hx
  · exact hp j x hj hx' hlt' he.symm
theorem come_mem {K js : List Nat} (hlt : ∀ x ∈ js, x < K.length) : ∀ k ∈ come K js, k ∈ K := by
  intro k hk
  obtain ⟨x, hx, rfl⟩ := List.mem_map.1 hk
  have hx' := hlt x hx
  simp [List.getD_eq_getElem?_getD, List.getElem?_eq_getElem hx']
def K1 : List Nat := [0, 1, 2]
def K2 : List Nat := [3, 4, 5, 6, 9, 10]

/-- the state while a map of words is ranged over: K0 were in the map of rules before; js have come -/
structure RulesLoop (w : World) (r m it : Nat) (K0 K : List Nat) (js : List Nat) (wr : World) : Prop where
  keep : Keep (fun _ => False) w wr
  rls : MapL (fun x : Str => sv x) wr r (rl (K0 ++ come K js))
  wds : MapL (fun x : Str => sv x) wr m (wl K)
  iter : ∃ seen, Seen K seen js ∧ wr.heap[it]? = some (.mapIter (some m) K.length seen K.length)
  far : r ≠ m ∧ r ≠ it ∧ m ≠ it ∧ w.heap.size ≤ r ∧ w.heap.size ≤ m ∧ w.heap.size ≤ it
theorem wl_length (K : List Nat) : (wl K).length = K.length := by simp [wl]
/-- one step of the ranging -/
theorem RulesLoop.next {w : World} {r m it : Nat} {K0 K js : List Nat} {wr : World} (h : RulesLoop w r m it K0 K js wr) (hK : K.Nodup) (hK12 : ∀ k ∈ K, k < 12) (hK0 : ∀ k ∈ K0, k < 12 ∧ ¬ k ∈ K) (T0 : TypeId) :
    (js.Perm (List.range K.length) ∧ (Instr.next (.pointer (some ⟨it, 0, none⟩)) false T0).run Tryz.prog wr = .ok (.tuple #[.bool false]) wr) ∨
    ∃ k W2 W3, k ∈ K ∧ (Instr.next (.pointer (some ⟨it, 0, none⟩)) false T0).run Tryz.prog wr = .ok (.tuple #[.bool true, sv (nm k), .int .i64 k]) W2 ∧
      (Instr.entry (.pointer (some ⟨it, 0, none⟩))).run Tryz.prog W2 = .ok (.tuple #[sv (nm k), .int .i64 k]) W2 ∧
      (Instr.mapUpdate 82 (.map (some r)) (sv (nm k)) (ruleV k)).run Tryz.prog W2 = .ok () W3 ∧
      (∃ j, RulesLoop w r m it K0 K (js ++ [j]) W3) ∧ iterLeft W3 it < iterLeft wr it := by
  obtain ⟨seen, hs, hi⟩ := h.iter
  have hi' : wr.heap[it]? = some (.mapIter (some m) (wl K).length seen (wl K).length) := by rw [wl_length]; exact hi
  obtain ⟨f1, f2, f3, f4, f5, f6⟩ := h.far
  rcases run_next (enc := fun x : Str => sv x) wr m it (wl K) seen T0 h.wds hi' with ⟨h0, hr⟩ | ⟨j, p, w1, hp, hj, hw, hr⟩
  · left
    rw [wl_length] at h0
    exact ⟨hs.all h0, hr⟩
  · right
    have hk1 : Keep (fun _ => False) w w1 := by
      rcases hw with rfl | rfl
      · exact h.keep
      · exact h.keep.drew
    have hh : w1.heap = wr.heap := by rcases hw with rfl | rfl <;> rfl
    rw [wl_length] at hj
    obtain ⟨hs', hnew⟩ := hs.push hj
    obtain ⟨hjl, -⟩ := leftNo_mem hj
    have hget : K.getD j 0 = K[j] := by simp [List.getD_eq_getElem?_getD, List.getElem?_eq_getElem hjl]
    have hkm : K.getD j 0 ∈ K := by rw [hget]; exact List.getElem_mem hjl
    have hpe : p = (nm (K.getD j 0), .int .i64 (K.getD j 0 : Nat)) := by
      have : (wl K)[j]? = some (nm K[j], .int .i64 (K[j] : Nat)) := by simp [wl, List.getElem?_eq_getElem hjl]
      rw [this] at hp
      rw [hget]
      exact (Option.some.inj hp).symm
    subst hpe
    obtain ⟨W2, hW2⟩ : ∃ W2, W2 = setB w1 it (.mapIter (some m) (wl K).length (seen.push j) (wl K).length) := ⟨_, rfl⟩
    have hi2 : W2.heap[it]? = some (.mapIter (some m) (wl K).length (seen.push j) (wl K).length) := by rw [hW2]; exact setB_at (by rw [hh]; exact hi)
    have hw2 : MapL (fun x : Str => sv x) W2 m (wl K) := by
      unfold MapL
      rw [hW2, setB_other _ f3, hh]
      exact h.wds
    have hr2 : MapL (fun x : Str => sv x) W2 r (rl (K0 ++ come K js)) := by
      unfold MapL
      rw [hW2, setB_other _ f2, hh]
      exact h.rls
    have hk2 : Keep (fun _ => False) w W2 := by rw [hW2]; exact hk1.setB _ _ (.inl f6)
    have hKK : ∀ x ∈ K0 ++ come K js, x < 12 := fun x hx => by
      rcases List.mem_append.1 hx with hx | hx
      · exact (hK0 x hx).1
      · exact hK12 x (come_mem hs.lt x hx)
    have hfresh : ¬ K.getD j 0 ∈ K0 ++ come K js := fun hx => by
      rcases List.mem_append.1 hx with hx | hx
      · exact (hK0 _ hx).2 hkm
      · exact come_new hK hjl hs.lt hnew hx
    have hput := run_put strKeys Tryz.underlying82 Tryz.underlying9 W2 r _ hr2 (nm (K.getD j 0)) (ruleV (K.getD j 0)) (wl_new hKK (hK12 _ hkm) hfresh)
    refine ⟨K.getD j 0, W2, _, hkm, by rw [hW2]; exact hr, run_entry W2 m it (wl K) seen j _ hw2 hi2 hp, hput, ⟨j, hk2.setB _ _ (.inl f4), ?_, ?_, ⟨seen.push j, hs', ?_⟩, h.far⟩, ?_⟩
    · rw [come_push, ← List.append_assoc, rl_append]
      exact setB_at hr2
    · unfold MapL
      rw [setB_other _ (fun e => f1 e.symm)]
      exact hw2
    · rw [setB_other _ (fun e => f2 e.symm), hi2, wl_length]
    · have h1 : (setB W2 r (.map (mkE (fun x : Str => sv x) (rl (K0 ++ come K js) ++ [(nm (K.getD j 0), ruleV (K.getD j 0))])) (rl (K0 ++ come K js) ++ [(nm (K.getD j 0), ruleV (K.getD j 0))]).length)).heap[it]? = some (.mapIter (some m) (wl K).length (seen.push j) (wl K).length) := by rw [setB_other _ (fun e => f2 e.symm)]; exact hi2
      rw [iterLeft_eq h1, iterLeft_eq hi, wl_length]
      exact leftNo_push hj
set_option maxRecDepth 100000 in
set_option maxHeartbeats 1600000 in
theorem rules_any (w : World) : Calls Tryz.prog 34 #[] w fun e w' => ∃ r, e = .returned (.map (some r)) ∧ RulesAt w' r ∧ w.heap.size ≤ r ∧ Keep (fun _ => False) w w' := by
  have hmm := @run_makeMap Tryz.prog
  obtain ⟨A1, hA1⟩ : ∃ x : World, x = w.alloc (.map (mkE (fun x : Str => sv x) (rl [11])) (rl [11]).length) := ⟨_, rfl⟩
  have hpA1 : (Instr.mapUpdate 82 (.map (some w.heap.size)) (.string ⟨#[100, 101, 102, 114, 97, 103]⟩) (.agg #[.int .i64 11, .bool true, .func (.func 66) #[] #[], .func (.func 67) #[] #[]])).run Tryz.prog (w.alloc (.map #[] 0)) = .ok () A1 := by
    rw [hA1]; exact run_put82 w [] 11 (by decide) (by decide) (by decide)
  obtain ⟨A2, hA2⟩ : ∃ x : World, x = w.alloc (.map (mkE (fun x : Str => sv x) (rl [11, 8])) (rl [11, 8]).length) := ⟨_, rfl⟩
  have hpA2 : (Instr.mapUpdate 82 (.map (some w.heap.size)) (.string ⟨#[119, 97, 116, 99, 104]⟩) (.agg #[.int .i64 8, .bool true, .func (.func 68) #[] #[], .func (.func 70) #[] #[]])).run Tryz.prog A1 = .ok () A2 := by
    rw [hA2, hA1]; exact run_put82 w [11] 8 (by decide) (by decide) (by decide)
  obtain ⟨A3, hA3⟩ : ∃ x : World, x = w.alloc (.map (mkE (fun x : Str => sv x) (rl [11, 8, 7])) (rl [11, 8, 7]).length) := ⟨_, rfl⟩
  have hpA3 : (Instr.mapUpdate 82 (.map (some w.heap.size)) (.string ⟨#[97, 115, 107]⟩) (.agg #[.int .i64 7, .bool true, .func (.func 72) #[] #[], .func (.func 74) #[] #[]])).run Tryz.prog A2 = .ok () A3 := by
    rw [hA3, hA2]; exact run_put82 w [11, 8] 7 (by decide) (by decide) (by decide)
  have hkA : Keep (fun _ => False) w A3 := by rw [hA3]; exact (Keep.refl _ w).alloc _
  have hbA : MapL (fun x : Str => sv x) A3 w.heap.size (rl [11, 8, 7]) := by rw [hA3]; exact block_new _ _
  have hsA : A3.heap.size = w.heap.size + 1 := by rw [hA3]; simp
  obtain ⟨B1, hB1⟩ : ∃ x : World, x = A3.alloc (.map (mkE (fun x : Str => sv x) (wl [0])) (wl [0]).length) := ⟨_, rfl⟩
  have hpB1 : (Instr.mapUpdate 148 (.map (some A3.heap.size)) (.string ⟨#[100, 101, 108, 105, 118, 101, 114]⟩) (.int .i64 0)).run Tryz.prog (A3.alloc (.map #[] 0)) = .ok () B1 := by
    rw [hB1]; exact run_put148 A3 [] 0 (by decide) (by decide) (by decide)
  obtain ⟨B2, hB2⟩ : ∃ x : World, x = A3.alloc (.map (mkE (fun x : Str => sv x) (wl [0, 1])) (wl [0, 1]).length) := ⟨_, rfl⟩
  have hpB2 : (Instr.mapUpdate 148 (.map (some A3.heap.size)) (.string ⟨#[100, 114, 111, 112]⟩) (.int .i64 1)).run Tryz.prog B1 = .ok () B2 := by
    rw [hB2, hB1]; exact run_put148 A3 [0] 1 (by decide) (by decide) (by decide)
  obtain ⟨B3, hB3⟩ : ∃ x : World, x = A3.alloc (.map (mkE (fun x : Str => sv x) (wl [0, 1, 2])) (wl [0, 1, 2]).length) := ⟨_, rfl⟩
  have hpB3 : (Instr.mapUpdate 148 (.map (some A3.heap.size)) (.string ⟨#[116, 119, 105, 99, 101]⟩) (.int .i64 2)).run Tryz.prog B2 = .ok () B3 := by
    rw [hB3, hB2]; exact run_put148 A3 [0, 1] 2 (by decide) (by decide) (by decide)
  have hkB : Keep (fun _ => False) A3 B3 := by rw [hB3]; exact (Keep.refl _ A3).alloc _
  have hbB : MapL (fun x : Str => sv x) B3 A3.heap.size (wl K1) := by rw [hB3]; exact block_new _ _
  have hsB : B3.heap.size = A3.heap.size + 1 := by rw [hB3]; simp
  obtain ⟨C, hC⟩ : ∃ x : World, x = B3.alloc (.mapIter (some A3.heap.size) K1.length #[] K1.length) := ⟨_, rfl⟩
  have hrg : (Instr.range 148 (.map (some A3.heap.size))).run Tryz.prog B3 = .ok (.pointer (some ⟨B3.heap.size, 0, none⟩)) C := by
    rw [hC]; exact run_range (enc := fun x : Str => sv x) Tryz.underlying148 B3 A3.heap.size (wl K1) hbB
  have hloop : RulesLoop w w.heap.size A3.heap.size B3.heap.size [11, 8, 7] K1 [] C := by
    rw [hC]
    exact ⟨(hkA.trans' hkB).alloc _, block_alloc (hkB.at' hbA (fun e => e)) _, block_alloc hbB _, ⟨#[], Seen.zero _, block_new _ _⟩, by omega⟩
  have HLOOP := Lib.hid hloop
  obtain ⟨r, hr⟩ : ∃ r, r = w.heap.size := ⟨_, rfl⟩
  clear hloop hbA hbB hkA hkB hC hA1 hA2 hA3 hB1 hB2 hB3 hsA hsB
  go_enter Tryz.func34, Tryz.ntmps34
  go_wp2_with fail
  rw [← hr]
  rw [← hr] at HLOOP
  have HR := Lib.hid hr
  clear hr hpA1 hpA2 hpA3 hpB1 hpB2 hpB3 hrg
  generalize A3.heap.size = m1 at *
  generalize B3.heap.size = i1 at *
  go_loopw [2] (fun _ wr => ∃ js, RulesLoop w r m1 i1 [11, 8, 7] K1 js wr) (fun _ wr => iterLeft wr i1)
  case atStart => exact ⟨[], HLOOP.out⟩
  case round =>
    obtain ⟨js, hst⟩ := hrel
    have HST := Lib.hid hst
    clear hst
    rcases HST.out.next (by decide) (by decide) (by decide) 0 with ⟨hall, hnx⟩ | ⟨k, W2, W3, hk, hnx, hen, hpu, hlp, hlt⟩
    · have HALL := Lib.hid hall
      clear hall
      obtain ⟨D1, hD1⟩ : ∃ x : World, x = wr.alloc (.map (mkE (fun x : Str => sv x) (wl [3])) (wl [3]).length) := ⟨_, rfl⟩
      have hpD1 : (Instr.mapUpdate 148 (.map (some wr.heap.size)) (.string ⟨#[116, 105, 99, 107]⟩) (.int .i64 3)).run Tryz.prog (wr.alloc (.map #[] 0)) = .ok () D1 := by
        rw [hD1]; exact run_put148 wr [] 3 (by decide) (by decide) (by decide)
      obtain ⟨D2, hD2⟩ : ∃ x : World, x = wr.alloc (.map (mkE (fun x : Str => sv x) (wl [3, 4])) (wl [3, 4]).length) := ⟨_, rfl⟩
      have hpD2 : (Instr.mapUpdate 148 (.map (some wr.heap.size)) (.string ⟨#[99, 104, 117, 110, 107]⟩) (.int .i64 4)).run Tryz.prog D1 = .ok () D2 := by
        rw [hD2, hD1]; exact run_put148 wr [3] 4 (by decide) (by decide) (by decide)
      obtain ⟨D3, hD3⟩ : ∃ x : World, x = wr.alloc (.map (mkE (fun x : Str => sv x) (wl [3, 4, 5])) (wl [3, 4, 5]).length) := ⟨_, rfl⟩
      have hpD3 : (Instr.mapUpdate 148 (.map (some wr.heap.size)) (.string ⟨#[99, 114, 97, 115, 104]⟩) (.int .i64 5)).run Tryz.prog D2 = .ok () D3 := by
        rw [hD3, hD2]; exact run_put148 wr [3, 4] 5 (by decide) (by decide) (by decide)
      obtain ⟨D4, hD4⟩ : ∃ x : World, x = wr.alloc (.map (mkE (fun x : Str => sv x) (wl [3, 4, 5, 6])) (wl [3, 4, 5, 6]).length) := ⟨_, rfl⟩
      have hpD4 : (Instr.mapUpdate 148 (.map (some wr.heap.size)) (.string ⟨#[119, 97, 107, 101]⟩) (.int .i64 6)).run Tryz.prog D3 = .ok () D4 := by
        rw [hD4, hD3]; exact run_put148 wr [3, 4, 5] 6 (by decide) (by decide) (by decide)
      obtain ⟨D5, hD5⟩ : ∃ x : World, x = wr.alloc (.map (mkE (fun x : Str => sv x) (wl [3, 4, 5, 6, 9])) (wl [3, 4, 5, 6, 9]).length) := ⟨_, rfl⟩
      have hpD5 : (Instr.mapUpdate 148 (.map (some wr.heap.size)) (.string ⟨#[99, 97, 110, 99, 101, 108]⟩) (.int .i64 9)).run Tryz.prog D4 = .ok () D5 := by
        rw [hD5, hD4]; exact run_put148 wr [3, 4, 5, 6] 9 (by decide) (by decide) (by decide)
      obtain ⟨D6, hD6⟩ : ∃ x : World, x = wr.alloc (.map (mkE (fun x : Str => sv x) (wl [3, 4, 5, 6, 9, 10])) (wl [3, 4, 5, 6, 9, 10]).length) := ⟨_, rfl⟩
      have hpD6 : (Instr.mapUpdate 148 (.map (some wr.heap.size)) (.string ⟨#[116, 97, 107, 101]⟩) (.int .i64 10)).run Tryz.prog D5 = .ok () D6 := by
        rw [hD6, hD5]; exact run_put148 wr [3, 4, 5, 6, 9] 10 (by decide) (by decide) (by decide)
      have hkD : Keep (fun _ => False) wr D6 := by rw [hD6]; exact (Keep.refl _ wr).alloc _
      have hbD : MapL (fun x : Str => sv x) D6 wr.heap.size (wl K2) := by rw [hD6]; exact block_new _ _
      have hsD : D6.heap.size = wr.heap.size + 1 := by rw [hD6]; simp
      obtain ⟨F, hF⟩ : ∃ x : World, x = D6.alloc (.mapIter (some wr.heap.size) K2.length #[] K2.length) := ⟨_, rfl⟩
      have hrg2 : (Instr.range 148 (.map (some wr.heap.size))).run Tryz.prog D6 = .ok (.pointer (some ⟨D6.heap.size, 0, none⟩)) F := by
        rw [hF]; exact run_range (enc := fun x : Str => sv x) Tryz.underlying148 D6 wr.heap.size (wl K2) hbD
      have hrlt := lt_of_block HST.out.rls
      have hloop2 : RulesLoop w r wr.heap.size D6.heap.size ([11, 8, 7] ++ come K1 js) K2 [] F := by
        rw [hF]
        refine ⟨(HST.out.keep.trans' hkD).alloc _, ?_, block_alloc hbD _, ⟨#[], Seen.zero _, block_new _ _⟩, ?_⟩
        · unfold MapL
          have h9 := HST.out.rls
          unfold MapL at h9
          rw [show ([11, 8, 7] ++ come K1 js ++ come K2 [] : List Nat) = [11, 8, 7] ++ come K1 js by simp [come]]
          exact block_alloc (hkD.at' h9 (fun e => e)) _
        · have h9 := HST.out.far
          have h8 := HST.out.keep.size
          exact ⟨by omega, by omega, by omega, by omega, by omega, by omega⟩
      have HLOOP2 := Lib.hid hloop2
      have hK0 : ∀ k ∈ [11, 8, 7] ++ come K1 js, k < 12 ∧ ¬ k ∈ K2 := by
        have hd : ∀ k ∈ [11, 8, 7] ++ K1, k < 12 ∧ ¬ k ∈ K2 := by decide
        have hlt : ∀ x ∈ js, x < K1.length := fun x hx => by simpa using (HALL.out.mem_iff.1 hx)
        intro k hk
        rcases List.mem_append.1 hk with hk | hk
        · exact hd k (List.mem_append.2 (.inl hk))
        · exact hd k (List.mem_append.2 (.inr (come_mem hlt k hk)))
      have HK0 := Lib.hid hK0
      clear hloop2 hbD hkD hF hD1 hD2 hD3 hD4 hD5 hD6 hsD hrlt hK0 HLOOP
      go_wp2_with fail
      clear hpD1 hpD2 hpD3 hpD4 hpD5 hpD6 hrg2 hnx
      generalize wr.heap.size = m2 at *
      generalize D6.heap.size = i2 at *
      go_loopw [4] (fun _ wr => ∃ js2, RulesLoop w r m2 i2 ([11, 8, 7] ++ come K1 js) K2 js2 wr) (fun _ wr => iterLeft wr i2)
      case atStart => exact ⟨[], HLOOP2.out⟩
      case round =>
        obtain ⟨js2, hst2⟩ := hrel
        have HST2 := Lib.hid hst2
        clear hst2
        rcases HST2.out.next (by decide) (by decide) HK0.out 0 with ⟨hall2, hnx2⟩ | ⟨k, W2, W3, hk, hnx2, hen2, hpu2, hlp2, hlt2⟩
        · have HALL2 := Lib.hid hall2
          clear hall2
          go_wp2_with fail
          go_ret
          refine ⟨r, rfl, ⟨_, ?_, HST2.out.rls⟩, HST2.out.far.2.2.2.1, HST2.out.keep⟩
          have h1 := come_all HALL.out
          have h2 := come_all HALL2.out
          exact ((h1.append_left [11, 8, 7]).append h2).trans (by decide)
        · have hrv : ruleV k = .agg #[.int .i64 k, .bool true, .func (.func 76) #[] #[], .func (.func 77) #[] #[]] := by
            simp only [K2, List.mem_cons, List.mem_nil_iff, or_false] at hk
            rcases hk with rfl | rfl | rfl | rfl | rfl | rfl <;> rfl
          rw [hrv] at hpu2
          obtain ⟨j, hlp2⟩ := hlp2
          have HLP := Lib.hid hlp2
          have HLT := Lib.hid hlt2
          clear hrv hlp2 hlt2 hk
          go_wp2_with fail
          exact ⟨⟨_, HLP.out⟩, HLT.out⟩
    · have hrv : ruleV k = .agg #[.int .i64 k, .bool false, .func (.func 76) #[] #[], .func (.func 77) #[] #[]] := by
        simp only [K1, List.mem_cons, List.mem_nil_iff, or_false] at hk
        rcases hk with rfl | rfl | rfl <;> rfl
      rw [hrv] at hpu
      obtain ⟨j, hlp⟩ := hlp
      have HLP := Lib.hid hlp
      have HLT := Lib.hid hlt
      clear hrv hlp hlt hk
      go_wp2_with fail
      exact ⟨⟨_, HLP.out⟩, HLT.out⟩
end Go.Proofs.YtifliekahdgobaaGreatDoor
namespace Go.Proofs.YtifliekahdgobaaGreatDoor
open Go.RowKit Sp

theorem run_tail (rb off n c : Nat) (w : World) (h1 : n + 1 ≤ c) : ∃ off' c', (Instr.sliceAt 48 (.slice (some ⟨rb, off, none⟩) (n + 1) c) (some (.int .i64 1)) none none).run Tryz.prog w = .ok (.slice (some ⟨rb, off', none⟩) n c') w ∧ (n = 0 ∨ off' = off + 1) ∧ n ≤ c' ∧ c' ≤ c := by
  by_cases hc1 : c = 1
  · subst hc1
    obtain rfl : n = 0 := by omega
    refine ⟨off, 0, ?_, .inl rfl, by omega, by omega⟩
    go_simp
  · refine ⟨off + 1, c - 1, ?_, .inr rfl, by omega, by omega⟩
    go_simp
    intro h9
    omega
theorem info88 : (Tryz.prog.info? 88).map (·.size) = some 4 := by kernel_rfl
@[go_sem ↓] theorem execOp_store88 (ρ : Operand → Value) (x y : Operand) (d : Option Tmp) (t : TypeId) (p : String) (af : Array Edge) (g : Option (Nat × Bool)) :
    execOp ρ { dst := d, op := Op.store 88 x y, type := t, pos := p, after := af, guard := g } = stT 88 (ρ x) (ρ y) := rfl
@[go_sem ↓] theorem execOp_load88 (ρ : Operand → Value) (x : Operand) (d : Option Tmp) (t : TypeId) (p : String) (af : Array Edge) (g : Option (Nat × Bool)) :
    execOp ρ { dst := d, op := Op.load 88 x, type := t, pos := p, after := af, guard := g } = ldT 88 (ρ x) := rfl
theorem run_st88 (w : World) (b o : Nat) (cells : Array Value) (ht : w.there b o 4) (hs : cells.size = 4) (h1 : cells.all (·.oneCell') = true) :
    (stT 88 (.pointer (some ⟨b, o, none⟩)) (.agg cells)).run Tryz.prog w = .ok .skip (w.setCells b o cells.toList) := run_stT info88 w b o cells ht hs h1
theorem run_ld88 (w : World) (b o : Nat) (cs : Array Value) (hs : cs.size = 4) (hc : w.rangeAt b o cs.toList) :
    (ldT 88 (.pointer (some ⟨b, o, none⟩))).run Tryz.prog w = .ok (.value (.agg cs)) w := run_ldT Tryz.underlying88 rfl info88 w b o cs hs hc
theorem kindOf_some {x : Str} {k : Nat} (h : kindOf names x = some k) : k < 12 ∧ x = nm k := by
  unfold kindOf at h
  obtain ⟨h1, h2, -⟩ := List.findIdx?_eq_some_iff_getElem.1 h
  refine ⟨h1, ?_⟩
  have h3 : names[k] = x := by simpa using h2
  unfold nm
  rw [List.getD_eq_getElem?_getD, List.getElem?_eq_getElem h1]
  exact h3.symm
theorem kindOf_none {x : Str} (h : kindOf names x = none) : ∀ k, k < 12 → nm k ≠ x := by
  intro k hk e
  unfold kindOf at h
  rw [List.findIdx?_eq_none_iff] at h
  have h1 : nm k ∈ names := by
    unfold nm
    rw [List.getD_eq_getElem?_getD, List.getElem?_eq_getElem (show k < names.length from hk)]
    exact List.getElem_mem _
  have := h _ h1
  simp [e] at this
/-- the look-up in the map of rules -/
theorem look_rule {w : World} {r : Nat} (h : RulesAt w r) {x : Str} {k : Nat} (hk : kindOf names x = some k) :
    (Instr.lookup 82 (.map (some r)) (.string ⟨x.toArray⟩) true).run Tryz.prog w = .ok (.tuple #[.agg (ruleCells k (decide (2 < k)) (readF k) (writeF k)), .bool true]) w := by
  obtain ⟨K, hp, hm⟩ := h
  obtain ⟨hk12, rfl⟩ := kindOf_some hk
  exact run_look_hit strKeys Tryz.underlying82 Tryz.underlying9 w r (rl K) hm (nm k) (ruleV k) (List.mem_map.2 ⟨k, (hp.mem_iff.2 (by simpa using hk12)), rfl⟩) (fun p hp' he => by
    obtain ⟨j, hj, rfl⟩ := List.mem_map.1 hp'
    have hj12 : j < 12 := by simpa using hp.mem_iff.1 hj
    rw [show j = k from nm_inj j hj12 k hk12 he]) true
theorem look_none {w : World} {r : Nat} (h : RulesAt w r) {x : Str} (hk : kindOf names x = none) :
    (Instr.lookup 82 (.map (some r)) (.string ⟨x.toArray⟩) true).run Tryz.prog w = .ok (.tuple #[.agg #[.int .i64 0, .bool false, .nilFunc, .nilFunc], .bool false]) w := by
  obtain ⟨K, hp, hm⟩ := h
  exact run_look_miss strKeys Tryz.underlying82 Tryz.underlying9 w r (rl K) hm x (.agg #[.int .i64 0, .bool false, .nilFunc, .nilFunc]) (by go_simp) (fun p hp' => by
    obtain ⟨j, hj, rfl⟩ := List.mem_map.1 hp'
    exact kindOf_none hk j (by simpa using hp.mem_iff.1 hj)) true
theorem RulesAt.keep {w w' : World} {r : Nat} (h : RulesAt w r) (hk : Keep (fun _ => False) w w') : RulesAt w' r := by
  obtain ⟨K, hp, hm⟩ := h
  exact ⟨K, hp, hk.at' hm (fun e => e)⟩
/-- a step with its inner rows -/
abbrev StepV := StepS × Value × Value × Value
def stepEnc (p : StepV) : Array Value := stepCells p.1 p.2.1 p.2.2.1 p.2.2.2
/-- steps as a slice that owns its row -/
def StepsAt (w : World) (base : Nat) (v : Value) (l : List StepS) : Prop :=
  ∃ L : List StepV, L.map (·.1) = l ∧ w.ownsRow base 63 19 v L.length (flat stepEnc L) ∧ ∀ p ∈ L, ReqIs w p.1.req p.2.1 p.2.2.1 p.2.2.2
theorem StepsAt.base {w : World} {b b' : Nat} {v : Value} {l : List StepS} (h : StepsAt w b v l) (hb : b' ≤ b) : StepsAt w b' v l := by
  obtain ⟨L, h1, h2, h3⟩ := h
  exact ⟨L, h1, ownsRow_base h2 hb, h3⟩
theorem StepsAt.nil (w : World) (base : Nat) : StepsAt w base nilS [] := ⟨[], rfl, World.ownsRow_nil _ _ _ _, by simp⟩
theorem StepsAt.slice {w : World} {base : Nat} {v : Value} {l : List StepS} (h : StepsAt w base v l) : ∃ a c, v = .slice a l.length c ∧ l.length ≤ c := by
  obtain ⟨L, rfl, h1, -⟩ := h
  rw [List.length_map]
  exact ownsRow_len h1
theorem ReqIs.keep {M : Nat → Prop} {w w' : World} {r : ReqS} {a b c : Value} (h : ReqIs w r a b c) (hk : Keep M w w') (hM : ∀ g cs T, w.heap[g]? = some (.cells cs T (0, 0)) → M g → T ≠ 65 ∧ T ≠ 67) : ReqIs w' r a b c :=
  ⟨ownsRow_keep h.1 hk (fun g cur _ hc hm => (hM g cur 65 hc hm).1 rfl), ownsRow_keep h.2.1 hk (fun g cur _ hc hm => (hM g cur 67 hc hm).2 rfl), ownsRow_keep h.2.2 hk (fun g cur _ hc hm => (hM g cur 67 hc hm).2 rfl)⟩
theorem StepsAt.keep {M : Nat → Prop} {w w' : World} {base : Nat} {v : Value} {l : List StepS} (h : StepsAt w base v l) (hk : Keep M w w') (hv : ∀ g, v.ownBlock = some g → ¬ M g) (hM : ∀ g cs T, w.heap[g]? = some (.cells cs T (0, 0)) → M g → T ≠ 65 ∧ T ≠ 67) : StepsAt w' base v l := by
  obtain ⟨L, h1, h2, h3⟩ := h
  exact ⟨L, h1, ownsRow_keep h2 hk (fun g cur hg _ => hv g hg), fun p hp => (h3 p hp).keep hk hM⟩
theorem StepsAt.far {w w' : World} {base : Nat} {v : Value} {l : List StepS} (h : StepsAt w base v l) (hk : Keep (fun _ => False) w w') : StepsAt w' base v l := h.keep hk (fun _ _ e => e) (fun _ _ _ _ e => e.elim)

theorem Tryz.inf63 : (Tryz.prog.info? 63).map (fun i => (i.zero, i.size, i.bytes)) = some (some (.agg (stepCells .zero nilS nilS nilS)), 19, 192) := by kernel_rfl
theorem run_bs22 (x : StepV) (w : World) : (Instr.buildSlice 22 1 #[(0, .agg (stepEnc x))]).run Tryz.prog w = .ok (.slice (some ⟨w.heap.size, 0, none⟩) 1 1) (w.alloc (.cells (stepEnc x) 63 (0, 0))) := by
  unfold stepEnc stepCells
  go_simp
  try rfl
theorem app_step (w : World) (base : Nat) (v : Value) (l : List StepS) (x : StepV) (h : StepsAt w base v l) (hx : ReqIs w x.1.req x.2.1 x.2.2.1 x.2.2.2) (hn : l.length + 1 ≤ 1048576) (hb : base ≤ w.heap.size) :
    ∃ v' w', (Builtin.append_ #[22, 22] 22 #[v, .slice (some ⟨w.heap.size, 0, none⟩) 1 1]).run Tryz.prog (w.alloc (.cells (stepEnc x) 63 (0, 0))) = .ok v' w' ∧ StepsAt w' base v' (l ++ [x.1]) ∧
      Keep (fun b => some b = v.ownBlock) w w' ∧ (v'.ownBlock = v.ownBlock ∨ v'.ownBlock = some (w.heap.size + 1)) := by
  obtain ⟨i, hi, hz0, hz1, hz2⟩ := info_parts Tryz.inf63
  obtain ⟨L, rfl, h2, h3⟩ := h
  rw [List.length_map] at hn
  obtain ⟨a1, c1, e1, -⟩ := ownsRow_len hx.1
  obtain ⟨a2, c2, e2, -⟩ := ownsRow_len hx.2.1
  obtain ⟨a3, c3, e3, -⟩ := ownsRow_len hx.2.2
  have hone : (stepEnc x).all (·.oneCell') = true := by
    unfold stepEnc
    rw [e1, e2, e3]
    exact stepCells_one _ _ _ _ rfl rfl rfl
  obtain ⟨v', w', hr, h4, h5, h6⟩ := app_one Tryz.underlying22 hi hz0 hz1 hz2 rfl (by decide) stepEnc x rfl (all_one hone) w base v L h2 (by omega) (by omega) hb
  have hk : Keep (fun b => some b = v.ownBlock) w w' := ((Keep.refl _ w).alloc _).trans' (Keep.of_grown h5 (fun k e _ => e.symm))
  have hM : ∀ g cs T, w.heap[g]? = some (.cells cs T (0, 0)) → some g = v.ownBlock → T ≠ 65 ∧ T ≠ 67 := fun g cs T hc he => by
    rcases h2.2 with ⟨rfl, _⟩ | ⟨g', cap, cur, rfl, _, hg, _⟩
    · cases he
    · simp only [Value.ownBlock, Option.some.injEq] at he
      subst he
      rw [hc] at hg
      injection hg with e2
      injection e2 with e3 e4
      subst e4
      decide
  refine ⟨v', w', hr, ⟨L ++ [x], by simp, h4, ?_⟩, hk, h6⟩
  intro p hp
  rcases List.mem_append.1 hp with hp | hp
  · exact (h3 p hp).keep hk hM
  · simp only [List.mem_cons, List.mem_nil_iff, or_false] at hp
    subst hp
    exact hx.keep hk hM
/-- a script's variable: block gb; v: its steps' slice -/
def ScriptAt (w : World) (base gb : Nat) (s : ScriptS) (v : Value) : Prop := w.heap[gb]? = some (.cells #[.int .i64 s.nodes, v] 24 (0, 0)) ∧ StepsAt w base v s.steps
/-- what reading a line's words into a script comes to -/
def GotRead (base gb : Nat) (v : Value) (w : World) (o : Except Int ScriptS) (e : Ending) (w' : World) : Prop :=
  Keep (fun b => b = gb ∨ some b = v.ownBlock) w w' ∧ match o with
    | .ok s => e = .returned (.tuple #[]) ∧ ∃ v', ScriptAt w' base gb s v'
    | .error c => e = gaveUp c
end Go.Proofs.YtifliekahdgobaaGreatDoor
namespace Go.Proofs.YtifliekahdgobaaGreatDoor
open Go.RowKit Sp

theorem LineAt.type {w : World} {lb rb : Nat} {ws : List Str} (h : LineAt w lb rb ws) {cs : Array Value} {T : TypeId} (hc : w.heap[lb]? = some (.cells cs T (0, 0))) : T = 117 := by
  obtain ⟨off, c, h1, _⟩ := h
  rw [h1] at hc
  injection hc with e2
  injection e2 with e3 e4
  exact e4.symm
theorem StepsAt.lt {w : World} {base : Nat} {v : Value} {l : List StepS} (h : StepsAt w base v l) : ∀ g, v.ownBlock = some g → base ≤ g ∧ g < w.heap.size := by
  obtain ⟨L, _, h2, _⟩ := h
  exact h2.lt
/-- a line's turning leaves steps alone -/
theorem StepsAt.line {w w' : World} {base lb rb : Nat} {v : Value} {l : List StepS} {ws : List Str} (h : StepsAt w base v l) (hl : LineAt w lb rb ws) (hk : Keep (fun b => b = lb) w w') (hv : ∀ g, v.ownBlock = some g → ¬ g = lb) : StepsAt w' base v l :=
  h.keep hk hv (fun g cs T hc e => by
    subst e
    rw [hl.type hc]
    decide)
theorem StepsAt.notScript {w : World} {base gb : Nat} {v : Value} {l : List StepS} (h : StepsAt w base v l) {cs : Array Value} (hc : w.heap[gb]? = some (.cells cs 24 (0, 0))) : ¬ v.ownBlock = some gb := fun e => by
  obtain ⟨L, _, h2, _⟩ := h
  rcases h2.2 with ⟨rfl, _⟩ | ⟨g', cap, cur, rfl, _, hg, _⟩
  · cases e
  · simp only [Value.ownBlock, Option.some.injEq] at e
    subst e
    rw [hc] at hg
    injection hg with e2
    injection e2 with e3 e4
    cases e4
/-- how the words of a line stand when it is read -/
structure WordsAt (w : World) (rb off : Nat) (c : Nat) (ws : List Str) : Prop where
  cells : StrsAt w rb off ws
  ok : okWords ws
  cap : ws.length ≤ c
  small : c ≤ 1099511627776
/-- the new line's block -/
theorem line_new {w : World} {rb off c : Nat} {x : Str} {ws : List Str} (h : WordsAt w rb off c (x :: ws)) :
    ∃ off' c', (Instr.sliceAt 48 (.slice (some ⟨rb, off, none⟩) (ws.length + 1) c) (some (.int .i64 1)) none none).run Tryz.prog w = .ok (.slice (some ⟨rb, off', none⟩) ws.length c') w ∧
      LineAt (w.alloc (.cells #[.slice (some ⟨rb, off', none⟩) ws.length c'] 117 (0, 0))) w.heap.size rb ws := by
  have h1 := h.cap
  simp only [List.length_cons] at h1
  obtain ⟨off', c', h2, h3, h4, h5⟩ := run_tail rb off ws.length c w h1
  have hrb : rb < w.heap.size := World.block_lt_of_cell? _ _ (h.cells 0 x rfl)
  refine ⟨off', c', h2, off', c', block_new _ _, h4, Nat.le_trans h5 h.small, by omega, ?_, h.ok.tail⟩
  rcases h3 with h3 | h3
  · intro i y hy
    have : ws = [] := List.length_eq_zero_iff.1 h3
    subst this
    simp at hy
  · subst h3
    exact h.cells.tail.keep ((Keep.refl (fun _ => False) w).alloc _) (fun e => e)

set_option maxRecDepth 100000 in
set_option maxHeartbeats 1600000 in
theorem read_nodes (base gb rb off c : Nat) (v : Value) (s : ScriptS) (ws : List Str) (w : World) (hs : ScriptAt w base gb s v) (hw : WordsAt w rb off c (wNodes :: ws)) :
    Calls Tryz.prog 27 #[.pointer (some ⟨gb, 0, none⟩), .slice (some ⟨rb, off, none⟩) (ws.length + 1) c] w (GotRead base gb v w (line s (wNodes :: ws))) := by
  have hx : w.cell? ⟨rb, off, none⟩ = some (.string ⟨#[110, 111, 100, 101, 115]⟩) := hw.cells 0 wNodes rfl
  obtain ⟨off', c', hsl, hln⟩ := line_new hw
  have hgb := lt_of_block hs.1
  obtain ⟨po, hpo⟩ : ∃ po, po = line s (wNodes :: ws) := ⟨_, rfl⟩
  have hpo2 : po = match pnodes ws with | some n => if s.nodes = 0 then .ok { s with nodes := n } else .error 4 | none => .error 4 := by rw [hpo]; rfl
  rw [← hpo]
  have HPO := Lib.hid hpo2
  clear hpo hpo2
  obtain ⟨W, hW⟩ : ∃ W : World, W = w.alloc (.cells #[.slice (some ⟨rb, off', none⟩) ws.length c'] 117 (0, 0)) := ⟨_, rfl⟩
  rw [← hW] at hln
  have hkW : Keep (fun _ => False) w W := by rw [hW]; exact (Keep.refl _ w).alloc _
  have hxW : (w.alloc (.cells #[.slice (some ⟨rb, off', none⟩) ws.length c'] 117 (0, 0))).cell? ⟨rb, off, none⟩ = some (.string ⟨#[110, 111, 100, 101, 115]⟩) := by rw [← hW]; exact hkW.cellOf hx (fun e => e)
  have hsW := hkW.at' hs.1 (fun e => e)
  have HSW := Lib.hid hsW
  have HST := Lib.hid (hs.2.far hkW)
  have HLN := Lib.hid hln
  have HW := Lib.hid hW
  have hg : ¬ gb = w.heap.size := by omega
  have HVL := Lib.hid hs.2.lt
  clear hW hsW hln hx hw hs
  go_enter Tryz.func27, Tryz.ntmps27
  go_wp2_with fail
  rw [← HW.out]
  clear hsl hxW HW
  generalize hlb : w.heap.size = lb at *
  have HLB := Lib.hid hlb
  clear hlb
  refine (upTo_any 7 lb rb ws W HLN.out (by decide)).mono ?_
  intro e w1 hg1
  obtain ⟨hk1, hg1⟩ := hg1
  have hkk1 : Keep (fun b => b = gb ∨ some b = v.ownBlock) w w1 := hkW.trans hk1 (fun b hb e => by have := HLB.out; omega) |>.mono (fun _ _ e => e.elim)
  rcases hp1 : pnum 7 ws with _ | ⟨n, r⟩
  · rw [hp1] at hg1
    subst hg1
    refine ⟨rfl, hkk1, ?_⟩
    rw [HPO.out, show pnodes ws = none by unfold pnodes; rw [hp1]; rfl]
  rw [hp1] at hg1
  obtain ⟨rfl, hl1⟩ := hg1
  obtain ⟨h0, h7⟩ := pnum_le hp1
  have hs1 := hk1.at' HSW.out hg
  have hc0 : w1.cell? ⟨gb, 0, none⟩ = some (.int .i64 s.nodes) := cell_of_block hs1 0
  have hf0 := free_of_block hs1 0
  have hst1 := HST.out.line HLN.out hk1 (fun g hg e => by have := HLB.out; have := (HVL.out g hg).2; omega)
  obtain ⟨o2, c2, hl3, hl4⟩ := hl1
  have hcl := cell_of_one hl3
  have HS1 := Lib.hid hs1
  have HST1 := Lib.hid hst1
  clear hl3 hl4 hs1 hst1
  have hwr : IntKind.i64.wrap n = n := IntWalk.i64_in _ (by omega)
  unfold u64v
  have hpn : pnodes ws = if 0 < n ∧ r = [] then some n else none := by unfold pnodes; rw [hp1]; rfl
  have HPN := Lib.hid hpn
  clear hpn hp1
  by_cases hn : 0 < n
  · by_cases hr : r = []
    · subst hr
      simp only [List.length_nil] at hcl
      by_cases hz : s.nodes = 0
      · have hc0' : w1.cell? ⟨gb, 0, none⟩ = some (.int .i64 0) := by rw [hc0, hz]
        clear hc0
        go_wp2_with fail
        refine (must_ok _ _).mono ?_
        rintro e w' ⟨rfl, rfl⟩
        go_wp2_with fail
        (try simp only [Exit.inBlock, Exit.then])
        refine bodyPost_ret (results_none rfl _ _ _) rfl ?_
        have hkG : Keep (fun b => b = gb) w1 (w1.setCell ⟨gb, 0, none⟩ (.int .i64 n)) := (Keep.refl (fun b => b = gb) w1).setCell _ _ (.inr rfl)
        refine ⟨hkk1.setCell _ _ (.inr (.inl rfl)), ?_⟩
        rw [HPO.out, HPN.out, if_pos ⟨hn, trivial⟩]
        dsimp only
        rw [if_pos hz]
        refine ⟨rfl, v, block_setCell HS1.out 0 _, HST1.out.keep hkG (fun g hg e => HST1.out.notScript HS1.out (e ▸ hg)) (fun g cs T hc e => by
          subst e
          rw [HS1.out] at hc
          injection hc with e2
          injection e2 with e3 e4
          subst e4
          decide)⟩
      · have hz' : (s.nodes == 0) = false := by simpa using hz
        go_wp2_with fail
        refine (must_no _ _).mono ?_
        rintro e w' ⟨rfl, rfl⟩
        refine ⟨rfl, hkk1, ?_⟩
        rw [HPO.out, HPN.out, if_pos ⟨hn, trivial⟩]
        dsimp only
        rw [if_neg hz]
    · have hr' : ((r.length : Int) == 0) = false := by simpa using hr
      go_wp2_with fail
      refine (must_no _ _).mono ?_
      rintro e w' ⟨rfl, rfl⟩
      refine ⟨rfl, hkk1, ?_⟩
      rw [HPO.out, HPN.out, if_neg (fun e => hr e.2)]
  · go_wp2_with fail
    refine (must_no _ _).mono ?_
    rintro e w' ⟨rfl, rfl⟩
    refine ⟨rfl, hkk1, ?_⟩
    rw [HPO.out, HPN.out, if_neg (fun e => by have := e.1; omega)]
end Go.Proofs.YtifliekahdgobaaGreatDoor
namespace Go.Proofs.YtifliekahdgobaaGreatDoor
open Go.RowKit Sp

/-- the reference's script variable: block gb; v: its steps' slice -/
def RScriptAt (w : World) (base gb : Nat) (s : ScriptS) (v : Value) : Prop := w.heap[gb]? = some (.cells #[.int .i64 s.nodes, v] 29 (0, 0)) ∧ StepsAt w base v s.steps
/-- what reading a line's words into a script comes to -/
def GotRLine (base gb : Nat) (v : Value) (w : World) (o : Except Int ScriptS) (e : Ending) (w' : World) : Prop :=
  Keep (fun b => b = gb ∨ some b = v.ownBlock) w w' ∧ match o with
    | .ok s => e = .returned (.int .i64 0) ∧ ∃ v', RScriptAt w' base gb s v'
    | .error c => e = .returned (.int .i64 c)
theorem StepsAt.notR {w : World} {base gb : Nat} {v : Value} {l : List StepS} (h : StepsAt w base v l) {cs : Array Value} (hc : w.heap[gb]? = some (.cells cs 29 (0, 0))) : ¬ v.ownBlock = some gb := fun e => by
  obtain ⟨L, _, h2, _⟩ := h
  rcases h2.2 with ⟨rfl, _⟩ | ⟨g', cap, cur, rfl, _, hg, _⟩
  · cases e
  · simp only [Value.ownBlock, Option.some.injEq] at e
    subst e
    rw [hc] at hg
    injection hg with e2
    injection e2 with e3 e4
    cases e4
/-- a change of the script's own block leaves its steps alone -/
theorem StepsAt.own {w w' : World} {base gb : Nat} {v : Value} {l : List StepS} (h : StepsAt w base v l) {cs : Array Value} (hc : w.heap[gb]? = some (.cells cs 29 (0, 0))) (hk : Keep (fun b => b = gb) w w') : StepsAt w' base v l :=
  h.keep hk (fun g hg e => h.notR hc (e ▸ hg)) (fun g cs T hc2 e => by
    subst e
    rw [hc] at hc2
    injection hc2 with e2
    injection e2 with e3 e4
    subst e4
    decide)
/-- a line's turning leaves steps alone -/
theorem StepsAt.rline {w w' : World} {base lb rb : Nat} {v : Value} {l : List StepS} {ws : List Str} {bad : Bool} (h : StepsAt w base v l) (hl : RLineAt w lb rb ws bad) (hk : Keep (fun b => b = lb) w w') (hv : ∀ g, v.ownBlock = some g → ¬ g = lb) : StepsAt w' base v l :=
  h.keep hk hv (fun g cs T hc e => by
    subst e
    obtain ⟨cs', hb⟩ := hl.block
    rw [hb] at hc
    injection hc with e2
    injection e2 with e3 e4
    subst e4
    decide)
/-- how the words of a line stand when it is read -/
structure WordsR (w : World) (rb off : Nat) (c : Nat) (ws : List Str) : Prop where
  cells : StrsAt w rb off ws
  ok : okWords ws
  cap : ws.length ≤ c
  small : c ≤ 9223372036854775807 ∧ ws.length ≤ 1099511627776
/-- the new line's block -/
theorem rline_new {w : World} {rb off c : Nat} {x : Str} {ws : List Str} (h : WordsR w rb off c (x :: ws)) :
    ∃ off' c', (Instr.sliceAt 48 (.slice (some ⟨rb, off, none⟩) (ws.length + 1) c) (some (.int .i64 1)) none none).run Tryz.prog w = .ok (.slice (some ⟨rb, off', none⟩) ws.length c') w ∧
      RLineAt (w.alloc (.cells #[.slice (some ⟨rb, off', none⟩) ws.length c', .bool false] 124 (0, 0))) w.heap.size rb ws false := by
  have h1 := h.cap
  simp only [List.length_cons] at h1
  obtain ⟨off', c', h2, h3, h4, h5⟩ := run_tail rb off ws.length c w h1
  have hrb : rb < w.heap.size := World.block_lt_of_cell? _ _ (h.cells 0 x rfl)
  refine ⟨off', c', h2, off', c', block_new _ _, h4, ⟨Nat.le_trans h5 h.small.1, by have := h.small.2; simp only [List.length_cons] at this; omega⟩, by omega, ?_, h.ok.tail⟩
  rcases h3 with h3 | h3
  · intro i y hy
    have : ws = [] := List.length_eq_zero_iff.1 h3
    subst this
    simp at hy
  · subst h3
    exact h.cells.tail.keep ((Keep.refl (fun _ => False) w).alloc _) (fun e => e)

set_option maxRecDepth 100000 in
set_option maxHeartbeats 1600000 in
theorem rline_nodes (base gb rb off c : Nat) (v : Value) (s : ScriptS) (ws : List Str) (w : World) (hs : RScriptAt w base gb s v) (hw : WordsR w rb off c (wNodes :: ws)) (h0 : 0 ≤ s.nodes) :
    Calls Tryz.prog 29 #[.pointer (some ⟨gb, 0, none⟩), .slice (some ⟨rb, off, none⟩) (ws.length + 1) c] w (GotRLine base gb v w (line s (wNodes :: ws))) := by
  have hx : w.cell? ⟨rb, off, none⟩ = some (.string ⟨#[110, 111, 100, 101, 115]⟩) := hw.cells 0 wNodes rfl
  obtain ⟨off', c', hsl, hln⟩ := rline_new hw
  have hgb := lt_of_block hs.1
  obtain ⟨po, hpo⟩ : ∃ po, po = line s (wNodes :: ws) := ⟨_, rfl⟩
  have hpo2 : po = match pnodes ws with | some n => if s.nodes = 0 then .ok { s with nodes := n } else .error 4 | none => .error 4 := by rw [hpo]; rfl
  rw [← hpo]
  have HPO := Lib.hid hpo2
  clear hpo hpo2
  obtain ⟨W, hW⟩ : ∃ W : World, W = w.alloc (.cells #[.slice (some ⟨rb, off', none⟩) ws.length c', .bool false] 124 (0, 0)) := ⟨_, rfl⟩
  rw [← hW] at hln
  have hkW : Keep (fun _ => False) w W := by rw [hW]; exact (Keep.refl _ w).alloc _
  have hxW : (w.alloc (.cells #[.slice (some ⟨rb, off', none⟩) ws.length c', .bool false] 124 (0, 0))).cell? ⟨rb, off, none⟩ = some (.string ⟨#[110, 111, 100, 101, 115]⟩) := by rw [← hW]; exact hkW.cellOf hx (fun e => e)
  have hsW := hkW.at' hs.1 (fun e => e)
  have HSW := Lib.hid hsW
  have HST := Lib.hid (hs.2.far hkW)
  have HLN := Lib.hid hln
  have HW := Lib.hid hW
  have hg : ¬ gb = w.heap.size := by omega
  have HVL := Lib.hid hs.2.lt
  clear hW hsW hln hx hw hs
  go_enter Tryz.func29, Tryz.ntmps29
  go_wp2_with fail
  rw [← HW.out]
  clear hsl hxW HW
  generalize hlb : w.heap.size = lb at *
  have HLB := Lib.hid hlb
  clear hlb
  refine (rnum_any 7 (by decide) (by decide) lb rb ws false W HLN.out).mono ?_
  rintro e w1 ⟨hk1, n, r, b1, rfl, hl1, ⟨hn0, hn7⟩, hle, hD⟩
  have hkk1 : Keep (fun b => b = gb ∨ some b = v.ownBlock) w w1 := hkW.trans hk1 (fun b hb e => by have := HLB.out; omega) |>.mono (fun _ _ e => e.elim)
  have hs1 := hk1.at' HSW.out hg
  have hc0 : w1.cell? ⟨gb, 0, none⟩ = some (.int .i64 s.nodes) := cell_of_block hs1 0
  have hf0 := free_of_block hs1 0
  have hst1 := HST.out.rline HLN.out hk1 (fun g hg e => by have := HLB.out; have := (HVL.out g hg).2; omega)
  have HLL := Lib.hid hl1
  obtain ⟨o2, c2, hl3, -⟩ := hl1
  have hcl : w1.cell? ⟨lb, 0, none⟩ = some (.slice (some ⟨rb, o2, none⟩) r.length c2) := cell_of_block hl3 0
  have hcb : w1.cell? ⟨lb, 1, none⟩ = some (.bool b1) := cell_of_block hl3 1
  have HS1 := Lib.hid hs1
  have HST1 := Lib.hid hst1
  have HKK := Lib.hid hkk1
  have hwr : IntKind.i64.wrap n = n := IntWalk.i64_in _ (by omega)
  have hpo : (b1 = true → po = .error 4) ∧ (b1 = false → po = match (if 0 < n ∧ r = [] then some n else none) with | some n => if s.nodes = 0 then .ok { s with nodes := n } else .error 4 | none => .error 4) := by
    rw [HPO.out]
    rcases hD with ⟨-, h2, rfl⟩ | ⟨h2, rfl⟩
    · refine ⟨by simp, fun _ => ?_⟩
      have : pnodes ws = if 0 < n ∧ r = [] then some n else none := by unfold pnodes; rw [h2]; rfl
      rw [this]
    · refine ⟨fun _ => ?_, by simp⟩
      have h3 : pnum 7 ws = none := by simpa using h2
      have : pnodes ws = none := by unfold pnodes; rw [h3]; rfl
      rw [this]
  have HP := Lib.hid hpo
  clear hl3 hs1 hst1 hkk1 hpo hD hle hk1 HPO HSW HST HLN hkW
  unfold u64w
  cases b1
  · by_cases hz : n = 0
    · have hz' : (n == 0) = true := by simpa using hz
      have HE := Lib.hid (show po = .error 4 by rw [HP.out.2 rfl]; rw [if_neg (by omega)])
      clear HP
      go_wp2_with fail
      go_ret
      refine ⟨HKK.out, ?_⟩
      rw [HE.out]
      exact rfl
    have hz' : (n == 0) = false := by simpa using hz
    cases r with
    | cons y wy =>
      simp only [List.length_cons] at hcl
      have hgt : ((wy.length : Int) + 1) > 0 := by omega
      have HE := Lib.hid (show po = .error 4 by rw [HP.out.2 rfl]; simp)
      clear HP
      go_wp2_with fail
      go_ret
      refine ⟨HKK.out, ?_⟩
      rw [HE.out]
      exact rfl
    | nil =>
      simp only [List.length_nil] at hcl
      by_cases hq : s.nodes > 0
      · have HE := Lib.hid (show po = .error 4 by rw [HP.out.2 rfl]; rw [if_pos ⟨by omega, rfl⟩]; dsimp only; rw [if_neg (by omega)])
        clear HP
        go_wp2_with fail
        go_ret
        refine ⟨HKK.out, ?_⟩
        rw [HE.out]
        exact rfl
      · have HE := Lib.hid (show po = .ok { s with nodes := n } by rw [HP.out.2 rfl, if_pos ⟨by omega, rfl⟩]; dsimp only; rw [if_pos (by omega)])
        clear HP
        go_wp2_with fail
        go_ret
        have hkG : Keep (fun b => b = gb) w1 (w1.setCell ⟨gb, 0, none⟩ (.int .i64 n)) := (Keep.refl (fun b => b = gb) w1).setCell _ _ (.inr rfl)
        refine ⟨HKK.out.setCell _ _ (.inr (.inl rfl)), ?_⟩
        rw [HE.out]
        exact ⟨rfl, v, block_setCell HS1.out 0 _, HST1.out.own HS1.out hkG⟩
  · have HE := Lib.hid (HP.out.1 rfl)
    clear HP
    go_wp2_with fail
    go_ret
    refine ⟨HKK.out, ?_⟩
    rw [HE.out]
    exact rfl
end Go.Proofs.YtifliekahdgobaaGreatDoor
