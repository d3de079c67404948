/-
  THE WALKS, 12: rules (printed by wip/tools/gen_rules.py). Helpers of the claims.
  THE WALKS, 25: what the rules write, by their kinds; sameReq. Helpers of the claims.
  THE WALKS, 26: slices.Equal at structs; sameReq (printed by wip/tools/gen_w26.py). Helpers of the claims.
  A SCRIPT IN MEMORY. Helpers of the claims.
-/
import Derived.Test.YtifliekahdgobaaGreatDoorBW11
import Derived.Test.YtifliekahdgobaaGreatDoorBW10ToL4
set_option linter.unusedSimpArgs false
set_option linter.unusedVariables false
namespace Go.Proofs.YtifliekahdgobaaGreatDoor
open Go.RowKit Sp

/-- a kind's word -/
def nm (k : Nat) : Str := names.getD k []
theorem nm_inj : ∀ a, a < 12 → ∀ b, b < 12 → nm a = nm b → a = b := by decide
/-- rules by their kinds -/
def rl (K : List Nat) : List (Str × Value) := K.map fun k => (nm k, ruleV k)
/-- words and kinds -/
def wl (K : List Nat) : List (Str × Value) := K.map fun k => (nm k, .int .i64 k)
theorem wl_new {K : List Nat} {k : Nat} {f : Nat → Value} (hK : ∀ j ∈ K, j < 12) (hk : k < 12) (h : k ∉ K) : ∀ p ∈ K.map (fun k => (nm k, f k)), p.1 ≠ nm k := by
  intro p hp
  obtain ⟨j, hj, rfl⟩ := List.mem_map.1 hp
  intro e
  exact h (nm_inj j (hK j hj) k hk e ▸ hj)
theorem rl_append (K : List Nat) (k : Nat) : rl (K ++ [k]) = rl K ++ [(nm k, ruleV k)] := by simp [rl]
/-- all the rules are in block r, in some order -/
def RulesAt (w : World) (r : Nat) : Prop := ∃ K : List Nat, K.Perm (List.range 12) ∧ MapL (fun x : Str => sv x) w r (rl K)
theorem run_put148 (W : World) (K : List Nat) (k : Nat) (hK : ∀ j ∈ K, j < 12) (hk : k < 12) (h : k ∉ K) : (Instr.mapUpdate 148 (.map (some W.heap.size)) (sv (nm k)) (.int .i64 k)).run Tryz.prog (W.alloc (.map (mkE (fun x : Str => sv x) (wl K)) (wl K).length)) = .ok () (W.alloc (.map (mkE (fun x : Str => sv x) (wl (K ++ [k]))) (wl (K ++ [k])).length)) := by
  have := run_put_new strKeys Tryz.underlying148 Tryz.underlying9 W (wl K) (nm k) (.int .i64 k) (wl_new hK hk h)
  rw [show wl (K ++ [k]) = wl K ++ [(nm k, .int .i64 k)] by simp [wl]]
  exact this
theorem run_put82 (W : World) (K : List Nat) (k : Nat) (hK : ∀ j ∈ K, j < 12) (hk : k < 12) (h : k ∉ K) : (Instr.mapUpdate 82 (.map (some W.heap.size)) (sv (nm k)) (ruleV k)).run Tryz.prog (W.alloc (.map (mkE (fun x : Str => sv x) (rl K)) (rl K).length)) = .ok () (W.alloc (.map (mkE (fun x : Str => sv x) (rl (K ++ [k]))) (rl (K ++ [k])).length)) := by
  have := run_put_new strKeys Tryz.underlying82 Tryz.underlying9 W (rl K) (nm k) (ruleV k) (wl_new hK hk h)
  rw [rl_append]
  exact this
/-- what a map's ranging has yet to come to -/
def iterLeft (w : World) (it : Nat) : Nat := match w.heap[it]? with
  | some (Obj.mapIter _ n seen _) => (leftNo n seen).length
  | _ => 0
theorem iterLeft_eq {w : World} {it : Nat} {m : Option Nat} {n b : Nat} {seen : Array Nat} (h : w.heap[it]? = some (.mapIter m n seen b)) : iterLeft w it = (leftNo n seen).length := by
  unfold iterLeft
  rw [h]
/-- what has been seen of a list -/
structure Seen (K : List Nat) (seen : Array Nat) (js : List Nat) : Prop where
  eq : seen = js.toArray
  nodup : js.Nodup
  lt : ∀ j ∈ js, j < K.length
theorem Seen.zero (K : List Nat) : Seen K #[] [] := ⟨rfl, List.nodup_nil, by simp⟩
theorem leftNo_mem {n j : Nat} {seen : Array Nat} (h : j ∈ leftNo n seen) : j < n ∧ ¬ j ∈ seen.toList := by
  unfold leftNo at h
  rw [List.mem_filter] at h
  exact ⟨by simpa using h.1, by simpa using h.2⟩
theorem Seen.push {K : List Nat} {seen : Array Nat} {js : List Nat} {j : Nat} (h : Seen K seen js) (hj : j ∈ leftNo K.length seen) : Seen K (seen.push j) (js ++ [j]) ∧ ¬ j ∈ js := by
  obtain ⟨h1, h2⟩ := leftNo_mem hj
  have h3 : ¬ j ∈ js := by rw [h.eq] at h2; simpa using h2
  refine ⟨⟨by rw [h.eq]; simp, ?_, ?_⟩, h3⟩
  · rw [List.nodup_append]
    exact ⟨h.nodup, by simp, fun a ha b hb e => by simp at hb; subst hb; exact h3 (e ▸ ha)⟩
  · intro x hx
    rcases List.mem_append.1 hx with hx | hx
    · exact h.lt x hx
    · simp at hx; subst hx; exact h1
theorem Seen.all {K : List Nat} {seen : Array Nat} {js : List Nat} (h : Seen K seen js) (h0 : leftNo K.length seen = []) : js.Perm (List.range K.length) := by
  refine (List.perm_ext_iff_of_nodup h.nodup List.nodup_range).2 fun a => ?_
  rw [List.mem_range]
  constructor
  · exact h.lt a
  · intro ha
    by_cases hn : a ∈ js
    · exact hn
    · have : a ∈ leftNo K.length seen := by
        unfold leftNo
        rw [List.mem_filter]
        exact ⟨by simpa using ha, by rw [h.eq]; simpa using hn⟩
      rw [h0] at this
      cases this
/-- the kinds that have come -/
def come (K : List Nat) (js : List Nat) : List Nat := js.map fun j => K.getD j 0
theorem come_push (K js : List Nat) (j : Nat) : come K (js ++ [j]) = come K js ++ [K.getD j 0] := by simp [come]
theorem come_all {K js : List Nat} (h : js.Perm (List.range K.length)) : (come K js).Perm K := by
  have h1 := h.map fun j => K.getD j 0
  refine h1.trans (List.Perm.of_eq ?_)
  apply List.ext_getElem?
  intro i
  rw [List.getElem?_map]
  by_cases hi : i < K.length
  · simp [hi]
  · simp [hi]
theorem come_new {K js : List Nat} (hK : K.Nodup) {j : Nat} (hj : j < K.length) (hlt : ∀ x ∈ js, x < K.length) (h : ¬ j ∈ js) : ¬ K.getD j 0 ∈ come K js := by
  intro hm
  obtain ⟨x, hx, he⟩ := List.mem_map.1 hm
  have hx' := hlt x hx
  simp only [List.getD_eq_getElem?_getD, List.getElem?_eq_getElem hx', List.getElem?_eq_getElem hj, Option.getD_some] at he
  have hp := List.pairwise_iff_getElem.1 hK
  rcases Nat.lt_trichotomy x j with hlt' | rfl | hlt'
  · exact hp x j hx' hj hlt' he
  · exact h hx
  · exact hp j x hj hx' hlt' he.symm
theorem come_mem {K js : List Nat} (hlt : ∀ x ∈ js, x < K.length) : ∀ k ∈ come K js, k ∈ K := by
  intro k hk
  obtain ⟨x, hx, rfl⟩ := List.mem_map.1 hk
  have hx' := hlt x hx
  simp [List.getD_eq_getElem?_getD, List.getElem?_eq_getElem hx']
def K1 : List Nat := [0, 1, 2]
def K2 : List Nat := [3, 4, 5, 6, 9, 10]

/-- the state while a map of words is ranged over: K0 were in the map of rules before; js have come -/
structure RulesLoop (w : World) (r m it : Nat) (K0 K : List Nat) (js : List Nat) (wr : World) : Prop where
  keep : Keep (fun _ => False) w wr
  rls : MapL (fun x : Str => sv x) wr r (rl (K0 ++ come K js))
  wds : MapL (fun x : Str => sv x) wr m (wl K)
  iter : ∃ seen, Seen K seen js ∧ wr.heap[it]? = some (.mapIter (some m) K.length seen K.length)
  far : r ≠ m ∧ r ≠ it ∧ m ≠ it ∧ w.heap.size ≤ r ∧ w.heap.size ≤ m ∧ w.heap.size ≤ it
theorem wl_length (K : List Nat) : (wl K).length = K.length := by simp [wl]
/-- one step of the ranging -/
theorem RulesLoop.next {w : World} {r m it : Nat} {K0 K js : List Nat} {wr : World} (h : RulesLoop w r m it K0 K js wr) (hK : K.Nodup) (hK12 : ∀ k ∈ K, k < 12) (hK0 : ∀ k ∈ K0, k < 12 ∧ ¬ k ∈ K) (T0 : TypeId) :
    (js.Perm (List.range K.length) ∧ (Instr.next (.pointer (some ⟨it, 0, none⟩)) false T0).run Tryz.prog wr = .ok (.tuple #[.bool false]) wr) ∨
    ∃ k W2 W3, k ∈ K ∧ (Instr.next (.pointer (some ⟨it, 0, none⟩)) false T0).run Tryz.prog wr = .ok (.tuple #[.bool true, sv (nm k), .int .i64 k]) W2 ∧
      (Instr.entry (.pointer (some ⟨it, 0, none⟩))).run Tryz.prog W2 = .ok (.tuple #[sv (nm k), .int .i64 k]) W2 ∧
      (Instr.mapUpdate 82 (.map (some r)) (sv (nm k)) (ruleV k)).run Tryz.prog W2 = .ok () W3 ∧
      (∃ j, RulesLoop w r m it K0 K (js ++ [j]) W3) ∧ iterLeft W3 it < iterLeft wr it := by
  obtain ⟨seen, hs, hi⟩ := h.iter
  have hi' : wr.heap[it]? = some (.mapIter (some m) (wl K).length seen (wl K).length) := by rw [wl_length]; exact hi
  obtain ⟨f1, f2, f3, f4, f5, f6⟩ := h.far
  rcases run_next (enc := fun x : Str => sv x) wr m it (wl K) seen T0 h.wds hi' with ⟨h0, hr⟩ | ⟨j, p, w1, hp, hj, hw, hr⟩
  · left
    rw [wl_length] at h0
    exact ⟨hs.all h0, hr⟩
  · right
    have hk1 : Keep (fun _ => False) w w1 := by
      rcases hw with rfl | rfl
      · exact h.keep
      · exact h.keep.drew
    have hh : w1.heap = wr.heap := by rcases hw with rfl | rfl <;> rfl
    rw [wl_length] at hj
    obtain ⟨hs', hnew⟩ := hs.push hj
    obtain ⟨hjl, -⟩ := leftNo_mem hj
    have hget : K.getD j 0 = K[j] := by simp [List.getD_eq_getElem?_getD, List.getElem?_eq_getElem hjl]
    have hkm : K.getD j 0 ∈ K := by rw [hget]; exact List.getElem_mem hjl
    have hpe : p = (nm (K.getD j 0), .int .i64 (K.getD j 0 : Nat)) := by
      have : (wl K)[j]? = some (nm K[j], .int .i64 (K[j] : Nat)) := by simp [wl, List.getElem?_eq_getElem hjl]
      rw [this] at hp
      rw [hget]
      exact (Option.some.inj hp).symm
    subst hpe
    obtain ⟨W2, hW2⟩ : ∃ W2, W2 = setB w1 it (.mapIter (some m) (wl K).length (seen.push j) (wl K).length) := ⟨_, rfl⟩
    have hi2 : W2.heap[it]? = some (.mapIter (some m) (wl K).length (seen.push j) (wl K).length) := by rw [hW2]; exact setB_at (by rw [hh]; exact hi)
    have hw2 : MapL (fun x : Str => sv x) W2 m (wl K) := by
      unfold MapL
      rw [hW2, setB_other _ f3, hh]
      exact h.wds
    have hr2 : MapL (fun x : Str => sv x) W2 r (rl (K0 ++ come K js)) := by
      unfold MapL
      rw [hW2, setB_other _ f2, hh]
      exact h.rls
    have hk2 : Keep (fun _ => False) w W2 := by rw [hW2]; exact hk1.setB _ _ (.inl f6)
    have hKK : ∀ x ∈ K0 ++ come K js, x < 12 := fun x hx => by
      rcases List.mem_append.1 hx with hx | hx
      · exact (hK0 x hx).1
      · exact hK12 x (come_mem hs.lt x hx)
    have hfresh : ¬ K.getD j 0 ∈ K0 ++ come K js := fun hx => by
      rcases List.mem_append.1 hx with hx | hx
      · exact (hK0 _ hx).2 hkm
      · exact come_new hK hjl hs.lt hnew hx
    have hput := run_put strKeys Tryz.underlying82 Tryz.underlying9 W2 r _ hr2 (nm (K.getD j 0)) (ruleV (K.getD j 0)) (wl_new hKK (hK12 _ hkm) hfresh)
    refine ⟨K.getD j 0, W2, _, hkm, by rw [hW2]; exact hr, run_entry W2 m it (wl K) seen j _ hw2 hi2 hp, hput, ⟨j, hk2.setB _ _ (.inl f4), ?_, ?_, ⟨seen.push j, hs', ?_⟩, h.far⟩, ?_⟩
    · rw [come_push, ← List.append_assoc, rl_append]
      exact setB_at hr2
    · unfold MapL
      rw [setB_other _ (fun e => f1 e.symm)]
      exact hw2
    · rw [setB_other _ (fun e => f2 e.symm), hi2, wl_length]
    · have h1 : (setB W2 r (.map (mkE (fun x : Str => sv x) (rl (K0 ++ come K js) ++ [(nm (K.getD j 0), ruleV (K.getD j 0))])) (rl (K0 ++ come K js) ++ [(nm (K.getD j 0), ruleV (K.getD j 0))]).length)).heap[it]? = some (.mapIter (some m) (wl K).length (seen.push j) (wl K).length) := by rw [setB_other _ (fun e => f2 e.symm)]; exact hi2
      rw [iterLeft_eq h1, iterLeft_eq hi, wl_length]
      exact leftNo_push hj
set_option maxRecDepth 100000 in
set_option maxHeartbeats 1600000 in
theorem rules_any (w : World) : Calls Tryz.prog 34 #[] w fun e w' => ∃ r, e = .returned (.map (some r)) ∧ RulesAt w' r ∧ w.heap.size ≤ r ∧ Keep (fun _ => False) w w' := by
  have hmm := @run_makeMap Tryz.prog
  obtain ⟨A1, hA1⟩ : ∃ x : World, x = w.alloc (.map (mkE (fun x : Str => sv x) (rl [11])) (rl [11]).length) := ⟨_, rfl⟩
  have hpA1 : (Instr.mapUpdate 82 (.map (some w.heap.size)) (.string ⟨#[100, 101, 102, 114, 97, 103]⟩) (.agg #[.int .i64 11, .bool true, .func (.func 66) #[] #[], .func (.func 67) #[] #[]])).run Tryz.prog (w.alloc (.map #[] 0)) = .ok () A1 := by
    rw [hA1]; exact run_put82 w [] 11 (by decide) (by decide) (by decide)
  obtain ⟨A2, hA2⟩ : ∃ x : World, x = w.alloc (.map (mkE (fun x : Str => sv x) (rl [11, 8])) (rl [11, 8]).length) := ⟨_, rfl⟩
  have hpA2 : (Instr.mapUpdate 82 (.map (some w.heap.size)) (.string ⟨#[119, 97, 116, 99, 104]⟩) (.agg #[.int .i64 8, .bool true, .func (.func 68) #[] #[], .func (.func 70) #[] #[]])).run Tryz.prog A1 = .ok () A2 := by
    rw [hA2, hA1]; exact run_put82 w [11] 8 (by decide) (by decide) (by decide)
  obtain ⟨A3, hA3⟩ : ∃ x : World, x = w.alloc (.map (mkE (fun x : Str => sv x) (rl [11, 8, 7])) (rl [11, 8, 7]).length) := ⟨_, rfl⟩
  have hpA3 : (Instr.mapUpdate 82 (.map (some w.heap.size)) (.string ⟨#[97, 115, 107]⟩) (.agg #[.int .i64 7, .bool true, .func (.func 72) #[] #[], .func (.func 74) #[] #[]])).run Tryz.prog A2 = .ok () A3 := by
    rw [hA3, hA2]; exact run_put82 w [11, 8] 7 (by decide) (by decide) (by decide)
  have hkA : Keep (fun _ => False) w A3 := by rw [hA3]; exact (Keep.refl _ w).alloc _
  have hbA : MapL (fun x : Str => sv x) A3 w.heap.size (rl [11, 8, 7]) := by rw [hA3]; exact block_new _ _
  have hsA : A3.heap.size = w.heap.size + 1 := by rw [hA3]; simp
  obtain ⟨B1, hB1⟩ : ∃ x : World, x = A3.alloc (.map (mkE (fun x : Str => sv x) (wl [0])) (wl [0]).length) := ⟨_, rfl⟩
  have hpB1 : (Instr.mapUpdate 148 (.map (some A3.heap.size)) (.string ⟨#[100, 101, 108, 105, 118, 101, 114]⟩) (.int .i64 0)).run Tryz.prog (A3.alloc (.map #[] 0)) = .ok () B1 := by
    rw [hB1]; exact run_put148 A3 [] 0 (by decide) (by decide) (by decide)
  obtain ⟨B2, hB2⟩ : ∃ x : World, x = A3.alloc (.map (mkE (fun x : Str => sv x) (wl [0, 1])) (wl [0, 1]).length) := ⟨_, rfl⟩
  have hpB2 : (Instr.mapUpdate 148 (.map (some A3.heap.size)) (.string ⟨#[100, 114, 111, 112]⟩) (.int .i64 1)).run Tryz.prog B1 = .ok () B2 := by
    rw [hB2, hB1]; exact run_put148 A3 [0] 1 (by decide) (by decide) (by decide)
  obtain ⟨B3, hB3⟩ : ∃ x : World, x = A3.alloc (.map (mkE (fun x : Str => sv x) (wl [0, 1, 2])) (wl [0, 1, 2]).length) := ⟨_, rfl⟩
  have hpB3 : (Instr.mapUpdate 148 (.map (some A3.heap.size)) (.string ⟨#[116, 119, 105, 99, 101]⟩) (.int .i64 2)).run Tryz.prog B2 = .ok () B3 := by
    rw [hB3, hB2]; exact run_put148 A3 [0, 1] 2 (by decide) (by decide) (by decide)
  have hkB : Keep (fun _ => False) A3 B3 := by rw [hB3]; exact (Keep.refl _ A3).alloc _
  have hbB : MapL (fun x : Str => sv x) B3 A3.heap.size (wl K1) := by rw [hB3]; exact block_new _ _
  have hsB : B3.heap.size = A3.heap.size + 1 := by rw [hB3]; simp
  obtain ⟨C, hC⟩ : ∃ x : World, x = B3.alloc (.mapIter (some A3.heap.size) K1.length #[] K1.length) := ⟨_, rfl⟩
  have hrg : (Instr.range 148 (.map (some A3.heap.size))).run Tryz.prog B3 = .ok (.pointer (some ⟨B3.heap.size, 0, none⟩)) C := by
    rw [hC]; exact run_range (enc := fun x : Str => sv x) Tryz.underlying148 B3 A3.heap.size (wl K1) hbB
  have hloop : RulesLoop w w.heap.size A3.heap.size B3.heap.size [11, 8, 7] K1 [] C := by
    rw [hC]
    exact ⟨(hkA.trans' hkB).alloc _, block_alloc (hkB.at' hbA (fun e => e)) _, block_alloc hbB _, ⟨#[], Seen.zero _, block_new _ _⟩, by omega⟩
  have HLOOP := Lib.hid hloop
  obtain ⟨r, hr⟩ : ∃ r, r = w.heap.size := ⟨_, rfl⟩
  clear hloop hbA hbB hkA hkB hC hA1 hA2 hA3 hB1 hB2 hB3 hsA hsB
  go_enter Tryz.func34, Tryz.ntmps34
  go_wp2_with fail
  rw [← hr]
  rw [← hr] at HLOOP
  have HR := Lib.hid hr
  clear hr hpA1 hpA2 hpA3 hpB1 hpB2 hpB3 hrg
  generalize A3.heap.size = m1 at *
  generalize B3.heap.size = i1 at *
  go_loopw [2] (fun _ wr => ∃ js, RulesLoop w r m1 i1 [11, 8, 7] K1 js wr) (fun _ wr => iterLeft wr i1)
  case atStart => exact ⟨[], HLOOP.out⟩
  case round =>
    obtain ⟨js, hst⟩ := hrel
    have HST := Lib.hid hst
    clear hst
    rcases HST.out.next (by decide) (by decide) (by decide) 0 with ⟨hall, hnx⟩ | ⟨k, W2, W3, hk, hnx, hen, hpu, hlp, hlt⟩
    · have HALL := Lib.hid hall
      clear hall
      obtain ⟨D1, hD1⟩ : ∃ x : World, x = wr.alloc (.map (mkE (fun x : Str => sv x) (wl [3])) (wl [3]).length) := ⟨_, rfl⟩
      have hpD1 : (Instr.mapUpdate 148 (.map (some wr.heap.size)) (.string ⟨#[116, 105, 99, 107]⟩) (.int .i64 3)).run Tryz.prog (wr.alloc (.map #[] 0)) = .ok () D1 := by
        rw [hD1]; exact run_put148 wr [] 3 (by decide) (by decide) (by decide)
      obtain ⟨D2, hD2⟩ : ∃ x : World, x = wr.alloc (.map (mkE (fun x : Str => sv x) (wl [3, 4])) (wl [3, 4]).length) := ⟨_, rfl⟩
      have hpD2 : (Instr.mapUpdate 148 (.map (some wr.heap.size)) (.string ⟨#[99, 104, 117, 110, 107]⟩) (.int .i64 4)).run Tryz.prog D1 = .ok () D2 := by
        rw [hD2, hD1]; exact run_put148 wr [3] 4 (by decide) (by decide) (by decide)
      obtain ⟨D3, hD3⟩ : ∃ x : World, x = wr.alloc (.map (mkE (fun x : Str => sv x) (wl [3, 4, 5])) (wl [3, 4, 5]).length) := ⟨_, rfl⟩
      have hpD3 : (Instr.mapUpdate 148 (.map (some wr.heap.size)) (.string ⟨#[99, 114, 97, 115, 104]⟩) (.int .i64 5)).run Tryz.prog D2 = .ok () D3 := by
        rw [hD3, hD2]; exact run_put148 wr [3, 4] 5 (by decide) (by decide) (by decide)
      obtain ⟨D4, hD4⟩ : ∃ x : World, x = wr.alloc (.map (mkE (fun x : Str => sv x) (wl [3, 4, 5, 6])) (wl [3, 4, 5, 6]).length) := ⟨_, rfl⟩
      have hpD4 : (Instr.mapUpdate 148 (.map (some wr.heap.size)) (.string ⟨#[119, 97, 107, 101]⟩) (.int .i64 6)).run Tryz.prog D3 = .ok () D4 := by
        rw [hD4, hD3]; exact run_put148 wr [3, 4, 5] 6 (by decide) (by decide) (by decide)
      obtain ⟨D5, hD5⟩ : ∃ x : World, x = wr.alloc (.map (mkE (fun x : Str => sv x) (wl [3, 4, 5, 6, 9])) (wl [3, 4, 5, 6, 9]).length) := ⟨_, rfl⟩
      have hpD5 : (Instr.mapUpdate 148 (.map (some wr.heap.size)) (.string ⟨#[99, 97, 110, 99, 101, 108]⟩) (.int .i64 9)).run Tryz.prog D4 = .ok () D5 := by
        rw [hD5, hD4]; exact run_put148 wr [3, 4, 5, 6] 9 (by decide) (by decide) (by decide)
      obtain ⟨D6, hD6⟩ : ∃ x : World, x = wr.alloc (.map (mkE (fun x : Str => sv x) (wl [3, 4, 5, 6, 9, 10])) (wl [3, 4, 5, 6, 9, 10]).length) := ⟨_, rfl⟩
      have hpD6 : (Instr.mapUpdate 148 (.map (some wr.heap.size)) (.string ⟨#[116, 97, 107, 101]⟩) (.int .i64 10)).run Tryz.prog D5 = .ok () D6 := by
        rw [hD6, hD5]; exact run_put148 wr [3, 4, 5, 6, 9] 10 (by decide) (by decide) (by decide)
      have hkD : Keep (fun _ => False) wr D6 := by rw [hD6]; exact (Keep.refl _ wr).alloc _
      have hbD : MapL (fun x : Str => sv x) D6 wr.heap.size (wl K2) := by rw [hD6]; exact block_new _ _
      have hsD : D6.heap.size = wr.heap.size + 1 := by rw [hD6]; simp
      obtain ⟨F, hF⟩ : ∃ x : World, x = D6.alloc (.mapIter (some wr.heap.size) K2.length #[] K2.length) := ⟨_, rfl⟩
      have hrg2 : (Instr.range 148 (.map (some wr.heap.size))).run Tryz.prog D6 = .ok (.pointer (some ⟨D6.heap.size, 0, none⟩)) F := by
        rw [hF]; exact run_range (enc := fun x : Str => sv x) Tryz.underlying148 D6 wr.heap.size (wl K2) hbD
      have hrlt := lt_of_block HST.out.rls
      have hloop2 : RulesLoop w r wr.heap.size D6.heap.size ([11, 8, 7] ++ come K1 js) K2 [] F := by
        rw [hF]
        refine ⟨(HST.out.keep.trans' hkD).alloc _, ?_, block_alloc hbD _, ⟨#[], Seen.zero _, block_new _ _⟩, ?_⟩
        · unfold MapL
          have h9 := HST.out.rls
          unfold MapL at h9
          rw [show ([11, 8, 7] ++ come K1 js ++ come K2 [] : List Nat) = [11, 8, 7] ++ come K1 js by simp [come]]
          exact block_alloc (hkD.at' h9 (fun e => e)) _
        · have h9 := HST.out.far
          have h8 := HST.out.keep.size
          exact ⟨by omega, by omega, by omega, by omega, by omega, by omega⟩
      have HLOOP2 := Lib.hid hloop2
      have hK0 : ∀ k ∈ [11, 8, 7] ++ come K1 js, k < 12 ∧ ¬ k ∈ K2 := by
        have hd : ∀ k ∈ [11, 8, 7] ++ K1, k < 12 ∧ ¬ k ∈ K2 := by decide
        have hlt : ∀ x ∈ js, x < K1.length := fun x hx => by simpa using (HALL.out.mem_iff.1 hx)
        intro k hk
        rcases List.mem_append.1 hk with hk | hk
        · exact hd k (List.mem_append.2 (.inl hk))
        · exact hd k (List.mem_append.2 (.inr (come_mem hlt k hk)))
      have HK0 := Lib.hid hK0
      clear hloop2 hbD hkD hF hD1 hD2 hD3 hD4 hD5 hD6 hsD hrlt hK0 HLOOP
      go_wp2_with fail
      clear hpD1 hpD2 hpD3 hpD4 hpD5 hpD6 hrg2 hnx
      generalize wr.heap.size = m2 at *
      generalize D6.heap.size = i2 at *
      go_loopw [4] (fun _ wr => ∃ js2, RulesLoop w r m2 i2 ([11, 8, 7] ++ come K1 js) K2 js2 wr) (fun _ wr => iterLeft wr i2)
      case atStart => exact ⟨[], HLOOP2.out⟩
      case round =>
        obtain ⟨js2, hst2⟩ := hrel
        have HST2 := Lib.hid hst2
        clear hst2
        rcases HST2.out.next (by decide) (by decide) HK0.out 0 with ⟨hall2, hnx2⟩ | ⟨k, W2, W3, hk, hnx2, hen2, hpu2, hlp2, hlt2⟩
        · have HALL2 := Lib.hid hall2
          clear hall2
          go_wp2_with fail
          go_ret
          refine ⟨r, rfl, ⟨_, ?_, HST2.out.rls⟩, HST2.out.far.2.2.2.1, HST2.out.keep⟩
          have h1 := come_all HALL.out
          have h2 := come_all HALL2.out
          exact ((h1.append_left [11, 8, 7]).append h2).trans (by decide)
        · have hrv : ruleV k = .agg #[.int .i64 k, .bool true, .func (.func 76) #[] #[], .func (.func 77) #[] #[]] := by
            simp only [K2, List.mem_cons, List.mem_nil_iff, or_false] at hk
            rcases hk with rfl | rfl | rfl | rfl | rfl | rfl <;> rfl
          rw [hrv] at hpu2
          obtain ⟨j, hlp2⟩ := hlp2
          have HLP := Lib.hid hlp2
          have HLT := Lib.hid hlt2
          clear hrv hlp2 hlt2 hk
          go_wp2_with fail
          exact ⟨⟨_, HLP.out⟩, HLT.out⟩
    · have hrv : ruleV k = .agg #[.int .i64 k, .bool false, .func (.func 76) #[] #[], .func (.func 77) #[] #[]] := by
        simp only [K1, List.mem_cons, List.mem_nil_iff, or_false] at hk
        rcases hk with rfl | rfl | rfl <;> rfl
      rw [hrv] at hpu
      obtain ⟨j, hlp⟩ := hlp
      have HLP := Lib.hid hlp
      have HLT := Lib.hid hlt
      clear hrv hlp hlt hk
      go_wp2_with fail
      exact ⟨⟨_, HLP.out⟩, HLT.out⟩
end Go.Proofs.YtifliekahdgobaaGreatDoor
namespace Go.Proofs.YtifliekahdgobaaGreatDoor
open Go.RowKit Sp

set_option maxRecDepth 100000 in
theorem write67_any (c : Array Value) (w : World) : Calls Tryz.prog 67 #[.agg c] w (Gives (sv []) w) := by
  go_enter Tryz.func67, Tryz.ntmps67
  go_wp2_with fail
  go_ret
  exact ⟨rfl, (Keep.refl _ w).alloc _⟩
theorem join_watch_le {x : WatchS} (h : MidWatch x) : (join (watchWords x)).length ≤ 50000000 := by
  have h1 : ∀ y ∈ watchWords x, y.length ≤ 2000001 := by
    have := hexText_len x.key; have := hexText_len x.fin
    have := itoa_len x.id; have := itoa_len x.start
    have := h.key; have := h.fin
    have hm : (markText lPndg [x.prev, x.noPut, x.noDelete, x.progress]).length ≤ 5 := markText_len lPndg _
    unfold watchWords
    intro y hy
    simp only [List.mem_cons, List.mem_nil_iff, or_false] at hy
    rcases hy with rfl | rfl | rfl | rfl | rfl <;> omega
  have h2 := join_len (watchWords x) 2000001 h1
  unfold watchWords at h2 ⊢
  simp only [List.length_cons, List.length_nil] at h2
  omega
set_option maxRecDepth 100000 in
theorem write70_any (s : StepS) (vc vt ve : Value) (hm : MidWatch s.watch) (w : World) (hg : Glob w) : Calls Tryz.prog 70 #[.agg (stepCells s vc vt ve)] w (Gives (sv (32 :: join (watchWords s.watch))) w) := by
  obtain ⟨cs, hcs⟩ : ∃ cs, cs = stepCells s vc vt ve := ⟨_, rfl⟩
  obtain ⟨W, hW⟩ : ∃ W : World, W = w.alloc (.cells cs 63) := ⟨_, rfl⟩
  have hkW : Keep (fun _ => False) w W := by rw [hW]; exact (Keep.refl _ w).alloc _
  have hB : StepBlk W w.heap.size s vc vt ve := ⟨by rw [hW, ← hcs]; exact block_new _ _⟩
  have hld := hB.watch
  have hl := join_watch_le hm
  have H := Lib.hid (watchText_any s.watch hm W (hg.far hkW))
  have HW := Lib.hid hW
  have HK := Lib.hid hkW
  rw [← hcs]
  clear hW hkW hB hg hm hcs
  generalize watchCells s.watch = cw at *
  generalize join (watchWords s.watch) = t at *
  rw [HW.out] at hld
  have H2 := H.out
  rw [HW.out] at H2
  have H := Lib.hid H2
  have HK2 := HK.out
  rw [HW.out] at HK2
  have HK := Lib.hid HK2
  clear H2 HK2 HW
  go_enter Tryz.func70, Tryz.ntmps70
  go_wp2_with fail
  refine H.out.mono ?_
  rintro e w1 ⟨rfl, hk⟩
  have HK1 := Lib.hid hk
  clear hk
  go_wp2_with fail
  go_ret
  refine ⟨?_, HK.out.trans' HK1.out⟩
  first | exact congrArg Ending.returned (congrArg Value.string (ba_cons _)) | rfl
theorem join_req_le {r : ReqS} (h : MidReq r) : (join (reqWords r)).length ≤ 900000000 := by
  have lop : ∀ x : OpS, MidOp x → ∀ y ∈ Sp.opWords x, y.length ≤ 2000001 := fun x hx y hy => by
    have := hexText_len x.key; have := hexText_len x.fin; have := hexText_len x.val
    have := itoa_len x.rev; have := itoa_len x.limit
    have := hx.key; have := hx.fin; have := hx.val
    have hm1 : (markText lCk [x.count, x.keys]).length ≤ 3 := markText_len lCk _
    have hm2 : (markText lP [x.prev]).length ≤ 2 := markText_len lP _
    unfold Sp.opWords at hy
    split at hy
    · simp only [List.mem_cons, List.mem_nil_iff, or_false] at hy
      rcases hy with rfl | rfl | rfl | rfl | rfl | rfl
      · simp [wRange]
      all_goals omega
    · split at hy
      · simp only [List.mem_cons, List.mem_nil_iff, or_false] at hy
        rcases hy with rfl | rfl | rfl | rfl
        · simp [wPut]
        all_goals omega
      · simp only [List.mem_cons, List.mem_nil_iff, or_false] at hy
        rcases hy with rfl | rfl | rfl | rfl
        · simp [wDel]
        all_goals omega
  have l7 : ∀ x : OpS, (Sp.opWords x).length ≤ 6 := fun x => by
    unfold Sp.opWords
    split
    · simp
    · split <;> simp
  have hkd : (kinds.getD r.kind.toNat []).length ≤ 7 := by
    rcases (by omega : r.kind.toNat = 0 ∨ r.kind.toNat = 1 ∨ r.kind.toNat = 2 ∨ r.kind.toNat = 3 ∨ 4 ≤ r.kind.toNat) with e | e | e | e | e
    · rw [e]; decide
    · rw [e]; decide
    · rw [e]; decide
    · rw [e]; decide
    · rw [List.getD_eq_getElem?_getD, List.getElem?_eq_none (by exact e)]; simp
  have h1 : ∀ y ∈ reqWords r, y.length ≤ 2000001 := by
    intro y hy
    unfold reqWords at hy
    rw [List.mem_append, List.mem_append, List.mem_append] at hy
    rcases hy with ((hy | hy) | hy) | hy
    · have := itoa_len r.client; have := itoa_len r.num; have := itoa_len r.rev
      have hm1 : (markText lS [r.serial]).length ≤ 2 := markText_len lS _
      simp only [List.mem_cons, List.mem_nil_iff, or_false] at hy
      rcases hy with rfl | rfl | rfl | rfl | rfl <;> omega
    · obtain ⟨c, hc, hy⟩ := List.mem_flatMap.1 hy
      have hx := h.cmps c hc
      have := hexText_len c.key; have := hexText_len c.val
      have := itoa_len c.what; have := itoa_len c.how; have := itoa_len c.n
      have := hx.key; have := hx.val
      unfold cmpWords at hy
      simp only [List.mem_cons, List.mem_nil_iff, or_false] at hy
      rcases hy with rfl | rfl | rfl | rfl | rfl | rfl
      · simp [wIf]
      all_goals omega
    · obtain ⟨x, hx, hy⟩ := List.mem_flatMap.1 hy
      rcases List.mem_cons.1 hy with rfl | hy
      · simp [wThen]
      · exact lop x (h.thn x hx) y hy
    · obtain ⟨x, hx, hy⟩ := List.mem_flatMap.1 hy
      rcases List.mem_cons.1 hy with rfl | hy
      · simp [wElse]
      · exact lop x (h.els x hx) y hy
  have h2 := join_len (reqWords r) 2000001 h1
  have lf : ∀ (w : Str) (l : List OpS), (l.flatMap fun x => w :: Sp.opWords x).length ≤ 7 * l.length := fun w l => by
    induction l with
    | nil => simp
    | cons x l ih => rw [List.flatMap_cons, List.length_append, List.length_cons, List.length_cons]; have := l7 x; omega
  have h3 : (reqWords r).length ≤ 405 := by
    have h4 := lf wThen r.thn
    have h5 := lf wElse r.els
    have h6 := flat6 r.cmps
    have := h.lc; have := h.lt; have := h.le
    unfold reqWords
    simp only [List.length_append, List.length_cons, List.length_nil]
    omega
  have h4 := Nat.mul_le_mul_right (2000001 + 1) h3
  omega
set_option maxRecDepth 100000 in
theorem write74_any (s : StepS) (vc vt ve : Value) (hm : MidReq s.req) (w : World) (hg : Glob w) (hr : ReqRead w s.req vc vt ve) :
    Calls Tryz.prog 74 #[.agg (stepCells s vc vt ve)] w (GotText (32 :: join (reqWords s.req)) (okKind s.req) w) := by
  obtain ⟨cs, hcs⟩ : ∃ cs, cs = stepCells s vc vt ve := ⟨_, rfl⟩
  obtain ⟨W, hW⟩ : ∃ W : World, W = w.alloc (.cells cs 63) := ⟨_, rfl⟩
  have hkW : Keep (fun _ => False) w W := by rw [hW]; exact (Keep.refl _ w).alloc _
  have hB : StepBlk W w.heap.size s vc vt ve := ⟨by rw [hW, ← hcs]; exact block_new _ _⟩
  have hld := hB.req
  have hl := join_req_le hm
  have H := Lib.hid (reqText_any s.req vc vt ve hm W (hg.far hkW) (hr.far hkW))
  have HW := Lib.hid hW
  have HK := Lib.hid hkW
  rw [← hcs]
  clear hW hkW hB hg hm hcs hr
  generalize reqCells s.req vc vt ve = cr at *
  generalize join (reqWords s.req) = t at *
  rw [HW.out] at hld
  have H2 := H.out
  rw [HW.out] at H2
  have H := Lib.hid H2
  have HK2 := HK.out
  rw [HW.out] at HK2
  have HK := Lib.hid HK2
  clear H2 HK2 HW
  go_enter Tryz.func74, Tryz.ntmps74
  go_wp2_with fail
  refine H.out.mono ?_
  rintro e w1 ⟨hk, ⟨ho, rfl⟩ | ⟨ho, rfl⟩⟩
  · have HK1 := Lib.hid hk
    have HO := Lib.hid ho
    clear hk ho
    go_wp2_with fail
    go_ret
    refine ⟨HK.out.trans' HK1.out, .inl ⟨HO.out, ?_⟩⟩
    first | exact congrArg Ending.returned (congrArg Value.string (ba_cons _)) | rfl
  · exact ⟨rfl, HK.out.trans' hk, .inr ⟨ho, rfl⟩⟩
/-- what a kind's writing comes to -/
theorem write_any (k : Nat) (s : StepS) (vc vt ve : Value) (hm : MidStep s) (w : World) (hg : Glob w) (hr : ReqRead w s.req vc vt ve) :
    Calls Tryz.prog (writeF k) #[.agg (stepCells s vc vt ve)] w (GotText (bodyText k s) (bodyOk k s) w) := by
  unfold writeF bodyText bodyOk
  by_cases h11 : k = 11
  · subst h11
    exact (write67_any _ w).mono fun e w' h => ⟨h.2, .inl ⟨rfl, h.1⟩⟩
  · rw [if_neg h11, if_neg h11]
    by_cases h8 : k = 8
    · subst h8
      exact (write70_any s vc vt ve hm.watch w hg).mono fun e w' h => ⟨h.2, .inl ⟨rfl, h.1⟩⟩
    · rw [if_neg h8, if_neg h8]
      by_cases h7 : k = 7
      · subst h7
        exact write74_any s vc vt ve hm.req w hg hr
      · rw [if_neg h7, if_neg h7, if_neg h7]
        exact (writeN_any s vc vt ve hm w hg).mono fun e w' h => ⟨h.2, .inl ⟨rfl, h.1⟩⟩
end Go.Proofs.YtifliekahdgobaaGreatDoor
namespace Go.Proofs.YtifliekahdgobaaGreatDoor
open Go.RowKit Sp

theorem takeStep {α : Type} {l1 l2 : List α} {k : Nat} (h1 : k < l1.length) (h2 : k < l2.length) (h : l1.take k = l2.take k) (he : l1[k] = l2[k]) : l1.take (k + 1) = l2.take (k + 1) := by
  rw [List.take_succ_eq_append_getElem h1, List.take_succ_eq_append_getElem h2, h, he]
theorem neAt {α : Type} {l1 l2 : List α} {k : Nat} (h1 : k < l1.length) (h2 : k < l2.length) (he : ¬ l1[k] = l2[k]) : ¬ l1 = l2 := fun e => by
  subst e
  exact he rfl
set_option maxRecDepth 100000 in
set_option maxHeartbeats 1600000 in
theorem eqCmps_any (v1 v2 : Value) (l1 l2 : List CmpS) (w : World) (h1 : RowRead cmpCells 5 w v1 l1) (h2 : RowRead cmpCells 5 w v2 l2) (hn : l1.length ≤ 1000000) :
    Calls Tryz.prog 114 #[v1, v2] w (Tells (decide (l1 = l2)) w) := by
  obtain ⟨a1, c1, rfl, -⟩ := id h1
  obtain ⟨a2, c2, rfl, -⟩ := id h2
  have H1 := Lib.hid h1
  have H2 := Lib.hid h2
  clear h1 h2
  obtain ⟨r, hr⟩ : ∃ r, r = decide (l1 = l2) := ⟨_, rfl⟩
  rw [← hr]
  have HR := Lib.hid hr
  clear hr
  by_cases hl : l1.length = l2.length
  · have hl' : ((l1.length : Int) != (l2.length : Int)) = false := by rw [bne_eq_false_iff_eq, hl]
    have HL := Lib.hid hl
    clear hl
    go_enter Tryz.func114, Tryz.ntmps114
    go_wp2_with fail
    go_loopw [5, 13] (fun v5 v13 wr => ∃ k : Nat, k ≤ l1.length ∧ v13 = .int .i64 k ∧ Hid (l1.take k = l2.take k) ∧ Keep (fun _ => False) w wr) (fun _ v13 _ => l1.length - (intOf v13).toNat)
    case atStart => exact ⟨0, Nat.zero_le _, rfl, Lib.hid rfl, Keep.refl _ _⟩
    case round =>
      obtain ⟨k, hk, rfl, HT, hkr⟩ := hrel
      by_cases hlt : k < l1.length
      · have hlt2 : k < l2.length := by have := HL.out; omega
        obtain ⟨b, o, hbo, hrng⟩ := (H1.out.keep hkr (fun _ _ _ _ _ e => e)).at k hlt
        obtain ⟨b', o', hbo', hrng'⟩ := (H2.out.keep hkr (fun _ _ _ _ _ e => e)).at k hlt2
        subst hbo hbo'
        have hs := fun he => takeStep hlt hlt2 HT.out he
        have hne := fun he => neAt (l1 := l1) (l2 := l2) hlt hlt2 he
        have hlt' : (k : Int) < (l1.length : Int) := by omega
        have hlt2' : (k : Int) < (l2.length : Int) := by omega
        generalize l1[k] = x at *
        generalize l2[k] = y at *
        have hld : ∀ q, (ldT 65 (.pointer (some ⟨b, o + k * 5, none⟩))).run Tryz.prog (wr.drewN q) = .ok (.value (.agg (cmpCells x))) (wr.drewN q) := fun q => run_ld65 _ b _ _ rfl (fun j u hu => by rw [World.cell?_drewN]; exact hrng j u hu)
        have hld' : ∀ q, (ldT 65 (.pointer (some ⟨b', o' + k * 5, none⟩))).run Tryz.prog (wr.drewN q) = .ok (.value (.agg (cmpCells y))) (wr.drewN q) := fun q => run_ld65 _ b' _ _ rfl (fun j u hu => by rw [World.cell?_drewN]; exact hrng' j u hu)
        have HS := Lib.hid hs
        have HNE := Lib.hid hne
        have HKR := Lib.hid hkr
        have hneq := fun w => neq65 x y w
        have hgrd := fun (op : BinOp) (a b : Operand) (w : World) => grd65 op a b x y w
        clear hs hne hkr hrng hrng' HT
        by_cases hxy : x = y
        · have hd : decide (x = y) = true := decide_eq_true hxy
          have HE := Lib.hid hxy
          clear hxy
          go_wp2_with fail
          go_quiet (fail)
          go_wp2_with fail
          exact ⟨⟨k + 1, by omega, by go_num, Lib.hid (HS.out HE.out), HKR.out.drewN _⟩, by simp [intOf]; omega⟩
        · have hd : decide (x = y) = false := decide_eq_false hxy
          have HE := Lib.hid hxy
          clear hxy
          go_wp2_with fail
          go_quiet (fail)
          go_wp2_with fail
          go_ret
          exact ⟨by rw [HR.out, decide_eq_false (HNE.out HE.out)]; rfl, HKR.out.drewN _⟩
      · have hge : ¬ (k : Int) < (l1.length : Int) := by omega
        have HE := Lib.hid (show l1 = l2 by
          have := HT.out
          obtain rfl : k = l1.length := by omega
          rw [List.take_length, HL.out, List.take_length] at this
          exact this)
        clear HT
        have HKR := Lib.hid hkr
        clear hkr
        go_wp2_with fail
        go_ret
        exact ⟨by rw [HR.out, decide_eq_true HE.out]; rfl, HKR.out⟩
  · have hl' : ((l1.length : Int) != (l2.length : Int)) = true := by rw [bne_iff_ne]; omega
    have HL := Lib.hid (show ¬ l1 = l2 from fun e => hl (by rw [e]))
    clear hl
    go_enter Tryz.func114, Tryz.ntmps114
    go_wp2_with fail
    go_ret
    exact ⟨by rw [HR.out, decide_eq_false HL.out]; rfl, Keep.refl _ _⟩
set_option maxRecDepth 100000 in
set_option maxHeartbeats 1600000 in
theorem eqOps_any (v1 v2 : Value) (l1 l2 : List OpS) (w : World) (h1 : RowRead opCells 9 w v1 l1) (h2 : RowRead opCells 9 w v2 l2) (hn : l1.length ≤ 1000000) :
    Calls Tryz.prog 115 #[v1, v2] w (Tells (decide (l1 = l2)) w) := by
  obtain ⟨a1, c1, rfl, -⟩ := id h1
  obtain ⟨a2, c2, rfl, -⟩ := id h2
  have H1 := Lib.hid h1
  have H2 := Lib.hid h2
  clear h1 h2
  obtain ⟨r, hr⟩ : ∃ r, r = decide (l1 = l2) := ⟨_, rfl⟩
  rw [← hr]
  have HR := Lib.hid hr
  clear hr
  by_cases hl : l1.length = l2.length
  · have hl' : ((l1.length : Int) != (l2.length : Int)) = false := by rw [bne_eq_false_iff_eq, hl]
    have HL := Lib.hid hl
    clear hl
    go_enter Tryz.func115, Tryz.ntmps115
    go_wp2_with fail
    go_loopw [5, 13] (fun v5 v13 wr => ∃ k : Nat, k ≤ l1.length ∧ v13 = .int .i64 k ∧ Hid (l1.take k = l2.take k) ∧ Keep (fun _ => False) w wr) (fun _ v13 _ => l1.length - (intOf v13).toNat)
    case atStart => exact ⟨0, Nat.zero_le _, rfl, Lib.hid rfl, Keep.refl _ _⟩
    case round =>
      obtain ⟨k, hk, rfl, HT, hkr⟩ := hrel
      by_cases hlt : k < l1.length
      · have hlt2 : k < l2.length := by have := HL.out; omega
        obtain ⟨b, o, hbo, hrng⟩ := (H1.out.keep hkr (fun _ _ _ _ _ e => e)).at k hlt
        obtain ⟨b', o', hbo', hrng'⟩ := (H2.out.keep hkr (fun _ _ _ _ _ e => e)).at k hlt2
        subst hbo hbo'
        have hs := fun he => takeStep hlt hlt2 HT.out he
        have hne := fun he => neAt (l1 := l1) (l2 := l2) hlt hlt2 he
        have hlt' : (k : Int) < (l1.length : Int) := by omega
        have hlt2' : (k : Int) < (l2.length : Int) := by omega
        generalize l1[k] = x at *
        generalize l2[k] = y at *
        have hld : ∀ q, (ldT 67 (.pointer (some ⟨b, o + k * 9, none⟩))).run Tryz.prog (wr.drewN q) = .ok (.value (.agg (opCells x))) (wr.drewN q) := fun q => run_ld67 _ b _ _ rfl (fun j u hu => by rw [World.cell?_drewN]; exact hrng j u hu)
        have hld' : ∀ q, (ldT 67 (.pointer (some ⟨b', o' + k * 9, none⟩))).run Tryz.prog (wr.drewN q) = .ok (.value (.agg (opCells y))) (wr.drewN q) := fun q => run_ld67 _ b' _ _ rfl (fun j u hu => by rw [World.cell?_drewN]; exact hrng' j u hu)
        have HS := Lib.hid hs
        have HNE := Lib.hid hne
        have HKR := Lib.hid hkr
        have hneq := fun w => neq67 x y w
        have hgrd := fun (op : BinOp) (a b : Operand) (w : World) => grd67 op a b x y w
        clear hs hne hkr hrng hrng' HT
        by_cases hxy : x = y
        · have hd : decide (x = y) = true := decide_eq_true hxy
          have HE := Lib.hid hxy
          clear hxy
          go_wp2_with fail
          go_quiet (fail)
          go_wp2_with fail
          exact ⟨⟨k + 1, by omega, by go_num, Lib.hid (HS.out HE.out), HKR.out.drewN _⟩, by simp [intOf]; omega⟩
        · have hd : decide (x = y) = false := decide_eq_false hxy
          have HE := Lib.hid hxy
          clear hxy
          go_wp2_with fail
          go_quiet (fail)
          go_wp2_with fail
          go_ret
          exact ⟨by rw [HR.out, decide_eq_false (HNE.out HE.out)]; rfl, HKR.out.drewN _⟩
      · have hge : ¬ (k : Int) < (l1.length : Int) := by omega
        have HE := Lib.hid (show l1 = l2 by
          have := HT.out
          obtain rfl : k = l1.length := by omega
          rw [List.take_length, HL.out, List.take_length] at this
          exact this)
        clear HT
        have HKR := Lib.hid hkr
        clear hkr
        go_wp2_with fail
        go_ret
        exact ⟨by rw [HR.out, decide_eq_true HE.out]; rfl, HKR.out⟩
  · have hl' : ((l1.length : Int) != (l2.length : Int)) = true := by rw [bne_iff_ne]; omega
    have HL := Lib.hid (show ¬ l1 = l2 from fun e => hl (by rw [e]))
    clear hl
    go_enter Tryz.func115, Tryz.ntmps115
    go_wp2_with fail
    go_ret
    exact ⟨by rw [HR.out, decide_eq_false HL.out]; rfl, Keep.refl _ _⟩
theorem req_eq {a b : ReqS} (h1 : a.kind = b.kind) (h2 : a.client = b.client) (h3 : a.num = b.num) (h4 : a.serial = b.serial) (h5 : a.rev = b.rev) (h6 : a.cmps = b.cmps) (h7 : a.thn = b.thn) (h8 : a.els = b.els) : a = b := by
  obtain ⟨r1, r2, r3, r4, r5, r6, r7, r8⟩ := a
  obtain ⟨s1, s2, s3, s4, s5, s6, s7, s8⟩ := b
  dsimp only at *
  subst h1 h2 h3 h4 h5 h6 h7 h8
  rfl
set_option maxRecDepth 100000 in
set_option maxHeartbeats 3200000 in
theorem sameReq_any (a b : ReqS) (vca vta vea vcb vtb veb : Value) (w : World) (ha : ReqRead w a vca vta vea) (hb : ReqRead w b vcb vtb veb) (hla : a.cmps.length ≤ 1000000 ∧ a.thn.length ≤ 1000000 ∧ a.els.length ≤ 1000000) :
    Calls Tryz.prog 80 #[.agg (reqCells a vca vta vea), .agg (reqCells b vcb vtb veb)] w (Tells (decide (a = b)) w) := by
  obtain ⟨N, hN⟩ : ∃ N, N = w.heap.size := ⟨_, rfl⟩
  obtain ⟨W, hW⟩ : ∃ W : World, W = (w.alloc (.cells (reqCells a vca vta vea) 59)).alloc (.cells (reqCells b vcb vtb veb) 59) := ⟨_, rfl⟩
  have hkW : Keep (fun _ => False) w W := by rw [hW]; exact ((Keep.refl _ w).alloc _).alloc _
  have hA : W.heap[N]? = some (.cells (reqCells a vca vta vea) 59 (0, 0)) := by rw [hW, hN]; exact block_alloc (block_new _ _) _
  have hB : W.heap[N + 1]? = some (.cells (reqCells b vcb vtb veb) 59 (0, 0)) := by rw [hW, hN]; exact block_new' _ _ (by simp)
  have ca0 : ∀ w', Keep (fun _ => False) W w' → w'.cell? ⟨N, 0, none⟩ = some (.int .i64 a.kind) := fun w' hk => cell_of_block (hk.at' hA (fun e => e)) 0
  have ca1 : ∀ w', Keep (fun _ => False) W w' → w'.cell? ⟨N, 1, none⟩ = some (.int .u64 a.client) := fun w' hk => cell_of_block (hk.at' hA (fun e => e)) 1
  have ca2 : ∀ w', Keep (fun _ => False) W w' → w'.cell? ⟨N, 2, none⟩ = some (.int .u64 a.num) := fun w' hk => cell_of_block (hk.at' hA (fun e => e)) 2
  have ca3 : ∀ w', Keep (fun _ => False) W w' → w'.cell? ⟨N, 3, none⟩ = some (.bool a.serial) := fun w' hk => cell_of_block (hk.at' hA (fun e => e)) 3
  have ca7 : ∀ w', Keep (fun _ => False) W w' → w'.cell? ⟨N, 7, none⟩ = some (.int .u64 a.rev) := fun w' hk => cell_of_block (hk.at' hA (fun e => e)) 7
  have ca4 : ∀ w', Keep (fun _ => False) W w' → w'.cell? ⟨N, 4, none⟩ = some (vca) := fun w' hk => cell_of_block (hk.at' hA (fun e => e)) 4
  have ca5 : ∀ w', Keep (fun _ => False) W w' → w'.cell? ⟨N, 5, none⟩ = some (vta) := fun w' hk => cell_of_block (hk.at' hA (fun e => e)) 5
  have ca6 : ∀ w', Keep (fun _ => False) W w' → w'.cell? ⟨N, 6, none⟩ = some (vea) := fun w' hk => cell_of_block (hk.at' hA (fun e => e)) 6
  have cb0 : ∀ w', Keep (fun _ => False) W w' → w'.cell? ⟨N + 1, 0, none⟩ = some (.int .i64 b.kind) := fun w' hk => cell_of_block (hk.at' hB (fun e => e)) 0
  have cb1 : ∀ w', Keep (fun _ => False) W w' → w'.cell? ⟨N + 1, 1, none⟩ = some (.int .u64 b.client) := fun w' hk => cell_of_block (hk.at' hB (fun e => e)) 1
  have cb2 : ∀ w', Keep (fun _ => False) W w' → w'.cell? ⟨N + 1, 2, none⟩ = some (.int .u64 b.num) := fun w' hk => cell_of_block (hk.at' hB (fun e => e)) 2
  have cb3 : ∀ w', Keep (fun _ => False) W w' → w'.cell? ⟨N + 1, 3, none⟩ = some (.bool b.serial) := fun w' hk => cell_of_block (hk.at' hB (fun e => e)) 3
  have cb7 : ∀ w', Keep (fun _ => False) W w' → w'.cell? ⟨N + 1, 7, none⟩ = some (.int .u64 b.rev) := fun w' hk => cell_of_block (hk.at' hB (fun e => e)) 7
  have cb4 : ∀ w', Keep (fun _ => False) W w' → w'.cell? ⟨N + 1, 4, none⟩ = some (vcb) := fun w' hk => cell_of_block (hk.at' hB (fun e => e)) 4
  have cb5 : ∀ w', Keep (fun _ => False) W w' → w'.cell? ⟨N + 1, 5, none⟩ = some (vtb) := fun w' hk => cell_of_block (hk.at' hB (fun e => e)) 5
  have cb6 : ∀ w', Keep (fun _ => False) W w' → w'.cell? ⟨N + 1, 6, none⟩ = some (veb) := fun w' hk => cell_of_block (hk.at' hB (fun e => e)) 6
  have da0 := ca0 W (Keep.refl _ _)
  have da1 := ca1 W (Keep.refl _ _)
  have da2 := ca2 W (Keep.refl _ _)
  have da3 := ca3 W (Keep.refl _ _)
  have da7 := ca7 W (Keep.refl _ _)
  have da4 := ca4 W (Keep.refl _ _)
  have Ea5 := Lib.hid ca5
  have Ea6 := Lib.hid ca6
  have db0 := cb0 W (Keep.refl _ _)
  have db1 := cb1 W (Keep.refl _ _)
  have db2 := cb2 W (Keep.refl _ _)
  have db3 := cb3 W (Keep.refl _ _)
  have db7 := cb7 W (Keep.refl _ _)
  have db4 := cb4 W (Keep.refl _ _)
  have Eb5 := Lib.hid cb5
  have Eb6 := Lib.hid cb6
  clear ca0 ca1 ca2 ca3 ca7 ca4 ca5 ca6 cb0 cb1 cb2 cb3 cb7 cb4 cb5 cb6
  have HKW := Lib.hid hkW
  have HW := Lib.hid hW
  have HA := Lib.hid (ha.far hkW)
  have HB := Lib.hid (hb.far hkW)
  have HLA := Lib.hid hla
  obtain ⟨⟨a1, c1, rfl, -⟩, ⟨a2, c2, rfl, -⟩, ⟨a3, c3, rfl, -⟩⟩ := ha
  obtain ⟨⟨b1, d1, rfl, -⟩, ⟨b2, d2, rfl, -⟩, ⟨b3, d3, rfl, -⟩⟩ := hb
  generalize reqCells a (.slice a1 a.cmps.length c1) (.slice a2 a.thn.length c2) (.slice a3 a.els.length c3) = ca at *
  generalize reqCells b (.slice b1 b.cmps.length d1) (.slice b2 b.thn.length d2) (.slice b3 b.els.length d3) = cb at *
  subst hN
  clear hW hA hB hkW hla
  go_enter Tryz.func80, Tryz.ntmps80
  go_upto_region 1 with fail
  rw [← HW.out]
  by_cases h1 : a.kind = b.kind
  rotate_left
  · have g1 : (a.kind == b.kind) = false := by rw [beq_eq_false_iff_ne]; exact h1
    have HE := Lib.hid (show ¬ a = b from fun e => h1 (by rw [e]))
    clear h1
    go_wp2_with fail
    go_ret
    exact ⟨by rw [decide_eq_false HE.out]; rfl, HKW.out⟩
  have g1 : (a.kind == b.kind) = true := by rw [beq_iff_eq]; exact h1
  have H1 := Lib.hid h1
  clear h1
  by_cases h2 : a.client = b.client
  rotate_left
  · have g2 : (a.client == b.client) = false := by rw [beq_eq_false_iff_ne]; exact h2
    have HE := Lib.hid (show ¬ a = b from fun e => h2 (by rw [e]))
    clear h2
    go_wp2_with fail
    go_ret
    exact ⟨by rw [decide_eq_false HE.out]; rfl, HKW.out⟩
  have g2 : (a.client == b.client) = true := by rw [beq_iff_eq]; exact h2
  have H2 := Lib.hid h2
  clear h2
  by_cases h3 : a.num = b.num
  rotate_left
  · have g3 : (a.num == b.num) = false := by rw [beq_eq_false_iff_ne]; exact h3
    have HE := Lib.hid (show ¬ a = b from fun e => h3 (by rw [e]))
    clear h3
    go_wp2_with fail
    go_ret
    exact ⟨by rw [decide_eq_false HE.out]; rfl, HKW.out⟩
  have g3 : (a.num == b.num) = true := by rw [beq_iff_eq]; exact h3
  have H3 := Lib.hid h3
  clear h3
  by_cases h4 : a.serial = b.serial
  rotate_left
  · have g4 : (a.serial == b.serial) = false := by rw [beq_eq_false_iff_ne]; exact h4
    have HE := Lib.hid (show ¬ a = b from fun e => h4 (by rw [e]))
    clear h4
    go_wp2_with fail
    go_ret
    exact ⟨by rw [decide_eq_false HE.out]; rfl, HKW.out⟩
  have g4 : (a.serial == b.serial) = true := by rw [beq_iff_eq]; exact h4
  have H4 := Lib.hid h4
  clear h4
  by_cases h5 : a.rev = b.rev
  rotate_left
  · have g5 : (a.rev == b.rev) = false := by rw [beq_eq_false_iff_ne]; exact h5
    have HE := Lib.hid (show ¬ a = b from fun e => h5 (by rw [e]))
    clear h5
    go_wp2_with fail
    go_ret
    exact ⟨by rw [decide_eq_false HE.out]; rfl, HKW.out⟩
  have g5 : (a.rev == b.rev) = true := by rw [beq_iff_eq]; exact h5
  have H5 := Lib.hid h5
  clear h5
  have Q1 := Lib.hid (eqCmps_any (.slice a1 a.cmps.length c1) (.slice b1 b.cmps.length d1) a.cmps b.cmps W HA.out.1 HB.out.1 HLA.out.1)
  go_wp2_with fail
  refine Q1.out.mono ?_
  rintro e w1 ⟨rfl, hk1⟩
  have HK1 := Lib.hid hk1
  have HKT1 := Lib.hid (HKW.out.trans' hk1)
  by_cases h6 : a.cmps = b.cmps
  rotate_left
  · have g6 : decide (a.cmps = b.cmps) = false := decide_eq_false h6
    have HE := Lib.hid (show ¬ a = b from fun e => h6 (by rw [e]))
    clear h6 hk1
    go_wp2_with fail
    go_ret
    exact ⟨by rw [decide_eq_false HE.out]; rfl, HKT1.out⟩
  have g6 : decide (a.cmps = b.cmps) = true := decide_eq_true h6
  have H6 := Lib.hid h6
  clear h6
  have x5 := Ea5.out w1 hk1
  have y5 := Eb5.out w1 hk1
  have Q2 := Lib.hid (eqOps_any (.slice a2 a.thn.length c2) (.slice b2 b.thn.length d2) a.thn b.thn w1 (HA.out.far hk1).2.1 (HB.out.far hk1).2.1 HLA.out.2.1)
  clear hk1
  go_wp2_with fail
  refine Q2.out.mono ?_
  rintro e w2 ⟨rfl, hk2⟩
  have HK2 := Lib.hid (HK1.out.trans' hk2)
  by_cases h7 : a.thn = b.thn
  rotate_left
  · have g7 : decide (a.thn = b.thn) = false := decide_eq_false h7
    have HE := Lib.hid (show ¬ a = b from fun e => h7 (by rw [e]))
    clear h7 hk2
    go_wp2_with fail
    go_ret
    exact ⟨by rw [decide_eq_false HE.out]; rfl, HKW.out.trans' HK2.out⟩
  have g7 : decide (a.thn = b.thn) = true := decide_eq_true h7
  have H7 := Lib.hid h7
  clear h7 hk2
  have x6 := Ea6.out w2 HK2.out
  have y6 := Eb6.out w2 HK2.out
  have Q3 := Lib.hid (eqOps_any (.slice a3 a.els.length c3) (.slice b3 b.els.length d3) a.els b.els w2 (HA.out.far HK2.out).2.2 (HB.out.far HK2.out).2.2 HLA.out.2.2)
  go_wp2_with fail
  refine Q3.out.mono ?_
  rintro e w3 ⟨rfl, hk3⟩
  have HK3 := Lib.hid (HK2.out.trans' hk3)
  clear hk3
  have HEND := Lib.hid (show decide (a.els = b.els) = decide (a = b) from decide_eq_decide.2 ⟨fun h => req_eq H1.out H2.out H3.out H4.out H5.out H6.out H7.out h, fun h => by rw [h]⟩)
  go_wp2_with fail
  go_ret
  exact ⟨by rw [← HEND.out]; rfl, HKW.out.trans' HK3.out⟩
end Go.Proofs.YtifliekahdgobaaGreatDoor
namespace Go.Proofs.YtifliekahdgobaaGreatDoor
open Go.RowKit Sp

theorem run_tail (rb off n c : Nat) (w : World) (h1 : n + 1 ≤ c) : ∃ off' c', (Instr.sliceAt 48 (.slice (some ⟨rb, off, none⟩) (n + 1) c) (some (.int .i64 1)) none none).run Tryz.prog w = .ok (.slice (some ⟨rb, off', none⟩) n c') w ∧ (n = 0 ∨ off' = off + 1) ∧ n ≤ c' ∧ c' ≤ c := by
  by_cases hc1 : c = 1
  · subst hc1
    obtain rfl : n = 0 := by omega
    refine ⟨off, 0, ?_, .inl rfl, by omega, by omega⟩
    go_simp
  · refine ⟨off + 1, c - 1, ?_, .inr rfl, by omega, by omega⟩
    go_simp
    intro h9
    omega
theorem info88 : (Tryz.prog.info? 88).map (·.size) = some 4 := by kernel_rfl
@[go_sem ↓] theorem execOp_store88 (ρ : Operand → Value) (x y : Operand) (d : Option Tmp) (t : TypeId) (p : String) (af : Array Edge) (g : Option (Nat × Bool)) :
    execOp ρ { dst := d, op := Op.store 88 x y, type := t, pos := p, after := af, guard := g } = stT 88 (ρ x) (ρ y) := rfl
@[go_sem ↓] theorem execOp_load88 (ρ : Operand → Value) (x : Operand) (d : Option Tmp) (t : TypeId) (p : String) (af : Array Edge) (g : Option (Nat × Bool)) :
    execOp ρ { dst := d, op := Op.load 88 x, type := t, pos := p, after := af, guard := g } = ldT 88 (ρ x) := rfl
theorem run_st88 (w : World) (b o : Nat) (cells : Array Value) (ht : w.there b o 4) (hs : cells.size = 4) (h1 : cells.all (·.oneCell') = true) :
    (stT 88 (.pointer (some ⟨b, o, none⟩)) (.agg cells)).run Tryz.prog w = .ok .skip (w.setCells b o cells.toList) := run_stT info88 w b o cells ht hs h1
theorem run_ld88 (w : World) (b o : Nat) (cs : Array Value) (hs : cs.size = 4) (hc : w.rangeAt b o cs.toList) :
    (ldT 88 (.pointer (some ⟨b, o, none⟩))).run Tryz.prog w = .ok (.value (.agg cs)) w := run_ldT Tryz.underlying88 rfl info88 w b o cs hs hc
theorem kindOf_some {x : Str} {k : Nat} (h : kindOf names x = some k) : k < 12 ∧ x = nm k := by
  unfold kindOf at h
  obtain ⟨h1, h2, -⟩ := List.findIdx?_eq_some_iff_getElem.1 h
  refine ⟨h1, ?_⟩
  have h3 : names[k] = x := by simpa using h2
  unfold nm
  rw [List.getD_eq_getElem?_getD, List.getElem?_eq_getElem h1]
  exact h3.symm
theorem kindOf_none {x : Str} (h : kindOf names x = none) : ∀ k, k < 12 → nm k ≠ x := by
  intro k hk e
  unfold kindOf at h
  rw [List.findIdx?_eq_none_iff] at h
  have h1 : nm k ∈ names := by
    unfold nm
    rw [List.getD_eq_getElem?_getD, List.getElem?_eq_getElem (show k < names.length from hk)]
    exact List.getElem_mem _
  have := h _ h1
  simp [e] at this
/-- the look-up in the map of rules -/
theorem look_rule {w : World} {r : Nat} (h : RulesAt w r) {x : Str} {k : Nat} (hk : kindOf names x = some k) :
    (Instr.lookup 82 (.map (some r)) (.string ⟨x.toArray⟩) true).run Tryz.prog w = .ok (.tuple #[.agg (ruleCells k (decide (2 < k)) (readF k) (writeF k)), .bool true]) w := by
  obtain ⟨K, hp, hm⟩ := h
  obtain ⟨hk12, rfl⟩ := kindOf_some hk
  exact run_look_hit strKeys Tryz.underlying82 Tryz.underlying9 w r (rl K) hm (nm k) (ruleV k) (List.mem_map.2 ⟨k, (hp.mem_iff.2 (by simpa using hk12)), rfl⟩) (fun p hp' he => by
    obtain ⟨j, hj, rfl⟩ := List.mem_map.1 hp'
    have hj12 : j < 12 := by simpa using hp.mem_iff.1 hj
    rw [show j = k from nm_inj j hj12 k hk12 he]) true
theorem look_none {w : World} {r : Nat} (h : RulesAt w r) {x : Str} (hk : kindOf names x = none) :
    (Instr.lookup 82 (.map (some r)) (.string ⟨x.toArray⟩) true).run Tryz.prog w = .ok (.tuple #[.agg #[.int .i64 0, .bool false, .nilFunc, .nilFunc], .bool false]) w := by
  obtain ⟨K, hp, hm⟩ := h
  exact run_look_miss strKeys Tryz.underlying82 Tryz.underlying9 w r (rl K) hm x (.agg #[.int .i64 0, .bool false, .nilFunc, .nilFunc]) (by go_simp) (fun p hp' => by
    obtain ⟨j, hj, rfl⟩ := List.mem_map.1 hp'
    exact kindOf_none hk j (by simpa using hp.mem_iff.1 hj)) true
theorem RulesAt.keep {w w' : World} {r : Nat} (h : RulesAt w r) (hk : Keep (fun _ => False) w w') : RulesAt w' r := by
  obtain ⟨K, hp, hm⟩ := h
  exact ⟨K, hp, hk.at' hm (fun e => e)⟩
/-- a step with its inner rows -/
abbrev StepV := StepS × Value × Value × Value
def stepEnc (p : StepV) : Array Value := stepCells p.1 p.2.1 p.2.2.1 p.2.2.2
/-- steps as a slice that owns its row -/
def StepsAt (w : World) (base : Nat) (v : Value) (l : List StepS) : Prop :=
  ∃ L : List StepV, L.map (·.1) = l ∧ w.ownsRow base 63 19 v L.length (flat stepEnc L) ∧ ∀ p ∈ L, ReqIs w p.1.req p.2.1 p.2.2.1 p.2.2.2
theorem StepsAt.base {w : World} {b b' : Nat} {v : Value} {l : List StepS} (h : StepsAt w b v l) (hb : b' ≤ b) : StepsAt w b' v l := by
  obtain ⟨L, h1, h2, h3⟩ := h
  exact ⟨L, h1, ownsRow_base h2 hb, h3⟩
theorem StepsAt.nil (w : World) (base : Nat) : StepsAt w base nilS [] := ⟨[], rfl, World.ownsRow_nil _ _ _ _, by simp⟩
theorem StepsAt.slice {w : World} {base : Nat} {v : Value} {l : List StepS} (h : StepsAt w base v l) : ∃ a c, v = .slice a l.length c ∧ l.length ≤ c := by
  obtain ⟨L, rfl, h1, -⟩ := h
  rw [List.length_map]
  exact ownsRow_len h1
theorem ReqIs.keep {M : Nat → Prop} {w w' : World} {r : ReqS} {a b c : Value} (h : ReqIs w r a b c) (hk : Keep M w w') (hM : ∀ g cs T, w.heap[g]? = some (.cells cs T (0, 0)) → M g → T ≠ 65 ∧ T ≠ 67) : ReqIs w' r a b c :=
  ⟨ownsRow_keep h.1 hk (fun g cur _ hc hm => (hM g cur 65 hc hm).1 rfl), ownsRow_keep h.2.1 hk (fun g cur _ hc hm => (hM g cur 67 hc hm).2 rfl), ownsRow_keep h.2.2 hk (fun g cur _ hc hm => (hM g cur 67 hc hm).2 rfl)⟩
theorem StepsAt.keep {M : Nat → Prop} {w w' : World} {base : Nat} {v : Value} {l : List StepS} (h : StepsAt w base v l) (hk : Keep M w w') (hv : ∀ g, v.ownBlock = some g → ¬ M g) (hM : ∀ g cs T, w.heap[g]? = some (.cells cs T (0, 0)) → M g → T ≠ 65 ∧ T ≠ 67) : StepsAt w' base v l := by
  obtain ⟨L, h1, h2, h3⟩ := h
  exact ⟨L, h1, ownsRow_keep h2 hk (fun g cur hg _ => hv g hg), fun p hp => (h3 p hp).keep hk hM⟩
theorem StepsAt.far {w w' : World} {base : Nat} {v : Value} {l : List StepS} (h : StepsAt w base v l) (hk : Keep (fun _ => False) w w') : StepsAt w' base v l := h.keep hk (fun _ _ e => e) (fun _ _ _ _ e => e.elim)

theorem Tryz.inf63 : (Tryz.prog.info? 63).map (fun i => (i.zero, i.size, i.bytes)) = some (some (.agg (stepCells .zero nilS nilS nilS)), 19, 192) := by kernel_rfl
theorem run_bs22 (x : StepV) (w : World) : (Instr.buildSlice 22 1 #[(0, .agg (stepEnc x))]).run Tryz.prog w = .ok (.slice (some ⟨w.heap.size, 0, none⟩) 1 1) (w.alloc (.cells (stepEnc x) 63 (0, 0))) := by
  unfold stepEnc stepCells
  go_simp
  try rfl
theorem app_step (w : World) (base : Nat) (v : Value) (l : List StepS) (x : StepV) (h : StepsAt w base v l) (hx : ReqIs w x.1.req x.2.1 x.2.2.1 x.2.2.2) (hn : l.length + 1 ≤ 1048576) (hb : base ≤ w.heap.size) :
    ∃ v' w', (Builtin.append_ #[22, 22] 22 #[v, .slice (some ⟨w.heap.size, 0, none⟩) 1 1]).run Tryz.prog (w.alloc (.cells (stepEnc x) 63 (0, 0))) = .ok v' w' ∧ StepsAt w' base v' (l ++ [x.1]) ∧
      Keep (fun b => some b = v.ownBlock) w w' ∧ (v'.ownBlock = v.ownBlock ∨ v'.ownBlock = some (w.heap.size + 1)) := by
  obtain ⟨i, hi, hz0, hz1, hz2⟩ := info_parts Tryz.inf63
  obtain ⟨L, rfl, h2, h3⟩ := h
  rw [List.length_map] at hn
  obtain ⟨a1, c1, e1, -⟩ := ownsRow_len hx.1
  obtain ⟨a2, c2, e2, -⟩ := ownsRow_len hx.2.1
  obtain ⟨a3, c3, e3, -⟩ := ownsRow_len hx.2.2
  have hone : (stepEnc x).all (·.oneCell') = true := by
    unfold stepEnc
    rw [e1, e2, e3]
    exact stepCells_one _ _ _ _ rfl rfl rfl
  obtain ⟨v', w', hr, h4, h5, h6⟩ := app_one Tryz.underlying22 hi hz0 hz1 hz2 rfl (by decide) stepEnc x rfl (all_one hone) w base v L h2 (by omega) (by omega) hb
  have hk : Keep (fun b => some b = v.ownBlock) w w' := ((Keep.refl _ w).alloc _).trans' (Keep.of_grown h5 (fun k e _ => e.symm))
  have hM : ∀ g cs T, w.heap[g]? = some (.cells cs T (0, 0)) → some g = v.ownBlock → T ≠ 65 ∧ T ≠ 67 := fun g cs T hc he => by
    rcases h2.2 with ⟨rfl, _⟩ | ⟨g', cap, cur, rfl, _, hg, _⟩
    · cases he
    · simp only [Value.ownBlock, Option.some.injEq] at he
      subst he
      rw [hc] at hg
      injection hg with e2
      injection e2 with e3 e4
      subst e4
      decide
  refine ⟨v', w', hr, ⟨L ++ [x], by simp, h4, ?_⟩, hk, h6⟩
  intro p hp
  rcases List.mem_append.1 hp with hp | hp
  · exact (h3 p hp).keep hk hM
  · simp only [List.mem_cons, List.mem_nil_iff, or_false] at hp
    subst hp
    exact hx.keep hk hM
/-- a script's variable: block gb; v: its steps' slice -/
def ScriptAt (w : World) (base gb : Nat) (s : ScriptS) (v : Value) : Prop := w.heap[gb]? = some (.cells #[.int .i64 s.nodes, v] 24 (0, 0)) ∧ StepsAt w base v s.steps
/-- what reading a line's words into a script comes to -/
def GotRead (base gb : Nat) (v : Value) (w : World) (o : Except Int ScriptS) (e : Ending) (w' : World) : Prop :=
  Keep (fun b => b = gb ∨ some b = v.ownBlock) w w' ∧ match o with
    | .ok s => e = .returned (.tuple #[]) ∧ ∃ v', ScriptAt w' base gb s v'
    | .error c => e = gaveUp c
end Go.Proofs.YtifliekahdgobaaGreatDoor
