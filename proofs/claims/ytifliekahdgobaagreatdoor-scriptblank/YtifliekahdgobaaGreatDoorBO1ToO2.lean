/-
  A script that comes in as an argument: what its reading as data says of the memory (printed by wip/tools/gen_open.py). Helpers of the claims.
  A script that comes in: cut, it is of middling size; what its reading goes through. Helpers of the claims.
-/
import Derived.ChangeArms
import Derived.OpenShut
import Derived.Carry
import Derived.ChangeOld
import Derived.Test.YtifliekahdgobaaGreatDoorBL6ToC2
set_option linter.unusedSimpArgs false
set_option linter.unusedVariables false
namespace Go.Proofs.YtifliekahdgobaaGreatDoor
open Sp

theorem Tryz.cells3 : Tryz.prog.cellsOf 3 = 1 := by kernel_rfl
theorem Tryz.cells4 : Tryz.prog.cellsOf 4 = 1 := by kernel_rfl
theorem Tryz.cells9 : Tryz.prog.cellsOf 9 = 1 := by kernel_rfl
theorem Tryz.cells22 : Tryz.prog.cellsOf 22 = 1 := by kernel_rfl
theorem Tryz.cells29 : Tryz.prog.cellsOf 29 = 2 := by kernel_rfl
theorem Tryz.cells55 : Tryz.prog.cellsOf 55 = 1 := by kernel_rfl
theorem Tryz.cells56 : Tryz.prog.cellsOf 56 = 1 := by kernel_rfl
theorem Tryz.cells57 : Tryz.prog.cellsOf 57 = 1 := by kernel_rfl
theorem Tryz.cells59 : Tryz.prog.cellsOf 59 = 8 := by kernel_rfl
theorem Tryz.cells61 : Tryz.prog.cellsOf 61 = 8 := by kernel_rfl
theorem Tryz.cells63 : Tryz.prog.cellsOf 63 = 19 := by kernel_rfl
theorem Tryz.cells65 : Tryz.prog.cellsOf 65 = 5 := by kernel_rfl
theorem Tryz.cells67 : Tryz.prog.cellsOf 67 = 9 := by kernel_rfl
theorem mapM_range {β : Type} {n : Nat} {f : Nat → Option β} {r : List β} (h : (List.range n).mapM f = some r) : r.length = n ∧ ∀ i, i < n → ∃ b, r[i]? = some b ∧ f i = some b := by
  refine ⟨by simpa using Lib.mapM_length h, fun i hi => ?_⟩
  exact Lib.mapM_at h i i (by simp [hi])
section
variable {H : Type} {enc : TypeId × Value → H} {w : World} {base : Nat} {sp : Nat → Bool} {held : Bool}
theorem open_fields {t : TypeId} {fs : Array Field} {fuel : Nat} {cs : List Value} {y : DataW H × List MemPlace} (ht : Tryz.prog.underlying t = some (.struct fs)) (h : DataW.trod enc Tryz.prog w base sp held fuel t cs = some y) :
    cs.length = Tryz.prog.cellsOf t ∧ ∃ n, ∀ (i : Nat) (f : Field), fs[i]? = some f → ∃ y, DataW.trod enc Tryz.prog w base sp held n f.type ((cs.drop f.offset).take (Tryz.prog.cellsOf f.type)) = some y := by
  obtain ⟨xs, n, -, -, hl, hx, hf⟩ := DataW.trod_struct ht h
  refine ⟨hl, n, fun i f hi => ?_⟩
  have h1 := hf i f hi
  have hlt : i < xs.length := by rw [hx]; exact (Array.getElem?_eq_some_iff.1 hi).1
  rw [List.getElem?_eq_getElem hlt] at h1
  exact ⟨_, h1⟩
theorem open_i64 {fuel : Nat} {c : List Value} {y : DataW H × List MemPlace} (h : DataW.trod enc Tryz.prog w base sp held fuel 3 c = some y) : ∃ n, c = [.int .i64 n] ∧ -9223372036854775808 ≤ n ∧ n ≤ 9223372036854775807 := by
  obtain ⟨n, e, -, hw⟩ := DataW.trod_int Tryz.underlying3 h
  exact ⟨n, e, bounds_i64 hw⟩
theorem open_u64 {fuel : Nat} {c : List Value} {y : DataW H × List MemPlace} (h : DataW.trod enc Tryz.prog w base sp held fuel 55 c = some y) : ∃ n, c = [.int .u64 n] ∧ 0 ≤ n ∧ n < 18446744073709551616 := by
  obtain ⟨n, e, -, hw⟩ := DataW.trod_int Tryz.underlying55 h
  have := bounds_u64 hw
  exact ⟨n, e, this.1, by omega⟩
theorem open_bool {fuel : Nat} {c : List Value} {y : DataW H × List MemPlace} (h : DataW.trod enc Tryz.prog w base sp held fuel 4 c = some y) : ∃ b, c = [.bool b] := by
  obtain ⟨b, e, -⟩ := DataW.trod_bool Tryz.underlying4 h
  exact ⟨b, e⟩
theorem open_str {fuel : Nat} {c : List Value} {y : DataW H × List MemPlace} (h : DataW.trod enc Tryz.prog w base sp held fuel 9 c = some y) : ∃ s : Str, c = [sv s] := by
  obtain ⟨s, e, -⟩ := DataW.trod_string Tryz.underlying9 h
  exact ⟨s.data.toList, e⟩
/-- a slice, opened: a row to be read -/
theorem open_row {α : Type} {encA : α → Array Value} {size : Nat} {In : α → Prop} {t e : TypeId} (ht : Tryz.prog.underlying t = some (.slice e)) (hs : Tryz.prog.cellsOf e = size) (hpos : 0 < size) (hsz : ∀ x, (encA x).size = size)
    (hel : ∀ (fuel : Nat) (cs : List Value) (y : DataW H × List MemPlace), DataW.trod enc Tryz.prog w base sp held fuel e cs = some y → ∃ x, cs = (encA x).toList ∧ In x) {fuel : Nat} {cs : List Value} {y : DataW H × List MemPlace} (h : DataW.trod enc Tryz.prog w base sp held fuel t cs = some y) :
    ∃ v l, cs = [v] ∧ RowRead encA size w v l ∧ (∀ x ∈ l, In x) ∧ (l.length : Int) ≤ 9223372036854775807 := by
  rcases DataW.trod_slice ht h with ⟨rfl, -⟩ | ⟨a, len, cap, elems, rest, n, -, rfl, -, hb, hlc, hcap, hel', hall, -⟩
  · exact ⟨_, [], rfl, RowRead.nil _ _ _, fun x hx => (by cases hx), by simp⟩
  · rw [hs] at hall
    have hk : ∀ i, i < len → ∃ x : α, In x ∧ ∀ j u, (encA x).toList[j]? = some u → w.cell? ((a.add (i * size)).add j) = some u := fun i hi => by
      have h1 := hall i hi
      rw [List.getElem?_eq_getElem (by omega)] at h1
      obtain ⟨ci, hc, hd⟩ := Option.bind_eq_some_iff.1 h1
      obtain ⟨x, rfl, hin⟩ := hel _ _ _ hd
      refine ⟨x, hin, fun j u hu => ?_⟩
      unfold World.cells? at hc
      split at hc
      · obtain ⟨h2, h3⟩ := mapM_range hc
        have hj : j < size := by
          have := (List.getElem?_eq_some_iff.1 hu).1
          omega
        obtain ⟨u', h4, h5⟩ := h3 j hj
        rw [hu] at h4
        rw [h5, h4]
      · cases hc
    have hf : ∃ f : Fin len → α, ∀ i : Fin len, In (f i) ∧ ∀ j u, (encA (f i)).toList[j]? = some u → w.cell? ((a.add (i * size)).add j) = some u :=
      ⟨fun i => Classical.choose (hk i i.2), fun i => Classical.choose_spec (hk i i.2)⟩
    obtain ⟨f, hf⟩ := hf
    refine ⟨_, List.ofFn f, rfl, ⟨some a, cap, by rw [List.length_ofFn], fun i x hx => ?_⟩, fun x hx => ?_, by rw [List.length_ofFn]; unfold maxLen at hcap; omega⟩
    · obtain ⟨hi, hx⟩ := List.getElem?_eq_some_iff.1 hx
      rw [List.length_ofFn] at hi
      rw [List.getElem_ofFn] at hx
      have hspot : a.spot = none := by
        have h0 := (hf ⟨0, by omega⟩).2 0 ((encA (f ⟨0, by omega⟩)).toList[0]'(by rw [Array.length_toList, hsz]; exact hpos)) (List.getElem?_eq_getElem _)
        rw [Nat.zero_mul] at h0
        have e0 : (a.add 0).add 0 = a := by simp [Addr.add]
        rw [e0] at h0
        unfold World.cell? at h0
        split at h0
        · split at h0
          · cases h0
          · rename_i hsp
            cases hq : a.spot with
            | none => rfl
            | some q => rw [hq] at hsp; exact absurd rfl hsp
        · cases h0
      refine ⟨a.block, a.off, ?_, fun j u hu => ?_⟩
      · cases a
        simp only at hspot
        subst hspot
        rfl
      · subst hx
        have h1 := (hf ⟨i, hi⟩).2 j u hu
        have e1 : (a.add (i * size)).add j = ⟨a.block, a.off + i * size + j, none⟩ := by
          obtain ⟨b, o, q⟩ := a
          simp only at hspot
          subst hspot
          unfold Addr.add
          by_cases h2 : i * size = 0
          · by_cases h3 : j = 0
            · simp [h2, h3]
            · simp [h2, h3]
          · by_cases h3 : j = 0
            · simp [h2, h3]
            · simp [h2, h3]
        rw [e1] at h1
        exact h1
    · obtain ⟨i, hi⟩ := List.mem_iff_getElem.1 hx
      obtain ⟨hi, rfl⟩ := hi
      rw [List.getElem_ofFn]
      exact (hf _).1
/-! ### the structs -/
structure OpIn (x : OpS) : Prop where
  rev0 : 0 ≤ x.rev
  rev1 : x.rev < 18446744073709551616
  lim0 : -9223372036854775808 ≤ x.limit
  lim1 : x.limit ≤ 9223372036854775807
structure CmpIn (x : CmpS) : Prop where
  w0 : -9223372036854775808 ≤ x.what
  w1 : x.what ≤ 9223372036854775807
  h0 : -9223372036854775808 ≤ x.how
  h1 : x.how ≤ 9223372036854775807
  n0 : 0 ≤ x.n
  n1 : x.n < 18446744073709551616
structure ReqIn (r : ReqS) : Prop where
  k0 : -9223372036854775808 ≤ r.kind
  k1 : r.kind ≤ 9223372036854775807
  c0 : 0 ≤ r.client
  c1 : r.client < 18446744073709551616
  n0 : 0 ≤ r.num
  n1 : r.num < 18446744073709551616
  r0 : 0 ≤ r.rev
  r1 : r.rev < 18446744073709551616
  lc : (r.cmps.length : Int) ≤ 9223372036854775807
  lt : (r.thn.length : Int) ≤ 9223372036854775807
  le : (r.els.length : Int) ≤ 9223372036854775807
  cmps : ∀ x ∈ r.cmps, CmpIn x
  thn : ∀ x ∈ r.thn, OpIn x
  els : ∀ x ∈ r.els, OpIn x
structure WatchIn (x : WatchS) : Prop where
  id0 : 0 ≤ x.id
  id1 : x.id < 18446744073709551616
  st0 : 0 ≤ x.start
  st1 : x.start < 18446744073709551616
structure StepIn (s : StepS) : Prop where
  k0 : -9223372036854775808 ≤ s.kind
  k1 : s.kind ≤ 9223372036854775807
  n0 : -9223372036854775808 ≤ s.node
  n1 : s.node ≤ 9223372036854775807
  m0 : 0 ≤ s.n
  m1 : s.n < 18446744073709551616
  req : ReqIn s.req
  watch : WatchIn s.watch
theorem open_op {fuel : Nat} {cs : List Value} {y : DataW H × List MemPlace} (h : DataW.trod enc Tryz.prog w base sp held fuel 67 cs = some y) : ∃ x : OpS, cs = (opCells x).toList ∧ OpIn x := by
  obtain ⟨hl, n, hf⟩ := open_fields Tryz.underlying67 h
  rw [Tryz.cells67] at hl
  obtain ⟨y0, h0⟩ := hf 0 _ rfl
  replace h0 : DataW.trod enc Tryz.prog w base sp held n 3 ((cs.drop 0).take (Tryz.prog.cellsOf 3)) = some y0 := h0
  rw [Tryz.cells3] at h0
  obtain ⟨y1, h1⟩ := hf 1 _ rfl
  replace h1 : DataW.trod enc Tryz.prog w base sp held n 9 ((cs.drop 1).take (Tryz.prog.cellsOf 9)) = some y1 := h1
  rw [Tryz.cells9] at h1
  obtain ⟨y2, h2⟩ := hf 2 _ rfl
  replace h2 : DataW.trod enc Tryz.prog w base sp held n 9 ((cs.drop 2).take (Tryz.prog.cellsOf 9)) = some y2 := h2
  rw [Tryz.cells9] at h2
  obtain ⟨y3, h3⟩ := hf 3 _ rfl
  replace h3 : DataW.trod enc Tryz.prog w base sp held n 9 ((cs.drop 3).take (Tryz.prog.cellsOf 9)) = some y3 := h3
  rw [Tryz.cells9] at h3
  obtain ⟨y4, h4⟩ := hf 4 _ rfl
  replace h4 : DataW.trod enc Tryz.prog w base sp held n 55 ((cs.drop 4).take (Tryz.prog.cellsOf 55)) = some y4 := h4
  rw [Tryz.cells55] at h4
  obtain ⟨y5, h5⟩ := hf 5 _ rfl
  replace h5 : DataW.trod enc Tryz.prog w base sp held n 3 ((cs.drop 5).take (Tryz.prog.cellsOf 3)) = some y5 := h5
  rw [Tryz.cells3] at h5
  obtain ⟨y6, h6⟩ := hf 6 _ rfl
  replace h6 : DataW.trod enc Tryz.prog w base sp held n 4 ((cs.drop 6).take (Tryz.prog.cellsOf 4)) = some y6 := h6
  rw [Tryz.cells4] at h6
  obtain ⟨y7, h7⟩ := hf 7 _ rfl
  replace h7 : DataW.trod enc Tryz.prog w base sp held n 4 ((cs.drop 7).take (Tryz.prog.cellsOf 4)) = some y7 := h7
  rw [Tryz.cells4] at h7
  obtain ⟨y8, h8⟩ := hf 8 _ rfl
  replace h8 : DataW.trod enc Tryz.prog w base sp held n 4 ((cs.drop 8).take (Tryz.prog.cellsOf 4)) = some y8 := h8
  rw [Tryz.cells4] at h8
  clear h hf
  match cs, hl with
  | [c0, c1, c2, c3, c4, c5, c6, c7, c8], _ =>
    obtain ⟨kind, e0, p0, q0⟩ := open_i64 h0
    obtain ⟨key, e1⟩ := open_str h1
    obtain ⟨fin, e2⟩ := open_str h2
    obtain ⟨val, e3⟩ := open_str h3
    obtain ⟨rev, e4, p4, q4⟩ := open_u64 h4
    obtain ⟨limit, e5, p5, q5⟩ := open_i64 h5
    obtain ⟨count, e6⟩ := open_bool h6
    obtain ⟨keys, e7⟩ := open_bool h7
    obtain ⟨prev, e8⟩ := open_bool h8
    simp only [List.drop_zero, List.drop_succ_cons, List.take_succ_cons, List.take_zero, List.cons.injEq, and_true, reqCells, watchCells] at e0 e1 e2 e3 e4 e5 e6 e7 e8
    subst e0 e1 e2 e3 e4 e5 e6 e7 e8
    exact ⟨⟨kind, key, fin, val, rev, limit, count, keys, prev⟩, rfl, ⟨p4, q4, p5, q5⟩⟩
theorem open_cmp {fuel : Nat} {cs : List Value} {y : DataW H × List MemPlace} (h : DataW.trod enc Tryz.prog w base sp held fuel 65 cs = some y) : ∃ x : CmpS, cs = (cmpCells x).toList ∧ CmpIn x := by
  obtain ⟨hl, n, hf⟩ := open_fields Tryz.underlying65 h
  rw [Tryz.cells65] at hl
  obtain ⟨y0, h0⟩ := hf 0 _ rfl
  replace h0 : DataW.trod enc Tryz.prog w base sp held n 9 ((cs.drop 0).take (Tryz.prog.cellsOf 9)) = some y0 := h0
  rw [Tryz.cells9] at h0
  obtain ⟨y1, h1⟩ := hf 1 _ rfl
  replace h1 : DataW.trod enc Tryz.prog w base sp held n 3 ((cs.drop 1).take (Tryz.prog.cellsOf 3)) = some y1 := h1
  rw [Tryz.cells3] at h1
  obtain ⟨y2, h2⟩ := hf 2 _ rfl
  replace h2 : DataW.trod enc Tryz.prog w base sp held n 3 ((cs.drop 2).take (Tryz.prog.cellsOf 3)) = some y2 := h2
  rw [Tryz.cells3] at h2
  obtain ⟨y3, h3⟩ := hf 3 _ rfl
  replace h3 : DataW.trod enc Tryz.prog w base sp held n 55 ((cs.drop 3).take (Tryz.prog.cellsOf 55)) = some y3 := h3
  rw [Tryz.cells55] at h3
  obtain ⟨y4, h4⟩ := hf 4 _ rfl
  replace h4 : DataW.trod enc Tryz.prog w base sp held n 9 ((cs.drop 4).take (Tryz.prog.cellsOf 9)) = some y4 := h4
  rw [Tryz.cells9] at h4
  clear h hf
  match cs, hl with
  | [c0, c1, c2, c3, c4], _ =>
    obtain ⟨key, e0⟩ := open_str h0
    obtain ⟨what, e1, p1, q1⟩ := open_i64 h1
    obtain ⟨how, e2, p2, q2⟩ := open_i64 h2
    obtain ⟨num, e3, p3, q3⟩ := open_u64 h3
    obtain ⟨val, e4⟩ := open_str h4
    simp only [List.drop_zero, List.drop_succ_cons, List.take_succ_cons, List.take_zero, List.cons.injEq, and_true, reqCells, watchCells] at e0 e1 e2 e3 e4
    subst e0 e1 e2 e3 e4
    exact ⟨⟨key, what, how, num, val⟩, rfl, ⟨p1, q1, p2, q2, p3, q3⟩⟩
theorem open_watch {fuel : Nat} {cs : List Value} {y : DataW H × List MemPlace} (h : DataW.trod enc Tryz.prog w base sp held fuel 61 cs = some y) : ∃ x : WatchS, cs = (watchCells x).toList ∧ WatchIn x := by
  obtain ⟨hl, n, hf⟩ := open_fields Tryz.underlying61 h
  rw [Tryz.cells61] at hl
  obtain ⟨y0, h0⟩ := hf 0 _ rfl
  replace h0 : DataW.trod enc Tryz.prog w base sp held n 55 ((cs.drop 0).take (Tryz.prog.cellsOf 55)) = some y0 := h0
  rw [Tryz.cells55] at h0
  obtain ⟨y1, h1⟩ := hf 1 _ rfl
  replace h1 : DataW.trod enc Tryz.prog w base sp held n 9 ((cs.drop 1).take (Tryz.prog.cellsOf 9)) = some y1 := h1
  rw [Tryz.cells9] at h1
  obtain ⟨y2, h2⟩ := hf 2 _ rfl
  replace h2 : DataW.trod enc Tryz.prog w base sp held n 9 ((cs.drop 2).take (Tryz.prog.cellsOf 9)) = some y2 := h2
  rw [Tryz.cells9] at h2
  obtain ⟨y3, h3⟩ := hf 3 _ rfl
  replace h3 : DataW.trod enc Tryz.prog w base sp held n 55 ((cs.drop 3).take (Tryz.prog.cellsOf 55)) = some y3 := h3
  rw [Tryz.cells55] at h3
  obtain ⟨y4, h4⟩ := hf 4 _ rfl
  replace h4 : DataW.trod enc Tryz.prog w base sp held n 4 ((cs.drop 4).take (Tryz.prog.cellsOf 4)) = some y4 := h4
  rw [Tryz.cells4] at h4
  obtain ⟨y5, h5⟩ := hf 5 _ rfl
  replace h5 : DataW.trod enc Tryz.prog w base sp held n 4 ((cs.drop 5).take (Tryz.prog.cellsOf 4)) = some y5 := h5
  rw [Tryz.cells4] at h5
  obtain ⟨y6, h6⟩ := hf 6 _ rfl
  replace h6 : DataW.trod enc Tryz.prog w base sp held n 4 ((cs.drop 6).take (Tryz.prog.cellsOf 4)) = some y6 := h6
  rw [Tryz.cells4] at h6
  obtain ⟨y7, h7⟩ := hf 7 _ rfl
  replace h7 : DataW.trod enc Tryz.prog w base sp held n 4 ((cs.drop 7).take (Tryz.prog.cellsOf 4)) = some y7 := h7
  rw [Tryz.cells4] at h7
  clear h hf
  match cs, hl with
  | [c0, c1, c2, c3, c4, c5, c6, c7], _ =>
    obtain ⟨id, e0, p0, q0⟩ := open_u64 h0
    obtain ⟨key, e1⟩ := open_str h1
    obtain ⟨fin, e2⟩ := open_str h2
    obtain ⟨start, e3, p3, q3⟩ := open_u64 h3
    obtain ⟨prev, e4⟩ := open_bool h4
    obtain ⟨np, e5⟩ := open_bool h5
    obtain ⟨nd, e6⟩ := open_bool h6
    obtain ⟨pr, e7⟩ := open_bool h7
    simp only [List.drop_zero, List.drop_succ_cons, List.take_succ_cons, List.take_zero, List.cons.injEq, and_true, reqCells, watchCells] at e0 e1 e2 e3 e4 e5 e6 e7
    subst e0 e1 e2 e3 e4 e5 e6 e7
    exact ⟨⟨id, key, fin, start, prev, np, nd, pr⟩, rfl, ⟨p0, q0, p3, q3⟩⟩
theorem open_req {fuel : Nat} {cs : List Value} {y : DataW H × List MemPlace} (h : DataW.trod enc Tryz.prog w base sp held fuel 59 cs = some y) : ∃ (r : ReqS) (vc vt ve : Value), cs = (reqCells r vc vt ve).toList ∧ ReqRead w r vc vt ve ∧ ReqIn r := by
  obtain ⟨hl, n, hf⟩ := open_fields Tryz.underlying59 h
  rw [Tryz.cells59] at hl
  obtain ⟨y0, h0⟩ := hf 0 _ rfl
  replace h0 : DataW.trod enc Tryz.prog w base sp held n 3 ((cs.drop 0).take (Tryz.prog.cellsOf 3)) = some y0 := h0
  rw [Tryz.cells3] at h0
  obtain ⟨y1, h1⟩ := hf 1 _ rfl
  replace h1 : DataW.trod enc Tryz.prog w base sp held n 55 ((cs.drop 1).take (Tryz.prog.cellsOf 55)) = some y1 := h1
  rw [Tryz.cells55] at h1
  obtain ⟨y2, h2⟩ := hf 2 _ rfl
  replace h2 : DataW.trod enc Tryz.prog w base sp held n 55 ((cs.drop 2).take (Tryz.prog.cellsOf 55)) = some y2 := h2
  rw [Tryz.cells55] at h2
  obtain ⟨y3, h3⟩ := hf 3 _ rfl
  replace h3 : DataW.trod enc Tryz.prog w base sp held n 4 ((cs.drop 3).take (Tryz.prog.cellsOf 4)) = some y3 := h3
  rw [Tryz.cells4] at h3
  obtain ⟨y4, h4⟩ := hf 4 _ rfl
  replace h4 : DataW.trod enc Tryz.prog w base sp held n 56 ((cs.drop 4).take (Tryz.prog.cellsOf 56)) = some y4 := h4
  rw [Tryz.cells56] at h4
  obtain ⟨y5, h5⟩ := hf 5 _ rfl
  replace h5 : DataW.trod enc Tryz.prog w base sp held n 57 ((cs.drop 5).take (Tryz.prog.cellsOf 57)) = some y5 := h5
  rw [Tryz.cells57] at h5
  obtain ⟨y6, h6⟩ := hf 6 _ rfl
  replace h6 : DataW.trod enc Tryz.prog w base sp held n 57 ((cs.drop 6).take (Tryz.prog.cellsOf 57)) = some y6 := h6
  rw [Tryz.cells57] at h6
  obtain ⟨y7, h7⟩ := hf 7 _ rfl
  replace h7 : DataW.trod enc Tryz.prog w base sp held n 55 ((cs.drop 7).take (Tryz.prog.cellsOf 55)) = some y7 := h7
  rw [Tryz.cells55] at h7
  clear h hf
  match cs, hl with
  | [c0, c1, c2, c3, c4, c5, c6, c7], _ =>
    obtain ⟨kind, e0, p0, q0⟩ := open_i64 h0
    obtain ⟨client, e1, p1, q1⟩ := open_u64 h1
    obtain ⟨num, e2, p2, q2⟩ := open_u64 h2
    obtain ⟨serial, e3⟩ := open_bool h3
    obtain ⟨v4, cmps, e4, r4, p4, q4⟩ := open_row Tryz.underlying56 Tryz.cells65 (by decide) (fun _ => rfl) (fun _ _ _ h => open_cmp h) h4
    obtain ⟨v5, thn, e5, r5, p5, q5⟩ := open_row Tryz.underlying57 Tryz.cells67 (by decide) (fun _ => rfl) (fun _ _ _ h => open_op h) h5
    obtain ⟨v6, els, e6, r6, p6, q6⟩ := open_row Tryz.underlying57 Tryz.cells67 (by decide) (fun _ => rfl) (fun _ _ _ h => open_op h) h6
    obtain ⟨rev, e7, p7, q7⟩ := open_u64 h7
    simp only [List.drop_zero, List.drop_succ_cons, List.take_succ_cons, List.take_zero, List.cons.injEq, and_true, reqCells, watchCells] at e0 e1 e2 e3 e4 e5 e6 e7
    subst e0 e1 e2 e3 e4 e5 e6 e7
    exact ⟨⟨kind, client, num, serial, cmps, thn, els, rev⟩, _, _, _, rfl, ⟨r4, r5, r6⟩, ⟨p0, q0, p1, q1, p2, q2, p7, q7, q4, q5, q6, p4, p5, p6⟩⟩
theorem open_step {fuel : Nat} {cs : List Value} {y : DataW H × List MemPlace} (h : DataW.trod enc Tryz.prog w base sp held fuel 63 cs = some y) : ∃ p : StepV, cs = (stepEnc p).toList ∧ ReqRead w p.1.req p.2.1 p.2.2.1 p.2.2.2 ∧ StepIn p.1 := by
  obtain ⟨hl, n, hf⟩ := open_fields Tryz.underlying63 h
  rw [Tryz.cells63] at hl
  obtain ⟨y0, h0⟩ := hf 0 _ rfl
  replace h0 : DataW.trod enc Tryz.prog w base sp held n 3 ((cs.drop 0).take (Tryz.prog.cellsOf 3)) = some y0 := h0
  rw [Tryz.cells3] at h0
  obtain ⟨y1, h1⟩ := hf 1 _ rfl
  replace h1 : DataW.trod enc Tryz.prog w base sp held n 3 ((cs.drop 1).take (Tryz.prog.cellsOf 3)) = some y1 := h1
  rw [Tryz.cells3] at h1
  obtain ⟨y2, h2⟩ := hf 2 _ rfl
  replace h2 : DataW.trod enc Tryz.prog w base sp held n 55 ((cs.drop 2).take (Tryz.prog.cellsOf 55)) = some y2 := h2
  rw [Tryz.cells55] at h2
  obtain ⟨y3, h3⟩ := hf 3 _ rfl
  replace h3 : DataW.trod enc Tryz.prog w base sp held n 59 ((cs.drop 3).take (Tryz.prog.cellsOf 59)) = some y3 := h3
  rw [Tryz.cells59] at h3
  obtain ⟨y4, h4⟩ := hf 4 _ rfl
  replace h4 : DataW.trod enc Tryz.prog w base sp held n 61 ((cs.drop 11).take (Tryz.prog.cellsOf 61)) = some y4 := h4
  rw [Tryz.cells61] at h4
  clear h hf
  match cs, hl with
  | [c0, c1, c2, c3, c4, c5, c6, c7, c8, c9, c10, c11, c12, c13, c14, c15, c16, c17, c18], _ =>
    obtain ⟨kind, e0, p0, q0⟩ := open_i64 h0
    obtain ⟨node, e1, p1, q1⟩ := open_i64 h1
    obtain ⟨num, e2, p2, q2⟩ := open_u64 h2
    obtain ⟨req, v1, v2, v3, e3, r3, p3⟩ := open_req h3
    obtain ⟨wat, e4, p4⟩ := open_watch h4
    simp only [List.drop_zero, List.drop_succ_cons, List.take_succ_cons, List.take_zero, List.cons.injEq, and_true, reqCells, watchCells] at e0 e1 e2 e3 e4
    obtain ⟨a0, a1, a2, a3, a4, a5, a6, a7⟩ := e3
    obtain ⟨b0, b1, b2, b3, b4, b5, b6, b7⟩ := e4
    subst e0 e1 e2 a0 a1 a2 a3 a4 a5 a6 a7 b0 b1 b2 b3 b4 b5 b6 b7
    exact ⟨(⟨kind, node, num, req, wat⟩, c7, c8, c9), rfl, r3, ⟨p0, q0, p1, q1, p2, q2, p3, p4⟩⟩
/-- A SCRIPT THAT COMES IN -/
theorem open_script {v : Value} {d : DataW H} {p : List MemPlace} (h : DataW.Trod enc Tryz.prog w base sp held 29 v d p) (hv : ∃ cs, v = .agg cs) :
    ∃ n vs l, v = .agg #[.int .i64 n, vs] ∧ StepsRead w vs l ∧ (l.length : Int) ≤ 9223372036854775807 ∧ ∀ x ∈ l, StepIn x := by
  obtain ⟨fuel, h⟩ := h
  obtain ⟨cs, rfl⟩ := hv
  obtain ⟨hl, n, hf⟩ := open_fields Tryz.underlying29 h
  obtain ⟨y0, h0⟩ := hf 0 _ rfl
  obtain ⟨y1, h1⟩ := hf 1 _ rfl
  replace h0 : DataW.trod enc Tryz.prog w base sp held n 3 (((Value.agg cs).cells.toList.drop 0).take (Tryz.prog.cellsOf 3)) = some y0 := h0
  replace h1 : DataW.trod enc Tryz.prog w base sp held n 22 (((Value.agg cs).cells.toList.drop 1).take (Tryz.prog.cellsOf 22)) = some y1 := h1
  rw [Tryz.cells3] at h0
  rw [Tryz.cells22] at h1
  rw [Tryz.cells29] at hl
  obtain ⟨nn, e0, -, -⟩ := open_i64 h0
  obtain ⟨vs, L, e1, hr, hin, hlen⟩ := open_row (In := fun p : StepV => ReqRead w p.1.req p.2.1 p.2.2.1 p.2.2.2 ∧ StepIn p.1) Tryz.underlying22 Tryz.cells63 (by decide) (fun _ => rfl) (fun _ _ _ h => open_step h) h1
  refine ⟨nn, vs, L.map (·.1), ?_, ⟨L, rfl, hr, fun p hp => (hin p hp).1⟩, by rw [List.length_map]; exact hlen, fun x hx => ?_⟩
  · have e2 : (Value.agg cs).cells.toList = [.int .i64 nn, vs] := by
      clear h h0 h1 hr hin hlen
      generalize (Value.agg cs).cells.toList = l at hl e0 e1 ⊢
      match l, hl with
      | [c0, c1], _ =>
        simp only [List.drop_zero, List.drop_succ_cons, List.take_succ_cons, List.take_zero, List.cons.injEq, and_true] at e0 e1
        rw [e0, e1]
    have e3 : cs.toList = [.int .i64 nn, vs] := e2
    congr 1
    apply Array.ext'
    exact e3
  · obtain ⟨p, hp, rfl⟩ := List.mem_map.1 hx
    exact (hin p hp).2
end
end Go.Proofs.YtifliekahdgobaaGreatDoor
namespace Go.Proofs.YtifliekahdgobaaGreatDoor
open Sp

theorem Tryz.laidOut : laidOutB Tryz.prog = true := by kernel_rfl
theorem script_agg {H : Type} {enc : TypeId × Value → H} {w : World} {base : Nat} {sp : Nat → Bool} {held : Bool} {v : Value} {d : DataW H} {p : List MemPlace} (h : DataW.Trod enc Tryz.prog w base sp held 29 v d p) : ∃ cs, v = .agg cs := by
  obtain ⟨fuel, h⟩ := h
  obtain ⟨hl, -⟩ := open_fields Tryz.underlying29 h
  rw [Tryz.cells29] at hl
  cases v
  case agg cs => exact ⟨cs, rfl⟩
  all_goals simp [Value.cells] at hl
theorem trod_places {H : Type} {enc : TypeId × Value → H} {w : World} {base : Nat} {sp : Nat → Bool} {held : Bool} {t : TypeId} {v : Value} {d : DataW H} {p : List MemPlace} (h : DataW.Trod enc Tryz.prog w base sp held t v d p) : ∀ x ∈ p, x.block < w.heap.size := by
  obtain ⟨fuel, h⟩ := h
  exact fun x hx => DataW.trod_lt fuel _ _ _ h x hx
theorem cut_lens {x : StepS} (h : StepIn x) : CutLens x := ⟨h.req.lc, h.req.lt, h.req.le⟩
theorem take50 (s : Str) : (s.take 50).length ≤ 1000000 := by rw [List.length_take]; omega
theorem cutOps_mid {l : List OpS} (h : ∀ x ∈ l, OpIn x) : (cutOps l).length ≤ 20 ∧ ∀ x ∈ cutOps l, MidOp x := by
  unfold cutOps
  refine ⟨by rw [List.length_map, List.length_take]; omega, fun x hx => ?_⟩
  obtain ⟨y, hy, rfl⟩ := List.mem_map.1 hx
  have := h y (List.mem_of_mem_take hy)
  exact ⟨take50 _, take50 _, take50 _, this.rev0, this.rev1, this.lim0, this.lim1⟩
theorem cutCmps_mid {l : List CmpS} (h : ∀ x ∈ l, CmpIn x) : (cutCmps l).length ≤ 20 ∧ ∀ x ∈ cutCmps l, MidCmp x := by
  unfold cutCmps
  refine ⟨by rw [List.length_map, List.length_take]; omega, fun x hx => ?_⟩
  obtain ⟨y, hy, rfl⟩ := List.mem_map.1 hx
  have := h y (List.mem_of_mem_take hy)
  exact ⟨this.w0, this.w1, this.h0, this.h1, this.n0, this.n1, take50 _, take50 _⟩
theorem cut_mid {l : List StepS} (h : ∀ x ∈ l, StepIn x) : ∀ x ∈ cutSteps l, MidStep x := by
  unfold cutSteps
  intro x hx
  obtain ⟨y, hy, rfl⟩ := List.mem_map.1 hx
  have hi := h y (List.mem_of_mem_take hy)
  have hr := hi.req
  have c1 := cutCmps_mid hr.cmps
  have c2 := cutOps_mid hr.thn
  have c3 := cutOps_mid hr.els
  exact ⟨hi.k0, hi.k1, hi.n0, hi.n1, hi.m0, hi.m1, hr.k0, hr.k1, ⟨hr.c0, hr.c1, hr.n0, hr.n1, hr.r0, hr.r1, c1.1, c2.1, c3.1, c1.2, c2.2, c3.2⟩, ⟨hi.watch.id0, hi.watch.id1, take50 _, take50 _, hi.watch.st0, hi.watch.st1⟩⟩
end Go.Proofs.YtifliekahdgobaaGreatDoor
