/-
  THE WALKS, 4: marks. Helpers of the claims.
  THE WALKS, 5: op's three closures (printed by wip/tools/gen_op.py). Helpers of the claims.
  MAPS KEYED BY STRINGS: what an insert, a look-up does to a block that is known whole. Helpers of the claims.
-/
import Derived.Deep.RegionHeld3
import Derived.MapKept
import Derived.Maps.RangeRun
import Derived.Test.YtifliekahdgobaaGreatDoorJL1ToW3
import Derived.Test.YtifliekahdgobaaGreatDoorJSpecToRow0
set_option linter.unusedSimpArgs false
set_option linter.unusedVariables false
namespace Go.Proofs.YtifliekahdgobaaGreatDoor
open Go.RowKit Sp

/-- the flags, laid into cells from o on -/
def putFlags (cs : Array Value) (o : Nat) : List Bool → Array Value
  | [] => cs
  | b :: r => putFlags (cs.setIfInBounds o (.bool b)) (o + 1) r

theorem marks_hit (c : UInt8) (w : Str) : ∀ (l : Str) (n : Nat), Lib.indexByte l c = n → n < l.length ∧ marksGo l (c :: w) = (marksGo (l.drop (n + 1)) w).bind fun t => some (List.replicate n false ++ true :: t)
  | [], n, h => by simp [Lib.indexByte] at h
  | a :: l, n, h => by
    unfold Lib.indexByte at h
    by_cases hb : (a == c) = true
    · rw [if_pos hb] at h
      obtain rfl : n = 0 := by omega
      rw [beq_iff_eq] at hb
      subst hb
      exact ⟨by simp, by simp [marksGo]⟩
    · rw [if_neg hb] at h
      have hne : ¬ a = c := by simpa using hb
      by_cases h1 : (Lib.indexByte l c == -1) = true
      · rw [if_pos h1] at h; omega
      · rw [if_neg h1] at h
        have hge := Lib.indexByte_ge l c
        have hn1 : ¬ Lib.indexByte l c = -1 := by simpa using h1
        obtain ⟨i, rfl⟩ : ∃ i, n = i + 1 := ⟨n - 1, by omega⟩
        obtain ⟨h2, h3⟩ := marks_hit c w l i (by omega)
        refine ⟨by simp; omega, ?_⟩
        rw [marksGo, if_neg hne, h3, List.drop_succ_cons]
        rcases marksGo (l.drop (i + 1)) w with _ | t
        · rfl
        · simp [List.replicate_succ]
theorem marks_miss (c : UInt8) (w : Str) : ∀ (l : Str), Lib.indexByte l c = -1 → marksGo l (c :: w) = none
  | [], _ => by simp [marksGo]
  | a :: l, h => by
    unfold Lib.indexByte at h
    by_cases hb : (a == c) = true
    · rw [if_pos hb] at h; omega
    · rw [if_neg hb] at h
      have hne : ¬ a = c := by simpa using hb
      by_cases h1 : (Lib.indexByte l c == -1) = true
      · rw [marksGo, if_neg hne, marks_miss c w l (by simpa using h1)]; rfl
      · rw [if_neg h1] at h
        have := Lib.indexByte_ge l c
        have : ¬ Lib.indexByte l c = -1 := by simpa using h1
        omega
/-- how far the marks are read: 'at' letters are behind; k bytes of the word -/
structure Marked (ls x : Str) (k t : Nat) (fl : List Bool) : Prop where
  le : k ≤ x.length
  le' : t ≤ ls.length
  len : fl.length = t
  eq : marksGo ls x = (marksGo (ls.drop t) (x.drop k)).bind fun m => some (fl ++ m)
theorem Marked.zero (ls x : Str) : Marked ls x 0 0 [] := ⟨Nat.zero_le _, Nat.zero_le _, rfl, by simp⟩
theorem Marked.step {ls x : Str} {k t n : Nat} {fl : List Bool} (h : Marked ls x k t fl) (hk : k < x.length) (hn : Lib.indexByte (ls.drop t) x[k] = n) : t + n < ls.length ∧ Marked ls x (k + 1) (t + (n + 1)) (fl ++ (List.replicate n false ++ [true])) := by
  have hd : x.drop k = x[k] :: x.drop (k + 1) := List.drop_eq_getElem_cons hk
  obtain ⟨h1, h2⟩ := marks_hit x[k] (x.drop (k + 1)) (ls.drop t) n hn
  have hl := h.len
  simp only [List.length_drop] at h1
  refine ⟨by omega, by omega, by omega, by simp [hl], ?_⟩
  rw [h.eq, hd, h2, List.drop_drop]
  rcases marksGo (List.drop (t + (n + 1)) ls) (x.drop (k + 1)) with _ | m <;> simp
theorem Marked.miss {ls x : Str} {k t : Nat} {fl : List Bool} (h : Marked ls x k t fl) (hk : k < x.length) (hn : Lib.indexByte (ls.drop t) x[k] = -1) : marksGo ls x = none := by
  have hd : x.drop k = x[k] :: x.drop (k + 1) := List.drop_eq_getElem_cons hk
  rw [h.eq, hd, marks_miss _ _ _ hn]; rfl
theorem Marked.all {ls x : Str} {k t : Nat} {fl : List Bool} (h : Marked ls x k t fl) (hk : x.length ≤ k) : marksGo ls x = some (fl ++ List.replicate (ls.length - t) false) := by
  rw [h.eq, List.drop_eq_nil_of_le hk]
  simp only [marksGo, Option.bind_some, List.map_const', List.length_drop]

theorem putFlags_false : ∀ (n o : Nat) (cs : Array Value), (∀ i, i < n → cs[o + i]? = some (.bool false)) → putFlags cs o (List.replicate n false) = cs
  | 0, _, _, _ => rfl
  | n + 1, o, cs, h => by
    have h0 := h 0 (by omega)
    have hs : cs.setIfInBounds o (.bool false) = cs := by
      apply Array.ext_getElem?
      intro i
      rw [Array.getElem?_setIfInBounds]
      split
      · rename_i e
        subst e
        split
        · simpa using h0.symm
        · rename_i hlt
          rw [Array.getElem?_eq_none (by omega)]
      · rfl
    rw [List.replicate_succ, putFlags, hs]
    exact putFlags_false n (o + 1) cs (fun i hi => by have := h (i + 1) (by omega); rwa [show o + (i + 1) = o + 1 + i by omega] at this)
theorem putFlags_append : ∀ (a b : List Bool) (o : Nat) (cs : Array Value), putFlags cs o (a ++ b) = putFlags (putFlags cs o a) (o + a.length) b
  | [], b, o, cs => by simp [putFlags]
  | x :: a, b, o, cs => by
    rw [List.cons_append, putFlags, putFlags_append a b, putFlags, List.length_cons, show o + 1 + a.length = o + (a.length + 1) by omega]
theorem putFlags_size : ∀ (a : List Bool) (o : Nat) (cs : Array Value), (putFlags cs o a).size = cs.size
  | [], _, _ => rfl
  | x :: a, o, cs => by rw [putFlags, putFlags_size a]; simp
theorem putFlags_past : ∀ (a : List Bool) (o : Nat) (cs : Array Value) (i : Nat), i < o ∨ o + a.length ≤ i → (putFlags cs o a)[i]? = cs[i]?
  | [], _, _, _, _ => rfl
  | x :: a, o, cs, i, h => by
    simp only [List.length_cons] at h
    rw [putFlags, putFlags_past a (o + 1) _ i (by omega), Array.getElem?_setIfInBounds, if_neg (by omega)]

/-- what 'marks' comes to: the flags stand in the target's cells; or it gives up -/
def GotMarks (lb rb tb o : Nat) (T : TypeId) (cs : Array Value) (w : World) (r : Option (List Bool × List Str)) (e : Ending) (w' : World) : Prop :=
  Keep (fun b => b = lb ∨ b = tb) w w' ∧ match r with
    | some (m, ws) => e = .returned (.tuple #[]) ∧ LineAt w' lb rb ws ∧ w'.heap[tb]? = some (.cells (putFlags cs o m) T (0, 0))
    | none => e = gaveUp 4
theorem idx_drop (ls : Str) (t : Nat) (c : UInt8) (w : World) : Calls Tryz.prog 134 #[.string ((⟨ls.toArray⟩ : ByteArray).extract t ls.length), .int .u8 c.toNat] w fun e w' => e = .returned (.int .i64 (Lib.indexByte (ls.drop t) c)) ∧ w' = w := by
  refine (Tryz.strings_IndexByte _ c.toNat w).mono fun e w' ⟨h1, h2⟩ => ⟨?_, h2⟩
  rw [h1]
  have : ((⟨ls.toArray⟩ : ByteArray).extract t ls.length).data.toList = ls.drop t := by
    rw [ByteArray.data_extract]
    simp
    exact List.take_of_length_le (by simp)
  rw [this]
  simp

set_option maxRecDepth 100000 in
set_option maxHeartbeats 1600000 in
theorem marks_word (lb rb : Nat) (ls x : Str) (ws : List Str) (tb ab o : Nat) (T : TypeId) (cs : Array Value) (w : World) (h : LineAt w lb rb (x :: ws)) (hd : (x == [45]) = false)
    (ht : w.heap[tb]? = some (.cells cs T (0, 0))) (htl : tb ≠ lb) (htr : tb ≠ rb) (hp : ∀ i, i < ls.length → w.cell? ⟨ab, i, none⟩ = some (.pointer (some ⟨tb, o + i, none⟩))) (hab : ab ≠ lb ∧ ab ≠ tb)
    (hf : ∀ i, i < ls.length → cs[o + i]? = some (.bool false)) (hls : ls.length ≤ 4) :
    Calls Tryz.prog 104 #[.pointer (some ⟨lb, 0, none⟩), .string ⟨ls.toArray⟩, .slice (some ⟨ab, 0, none⟩) ls.length ls.length] w (GotMarks lb rb tb o T cs w ((marksGo ls x).bind fun m => some (m, ws))) := by
  have hx := h.ok.head
  have H := word_some lb rb x ws w h
  clear h
  have kc := fun w => Lib.run_convert_string_bytes (P := Tryz.prog) w 9 47 5 ⟨x.toArray⟩ Tryz.underlying9 Tryz.underlying47 Tryz.underlying5
  go_enter Tryz.func104, Tryz.ntmps104
  go_wp2_with fail
  refine H.mono ?_
  rintro e w1 ⟨rfl, hk1, hl1⟩
  have HL1 := Lib.hid hl1
  clear hl1 H
  unfold sv
  go_wp2_with fail
  have hkW : Keep (fun _ => False) w1 (Lib.bytesWorld w1 5 ⟨x.toArray⟩) := Keep.of_below (Lib.bytesWorld_below _ _ _) (Nat.le_refl _)
  have htb1 := hk1.at' ht htl
  have htbl := lt_of_block htb1
  have htW := hkW.at' htb1 (fun e => e)
  have hcW := fun j hj => Lib.bytesWorld_cell w1 5 ⟨x.toArray⟩ j hj
  have hgW := Lib.bytesWorld_size w1 5 ⟨x.toArray⟩
  have hpW : ∀ i, i < ls.length → (Lib.bytesWorld w1 5 ⟨x.toArray⟩).cell? ⟨ab, i, none⟩ = some (.pointer (some ⟨tb, o + i, none⟩)) := fun i hi => by
    have h1 := hp i hi
    have h2 := World.block_lt_of_cell? _ _ h1
    rw [hkW.cell (Nat.lt_of_lt_of_le h2 hk1.size) (fun e => e), hk1.cell h2 hab.1]
    exact h1
  have habl : 0 < ls.length → ab < w1.heap.size := fun h0 => Nat.lt_of_lt_of_le (World.block_lt_of_cell? _ _ (hp 0 h0)) hk1.size
  generalize hWd : Lib.bytesWorld w1 5 ⟨x.toArray⟩ = W at *
  clear hWd kc
  go_loopw [7, 18] (fun v7 v18 wr => ∃ (k t : Nat) (fl : List Bool), Marked ls x k t fl ∧ v7 = .int .i64 t ∧ v18 = .int .i64 k ∧ wr.heap[tb]? = some (.cells (putFlags cs o fl) T (0, 0)) ∧ Keep (fun b => b = tb) W wr) (fun _ v18 _ => x.length - (intOf v18).toNat)
  case atStart => exact ⟨0, 0, [], Marked.zero _ _, rfl, rfl, htW, Keep.refl _ _⟩
  case round =>
    obtain ⟨k, t, fl, hm, rfl, rfl, hwt, hkr⟩ := hrel
    have hkWr : Keep (fun b => b = tb) w1 wr := (hkW.mono (fun _ _ e => e.elim)).trans' hkr
    have hkk : Keep (fun b => b = lb ∨ b = tb) w wr := (hk1.mono (fun _ _ e => .inl e)).trans hkWr (fun _ _ e => .inr e)
    have HM := Lib.hid hm
    have hle := hm.le
    have hle' := hm.le'
    clear hm
    have HP := Lib.hid hpW
    have HF := Lib.hid hf
    have HCW := Lib.hid hcW
    have HHP := Lib.hid hp
    clear hpW hf hcW hp ht htW htb1
    by_cases hlt : k < x.length
    · obtain ⟨c, hc⟩ : ∃ c, x[k] = c := ⟨_, rfl⟩
      have hcc : wr.cell? ⟨w1.heap.size, k, none⟩ = some (.int .u8 c.toNat) := by
        rw [hkr.cell (show w1.heap.size < W.heap.size by omega) (show ¬ w1.heap.size = tb by omega), HCW.out k (by show k < x.toArray.size; simp; omega)]
        simp [hlt, hc]
      have HC := Lib.hid hc
      clear hc
      have hlt' : (k : Int) < (x.length : Int) := by omega
      have hle2 : (t : Int) ≤ (ls.length : Int) := by omega
      have hge := Lib.indexByte_ge (ls.drop t) c
      have HQ := fun w => idx_drop ls t c w
      rcases Int.lt_or_le (Lib.indexByte (ls.drop t) c) 0 with hN | hN
      · have hN1 : Lib.indexByte (ls.drop t) c = -1 := by omega
        rw [hN1] at HQ
        have HN := Lib.hid hN1
        clear hN1 hN hge
        go_wp2_with fail
        refine (HQ _).mono ?_
        rintro e w' ⟨rfl, hw'⟩
        subst hw'
        go_wp2_with fail
        refine (must_no _ _).mono ?_
        rintro e w' ⟨rfl, rfl⟩
        refine ⟨rfl, hkk, ?_⟩
        rw [HM.out.miss hlt (HC.out.symm ▸ HN.out)]
        exact rfl
      · obtain ⟨n, hn⟩ := Int.eq_ofNat_of_zero_le hN
        rw [hn] at HQ
        have hst := HM.out.step hlt (HC.out.symm ▸ hn)
        have HST := Lib.hid hst.2
        have htn := hst.1
        have hcell : wr.cell? ⟨ab, t + n, none⟩ = some (.pointer (some ⟨tb, o + (t + n), none⟩)) := by
          rw [hkr.cell (Nat.lt_of_lt_of_le (habl (by omega)) hkW.size) hab.2]
          exact HP.out (t + n) htn
        have htc : wr.cell? ⟨tb, o + (t + n), none⟩ = some (.bool false) := by
          rw [cell_of_block hwt, putFlags_past _ _ _ _ (.inr (by rw [HM.out.len]; omega))]
          exact HF.out (t + n) htn
        have htf := free_of_block hwt (o + (t + n))
        have hfin : (wr.setCell ⟨tb, o + (t + n), none⟩ (.bool true)).heap[tb]? = some (.cells (putFlags cs o (fl ++ (List.replicate n false ++ [true]))) T (0, 0)) := by
          rw [block_setCell hwt]
          rw [putFlags_append, putFlags_append, HM.out.len, putFlags_false n (o + t) _ (fun i hi => by
            rw [putFlags_past _ _ _ _ (.inr (by rw [HM.out.len]; omega))]
            have := HF.out (t + i) (by omega)
            rwa [show o + (t + i) = o + t + i by omega] at this)]
          simp [putFlags, Nat.add_assoc]
        have HFIN := Lib.hid hfin
        have HWT := Lib.hid hwt
        clear hst hN hge hn hfin hwt
        go_wp2_with fail
        refine (HQ _).mono ?_
        rintro e w' ⟨rfl, hw'⟩
        subst hw'
        go_wp2_with fail
        refine (must_ok _ _).mono ?_
        rintro e w' ⟨rfl, rfl⟩
        go_wp2_with fail
        go_roundw
        case rel => exact ⟨k + 1, t + (n + 1), _, HST.out, by go_num, by go_num, HFIN.out, hkr.setCell _ _ (.inr rfl)⟩
        case measure => simp [intOf]; omega
    · have hge : ¬ (k : Int) < (x.length : Int) := by omega
      have hall := HM.out.all (Nat.le_of_not_lt hlt)
      have hfin : wr.heap[tb]? = some (.cells (putFlags cs o (fl ++ List.replicate (ls.length - t) false)) T (0, 0)) := by
        rw [hwt, putFlags_append, HM.out.len, putFlags_false _ (o + t) _ (fun i hi => by
          rw [putFlags_past _ _ _ _ (.inr (by rw [HM.out.len]; omega))]
          have := HF.out (t + i) (by omega)
          rwa [show o + (t + i) = o + t + i by omega] at this)]
      have HFIN := Lib.hid hfin
      have HALL := Lib.hid hall
      clear hfin hwt hall
      go_wp2_with fail
      go_end0
      refine ⟨hkk, ?_⟩
      rw [HALL.out]
      exact ⟨rfl, HL1.out.keep hkWr (fun e => htl e.symm) (fun e => htr e.symm), HFIN.out⟩

theorem marks_none (lb rb : Nat) (ls : Str) (v : Value) (w : World) (h : LineAt w lb rb []) :
    Calls Tryz.prog 104 #[.pointer (some ⟨lb, 0, none⟩), .string ⟨ls.toArray⟩, v] w fun e w' => e = gaveUp 4 ∧ Keep (fun b => b = lb) w w' := by
  go_enter Tryz.func104, Tryz.ntmps104
  go_wp2_with fail
  refine (word_none lb rb w h).mono ?_
  rintro e w1 ⟨rfl, hk1⟩
  exact ⟨rfl, rfl, hk1⟩
theorem marks_dash (lb rb : Nat) (ls : Str) (v : Value) (ws : List Str) (w : World) (h : LineAt w lb rb ([45] :: ws)) :
    Calls Tryz.prog 104 #[.pointer (some ⟨lb, 0, none⟩), .string ⟨ls.toArray⟩, v] w fun e w' => e = .returned (.tuple #[]) ∧ Keep (fun b => b = lb) w w' ∧ LineAt w' lb rb ws := by
  go_enter Tryz.func104, Tryz.ntmps104
  go_wp2_with fail
  refine (word_some lb rb [45] ws w h).mono ?_
  rintro e w1 ⟨rfl, hk1, hl1⟩
  have HL1 := Lib.hid hl1
  clear hl1 h
  unfold sv
  go_wp2_with fail
  first | go_end0 | refine bodyPost_ret (results_none rfl _ _ _) rfl ?_
  exact ⟨rfl, hk1, HL1.out⟩
theorem marks_any (lb rb : Nat) (ls : Str) (ws : List Str) (tb ab o : Nat) (T : TypeId) (cs : Array Value) (w : World) (h : LineAt w lb rb ws)
    (ht : w.heap[tb]? = some (.cells cs T (0, 0))) (htl : tb ≠ lb) (htr : tb ≠ rb) (hp : ∀ i, i < ls.length → w.cell? ⟨ab, i, none⟩ = some (.pointer (some ⟨tb, o + i, none⟩))) (hab : ab ≠ lb ∧ ab ≠ tb)
    (hf : ∀ i, i < ls.length → cs[o + i]? = some (.bool false)) (hls : ls.length ≤ 4) :
    Calls Tryz.prog 104 #[.pointer (some ⟨lb, 0, none⟩), .string ⟨ls.toArray⟩, .slice (some ⟨ab, 0, none⟩) ls.length ls.length] w (GotMarks lb rb tb o T cs w (pmarks ls ws)) := by
  cases ws with
  | nil => exact (marks_none lb rb ls _ w h).mono fun e w' h1 => ⟨h1.2.mono (fun _ _ e => .inl e), h1.1⟩
  | cons x ws =>
    have hp2 : pmarks ls (x :: ws) = (marksOf ls x).bind fun a => some (a, ws) := rfl
    by_cases hd : x = [45]
    · subst hd
      refine (marks_dash lb rb ls _ ws w h).mono fun e w' ⟨h1, h2, h3⟩ => ⟨h2.mono (fun _ _ e => .inl e), h1, h3, ?_⟩
      rw [List.map_const', putFlags_false _ _ _ hf]
      exact h2.at' ht htl
    · have hd' : (x == [45]) = false := by rw [beq_eq_false_iff_ne]; exact hd
      rw [hp2, show marksOf ls x = marksGo ls x by unfold marksOf; rw [if_neg hd]]
      exact marks_word lb rb ls x ws tb ab o T cs w h hd' ht htl htr hp hab hf hls

theorem marksGo_len : ∀ (ls w : Str) (m : List Bool), marksGo ls w = some m → m.length = ls.length
  | ls, [], m, h => by
    simp only [marksGo, Option.some.injEq] at h
    subst h; simp
  | [], _ :: _, m, h => by simp [marksGo] at h
  | l :: ls, c :: w, m, h => by
    rw [marksGo] at h
    split at h
    · rcases h1 : marksGo ls w with _ | t
      · rw [h1] at h; cases h
      · rw [h1] at h
        simp only [Option.bind_some, Option.some.injEq] at h
        subst h
        simp [marksGo_len ls w t h1]
    · rcases h1 : marksGo ls (c :: w) with _ | t
      · rw [h1] at h; cases h
      · rw [h1] at h
        simp only [Option.bind_some, Option.some.injEq] at h
        subst h
        simp [marksGo_len ls (c :: w) t h1]
theorem pmarks_len {ls : Str} {ws r : List Str} {m : List Bool} (h : pmarks ls ws = some (m, r)) : m.length = ls.length := by
  cases ws with
  | nil => cases h
  | cons x ws =>
    have h2 : (marksOf ls x).bind (fun a => some (a, ws)) = some (m, r) := h
    rcases h1 : marksOf ls x with _ | t
    · rw [h1] at h2; cases h2
    · rw [h1] at h2
      simp only [Option.bind_some, Option.some.injEq, Prod.mk.injEq] at h2
      obtain ⟨rfl, rfl⟩ := h2
      unfold marksOf at h1
      split at h1
      · simp only [Option.some.injEq] at h1
        subst h1; simp
      · exact marksGo_len _ _ _ h1
/-- 'marks' at a fresh row of pointers -/
theorem marks_at (lb rb : Nat) (ls : Str) (ws : List Str) (tb o : Nat) (T : TypeId) (cs : Array Value) (ps : Array Value) (w : World) (h : LineAt w lb rb ws)
    (ht : w.heap[tb]? = some (.cells cs T (0, 0))) (htl : tb ≠ lb) (htr : tb ≠ rb) (hps : ∀ i, i < ls.length → ps[i]? = some (.pointer (some ⟨tb, o + i, none⟩)))
    (hf : ∀ i, i < ls.length → cs[o + i]? = some (.bool false)) (hls : ls.length ≤ 4) :
    Calls Tryz.prog 104 #[.pointer (some ⟨lb, 0, none⟩), .string ⟨ls.toArray⟩, .slice (some ⟨w.heap.size, 0, none⟩) ls.length ls.length] (w.alloc (.cells ps 189)) (GotMarks lb rb tb o T cs w (pmarks ls ws)) := by
  have hk : Keep (fun _ => False) w (w.alloc (.cells ps 189)) := (Keep.refl _ w).alloc _
  refine (marks_any lb rb ls ws tb w.heap.size o T cs (w.alloc (.cells ps 189)) (h.keep hk (fun e => e) (fun e => e)) (hk.at' ht (fun e => e)) htl htr ?_ ?_ hf hls).mono fun e w' ⟨h1, h2⟩ => ⟨?_, h2⟩
  · intro i hi
    rw [World.cell?_alloc_at _ _ _ _ rfl]
    exact hps i hi
  · have := h.lt
    have := lt_of_block ht
    omega
  · exact (hk.mono (fun _ _ e => e.elim)).trans' h1
end Go.Proofs.YtifliekahdgobaaGreatDoor
namespace Go.Proofs.YtifliekahdgobaaGreatDoor
open Go.RowKit Sp

theorem len_two {α : Type} {l : List α} (h : l.length = 2) : ∃ a b, l = [a, b] := by
  match l, h with
  | [a, b], _ => exact ⟨a, b, rfl⟩
theorem len_four {α : Type} {l : List α} (h : l.length = 4) : ∃ a b c d, l = [a, b, c, d] := by
  match l, h with
  | [a, b, c, d], _ => exact ⟨a, b, c, d, rfl⟩
/-- an operation's cells -/
def opCells (x : OpS) : Array Value := #[.int .i64 x.kind, sv x.key, sv x.fin, sv x.val, .int .u64 x.rev, .int .i64 x.limit, .bool x.count, .bool x.keys, .bool x.prev]
def opZero : OpS := ⟨0, [], [], [], 0, 0, false, false, false⟩

/-- what a closure that reads into a variable (block xb) comes to -/
def GotInto {α : Type} (enc : α → Array Value) (T : TypeId) (lb rb xb : Nat) (w : World) (r : Option (α × List Str)) (e : Ending) (w' : World) : Prop :=
  Keep (fun b => b = lb ∨ b = xb) w w' ∧ match r with
    | some (a, ws) => e = .returned (.tuple #[]) ∧ LineAt w' lb rb ws ∧ w'.heap[xb]? = some (.cells (enc a) T (0, 0))
    | none => e = gaveUp 4

set_option maxRecDepth 100000 in
set_option maxHeartbeats 1600000 in
theorem range_any (lb rb tx lx xb : Nat) (ws : List Str) (w : World) (h : LineAt w lb rb ws)
    (ht : w.cell? ⟨tx, 0, none⟩ = some (.func (.func 103) #[.pointer (some ⟨lb, 0, none⟩)] #[])) (hl : w.cell? ⟨lx, 0, none⟩ = some (.pointer (some ⟨lb, 0, none⟩))) (hx : w.heap[xb]? = some (.cells (opCells opZero) 67 (0, 0)))
    (htl : tx ≠ lb) (hll : lx ≠ lb) (hxl : xb ≠ lb) (hxr : xb ≠ rb) (htx : tx ≠ xb) (hlx : lx ≠ xb) :
    Calls Tryz.prog 136 #[.pointer (some ⟨tx, 0, none⟩), .pointer (some ⟨lx, 0, none⟩), .pointer (some ⟨xb, 0, none⟩)] w (GotInto opCells 67 lb rb xb w (prange ws)) := by
  have hxt := there_of_block hx (show 9 ≤ (opCells opZero).size by decide)
  have HX := Lib.hid hx
  clear hx
  go_enter Tryz.func136, Tryz.ntmps136
  go_wp2_with fail
  refine wp_region_held_drew (S := fun w' => w'.cell? ⟨tx, 0, none⟩ = some (.func (.func 103) #[.pointer (some ⟨lb, 0, none⟩)] #[]) ∧ w'.cell? ⟨lx, 0, none⟩ = some (.pointer (some ⟨lb, 0, none⟩)) ∧ w'.there xb 0 9) (by kernel_rfl) ⟨ht, hl, hxt⟩ (fun hHeld => ?_)
  refine wpAnyH_take (i := 0) (v := ?_) rfl (by kernel_rfl) (by kernel_rfl) (by kernel_rfl) (fun _ _ _ h => h) (Or.inl ⟨by rfl, ?_⟩) (by assumption) ?_
  rotate_left
  · (intro w hSw; (try dsimp only at hSw); go_simp; try with_reducible rfl)
  try simp only [Act.put, List.setIfInBounds_toArray, List.set_cons_zero, List.set_cons_succ]
  refine wpAnyH_take (i := 2) (v := ?_) rfl (by kernel_rfl) (by kernel_rfl) (by kernel_rfl) (fun _ _ _ h => h) (Or.inl ⟨by rfl, ?_⟩) (by assumption) ?_
  rotate_left
  · (intro w hSw; (try dsimp only at hSw); go_simp; try with_reducible rfl)
  try simp only [Act.put, List.setIfInBounds_toArray, List.set_cons_zero, List.set_cons_succ]
  refine wpAnyH_take (i := 4) (v := ?_) rfl (by kernel_rfl) (by kernel_rfl) (by kernel_rfl) (fun _ _ _ h => h) (Or.inl ⟨by rfl, ?_⟩) (by assumption) ?_
  rotate_left
  · (intro w hSw; (try dsimp only at hSw); go_simp; try with_reducible rfl)
  try simp only [Act.put, List.setIfInBounds_toArray, List.set_cons_zero, List.set_cons_succ]
  refine wpAnyH_take (i := 6) (v := ?_) rfl (by kernel_rfl) (by kernel_rfl) (by kernel_rfl) (fun _ _ _ h => h) (Or.inl ⟨by rfl, ?_⟩) (by assumption) ?_
  rotate_left
  · (intro w hSw; (try dsimp only at hSw); go_simp; try with_reducible rfl)
  try simp only [Act.put, List.setIfInBounds_toArray, List.set_cons_zero, List.set_cons_succ]
  refine wpAnyH_ready (rs := [1]) (by kernel_rfl) (by simp) ?_
  refine AllReadyH.cons (o := ?_) (by simp only [List.getElem?_toArray, List.getElem?_cons_succ, List.getElem?_cons_zero]; exact rfl) (fun K hK => ?_) AllReadyH.nil
  go_simp
  refine (bytes_any lb rb ws _ (h.keep (Keep.refl (fun _ => False) w).drew (fun e => e) (fun e => e))).mono ?_
  intro e w1 hg1
  obtain ⟨hk1, hg1⟩ := hg1
  have hkk1 : Keep (fun b => b = lb) w w1 := (Keep.refl _ w).drew.trans' hk1
  rcases hp1 : pbytes ws with _ | ⟨k, ws1⟩
  · rw [hp1] at hg1
    subst hg1
    refine ⟨rfl, hkk1.mono (fun _ _ e => .inl e), ?_⟩
    unfold prange
    rw [hp1]
    exact rfl
  rw [hp1] at hg1
  obtain ⟨rfl, hl1⟩ := hg1
  have HP1 := Lib.hid hp1
  clear hp1
  refine hK.out _ _ (hk1.twoThere (by assumption) htl hll hxl) (fun hHeld => ?_)
  clear hK K
  try simp only [Act.put, List.setIfInBounds_toArray, List.set_cons_zero, List.set_cons_succ]
  refine wpAnyH_ready (rs := [3]) (by kernel_rfl) (by simp) ?_
  refine AllReadyH.cons (o := ?_) (by simp only [List.getElem?_toArray, List.getElem?_cons_succ, List.getElem?_cons_zero]; exact rfl) (fun K hK => ?_) AllReadyH.nil
  go_simp
  refine (bytes_any lb rb ws1 _ (hl1)).mono ?_
  intro e w2 hg2
  obtain ⟨hk2, hg2⟩ := hg2
  have hkk2 := hkk1.trans' hk2
  rcases hp2 : pbytes ws1 with _ | ⟨en, ws2⟩
  · rw [hp2] at hg2
    subst hg2
    refine ⟨rfl, hkk2.mono (fun _ _ e => .inl e), ?_⟩
    unfold prange
    rw [HP1.out, Option.bind_some, hp2]
    exact rfl
  rw [hp2] at hg2
  obtain ⟨rfl, hl2⟩ := hg2
  have HP2 := Lib.hid hp2
  clear hp2
  refine hK.out _ _ (hk2.twoThere (by assumption) htl hll hxl) (fun hHeld => ?_)
  clear hK K
  try simp only [Act.put, List.setIfInBounds_toArray, List.set_cons_zero, List.set_cons_succ]
  refine wpAnyH_ready (rs := [5]) (by kernel_rfl) (by simp) ?_
  refine AllReadyH.cons (o := ?_) (by simp only [List.getElem?_toArray, List.getElem?_cons_succ, List.getElem?_cons_zero]; exact rfl) (fun K hK => ?_) AllReadyH.nil
  go_simp
  refine (num_any lb rb ws2 _ (hl2)).mono ?_
  intro e w3 hg3
  obtain ⟨hk3, hg3⟩ := hg3
  have hkk3 := hkk2.trans' hk3
  rcases hp3 : pnum most ws2 with _ | ⟨rv, ws3⟩
  · rw [hp3] at hg3
    subst hg3
    refine ⟨rfl, hkk3.mono (fun _ _ e => .inl e), ?_⟩
    unfold prange
    rw [HP1.out, Option.bind_some, HP2.out, Option.bind_some, hp3]
    exact rfl
  rw [hp3] at hg3
  obtain ⟨rfl, hl3⟩ := hg3
  have hb3 := pnum_le hp3
  have HP3 := Lib.hid hp3
  clear hp3
  refine hK.out _ _ (hk3.twoThere (by assumption) htl hll hxl) (fun hHeld => ?_)
  clear hK K
  try simp only [Act.put, List.setIfInBounds_toArray, List.set_cons_zero, List.set_cons_succ]
  refine wpAnyH_ready (rs := [7]) (by kernel_rfl) (by simp) ?_
  refine AllReadyH.cons (o := ?_) (by simp only [List.getElem?_toArray, List.getElem?_cons_succ, List.getElem?_cons_zero]; exact rfl) (fun K hK => ?_) AllReadyH.nil
  go_simp
  refine (num_any lb rb ws3 _ (hl3)).mono ?_
  intro e w4 hg4
  obtain ⟨hk4, hg4⟩ := hg4
  have hkk4 := hkk3.trans' hk4
  rcases hp4 : pnum most ws3 with _ | ⟨lm, ws4⟩
  · rw [hp4] at hg4
    subst hg4
    refine ⟨rfl, hkk4.mono (fun _ _ e => .inl e), ?_⟩
    unfold prange
    rw [HP1.out, Option.bind_some, HP2.out, Option.bind_some, HP3.out, Option.bind_some, hp4]
    exact rfl
  rw [hp4] at hg4
  obtain ⟨rfl, hl4⟩ := hg4
  have hb4 := pnum_le hp4
  have HP4 := Lib.hid hp4
  clear hp4
  refine hK.out _ _ (hk4.twoThere (by assumption) htl hll hxl) (fun hHeld => ?_)
  clear hK K
  try simp only [Act.put, List.setIfInBounds_toArray, List.set_cons_zero, List.set_cons_succ]
  unfold u64v
  have hbm : (most : Int) = 999999999999999999 := rfl
  rw [hbm] at hb3 hb4
  have hw4 : IntKind.i64.wrap lm = lm := IntWalk.i64_in _ (by omega)
  clear hbm
  refine wpAnyH_take (i := 8) (v := ?_) rfl (by kernel_rfl) (by kernel_rfl) (by kernel_rfl) (fun _ _ _ h => h) (Or.inl ⟨by rfl, ?_⟩) (by assumption) ?_
  rotate_left
  · (intro w hSw; (try dsimp only at hSw); go_simp; try with_reducible rfl)
  try simp only [Act.put, List.setIfInBounds_toArray, List.set_cons_zero, List.set_cons_succ]
  refine wpAnyH_take (i := 9) (v := ?_) rfl (by kernel_rfl) (by kernel_rfl) (by kernel_rfl) (fun _ _ _ h => h) (Or.inl ⟨by rfl, ?_⟩) (by assumption) ?_
  rotate_left
  · (intro w hSw; (try dsimp only at hSw); go_simp; try with_reducible rfl)
  try simp only [Act.put, List.setIfInBounds_toArray, List.set_cons_zero, List.set_cons_succ]
  refine wpAnyH_ready (rs := [10]) (by kernel_rfl) (by simp) ?_
  refine AllReadyH.cons (o := ?_) (by simp only [List.getElem?_toArray, List.getElem?_cons_succ, List.getElem?_cons_zero]; exact rfl) (fun K hK => ?_) AllReadyH.nil
  go_simp
  go_wp2_with fail
  refine hK.out _ _ (held_setCells (by assumption) _ htx hlx) (fun hHeld => ?_)
  clear hK K
  try simp only [Act.put, List.setIfInBounds_toArray, List.set_cons_zero, List.set_cons_succ]
  refine wpAnyH_done (by kernel_rfl) ?_ _
  obtain ⟨cs, hcs⟩ : ∃ cs : List Value, cs = [.int .i64 0, sv k, sv en, .string ⟨#[]⟩, .int .u64 rv, .int .i64 lm, .bool false, .bool false, .bool false] := ⟨_, rfl⟩
  have hx2 := block_setCells_all (hkk4.at' HX.out hxl) cs (by rw [hcs]; rfl)
  have hkS : Keep (fun b => b = lb ∨ b = xb) w (w4.setCells xb 0 cs) := (hkk4.mono (fun _ _ e => .inl e)).setCells _ _ _ (.inr (.inr rfl))
  have hlS : LineAt (w4.setCells xb 0 cs) lb rb ws4 := hl4.keep ((Keep.refl (fun b => b = xb) w4).setCells _ _ _ (.inr rfl)) (fun e => hxl e.symm) (fun e => hxr e.symm)
  rw [← hcs]
  generalize w4.setCells xb 0 cs = W3 at *
  have hlW := hkS.cellOf hl (show ¬ (lx = lb ∨ lx = xb) by omega)
  have HX2 := Lib.hid hx2
  have HCS := Lib.hid hcs
  have HL3 := Lib.hid hlS
  have hxlt := lt_of_block hx2
  clear hx2 hcs hlS ht hl hxt h hl1 hl2 hl3 hl4
  have q1 : ∀ i, i < lCk.length → (#[.pointer (some ⟨xb, 6, none⟩), .pointer (some ⟨xb, 7, none⟩)] : Array Value)[i]? = some (.pointer (some ⟨xb, 6 + i, none⟩)) := by
    intro i hi
    have hi' : i < 2 := hi
    rcases (show i = 0 ∨ i = 1 by omega) with rfl | rfl <;> rfl
  have q2 : ∀ i, i < lCk.length → cs.toArray[6 + i]? = some (.bool false) := by
    intro i hi
    have hi' : i < 2 := hi
    rw [HCS.out]
    rcases (show i = 0 ∨ i = 1 by omega) with rfl | rfl <;> rfl
  have HQ := marks_at lb rb lCk ws4 xb 6 67 cs.toArray #[.pointer (some ⟨xb, 6, none⟩), .pointer (some ⟨xb, 7, none⟩)] W3 HL3.out HX2.out hxl hxr q1 q2 (by decide)
  clear q1 q2
  rcases hm : pmarks lCk ws4 with _ | ⟨m, r⟩
  · rw [hm] at HQ
    have HMM := Lib.hid hm
    clear hm
    go_wp2_with fail
    refine (show Calls Tryz.prog 104 #[.pointer (some ⟨lb, 0, none⟩), .string ⟨#[99, 107]⟩, .slice (some ⟨W3.heap.size, 0, none⟩) 2 2] _ _ from HQ).mono ?_
    rintro e w9 ⟨hk9, rfl⟩
    refine ⟨rfl, hkS.trans' hk9, ?_⟩
    unfold prange
    rw [HP1.out, Option.bind_some, HP2.out, Option.bind_some, HP3.out, Option.bind_some, HP4.out, Option.bind_some, HMM.out]
    exact rfl
  · rw [hm] at HQ
    have hml := pmarks_len hm
    obtain ⟨b, b2, rfl⟩ : ∃ b b2, m = [b, b2] := len_two hml
    have HMM := Lib.hid hm
    clear hm hml
    go_wp2_with fail
    refine (show Calls Tryz.prog 104 #[.pointer (some ⟨lb, 0, none⟩), .string ⟨#[99, 107]⟩, .slice (some ⟨W3.heap.size, 0, none⟩) 2 2] _ _ from HQ).mono ?_
    rintro e w9 ⟨hk9, rfl, hl9, hx9⟩
    have HX9 := Lib.hid hx9
    have HL9 := Lib.hid hl9
    clear hx9 hl9
    go_wp2_with fail
    go_end0
    refine ⟨hkS.trans' hk9, ?_⟩
    unfold prange
    rw [HP1.out, Option.bind_some, HP2.out, Option.bind_some, HP3.out, Option.bind_some, HP4.out, Option.bind_some, HMM.out]
    refine ⟨rfl, HL9.out, ?_⟩
    have h9 := HX9.out
    rw [HCS.out] at h9
    exact h9

set_option maxRecDepth 100000 in
set_option maxHeartbeats 1600000 in
theorem put_any (lb rb tx lx xb : Nat) (ws : List Str) (w : World) (h : LineAt w lb rb ws)
    (ht : w.cell? ⟨tx, 0, none⟩ = some (.func (.func 103) #[.pointer (some ⟨lb, 0, none⟩)] #[])) (hl : w.cell? ⟨lx, 0, none⟩ = some (.pointer (some ⟨lb, 0, none⟩))) (hx : w.heap[xb]? = some (.cells (opCells opZero) 67 (0, 0)))
    (htl : tx ≠ lb) (hll : lx ≠ lb) (hxl : xb ≠ lb) (hxr : xb ≠ rb) (htx : tx ≠ xb) (hlx : lx ≠ xb) :
    Calls Tryz.prog 137 #[.pointer (some ⟨tx, 0, none⟩), .pointer (some ⟨xb, 0, none⟩), .pointer (some ⟨lx, 0, none⟩)] w (GotInto opCells 67 lb rb xb w (pput ws)) := by
  have hxt := there_of_block hx (show 9 ≤ (opCells opZero).size by decide)
  have HX := Lib.hid hx
  clear hx
  go_enter Tryz.func137, Tryz.ntmps137
  go_wp2_with fail
  refine wp_region_held_drew (S := fun w' => w'.cell? ⟨tx, 0, none⟩ = some (.func (.func 103) #[.pointer (some ⟨lb, 0, none⟩)] #[]) ∧ w'.cell? ⟨lx, 0, none⟩ = some (.pointer (some ⟨lb, 0, none⟩)) ∧ w'.there xb 0 9) (by kernel_rfl) ⟨ht, hl, hxt⟩ (fun hHeld => ?_)
  refine wpAnyH_take (i := 0) (v := ?_) rfl (by kernel_rfl) (by kernel_rfl) (by kernel_rfl) (fun _ _ _ h => h) (Or.inl ⟨by rfl, ?_⟩) (by assumption) ?_
  rotate_left
  · (intro w hSw; (try dsimp only at hSw); go_simp; try with_reducible rfl)
  try simp only [Act.put, List.setIfInBounds_toArray, List.set_cons_zero, List.set_cons_succ]
  refine wpAnyH_take (i := 2) (v := ?_) rfl (by kernel_rfl) (by kernel_rfl) (by kernel_rfl) (fun _ _ _ h => h) (Or.inl ⟨by rfl, ?_⟩) (by assumption) ?_
  rotate_left
  · (intro w hSw; (try dsimp only at hSw); go_simp; try with_reducible rfl)
  try simp only [Act.put, List.setIfInBounds_toArray, List.set_cons_zero, List.set_cons_succ]
  refine wpAnyH_ready (rs := [1]) (by kernel_rfl) (by simp) ?_
  refine AllReadyH.cons (o := ?_) (by simp only [List.getElem?_toArray, List.getElem?_cons_succ, List.getElem?_cons_zero]; exact rfl) (fun K hK => ?_) AllReadyH.nil
  go_simp
  refine (bytes_any lb rb ws _ (h.keep (Keep.refl (fun _ => False) w).drew (fun e => e) (fun e => e))).mono ?_
  intro e w1 hg1
  obtain ⟨hk1, hg1⟩ := hg1
  have hkk1 : Keep (fun b => b = lb) w w1 := (Keep.refl _ w).drew.trans' hk1
  rcases hp1 : pbytes ws with _ | ⟨k, ws1⟩
  · rw [hp1] at hg1
    subst hg1
    refine ⟨rfl, hkk1.mono (fun _ _ e => .inl e), ?_⟩
    unfold pput
    rw [hp1]
    exact rfl
  rw [hp1] at hg1
  obtain ⟨rfl, hl1⟩ := hg1
  have HP1 := Lib.hid hp1
  clear hp1
  refine hK.out _ _ (hk1.twoThere (by assumption) htl hll hxl) (fun hHeld => ?_)
  clear hK K
  try simp only [Act.put, List.setIfInBounds_toArray, List.set_cons_zero, List.set_cons_succ]
  refine wpAnyH_ready (rs := [3]) (by kernel_rfl) (by simp) ?_
  refine AllReadyH.cons (o := ?_) (by simp only [List.getElem?_toArray, List.getElem?_cons_succ, List.getElem?_cons_zero]; exact rfl) (fun K hK => ?_) AllReadyH.nil
  go_simp
  refine (bytes_any lb rb ws1 _ (hl1)).mono ?_
  intro e w2 hg2
  obtain ⟨hk2, hg2⟩ := hg2
  have hkk2 := hkk1.trans' hk2
  rcases hp2 : pbytes ws1 with _ | ⟨en, ws2⟩
  · rw [hp2] at hg2
    subst hg2
    refine ⟨rfl, hkk2.mono (fun _ _ e => .inl e), ?_⟩
    unfold pput
    rw [HP1.out, Option.bind_some, hp2]
    exact rfl
  rw [hp2] at hg2
  obtain ⟨rfl, hl2⟩ := hg2
  have HP2 := Lib.hid hp2
  clear hp2
  refine hK.out _ _ (hk2.twoThere (by assumption) htl hll hxl) (fun hHeld => ?_)
  clear hK K
  try simp only [Act.put, List.setIfInBounds_toArray, List.set_cons_zero, List.set_cons_succ]
  refine wpAnyH_take (i := 4) (v := ?_) rfl (by kernel_rfl) (by kernel_rfl) (by kernel_rfl) (fun _ _ _ h => h) (Or.inl ⟨by rfl, ?_⟩) (by assumption) ?_
  rotate_left
  · (intro w hSw; (try dsimp only at hSw); go_simp; try with_reducible rfl)
  try simp only [Act.put, List.setIfInBounds_toArray, List.set_cons_zero, List.set_cons_succ]
  refine wpAnyH_ready (rs := [5]) (by kernel_rfl) (by simp) ?_
  refine AllReadyH.cons (o := ?_) (by simp only [List.getElem?_toArray, List.getElem?_cons_succ, List.getElem?_cons_zero]; exact rfl) (fun K hK => ?_) AllReadyH.nil
  go_simp
  go_wp2_with fail
  refine hK.out _ _ (held_setCells (by assumption) _ htx hlx) (fun hHeld => ?_)
  clear hK K
  try simp only [Act.put, List.setIfInBounds_toArray, List.set_cons_zero, List.set_cons_succ]
  refine wpAnyH_done (by kernel_rfl) ?_ _
  obtain ⟨cs, hcs⟩ : ∃ cs : List Value, cs = [.int .i64 1, sv k, .string ⟨#[]⟩, sv en, .int .u64 0, .int .i64 0, .bool false, .bool false, .bool false] := ⟨_, rfl⟩
  have hx2 := block_setCells_all (hkk2.at' HX.out hxl) cs (by rw [hcs]; rfl)
  have hkS : Keep (fun b => b = lb ∨ b = xb) w (w2.setCells xb 0 cs) := (hkk2.mono (fun _ _ e => .inl e)).setCells _ _ _ (.inr (.inr rfl))
  have hlS : LineAt (w2.setCells xb 0 cs) lb rb ws2 := hl2.keep ((Keep.refl (fun b => b = xb) w2).setCells _ _ _ (.inr rfl)) (fun e => hxl e.symm) (fun e => hxr e.symm)
  rw [← hcs]
  generalize w2.setCells xb 0 cs = W3 at *
  have hlW := hkS.cellOf hl (show ¬ (lx = lb ∨ lx = xb) by omega)
  have HX2 := Lib.hid hx2
  have HCS := Lib.hid hcs
  have HL3 := Lib.hid hlS
  have hxlt := lt_of_block hx2
  clear hx2 hcs hlS ht hl hxt h hl1 hl2
  have q1 : ∀ i, i < lP.length → (#[.pointer (some ⟨xb, 8, none⟩)] : Array Value)[i]? = some (.pointer (some ⟨xb, 8 + i, none⟩)) := by
    intro i hi
    have hi' : i < 1 := hi
    obtain rfl : i = 0 := by omega
    rfl
  have q2 : ∀ i, i < lP.length → cs.toArray[8 + i]? = some (.bool false) := by
    intro i hi
    have hi' : i < 1 := hi
    rw [HCS.out]
    obtain rfl : i = 0 := by omega
    rfl
  have HQ := marks_at lb rb lP ws2 xb 8 67 cs.toArray #[.pointer (some ⟨xb, 8, none⟩)] W3 HL3.out HX2.out hxl hxr q1 q2 (by decide)
  clear q1 q2
  rcases hm : pmarks lP ws2 with _ | ⟨m, r⟩
  · rw [hm] at HQ
    have HMM := Lib.hid hm
    clear hm
    go_wp2_with fail
    refine (show Calls Tryz.prog 104 #[.pointer (some ⟨lb, 0, none⟩), .string ⟨#[112]⟩, .slice (some ⟨W3.heap.size, 0, none⟩) 1 1] _ _ from HQ).mono ?_
    rintro e w9 ⟨hk9, rfl⟩
    refine ⟨rfl, hkS.trans' hk9, ?_⟩
    unfold pput
    rw [HP1.out, Option.bind_some, HP2.out, Option.bind_some, HMM.out]
    exact rfl
  · rw [hm] at HQ
    have hml := pmarks_len hm
    obtain ⟨b, rfl⟩ : ∃ b, m = [b] := List.length_eq_one_iff.1 hml
    have HMM := Lib.hid hm
    clear hm hml
    go_wp2_with fail
    refine (show Calls Tryz.prog 104 #[.pointer (some ⟨lb, 0, none⟩), .string ⟨#[112]⟩, .slice (some ⟨W3.heap.size, 0, none⟩) 1 1] _ _ from HQ).mono ?_
    rintro e w9 ⟨hk9, rfl, hl9, hx9⟩
    have HX9 := Lib.hid hx9
    have HL9 := Lib.hid hl9
    clear hx9 hl9
    go_wp2_with fail
    go_end0
    refine ⟨hkS.trans' hk9, ?_⟩
    unfold pput
    rw [HP1.out, Option.bind_some, HP2.out, Option.bind_some, HMM.out]
    refine ⟨rfl, HL9.out, ?_⟩
    have h9 := HX9.out
    rw [HCS.out] at h9
    exact h9

set_option maxRecDepth 100000 in
set_option maxHeartbeats 1600000 in
theorem del_any (lb rb tx lx xb : Nat) (ws : List Str) (w : World) (h : LineAt w lb rb ws)
    (ht : w.cell? ⟨tx, 0, none⟩ = some (.func (.func 103) #[.pointer (some ⟨lb, 0, none⟩)] #[])) (hl : w.cell? ⟨lx, 0, none⟩ = some (.pointer (some ⟨lb, 0, none⟩))) (hx : w.heap[xb]? = some (.cells (opCells opZero) 67 (0, 0)))
    (htl : tx ≠ lb) (hll : lx ≠ lb) (hxl : xb ≠ lb) (hxr : xb ≠ rb) (htx : tx ≠ xb) (hlx : lx ≠ xb) :
    Calls Tryz.prog 138 #[.pointer (some ⟨tx, 0, none⟩), .pointer (some ⟨xb, 0, none⟩), .pointer (some ⟨lx, 0, none⟩)] w (GotInto opCells 67 lb rb xb w (pdel ws)) := by
  have hxt := there_of_block hx (show 9 ≤ (opCells opZero).size by decide)
  have HX := Lib.hid hx
  clear hx
  go_enter Tryz.func138, Tryz.ntmps138
  go_wp2_with fail
  refine wp_region_held_drew (S := fun w' => w'.cell? ⟨tx, 0, none⟩ = some (.func (.func 103) #[.pointer (some ⟨lb, 0, none⟩)] #[]) ∧ w'.cell? ⟨lx, 0, none⟩ = some (.pointer (some ⟨lb, 0, none⟩)) ∧ w'.there xb 0 9) (by kernel_rfl) ⟨ht, hl, hxt⟩ (fun hHeld => ?_)
  refine wpAnyH_take (i := 0) (v := ?_) rfl (by kernel_rfl) (by kernel_rfl) (by kernel_rfl) (fun _ _ _ h => h) (Or.inl ⟨by rfl, ?_⟩) (by assumption) ?_
  rotate_left
  · (intro w hSw; (try dsimp only at hSw); go_simp; try with_reducible rfl)
  try simp only [Act.put, List.setIfInBounds_toArray, List.set_cons_zero, List.set_cons_succ]
  refine wpAnyH_take (i := 2) (v := ?_) rfl (by kernel_rfl) (by kernel_rfl) (by kernel_rfl) (fun _ _ _ h => h) (Or.inl ⟨by rfl, ?_⟩) (by assumption) ?_
  rotate_left
  · (intro w hSw; (try dsimp only at hSw); go_simp; try with_reducible rfl)
  try simp only [Act.put, List.setIfInBounds_toArray, List.set_cons_zero, List.set_cons_succ]
  refine wpAnyH_ready (rs := [1]) (by kernel_rfl) (by simp) ?_
  refine AllReadyH.cons (o := ?_) (by simp only [List.getElem?_toArray, List.getElem?_cons_succ, List.getElem?_cons_zero]; exact rfl) (fun K hK => ?_) AllReadyH.nil
  go_simp
  refine (bytes_any lb rb ws _ (h.keep (Keep.refl (fun _ => False) w).drew (fun e => e) (fun e => e))).mono ?_
  intro e w1 hg1
  obtain ⟨hk1, hg1⟩ := hg1
  have hkk1 : Keep (fun b => b = lb) w w1 := (Keep.refl _ w).drew.trans' hk1
  rcases hp1 : pbytes ws with _ | ⟨k, ws1⟩
  · rw [hp1] at hg1
    subst hg1
    refine ⟨rfl, hkk1.mono (fun _ _ e => .inl e), ?_⟩
    unfold pdel
    rw [hp1]
    exact rfl
  rw [hp1] at hg1
  obtain ⟨rfl, hl1⟩ := hg1
  have HP1 := Lib.hid hp1
  clear hp1
  refine hK.out _ _ (hk1.twoThere (by assumption) htl hll hxl) (fun hHeld => ?_)
  clear hK K
  try simp only [Act.put, List.setIfInBounds_toArray, List.set_cons_zero, List.set_cons_succ]
  refine wpAnyH_ready (rs := [3]) (by kernel_rfl) (by simp) ?_
  refine AllReadyH.cons (o := ?_) (by simp only [List.getElem?_toArray, List.getElem?_cons_succ, List.getElem?_cons_zero]; exact rfl) (fun K hK => ?_) AllReadyH.nil
  go_simp
  refine (bytes_any lb rb ws1 _ (hl1)).mono ?_
  intro e w2 hg2
  obtain ⟨hk2, hg2⟩ := hg2
  have hkk2 := hkk1.trans' hk2
  rcases hp2 : pbytes ws1 with _ | ⟨en, ws2⟩
  · rw [hp2] at hg2
    subst hg2
    refine ⟨rfl, hkk2.mono (fun _ _ e => .inl e), ?_⟩
    unfold pdel
    rw [HP1.out, Option.bind_some, hp2]
    exact rfl
  rw [hp2] at hg2
  obtain ⟨rfl, hl2⟩ := hg2
  have HP2 := Lib.hid hp2
  clear hp2
  refine hK.out _ _ (hk2.twoThere (by assumption) htl hll hxl) (fun hHeld => ?_)
  clear hK K
  try simp only [Act.put, List.setIfInBounds_toArray, List.set_cons_zero, List.set_cons_succ]
  refine wpAnyH_take (i := 4) (v := ?_) rfl (by kernel_rfl) (by kernel_rfl) (by kernel_rfl) (fun _ _ _ h => h) (Or.inl ⟨by rfl, ?_⟩) (by assumption) ?_
  rotate_left
  · (intro w hSw; (try dsimp only at hSw); go_simp; try with_reducible rfl)
  try simp only [Act.put, List.setIfInBounds_toArray, List.set_cons_zero, List.set_cons_succ]
  refine wpAnyH_ready (rs := [5]) (by kernel_rfl) (by simp) ?_
  refine AllReadyH.cons (o := ?_) (by simp only [List.getElem?_toArray, List.getElem?_cons_succ, List.getElem?_cons_zero]; exact rfl) (fun K hK => ?_) AllReadyH.nil
  go_simp
  go_wp2_with fail
  refine hK.out _ _ (held_setCells (by assumption) _ htx hlx) (fun hHeld => ?_)
  clear hK K
  try simp only [Act.put, List.setIfInBounds_toArray, List.set_cons_zero, List.set_cons_succ]
  refine wpAnyH_done (by kernel_rfl) ?_ _
  obtain ⟨cs, hcs⟩ : ∃ cs : List Value, cs = [.int .i64 2, sv k, sv en, .string ⟨#[]⟩, .int .u64 0, .int .i64 0, .bool false, .bool false, .bool false] := ⟨_, rfl⟩
  have hx2 := block_setCells_all (hkk2.at' HX.out hxl) cs (by rw [hcs]; rfl)
  have hkS : Keep (fun b => b = lb ∨ b = xb) w (w2.setCells xb 0 cs) := (hkk2.mono (fun _ _ e => .inl e)).setCells _ _ _ (.inr (.inr rfl))
  have hlS : LineAt (w2.setCells xb 0 cs) lb rb ws2 := hl2.keep ((Keep.refl (fun b => b = xb) w2).setCells _ _ _ (.inr rfl)) (fun e => hxl e.symm) (fun e => hxr e.symm)
  rw [← hcs]
  generalize w2.setCells xb 0 cs = W3 at *
  have hlW := hkS.cellOf hl (show ¬ (lx = lb ∨ lx = xb) by omega)
  have HX2 := Lib.hid hx2
  have HCS := Lib.hid hcs
  have HL3 := Lib.hid hlS
  have hxlt := lt_of_block hx2
  clear hx2 hcs hlS ht hl hxt h hl1 hl2
  have q1 : ∀ i, i < lP.length → (#[.pointer (some ⟨xb, 8, none⟩)] : Array Value)[i]? = some (.pointer (some ⟨xb, 8 + i, none⟩)) := by
    intro i hi
    have hi' : i < 1 := hi
    obtain rfl : i = 0 := by omega
    rfl
  have q2 : ∀ i, i < lP.length → cs.toArray[8 + i]? = some (.bool false) := by
    intro i hi
    have hi' : i < 1 := hi
    rw [HCS.out]
    obtain rfl : i = 0 := by omega
    rfl
  have HQ := marks_at lb rb lP ws2 xb 8 67 cs.toArray #[.pointer (some ⟨xb, 8, none⟩)] W3 HL3.out HX2.out hxl hxr q1 q2 (by decide)
  clear q1 q2
  rcases hm : pmarks lP ws2 with _ | ⟨m, r⟩
  · rw [hm] at HQ
    have HMM := Lib.hid hm
    clear hm
    go_wp2_with fail
    refine (show Calls Tryz.prog 104 #[.pointer (some ⟨lb, 0, none⟩), .string ⟨#[112]⟩, .slice (some ⟨W3.heap.size, 0, none⟩) 1 1] _ _ from HQ).mono ?_
    rintro e w9 ⟨hk9, rfl⟩
    refine ⟨rfl, hkS.trans' hk9, ?_⟩
    unfold pdel
    rw [HP1.out, Option.bind_some, HP2.out, Option.bind_some, HMM.out]
    exact rfl
  · rw [hm] at HQ
    have hml := pmarks_len hm
    obtain ⟨b, rfl⟩ : ∃ b, m = [b] := List.length_eq_one_iff.1 hml
    have HMM := Lib.hid hm
    clear hm hml
    go_wp2_with fail
    refine (show Calls Tryz.prog 104 #[.pointer (some ⟨lb, 0, none⟩), .string ⟨#[112]⟩, .slice (some ⟨W3.heap.size, 0, none⟩) 1 1] _ _ from HQ).mono ?_
    rintro e w9 ⟨hk9, rfl, hl9, hx9⟩
    have HX9 := Lib.hid hx9
    have HL9 := Lib.hid hl9
    clear hx9 hl9
    go_wp2_with fail
    go_end0
    refine ⟨hkS.trans' hk9, ?_⟩
    unfold pdel
    rw [HP1.out, Option.bind_some, HP2.out, Option.bind_some, HMM.out]
    refine ⟨rfl, HL9.out, ?_⟩
    have h9 := HX9.out
    rw [HCS.out] at h9
    exact h9
end Go.Proofs.YtifliekahdgobaaGreatDoor
namespace Go.Proofs.YtifliekahdgobaaGreatDoor
open Go.RowKit Sp

/-- block r holds o -/
def setB (w : World) (r : Nat) (o : Obj) : World := { w with heap := w.heap.setIfInBounds r o }
theorem setB_at {w : World} {r : Nat} {o x : Obj} (h : w.heap[r]? = some x) : (setB w r o).heap[r]? = some o := by
  have := lt_of_block h
  simp [setB, this]
theorem setB_other {w : World} {r k : Nat} (o : Obj) (h : k ≠ r) : (setB w r o).heap[k]? = w.heap[k]? := by
  simp only [setB]
  rw [Array.getElem?_setIfInBounds, if_neg (fun e => h e.symm)]
theorem setB_size (w : World) (r : Nat) (o : Obj) : (setB w r o).heap.size = w.heap.size := by simp [setB]
theorem Keep.setB {M : Nat → Prop} {w w' : World} (h : Keep M w w') (r : Nat) (o : Obj) (hr : w.heap.size ≤ r ∨ M r) : Keep M w (setB w' r o) :=
  ⟨h.os, h.tape, h.output, by rw [setB_size]; exact h.size, fun k hk hn => (setB_other o (fun e => by
    subst e
    rcases hr with hr | hr
    · omega
    · exact hn hr)).trans (h.block k hk hn)⟩
theorem setB_new (w : World) (o x : Obj) : YtifliekahdgobaaGreatDoor.setB (w.alloc x) w.heap.size o = w.alloc o := by
  have hh : (w.heap.push x).setIfInBounds w.heap.size o = w.heap.push o := by
    apply Array.ext_getElem?
    intro i
    rw [Array.getElem?_setIfInBounds, Array.getElem?_push, Array.getElem?_push]
    by_cases h : i = w.heap.size
    · subst h; simp
    · rw [if_neg (fun e => h e.symm), if_neg h, if_neg h]
  show ({ w with heap := (w.heap.push x).setIfInBounds w.heap.size o } : World) = { w with heap := w.heap.push o }
  rw [hh]

/-! ### a map's block as a list of pairs, in the order in which they came -/
/-- how keys stand as values -/
structure KeyEnc {α : Type} [DecidableEq α] (d : TypeDesc) (enc : α → Value) : Prop where
  same : ∀ a b, Instr.sameNow d (enc a) (enc b) = some (decide (a = b))
  key : ∀ a, MapKept.IsKey d (enc a)
theorem strKeys : KeyEnc .string (fun x : Str => sv x) := ⟨fun a b => by
  show some ((⟨a.toArray⟩ : ByteArray) == ⟨b.toArray⟩) = _
  congr 1
  have h1 : ((⟨a.toArray⟩ : ByteArray) == ⟨b.toArray⟩) = (a.toArray == b.toArray) := rfl
  rw [h1, Bool.eq_iff_iff]
  simp, fun _ => trivial⟩
theorem intKeys (k : IntKind) : KeyEnc (.int k) (fun x : Int => Value.int k x) := ⟨fun a b => by
  show (if k = k then some (a == b) else none) = _
  rw [if_pos rfl]
  congr 1, fun _ => rfl⟩
variable {α : Type}
def mkFrom (enc : α → Value) : Nat → List (α × Value) → List MapEntry
  | _, [] => []
  | i, p :: l => ⟨enc p.1, p.2, i⟩ :: mkFrom enc (i + 1) l
theorem mkFrom_append (enc : α → Value) (p : α × Value) : ∀ (l : List (α × Value)) (i : Nat), mkFrom enc i (l ++ [p]) = mkFrom enc i l ++ [⟨enc p.1, p.2, i + l.length⟩]
  | [], i => rfl
  | q :: l, i => by
    rw [List.cons_append, mkFrom, mkFrom_append enc p l (i + 1), mkFrom, List.cons_append, List.length_cons, show i + 1 + l.length = i + (l.length + 1) by omega]
theorem mkFrom_length (enc : α → Value) : ∀ (l : List (α × Value)) (i : Nat), (mkFrom enc i l).length = l.length
  | [], _ => rfl
  | _ :: l, i => by rw [mkFrom, List.length_cons, mkFrom_length enc l, List.length_cons]
theorem mkFrom_get (enc : α → Value) : ∀ (l : List (α × Value)) (i j : Nat), (mkFrom enc i l)[j]? = (l[j]?).map fun p => ⟨enc p.1, p.2, i + j⟩
  | [], _, _ => rfl
  | p :: l, i, 0 => rfl
  | p :: l, i, j + 1 => by
    rw [mkFrom, List.getElem?_cons_succ, mkFrom_get enc l (i + 1) j, List.getElem?_cons_succ, show i + 1 + j = i + (j + 1) by omega]
def mkE (enc : α → Value) (l : List (α × Value)) : Array MapEntry := (mkFrom enc 0 l).toArray
/-- block r is a map that holds just these pairs -/
def MapL (enc : α → Value) (w : World) (r : Nat) (l : List (α × Value)) : Prop := w.heap[r]? = some (.map (mkE enc l) l.length)
theorem findNow_miss [DecidableEq α] {d : TypeDesc} {enc : α → Value} (hE : KeyEnc d enc) (x : α) : ∀ (l : List (α × Value)) (i j : Nat), (∀ p ∈ l, p.1 ≠ x) → Instr.findNow d (enc x) (mkFrom enc i l) j = some none
  | [], _, _, _ => rfl
  | p :: l, i, j, h => by
    rw [mkFrom, Instr.findNow]
    simp only [hE.same]
    rw [decide_eq_false (fun e => h p List.mem_cons_self e.symm)]
    exact findNow_miss hE x l (i + 1) (j + 1) (fun q hq => h q (List.mem_cons_of_mem _ hq))
theorem findNow_hit [DecidableEq α] {d : TypeDesc} {enc : α → Value} (hE : KeyEnc d enc) (x : α) (v : Value) : ∀ (l : List (α × Value)) (i j : Nat), (x, v) ∈ l → (∀ p ∈ l, p.1 = x → p.2 = v) → ∃ k, Instr.findNow d (enc x) (mkFrom enc i l) j = some (some (k, v))
  | [], _, _, h, _ => by simp at h
  | p :: l, i, j, h, hu => by
    rw [mkFrom, Instr.findNow]
    simp only [hE.same]
    by_cases e : x = p.1
    · rw [decide_eq_true e]
      exact ⟨j, by rw [hu p List.mem_cons_self e.symm]⟩
    · rw [decide_eq_false e]
      refine findNow_hit hE x v l (i + 1) (j + 1) ?_ (fun q hq => hu q (List.mem_cons_of_mem _ hq))
      rcases List.mem_cons.1 h with h | h
      · exact absurd (congrArg Prod.fst h) e
      · exact h

section
variable {T K E : TypeId} {d : TypeDesc} {enc : α → Value}
theorem run_put [DecidableEq α] (hE : KeyEnc d enc) (hT : Tryz.prog.underlying T = some (.map K E)) (hK : Tryz.prog.underlying K = some d) (w : World) (r : Nat) (l : List (α × Value)) (hb : MapL enc w r l) (x : α) (v : Value) (hn : ∀ p ∈ l, p.1 ≠ x) :
    (Instr.mapUpdate T (.map (some r)) (enc x) v).run Tryz.prog w = .ok () (setB w r (.map (mkE enc (l ++ [(x, v)])) (l ++ [(x, v)]).length)) := by
  have he : mkE enc (l ++ [(x, v)]) = (mkE enc l).push ⟨enc x, v, l.length⟩ := by
    unfold mkE
    rw [mkFrom_append]
    simp
  have hset := MapKept.run_setObj_map (P := Tryz.prog) (.map ((mkE enc l).push ⟨enc x, v, l.length⟩) (l.length + 1)) hb
  have hget := MapKept.run_getObj_map (P := Tryz.prog) hb
  have hchk := MapKept.run_checkKey (P := Tryz.prog) (w := w) (k := enc x) hK (hE.key x) false 9999
  have hfnd := MapKept.run_findKey (P := Tryz.prog) (w := w) (k := enc x) (l := (mkE enc l).toList) hK (findNow_miss hE x l 0 0 hn)
  unfold Instr.mapUpdate
  simp only [Sem.run_bind, run_underlying hT, Result.andThen, hget, hchk, hfnd, hset]
  rw [he, List.length_append]
  rfl
theorem run_put_new [DecidableEq α] (hE : KeyEnc d enc) (hT : Tryz.prog.underlying T = some (.map K E)) (hK : Tryz.prog.underlying K = some d) (w : World) (l : List (α × Value)) (x : α) (v : Value) (hn : ∀ p ∈ l, p.1 ≠ x) :
    (Instr.mapUpdate T (.map (some w.heap.size)) (enc x) v).run Tryz.prog (w.alloc (.map (mkE enc l) l.length)) = .ok () (w.alloc (.map (mkE enc (l ++ [(x, v)])) (l ++ [(x, v)]).length)) := by
  rw [run_put hE hT hK (w.alloc (.map (mkE enc l) l.length)) w.heap.size l (block_new w _) x v hn, setB_new]
theorem run_look_hit [DecidableEq α] (hE : KeyEnc d enc) (hT : Tryz.prog.underlying T = some (.map K E)) (hK : Tryz.prog.underlying K = some d) (w : World) (r : Nat) (l : List (α × Value)) (hb : MapL enc w r l) (x : α) (v : Value) (hm : (x, v) ∈ l) (hu : ∀ p ∈ l, p.1 = x → p.2 = v) (c : Bool) :
    (Instr.lookup T (.map (some r)) (enc x) c).run Tryz.prog w = .ok (if c then .tuple #[v, .bool true] else v) w := by
  obtain ⟨i, hi⟩ := findNow_hit hE x v l 0 0 hm hu
  have hget := MapKept.run_getObj_map (P := Tryz.prog) hb
  have hchk := MapKept.run_checkKey (P := Tryz.prog) (w := w) (k := enc x) hK (hE.key x) (mkE enc l).isEmpty 9999
  have hfnd := MapKept.run_findKey (P := Tryz.prog) (w := w) (k := enc x) (l := (mkE enc l).toList) hK hi
  unfold Instr.lookup
  simp only [Sem.run_bind, run_underlying hT, Result.andThen, hget, Sem.run_pure, hchk, hfnd]
theorem run_look_miss [DecidableEq α] (hE : KeyEnc d enc) (hT : Tryz.prog.underlying T = some (.map K E)) (hK : Tryz.prog.underlying K = some d) (w : World) (r : Nat) (l : List (α × Value)) (hb : MapL enc w r l) (x : α) (z : Value) (hz : (zeroValue E).run Tryz.prog w = .ok z w) (hm : ∀ p ∈ l, p.1 ≠ x) (c : Bool) :
    (Instr.lookup T (.map (some r)) (enc x) c).run Tryz.prog w = .ok (if c then .tuple #[z, .bool false] else z) w := by
  have hget := MapKept.run_getObj_map (P := Tryz.prog) hb
  have hchk := MapKept.run_checkKey (P := Tryz.prog) (w := w) (k := enc x) hK (hE.key x) (mkE enc l).isEmpty 9999
  have hfnd := MapKept.run_findKey (P := Tryz.prog) (w := w) (k := enc x) (l := (mkE enc l).toList) hK (findNow_miss hE x l 0 0 hm)
  unfold Instr.lookup
  simp only [Sem.run_bind, run_underlying hT, Result.andThen, hget, Sem.run_pure, hchk, hfnd, hz]

/-! ### ranging over such a map, while it stays as it is -/
theorem run_range (hT : Tryz.prog.underlying T = some (.map K E)) (w : World) (m : Nat) (l : List (α × Value)) (hb : MapL enc w m l) :
    (Instr.range T (.map (some m))).run Tryz.prog w = .ok (.pointer (some ⟨w.heap.size, 0, none⟩)) (w.alloc (.mapIter (some m) l.length #[] l.length)) := by
  have hget := MapKept.run_getObj_map (P := Tryz.prog) hb
  unfold Instr.range
  simp only [Sem.run_bind, run_underlying hT, Result.andThen, hget, Sem.run_pure]
  rfl
theorem mkE_mem (enc : α → Value) (l : List (α × Value)) (e : MapEntry) : e ∈ (mkE enc l).toList ↔ ∃ j p, l[j]? = some p ∧ e = ⟨enc p.1, p.2, j⟩ := by
  show e ∈ mkFrom enc 0 l ↔ _
  rw [List.mem_iff_getElem?]
  constructor
  · rintro ⟨j, hj⟩
    rw [mkFrom_get] at hj
    rcases hp : l[j]? with _ | p
    · rw [hp] at hj; cases hj
    · rw [hp] at hj
      simp only [Option.map_some, Option.some.injEq, Nat.zero_add] at hj
      exact ⟨j, p, hp, hj.symm⟩
  · rintro ⟨j, p, hp, rfl⟩
    exact ⟨j, by rw [mkFrom_get, hp]; simp⟩
theorem mkE_born (enc : α → Value) (l : List (α × Value)) : (mkE enc l).toList.map (·.born) = List.range l.length := by
  show (mkFrom enc 0 l).map (·.born) = _
  apply List.ext_getElem?
  intro j
  rw [List.getElem?_map, mkFrom_get]
  by_cases h : j < l.length
  · rw [List.getElem?_eq_getElem h]; simp [h]
  · rw [List.getElem?_eq_none (by omega)]; simp; omega
/-- what is left: the places that have not been seen -/
def leftNo (n : Nat) (seen : Array Nat) : List Nat := (List.range n).filter fun j => !seen.contains j
theorem leftNo_push {n j : Nat} {seen : Array Nat} (h : j ∈ leftNo n seen) : (leftNo n (seen.push j)).length < (leftNo n seen).length := by
  have hs : leftNo n (seen.push j) = (leftNo n seen).filter (fun k => !(k == j)) := by
    unfold leftNo
    rw [List.filter_filter]
    congr 1
    funext k
    rw [Array.contains_push, Bool.not_or, Bool.and_comm]
  rw [hs]
  exact List.length_filter_lt_length_iff_exists.2 ⟨j, h, by simp⟩
theorem run_next (w : World) (m it : Nat) (l : List (α × Value)) (seen : Array Nat) (T0 : TypeId) (hb : MapL enc w m l) (hi : w.heap[it]? = some (.mapIter (some m) l.length seen l.length)) :
    (leftNo l.length seen = [] ∧ (Instr.next (.pointer (some ⟨it, 0, none⟩)) false T0).run Tryz.prog w = .ok (.tuple #[.bool false]) w) ∨
    ∃ j p w1, l[j]? = some p ∧ j ∈ leftNo l.length seen ∧ (w1 = w ∨ w1 = w.drew) ∧ (Instr.next (.pointer (some ⟨it, 0, none⟩)) false T0).run Tryz.prog w = .ok (.tuple #[.bool true, enc p.1, p.2]) (setB w1 it (.mapIter (some m) l.length (seen.push j) l.length)) := by
  have hold : ∀ x ∈ (mkE enc l).toList, x.born < l.length := fun x hx => by
    obtain ⟨j, p, hp, rfl⟩ := (mkE_mem enc l x).1 hx
    exact (List.getElem?_eq_some_iff.1 hp).1
  rcases run_next_at (P := Tryz.prog) w T0 it m l.length l.length seen (mkE enc l) l.length hi hb hold (Nat.le_refl _) with ⟨h0, h1⟩ | ⟨e, he, w1, hw, h1⟩
  · left
    refine ⟨?_, h1⟩
    have h2 : leftOf (mkE enc l) seen = #[] := Array.eq_empty_of_size_eq_zero h0
    unfold leftNo
    rw [List.filter_eq_nil_iff]
    intro j hj
    have hjl : j < l.length := by simpa using hj
    unfold leftOf at h2
    rw [Array.filter_eq_empty_iff] at h2
    have := h2 ⟨enc l[j].1, l[j].2, j⟩ (by
      have := (mkE_mem enc l ⟨enc l[j].1, l[j].2, j⟩).2 ⟨j, l[j], List.getElem?_eq_getElem hjl, rfl⟩
      simpa using this)
    simpa using this
  · right
    have he2 : e ∈ (mkE enc l).toList ∧ (!seen.contains e.born) = true := by
      unfold leftOf at he
      have := Array.mem_filter.1 (Array.mem_toList_iff.1 he)
      exact ⟨Array.mem_toList_iff.2 this.1, this.2⟩
    obtain ⟨j, p, hp, rfl⟩ := (mkE_mem enc l e).1 he2.1
    refine ⟨j, p, w1, hp, ?_, hw, h1⟩
    unfold leftNo
    rw [List.mem_filter]
    exact ⟨by simpa using (List.getElem?_eq_some_iff.1 hp).1, he2.2⟩
theorem run_entry (w : World) (m it : Nat) (l : List (α × Value)) (seen : Array Nat) (j : Nat) (p : α × Value) (hb : MapL enc w m l) (hi : w.heap[it]? = some (.mapIter (some m) l.length (seen.push j) l.length)) (hj : l[j]? = some p) :
    (Instr.entry (.pointer (some ⟨it, 0, none⟩))).run Tryz.prog w = .ok (.tuple #[enc p.1, p.2]) w :=
  run_entry_at (P := Tryz.prog) w it m l.length seen (mkE enc l) l.length ⟨enc p.1, p.2, j⟩ hi hb ((mkE_mem enc l _).2 ⟨j, p, hj, rfl⟩) (by rw [mkE_born]; exact List.nodup_range)
end
end Go.Proofs.YtifliekahdgobaaGreatDoor
