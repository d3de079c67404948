/-
  THE REFERENCE's WALKS, 5: bytes. Helpers of the claims.
  THE REFERENCE's WALKS, 6: marks. Helpers of the claims.
-/
import Derived.Test.YtifliekahdgobaaGreatDoorJThWToR4
import Derived.Test.YtifliekahdgobaaGreatDoorJW2ToW4
import Derived.Test.YtifliekahdgobaaGreatDoorJW5ToW6
set_option linter.unusedSimpArgs false
set_option linter.unusedVariables false
namespace Go.Proofs.YtifliekahdgobaaGreatDoor
open Go.RowKit Sp

/-- bytes as a row that a slice owns -/
def BsAt (w : World) (base : Nat) (v : Value) (l : Str) : Prop := w.ownsRow base 5 1 v l.length (Lib.byteCells l)
theorem wpList_app_byte {ops : Array Oper} {rest : List Oper} {o : Oper} {a : Act} {Q : Exit → Act → World → Prop} {w : World} (hgd : o.guard = none) (s x : Operand)
    (ho : o.op = .call { callee := .builtin .append, args := #[s, x], argTypes := #[47, 47] }) (ht : o.type = 47) {b base c : Nat} {v : Value} {l : Str} (d : UInt8) (hs : a.eval s = v) (hx : a.eval x = .slice (some ⟨b, 0, none⟩) 1 c)
    (hown : BsAt w base v l) (hb : w.heap[b]? = some (.cells #[.int .u8 (d.toNat : Int)] 5 (0, 0))) (hn : l.length + 1 ≤ 1000000) (hbase : base ≤ w.heap.size)
    (h : ∀ v' w', BsAt w' base v' (l ++ [d]) → w.grownBy w' v.ownBlock → wpList Tryz.prog ops Q rest (a.put o.dst v') w') : wpList Tryz.prog ops Q (o :: rest) a w := by
  obtain ⟨i, hi, hz0, hz1, hz2⟩ := info_parts Tryz.info5
  obtain ⟨v', w', hr, h2, h3, -⟩ := run_append_own (P := Tryz.prog) w base 47 47 5 i (.int .u8 0) 1 1 Tryz.underlying47 hi hz0 hz1 hz2 rfl (by omega) v l.length _ hown ⟨b, 0, none⟩ 1 c [.int .u8 (d.toNat : Int)] rfl (World.news_of_block hb) (by intro u hu; simp at hu; subst hu; rfl) (by unfold maxLen; omega) (by omega) hbase
  refine wpList_plain hgd fun K hK => wp_append_run s x 47 ho ht (by rw [hs, hx]; exact hr) (hK _ _ (h v' w' ?_ h3))
  unfold BsAt
  rw [List.length_append, Lib.byteCells_append]
  exact h2
theorem BsAt.far {w w' : World} {base : Nat} {v : Value} {l : Str} (h : BsAt w base v l) (hk : Keep (fun _ => False) w w') : BsAt w' base v l := ownsRow_keep h hk (fun _ _ _ _ e => e)
theorem BsAt.slice {w : World} {base : Nat} {v : Value} {l : Str} (h : BsAt w base v l) : ∃ a c, v = .slice a l.length c := by
  obtain ⟨a, c, h1, _⟩ := ownsRow_len h
  exact ⟨a, c, h1⟩
theorem conv_nil (w : World) : (convert 47 9 (.slice none 0 0)).run Tryz.prog w = .ok (.string ⟨#[]⟩) w := by kernel_rfl
/-- a row of bytes as a string -/
theorem conv_row (base : Nat) (v : Value) (l : Str) (w : World) (h : BsAt w base v l) : (convert 47 9 v).run Tryz.prog w = .ok (.string ⟨l.toArray⟩) w := by
  rcases h.2 with ⟨rfl, h2⟩ | ⟨g, cap, cur, rfl, hb, hg, hnc, rest⟩
  · have : l = [] := List.length_eq_zero_iff.1 h2
    subst this
    exact conv_nil w
  · rw [← strOfNums_bytes]
    refine run_convert_bytes_arg w 47 5 Tryz.underlying47 Tryz.underlying5 g 0 l.length cap _ (by simp) ?_ 9 Tryz.underlying9
    intro i hi
    have := h.cells (g := g) rfl i (.int .u8 ((l.getD i 0).toNat : Int)) (by simp [Lib.byteCells, hi, List.getD])
    rw [Lib.add_plain] at this
    rw [this]
    simp [hi, List.getD]
theorem byte16 (a b : Nat) (ha : a < 16) (hb : b < 16) : (16 * (a : Int) + (b : Int)) % 256 = ((UInt8.ofNat (16 * a + b)).toNat : Int) := by
  have := (by decide +kernel : ∀ a b : Fin 16, (16 * (a.val : Int) + (b.val : Int)) % 256 = ((UInt8.ofNat (16 * a.val + b.val)).toNat : Int))
  exact this ⟨a, ha⟩ ⟨b, hb⟩
/-- what the reference's bytes come to at a word -/
def GotHex (o : Option Str) (lb rb : Nat) (ws : List Str) (bad : Bool) (w : World) (e : Ending) (w' : World) : Prop :=
  Keep (fun b => b = lb) w w' ∧ match o with
    | some a => e = .returned (sv a) ∧ RLineAt w' lb rb ws bad
    | none => e = .returned (sv []) ∧ RLineAt w' lb rb ws true
set_option maxRecDepth 100000 in
theorem rbytes_nil (lb rb : Nat) (bad : Bool) (w : World) (h : RLineAt w lb rb [] bad) :
    Calls Tryz.prog 97 #[.pointer (some ⟨lb, 0, none⟩)] w fun e w' => e = .returned (sv []) ∧ Keep (fun b => b = lb) w w' ∧ RLineAt w' lb rb [] true := by
  go_enter Tryz.func97, Tryz.ntmps97
  go_wp2_with fail
  refine (rword_none lb rb bad w h).mono ?_
  rintro e w1 ⟨rfl, hk1, hl1⟩
  have hbad := hl1.cellBad
  have hfr := hl1.free 1
  have HM := Lib.hid (hl1.mark true)
  have HKM := Lib.hid (show Keep (fun b => b = lb) w (w1.setCell ⟨lb, 1, none⟩ (.bool true)) from hk1.setCell _ _ (.inr rfl))
  clear hl1 h hk1
  unfold sv
  go_wp2_with fail
  go_ret
  exact ⟨rfl, HKM.out, HM.out⟩
set_option maxRecDepth 100000 in
theorem rbytes_dash (lb rb : Nat) (ws : List Str) (bad : Bool) (w : World) (h : RLineAt w lb rb ([45] :: ws) bad) :
    Calls Tryz.prog 97 #[.pointer (some ⟨lb, 0, none⟩)] w fun e w' => e = .returned (sv []) ∧ Keep (fun b => b = lb) w w' ∧ RLineAt w' lb rb ws bad := by
  go_enter Tryz.func97, Tryz.ntmps97
  go_wp2_with fail
  refine (rword_some lb rb [45] ws bad w h).mono ?_
  rintro e w1 ⟨rfl, hk1, hl1⟩
  have HL1 := Lib.hid hl1
  clear hl1 h
  unfold sv
  go_wp2_with fail
  go_ret
  exact ⟨rfl, hk1, HL1.out⟩
set_option maxRecDepth 100000 in
theorem rbytes_bad (lb rb : Nat) (x : Str) (ws : List Str) (bad : Bool) (w : World) (h : RLineAt w lb rb (x :: ws) bad) (hd : (x == [45]) = false)
    (hq : (x.length : Int) < 2 ∨ (2 ≤ (x.length : Int) ∧ ((x.length : Int) % 2 == 0) = false) ∨ (2 ≤ (x.length : Int) ∧ (x.length : Int) % 2 = 0 ∧ (80 : Int) < x.length)) :
    Calls Tryz.prog 97 #[.pointer (some ⟨lb, 0, none⟩)] w fun e w' => e = .returned (sv []) ∧ Keep (fun b => b = lb) w w' ∧ RLineAt w' lb rb ws true := by
  have hx := h.ok.head.2
  have H := rword_some lb rb x ws bad w h
  clear h
  rcases hq with hq | ⟨hq, hq2⟩ | ⟨hq, hq2, hq3⟩
  · have g1 : decide ((x.length : Int) < 2) = true := decide_eq_true hq
    go_enter Tryz.func97, Tryz.ntmps97
    go_wp2_with fail
    refine H.mono ?_
    rintro e w1 ⟨rfl, hk1, hl1⟩
    have hbad := hl1.cellBad
    have hfr := hl1.free 1
    have HM := Lib.hid (hl1.mark true)
    have HKM := Lib.hid (show Keep (fun b => b = lb) w (w1.setCell ⟨lb, 1, none⟩ (.bool true)) from hk1.setCell _ _ (.inr rfl))
    clear hl1 H hk1
    unfold sv
    go_wp2_with fail
    go_ret
    exact ⟨rfl, HKM.out, HM.out⟩
  · have g1 : decide ((x.length : Int) < 2) = false := decide_eq_false (by omega)
    have g2 : ((x.length : Int) % 2 != 0) = true := by rw [bne, hq2]; rfl
    go_enter Tryz.func97, Tryz.ntmps97
    go_wp2_with fail
    refine H.mono ?_
    rintro e w1 ⟨rfl, hk1, hl1⟩
    have hbad := hl1.cellBad
    have hfr := hl1.free 1
    have HM := Lib.hid (hl1.mark true)
    have HKM := Lib.hid (show Keep (fun b => b = lb) w (w1.setCell ⟨lb, 1, none⟩ (.bool true)) from hk1.setCell _ _ (.inr rfl))
    clear hl1 H hk1
    unfold sv
    go_wp2_with fail
    go_ret
    exact ⟨rfl, HKM.out, HM.out⟩
  · have g1 : decide ((x.length : Int) < 2) = false := decide_eq_false (by omega)
    go_enter Tryz.func97, Tryz.ntmps97
    go_wp2_with fail
    refine H.mono ?_
    rintro e w1 ⟨rfl, hk1, hl1⟩
    have hbad := hl1.cellBad
    have hfr := hl1.free 1
    have HM := Lib.hid (hl1.mark true)
    have HKM := Lib.hid (show Keep (fun b => b = lb) w (w1.setCell ⟨lb, 1, none⟩ (.bool true)) from hk1.setCell _ _ (.inr rfl))
    clear hl1 H hk1
    unfold sv
    go_wp2_with fail
    go_ret
    exact ⟨rfl, HKM.out, HM.out⟩
set_option maxRecDepth 100000 in
set_option maxHeartbeats 600000 in
theorem rbytes_even (lb rb : Nat) (x : Str) (ws : List Str) (bad : Bool) (w : World) (h : RLineAt w lb rb (x :: ws) bad) (hd : (x == [45]) = false) (hev : (x.length : Int) % 2 = 0) (h2 : 2 ≤ (x.length : Int)) (hl : (x.length : Int) ≤ 80) :
    Calls Tryz.prog 97 #[.pointer (some ⟨lb, 0, none⟩)] w (GotHex (pairs x) lb rb ws bad w) := by
  have H := rword_some lb rb x ws bad w h
  clear h
  go_enter Tryz.func97, Tryz.ntmps97
  go_wp2_with fail
  refine H.mono ?_
  rintro e w1 ⟨rfl, hk1, hl1⟩
  have hlb := hl1.lt
  have HL1 := Lib.hid hl1
  have HK1 := Lib.hid hk1
  clear hl1 H hk1
  unfold sv
  go_wp2_with fail
  go_loopw [4, 5, 6, 7] (fun v4 v5 v6 v7 wr => ∃ (j : Nat) (acc : Str), Half x j acc ∧ j % 2 = 0 ∧ v5 = .int .i64 j ∧ BsAt wr w1.heap.size v4 acc ∧ Keep (fun _ => False) w1 wr) (fun _ v5 _ _ _ => x.length - (intOf v5).toNat)
  case atStart => exact ⟨0, [], Half.zero x, rfl, rfl, World.ownsRow_nil _ _ _ _, Keep.refl _ _⟩
  case round =>
    obtain ⟨j, acc, hh, hj2, rfl, hown, hkr⟩ := hrel
    obtain ⟨a4, c4, rfl⟩ := hown.slice
    have HH := Lib.hid hh
    have hle := hh.le
    have hlacc : acc.length ≤ 1000 := by have := hh.len; omega
    clear hh
    by_cases hlt : j + 1 < x.length
    · obtain ⟨c0, hc0⟩ : ∃ c, x[j] = c := ⟨_, rfl⟩
      obtain ⟨c1, hc1⟩ : ∃ c, x[j + 1] = c := ⟨_, rfl⟩
      have hb0 : (⟨x.toArray⟩ : ByteArray)[j]'(by show j < x.toArray.size; simp; omega) = c0 := hc0
      have hb1 : (⟨x.toArray⟩ : ByteArray)[j + 1]'(by show j + 1 < x.toArray.size; simp; omega) = c1 := hc1
      have HC0 := Lib.hid hc0
      have HC1 := Lib.hid hc1
      clear hc0 hc1
      have hx0 : (j : Int) < (x.length : Int) := by omega
      have hx1 : (j : Int) + 1 < (x.length : Int) := by omega
      have hlr := HL1.out.keep hkr (fun e => e) (fun e => e)
      have hbad : ∀ q, (wr.drewN q).cell? ⟨lb, 1, none⟩ = some (.bool bad) := fun q => hlr.cellBad
      have hfr : ∀ q, (wr.drewN q).frozen? ⟨lb, 1, none⟩ = false := fun q => hlr.free 1
      have HBAD := Lib.hid hbad
      have HFR := Lib.hid hfr
      have badfin : ∀ q, pairs x = none → GotHex (pairs x) lb rb ws bad w (.returned (.string ⟨#[]⟩)) ((wr.drewN q).setCell ⟨lb, 1, none⟩ (.bool true)) := by
        intro q hp
        have hkk : Keep (fun b => b = lb) w (wr.drewN q) := (HK1.out.trans hkr (fun _ _ e => e.elim)).drewN q
        refine ⟨hkk.setCell _ _ (.inr rfl), ?_⟩
        rw [hp]
        exact ⟨rfl, (hlr.keep ((Keep.refl (fun _ => False) wr).drewN q) (fun e => e) (fun e => e)).mark true⟩
      have BF := Lib.hid badfin
      have HKR := Lib.hid hkr
      have HO := Lib.hid hown
      clear badfin hlr hkr hown hbad hfr
      rcases h0 : hexd c0 with _ | a
      · have e0 := hexi_none h0
        have hp := HH.out.bad1 hlt (HC0.out ▸ h0)
        have HP := Lib.hid hp
        clear h0 hp
        obtain ⟨y, e1⟩ : ∃ y, hexi c1 = y := ⟨_, rfl⟩
        go_wp2_with fail
        go_quiet ((go_at_call 132; exact Calls.quiet_of_same (digit_any _ _)))
        have hbad := HBAD.out nq
        have hfr := HFR.out nq
        go_wp2_with fail
        go_ret
        exact BF.out _ HP.out
      · rcases h1 : hexd c1 with _ | b
        · have e0 := (hexi_some h0).1
          have e1 := hexi_none h1
          have na : decide ((a : Int) < 0) = false := decide_eq_false (by omega)
          have hp := HH.out.bad2 hlt (HC0.out ▸ h0) (HC1.out ▸ h1)
          have HP := Lib.hid hp
          clear h0 h1 hp
          go_wp2_with fail
          go_quiet ((go_at_call 132; exact Calls.quiet_of_same (digit_any _ _)))
          have hbad := HBAD.out nq
          have hfr := HFR.out nq
          go_wp2_with fail
          go_ret
          exact BF.out _ HP.out
        · have e0 := (hexi_some h0).1
          have e1 := (hexi_some h1).1
          have na : decide ((a : Int) < 0) = false := decide_eq_false (by omega)
          have nb : decide ((b : Int) < 0) = false := decide_eq_false (by omega)
          have ha := (hexi_some h0).2
          have hb := (hexi_some h1).2
          have hst := HH.out.step hlt (HC0.out ▸ h0) (HC1.out ▸ h1)
          obtain ⟨d, hdd⟩ : ∃ d : UInt8, UInt8.ofNat (16 * a + b) = d := ⟨_, rfl⟩
          have hbits : 16 * (a : Int) + (b : Int) = (d.toNat : Int) := by rw [← hdd, ← byte16 a b ha hb]; omega
          have hdb : (d.toNat : Int) < 256 := by have := d.toNat_lt; omega
          rw [hdd] at hst
          have HST := Lib.hid hst
          clear h0 h1 hst hdd
          go_wp2_with fail
          go_quiet ((go_at_call 132; exact Calls.quiet_of_same (digit_any _ _)))
          go_wp2_with (at_builtin; refine wpList_app_byte rfl (.tmp 53) (.tmp 59) rfl rfl d rfl rfl (BsAt.far HO.out (((Keep.refl _ _).drewN _).alloc _)) (block_new _ _) (by omega) (Keep.size (M := fun _ => False) ((HKR.out.drewN _).alloc _)) ?_)
          intro v' w' ho hg
          go_wp2_with fail
          go_roundw
          case rel => exact ⟨j + 2, acc ++ [d], HST.out, by omega, by go_num, ho, keep_grown ((HKR.out.drewN _).alloc _) hg (fun g hg2 => (HO.out.lt g hg2).1)⟩
          case measure => simp [intOf]; omega
    · have hxj : x.length ≤ j := by omega
      have hge : ¬ (j : Int) < (x.length : Int) := by omega
      have hconv := conv_row w1.heap.size _ acc wr hown
      have hall := HH.out.all hxj
      have HALL := Lib.hid hall
      have HO := Lib.hid hown
      have HKR := Lib.hid hkr
      clear hown hkr hall
      go_wp2_with fail
      go_ret
      refine ⟨HK1.out.trans HKR.out (fun _ _ e => e.elim), ?_⟩
      rw [HALL.out]
      exact ⟨rfl, HL1.out.keep HKR.out (fun e => e) (fun e => e)⟩
theorem rbytes_word (lb rb : Nat) (x : Str) (ws : List Str) (bad : Bool) (w : World) (h : RLineAt w lb rb (x :: ws) bad) :
    Calls Tryz.prog 97 #[.pointer (some ⟨lb, 0, none⟩)] w (GotHex (bytesOf x) lb rb ws bad w) := by
  have no : ∀ {e w'}, bytesOf x = none → (e = .returned (sv []) ∧ Keep (fun b => b = lb) w w' ∧ RLineAt w' lb rb ws true) → GotHex (bytesOf x) lb rb ws bad w e w' := fun h1 h2 => by
    refine ⟨h2.2.1, ?_⟩
    rw [h1]; exact ⟨h2.1, h2.2.2⟩
  have hne := h.ok.head.1
  have hl0 : 0 < x.length := List.length_pos_iff.2 hne
  by_cases hd : x = [45]
  · subst hd
    refine (rbytes_dash lb rb ws bad w h).mono fun e w' ⟨h1, h2, h3⟩ => ⟨h2, ?_⟩
    exact ⟨h1, h3⟩
  · have hd' : (x == [45]) = false := by rw [beq_eq_false_iff_ne]; exact hd
    have hb : bytesOf x = if x.length % 2 = 0 ∧ x.length ≤ 80 then pairs x else none := by unfold bytesOf; rw [if_neg hd]
    by_cases hev : x.length % 2 = 0
    · by_cases hl : x.length ≤ 80
      · rw [hb, if_pos ⟨hev, hl⟩]
        exact rbytes_even lb rb x ws bad w h hd' (by omega) (by omega) (by omega)
      · exact (rbytes_bad lb rb x ws bad w h hd' (.inr (.inr ⟨by omega, by omega, by omega⟩))).mono fun e w' h1 => no (by rw [hb, if_neg (fun e => hl e.2)]) h1
    · by_cases h1 : x.length < 2
      · exact (rbytes_bad lb rb x ws bad w h hd' (.inl (by omega))).mono fun e w' h1 => no (by rw [hb, if_neg (fun e => hev e.1)]) h1
      · exact (rbytes_bad lb rb x ws bad w h hd' (.inr (.inl ⟨by omega, by rw [beq_eq_false_iff_ne]; omega⟩))).mono fun e w' h1 => no (by rw [hb, if_neg (fun e => hev e.1)]) h1
/-- a reader of one word of the reference, from what it comes to at a word and at none -/
theorem gotR_take {α : Type} {enc : α → Value} {P : α → Prop} {f : Str → Option α} {lb rb : Nat} {w : World} {bad : Bool} {ws : List Str} {e : Ending} {w' : World} {x : Str}
    (hk : Keep (fun b => b = lb) w w') (h : match f x with
      | some a => e = .returned (enc a) ∧ RLineAt w' lb rb ws bad ∧ P a
      | none => ∃ a, e = .returned (enc a) ∧ RLineAt w' lb rb ws true ∧ P a) : GotR enc P lb rb w bad (x :: ws) (take1 f (x :: ws)) e w' := by
  have hp : take1 f (x :: ws) = (f x).bind fun a => some (a, ws) := rfl
  refine ⟨hk, ?_⟩
  rw [hp]
  rcases hf : f x with _ | a
  · rw [hf] at h
    obtain ⟨a, rfl, hl, ha⟩ := h
    exact ⟨a, ws, true, rfl, hl, ha, by simp, .inr ⟨.inr rfl, rfl⟩⟩
  · rw [hf] at h
    obtain ⟨rfl, hl, ha⟩ := h
    refine ⟨a, ws, bad, rfl, hl, ha, by simp, ?_⟩
    cases bad
    · exact .inl ⟨rfl, rfl, rfl⟩
    · exact .inr ⟨.inl rfl, rfl⟩
theorem rbytes_any (lb rb : Nat) (ws : List Str) (bad : Bool) (w : World) (h : RLineAt w lb rb ws bad) :
    Calls Tryz.prog 97 #[.pointer (some ⟨lb, 0, none⟩)] w (GotR (fun x : Str => sv x) (fun _ => True) lb rb w bad ws (pbytes ws)) := by
  cases ws with
  | nil =>
    refine (rbytes_nil lb rb bad w h).mono ?_
    rintro e w' ⟨rfl, hk, hl⟩
    exact ⟨hk, [], [], true, rfl, hl, trivial, Nat.le_refl _, .inr ⟨.inr rfl, rfl⟩⟩
  | cons x ws =>
    refine (rbytes_word lb rb x ws bad w h).mono ?_
    rintro e w' ⟨hk, hg⟩
    refine gotR_take hk ?_
    rcases hb : bytesOf x with _ | a
    · rw [hb] at hg
      exact ⟨[], hg.1, hg.2, trivial⟩
    · rw [hb] at hg
      exact ⟨hg.1, hg.2, trivial⟩
/-- the reference's word -/
theorem rword_any (lb rb : Nat) (ws : List Str) (bad : Bool) (w : World) (h : RLineAt w lb rb ws bad) :
    Calls Tryz.prog 96 #[.pointer (some ⟨lb, 0, none⟩)] w (GotR (fun x : Str => sv x) (fun _ => True) lb rb w bad ws (pword ws)) := by
  cases ws with
  | nil =>
    refine (rword_none lb rb bad w h).mono ?_
    rintro e w' ⟨rfl, hk, hl⟩
    exact ⟨hk, [], [], true, rfl, hl, trivial, Nat.le_refl _, .inr ⟨.inr rfl, rfl⟩⟩
  | cons x ws =>
    refine (rword_some lb rb x ws bad w h).mono ?_
    rintro e w' ⟨rfl, hk, hl⟩
    exact gotR_take (f := some) hk ⟨rfl, hl, trivial⟩
end Go.Proofs.YtifliekahdgobaaGreatDoor
namespace Go.Proofs.YtifliekahdgobaaGreatDoor
open Go.RowKit Sp

theorem info154 : (Tryz.prog.info? 154).map (·.size) = some 4 := by kernel_rfl
@[go_sem ↓] theorem execOp_store154 (ρ : Operand → Value) (x y : Operand) (d : Option Tmp) (t : TypeId) (p : String) (af : Array Edge) (g : Option (Nat × Bool)) :
    execOp ρ { dst := d, op := Op.store 154 x y, type := t, pos := p, after := af, guard := g } = stT 154 (ρ x) (ρ y) := rfl
@[go_sem ↓] theorem execOp_load154 (ρ : Operand → Value) (x : Operand) (d : Option Tmp) (t : TypeId) (p : String) (af : Array Edge) (g : Option (Nat × Bool)) :
    execOp ρ { dst := d, op := Op.load 154 x, type := t, pos := p, after := af, guard := g } = ldT 154 (ρ x) := rfl
theorem run_st154 (w : World) (b o : Nat) (cells : Array Value) (ht : w.there b o 4) (hs : cells.size = 4) (h1 : cells.all (·.oneCell') = true) :
    (stT 154 (.pointer (some ⟨b, o, none⟩)) (.agg cells)).run Tryz.prog w = .ok .skip (w.setCells b o cells.toList) := run_stT info154 w b o cells ht hs h1
theorem run_ld154 (w : World) (b o : Nat) (cs : Array Value) (hs : cs.size = 4) (hc : w.rangeAt b o cs.toList) :
    (ldT 154 (.pointer (some ⟨b, o, none⟩))).run Tryz.prog w = .ok (.value (.agg cs)) w := run_ldT Tryz.underlying154 rfl info154 w b o cs hs hc
/-- four flags -/
def flags (m : List Bool) : Array Value := #[.bool (at' m 0), .bool (at' m 1), .bool (at' m 2), .bool (at' m 3)]
theorem flags_one (m : List Bool) : (flags m).all (·.oneCell') = true := by simp [flags, one_bool]
theorem flags_set (m : List Bool) (n : Nat) (h : m.length + n < 4) : (flags m).setIfInBounds (m.length + n) (.bool true) = flags (m ++ (List.replicate n false ++ [true])) := by
  have h4 : m.length ≤ 3 := by omega
  rcases m with _ | ⟨a, _ | ⟨b, _ | ⟨c, _ | ⟨d, m⟩⟩⟩⟩ <;> simp only [List.length_cons, List.length_nil] at h h4 <;> try omega
  all_goals
    rcases (by omega : n = 0 ∨ n = 1 ∨ n = 2 ∨ n = 3) with rfl | rfl | rfl | rfl <;> first | rfl | (exfalso; omega)
theorem flags_pad (m : List Bool) (k : Nat) : flags (m ++ List.replicate k false) = flags m := by
  have h : ∀ i, at' (m ++ List.replicate k false) i = at' m i := by
    intro i
    unfold at'
    rw [List.getD_eq_getElem?_getD, List.getD_eq_getElem?_getD]
    by_cases hi : i < m.length
    · rw [List.getElem?_append_left hi]
    · rw [List.getElem?_append_right (by omega), List.getElem?_eq_none (by omega : m.length ≤ i)]
      by_cases hk : i - m.length < k
      · rw [List.getElem?_replicate, if_pos hk]; rfl
      · rw [List.getElem?_replicate, if_neg hk]
  unfold flags
  rw [h, h, h, h]
/-- where a letter stands, if it does not stand before i -/
theorem idx_at : ∀ (l : Str) (c : UInt8) (i : Nat), (∀ j d, j < i → l[j]? = some d → d ≠ c) → l[i]? = some c → Lib.indexByte l c = i
  | [], c, i, _, h => by simp at h
  | a :: l, c, 0, _, h => by
    simp only [List.getElem?_cons_zero, Option.some.injEq] at h
    subst h
    simp [Lib.indexByte]
  | a :: l, c, i + 1, hn, h => by
    have h1 : a ≠ c := hn 0 a (by omega) rfl
    have ih := idx_at l c i (fun j d hj hd => hn (j + 1) d (by omega) (by simpa using hd)) (by simpa using h)
    unfold Lib.indexByte
    rw [if_neg (by simpa using h1), ih]
    rw [if_neg (by simp)]
    omega
theorem idx_none : ∀ (l : Str) (c : UInt8), (∀ (j : Nat) (d : UInt8), l[j]? = some d → d ≠ c) → Lib.indexByte l c = -1
  | [], c, _ => rfl
  | a :: l, c, hn => by
    have h1 : a ≠ c := hn 0 a rfl
    have ih := idx_none l c (fun j d hd => hn (j + 1) d (by simpa using hd))
    unfold Lib.indexByte
    rw [if_neg (by simpa using h1), ih]
    rfl
/-- no letter c from t on, before t + i -/
def NoL (ls : Str) (t i : Nat) (c : UInt8) : Prop := ∀ j d, j < i → (ls.drop t)[j]? = some d → d ≠ c
/-- what the reference's marks come to at a word -/
def GotFlags (o : Option (List Bool)) (lb rb : Nat) (ws : List Str) (bad : Bool) (w : World) (e : Ending) (w' : World) : Prop :=
  Keep (fun b => b = lb) w w' ∧ match o with
    | some m => e = .returned (.agg (flags m)) ∧ RLineAt w' lb rb ws bad
    | none => ∃ m, e = .returned (.agg (flags m)) ∧ RLineAt w' lb rb ws true
/-- the way out: the flags go into the result's variable -/
theorem marks_out {w V : World} {N5 : Nat} {m : List Bool} (h4 : V.heap[w.heap.size]? = some (.cells (flags []) 154 (0, 0))) (h5 : V.heap[N5]? = some (.cells (flags m) 154 (0, 0))) :
    (ldT 154 (.pointer (some ⟨N5, 0, none⟩))).run Tryz.prog V = .ok (.value (.agg (flags m))) V ∧
    (stT 154 (.pointer (some ⟨w.heap.size, 0, none⟩)) (.agg (flags m))).run Tryz.prog V = .ok .skip (V.setCells w.heap.size 0 (flags m).toList) ∧
    (V.setCells w.heap.size 0 (flags m).toList).heap[w.heap.size]? = some (.cells (flags m) 154 (0, 0)) := by
  refine ⟨run_ld154 V N5 0 (flags m) rfl (range_of_block h5), run_st154 V w.heap.size 0 (flags m) (there_of_block h4 (by decide)) rfl (flags_one m), ?_⟩
  have := block_setCells_all h4 (flags m).toList rfl
  rwa [Array.toArray_toList] at this
set_option maxRecDepth 100000 in
theorem rmarks_dash (lb rb : Nat) (ls : Str) (ws : List Str) (bad : Bool) (w : World) (h : RLineAt w lb rb ([45] :: ws) bad) (hr : rb < w.heap.size) :
    Calls Tryz.prog 98 #[.pointer (some ⟨lb, 0, none⟩), .string ⟨ls.toArray⟩] w fun e w' => e = .returned (.agg (flags [])) ∧ Keep (fun b => b = lb) w w' ∧ RLineAt w' lb rb ws bad := by
  obtain ⟨W, hW⟩ : ∃ W : World, W = (w.alloc (.cells (flags []) 154)).alloc (.cells (flags []) 154) := ⟨_, rfl⟩
  have hkW : Keep (fun _ => False) w W := by rw [hW]; exact ((Keep.refl _ w).alloc _).alloc _
  have h4 : W.heap[w.heap.size]? = some (.cells (flags []) 154 (0, 0)) := by rw [hW]; exact block_alloc (block_new _ _) _
  have h5 : W.heap[w.heap.size + 1]? = some (.cells (flags []) 154 (0, 0)) := by
    rw [hW]
    have := block_new (w.alloc (.cells (flags []) 154)) (.cells (flags []) 154)
    rwa [alloc_size] at this
  have hl := h.keep hkW (fun e => e) (fun e => e)
  have hlt := h.lt
  have HW := Lib.hid (show W = (w.alloc (.cells #[.bool false, .bool false, .bool false, .bool false] 154)).alloc (.cells #[.bool false, .bool false, .bool false, .bool false] 154) from hW)
  have H4 := Lib.hid h4
  have H5 := Lib.hid h5
  have HL := Lib.hid hl
  clear hW h4 h5 hl h
  go_enter Tryz.func98, Tryz.ntmps98
  go_wp2_with fail
  rw [← HW.out]
  refine (rword_some lb rb [45] ws bad W HL.out).mono ?_
  rintro e w1 ⟨rfl, hk1, hl1⟩
  obtain ⟨hld, hst, hb⟩ := marks_out (hk1.at' H4.out (show ¬ w.heap.size = lb by omega)) (hk1.at' H5.out (show ¬ w.heap.size + 1 = lb by omega))
  generalize hcs : flags [] = cs at hld hst hb
  have HB := Lib.hid hb
  have HCS := Lib.hid hcs
  have HL1 := Lib.hid hl1
  clear hl1 hb hcs
  unfold sv
  go_wp2_with fail
  (try simp only [Exit.inBlock, Exit.then])
  refine bodyPost_ret (v := .agg cs) ?_ rfl ?_
  · exact results_block (n := 4) rfl Tryz.underlying154 rfl info154 _ _ _ cs 154 (0, 0) rfl (by rw [← HCS.out]; rfl) HB.out
  exact ⟨by rw [HCS.out], ((hkW.mono (fun _ _ e => e.elim)).trans' hk1).setCells _ _ _ (.inl (Nat.le_refl _)), HL1.out.keep ((Keep.refl (fun b => b = w.heap.size) w1).setCells _ _ _ (.inr rfl)) (by omega) (by omega)⟩

theorem flags_get (m : List Bool) (p : Nat) (hp : p < 4) (hm : m.length ≤ p) : (flags m)[p]? = some (.bool false) := by
  have h : at' m p = false := by unfold at'; rw [List.getD_eq_getElem?_getD, List.getElem?_eq_none hm]; rfl
  rcases (by omega : p = 0 ∨ p = 1 ∨ p = 2 ∨ p = 3) with rfl | rfl | rfl | rfl <;> (unfold flags; rw [h]; rfl)
/-- the two blocks of marks -/
structure FlagMem (w V : World) (lb rb : Nat) (ws : List Str) (bad : Bool) (fl : List Bool) : Prop where
  r4 : V.heap[w.heap.size]? = some (.cells (flags []) 154 (0, 0))
  r5 : V.heap[w.heap.size + 1]? = some (.cells (flags fl) 154 (0, 0))
  line : RLineAt V lb rb ws bad
  keep : Keep (fun b => b = lb) w V
theorem FlagMem.far {w V V' : World} {lb rb : Nat} {ws : List Str} {bad : Bool} {fl : List Bool} (h : FlagMem w V lb rb ws bad fl) (hk : Keep (fun _ => False) V V') : FlagMem w V' lb rb ws bad fl :=
  ⟨hk.at' h.r4 (fun e => e), hk.at' h.r5 (fun e => e), h.line.keep hk (fun e => e) (fun e => e), h.keep.trans hk (fun _ _ e => e.elim)⟩
theorem FlagMem.set {w V : World} {lb rb : Nat} {ws : List Str} {bad : Bool} {fl : List Bool} (h : FlagMem w V lb rb ws bad fl) (hlb : lb < w.heap.size) (hrb : rb < w.heap.size) (n : Nat) (hn : fl.length + n < 4) :
    FlagMem w (V.setCell ⟨w.heap.size + 1, fl.length + n, none⟩ (.bool true)) lb rb ws bad (fl ++ (List.replicate n false ++ [true])) := by
  have hk : Keep (fun b => b = w.heap.size + 1) V (V.setCell ⟨w.heap.size + 1, fl.length + n, none⟩ (.bool true)) := (Keep.refl (fun b => b = w.heap.size + 1) V).setCell _ _ (.inr rfl)
  refine ⟨hk.at' h.r4 (by omega), ?_, h.line.keep hk (by omega) (by omega), h.keep.trans hk (fun b hb e => by omega)⟩
  rw [block_setCell h.r5, flags_set fl n hn]
theorem FlagMem.mark {w V : World} {lb rb : Nat} {ws : List Str} {bad : Bool} {fl : List Bool} (h : FlagMem w V lb rb ws bad fl) (hlb : lb < w.heap.size) : FlagMem w (V.setCell ⟨lb, 1, none⟩ (.bool true)) lb rb ws true fl := by
  have hk : Keep (fun b => b = lb) V (V.setCell ⟨lb, 1, none⟩ (.bool true)) := (Keep.refl (fun b => b = lb) V).setCell _ _ (.inr rfl)
  exact ⟨hk.at' h.r4 (by omega), hk.at' h.r5 (by omega), h.line.mark true, h.keep.trans' hk⟩
/-- the way out, whole -/
theorem FlagMem.out {w V : World} {lb rb : Nat} {ws : List Str} {bad : Bool} {fl : List Bool} (h : FlagMem w V lb rb ws bad fl) (hlb : lb < w.heap.size) (hrb : rb < w.heap.size) :
    ∃ cs, cs = flags fl ∧ (ldT 154 (.pointer (some ⟨w.heap.size + 1, 0, none⟩))).run Tryz.prog V = .ok (.value (.agg cs)) V ∧
    (stT 154 (.pointer (some ⟨w.heap.size, 0, none⟩)) (.agg cs)).run Tryz.prog V = .ok .skip (V.setCells w.heap.size 0 cs.toList) ∧
    (V.setCells w.heap.size 0 cs.toList).heap[w.heap.size]? = some (.cells cs 154 (0, 0)) ∧ Keep (fun b => b = lb) w (V.setCells w.heap.size 0 cs.toList) ∧ RLineAt (V.setCells w.heap.size 0 cs.toList) lb rb ws bad := by
  obtain ⟨h1, h2, h3⟩ := marks_out h.r4 h.r5
  exact ⟨_, rfl, h1, h2, h3, h.keep.setCells _ _ _ (.inl (Nat.le_refl _)), h.line.keep ((Keep.refl (fun b => b = w.heap.size) V).setCells _ _ _ (.inr rfl)) (by omega) (by omega)⟩
theorem Marked.noRoom {ls x : Str} {k t : Nat} {fl : List Bool} {c : UInt8} (h : Marked ls x k t fl) (hk : k < x.length) (hc : x[k] = c) (hn : NoL ls t (ls.length - t) c) : marksGo ls x = none := by
  refine h.miss hk (idx_none _ _ (fun j d hd => ?_))
  obtain ⟨hj, _⟩ := List.getElem?_eq_some_iff.1 hd
  simp only [List.length_drop] at hj
  rw [hc]
  exact hn j d (by omega) hd
theorem Marked.hit {ls x : Str} {k t i : Nat} {fl : List Bool} {c : UInt8} (h : Marked ls x k t fl) (hk : k < x.length) (hc : x[k] = c) (hn : NoL ls t i c) (hi : ls[t + i]? = some c) : Marked ls x (k + 1) (t + (i + 1)) (fl ++ (List.replicate i false ++ [true])) := by
  refine (h.step hk (n := i) (idx_at _ _ _ (fun j d hj hd => ?_) ?_)).2
  · rw [hc]; exact hn j d hj hd
  · rw [List.getElem?_drop, hc]; exact hi
set_option maxRecDepth 100000 in
set_option maxHeartbeats 3200000 in
theorem rmarks_word (lb rb : Nat) (ls x : Str) (ws : List Str) (bad : Bool) (w : World) (h : RLineAt w lb rb (x :: ws) bad) (hr : rb < w.heap.size) (hd : (x == [45]) = false) (hls : ls.length ≤ 4) :
    Calls Tryz.prog 98 #[.pointer (some ⟨lb, 0, none⟩), .string ⟨ls.toArray⟩] w (GotFlags (marksGo ls x) lb rb ws bad w) := by
  have hxn := h.ok.head.1
  have hxl := h.ok.head.2
  have hne : (x == []) = false := by rw [beq_eq_false_iff_ne]; exact hxn
  obtain ⟨W, hW⟩ : ∃ W : World, W = (w.alloc (.cells (flags []) 154)).alloc (.cells (flags []) 154) := ⟨_, rfl⟩
  have hkW : Keep (fun _ => False) w W := by rw [hW]; exact ((Keep.refl _ w).alloc _).alloc _
  have h4 : W.heap[w.heap.size]? = some (.cells (flags []) 154 (0, 0)) := by rw [hW]; exact block_alloc (block_new _ _) _
  have h5 : W.heap[w.heap.size + 1]? = some (.cells (flags []) 154 (0, 0)) := by
    rw [hW]
    have := block_new (w.alloc (.cells (flags []) 154)) (.cells (flags []) 154)
    rwa [alloc_size] at this
  have hl := h.keep hkW (fun e => e) (fun e => e)
  have hlt := h.lt
  have HW := Lib.hid (show W = (w.alloc (.cells #[.bool false, .bool false, .bool false, .bool false] 154)).alloc (.cells #[.bool false, .bool false, .bool false, .bool false] 154) from hW)
  have H4 := Lib.hid h4
  have H5 := Lib.hid h5
  have HL := Lib.hid hl
  have HKW := Lib.hid hkW
  obtain ⟨res, hres⟩ : ∃ res, res = marksGo ls x := ⟨_, rfl⟩
  rw [← hres]
  have HRES := Lib.hid hres
  clear hW h4 h5 hl h hkW hxn hres
  go_enter Tryz.func98, Tryz.ntmps98
  go_wp2_with fail
  rw [← HW.out]
  refine (rword_some lb rb x ws bad W HL.out).mono ?_
  rintro e w1 ⟨rfl, hk1, hl1⟩
  have hmem : FlagMem w w1 lb rb ws bad [] := ⟨hk1.at' H4.out (by omega), hk1.at' H5.out (by omega), hl1, (HKW.out.mono (fun _ _ e => e.elim)).trans' hk1⟩
  have HMEM := Lib.hid hmem
  clear hl1 hk1 hmem
  unfold sv
  go_wp2_with fail
  go_loopw [7, 8] (fun v7 v8 wr => ∃ (k t : Nat) (fl : List Bool), Marked ls x k t fl ∧ v7 = .int .i64 t ∧ v8 = .int .i64 k ∧ FlagMem w wr lb rb ws bad fl) (fun _ v8 _ => x.length - (intOf v8).toNat)
  case atStart => exact ⟨0, 0, [], Marked.zero _ _, rfl, rfl, HMEM.out⟩
  case round =>
    obtain ⟨k, t, fl, hm, rfl, rfl, hmem⟩ := hrel
    have hkl := hm.le
    have htl := hm.le'
    have hfl := Lib.hid hm.len
    have HM := Lib.hid hm
    have HF := Lib.hid hmem
    clear hm hmem
    by_cases hlt2 : k < x.length
    · obtain ⟨c, hc⟩ : ∃ c, x[k] = c := ⟨_, rfl⟩
      have hbx : (⟨x.toArray⟩ : ByteArray)[k]'(by show k < x.toArray.size; simp; omega) = c := hc
      have HC := Lib.hid hc
      clear hc
      have hlt3 : (k : Int) < (x.length : Int) := by omega
      go_wp2_with fail
      obtain ⟨wo, rfl⟩ : ∃ wo : World, wo = wr := ⟨_, rfl⟩
      go_loopw [7] (fun v7 wr => ∃ i : Nat, t + i ≤ ls.length ∧ v7 = .int .i64 ((t + i : Nat) : Int) ∧ NoL ls t i c ∧ Keep (fun _ => False) wo wr) (fun v7 _ => ls.length - (intOf v7).toNat)
      case atStart => exact ⟨0, htl, rfl, fun j d hj => by omega, Keep.refl _ _⟩
      case round =>
        obtain ⟨i, hti, rfl, hno, hkr⟩ := hrel
        have HNO := Lib.hid hno
        have HKR := Lib.hid hkr
        clear hno hkr
        generalize hp : t + i = p at *
        have HP := Lib.hid hp
        clear hp
        by_cases hlt4 : p < ls.length
        · obtain ⟨l, hl⟩ : ∃ l, ls[p] = l := ⟨_, rfl⟩
          have hbl : (⟨ls.toArray⟩ : ByteArray)[p]'(by show p < ls.toArray.size; simp; omega) = l := hl
          have hgl : ls[p]? = some l := by rw [← hl]; exact List.getElem?_eq_getElem hlt4
          have HGL := Lib.hid hgl
          clear hl hgl
          have hlt5 : (p : Int) < (ls.length : Int) := by omega
          by_cases hlc : l = c
          · subst hlc
            have hit := HM.out.hit hlt2 HC.out HNO.out (by rw [HP.out]; exact HGL.out)
            have hfp : fl.length + i = p := by rw [hfl.out]; exact HP.out
            have hset : ∀ q, FlagMem w ((wr.drewN q).setCell ⟨w.heap.size + 1, p, none⟩ (.bool true)) lb rb ws bad (fl ++ (List.replicate i false ++ [true])) := fun q => by
              have := ((HF.out.far HKR.out).far ((Keep.refl (fun _ => False) wr).drewN q)).set hlt hr i (by omega)
              rwa [hfp] at this
            have hcell : ∀ q, (wr.drewN q).cell? ⟨w.heap.size + 1, p, none⟩ = some (.bool false) := fun q => by
              have := ((HF.out.far HKR.out).far ((Keep.refl (fun _ => False) wr).drewN q)).r5
              rw [cell_of_block this]
              exact flags_get fl p (by omega) (by omega)
            have hfree : ∀ q, (wr.drewN q).frozen? ⟨w.heap.size + 1, p, none⟩ = false := fun q => free_of_block ((HF.out.far HKR.out).far ((Keep.refl (fun _ => False) wr).drewN q)).r5 p
            have HIT := Lib.hid hit
            have HSET := Lib.hid hset
            have HCELL := Lib.hid hcell
            have HFREE := Lib.hid hfree
            have hp4 : (p : Int) < 4 := by omega
            have HFP := Lib.hid hfp
            clear hit hset hcell hfree hfp
            go_wp2_with fail
            go_quiet (fail)
            have hcell := HCELL.out nq
            have hfree := HFREE.out nq
            go_wp2_with fail
            refine ⟨⟨k + 1, p + 1, _, ?_, by go_num, by go_num, HSET.out nq⟩, by simp [intOf]; omega⟩
            have := HIT.out
            rwa [show t + (i + 1) = p + 1 by have := HP.out; omega] at this
          · have hneq : ((l.toNat : Int) != (c.toNat : Int)) = true := by
              rw [bne_iff_ne]
              intro e
              exact hlc (UInt8.toNat_inj.1 (by omega))
            have HLC := Lib.hid hlc
            clear hlc
            go_wp2_with fail
            go_quiet (fail)
            go_wp2_with fail
            refine ⟨⟨i + 1, by have := HP.out; omega, ?_, ?_, HKR.out.drewN nq⟩, by simp [intOf]; omega⟩
            · have := HP.out
              congr 1
              omega
            · intro j d hj hd
              by_cases hji : j = i
              · subst hji
                rw [List.getElem?_drop, HP.out, HGL.out] at hd
                simp only [Option.some.injEq] at hd
                rw [← hd]; exact HLC.out
              · exact HNO.out j d (by omega) hd
        · have hge : ¬ (p : Int) < (ls.length : Int) := by omega
          have hge2 : decide ((p : Int) < (ls.length : Int)) = false := decide_eq_false hge
          have hle5 : (ls.length : Int) ≤ (p : Int) := by omega
          have hnone := HM.out.noRoom hlt2 HC.out (by have := HP.out; rw [show ls.length - t = i by omega]; exact HNO.out)
          have hmark : ∀ q, FlagMem w ((wr.drewN q).setCell ⟨lb, 1, none⟩ (.bool true)) lb rb ws true fl := fun q => ((HF.out.far HKR.out).far ((Keep.refl (fun _ => False) wr).drewN q)).mark hlt
          have hcell : ∀ q, (wr.drewN q).cell? ⟨lb, 1, none⟩ = some (.bool bad) := fun q => ((HF.out.far HKR.out).far ((Keep.refl (fun _ => False) wr).drewN q)).line.cellBad
          have hfree : ∀ q, (wr.drewN q).frozen? ⟨lb, 1, none⟩ = false := fun q => ((HF.out.far HKR.out).far ((Keep.refl (fun _ => False) wr).drewN q)).line.free 1
          have HNONE := Lib.hid hnone
          have HMARK := Lib.hid hmark
          have HCELL := Lib.hid hcell
          have HFREE := Lib.hid hfree
          clear hnone hmark hcell hfree hge
          go_wp2_with fail
          go_quiet (fail)
          have hcell := HCELL.out nq
          have hfree := HFREE.out nq
          obtain ⟨cs, hcs, hld, hst, hbf, hkf, hlf⟩ := (HMARK.out nq).out hlt hr
          have HCS := Lib.hid hcs
          have HB := Lib.hid hbf
          have HKF := Lib.hid hkf
          have HLF := Lib.hid hlf
          clear hcs hbf hkf hlf
          go_wp2_with fail
          (try simp only [Exit.inBlock, Exit.then])
          refine bodyPost_ret (v := .agg cs) ?_ rfl ?_
          · exact results_block (n := 4) rfl Tryz.underlying154 rfl info154 _ _ _ cs 154 (0, 0) rfl (by rw [HCS.out]; rfl) HB.out
          refine ⟨HKF.out, ?_⟩
          rw [HRES.out, HNONE.out]
          exact ⟨fl, by rw [HCS.out], HLF.out⟩
    · have hge : ¬ (k : Int) < (x.length : Int) := by omega
      have hall := HM.out.all (Nat.le_of_not_lt hlt2)
      obtain ⟨cs, hcs, hld, hst, hbf, hkf, hlf⟩ := HF.out.out hlt hr
      have HALL := Lib.hid hall
      have HCS := Lib.hid hcs
      have HB := Lib.hid hbf
      have HKF := Lib.hid hkf
      have HLF := Lib.hid hlf
      clear hcs hbf hkf hlf hall
      go_wp2_with fail
      (try simp only [Exit.inBlock, Exit.then])
      refine bodyPost_ret (v := .agg cs) ?_ rfl ?_
      · exact results_block (n := 4) rfl Tryz.underlying154 rfl info154 _ _ _ cs 154 (0, 0) rfl (by rw [HCS.out]; rfl) HB.out
      refine ⟨HKF.out, ?_⟩
      rw [HRES.out, HALL.out]
      exact ⟨by rw [HCS.out, flags_pad], HLF.out⟩
set_option maxRecDepth 100000 in
theorem rmarks_nil (lb rb : Nat) (ls : Str) (bad : Bool) (w : World) (h : RLineAt w lb rb [] bad) (hr : rb < w.heap.size) :
    Calls Tryz.prog 98 #[.pointer (some ⟨lb, 0, none⟩), .string ⟨ls.toArray⟩] w fun e w' => e = .returned (.agg (flags [])) ∧ Keep (fun b => b = lb) w w' ∧ RLineAt w' lb rb [] true := by
  obtain ⟨W, hW⟩ : ∃ W : World, W = (w.alloc (.cells (flags []) 154)).alloc (.cells (flags []) 154) := ⟨_, rfl⟩
  have hkW : Keep (fun _ => False) w W := by rw [hW]; exact ((Keep.refl _ w).alloc _).alloc _
  have h4 : W.heap[w.heap.size]? = some (.cells (flags []) 154 (0, 0)) := by rw [hW]; exact block_alloc (block_new _ _) _
  have h5 : W.heap[w.heap.size + 1]? = some (.cells (flags []) 154 (0, 0)) := by
    rw [hW]
    have := block_new (w.alloc (.cells (flags []) 154)) (.cells (flags []) 154)
    rwa [alloc_size] at this
  have hl := h.keep hkW (fun e => e) (fun e => e)
  have hlt := h.lt
  have HW := Lib.hid (show W = (w.alloc (.cells #[.bool false, .bool false, .bool false, .bool false] 154)).alloc (.cells #[.bool false, .bool false, .bool false, .bool false] 154) from hW)
  have H4 := Lib.hid h4
  have H5 := Lib.hid h5
  have HL := Lib.hid hl
  have HKW := Lib.hid hkW
  clear hW h4 h5 hl h hkW
  go_enter Tryz.func98, Tryz.ntmps98
  go_wp2_with fail
  rw [← HW.out]
  refine (rword_none lb rb bad W HL.out).mono ?_
  rintro e w1 ⟨rfl, hk1, hl1⟩
  have hmem : FlagMem w w1 lb rb [] true [] := ⟨hk1.at' H4.out (by omega), hk1.at' H5.out (by omega), hl1, (HKW.out.mono (fun _ _ e => e.elim)).trans' hk1⟩
  have hcell := hl1.cellBad
  have hfree := hl1.free 1
  obtain ⟨cs, hcs, hld, hst, hbf, hkf, hlf⟩ := (hmem.mark hlt).out hlt hr
  have HCS := Lib.hid hcs
  have HB := Lib.hid hbf
  have HKF := Lib.hid hkf
  have HLF := Lib.hid hlf
  clear hcs hbf hkf hlf hl1 hk1 hmem
  unfold sv
  go_wp2_with fail
  refine wp_loop_rounds 1 ?_
  rw [rounds_succ]
  go_wp2_with fail
  (try simp only [Exit.inBlock, Exit.then])
  refine bodyPost_ret (v := .agg cs) ?_ rfl ?_
  · exact results_block (n := 4) rfl Tryz.underlying154 rfl info154 _ _ _ cs 154 (0, 0) rfl (by rw [HCS.out]; rfl) HB.out
  exact ⟨by rw [HCS.out], HKF.out, HLF.out⟩
theorem rmarks_any (lb rb : Nat) (ls : Str) (ws : List Str) (bad : Bool) (w : World) (h : RLineAt w lb rb ws bad) (hr : rb < w.heap.size) (hls : ls.length ≤ 4) :
    Calls Tryz.prog 98 #[.pointer (some ⟨lb, 0, none⟩), .string ⟨ls.toArray⟩] w (GotR (fun m => .agg (flags m)) (fun _ => True) lb rb w bad ws (pmarks ls ws)) := by
  cases ws with
  | nil =>
    refine (rmarks_nil lb rb ls bad w h hr).mono ?_
    rintro e w' ⟨rfl, hk, hl⟩
    exact ⟨hk, [], [], true, rfl, hl, trivial, Nat.le_refl _, .inr ⟨.inr rfl, rfl⟩⟩
  | cons x ws =>
    by_cases hd : x = [45]
    · subst hd
      refine (rmarks_dash lb rb ls ws bad w h hr).mono ?_
      rintro e w' ⟨rfl, hk, hl⟩
      refine gotR_take hk ?_
      have : marksOf ls [45] = some (ls.map fun _ => false) := by unfold marksOf; rw [if_pos rfl]
      rw [this]
      refine ⟨?_, hl, trivial⟩
      rw [List.map_const']
      have := flags_pad [] ls.length
      rw [List.nil_append] at this
      rw [this]
    · refine (rmarks_word lb rb ls x ws bad w h hr (by rw [beq_eq_false_iff_ne]; exact hd) hls).mono ?_
      rintro e w' ⟨hk, hg⟩
      refine gotR_take hk ?_
      have : marksOf ls x = marksGo ls x := by unfold marksOf; rw [if_neg hd]
      rw [this]
      rcases hm : marksGo ls x with _ | m
      · rw [hm] at hg
        obtain ⟨m, h1, h2⟩ := hg
        exact ⟨m, h1, h2, trivial⟩
      · rw [hm] at hg
        exact ⟨hg.1, hg.2, trivial⟩
end Go.Proofs.YtifliekahdgobaaGreatDoor
