/-
  THE WALKS, 1: must, word. Helpers of the claims.
  THE WALKS, 2: upTo, num, small. Helpers of the claims.
  THE WALKS, 3: small, bytes. Helpers of the claims.
  THE WALKS, 4: marks. Helpers of the claims.
-/
import Derived.Test.YtifliekahdgobaaGreatDoorKSpecToThT
set_option linter.unusedSimpArgs false
set_option linter.unusedVariables false
namespace Go.Proofs.YtifliekahdgobaaGreatDoor
open Go.RowKit Sp

theorem must_ok (n : Int) (w : World) : Calls Tryz.prog 54 #[.bool true, .int .i64 n] w fun e w' => e = .returned (.tuple #[]) ∧ w = w' := by
  go_enter Tryz.func54, Tryz.ntmps54
  go_wp2
  go_end0
  exact ⟨rfl, rfl⟩
theorem must_no (n : Int) (w : World) : Calls Tryz.prog 54 #[.bool false, .int .i64 n] w fun e w' => e = gaveUp n ∧ w = w' := by
  go_enter Tryz.func54, Tryz.ntmps54
  go_wp2
  exact ⟨rfl, rfl, rfl⟩
/-- 'must', whatever it is asked -/
def MustEnd (b : Bool) (n : Int) (w : World) (e : Ending) (w' : World) : Prop := w = w' ∧ ((b = true ∧ e = .returned (.tuple #[])) ∨ (b = false ∧ e = gaveUp n))
theorem must_any (b : Bool) (n : Int) (w : World) : Calls Tryz.prog 54 #[.bool b, .int .i64 n] w (MustEnd b n w) := by
  cases b
  · exact (must_no n w).mono fun e w' ⟨h1, h2⟩ => ⟨h2, .inr ⟨rfl, h1⟩⟩
  · exact (must_ok n w).mono fun e w' ⟨h1, h2⟩ => ⟨h2, .inl ⟨rfl, h1⟩⟩

theorem word_some (lb rb : Nat) (x : Str) (ws : List Str) (w : World) (h : LineAt w lb rb (x :: ws)) :
    Calls Tryz.prog 92 #[.pointer (some ⟨lb, 0, none⟩)] w fun e w' => e = .returned (sv x) ∧ Keep (fun b => b = lb) w w' ∧ LineAt w' lb rb ws := by
  obtain ⟨off, c, h1, h2, h3, h4, h5, h6⟩ := h
  simp only [List.length_cons] at h1 h2
  generalize hn : ws.length = n at h1 h2
  have HN := Lib.hid hn
  clear hn
  have H5 := Lib.hid h5
  have H6 := Lib.hid h6
  have hx : w.cell? ⟨rb, off, none⟩ = some (sv x) := h5 0 x rfl
  clear h5 h6
  have hl := cell_of_one h1
  have hf := free_of_one h1
  have fin : ∀ off' c', (n = 0 ∨ off' = off + 1) → n ≤ c' → c' ≤ 1099511627776 → Keep (fun b => b = lb) w (w.setCell ⟨lb, 0, none⟩ (.slice (some ⟨rb, off', none⟩) n c')) ∧ LineAt (w.setCell ⟨lb, 0, none⟩ (.slice (some ⟨rb, off', none⟩) n c')) lb rb ws := by
    intro off' c' ho hc hc'
    have hk : Keep (fun b => b = lb) w (w.setCell ⟨lb, 0, none⟩ (.slice (some ⟨rb, off', none⟩) n c')) := (Keep.refl _ w).setCell _ _ (.inr rfl)
    refine ⟨hk, off', c', ?_, by rw [HN.out]; exact hc, hc', h4, ?_, H6.out.tail⟩
    · rw [HN.out]; exact one_setCell h1
    · rcases ho with ho | ho
      · intro i y hy
        have : ws = [] := List.length_eq_zero_iff.1 (HN.out.trans ho)
        subst this
        simp at hy
      · subst ho
        exact H5.out.tail.keep hk (fun e => h4 e)
  have FIN := Lib.hid fin
  clear fin H5 H6 HN h1
  have h4' : ¬ rb = lb := h4
  go_enter Tryz.func92, Tryz.ntmps92
  go_wp2_with (go_at_call 54; refine (must_ok _ _).mono ?_; rintro e w' ⟨rfl, rfl⟩)
  · go_ret
    exact ⟨rfl, FIN.out _ _ (.inl (by omega)) (by omega) (by omega)⟩
  · go_ret
    exact ⟨rfl, FIN.out _ _ (.inr rfl) (by omega) (by omega)⟩
theorem word_none (lb rb : Nat) (w : World) (h : LineAt w lb rb []) :
    Calls Tryz.prog 92 #[.pointer (some ⟨lb, 0, none⟩)] w fun e w' => e = gaveUp 4 ∧ Keep (fun b => b = lb) w w' := by
  obtain ⟨off, c, h1, h2, h3, h4, h5, h6⟩ := h
  have hl := cell_of_one h1
  simp only [List.length_nil] at hl
  clear h5 h6 h1 h2 h3
  go_enter Tryz.func92, Tryz.ntmps92
  go_wp2_with (go_at_call 54; refine (must_no _ _).mono ?_; rintro e w' ⟨rfl, rfl⟩)
  exact ⟨rfl, rfl, Keep.refl _ _⟩
end Go.Proofs.YtifliekahdgobaaGreatDoor
namespace Go.Proofs.YtifliekahdgobaaGreatDoor
open Go.RowKit Sp

/-- what a reader comes to: the value, and the words that are left; or it gives up by ErrForm. Of the old blocks only the line turns. -/
def Got {α : Type} (enc : α → Value) (lb rb : Nat) (w : World) (o : Option (α × List Str)) (e : Ending) (w' : World) : Prop :=
  Keep (fun b => b = lb) w w' ∧ match o with
    | some (a, r) => e = .returned (enc a) ∧ LineAt w' lb rb r
    | none => e = gaveUp 4
def u64v (n : Int) : Value := .int .u64 n
def i64v (n : Int) : Value := .int .i64 n

theorem trim_any (x : Str) (w : World) (hx : x.length ≤ 4294967296) : Calls Tryz.prog 93 #[.string ⟨x.toArray⟩, .string ⟨#[48, 49, 50, 51, 52, 53, 54, 55, 56, 57]⟩] w fun e w' => e = .returned (.string ⟨(Lib.trimS x digs).toArray⟩) ∧ Keep (fun _ => False) w w' :=
  (Any.strings_Trim_laid Tryz.lays160 (by kernel_rfl) ⟨x.toArray⟩ ⟨#[48, 49, 50, 51, 52, 53, 54, 55, 56, 57]⟩ w (by show x.toArray.size ≤ _; simp; omega) (by decide) (ascii_of_all (by decide))).mono fun _ _ ⟨h1, h2⟩ => ⟨by simpa [digs] using h1, Keep.of_below h2 (Nat.le_refl _)⟩
theorem parse_any (x : Str) (w : World) (h : numWord x = true) : Calls Tryz.prog 94 #[.string ⟨x.toArray⟩, .int .i64 10, .int .i64 64] w fun e w' => e = .returned (.tuple #[.int .u64 (valFrom 0 x : Nat), .nilIface]) ∧ Keep (fun _ => False) w w' := by
  have hl := ((numWord_iff x).1 h).2.1
  refine (Tryz.strconv_ParseUint_10_at64_ok ⟨x.toArray⟩ (by show x.toArray.size ≤ _; simp; omega) (valFrom 0 x) (by simpa using parseUint_ok h) w).mono fun _ _ ⟨h1, h2⟩ => ⟨h1, ?_⟩
  rcases h2 with rfl | rfl
  · exact Keep.refl _ _
  · exact Keep.of_below (Lib.bytesWorld_below _ _ _) (Nat.le_refl _)

set_option maxHeartbeats 400000 in
theorem upTo_head (m : Int) (lb rb : Nat) (c : UInt8) (x : Str) (ws : List Str) (w : World) (h : LineAt w lb rb ((c :: x) :: ws)) (hl : (c :: x).length ≤ 18) (ht : Lib.trimS (c :: x) digs = []) (hc : ((c.toNat : Int) != 48) = true) (hv : (valFrom 0 (c :: x) : Int) ≤ m) :
    Calls Tryz.prog 53 #[.pointer (some ⟨lb, 0, none⟩), .int .u64 m] w fun e w' => e = .returned (u64v (valFrom 0 (c :: x))) ∧ Keep (fun b => b = lb) w w' ∧ LineAt w' lb rb ws := by
  have hd : (⟨#[48, 49, 50, 51, 52, 53, 54, 55, 56, 57, 97, 98, 99, 100, 101, 102]⟩ : ByteArray).extract 0 10 = ⟨#[48, 49, 50, 51, 52, 53, 54, 55, 56, 57]⟩ := by decide
  have hnw : numWord (c :: x) = true := (numWord_iff _).2 ⟨by simp, hl, (trim_nil _).1 ht, .inl (by intro e; simp at e; subst e; simp at hc)⟩
  have HP := fun w => parse_any (c :: x) w hnw
  generalize hval : (valFrom 0 (c :: x) : Int) = v at *
  have HV := Lib.hid hval
  clear hval hnw
  go_enter Tryz.func53, Tryz.ntmps53
  go_wp2_with fail
  refine (word_some lb rb (c :: x) ws w h).mono ?_
  rintro e w1 ⟨rfl, hk1, hl1⟩
  have HL1 := Lib.hid hl1
  clear hl1 h
  unfold sv
  have hl' : ((c :: x).length : Int) ≤ 18 := by omega
  go_wp2_with fail

  refine (trim_any (c :: x) w1 (by omega)).mono ?_
  rintro e w2 ⟨rfl, hk2⟩
  rw [ht]
  have hb : (⟨(c :: x).toArray⟩ : ByteArray)[0]'(by show 0 < (c :: x).toArray.size; simp) = c := rfl
  go_wp2_with fail
  refine (must_ok _ _).mono ?_
  rintro e w' ⟨rfl, rfl⟩
  go_wp2_with fail
  refine (HP w2).mono ?_
  rintro e w3 ⟨rfl, hk3⟩
  go_wp2_with fail
  refine (must_ok _ _).mono ?_
  rintro e w' ⟨rfl, rfl⟩
  go_wp2_with fail
  go_ret
  have hk := hk2.trans' hk3
  exact ⟨by rw [← HV.out]; rfl, hk1.trans hk (fun _ _ e => e.elim), HL1.out.keep hk (fun e => e) (fun e => e)⟩

set_option maxHeartbeats 400000 in
theorem upTo_zero (m : Int) (lb rb : Nat) (ws : List Str) (w : World) (h : LineAt w lb rb ([48] :: ws)) (hm : 0 ≤ m) :
    Calls Tryz.prog 53 #[.pointer (some ⟨lb, 0, none⟩), .int .u64 m] w fun e w' => e = .returned (u64v 0) ∧ Keep (fun b => b = lb) w w' ∧ LineAt w' lb rb ws := by
  have hd : (⟨#[48, 49, 50, 51, 52, 53, 54, 55, 56, 57, 97, 98, 99, 100, 101, 102]⟩ : ByteArray).extract 0 10 = ⟨#[48, 49, 50, 51, 52, 53, 54, 55, 56, 57]⟩ := by decide
  have ht : Lib.trimS [48] digs = [] := by decide
  have HP := fun w => parse_any [48] w (by decide)
  have hval : ((valFrom 0 [48] : Nat) : Int) = 0 := by decide
  rw [hval] at HP
  clear hval
  go_enter Tryz.func53, Tryz.ntmps53
  go_wp2_with fail
  refine (word_some lb rb [48] ws w h).mono ?_
  rintro e w1 ⟨rfl, hk1, hl1⟩
  have HL1 := Lib.hid hl1
  clear hl1 h
  unfold sv
  go_wp2_with fail
  refine (trim_any [48] w1 (by simp)).mono ?_
  rintro e w2 ⟨rfl, hk2⟩
  rw [ht]
  have hb : (⟨[48].toArray⟩ : ByteArray)[0]'(by show 0 < [48].toArray.size; simp) = 48 := rfl
  go_wp2_with fail
  refine (must_ok _ _).mono ?_
  rintro e w' ⟨rfl, rfl⟩
  go_wp2_with fail
  refine (HP w2).mono ?_
  rintro e w3 ⟨rfl, hk3⟩
  go_wp2_with fail
  refine (must_ok _ _).mono ?_
  rintro e w' ⟨rfl, rfl⟩
  go_wp2_with fail
  go_ret
  have hk := hk2.trans' hk3
  exact ⟨rfl, hk1.trans hk (fun _ _ e => e.elim), HL1.out.keep hk (fun e => e) (fun e => e)⟩

theorem upTo_none (m : Int) (lb rb : Nat) (w : World) (h : LineAt w lb rb []) :
    Calls Tryz.prog 53 #[.pointer (some ⟨lb, 0, none⟩), .int .u64 m] w fun e w' => e = gaveUp 4 ∧ Keep (fun b => b = lb) w w' := by
  go_enter Tryz.func53, Tryz.ntmps53
  go_wp2_with fail
  refine (word_none lb rb w h).mono ?_
  rintro e w1 ⟨rfl, hk1⟩
  exact ⟨rfl, rfl, hk1⟩
set_option maxHeartbeats 400000 in
theorem upTo_long (m : Int) (lb rb : Nat) (x : Str) (ws : List Str) (w : World) (h : LineAt w lb rb (x :: ws)) (hl : 18 < (x.length : Int)) :
    Calls Tryz.prog 53 #[.pointer (some ⟨lb, 0, none⟩), .int .u64 m] w fun e w' => e = gaveUp 4 ∧ Keep (fun b => b = lb) w w' := by
  have hl2 := h.ok.head.2
  go_enter Tryz.func53, Tryz.ntmps53
  go_wp2_with fail
  refine (word_some lb rb x ws w h).mono ?_
  rintro e w1 ⟨rfl, hk1, _⟩
  clear h
  unfold sv
  go_wp2_with fail
  refine (must_no _ _).mono ?_
  rintro e w' ⟨rfl, rfl⟩
  exact ⟨rfl, rfl, hk1⟩
set_option maxHeartbeats 400000 in
theorem upTo_odd (m : Int) (lb rb : Nat) (x : Str) (ws : List Str) (w : World) (h : LineAt w lb rb (x :: ws)) (hl : (x.length : Int) ≤ 18) (ht : Lib.trimS x digs ≠ []) :
    Calls Tryz.prog 53 #[.pointer (some ⟨lb, 0, none⟩), .int .u64 m] w fun e w' => e = gaveUp 4 ∧ Keep (fun b => b = lb) w w' := by
  obtain ⟨a, t, hat⟩ := List.exists_cons_of_ne_nil ht
  clear ht
  go_enter Tryz.func53, Tryz.ntmps53
  go_wp2_with fail
  refine (word_some lb rb x ws w h).mono ?_
  rintro e w1 ⟨rfl, hk1, _⟩
  clear h
  unfold sv
  go_wp2_with fail
  refine (trim_any x w1 (by omega)).mono ?_
  rintro e w2 ⟨rfl, hk2⟩
  rw [hat]
  clear hat
  go_wp2_with fail
  refine (must_no _ _).mono ?_
  rintro e w' ⟨rfl, rfl⟩
  exact ⟨rfl, rfl, hk1.trans hk2 (fun _ _ e => e.elim)⟩
set_option maxHeartbeats 400000 in
theorem upTo_lead (m : Int) (lb rb : Nat) (a : UInt8) (x : Str) (ws : List Str) (w : World) (h : LineAt w lb rb ((48 :: a :: x) :: ws)) (hl : ((48 :: a :: x).length : Int) ≤ 18) (ht : Lib.trimS (48 :: a :: x) digs = []) :
    Calls Tryz.prog 53 #[.pointer (some ⟨lb, 0, none⟩), .int .u64 m] w fun e w' => e = gaveUp 4 ∧ Keep (fun b => b = lb) w w' := by
  go_enter Tryz.func53, Tryz.ntmps53
  go_wp2_with fail
  refine (word_some lb rb (48 :: a :: x) ws w h).mono ?_
  rintro e w1 ⟨rfl, hk1, _⟩
  clear h
  unfold sv
  go_wp2_with fail
  refine (trim_any (48 :: a :: x) w1 (by omega)).mono ?_
  rintro e w2 ⟨rfl, hk2⟩
  rw [ht]
  clear ht
  have hb : (⟨(48 :: a :: x).toArray⟩ : ByteArray)[0]'(by show 0 < (48 :: a :: x).toArray.size; simp) = 48 := rfl
  go_wp2_with fail
  refine (must_no _ _).mono ?_
  rintro e w' ⟨rfl, rfl⟩
  exact ⟨rfl, rfl, hk1.trans hk2 (fun _ _ e => e.elim)⟩
set_option maxHeartbeats 400000 in
theorem upTo_great (m : Int) (lb rb : Nat) (c : UInt8) (x : Str) (ws : List Str) (w : World) (h : LineAt w lb rb ((c :: x) :: ws)) (hl : (c :: x).length ≤ 18) (ht : Lib.trimS (c :: x) digs = []) (hc : ((c.toNat : Int) != 48) = true) (hv : decide ((valFrom 0 (c :: x) : Int) ≤ m) = false) :
    Calls Tryz.prog 53 #[.pointer (some ⟨lb, 0, none⟩), .int .u64 m] w fun e w' => e = gaveUp 4 ∧ Keep (fun b => b = lb) w w' := by
  have hnw : numWord (c :: x) = true := (numWord_iff _).2 ⟨by simp, hl, (trim_nil _).1 ht, .inl (by intro e; simp at e; subst e; simp at hc)⟩
  have HP := fun w => parse_any (c :: x) w hnw
  generalize hval : (valFrom 0 (c :: x) : Int) = v at *
  clear hval hnw
  go_enter Tryz.func53, Tryz.ntmps53
  go_wp2_with fail
  refine (word_some lb rb (c :: x) ws w h).mono ?_
  rintro e w1 ⟨rfl, hk1, _⟩
  clear h
  unfold sv
  have hl' : ((c :: x).length : Int) ≤ 18 := by omega
  go_wp2_with fail
  refine (trim_any (c :: x) w1 (by omega)).mono ?_
  rintro e w2 ⟨rfl, hk2⟩
  rw [ht]
  have hb : (⟨(c :: x).toArray⟩ : ByteArray)[0]'(by show 0 < (c :: x).toArray.size; simp) = c := rfl
  go_wp2_with fail
  refine (must_ok _ _).mono ?_
  rintro e w' ⟨rfl, rfl⟩
  go_wp2_with fail
  refine (HP w2).mono ?_
  rintro e w3 ⟨rfl, hk3⟩
  go_wp2_with fail
  refine (must_no _ _).mono ?_
  rintro e w' ⟨rfl, rfl⟩
  exact ⟨rfl, rfl, hk1.trans (hk2.trans' hk3) (fun _ _ e => e.elim)⟩

theorem upTo_any (m : Int) (lb rb : Nat) (ws : List Str) (w : World) (h : LineAt w lb rb ws) (hm : 0 ≤ m) :
    Calls Tryz.prog 53 #[.pointer (some ⟨lb, 0, none⟩), .int .u64 m] w (Got u64v lb rb w (pnum m ws)) := by
  have no : ∀ {e w'}, pnum m ws = none → e = gaveUp 4 ∧ Keep (fun b => b = lb) w w' → Got u64v lb rb w (pnum m ws) e w' := fun h1 h2 => by
    rw [h1]; exact ⟨h2.2, h2.1⟩
  cases ws with
  | nil => exact (upTo_none m lb rb w h).mono fun e w' h1 => no rfl h1
  | cons x ws =>
    have hp : pnum m (x :: ws) = (numOf m x).bind fun a => some (a, ws) := rfl
    have hx := h.ok.head.1
    by_cases hl : x.length ≤ 18
    · by_cases ht : Lib.trimS x digs = []
      · obtain ⟨c, t, rfl⟩ := List.exists_cons_of_ne_nil hx
        have ha := (trim_nil _).1 ht
        by_cases hc : c = 48
        · subst hc
          cases t with
          | nil =>
            exact (upTo_zero m lb rb ws w h hm).mono fun e w' ⟨h1, h2, h3⟩ => by
              rw [hp, show numOf m [48] = some 0 by unfold numOf; rw [if_pos ⟨by decide, by show (0 : Int) ≤ m; exact hm⟩]; rfl]
              exact ⟨h2, h1, h3⟩
          | cons a t =>
            exact (upTo_lead m lb rb a t ws w h (by omega) ht).mono fun e w' h1 => no (by
              rw [hp, show numOf m (48 :: a :: t) = none by unfold numOf; rw [if_neg (fun e => by have := (numWord_iff _).1 e.1; simp at this)]]; rfl) h1
        · have hc' : ((c.toNat : Int) != 48) = true := by
            rw [bne_iff_ne]; intro e
            exact hc (by apply UInt8.toNat_inj.1; show c.toNat = 48; omega)
          have hnw : numWord (c :: t) = true := (numWord_iff _).2 ⟨by simp, hl, ha, .inl (by simpa using hc)⟩
          by_cases hv : (valFrom 0 (c :: t) : Int) ≤ m
          · exact (upTo_head m lb rb c t ws w h hl ht hc' hv).mono fun e w' ⟨h1, h2, h3⟩ => by
              rw [hp, show numOf m (c :: t) = some (valFrom 0 (c :: t) : Int) by unfold numOf; rw [if_pos ⟨hnw, hv⟩]]
              exact ⟨h2, h1, h3⟩
          · exact (upTo_great m lb rb c t ws w h hl ht hc' (decide_eq_false hv)).mono fun e w' h1 => no (by
              rw [hp, show numOf m (c :: t) = none by unfold numOf; rw [if_neg (fun e => hv e.2)]]; rfl) h1
      · exact (upTo_odd m lb rb x ws w h (by omega) ht).mono fun e w' h1 => no (by
          rw [hp, show numOf m x = none by unfold numOf; rw [if_neg (fun e => ht ((trim_nil _).2 ((numWord_iff _).1 e.1).2.2.1))]]; rfl) h1
    · exact (upTo_long m lb rb x ws w h (by omega)).mono fun e w' h1 => no (by
        rw [hp, show numOf m x = none by unfold numOf; rw [if_neg (fun e => hl ((numWord_iff _).1 e.1).2.1)]]; rfl) h1

theorem num_any (lb rb : Nat) (ws : List Str) (w : World) (h : LineAt w lb rb ws) :
    Calls Tryz.prog 102 #[.pointer (some ⟨lb, 0, none⟩)] w (Got u64v lb rb w (pnum most ws)) := by
  have HG := upTo_any 999999999999999999 lb rb ws w h (by decide)
  show Calls Tryz.prog 102 #[.pointer (some ⟨lb, 0, none⟩)] w (Got u64v lb rb w (pnum 999999999999999999 ws))
  clear h
  rcases hp : pnum 999999999999999999 ws with _ | ⟨a, r⟩
  · rw [hp] at HG
    clear hp
    go_enter Tryz.func102, Tryz.ntmps102
    go_wp2_with fail
    refine HG.mono ?_
    rintro e w1 ⟨hk, rfl⟩
    exact ⟨rfl, hk, rfl⟩
  · rw [hp] at HG
    clear hp
    go_enter Tryz.func102, Tryz.ntmps102
    go_wp2_with fail
    refine HG.mono ?_
    rintro e w1 ⟨hk, rfl, hl⟩
    have HL := Lib.hid hl
    clear hl
    go_wp2_with fail
    go_ret
    exact ⟨hk, rfl, HL.out⟩
end Go.Proofs.YtifliekahdgobaaGreatDoor
namespace Go.Proofs.YtifliekahdgobaaGreatDoor
open Go.RowKit Sp

theorem numOf_le {m : Int} {w : Str} {n : Int} (h : numOf m w = some n) : 0 ≤ n ∧ n ≤ m := by
  unfold numOf at h
  split at h
  · rename_i hc
    simp only [Option.some.injEq] at h
    omega
  · cases h
theorem pnum_le {m : Int} {ws r : List Str} {n : Int} (h : pnum m ws = some (n, r)) : 0 ≤ n ∧ n ≤ m := by
  cases ws with
  | nil => cases h
  | cons x ws =>
    have : (numOf m x).bind (fun a => some (a, ws)) = some (n, r) := h
    rcases hn : numOf m x with _ | a
    · rw [hn] at this; cases this
    · rw [hn] at this
      simp only [Option.bind_some, Option.some.injEq, Prod.mk.injEq] at this
      exact this.1 ▸ numOf_le hn
theorem small_any (lb rb : Nat) (ws : List Str) (w : World) (h : LineAt w lb rb ws) :
    Calls Tryz.prog 95 #[.pointer (some ⟨lb, 0, none⟩)] w (Got i64v lb rb w (pnum 9 ws)) := by
  have HG := upTo_any 9 lb rb ws w h (by decide)
  clear h
  rcases hp : pnum 9 ws with _ | ⟨a, r⟩
  · rw [hp] at HG
    clear hp
    go_enter Tryz.func95, Tryz.ntmps95
    go_wp2_with fail
    refine HG.mono ?_
    rintro e w1 ⟨hk, rfl⟩
    exact ⟨rfl, hk, rfl⟩
  · rw [hp] at HG
    obtain ⟨h0, h9⟩ := pnum_le hp
    clear hp
    go_enter Tryz.func95, Tryz.ntmps95
    go_wp2_with fail
    refine HG.mono ?_
    rintro e w1 ⟨hk, rfl, hl⟩
    have HL := Lib.hid hl
    clear hl
    unfold u64v
    go_wp2_with fail
    go_ret
    exact ⟨hk, rfl, HL.out⟩

def hexi (c : UInt8) : Int := match hexd c with | some x => x | none => -1
def hexs : Str := [48, 49, 50, 51, 52, 53, 54, 55, 56, 57, 97, 98, 99, 100, 101, 102]
theorem hexi_eq (c : UInt8) : Lib.indexByte hexs c = hexi c := by
  have := all_u8 (fun c => Lib.indexByte hexs c == hexi c) (by decide +kernel) c
  simpa using this
theorem hexi_any (c : UInt8) (w : World) : Calls Tryz.prog 134 #[.string ⟨#[48, 49, 50, 51, 52, 53, 54, 55, 56, 57, 97, 98, 99, 100, 101, 102]⟩, .int .u8 c.toNat] w fun e w' => e = .returned (.int .i64 (hexi c)) ∧ w' = w := by
  refine (Tryz.strings_IndexByte ⟨#[48, 49, 50, 51, 52, 53, 54, 55, 56, 57, 97, 98, 99, 100, 101, 102]⟩ c.toNat w).mono fun e w' ⟨h1, h2⟩ => ⟨?_, h2⟩
  rw [h1, ← hexi_eq]
  simp [hexs]
theorem Tryz.info5 : (Tryz.prog.info? 5).map (fun i => (i.zero, i.size, i.bytes)) = some (some (.int .u8 0), 1, 1) := by kernel_rfl

set_option maxHeartbeats 400000 in

/-- how far the bytes are read -/
structure Half (x : Str) (j : Nat) (acc : Str) : Prop where
  len : acc.length * 2 = j
  le : j ≤ x.length
  eq : pairs x = (pairs (x.drop j)).bind fun t => some (acc ++ t)
theorem Half.zero (x : Str) : Half x 0 [] := ⟨rfl, Nat.zero_le _, by simp⟩
theorem Half.all {x acc : Str} {j : Nat} (h : Half x j acc) (hj : x.length ≤ j) : pairs x = some acc := by
  rw [h.eq, List.drop_eq_nil_of_le hj]
  simp [pairs]
theorem drop_two {x : Str} {j : Nat} (h : j + 1 < x.length) : x.drop j = x[j] :: x[j + 1] :: x.drop (j + 2) := by
  rw [List.drop_eq_getElem_cons (by omega), List.drop_eq_getElem_cons (by omega)]
theorem Half.step {x acc : Str} {j a b : Nat} (h : Half x j acc) (hj : j + 1 < x.length) (ha : hexd x[j] = some a) (hb : hexd x[j + 1] = some b) : Half x (j + 2) (acc ++ [UInt8.ofNat (16 * a + b)]) := by
  refine ⟨by have := h.len; simp; omega, by omega, ?_⟩
  rw [h.eq, drop_two hj, pairs, ha, Option.bind_some, hb, Option.bind_some]
  rcases pairs (x.drop (j + 2)) with _ | t <;> simp
theorem Half.bad1 {x acc : Str} {j : Nat} (h : Half x j acc) (hj : j + 1 < x.length) (ha : hexd x[j] = none) : pairs x = none := by
  rw [h.eq, drop_two hj, pairs, ha]; rfl
theorem Half.bad2 {x acc : Str} {j a : Nat} (h : Half x j acc) (hj : j + 1 < x.length) (ha : hexd x[j] = some a) (hb : hexd x[j + 1] = none) : pairs x = none := by
  rw [h.eq, drop_two hj, pairs, ha, Option.bind_some, hb]; rfl
theorem hexi_some {c : UInt8} {a : Nat} (h : hexd c = some a) : hexi c = a ∧ a < 16 := by
  refine ⟨by unfold hexi; rw [h], ?_⟩
  unfold hexd at h
  split at h
  · simp only [Option.some.injEq] at h; omega
  · split at h
    · simp only [Option.some.injEq] at h; omega
    · cases h
theorem hexi_none {c : UInt8} (h : hexd c = none) : hexi c = -1 := by unfold hexi; rw [h]

theorem byte_of (a b : Nat) (ha : a < 16) (hb : b < 16) : bits BinOp.or IntKind.i64 ((a : Int) * 16) (b : Int) % 256 = ((UInt8.ofNat (16 * a + b)).toNat : Int) := by
  have := (by decide +kernel : ∀ a b : Fin 16, bits BinOp.or IntKind.i64 ((a.val : Int) * 16) (b.val : Int) % 256 = ((UInt8.ofNat (16 * a.val + b.val)).toNat : Int))
  exact this ⟨a, ha⟩ ⟨b, hb⟩

theorem strOfNums_bytes (l : Str) : strOfNums (l.map fun b => (b.toNat : Int)) = ⟨l.toArray⟩ := by
  unfold strOfNums
  rw [List.map_map]
  congr 2
  exact (List.map_congr_left (fun b _ => by simp)).trans (List.map_id l)
theorem conv_bytes (g n : Nat) (acc : Str) (w : World) (hown : w.ownsRow g 5 1 (.slice (some ⟨g, 0, none⟩) acc.length n) acc.length (Lib.byteCells acc)) :
    (convert 47 9 (.slice (some ⟨g, 0, none⟩) acc.length n)).run Tryz.prog w = .ok (.string ⟨acc.toArray⟩) w := by
  rw [← strOfNums_bytes]
  refine run_convert_bytes_arg w 47 5 Tryz.underlying47 Tryz.underlying5 g 0 acc.length n _ (by simp) ?_ 9 Tryz.underlying9
  intro i hi
  have := (hown.cellAt i (by omega))
  rw [Nat.zero_add, this]
  simp [Lib.byteCells, hi, List.getD]

set_option maxRecDepth 100000 in
set_option maxHeartbeats 1600000 in
theorem bytes_even (lb rb : Nat) (x : Str) (ws : List Str) (w : World) (h : LineAt w lb rb (x :: ws)) (hd : (x == [45]) = false) (hev : (x.length : Int) % 2 = 0) (hl : (x.length : Int) ≤ 80) :
    Calls Tryz.prog 103 #[.pointer (some ⟨lb, 0, none⟩)] w (Got sv lb rb w ((pairs x).bind fun t => some (t, ws))) := by
  obtain ⟨i5, hi, hz0, hz1, hz2⟩ := info_parts Tryz.info5
  have H := word_some lb rb x ws w h
  clear h
  obtain ⟨n, hn⟩ : ∃ n : Nat, n = x.length / 2 := ⟨_, rfl⟩
  have hq : (x.length : Int) / 2 = (n : Int) := by omega
  have HN := Lib.hid hn
  clear hn
  go_enter Tryz.func103, Tryz.ntmps103
  go_wp2_with fail
  refine H.mono ?_
  rintro e w1 ⟨rfl, hk1, hl1⟩
  have HL1 := Lib.hid hl1
  clear hl1 H
  unfold sv
  go_wp2_with fail
  refine (must_ok _ _).mono ?_
  rintro e w' ⟨rfl, rfl⟩
  have hn40 : n ≤ 40 := by omega
  go_wp2_with (at_make; refine wpList_make_own _ rfl _ _ 47 rfl w1.heap.size 5 i5 (.int .u8 0) 1 Tryz.underlying47 hi hz0 hz1 _ _ _ n rfl rfl (by omega) ?b2 ?b3 (Nat.le_refl _) ?_)
  case b2 => rw [hz2]; omega
  case b3 => unfold maxLen; omega
  intro w2 hown2 hgr2
  go_wp2_with fail
  have hk2 : Keep (fun _ => False) w1 w2 := Keep.of_grown hgr2 (fun k e => by cases e)
  clear hgr2
  go_loopw [4, 5] (fun v4 v5 wr => ∃ (j : Nat) (acc : Str), Half x j acc ∧ j % 2 = 0 ∧ v5 = .int .i64 j ∧ v4 = .slice (some ⟨w1.heap.size, 0, none⟩) acc.length n ∧ wr.ownsRow w1.heap.size 5 1 (.slice (some ⟨w1.heap.size, 0, none⟩) acc.length n) acc.length (Lib.byteCells acc) ∧ Keep (fun _ => False) w1 wr) (fun _ v5 _ => x.length - (intOf v5).toNat)
  case atStart => exact ⟨0, [], Half.zero x, rfl, rfl, rfl, hown2, hk2⟩
  case round =>
    clear hown2 hk2
    obtain ⟨j, acc, hh, hj2, rfl, rfl, hown, hkr⟩ := hrel
    have HH := Lib.hid hh
    have hle := hh.le
    clear hh
    by_cases hlt : j + 1 < x.length
    · obtain ⟨c0, hc0⟩ : ∃ c, x[j] = c := ⟨_, rfl⟩
      obtain ⟨c1, hc1⟩ : ∃ c, x[j + 1] = c := ⟨_, rfl⟩
      have hb0 : (⟨x.toArray⟩ : ByteArray)[j]'(by show j < x.toArray.size; simp; omega) = c0 := hc0
      have hb1 : (⟨x.toArray⟩ : ByteArray)[j + 1]'(by show j + 1 < x.toArray.size; simp; omega) = c1 := hc1
      have HC0 := Lib.hid hc0
      have HC1 := Lib.hid hc1
      clear hc0 hc1
      have hx0 : (j : Int) < (x.length : Int) := by omega
      have hx1 : (j : Int) + 1 < (x.length : Int) := by omega
      have Q0 := fun w => hexi_any c0 w
      have Q1 := fun w => hexi_any c1 w
      rcases h0 : hexd c0 with _ | a
      · rw [hexi_none h0] at Q0
        have HA := Lib.hid h0
        clear h0
        generalize hexi c1 = y at Q1
        go_wp2_with fail
        go_quiet ((first | (go_at_call 134; exact Calls.quiet_of_same (Q0 _)) | (go_at_call 134; exact Calls.quiet_of_same (Q1 _))))
        go_wp2_with fail
        refine (must_no _ _).mono ?_
        rintro e w' ⟨rfl, rfl⟩
        refine ⟨rfl, hk1.trans (hkr.drewN nq) (fun _ _ e => e.elim), ?_⟩
        rw [HH.out.bad1 hlt (HC0.out ▸ HA.out)]
        exact rfl
      · rcases h1 : hexd c1 with _ | b
        · rw [(hexi_some h0).1] at Q0
          rw [hexi_none h1] at Q1
          have HA := Lib.hid h0
          have HB := Lib.hid h1
          clear h0 h1
          go_wp2_with fail
          go_quiet ((first | (go_at_call 134; exact Calls.quiet_of_same (Q0 _)) | (go_at_call 134; exact Calls.quiet_of_same (Q1 _))))
          go_wp2_with fail
          refine (must_no _ _).mono ?_
          rintro e w' ⟨rfl, rfl⟩
          refine ⟨rfl, hk1.trans (hkr.drewN nq) (fun _ _ e => e.elim), ?_⟩
          rw [HH.out.bad2 hlt (HC0.out ▸ HA.out) (HC1.out ▸ HB.out)]
          exact rfl
        · rw [(hexi_some h0).1] at Q0
          rw [(hexi_some h1).1] at Q1
          have ha := (hexi_some h0).2
          have hb := (hexi_some h1).2
          have HA := Lib.hid h0
          have HB := Lib.hid h1
          clear h0 h1
          go_wp2_with fail
          go_quiet ((first | (go_at_call 134; exact Calls.quiet_of_same (Q0 _)) | (go_at_call 134; exact Calls.quiet_of_same (Q1 _))))
          go_wp2_with fail
          refine (must_ok _ _).mono ?_
          rintro e w' ⟨rfl, rfl⟩
          obtain ⟨d, hdd⟩ : ∃ d : UInt8, UInt8.ofNat (16 * a + b) = d := ⟨_, rfl⟩
          have hbits : bits BinOp.or IntKind.i64 ((a : Int) * 16) (b : Int) % 256 = (d.toNat : Int) := by rw [← hdd]; exact byte_of a b ha hb
          have HDD := Lib.hid hdd
          clear hdd
          have hown' : ((wr.drewN nq).alloc (.cells #[.int .u8 (d.toNat : Int)] 5)).ownsRow w1.heap.size 5 1 (.slice (some ⟨w1.heap.size, 0, none⟩) acc.length n) acc.length (Lib.byteCells acc) := (show (wr.drewN nq).ownsRow _ _ _ _ _ _ from hown).alloc _
          have hroom : acc.length + 1 ≤ n := by have := HH.out.len; have := HN.out; omega
          go_wp2_with (at_builtin; refine wpList_append_fits _ rfl (.tmp 48) (.tmp 54) 47 rfl w1.heap.size 5 i5 1 Tryz.underlying47 hi hz1 w1.heap.size acc.length n _ rfl hown' ⟨wr.heap.size, 0, none⟩ 1 1 [.int .u8 (d.toNat : Int)] rfl rfl ?c1 ?c2 hroom ?_)
          case c1 => exact cell_one_new _ _ _
          case c2 => intro u hu; simp at hu; subst hu; rfl
          intro w3 hown3 hgr3
          go_wp2_with fail
          go_roundw
          case rel =>
            have he : (acc ++ [d]).length = acc.length + 1 := by simp
            refine ⟨j + 2, acc ++ [d], ?_, by omega, by go_num, by rw [he], ?_, ?_⟩
            · have hs := HH.out.step hlt (HC0.out ▸ HA.out) (HC1.out ▸ HB.out)
              rwa [HDD.out] at hs
            · rw [he, Lib.byteCells_append]; exact hown3
            · exact (((hkr.drewN nq).alloc _).trans (Keep.of_grown (M := fun b => b = w1.heap.size) hgr3 (fun k e _ => (Option.some.inj e).symm)) (fun b hb e => by omega))
          case measure => simp [intOf]; omega
    · have hxj : x.length ≤ j := by omega
      have hge : ¬ (j : Int) < (x.length : Int) := by omega
      have hconv := conv_bytes w1.heap.size n acc wr hown
      have HO := Lib.hid hown
      clear hown
      go_wp2_with fail
      go_ret
      rw [HH.out.all hxj]
      exact ⟨hk1.trans hkr (fun _ _ e => e.elim), rfl, HL1.out.keep hkr (fun e => e) (fun e => e)⟩

theorem bytes_none (lb rb : Nat) (w : World) (h : LineAt w lb rb []) :
    Calls Tryz.prog 103 #[.pointer (some ⟨lb, 0, none⟩)] w fun e w' => e = gaveUp 4 ∧ Keep (fun b => b = lb) w w' := by
  go_enter Tryz.func103, Tryz.ntmps103
  go_wp2_with fail
  refine (word_none lb rb w h).mono ?_
  rintro e w1 ⟨rfl, hk1⟩
  exact ⟨rfl, rfl, hk1⟩
set_option maxRecDepth 100000 in
theorem bytes_dash (lb rb : Nat) (ws : List Str) (w : World) (h : LineAt w lb rb ([45] :: ws)) :
    Calls Tryz.prog 103 #[.pointer (some ⟨lb, 0, none⟩)] w fun e w' => e = .returned (sv []) ∧ Keep (fun b => b = lb) w w' ∧ LineAt w' lb rb ws := by
  go_enter Tryz.func103, Tryz.ntmps103
  go_wp2_with fail
  refine (word_some lb rb [45] ws w h).mono ?_
  rintro e w1 ⟨rfl, hk1, hl1⟩
  have HL1 := Lib.hid hl1
  clear hl1 h
  unfold sv
  go_wp2_with fail
  go_ret
  exact ⟨rfl, hk1, HL1.out⟩
set_option maxRecDepth 100000 in
theorem bytes_odd (lb rb : Nat) (x : Str) (ws : List Str) (w : World) (h : LineAt w lb rb (x :: ws)) (hd : (x == [45]) = false) (hev : ((x.length : Int) % 2 == 0) = false) :
    Calls Tryz.prog 103 #[.pointer (some ⟨lb, 0, none⟩)] w fun e w' => e = gaveUp 4 ∧ Keep (fun b => b = lb) w w' := by
  have hx := h.ok.head.2
  go_enter Tryz.func103, Tryz.ntmps103
  go_wp2_with fail
  refine (word_some lb rb x ws w h).mono ?_
  rintro e w1 ⟨rfl, hk1, _⟩
  clear h
  unfold sv
  go_wp2_with fail
  refine (must_no _ _).mono ?_
  rintro e w' ⟨rfl, rfl⟩
  exact ⟨rfl, rfl, hk1⟩
set_option maxRecDepth 100000 in
theorem bytes_long (lb rb : Nat) (x : Str) (ws : List Str) (w : World) (h : LineAt w lb rb (x :: ws)) (hd : (x == [45]) = false) (hev : (x.length : Int) % 2 = 0) (hl : ¬ (x.length : Int) ≤ 80) :
    Calls Tryz.prog 103 #[.pointer (some ⟨lb, 0, none⟩)] w fun e w' => e = gaveUp 4 ∧ Keep (fun b => b = lb) w w' := by
  have hx := h.ok.head.2
  have hl' : decide ((x.length : Int) ≤ 80) = false := decide_eq_false hl
  clear hl
  go_enter Tryz.func103, Tryz.ntmps103
  go_wp2_with fail
  refine (word_some lb rb x ws w h).mono ?_
  rintro e w1 ⟨rfl, hk1, _⟩
  clear h
  unfold sv
  go_wp2_with fail
  refine (must_no _ _).mono ?_
  rintro e w' ⟨rfl, rfl⟩
  exact ⟨rfl, rfl, hk1⟩

theorem bytes_any (lb rb : Nat) (ws : List Str) (w : World) (h : LineAt w lb rb ws) :
    Calls Tryz.prog 103 #[.pointer (some ⟨lb, 0, none⟩)] w (Got sv lb rb w (pbytes ws)) := by
  have no : ∀ {e w'}, pbytes ws = none → e = gaveUp 4 ∧ Keep (fun b => b = lb) w w' → Got sv lb rb w (pbytes ws) e w' := fun h1 h2 => by
    rw [h1]; exact ⟨h2.2, h2.1⟩
  cases ws with
  | nil => exact (bytes_none lb rb w h).mono fun e w' h1 => no rfl h1
  | cons x ws =>
    have hp : pbytes (x :: ws) = (bytesOf x).bind fun a => some (a, ws) := rfl
    by_cases hd : x = [45]
    · subst hd
      exact (bytes_dash lb rb ws w h).mono fun e w' ⟨h1, h2, h3⟩ => ⟨h2, h1, h3⟩
    · have hd' : (x == [45]) = false := by rw [beq_eq_false_iff_ne]; exact hd
      by_cases hev : x.length % 2 = 0
      · by_cases hl : x.length ≤ 80
        · have hb : bytesOf x = pairs x := by unfold bytesOf; rw [if_neg hd, if_pos ⟨hev, hl⟩]
          rw [hp, hb]
          exact bytes_even lb rb x ws w h hd' (by omega) (by omega)
        · have hb : bytesOf x = none := by unfold bytesOf; rw [if_neg hd, if_neg (fun e => hl e.2)]
          exact (bytes_long lb rb x ws w h hd' (by omega) (by omega)).mono fun e w' h1 => no (by rw [hp, hb]; rfl) h1
      · have hb : bytesOf x = none := by unfold bytesOf; rw [if_neg hd, if_neg (fun e => hev e.1)]
        exact (bytes_odd lb rb x ws w h hd' (by rw [beq_eq_false_iff_ne]; omega)).mono fun e w' h1 => no (by rw [hp, hb]; rfl) h1
end Go.Proofs.YtifliekahdgobaaGreatDoor
namespace Go.Proofs.YtifliekahdgobaaGreatDoor
open Go.RowKit Sp

/-- the flags, laid into cells from o on -/
def putFlags (cs : Array Value) (o : Nat) : List Bool → Array Value
  | [] => cs
  | b :: r => putFlags (cs.setIfInBounds o (.bool b)) (o + 1) r

theorem marks_hit (c : UInt8) (w : Str) : ∀ (l : Str) (n : Nat), Lib.indexByte l c = n → n < l.length ∧ marksGo l (c :: w) = (marksGo (l.drop (n + 1)) w).bind fun t => some (List.replicate n false ++ true :: t)
  | [], n, h => by simp [Lib.indexByte] at h
  | a :: l, n, h => by
    unfold Lib.indexByte at h
    by_cases hb : (a == c) = true
    · rw [if_pos hb] at h
      obtain rfl : n = 0 := by omega
      rw [beq_iff_eq] at hb
      subst hb
      exact ⟨by simp, by simp [marksGo]⟩
    · rw [if_neg hb] at h
      have hne : ¬ a = c := by simpa using hb
      by_cases h1 : (Lib.indexByte l c == -1) = true
      · rw [if_pos h1] at h; omega
      · rw [if_neg h1] at h
        have hge := Lib.indexByte_ge l c
        have hn1 : ¬ Lib.indexByte l c = -1 := by simpa using h1
        obtain ⟨i, rfl⟩ : ∃ i, n = i + 1 := ⟨n - 1, by omega⟩
        obtain ⟨h2, h3⟩ := marks_hit c w l i (by omega)
        refine ⟨by simp; omega, ?_⟩
        rw [marksGo, if_neg hne, h3, List.drop_succ_cons]
        rcases marksGo (l.drop (i + 1)) w with _ | t
        · rfl
        · simp [List.replicate_succ]
theorem marks_miss (c : UInt8) (w : Str) : ∀ (l : Str), Lib.indexByte l c = -1 → marksGo l (c :: w) = none
  | [], _ => by simp [marksGo]
  | a :: l, h => by
    unfold Lib.indexByte at h
    by_cases hb : (a == c) = true
    · rw [if_pos hb] at h; omega
    · rw [if_neg hb] at h
      have hne : ¬ a = c := by simpa using hb
      by_cases h1 : (Lib.indexByte l c == -1) = true
      · rw [marksGo, if_neg hne, marks_miss c w l (by simpa using h1)]; rfl
      · rw [if_neg h1] at h
        have := Lib.indexByte_ge l c
        have : ¬ Lib.indexByte l c = -1 := by simpa using h1
        omega
/-- how far the marks are read: 'at' letters are behind; k bytes of the word -/
structure Marked (ls x : Str) (k t : Nat) (fl : List Bool) : Prop where
  le : k ≤ x.length
  le' : t ≤ ls.length
  len : fl.length = t
  eq : marksGo ls x = (marksGo (ls.drop t) (x.drop k)).bind fun m => some (fl ++ m)
theorem Marked.zero (ls x : Str) : Marked ls x 0 0 [] := ⟨Nat.zero_le _, Nat.zero_le _, rfl, by simp⟩
theorem Marked.step {ls x : Str} {k t n : Nat} {fl : List Bool} (h : Marked ls x k t fl) (hk : k < x.length) (hn : Lib.indexByte (ls.drop t) x[k] = n) : t + n < ls.length ∧ Marked ls x (k + 1) (t + (n + 1)) (fl ++ (List.replicate n false ++ [true])) := by
  have hd : x.drop k = x[k] :: x.drop (k + 1) := List.drop_eq_getElem_cons hk
  obtain ⟨h1, h2⟩ := marks_hit x[k] (x.drop (k + 1)) (ls.drop t) n hn
  have hl := h.len
  simp only [List.length_drop] at h1
  refine ⟨by omega, by omega, by omega, by simp [hl], ?_⟩
  rw [h.eq, hd, h2, List.drop_drop]
  rcases marksGo (List.drop (t + (n + 1)) ls) (x.drop (k + 1)) with _ | m <;> simp
theorem Marked.miss {ls x : Str} {k t : Nat} {fl : List Bool} (h : Marked ls x k t fl) (hk : k < x.length) (hn : Lib.indexByte (ls.drop t) x[k] = -1) : marksGo ls x = none := by
  have hd : x.drop k = x[k] :: x.drop (k + 1) := List.drop_eq_getElem_cons hk
  rw [h.eq, hd, marks_miss _ _ _ hn]; rfl
theorem Marked.all {ls x : Str} {k t : Nat} {fl : List Bool} (h : Marked ls x k t fl) (hk : x.length ≤ k) : marksGo ls x = some (fl ++ List.replicate (ls.length - t) false) := by
  rw [h.eq, List.drop_eq_nil_of_le hk]
  simp only [marksGo, Option.bind_some, List.map_const', List.length_drop]

theorem putFlags_false : ∀ (n o : Nat) (cs : Array Value), (∀ i, i < n → cs[o + i]? = some (.bool false)) → putFlags cs o (List.replicate n false) = cs
  | 0, _, _, _ => rfl
  | n + 1, o, cs, h => by
    have h0 := h 0 (by omega)
    have hs : cs.setIfInBounds o (.bool false) = cs := by
      apply Array.ext_getElem?
      intro i
      rw [Array.getElem?_setIfInBounds]
      split
      · rename_i e
        subst e
        split
        · simpa using h0.symm
        · rename_i hlt
          rw [Array.getElem?_eq_none (by omega)]
      · rfl
    rw [List.replicate_succ, putFlags, hs]
    exact putFlags_false n (o + 1) cs (fun i hi => by have := h (i + 1) (by omega); rwa [show o + (i + 1) = o + 1 + i by omega] at this)
theorem putFlags_append : ∀ (a b : List Bool) (o : Nat) (cs : Array Value), putFlags cs o (a ++ b) = putFlags (putFlags cs o a) (o + a.length) b
  | [], b, o, cs => by simp [putFlags]
  | x :: a, b, o, cs => by
    rw [List.cons_append, putFlags, putFlags_append a b, putFlags, List.length_cons, show o + 1 + a.length = o + (a.length + 1) by omega]
theorem putFlags_size : ∀ (a : List Bool) (o : Nat) (cs : Array Value), (putFlags cs o a).size = cs.size
  | [], _, _ => rfl
  | x :: a, o, cs => by rw [putFlags, putFlags_size a]; simp
theorem putFlags_past : ∀ (a : List Bool) (o : Nat) (cs : Array Value) (i : Nat), i < o ∨ o + a.length ≤ i → (putFlags cs o a)[i]? = cs[i]?
  | [], _, _, _, _ => rfl
  | x :: a, o, cs, i, h => by
    simp only [List.length_cons] at h
    rw [putFlags, putFlags_past a (o + 1) _ i (by omega), Array.getElem?_setIfInBounds, if_neg (by omega)]

/-- what 'marks' comes to: the flags stand in the target's cells; or it gives up -/
def GotMarks (lb rb tb o : Nat) (T : TypeId) (cs : Array Value) (w : World) (r : Option (List Bool × List Str)) (e : Ending) (w' : World) : Prop :=
  Keep (fun b => b = lb ∨ b = tb) w w' ∧ match r with
    | some (m, ws) => e = .returned (.tuple #[]) ∧ LineAt w' lb rb ws ∧ w'.heap[tb]? = some (.cells (putFlags cs o m) T (0, 0))
    | none => e = gaveUp 4
theorem idx_drop (ls : Str) (t : Nat) (c : UInt8) (w : World) : Calls Tryz.prog 134 #[.string ((⟨ls.toArray⟩ : ByteArray).extract t ls.length), .int .u8 c.toNat] w fun e w' => e = .returned (.int .i64 (Lib.indexByte (ls.drop t) c)) ∧ w' = w := by
  refine (Tryz.strings_IndexByte _ c.toNat w).mono fun e w' ⟨h1, h2⟩ => ⟨?_, h2⟩
  rw [h1]
  have : ((⟨ls.toArray⟩ : ByteArray).extract t ls.length).data.toList = ls.drop t := by
    rw [ByteArray.data_extract]
    simp
    exact List.take_of_length_le (by simp)
  rw [this]
  simp

set_option maxRecDepth 100000 in
set_option maxHeartbeats 1600000 in
theorem marks_word (lb rb : Nat) (ls x : Str) (ws : List Str) (tb ab o : Nat) (T : TypeId) (cs : Array Value) (w : World) (h : LineAt w lb rb (x :: ws)) (hd : (x == [45]) = false)
    (ht : w.heap[tb]? = some (.cells cs T (0, 0))) (htl : tb ≠ lb) (htr : tb ≠ rb) (hp : ∀ i, i < ls.length → w.cell? ⟨ab, i, none⟩ = some (.pointer (some ⟨tb, o + i, none⟩))) (hab : ab ≠ lb ∧ ab ≠ tb)
    (hf : ∀ i, i < ls.length → cs[o + i]? = some (.bool false)) (hls : ls.length ≤ 4) :
    Calls Tryz.prog 104 #[.pointer (some ⟨lb, 0, none⟩), .string ⟨ls.toArray⟩, .slice (some ⟨ab, 0, none⟩) ls.length ls.length] w (GotMarks lb rb tb o T cs w ((marksGo ls x).bind fun m => some (m, ws))) := by
  have hx := h.ok.head
  have H := word_some lb rb x ws w h
  clear h
  have kc := fun w => Lib.run_convert_string_bytes (P := Tryz.prog) w 9 47 5 ⟨x.toArray⟩ Tryz.underlying9 Tryz.underlying47 Tryz.underlying5
  go_enter Tryz.func104, Tryz.ntmps104
  go_wp2_with fail
  refine H.mono ?_
  rintro e w1 ⟨rfl, hk1, hl1⟩
  have HL1 := Lib.hid hl1
  clear hl1 H
  unfold sv
  go_wp2_with fail
  have hkW : Keep (fun _ => False) w1 (Lib.bytesWorld w1 5 ⟨x.toArray⟩) := Keep.of_below (Lib.bytesWorld_below _ _ _) (Nat.le_refl _)
  have htb1 := hk1.at' ht htl
  have htbl := lt_of_block htb1
  have htW := hkW.at' htb1 (fun e => e)
  have hcW := fun j hj => Lib.bytesWorld_cell w1 5 ⟨x.toArray⟩ j hj
  have hgW := Lib.bytesWorld_size w1 5 ⟨x.toArray⟩
  have hpW : ∀ i, i < ls.length → (Lib.bytesWorld w1 5 ⟨x.toArray⟩).cell? ⟨ab, i, none⟩ = some (.pointer (some ⟨tb, o + i, none⟩)) := fun i hi => by
    have h1 := hp i hi
    have h2 := World.block_lt_of_cell? _ _ h1
    rw [hkW.cell (Nat.lt_of_lt_of_le h2 hk1.size) (fun e => e), hk1.cell h2 hab.1]
    exact h1
  have habl : 0 < ls.length → ab < w1.heap.size := fun h0 => Nat.lt_of_lt_of_le (World.block_lt_of_cell? _ _ (hp 0 h0)) hk1.size
  generalize hWd : Lib.bytesWorld w1 5 ⟨x.toArray⟩ = W at *
  clear hWd kc
  go_loopw [7, 18] (fun v7 v18 wr => ∃ (k t : Nat) (fl : List Bool), Marked ls x k t fl ∧ v7 = .int .i64 t ∧ v18 = .int .i64 k ∧ wr.heap[tb]? = some (.cells (putFlags cs o fl) T (0, 0)) ∧ Keep (fun b => b = tb) W wr) (fun _ v18 _ => x.length - (intOf v18).toNat)
  case atStart => exact ⟨0, 0, [], Marked.zero _ _, rfl, rfl, htW, Keep.refl _ _⟩
  case round =>
    obtain ⟨k, t, fl, hm, rfl, rfl, hwt, hkr⟩ := hrel
    have hkWr : Keep (fun b => b = tb) w1 wr := (hkW.mono (fun _ _ e => e.elim)).trans' hkr
    have hkk : Keep (fun b => b = lb ∨ b = tb) w wr := (hk1.mono (fun _ _ e => .inl e)).trans hkWr (fun _ _ e => .inr e)
    have HM := Lib.hid hm
    have hle := hm.le
    have hle' := hm.le'
    clear hm
    have HP := Lib.hid hpW
    have HF := Lib.hid hf
    have HCW := Lib.hid hcW
    have HHP := Lib.hid hp
    clear hpW hf hcW hp ht htW htb1
    by_cases hlt : k < x.length
    · obtain ⟨c, hc⟩ : ∃ c, x[k] = c := ⟨_, rfl⟩
      have hcc : wr.cell? ⟨w1.heap.size, k, none⟩ = some (.int .u8 c.toNat) := by
        rw [hkr.cell (show w1.heap.size < W.heap.size by omega) (show ¬ w1.heap.size = tb by omega), HCW.out k (by show k < x.toArray.size; simp; omega)]
        simp [hlt, hc]
      have HC := Lib.hid hc
      clear hc
      have hlt' : (k : Int) < (x.length : Int) := by omega
      have hle2 : (t : Int) ≤ (ls.length : Int) := by omega
      have hge := Lib.indexByte_ge (ls.drop t) c
      have HQ := fun w => idx_drop ls t c w
      rcases Int.lt_or_le (Lib.indexByte (ls.drop t) c) 0 with hN | hN
      · have hN1 : Lib.indexByte (ls.drop t) c = -1 := by omega
        rw [hN1] at HQ
        have HN := Lib.hid hN1
        clear hN1 hN hge
        go_wp2_with fail
        refine (HQ _).mono ?_
        rintro e w' ⟨rfl, hw'⟩
        subst hw'
        go_wp2_with fail
        refine (must_no _ _).mono ?_
        rintro e w' ⟨rfl, rfl⟩
        refine ⟨rfl, hkk, ?_⟩
        rw [HM.out.miss hlt (HC.out.symm ▸ HN.out)]
        exact rfl
      · obtain ⟨n, hn⟩ := Int.eq_ofNat_of_zero_le hN
        rw [hn] at HQ
        have hst := HM.out.step hlt (HC.out.symm ▸ hn)
        have HST := Lib.hid hst.2
        have htn := hst.1
        have hcell : wr.cell? ⟨ab, t + n, none⟩ = some (.pointer (some ⟨tb, o + (t + n), none⟩)) := by
          rw [hkr.cell (Nat.lt_of_lt_of_le (habl (by omega)) hkW.size) hab.2]
          exact HP.out (t + n) htn
        have htc : wr.cell? ⟨tb, o + (t + n), none⟩ = some (.bool false) := by
          rw [cell_of_block hwt, putFlags_past _ _ _ _ (.inr (by rw [HM.out.len]; omega))]
          exact HF.out (t + n) htn
        have htf := free_of_block hwt (o + (t + n))
        have hfin : (wr.setCell ⟨tb, o + (t + n), none⟩ (.bool true)).heap[tb]? = some (.cells (putFlags cs o (fl ++ (List.replicate n false ++ [true]))) T (0, 0)) := by
          rw [block_setCell hwt]
          rw [putFlags_append, putFlags_append, HM.out.len, putFlags_false n (o + t) _ (fun i hi => by
            rw [putFlags_past _ _ _ _ (.inr (by rw [HM.out.len]; omega))]
            have := HF.out (t + i) (by omega)
            rwa [show o + (t + i) = o + t + i by omega] at this)]
          simp [putFlags, Nat.add_assoc]
        have HFIN := Lib.hid hfin
        have HWT := Lib.hid hwt
        clear hst hN hge hn hfin hwt
        go_wp2_with fail
        refine (HQ _).mono ?_
        rintro e w' ⟨rfl, hw'⟩
        subst hw'
        go_wp2_with fail
        refine (must_ok _ _).mono ?_
        rintro e w' ⟨rfl, rfl⟩
        go_wp2_with fail
        go_roundw
        case rel => exact ⟨k + 1, t + (n + 1), _, HST.out, by go_num, by go_num, HFIN.out, hkr.setCell _ _ (.inr rfl)⟩
        case measure => simp [intOf]; omega
    · have hge : ¬ (k : Int) < (x.length : Int) := by omega
      have hall := HM.out.all (Nat.le_of_not_lt hlt)
      have hfin : wr.heap[tb]? = some (.cells (putFlags cs o (fl ++ List.replicate (ls.length - t) false)) T (0, 0)) := by
        rw [hwt, putFlags_append, HM.out.len, putFlags_false _ (o + t) _ (fun i hi => by
          rw [putFlags_past _ _ _ _ (.inr (by rw [HM.out.len]; omega))]
          have := HF.out (t + i) (by omega)
          rwa [show o + (t + i) = o + t + i by omega] at this)]
      have HFIN := Lib.hid hfin
      have HALL := Lib.hid hall
      clear hfin hwt hall
      go_wp2_with fail
      go_end0
      refine ⟨hkk, ?_⟩
      rw [HALL.out]
      exact ⟨rfl, HL1.out.keep hkWr (fun e => htl e.symm) (fun e => htr e.symm), HFIN.out⟩

theorem marks_none (lb rb : Nat) (ls : Str) (v : Value) (w : World) (h : LineAt w lb rb []) :
    Calls Tryz.prog 104 #[.pointer (some ⟨lb, 0, none⟩), .string ⟨ls.toArray⟩, v] w fun e w' => e = gaveUp 4 ∧ Keep (fun b => b = lb) w w' := by
  go_enter Tryz.func104, Tryz.ntmps104
  go_wp2_with fail
  refine (word_none lb rb w h).mono ?_
  rintro e w1 ⟨rfl, hk1⟩
  exact ⟨rfl, rfl, hk1⟩
theorem marks_dash (lb rb : Nat) (ls : Str) (v : Value) (ws : List Str) (w : World) (h : LineAt w lb rb ([45] :: ws)) :
    Calls Tryz.prog 104 #[.pointer (some ⟨lb, 0, none⟩), .string ⟨ls.toArray⟩, v] w fun e w' => e = .returned (.tuple #[]) ∧ Keep (fun b => b = lb) w w' ∧ LineAt w' lb rb ws := by
  go_enter Tryz.func104, Tryz.ntmps104
  go_wp2_with fail
  refine (word_some lb rb [45] ws w h).mono ?_
  rintro e w1 ⟨rfl, hk1, hl1⟩
  have HL1 := Lib.hid hl1
  clear hl1 h
  unfold sv
  go_wp2_with fail
  first | go_end0 | refine bodyPost_ret (results_none rfl _ _ _) rfl ?_
  exact ⟨rfl, hk1, HL1.out⟩
theorem marks_any (lb rb : Nat) (ls : Str) (ws : List Str) (tb ab o : Nat) (T : TypeId) (cs : Array Value) (w : World) (h : LineAt w lb rb ws)
    (ht : w.heap[tb]? = some (.cells cs T (0, 0))) (htl : tb ≠ lb) (htr : tb ≠ rb) (hp : ∀ i, i < ls.length → w.cell? ⟨ab, i, none⟩ = some (.pointer (some ⟨tb, o + i, none⟩))) (hab : ab ≠ lb ∧ ab ≠ tb)
    (hf : ∀ i, i < ls.length → cs[o + i]? = some (.bool false)) (hls : ls.length ≤ 4) :
    Calls Tryz.prog 104 #[.pointer (some ⟨lb, 0, none⟩), .string ⟨ls.toArray⟩, .slice (some ⟨ab, 0, none⟩) ls.length ls.length] w (GotMarks lb rb tb o T cs w (pmarks ls ws)) := by
  cases ws with
  | nil => exact (marks_none lb rb ls _ w h).mono fun e w' h1 => ⟨h1.2.mono (fun _ _ e => .inl e), h1.1⟩
  | cons x ws =>
    have hp2 : pmarks ls (x :: ws) = (marksOf ls x).bind fun a => some (a, ws) := rfl
    by_cases hd : x = [45]
    · subst hd
      refine (marks_dash lb rb ls _ ws w h).mono fun e w' ⟨h1, h2, h3⟩ => ⟨h2.mono (fun _ _ e => .inl e), h1, h3, ?_⟩
      rw [List.map_const', putFlags_false _ _ _ hf]
      exact h2.at' ht htl
    · have hd' : (x == [45]) = false := by rw [beq_eq_false_iff_ne]; exact hd
      rw [hp2, show marksOf ls x = marksGo ls x by unfold marksOf; rw [if_neg hd]]
      exact marks_word lb rb ls x ws tb ab o T cs w h hd' ht htl htr hp hab hf hls

theorem marksGo_len : ∀ (ls w : Str) (m : List Bool), marksGo ls w = some m → m.length = ls.length
  | ls, [], m, h => by
    simp only [marksGo, Option.some.injEq] at h
    subst h; simp
  | [], _ :: _, m, h => by simp [marksGo] at h
  | l :: ls, c :: w, m, h => by
    rw [marksGo] at h
    split at h
    · rcases h1 : marksGo ls w with _ | t
      · rw [h1] at h; cases h
      · rw [h1] at h
        simp only [Option.bind_some, Option.some.injEq] at h
        subst h
        simp [marksGo_len ls w t h1]
    · rcases h1 : marksGo ls (c :: w) with _ | t
      · rw [h1] at h; cases h
      · rw [h1] at h
        simp only [Option.bind_some, Option.some.injEq] at h
        subst h
        simp [marksGo_len ls (c :: w) t h1]
theorem pmarks_len {ls : Str} {ws r : List Str} {m : List Bool} (h : pmarks ls ws = some (m, r)) : m.length = ls.length := by
  cases ws with
  | nil => cases h
  | cons x ws =>
    have h2 : (marksOf ls x).bind (fun a => some (a, ws)) = some (m, r) := h
    rcases h1 : marksOf ls x with _ | t
    · rw [h1] at h2; cases h2
    · rw [h1] at h2
      simp only [Option.bind_some, Option.some.injEq, Prod.mk.injEq] at h2
      obtain ⟨rfl, rfl⟩ := h2
      unfold marksOf at h1
      split at h1
      · simp only [Option.some.injEq] at h1
        subst h1; simp
      · exact marksGo_len _ _ _ h1
/-- 'marks' at a fresh row of pointers -/
theorem marks_at (lb rb : Nat) (ls : Str) (ws : List Str) (tb o : Nat) (T : TypeId) (cs : Array Value) (ps : Array Value) (w : World) (h : LineAt w lb rb ws)
    (ht : w.heap[tb]? = some (.cells cs T (0, 0))) (htl : tb ≠ lb) (htr : tb ≠ rb) (hps : ∀ i, i < ls.length → ps[i]? = some (.pointer (some ⟨tb, o + i, none⟩)))
    (hf : ∀ i, i < ls.length → cs[o + i]? = some (.bool false)) (hls : ls.length ≤ 4) :
    Calls Tryz.prog 104 #[.pointer (some ⟨lb, 0, none⟩), .string ⟨ls.toArray⟩, .slice (some ⟨w.heap.size, 0, none⟩) ls.length ls.length] (w.alloc (.cells ps 189)) (GotMarks lb rb tb o T cs w (pmarks ls ws)) := by
  have hk : Keep (fun _ => False) w (w.alloc (.cells ps 189)) := (Keep.refl _ w).alloc _
  refine (marks_any lb rb ls ws tb w.heap.size o T cs (w.alloc (.cells ps 189)) (h.keep hk (fun e => e) (fun e => e)) (hk.at' ht (fun e => e)) htl htr ?_ ?_ hf hls).mono fun e w' ⟨h1, h2⟩ => ⟨?_, h2⟩
  · intro i hi
    rw [World.cell?_alloc_at _ _ _ _ rfl]
    exact hps i hi
  · have := h.lt
    have := lt_of_block ht
    omega
  · exact (hk.mono (fun _ _ e => e.elim)).trans' h1
end Go.Proofs.YtifliekahdgobaaGreatDoor
