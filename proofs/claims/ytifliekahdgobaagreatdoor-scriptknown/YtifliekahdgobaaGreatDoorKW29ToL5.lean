/-
  THE WALKS, 29: a strings.Builder that is written; Print's closure. Helpers of the claims.
  THE WALKS, 30: safely, of Print's closure; Print. Helpers of the claims.
  THE REFERENCE's WALKS, 22: Same. Helpers of the claims.
  THE WALKS, 31: Print. Helpers of the claims.
  ours, theirs, wrong, works. Helpers of the claims.
-/
import Derived.Test.YtifliekahdgobaaGreatDoorKW28
import Derived.Test.YtifliekahdgobaaGreatDoorKL1ToR18
set_option linter.unusedSimpArgs false
set_option linter.unusedVariables false
namespace Go.Proofs.YtifliekahdgobaaGreatDoor
open Go.RowKit Sp

/-- a builder (block b), its buffer v, what it holds -/
structure BufAt (w : World) (B b : Nat) (v p : Value) (l : Str) : Prop where
  blk : w.heap[b]? = some (.cells #[p, v] 93 (0, 0))
  own : w.ownsRow B 5 1 v l.length (Lib.byteCells l)
  ne : v.ownBlock ≠ some b
  le : B ≤ b
theorem byteCells_len (l : Str) : (Lib.byteCells l).length = l.length := by simp [Lib.byteCells]
theorem BufAt.at' {w : World} {B b : Nat} {v p : Value} {l : Str} (h : BufAt w B b v p l) : Lib.BuilderAt 93 5 B b p (Lib.byteCells l) w := ⟨h.le, v, h.blk, by rw [byteCells_len]; exact h.own, h.ne⟩
theorem BufAt.notT {w : World} {B b n : Nat} {v p : Value} {l : Str} (h : BufAt w B b v p l) {cs : Array Value} {T : TypeId} (hc : w.heap[n]? = some (.cells cs T (0, 0))) (hT : T ≠ 5) : ¬ v.ownBlock = some n := fun e => by
  rcases h.own.2 with ⟨rfl, _⟩ | ⟨g', cap, cur, rfl, _, hg, _⟩
  · cases e
  · simp only [Value.ownBlock, Option.some.injEq] at e
    subst e
    rw [hc] at hg
    injection hg with e2
    injection e2 with e3 e4
    exact hT e4
theorem BufAt.lt {w : World} {B b : Nat} {v p : Value} {l : Str} (h : BufAt w B b v p l) : ∀ g, v.ownBlock = some g → B ≤ g ∧ g < w.heap.size := h.own.lt
theorem BufAt.keep {M : Nat → Prop} {w w' : World} {B b : Nat} {v p : Value} {l : Str} (h : BufAt w B b v p l) (hk : Keep M w w') (hb : ¬ M b) (hv : ∀ g, v.ownBlock = some g → ¬ M g) : BufAt w' B b v p l :=
  ⟨hk.at' h.blk hb, ownsRow_keep h.own hk (fun g _ hg _ => hv g hg), h.ne, h.le⟩
def selfP (b : Nat) : Value := .pointer (some ⟨b, 0, none⟩)
theorem copyCheck_any (B b : Nat) (v p : Value) (l : Str) (w : World) (h : BufAt w B b v p l) (hp : p = .pointer none ∨ p = selfP b) :
    Calls Tryz.prog 78 #[.pointer (some ⟨b, 0, none⟩)] w fun e w' => e = .returned (.tuple #[]) ∧ BufAt w' B b v (selfP b) l ∧ Keep (fun k => k = b) w w' := by
  rcases hp with rfl | rfl
  · refine (Any.Builder_copyCheck_fresh (ρ := Tryz.lays166_ren) { Tryz.lays166 with } Tryz.Builder_Extra_166.toX72 b w h.at'.cell0 h.at'.shape h.at'.frozen0).mono ?_
    rintro e w' ⟨rfl, rfl⟩
    have hk : Keep (fun k => k = b) w (w.setCell ⟨b, 0, none⟩ (selfP b)) := (Keep.refl _ w).setCell _ _ (.inr rfl)
    exact ⟨rfl, ⟨block_setCell h.blk 0 _, ownsRow_keep h.own hk (fun g _ hg _ e => h.ne (e ▸ hg)), h.ne, h.le⟩, hk⟩
  · refine (Any.Builder_copyCheck_used (ρ := Tryz.lays166_ren) { Tryz.lays166 with } Tryz.Builder_Extra_166.toX72 b w h.at'.cell0).mono ?_
    rintro e w' ⟨rfl, rfl⟩
    exact ⟨rfl, h, Keep.refl _ _⟩
theorem strCells_byte (s : Str) : Lib.strCells ⟨s.toArray⟩ = Lib.byteCells s := by
  simp [Lib.strCells, Lib.byteCells]
set_option maxRecDepth 100000 in
theorem writeString_any (B b : Nat) (v p : Value) (l s : Str) (w : World) (h : BufAt w B b v p l) (hp : p = .pointer none ∨ p = selfP b) (hlen : l.length + s.length ≤ 140737488355328) (hBw : B ≤ w.heap.size) :
    Calls Tryz.prog 35 #[.pointer (some ⟨b, 0, none⟩), sv s] w fun e w' => e = .returned (.tuple #[.int .i64 s.length, .nilIface]) ∧ (∃ v', BufAt w' B b v' (selfP b) (l ++ s)) ∧ Keep (fun k => k = b ∨ some k = v.ownBlock) w w' := by
  obtain ⟨i0, hi, hz0, hz1, hz2⟩ := info_parts Tryz.info5
  have H := Lib.hid (copyCheck_any B b v p l w h hp)
  have hsz : (⟨s.toArray⟩ : ByteArray).size = s.length := by show s.toArray.size = _; simp
  have HSZ := Lib.hid hsz
  clear h hp hsz
  go_enter Tryz.func35, Tryz.ntmps35
  go_wp2_with fail
  refine H.out.mono ?_
  rintro e w1 ⟨rfl, h1, hk1⟩
  have hown := h1.own
  have c0 : w1.cell? ⟨b, 0, none⟩ = some (.pointer (some ⟨b, 0, none⟩)) := cell_of_block h1.blk 0
  have c1 : w1.cell? ⟨b, 1, none⟩ = some v := cell_of_block h1.blk 1
  have H1 := Lib.hid h1
  have HK1 := Lib.hid hk1
  have hb1 := hk1.size
  clear h1 hk1
  go_wp2_with (at_builtin; refine Lib.wpList_append_own_string _ rfl _ _ 47 9 rfl B 5 i0 Tryz.underlying47 Tryz.underlying9 hi hz0 hz1 hz2 _ _ _ rfl hown ⟨s.toArray⟩ rfl ?c3 ?c4 ?c5 ?_)
  case c3 => rw [HSZ.out]; unfold maxLen; omega
  case c4 => rw [HSZ.out]; omega
  case c5 => omega
  intro v' w2 hown' hgrow _
  have hkg : Keep (fun k => some k = v.ownBlock) w1 w2 := Keep.of_grown hgrow (fun k e _ => e.symm)
  have hb2 : w2.heap[b]? = some (.cells #[selfP b, v] 93 (0, 0)) := hkg.at' H1.out.blk (fun e => H1.out.ne e.symm)
  have d0 : w2.cell? ⟨b, 0, none⟩ = some (.pointer (some ⟨b, 0, none⟩)) := cell_of_block hb2 0
  have d1 : w2.cell? ⟨b, 1, none⟩ = some v := cell_of_block hb2 1
  have f1 : w2.frozen? ⟨b, 1, none⟩ = false := free_of_block hb2 1
  obtain ⟨ao, n', cap, rfl⟩ : ∃ ao n' cap, v' = .slice ao n' cap := by
    rcases hown'.2 with ⟨hv, _⟩ | ⟨g, cap, cur, hv, _⟩
    · exact ⟨_, _, _, hv⟩
    · exact ⟨_, _, _, hv⟩
  have HO := Lib.hid hown'
  have HB2 := Lib.hid hb2
  have HKG := Lib.hid hkg
  clear hown' hgrow hown hb2 hkg
  go_wp2_with fail
  go_ret2
  have ho : w2.ownsRow B 5 1 (.slice ao n' cap) (l ++ s).length (Lib.byteCells (l ++ s)) := by
    have := HO.out
    rw [strCells_byte] at this
    rw [List.length_append, Lib.byteCells_append]
    exact this
  have hne : (Value.slice ao n' cap).ownBlock ≠ some b := fun e => by
    rcases ho.2 with ⟨hv, _⟩ | ⟨g, cap', cur, hv, _, hg, _⟩
    · rw [hv] at e; cases e
    · rw [hv] at e
      simp only [Value.ownBlock, Option.some.injEq] at e
      subst e
      rw [HB2.out] at hg
      injection hg with e2
      injection e2 with e3 e4
      cases e4
  have hks : Keep (fun k => k = b) w2 (w2.setCell ⟨b, 1, none⟩ (.slice ao n' cap)) := (Keep.refl _ w2).setCell _ _ (.inr rfl)
  refine ⟨?_, ⟨_, block_setCell HB2.out 1 _, ownsRow_keep ho hks (fun g _ hg _ e => hne (e ▸ hg)), hne, H1.out.le⟩, ?_⟩
  · first | rfl | (rw [← HSZ.out]; rfl)
  · exact ((HK1.out.mono (fun _ _ e => .inl e)).trans HKG.out (fun k _ e => .inr e)).trans hks (fun k _ e => .inl e)

/-- what Print's closure comes to -/
def GotP1 (B b : Nat) (v : Value) (l : Str) (s : StepS) (w : World) (e : Ending) (w' : World) : Prop :=
  Keep (fun k => k = b ∨ some k = v.ownBlock) w w' ∧ ((okStep s = true ∧ e = .returned (.tuple #[]) ∧ ∃ v', BufAt w' B b v' (selfP b) (l ++ stepLine s)) ∨ (okStep s = false ∧ ∃ c : Int, 1 ≤ c ∧ e = gaveUp c))
theorem stepText_le (s : StepS) (h : MidStep s) (ho : okStep s = true) : (Sp.stepText s).length ≤ 900000200 := by
  have hk := ((okStep_iff s).1 ho).1
  obtain ⟨k, hsk⟩ : ∃ k : Nat, s.kind = k := ⟨s.kind.toNat, by omega⟩
  rw [stepText_parts s k hsk]
  have h1 := nm_len k (by omega)
  have h2 := body_le k s h
  have h3 : (nodeText k s).length ≤ 101 := by
    unfold nodeText
    have := itoa_len s.node
    split
    · simp only [List.length_cons]; omega
    · simp
  simp only [List.length_append]
  omega
set_option maxRecDepth 100000 in
theorem print1_any (B bb xb ab nb r n : Nat) (v p : Value) (l : Str) (s : StepS) (vc vt ve : Value) (w : World) (h : BufAt w B bb v p l) (hp : p = .pointer none ∨ p = selfP bb) (hlen : l.length ≤ 10000000000000) (hBw : B ≤ w.heap.size)
    (hx : StepBlk w xb s vc vt ve) (ha : w.cell? ⟨ab, 0, none⟩ = some (.map (some r))) (hn : w.cell? ⟨nb, 0, none⟩ = some (.map (some n))) (hg : Glob w) (hr : RulesAt w r) (hnm : NamesAt w n) (hq : ReqRead w s.req vc vt ve) (hm : MidStep s) :
    Calls Tryz.prog 37 #[.pointer (some ⟨bb, 0, none⟩), .pointer (some ⟨xb, 0, none⟩), .pointer (some ⟨ab, 0, none⟩), .pointer (some ⟨nb, 0, none⟩)] w (GotP1 B bb v l s w) := by
  obtain ⟨cs, hcs⟩ : ∃ cs, cs = stepCells s vc vt ve := ⟨_, rfl⟩
  have hld := run_ld63 w xb 0 cs (by rw [hcs]; rfl) (range_of_block (by rw [hcs]; exact hx.blk))
  have hst := stepText_any s vc vt ve hm r n w hg hr hnm hq
  rw [← hcs] at hst
  have HST := Lib.hid hst
  have H := Lib.hid h
  have HL := Lib.hid (fun ho => stepText_le s hm ho)
  have HP := Lib.hid hp
  clear hst h hx hg hr hnm hq hm hcs hp
  go_enter Tryz.func37, Tryz.ntmps37
  go_wp2_with fail
  refine HST.out.mono ?_
  rintro e w1 ⟨hk, ⟨ho, rfl⟩ | ⟨ho, c, hc, rfl⟩⟩
  · have hl := HL.out ho
    have hb1 : BufAt w1 B bb v p l := H.out.keep hk (fun e => e) (fun _ _ e => e)
    have hll : (Sp.stepText s ++ [10]).length ≤ 900000300 := by simp; omega
    have e1 : (⟨(Sp.stepText s).toArray⟩ : ByteArray) ++ ⟨#[10]⟩ = ⟨(Sp.stepText s ++ [10]).toArray⟩ := ba_append _ [10]
    have hW := writeString_any B bb v p l (Sp.stepText s ++ [10]) w1 hb1 HP.out (by omega) (Nat.le_trans hBw hk.size)
    have HW := Lib.hid hW
    have HK := Lib.hid hk
    have HO := Lib.hid ho
    clear hW hk hb1 hll ho HST HL
    generalize hT : Sp.stepText s = T at *
    have HT := Lib.hid hT
    clear hT
    go_wp2_with fail
    refine HW.out.mono ?_
    rintro e w2 ⟨rfl, ⟨v', hv⟩, hk2⟩
    have HV := Lib.hid hv
    have HK2 := Lib.hid hk2
    clear hv hk2
    go_wp2_with fail
    (try simp only [Exit.inBlock, Exit.then])
    refine bodyPost_ret (results_none rfl _ _ _) rfl ?_
    refine ⟨(HK.out.mono (fun _ _ e => e.elim)).trans' HK2.out, .inl ⟨HO.out, rfl, v', ?_⟩⟩
    have := HV.out
    rw [← HT.out] at this
    exact this
  · exact ⟨rfl, hk.mono (fun _ _ e => e.elim), .inr ⟨ho, c, hc, rfl⟩⟩
end Go.Proofs.YtifliekahdgobaaGreatDoor
namespace Go.Proofs.YtifliekahdgobaaGreatDoor
open Go.RowKit Sp

theorem safely37_any (x y z u : Value) (w : World) (Q : Ending → World → Prop)
    (h : Calls Tryz.prog 37 #[x, y, z, u] (w.alloc (.cells #[.int .i64 0] 30)) Q) (hQ : ∀ e w', Q e w' → Keep (fun b => b < w.heap.size) (w.alloc (.cells #[.int .i64 0] 30)) w' ∧ (e = .returned (.tuple #[]) ∨ ∃ c, e = gaveUp c)) :
    Calls Tryz.prog 25 #[.func (.func 37) #[] #[x, y, z, u]] w (GotSafely w Q) := by
  have hmf : ∀ (fn : Fn) (first cap : Array Value) (w : World), (Instr.makeFunc fn first cap).run Tryz.prog w = .ok (.func fn first cap) w := fun _ _ _ _ => rfl
  go_enter_defers Tryz.func25, Tryz.ntmps25
  go_wp2_with fail
  refine h.mono ?_
  intro e w1 hq
  obtain ⟨hk, hc⟩ := hQ e w1 hq
  have hb := hk.at' (block_new w (.cells #[.int .i64 0] 30 (0, 0))) (Nat.lt_irrefl _)
  have hc0 : w1.cell? ⟨w.heap.size, 0, none⟩ = some (.int .i64 0) := cell_of_block hb 0
  have hf0 := free_of_block hb 0
  rcases hc with rfl | ⟨c, rfl⟩
  · have HQQ := Lib.hid hq
    have HB := Lib.hid hb
    clear hq hQ h hb hk
    go_wp2_with fail
    refine leaves_cons (f := 52) (args := #[.pointer (some ⟨w.heap.size, 0, none⟩)]) (by simp) (by simp [go_sem]) ?_
    refine (catch_idle ⟨w.heap.size, 0, none⟩ _).mono ?_
    rintro e u' w'' ⟨rfl, rfl, rfl⟩
    have hk0 : Keep (fun b => b = w.heap.size) w1 (w1.setCell ⟨w.heap.size, 0, none⟩ (.int .i64 0)) := (Keep.refl (fun b => b = w.heap.size) w1).setCell _ _ (.inr rfl)
    have hfin : GotSafely w Q (.returned (.int .i64 0)) (w1.setCell ⟨w.heap.size, 0, none⟩ (.int .i64 0)) := ⟨_, w1, HQQ.out, hk0, .inl ⟨rfl, rfl⟩⟩
    simp [Leaves, settle, results, go_sem, hc0, hfin]
  · have HQQ := Lib.hid hq
    clear hq hQ h hk
    refine leaves_cons (f := 52) (args := #[.pointer (some ⟨w.heap.size, 0, none⟩)]) (by simp) (by simp [go_sem]) ?_
    refine (catch_gave w.heap.size c [] w1 hb).mono ?_
    rintro e u' w'' ⟨rfl, rfl, rfl⟩
    have hk0 : Keep (fun b => b = w.heap.size) w1 ((w1.setCell ⟨w.heap.size, 0, none⟩ (.int .i64 c)).alloc (.cells #[.int .i64 c] 112)) := ((Keep.refl (fun b => b = w.heap.size) w1).setCell _ _ (.inr rfl)).alloc _
    have hfin : GotSafely w Q (.returned (.int .i64 c)) ((w1.setCell ⟨w.heap.size, 0, none⟩ (.int .i64 c)).alloc (.cells #[.int .i64 c] 112)) := ⟨_, w1, HQQ.out, hk0, .inr ⟨c, rfl, rfl⟩⟩
    have hc2 : ((w1.setCell ⟨w.heap.size, 0, none⟩ (.int .i64 c)).alloc (.cells #[.int .i64 c] 112)).cell? ⟨w.heap.size, 0, none⟩ = some (.int .i64 c) := cell_of_block (block_alloc (block_setCell hb 0 (.int .i64 c)) _) 0
    simp [Leaves, settle, results, go_sem, hc2, hfin]
/-- what safely comes to, of Print's closure -/
def GotSP (B b : Nat) (v : Value) (l : Str) (s : StepS) (w : World) (e : Ending) (w' : World) : Prop :=
  Keep (fun k => k = b ∨ some k = v.ownBlock) w w' ∧ ((okStep s = true ∧ e = .returned (.int .i64 0) ∧ ∃ v', BufAt w' B b v' (selfP b) (l ++ stepLine s)) ∨ (okStep s = false ∧ ∃ c : Int, 1 ≤ c ∧ e = .returned (.int .i64 c)))
theorem safe_print (B bb xb ab nb r n : Nat) (v p : Value) (l : Str) (s : StepS) (vc vt ve : Value) (w : World) (h : BufAt w B bb v p l) (hp : p = .pointer none ∨ p = selfP bb) (hlen : l.length ≤ 10000000000000) (hBw : B ≤ w.heap.size)
    (hx : StepBlk w xb s vc vt ve) (ha : w.cell? ⟨ab, 0, none⟩ = some (.map (some r))) (hn : w.cell? ⟨nb, 0, none⟩ = some (.map (some n))) (hg : Glob w) (hr : RulesAt w r) (hnm : NamesAt w n) (hq : ReqRead w s.req vc vt ve) (hm : MidStep s) :
    Calls Tryz.prog 25 #[.func (.func 37) #[] #[.pointer (some ⟨bb, 0, none⟩), .pointer (some ⟨xb, 0, none⟩), .pointer (some ⟨ab, 0, none⟩), .pointer (some ⟨nb, 0, none⟩)]] w (GotSP B bb v l s w) := by
  obtain ⟨V, hV⟩ : ∃ V : World, V = w.alloc (.cells #[.int .i64 0] 30) := ⟨_, rfl⟩
  have hkV : Keep (fun _ => False) w V := by rw [hV]; exact (Keep.refl _ w).alloc _
  have hbV : V.heap[w.heap.size]? = some (.cells #[.int .i64 0] 30 (0, 0)) := by rw [hV]; exact block_new _ _
  have hbb := lt_of_block h.blk
  have hvl := h.lt
  have h1 := print1_any B bb xb ab nb r n v p l s vc vt ve V (h.keep hkV (fun e => e) (fun _ _ e => e)) hp hlen (Nat.le_trans hBw hkV.size) (hx.keep hkV (fun e => e)) (hkV.cellOf ha (fun e => e)) (hkV.cellOf hn (fun e => e)) (hg.far hkV) (hr.keep hkV) (hnm.keep hkV) (hq.far hkV) hm
  rw [hV] at h1
  have h2 := safely37_any _ _ _ _ w _ h1 (by
    intro e w' hq
    obtain ⟨hk, hq⟩ := hq
    refine ⟨hk.mono (fun b _ hb => ?_), ?_⟩
    · rcases hb with rfl | hb
      · exact hbb
      · exact (hvl b hb.symm).2
    · rcases hq with hq | ⟨_, c, _, hq⟩
      · exact .inl hq.2.1
      · exact .inr ⟨_, hq⟩)
  refine h2.mono ?_
  rintro e w3 ⟨e1, w2, hq, hk3, he⟩
  rw [← hV] at hq
  obtain ⟨hk2, hq⟩ := hq
  have hb2 : w2.heap[w.heap.size]? = some (.cells #[.int .i64 0] 30 (0, 0)) := hk2.at' hbV (by
    rintro (e | e)
    · omega
    · have := (hvl _ e.symm).2; omega)
  have hkk : Keep (fun k => k = bb ∨ some k = v.ownBlock) w w3 := ((hkV.mono (M' := fun k => k = bb ∨ some k = v.ownBlock) (fun _ _ e => e.elim)).trans' hk2).trans hk3 (fun b hb e => by omega)
  refine ⟨hkk, ?_⟩
  rcases hq with ⟨ho, rfl, v', hv⟩ | ⟨ho, c, hc, rfl⟩
  · rcases he with ⟨_, rfl⟩ | ⟨c2, h, _⟩
    · exact .inl ⟨ho, rfl, v', hv.keep hk3 (by omega) (fun g hg e => hv.notT hb2 (by decide) (e ▸ hg))⟩
    · cases h
  · rcases he with ⟨h, _⟩ | ⟨c2, h, rfl⟩
    · cases h
    · refine .inr ⟨ho, c, hc, ?_⟩
      injection h with h
      injection h with h h'
      injection h with h
      injection h with h h'
      injection h' with h'
      simp only [Array.mk.injEq, List.cons.injEq] at h'
      injection h'.1 with _ h''
      show Ending.returned _ = _
      rw [h'']
/-- steps to be read -/
def StepsRead (w : World) (v : Value) (l : List StepS) : Prop := ∃ L : List StepV, L.map (·.1) = l ∧ RowRead stepEnc 19 w v L ∧ ∀ p ∈ L, ReqRead w p.1.req p.2.1 p.2.2.1 p.2.2.2
theorem StepsRead.of_at {w : World} {base : Nat} {v : Value} {l : List StepS} (h : StepsAt w base v l) : StepsRead w v l := by
  obtain ⟨L, h1, h2, h3⟩ := h
  exact ⟨L, h1, RowRead.of_own (enc := stepEnc) (size := 19) (fun _ => rfl) h2, fun p hp => ReqRead.of_is (h3 p hp)⟩
theorem StepsRead.far {w w' : World} {v : Value} {l : List StepS} (h : StepsRead w v l) (hk : Keep (fun _ => False) w w') : StepsRead w' v l := by
  obtain ⟨L, h1, h2, h3⟩ := h
  exact ⟨L, h1, h2.keep hk (fun _ _ _ _ _ e => e), fun p hp => (h3 p hp).far hk⟩
theorem StepsRead.slice {w : World} {v : Value} {l : List StepS} (h : StepsRead w v l) : ∃ a c, v = .slice a l.length c := by
  obtain ⟨L, rfl, ⟨a, c, h, _⟩, _⟩ := h
  exact ⟨a, c, by rw [List.length_map]; exact h⟩
theorem StepsRead.at {w : World} {a : Option Addr} {c n : Nat} {l : List StepS} (h : StepsRead w (.slice a n c) l) (k : Nat) (hk : k < l.length) :
    ∃ b o vc vt ve, a = some ⟨b, o, none⟩ ∧ w.rangeAt b (o + k * 19) (stepCells l[k] vc vt ve).toList ∧ ReqRead w l[k].req vc vt ve := by
  obtain ⟨L, rfl, h2, h3⟩ := h
  have hkL : k < L.length := by simpa using hk
  obtain ⟨a', c', h4, h5⟩ := h2
  simp only [Value.slice.injEq] at h4
  obtain ⟨rfl, rfl, rfl⟩ := h4
  obtain ⟨b, o, h6, h7⟩ := h5 k L[k] (List.getElem?_eq_getElem hkL)
  refine ⟨b, o, L[k].2.1, L[k].2.2.1, L[k].2.2.2, h6, ?_, ?_⟩
  · simp only [List.getElem_map]
    exact h7
  · simp only [List.getElem_map]
    exact h3 _ (List.getElem_mem hkL)
/-- the state while the rules are ranged over and their names laid -/
structure NamesLoop (V : World) (r n it : Nat) (K js : List Nat) (wr : World) : Prop where
  keep : Keep (fun b => b = n ∨ b = it) V wr
  rls : MapL (fun x : Str => sv x) wr r (rl K)
  nms : MapL (fun x : Int => Value.int .i64 x) wr n (kl (come K js))
  iter : ∃ seen, Seen K seen js ∧ wr.heap[it]? = some (.mapIter (some r) K.length seen K.length)
  far : r ≠ n ∧ r ≠ it ∧ n ≠ it
theorem rl_length (K : List Nat) : (rl K).length = K.length := by simp [rl]
theorem kl_append (K : List Nat) (k : Nat) : kl (K ++ [k]) = kl K ++ [((k : Int), .agg #[sv (nm k)])] := by simp [kl]
theorem kl_new {K : List Nat} {k : Nat} (h : k ∉ K) : ∀ p ∈ kl K, p.1 ≠ (k : Int) := by
  intro p hp
  obtain ⟨j, hj, rfl⟩ := List.mem_map.1 hp
  intro e
  have e : (j : Int) = (k : Int) := e
  have : j = k := by omega
  exact h (this ▸ hj)
theorem NamesLoop.next {V : World} {r n it : Nat} {K js : List Nat} {wr : World} (h : NamesLoop V r n it K js wr) (hK : K.Nodup) (T0 : TypeId) (hn : n < V.heap.size) (hit : it < V.heap.size) :
    (js.Perm (List.range K.length) ∧ (Instr.next (.pointer (some ⟨it, 0, none⟩)) false T0).run Tryz.prog wr = .ok (.tuple #[.bool false]) wr) ∨
    ∃ k W2, k ∈ K ∧ (Instr.next (.pointer (some ⟨it, 0, none⟩)) false T0).run Tryz.prog wr = .ok (.tuple #[.bool true, sv (nm k), ruleV k]) W2 ∧
      (Instr.entry (.pointer (some ⟨it, 0, none⟩))).run Tryz.prog W2 = .ok (.tuple #[sv (nm k), ruleV k]) W2 ∧ Keep (fun b => b = n ∨ b = it) V W2 ∧
      ∀ X, Keep (fun _ => False) W2 X → ∃ W3, (Instr.mapUpdate 84 (.map (some n)) (.int .i64 (k : Int)) (.agg #[sv (nm k)])).run Tryz.prog X = .ok () W3 ∧
        (∃ j, NamesLoop V r n it K (js ++ [j]) W3) ∧ iterLeft W3 it < iterLeft wr it := by
  obtain ⟨seen, hs, hi⟩ := h.iter
  have hi' : wr.heap[it]? = some (.mapIter (some r) (rl K).length seen (rl K).length) := by rw [rl_length]; exact hi
  obtain ⟨f1, f2, f3⟩ := h.far
  rcases run_next (enc := fun x : Str => sv x) wr r it (rl K) seen T0 h.rls hi' with ⟨h0, hr⟩ | ⟨j, p, w1, hp, hj, hw, hr⟩
  · left
    rw [rl_length] at h0
    exact ⟨hs.all h0, hr⟩
  · right
    have hk1 : Keep (fun b => b = n ∨ b = it) V w1 := by
      rcases hw with rfl | rfl
      · exact h.keep
      · exact h.keep.drew
    have hh : w1.heap = wr.heap := by rcases hw with rfl | rfl <;> rfl
    rw [rl_length] at hj
    obtain ⟨hs', hnew⟩ := hs.push hj
    obtain ⟨hjl, -⟩ := leftNo_mem hj
    have hget : K.getD j 0 = K[j] := by simp [List.getD_eq_getElem?_getD, List.getElem?_eq_getElem hjl]
    have hkm : K.getD j 0 ∈ K := by rw [hget]; exact List.getElem_mem hjl
    have hpe : p = (nm (K.getD j 0), ruleV (K.getD j 0)) := by
      have : (rl K)[j]? = some (nm K[j], ruleV K[j]) := by simp [rl, List.getElem?_eq_getElem hjl]
      rw [this] at hp
      rw [hget]
      exact (Option.some.inj hp).symm
    subst hpe
    obtain ⟨W2, hW2⟩ : ∃ W2, W2 = setB w1 it (.mapIter (some r) (rl K).length (seen.push j) (rl K).length) := ⟨_, rfl⟩
    have hi2 : W2.heap[it]? = some (.mapIter (some r) (rl K).length (seen.push j) (rl K).length) := by rw [hW2]; exact setB_at (by rw [hh]; exact hi)
    have hr2 : MapL (fun x : Str => sv x) W2 r (rl K) := by
      unfold MapL
      rw [hW2, setB_other _ f2, hh]
      exact h.rls
    have hn2 : MapL (fun x : Int => Value.int .i64 x) W2 n (kl (come K js)) := by
      unfold MapL
      rw [hW2, setB_other _ f3, hh]
      exact h.nms
    have hk2 : Keep (fun b => b = n ∨ b = it) V W2 := by rw [hW2]; exact hk1.setB _ _ (.inr (.inr rfl))
    have hfresh : ¬ K.getD j 0 ∈ come K js := come_new hK hjl hs.lt hnew
    refine ⟨K.getD j 0, W2, hkm, by rw [hW2]; exact hr, run_entry W2 r it (rl K) seen j _ hr2 hi2 hp, hk2, fun X hX => ?_⟩
    have hnX : MapL (fun x : Int => Value.int .i64 x) X n (kl (come K js)) := hX.at' hn2 (fun e => e)
    have hput := run_put (intKeys .i64) Tryz.underlying84 Tryz.underlying3 X n _ hnX (K.getD j 0 : Int) (.agg #[sv (nm (K.getD j 0))]) (kl_new hfresh)
    refine ⟨_, hput, ⟨j, ((hk2.trans hX (fun _ _ e => e.elim)).setB _ _ (.inr (.inl rfl))), ?_, ?_, ⟨seen.push j, hs', ?_⟩, h.far⟩, ?_⟩
    · unfold MapL
      rw [setB_other _ f1]
      exact hX.at' hr2 (fun e => e)
    · rw [come_push, kl_append]
      exact setB_at hnX
    · rw [setB_other _ (fun e => f3 e.symm), hX.at' hi2 (fun e => e), rl_length]
    · have h1 : (setB X n (.map (mkE (fun x : Int => Value.int .i64 x) (kl (come K js) ++ [((K.getD j 0 : Int), Value.agg #[sv (nm (K.getD j 0))])])) (kl (come K js) ++ [((K.getD j 0 : Int), Value.agg #[sv (nm (K.getD j 0))])]).length)).heap[it]? = some (.mapIter (some r) (rl K).length (seen.push j) (rl K).length) := by
        rw [setB_other _ (fun e => f3 e.symm)]
        exact hX.at' hi2 (fun e => e)
      rw [iterLeft_eq h1, iterLeft_eq hi, rl_length]
      exact leftNo_push hj
end Go.Proofs.YtifliekahdgobaaGreatDoor
namespace Go.Proofs.YtifliekahdgobaaGreatDoor
open Go.RowKit Sp

def LensOk (x : StepS) : Prop := x.req.cmps.length ≤ 1000000 ∧ x.req.thn.length ≤ 1000000 ∧ x.req.els.length ≤ 1000000
set_option maxRecDepth 100000 in
set_option maxHeartbeats 3200000 in
theorem rSame_any (s1 s2 : ScriptS) (v1 v2 : Value) (w : World) (h1 : StepsRead w v1 s1.steps) (h2 : StepsRead w v2 s2.steps) (hlo : ∀ x ∈ s1.steps, LensOk x) (hn : s1.steps.length ≤ 1000000) :
    Calls Tryz.prog 11 #[.agg #[.int .i64 s1.nodes, v1], .agg #[.int .i64 s2.nodes, v2]] w (Tells (decide (s1 = s2)) w) := by
  obtain ⟨n1, l1⟩ := s1
  obtain ⟨n2, l2⟩ := s2
  dsimp only at h1 h2 hlo hn ⊢
  obtain ⟨a1, c1, rfl⟩ := h1.slice
  obtain ⟨a2, c2, rfl⟩ := h2.slice
  obtain ⟨N, hN⟩ : ∃ N, N = w.heap.size := ⟨_, rfl⟩
  obtain ⟨W, hW⟩ : ∃ W : World, W = (w.alloc (.cells #[.int .i64 n1, .slice a1 l1.length c1] 29)).alloc (.cells #[.int .i64 n2, .slice a2 l2.length c2] 29) := ⟨_, rfl⟩
  have hkW : Keep (fun _ => False) w W := by rw [hW]; exact ((Keep.refl _ w).alloc _).alloc _
  have hA : W.heap[N]? = some (.cells #[.int .i64 n1, .slice a1 l1.length c1] 29 (0, 0)) := by rw [hW, hN]; exact block_alloc (block_new _ _) _
  have hB : W.heap[N + 1]? = some (.cells #[.int .i64 n2, .slice a2 l2.length c2] 29 (0, 0)) := by rw [hW, hN]; exact block_new' _ _ (by simp)
  have d0 : W.cell? ⟨N, 0, none⟩ = some (.int .i64 n1) := cell_of_block hA 0
  have d1 : W.cell? ⟨N, 1, none⟩ = some (.slice a1 l1.length c1) := cell_of_block hA 1
  have e0 : W.cell? ⟨N + 1, 0, none⟩ = some (.int .i64 n2) := cell_of_block hB 0
  have e1 : W.cell? ⟨N + 1, 1, none⟩ = some (.slice a2 l2.length c2) := cell_of_block hB 1
  obtain ⟨r, hr⟩ : ∃ r, r = decide ((⟨n1, l1⟩ : ScriptS) = ⟨n2, l2⟩) := ⟨_, rfl⟩
  rw [← hr]
  have HR := Lib.hid hr
  have HW := Lib.hid hW
  have HKW := Lib.hid hkW
  have HA := Lib.hid hA
  have HB := Lib.hid hB
  have H1 := Lib.hid (h1.far hkW)
  have H2 := Lib.hid (h2.far hkW)
  have HLO := Lib.hid hlo
  subst hN
  clear hr hW hkW hA hB h1 h2 hlo
  by_cases hq : n1 = n2
  rotate_left
  · have g1 : (n1 != n2) = true := by rw [bne_iff_ne]; exact hq
    have HE := Lib.hid (show r = false by rw [HR.out]; exact decide_eq_false (fun e => hq (by injection e)))
    clear hq
    go_enter Tryz.func11, Tryz.ntmps11
    go_upto_region 1 with fail
    rw [← HW.out]
    go_wp2_with fail
    go_ret
    exact ⟨by rw [HE.out]; rfl, HKW.out⟩
  have g1 : (n1 != n2) = false := by rw [bne_eq_false_iff_eq]; exact hq
  have HQ := Lib.hid hq
  clear hq
  by_cases hl : l1.length = l2.length
  rotate_left
  · have g2 : ((l1.length : Int) != (l2.length : Int)) = true := by rw [bne_iff_ne]; omega
    have HE := Lib.hid (show r = false by rw [HR.out]; exact decide_eq_false (fun e => hl (by injection e with _ e; rw [e])))
    clear hl
    go_enter Tryz.func11, Tryz.ntmps11
    go_upto_region 1 with fail
    rw [← HW.out]
    go_wp2_with fail
    go_ret
    exact ⟨by rw [HE.out]; rfl, HKW.out⟩
  have g2 : ((l1.length : Int) != (l2.length : Int)) = false := by rw [bne_eq_false_iff_eq, hl]
  have HL := Lib.hid hl
  clear hl
  go_enter Tryz.func11, Tryz.ntmps11
  go_upto_region 1 with fail
  rw [← HW.out]
  go_wp2_with fail
  clear d0 d1 e0 e1 g1 g2 HW
  generalize w.heap.size = N at *
  go_loopw [5] (fun v5 wr => ∃ k : Nat, k ≤ l1.length ∧ v5 = .int .i64 k ∧ Hid (l1.take k = l2.take k) ∧ Keep (fun _ => False) W wr) (fun v5 _ => l1.length - (intOf v5).toNat)
  case atStart => exact ⟨0, Nat.zero_le _, rfl, Lib.hid rfl, Keep.refl _ _⟩
  case round =>
    obtain ⟨k, hk, rfl, HT, hkr⟩ := hrel
    have x1 : wr.cell? ⟨N, 1, none⟩ = some (.slice a1 l1.length c1) := cell_of_block (hkr.at' HA.out (fun e => e)) 1
    by_cases hlt : k < l1.length
    · have hlt2 : k < l2.length := by have := HL.out; omega
      obtain ⟨b, o, vc, vt, ve, ha, hrng, hrr⟩ := (H1.out.far hkr).at k hlt
      obtain ⟨b', o', vc', vt', ve', ha', hrng', hrr'⟩ := (H2.out.far hkr).at k hlt2
      subst ha ha'
      have hlx := HLO.out _ (List.getElem_mem hlt)
      have hs : l1[k]'hlt = l2[k]'hlt2 → l1.take (k + 1) = l2.take (k + 1) := fun he => take_step hlt hlt2 HT.out he
      have hne : ¬ l1[k]'hlt = l2[k]'hlt2 → ¬ l1 = l2 := fun he => ne_at (l1 := l1) (l2 := l2) hlt hlt2 he
      have hlt' : (k : Int) < (l1.length : Int) := by omega
      have hlt2' : (k : Int) < (l2.length : Int) := by omega
      have hk0 : (0 : Int) ≤ (k : Int) := by omega
      generalize l1[k] = x at *
      generalize l2[k] = y at *
      obtain ⟨cx, hcx⟩ : ∃ c, c = stepCells x vc vt ve := ⟨_, rfl⟩
      obtain ⟨cy, hcy⟩ : ∃ c, c = stepCells y vc' vt' ve' := ⟨_, rfl⟩
      rw [← hcx] at hrng
      rw [← hcy] at hrng'
      have HS : ∀ w', Keep (fun _ => False) wr w' → Keep (fun _ => False) wr w' ∧ w'.cell? ⟨N, 1, none⟩ = some (.slice (some ⟨b, o, none⟩) l1.length c1) ∧ w'.cell? ⟨N + 1, 1, none⟩ = some (.slice (some ⟨b', o', none⟩) l2.length c2) ∧
          (ldT 63 (.pointer (some ⟨b, o + k * 19, none⟩))).run Tryz.prog w' = .ok (.value (.agg cx)) w' ∧ (ldT 63 (.pointer (some ⟨b', o' + k * 19, none⟩))).run Tryz.prog w' = .ok (.value (.agg cy)) w' := fun w' hk' =>
        ⟨hk', cell_of_block ((hkr.trans' hk').at' HA.out (fun e => e)) 1, cell_of_block ((hkr.trans' hk').at' HB.out (fun e => e)) 1,
          run_ld63 w' b _ cx (by rw [hcx]; rfl) (fun j u hu => hk'.cellOf (hrng j u hu) (fun e => e)), run_ld63 w' b' _ cy (by rw [hcy]; rfl) (fun j u hu => hk'.cellOf (hrng' j u hu) (fun e => e))⟩
      have HSH := Lib.hid HS
      have HCALL := Lib.hid (fun w' (hk' : Keep (fun _ => False) wr w') => (by
        rw [hcx, hcy]
        exact rsame_any x y vc vt ve vc' vt' ve' w' (hrr.far hk') (hrr'.far hk') hlx : Calls Tryz.prog 32 #[.agg cx, .agg cy] w' (Tells (decide (x = y)) w')))
      have HSE := Lib.hid hs
      have HNE := Lib.hid hne
      have HKR := Lib.hid hkr
      clear HS hs hne hkr hrng hrng' hrr hrr' hlx hcx hcy HT
      by_cases hxy : x = y
      · have hd : decide (x = y) = true := decide_eq_true hxy
        have HE := Lib.hid hxy
        clear hxy
        go_wp2_with fail
        go_region_held3 (fun w' => Keep (fun _ => False) wr w' ∧ w'.cell? ⟨N, 1, none⟩ = some (.slice (some ⟨b, o, none⟩) l1.length c1) ∧ w'.cell? ⟨N + 1, 1, none⟩ = some (.slice (some ⟨b', o', none⟩) l2.length c2) ∧ (ldT 63 (.pointer (some ⟨b, o + k * 19, none⟩))).run Tryz.prog w' = .ok (.value (.agg cx)) w' ∧ (ldT 63 (.pointer (some ⟨b', o' + k * 19, none⟩))).run Tryz.prog w' = .ok (.value (.agg cy)) w')
          (first | exact HSH.out _ ((Keep.refl _ _).drew) | exact HSH.out _ (held_call (by assumption) (by assumption)))
          (first | (go_at_call 32; refine (HCALL.out _ (And.left (by assumption))).mono ?_; rintro e w' ⟨rfl, hk⟩))
        have hkn := Lib.hid (And.left (by assumption : Keep (fun _ => False) wr _ ∧ _))
        go_wp2_with fail
        exact ⟨⟨k + 1, by omega, by go_num, Lib.hid (HSE.out HE.out), HKR.out.trans' hkn.out⟩, by simp [intOf]; omega⟩
      · have hd : decide (x = y) = false := decide_eq_false hxy
        have HE := Lib.hid hxy
        clear hxy
        go_wp2_with fail
        go_region_held3 (fun w' => Keep (fun _ => False) wr w' ∧ w'.cell? ⟨N, 1, none⟩ = some (.slice (some ⟨b, o, none⟩) l1.length c1) ∧ w'.cell? ⟨N + 1, 1, none⟩ = some (.slice (some ⟨b', o', none⟩) l2.length c2) ∧ (ldT 63 (.pointer (some ⟨b, o + k * 19, none⟩))).run Tryz.prog w' = .ok (.value (.agg cx)) w' ∧ (ldT 63 (.pointer (some ⟨b', o' + k * 19, none⟩))).run Tryz.prog w' = .ok (.value (.agg cy)) w')
          (first | exact HSH.out _ ((Keep.refl _ _).drew) | exact HSH.out _ (held_call (by assumption) (by assumption)))
          (first | (go_at_call 32; refine (HCALL.out _ (And.left (by assumption))).mono ?_; rintro e w' ⟨rfl, hk⟩))
        have hkn := Lib.hid (And.left (by assumption : Keep (fun _ => False) wr _ ∧ _))
        go_wp2_with fail
        go_ret
        have HE2 : r = false := by rw [HR.out]; exact decide_eq_false (fun e => HNE.out HE.out (by injection e))
        exact ⟨by rw [HE2]; rfl, (HKW.out.trans' HKR.out).trans' hkn.out⟩
    · have hge : ¬ (k : Int) < (l1.length : Int) := by omega
      have HE := Lib.hid (show r = true by
        rw [HR.out]
        have := HT.out
        obtain rfl : k = l1.length := by omega
        rw [List.take_length, HL.out, List.take_length] at this
        rw [HQ.out, this]
        simp)
      have HKR := Lib.hid hkr
      clear HT hkr
      go_wp2_with fail
      go_ret
      exact ⟨by rw [HE.out]; rfl, HKW.out.trans' HKR.out⟩
end Go.Proofs.YtifliekahdgobaaGreatDoor
namespace Go.Proofs.YtifliekahdgobaaGreatDoor
open Go.RowKit Sp

/-- what Print comes to -/
def GotPrint (s : ScriptS) (w : World) (e : Ending) (w' : World) : Prop :=
  Keep (fun _ => False) w w' ∧ ((okScript s = true ∧ e = .returned (.tuple #[sv (text s), .int .i64 0])) ∨ (okScript s = false ∧ e = .returned (.tuple #[sv [], .int .i64 2])))
theorem script_not {s : ScriptS} (h : s.nodes < 1 ∨ 7 < s.nodes ∨ 4096 < s.steps.length) : okScript s = false := by
  cases ho : okScript s
  · rfl
  · have := (okScript_iff s).1 ho
    omega
theorem script_not_step {s : ScriptS} {k : Nat} (hk : k < s.steps.length) (h : okStep s.steps[k] = false) : okScript s = false := by
  cases ho : okScript s
  · rfl
  · have h1 := ((okScript_iff s).1 ho).2.2
    have := List.all_eq_true.1 h1 _ (List.getElem_mem hk)
    rw [h] at this
    cases this
/-- the state of Print's loop -/
structure PrLoop (V0 : World) (bb : Nat) (nodes : Int) (steps : List StepS) (k : Nat) (wr : World) : Prop where
  buf : ∃ v, BufAt wr bb bb v (selfP bb) (nodesLine nodes ++ (steps.take k).flatMap stepLine)
  keep : Keep (fun _ => False) V0 wr
  ok : ∀ x ∈ steps.take k, okStep x = true
  len : (nodesLine nodes ++ (steps.take k).flatMap stepLine).length ≤ 1000 + k * 900000300
set_option maxRecDepth 100000 in
set_option maxHeartbeats 1600000 in
theorem mprint_early (nodes : Int) (steps : List StepS) (vs : Value) (w : World) (hs : StepsRead w vs steps) (h : nodes < 1 ∨ 7 < nodes ∨ 4096 < steps.length) :
    Calls Tryz.prog 15 #[.agg #[.int .i64 nodes, vs]] w (GotPrint ⟨nodes, steps⟩ w) := by
  obtain ⟨a, c, rfl⟩ := hs.slice
  have HN := Lib.hid (script_not (s := ⟨nodes, steps⟩) h)
  have hk : Keep (fun _ => False) w (w.alloc (.cells #[.int .i64 nodes, .slice a steps.length c] 24)) := (Keep.refl _ w).alloc _
  have HK := Lib.hid hk
  clear hk hs
  by_cases h1 : nodes < 1
  · have g1 : decide (nodes < 1) = true := decide_eq_true h1
    clear h h1
    go_enter Tryz.func15, Tryz.ntmps15
    go_wp2_with fail
    go_ret2
    exact ⟨HK.out, .inr ⟨HN.out, rfl⟩⟩
  · have g1 : decide (nodes < 1) = false := decide_eq_false h1
    by_cases h2 : 7 < nodes
    · have g2 : decide (7 < nodes) = true := decide_eq_true h2
      clear h h1 h2
      go_enter Tryz.func15, Tryz.ntmps15
      go_wp2_with fail
      go_ret2
      exact ⟨HK.out, .inr ⟨HN.out, rfl⟩⟩
    · have g2 : decide (7 < nodes) = false := decide_eq_false h2
      have g3 : decide ((4096 : Int) < (steps.length : Int)) = true := decide_eq_true (by omega)
      clear h h1 h2
      go_enter Tryz.func15, Tryz.ntmps15
      go_wp2_with fail
      go_ret2
      exact ⟨HK.out, .inr ⟨HN.out, rfl⟩⟩
set_option maxRecDepth 100000 in
set_option maxHeartbeats 6400000 in
theorem mprint_go (nodes : Int) (steps : List StepS) (vs : Value) (w : World) (hg : Glob w) (hs : StepsRead w vs steps) (hm : ∀ x ∈ steps, MidStep x) (h1 : 1 ≤ nodes) (h7 : nodes ≤ 7) (hl : steps.length ≤ 4096) :
    Calls Tryz.prog 15 #[.agg #[.int .i64 nodes, vs]] w (GotPrint ⟨nodes, steps⟩ w) := by
  obtain ⟨a, c, rfl⟩ := hs.slice
  have hmm := @run_makeMap Tryz.prog
  obtain ⟨N0, hN0⟩ : ∃ N, N = w.heap.size := ⟨_, rfl⟩
  obtain ⟨W, hW⟩ : ∃ W : World, W = w.alloc (.cells #[.int .i64 nodes, .slice a steps.length c] 24) := ⟨_, rfl⟩
  have hkW : Keep (fun _ => False) w W := by rw [hW]; exact (Keep.refl _ w).alloc _
  have hbW : W.heap[N0]? = some (.cells #[.int .i64 nodes, .slice a steps.length c] 24 (0, 0)) := by rw [hW, hN0]; exact block_new _ _
  have c0 : W.cell? ⟨N0, 0, none⟩ = some (.int .i64 nodes) := cell_of_block hbW 0
  have c1 : W.cell? ⟨N0, 1, none⟩ = some (.slice a steps.length c) := cell_of_block hbW 1
  have g1 : decide (nodes < 1) = false := decide_eq_false (by omega)
  have g2 : decide (7 < nodes) = false := decide_eq_false (by omega)
  have g3 : decide ((4096 : Int) < (steps.length : Int)) = false := decide_eq_false (by omega)
  have HR := Lib.hid (rules_any W)
  have HG := Lib.hid (hg.far hkW)
  have HS := Lib.hid (hs.far hkW)
  have HM := Lib.hid hm
  have HW := Lib.hid hW
  have HN0 := Lib.hid hN0
  have HKW := Lib.hid hkW
  have HBW := Lib.hid hbW
  clear hg hs hm hW hN0 hkW hbW
  go_enter Tryz.func15, Tryz.ntmps15
  go_upto_region 1 with fail
  rw [← HW.out, ← HN0.out]
  clear HW
  go_wp2_with fail
  refine HR.out.mono ?_
  rintro e w1 ⟨r, rfl, hra, hrW, hk1⟩
  obtain ⟨K, hKp, hKm⟩ := hra
  have hrlt := lt_of_block hKm
  obtain ⟨n, hn⟩ : ∃ n, n = w1.heap.size := ⟨_, rfl⟩
  obtain ⟨V, hV⟩ : ∃ V : World, V = ((w1.alloc (.map #[] 0)).alloc (.cells #[.map (some r)] 82)).alloc (.cells #[.map (some n)] 84) := ⟨_, rfl⟩
  have hkV : Keep (fun _ => False) w1 V := by rw [hV]; exact (((Keep.refl _ w1).alloc _).alloc _).alloc _
  have hVs : V.heap.size = n + 3 := by rw [hV, hn]; simp
  have hVn : MapL (fun x : Int => Value.int .i64 x) V n (kl []) := by
    unfold MapL
    rw [hV, hn]
    exact block_alloc (block_alloc (block_new _ _) _) _
  have hVa : V.heap[n + 1]? = some (.cells #[.map (some r)] 82 (0, 0)) := by
    rw [hV]
    exact block_alloc (block_new' _ _ (by rw [hn]; simp)) _
  have hVb : V.heap[n + 2]? = some (.cells #[.map (some n)] 84 (0, 0)) := by
    rw [hV]
    exact block_new' _ _ (by rw [hn]; simp)
  have hVr : MapL (fun x : Str => sv x) V r (rl K) := hkV.at' hKm (fun e => e)
  obtain ⟨C, hC⟩ : ∃ C : World, C = V.alloc (.mapIter (some r) K.length #[] K.length) := ⟨_, rfl⟩
  have hrg : (Instr.range 82 (.map (some r))).run Tryz.prog V = .ok (.pointer (some ⟨n + 3, 0, none⟩)) C := by
    have := run_range (enc := fun x : Str => sv x) Tryz.underlying82 V r (rl K) hVr
    rw [rl_length, hVs] at this
    rw [hC]; exact this
  have hkC : Keep (fun _ => False) V C := by rw [hC]; exact (Keep.refl _ V).alloc _
  have hCi : C.heap[n + 3]? = some (.mapIter (some r) K.length #[] K.length) := by rw [hC]; exact block_new' _ _ hVs.symm
  have hNL : NamesLoop C r n (n + 3) K [] C := ⟨Keep.refl _ _, hkC.at' hVr (fun e => e), hkC.at' hVn (fun e => e), ⟨#[], Seen.zero _, hCi⟩, by omega⟩
  have hCs : C.heap.size = n + 4 := by rw [hC]; simp [hVs]
  have cV : V.cell? ⟨n + 1, 0, none⟩ = some (.map (some r)) := cell_of_block hVa 0
  have hKC : Keep (fun _ => False) W C := (hk1.trans' hkV).trans' hkC
  have HVE := Lib.hid (show V = ((w1.alloc (.map #[] 0)).alloc (.cells #[.map (some r)] 82)).alloc (.cells #[.map (some w1.heap.size)] 84) by rw [hV, hn])
  have HNN := Lib.hid hn
  have HNL := Lib.hid hNL
  have HNW := Lib.hid (show W.heap.size ≤ n by rw [hn]; exact hk1.size)
  have HKC := Lib.hid hKC
  have HKP := Lib.hid hKp
  have HVA := Lib.hid (hkC.at' hVa (fun e => e))
  have HVB := Lib.hid (hkC.at' hVb (fun e => e))
  have HCS := Lib.hid hCs
  have HGC := Lib.hid (HG.out.far hKC)
  clear hKm hrlt hn hV hkV hVs hVn hVa hVb hVr hC hkC hCi hNL hCs hKC hk1 hKp HR hrW c0
  go_upto_region 4 with fail
  rw [← HVE.out, ← HNN.out]
  clear HVE hmm
  go_wp2_with fail
  clear hrg cV HNN
  go_loopw [6, 7] (fun v6 v7 wr => ∃ js, Hid (NamesLoop C r n (n + 3) K js wr)) (fun _ _ wr => iterLeft wr (n + 3))
  case atStart => exact ⟨[], HNL⟩
  case round =>
    obtain ⟨js, HST⟩ := hrel
    rcases HST.out.next (HKP.out.nodup_iff.2 List.nodup_range) 0 (by have := HCS.out; omega) (by have := HCS.out; omega) with ⟨hall, hnx⟩ | ⟨k, W2, hk, hnx, hen, hk2, hup⟩
    · have HALL := Lib.hid hall
      clear hall
      have hkr : Keep (fun _ => False) W wr := HKC.out.trans HST.out.keep (fun b hb e => by have := HNW.out; omega)
      have HRU := Lib.hid (show RulesAt wr r from ⟨K, HKP.out, HST.out.rls⟩)
      have HNA := Lib.hid (show NamesAt wr n from ⟨come K js, (come_all HALL.out).trans HKP.out, HST.out.nms⟩)
      have HCA := Lib.hid (show wr.cell? ⟨n + 1, 0, none⟩ = some (.map (some r)) from cell_of_block (HST.out.keep.at' HVA.out (by omega)) 0)
      have HCB := Lib.hid (show wr.cell? ⟨n + 2, 0, none⟩ = some (.map (some n)) from cell_of_block (HST.out.keep.at' HVB.out (by omega)) 0)
      have HBR := Lib.hid (hkr.at' HBW.out (fun e => e))
      have HGR := Lib.hid (HG.out.far hkr)
      have HSR := Lib.hid (HS.out.far hkr)
      have HKR := Lib.hid (HKW.out.trans' hkr)
      obtain ⟨V0, rfl⟩ : ∃ V : World, V = wr := ⟨_, rfl⟩
      clear hkr HST HALL HNL HKC HVA HVB HCS HGC HG HS HKW HBW HKP HNW HN0
      have hnl : (nodesLine nodes).length ≤ 200 := by have := itoa_len nodes; unfold nodesLine wNodes; simp; omega
      obtain ⟨V1, hV1⟩ : ∃ V : World, V = V0.alloc (.cells #[.pointer none, .slice none 0 0] 93) := ⟨_, rfl⟩
      have hk1 : Keep (fun _ => False) V0 V1 := by rw [hV1]; exact (Keep.refl _ V0).alloc _
      have hB1 : BufAt V1 V0.heap.size V0.heap.size nilS (.pointer none) [] := ⟨by rw [hV1]; exact block_new _ _, World.ownsRow_nil _ _ _ _, (fun e => by cases e), Nat.le_refl _⟩
      have d0 : V1.cell? ⟨N0, 0, none⟩ = some (.int .i64 nodes) := hk1.cellOf (cell_of_block HBR.out 0) (fun e => e)
      have hil := itoa_len nodes
      obtain ⟨A, hA⟩ : ∃ A : Str, A = [110, 111, 100, 101, 115, 32] ++ itoa nodes := ⟨_, rfl⟩
      have e1 : (⟨#[110, 111, 100, 101, 115, 32]⟩ : ByteArray) ++ ⟨(itoa nodes).toArray⟩ = ⟨A.toArray⟩ := by rw [hA]; exact ba_append [110, 111, 100, 101, 115, 32] _
      obtain ⟨T0, hT0⟩ : ∃ T : Str, T = nodesLine nodes := ⟨_, rfl⟩
      have e2 : (⟨A.toArray⟩ : ByteArray) ++ ⟨#[10]⟩ = ⟨T0.toArray⟩ := by
        rw [hT0, hA]
        have := ba_append ([110, 111, 100, 101, 115, 32] ++ itoa nodes) [10]
        rw [this]
        unfold nodesLine wNodes
        simp
      have hAl : A.length ≤ 200 := by rw [hA]; simp; omega
      rw [← hT0] at hnl
      have HT0 := Lib.hid hT0
      have HB1 := Lib.hid hB1
      have HK1 := Lib.hid hk1
      have HV1 := Lib.hid hV1
      have HIT := Lib.hid (itoa_any nodes (by omega) (by omega) V1 (HGR.out.far hk1))
      clear hA hT0 hB1 hk1 hV1
      go_upto_region 9 with fail
      rw [← HV1.out]
      clear HV1
      go_wp2_with fail
      refine HIT.out.mono ?_
      rintro e w2 ⟨rfl, hk2⟩
      have HWS := Lib.hid (writeString_any V0.heap.size V0.heap.size nilS (.pointer none) [] T0 w2 (HB1.out.keep hk2 (fun e => e) (fun _ _ e => e)) (.inl rfl) (by simp; omega) (Nat.le_trans HK1.out.size hk2.size))
      have HK2 := Lib.hid (HK1.out.trans' hk2)
      clear hk2 HIT d0
      go_wp2_with fail
      refine HWS.out.mono ?_
      rintro e w3 ⟨rfl, ⟨v3, hv3⟩, hk3⟩
      have hk03 : Keep (fun _ => False) V0 w3 := HK2.out.trans hk3 (fun b hb e => by
        rcases e with e | e
        · omega
        · cases e)
      have d1 : w3.cell? ⟨N0, 1, none⟩ = some (.slice a steps.length c) := hk03.cellOf (cell_of_block HBR.out 1) (fun e => e)
      have HPL : Hid (PrLoop V0 V0.heap.size nodes steps 0 w3) := Lib.hid ⟨⟨v3, by
        rw [← HT0.out]
        simpa using hv3⟩, hk03, by simp, by rw [← HT0.out]; simp; omega⟩
      clear hv3 hk3 hk03 HWS HB1
      go_wp2_with fail
      clear d1 c1 hnx g1 g2 g3 e1 e2
      go_loopw [10, 48] (fun v10 v48 wr => ∃ k : Nat, k ≤ steps.length ∧ v48 = .int .i64 k ∧ Hid (PrLoop V0 V0.heap.size nodes steps k wr)) (fun _ v48 _ => steps.length - (intOf v48).toNat)
      case atStart => exact ⟨0, Nat.zero_le _, rfl, HPL⟩
      case round =>
        obtain ⟨k, hk, rfl, PL⟩ := hrel
        obtain ⟨v, hv⟩ := PL.out.buf
        by_cases hlt : k < steps.length
        · have hlt' : (k : Int) < (steps.length : Int) := by omega
          have hkr := PL.out.keep
          obtain ⟨b, o, vc, vt, ve, ha, hrng, hrr⟩ := (HSR.out.far hkr).at k hlt
          subst ha
          have hmx := HM.out _ (List.getElem_mem hlt)
          have hst2 : (steps.take (k + 1)).flatMap stepLine = (steps.take k).flatMap stepLine ++ stepLine steps[k] := by
            rw [List.take_succ_eq_append_getElem hlt, List.flatMap_append]
            simp
          have htk : ∀ x ∈ steps.take (k + 1), x ∈ steps.take k ∨ x = steps[k] := by
            intro x hx
            rw [List.take_succ_eq_append_getElem hlt] at hx
            rcases List.mem_append.1 hx with h | h
            · exact .inl h
            · exact .inr (by simpa using h)
          have HBAD : Hid (okStep (steps[k]'hlt) = false → okScript ⟨nodes, steps⟩ = false) := Lib.hid (fun h => script_not_step (s := ⟨nodes, steps⟩) hlt h)
          have hxl : okStep (steps[k]'hlt) = true → (Sp.stepText (steps[k]'hlt)).length ≤ 900000200 := stepText_le _ hmx
          generalize steps[k] = x at *
          obtain ⟨cs, hcs⟩ : ∃ cs, cs = stepCells x vc vt ve := ⟨_, rfl⟩
          have hone : cs.all (·.oneCell') = true := by
            obtain ⟨⟨a1, c1, r1, -⟩, ⟨a2, c2, r2, -⟩, ⟨a3, c3, r3, -⟩⟩ := hrr
            rw [hcs, r1, r2, r3]
            exact stepCells_one _ _ _ _ rfl rfl rfl
          rw [← hcs] at hrng
          have hld := run_ld63 wr b (o + k * 19) cs (by rw [hcs]; rfl) hrng
          have hz := block_new wr (.cells (stepCells .zero nilS nilS nilS) 63 (0, 0))
          have hst := run_st63 (wr.alloc (.cells (stepCells .zero nilS nilS nilS) 63 (0, 0))) wr.heap.size 0 cs (there_of_block hz (Nat.le_refl 19)) (by rw [hcs]; rfl) hone
          obtain ⟨X, hX⟩ : ∃ X : World, X = (wr.alloc (.cells (stepCells .zero nilS nilS nilS) 63 (0, 0))).setCells wr.heap.size 0 cs.toList := ⟨_, rfl⟩
          rw [← hX] at hst
          have hst3 : (stT 63 (.pointer (some ⟨wr.heap.size, 0, none⟩)) (.agg cs)).run Tryz.prog (wr.alloc (.cells #[.int .i64 0, .int .i64 0, .int .u64 0, .int .i64 0, .int .u64 0, .int .u64 0, .bool false, .slice none 0 0, .slice none 0 0, .slice none 0 0, .int .u64 0, .int .u64 0, .string ⟨#[]⟩, .string ⟨#[]⟩, .int .u64 0, .bool false, .bool false, .bool false, .bool false] 63)) = .ok .skip X := hst
          clear hst
          have hbX : StepBlk X wr.heap.size x vc vt ve := ⟨by
            have h9 := block_setCells_all hz cs.toList (by rw [hcs]; rfl)
            rw [Array.toArray_toList, hcs] at h9
            rw [hX, hcs]
            exact h9⟩
          have hkX : Keep (fun _ => False) wr X := by rw [hX]; exact ((Keep.refl _ wr).alloc _).setCells _ _ _ (.inl (Nat.le_refl _))
          have hkVX := hkr.trans' hkX
          have hlen := PL.out.len
          have hk4 : k ≤ 4096 := by omega
          have HSP := Lib.hid (safe_print V0.heap.size V0.heap.size wr.heap.size (n + 1) (n + 2) r n v (selfP V0.heap.size) _ x vc vt ve X (hv.keep hkX (fun e => e) (fun _ _ e => e)) (.inr rfl) (by omega) (Nat.le_trans hkr.size hkX.size) hbX (hkVX.cellOf HCA.out (fun e => e)) (hkVX.cellOf HCB.out (fun e => e)) (HGR.out.far hkVX) (HRU.out.keep hkVX) (HNA.out.keep hkVX) (hrr.far hkX) hmx)
          have HKV := Lib.hid hkVX
          have HVL := Lib.hid (fun g hg => (hv.lt g hg).1)
          have HST2 := Lib.hid hst2
          have HTK := Lib.hid htk
          have HXL := Lib.hid hxl
          have HLEN := Lib.hid hlen
          clear hkr hrr hmx hst2 htk hxl hcs hone hrng hz hX hbX hkX hkVX hlen hv
          go_wp2_with fail
          refine HSP.out.mono ?_
          rintro e w4 ⟨hk4', ⟨ho, rfl, v', hv'⟩ | ⟨ho, c', hc', rfl⟩⟩
          · have HKN := Lib.hid (show Keep (fun _ => False) V0 w4 from HKV.out.trans hk4' (fun b hb e => by
              rcases e with e | e
              · omega
              · have := HVL.out b e.symm; omega))
            have HPN : Hid (PrLoop V0 V0.heap.size nodes steps (k + 1) w4) := Lib.hid ⟨⟨v', by rw [HST2.out, ← List.append_assoc]; exact hv'⟩, HKN.out, fun y hy => by
              rcases HTK.out y hy with h | h
              · exact PL.out.ok y h
              · rw [h]; exact ho, by
              rw [HST2.out, ← List.append_assoc, List.length_append]
              have h8 := HLEN.out
              have h9 := HXL.out ho
              have h10 : (stepLine x).length = (Sp.stepText x).length + 1 := by unfold stepLine; simp
              omega⟩
            clear hk4' hv' ho
            go_wp2_with fail
            exact ⟨⟨k + 1, by omega, by go_num, HPN⟩, by simp [intOf]; omega⟩
          · have hc0 : (c' != 0) = true := by rw [bne_iff_ne]; omega
            have HKN := Lib.hid (show Keep (fun _ => False) V0 w4 from HKV.out.trans hk4' (fun b hb e => by
              rcases e with e | e
              · omega
              · have := HVL.out b e.symm; omega))
            have HNO := Lib.hid (HBAD.out ho)
            clear hk4' ho hc'
            go_wp2_with fail
            go_ret2
            exact ⟨HKR.out.trans' HKN.out, .inr ⟨HNO.out, rfl⟩⟩
        · have hge : ¬ (k : Int) < (steps.length : Int) := by omega
          obtain rfl : k = steps.length := by omega
          rw [List.take_length] at hv
          have HOKS := Lib.hid (show okScript ⟨nodes, steps⟩ = true from (okScript_iff _).2 ⟨⟨h1, h7⟩, hl, List.all_eq_true.2 (fun x hx => PL.out.ok x (by rw [List.take_length]; exact hx))⟩)
          have HSTR := Lib.hid (Tryz.Builder_String_any V0.heap.size V0.heap.size (nodesLine nodes ++ steps.flatMap stepLine) wr (.inr hv.at') PL.out.keep.size)
          have HKP := Lib.hid PL.out.keep
          clear hv
          go_wp2_with fail
          refine HSTR.out.mono ?_
          rintro e w4 ⟨rfl, hb4⟩
          have HK4 := Lib.hid (HKP.out.trans (Keep.of_below' (M := fun b => V0.heap.size ≤ b) hb4 (fun b _ hb => hb)) (fun b hb e => by omega))
          clear hb4
          go_wp2_with fail
          go_ret2
          exact ⟨HKR.out.trans' HK4.out, .inl ⟨HOKS.out, rfl⟩⟩
    · obtain ⟨X, hX⟩ : ∃ X : World, X = (W2.alloc (.cells #[.int .i64 0, .bool false, .nilFunc, .nilFunc] 88)).setCells W2.heap.size 0 (ruleCells k (decide (2 < k)) (readF k) (writeF k)).toList := ⟨_, rfl⟩
      have hkX : Keep (fun _ => False) W2 X := by rw [hX]; exact ((Keep.refl _ W2).alloc _).setCells _ _ _ (.inl (Nat.le_refl _))
      have hst : (stT 88 (.pointer (some ⟨W2.heap.size, 0, none⟩)) (ruleV k)).run Tryz.prog (W2.alloc (.cells #[.int .i64 0, .bool false, .nilFunc, .nilFunc] 88)) = .ok .skip X := by
        rw [hX]
        exact run_st88 _ _ 0 _ (there_of_block (block_new _ _) (Nat.le_refl 4)) rfl (by simp [ruleCells, one_int, one_bool, one_func])
      have hbX : X.heap[W2.heap.size]? = some (.cells (ruleCells k (decide (2 < k)) (readF k) (writeF k)) 88 (0, 0)) := by
        have h9 := block_setCells_all (block_new W2 (.cells #[.int .i64 0, .bool false, .nilFunc, .nilFunc] 88)) (ruleCells k (decide (2 < k)) (readF k) (writeF k)).toList rfl
        rw [Array.toArray_toList] at h9
        rw [hX]
        exact h9
      have cX : X.cell? ⟨W2.heap.size, 0, none⟩ = some (.int .i64 (k : Int)) := cell_of_block hbX 0
      have cN : X.cell? ⟨n + 2, 0, none⟩ = some (.map (some n)) := cell_of_block (hkX.at' (hk2.at' HVB.out (by omega)) (fun e => e)) 0
      obtain ⟨W3, hpu, ⟨j, hlp⟩, hlt⟩ := hup X hkX
      have HLP := Lib.hid hlp
      have HLT := Lib.hid hlt
      clear hX hkX hbX hlp hlt hup hk2 hk
      go_wp2_with fail
      exact ⟨⟨_, HLP⟩, HLT.out⟩
theorem mprint_any (nodes : Int) (steps : List StepS) (vs : Value) (w : World) (hg : Glob w) (hs : StepsRead w vs steps) (hm : ∀ x ∈ steps, MidStep x) :
    Calls Tryz.prog 15 #[.agg #[.int .i64 nodes, vs]] w (GotPrint ⟨nodes, steps⟩ w) := by
  by_cases h : nodes < 1 ∨ 7 < nodes ∨ 4096 < steps.length
  · exact mprint_early nodes steps vs w hs h
  · exact mprint_go nodes steps vs w hg hs hm (by omega) (by omega) (by omega)
end Go.Proofs.YtifliekahdgobaaGreatDoor
namespace Go.Proofs.YtifliekahdgobaaGreatDoor
open Go.RowKit Sp

theorem info29b : (Tryz.prog.info? 29).map (·.size) = some 2 := by kernel_rfl
set_option maxRecDepth 100000 in
theorem ours_any (n : Int) (a : Option Addr) (k c : Nat) (w : World) : Calls Tryz.prog 12 #[.agg #[.int .i64 n, .slice a k c]] w fun e w' => e = .returned (.agg #[.int .i64 n, .slice a k c]) ∧ Keep (fun _ => False) w w' := by
  go_enter Tryz.func12, Tryz.ntmps12
  go_wp2_with fail
  refine bodyPost_ret (v := .agg #[.int .i64 n, .slice a k c]) ?_ rfl ⟨rfl, ((Keep.refl _ w).alloc _).alloc _⟩
  exact results_block (n := 2) (t := 2) (T := 29) rfl Tryz.underlying29 rfl info29b _ _ (w.heap.size + 1) #[.int .i64 n, .slice a k c] 29 (0, 0) rfl rfl (block_new' _ _ (by simp))
set_option maxRecDepth 100000 in
theorem theirs_any (n : Int) (a : Option Addr) (k c : Nat) (w : World) : Calls Tryz.prog 16 #[.agg #[.int .i64 n, .slice a k c]] w fun e w' => e = .returned (.agg #[.int .i64 n, .slice a k c]) ∧ Keep (fun _ => False) w w' := by
  go_enter Tryz.func16, Tryz.ntmps16
  go_wp2_with fail
  refine bodyPost_ret (v := .agg #[.int .i64 n, .slice a k c]) ?_ rfl ⟨rfl, ((Keep.refl _ w).alloc _).alloc _⟩
  exact results_block (n := 2) (t := 2) (T := 24) rfl Tryz.underlying24 rfl info24 _ _ (w.heap.size + 1) #[.int .i64 n, .slice a k c] 24 (0, 0) rfl rfl (block_new' _ _ (by simp))
set_option maxRecDepth 100000 in
theorem wrong_any (t : Str) (ht : t.length ≤ 1000000000) (c : Int) (at' : Nat) (hp : parse t = .error (c, at')) (hc : c ≠ 0) (w : World) (hg : Glob w) :
    Calls Tryz.prog 22 #[sv t, .int .i64 c, .int .i64 (at' : Int)] w (Tells true w) := by
  have H := Lib.hid (mparse_any t ht w hg)
  have HG := Lib.hid hg
  have HP := Lib.hid hp
  have HC := Lib.hid hc
  clear hg hp hc
  go_enter Tryz.func22, Tryz.ntmps22
  go_wp2_with fail
  refine H.out.mono ?_
  rintro e w1 ⟨hk1, h1⟩
  rw [HP.out] at h1
  obtain ⟨g, hgw, rfl, hb⟩ := h1
  have hka : Keep (fun _ => False) w1 (w1.alloc (.cells #[.int .i64 0, .slice none 0 0] 24)) := (Keep.refl _ _).alloc _
  have HT := Lib.hid (told_fault g c at' HC.out (w1.alloc (.cells #[.int .i64 0, .slice none 0 0] 24)) (hka.at' hb (fun e => e)) (HG.out.far (hk1.trans' hka)))
  have HK := Lib.hid (hk1.trans' hka)
  clear hk1 hb hka hgw
  go_wp2_with fail
  refine HT.out.mono ?_
  rintro e w2 ⟨rfl, hk2⟩
  have HK2 := Lib.hid hk2
  clear hk2
  go_wp2_with fail
  go_ret
  exact ⟨rfl, HK.out.trans' HK2.out⟩
/-! ### works -/
def wkText : Str := [110, 111, 100, 101, 115, 32, 51, 10, 116, 105, 99, 107, 32, 48, 32, 53, 32, 35, 32, 102, 105, 118, 101, 10, 97, 115, 107, 32, 49, 32, 116, 120, 110, 32, 55, 32, 49, 32, 45, 32, 48, 32, 116, 104, 101, 110, 32, 112, 117, 116, 32, 54, 49, 32, 54, 50, 32, 112]
def wkOut : Str := [110, 111, 100, 101, 115, 32, 51, 10, 116, 105, 99, 107, 32, 48, 32, 53, 10, 97, 115, 107, 32, 49, 32, 116, 120, 110, 32, 55, 32, 49, 32, 45, 32, 48, 32, 116, 104, 101, 110, 32, 112, 117, 116, 32, 54, 49, 32, 54, 50, 32, 112, 10]
def wkOp : OpS := ⟨1, [97], [], [98], 0, 0, false, false, true⟩
def wkReq : ReqS := ⟨0, 7, 1, false, [], [wkOp], [], 0⟩
def wkTick : StepS := ⟨3, 0, 5, .zero, .zero⟩
def wkAsk : StepS := ⟨7, 1, 0, wkReq, .zero⟩
def wkS : ScriptS := ⟨3, [wkTick, wkAsk]⟩
theorem wk_parse : parse wkText = .ok wkS := by kernel_rfl
theorem wk_ok : okScript wkS = true := by kernel_rfl
theorem wk_text : text wkS = wkOut := by kernel_rfl
theorem wk_mid : ∀ x ∈ wkS.steps, MidStep x := by
  intro x hx
  simp only [wkS, List.mem_cons, List.mem_nil_iff, or_false] at hx
  rcases hx with rfl | rfl
  · refine ⟨by decide, by decide, by decide, by decide, by decide, by decide, by decide, by decide, ⟨by decide, by decide, by decide, by decide, by decide, by decide, by decide, by decide, by decide, ?_, ?_, ?_⟩, ⟨by decide, by decide, by decide, by decide, by decide, by decide⟩⟩
    all_goals (intro y hy; cases hy)
  · refine ⟨by decide, by decide, by decide, by decide, by decide, by decide, by decide, by decide, ⟨by decide, by decide, by decide, by decide, by decide, by decide, by decide, by decide, by decide, ?_, ?_, ?_⟩, ⟨by decide, by decide, by decide, by decide, by decide, by decide⟩⟩
    · intro y hy; cases hy
    · intro y hy
      simp only [wkAsk, wkReq, List.mem_cons, List.mem_nil_iff, or_false] at hy
      subst hy
      exact ⟨by decide, by decide, by decide, by decide, by decide, by decide, by decide⟩
    · intro y hy; cases hy
theorem wk1 : parse [] = .error (4, 1) := by kernel_rfl
theorem wk2 : parse [102, 108, 121] = .error (19, 0) := by kernel_rfl
theorem wk3 : parse [116, 105, 99, 107, 32, 48, 32, 49] = .error (4, 0) := by kernel_rfl
theorem wk4 : parse [110, 111, 100, 101, 115, 32, 48] = .error (4, 0) := by kernel_rfl
theorem wk5 : parse [110, 111, 100, 101, 115, 32, 51, 10, 97, 115, 107, 32, 48, 32, 116, 120, 110, 32, 49, 32, 49, 32, 45, 32, 48, 32, 101, 108, 115, 101, 32, 114, 97, 110, 103, 101, 32, 45, 32, 45, 32, 48, 32, 48, 32, 107, 99] = .error (4, 1) := by kernel_rfl
end Go.Proofs.YtifliekahdgobaaGreatDoor
