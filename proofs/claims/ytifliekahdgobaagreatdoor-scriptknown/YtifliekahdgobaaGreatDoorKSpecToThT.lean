/-
  THE PLAIN LAYER: what package script computes, as functions on lists of bytes and numbers: no program, no memory. Helpers of the claims, no claim of their own.
  WORDS FOR THE WALKS: what a call leaves alone ('Keep'), a line's words in memory ('LineAt'). Helpers of the claims, no claim of their own.
  PLAIN LAWS, A: the library's words on lists against the plain layer's. Helpers of the claims.
  THE WALKS, 17: what a run finds of the library's variables ('Glob'); numbers printed. Helpers of the claims.
  What all five rows share: what the row's condition gives a walk ('Glob'), a world that meets it (the witness), and the wrap.
  PLAIN: a text cut at its newlines, by index. Helpers of the claims.
  PLAIN: what Split cuts at newlines are the lines. Helpers of the claims.
-/
import Derived.Lib.ItoaNum
import Derived.WalkKit
import Derived.WalkSpells
import Derived.WalkLawsBesides
import Derived.Deep.QuietTactic
import Derived.BigQuiet
import Derived.Deep.RegionWith
import Derived.Deep.LoopGhost
import Derived.Lib.Hide
import Derived.Deep.MidRow
import Derived.Deep.RegionHeld3
import Derived.Lib.AppendIntMem
import Derived.Test.YtifliekahdgobaaGreatDoorRows
import Derived.ProofKit
import Derived.OpenShut
import Derived.LaidMore
import Derived.Lay
import Derived.LaidHandle
import Derived.HandedShaped
import Derived.Shelf.Vars
import Derived.Lib.LaidTab
import Derived.Stop.Joined
import Derived.ChangeSame
import Derived.Stop.LaidErr
import Derived.Lib.Split
import Derived.Test.YtifliekahdgobaaGreatDoorJShelf
set_option linter.unusedSimpArgs false
set_option linter.unusedVariables false
namespace Go.Proofs.YtifliekahdgobaaGreatDoor
namespace Sp

abbrev Str := List UInt8

structure OpS where
  kind : Int
  key : Str
  fin : Str
  val : Str
  rev : Int
  limit : Int
  count : Bool
  keys : Bool
  prev : Bool
  deriving DecidableEq
structure CmpS where
  key : Str
  what : Int
  how : Int
  n : Int
  val : Str
  deriving DecidableEq
structure ReqS where
  kind : Int
  client : Int
  num : Int
  serial : Bool
  cmps : List CmpS
  thn : List OpS
  els : List OpS
  rev : Int
  deriving DecidableEq
structure WatchS where
  id : Int
  key : Str
  fin : Str
  start : Int
  prev : Bool
  noPut : Bool
  noDelete : Bool
  progress : Bool
  deriving DecidableEq
structure StepS where
  kind : Int
  node : Int
  n : Int
  req : ReqS
  watch : WatchS
  deriving DecidableEq
structure ScriptS where
  nodes : Int
  steps : List StepS
  deriving DecidableEq

def ReqS.zero : ReqS := ⟨0, 0, 0, false, [], [], [], 0⟩
def WatchS.zero : WatchS := ⟨0, [], [], 0, false, false, false, false⟩
def StepS.zero : StepS := ⟨0, 0, 0, .zero, .zero⟩

/-! ### words -/
def blank (c : UInt8) : Bool := c == 32 || c == 9
def fieldsGo : Str → Str → List Str
  | cur, [] => if cur = [] then [] else [cur]
  | cur, c :: s => if blank c then (if cur = [] then fieldsGo [] s else cur :: fieldsGo [] s) else fieldsGo (cur ++ [c]) s
def fields (s : Str) : List Str := fieldsGo [] s
def noHash (w : Str) : Bool := w.head? != some 35
def words (s : Str) : List Str := (fields s).takeWhile noHash

/-! ### what one word says -/
def isDig (c : UInt8) : Bool := decide (48 ≤ c.toNat) && decide (c.toNat ≤ 57)
def valFrom (a : Nat) (x : Str) : Nat := x.foldl (fun a c => 10 * a + (c.toNat - 48)) a
def most : Int := 999999999999999999
/-- the shape of a number: 1 to 18 digits, no leading 0 -/
def numWord (w : Str) : Bool := w != [] && decide (w.length ≤ 18) && w.all isDig && (w.head? != some 48 || w == [48])
def numOf (m : Int) (w : Str) : Option Int := if numWord w = true ∧ (valFrom 0 w : Int) ≤ m then some (valFrom 0 w) else none
def hexd (c : UInt8) : Option Nat := if 48 ≤ c.toNat ∧ c.toNat ≤ 57 then some (c.toNat - 48) else if 97 ≤ c.toNat ∧ c.toNat ≤ 102 then some (c.toNat - 87) else none
def pairs : Str → Option Str
  | [] => some []
  | [_] => none
  | a :: b :: r => (hexd a).bind fun x => (hexd b).bind fun y => (pairs r).bind fun t => some (UInt8.ofNat (16 * x + y) :: t)
def bytesOf (w : Str) : Option Str := if w = [45] then some [] else if w.length % 2 = 0 ∧ w.length ≤ 80 then pairs w else none
def marksGo : Str → Str → Option (List Bool)
  | ls, [] => some (ls.map fun _ => false)
  | [], _ :: _ => none
  | l :: ls, c :: w => if l = c then (marksGo ls w).bind fun t => some (true :: t) else (marksGo ls (c :: w)).bind fun t => some (false :: t)
def marksOf (letters w : Str) : Option (List Bool) := if w = [45] then some (letters.map fun _ => false) else marksGo letters w

/-! ### readers: words are taken off one by one -/
def take1 {α : Type} (f : Str → Option α) : List Str → Option (α × List Str)
  | [] => none
  | w :: r => (f w).bind fun a => some (a, r)
def pword : List Str → Option (Str × List Str) := take1 some
def pnum (m : Int) : List Str → Option (Int × List Str) := take1 (numOf m)
def pbytes : List Str → Option (Str × List Str) := take1 bytesOf
def pmarks (letters : Str) : List Str → Option (List Bool × List Str) := take1 (marksOf letters)

def wRange : Str := [114, 97, 110, 103, 101]
def wPut : Str := [112, 117, 116]
def wDel : Str := [100, 101, 108]
def lCk : Str := [99, 107]
def lP : Str := [112]
def lS : Str := [115]
def lPndg : Str := [112, 110, 100, 103]

def at' (l : List Bool) (i : Nat) : Bool := l.getD i false

def prange (ws : List Str) : Option (OpS × List Str) :=
  (pbytes ws).bind fun k => (pbytes k.2).bind fun e => (pnum most e.2).bind fun r => (pnum most r.2).bind fun l => (pmarks lCk l.2).bind fun m =>
  some (⟨0, k.1, e.1, [], r.1, l.1, at' m.1 0, at' m.1 1, false⟩, m.2)
def pput (ws : List Str) : Option (OpS × List Str) :=
  (pbytes ws).bind fun k => (pbytes k.2).bind fun v => (pmarks lP v.2).bind fun m => some (⟨1, k.1, [], v.1, 0, 0, false, false, at' m.1 0⟩, m.2)
def pdel (ws : List Str) : Option (OpS × List Str) :=
  (pbytes ws).bind fun k => (pbytes k.2).bind fun e => (pmarks lP e.2).bind fun m => some (⟨2, k.1, e.1, [], 0, 0, false, false, at' m.1 0⟩, m.2)
def pop (ws : List Str) : Option (OpS × List Str) :=
  (pword ws).bind fun w => if w.1 = wRange then prange w.2 else if w.1 = wPut then pput w.2 else if w.1 = wDel then pdel w.2 else none
def pcmp (ws : List Str) : Option (CmpS × List Str) :=
  (pnum 9 ws).bind fun a => (pnum 9 a.2).bind fun h => (pnum most h.2).bind fun n => (pbytes n.2).bind fun k => (pbytes k.2).bind fun v =>
  some (⟨k.1, a.1, h.1, n.1, v.1⟩, v.2)

def wIf : Str := [105, 102]
def wThen : Str := [116, 104, 101, 110]
def wElse : Str := [101, 108, 115, 101]
/-- the state of a request's reading: which part; what was read -/
structure PartS where
  part : Nat
  cmps : List CmpS
  thn : List OpS
  els : List OpS
  deriving DecidableEq
def pitem (st : PartS) (ws : List Str) : Option (PartS × List Str) :=
  (pword ws).bind fun w =>
    if w.1 = wIf then (if st.part = 0 then (pcmp w.2).bind fun c => some ({ st with cmps := st.cmps ++ [c.1] }, c.2) else none)
    else if w.1 = wThen then (if st.part ≤ 1 then (pop w.2).bind fun x => some ({ st with part := 1, thn := st.thn ++ [x.1] }, x.2) else none)
    else if w.1 = wElse then (pop w.2).bind fun x => some ({ st with part := 2, els := st.els ++ [x.1] }, x.2)
    else none
/-- items up to the line's end; the number bounds how many -/
def pitems : Nat → PartS → List Str → Option PartS
  | 0, st, ws => if ws = [] then some st else none
  | k + 1, st, ws => if ws = [] then some st else (pitem st ws).bind fun x => pitems k x.1 x.2
def kinds : List Str := [[116, 120, 110], [99, 111, 109, 112, 97, 99, 116], [104, 97, 115, 104], [115, 116, 97, 116, 117, 115]]
def kindOf (l : List Str) (w : Str) : Option Nat := l.findIdx? (· == w)
def okParts (st : PartS) : Bool := decide (st.cmps.length ≤ 8) && decide (st.thn.length ≤ 10) && decide (st.els.length ≤ 10)
/-- a request, up to the line's end -/
def preq (ws : List Str) : Option ReqS :=
  (pword ws).bind fun w => (kindOf kinds w.1).bind fun k => (pnum most w.2).bind fun c => (pnum most c.2).bind fun n => (pmarks lS n.2).bind fun m => (pnum most m.2).bind fun r =>
  (pitems r.2.length ⟨0, [], [], []⟩ r.2).bind fun st => if okParts st = true then some ⟨k, c.1, n.1, at' m.1 0, st.cmps, st.thn, st.els, r.1⟩ else none
def pwatch (ws : List Str) : Option (WatchS × List Str) :=
  (pnum most ws).bind fun i => (pbytes i.2).bind fun k => (pbytes k.2).bind fun e => (pnum most e.2).bind fun s => (pmarks lPndg s.2).bind fun m =>
  some (⟨i.1, k.1, e.1, s.1, at' m.1 0, at' m.1 1, at' m.1 2, at' m.1 3⟩, m.2)

def names : List Str := [[100, 101, 108, 105, 118, 101, 114], [100, 114, 111, 112], [116, 119, 105, 99, 101], [116, 105, 99, 107], [99, 104, 117, 110, 107], [99, 114, 97, 115, 104], [119, 97, 107, 101], [97, 115, 107], [119, 97, 116, 99, 104], [99, 97, 110, 99, 101, 108], [116, 97, 107, 101], [100, 101, 102, 114, 97, 103]]
/-- what a line says behind its word and its node -/
def pbody (k : Nat) (s : StepS) (ws : List Str) : Option (StepS × List Str) :=
  if k = 11 then some (s, ws)
  else if k = 8 then (pwatch ws).bind fun x => some ({ s with watch := x.1 }, x.2)
  else if k = 7 then (preq ws).bind fun x => some ({ s with req := x }, [])
  else (pnum most ws).bind fun x => some ({ s with n := x.1 }, x.2)
def pnode (k : Nat) (ws : List Str) : Option (Int × List Str) := if 2 < k then pnum 9 ws else some (0, ws)
def pstep (k : Nat) (ws : List Str) : Option StepS :=
  (pnode k ws).bind fun x => (pbody k ⟨k, x.1, 0, .zero, .zero⟩ x.2).bind fun y => if y.2 = [] then some y.1 else none

/-! ### lines, texts -/
def wNodes : Str := [110, 111, 100, 101, 115]
def pnodes (ws : List Str) : Option Int := (pnum 7 ws).bind fun x => if 0 < x.1 ∧ x.2 = [] then some x.1 else none
def line (s : ScriptS) : List Str → Except Int ScriptS
  | [] => .ok s
  | w :: ws =>
    if w = wNodes then
      match pnodes ws with
      | some n => if s.nodes = 0 then .ok { s with nodes := n } else .error 4
      | none => .error 4
    else match kindOf names w with
      | none => .error 19
      | some k => match pstep k ws with
        | none => .error 4
        | some x => if s.nodes ≤ 0 then .error 4 else if 4096 ≤ s.steps.length then .error 3 else .ok { s with steps := s.steps ++ [x] }
def splitNL : Str → List Str
  | [] => [[]]
  | c :: s => if c = 10 then [] :: splitNL s else match splitNL s with
    | [] => [[c]]
    | x :: r => (c :: x) :: r
def parseGo (s : ScriptS) (no : Nat) : List Str → Except (Int × Nat) ScriptS
  | [] => if s.nodes = 0 then .error (4, no) else .ok s
  | t :: ts => match line s (words t) with
    | .ok s' => parseGo s' (no + 1) ts
    | .error c => .error (c, no)
def parse (t : Str) : Except (Int × Nat) ScriptS := parseGo ⟨0, []⟩ 0 (splitNL t)

/-! ### printing -/
def dgt (n : Nat) : UInt8 := UInt8.ofNat (48 + n)
def digGo : Nat → Nat → Str
  | 0, n => [dgt (n % 10)]
  | f + 1, n => if n < 10 then [dgt n] else digGo f (n / 10) ++ [dgt (n % 10)]
/-- a number's decimal digits (of numbers below 10^20) -/
def dig (n : Nat) : Str := digGo 20 n
def itoa (n : Int) : Str := if n < 0 then 45 :: dig n.natAbs else dig n.toNat
def hx (n : Nat) : UInt8 := if n < 10 then UInt8.ofNat (48 + n) else UInt8.ofNat (87 + n)
def hexText (s : Str) : Str := if s = [] then [45] else s.flatMap fun c => [hx (c.toNat / 16), hx (c.toNat % 16)]
def markGo : Str → List Bool → Str
  | l :: ls, b :: bs => if b then l :: markGo ls bs else markGo ls bs
  | _, _ => []
def markText (letters : Str) (is : List Bool) : Str := if markGo letters is = [] then [45] else markGo letters is
def opWords (x : OpS) : List Str :=
  if x.kind = 0 then [wRange, hexText x.key, hexText x.fin, itoa x.rev, itoa x.limit, markText lCk [x.count, x.keys]]
  else if x.kind = 1 then [wPut, hexText x.key, hexText x.val, markText lP [x.prev]]
  else [wDel, hexText x.key, hexText x.fin, markText lP [x.prev]]
def cmpWords (c : CmpS) : List Str := [wIf, itoa c.what, itoa c.how, itoa c.n, hexText c.key, hexText c.val]
def reqWords (r : ReqS) : List Str :=
  [kinds.getD r.kind.toNat [], itoa r.client, itoa r.num, markText lS [r.serial], itoa r.rev] ++ r.cmps.flatMap cmpWords ++ (r.thn.flatMap fun x => wThen :: opWords x) ++ (r.els.flatMap fun x => wElse :: opWords x)
def watchWords (w : WatchS) : List Str := [itoa w.id, hexText w.key, hexText w.fin, itoa w.start, markText lPndg [w.prev, w.noPut, w.noDelete, w.progress]]
def nodeWords (s : StepS) : List Str := if 2 < s.kind then [itoa s.node] else []
def bodyWords (s : StepS) : List Str :=
  if s.kind = 11 then [] else if s.kind = 8 then watchWords s.watch else if s.kind = 7 then reqWords s.req else [itoa s.n]
def stepWords (s : StepS) : List Str := names.getD s.kind.toNat [] :: (nodeWords s ++ bodyWords s)
def join : List Str → Str
  | [] => []
  | [x] => x
  | x :: y :: r => x ++ 32 :: join (y :: r)
def stepText (s : StepS) : Str := join (stepWords s)
/-- a step's line, with its end -/
def stepLine (s : StepS) : Str := stepText s ++ [10]
def nodesLine (n : Int) : Str := wNodes ++ 32 :: itoa n ++ [10]
def text (s : ScriptS) : Str := nodesLine s.nodes ++ s.steps.flatMap stepLine

/-! ### what may be -/
def okNum (n : Int) : Bool := decide (0 ≤ n) && decide (n ≤ most)
def okSmall (n : Int) : Bool := decide (0 ≤ n) && decide (n ≤ 9)
def okBytes (s : Str) : Bool := decide (s.length ≤ 40)
def okOp (x : OpS) : Bool :=
  okBytes x.key &&
  (if x.kind = 0 then okBytes x.fin && x.val == [] && okNum x.rev && okNum x.limit && !x.prev
   else if x.kind = 1 then okBytes x.val && x.fin == [] && x.rev == 0 && x.limit == 0 && !x.count && !x.keys
   else x.kind == 2 && okBytes x.fin && x.val == [] && x.rev == 0 && x.limit == 0 && !x.count && !x.keys)
def okCmp (c : CmpS) : Bool := okSmall c.what && okSmall c.how && okNum c.n && okBytes c.key && okBytes c.val
def okReq (r : ReqS) : Bool :=
  decide (0 ≤ r.kind) && decide (r.kind ≤ 3) && okNum r.client && okNum r.num && okNum r.rev && okParts ⟨0, r.cmps, r.thn, r.els⟩ && r.cmps.all okCmp && r.thn.all okOp && r.els.all okOp
def okWatch (w : WatchS) : Bool := okNum w.id && okBytes w.key && okBytes w.fin && okNum w.start
def okBody (s : StepS) : Bool :=
  if s.kind = 11 then s.n == 0 && s.req == .zero && s.watch == .zero
  else if s.kind = 8 then s.n == 0 && s.req == .zero && okWatch s.watch
  else if s.kind = 7 then s.n == 0 && okReq s.req && s.watch == .zero
  else okNum s.n && s.req == .zero && s.watch == .zero
def okNode (s : StepS) : Bool := if 2 < s.kind then okSmall s.node else s.node == 0
def okStep (s : StepS) : Bool := decide (0 ≤ s.kind) && decide (s.kind ≤ 11) && okNode s && okBody s
def okScript (s : ScriptS) : Bool := decide (1 ≤ s.nodes) && decide (s.nodes ≤ 7) && decide (s.steps.length ≤ 4096) && s.steps.all okStep

end Sp
end Go.Proofs.YtifliekahdgobaaGreatDoor
namespace Go.Proofs.YtifliekahdgobaaGreatDoor
open Go.RowKit Sp

/-- a string as a value -/
abbrev sv (x : Str) : Value := .string ⟨x.toArray⟩
theorem sv_eq (x : Str) : sv x = .string ⟨x.toArray⟩ := rfl
theorem sv_mk (s : ByteArray) : Value.string s = sv s.data.toList := rfl

/-- what 'must' gives up by -/
def wrongV (n : Int) : Value := .iface 112 (.agg #[.int .i64 n])
abbrev gaveUp (n : Int) : Ending := .panicked [{ v := wrongV n, recovered := false }]

/-- Of the old blocks only those of M may have turned. -/
structure Keep (M : Nat → Prop) (w w' : World) : Prop where
  os : w'.os = w.os
  tape : w'.tape = w.tape
  output : w'.output = w.output
  size : w.heap.size ≤ w'.heap.size
  block : ∀ k, k < w.heap.size → ¬ M k → w'.heap[k]? = w.heap[k]?

namespace Keep
variable {M M' : Nat → Prop} {w w' w'' : World}
theorem refl (M : Nat → Prop) (w : World) : Keep M w w := ⟨rfl, rfl, rfl, Nat.le_refl _, fun _ _ _ => rfl⟩
theorem trans (h : Keep M w w') (k : Keep M' w' w'') (hm : ∀ b, b < w.heap.size → M' b → M b) : Keep M w w'' :=
  ⟨k.os.trans h.os, k.tape.trans h.tape, k.output.trans h.output, Nat.le_trans h.size k.size, fun b hb hn => (k.block b (Nat.lt_of_lt_of_le hb h.size) (fun e => hn (hm b hb e))).trans (h.block b hb hn)⟩
theorem trans' (h : Keep M w w') (k : Keep M w' w'') : Keep M w w'' := h.trans k (fun _ _ e => e)
theorem mono (h : Keep M w w') (hm : ∀ b, b < w.heap.size → M b → M' b) : Keep M' w w' :=
  ⟨h.os, h.tape, h.output, h.size, fun b hb hn => h.block b hb (fun e => hn (hm b hb e))⟩
theorem alloc (h : Keep M w w') (o : Obj) : Keep M w (w'.alloc o) :=
  ⟨h.os, h.tape, h.output, by have := h.size; simp; omega, fun b hb hn => (Below.heap_alloc _ _ _ (Nat.lt_of_lt_of_le hb h.size)).trans (h.block b hb hn)⟩
theorem setCell (h : Keep M w w') (a : Addr) (v : Value) (ha : w.heap.size ≤ a.block ∨ M a.block) : Keep M w (w'.setCell a v) :=
  ⟨h.os, h.tape, h.output, by have := h.size; simp; omega, fun b hb hn => (Below.heap_setCell _ _ _ _ (fun e => by
    rcases ha with ha | ha
    · omega
    · exact hn (e ▸ ha))).trans (h.block b hb hn)⟩
theorem drew (h : Keep M w w') : Keep M w w'.drew := ⟨h.os, h.tape, h.output, h.size, h.block⟩
theorem drewN (h : Keep M w w') (n : Nat) : Keep M w (w'.drewN n) := ⟨h.os, h.tape, h.output, h.size, h.block⟩
theorem of_below {B : Nat} (h : Below B w w') (hB : w.heap.size ≤ B) : Keep M w w' :=
  ⟨h.os, h.tape, h.output, h.size, fun b hb _ => h.block b (Nat.lt_of_lt_of_le hb hB)⟩
theorem of_below' {B : Nat} (h : Below B w w') (hB : ∀ b, b < w.heap.size → B ≤ b → M b) : Keep M w w' :=
  ⟨h.os, h.tape, h.output, h.size, fun b hb hn => h.block b (by
    rcases Nat.lt_or_ge b B with h1 | h1
    · exact h1
    · exact absurd (hB b hb h1) hn)⟩
theorem of_grown {row : Option Nat} (h : w.grownBy w' row) (hr : ∀ k, row = some k → k < w.heap.size → M k) : Keep M w w' :=
  ⟨h.os, h.tape, h.output, h.size, fun b hb hn => h.block b hb (fun e => hn (hr b e.symm hb))⟩
theorem cell (h : Keep M w w') {a : Addr} (hb : a.block < w.heap.size) (hn : ¬ M a.block) : w'.cell? a = w.cell? a := World.cell?_of_block (h.block _ hb hn)
theorem frozen (h : Keep M w w') {a : Addr} (hb : a.block < w.heap.size) (hn : ¬ M a.block) : w'.frozen? a = w.frozen? a := World.frozen?_of_block (h.block _ hb hn)
theorem at' (h : Keep M w w') {b : Nat} {o : Obj} (hb : w.heap[b]? = some o) (hn : ¬ M b) : w'.heap[b]? = some o := (h.block b (lt_of_block hb) hn).trans hb
theorem cellOf (h : Keep M w w') {a : Addr} {v : Value} (hc : w.cell? a = some v) (hn : ¬ M a.block) : w'.cell? a = some v := (h.cell (World.block_lt_of_cell? _ _ hc) hn).trans hc
theorem twoThere (h : Keep M w w') {a b : Addr} {u v : Value} {x o n : Nat} (hc : w.cell? a = some u ∧ w.cell? b = some v ∧ w.there x o n) (ha : ¬ M a.block) (hb : ¬ M b.block) (hx : ¬ M x) : w'.cell? a = some u ∧ w'.cell? b = some v ∧ w'.there x o n := ⟨h.cellOf hc.1 ha, h.cellOf hc.2.1 hb, fun j hj => by
  obtain ⟨h1, h2⟩ := hc.2.2 j hj
  obtain ⟨v, hv⟩ := Option.isSome_iff_exists.1 h1
  have hlt := World.block_lt_of_cell? _ _ hv
  rw [h.cell hlt hx, h.frozen hlt hx]
  exact ⟨h1, h2⟩⟩
theorem two (h : Keep M w w') {a b : Addr} {u v : Value} (hc : w.cell? a = some u ∧ w.cell? b = some v) (ha : ¬ M a.block) (hb : ¬ M b.block) : w'.cell? a = some u ∧ w'.cell? b = some v := ⟨h.cellOf hc.1 ha, h.cellOf hc.2 hb⟩
theorem below (h : Keep (fun _ => False) w w') : Below w.heap.size w w' := ⟨h.os, h.tape, h.output, h.size, fun b hb => h.block b hb (fun e => e)⟩
end Keep

/-- a block of cells that may be written: its cells -/
theorem cell_of_block {w : World} {b : Nat} {cs : Array Value} {t : TypeId} (h : w.heap[b]? = some (.cells cs t (0, 0))) (i : Nat) : w.cell? ⟨b, i, none⟩ = cs[i]? := by simp [World.cell?, h]
theorem free_of_block {w : World} {b : Nat} {cs : Array Value} {t : TypeId} (h : w.heap[b]? = some (.cells cs t (0, 0))) (i : Nat) : w.frozen? ⟨b, i, none⟩ = false := by simp [World.frozen?, h]
theorem block_setCell {w : World} {b : Nat} {cs : Array Value} {t : TypeId} (h : w.heap[b]? = some (.cells cs t (0, 0))) (i : Nat) (u : Value) : (w.setCell ⟨b, i, none⟩ u).heap[b]? = some (.cells (cs.setIfInBounds i u) t (0, 0)) := by
  have hlt := lt_of_block h
  have h' : w.heap[b] = .cells cs t (0, 0) := by simpa [Array.getElem?_eq_getElem hlt] using h
  show (w.heap.modify b _)[b]? = _
  rw [Array.getElem?_eq_getElem (by simpa using hlt), Array.getElem_modify_self, h']
  rfl
theorem block_setCell_other {w : World} {b : Nat} {o : Obj} (h : w.heap[b]? = some o) (a : Addr) (u : Value) (hne : b ≠ a.block) : (w.setCell a u).heap[b]? = some o := by
  rw [Below.heap_setCell _ _ _ _ hne]; exact h
theorem block_alloc {w : World} {b : Nat} {o : Obj} (h : w.heap[b]? = some o) (x : Obj) : (w.alloc x).heap[b]? = some o := by
  rw [Below.heap_alloc _ _ _ (lt_of_block h)]; exact h
theorem block_new (w : World) (x : Obj) : (w.alloc x).heap[w.heap.size]? = some x := by
  show (w.heap.push x)[w.heap.size]? = _
  simp

/-- many cells laid from o on -/
def putCells (cs : Array Value) (o : Nat) : List Value → Array Value
  | [] => cs
  | v :: r => putCells (cs.setIfInBounds o v) (o + 1) r
theorem block_setCells {b : Nat} {t : TypeId} : ∀ (vs : List Value) (o : Nat) (w : World) (cs : Array Value), w.heap[b]? = some (.cells cs t (0, 0)) → (w.setCells b o vs).heap[b]? = some (.cells (putCells cs o vs) t (0, 0))
  | [], _, _, _, h => h
  | v :: r, o, w, cs, h => by
    rw [World.setCells, putCells]
    exact block_setCells r (o + 1) _ _ (block_setCell h o v)
theorem heap_setCells (b k : Nat) (h : k ≠ b) : ∀ (vs : List Value) (o : Nat) (w : World), (w.setCells b o vs).heap[k]? = w.heap[k]?
  | [], _, _ => rfl
  | v :: r, o, w => by
    rw [World.setCells, heap_setCells b k h r (o + 1)]
    exact Below.heap_setCell _ _ _ _ h
theorem size_setCells (b : Nat) : ∀ (vs : List Value) (o : Nat) (w : World), (w.setCells b o vs).heap.size = w.heap.size
  | [], _, _ => rfl
  | v :: r, o, w => by rw [World.setCells, size_setCells b r (o + 1)]; simp
theorem os_setCells (b : Nat) : ∀ (vs : List Value) (o : Nat) (w : World), (w.setCells b o vs).os = w.os ∧ (w.setCells b o vs).tape = w.tape ∧ (w.setCells b o vs).output = w.output
  | [], _, _ => ⟨rfl, rfl, rfl⟩
  | v :: r, o, w => by rw [World.setCells]; exact os_setCells b r (o + 1) _
theorem Keep.setCells {M : Nat → Prop} {w w' : World} (h : Keep M w w') (b o : Nat) (vs : List Value) (hb : w.heap.size ≤ b ∨ M b) : Keep M w (w'.setCells b o vs) := by
  obtain ⟨h1, h2, h3⟩ := os_setCells b vs o w'
  exact ⟨h1.trans h.os, h2.trans h.tape, h3.trans h.output, by rw [size_setCells]; exact h.size, fun k hk hn => (heap_setCells b k (fun e => by
    subst e
    rcases hb with hb | hb
    · omega
    · exact hn hb) vs o w').trans (h.block k hk hn)⟩
theorem there_of_block {w : World} {b : Nat} {cs : Array Value} {t : TypeId} (h : w.heap[b]? = some (.cells cs t (0, 0))) {n : Nat} (hn : n ≤ cs.size) : w.there b 0 n := fun j hj => by
  rw [cell_of_block h, free_of_block h]
  simp
  omega
theorem Keep.there {M : Nat → Prop} {w w' : World} (hk : Keep M w w') {b o n : Nat} (h : w.there b o n) (hb : ¬ M b) : w'.there b o n := fun j hj => by
  obtain ⟨h1, h2⟩ := h j hj
  obtain ⟨v, hv⟩ := Option.isSome_iff_exists.1 h1
  have hlt := World.block_lt_of_cell? _ _ hv
  rw [hk.cell hlt hb, hk.frozen hlt hb]
  exact ⟨h1, h2⟩

theorem held_setCells {w : World} {a b : Addr} {u v : Value} {x o n o' : Nat} (h : w.cell? a = some u ∧ w.cell? b = some v ∧ w.there x o n) (vs : List Value) (ha : a.block ≠ x) (hb : b.block ≠ x) :
    (w.setCells x o' vs).cell? a = some u ∧ (w.setCells x o' vs).cell? b = some v ∧ (w.setCells x o' vs).there x o n :=
  ⟨(World.cell?_setCells_out x vs o' w a (fun e => absurd e ha)).trans h.1, (World.cell?_setCells_out x vs o' w b (fun e => absurd e hb)).trans h.2.1, World.there_setCells h.2.2 x o' vs⟩
theorem putCells_list : ∀ (vs : List Value) (A B : List Value), B.length = vs.length → putCells (A ++ B).toArray A.length vs = (A ++ vs).toArray
  | [], A, B, h => by
    have : B = [] := List.length_eq_zero_iff.1 h
    subst this
    rfl
  | v :: r, A, [], h => by simp at h
  | v :: r, A, b :: B, h => by
    have h1 := putCells_list r (A ++ [v]) B (by simpa using h)
    rw [putCells]
    have h2 : (A ++ b :: B).toArray.setIfInBounds A.length v = (A ++ [v] ++ B).toArray := by simp
    rw [h2]
    simpa using h1
theorem block_setCells_all {b : Nat} {t : TypeId} {w : World} {cs : Array Value} (h : w.heap[b]? = some (.cells cs t (0, 0))) (vs : List Value) (hs : cs.size = vs.length) : (w.setCells b 0 vs).heap[b]? = some (.cells vs.toArray t (0, 0)) := by
  rw [block_setCells vs 0 w cs h]
  have := putCells_list vs [] cs.toList (by simpa using hs)
  simp only [List.nil_append, List.length_nil, Array.toArray_toList] at this
  rw [this]
/-! ### a whole struct stored or loaded at one blow (no unrolling): the operation goes under a word of its own -/
def stT (T : TypeId) (p v : Value) : Sem Next := do Instr.storeAt T p v; pure .skip
def ldT (T : TypeId) (p : Value) : Sem Next := do pure (.value (← Instr.loadAt T p))
theorem execOp_store (T : TypeId) (ρ : Operand → Value) (x y : Operand) (d : Option Tmp) (t : TypeId) (p : String) (af : Array Edge) (g : Option (Nat × Bool)) :
    execOp ρ { dst := d, op := Op.store T x y, type := t, pos := p, after := af, guard := g } = stT T (ρ x) (ρ y) := rfl
theorem execOp_load (T : TypeId) (ρ : Operand → Value) (x : Operand) (d : Option Tmp) (t : TypeId) (p : String) (af : Array Edge) (g : Option (Nat × Bool)) :
    execOp ρ { dst := d, op := Op.load T x, type := t, pos := p, after := af, guard := g } = ldT T (ρ x) := rfl
theorem run_stT {T n : Nat} (hi : (Tryz.prog.info? T).map (·.size) = some n) (w : World) (b o : Nat) (cells : Array Value) (ht : w.there b o n) (hs : cells.size = n) (h1 : cells.all (·.oneCell') = true) :
    (stT T (.pointer (some ⟨b, o, none⟩)) (.agg cells)).run Tryz.prog w = .ok .skip (w.setCells b o cells.toList) := by
  unfold stT
  rw [Sem.run_bind, run_storeAt_mid w b o T cells (by rw [hs]; exact ht) (by rw [hs]; exact hi) h1]
  rfl
theorem run_ldT {T n : Nat} {d : TypeDesc} (hu : Tryz.prog.underlying T = some d) (hd : d.isRow = true) (hi : (Tryz.prog.info? T).map (·.size) = some n) (w : World) (b o : Nat) (cs : Array Value) (hs : cs.size = n) (hc : w.rangeAt b o cs.toList) :
    (ldT T (.pointer (some ⟨b, o, none⟩))).run Tryz.prog w = .ok (.value (.agg cs)) w := by
  unfold ldT
  have hi' : (Tryz.prog.info? T).map (·.size) = some cs.toList.length := by rw [hi, ← hs]; simp
  rw [Sem.run_bind, run_loadAt_mid w b o T cs.toList d hc hu hd hi']
  rfl
theorem range_of_block {w : World} {b : Nat} {cs : Array Value} {t : TypeId} {f : Nat × Nat} (h : w.heap[b]? = some (.cells cs t f)) : w.rangeAt b 0 cs.toList := fun j v hv => by
  simp only [World.cell?, h, Nat.zero_add]
  simpa using hv
@[go_sem] theorem one_int (k : IntKind) (n : Int) : (Value.int k n).oneCell' = true := rfl
@[go_sem] theorem one_str (s : ByteArray) : (Value.string s).oneCell' = true := rfl
@[go_sem] theorem one_bool (b : Bool) : (Value.bool b).oneCell' = true := rfl
@[go_sem] theorem one_slice (a : Option Addr) (n c : Nat) : (Value.slice a n c).oneCell' = true := rfl
@[go_sem] theorem one_ptr (a : Option Addr) : (Value.pointer a).oneCell' = true := rfl
@[go_sem] theorem one_func (f : Fn) (a c : Array Value) : (Value.func f a c).oneCell' = true := rfl
theorem info67 : (Tryz.prog.info? 67).map (·.size) = some 9 := by kernel_rfl
@[go_sem ↓] theorem execOp_store67 (ρ : Operand → Value) (x y : Operand) (d : Option Tmp) (t : TypeId) (p : String) (af : Array Edge) (g : Option (Nat × Bool)) :
    execOp ρ { dst := d, op := Op.store 67 x y, type := t, pos := p, after := af, guard := g } = stT 67 (ρ x) (ρ y) := rfl
@[go_sem ↓] theorem execOp_load67 (ρ : Operand → Value) (x : Operand) (d : Option Tmp) (t : TypeId) (p : String) (af : Array Edge) (g : Option (Nat × Bool)) :
    execOp ρ { dst := d, op := Op.load 67 x, type := t, pos := p, after := af, guard := g } = ldT 67 (ρ x) := rfl
@[go_sem] theorem run_st67 (w : World) (b o : Nat) (cells : Array Value) (ht : w.there b o 9) (hs : cells.size = 9) (h1 : cells.all (·.oneCell') = true) :
    (stT 67 (.pointer (some ⟨b, o, none⟩)) (.agg cells)).run Tryz.prog w = .ok .skip (w.setCells b o cells.toList) := run_stT info67 w b o cells ht hs h1
theorem run_ld67 (w : World) (b o : Nat) (cs : Array Value) (hs : cs.size = 9) (hc : w.rangeAt b o cs.toList) :
    (ldT 67 (.pointer (some ⟨b, o, none⟩))).run Tryz.prog w = .ok (.value (.agg cs)) w := run_ldT Tryz.underlying67 rfl info67 w b o cs hs hc
theorem info63 : (Tryz.prog.info? 63).map (·.size) = some 19 := by kernel_rfl
@[go_sem ↓] theorem execOp_store63 (ρ : Operand → Value) (x y : Operand) (d : Option Tmp) (t : TypeId) (p : String) (af : Array Edge) (g : Option (Nat × Bool)) :
    execOp ρ { dst := d, op := Op.store 63 x y, type := t, pos := p, after := af, guard := g } = stT 63 (ρ x) (ρ y) := rfl
@[go_sem ↓] theorem execOp_load63 (ρ : Operand → Value) (x : Operand) (d : Option Tmp) (t : TypeId) (p : String) (af : Array Edge) (g : Option (Nat × Bool)) :
    execOp ρ { dst := d, op := Op.load 63 x, type := t, pos := p, after := af, guard := g } = ldT 63 (ρ x) := rfl
@[go_sem] theorem run_st63 (w : World) (b o : Nat) (cells : Array Value) (ht : w.there b o 19) (hs : cells.size = 19) (h1 : cells.all (·.oneCell') = true) :
    (stT 63 (.pointer (some ⟨b, o, none⟩)) (.agg cells)).run Tryz.prog w = .ok .skip (w.setCells b o cells.toList) := run_stT info63 w b o cells ht hs h1
theorem run_ld63 (w : World) (b o : Nat) (cs : Array Value) (hs : cs.size = 19) (hc : w.rangeAt b o cs.toList) :
    (ldT 63 (.pointer (some ⟨b, o, none⟩))).run Tryz.prog w = .ok (.value (.agg cs)) w := run_ldT Tryz.underlying63 rfl info63 w b o cs hs hc
theorem info59 : (Tryz.prog.info? 59).map (·.size) = some 8 := by kernel_rfl
@[go_sem ↓] theorem execOp_store59 (ρ : Operand → Value) (x y : Operand) (d : Option Tmp) (t : TypeId) (p : String) (af : Array Edge) (g : Option (Nat × Bool)) :
    execOp ρ { dst := d, op := Op.store 59 x y, type := t, pos := p, after := af, guard := g } = stT 59 (ρ x) (ρ y) := rfl
@[go_sem ↓] theorem execOp_load59 (ρ : Operand → Value) (x : Operand) (d : Option Tmp) (t : TypeId) (p : String) (af : Array Edge) (g : Option (Nat × Bool)) :
    execOp ρ { dst := d, op := Op.load 59 x, type := t, pos := p, after := af, guard := g } = ldT 59 (ρ x) := rfl
@[go_sem] theorem run_st59 (w : World) (b o : Nat) (cells : Array Value) (ht : w.there b o 8) (hs : cells.size = 8) (h1 : cells.all (·.oneCell') = true) :
    (stT 59 (.pointer (some ⟨b, o, none⟩)) (.agg cells)).run Tryz.prog w = .ok .skip (w.setCells b o cells.toList) := run_stT info59 w b o cells ht hs h1
theorem run_ld59 (w : World) (b o : Nat) (cs : Array Value) (hs : cs.size = 8) (hc : w.rangeAt b o cs.toList) :
    (ldT 59 (.pointer (some ⟨b, o, none⟩))).run Tryz.prog w = .ok (.value (.agg cs)) w := run_ldT Tryz.underlying59 rfl info59 w b o cs hs hc
theorem info61 : (Tryz.prog.info? 61).map (·.size) = some 8 := by kernel_rfl
@[go_sem ↓] theorem execOp_store61 (ρ : Operand → Value) (x y : Operand) (d : Option Tmp) (t : TypeId) (p : String) (af : Array Edge) (g : Option (Nat × Bool)) :
    execOp ρ { dst := d, op := Op.store 61 x y, type := t, pos := p, after := af, guard := g } = stT 61 (ρ x) (ρ y) := rfl
@[go_sem ↓] theorem execOp_load61 (ρ : Operand → Value) (x : Operand) (d : Option Tmp) (t : TypeId) (p : String) (af : Array Edge) (g : Option (Nat × Bool)) :
    execOp ρ { dst := d, op := Op.load 61 x, type := t, pos := p, after := af, guard := g } = ldT 61 (ρ x) := rfl
@[go_sem] theorem run_st61 (w : World) (b o : Nat) (cells : Array Value) (ht : w.there b o 8) (hs : cells.size = 8) (h1 : cells.all (·.oneCell') = true) :
    (stT 61 (.pointer (some ⟨b, o, none⟩)) (.agg cells)).run Tryz.prog w = .ok .skip (w.setCells b o cells.toList) := run_stT info61 w b o cells ht hs h1
theorem run_ld61 (w : World) (b o : Nat) (cs : Array Value) (hs : cs.size = 8) (hc : w.rangeAt b o cs.toList) :
    (ldT 61 (.pointer (some ⟨b, o, none⟩))).run Tryz.prog w = .ok (.value (.agg cs)) w := run_ldT Tryz.underlying61 rfl info61 w b o cs hs hc

/-- a row of strings in memory, read only -/
def StrsAt (w : World) (b off : Nat) (ws : List Str) : Prop := ∀ (i : Nat) (x : Str), ws[i]? = some x → w.cell? ⟨b, off + i, none⟩ = some (sv x)
theorem StrsAt.tail {w : World} {b off : Nat} {x : Str} {ws : List Str} (h : StrsAt w b off (x :: ws)) : StrsAt w b (off + 1) ws := fun i y hy => by
  have := h (i + 1) y (by simpa using hy)
  rwa [show off + (i + 1) = off + 1 + i by omega] at this
theorem StrsAt.keep {M : Nat → Prop} {w w' : World} {b off : Nat} {ws : List Str} (h : StrsAt w b off ws) (hk : Keep M w w') (hn : ¬ M b) : StrsAt w' b off ws := fun i y hy => by
  have h1 := h i y hy
  rw [hk.cell (World.block_lt_of_cell? _ _ h1) hn]
  exact h1

/-- words that a line may have: none is empty, none is too long -/
def okWords (ws : List Str) : Prop := ∀ x ∈ ws, x ≠ [] ∧ x.length ≤ 4294967296
theorem okWords.tail {x : Str} {ws : List Str} (h : okWords (x :: ws)) : okWords ws := fun y hy => h y (List.mem_cons_of_mem _ hy)
theorem okWords.head {x : Str} {ws : List Str} (h : okWords (x :: ws)) : x ≠ [] ∧ x.length ≤ 4294967296 := h x (List.mem_cons_self)

/-- the program's line (block lb, of one cell; its words lie in block rb) holds just these words yet -/
def LineAt (w : World) (lb rb : Nat) (ws : List Str) : Prop :=
  ∃ off c, w.heap[lb]? = some (.cells #[.slice (some ⟨rb, off, none⟩) ws.length c] 117 (0, 0)) ∧ ws.length ≤ c ∧ c ≤ 1099511627776 ∧ rb ≠ lb ∧ StrsAt w rb off ws ∧ okWords ws
theorem LineAt.keep {M : Nat → Prop} {w w' : World} {lb rb : Nat} {ws : List Str} (h : LineAt w lb rb ws) (hk : Keep M w w') (hl : ¬ M lb) (hr : ¬ M rb) : LineAt w' lb rb ws := by
  obtain ⟨off, c, h1, h2, h3, h4, h5, h6⟩ := h
  exact ⟨off, c, hk.at' h1 hl, h2, h3, h4, h5.keep hk hr, h6⟩
theorem LineAt.lt {w : World} {lb rb : Nat} {ws : List Str} (h : LineAt w lb rb ws) : lb < w.heap.size := by
  obtain ⟨off, c, h1, _⟩ := h
  exact lt_of_block h1
theorem LineAt.rlt {w : World} {lb rb : Nat} {x : Str} {ws : List Str} (h : LineAt w lb rb (x :: ws)) : rb < w.heap.size := by
  obtain ⟨off, c, _, _, _, _, h5, _⟩ := h
  exact World.block_lt_of_cell? _ _ (h5 0 x rfl)
theorem LineAt.ok {w : World} {lb rb : Nat} {ws : List Str} (h : LineAt w lb rb ws) : okWords ws := by
  obtain ⟨off, c, _, _, _, _, _, h6⟩ := h
  exact h6
end Go.Proofs.YtifliekahdgobaaGreatDoor
namespace Go.Proofs.YtifliekahdgobaaGreatDoor
open Sp

def digs : Str := [48, 49, 50, 51, 52, 53, 54, 55, 56, 57]
theorem all_u8 (p : UInt8 → Bool) (h : ∀ i : Fin 256, p (UInt8.ofNat i.val) = true) (c : UInt8) : p c = true := by
  have := h ⟨c.toNat, c.toNat_lt⟩
  simpa using this
theorem digs_contains (c : UInt8) : digs.contains c = isDig c := by
  have := all_u8 (fun c => digs.contains c == isDig c) (by decide +kernel) c
  simpa using this
theorem dropWhile_nil {α : Type} (p : α → Bool) : ∀ l : List α, l.dropWhile p = [] ↔ l.all p = true
  | [] => by simp
  | a :: l => by
    rw [List.dropWhile_cons]
    by_cases h : p a = true
    · rw [if_pos h, dropWhile_nil p l]; simp [h]
    · rw [if_neg h]; simp [h]
theorem trim_nil (x : Str) : Lib.trimS x digs = [] ↔ x.all isDig = true := by
  have hc : (fun c => digs.contains c) = isDig := funext digs_contains
  unfold Lib.trimS Lib.trimLeftS Lib.trimRightS
  rw [hc, dropWhile_nil]
  constructor
  · intro h
    by_cases hx : x.all isDig = true
    · exact hx
    · exfalso
      -- some byte is no digit: it stays
      have h1 : x.reverse.dropWhile isDig ≠ [] := fun e => hx (by
        have := (dropWhile_nil isDig x.reverse).1 e
        simpa using this)
      obtain ⟨a, t, ht⟩ := List.exists_cons_of_ne_nil h1
      have h2 : isDig a = false := by
        have := List.head?_dropWhile_not isDig x.reverse
        rw [ht] at this
        simpa using this
      rw [ht] at h
      simp [h2] at h
  · intro h
    have : x.reverse.dropWhile isDig = [] := (dropWhile_nil _ _).2 (by simpa using h)
    rw [this]
    simp
theorem isDig_iff (c : UInt8) : isDig c = true ↔ 48 ≤ c.toNat ∧ c.toNat ≤ 57 := by simp [isDig]
theorem valFrom_nil (a : Nat) : valFrom a [] = a := rfl
theorem valFrom_cons (a : Nat) (c : UInt8) (r : Str) : valFrom a (c :: r) = valFrom (10 * a + (c.toNat - 48)) r := by unfold valFrom; exact List.foldl_cons
theorem pow_up (k : Nat) : (10 : Nat) ^ (k + 1) = 10 * 10 ^ k := Nat.pow_succ'
theorem valFrom_lt (x : Str) : ∀ (a k : Nat), a < 10 ^ k → x.all isDig = true → valFrom a x < 10 ^ (k + x.length) := by
  induction x with
  | nil => intro a k ha _; exact ha
  | cons c r ih =>
    intro a k ha h
    simp only [List.all_cons, Bool.and_eq_true] at h
    have hc := (isDig_iff c).1 h.1
    have h1 : 10 * a + (c.toNat - 48) < 10 ^ (k + 1) := by rw [pow_up]; omega
    have h2 := ih _ (k + 1) h1 h.2
    rw [valFrom_cons, List.length_cons, show k + (r.length + 1) = k + 1 + r.length by omega]
    exact h2
theorem parseUintM_ok (x : Str) : ∀ (a k : Nat), a < 10 ^ k → k + x.length ≤ 18 → x.all isDig = true → Lib.parseUintM 18446744073709551615 a x = .ok (valFrom a x) := by
  induction x with
  | nil => intro a k _ _ _; rfl
  | cons c r ih =>
    intro a k ha hk h
    simp only [List.all_cons, Bool.and_eq_true] at h
    have hc := (isDig_iff c).1 h.1
    simp only [List.length_cons] at hk
    have h1 : 10 * a + (c.toNat - 48) < 10 ^ (k + 1) := by rw [pow_up]; omega
    have h2 : (10 : Nat) ^ (k + 1) ≤ 10 ^ 18 := Nat.pow_le_pow_right (by omega) (by omega)
    have h3 : (10 : Nat) ^ 18 = 1000000000000000000 := by decide
    rw [h3] at h2
    unfold Lib.parseUintM
    rw [if_pos hc, if_neg (by omega), if_neg (by omega), show a * 10 + (c.toNat - 48) = 10 * a + (c.toNat - 48) by omega]
    rw [ih _ (k + 1) h1 (by omega) h.2, valFrom_cons]
theorem numWord_iff (x : Str) : numWord x = true ↔ x ≠ [] ∧ x.length ≤ 18 ∧ x.all isDig = true ∧ (x.head? ≠ some 48 ∨ x = [48]) := by
  unfold numWord
  rw [Bool.and_eq_true, Bool.and_eq_true, Bool.and_eq_true, bne_iff_ne, decide_eq_true_iff, Bool.or_eq_true, bne_iff_ne, beq_iff_eq, and_assoc, and_assoc]
theorem parseUint_ok {x : Str} (h : numWord x = true) : Lib.parseUintB 64 x = .ok (valFrom 0 x) := by
  obtain ⟨h1, h2, h3, _⟩ := (numWord_iff x).1 h
  unfold Lib.parseUintB
  rw [if_neg h1]
  exact parseUintM_ok x 0 0 Nat.one_pos (by omega) h3
theorem val_lt {x : Str} (h : numWord x = true) : valFrom 0 x < 1000000000000000000 := by
  obtain ⟨h1, h2, h3, _⟩ := (numWord_iff x).1 h
  have h4 := valFrom_lt x 0 0 Nat.one_pos h3
  have h5 : (10 : Nat) ^ (0 + x.length) ≤ 10 ^ 18 := Nat.pow_le_pow_right (by omega) (by omega)
  have h6 : (10 : Nat) ^ 18 = 1000000000000000000 := by decide
  omega
end Go.Proofs.YtifliekahdgobaaGreatDoor
namespace Go.Proofs.YtifliekahdgobaaGreatDoor
open Go.RowKit Sp

/-- what is asked of the library's variables: they lie in the first nine blocks -/
structure Glob (w : World) : Prop where
  big : 9 ≤ w.heap.size
  tab : Lib.TabIs Tryz.prog w "internal/strconv.uint64pow10" .u64 Lib.pow10Tab
  ml : ∃ m, w.cell? ⟨1, 0, none⟩ = some (.int .i64 m)
  ty : w.cell? ⟨0, 0, none⟩ = some (.iface 172 (.agg #[typeHandle Tryz.prog 26]))
theorem Tryz.g4 : Tryz.prog.globalNamed "internal/strconv.uint64pow10" = some 4 := by kernel_rfl
theorem tab_keep {M : Nat → Prop} {w w' : World} (h : Lib.TabIs Tryz.prog w "internal/strconv.uint64pow10" .u64 Lib.pow10Tab) (hk : Keep M w w') (h4 : 4 < w.heap.size) (hM : ¬ M 4) : Lib.TabIs Tryz.prog w' "internal/strconv.uint64pow10" .u64 Lib.pow10Tab := by
  unfold Lib.TabIs World.var? at *
  rw [Tryz.g4] at h ⊢
  simp only [Option.bind_some] at h ⊢
  rw [hk.block 4 h4 hM]
  exact h
theorem Glob.keep {M : Nat → Prop} {w w' : World} (h : Glob w) (hk : Keep M w w') (hM : ∀ b, b < 9 → ¬ M b) : Glob w' := by
  have hb := h.big
  obtain ⟨m, hm⟩ := h.ml
  exact ⟨Nat.le_trans hb hk.size, tab_keep h.tab hk (by omega) (hM 4 (by omega)), ⟨m, hk.cellOf hm (hM 1 (by omega))⟩, hk.cellOf h.ty (hM 0 (by omega))⟩
theorem Glob.far {w w' : World} (h : Glob w) (hk : Keep (fun _ => False) w w') : Glob w' := h.keep hk (fun _ _ e => e)

/-- a call that hands back v, and only lays new blocks -/
def Gives (v : Value) (w : World) (e : Ending) (w' : World) : Prop := e = .returned v ∧ Keep (fun _ => False) w w'
theorem keep_grow (w : World) (k : Nat) (os : Array Obj) : Keep (fun _ => False) w (Sort.grow (w.drewN k) os) :=
  ⟨rfl, rfl, rfl, by show w.heap.size ≤ (w.heap ++ os).size; rw [Array.size_append]; omega, fun j hj _ => Lib.heap_grow_old w k os j hj⟩

/-- the library's digits are ours -/
theorem decDigits_dig : ∀ (f n : Nat), n < 10 ^ (f + 1) → Lib.decDigits n = digGo f n
  | 0, n, h => by
    have h' : n < 10 := h
    rw [Lib.decDigits_one h']
    show _ = [dgt (n % 10)]
    rw [Nat.mod_eq_of_lt h']
    rfl
  | f + 1, n, h => by
    unfold digGo
    by_cases h1 : n < 10
    · rw [if_pos h1, Lib.decDigits_one h1]; rfl
    · rw [if_neg h1, Lib.decDigits, dif_neg h1, decDigits_dig f (n / 10) (by rw [Nat.pow_succ] at h; omega)]
      rfl
theorem dec_dig {n : Nat} (h : n < 18446744073709551616) : Lib.decDigits n = dig n := decDigits_dig 20 n (Nat.lt_of_lt_of_le h (by decide))
theorem lib_itoa {n : Int} (h0 : -9223372036854775808 ≤ n) (h1 : n ≤ 9223372036854775807) : Lib.itoa n = itoa n := by
  unfold Lib.itoa itoa
  rw [dec_dig (by omega), dec_dig (by omega)]
theorem itoa_any (n : Int) (h0 : -9223372036854775808 ≤ n) (h1 : n ≤ 9223372036854775807) (w : World) (hg : Glob w) : Calls Tryz.prog 36 #[.int .i64 n] w (Gives (sv (itoa n)) w) := by
  refine (Tryz.strconv_Itoa n h0 h1 w hg.tab).mono ?_
  rintro e w' ⟨rfl, k, os, rfl⟩
  rw [lib_itoa h0 h1]
  exact ⟨rfl, keep_grow w k os⟩

set_option maxHeartbeats 1600000 in
set_option maxRecDepth 100000 in
theorem formatUint_any (u : Nat) (hu64 : u < 18446744073709551616) (w : World) (hg : Glob w) : Calls Tryz.prog 156 #[.int .u64 u, .int .i64 10] w (Gives (sv (dig u)) w) := by
  have htab := hg.tab
  clear hg
  by_cases hs : u < 100
  · have hq : (u : Int) < 100 := by omega
    go_enter Tryz.func156, Tryz.ntmps156
    go_wp2_with fail
    refine (Tryz.internal_strconv_small u hs _).mono ?_
    rintro e w' ⟨rfl, rfl⟩
    go_wp2_with fail
    go_ret
    refine ⟨?_, Keep.refl _ _⟩
    rw [dec_dig hu64]
    rfl
  · have hu1 : 1 ≤ u := by omega
    have hnd20 : Lib.nDigits u ≤ 20 := by have := Lib.numDigits_eq u hu1 hu64; split at this <;> omega
    have hq : ¬ (u : Int) < 100 := by omega
    have hal : Tryz.prog.arrayLen 215 = 24 := by simp [Program.arrayLen, Tryz.underlying215]
    have hsl1 : ∀ W, (Instr.sliceAt 215 (.pointer (some ⟨w.heap.size, 0, none⟩)) none (some (.int .i64 (Lib.nDigits u : Int))) none).run Tryz.prog W = .ok (.slice (some ⟨w.heap.size, 0, none⟩) (Lib.nDigits u) 24) W := fun W => by
      rw [run_sliceAt_array_h W 215 ⟨w.heap.size, 0, none⟩ (by simp [Program.arrayLen, Program.elem, Tryz.underlying215]) .i64 (Lib.nDigits u : Int) (by omega) (by rw [hal]; omega)]
      go_simp
    have hH0 := Lib.holds_zero0 w 215 (Lib.nDigits u) (by omega)
    have hfmt := Tryz.internal_strconv_formatBase10 w.heap.size 0 24 u (Array.replicate (Lib.nDigits u) 0) (w.alloc (.cells Lib.zeros24 215)) hH0 (by rw [Array.size_replicate]; exact Lib.lt_pow_nDigits u) hu64 (by rw [Array.size_replicate]; omega)
    rw [Array.size_replicate] at hfmt
    have HH0 := Lib.hid hH0
    clear hH0 hal
    go_enter Tryz.func156, Tryz.ntmps156
    go_wp2_with fail
    refine (Tryz.internal_strconv_numDigits u hu1 hu64 _ (Lib.tabIs_alloc htab _)).mono ?_
    rintro e w' ⟨rfl, rfl⟩
    go_wp2_with fail
    refine hfmt.mono ?_
    rintro e w' ⟨rfl, k, v', dk, rfl, hF⟩
    have hcv : (convert 47 9 (.slice (some ⟨w.heap.size, 0, none⟩) (Lib.nDigits u) 24)).run Tryz.prog ((Sort.putRow (fun (b : UInt8) => Value.int .u8 (b.toNat : Int)) (w.alloc (.cells Lib.zeros24 215)) w.heap.size 0 dk).drewN k) = .ok (.string ⟨(Lib.decDigits u).toArray⟩) ((Sort.putRow (fun (b : UInt8) => Value.int .u8 (b.toNat : Int)) (w.alloc (.cells Lib.zeros24 215)) w.heap.size 0 dk).drewN k) := by
      have h := run_convert_bytes_back (P := Tryz.prog) ((Sort.putRow (fun (b : UInt8) => Value.int .u8 (b.toNat : Int)) (w.alloc (.cells Lib.zeros24 215)) w.heap.size 0 dk).drewN k) 47 9 5 ⟨w.heap.size, 0, none⟩ 24 (Lib.decDigits u) Tryz.underlying47 Tryz.underlying5 Tryz.underlying9 (fun j hj => by
        rw [Lib.row_is_numeral hF j hj, Lib.add_plain, World.cell?_drewN]
        exact Sort.cell?_putRow (fun (b : UInt8) => Value.int .u8 (b.toNat : Int)) _ w.heap.size 0 _ dk HH0.out (by rw [hF.size, Array.size_replicate]) j (by rw [hF.size]; rw [Lib.decDigits_length] at hj; exact hj))
      rw [Lib.decDigits_length] at h
      exact h
    go_wp2_with fail
    go_ret
    obtain ⟨os, eo⟩ := Lib.fin_at w (.cells Lib.zeros24 215) dk k 0
    refine ⟨?_, ?_⟩
    · rw [dec_dig hu64]
      rfl
    · rw [eo]; exact keep_grow w k os
theorem num_walk (u : Nat) (hu64 : u < 18446744073709551616) (w : World) (hg : Glob w) : Calls Tryz.prog 105 #[.int .u64 u] w (Gives (sv (dig u)) w) := by
  have H := formatUint_any u hu64 w hg
  clear hg
  have H2 : Calls Tryz.prog 135 #[.int .u64 u, .int .i64 10] w (Gives (sv (dig u)) w) := by
    go_enter Tryz.func135, Tryz.ntmps135
    go_wp2_with fail
    refine H.mono ?_
    rintro e w1 ⟨rfl, hk⟩
    have HK := Lib.hid hk
    clear hk
    go_wp2_with fail
    go_ret
    exact ⟨rfl, HK.out⟩
  go_enter Tryz.func105, Tryz.ntmps105
  go_wp2_with fail
  refine H2.mono ?_
  rintro e w1 ⟨rfl, hk⟩
  have HK := Lib.hid hk
  clear hk
  go_wp2_with fail
  go_ret
  exact ⟨rfl, HK.out⟩
/-- a number that may be: as text -/
theorem num_text (n : Int) (h0 : 0 ≤ n) (h1 : n < 18446744073709551616) (w : World) (hg : Glob w) : Calls Tryz.prog 105 #[.int .u64 n] w (Gives (sv (itoa n)) w) := by
  obtain ⟨u, rfl⟩ : ∃ u : Nat, n = u := ⟨n.toNat, by omega⟩
  have := num_walk u (by omega) w hg
  unfold itoa
  rw [if_neg (by omega), Int.toNat_natCast]
  exact this
end Go.Proofs.YtifliekahdgobaaGreatDoor
namespace Go.Proofs.YtifliekahdgobaaGreatDoor
open Go.ChangeShapes Go.WideShapes Go.ChangeAt Go.RowKit

theorem Tryz.own : ownKnob Tryz.prog.godebug = none := by kernel_rfl
theorem Tryz.gE : Tryz.prog.globalNamed "errors.errorType" = some 0 := by kernel_rfl
theorem Tryz.rt : (Tryz.prog.cutTypes.find? (·.1 == "internal/reflectlite.rtype")).map (·.2) = some 172 := by kernel_rfl
theorem Tryz.oneRow : ((List.range Tryz.prog.types.size).filter fun t => Tryz.prog.rowNamed t [101, 114, 114, 111, 114]) = [26] := by kernel_rfl
/-- the listed variables, as the five rows list them -/
def laid : List (String × DataW Unit) := Rows.scriptReadsRow.laid
theorem laid_parts {w : World} (h : laidMetH Tryz.prog laid w) :
    laidMet Tryz.prog [("math/bits.deBruijn32tab", Rows.laid_math_bits_deBruijn32tab), ("math/bits.deBruijn64tab", Rows.laid_math_bits_deBruijn64tab), ("internal/strconv.uint64pow10", Rows.laid_internal_strconv_uint64pow10), ("unicode/utf8.acceptRanges", Rows.laid_unicode_utf8_acceptRanges), ("strconv.ErrRange", Rows.laid_strconv_ErrRange), ("strconv.ErrSyntax", Rows.laid_strconv_ErrSyntax), ("unicode/utf8.first", Rows.laid_unicode_utf8_first)] w ∧
    handlesMet Tryz.prog [("errors.errorType", Rows.laid_errors_errorType)] w := h
theorem Tryz.gTab : Tryz.prog.globalNamed "internal/strconv.uint64pow10" = some 4 := by kernel_rfl
theorem Tryz.gTabTy : (Tryz.prog.globals[4]?).map (·.type) = some 233 := by kernel_rfl
/-- WHAT THE ROW's CONDITION AND THE WORLD's SHAPE GIVE A WALK -/
theorem glob_of_laid {w : World} (h : laidMetH Tryz.prog laid w) (hs : w.ShapedOpen Tryz.prog) : Glob w := by
  obtain ⟨hl, hh⟩ := laid_parts h
  obtain ⟨m, hm⟩ : ∃ m, w.cell? ⟨1, 0, none⟩ = some (.int .i64 m) := cell_of_shapedOpen_int (t := 3) (zero := #[.int .i64 0]) hs (of_decide_eq_true (by kernel_rfl)) (by kernel_rfl) rfl (by kernel_rfl) (by kernel_rfl) Tryz.underlying3
  refine ⟨?_, ?_, ⟨m, hm⟩, ?_⟩
  · obtain ⟨cs, hh8, _⟩ := hs.1 8 (((((begin Tryz.prog (fun _ _ => 0) default).world.heap[8]?).bind Obj.row?).getD (#[], 0)).1) (((((begin Tryz.prog (fun _ _ => 0) default).world.heap[8]?).bind Obj.row?).getD (#[], 0)).2) (of_decide_eq_true (by kernel_rfl)) (by kernel_rfl)
    exact lt_of_block hh8
  · exact Lib.tabIs_of_head Tryz.gTab Tryz.gTabTy Tryz.underlying233 Tryz.underlying55 (by kernel_rfl) (by kernel_rfl) (laidMet.tail (laidMet.tail hl))
  · obtain ⟨name, u, ty, e1, e2, e3, e4, e5⟩ := hh _ (List.mem_singleton.2 rfl)
    have en : name = [101, 114, 114, 111, 114] := (Option.some.inj e1).symm
    subst en
    obtain rfl := Option.some.inj (Tryz.rt.symm.trans e2)
    have hm : ty ∈ (List.range Tryz.prog.types.size).filter fun t => Tryz.prog.rowNamed t [101, 114, 114, 111, 114] := List.mem_filter.2 ⟨List.mem_range.2 e3, e4⟩
    rw [Tryz.oneRow] at hm
    obtain rfl := List.mem_singleton.1 hm
    simpa using World.var?_cell Tryz.gE e5 0
/-! ### the witness -/
/-- the settled world, the handle's cell laid, and then the data -/
noncomputable def hworld (os : Os) : World :=
  let w0 := World.holding Tryz.prog os ⟨#[], #[], []⟩
  { w0 with heap := w0.heap.modify 0 fun
      | .cells _ t frozen => .cells #[.iface 172 (.agg #[typeHandle Tryz.prog 26])] t frozen
      | o => o }
def dataLaid : List (String × DataW Unit) := [("math/bits.deBruijn32tab", Rows.laid_math_bits_deBruijn32tab), ("math/bits.deBruijn64tab", Rows.laid_math_bits_deBruijn64tab), ("internal/strconv.uint64pow10", Rows.laid_internal_strconv_uint64pow10), ("unicode/utf8.acceptRanges", Rows.laid_unicode_utf8_acceptRanges), ("strconv.ErrRange", Rows.laid_strconv_ErrRange), ("strconv.ErrSyntax", Rows.laid_strconv_ErrSyntax), ("unicode/utf8.first", Rows.laid_unicode_utf8_first)]
noncomputable def laidWorld (os : Os) : World := (hworld os).layVars Tryz.prog dataLaid
theorem laidWorld_os (os : Os) : (laidWorld os).os = os := World.layVars_os _ _ _
theorem data_met (os : Os) : laidMet Tryz.prog dataLaid (laidWorld os) := by
  have e1 : (dataLaid.filter fun x => (dataLaid.map (·.1)).contains x.1) = dataLaid := List.filter_eq_self.2 fun x hx => List.contains_iff_mem.2 (List.mem_map.2 ⟨x, hx, rfl⟩)
  have e2 : (dataLaid.filter fun x => !(dataLaid.map (·.1)).contains x.1) = [] := List.filter_eq_nil_iff.2 fun x hx => by rw [List.contains_iff_mem.2 (List.mem_map.2 ⟨x, hx, rfl⟩)]; simp
  exact laidMet_layVars (w0 := hworld os) (dataLaid.map (·.1)) [] (by rw [e1]; rfl) (by rw [e1]; kernel_rfl) (by rw [e1]; kernel_rfl) (by rw [e2]; exact LaidIn.none)
theorem laidWorld_met (os : Os) (args : Array Value) : laidMetH Tryz.prog laid ((laidWorld os).forCall (fun _ _ => 0) ⟨#[], args, []⟩).memory :=
  laidMetH_of_parts ((show laidMet Tryz.prog (laid.filter fun x => x.2.handleName?.isNone) (laidWorld os) from data_met os).of_heap (by simp [World.memory, World.forCall, Input.heap])) (by kernel_rfl)
/-- the wrap: the row's condition, the listed variables and the world's shape, all handed on -/
theorem returns_laid_shaped {H : Type} {enc : TypeId × Value → H} {a : Assume} {C : Checked} {os : Os} {f : FuncId} {fn : Func} {s : ChangeSpec} {conds : List PathCond} {apart fresh handsOn again : Bool} {X : World → Array Value → Prop}
    (hX : ∀ (w w' : World) (args : Array Value), w.heap = w'.heap → X w args → X w' args)
    (own : ownKnob C.prog.godebug = none) (started : os.Started) (noInit : C.prog.inits.idxOf? f = none) (hfn : C.prog.funcs[f]? = some fn)
    (witness : ∃ (w : World) (tape : Tape) (i : Input), w.os = os ∧ (w.forCall tape i).Shaped C.prog ∧ i.vars = [] ∧ Input.okWide C.prog (w.forCall tape i) .any w.heap.size f i ∧
      ((s.pre enc C.prog fn conds apart (w.forCall tape i).memory i.args ∧ X (w.forCall tape i).memory i.args) ∧ sizedMet enc C.prog fn (OpenSpec.ofChange s) apart (w.forCall tape i).memory i.args) ∧ a.holds C.prog (lone (Frame.enter C.prog f i.args .normal) [] (w.forCall tape i)))
    (contract : ∀ (W : World) (base : Nat) (args : Array Value) (ds gs : List (DataW H)) (before : List MemPlace),
      (∀ (j : Nat) t v, fn.params[j]? = some t → args[j]? = some v → Value.okWide C.prog W .any base t v) →
      DataW.Whole enc C.prog fn.params.toList s.vars apart W args.toList ds gs before →
      (DataW.weightsEach C.prog (fn.params.toList ++ s.plain.varTypes C.prog) (ds ++ gs)).all (· ≤ reachBytes) = true → X W args → W.ShapedOpen C.prog →
      Calls C.prog f args W fun e W' => ∃ v, e = .returned v ∧ s.post enc C.prog fn apart fresh handsOn again W args v W') :
    ReturnsInHanded a C os f .any (fun w args => (s.pre enc C.prog fn conds apart w args ∧ X w args) ∧ sizedMet enc C.prog fn (OpenSpec.ofChange s) apart w args) (s.post enc C.prog fn apart fresh handsOn again) := by
  refine returnsInHanded_of_calls own started noInit witness ?_
  intro w tape i _ hsh _ hok hpre hholds
  obtain ⟨_, _, _, fn', hfn', _, _, _, _, hval⟩ := hok
  have e : fn' = fn := Option.some.inj (hfn'.symm.trans hfn)
  subst e
  obtain ⟨⟨⟨ds, gs, before, hw, hc⟩, hx⟩, hz⟩ := hpre
  have hw' := DataW.Whole.of_heap (w' := w.forCall tape i) (by rfl) hw
  refine (contract (w.forCall tape i) w.heap.size i.args ds gs before hval hw' (hz.weights hw) (hX _ _ _ (by rfl) hx) hsh).mono fun e W' ⟨v, he, hp⟩ => ?_
  subst he
  exact ChangeSpec.post_blind hp
end Go.Proofs.YtifliekahdgobaaGreatDoor
namespace Go.Proofs.YtifliekahdgobaaGreatDoor
open Sp

/-- faults of lines are above 2 -/
theorem line_err {s : ScriptS} {ws : List Str} {c : Int} (h : line s ws = .error c) : 3 ≤ c := by
  cases ws with
  | nil => simp only [line] at h; cases h
  | cons x ws =>
    simp only [line] at h
    repeat' split at h
    all_goals first | (injection h with h; omega) | cases h
theorem splitNL_none : ∀ (s : Str), (∀ c ∈ s, c ≠ 10) → splitNL s = [s]
  | [], _ => rfl
  | c :: s, h => by
    have h1 := splitNL_none s (fun d hd => h d (List.mem_cons_of_mem _ hd))
    simp only [splitNL]
    rw [if_neg (h c List.mem_cons_self), h1]
theorem splitNL_at : ∀ (a b : Str), (∀ c ∈ a, c ≠ 10) → splitNL (a ++ 10 :: b) = a :: splitNL b
  | [], b, _ => by simp [splitNL]
  | c :: a, b, h => by
    have h1 := splitNL_at a b (fun d hd => h d (List.mem_cons_of_mem _ hd))
    simp only [List.cons_append, splitNL]
    rw [if_neg (h c List.mem_cons_self), h1]
/-- at a newline -/
theorem split_step (t : Str) (j i : Nat) (hj : j ≤ i) (hi : i < t.length) (hc : t[i] = 10) (hn : ∀ k, j ≤ k → k < i → t[k]? ≠ some 10) : splitNL (t.drop j) = (t.drop j).take (i - j) :: splitNL (t.drop (i + 1)) := by
  have h1 : t.drop j = (t.drop j).take (i - j) ++ 10 :: t.drop (i + 1) := by
    rw [← hc]
    have h2 := List.take_append_drop (i - j) (t.drop j)
    rw [List.drop_drop, show j + (i - j) = i by omega, List.drop_eq_getElem_cons hi] at h2
    exact h2.symm
  have h3 : ∀ c ∈ (t.drop j).take (i - j), c ≠ 10 := by
    intro c hc' e
    obtain ⟨k, hk, hkc⟩ := List.mem_iff_getElem.1 hc'
    simp only [List.length_take, List.length_drop] at hk
    refine hn (j + k) (by omega) (by omega) ?_
    rw [List.getElem_take, List.getElem_drop] at hkc
    rw [List.getElem?_eq_getElem (by omega), hkc, e]
  calc splitNL (t.drop j) = splitNL ((t.drop j).take (i - j) ++ 10 :: t.drop (i + 1)) := by rw [← h1]
    _ = _ := splitNL_at _ _ h3
/-- at the end -/
theorem split_end (t : Str) (j : Nat) (hn : ∀ k, j ≤ k → k < t.length → t[k]? ≠ some 10) : splitNL (t.drop j) = [t.drop j] := splitNL_none _ (by
  intro c hc' e
  obtain ⟨k, hk, hkc⟩ := List.mem_iff_getElem.1 hc'
  simp only [List.length_drop] at hk
  refine hn (j + k) (by omega) (by omega) ?_
  rw [List.getElem_drop] at hkc
  rw [List.getElem?_eq_getElem (by omega), hkc, e])
end Go.Proofs.YtifliekahdgobaaGreatDoor
namespace Go.Proofs.YtifliekahdgobaaGreatDoor
open Sp

theorem occ_nl (s : Str) (i : Nat) : Lib.occAt s [10] i = (s[i]? == some 10) := by
  unfold Lib.occAt
  rcases h : s.drop i with _ | ⟨c, r⟩
  · have h1 : s.length ≤ i := by simpa using h
    rw [List.getElem?_eq_none h1]
    rfl
  · have h1 : s[i]? = some c := by
      have := congrArg (fun l => l[0]?) h
      simpa using this
    rw [h1]
    rw [Bool.eq_iff_iff]
    simp only [List.isPrefixOf, Bool.and_true, beq_iff_eq, Option.some.injEq]
    exact ⟨fun e => e.symm, fun e => e.symm⟩
theorem nl_cases : ∀ s : Str, (∀ c ∈ s, c ≠ 10) ∨ ∃ a b, s = a ++ 10 :: b ∧ ∀ c ∈ a, c ≠ 10
  | [] => .inl (by simp)
  | c :: s => by
    by_cases hc : c = 10
    · exact .inr ⟨[], s, by rw [hc]; rfl, by simp⟩
    · rcases nl_cases s with h | ⟨a, b, rfl, h⟩
      · exact .inl fun d hd => by
          rcases List.mem_cons.1 hd with rfl | hd
          · exact hc
          · exact h d hd
      · exact .inr ⟨c :: a, b, rfl, fun d hd => by
          rcases List.mem_cons.1 hd with rfl | hd
          · exact hc
          · exact h d hd⟩
theorem index_nl_none {s : Str} (h : ∀ c ∈ s, c ≠ 10) : Lib.index s [10] = -1 := by
  apply Lib.index_none
  intro j _
  rw [occ_nl]
  rw [beq_eq_false_iff_ne]
  intro e
  exact h 10 (List.mem_of_getElem? e) rfl
theorem index_nl_at {a b : Str} (h : ∀ c ∈ a, c ≠ 10) : Lib.index (a ++ 10 :: b) [10] = a.length := by
  apply Lib.index_first
  · simp
  · rw [occ_nl]; simp
  · intro j hj
    rw [occ_nl, beq_eq_false_iff_ne, List.getElem?_append_left hj]
    intro e
    exact h 10 (List.mem_of_getElem? e) rfl
theorem split_nl : ∀ (n : Nat) (s : Str), s.length ≤ n → Lib.splitK [10] 0 (Lib.count s [10]) s = splitNL s
  | n, s, hn => by
    rcases nl_cases s with h | ⟨a, b, rfl, h⟩
    · rw [Lib.count_miss (index_nl_none h), splitNL_none s h]
      rfl
    · match n with
      | 0 => simp at hn
      | n + 1 =>
        have hi := index_nl_at (b := b) h
        have hd : (a ++ 10 :: b).drop (a.length + ([10] : Str).length) = b := by simp
        rw [Lib.count_hit (by simp) hi, hd, Nat.add_comm, splitNL_at a b h]
        unfold Lib.splitK
        rw [if_neg (by rw [hi]; simp), hi, Int.toNat_natCast, hd, split_nl n b (by simp at hn; omega)]
        simp
theorem splitB_nl (s : ByteArray) : (Lib.splitB ⟨#[10]⟩ 0 (Lib.countB s ⟨#[10]⟩) s).map (·.data.toList) = splitNL s.data.toList := by
  rw [Lib.splitB_data]
  exact split_nl _ _ (Nat.le_refl _)
theorem splitNL_len : ∀ s : Str, (splitNL s).length ≤ s.length + 1 ∧ ∀ x ∈ splitNL s, x.length ≤ s.length
  | [] => by simp [splitNL]
  | c :: s => by
    obtain ⟨h1, h2⟩ := splitNL_len s
    unfold splitNL
    split
    · refine ⟨by simp; omega, fun x hx => ?_⟩
      rcases List.mem_cons.1 hx with rfl | hx
      · simp
      · have := h2 x hx; simp; omega
    · rcases hs : splitNL s with _ | ⟨x, r⟩
      · refine ⟨by simp, fun x hx => ?_⟩
        simp at hx; subst hx; simp
      · rw [hs] at h1 h2
        refine ⟨by simp at h1 ⊢; omega, fun y hy => ?_⟩
        rcases List.mem_cons.1 hy with rfl | hy
        · have := h2 x List.mem_cons_self; simp; omega
        · have := h2 y (List.mem_cons_of_mem _ hy); simp; omega
end Go.Proofs.YtifliekahdgobaaGreatDoor
