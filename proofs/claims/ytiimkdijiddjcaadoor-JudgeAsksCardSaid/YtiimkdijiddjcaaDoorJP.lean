/- The judge and the document's judge, as plain functions: no program in sight. -/
import Derived.KernelRfl
namespace Go.Proofs.YtiimkdijiddjcaaDoor.JP
set_option linter.unusedSimpArgs false
set_option linter.unusedVariables false
set_option linter.unusedSectionVars false
set_option linter.defProp false

abbrev Str := ByteArray
abbrev Line := Int × Int × Str
abbrev Lock := Int × Str
abbrev Tg := Int × Int × Int

structure Act where
  kind : Int
  client : Int
  queue : Int
  seq : Int
  tag : Int
  code : Int
  key : Str
  body : Str
  many : Int
  pub : Int
  mseq : Int
  mkey : Str
  mbody : Str
  again : Bool
def Act.line (a : Act) : Line := (a.client, a.queue, a.key)
def Act.mline (a : Act) : Line := (a.pub, a.queue, a.mkey)
def Act.lock (a : Act) : Lock := (a.queue, a.mkey)
def Act.tg (a : Act) : Tg := (a.client, a.queue, a.tag)

/-- a digit's text -/
def dig (i : Nat) : Str := ⟨#[UInt8.ofNat (48 + i)]⟩
def bodyOf (a : Act) (i : Nat) : Str := if a.many > 1 then a.body ++ dig i else a.body

/- ## the document's judge -/
structure Post where
  client : Int
  queue : Int
  key : Str
  first : Int
  many : Int
  state : Nat
def Post.line (p : Post) : Line := (p.client, p.queue, p.key)
structure Seen where
  queue : Int
  post : Nat
  pub : Int
  seq : Int
  key : Str
  body : Str
  dl : Bool
  hd : Bool
  ak : Bool
  fi : Bool
def Seen.line (x : Seen) : Line := (x.pub, x.queue, x.key)
structure Got where
  client : Int
  queue : Int
  tag : Int
  m : Nat
  state : Nat
def Got.tg (g : Got) : Tg := (g.client, g.queue, g.tag)
structure St where
  wait : List Post
  ms : List Seen
  tops : List Int
  tags : List Got

def ends (l : Line) : List Post → Int → Int
  | [], n => n
  | p :: r, n => ends l r (if p.line = l then p.first + p.many - 1 else n)
def newS (a : Act) (post i : Nat) : Seen := ⟨a.queue, post, a.client, a.seq + i, a.key, bodyOf a i, false, false, false, false⟩
def pubS (s : St) (a : Act) : Option St :=
  if a.many < 1 ∨ 8 < a.many ∨ a.seq ≠ ends a.line s.wait 0 + 1 then none
  else some { s with wait := s.wait ++ [⟨a.client, a.queue, a.key, a.seq, a.many, 0⟩], ms := s.ms ++ (List.range a.many.toNat).map (newS a s.wait.length) }
def ansL (a : Act) (st : Nat) : List Post → Option (List Post)
  | [] => none
  | p :: r => if p.line = a.line ∧ p.state = 0 then (if p.first + p.many - 1 ≠ a.seq then none else some ({ p with state := st } :: r)) else (ansL a st r).map (p :: ·)
def ansS (s : St) (a : Act) (st : Nat) : Option St := (ansL a st s.wait).map fun w => { s with wait := w }
def stOf (w : List Post) (i : Nat) : Nat := ((w[i]?).map (·.state)).getD 0
def bare (a : Act) (w : List Post) (x : Seen) : Bool :=
  x.queue = a.queue ∧ x.pub = a.pub ∧ x.seq = a.mseq ∧ x.key = a.mkey ∧ x.body = a.mbody ∧ stOf w x.post ≠ 2
def lastM (f : Seen → Bool) : List Seen → Nat → Option Nat → Option Nat
  | [], _, k => k
  | x :: r, i, k => lastM f r (i + 1) (if f x then some i else k)
def heldIn (a : Act) (ms : List Seen) : Bool := ms.any fun x => x.queue = a.queue ∧ x.key = a.mkey ∧ x.hd
def ahead (a : Act) (w : List Post) (ms : List Seen) : Bool := ms.any fun x => x.queue = a.queue ∧ x.pub = a.pub ∧ x.key = a.mkey ∧ x.seq < a.mseq ∧ stOf w x.post ≠ 2 ∧ x.dl = false
def topOf (l : List Int) (c : Int) : Int := l.getD c.toNat 0
def modAt {α : Type} (l : List α) (i : Nat) (f : α → α) : List α := l.modify i f
def delU (s : St) (a : Act) (k : Nat) (x : Seen) : Option St :=
  if x.fi = true ∨ a.again ≠ x.dl then none
  else if a.again = false ∧ ahead a s.wait s.ms = true then none
  else some { s with tops := s.tops.set a.client.toNat a.tag, ms := modAt s.ms k (fun x => { x with dl := true, hd := true, ak := false }), tags := s.tags ++ [⟨a.client, a.queue, a.tag, k, 0⟩] }
def delT (s : St) (a : Act) : Option St :=
  if heldIn a s.ms then none
  else match lastM (bare a s.wait) s.ms 0 none with
    | none => none
    | some k => match s.ms[k]? with
      | none => none
      | some x => delU s a k x
def delS (s : St) (a : Act) : Option St :=
  if a.tag < 1 ∨ a.tag ≤ topOf s.tops a.client then none else delT s a
def toM (to : Nat) (x : Seen) : Seen := if to = 1 then { x with hd := false, ak := true } else if to = 2 then { x with hd := false } else { x with fi := true }
def setL (a : Act) (fr to : Nat) : List Got → Option (Nat × List Got)
  | [] => none
  | g :: r => if g.tg = a.tg ∧ g.state = fr then some (g.m, { g with state := to } :: r) else (setL a fr to r).map fun (m, l) => (m, g :: l)
def setS (s : St) (a : Act) (fr to : Nat) : Option St := (setL a fr to s.tags).map fun (m, l) => { s with tags := l, ms := modAt s.ms m (toM to) }
def addS (s : St) (a : Act) : Option St :=
  if a.client < 0 ∨ 4 ≤ a.client ∨ a.queue < 0 ∨ 4 ≤ a.queue then none
  else if a.kind = 1 then pubS s a
  else if a.kind = 2 then ansS s a 1
  else if a.kind = 3 then ansS s a 2
  else if a.kind = 4 then delS s a
  else if a.kind = 5 then setS s a 0 1
  else if a.kind = 7 ∨ a.kind = 8 then setS s a 0 2
  else if a.kind = 6 then setS s a 1 3
  else if a.kind = 9 then some s
  else none
def St.start : St := ⟨[], [], [0, 0, 0, 0], []⟩

/- ## the judge -/
structure KB where
  from_ : Int
  to_ : Int
  state : Nat
structure KX where
  pub : Int
  seq : Int
  key : Str
  body : Str
  b : Nat
  dl : Bool
  ak : Bool
  se : Bool
structure K where
  bs : List KB
  xs : List KX
  batches : Line → List Nat
  all : Line → List Nat
  held : Lock → Bool
  holds : Tg → Option Nat
  acks : Tg → Option Nat
  last : List Int
def upd {α β : Type} [DecidableEq α] (f : α → β) (k : α) (v : β) : α → β := fun x => if x = k then v else f x
def newK (a : Act) (b i : Nat) : KX := ⟨a.client, a.seq + i, a.key, bodyOf a i, b, false, false, false⟩
def pubK (k : K) (a : Act) : Option K :=
  if a.many < 1 ∨ 8 < a.many ∨ a.seq ≠ (k.all a.line).length + 1 then none
  else some { k with bs := k.bs ++ [⟨a.seq, a.seq + a.many - 1, 0⟩], batches := upd k.batches a.line (k.batches a.line ++ [k.bs.length]),
                     xs := k.xs ++ (List.range a.many.toNat).map (newK a k.bs.length), all := upd k.all a.line (k.all a.line ++ (List.range a.many.toNat).map (k.xs.length + ·)) }
def stK (bs : List KB) (i : Nat) : Nat := ((bs[i]?).map (·.state)).getD 0
def tolK (k : K) (a : Act) (st : Nat) : Option K :=
  match (k.batches a.line).find? fun i => stK k.bs i = 0 with
  | none => none
  | some i => if ((k.bs[i]?).map (·.to_)) = some a.seq then some { k with bs := k.bs.modify i fun b => { b with state := st } } else none
def dlK (xs : List KX) (i : Nat) : Bool := ((xs[i]?).map (·.dl)).getD false
def bK (xs : List KX) (i : Nat) : Nat := ((xs[i]?).map (·.b)).getD 0
/-- not delivered, and not refused -/
def behind (k : K) (i : Nat) : Bool := decide (dlK k.xs i = false ∧ stK k.bs (bK k.xs i) ≠ 2)
def delR (k : K) (a : Act) (j : Nat) : K :=
  { k with xs := k.xs.modify j fun x => { x with dl := true, ak := false }, last := k.last.set a.client.toNat a.tag,
           held := upd k.held a.lock true, holds := upd k.holds a.tg (some j) }
def delX (k : K) (a : Act) (j : Nat) (x : KX) : Option K :=
  if ¬ (x.pub = a.pub ∧ x.seq = a.mseq ∧ x.key = a.mkey ∧ x.body = a.mbody) ∨ stK k.bs x.b = 2 ∨ x.se = true ∨ x.dl ≠ a.again then none
  else if x.dl = false ∧ ((k.all a.mline).take (a.mseq - 1).toNat).any (behind k) = true then none
  else some (delR k a j)
def delK (k : K) (a : Act) : Option K :=
  if a.tag ≤ topOf k.last a.client ∨ a.mseq < 1 ∨ a.mseq > (k.all a.mline).length ∨ k.held a.lock = true then none
  else match (k.all a.mline)[(a.mseq - 1).toNat]? with
    | none => none
    | some j => match k.xs[j]? with
      | none => none
      | some x => delX k a j x
def leaK (k : K) (a : Act) : Option K :=
  match k.holds a.tg with
  | none => none
  | some j => match k.xs[j]? with
    | none => none
    | some x =>
      some { k with holds := upd k.holds a.tg none, held := upd k.held (a.queue, x.key) false,
                    xs := if a.kind = 5 then k.xs.modify j fun x => { x with ak := true } else k.xs, acks := if a.kind = 5 then upd k.acks a.tg (some j) else k.acks }
def setK (k : K) (a : Act) : Option K :=
  match k.acks a.tg with
  | none => none
  | some j => some { k with acks := upd k.acks a.tg none, xs := k.xs.modify j fun x => { x with se := true } }
def addK (k : K) (a : Act) : Option K :=
  if a.client < 0 ∨ 4 ≤ a.client ∨ a.queue < 0 ∨ 4 ≤ a.queue then none
  else if a.kind = 1 then pubK k a
  else if a.kind = 2 then tolK k a 1
  else if a.kind = 3 then tolK k a 2
  else if a.kind = 4 then delK k a
  else if a.kind = 5 ∨ a.kind = 7 ∨ a.kind = 8 then leaK k a
  else if a.kind = 6 then setK k a
  else if a.kind = 9 then some k
  else none
def K.start : K := ⟨[], [], fun _ => [], fun _ => [], fun _ => false, fun _ => none, fun _ => none, [0, 0, 0, 0]⟩

/-- over acts: what stands behind them, or the number of the first wrong one -/
def runS : St → List Act → Nat → St ⊕ Nat
  | s, [], _ => .inl s
  | s, a :: r, i => match addS s a with
    | some s' => runS s' r (i + 1)
    | none => .inr (i + 1)
def runK : K → List Act → Nat → K ⊕ Nat
  | k, [], _ => .inl k
  | k, a :: r, i => match addK k a with
    | some k' => runK k' r (i + 1)
    | none => .inr (i + 1)
def openS (s : St) : List Seen := s.ms.filter fun x => stOf s.wait x.post = 1 ∧ x.ak = false ∧ x.fi = false
def openK (k : K) : List KX := k.xs.filter fun x => stK k.bs x.b = 1 ∧ x.ak = false ∧ x.se = false
end Go.Proofs.YtiimkdijiddjcaaDoor.JP
