/- An abstract machine over the model's code: memory is a list of rows and maps under numbers; its operations are those of the model with the types looked up ahead ('comp'). No program is in sight. -/
import Derived.Orders
import Derived.KernelRfl
namespace Go.Abs
open Go

/-- kinds of plain cells -/
inductive CK where
  | int (k : IntKind) | str | bool
  deriving DecidableEq, Inhabited
/-- kinds of keys: one cell, or a struct of cells -/
inductive KK where
  | one (c : CK) | agg (cs : List CK)
  deriving DecidableEq, Inhabited

inductive AObj where
  | row (cells : List Value) (sz : Nat) (ro opn : Bool)
  | map (kk : KK) (es : List MapEntry) (clock : Nat)
  | dead
  deriving Inhabited

/-- a table by numbers -/
inductive T (α : Type) where
  | e
  | nd (v : Option α) (l r : T α)
  deriving Inhabited
def T.get {α : Type} : T α → Nat → Option α
  | .e, _ => none
  | .nd v l r, i => bif Nat.beq i 0 then v else bif Nat.beq (Nat.mod i 2) 1 then l.get (Nat.div i 2) else r.get (Nat.sub (Nat.div i 2) 1)
def T.one {α : Type} : Nat → Nat → α → T α
  | 0, _, v => .nd (some v) .e .e
  | f + 1, i, v => bif Nat.beq i 0 then .nd (some v) .e .e else bif Nat.beq (Nat.mod i 2) 1 then .nd none (T.one f (Nat.div i 2) v) .e else .nd none .e (T.one f (Nat.sub (Nat.div i 2) 1) v)
def T.put {α : Type} : T α → Nat → α → T α
  | .e, i, v => T.one (i + 1) i v
  | .nd w l r, i, v => bif Nat.beq i 0 then .nd (some v) l r else bif Nat.beq (Nat.mod i 2) 1 then .nd w (l.put (Nat.div i 2) v) r else .nd w l (r.put (Nat.sub (Nat.div i 2) 1) v)

structure AHeap where
  objs : T AObj
  next : Nat
  deriving Inhabited
def AHeap.get (A : AHeap) (id : Nat) : Option AObj := A.objs.get id
def AHeap.set (A : AHeap) (id : Nat) (x : AObj) : AHeap := ⟨A.objs.put id x, A.next⟩
def AHeap.new (A : AHeap) (x : AObj) : AHeap := ⟨A.objs.put A.next x, A.next + 1⟩

/-- a slice of elements of sz cells whose capacity is only known to be at least c bears the capacity 'capInf * (sz + 1) + c' -/
def capInf : Nat := 9223372036854775808

abbrev Fr := T Value
def lget (fr : Fr) (i : Nat) : Value := match fr.get i with | some v => v | none => undef
def lput (fr : Fr) (i : Nat) (v : Value) : Fr := fr.put i v
def frOf : List Value → Nat → Fr → Fr
  | [], _, fr => fr
  | v :: vs, i, fr => frOf vs (i + 1) (fr.put i v)

/-- a value of one cell -/
def cellV : Value → Bool
  | .agg _ | .tuple _ => false
  | _ => true
def notT : Value → Bool
  | .tuple _ => false
  | _ => true
/-- values without an address -/
def plain1 : Value → Bool
  | .bool _ | .int _ _ | .string _ | .pointer none | .slice none _ _ | .map none | .nilFunc | .nilIface => true
  | _ => false
def capOk : Value → Bool
  | .pointer (some _) => true
  | v => plain1 v
def vcells : Value → List Value
  | .agg cs => cs.toList
  | v => [v]

inductive Opd where
  | t (n : Nat) | c (v : Value)
  deriving Inhabited
def Opd.ev (fr : Fr) : Opd → Value
  | .t n => lget fr n
  | .c v => v

/-- kinds of '==' that are no numbers and no strings -/
inductive EK where
  | bool | ptr | slice | map | func | agg (cs : List CK)
  deriving DecidableEq, Inhabited

inductive AOp where
  | mov (x : Opd)
  | pick (c a b : Opd)
  | alloc (z : List Value) (sz : Nat)
  | box (sz : Nat) (x : Opd)
  | build (z : List Value) (parts : List (Nat × Nat × Opd))
  | buildSlice (sz len : Nat) (z : List Value) (parts : List (Nat × Nat × Opd))
  | ld1 (a : Opd)
  | ldN (n : Nat) (a : Opd)
  | st (n : Nat) (a x : Opd)
  | nilCheck (x : Opd)
  | bin (op : BinOp) (x y : Opd)
  | eq (neg : Bool) (k : EK) (x y : Opd)
  | un (op : UnOp) (x : Opd)
  | cvI (k : IntKind) (x : Opd)
  | cvB (x : Opd)
  | cvS (x : Opd)
  | mkFunc (f : FuncId) (captured : List Opd)
  | mkMap (k : KK)
  | mkSlice (sz bytes : Nat) (z : List Value) (l c : Opd)
  | slStr (x : Opd) (lo hi : Option Opd)
  | slice (sz : Nat) (x : Opd) (lo hi mx : Option Opd)
  | slArr (sz n : Nat) (x : Opd) (lo hi : Option Opd)
  | fadd (off : Nat) (x : Opd)
  | idxA (sz n : Nat) (x i : Opd)
  | idxS (sz : Nat) (x i : Opd)
  | ixStr (x i : Opd)
  | ixAgg (sz n : Nat) (agg : Bool) (x i : Opd)
  | fld (off sz : Nat) (agg : Bool) (x : Opd)
  | lookup (kk : KK) (z : Value) (ok : Bool) (x k : Opd)
  | mapUpd (kk : KK) (m k x : Opd)
  | mapEnt (kk : KK) (z : Value) (m k : Opd)
  | entSt (kk : KK) (m s x : Opd)
  | extract (x : Opd) (i : Nat)
  | lenS (x : Opd) | lenC (n : Nat) | lenSl (x : Opd) | lenM (kk : KK) (x : Opd)
  | append (sz bytes : Nat) (s x : Opd)
  | copy (sz : Nat) (d x : Opd)
  | clearS (z : List Value) (x : Opd)
  | delete (kk : KK) (m k : Opd)
  | min (xs : List Opd)
  | call (f : FuncId) (args : List Opd)
  | callV (f : Opd) (args : List Opd)
  deriving Inhabited

structure Step where
  dst : Option Nat
  guard : Option (Nat × Bool)
  op : AOp
  /-- at how many heads of segments, from this one back, the reader is asked again -/
  chk : Nat
  /-- the heap behind this step is one of those -/
  sv : Bool
  deriving Inhabited

inductive AC where
  | skip | reg (steps : List Step) | seq (a b : AC) | cond (x : Opd) (t e : AC) | block (id : Nat) (c : AC) | loop (c : AC)
  | exit (id : Nat) | ret | goto (l : Nat) | label (l : Nat) | scope (c : AC)
  deriving Inhabited

inductive ARes where
  | tmp (t : Nat) | cell (t : Nat) (n : Nat) (agg : Bool)
  deriving Inhabited

structure AFn where
  nt : Nat
  res : List ARes
  body : AC
  deriving Inhabited

/- ## what the operations do -/
def rdRow (A : AHeap) (id off n : Nat) : Option (List Value) :=
  match A.get id with
  | some (.row cs _ _ _) => let l := (cs.drop off).take n; bif Nat.beq l.length n then some l else none
  | _ => none
def wrRow (A : AHeap) (id off : Nat) (vs : List Value) : Option AHeap :=
  match A.get id with
  | some (.row cs sz false opn) =>
    bif Nat.ble (off + vs.length) cs.length then some (A.set id (.row (cs.take off ++ (vs ++ cs.drop (off + vs.length))) sz false opn)) else none
  | _ => none

def semVal : Sem Value → Option Value
  | .pure v => some v
  | _ => none

def abin (op : BinOp) (x y : Value) : Option Value :=
  match x, y with
  | .int k a, .int k' b =>
    match op with
    | .shl | .shr => semVal (Op.shift op k a k' b)
    | .add | .sub | .mul => if k = k' then semVal (Op.intArith op k a b) else none
    | .quo | .rem => if k = k' then semVal (Op.intDiv op k a b) else none
    | .and | .or | .xor | .andNot => if k = k' then semVal (Op.intBits op k a b) else none
    | _ => if k = k' then semVal (Op.intCmp op a b) else none
  | .string a, .string b =>
    match op with
    | .add => if a.size + b.size ≤ 1099511627776 then some (.string (a ++ b)) else none
    | _ => semVal (Op.stringOp op a b)
  | _, _ => none

def CK.ok : CK → Value → Bool
  | .int k, .int k' _ => decide (k = k')
  | .str, .string _ => true
  | .bool, .bool _ => true
  | _, _ => false
def allOk : List CK → List Value → Bool
  | [], [] => true
  | c :: cs, v :: vs => c.ok v && allOk cs vs
  | _, _ => false
def KK.ok : KK → Value → Bool
  | .one c, v => c.ok v
  | .agg cs, .agg vs => allOk cs vs.toList
  | _, _ => false
def ceq : Value → Value → Bool
  | .int _ a, .int _ b => a == b
  | .string a, .string b => a.data.toList == b.data.toList
  | .bool a, .bool b => a == b
  | _, _ => false
def ceqs : List Value → List Value → Bool
  | [], [] => true
  | a :: as, b :: bs => ceq a b && ceqs as bs
  | _, _ => false
def keq : Value → Value → Bool
  | .agg a, .agg b => ceqs a.toList b.toList
  | a, b => ceq a b

def aeq (k : EK) (x y : Value) : Option Bool :=
  match k, x, y with
  | .bool, .bool a, .bool b => some (a == b)
  | .ptr, .pointer none, .pointer b => some b.isNone
  | .ptr, .pointer (some _), .pointer none => some false
  | .slice, .slice none _ _, .slice b _ _ => some b.isNone
  | .slice, .slice (some _) _ _, .slice none _ _ => some false
  | .map, .map none, .map b => some b.isNone
  | .map, .map (some _), .map none => some false
  | .func, .nilFunc, .nilFunc => some true
  | .func, .nilFunc, .func _ _ _ => some false
  | .func, .func _ _ _, .nilFunc => some false
  | .agg cs, .agg a, .agg b => if allOk cs a.toList && allOk cs b.toList then some (ceqs a.toList b.toList) else none
  | _, _, _ => none

def fillL : List Value → List (Nat × Nat × Value) → Option (List Value)
  | cs, [] => some cs
  | cs, (off, n, v) :: r =>
    bif notT v && (Nat.beq (vcells v).length n && Nat.ble (off + n) cs.length) then fillL (cs.take off ++ (vcells v ++ cs.drop (off + n))) r else none

def repL (z : List Value) : Nat → List Value
  | 0 => []
  | n + 1 => z ++ repL z n

def boundOf (x : Value) (y : Nat) : Option Nat :=
  match x with
  | .int _ i => if 0 ≤ i ∧ i ≤ (y : Int) then some i.toNat else none
  | _ => none
def boundO (x : Option Value) (y d : Nat) : Option Nat :=
  match x with
  | some v => boundOf v y
  | none => some d

def addA (a : Addr) (n : Nat) : Addr := ⟨a.block, a.off + n, a.spot⟩

def aslStr (x : Value) (lo hi : Option Value) : Option Value :=
  match x with
  | .string s => (boundO hi s.size s.size).bind fun h => (boundO lo h 0).bind fun l => some (.string (s.extract l h))
  | _ => none
def aslice (sz : Nat) (x : Value) (lo hi mx : Option Value) : Option Value :=
  match x with
  | .slice a len cap =>
    match mx with
    | some v =>
      (boundOf v (Nat.mod cap capInf)).bind fun m =>
      (hi.bind fun v => boundOf v m).bind fun h => (boundO lo h 0).bind fun l =>
      some (.slice (if m = l then a else a.map (addA · (l * sz))) (h - l) (m - l))
    | none =>
      (boundO hi (Nat.mod cap capInf) len).bind fun h => (boundO lo h 0).bind fun l =>
      if cap < capInf then some (.slice (if cap = l then a else a.map (addA · (l * sz))) (h - l) (cap - l))
      else if Nat.div cap capInf = sz + 1 then some (.slice (a.map (addA · (l * sz))) (h - l) (cap - l)) else none
  | _ => none
def aslArr (sz n : Nat) (x : Value) (lo hi : Option Value) : Option Value :=
  match x with
  | .pointer (some a) => (boundO hi n n).bind fun h => (boundO lo h 0).bind fun l => some (.slice (some (if n = l then a else addA a (l * sz))) (h - l) (n - l))
  | _ => none

def mfind (k : Value) : List MapEntry → Nat → Option (Nat × MapEntry)
  | [], _ => none
  | e :: es, i => bif keq k e.key then some (i, e) else mfind k es (i + 1)

def mapOf (kk : KK) (A : AHeap) (x : Value) : Option (Nat × List MapEntry × Nat) :=
  match x with
  | .map (some r) => match A.get r with
    | some (.map kk' es clock) => if kk' = kk then some (r, es, clock) else none
    | _ => none
  | _ => none

def okV (ok : Bool) (v : Value) (f : Bool) : Value := if ok then .tuple #[v, .bool f] else v
def alookup (kk : KK) (z : Value) (ok : Bool) (x k : Value) (A : AHeap) : Option Value :=
  match mapOf kk A x with
  | some (_, es, _) => if kk.ok k then
      match mfind k es 0 with
      | some (_, e) => some (okV ok e.val true)
      | none => some (okV ok z false)
    else none
  | none => none
def amapUpd (kk : KK) (x k v : Value) (A : AHeap) : Option AHeap :=
  match mapOf kk A x with
  | some (r, es, clock) => if kk.ok k && cellV v then
      match mfind k es 0 with
      | some (i, e) => some (A.set r (.map kk (es.set i ⟨k, v, e.born⟩) clock))
      | none => some (A.set r (.map kk (es ++ [⟨k, v, clock⟩]) (clock + 1)))
    else none
  | none => none
def amapEnt (kk : KK) (z : Value) (x k : Value) (A : AHeap) : Option (Value × AHeap) :=
  match mapOf kk A x with
  | some (r, es, clock) => if kk.ok k then
      match mfind k es 0 with
      | some (i, e) => some (.tuple #[e.val, goInt e.born], A.set r (.map kk (es.set i ⟨k, e.val, e.born⟩) clock))
      | none => some (.tuple #[z, goInt clock], A.set r (.map kk (es ++ [⟨k, z, clock⟩]) (clock + 1)))
    else none
  | none => none
def bornSet (n : Int) (v : Value) : List MapEntry → Option (List MapEntry)
  | [] => none
  | e :: es => if (e.born : Int) == n then some (⟨e.key, v, e.born⟩ :: es) else (bornSet n v es).map (e :: ·)
def aentSt (kk : KK) (x st v : Value) (A : AHeap) : Option AHeap :=
  match mapOf kk A x, st with
  | some (r, es, clock), .int _ n => if cellV v then (bornSet n v es).map fun es => A.set r (.map kk es clock) else none
  | _, _ => none
def adelete (kk : KK) (x k : Value) (A : AHeap) : Option AHeap :=
  match mapOf kk A x with
  | some (r, es, clock) => if kk.ok k then
      match mfind k es 0 with
      | some (i, _) => some (A.set r (.map kk (es.eraseIdx i) clock))
      | none => some A
    else none
  | none => none

def srcCells (A : AHeap) (n sz : Nat) : Value → Option (List Value)
  | .slice (some ⟨id, off, none⟩) _ _ => rdRow A id off (n * sz)
  | .slice none _ _ => some []
  | .string s => some (((s.extract 0 n).data.toList).map fun b => .int .u8 (b.toNat : Int))
  | _ => none
def srcLen : Value → Option Nat
  | .slice _ n _ => some n
  | .string s => some s.size
  | _ => none

def aappend (sz bytes : Nat) (s x : Value) (A : AHeap) : Option (Value × AHeap) :=
  match s, srcLen x with
  | .slice a len cap, some n =>
    if len + n ≤ Nat.mod cap capInf then
      if n = 0 then some (s, A) else
      match a with
      | some ⟨id, off, none⟩ =>
        (srcCells A n sz x).bind fun new => (wrRow A id (off + len * sz) new).map fun A' => (.slice a (len + n) cap, A')
      | _ => none
    else if (len + n) * bytes ≤ 140737488355328 ∧ len + n ≤ 140737488355328 then
      if cap < capInf then
        (srcCells A len sz s).bind fun old => (srcCells A n sz x).bind fun new =>
        bif Nat.beq old.length (len * sz) && Nat.beq new.length (n * sz) then
          some (.slice (some ⟨A.next, 0, none⟩) (len + n) (capInf * (sz + 1) + (len + n)), A.new (.row (old ++ new) sz false true))
        else none
      else if Nat.div cap capInf = sz + 1 then
        match a with
        | some ⟨id, _, none⟩ => match A.get id with
          | some (.row _ _ false true) =>
            (srcCells A len sz s).bind fun old => (srcCells A n sz x).bind fun new =>
            bif Nat.beq old.length (len * sz) && Nat.beq new.length (n * sz) then
              some (.slice (some ⟨A.next, 0, none⟩) (len + n) (capInf * (sz + 1) + (len + n)), (A.set id .dead).new (.row (old ++ new) sz false true))
            else none
          | _ => none
        | _ => none
      else none
    else none
  | _, _ => none
def acopy (sz : Nat) (d x : Value) (A : AHeap) : Option (Value × AHeap) :=
  match d, srcLen x with
  | .slice a len _, some n0 =>
    let n := Nat.min n0 len
    if n = 0 then some (goInt 0, A) else
    match a with
    | some ⟨id, off, none⟩ => (srcCells A n sz x).bind fun new => (wrRow A id off new).map fun A' => (goInt n, A')
    | _ => none
  | _, _ => none
def aclear (z : List Value) (x : Value) (A : AHeap) : Option AHeap :=
  match x with
  | .slice none _ _ => some A
  | .slice (some ⟨id, off, none⟩) n _ => if n = 0 then some A else wrRow A id off (repL z n)
  | _ => none
def amkSlice (sz bytes : Nat) (z : List Value) (l c : Value) (A : AHeap) : Option (Value × AHeap) :=
  match l, c with
  | .int _ l, .int _ c =>
    if 0 ≤ l ∧ l ≤ c ∧ c * (bytes : Int) ≤ 1099511627776 ∧ c ≤ 1099511627776 then
      some (.slice (some ⟨A.next, 0, none⟩) l.toNat c.toNat, A.new (.row (repL z c.toNat) sz false false))
    else none
  | _, _ => none
def pushB : List Value → List UInt8 → Option (List UInt8)
  | [], acc => some acc.reverse
  | .int .u8 n :: r, acc => pushB r (UInt8.ofNat n.toNat :: acc)
  | _, _ => none
def acvB (x : Value) (A : AHeap) : Option Value :=
  match x with
  | .slice none _ _ => some (.string ⟨#[]⟩)
  | .slice (some ⟨id, off, none⟩) n _ => (rdRow A id off n).bind fun cs => (pushB cs []).map fun bs => .string ⟨bs.toArray⟩
  | _ => none
def aminF : Value → List Value → Option Value
  | .int k a, [] => some (.int k a)
  | .int k a, .int _ b :: r => aminF (.int k (if b < a then b else a)) r
  | _, _ => none
def aminL : List Value → Option Value
  | [] => none
  | x :: r => aminF x r
def aidx (sz : Nat) (a : Addr) (len : Nat) (i : Value) : Option Value :=
  match i with
  | .int _ i => if 0 ≤ i ∧ i < (len : Int) then some (.pointer (some (addA a (i.toNat * sz)))) else none
  | _ => none
def apart (off sz : Nat) (agg : Bool) (cs : List Value) : Option Value :=
  if agg then (let l := (cs.drop off).take sz; bif Nat.beq l.length sz then some (.agg l.toArray) else none) else cs[off]?

def evParts (fr : Fr) (ps : List (Nat × Nat × Opd)) : List (Nat × Nat × Value) := ps.map fun (a, b, x) => (a, b, x.ev fr)

/-- an operation that calls no Go function -/
def aexec (o : AOp) (fr : Fr) (A : AHeap) : Option (Value × AHeap) :=
  match o with
  | .mov x => some (x.ev fr, A)
  | .pick c a b => match c.ev fr with | .bool t => some (if t then a.ev fr else b.ev fr, A) | _ => none
  | .alloc z sz => some (.pointer (some ⟨A.next, 0, none⟩), A.new (.row z sz false false))
  | .box sz x => bif notT (x.ev fr) then some (.pointer (some ⟨A.next, 0, none⟩), A.new (.row (vcells (x.ev fr)) sz false false)) else none
  | .build z ps => (fillL z (evParts fr ps)).map fun cs => (.agg cs.toArray, A)
  | .buildSlice sz len z ps => (fillL (repL z len) (evParts fr ps)).map fun cs => (.slice (some ⟨A.next, 0, none⟩) len len, A.new (.row cs sz false false))
  | .ld1 a => match a.ev fr with
    | .pointer (some ⟨id, off, none⟩) => match A.get id with
      | some (.row cs _ _ _) => (cs[off]?).map (·, A)
      | _ => none
    | _ => none
  | .ldN n a => match a.ev fr with
    | .pointer (some ⟨id, off, none⟩) => (rdRow A id off n).map fun l => (.agg l.toArray, A)
    | _ => none
  | .st n a x => match a.ev fr with
    | .pointer (some ⟨id, off, none⟩) => bif notT (x.ev fr) && Nat.beq (vcells (x.ev fr)).length n then (wrRow A id off (vcells (x.ev fr))).map (undef, ·) else none
    | _ => none
  | .nilCheck x => match x.ev fr with
    | .pointer (some a) => some (.pointer (some a), A)
    | .func (.func f) a b => some (.func (.func f) a b, A)
    | _ => none
  | .bin op x y => (abin op (x.ev fr) (y.ev fr)).map (·, A)
  | .eq neg k x y => (aeq k (x.ev fr) (y.ev fr)).map fun b => (.bool (if neg then !b else b), A)
  | .un op x => match x.ev fr with
    | .int k a => (semVal (Op.unary op (.int k a))).map (·, A)
    | .bool b => (semVal (Op.unary op (.bool b))).map (·, A)
    | _ => none
  | .cvI k x => match x.ev fr with | .int _ n => some (.int k (k.wrap n), A) | _ => none
  | .cvB x => (acvB (x.ev fr) A).map (·, A)
  | .cvS x => match x.ev fr with | .string s => some (.string s, A) | _ => none
  | .mkFunc f cap => if (cap.map (Opd.ev fr)).all capOk then some (.func (.func f) #[] (cap.map (Opd.ev fr)).toArray, A) else none
  | .mkMap k => some (.map (some A.next), A.new (.map k [] 0))
  | .mkSlice sz bytes z l c => amkSlice sz bytes z (l.ev fr) (c.ev fr) A
  | .slStr x lo hi => (aslStr (x.ev fr) (lo.map (Opd.ev fr)) (hi.map (Opd.ev fr))).map (·, A)
  | .slice sz x lo hi mx => (aslice sz (x.ev fr) (lo.map (Opd.ev fr)) (hi.map (Opd.ev fr)) (mx.map (Opd.ev fr))).map (·, A)
  | .slArr sz n x lo hi => (aslArr sz n (x.ev fr) (lo.map (Opd.ev fr)) (hi.map (Opd.ev fr))).map (·, A)
  | .fadd off x => match x.ev fr with | .pointer (some a) => some (.pointer (some (addA a off)), A) | _ => none
  | .idxA sz n x i => match x.ev fr with | .pointer (some a) => (aidx sz a n (i.ev fr)).map (·, A) | _ => none
  | .idxS sz x i => match x.ev fr with | .slice (some a) len _ => (aidx sz a len (i.ev fr)).map (·, A) | _ => none
  | .ixStr x i => match x.ev fr, i.ev fr with
    | .string s, .int _ i => if 0 ≤ i then ((s.data.toList)[i.toNat]?).map fun b => (.int .u8 (b.toNat : Int), A) else none
    | _, _ => none
  | .ixAgg sz n agg x i => match x.ev fr, i.ev fr with
    | .agg cs, .int _ i => if 0 ≤ i ∧ i < (n : Int) then (apart (i.toNat * sz) sz agg cs.toList).map (·, A) else none
    | _, _ => none
  | .fld off sz agg x => match x.ev fr with | .agg cs => (apart off sz agg cs.toList).map (·, A) | _ => none
  | .lookup kk z ok x k => (alookup kk z ok (x.ev fr) (k.ev fr) A).map (·, A)
  | .mapUpd kk m k x => (amapUpd kk (m.ev fr) (k.ev fr) (x.ev fr) A).map (undef, ·)
  | .mapEnt kk z m k => amapEnt kk z (m.ev fr) (k.ev fr) A
  | .entSt kk m s x => (aentSt kk (m.ev fr) (s.ev fr) (x.ev fr) A).map (undef, ·)
  | .extract x i => match x.ev fr with | .tuple vs => ((vs.toList)[i]?).map (·, A) | _ => none
  | .lenS x => match x.ev fr with | .string s => some (goInt s.size, A) | _ => none
  | .lenC n => some (goInt n, A)
  | .lenSl x => match x.ev fr with | .slice _ n _ => some (goInt n, A) | _ => none
  | .lenM kk x => match x.ev fr with
    | .map none => some (goInt 0, A)
    | x => (mapOf kk A x).map fun (_, es, _) => (goInt es.length, A)
  | .append sz bytes s x => aappend sz bytes (s.ev fr) (x.ev fr) A
  | .copy sz d x => acopy sz (d.ev fr) (x.ev fr) A
  | .clearS z x => (aclear z (x.ev fr) A).map (.tuple #[], ·)
  | .delete kk m k => (adelete kk (m.ev fr) (k.ev fr) A).map (.tuple #[], ·)
  | .min xs => (aminL (xs.map (Opd.ev fr))).map (·, A)
  | .call _ _ | .callV _ _ => none

/-- are two values surely the same? -/
def valEq1 : Value → Value → Bool
  | .bool a, .bool b => a == b
  | .int j a, .int k b => decide (j = k) && a == b
  | .string a, .string b => a.data.toList == b.data.toList
  | .pointer a, .pointer b => decide (a = b)
  | .slice a n c, .slice b m d => decide (a = b) && Nat.beq n m && Nat.beq c d
  | .map a, .map b => decide (a = b)
  | .nilFunc, .nilFunc => true
  | _, _ => false
def valEqs : List Value → List Value → Bool
  | [], [] => true
  | a :: as, b :: bs => valEq1 a b && valEqs as bs
  | _, _ => false
def valEq : Value → Value → Bool
  | .agg a, .agg b => valEqs a.toList b.toList
  | .tuple a, .tuple b => valEqs a.toList b.toList
  | a, b => valEq1 a b

def chkOk (o : AOp) (fr : Fr) (v : Value) : Nat → List AHeap → Bool
  | 0, _ => true
  | n + 1, H :: r => (match aexec o fr H with | some (v', _) => valEq v' v | none => false) && chkOk o fr v n r
  | _ + 1, [] => false

def AOp.isCall : AOp → Bool
  | .call _ _ | .callV _ _ => true
  | _ => false
abbrev Call := FuncId → List Value → AHeap → Option (Value × AHeap)

def stepRun (call : Call) (s : Step) (fr : Fr) (A : AHeap) : Option (Value × AHeap) :=
  match s.op with
  | .call f args => call f (args.map (Opd.ev fr)) A
  | .callV f args => match f.ev fr with
    | .func (.func g) first captured => if first.size = 0 then call g (args.map (Opd.ev fr) ++ captured.toList) A else none
    | _ => none
  | o => aexec o fr A

def wantedS (fr : Fr) : Option (Nat × Bool) → Bool
  | none => true
  | some (t, want) => match lget fr t with | .bool b => b == want | _ => false

def lputO (fr : Fr) : Option Nat → Value → Fr
  | some d, v => lput fr d v
  | none, _ => fr

/-- 'saved': the heap at the head of this segment and those of the elder ones -/
def runSteps (call : Call) : List Step → List AHeap → Fr → AHeap → Option (Fr × AHeap)
  | [], _, fr, A => some (fr, A)
  | s :: rest, saved, fr, A =>
    bif wantedS fr s.guard then
      match stepRun call s fr A with
      | some (v, A') =>
        bif chkOk s.op fr v s.chk saved then runSteps call rest (bif s.sv then A' :: saved else saved) (lputO fr s.dst v) A' else none
      | none => none
    else runSteps call rest (bif s.sv then A :: saved else saved) (lputO fr s.dst undef) A

def findL : AC → Nat → Option AC
  | .seq a b, l =>
    match findL a l with
    | some rest => some (.seq rest b)
    | none => findL b l
  | .label l', l => bif Nat.beq l' l then some .skip else none
  | _, _ => none

inductive AX where
  | normal | exit (id : Nat) | goto (l : Nat) | ret
  deriving Inhabited

structure ASt where
  fr : Fr
  A : AHeap

def aresult (A : AHeap) (fr : Fr) : ARes → Option Value
  | .tmp t => some (lget fr t)
  | .cell t n agg => match lget fr t with
    | .pointer (some ⟨id, off, none⟩) =>
      if agg then (rdRow A id off n).map fun l => .agg l.toArray else (rdRow A id off 1).bind fun l => l[0]?
    | _ => none
def aresults (A : AHeap) (fr : Fr) : List ARes → Option (List Value)
  | [] => some []
  | r :: rs => (aresult A fr r).bind fun v => (aresults A fr rs).map (v :: ·)
def tupOf : List Value → Option Value
  | [v] => some v
  | vs => bif vs.all notT then some (.tuple vs.toArray) else none

/- 'E': what is called beyond the table -/
mutual
def evC (AP : FuncId → Option AFn) (E : Call) : Nat → AC → ASt → Option (AX × ASt)
  | 0, _, _ => none
  | n + 1, c, s =>
    match c with
    | .skip | .label _ => some (.normal, s)
    | .reg steps => match runSteps (evF AP E n) steps [s.A] s.fr s.A with
      | some (fr, A) => some (.normal, ⟨fr, A⟩)
      | none => none
    | .seq a b => match evC AP E n a s with
      | some (.normal, s) => evC AP E n b s
      | r => r
    | .cond x t e => match x.ev s.fr with
      | .bool true => evC AP E n t s
      | .bool false => evC AP E n e s
      | _ => none
    | .block id c => match evC AP E n c s with
      | some (.exit i, s) => bif Nat.beq i id then some (.normal, s) else some (.exit i, s)
      | r => r
    | .loop c => match evC AP E n c s with
      | some (.normal, s) => evC AP E n (.loop c) s
      | r => r
    | .exit id => some (.exit id, s)
    | .ret => some (.ret, s)
    | .goto l => some (.goto l, s)
    | .scope c => evS AP E n c c s
def evS (AP : FuncId → Option AFn) (E : Call) : Nat → AC → AC → ASt → Option (AX × ASt)
  | 0, _, _, _ => none
  | n + 1, c, cur, s =>
    match evC AP E n cur s with
    | some (.goto l, s) => match findL c l with
      | some rest => evS AP E n c rest s
      | none => some (.goto l, s)
    | r => r
def evF (AP : FuncId → Option AFn) (E : Call) : Nat → FuncId → List Value → AHeap → Option (Value × AHeap)
  | 0, _, _, _ => none
  | n + 1, f, args, A =>
    match AP f with
    | some fn => match evC AP E n fn.body ⟨frOf args 0 .e, A⟩ with
      | some (.normal, s) | some (.ret, s) => (aresults s.A s.fr fn.res).bind fun vs => (tupOf vs).map fun v => (v, s.A)
      | _ => none
    | none => E f args A
end
end Go.Abs
