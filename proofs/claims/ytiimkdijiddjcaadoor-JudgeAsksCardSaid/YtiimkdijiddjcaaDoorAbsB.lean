/- The model's code turned into the abstract machine's: each operation with its types looked up; a region that draws its order, laid in one order in which the operations that write come as early as they may. -/
import Derived.Test.YtiimkdijiddjcaaDoorAbsA
namespace Go.Abs
open Go

def szOf (P : Program) (t : TypeId) : Option Nat := (P.info? t).map (·.size)
def zeroOf (P : Program) (t : TypeId) : Option (List Value) := ((P.info? t).bind (·.zero)).bind fun v => if v.cells.toList.all plain1 then some v.cells.toList else none
def isAggB (P : Program) (t : TypeId) : Option Bool := (P.underlying t).map fun | .struct _ | .array _ _ => true | _ => false

def plainV : Value → Bool
  | .agg cs => cs.toList.all plain1
  | .tuple cs => cs.toList.all plain1
  | v => plain1 v

def cOpd : Operand → Option Opd
  | .tmp n => some (.t n)
  | .const v => if plainV v then some (.c v) else none
  | .global _ => none
  | .func f => some (.c (.func (.func f) #[] #[]))
def cOpds (xs : List Operand) : Option (List Opd) := xs.mapM cOpd
def cOpt : Option Operand → Option (Option Opd)
  | some x => (cOpd x).map some
  | none => some none

def ckOf (P : Program) (t : TypeId) : Option CK :=
  match P.underlying t with
  | some (.int k) => some (.int k)
  | some .string => some .str
  | some .bool => some .bool
  | _ => none
def ckFields (P : Program) : Nat → List Field → Option (List CK)
  | _, [] => some []
  | i, f :: fs => if f.name ≠ "_" ∧ f.offset = i then (ckOf P f.type).bind fun c => (ckFields P (i + 1) fs).map (c :: ·) else none
def kkOf (P : Program) (t : TypeId) : Option KK :=
  match P.underlying t with
  | some (.struct fs) => if P.stoodInHeld t = false then (ckFields P 0 fs.toList).map .agg else none
  | _ => (ckOf P t).map .one
/-- the kinds of the cells of a struct that is compared; structs in it too -/
def ekFields (f : TypeId → Option (List CK)) (P : Program) : Nat → List Field → Option (List CK)
  | _, [] => some []
  | i, x :: fs => if x.name ≠ "_" ∧ x.offset = i then
      match P.underlying x.type with
      | some (.struct _) => (f x.type).bind fun c => (szOf P x.type).bind fun n => if c.length = n then (ekFields f P (i + n) fs).map (c ++ ·) else none
      | _ => (ckOf P x.type).bind fun c => (ekFields f P (i + 1) fs).map (c :: ·)
    else none
def ekOf (P : Program) : Nat → TypeId → Option (List CK)
  | 0, _ => none
  | d + 1, t => match P.underlying t with
    | some (.struct fs) => if P.stoodInHeld t = false then ekFields (ekOf P d) P 0 fs.toList else none
    | _ => none

def cParts (place : Nat → Option (Nat × Nat)) : List (Nat × Operand) → Option (List (Nat × Nat × Opd))
  | [] => some []
  | (i, x) :: r => (place i).bind fun (o, n) => (cOpd x).bind fun x => (cParts place r).map ((o, n, x) :: ·)

def cEq (P : Program) (neg : Bool) (t : TypeId) (x y : Opd) : Option AOp :=
  match P.underlying t with
  | some (.int _) | some .string => some (.bin (if neg then .neq else .eql) x y)
  | some .bool => some (.eq neg .bool x y)
  | some (.pointer _) => some (.eq neg .ptr x y)
  | some (.slice _) => some (.eq neg .slice x y)
  | some (.map _ _) => some (.eq neg .map x y)
  | some (.func _ _ _) => some (.eq neg .func x y)
  | some (.struct _) => if P.eqGuardType P.depth t = false then (ekOf P 3 t).map fun cs => .eq neg (.agg cs) x y else none
  | _ => none

def cBuiltin (P : Program) (b : Builtin) (args : List Operand) (ts : List TypeId) : Option AOp :=
  match b, args, ts with
  | .len, [x], [t] => (cOpd x).bind fun x => match P.underlying t with
    | some .string => some (.lenS x)
    | some (.array n _) => some (.lenC n)
    | some (.slice _) => some (.lenSl x)
    | some (.map k _) => (kkOf P k).map fun kk => .lenM kk x
    | _ => none
  | .append, [s, x], [t, u] => (cOpd s).bind fun s => (cOpd x).bind fun x => match P.underlying t with
    | some (.slice e) => match P.underlying u with
      | some (.slice _) | some .string => (P.info? e).bind fun i => (zeroOf P e).bind fun z => if z.length = i.size then some (.append i.size i.bytes s x) else none
      | _ => none
    | _ => none
  | .copy, [d, x], t :: _ => (cOpd d).bind fun d => (cOpd x).bind fun x => match P.underlying t with
    | some (.slice e) => (szOf P e).map fun n => .copy n d x
    | _ => none
  | .clear, [x], [t] => (cOpd x).bind fun x => match P.underlying t with
    | some (.slice e) => (zeroOf P e).map fun z => .clearS z x
    | _ => none
  | .delete, [m, k], t :: _ => (cOpd m).bind fun m => (cOpd k).bind fun k => match P.underlying t with
    | some (.map kt _) => (kkOf P kt).map fun kk => .delete kk m k
    | _ => none
  | .min, xs, _ => (cOpds xs).map .min
  | _, _, _ => none

def comp (P : Program) (o : Op) : Option AOp :=
  match o with
  | .move x | .assign x => (cOpd x).map .mov
  | .pick c a b => (cOpd c).bind fun c => (cOpd a).bind fun a => (cOpd b).map fun b => .pick c a b
  | .alloc e => (zeroOf P e).bind fun z => (szOf P e).map fun n => .alloc z n
  | .box e x => (szOf P e).bind fun n => (cOpd x).map fun x => .box n x
  | .build t parts => (zeroOf P t).bind fun z => match P.underlying t with
    | some (.struct fs) => (fs.toList.mapM fun f => (P.info? f.type).map fun i => (f.offset, i.size)).bind fun places => (cParts (places.toArray[·]?) parts.toList).map fun ps => .build z ps
    | some (.array _ e) => (szOf P e).bind fun n => (cParts (fun i => some (i * n, n)) parts.toList).map fun ps => .build z ps
    | _ => none
  | .buildSlice t len parts => match P.underlying t with
    | some (.slice e) => (zeroOf P e).bind fun z => (szOf P e).bind fun n =>
      if z.length = n ∧ n ≠ 0 ∧ len * n ≤ 16777216 then (cParts (fun i => some (i * n, n)) parts.toList).map fun ps => .buildSlice n len z ps else none
    | _ => none
  | .load t a => (cOpd a).bind fun a => match isAggB P t with
    | some true => (szOf P t).map fun n => .ldN n a
    | some false => some (.ld1 a)
    | none => none
  | .store t a x => (szOf P t).bind fun n => (cOpd a).bind fun a => (cOpd x).map fun x => .st n a x
  | .nilCheck x => (cOpd x).map .nilCheck
  | .binOp op t x y _ => (cOpd x).bind fun x => (cOpd y).bind fun y => match op with
    | .eql => cEq P false t x y
    | .neq => cEq P true t x y
    | op => some (.bin op x y)
  | .unOp op _ x => (cOpd x).map fun x => .un op x
  | .convert s d x => (cOpd x).bind fun x => match P.underlying s, P.underlying d with
    | some (.int _), some (.int k) => some (.cvI k x)
    | some .string, some .string => some (.cvS x)
    | some (.slice e), some .string => match P.underlying e with | some (.int .u8) => some (.cvB x) | _ => none
    | _, _ => none
  | .makeFunc (.func f) first captured => if first.size = 0 then (cOpds captured.toList).map fun cs => .mkFunc f cs else none
  | .makeMap t none => match P.underlying t with | some (.map k _) => (kkOf P k).map .mkMap | _ => none
  | .makeSlice t l c => match P.underlying t with
    | some (.slice e) => (cOpd l).bind fun l => (cOpd c).bind fun c => (P.info? e).bind fun i => (zeroOf P e).bind fun z =>
      if z.length = i.size ∧ i.size ≠ 0 then some (.mkSlice i.size i.bytes z l c) else none
    | _ => none
  | .slice t x lo hi mx => (cOpd x).bind fun x => (cOpt lo).bind fun lo => (cOpt hi).bind fun hi => (cOpt mx).bind fun mx => match P.underlying t with
    | some .string => if mx.isSome then none else some (.slStr x lo hi)
    | some (.slice e) => (szOf P e).map fun n => .slice n x lo hi mx
    | some (.array k e) => if mx.isSome ∨ ¬ k < capInf then none else (szOf P e).map fun n => .slArr n k x lo hi
    | _ => none
  | .fieldAddr s x f => (cOpd x).bind fun x => match P.underlying s with
    | some (.struct fs) => (fs[f]?).bind fun fd => (szOf P fd.type).bind fun n => if n = 0 then none else some (.fadd fd.offset x)
    | _ => none
  | .field s x f => (cOpd x).bind fun x => match P.underlying s with
    | some (.struct fs) => (fs[f]?).bind fun fd => (szOf P fd.type).bind fun n => (isAggB P fd.type).map fun g => .fld fd.offset n g x
    | _ => none
  | .indexAddr t x i => (cOpd x).bind fun x => (cOpd i).bind fun i => match P.underlying t with
    | some (.array n e) => (szOf P e).map fun k => .idxA k n x i
    | some (.slice e) => (szOf P e).map fun k => .idxS k x i
    | _ => none
  | .index t x i => (cOpd x).bind fun x => (cOpd i).bind fun i => match P.underlying t with
    | some .string => some (.ixStr x i)
    | some (.array n e) => (szOf P e).bind fun k => (isAggB P e).map fun g => .ixAgg k n g x i
    | _ => none
  | .lookup t x k ok => (cOpd x).bind fun x => (cOpd k).bind fun k => match P.underlying t with
    | some (.map kt e) => (kkOf P kt).bind fun kk => match P.info? e with
      | some i => match i.zero, isAggB P e with
        | some z, some false => if plain1 z then some (.lookup kk z ok x k) else none
        | _, _ => none
      | none => none
    | _ => none
  | .mapUpdate t m k x => (cOpd m).bind fun m => (cOpd k).bind fun k => (cOpd x).bind fun x => match P.underlying t with
    | some (.map kt _) => (kkOf P kt).map fun kk => .mapUpd kk m k x
    | _ => none
  | .mapEntry t m k => (cOpd m).bind fun m => (cOpd k).bind fun k => match P.underlying t with
    | some (.map kt e) => (kkOf P kt).bind fun kk => match P.info? e with
      | some i => match i.zero, isAggB P e with
        | some z, some false => if plain1 z then some (.mapEnt kk z m k) else none
        | _, _ => none
      | none => none
    | _ => none
  | .entryStore t m s x => (cOpd m).bind fun m => (cOpd s).bind fun s => (cOpd x).bind fun x => match P.underlying t with
    | some (.map kt _) => (kkOf P kt).map fun kk => .entSt kk m s x
    | _ => none
  | .extract x i => (cOpd x).map fun x => .extract x i
  | .call { callee := .builtin b, args, argTypes } => cBuiltin P b args.toList argTypes.toList
  | .call { callee := .value (.func f), args, .. } => (cOpds args.toList).map fun xs => .call f xs
  | .call { callee := .value (.tmp t), args, .. } => (cOpds args.toList).map fun xs => .callV (.t t) xs
  | _ => none

/-- 0: it reckons alone; 1: it reads memory; 2: it makes memory; 3: it writes, or calls -/
def AOp.cls : AOp → Nat
  | .ld1 _ | .ldN _ _ | .cvB _ | .lookup .. | .lenM .. => 1
  | .alloc .. | .box .. | .buildSlice .. | .mkMap _ | .mkSlice .. => 2
  | .st .. | .mapUpd .. | .mapEnt .. | .entSt .. | .append .. | .copy .. | .clearS .. | .delete .. | .call .. | .callV .. => 3
  | _ => 0

def Opd.slots : Opd → List Nat
  | .t n => [n]
  | .c _ => []
def optSlots : Option Opd → List Nat
  | some x => x.slots
  | none => []
def AOp.slots : AOp → List Nat
  | .mov x | .box _ x | .ld1 x | .ldN _ x | .nilCheck x | .un _ x | .cvI _ x | .cvB x | .cvS x | .fadd _ x | .fld _ _ _ x | .extract x _ | .lenS x | .lenSl x | .lenM _ x | .clearS _ x => x.slots
  | .pick c a b => c.slots ++ (a.slots ++ b.slots)
  | .alloc _ _ | .mkMap _ | .lenC _ => []
  | .build _ ps | .buildSlice _ _ _ ps => ps.flatMap fun p => p.2.2.slots
  | .st _ a x | .bin _ a x | .eq _ _ a x | .idxA _ _ a x | .idxS _ a x | .ixStr a x | .ixAgg _ _ _ a x | .lookup _ _ _ a x | .mapEnt _ _ a x | .append _ _ a x | .copy _ a x | .delete _ a x | .mkSlice _ _ _ a x => a.slots ++ x.slots
  | .mkFunc _ xs | .min xs | .call _ xs => xs.flatMap Opd.slots
  | .slStr x lo hi | .slArr _ _ x lo hi => x.slots ++ (optSlots lo ++ optSlots hi)
  | .slice _ x lo hi mx => x.slots ++ (optSlots lo ++ (optSlots hi ++ optSlots mx))
  | .mapUpd _ m k x | .entSt _ m k x => m.slots ++ (k.slots ++ x.slots)
  | .callV f xs => f.slots ++ xs.flatMap Opd.slots

def cGuard (ops : Array Oper) : Option (Nat × Bool) → Option (Option (Nat × Bool))
  | none => some none
  | some (j, want) => (ops[j]?).bind fun o => o.dst.map fun d => some (d, want)

def goCall : Op → Bool
  | .call { callee := .value _, .. } => true
  | _ => false
def cStep (P : Program) (ops : Array Oper) (o : Oper) : Option Step :=
  (comp P o.op).bind fun a => if a.isCall = goCall o.op then (cGuard ops o.guard).map fun g => ⟨o.dst, g, a, 0, false⟩ else none

def cText (P : Program) (ops : Array Oper) : List Oper → Option (List Step)
  | [] => some []
  | o :: r => (cStep P ops o).bind fun s => (cText P ops r).map (s :: ·)

/- ## a region that draws -/
def direct (o : Oper) : List Nat := (o.after.toList.filter (Region.binds .any)).map (·.on)

/-- the ancestors of each operation, by the text's order -/
def ancs (ops : List Oper) : List (List Nat) :=
  ops.foldl (fun acc o => acc ++ [((direct o).flatMap fun i => i :: (acc[i]?).getD []).eraseDups]) []

def ordOf (anc : List (List Nat)) (muts all : List Nat) : List Nat :=
  let o := muts.foldl (fun acc m => acc ++ ((all.filter fun i => ((anc[m]?).getD []).contains i && !acc.contains i) ++ (if acc.contains m then [] else [m]))) []
  o ++ all.filter fun i => !o.contains i

def ancOf (anc : List (List Nat)) (i : Nat) : List Nat := (anc[i]?).getD []
def clsAt (ss : List Step) (i : Nat) : Nat := ((ss[i]?).map (·.op.cls)).getD 3
/-- how many writing operations stand behind the last one of them that j hangs on -/
def lateM (ss : List Step) (anc : List (List Nat)) (pre : List Nat) (j : Nat) : Nat :=
  (((pre.filter fun i => clsAt ss i == 3).reverse).takeWhile fun i => !(ancOf anc j).contains i).length
/-- what has been made since the last writing operation -/
def freshA (ss : List Step) (pre : List Nat) : List Nat := (pre.reverse.takeWhile fun i => clsAt ss i != 3).filter fun i => clsAt ss i == 2
def chkFor (ss : List Step) (anc : List (List Nat)) (pre : List Nat) (j : Nat) : Nat :=
  if clsAt ss j = 1 then (if lateM ss anc pre j = 0 ∧ (freshA ss pre).all (fun i => (ancOf anc j).contains i) = true then 0 else lateM ss anc pre j + 1) else 0
def lay (ss : List Step) (anc : List (List Nat)) : List Nat → List Nat → List (Nat × Step)
  | _, [] => []
  | pre, j :: r => match ss[j]? with
    | some s => (j, { s with chk := chkFor ss anc pre j, sv := s.op.cls == 3 }) :: lay ss anc (pre ++ [j]) r
    | none => lay ss anc (pre ++ [j]) r
def ordOk (ss : List Step) (anc : List (List Nat)) : List Nat → List Nat → Bool
  | _, [] => true
  | pre, j :: r => (ancOf anc j).all (fun i => pre.contains i) && (clsAt ss j != 3 || pre.all fun i => (ancOf anc j).contains i) && ordOk ss anc (pre ++ [j]) r
def gSlots : Option (Nat × Bool) → List Nat
  | some (t, _) => [t]
  | none => []
def namesOf (s : Step) : List Nat := s.op.slots ++ (gSlots s.guard ++ s.dst.toList)
def bound2 (ss : List Step) (anc : List (List Nat)) (i j : Nat) : Bool :=
  i == j || (ancOf anc j).contains i || (ancOf anc i).contains j || (match (ss[i]?).bind (·.dst), ss[j]? with
    | some d, some s => !(namesOf s).contains d
    | none, _ => true
    | _, none => false)
def ancOk (ops : Array Oper) (anc : List (List Nat)) (j : Nat) : Bool :=
  match ops[j]? with
  | some o => (direct o).all (fun i => decide (i < j) && (ancOf anc j).contains i) && (ancOf anc j).all (fun i => (direct o).contains i || (direct o).any fun e => (ancOf anc e).contains i)
  | none => false
/-- the checks on a region that draws: 'ss': its steps in the text's order; 'ord': the order in which it is laid -/
def drawOk (ops : Array Oper) (ss : List Step) (anc : List (List Nat)) (ord : List Nat) : Bool :=
  let all := List.range ops.size
  decide (ord.Nodup) && ord.all (fun i => decide (i < ops.size)) && all.all (fun i => ord.contains i) && all.all (fun j => ancOk ops anc j) &&
  ordOk ss anc [] ord && all.all (fun i => all.all fun j => bound2 ss anc i j)

def cDraw (P : Program) (ops : Array Oper) : Option (List Step) :=
  (cText P ops ops.toList).bind fun ss =>
  let anc := ancs ops.toList
  let all := List.range ops.size
  let ord := ordOf anc (all.filter fun i => clsAt ss i == 3) all
  if drawOk ops ss anc ord then some ((lay ss anc [] ord).map (·.2)) else none

def cCode (P : Program) : Code → Option AC
  | .skip => some .skip
  | .region _ ops draw => if draw then (cDraw P ops).map .reg else (cText P ops ops.toList).map .reg
  | .seq a b => (cCode P a).bind fun a => (cCode P b).map fun b => .seq a b
  | .cond x t e => (cOpd x).bind fun x => (cCode P t).bind fun t => (cCode P e).map fun e => .cond x t e
  | .block id c => (cCode P c).map fun c => .block id c
  | .loop c => (cCode P c).map .loop
  | .exit id => some (.exit id)
  | .ret => some .ret
  | .goto l => some (.goto l)
  | .label l => some (.label l)
  | .scope c => (cCode P c).map .scope
  | _ => none

def cRes (P : Program) : ResultVar → Option ARes
  | .tmp t => some (.tmp t)
  | .cell t ty => match isAggB P ty with
    | some true => (szOf P ty).map fun n => .cell t n true
    | some false => some (.cell t 1 false)
    | none => none

def optLt (n : Nat) (l : List Nat) : Bool := l.all fun t => decide (t < n)
def AC.lt (n : Nat) : AC → Bool
  | .reg ss => ss.all fun s => optLt n (namesOf s)
  | .seq a b => a.lt n && b.lt n
  | .cond x t e => optLt n x.slots && (t.lt n && e.lt n)
  | .block _ c | .loop c | .scope c => c.lt n
  | _ => true
def ARes.slot : ARes → Nat
  | .tmp t => t
  | .cell t _ _ => t
def cFn (P : Program) (f : Func) : Option AFn :=
  f.body.bind fun b => (cCode P b).bind fun c => (f.results.toList.mapM (cRes P)).bind fun rs =>
  if c.lt f.ntmps && rs.all (fun r => decide (r.slot < f.ntmps)) then some ⟨f.ntmps, rs, c⟩ else none
end Go.Abs
