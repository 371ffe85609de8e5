/- Rules by which 'simp' runs the abstract machine over frames and memories that are not closed. 'W': a mark that keeps 'simp' from looking into what stands behind. -/
import Derived.Test.YtiimkdijiddjcaaDoorAbsEv
namespace Go.Abs
set_option linter.unusedSimpArgs false
set_option linter.unusedVariables false
set_option linter.unusedSectionVars false
set_option linter.defProp false
open Go

structure W {α : Sort _} (a : α) : Type where
  mk ::

/-- what comes of an operation -/
def RX (r : Option (Value × AHeap)) (K : Value → AHeap → Prop) (_ : W K) : Prop := ∃ v A, r = some (v, A) ∧ K v A
theorem RX_some (v : Value) (A : AHeap) (K : Value → AHeap → Prop) (w : W K) : RX (some (v, A)) K w ↔ K v A :=
  ⟨fun ⟨_, _, h, k⟩ => by cases h; exact k, fun k => ⟨_, _, rfl, k⟩⟩
/-- a value, looked at before it goes on -/
def RV (v : Value) (K : Value → Prop) (_ : W K) : Prop := K v
theorem RV_eq (v : Value) (K : Value → Prop) (w : W K) : RV v K w ↔ K v := Iff.rfl
/-- a choice whose ways are not looked at before it is made -/
def RG (b : Bool) (p q : Prop) (_ : W p) (_ : W q) : Prop := if b = true then p else q
theorem RG_true (p q : Prop) (w : W p) (w' : W q) : RG true p q w w' ↔ p := by simp [RG]
theorem RG_false (p q : Prop) (w : W p) (w' : W q) : RG false p q w w' ↔ q := by simp [RG]
/-- a choice by a value -/
def RB (v : Value) (p q : Prop) (w : W p) (w' : W q) : Prop := ∃ b, v = .bool b ∧ RG b p q w w'
theorem RB_bool (b : Bool) (p q : Prop) (w : W p) (w' : W q) : RB (.bool b) p q w w' ↔ RG b p q w w' := by simp [RB]

def RC (AP : FuncId → Option AFn) (E : Call) (c : AC) (fr : Fr) (A : AHeap) (Q : AX → Fr → AHeap → Prop) (_ : W (c, fr, A)) (_ : W Q) : Prop := EvC AP E c fr A Q
def RS (AP : FuncId → Option AFn) (E : Call) (c d : AC) (fr : Fr) (A : AHeap) (Q : AX → Fr → AHeap → Prop) (_ : W (c, d, fr, A)) (_ : W Q) : Prop := EvS AP E c d fr A Q
def RR (AP : FuncId → Option AFn) (E : Call) (ss : List Step) (S : List AHeap) (fr : Fr) (A : AHeap) (Q : Fr → AHeap → Prop) (_ : W (ss, S, fr, A, Q)) : Prop := EvR AP E ss S fr A Q
def RF (AP : FuncId → Option AFn) (E : Call) (f : FuncId) (args : List Value) (A : AHeap) (K : Value → AHeap → Prop) (_ : W A) (_ : W K) : Prop := EvF AP E f args A K

section
variable {AP : FuncId → Option AFn} {E : Call} {fr : Fr} {A : AHeap} {Q : Fr → AHeap → Prop} {S : List AHeap} {rest : List Step}
theorem stepRun_exec {s : Step} (h : s.op.isCall = false) (call : Call) : stepRun call s fr A = aexec s.op fr A := by
  unfold stepRun
  split
  · rename_i e; rw [e] at h; cases h
  · rename_i e; rw [e] at h; cases h
  · rfl
theorem sx_nil {w : W (([] : List Step), S, fr, A, Q)} : RR AP E [] S fr A Q w ↔ Q fr A := by
  constructor
  · rintro ⟨n, fr', A', h, q⟩; simp only [runSteps, Option.some.injEq, Prod.mk.injEq] at h; obtain ⟨rfl, rfl⟩ := h; exact q
  · exact evR_nil
/-- any operation that calls nothing -/
theorem sx_op {d : Option Nat} {op : AOp} {k : Nat} {sv : Bool} (h : op.isCall = false) {w : W (⟨d, none, op, k, sv⟩ :: rest, S, fr, A, Q)} :
    RR AP E (⟨d, none, op, k, sv⟩ :: rest) S fr A Q w ↔ RX (aexec op fr A) (fun v A' => chkOk op fr v k S = true ∧ RR AP E rest (bif sv then A' :: S else S) (lputO fr d v) A' Q ⟨⟩) ⟨⟩ := by
  constructor
  · rintro ⟨n, fr', A', h1, q⟩
    simp only [runSteps, wantedS, cond_true, stepRun_exec (s := ⟨d, none, op, k, sv⟩) h] at h1
    split at h1
    · rename_i v A1 he
      cases hk : chkOk op fr v k S with
      | true => rw [hk] at h1; exact ⟨v, A1, he, hk, n, fr', A', h1, q⟩
      | false => rw [hk] at h1; cases h1
    · cases h1
  · rintro ⟨v, A1, he, hk, n, fr', A', h1, q⟩
    refine ⟨n, fr', A', ?_, q⟩
    simp only [runSteps, wantedS, cond_true, stepRun_exec (s := ⟨d, none, op, k, sv⟩) h, he, hk]
    exact h1
theorem sx_guard {d : Option Nat} {op : AOp} {t : Nat} {b : Bool} {k : Nat} {sv : Bool} {w : W (⟨d, some (t, b), op, k, sv⟩ :: rest, S, fr, A, Q)} :
    RR AP E (⟨d, some (t, b), op, k, sv⟩ :: rest) S fr A Q w ↔ RG (wantedS fr (some (t, b))) (RR AP E (⟨d, none, op, k, sv⟩ :: rest) S fr A Q ⟨⟩) (RR AP E rest (bif sv then A :: S else S) (lputO fr d undef) A Q ⟨⟩) ⟨⟩ ⟨⟩ := by
  unfold RR EvR RG
  simp only [runSteps]
  cases wantedS fr (some (t, b)) with
  | true => simp only [wantedS, cond_true, if_true]; rfl
  | false => simp only [cond_false, Bool.false_eq_true, if_false]
theorem sx_mov {d : Nat} {x : Opd} {w : W (⟨some d, none, .mov x, 0, false⟩ :: rest, S, fr, A, Q)} : RR AP E (⟨some d, none, .mov x, 0, false⟩ :: rest) S fr A Q w ↔ RV (x.ev fr) (fun v => RR AP E rest S (lput fr d v) A Q ⟨⟩) ⟨⟩ := by
  rw [sx_op rfl]; simp only [RV_eq, aexec, RX_some, lputO, chkOk, true_and, cond_false]
theorem sx_pick {d : Option Nat} {k : Nat} {sv : Bool} {c a b : Opd} {w : W (⟨d, none, .pick c a b, k, sv⟩ :: rest, S, fr, A, Q)} : RR AP E (⟨d, none, .pick c a b, k, sv⟩ :: rest) S fr A Q w ↔ RX (aexec (.pick c a b) fr A) (fun v A' => chkOk (.pick c a b) fr v k S = true ∧ RR AP E rest (bif sv then A' :: S else S) (lputO fr d v) A' Q ⟨⟩) ⟨⟩ := sx_op rfl
theorem sx_alloc {d : Option Nat} {k : Nat} {sv : Bool} {z : List Value} {n : Nat} {w : W (⟨d, none, .alloc z n, k, sv⟩ :: rest, S, fr, A, Q)} : RR AP E (⟨d, none, .alloc z n, k, sv⟩ :: rest) S fr A Q w ↔ RX (aexec (.alloc z n) fr A) (fun v A' => chkOk (.alloc z n) fr v k S = true ∧ RR AP E rest (bif sv then A' :: S else S) (lputO fr d v) A' Q ⟨⟩) ⟨⟩ := sx_op rfl
theorem sx_box {d : Option Nat} {k : Nat} {sv : Bool} {n : Nat} {x : Opd} {w : W (⟨d, none, .box n x, k, sv⟩ :: rest, S, fr, A, Q)} : RR AP E (⟨d, none, .box n x, k, sv⟩ :: rest) S fr A Q w ↔ RX (aexec (.box n x) fr A) (fun v A' => chkOk (.box n x) fr v k S = true ∧ RR AP E rest (bif sv then A' :: S else S) (lputO fr d v) A' Q ⟨⟩) ⟨⟩ := sx_op rfl
theorem sx_build {d : Option Nat} {k : Nat} {sv : Bool} {z : List Value} {ps : List (Nat × Nat × Opd)} {w : W (⟨d, none, .build z ps, k, sv⟩ :: rest, S, fr, A, Q)} : RR AP E (⟨d, none, .build z ps, k, sv⟩ :: rest) S fr A Q w ↔ RX (aexec (.build z ps) fr A) (fun v A' => chkOk (.build z ps) fr v k S = true ∧ RR AP E rest (bif sv then A' :: S else S) (lputO fr d v) A' Q ⟨⟩) ⟨⟩ := sx_op rfl
theorem sx_buildSlice {d : Option Nat} {k : Nat} {sv : Bool} {n l : Nat} {z : List Value} {ps : List (Nat × Nat × Opd)} {w : W (⟨d, none, .buildSlice n l z ps, k, sv⟩ :: rest, S, fr, A, Q)} : RR AP E (⟨d, none, .buildSlice n l z ps, k, sv⟩ :: rest) S fr A Q w ↔ RX (aexec (.buildSlice n l z ps) fr A) (fun v A' => chkOk (.buildSlice n l z ps) fr v k S = true ∧ RR AP E rest (bif sv then A' :: S else S) (lputO fr d v) A' Q ⟨⟩) ⟨⟩ := sx_op rfl
theorem sx_ld1 {d : Option Nat} {k : Nat} {sv : Bool} {x : Opd} {w : W (⟨d, none, .ld1 x, k, sv⟩ :: rest, S, fr, A, Q)} : RR AP E (⟨d, none, .ld1 x, k, sv⟩ :: rest) S fr A Q w ↔ RX (aexec (.ld1 x) fr A) (fun v A' => chkOk (.ld1 x) fr v k S = true ∧ RR AP E rest (bif sv then A' :: S else S) (lputO fr d v) A' Q ⟨⟩) ⟨⟩ := sx_op rfl
theorem sx_ldN {d : Option Nat} {k : Nat} {sv : Bool} {n : Nat} {x : Opd} {w : W (⟨d, none, .ldN n x, k, sv⟩ :: rest, S, fr, A, Q)} : RR AP E (⟨d, none, .ldN n x, k, sv⟩ :: rest) S fr A Q w ↔ RX (aexec (.ldN n x) fr A) (fun v A' => chkOk (.ldN n x) fr v k S = true ∧ RR AP E rest (bif sv then A' :: S else S) (lputO fr d v) A' Q ⟨⟩) ⟨⟩ := sx_op rfl
theorem sx_st {d : Option Nat} {k : Nat} {sv : Bool} {n : Nat} {a x : Opd} {w : W (⟨d, none, .st n a x, k, sv⟩ :: rest, S, fr, A, Q)} : RR AP E (⟨d, none, .st n a x, k, sv⟩ :: rest) S fr A Q w ↔ RX (aexec (.st n a x) fr A) (fun v A' => chkOk (.st n a x) fr v k S = true ∧ RR AP E rest (bif sv then A' :: S else S) (lputO fr d v) A' Q ⟨⟩) ⟨⟩ := sx_op rfl
theorem sx_nilCheck {d : Option Nat} {k : Nat} {sv : Bool} {x : Opd} {w : W (⟨d, none, .nilCheck x, k, sv⟩ :: rest, S, fr, A, Q)} : RR AP E (⟨d, none, .nilCheck x, k, sv⟩ :: rest) S fr A Q w ↔ RX (aexec (.nilCheck x) fr A) (fun v A' => chkOk (.nilCheck x) fr v k S = true ∧ RR AP E rest (bif sv then A' :: S else S) (lputO fr d v) A' Q ⟨⟩) ⟨⟩ := sx_op rfl
theorem sx_bin {d : Option Nat} {k : Nat} {sv : Bool} {o : BinOp} {x y : Opd} {w : W (⟨d, none, .bin o x y, k, sv⟩ :: rest, S, fr, A, Q)} : RR AP E (⟨d, none, .bin o x y, k, sv⟩ :: rest) S fr A Q w ↔ RX (aexec (.bin o x y) fr A) (fun v A' => chkOk (.bin o x y) fr v k S = true ∧ RR AP E rest (bif sv then A' :: S else S) (lputO fr d v) A' Q ⟨⟩) ⟨⟩ := sx_op rfl
theorem sx_eq {d : Option Nat} {k : Nat} {sv : Bool} {g : Bool} {k' : EK} {x y : Opd} {w : W (⟨d, none, .eq g k' x y, k, sv⟩ :: rest, S, fr, A, Q)} : RR AP E (⟨d, none, .eq g k' x y, k, sv⟩ :: rest) S fr A Q w ↔ RX (aexec (.eq g k' x y) fr A) (fun v A' => chkOk (.eq g k' x y) fr v k S = true ∧ RR AP E rest (bif sv then A' :: S else S) (lputO fr d v) A' Q ⟨⟩) ⟨⟩ := sx_op rfl
theorem sx_un {d : Option Nat} {k : Nat} {sv : Bool} {o : UnOp} {x : Opd} {w : W (⟨d, none, .un o x, k, sv⟩ :: rest, S, fr, A, Q)} : RR AP E (⟨d, none, .un o x, k, sv⟩ :: rest) S fr A Q w ↔ RX (aexec (.un o x) fr A) (fun v A' => chkOk (.un o x) fr v k S = true ∧ RR AP E rest (bif sv then A' :: S else S) (lputO fr d v) A' Q ⟨⟩) ⟨⟩ := sx_op rfl
theorem sx_cvI {d : Option Nat} {k : Nat} {sv : Bool} {i : IntKind} {x : Opd} {w : W (⟨d, none, .cvI i x, k, sv⟩ :: rest, S, fr, A, Q)} : RR AP E (⟨d, none, .cvI i x, k, sv⟩ :: rest) S fr A Q w ↔ RX (aexec (.cvI i x) fr A) (fun v A' => chkOk (.cvI i x) fr v k S = true ∧ RR AP E rest (bif sv then A' :: S else S) (lputO fr d v) A' Q ⟨⟩) ⟨⟩ := sx_op rfl
theorem sx_cvB {d : Option Nat} {k : Nat} {sv : Bool} {x : Opd} {w : W (⟨d, none, .cvB x, k, sv⟩ :: rest, S, fr, A, Q)} : RR AP E (⟨d, none, .cvB x, k, sv⟩ :: rest) S fr A Q w ↔ RX (aexec (.cvB x) fr A) (fun v A' => chkOk (.cvB x) fr v k S = true ∧ RR AP E rest (bif sv then A' :: S else S) (lputO fr d v) A' Q ⟨⟩) ⟨⟩ := sx_op rfl
theorem sx_cvS {d : Option Nat} {k : Nat} {sv : Bool} {x : Opd} {w : W (⟨d, none, .cvS x, k, sv⟩ :: rest, S, fr, A, Q)} : RR AP E (⟨d, none, .cvS x, k, sv⟩ :: rest) S fr A Q w ↔ RX (aexec (.cvS x) fr A) (fun v A' => chkOk (.cvS x) fr v k S = true ∧ RR AP E rest (bif sv then A' :: S else S) (lputO fr d v) A' Q ⟨⟩) ⟨⟩ := sx_op rfl
theorem sx_mkFunc {d : Option Nat} {k : Nat} {sv : Bool} {f : FuncId} {xs : List Opd} {w : W (⟨d, none, .mkFunc f xs, k, sv⟩ :: rest, S, fr, A, Q)} : RR AP E (⟨d, none, .mkFunc f xs, k, sv⟩ :: rest) S fr A Q w ↔ RX (aexec (.mkFunc f xs) fr A) (fun v A' => chkOk (.mkFunc f xs) fr v k S = true ∧ RR AP E rest (bif sv then A' :: S else S) (lputO fr d v) A' Q ⟨⟩) ⟨⟩ := sx_op rfl
theorem sx_mkMap {d : Option Nat} {k : Nat} {sv : Bool} {kk : KK} {w : W (⟨d, none, .mkMap kk, k, sv⟩ :: rest, S, fr, A, Q)} : RR AP E (⟨d, none, .mkMap kk, k, sv⟩ :: rest) S fr A Q w ↔ RX (aexec (.mkMap kk) fr A) (fun v A' => chkOk (.mkMap kk) fr v k S = true ∧ RR AP E rest (bif sv then A' :: S else S) (lputO fr d v) A' Q ⟨⟩) ⟨⟩ := sx_op rfl
theorem sx_mkSlice {d : Option Nat} {k : Nat} {sv : Bool} {a b : Nat} {z : List Value} {l c : Opd} {w : W (⟨d, none, .mkSlice a b z l c, k, sv⟩ :: rest, S, fr, A, Q)} : RR AP E (⟨d, none, .mkSlice a b z l c, k, sv⟩ :: rest) S fr A Q w ↔ RX (aexec (.mkSlice a b z l c) fr A) (fun v A' => chkOk (.mkSlice a b z l c) fr v k S = true ∧ RR AP E rest (bif sv then A' :: S else S) (lputO fr d v) A' Q ⟨⟩) ⟨⟩ := sx_op rfl
theorem sx_slStr {d : Option Nat} {k : Nat} {sv : Bool} {x : Opd} {l h : Option Opd} {w : W (⟨d, none, .slStr x l h, k, sv⟩ :: rest, S, fr, A, Q)} : RR AP E (⟨d, none, .slStr x l h, k, sv⟩ :: rest) S fr A Q w ↔ RX (aexec (.slStr x l h) fr A) (fun v A' => chkOk (.slStr x l h) fr v k S = true ∧ RR AP E rest (bif sv then A' :: S else S) (lputO fr d v) A' Q ⟨⟩) ⟨⟩ := sx_op rfl
theorem sx_slice {d : Option Nat} {k : Nat} {sv : Bool} {n : Nat} {x : Opd} {l h m : Option Opd} {w : W (⟨d, none, .slice n x l h m, k, sv⟩ :: rest, S, fr, A, Q)} : RR AP E (⟨d, none, .slice n x l h m, k, sv⟩ :: rest) S fr A Q w ↔ RX (aexec (.slice n x l h m) fr A) (fun v A' => chkOk (.slice n x l h m) fr v k S = true ∧ RR AP E rest (bif sv then A' :: S else S) (lputO fr d v) A' Q ⟨⟩) ⟨⟩ := sx_op rfl
theorem sx_slArr {d : Option Nat} {k : Nat} {sv : Bool} {n m : Nat} {x : Opd} {l h : Option Opd} {w : W (⟨d, none, .slArr n m x l h, k, sv⟩ :: rest, S, fr, A, Q)} : RR AP E (⟨d, none, .slArr n m x l h, k, sv⟩ :: rest) S fr A Q w ↔ RX (aexec (.slArr n m x l h) fr A) (fun v A' => chkOk (.slArr n m x l h) fr v k S = true ∧ RR AP E rest (bif sv then A' :: S else S) (lputO fr d v) A' Q ⟨⟩) ⟨⟩ := sx_op rfl
theorem sx_fadd {d : Option Nat} {k : Nat} {sv : Bool} {n : Nat} {x : Opd} {w : W (⟨d, none, .fadd n x, k, sv⟩ :: rest, S, fr, A, Q)} : RR AP E (⟨d, none, .fadd n x, k, sv⟩ :: rest) S fr A Q w ↔ RX (aexec (.fadd n x) fr A) (fun v A' => chkOk (.fadd n x) fr v k S = true ∧ RR AP E rest (bif sv then A' :: S else S) (lputO fr d v) A' Q ⟨⟩) ⟨⟩ := sx_op rfl
theorem sx_idxA {d : Option Nat} {k : Nat} {sv : Bool} {n m : Nat} {x i : Opd} {w : W (⟨d, none, .idxA n m x i, k, sv⟩ :: rest, S, fr, A, Q)} : RR AP E (⟨d, none, .idxA n m x i, k, sv⟩ :: rest) S fr A Q w ↔ RX (aexec (.idxA n m x i) fr A) (fun v A' => chkOk (.idxA n m x i) fr v k S = true ∧ RR AP E rest (bif sv then A' :: S else S) (lputO fr d v) A' Q ⟨⟩) ⟨⟩ := sx_op rfl
theorem sx_idxS {d : Option Nat} {k : Nat} {sv : Bool} {n : Nat} {x i : Opd} {w : W (⟨d, none, .idxS n x i, k, sv⟩ :: rest, S, fr, A, Q)} : RR AP E (⟨d, none, .idxS n x i, k, sv⟩ :: rest) S fr A Q w ↔ RX (aexec (.idxS n x i) fr A) (fun v A' => chkOk (.idxS n x i) fr v k S = true ∧ RR AP E rest (bif sv then A' :: S else S) (lputO fr d v) A' Q ⟨⟩) ⟨⟩ := sx_op rfl
theorem sx_ixStr {d : Option Nat} {k : Nat} {sv : Bool} {x i : Opd} {w : W (⟨d, none, .ixStr x i, k, sv⟩ :: rest, S, fr, A, Q)} : RR AP E (⟨d, none, .ixStr x i, k, sv⟩ :: rest) S fr A Q w ↔ RX (aexec (.ixStr x i) fr A) (fun v A' => chkOk (.ixStr x i) fr v k S = true ∧ RR AP E rest (bif sv then A' :: S else S) (lputO fr d v) A' Q ⟨⟩) ⟨⟩ := sx_op rfl
theorem sx_ixAgg {d : Option Nat} {k : Nat} {sv : Bool} {a b : Nat} {g : Bool} {x i : Opd} {w : W (⟨d, none, .ixAgg a b g x i, k, sv⟩ :: rest, S, fr, A, Q)} : RR AP E (⟨d, none, .ixAgg a b g x i, k, sv⟩ :: rest) S fr A Q w ↔ RX (aexec (.ixAgg a b g x i) fr A) (fun v A' => chkOk (.ixAgg a b g x i) fr v k S = true ∧ RR AP E rest (bif sv then A' :: S else S) (lputO fr d v) A' Q ⟨⟩) ⟨⟩ := sx_op rfl
theorem sx_fld {d : Option Nat} {k : Nat} {sv : Bool} {a b : Nat} {g : Bool} {x : Opd} {w : W (⟨d, none, .fld a b g x, k, sv⟩ :: rest, S, fr, A, Q)} : RR AP E (⟨d, none, .fld a b g x, k, sv⟩ :: rest) S fr A Q w ↔ RX (aexec (.fld a b g x) fr A) (fun v A' => chkOk (.fld a b g x) fr v k S = true ∧ RR AP E rest (bif sv then A' :: S else S) (lputO fr d v) A' Q ⟨⟩) ⟨⟩ := sx_op rfl
theorem sx_lookup {d : Option Nat} {k : Nat} {sv : Bool} {kk : KK} {z : Value} {ok : Bool} {x i : Opd} {w : W (⟨d, none, .lookup kk z ok x i, k, sv⟩ :: rest, S, fr, A, Q)} : RR AP E (⟨d, none, .lookup kk z ok x i, k, sv⟩ :: rest) S fr A Q w ↔ RX (aexec (.lookup kk z ok x i) fr A) (fun v A' => chkOk (.lookup kk z ok x i) fr v k S = true ∧ RR AP E rest (bif sv then A' :: S else S) (lputO fr d v) A' Q ⟨⟩) ⟨⟩ := sx_op rfl
theorem sx_mapUpd {d : Option Nat} {k : Nat} {sv : Bool} {kk : KK} {a b c : Opd} {w : W (⟨d, none, .mapUpd kk a b c, k, sv⟩ :: rest, S, fr, A, Q)} : RR AP E (⟨d, none, .mapUpd kk a b c, k, sv⟩ :: rest) S fr A Q w ↔ RX (aexec (.mapUpd kk a b c) fr A) (fun v A' => chkOk (.mapUpd kk a b c) fr v k S = true ∧ RR AP E rest (bif sv then A' :: S else S) (lputO fr d v) A' Q ⟨⟩) ⟨⟩ := sx_op rfl
theorem sx_mapEnt {d : Option Nat} {k : Nat} {sv : Bool} {kk : KK} {z : Value} {a b : Opd} {w : W (⟨d, none, .mapEnt kk z a b, k, sv⟩ :: rest, S, fr, A, Q)} : RR AP E (⟨d, none, .mapEnt kk z a b, k, sv⟩ :: rest) S fr A Q w ↔ RX (aexec (.mapEnt kk z a b) fr A) (fun v A' => chkOk (.mapEnt kk z a b) fr v k S = true ∧ RR AP E rest (bif sv then A' :: S else S) (lputO fr d v) A' Q ⟨⟩) ⟨⟩ := sx_op rfl
theorem sx_entSt {d : Option Nat} {k : Nat} {sv : Bool} {kk : KK} {a b c : Opd} {w : W (⟨d, none, .entSt kk a b c, k, sv⟩ :: rest, S, fr, A, Q)} : RR AP E (⟨d, none, .entSt kk a b c, k, sv⟩ :: rest) S fr A Q w ↔ RX (aexec (.entSt kk a b c) fr A) (fun v A' => chkOk (.entSt kk a b c) fr v k S = true ∧ RR AP E rest (bif sv then A' :: S else S) (lputO fr d v) A' Q ⟨⟩) ⟨⟩ := sx_op rfl
theorem sx_extract {d : Option Nat} {k : Nat} {sv : Bool} {x : Opd} {i : Nat} {w : W (⟨d, none, .extract x i, k, sv⟩ :: rest, S, fr, A, Q)} : RR AP E (⟨d, none, .extract x i, k, sv⟩ :: rest) S fr A Q w ↔ RX (aexec (.extract x i) fr A) (fun v A' => chkOk (.extract x i) fr v k S = true ∧ RR AP E rest (bif sv then A' :: S else S) (lputO fr d v) A' Q ⟨⟩) ⟨⟩ := sx_op rfl
theorem sx_lenS {d : Option Nat} {k : Nat} {sv : Bool} {x : Opd} {w : W (⟨d, none, .lenS x, k, sv⟩ :: rest, S, fr, A, Q)} : RR AP E (⟨d, none, .lenS x, k, sv⟩ :: rest) S fr A Q w ↔ RX (aexec (.lenS x) fr A) (fun v A' => chkOk (.lenS x) fr v k S = true ∧ RR AP E rest (bif sv then A' :: S else S) (lputO fr d v) A' Q ⟨⟩) ⟨⟩ := sx_op rfl
theorem sx_lenC {d : Option Nat} {k : Nat} {sv : Bool} {n : Nat} {w : W (⟨d, none, .lenC n, k, sv⟩ :: rest, S, fr, A, Q)} : RR AP E (⟨d, none, .lenC n, k, sv⟩ :: rest) S fr A Q w ↔ RX (aexec (.lenC n) fr A) (fun v A' => chkOk (.lenC n) fr v k S = true ∧ RR AP E rest (bif sv then A' :: S else S) (lputO fr d v) A' Q ⟨⟩) ⟨⟩ := sx_op rfl
theorem sx_lenSl {d : Option Nat} {k : Nat} {sv : Bool} {x : Opd} {w : W (⟨d, none, .lenSl x, k, sv⟩ :: rest, S, fr, A, Q)} : RR AP E (⟨d, none, .lenSl x, k, sv⟩ :: rest) S fr A Q w ↔ RX (aexec (.lenSl x) fr A) (fun v A' => chkOk (.lenSl x) fr v k S = true ∧ RR AP E rest (bif sv then A' :: S else S) (lputO fr d v) A' Q ⟨⟩) ⟨⟩ := sx_op rfl
theorem sx_lenM {d : Option Nat} {k : Nat} {sv : Bool} {kk : KK} {x : Opd} {w : W (⟨d, none, .lenM kk x, k, sv⟩ :: rest, S, fr, A, Q)} : RR AP E (⟨d, none, .lenM kk x, k, sv⟩ :: rest) S fr A Q w ↔ RX (aexec (.lenM kk x) fr A) (fun v A' => chkOk (.lenM kk x) fr v k S = true ∧ RR AP E rest (bif sv then A' :: S else S) (lputO fr d v) A' Q ⟨⟩) ⟨⟩ := sx_op rfl
theorem sx_append {d : Option Nat} {k : Nat} {sv : Bool} {a b : Nat} {x y : Opd} {w : W (⟨d, none, .append a b x y, k, sv⟩ :: rest, S, fr, A, Q)} : RR AP E (⟨d, none, .append a b x y, k, sv⟩ :: rest) S fr A Q w ↔ RX (aexec (.append a b x y) fr A) (fun v A' => chkOk (.append a b x y) fr v k S = true ∧ RR AP E rest (bif sv then A' :: S else S) (lputO fr d v) A' Q ⟨⟩) ⟨⟩ := sx_op rfl
theorem sx_copy {d : Option Nat} {k : Nat} {sv : Bool} {n : Nat} {x y : Opd} {w : W (⟨d, none, .copy n x y, k, sv⟩ :: rest, S, fr, A, Q)} : RR AP E (⟨d, none, .copy n x y, k, sv⟩ :: rest) S fr A Q w ↔ RX (aexec (.copy n x y) fr A) (fun v A' => chkOk (.copy n x y) fr v k S = true ∧ RR AP E rest (bif sv then A' :: S else S) (lputO fr d v) A' Q ⟨⟩) ⟨⟩ := sx_op rfl
theorem sx_clearS {d : Option Nat} {k : Nat} {sv : Bool} {z : List Value} {x : Opd} {w : W (⟨d, none, .clearS z x, k, sv⟩ :: rest, S, fr, A, Q)} : RR AP E (⟨d, none, .clearS z x, k, sv⟩ :: rest) S fr A Q w ↔ RX (aexec (.clearS z x) fr A) (fun v A' => chkOk (.clearS z x) fr v k S = true ∧ RR AP E rest (bif sv then A' :: S else S) (lputO fr d v) A' Q ⟨⟩) ⟨⟩ := sx_op rfl
theorem sx_delete {d : Option Nat} {k : Nat} {sv : Bool} {kk : KK} {a b : Opd} {w : W (⟨d, none, .delete kk a b, k, sv⟩ :: rest, S, fr, A, Q)} : RR AP E (⟨d, none, .delete kk a b, k, sv⟩ :: rest) S fr A Q w ↔ RX (aexec (.delete kk a b) fr A) (fun v A' => chkOk (.delete kk a b) fr v k S = true ∧ RR AP E rest (bif sv then A' :: S else S) (lputO fr d v) A' Q ⟨⟩) ⟨⟩ := sx_op rfl
theorem sx_min {d : Option Nat} {k : Nat} {sv : Bool} {xs : List Opd} {w : W (⟨d, none, .min xs, k, sv⟩ :: rest, S, fr, A, Q)} : RR AP E (⟨d, none, .min xs, k, sv⟩ :: rest) S fr A Q w ↔ RX (aexec (.min xs) fr A) (fun v A' => chkOk (.min xs) fr v k S = true ∧ RR AP E rest (bif sv then A' :: S else S) (lputO fr d v) A' Q ⟨⟩) ⟨⟩ := sx_op rfl
theorem sx_call {d : Option Nat} {sv : Bool} {f : FuncId} {xs : List Opd} {w : W (⟨d, none, .call f xs, 0, sv⟩ :: rest, S, fr, A, Q)} :
    RR AP E (⟨d, none, .call f xs, 0, sv⟩ :: rest) S fr A Q w ↔ RF AP E f (xs.map (Opd.ev fr)) A (fun v A' => RR AP E rest (bif sv then A' :: S else S) (lputO fr d v) A' Q ⟨⟩) ⟨⟩ ⟨⟩ := by
  constructor
  · rintro ⟨n, fr', A', h1, q⟩
    simp only [runSteps, wantedS, cond_true, stepRun, chkOk] at h1
    split at h1
    · rename_i v A1 he; exact ⟨n, v, A1, he, n, fr', A', h1, q⟩
    · cases h1
  · exact fun h => evR_call rfl rfl rfl h
theorem RF_use {f : FuncId} {args : List Value} {R K : Value → AHeap → Prop} {w : W A} {w' : W K} (h : EvF AP E f args A R) (hk : ∀ v A', R v A' → K v A') : RF AP E f args A K w w' := h.mono hk
/-- a cut at a region's end, ahead of a choice -/
theorem RG_cut {b : Bool} {ss ss' : List Step} {S' : List AHeap} {fr' : Fr} {A' : AHeap} (K' : Fr → AHeap → Prop) {K : Fr → AHeap → Prop} {w : W (ss, S, fr, A, K)} {w' : W (ss', S', fr', A', K)} {u : W (RR AP E ss S fr A K w)} {u' : W (RR AP E ss' S' fr' A' K w')}
    (h : RG b (RR AP E ss S fr A K' ⟨⟩) (RR AP E ss' S' fr' A' K' ⟨⟩) ⟨⟩ ⟨⟩) (hk : ∀ fr A, K' fr A → K fr A) : RG b (RR AP E ss S fr A K w) (RR AP E ss' S' fr' A' K w') u u' := by
  have mono : ∀ {ss : List Step} {S : List AHeap} {fr : Fr} {A : AHeap}, EvR AP E ss S fr A K' → EvR AP E ss S fr A K := fun ⟨n, f, a, h1, h2⟩ => ⟨n, f, a, h1, hk _ _ h2⟩
  unfold RG at h ⊢
  split
  · rename_i hb; rw [if_pos hb] at h; exact mono h
  · rename_i hb; rw [if_neg hb] at h; exact mono h
theorem RX_use {r : Option (Value × AHeap)} {v : Value} {A' : AHeap} {K : Value → AHeap → Prop} {w : W K} (h : r = some (v, A')) (hk : K v A') : RX r K w := ⟨_, _, h, hk⟩
end

section
variable {AP : FuncId → Option AFn} {E : Call} {fr : Fr} {A : AHeap} {Q : AX → Fr → AHeap → Prop}
theorem sx_reg {ss : List Step} {w : W (AC.reg ss, fr, A)} {w' : W Q} : RC AP E (.reg ss) fr A Q w w' ↔ RR AP E ss [A] fr A (fun fr' A' => Q .normal fr' A') ⟨⟩ := by
  constructor
  · rintro ⟨n, x, fr', A', h, q⟩
    cases n with
    | zero => simp [evC] at h
    | succ n =>
      simp only [evC] at h
      split at h
      · rename_i fr1 A1 h1
        cases h
        exact ⟨n, _, _, h1, q⟩
      · cases h
  · exact ev_reg
theorem sx_skip {w : W (AC.skip, fr, A)} {w' : W Q} : RC AP E .skip fr A Q w w' ↔ Q .normal fr A := ⟨fun ⟨n, x, fr', A', h, q⟩ => by cases n with | zero => simp [evC] at h | succ n => (simp only [evC] at h; cases h; exact q), ev_skip⟩
theorem sx_label {l : Nat} {w : W (AC.label l, fr, A)} {w' : W Q} : RC AP E (.label l) fr A Q w w' ↔ Q .normal fr A := ⟨fun ⟨n, x, fr', A', h, q⟩ => by cases n with | zero => simp [evC] at h | succ n => (simp only [evC] at h; cases h; exact q), ev_label⟩
theorem sx_ret {w : W (AC.ret, fr, A)} {w' : W Q} : RC AP E .ret fr A Q w w' ↔ Q .ret fr A := ⟨fun ⟨n, x, fr', A', h, q⟩ => by cases n with | zero => simp [evC] at h | succ n => (simp only [evC] at h; cases h; exact q), ev_ret⟩
theorem sx_exit {i : Nat} {w : W (AC.exit i, fr, A)} {w' : W Q} : RC AP E (.exit i) fr A Q w w' ↔ Q (.exit i) fr A := ⟨fun ⟨n, x, fr', A', h, q⟩ => by cases n with | zero => simp [evC] at h | succ n => (simp only [evC] at h; cases h; exact q), ev_exit⟩
theorem sx_goto {l : Nat} {w : W (AC.goto l, fr, A)} {w' : W Q} : RC AP E (.goto l) fr A Q w w' ↔ Q (.goto l) fr A := ⟨fun ⟨n, x, fr', A', h, q⟩ => by cases n with | zero => simp [evC] at h | succ n => (simp only [evC] at h; cases h; exact q), ev_goto⟩
theorem sx_seq {a b : AC} {w : W (AC.seq a b, fr, A)} {w' : W Q} : RC AP E (.seq a b) fr A Q w w' ↔ RC AP E a fr A (AX.then_ (fun fr A => RC AP E b fr A Q ⟨⟩ ⟨⟩) Q) ⟨⟩ ⟨⟩ := by
  constructor
  · rintro ⟨n, x, fr', A', h, q⟩
    cases n with
    | zero => simp [evC] at h
    | succ n =>
      simp only [evC] at h
      split at h
      · rename_i s1 h1; exact ⟨n, _, _, _, h1, n, _, _, _, h, q⟩
      · rename_i hn
        refine ⟨n, _, _, _, h, ?_⟩
        cases x with
        | normal => exact absurd h (hn _)
        | _ => exact q
  · exact ev_seq
theorem sx_cond {x : Opd} {t e : AC} {w : W (AC.cond x t e, fr, A)} {w' : W Q} : RC AP E (.cond x t e) fr A Q w w' ↔ RB (x.ev fr) (RC AP E t fr A Q ⟨⟩ ⟨⟩) (RC AP E e fr A Q ⟨⟩ ⟨⟩) ⟨⟩ ⟨⟩ := by
  constructor
  · rintro ⟨n, y, fr', A', h, q⟩
    cases n with
    | zero => simp [evC] at h
    | succ n =>
      simp only [evC] at h
      split at h
      · rename_i hx; exact ⟨true, hx, ⟨n, _, _, _, h, q⟩⟩
      · rename_i hx; exact ⟨false, hx, (RG_false _ _ _ _).2 ⟨n, _, _, _, h, q⟩⟩
      · cases h
  · rintro ⟨b, hx, h⟩
    refine ev_cond hx ?_
    cases b with
    | true => exact h
    | false => exact (RG_false _ _ _ _).1 h
theorem sx_block {id : Nat} {c : AC} {w : W (AC.block id c, fr, A)} {w' : W Q} : RC AP E (.block id c) fr A Q w w' ↔ RC AP E c fr A (AX.inBlock id Q) ⟨⟩ ⟨⟩ := by
  constructor
  · rintro ⟨n, x, fr', A', h, q⟩
    cases n with
    | zero => simp [evC] at h
    | succ n =>
      simp only [evC] at h
      split at h
      · rename_i i s1 h1
        refine ⟨n, _, _, _, h1, ?_⟩
        by_cases e : i = id
        · subst e
          simp only [Nat.beq_refl, cond_true, Option.some.injEq, Prod.mk.injEq] at h
          obtain ⟨rfl, rfl⟩ := h
          simp only [AX.inBlock, if_true]; exact q
        · have e' : Nat.beq i id = false := by cases hb : Nat.beq i id with | false => rfl | true => exact absurd (Nat.eq_of_beq_eq_true hb) e
          simp only [e', cond_false, Option.some.injEq, Prod.mk.injEq] at h
          obtain ⟨rfl, rfl⟩ := h
          simp only [AX.inBlock, if_neg e]; exact q
      · rename_i hn
        refine ⟨n, _, _, _, h, ?_⟩
        cases x with
        | exit i => exact absurd h (hn _ _)
        | _ => exact q
  · exact ev_block
/-- a loop under a measure -/
theorem rc_loop {c : AC} {w : W (AC.loop c, fr, A)} {w' : W Q} (I : Nat → Fr → AHeap → Prop) (h : ∀ m fr A, I m fr A → RC AP E c fr A (AX.then_ (fun fr A => ∃ k, k < m ∧ I k fr A) Q) ⟨⟩ ⟨⟩) : ∀ m, I m fr A → RC AP E (.loop c) fr A Q w w' := by
  have key : ∀ m fr A, I m fr A → EvC AP E (.loop c) fr A Q := by
    intro m
    induction m using Nat.strongRecOn with
    | ind m ih =>
      intro fr A hi
      refine ev_loop (EvC.mono (h m fr A hi) fun x fr A hq => ?_)
      cases x with
      | normal => obtain ⟨k, hk, hi⟩ := hq; exact ih k hk fr A hi
      | _ => exact hq
  exact fun m hi => key m fr A hi
/-- a cut behind a choice -/
theorem RGC_cut {b : Bool} {c c' : AC} {fr' : Fr} {A' : AHeap} (K' : AX → Fr → AHeap → Prop) {w : W (c, fr, A)} {w' : W (c', fr', A')} {q q' : W Q} {u : W (RC AP E c fr A Q w q)} {u' : W (RC AP E c' fr' A' Q w' q')}
    (h : RG b (RC AP E c fr A K' ⟨⟩ ⟨⟩) (RC AP E c' fr' A' K' ⟨⟩ ⟨⟩) ⟨⟩ ⟨⟩) (hk : ∀ x fr A, K' x fr A → Q x fr A) : RG b (RC AP E c fr A Q w q) (RC AP E c' fr' A' Q w' q') u u' := by
  unfold RG at h ⊢
  split
  · rename_i hb; rw [if_pos hb] at h; exact EvC.mono h hk
  · rename_i hb; rw [if_neg hb] at h; exact EvC.mono h hk
theorem RC_cut {c : AC} (K' : AX → Fr → AHeap → Prop) {w : W (c, fr, A)} {q : W Q} (h : RC AP E c fr A K' ⟨⟩ ⟨⟩) (hk : ∀ x fr A, K' x fr A → Q x fr A) : RC AP E c fr A Q w q := EvC.mono h hk
theorem sx_scope {c : AC} {w : W (AC.scope c, fr, A)} {w' : W Q} : RC AP E (.scope c) fr A Q w w' ↔ RS AP E c c fr A Q ⟨⟩ ⟨⟩ := by
  constructor
  · rintro ⟨n, x, fr', A', h, q⟩
    cases n with
    | zero => simp [evC] at h
    | succ n => exact ⟨n, x, fr', A', by simpa only [evC] using h, q⟩
  · exact ev_scope
theorem sx_scopeS {c d : AC} {w : W (c, d, fr, A)} {w' : W Q} : RC AP E d fr A (AX.jump c (fun rest fr A => RS AP E c rest fr A Q ⟨⟩ ⟨⟩) Q) ⟨⟩ ⟨⟩ → RS AP E c d fr A Q w w' := ev_scopeS
/-- from a label's place on: by the jump back, or out -/
def AX.back (l : Nat) (J : Fr → AHeap → Prop) (Q : AX → Fr → AHeap → Prop) : AX → Fr → AHeap → Prop
  | .goto i, fr, A => i = l ∧ J fr A
  | x, fr, A => Q x fr A
theorem rs_tail {c tail : AC} {l : Nat} (hf : findL c l = some (.seq .skip tail)) {w : W (tail, fr, A)} {w' : W (AX.jump c (fun rest fr A => RS AP E c rest fr A Q ⟨⟩ ⟨⟩) Q)} (I : Nat → Fr → AHeap → Prop)
    (h : ∀ m fr A, I m fr A → RC AP E tail fr A (AX.back l (fun fr A => ∃ k, k < m ∧ I k fr A) Q) ⟨⟩ ⟨⟩) : ∀ m, I m fr A → RC AP E tail fr A (AX.jump c (fun rest fr A => RS AP E c rest fr A Q ⟨⟩ ⟨⟩) Q) w w' := by
  have key : ∀ m fr A, I m fr A → EvC AP E tail fr A (AX.jump c (fun rest fr A => EvS AP E c rest fr A Q) Q) := by
    intro m
    induction m using Nat.strongRecOn with
    | ind m ih =>
      intro fr A hi
      refine EvC.mono (h m fr A hi) fun x fr A hq => ?_
      cases x with
      | goto i =>
        obtain ⟨rfl, k, hk, hi⟩ := hq
        simp only [AX.jump, hf]
        refine ev_scopeS (ev_seq (ev_skip ?_))
        exact ih k hk fr A hi
      | _ => exact hq
  exact fun m hi => key m fr A hi
/-- what a function's call comes to -/
theorem rf_body {f : FuncId} {fn : AFn} {args : List Value} {K : Value → AHeap → Prop} (hf : AP f = some fn)
    (h : RC AP E fn.body (frOf args 0 .e) A (fun x fr A' => (x = .normal ∨ x = .ret) ∧ ∃ vs v, aresults A' fr fn.res = some vs ∧ tupOf vs = some v ∧ K v A') ⟨⟩ ⟨⟩) : EvF AP E f args A K := evF_body hf h
end
end Go.Abs
