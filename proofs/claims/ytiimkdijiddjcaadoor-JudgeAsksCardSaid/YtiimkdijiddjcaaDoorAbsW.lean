/- From a run of the abstract machine to what a law's row asks. -/
import Derived.Test.YtiimkdijiddjcaaDoorAbsZ
import Derived.ProofKit
import Derived.Below
import Derived.ChangeSame
namespace Go.Abs
open Go Go.RowKit Go.WideShapes Go.ChangeShapes

def retTrue : Option (Value × AHeap) → Bool
  | some (.bool true, _) => true
  | _ => false

/-- nothing is called beyond the table -/
def noE : Call := fun _ _ _ => none
/-- beyond the table one function without arguments, which comes to v and leaves the memory as it is -/
def constE (f : FuncId) (v : Value) : Call := fun g args A => match args with
  | [] => bif Nat.beq g f then some (v, A) else none
  | _ => none

section
variable {P : Program} {AP : FuncId → Option AFn} {E : Call}

theorem noE_ok (B0 : Nat) : CallOk P B0 noE := ⟨fun f args A v A' h => by simp [noE] at h, fun f args A v A' h => by simp [noE] at h, fun f args A v A' h => by simp [noE] at h⟩

theorem Rep.grow {B0 : Nat} {μ : Mu} {g : G} {w w' : World} (h : Rep B0 μ g w) (hb : ∀ b, b < w.heap.size → w'.heap[b]? = w.heap[b]?) : Rep B0 μ g w' := by
  refine ⟨fun id cs sz ro opn hg => ?_, fun id kk es cl hg => ?_, h.sep⟩
  · obtain ⟨i, arr, t, fz, hr⟩ := h.row _ _ _ _ _ hg
    exact ⟨i, arr, t, fz, ⟨hr.mu, hr.opn_, hr.sz_, (hb _ (lt_of_heap hr.heap)).trans hr.heap, hr.asz, hr.len, hr.cells, hr.own, hr.old⟩⟩
  · obtain ⟨i, es', hr⟩ := h.map _ _ _ _ hg
    exact ⟨i, es', ⟨hr.mu, hr.own, (hb _ (lt_of_heap hr.heap)).trans hr.heap, hr.ents⟩⟩
theorem Out.below {B0 : Nat} {μ : Mu} {g : G} {w w' : World} (h : Rep B0 μ g w) (hb : Below w.heap.size w w') (lo hi : Nat) : Out B0 μ g w lo hi μ g w' :=
  ⟨Mu.le_refl _, fun _ _ h => .inl h, h.grow hb.block, hb.os, hb.tape, hb.output, hb.size, fun b hlt _ => hb.block b hlt, fun id i hw hm => .inr ⟨id, i, hw, hm, rfl⟩⟩

theorem constE_some {f g : FuncId} {v u : Value} {args : List Value} {A A' : AHeap} (h : constE f v g args A = some (u, A')) : g = f ∧ args = [] ∧ u = v ∧ A' = A := by
  unfold constE at h
  split at h
  · simp only [cond_eq_ite, Nat.beq_eq] at h
    split at h
    · rename_i e
      simp only [Option.some.injEq, Prod.mk.injEq] at h
      exact ⟨e, rfl, h.1.symm, h.2.symm⟩
    · cases h
  · cases h
theorem constE_ok {f : FuncId} {v : Value} (hv : plain1 v = true) {fn : Func} (hf : P.funcs[f]? = some fn) (hb : fn.body.isSome = true) (hn : (fn.name == "runtime.NumGoroutine") = false)
    (h : ∀ w, Calls P f #[] w fun e w' => e = .returned v ∧ Below w.heap.size w w') (B0 : Nat) : CallOk P B0 (constE f v) := by
  refine ⟨?_, ?_, ?_⟩
  · intro g args A u A' hx μ w args' hrep hB hwf hgap hargs
    obtain ⟨rfl, rfl, rfl, rfl⟩ := constE_some hx
    cases hargs
    refine (h w).mono ?_
    rintro e w' ⟨rfl, hbl⟩
    exact ⟨μ, u, rfl, Out.below hrep hbl _ _, VR.sr (.plain hv)⟩
  · intro g args A u A' hx
    obtain ⟨rfl, rfl, rfl, rfl⟩ := constE_some hx
    exact ⟨fn, hf, hb, hn⟩
  · intro g args A u A' hx hwf
    obtain ⟨rfl, rfl, rfl, rfl⟩ := constE_some hx
    exact ⟨hwf, Nat.le_refl _⟩

/-- a call whose arguments bear no address, and which comes to true -/
theorem calls_closed (hP : P.follows .mixedOrders = true) (hAP : TabOk P AP) (hE : ∀ B0, CallOk P B0 E) {n : Nat} {f : FuncId} {args : List Value} (hp : args.all plain1 = true) (h : retTrue (evF AP E n f args ⟨.e, 0⟩) = true) (W : World) :
    Calls P f args.toArray W fun e W' => e = .returned (.bool true) ∧ Below W.heap.size W W' := by
  have hex : ∃ A', evF AP E n f args ⟨.e, 0⟩ = some (.bool true, A') := by
    unfold retTrue at h
    split at h
    · rename_i A' he; exact ⟨A', he⟩
    · cases h
  obtain ⟨A', he⟩ := hex
  have h0 : ∀ id, (⟨.e, 0⟩ : AHeap).get id = none := fun id => rfl
  have hrep : Rep W.heap.size (fun _ => none) (⟨.e, 0⟩ : AHeap).get W :=
    ⟨fun id cs sz ro opn hg => (by rw [h0] at hg; cases hg), fun id kk es cl hg => (by rw [h0] at hg; cases hg), fun id1 id2 i1 i2 _ _ _ hm => (by cases hm)⟩
  have hargs : All2 (VR fun _ => none) args args := All2.diag fun x hx => VR.sr (.plain (List.all_eq_true.1 hp x hx))
  refine (calls_of_ev hP hAP (hE _) he hrep (Nat.le_refl _) (fun id _ => h0 id) (fun _ _ _ => rfl) hargs).mono ?_
  rintro e W' ⟨μ', v', rfl, ho, hv⟩
  rw [hv.bool]
  exact ⟨rfl, ⟨ho.os, ho.tape, ho.output, ho.size, fun b hb => ho.keep b hb fun id i hw _ => by rw [h0] at hw; exact hw.elim⟩⟩
end

/-- a function's code from some point on -/
def evB (AP : FuncId → Option AFn) (E : Call) (n : Nat) (res : List ARes) (body : AC) (fr : Fr) (A : AHeap) : Option (Value × AHeap) :=
  match evC AP E n body ⟨fr, A⟩ with
  | some (.normal, s) | some (.ret, s) => (aresults s.A s.fr res).bind fun vs => (tupOf vs).map fun v => (v, s.A)
  | _ => none
def AC.snd : AC → AC
  | .seq _ b => b
  | c => c
theorem evF_eq {AP : FuncId → Option AFn} {E : Call} {n : Nat} {f : FuncId} {args : List Value} {A : AHeap} {fn : AFn} (h : AP f = some fn) : evF AP E (n + 1) f args A = evB AP E n fn.res fn.body (frOf args 0 .e) A := by
  simp only [evF, h, evB]
  rfl
theorem evB_seq {AP : FuncId → Option AFn} {E : Call} {n : Nat} {res : List ARes} {a b : AC} {fr fr' : Fr} {A A' : AHeap} (h : evC AP E n a ⟨fr, A⟩ = some (.normal, ⟨fr', A'⟩)) : evB AP E (n + 1) res (.seq a b) fr A = evB AP E n res b fr' A' := by
  simp only [evB, evC, h]
theorem evB_reg {AP : FuncId → Option AFn} {E : Call} {n : Nat} {res : List ARes} {ss : List Step} {b : AC} {fr fr' : Fr} {A A' : AHeap} (h : runSteps (evF AP E n) ss [A] fr A = some (fr', A')) : evB AP E (n + 2) res (.seq (.reg ss) b) fr A = evB AP E (n + 1) res b fr' A' :=
  evB_seq (by simp only [evC, h])

/-- the remainder that a law's argument chooses by -/
theorem umod (a : Int) {m : Nat} (h0 : 0 < m) (h1 : m < 9223372036854775808) : ∃ c : Nat, c < m ∧ IntKind.i64.wrap (Int.tmod (IntKind.u64.wrap a) m) = (c : Int) := by
  have h2 : IntKind.u64.wrap a = a % 18446744073709551616 := rfl
  have h3 : 0 ≤ a % 18446744073709551616 := Int.emod_nonneg _ (by omega)
  have h4 : Int.tmod (a % 18446744073709551616) m = (a % 18446744073709551616) % m := Int.tmod_eq_emod_of_nonneg h3
  have h5 : 0 ≤ (a % 18446744073709551616) % (m : Int) := Int.emod_nonneg _ (by omega)
  have h6 : (a % 18446744073709551616) % (m : Int) < m := Int.emod_lt_of_pos _ (by omega)
  rw [h2, h4]
  generalize (a % 18446744073709551616) % (m : Int) = r at h5 h6
  refine ⟨r.toNat, by omega, ?_⟩
  rw [IntKind.wrap_i64]
  omega

section
variable {H : Type} {enc : TypeId × Value → H} {P : Program}
/-- the row's last step, where all that is known of the world behind the call is that nothing old has turned -/
theorem post_below {f : Func} {s : ChangeSpec} {apart fresh handsOn again : Bool} {W W' : World} {args : Array Value} {v : Value} {ds gs : List (DataW H)} {before pa pv : List MemPlace}
    (hW : DataW.Whole enc P f.params.toList s.vars apart W args.toList ds gs before)
    (hres : ∀ (b : Nat) (sp : Nat → Bool) (hd : Bool), DataW.TrodAll enc P W' b sp hd f.resultTypes.toList (v.resultList f.resultTypes.size) (s.fn H (ds ++ gs)).results [])
    (hargs : ∀ sp : Nat → Bool, (∀ p ∈ before, sp p.block = true) → DataW.TrodAll enc P W' 0 sp true f.params.toList args.toList (s.fn H (ds ++ gs)).args pa)
    (hvars : ∀ sp : Nat → Bool, (∀ p ∈ before, sp p.block = true) → DataW.TrodVars enc P W' sp s.vars (s.fn H (ds ++ gs)).vars pv)
    (hps : before = pa ++ pv) (hb : Below W.heap.size W W')
    (hok : ∀ (j : Nat) (t : TypeId) (r : Value), f.resultTypes[j]? = some t → (v.resultList f.resultTypes.size)[j]? = some r → Value.okWide P W' .any 0 t r) :
    s.post enc P f apart fresh handsOn again W args v W' := by
  subst hps
  have hlt : ∀ p ∈ pa ++ pv, p.block < W.heap.size := fun p hp => hW.lt p hp
  have hold : ∀ p ∈ pa ++ pv, decide (p.block < W.heap.size) = true := fun p hp => decide_eq_true (hlt p hp)
  refine ⟨ds, gs, pa ++ pv, [], pa, pv, hW, hres _ _ _, hargs (fun b => decide (b < W.heap.size)) hold, hvars (fun b => decide (b < W.heap.size)) hold, World.keptBut_mono (fun p hp => ⟨hp, ?_⟩) (hb.frame (· ∈ pa ++ pv)), fun _ => ?_⟩
  · exact Or.inr (List.mem_append.1 hp)
  · obtain ⟨_, _, _, _, _, hz, hn⟩ := hW
    refine ⟨hok, _, _, ([] ++ pa) ++ pv, ⟨[] ++ pa, pv, trodAll_append (hargs _ (fun _ _ => rfl)) (hres _ _ _), hvars _ (fun _ _ => rfl), rfl, ?_, ?_⟩, ?_⟩
    · intro b off hp
      have hin : MemPlace.cell b off ∈ pa ++ pv := by simpa using hp
      exact (hb.frozen (hlt _ hin)).trans (hz b off hin)
    · intro ha
      simpa using hn ha
    · intro p hp _
      simpa using hp
end
end Go.Abs
