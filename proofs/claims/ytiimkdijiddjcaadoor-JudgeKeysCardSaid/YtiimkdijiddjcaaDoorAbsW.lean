/- From a run of the abstract machine to what a law's row asks. -/
import Derived.Test.YtiimkdijiddjcaaDoorAbsZ
import Derived.ProofKit
import Derived.Below
import Derived.ChangeSame
namespace Go.Abs
open Go Go.RowKit Go.WideShapes Go.ChangeShapes

def retTrue : Option (Value × AHeap) → Bool
  | some (.bool true, _) => true
  | _ => false

section
variable {P : Program} {AP : FuncId → Option AFn}

/-- a call whose arguments bear no address, and which comes to true -/
theorem calls_closed (hP : P.follows .mixedOrders = true) (hAP : TabOk P AP) {n : Nat} {f : FuncId} {args : List Value} (hp : args.all plain1 = true) (h : retTrue (evF AP n f args ⟨.e, 0⟩) = true) (W : World) :
    Calls P f args.toArray W fun e W' => e = .returned (.bool true) ∧ Below W.heap.size W W' := by
  have hex : ∃ A', evF AP n f args ⟨.e, 0⟩ = some (.bool true, A') := by
    unfold retTrue at h
    split at h
    · rename_i A' he; exact ⟨A', he⟩
    · cases h
  obtain ⟨A', he⟩ := hex
  have h0 : ∀ id, (⟨.e, 0⟩ : AHeap).get id = none := fun id => rfl
  have hrep : Rep W.heap.size (fun _ => none) (⟨.e, 0⟩ : AHeap).get W :=
    ⟨fun id cs sz ro opn hg => (by rw [h0] at hg; cases hg), fun id kk es cl hg => (by rw [h0] at hg; cases hg), fun id1 id2 i1 i2 _ _ _ hm => (by cases hm)⟩
  have hargs : All2 (VR fun _ => none) args args := All2.diag fun x hx => VR.sr (.plain (List.all_eq_true.1 hp x hx))
  refine (calls_of_ev hP hAP he hrep (Nat.le_refl _) (fun id _ => h0 id) (fun _ _ _ => rfl) hargs).mono ?_
  rintro e W' ⟨μ', v', rfl, ho, hv⟩
  rw [hv.bool]
  exact ⟨rfl, ⟨ho.os, ho.tape, ho.output, ho.size, fun b hb => ho.keep b hb fun id i hw _ => by rw [h0] at hw; exact hw.elim⟩⟩
end

section
variable {H : Type} {enc : TypeId × Value → H} {P : Program}
/-- the row's last step, where all that is known of the world behind the call is that nothing old has turned -/
theorem post_below {f : Func} {s : ChangeSpec} {apart fresh handsOn again : Bool} {W W' : World} {args : Array Value} {v : Value} {ds gs : List (DataW H)} {before pa pv : List MemPlace}
    (hW : DataW.Whole enc P f.params.toList s.vars apart W args.toList ds gs before)
    (hres : ∀ (b : Nat) (sp : Nat → Bool) (hd : Bool), DataW.TrodAll enc P W' b sp hd f.resultTypes.toList (v.resultList f.resultTypes.size) (s.fn H (ds ++ gs)).results [])
    (hargs : ∀ sp : Nat → Bool, (∀ p ∈ before, sp p.block = true) → DataW.TrodAll enc P W' 0 sp true f.params.toList args.toList (s.fn H (ds ++ gs)).args pa)
    (hvars : ∀ sp : Nat → Bool, (∀ p ∈ before, sp p.block = true) → DataW.TrodVars enc P W' sp s.vars (s.fn H (ds ++ gs)).vars pv)
    (hps : before = pa ++ pv) (hb : Below W.heap.size W W')
    (hok : ∀ (j : Nat) (t : TypeId) (r : Value), f.resultTypes[j]? = some t → (v.resultList f.resultTypes.size)[j]? = some r → Value.okWide P W' .any 0 t r) :
    s.post enc P f apart fresh handsOn again W args v W' := by
  subst hps
  have hlt : ∀ p ∈ pa ++ pv, p.block < W.heap.size := fun p hp => hW.lt p hp
  have hold : ∀ p ∈ pa ++ pv, decide (p.block < W.heap.size) = true := fun p hp => decide_eq_true (hlt p hp)
  refine ⟨ds, gs, pa ++ pv, [], pa, pv, hW, hres _ _ _, hargs (fun b => decide (b < W.heap.size)) hold, hvars (fun b => decide (b < W.heap.size)) hold, World.keptBut_mono (fun p hp => ⟨hp, ?_⟩) (hb.frame (· ∈ pa ++ pv)), fun _ => ?_⟩
  · exact Or.inr (List.mem_append.1 hp)
  · obtain ⟨_, _, _, _, _, hz, hn⟩ := hW
    refine ⟨hok, _, _, ([] ++ pa) ++ pv, ⟨[] ++ pa, pv, trodAll_append (hargs _ (fun _ _ => rfl)) (hres _ _ _), hvars _ (fun _ _ => rfl), rfl, ?_, ?_⟩, ?_⟩
    · intro b off hp
      have hin : MemPlace.cell b off ∈ pa ++ pv := by simpa using hp
      exact (hb.frozen (hlt _ hin)).trans (hz b off hin)
    · intro ha
      simpa using hn ha
    · intro p hp _
      simpa using hp
end
end Go.Abs
