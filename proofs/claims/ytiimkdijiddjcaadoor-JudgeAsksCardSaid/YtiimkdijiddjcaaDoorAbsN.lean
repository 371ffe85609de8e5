/- Each operation of the abstract machine is the model's. -/
import Derived.Test.YtiimkdijiddjcaaDoorAbsM
namespace Go.Abs
open Go

/-- what may become of the abstract memory in one operation -/
inductive AStep (A : AHeap) : AHeap → Prop where
  | same : AStep A A
  | new (x : AObj) : AStep A (A.new x)
  | set (id : Nat) (x : AObj) (h : A.get id ≠ none) : AStep A (A.set id x)
  | setNew (id : Nat) (x y : AObj) (h : A.get id ≠ none) : AStep A ((A.set id x).new y)
def wfA (A : AHeap) : Prop := ∀ id, A.next ≤ id → A.get id = none
theorem wfA.new {A : AHeap} (h : wfA A) (x : AObj) : wfA (A.new x) := by
  intro id hid
  rw [A.get_new]
  have : A.next + 1 ≤ id := hid
  rw [if_neg (by omega)]; exact h id (by omega)
theorem wfA.set {A : AHeap} (h : wfA A) {id : Nat} (x : AObj) (hg : A.get id ≠ none) : wfA (A.set id x) := by
  intro j hj
  rw [A.get_set]
  have hj' : A.next ≤ j := hj
  by_cases e : id = j
  · subst e; exact absurd (h _ hj') hg
  · rw [if_neg e]; exact h _ hj'
theorem AStep.wf {A A' : AHeap} (h : AStep A A') (hw : wfA A) : wfA A' ∧ A.next ≤ A'.next := by
  cases h with
  | same => exact ⟨hw, Nat.le_refl _⟩
  | new x => exact ⟨hw.new x, Nat.le_succ _⟩
  | set id x h => exact ⟨hw.set x h, Nat.le_refl _⟩
  | setNew id x y h => exact ⟨(hw.set x h).new y, Nat.le_succ _⟩

theorem wrRow_step {A A' : AHeap} {id off : Nat} {vs : List Value} (h : wrRow A id off vs = some A') : AStep A A' := by
  obtain ⟨cs, sz, opn, hg, _, rfl⟩ := wrRow_get h
  exact .set _ _ (by rw [hg]; simp)
theorem mapOf_ne {A : AHeap} {kk : KK} {x : Value} {r : Nat} {es : List MapEntry} {clock : Nat} (h : mapOf kk A x = some (r, es, clock)) : A.get r ≠ none := by
  rw [(mapOf_get h).2]; simp

theorem aexec_step {o : AOp} {fr : Fr} {A A' : AHeap} {v : Value} (h : aexec o fr A = some (v, A')) : AStep A A' := by
  have hm : ∀ {α : Type} {x : Option α} {f : α → Value}, (x.map fun y => (f y, A)) = some (v, A') → AStep A A' := by
    intro α x f h
    simp only [Option.map_eq_some_iff, Prod.mk.injEq] at h
    obtain ⟨_, _, _, rfl⟩ := h
    exact .same
  have hm1 : ∀ {x : Option Value}, x.map (·, A) = some (v, A') → AStep A A' := fun h => hm (f := id) h
  have hmb : ∀ {x : Option Bool} {f : Bool → Value}, (x.map fun y => (f y, A)) = some (v, A') → AStep A A' := fun h => hm h
  cases o with
  | mov x => simp only [aexec, Option.some.injEq, Prod.mk.injEq] at h; rw [← h.2]; exact .same
  | pick c a b =>
    simp only [aexec] at h
    split at h
    · simp only [Option.some.injEq, Prod.mk.injEq] at h; rw [← h.2]; exact .same
    · cases h
  | alloc z sz => simp only [aexec, Option.some.injEq, Prod.mk.injEq] at h; rw [← h.2]; exact .new _
  | box sz x =>
    simp only [aexec, cond_eq_ite] at h
    split at h
    · simp only [Option.some.injEq, Prod.mk.injEq] at h; rw [← h.2]; exact .new _
    · cases h
  | build z ps => exact hm h
  | buildSlice sz len z ps =>
    simp only [aexec, Option.map_eq_some_iff, Prod.mk.injEq] at h
    obtain ⟨_, _, _, rfl⟩ := h; exact .new _
  | ld1 a =>
    simp only [aexec] at h
    split at h
    · split at h
      · exact hm1 h
      · cases h
    · cases h
  | ldN n a =>
    simp only [aexec] at h
    split at h
    · exact hm h
    · cases h
  | st n a x =>
    simp only [aexec, cond_eq_ite] at h
    split at h
    · split at h
      · simp only [Option.map_eq_some_iff, Prod.mk.injEq] at h
        obtain ⟨A1, h1, _, rfl⟩ := h
        exact wrRow_step h1
      · cases h
    · cases h
  | nilCheck x =>
    simp only [aexec] at h
    split at h
    · simp only [Option.some.injEq, Prod.mk.injEq] at h; rw [← h.2]; exact .same
    · simp only [Option.some.injEq, Prod.mk.injEq] at h; rw [← h.2]; exact .same
    · cases h
  | bin op x y => exact hm1 h
  | eq neg k x y => exact hm h
  | un op x =>
    simp only [aexec] at h
    split at h
    · exact hm1 h
    · exact hm1 h
    · cases h
  | cvI k x =>
    simp only [aexec] at h
    split at h
    · simp only [Option.some.injEq, Prod.mk.injEq] at h; rw [← h.2]; exact .same
    · cases h
  | cvB x => exact hm1 h
  | cvS x =>
    simp only [aexec] at h
    split at h
    · simp only [Option.some.injEq, Prod.mk.injEq] at h; rw [← h.2]; exact .same
    · cases h
  | mkFunc f c =>
    simp only [aexec] at h
    split at h
    · simp only [Option.some.injEq, Prod.mk.injEq] at h; rw [← h.2]; exact .same
    · cases h
  | mkMap k => simp only [aexec, Option.some.injEq, Prod.mk.injEq] at h; rw [← h.2]; exact .new _
  | mkSlice sz bytes z l c =>
    simp only [aexec, amkSlice] at h
    split at h
    · split at h
      · simp only [Option.some.injEq, Prod.mk.injEq] at h; rw [← h.2]; exact .new _
      · cases h
    · cases h
  | slStr x lo hi => exact hm1 h
  | slice sz x lo hi mx => exact hm1 h
  | slArr sz n x lo hi => exact hm1 h
  | fadd off x =>
    simp only [aexec] at h
    split at h
    · simp only [Option.some.injEq, Prod.mk.injEq] at h; rw [← h.2]; exact .same
    · cases h
  | idxA sz n x i =>
    simp only [aexec] at h
    split at h
    · exact hm1 h
    · cases h
  | idxS sz x i =>
    simp only [aexec] at h
    split at h
    · exact hm1 h
    · cases h
  | ixStr x i =>
    simp only [aexec] at h
    split at h
    · split at h
      · exact hm h
      · cases h
    · cases h
  | ixAgg sz n g x i =>
    simp only [aexec] at h
    split at h
    · split at h
      · exact hm1 h
      · cases h
    · cases h
  | fld off sz g x =>
    simp only [aexec] at h
    split at h
    · exact hm1 h
    · cases h
  | lookup kk z ok x k => exact hm1 h
  | mapUpd kk m k x =>
    simp only [aexec, Option.map_eq_some_iff, Prod.mk.injEq] at h
    obtain ⟨A1, h1, _, rfl⟩ := h
    unfold amapUpd at h1
    split at h1
    · rename_i hmo
      split at h1
      · split at h1 <;> (cases h1; exact .set _ _ (mapOf_ne hmo))
      · cases h1
    · cases h1
  | mapEnt kk z m k =>
    simp only [aexec, amapEnt] at h
    split at h
    · rename_i hmo
      split at h
      · split at h <;> (cases h; exact .set _ _ (mapOf_ne hmo))
      · cases h
    · cases h
  | entSt kk m s x =>
    simp only [aexec, Option.map_eq_some_iff, Prod.mk.injEq] at h
    obtain ⟨A1, h1, _, rfl⟩ := h
    unfold aentSt at h1
    split at h1
    · rename_i hmo _
      split at h1
      · simp only [Option.map_eq_some_iff] at h1
        obtain ⟨_, _, rfl⟩ := h1
        exact .set _ _ (mapOf_ne hmo)
      · cases h1
    · cases h1
  | extract x i =>
    simp only [aexec] at h
    split at h
    · exact hm1 h
    · cases h
  | lenS x =>
    simp only [aexec] at h
    split at h
    · simp only [Option.some.injEq, Prod.mk.injEq] at h; rw [← h.2]; exact .same
    · cases h
  | lenC n => simp only [aexec, Option.some.injEq, Prod.mk.injEq] at h; rw [← h.2]; exact .same
  | lenSl x =>
    simp only [aexec] at h
    split at h
    · simp only [Option.some.injEq, Prod.mk.injEq] at h; rw [← h.2]; exact .same
    · cases h
  | lenM kk x =>
    simp only [aexec] at h
    split at h
    · simp only [Option.some.injEq, Prod.mk.injEq] at h; rw [← h.2]; exact .same
    · simp only [Option.map_eq_some_iff, Prod.mk.injEq] at h
      obtain ⟨_, _, _, rfl⟩ := h; exact .same
  | append sz bytes s x =>
    simp only [aexec, aappend] at h
    split at h
    · split at h
      · split at h
        · simp only [Option.some.injEq, Prod.mk.injEq] at h; rw [← h.2]; exact .same
        · split at h
          · simp only [Option.bind_eq_some_iff, Option.map_eq_some_iff, Prod.mk.injEq] at h
            obtain ⟨_, _, A1, h1, _, rfl⟩ := h
            exact wrRow_step h1
          · cases h
      · split at h
        · split at h
          · simp only [Option.bind_eq_some_iff, cond_eq_ite] at h
            obtain ⟨_, _, _, _, h⟩ := h
            split at h
            · simp only [Option.some.injEq, Prod.mk.injEq] at h; rw [← h.2]; exact .new _
            · cases h
          · split at h
            · split at h
              · split at h
                · rename_i hg
                  simp only [Option.bind_eq_some_iff, cond_eq_ite] at h
                  obtain ⟨_, _, _, _, h⟩ := h
                  split at h
                  · simp only [Option.some.injEq, Prod.mk.injEq] at h; rw [← h.2]; exact .setNew _ _ _ (by rw [hg]; simp)
                  · cases h
                · cases h
              · cases h
            · cases h
        · cases h
    · cases h
  | copy sz d x =>
    simp only [aexec, acopy] at h
    split at h
    · split at h
      · simp only [Option.some.injEq, Prod.mk.injEq] at h; rw [← h.2]; exact .same
      · split at h
        · simp only [Option.bind_eq_some_iff, Option.map_eq_some_iff, Prod.mk.injEq] at h
          obtain ⟨_, _, A1, h1, _, rfl⟩ := h
          exact wrRow_step h1
        · cases h
    · cases h
  | clearS z x =>
    simp only [aexec, Option.map_eq_some_iff, Prod.mk.injEq] at h
    obtain ⟨A1, h1, _, rfl⟩ := h
    unfold aclear at h1
    split at h1
    · cases h1; exact .same
    · split at h1
      · cases h1; exact .same
      · exact wrRow_step h1
    · cases h1
  | delete kk m k =>
    simp only [aexec, Option.map_eq_some_iff, Prod.mk.injEq] at h
    obtain ⟨A1, h1, _, rfl⟩ := h
    unfold adelete at h1
    split at h1
    · rename_i hmo
      split at h1
      · split at h1
        · cases h1; exact .set _ _ (mapOf_ne hmo)
        · cases h1; exact .same
      · cases h1
    · cases h1
  | min xs => exact hm1 h
  | call f xs => simp [aexec] at h
  | callV f xs => simp [aexec] at h
end Go.Abs
