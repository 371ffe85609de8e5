/- Code and calls: what the abstract machine comes to, the model comes to. -/
import Derived.Test.YtiimkdijiddjcaaDoorAbsX
namespace Go.Abs
open Go

structure StR (n : Nat) (μ : Mu) (fr : Fr) (a : Act) : Prop where
  siz : a.tmps.size = n
  df : a.defers = []
  fr : ∀ t, t < n → VR μ (lget fr t) (a.tmps.getD t undef)

section
variable {P : Program} {B0 : Nat} {μ μ' : Mu} {call : Call} {n : Nat}

theorem StR.mono {fr : Fr} {a : Act} (h : StR n μ fr a) (hle : μ.le μ') : StR n μ' fr a := ⟨h.siz, h.df, fun t ht => (h.fr t ht).mono hle⟩
theorem StR.put {fr : Fr} {a : Act} (h : StR n μ fr a) (hle : μ.le μ') (d : Option Nat) {v v' : Value} (hv : VR μ' v v') : StR n μ' (lputO fr d v) (a.put d v') := by
  refine ⟨(put_size _ _ _).trans h.siz, (put_defers _ _ _).trans h.df, fun t ht => ?_⟩
  rw [put_getD _ _ _ (by rw [h.siz]; exact ht)]
  cases d with
  | none => simpa [lputO] using (h.fr t ht).mono hle
  | some d =>
    simp only [lputO, lget_lput, Option.some.injEq]
    split
    · exact hv
    · exact (h.fr t ht).mono hle
theorem StR.frR {fr : Fr} {a : Act} (h : StR n μ fr a) {l : List Nat} (hl : ∀ t ∈ l, t < n) : FrR μ fr a.tmps l := fun t ht => h.fr t (hl t ht)

theorem gap_next {g g' : G} {w w' : World} {lo mid hi : Nat} (hg : ∀ id, lo ≤ id → id < hi → μ id = none) (hl : lo ≤ mid) (ho : Out B0 μ g w lo mid μ' g' w') : ∀ id, mid ≤ id → id < hi → μ' id = none := by
  intro id h1 h2
  cases hm : μ' id with
  | none => rfl
  | some i =>
    rcases ho.gap id i hm with h3 | ⟨_, h3⟩
    · rw [hg id (by omega) h2] at h3; cases h3
    · omega

theorem runSteps_step (hcall : CallOk P B0 call) : ∀ {L : List Step} {S : List AHeap} {fr fr' : Fr} {A A' : AHeap}, runSteps call L S fr A = some (fr', A') → wfA A → wfA A' ∧ A.next ≤ A'.next
  | [], S, fr, fr', A, A', h, hw => by
    simp only [runSteps, Option.some.injEq, Prod.mk.injEq] at h
    rw [← h.2]; exact ⟨hw, Nat.le_refl _⟩
  | s :: L, S, fr, fr', A, A', h, hw => by
    simp only [runSteps, cond_eq_ite] at h
    split at h
    · split at h
      · rename_i v A1 hr
        split at h
        · obtain ⟨h1, h2⟩ := stepRun_step hcall hr hw
          obtain ⟨h3, h4⟩ := runSteps_step hcall h h1
          exact ⟨h3, Nat.le_trans h2 h4⟩
        · cases h
      · cases h
    · exact runSteps_step hcall h hw

theorem list_sound (hcall : CallOk P B0 call) {ops : Array Oper} {Q : Exit → Act → World → Prop} : ∀ {l : List Oper} {ss : List Step} {S : List AHeap} {fr fr' : Fr} {A A' : AHeap} {μ : Mu} {a : Act} {w : World}, cText P ops l = some ss → (∀ s ∈ ss, ∀ t ∈ namesOf s, t < n) →
    runSteps call ss S fr A = some (fr', A') → Rep B0 μ A.get w → B0 ≤ w.heap.size → wfA A → (∀ id, A.next ≤ id → id < A'.next → μ id = none) → StR n μ fr a →
    (∀ μ' a' w', Out B0 μ A.get w A.next A'.next μ' A'.get w' → StR n μ' fr' a' → Q .normal a' w') → wpList P ops Q l a w
  | [], ss, S, fr, fr', A, A', μ, a, w, hc, _, hr, hrep, _, _, _, hst, hQ => by
    simp only [cText, Option.some.injEq] at hc
    subst hc
    simp only [runSteps, Option.some.injEq, Prod.mk.injEq] at hr
    obtain ⟨rfl, rfl⟩ := hr
    exact hQ μ a w (Out.refl hrep _ _) hst
  | o :: l, ss, S, fr, fr', A, A', μ, a, w, hc, hlt, hr, hrep, hB, hwf, hgap, hst, hQ => by
    simp only [cText, Option.bind_eq_some_iff, Option.map_eq_some_iff] at hc
    obtain ⟨s, hs, ss', hss, rfl⟩ := hc
    have hn := hlt s (by simp)
    have hdst := (cStep_spec hs).1
    unfold wpList
    rw [wanted_eq hs (fr := fr) (fun t ht => by rw [hst.siz]; exact hn t ht) (hst.frR hn)]
    simp only [runSteps, cond_eq_ite] at hr
    split at hr
    · rename_i hw
      rw [if_pos hw]
      split at hr
      · rename_i v A1 hr1
        split at hr
        · obtain ⟨hwf1, hle1⟩ := stepRun_step hcall hr1 hwf
          obtain ⟨_, hle2⟩ := runSteps_step hcall hr hwf1
          refine .inl (op_sound hcall hs hrep hB hwf (fun id h1 h2 => hgap id h1 (by omega)) (hst.frR fun t ht => hn t (by simp [namesOf, ht])) hr1 fun μ1 v1 w1 ho hv => ?_)
          rw [← hdst]
          exact list_sound hcall hss (fun s' hs' => hlt s' (by simp [hs'])) hr ho.rep (Nat.le_trans hB ho.size) hwf1 (gap_next hgap hle1 ho) (hst.put ho.ext s.dst hv) fun μ2 a2 w2 ho2 hst2 => hQ μ2 a2 w2 (ho.trans hle1 hle2 ho2) hst2
        · cases hr
      · cases hr
    · rename_i hw
      rw [if_neg hw, ← hdst]
      exact list_sound hcall hss (fun s' hs' => hlt s' (by simp [hs'])) hr hrep hB hwf hgap (hst.put (Mu.le_refl _) s.dst VR.undef_) hQ

theorem draw_sound (hP : P.follows .mixedOrders = true) (hcall : CallOk P B0 call) {ops : Array Oper} {steps : List Step} (hc : cDraw P ops = some steps) (hlt : ∀ s ∈ steps, ∀ t ∈ namesOf s, t < n) {fr fr' : Fr} {A0 A' : AHeap} (hr : runSteps call steps [A0] fr A0 = some (fr', A'))
    {a : Act} {w : World} (hrep : Rep B0 μ A0.get w) (hB : B0 ≤ w.heap.size) (hwf : wfA A0) (hgap : ∀ id, A0.next ≤ id → id < A'.next → μ id = none) (hst : StR n μ fr a) {Q : Exit → Act → World → Prop}
    (hQ : ∀ μ' a' w', Out B0 μ A0.get w A0.next A'.next μ' A'.get w' → StR n μ' fr' a' → Q .normal a' w') {id : Nat} : (Code.region id ops true).wp P Q a w := by
  simp only [cDraw, Option.bind_eq_some_iff] at hc
  obtain ⟨ss, hss, hc⟩ := hc
  split at hc
  · rename_i hok
    cases hc
    revert hr hlt
    generalize hanc : ancs ops.toList = anc at hok ⊢
    generalize hord : ordOf anc _ _ = ord at hok ⊢
    intro hlt hr
    have hsl : ss.length = ops.size := by rw [(cText_at hss).1]; simp
    have ly := Lay.of hsl hok
    have hin : ∀ i ∈ ord, i < ss.length := fun i hi => by
      obtain ⟨p, hp⟩ := List.mem_iff_getElem?.1 hi
      rw [hsl]; exact ly.lt p i hp
    obtain ⟨F, A, S, V, hch, rfl, rfl, hS, hF, hA⟩ := chain_of hr
    rw [lay_length _ _ hin] at hF hA
    have c : Cx P B0 call ops ss anc ord n F A S V := by
      refine ⟨hcall, hss, ly, hch, hwf, fun s hs t ht => ?_, hS⟩
      obtain ⟨j, hj⟩ := List.mem_iff_getElem?.1 hs
      have hjl : j < ops.size := by rw [← hsl]; exact (List.getElem?_eq_some_iff.1 hj).1
      obtain ⟨p, hp⟩ := ly.all j hjl
      have := lay_at (anc := anc) ord [] p j s hin hp hj
      exact hlt _ (List.mem_of_getElem? this) t ht
    have hD : Dof (Array.replicate ops.size false) = fun _ => false := by
      funext i
      simp only [Dof, Array.getD_eq_getD_getElem?, Array.getElem?_replicate]
      split <;> rfl
    refine wp_region_any hP ?_
    have hrep' : Rep B0 μ (A 0).get { w with drawn := w.drawn + 1 } := hrep.drew rfl
    refine any_sound c (μ0 := μ) (g0 := (A 0).get) (w0 := { w with drawn := w.drawn + 1 }) (df := []) hB (fun μ' a' w' ho h1 h2 h3 => ?_) ops.size (Array.replicate ops.size false) 0 μ (A 0).get a _ (by simp) (by unfold unl; exact Nat.le_trans (List.length_filter_le _ _) (by simp)) ?_
    · rw [hA] at ho
      rw [hF] at h3
      exact hQ μ' a' w' (ho.world rfl rfl rfl rfl) ⟨h1, h2, h3⟩
    · rw [hD]
      refine ⟨Nat.zero_le _, .inl rfl, fun q j h => by omega, fun _ _ _ _ _ => rfl, fun i h => by simp at h, fun id x => ⟨.inl, fun h => h.elim _root_.id fun ⟨_, _, _, _, h, _⟩ => by simp at h⟩, fun id i hm => ?_, Out.refl hrep' _ _, hst.siz, hst.df, fun t ht => ?_⟩
      · rcases Nat.lt_or_ge id (A 0).next with h1 | h1
        · exact .inl h1
        · rcases Nat.lt_or_ge id A'.next with h2 | h2
          · rw [hgap id h1 h2] at hm; cases hm
          · exact .inr (.inl (by rw [hA]; exact h2))
      · have e : lastV ss ord (F 0) V (fun _ => false) ord.length t = lget (F 0) t := by
          generalize ord.length = m
          induction m with
          | zero => rfl
          | succ m ih =>
            simp only [lastV, ih]
            split
            · simp
            · rfl
        rw [e]; exact hst.fr t ht
  · cases hc

theorem wp_loop_idx {c : Code} {Q : Exit → Act → World → Prop} (J : Nat → Act → World → Prop) (round : ∀ n a w, J n a w → c.wp P (Exit.then (fun a' w' => ∃ m, m < n ∧ J m a' w') Q) a w) {n : Nat} {a : Act} {w : World} (h₀ : J n a w) : (Code.loop c).wp P Q a w := by
  intro b k cs
  have key : ∀ n a w, J n a w → ∃ e a' w', Q e a' w' ∧ Arrives P (lone (b.at a (.code c :: .inLoop c :: k)) cs w) b k cs e a' w' := by
    intro n
    induction n using Nat.strongRecOn with
    | _ n ih =>
      intro a w hI
      obtain ⟨e, a₁, w₁, hq, harr⟩ := round n a w hI b (.inLoop c :: k) cs
      cases e with
      | normal =>
        obtain ⟨m, hlt, hI₁⟩ := hq
        obtain ⟨e₂, a₂, w₂, hq₂, harr₂⟩ := ih m hlt a₁ w₁ hI₁
        exact ⟨e₂, a₂, w₂, hq₂, .of_steps (Steps.trans harr (.one step_inLoop)) harr₂⟩
      | exit id => exact ⟨_, a₁, w₁, hq, .pass (x := .inLoop c) rfl (fun _ _ => .inl (by simp)) harr⟩
      | goto l => exact ⟨_, a₁, w₁, hq, .pass (x := .inLoop c) rfl (fun _ _ => .inl (by simp)) harr⟩
      | ret => exact ⟨_, a₁, w₁, hq, .pass (x := .inLoop c) rfl (fun _ _ => .inl (by simp)) harr⟩
      | panic ch => exact ⟨_, a₁, w₁, hq, .pass (x := .inLoop c) rfl (fun _ _ => .inl (by simp)) harr⟩
      | outgrown => exact ⟨_, a₁, w₁, hq, .pass (x := .inLoop c) rfl (fun _ _ => .inl (by simp)) harr⟩
  obtain ⟨e, a', w', hq, harr⟩ := key _ a w h₀
  exact ⟨e, a', w', hq, .of_steps (.one step_loop) harr⟩

/-- the code 'cur' in a scope of the code 'c' -/
def InScope (P : Program) (c cur : Code) (Q : Exit → Act → World → Prop) (a : Act) (w : World) : Prop :=
  ∀ (b : Frame) (k : List Item) (cs : List Frame), ∃ e a' w', Q e a' w' ∧ Arrives P (lone (b.at a (.code cur :: .inScope c :: k)) cs w) b k cs e a' w'
theorem wp_inScope {c : Code} {Q : Exit → Act → World → Prop} {a : Act} {w : World} (h : InScope P c c Q a w) : (Code.scope c).wp P Q a w := by
  intro b k cs
  obtain ⟨e, a', w', hq, harr⟩ := h b k cs
  exact ⟨e, a', w', hq, .of_steps (.one step_scope) harr⟩
/-- by a goto to a label of the scope: on from there -/
def Exit.inScope (P : Program) (c : Code) (Q : Exit → Act → World → Prop) : Exit → Act → World → Prop
  | .goto l, a, w => match findLabel c l with
    | some rest => InScope P c rest Q a w
    | none => Q (.goto l) a w
  | e, a, w => Q e a w
theorem inScope_of {c cur : Code} {Q : Exit → Act → World → Prop} {a : Act} {w : World} (h : cur.wp P (Exit.inScope P c Q) a w) : InScope P c cur Q a w := by
  intro b k cs
  obtain ⟨e, a₁, w₁, hq, harr⟩ := h b (.inScope c :: k) cs
  cases e with
  | normal => exact ⟨.normal, a₁, w₁, hq, Steps.trans harr (.one step_inScope)⟩
  | exit id => exact ⟨.exit id, a₁, w₁, hq, fun k' hk => harr k' (by simp [exitTo, hk])⟩
  | goto l =>
    simp only [Exit.inScope] at hq
    split at hq
    · rename_i rest hf
      have hg : gotoIn l (.inScope c :: k) = some (.code rest :: .inScope c :: k) := by simp [gotoIn, hf]
      obtain ⟨e₂, a₂, w₂, hq₂, harr₂⟩ := hq b k cs
      exact ⟨e₂, a₂, w₂, hq₂, .of_steps (harr _ hg) harr₂⟩
    · rename_i hf
      exact ⟨.goto l, a₁, w₁, hq, fun k' hk => harr k' (by simp [gotoIn, hf, hk])⟩
  | ret => exact ⟨_, a₁, w₁, hq, harr⟩
  | panic ch => exact ⟨_, a₁, w₁, hq, harr⟩
  | outgrown => exact ⟨_, a₁, w₁, hq, harr⟩

theorem cCode_find {m : Nat} : ∀ {c : Code} {ac : AC}, cCode P c = some ac → ac.lt m = true → ∀ l, match findLabel c l with
    | some rest => ∃ ar, findL ac l = some ar ∧ cCode P rest = some ar ∧ ar.lt m = true
    | none => findL ac l = none := by
  intro c
  induction c with
  | seq x y ihx ihy =>
    intro ac h hm l
    simp only [cCode, Option.bind_eq_some_iff, Option.map_eq_some_iff] at h
    obtain ⟨ax, hx, ay, hy, rfl⟩ := h
    simp only [AC.lt, Bool.and_eq_true] at hm
    have h1 := ihx hx hm.1 l
    have h2 := ihy hy hm.2 l
    simp only [findLabel]
    cases hf : findLabel x l with
    | some rest =>
      rw [hf] at h1
      obtain ⟨ar, h3, h4, h5⟩ := h1
      exact ⟨.seq ar ay, by simp [findL, h3], by simp [cCode, h4, hy], by simp [AC.lt, h5, hm.2]⟩
    | none =>
      rw [hf] at h1
      simp only [findL]
      rw [show findL ax l = none from h1]
      exact h2
  | label l' =>
    intro ac h hm l
    simp only [cCode, Option.some.injEq] at h
    subst h
    simp only [findLabel, findL, cond_eq_ite, Nat.beq_eq]
    by_cases e : l' = l
    · simp [e, cCode, AC.lt]
    · simp [e]
  | _ =>
    intro ac h hm l
    simp only [findLabel]
    simp only [cCode] at h
    first
      | (simp only [Option.some.injEq] at h; subst h; rfl)
      | (simp only [Option.map_eq_some_iff] at h; obtain ⟨_, _, rfl⟩ := h; rfl)
      | (simp only [Option.bind_eq_some_iff, Option.map_eq_some_iff] at h; obtain ⟨_, _, _, _, _, _, rfl⟩ := h; rfl)
      | (split at h <;> (simp only [Option.map_eq_some_iff] at h; obtain ⟨_, _, rfl⟩ := h; rfl))
      | (cases h; done)
end
end Go.Abs
