/- What an abstract memory says, of a part of it and beside another one. -/
import Derived.Test.YtiimkdijiddjcaaDoorAbsQ
namespace Go.Abs
open Go

section
variable {B0 : Nat} {μ μ' : Mu} {g g' g0 g0' : G} {w w' : World} {lo hi a c : Nat}

theorem wr_of_alive {o : Option AObj} (h : wrO o) : ∃ x, o = some x ∧ wrO (some x) := by
  cases o with
  | none => exact h.elim
  | some x => exact ⟨x, rfl, h⟩
theorem alive_some {o : Option AObj} (h : aliveO o) : ∃ x, o = some x := by
  cases o with
  | none => exact h.elim
  | some x => exact ⟨x, rfl⟩

theorem Rep.sub (h : Rep B0 μ g w) (hs : ∀ id o, g0 id = some o → g id = some o) : Rep B0 μ g0 w := by
  refine ⟨fun id cs sz ro opn hg => h.row _ _ _ _ _ (hs _ _ hg), fun id kk es cl hg => h.map _ _ _ _ (hs _ _ hg), fun id1 id2 i1 i2 hne h1 h2 hm1 hm2 => ?_⟩
  obtain ⟨x1, e1⟩ := alive_some (wr_alive h1)
  obtain ⟨x2, e2⟩ := alive_some h2
  refine h.sep id1 id2 i1 i2 hne ?_ ?_ hm1 hm2
  · rw [hs _ _ e1, ← e1]; exact h1
  · rw [hs _ _ e2, ← e2]; exact h2

theorem Out.sub (h : Out B0 μ g w lo hi μ' g' w') (hs : ∀ id o, g0' id = some o → g' id = some o) : Out B0 μ g w lo hi μ' g0' w' := by
  refine ⟨h.ext, h.gap, h.rep.sub hs, h.os, h.tape, h.output, h.size, h.keep, fun id i hw hm => ?_⟩
  obtain ⟨x, e⟩ := alive_some (wr_alive hw)
  exact h.own id i (by rw [hs _ _ e, ← e]; exact hw) hm

theorem Out.trans2 {μ2 : Mu} {g2 : G} {w2 : World} (h : Out B0 μ g w a c μ' g' w') (k : Out B0 μ' g' w' lo hi μ2 g2 w2) (h1 : a ≤ lo) (h2 : hi ≤ c) : Out B0 μ g w a c μ2 g2 w2 := by
  refine ⟨Mu.le_trans h.ext k.ext, ?_, k.rep, k.os.trans h.os, k.tape.trans h.tape, k.output.trans h.output, Nat.le_trans h.size k.size, ?_, ?_⟩
  · intro id i hi'
    rcases k.gap id i hi' with h3 | ⟨h3, h4⟩
    · exact h.gap id i h3
    · exact .inr ⟨by omega, by omega⟩
  · intro b hb hne
    rw [k.keep b (Nat.lt_of_lt_of_le hb h.size), h.keep b hb hne]
    intro id i hw hm he
    rcases h.own id i hw hm with h1 | ⟨id0, i0, hw0, hm0, he0⟩
    · omega
    · exact hne id0 i0 hw0 hm0 (he0.trans he)
  · intro id i hw hm
    rcases k.own id i hw hm with h1 | ⟨id1, i1, hw1, hm1, he1⟩
    · exact .inl (Nat.le_trans h.size h1)
    · rcases h.own id1 i1 hw1 hm1 with h2 | ⟨id0, i0, hw0, hm0, he0⟩
      · exact .inl (by omega)
      · exact .inr ⟨id0, i0, hw0, hm0, he0.trans he1⟩

theorem Rep.mu_alive (h : Rep B0 μ g w) {id : Nat} (ha : aliveO (g id)) : ∃ i, μ id = some i ∧ i.blk < w.heap.size := by
  obtain ⟨x, e⟩ := alive_some ha
  cases x with
  | row cs sz ro opn => obtain ⟨i, _, _, _, hr⟩ := h.row _ _ _ _ _ e; exact ⟨i, hr.mu, lt_of_heap hr.heap⟩
  | map kk es cl => obtain ⟨i, _, hr⟩ := h.map _ _ _ _ e; exact ⟨i, hr.mu, lt_of_heap hr.heap⟩
  | dead => rw [e] at ha; exact ha.elim
theorem Rep.wr_own (h : Rep B0 μ g w) {id : Nat} (ha : wrO (g id)) {i : Info} (hm : μ id = some i) : B0 ≤ i.blk := by
  obtain ⟨x, e⟩ := alive_some (wr_alive ha)
  cases x with
  | row cs sz ro opn =>
    rw [e] at ha
    cases ro with
    | true => exact ha.elim
    | false => obtain ⟨i2, _, _, _, hr⟩ := h.row _ _ _ _ _ e; have := hr.mu; rw [hm] at this; cases this; exact (hr.own rfl).1
  | map kk es cl => obtain ⟨i2, _, hr⟩ := h.map _ _ _ _ e; have := hr.mu; rw [hm] at this; cases this; exact hr.own
  | dead => rw [e] at ha; exact ha.elim
theorem Rep.ro_old (h : Rep B0 μ g w) {id : Nat} (ha : aliveO (g id)) (hn : ¬ wrO (g id)) {i : Info} (hm : μ id = some i) : i.blk < B0 := by
  obtain ⟨x, e⟩ := alive_some ha
  cases x with
  | row cs sz ro opn =>
    cases ro with
    | true => obtain ⟨i2, _, _, _, hr⟩ := h.row _ _ _ _ _ e; have := hr.mu; rw [hm] at this; cases this; exact hr.old rfl
    | false => exact absurd (by rw [e]; trivial) hn
  | map kk es cl => exact absurd (by rw [e]; trivial) hn
  | dead => rw [e] at ha; exact ha.elim

/-- what a part does, the whole does; 'X': the numbers beside it -/
theorem Out.frame (hrep : Rep B0 μ g w) (hsub : ∀ id o, g0 id = some o → g id = some o) (X : Nat → Prop) (hX : ∀ id, X id → wrO (g id) ∧ g0 id = none) (k : Out B0 μ g0 w lo hi μ' g0' w')
    (hg1 : ∀ id, X id → g' id = g id) (hg2 : ∀ id, ¬ X id → g' id = g0' id) : Out B0 μ g w lo hi μ' g' w' := by
  classical
  have hXmu : ∀ id, X id → ∃ i, μ id = some i ∧ μ' id = some i ∧ i.blk < w.heap.size ∧ B0 ≤ i.blk ∧ w'.heap[i.blk]? = w.heap[i.blk]? := by
    intro id hx
    obtain ⟨hw, h0⟩ := hX id hx
    obtain ⟨i, hm, hlt⟩ := hrep.mu_alive (wr_alive hw)
    refine ⟨i, hm, k.ext _ _ hm, hlt, hrep.wr_own hw hm, k.keep _ hlt fun id0 i0 hw0 hm0 he => ?_⟩
    obtain ⟨x0, e0⟩ := alive_some (wr_alive hw0)
    have hne : id ≠ id0 := by rintro rfl; rw [h0] at e0; cases e0
    exact hrep.sep id id0 i i0 hne hw (by rw [hsub _ _ e0, ← e0]; exact wr_alive hw0) hm hm0 he.symm
  refine ⟨k.ext, k.gap, ⟨?_, ?_, ?_⟩, k.os, k.tape, k.output, k.size, ?_, ?_⟩
  · intro id cs sz ro opn hg
    by_cases hx : X id
    · rw [hg1 id hx] at hg
      obtain ⟨i, arr, t, fz, hr⟩ := hrep.row _ _ _ _ _ hg
      obtain ⟨i2, hm, hm', _, _, hkeep⟩ := hXmu id hx
      have e := hr.mu; rw [hm] at e; cases e
      exact ⟨_, arr, t, fz, ⟨hm', hr.opn_, hr.sz_, by rw [hkeep]; exact hr.heap, hr.asz, hr.len, fun j v hj => by obtain ⟨v', h1, h2⟩ := hr.cells j v hj; exact ⟨v', h1, h2.mono k.ext⟩, hr.own, hr.old⟩⟩
    · rw [hg2 id hx] at hg; exact k.rep.row _ _ _ _ _ hg
  · intro id kk es cl hg
    by_cases hx : X id
    · rw [hg1 id hx] at hg
      obtain ⟨i, es', hr⟩ := hrep.map _ _ _ _ hg
      obtain ⟨i2, hm, hm', _, _, hkeep⟩ := hXmu id hx
      have e := hr.mu; rw [hm] at e; cases e
      exact ⟨_, es', ⟨hm', hr.own, by rw [hkeep]; exact hr.heap, hr.ents.mono fun a b h => ⟨h.1, h.2.1, h.2.2.1, h.2.2.2.mono k.ext⟩⟩⟩
    · rw [hg2 id hx] at hg; exact k.rep.map _ _ _ _ hg
  · have hXn : ∀ id1 id2 i1 i2, X id1 → ¬ X id2 → aliveO (g' id2) → μ' id1 = some i1 → μ' id2 = some i2 → i1.blk ≠ i2.blk := by
      intro id1 id2 i1 i2 hx1 hx2 ha hm1 hm2
      obtain ⟨j1, hj1, hj1', hlt, hB, _⟩ := hXmu id1 hx1
      rw [hm1] at hj1'; cases hj1'
      rw [hg2 _ hx2] at ha
      by_cases hw2 : wrO (g0' id2)
      · rcases k.own id2 i2 hw2 hm2 with h | ⟨id0, i0, hw0, hm0, he0⟩
        · omega
        · obtain ⟨x0, e0⟩ := alive_some (wr_alive hw0)
          have hne : id1 ≠ id0 := by rintro rfl; rw [(hX _ hx1).2] at e0; cases e0
          rw [← he0]
          exact hrep.sep id1 id0 i1 i0 hne (hX _ hx1).1 (by rw [hsub _ _ e0, ← e0]; exact wr_alive hw0) hj1 hm0
      · have := k.rep.ro_old ha hw2 hm2
        omega
    intro id1 id2 i1 i2 hne hw1 ha2 hm1 hm2
    by_cases hx1 : X id1
    · by_cases hx2 : X id2
      · obtain ⟨j1, hj1, hj1', _⟩ := hXmu id1 hx1
        obtain ⟨j2, hj2, hj2', _⟩ := hXmu id2 hx2
        rw [hm1] at hj1'; cases hj1'
        rw [hm2] at hj2'; cases hj2'
        exact hrep.sep id1 id2 i1 i2 hne (hX _ hx1).1 (wr_alive (hX _ hx2).1) hj1 hj2
      · exact hXn id1 id2 i1 i2 hx1 hx2 ha2 hm1 hm2
    · by_cases hx2 : X id2
      · exact fun e => hXn id2 id1 i2 i1 hx2 hx1 (wr_alive hw1) hm2 hm1 e.symm
      · rw [hg2 _ hx1] at hw1
        rw [hg2 _ hx2] at ha2
        exact k.rep.sep id1 id2 i1 i2 hne hw1 ha2 hm1 hm2
  · intro b hb hne
    refine k.keep b hb fun id i hw hm => ?_
    obtain ⟨x, e⟩ := alive_some (wr_alive hw)
    exact hne id i (by rw [hsub _ _ e, ← e]; exact hw) hm
  · intro id i hw hm
    by_cases hx : X id
    · obtain ⟨i2, hi2, hi2', _⟩ := hXmu id hx
      rw [hm] at hi2'; cases hi2'
      exact .inr ⟨id, i, (hX _ hx).1, hi2, rfl⟩
    · rw [hg2 _ hx] at hw
      rcases k.own id i hw hm with h | ⟨id0, i0, hw0, hm0, he0⟩
      · exact .inl h
      · obtain ⟨x0, e0⟩ := alive_some (wr_alive hw0)
        exact .inr ⟨id0, i0, by rw [hsub _ _ e0, ← e0]; exact hw0, hm0, he0⟩

theorem Out.world (h : Out B0 μ g w lo hi μ' g' w') {w0 : World} (hh : w.heap = w0.heap) (h1 : w.os = w0.os) (h2 : w.tape = w0.tape) (h3 : w.output = w0.output) : Out B0 μ g w0 lo hi μ' g' w' :=
  ⟨h.ext, h.gap, h.rep, h.os.trans h1, h.tape.trans h2, h.output.trans h3, by rw [← hh]; exact h.size, fun b hb hn => by rw [← hh]; exact h.keep b (by rw [hh]; exact hb) hn, fun id i hw hm => by rw [← hh]; exact h.own id i hw hm⟩
end

/- ## calls of Go functions, and one operation in a list -/
section
variable {P : Program} {B0 : Nat}

/-- what is known of a way to run calls -/
structure CallOk (P : Program) (B0 : Nat) (call : Call) : Prop where
  sim : ∀ f args A v A', call f args A = some (v, A') → ∀ (μ : Mu) (w : World) (args' : List Value), Rep B0 μ A.get w → B0 ≤ w.heap.size → wfA A → (∀ id, A.next ≤ id → id < A'.next → μ id = none) → All2 (VR μ) args args' →
    Calls P f args'.toArray w fun e w' => ∃ μ' v', e = .returned v' ∧ Out B0 μ A.get w A.next A'.next μ' A'.get w' ∧ VR μ' v v'
  fn : ∀ f args A v A', call f args A = some (v, A') → ∃ fn, P.funcs[f]? = some fn ∧ fn.body.isSome = true ∧ (fn.name == "runtime.NumGoroutine") = false
  step : ∀ f args A v A', call f args A = some (v, A') → wfA A → wfA A' ∧ A.next ≤ A'.next

theorem stepRun_step {call : Call} (hcall : CallOk P B0 call) {s : Step} {fr : Fr} {A A' : AHeap} {v : Value} (h : stepRun call s fr A = some (v, A')) (hw : wfA A) : wfA A' ∧ A.next ≤ A'.next := by
  unfold stepRun at h
  split at h
  · exact hcall.step _ _ _ _ _ h hw
  · split at h
    · split at h
      · exact hcall.step _ _ _ _ _ h hw
      · cases h
    · cases h
  · exact (aexec_step h).wf hw

theorem run_callFunc {f : FuncId} {fn : Func} {args : Array Value} {w : World} (hf : P.funcs[f]? = some fn) (hb : fn.body.isSome = true) (hn : (fn.name == "runtime.NumGoroutine") = false) : (callFunc f args).run P w = .ok (.enter f args) w := by
  have hb' : fn.body.isNone = false := by cases h : fn.body <;> simp_all
  simp only [callFunc, Sem.run_bind, run_program, Result.andThen_ok, hf, hn, hb', Bool.false_eq_true, if_false, Sem.run_pure]

/-- one operation that is wanted -/
theorem op_sound {call : Call} (hcall : CallOk P B0 call) {o : Oper} {ops : Array Oper} {s : Step} (hs : cStep P ops o = some s) {μ : Mu} {A A' : AHeap} {fr : Fr} {a : Act} {w : World} {v : Value} (hrep : Rep B0 μ A.get w) (hB : B0 ≤ w.heap.size) (hwf : wfA A)
    (hgap : ∀ id, A.next ≤ id → id < A'.next → μ id = none) (hfr : FrR μ fr a.tmps s.op.slots) (hx : stepRun call s fr A = some (v, A')) {K : Act → World → Prop} {Q : Exit → Act → World → Prop}
    (hK : ∀ μ' v' w', Out B0 μ A.get w A.next A'.next μ' A'.get w' → VR μ' v v' → K (a.put o.dst v') w') : o.wp P a w K Q := by
  simp only [cStep, Option.bind_eq_some_iff] at hs
  obtain ⟨ao, hc, hs⟩ := hs
  split at hs
  · rename_i hcl
    simp only [Option.map_eq_some_iff] at hs
    obtain ⟨g, hg, rfl⟩ := hs
    unfold Oper.wp
    have hcallG : ∀ (f : FuncId) (args : List Value) (args' : List Value), (execOp a.eval o).run P w = (callFunc f args'.toArray).run P w → call f args A = some (v, A') → All2 (VR μ) args args' → o.upon P a K Q ((execOp a.eval o).run P w) := by
      intro f args args' hrun hx hr
      obtain ⟨fn, hf, hb, hn⟩ := hcall.fn _ _ _ _ _ hx
      rw [hrun, run_callFunc hf hb hn, Oper.upon_enter]
      refine (hcall.sim _ _ _ _ _ hx μ w args' hrep hB hwf hgap hr).mono ?_
      rintro e w' ⟨μ', v', rfl, ho, hv⟩
      exact hK μ' v' w' ho hv
    cases hgc : goCall o.op with
    | false =>
      rw [hgc] at hcl
      have hx' : aexec ao fr A = some (v, A') := by
        unfold stepRun at hx
        cases ao <;> first | exact hx | (simp [AOp.isCall] at hcl)
      obtain ⟨μ', v', w', nx, hrun, hnx, hout, hv⟩ := aexec_sound hrep hB hgap o hc hfr hx'
      rw [hrun]
      rcases hnx with rfl | ⟨rfl, rfl⟩
      · exact hK μ' v' w' hout hv
      · exact hK μ' undef w' hout hv
    | true =>
      obtain ⟨dst, op, ty, pos, af, gd⟩ := o
      cases op with
      | call c =>
        obtain ⟨callee, cargs, ts⟩ := c
        cases callee with
        | value cf =>
          cases cf with
          | func f' =>
            simp only [comp, Option.map_eq_some_iff] at hc
            obtain ⟨xs, hxs, rfl⟩ := hc
            have hr := opds_rel (a := a) hxs hfr
            refine hcallG f' _ _ ?_ hx hr
            simp only [execOp, resolve, Act.eval, Deferred.ofValue, Sem.run_bind, Sem.run_pure, Result.andThen_ok, invoke]
            congr 2
            apply Array.ext'
            simp
          | tmp t =>
            simp only [comp, Option.map_eq_some_iff] at hc
            obtain ⟨xs, hxs, rfl⟩ := hc
            have hr := opds_rel (a := a) hxs hfr.right
            have hf0 := hfr.left t (by simp [Opd.slots])
            simp only [stepRun] at hx
            split at hx
            · rename_i g' first captured he
              split at hx
              · rename_i h0
                have hv := hf0
                simp only [Opd.ev] at he
                rw [he] at hv
                obtain ⟨g2, cs', hg2, _, e, hcap⟩ := hv.func
                cases hg2
                refine hcallG g' _ (cargs.toList.map a.eval ++ cs') ?_ hx (hr.append (hcap.mono fun _ _ h => .sr h.sr))
                have e' : a.eval (.tmp t) = .func (.func g') #[] cs'.toArray := e
                simp only [execOp, resolve, e', Deferred.ofValue, Sem.run_bind, Sem.run_pure, Result.andThen_ok, invoke]
                congr 2
                apply Array.ext'
                simp
              · cases hx
            · cases hx
          | const v => simp [comp] at hc
          | global g => simp [comp] at hc
        | invoke r m => simp [goCall] at hgc
        | builtin b => simp [goCall] at hgc
      | _ => simp [goCall] at hgc
  · cases hs
end
end Go.Abs
