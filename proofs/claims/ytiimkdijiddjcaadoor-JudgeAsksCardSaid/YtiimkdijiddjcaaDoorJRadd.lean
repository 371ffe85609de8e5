/- The document's judge on the abstract machine: one act. -/
import Derived.Test.YtiimkdijiddjcaaDoorJRans
import Derived.Test.YtiimkdijiddjcaaDoorJRset
import Derived.Test.YtiimkdijiddjcaaDoorJRpub
import Derived.Test.YtiimkdijiddjcaaDoorJRdel
set_option linter.unusedSimpArgs false
namespace Go.Proofs.YtiimkdijiddjcaaDoor
set_option linter.unusedSimpArgs false
set_option linter.unusedVariables false
set_option linter.unusedSectionVars false
set_option linter.defProp false
open Go Go.Abs JP

/-- what a call leaves of the record: r, what it is to be behind it -/
def JPost (j : Nat) (vw vm vt : Value) (r : Option St) (A : AHeap) (v : Value) (A' : AHeap) : Prop :=
  v = bv r.isSome ∧ Keep ([j] ++ (rowL vw ++ (rowL vm ++ rowL vt))) A A' ∧ ∀ s', r = some s' → ∃ vw' vm' vt', JR j vw' vm' vt' s' A' ∧ ∀ x ∈ rowL vw' ++ (rowL vm' ++ rowL vt'), x ∈ rowL vw ++ (rowL vm ++ rowL vt) ∨ A.next ≤ x
theorem JPost.back {j : Nat} {vw vm vt : Value} {r : Option St} {A : AHeap} {x : AObj} {v : Value} {A' : AHeap} (h : JPost j vw vm vt r (A.new x) v A') : JPost j vw vm vt r A v A' := by
  obtain ⟨h1, h2, h3⟩ := h
  refine ⟨h1, (Keep.new (own := [j] ++ (rowL vw ++ (rowL vm ++ rowL vt))) A x).trans h2 (fun _ _ h => h), fun s' hs => ?_⟩
  obtain ⟨vw', vm', vt', hj, hr⟩ := h3 s' hs
  exact ⟨vw', vm', vt', hj, fun x hx => (hr x hx).imp_right fun h => by rw [AHeap.new_next] at h; omega⟩

section
variable {j : Nat} {vw vm vt v : Value} {r : Option St} {A A' : AHeap}
theorem JPost.of_pub (h : v = bv r.isSome ∧ Keep ([j] ++ (rowL vw ++ rowL vm)) A A' ∧ ∀ s', r = some s' → ∃ vw' vm', JR j vw' vm' vt s' A' ∧ (∀ r ∈ rowL vw' ++ rowL vm', r ∈ rowL vm ∨ A.next ≤ r)) : JPost j vw vm vt r A v A' := by
  refine ⟨h.1, h.2.1.mono (fun id _ h => by simp only [List.mem_append] at h ⊢; rcases h with h | h | h <;> simp [h]), fun s' hs => ?_⟩
  obtain ⟨vw', vm', h4, h5⟩ := h.2.2 s' hs
  refine ⟨vw', vm', vt, h4, fun x hx => ?_⟩
  simp only [List.mem_append] at hx h5 ⊢
  rcases hx with hx | hx | hx
  · rcases h5 x (.inl hx) with h | h <;> simp [h]
  · rcases h5 x (.inr hx) with h | h <;> simp [h]
  · simp [hx]
theorem JPost.of_ans (h : v = bv r.isSome ∧ Keep (rowL vw) A A' ∧ ∀ s', r = some s' → JR j vw vm vt s' A') : JPost j vw vm vt r A v A' :=
  ⟨h.1, h.2.1.mono (fun id _ h => by simp [h]), fun s' hs => ⟨vw, vm, vt, h.2.2 s' hs, fun x hx => .inl hx⟩⟩
theorem JPost.of_set (h : v = bv r.isSome ∧ Keep (rowL vm ++ rowL vt) A A' ∧ ∀ s', r = some s' → JR j vw vm vt s' A') : JPost j vw vm vt r A v A' :=
  ⟨h.1, h.2.1.mono (fun id _ h => by simp only [List.mem_append] at h ⊢; rcases h with h | h <;> simp [h]), fun s' hs => ⟨vw, vm, vt, h.2.2 s' hs, fun x hx => .inl hx⟩⟩
theorem JPost.of_del (h : v = bv r.isSome ∧ Keep ([j] ++ (rowL vm ++ rowL vt)) A A' ∧ ∀ s', r = some s' → ∃ vt', JR j vw vm vt' s' A' ∧ (∀ r ∈ rowL vt', A.next ≤ r)) : JPost j vw vm vt r A v A' := by
  refine ⟨h.1, h.2.1.mono (fun id _ h => by simp only [List.mem_append] at h ⊢; rcases h with h | h | h <;> simp [h]), fun s' hs => ?_⟩
  obtain ⟨vt', h4, h5⟩ := h.2.2 s' hs
  refine ⟨vw, vm, vt', h4, fun x hx => ?_⟩
  simp only [List.mem_append] at hx ⊢
  rcases hx with hx | hx | hx
  · simp [hx]
  · simp [hx]
  · exact .inr (h5 x hx)
end

set_option maxRecDepth 10000 in
set_option maxHeartbeats 4000000 in
theorem add_spec {j : Nat} {vw vm vt : Value} {s : St} {a : JP.Act} {A : AHeap} (hj : JR j vw vm vt s A) (hs : Small s) (hbd : a.body.size ≤ 1000000) :
    EvF AQ EQ 22 [pv j, .agg (actV a).toArray] A (JPost j vw vm vt (addS s a) A) := by
  refine rf_body (fn := Code.a22) rfl ?_
  have hj1 := hj.keep (Keep.new (own := []) A (.row (actV a) 14 false false)) (by simp)
  have hr14 : rdRow (A.new (.row (actV a) 14 false false)) A.next 0 14 = some (actV a) := rdRow_all AHeap.new_get rfl
  have hbad : (a.client < 0 ∨ 4 ≤ a.client ∨ a.queue < 0 ∨ 4 ≤ a.queue) → addS s a = none := fun h => by rw [addS, if_pos h]
  simp only [Code.a22, sxs, sx_label, vxs, AX.then_, AX.inBlock, aexec, Opd.ev, lputO, reduceIte, Nat.reduceEqDiff, addA, Nat.reduceAdd, Option.some.injEq, exists_eq_left', Option.map_some, Option.bind_some, cond_false, cond_true, chkOk, wantedS, goInt, aidx, List.map_cons, List.map_nil, Int.reduceEq, Int.reduceLT, Int.reduceLE, Int.reduceAdd, Int.reduceSub, BEq.rfl, eq_self, reduceCtorEq, hxs, evParts, repL, List.append_nil, notT, vcells, List.cons_append, List.nil_append, List.getElem?_cons_succ, List.getElem?_cons_zero, List.length_cons, List.length_nil, ne_eq, aresults, aresult, tupOf]
  rcases Classical.em (a.client < 0) with c1 | c1
  · simp only [sxs, sx_label, vxs, AX.then_, AX.inBlock, aexec, Opd.ev, lputO, reduceIte, Nat.reduceEqDiff, addA, Nat.reduceAdd, Option.some.injEq, exists_eq_left', Option.map_some, Option.bind_some, cond_false, cond_true, chkOk, wantedS, goInt, aidx, List.map_cons, List.map_nil, Int.reduceEq, Int.reduceLT, Int.reduceLE, Int.reduceAdd, Int.reduceSub, BEq.rfl, eq_self, reduceCtorEq, hxs, evParts, repL, List.append_nil, notT, vcells, List.cons_append, List.nil_append, List.getElem?_cons_succ, List.getElem?_cons_zero, List.length_cons, List.length_nil, ne_eq, aresults, aresult, tupOf, c1, hbad (.inl c1)]
    exact ⟨.inr trivial, _, _, rfl, rfl, rfl, Keep.new _ _, fun s' h => by cases h⟩
  simp only [sxs, sx_label, vxs, AX.then_, AX.inBlock, aexec, Opd.ev, lputO, reduceIte, Nat.reduceEqDiff, addA, Nat.reduceAdd, Option.some.injEq, exists_eq_left', Option.map_some, Option.bind_some, cond_false, cond_true, chkOk, wantedS, goInt, aidx, List.map_cons, List.map_nil, Int.reduceEq, Int.reduceLT, Int.reduceLE, Int.reduceAdd, Int.reduceSub, BEq.rfl, eq_self, reduceCtorEq, hxs, evParts, repL, List.append_nil, notT, vcells, List.cons_append, List.nil_append, List.getElem?_cons_succ, List.getElem?_cons_zero, List.length_cons, List.length_nil, ne_eq, aresults, aresult, tupOf, c1]
  rcases Classical.em (4 ≤ a.client) with c2 | c2
  · simp only [sxs, sx_label, vxs, AX.then_, AX.inBlock, aexec, Opd.ev, lputO, reduceIte, Nat.reduceEqDiff, addA, Nat.reduceAdd, Option.some.injEq, exists_eq_left', Option.map_some, Option.bind_some, cond_false, cond_true, chkOk, wantedS, goInt, aidx, List.map_cons, List.map_nil, Int.reduceEq, Int.reduceLT, Int.reduceLE, Int.reduceAdd, Int.reduceSub, BEq.rfl, eq_self, reduceCtorEq, hxs, evParts, repL, List.append_nil, notT, vcells, List.cons_append, List.nil_append, List.getElem?_cons_succ, List.getElem?_cons_zero, List.length_cons, List.length_nil, ne_eq, aresults, aresult, tupOf, c2, hbad (.inr (.inl c2))]
    exact ⟨.inr trivial, _, _, rfl, rfl, rfl, Keep.new _ _, fun s' h => by cases h⟩
  simp only [sxs, sx_label, vxs, AX.then_, AX.inBlock, aexec, Opd.ev, lputO, reduceIte, Nat.reduceEqDiff, addA, Nat.reduceAdd, Option.some.injEq, exists_eq_left', Option.map_some, Option.bind_some, cond_false, cond_true, chkOk, wantedS, goInt, aidx, List.map_cons, List.map_nil, Int.reduceEq, Int.reduceLT, Int.reduceLE, Int.reduceAdd, Int.reduceSub, BEq.rfl, eq_self, reduceCtorEq, hxs, evParts, repL, List.append_nil, notT, vcells, List.cons_append, List.nil_append, List.getElem?_cons_succ, List.getElem?_cons_zero, List.length_cons, List.length_nil, ne_eq, aresults, aresult, tupOf, c2]
  rcases Classical.em (a.queue < 0) with c3 | c3
  · simp only [sxs, sx_label, vxs, AX.then_, AX.inBlock, aexec, Opd.ev, lputO, reduceIte, Nat.reduceEqDiff, addA, Nat.reduceAdd, Option.some.injEq, exists_eq_left', Option.map_some, Option.bind_some, cond_false, cond_true, chkOk, wantedS, goInt, aidx, List.map_cons, List.map_nil, Int.reduceEq, Int.reduceLT, Int.reduceLE, Int.reduceAdd, Int.reduceSub, BEq.rfl, eq_self, reduceCtorEq, hxs, evParts, repL, List.append_nil, notT, vcells, List.cons_append, List.nil_append, List.getElem?_cons_succ, List.getElem?_cons_zero, List.length_cons, List.length_nil, ne_eq, aresults, aresult, tupOf, c3, hbad (.inr (.inr (.inl c3)))]
    exact ⟨.inr trivial, _, _, rfl, rfl, rfl, Keep.new _ _, fun s' h => by cases h⟩
  simp only [sxs, sx_label, vxs, AX.then_, AX.inBlock, aexec, Opd.ev, lputO, reduceIte, Nat.reduceEqDiff, addA, Nat.reduceAdd, Option.some.injEq, exists_eq_left', Option.map_some, Option.bind_some, cond_false, cond_true, chkOk, wantedS, goInt, aidx, List.map_cons, List.map_nil, Int.reduceEq, Int.reduceLT, Int.reduceLE, Int.reduceAdd, Int.reduceSub, BEq.rfl, eq_self, reduceCtorEq, hxs, evParts, repL, List.append_nil, notT, vcells, List.cons_append, List.nil_append, List.getElem?_cons_succ, List.getElem?_cons_zero, List.length_cons, List.length_nil, ne_eq, aresults, aresult, tupOf, c3]
  rcases Classical.em (4 ≤ a.queue) with c4 | c4
  · simp only [sxs, sx_label, vxs, AX.then_, AX.inBlock, aexec, Opd.ev, lputO, reduceIte, Nat.reduceEqDiff, addA, Nat.reduceAdd, Option.some.injEq, exists_eq_left', Option.map_some, Option.bind_some, cond_false, cond_true, chkOk, wantedS, goInt, aidx, List.map_cons, List.map_nil, Int.reduceEq, Int.reduceLT, Int.reduceLE, Int.reduceAdd, Int.reduceSub, BEq.rfl, eq_self, reduceCtorEq, hxs, evParts, repL, List.append_nil, notT, vcells, List.cons_append, List.nil_append, List.getElem?_cons_succ, List.getElem?_cons_zero, List.length_cons, List.length_nil, ne_eq, aresults, aresult, tupOf, c4, hbad (.inr (.inr (.inr c4)))]
    exact ⟨.inr trivial, _, _, rfl, rfl, rfl, Keep.new _ _, fun s' h => by cases h⟩
  simp only [sxs, sx_label, vxs, AX.then_, AX.inBlock, aexec, Opd.ev, lputO, reduceIte, Nat.reduceEqDiff, addA, Nat.reduceAdd, Option.some.injEq, exists_eq_left', Option.map_some, Option.bind_some, cond_false, cond_true, chkOk, wantedS, goInt, aidx, List.map_cons, List.map_nil, Int.reduceEq, Int.reduceLT, Int.reduceLE, Int.reduceAdd, Int.reduceSub, BEq.rfl, eq_self, reduceCtorEq, hxs, evParts, repL, List.append_nil, notT, vcells, List.cons_append, List.nil_append, List.getElem?_cons_succ, List.getElem?_cons_zero, List.length_cons, List.length_nil, ne_eq, aresults, aresult, tupOf, c4]
  have hok : ¬ (a.client < 0 ∨ 4 ≤ a.client ∨ a.queue < 0 ∨ 4 ≤ a.queue) := by omega
  have hadd : addS s a = if a.kind = 1 then pubS s a
    else if a.kind = 2 then ansS s a 1
    else if a.kind = 3 then ansS s a 2
    else if a.kind = 4 then delS s a
    else if a.kind = 5 then setS s a 0 1
    else if a.kind = 7 ∨ a.kind = 8 then setS s a 0 2
    else if a.kind = 6 then setS s a 1 3
    else if a.kind = 9 then some s
    else none := by rw [addS, if_neg hok]
  rcases Classical.em (a.kind = 1) with k1 | k1
  · simp only [sxs, sx_label, vxs, AX.then_, AX.inBlock, aexec, Opd.ev, lputO, reduceIte, Nat.reduceEqDiff, addA, Nat.reduceAdd, Option.some.injEq, exists_eq_left', Option.map_some, Option.bind_some, cond_false, cond_true, chkOk, wantedS, goInt, aidx, List.map_cons, List.map_nil, Int.reduceEq, Int.reduceLT, Int.reduceLE, Int.reduceAdd, Int.reduceSub, BEq.rfl, eq_self, reduceCtorEq, hxs, evParts, repL, List.append_nil, notT, vcells, List.cons_append, List.nil_append, List.getElem?_cons_succ, List.getElem?_cons_zero, List.length_cons, List.length_nil, ne_eq, aresults, aresult, tupOf, k1, hr14]
    refine RF_use (publish_spec hj1 hs hbd) ?_
    intro v A' h
    simp only [sxs, sx_label, vxs, AX.then_, AX.inBlock, aexec, Opd.ev, lputO, reduceIte, Nat.reduceEqDiff, addA, Nat.reduceAdd, Option.some.injEq, exists_eq_left', Option.map_some, Option.bind_some, cond_false, cond_true, chkOk, wantedS, goInt, aidx, List.map_cons, List.map_nil, Int.reduceEq, Int.reduceLT, Int.reduceLE, Int.reduceAdd, Int.reduceSub, BEq.rfl, eq_self, reduceCtorEq, hxs, evParts, repL, List.append_nil, notT, vcells, List.cons_append, List.nil_append, List.getElem?_cons_succ, List.getElem?_cons_zero, List.length_cons, List.length_nil, ne_eq, aresults, aresult, tupOf]
    have hr : addS s a = pubS s a := by rw [hadd, if_pos k1]
    exact ⟨.inr trivial, _, _, rfl, rfl, hr ▸ (JPost.of_pub h).back⟩
  simp only [sxs, sx_label, vxs, AX.then_, AX.inBlock, aexec, Opd.ev, lputO, reduceIte, Nat.reduceEqDiff, addA, Nat.reduceAdd, Option.some.injEq, exists_eq_left', Option.map_some, Option.bind_some, cond_false, cond_true, chkOk, wantedS, goInt, aidx, List.map_cons, List.map_nil, Int.reduceEq, Int.reduceLT, Int.reduceLE, Int.reduceAdd, Int.reduceSub, BEq.rfl, eq_self, reduceCtorEq, hxs, evParts, repL, List.append_nil, notT, vcells, List.cons_append, List.nil_append, List.getElem?_cons_succ, List.getElem?_cons_zero, List.length_cons, List.length_nil, ne_eq, aresults, aresult, tupOf, k1]
  rcases Classical.em (a.kind = 2) with k2 | k2
  · simp only [sxs, sx_label, vxs, AX.then_, AX.inBlock, aexec, Opd.ev, lputO, reduceIte, Nat.reduceEqDiff, addA, Nat.reduceAdd, Option.some.injEq, exists_eq_left', Option.map_some, Option.bind_some, cond_false, cond_true, chkOk, wantedS, goInt, aidx, List.map_cons, List.map_nil, Int.reduceEq, Int.reduceLT, Int.reduceLE, Int.reduceAdd, Int.reduceSub, BEq.rfl, eq_self, reduceCtorEq, hxs, evParts, repL, List.append_nil, notT, vcells, List.cons_append, List.nil_append, List.getElem?_cons_succ, List.getElem?_cons_zero, List.length_cons, List.length_nil, ne_eq, aresults, aresult, tupOf, k2, hr14]
    refine RF_use (answer_spec (st := 1) hj1 hs) ?_
    intro v A' h
    simp only [sxs, sx_label, vxs, AX.then_, AX.inBlock, aexec, Opd.ev, lputO, reduceIte, Nat.reduceEqDiff, addA, Nat.reduceAdd, Option.some.injEq, exists_eq_left', Option.map_some, Option.bind_some, cond_false, cond_true, chkOk, wantedS, goInt, aidx, List.map_cons, List.map_nil, Int.reduceEq, Int.reduceLT, Int.reduceLE, Int.reduceAdd, Int.reduceSub, BEq.rfl, eq_self, reduceCtorEq, hxs, evParts, repL, List.append_nil, notT, vcells, List.cons_append, List.nil_append, List.getElem?_cons_succ, List.getElem?_cons_zero, List.length_cons, List.length_nil, ne_eq, aresults, aresult, tupOf]
    have hr : addS s a = ansS s a 1 := by rw [hadd, if_neg k1, if_pos k2]
    exact ⟨.inr trivial, _, _, rfl, rfl, hr ▸ (JPost.of_ans h).back⟩
  simp only [sxs, sx_label, vxs, AX.then_, AX.inBlock, aexec, Opd.ev, lputO, reduceIte, Nat.reduceEqDiff, addA, Nat.reduceAdd, Option.some.injEq, exists_eq_left', Option.map_some, Option.bind_some, cond_false, cond_true, chkOk, wantedS, goInt, aidx, List.map_cons, List.map_nil, Int.reduceEq, Int.reduceLT, Int.reduceLE, Int.reduceAdd, Int.reduceSub, BEq.rfl, eq_self, reduceCtorEq, hxs, evParts, repL, List.append_nil, notT, vcells, List.cons_append, List.nil_append, List.getElem?_cons_succ, List.getElem?_cons_zero, List.length_cons, List.length_nil, ne_eq, aresults, aresult, tupOf, k2]
  rcases Classical.em (a.kind = 3) with k3 | k3
  · simp only [sxs, sx_label, vxs, AX.then_, AX.inBlock, aexec, Opd.ev, lputO, reduceIte, Nat.reduceEqDiff, addA, Nat.reduceAdd, Option.some.injEq, exists_eq_left', Option.map_some, Option.bind_some, cond_false, cond_true, chkOk, wantedS, goInt, aidx, List.map_cons, List.map_nil, Int.reduceEq, Int.reduceLT, Int.reduceLE, Int.reduceAdd, Int.reduceSub, BEq.rfl, eq_self, reduceCtorEq, hxs, evParts, repL, List.append_nil, notT, vcells, List.cons_append, List.nil_append, List.getElem?_cons_succ, List.getElem?_cons_zero, List.length_cons, List.length_nil, ne_eq, aresults, aresult, tupOf, k3, hr14]
    refine RF_use (answer_spec (st := 2) hj1 hs) ?_
    intro v A' h
    simp only [sxs, sx_label, vxs, AX.then_, AX.inBlock, aexec, Opd.ev, lputO, reduceIte, Nat.reduceEqDiff, addA, Nat.reduceAdd, Option.some.injEq, exists_eq_left', Option.map_some, Option.bind_some, cond_false, cond_true, chkOk, wantedS, goInt, aidx, List.map_cons, List.map_nil, Int.reduceEq, Int.reduceLT, Int.reduceLE, Int.reduceAdd, Int.reduceSub, BEq.rfl, eq_self, reduceCtorEq, hxs, evParts, repL, List.append_nil, notT, vcells, List.cons_append, List.nil_append, List.getElem?_cons_succ, List.getElem?_cons_zero, List.length_cons, List.length_nil, ne_eq, aresults, aresult, tupOf]
    have hr : addS s a = ansS s a 2 := by rw [hadd, if_neg k1, if_neg k2, if_pos k3]
    exact ⟨.inr trivial, _, _, rfl, rfl, hr ▸ (JPost.of_ans h).back⟩
  simp only [sxs, sx_label, vxs, AX.then_, AX.inBlock, aexec, Opd.ev, lputO, reduceIte, Nat.reduceEqDiff, addA, Nat.reduceAdd, Option.some.injEq, exists_eq_left', Option.map_some, Option.bind_some, cond_false, cond_true, chkOk, wantedS, goInt, aidx, List.map_cons, List.map_nil, Int.reduceEq, Int.reduceLT, Int.reduceLE, Int.reduceAdd, Int.reduceSub, BEq.rfl, eq_self, reduceCtorEq, hxs, evParts, repL, List.append_nil, notT, vcells, List.cons_append, List.nil_append, List.getElem?_cons_succ, List.getElem?_cons_zero, List.length_cons, List.length_nil, ne_eq, aresults, aresult, tupOf, k3]
  rcases Classical.em (a.kind = 4) with k4 | k4
  · simp only [sxs, sx_label, vxs, AX.then_, AX.inBlock, aexec, Opd.ev, lputO, reduceIte, Nat.reduceEqDiff, addA, Nat.reduceAdd, Option.some.injEq, exists_eq_left', Option.map_some, Option.bind_some, cond_false, cond_true, chkOk, wantedS, goInt, aidx, List.map_cons, List.map_nil, Int.reduceEq, Int.reduceLT, Int.reduceLE, Int.reduceAdd, Int.reduceSub, BEq.rfl, eq_self, reduceCtorEq, hxs, evParts, repL, List.append_nil, notT, vcells, List.cons_append, List.nil_append, List.getElem?_cons_succ, List.getElem?_cons_zero, List.length_cons, List.length_nil, ne_eq, aresults, aresult, tupOf, k4, hr14]
    refine RF_use (deliver_spec hj1 hs ⟨by omega, by omega⟩) ?_
    intro v A' h
    simp only [sxs, sx_label, vxs, AX.then_, AX.inBlock, aexec, Opd.ev, lputO, reduceIte, Nat.reduceEqDiff, addA, Nat.reduceAdd, Option.some.injEq, exists_eq_left', Option.map_some, Option.bind_some, cond_false, cond_true, chkOk, wantedS, goInt, aidx, List.map_cons, List.map_nil, Int.reduceEq, Int.reduceLT, Int.reduceLE, Int.reduceAdd, Int.reduceSub, BEq.rfl, eq_self, reduceCtorEq, hxs, evParts, repL, List.append_nil, notT, vcells, List.cons_append, List.nil_append, List.getElem?_cons_succ, List.getElem?_cons_zero, List.length_cons, List.length_nil, ne_eq, aresults, aresult, tupOf]
    have hr : addS s a = delS s a := by rw [hadd, if_neg k1, if_neg k2, if_neg k3, if_pos k4]
    exact ⟨.inr trivial, _, _, rfl, rfl, hr ▸ (JPost.of_del h).back⟩
  simp only [sxs, sx_label, vxs, AX.then_, AX.inBlock, aexec, Opd.ev, lputO, reduceIte, Nat.reduceEqDiff, addA, Nat.reduceAdd, Option.some.injEq, exists_eq_left', Option.map_some, Option.bind_some, cond_false, cond_true, chkOk, wantedS, goInt, aidx, List.map_cons, List.map_nil, Int.reduceEq, Int.reduceLT, Int.reduceLE, Int.reduceAdd, Int.reduceSub, BEq.rfl, eq_self, reduceCtorEq, hxs, evParts, repL, List.append_nil, notT, vcells, List.cons_append, List.nil_append, List.getElem?_cons_succ, List.getElem?_cons_zero, List.length_cons, List.length_nil, ne_eq, aresults, aresult, tupOf, k4]
  rcases Classical.em (a.kind = 5) with k5 | k5
  · simp only [sxs, sx_label, vxs, AX.then_, AX.inBlock, aexec, Opd.ev, lputO, reduceIte, Nat.reduceEqDiff, addA, Nat.reduceAdd, Option.some.injEq, exists_eq_left', Option.map_some, Option.bind_some, cond_false, cond_true, chkOk, wantedS, goInt, aidx, List.map_cons, List.map_nil, Int.reduceEq, Int.reduceLT, Int.reduceLE, Int.reduceAdd, Int.reduceSub, BEq.rfl, eq_self, reduceCtorEq, hxs, evParts, repL, List.append_nil, notT, vcells, List.cons_append, List.nil_append, List.getElem?_cons_succ, List.getElem?_cons_zero, List.length_cons, List.length_nil, ne_eq, aresults, aresult, tupOf, k5, hr14]
    refine RF_use (settle_spec (fr_ := 0) (to := 1) hj1 hs) ?_
    intro v A' h
    simp only [sxs, sx_label, vxs, AX.then_, AX.inBlock, aexec, Opd.ev, lputO, reduceIte, Nat.reduceEqDiff, addA, Nat.reduceAdd, Option.some.injEq, exists_eq_left', Option.map_some, Option.bind_some, cond_false, cond_true, chkOk, wantedS, goInt, aidx, List.map_cons, List.map_nil, Int.reduceEq, Int.reduceLT, Int.reduceLE, Int.reduceAdd, Int.reduceSub, BEq.rfl, eq_self, reduceCtorEq, hxs, evParts, repL, List.append_nil, notT, vcells, List.cons_append, List.nil_append, List.getElem?_cons_succ, List.getElem?_cons_zero, List.length_cons, List.length_nil, ne_eq, aresults, aresult, tupOf]
    have hr : addS s a = setS s a 0 1 := by rw [hadd, if_neg k1, if_neg k2, if_neg k3, if_neg k4, if_pos k5]
    exact ⟨.inr trivial, _, _, rfl, rfl, hr ▸ (JPost.of_set h).back⟩
  simp only [sxs, sx_label, vxs, AX.then_, AX.inBlock, aexec, Opd.ev, lputO, reduceIte, Nat.reduceEqDiff, addA, Nat.reduceAdd, Option.some.injEq, exists_eq_left', Option.map_some, Option.bind_some, cond_false, cond_true, chkOk, wantedS, goInt, aidx, List.map_cons, List.map_nil, Int.reduceEq, Int.reduceLT, Int.reduceLE, Int.reduceAdd, Int.reduceSub, BEq.rfl, eq_self, reduceCtorEq, hxs, evParts, repL, List.append_nil, notT, vcells, List.cons_append, List.nil_append, List.getElem?_cons_succ, List.getElem?_cons_zero, List.length_cons, List.length_nil, ne_eq, aresults, aresult, tupOf, k5]
  rcases Classical.em (a.kind = 7) with k7 | k7
  · simp only [sxs, sx_label, vxs, AX.then_, AX.inBlock, aexec, Opd.ev, lputO, reduceIte, Nat.reduceEqDiff, addA, Nat.reduceAdd, Option.some.injEq, exists_eq_left', Option.map_some, Option.bind_some, cond_false, cond_true, chkOk, wantedS, goInt, aidx, List.map_cons, List.map_nil, Int.reduceEq, Int.reduceLT, Int.reduceLE, Int.reduceAdd, Int.reduceSub, BEq.rfl, eq_self, reduceCtorEq, hxs, evParts, repL, List.append_nil, notT, vcells, List.cons_append, List.nil_append, List.getElem?_cons_succ, List.getElem?_cons_zero, List.length_cons, List.length_nil, ne_eq, aresults, aresult, tupOf, k7, hr14]
    refine RF_use (settle_spec (fr_ := 0) (to := 2) hj1 hs) ?_
    intro v A' h
    simp only [sxs, sx_label, vxs, AX.then_, AX.inBlock, aexec, Opd.ev, lputO, reduceIte, Nat.reduceEqDiff, addA, Nat.reduceAdd, Option.some.injEq, exists_eq_left', Option.map_some, Option.bind_some, cond_false, cond_true, chkOk, wantedS, goInt, aidx, List.map_cons, List.map_nil, Int.reduceEq, Int.reduceLT, Int.reduceLE, Int.reduceAdd, Int.reduceSub, BEq.rfl, eq_self, reduceCtorEq, hxs, evParts, repL, List.append_nil, notT, vcells, List.cons_append, List.nil_append, List.getElem?_cons_succ, List.getElem?_cons_zero, List.length_cons, List.length_nil, ne_eq, aresults, aresult, tupOf]
    have hr : addS s a = setS s a 0 2 := by rw [hadd, if_neg k1, if_neg k2, if_neg k3, if_neg k4, if_neg k5, if_pos (.inl k7)]
    exact ⟨.inr trivial, _, _, rfl, rfl, hr ▸ (JPost.of_set h).back⟩
  simp only [sxs, sx_label, vxs, AX.then_, AX.inBlock, aexec, Opd.ev, lputO, reduceIte, Nat.reduceEqDiff, addA, Nat.reduceAdd, Option.some.injEq, exists_eq_left', Option.map_some, Option.bind_some, cond_false, cond_true, chkOk, wantedS, goInt, aidx, List.map_cons, List.map_nil, Int.reduceEq, Int.reduceLT, Int.reduceLE, Int.reduceAdd, Int.reduceSub, BEq.rfl, eq_self, reduceCtorEq, hxs, evParts, repL, List.append_nil, notT, vcells, List.cons_append, List.nil_append, List.getElem?_cons_succ, List.getElem?_cons_zero, List.length_cons, List.length_nil, ne_eq, aresults, aresult, tupOf, k7]
  rcases Classical.em (a.kind = 8) with k8 | k8
  · simp only [sxs, sx_label, vxs, AX.then_, AX.inBlock, aexec, Opd.ev, lputO, reduceIte, Nat.reduceEqDiff, addA, Nat.reduceAdd, Option.some.injEq, exists_eq_left', Option.map_some, Option.bind_some, cond_false, cond_true, chkOk, wantedS, goInt, aidx, List.map_cons, List.map_nil, Int.reduceEq, Int.reduceLT, Int.reduceLE, Int.reduceAdd, Int.reduceSub, BEq.rfl, eq_self, reduceCtorEq, hxs, evParts, repL, List.append_nil, notT, vcells, List.cons_append, List.nil_append, List.getElem?_cons_succ, List.getElem?_cons_zero, List.length_cons, List.length_nil, ne_eq, aresults, aresult, tupOf, k8, hr14]
    refine RF_use (settle_spec (fr_ := 0) (to := 2) hj1 hs) ?_
    intro v A' h
    simp only [sxs, sx_label, vxs, AX.then_, AX.inBlock, aexec, Opd.ev, lputO, reduceIte, Nat.reduceEqDiff, addA, Nat.reduceAdd, Option.some.injEq, exists_eq_left', Option.map_some, Option.bind_some, cond_false, cond_true, chkOk, wantedS, goInt, aidx, List.map_cons, List.map_nil, Int.reduceEq, Int.reduceLT, Int.reduceLE, Int.reduceAdd, Int.reduceSub, BEq.rfl, eq_self, reduceCtorEq, hxs, evParts, repL, List.append_nil, notT, vcells, List.cons_append, List.nil_append, List.getElem?_cons_succ, List.getElem?_cons_zero, List.length_cons, List.length_nil, ne_eq, aresults, aresult, tupOf]
    have hr : addS s a = setS s a 0 2 := by rw [hadd, if_neg k1, if_neg k2, if_neg k3, if_neg k4, if_neg k5, if_pos (.inr k8)]
    exact ⟨.inr trivial, _, _, rfl, rfl, hr ▸ (JPost.of_set h).back⟩
  simp only [sxs, sx_label, vxs, AX.then_, AX.inBlock, aexec, Opd.ev, lputO, reduceIte, Nat.reduceEqDiff, addA, Nat.reduceAdd, Option.some.injEq, exists_eq_left', Option.map_some, Option.bind_some, cond_false, cond_true, chkOk, wantedS, goInt, aidx, List.map_cons, List.map_nil, Int.reduceEq, Int.reduceLT, Int.reduceLE, Int.reduceAdd, Int.reduceSub, BEq.rfl, eq_self, reduceCtorEq, hxs, evParts, repL, List.append_nil, notT, vcells, List.cons_append, List.nil_append, List.getElem?_cons_succ, List.getElem?_cons_zero, List.length_cons, List.length_nil, ne_eq, aresults, aresult, tupOf, k8]
  have k78 : ¬ (a.kind = 7 ∨ a.kind = 8) := by omega
  rcases Classical.em (a.kind = 6) with k6 | k6
  · simp only [sxs, sx_label, vxs, AX.then_, AX.inBlock, aexec, Opd.ev, lputO, reduceIte, Nat.reduceEqDiff, addA, Nat.reduceAdd, Option.some.injEq, exists_eq_left', Option.map_some, Option.bind_some, cond_false, cond_true, chkOk, wantedS, goInt, aidx, List.map_cons, List.map_nil, Int.reduceEq, Int.reduceLT, Int.reduceLE, Int.reduceAdd, Int.reduceSub, BEq.rfl, eq_self, reduceCtorEq, hxs, evParts, repL, List.append_nil, notT, vcells, List.cons_append, List.nil_append, List.getElem?_cons_succ, List.getElem?_cons_zero, List.length_cons, List.length_nil, ne_eq, aresults, aresult, tupOf, k6, hr14]
    refine RF_use (settle_spec (fr_ := 1) (to := 3) hj1 hs) ?_
    intro v A' h
    simp only [sxs, sx_label, vxs, AX.then_, AX.inBlock, aexec, Opd.ev, lputO, reduceIte, Nat.reduceEqDiff, addA, Nat.reduceAdd, Option.some.injEq, exists_eq_left', Option.map_some, Option.bind_some, cond_false, cond_true, chkOk, wantedS, goInt, aidx, List.map_cons, List.map_nil, Int.reduceEq, Int.reduceLT, Int.reduceLE, Int.reduceAdd, Int.reduceSub, BEq.rfl, eq_self, reduceCtorEq, hxs, evParts, repL, List.append_nil, notT, vcells, List.cons_append, List.nil_append, List.getElem?_cons_succ, List.getElem?_cons_zero, List.length_cons, List.length_nil, ne_eq, aresults, aresult, tupOf]
    have hr : addS s a = setS s a 1 3 := by rw [hadd, if_neg k1, if_neg k2, if_neg k3, if_neg k4, if_neg k5, if_neg k78, if_pos k6]
    exact ⟨.inr trivial, _, _, rfl, rfl, hr ▸ (JPost.of_set h).back⟩
  simp only [sxs, sx_label, vxs, AX.then_, AX.inBlock, aexec, Opd.ev, lputO, reduceIte, Nat.reduceEqDiff, addA, Nat.reduceAdd, Option.some.injEq, exists_eq_left', Option.map_some, Option.bind_some, cond_false, cond_true, chkOk, wantedS, goInt, aidx, List.map_cons, List.map_nil, Int.reduceEq, Int.reduceLT, Int.reduceLE, Int.reduceAdd, Int.reduceSub, BEq.rfl, eq_self, reduceCtorEq, hxs, evParts, repL, List.append_nil, notT, vcells, List.cons_append, List.nil_append, List.getElem?_cons_succ, List.getElem?_cons_zero, List.length_cons, List.length_nil, ne_eq, aresults, aresult, tupOf, k6]
  rcases Classical.em (a.kind = 9) with k9 | k9
  · simp only [sxs, sx_label, vxs, AX.then_, AX.inBlock, aexec, Opd.ev, lputO, reduceIte, Nat.reduceEqDiff, addA, Nat.reduceAdd, Option.some.injEq, exists_eq_left', Option.map_some, Option.bind_some, cond_false, cond_true, chkOk, wantedS, goInt, aidx, List.map_cons, List.map_nil, Int.reduceEq, Int.reduceLT, Int.reduceLE, Int.reduceAdd, Int.reduceSub, BEq.rfl, eq_self, reduceCtorEq, hxs, evParts, repL, List.append_nil, notT, vcells, List.cons_append, List.nil_append, List.getElem?_cons_succ, List.getElem?_cons_zero, List.length_cons, List.length_nil, ne_eq, aresults, aresult, tupOf, k9]
    have hr : addS s a = some s := by rw [hadd, if_neg k1, if_neg k2, if_neg k3, if_neg k4, if_neg k5, if_neg k78, if_neg k6, if_pos k9]
    exact ⟨.inr trivial, _, _, rfl, rfl, hr ▸ ⟨rfl, Keep.new _ _, fun s' h => by cases h; exact ⟨vw, vm, vt, hj1, fun x hx => .inl hx⟩⟩⟩
  · simp only [sxs, sx_label, vxs, AX.then_, AX.inBlock, aexec, Opd.ev, lputO, reduceIte, Nat.reduceEqDiff, addA, Nat.reduceAdd, Option.some.injEq, exists_eq_left', Option.map_some, Option.bind_some, cond_false, cond_true, chkOk, wantedS, goInt, aidx, List.map_cons, List.map_nil, Int.reduceEq, Int.reduceLT, Int.reduceLE, Int.reduceAdd, Int.reduceSub, BEq.rfl, eq_self, reduceCtorEq, hxs, evParts, repL, List.append_nil, notT, vcells, List.cons_append, List.nil_append, List.getElem?_cons_succ, List.getElem?_cons_zero, List.length_cons, List.length_nil, ne_eq, aresults, aresult, tupOf, k9]
    have hr : addS s a = none := by rw [hadd, if_neg k1, if_neg k2, if_neg k3, if_neg k4, if_neg k5, if_neg k78, if_neg k6, if_neg k9]
    exact ⟨.inr trivial, _, _, rfl, rfl, hr ▸ ⟨rfl, Keep.new _ _, fun s' h => by cases h⟩⟩
end Go.Proofs.YtiimkdijiddjcaaDoor
