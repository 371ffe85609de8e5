/- The document's judge on the abstract machine: what is said of a batch. -/
import Derived.Test.YtiimkdijiddjcaaDoorJRdef
set_option linter.unusedSimpArgs false
namespace Go.Proofs.YtiimkdijiddjcaaDoor
set_option linter.unusedSimpArgs false
set_option linter.unusedVariables false
set_option linter.unusedSectionVars false
set_option linter.defProp false
open Go Go.Abs JP

set_option maxRecDepth 10000 in
set_option maxHeartbeats 4000000 in
theorem answer_spec {j st : Nat} {vw vm vt : Value} {s : St} {a : JP.Act} {A : AHeap} (hj : JR j vw vm vt s A) (hs : Small s) :
    EvF AQ EQ 26 [pv j, .agg (actV a).toArray, iv st] A (fun v A' => v = bv (ansS s a st).isSome ∧ Keep (rowL vw) A A' ∧ ∀ s', ansS s a st = some s' → JR j vw vm vt s' A') := by
  refine rf_body (fn := Code.a26) rfl ?_
  simp only [Code.a26, sxs, sx_label, vxs, AX.then_, AX.inBlock, aexec, Opd.ev, lputO, reduceIte, Nat.reduceEqDiff, addA, Nat.reduceAdd, Option.some.injEq, exists_eq_left', Option.map_some, Option.bind_some, cond_false, cond_true, chkOk, wantedS, goInt, aidx, List.map_cons, List.map_nil, Int.reduceEq, Int.reduceLT, Int.reduceLE, Int.reduceAdd, Int.reduceSub, BEq.rfl, eq_self, reduceCtorEq, hxs, evParts, repL, List.append_nil, notT, vcells, List.cons_append, List.nil_append, List.getElem?_cons_succ, List.getElem?_cons_zero, List.length_cons, List.length_nil, ne_eq, aresults, aresult, tupOf]
  refine rc_loop (fun m fr A' => ∃ pre suf, s.wait = pre ++ suf ∧ suf.length = m ∧ ansL a st s.wait = (ansL a st suf).map (pre ++ ·) ∧
    lget fr 0 = pv j ∧ lget fr 2 = iv st ∧ lget fr 4 = pv A.next ∧ lget fr 6 = bv false ∧ lget fr 7 = iv pre.length ∧ Keep [] A A' ∧ A.next < A'.next ∧ A'.get A.next = some (.row (actV a) 14 false false)) ?_ s.wait.length ?_
  · rintro m fr A1 ⟨pre, suf, hw, hm, hans, h0, h2, h4, h6, h7, hk, hb1, hb⟩
    have hj1 := hj.keep hk (by simp)
    obtain ⟨o, n, c, hv, hn⟩ := hj1.wait.len
    have hr := hj1.rec_
    rw [hv] at hr
    rw [len_flat postV 6 postV_len] at hn
    have hn : n = s.wait.length := by omega
    subst hn
    cases suf with
    | nil =>
      have e : ¬ ((pre.length : Int) < s.wait.length) := by rw [hw]; simp
      simp only [sxs, sx_label, vxs, AX.then_, AX.inBlock, aexec, Opd.ev, lputO, reduceIte, Nat.reduceEqDiff, addA, Nat.reduceAdd, Option.some.injEq, exists_eq_left', Option.map_some, Option.bind_some, cond_false, cond_true, chkOk, wantedS, goInt, aidx, List.map_cons, List.map_nil, Int.reduceEq, Int.reduceLT, Int.reduceLE, Int.reduceAdd, Int.reduceSub, BEq.rfl, eq_self, reduceCtorEq, hxs, evParts, repL, List.append_nil, notT, vcells, List.cons_append, List.nil_append, List.getElem?_cons_succ, List.getElem?_cons_zero, List.length_cons, List.length_nil, ne_eq, aresults, aresult, tupOf, h0, h2, h4, h6, h7, hr, e]
      refine ⟨.inr trivial, _, _, rfl, rfl, ?_, hk.mono (by simp), ?_⟩
      · simp [ansS, hans, ansL]
      · intro s' h; simp [ansS, hans, ansL] at h
    | cons p suf =>
      have e : ((pre.length : Int) < s.wait.length) := by rw [hw]; simp; omega
      have hp : s.wait[pre.length]? = some p := by rw [hw]; simp
      obtain ⟨r, n2, hv2, hg, hl, hlt⟩ := hj1.wait.at (i := pre.length) (by rw [len_flat postV 6 postV_len, hw]; simp)
      rw [hv] at hv2
      cases hv2
      subst hv
      have hrd := rdRow_flat postV 6 postV_len hg hp
      have hjl : j < A1.next := hj1.lt j (by simp)
      have hrl : r < A1.next := hj1.lt r (by simp [rowL])
      have hn0 : ansL a st (p :: suf) = if p.line = a.line ∧ p.state = 0 then (if p.first + p.many - 1 ≠ a.seq then none else some ({ p with state := st } :: suf)) else (ansL a st suf).map (p :: ·) := rfl
      have hpl : s.wait.length = pre.length + (suf.length + 1) := by rw [hw]; simp
      have w0 : IntKind.i64.wrap (pre.length + 1) = ((pre ++ [p]).length : Int) := by rw [i64_add (by omega) (by have := hs.wl; omega)]; simp
      have hmiss : (¬ (p.line = a.line ∧ p.state = 0)) → ansL a st s.wait = (ansL a st suf).map (pre ++ [p] ++ ·) := by
        intro hne
        rw [hans, hn0, if_neg hne]
        cases ansL a st suf <;> simp
      have hk2 : Keep [] A (A1.new (.row (postV p) 6 false false)) := hk.trans (Keep.new (own := []) _ _) (by simp)
      simp only [sxs, sx_label, vxs, AX.then_, AX.inBlock, aexec, Opd.ev, lputO, reduceIte, Nat.reduceEqDiff, addA, Nat.reduceAdd, Option.some.injEq, exists_eq_left', Option.map_some, Option.bind_some, cond_false, cond_true, chkOk, wantedS, goInt, aidx, List.map_cons, List.map_nil, Int.reduceEq, Int.reduceLT, Int.reduceLE, Int.reduceAdd, Int.reduceSub, BEq.rfl, eq_self, reduceCtorEq, hxs, evParts, repL, List.append_nil, notT, vcells, List.cons_append, List.nil_append, List.getElem?_cons_succ, List.getElem?_cons_zero, List.length_cons, List.length_nil, ne_eq, aresults, aresult, tupOf, h0, h2, h4, h6, h7, hr, e, hrd, hb, hb1, hjl, w0]
      rcases (Classical.em (p.client = a.client)).symm with c1 | c1
      · simp only [sxs, sx_label, vxs, AX.then_, AX.inBlock, aexec, Opd.ev, lputO, reduceIte, Nat.reduceEqDiff, addA, Nat.reduceAdd, Option.some.injEq, exists_eq_left', Option.map_some, Option.bind_some, cond_false, cond_true, chkOk, wantedS, goInt, aidx, List.map_cons, List.map_nil, Int.reduceEq, Int.reduceLT, Int.reduceLE, Int.reduceAdd, Int.reduceSub, BEq.rfl, eq_self, reduceCtorEq, hxs, evParts, repL, List.append_nil, notT, vcells, List.cons_append, List.nil_append, List.getElem?_cons_succ, List.getElem?_cons_zero, List.length_cons, List.length_nil, ne_eq, aresults, aresult, tupOf, h0, h2, h4, h6, h7, hr, e, hrd, hb, hb1, hjl, w0, c1]
        exact ⟨suf.length, by simp at hm; omega, pre ++ [p], suf, by simp [hw], rfl, hmiss (by simp [Post.line, Act.line, c1]), rfl, hk2, by omega⟩
      simp only [sxs, sx_label, vxs, AX.then_, AX.inBlock, aexec, Opd.ev, lputO, reduceIte, Nat.reduceEqDiff, addA, Nat.reduceAdd, Option.some.injEq, exists_eq_left', Option.map_some, Option.bind_some, cond_false, cond_true, chkOk, wantedS, goInt, aidx, List.map_cons, List.map_nil, Int.reduceEq, Int.reduceLT, Int.reduceLE, Int.reduceAdd, Int.reduceSub, BEq.rfl, eq_self, reduceCtorEq, hxs, evParts, repL, List.append_nil, notT, vcells, List.cons_append, List.nil_append, List.getElem?_cons_succ, List.getElem?_cons_zero, List.length_cons, List.length_nil, ne_eq, aresults, aresult, tupOf, h0, h2, h4, h6, h7, hr, e, hrd, hb, hb1, hjl, w0, c1]
      rcases (Classical.em (p.queue = a.queue)).symm with c2 | c2
      · simp only [sxs, sx_label, vxs, AX.then_, AX.inBlock, aexec, Opd.ev, lputO, reduceIte, Nat.reduceEqDiff, addA, Nat.reduceAdd, Option.some.injEq, exists_eq_left', Option.map_some, Option.bind_some, cond_false, cond_true, chkOk, wantedS, goInt, aidx, List.map_cons, List.map_nil, Int.reduceEq, Int.reduceLT, Int.reduceLE, Int.reduceAdd, Int.reduceSub, BEq.rfl, eq_self, reduceCtorEq, hxs, evParts, repL, List.append_nil, notT, vcells, List.cons_append, List.nil_append, List.getElem?_cons_succ, List.getElem?_cons_zero, List.length_cons, List.length_nil, ne_eq, aresults, aresult, tupOf, h0, h2, h4, h6, h7, hr, e, hrd, hb, hb1, hjl, w0, c2]
        exact ⟨suf.length, by simp at hm; omega, pre ++ [p], suf, by simp [hw], rfl, hmiss (by simp [Post.line, Act.line, c2]), rfl, hk2, by omega⟩
      simp only [sxs, sx_label, vxs, AX.then_, AX.inBlock, aexec, Opd.ev, lputO, reduceIte, Nat.reduceEqDiff, addA, Nat.reduceAdd, Option.some.injEq, exists_eq_left', Option.map_some, Option.bind_some, cond_false, cond_true, chkOk, wantedS, goInt, aidx, List.map_cons, List.map_nil, Int.reduceEq, Int.reduceLT, Int.reduceLE, Int.reduceAdd, Int.reduceSub, BEq.rfl, eq_self, reduceCtorEq, hxs, evParts, repL, List.append_nil, notT, vcells, List.cons_append, List.nil_append, List.getElem?_cons_succ, List.getElem?_cons_zero, List.length_cons, List.length_nil, ne_eq, aresults, aresult, tupOf, h0, h2, h4, h6, h7, hr, e, hrd, hb, hb1, hjl, w0, c2]
      rcases (Classical.em (p.key = a.key)).symm with c3 | c3
      · simp only [sxs, sx_label, vxs, AX.then_, AX.inBlock, aexec, Opd.ev, lputO, reduceIte, Nat.reduceEqDiff, addA, Nat.reduceAdd, Option.some.injEq, exists_eq_left', Option.map_some, Option.bind_some, cond_false, cond_true, chkOk, wantedS, goInt, aidx, List.map_cons, List.map_nil, Int.reduceEq, Int.reduceLT, Int.reduceLE, Int.reduceAdd, Int.reduceSub, BEq.rfl, eq_self, reduceCtorEq, hxs, evParts, repL, List.append_nil, notT, vcells, List.cons_append, List.nil_append, List.getElem?_cons_succ, List.getElem?_cons_zero, List.length_cons, List.length_nil, ne_eq, aresults, aresult, tupOf, h0, h2, h4, h6, h7, hr, e, hrd, hb, hb1, hjl, w0, c3]
        exact ⟨suf.length, by simp at hm; omega, pre ++ [p], suf, by simp [hw], rfl, hmiss (by simp [Post.line, Act.line, c3]), rfl, hk2, by omega⟩
      simp only [sxs, sx_label, vxs, AX.then_, AX.inBlock, aexec, Opd.ev, lputO, reduceIte, Nat.reduceEqDiff, addA, Nat.reduceAdd, Option.some.injEq, exists_eq_left', Option.map_some, Option.bind_some, cond_false, cond_true, chkOk, wantedS, goInt, aidx, List.map_cons, List.map_nil, Int.reduceEq, Int.reduceLT, Int.reduceLE, Int.reduceAdd, Int.reduceSub, BEq.rfl, eq_self, reduceCtorEq, hxs, evParts, repL, List.append_nil, notT, vcells, List.cons_append, List.nil_append, List.getElem?_cons_succ, List.getElem?_cons_zero, List.length_cons, List.length_nil, ne_eq, aresults, aresult, tupOf, h0, h2, h4, h6, h7, hr, e, hrd, hb, hb1, hjl, w0, c3]
      rcases (Classical.em ((p.state : Int) = 0)).symm with c4 | c4
      · simp only [sxs, sx_label, vxs, AX.then_, AX.inBlock, aexec, Opd.ev, lputO, reduceIte, Nat.reduceEqDiff, addA, Nat.reduceAdd, Option.some.injEq, exists_eq_left', Option.map_some, Option.bind_some, cond_false, cond_true, chkOk, wantedS, goInt, aidx, List.map_cons, List.map_nil, Int.reduceEq, Int.reduceLT, Int.reduceLE, Int.reduceAdd, Int.reduceSub, BEq.rfl, eq_self, reduceCtorEq, hxs, evParts, repL, List.append_nil, notT, vcells, List.cons_append, List.nil_append, List.getElem?_cons_succ, List.getElem?_cons_zero, List.length_cons, List.length_nil, ne_eq, aresults, aresult, tupOf, h0, h2, h4, h6, h7, hr, e, hrd, hb, hb1, hjl, w0, c4]
        exact ⟨suf.length, by simp at hm; omega, pre ++ [p], suf, by simp [hw], rfl, hmiss (by rintro ⟨_, h⟩; exact c4 (by omega)), rfl, hk2, by omega⟩
      have hmt : p.line = a.line ∧ p.state = 0 := ⟨by simp [Post.line, Act.line, c1, c2, c3], by omega⟩
      have hsm := hs.post p (by rw [hw]; simp)
      have w1 : IntKind.i64.wrap (p.first + p.many) = p.first + p.many := i64_add (by omega) (by omega)
      have w2 : IntKind.i64.wrap (p.first + p.many - 1) = p.first + p.many - 1 := i64_add (by omega) (by omega)
      simp only [sxs, sx_label, vxs, AX.then_, AX.inBlock, aexec, Opd.ev, lputO, reduceIte, Nat.reduceEqDiff, addA, Nat.reduceAdd, Option.some.injEq, exists_eq_left', Option.map_some, Option.bind_some, cond_false, cond_true, chkOk, wantedS, goInt, aidx, List.map_cons, List.map_nil, Int.reduceEq, Int.reduceLT, Int.reduceLE, Int.reduceAdd, Int.reduceSub, BEq.rfl, eq_self, reduceCtorEq, hxs, evParts, repL, List.append_nil, notT, vcells, List.cons_append, List.nil_append, List.getElem?_cons_succ, List.getElem?_cons_zero, List.length_cons, List.length_nil, ne_eq, aresults, aresult, tupOf, h0, h2, h4, h6, h7, hr, e, hrd, hb, hb1, hjl, w0, c4, w1, w2]
      by_cases c5 : p.first + p.many - 1 = a.seq
      · have hwr := wrRow_flat (A := A1.new (.row (postV p) 6 false false)) (vs := [iv st]) postV 6 postV_len (off := 5) { p with state := st } ((AHeap.new_lt hrl).trans hg) hp (by simp) rfl
        simp only [sxs, sx_label, vxs, AX.then_, AX.inBlock, aexec, Opd.ev, lputO, reduceIte, Nat.reduceEqDiff, addA, Nat.reduceAdd, Option.some.injEq, exists_eq_left', Option.map_some, Option.bind_some, cond_false, cond_true, chkOk, wantedS, goInt, aidx, List.map_cons, List.map_nil, Int.reduceEq, Int.reduceLT, Int.reduceLE, Int.reduceAdd, Int.reduceSub, BEq.rfl, eq_self, reduceCtorEq, hxs, evParts, repL, List.append_nil, notT, vcells, List.cons_append, List.nil_append, List.getElem?_cons_succ, List.getElem?_cons_zero, List.length_cons, List.length_nil, ne_eq, aresults, aresult, tupOf, h0, h2, h4, h6, h7, hr, e, hrd, hb, hb1, hjl, w0, c5, hwr]
        have hres : ansS s a st = some { s with wait := s.wait.set pre.length { p with state := st } } := by
          rw [ansS, hans, hn0, if_pos hmt, if_neg (by simpa using c5)]
          simp [hw]
        refine ⟨.inr trivial, _, _, rfl, rfl, by rw [hres]; rfl, ?_, ?_⟩
        · exact (hk2.mono (by simp)).trans (Keep.set (own := rowL (.slice (some ⟨r, 0, none⟩) s.wait.length (capInf * (6 + 1) + s.wait.length))) _ (.inl (by simp [rowL]))) (fun _ _ h => h)
        · intro s' h
          rw [hres] at h
          cases h
          exact (hj.keep hk2 (by simp)).waitSet ((AHeap.new_lt hrl).trans hg) rfl rfl _ List.length_set
      · simp only [sxs, sx_label, vxs, AX.then_, AX.inBlock, aexec, Opd.ev, lputO, reduceIte, Nat.reduceEqDiff, addA, Nat.reduceAdd, Option.some.injEq, exists_eq_left', Option.map_some, Option.bind_some, cond_false, cond_true, chkOk, wantedS, goInt, aidx, List.map_cons, List.map_nil, Int.reduceEq, Int.reduceLT, Int.reduceLE, Int.reduceAdd, Int.reduceSub, BEq.rfl, eq_self, reduceCtorEq, hxs, evParts, repL, List.append_nil, notT, vcells, List.cons_append, List.nil_append, List.getElem?_cons_succ, List.getElem?_cons_zero, List.length_cons, List.length_nil, ne_eq, aresults, aresult, tupOf, h0, h2, h4, h6, h7, hr, e, hrd, hb, hb1, hjl, w0, c5]
        refine ⟨.inr trivial, _, _, rfl, rfl, ?_, hk2.mono (by simp), ?_⟩
        · simp [ansS, hans, hn0, hmt, c5]
        · intro s' h; simp [ansS, hans, hn0, hmt, c5] at h
  · exact ⟨[], s.wait, rfl, rfl, by simp, rfl, rfl, rfl, rfl, rfl, Keep.new _ _, by simp [AHeap.new_next], AHeap.new_get⟩
end Go.Proofs.YtiimkdijiddjcaaDoor
