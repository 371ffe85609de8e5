/- The law JudgeAsks on the abstract machine. -/
import Derived.Test.YtiimkdijiddjcaaDoorJKopn
import Derived.Test.YtiimkdijiddjcaaDoorJPlaw
set_option linter.unusedSimpArgs false
namespace Go.Proofs.YtiimkdijiddjcaaDoor
set_option linter.unusedSimpArgs false
set_option linter.unusedVariables false
set_option linter.unusedSectionVars false
set_option linter.defProp false
open Go Go.Abs JP

theorem Acts.cell {A : AHeap} {a : Option Addr} {n c : Nat} {l : List JP.Act} (h : Acts A (.slice a n c) l) {i : Nat} {x : JP.Act} (hx : l[i]? = some x) :
    ∃ r off cs sz ro o, a = some ⟨r, off, none⟩ ∧ r < A.next ∧ A.get r = some (.row cs sz ro o) ∧ ∀ f, f < 14 → cs[off + i * 14 + f]? = (actV x)[f]? := by
  obtain ⟨a', c', h1, h2⟩ := h
  cases h1
  obtain ⟨r, off, cs, sz, ro, o, h3, h4, h5, h6, h7⟩ := h2 i x hx
  refine ⟨r, off, cs, sz, ro, o, h3, h4, h5, fun f hf => ?_⟩
  rw [← h7, List.getElem?_take, if_pos hf, List.getElem?_drop]

set_option maxRecDepth 10000 in
set_option maxHeartbeats 4000000 in
theorem few_spec {v : Value} {l : List JP.Act} {A : AHeap} (hl : Acts A v l) (hn : l.length ≤ 9223372036854775807) :
    EvF AQ EQ 10 [v] A (fun u A' => (∃ b, u = bv b ∧ (b = true → l.length ≤ 80 ∧ Short l)) ∧ Keep [] A A') := by
  refine rf_body (fn := Code.a10) rfl ?_
  obtain ⟨a, cp, hv, _⟩ := hl.shape
  subst hv
  simp only [Code.a10, sxs, sx_label, vxs, AX.then_, AX.inBlock, aexec, Opd.ev, lputO, reduceIte, Nat.reduceEqDiff, addA, Nat.reduceAdd, Option.some.injEq, exists_eq_left', Option.map_some, Option.bind_some, cond_false, cond_true, chkOk, wantedS, goInt, aidx, List.map_cons, List.map_nil, Int.reduceEq, Int.reduceLT, Int.reduceLE, Int.reduceAdd, Int.reduceSub, BEq.rfl, eq_self, reduceCtorEq, hxs, evParts, repL, List.append_nil, notT, vcells, List.cons_append, List.nil_append, List.getElem?_cons_succ, List.getElem?_cons_zero, List.length_cons, List.length_nil, ne_eq, aresults, aresult, tupOf]
  refine rc_loop (fun m fr A' => ∃ pre suf, l = pre ++ suf ∧ suf.length = m ∧ Short pre ∧ lget fr 0 = .slice a l.length cp ∧ lget fr 3 = iv pre.length ∧ A' = A) ?_ l.length ?_
  · rintro m fr A1 ⟨pre, suf, hw, hm, hsh, h0, h3, rfl⟩
    cases suf with
    | nil =>
      have e : ¬ ((pre.length : Int) < l.length) := by rw [hw]; simp
      simp only [sxs, sx_label, vxs, AX.then_, AX.inBlock, aexec, Opd.ev, lputO, reduceIte, Nat.reduceEqDiff, addA, Nat.reduceAdd, Option.some.injEq, exists_eq_left', Option.map_some, Option.bind_some, cond_false, cond_true, chkOk, wantedS, goInt, aidx, List.map_cons, List.map_nil, Int.reduceEq, Int.reduceLT, Int.reduceLE, Int.reduceAdd, Int.reduceSub, BEq.rfl, eq_self, reduceCtorEq, hxs, evParts, repL, List.append_nil, notT, vcells, List.cons_append, List.nil_append, List.getElem?_cons_succ, List.getElem?_cons_zero, List.length_cons, List.length_nil, ne_eq, aresults, aresult, tupOf, h0, h3, e]
      refine ⟨.inr trivial, _, _, rfl, rfl, ⟨decide ((l.length : Int) ≤ 80), rfl, fun h => ?_⟩, Keep.refl _ _⟩
      simp only [decide_eq_true_eq] at h
      exact ⟨by omega, by rw [hw, List.append_nil]; exact hsh⟩
    | cons x suf =>
      have hpl : l.length = pre.length + (suf.length + 1) := by rw [hw]; simp
      have e : ((pre.length : Int) < l.length) := by omega
      have hp : l[pre.length]? = some x := by rw [hw]; simp
      obtain ⟨r, off, cs, sz, ro, o, rfl, hrl, hg, hcell⟩ := hl.cell hp
      have g6 := (hcell 6 (by omega)).trans (act6 x)
      have g7 := (hcell 7 (by omega)).trans (act7 x)
      have g11 := (hcell 11 (by omega)).trans (act11 x)
      have g12 := (hcell 12 (by omega)).trans (act12 x)
      have g11' : cs[off + pre.length * 14 + 9 + 2]? = some (sv x.mkey) := g11
      have g12' : cs[off + pre.length * 14 + 9 + 3]? = some (sv x.mbody) := g12
      have w0 : IntKind.i64.wrap (pre.length + 1) = ((pre ++ [x]).length : Int) := by rw [i64_add (by omega) (by omega)]; simp
      simp only [sxs, sx_label, vxs, AX.then_, AX.inBlock, aexec, Opd.ev, lputO, reduceIte, Nat.reduceEqDiff, addA, Nat.reduceAdd, Option.some.injEq, exists_eq_left', Option.map_some, Option.bind_some, cond_false, cond_true, chkOk, wantedS, goInt, aidx, List.map_cons, List.map_nil, Int.reduceEq, Int.reduceLT, Int.reduceLE, Int.reduceAdd, Int.reduceSub, BEq.rfl, eq_self, reduceCtorEq, hxs, evParts, repL, List.append_nil, notT, vcells, List.cons_append, List.nil_append, List.getElem?_cons_succ, List.getElem?_cons_zero, List.length_cons, List.length_nil, ne_eq, aresults, aresult, tupOf, h0, h3, e, hg, g6, g7, g11, g12, g11', g12', goInt]
      rcases Classical.em ((100 : Int) < x.key.size) with d1 | d1
      · simp only [sxs, sx_label, vxs, AX.then_, AX.inBlock, aexec, Opd.ev, lputO, reduceIte, Nat.reduceEqDiff, addA, Nat.reduceAdd, Option.some.injEq, exists_eq_left', Option.map_some, Option.bind_some, cond_false, cond_true, chkOk, wantedS, goInt, aidx, List.map_cons, List.map_nil, Int.reduceEq, Int.reduceLT, Int.reduceLE, Int.reduceAdd, Int.reduceSub, BEq.rfl, eq_self, reduceCtorEq, hxs, evParts, repL, List.append_nil, notT, vcells, List.cons_append, List.nil_append, List.getElem?_cons_succ, List.getElem?_cons_zero, List.length_cons, List.length_nil, ne_eq, aresults, aresult, tupOf, h0, h3, e, hg, g6, g7, g11, g12, g11', g12', goInt, d1]
        exact ⟨.inr trivial, _, _, rfl, rfl, ⟨false, rfl, fun h => by cases h⟩, Keep.refl _ _⟩
      simp only [sxs, sx_label, vxs, AX.then_, AX.inBlock, aexec, Opd.ev, lputO, reduceIte, Nat.reduceEqDiff, addA, Nat.reduceAdd, Option.some.injEq, exists_eq_left', Option.map_some, Option.bind_some, cond_false, cond_true, chkOk, wantedS, goInt, aidx, List.map_cons, List.map_nil, Int.reduceEq, Int.reduceLT, Int.reduceLE, Int.reduceAdd, Int.reduceSub, BEq.rfl, eq_self, reduceCtorEq, hxs, evParts, repL, List.append_nil, notT, vcells, List.cons_append, List.nil_append, List.getElem?_cons_succ, List.getElem?_cons_zero, List.length_cons, List.length_nil, ne_eq, aresults, aresult, tupOf, h0, h3, e, hg, g6, g7, g11, g12, g11', g12', goInt, d1]
      rcases Classical.em ((300 : Int) < x.body.size) with d2 | d2
      · simp only [sxs, sx_label, vxs, AX.then_, AX.inBlock, aexec, Opd.ev, lputO, reduceIte, Nat.reduceEqDiff, addA, Nat.reduceAdd, Option.some.injEq, exists_eq_left', Option.map_some, Option.bind_some, cond_false, cond_true, chkOk, wantedS, goInt, aidx, List.map_cons, List.map_nil, Int.reduceEq, Int.reduceLT, Int.reduceLE, Int.reduceAdd, Int.reduceSub, BEq.rfl, eq_self, reduceCtorEq, hxs, evParts, repL, List.append_nil, notT, vcells, List.cons_append, List.nil_append, List.getElem?_cons_succ, List.getElem?_cons_zero, List.length_cons, List.length_nil, ne_eq, aresults, aresult, tupOf, h0, h3, e, hg, g6, g7, g11, g12, g11', g12', goInt, d2]
        exact ⟨.inr trivial, _, _, rfl, rfl, ⟨false, rfl, fun h => by cases h⟩, Keep.refl _ _⟩
      simp only [sxs, sx_label, vxs, AX.then_, AX.inBlock, aexec, Opd.ev, lputO, reduceIte, Nat.reduceEqDiff, addA, Nat.reduceAdd, Option.some.injEq, exists_eq_left', Option.map_some, Option.bind_some, cond_false, cond_true, chkOk, wantedS, goInt, aidx, List.map_cons, List.map_nil, Int.reduceEq, Int.reduceLT, Int.reduceLE, Int.reduceAdd, Int.reduceSub, BEq.rfl, eq_self, reduceCtorEq, hxs, evParts, repL, List.append_nil, notT, vcells, List.cons_append, List.nil_append, List.getElem?_cons_succ, List.getElem?_cons_zero, List.length_cons, List.length_nil, ne_eq, aresults, aresult, tupOf, h0, h3, e, hg, g6, g7, g11, g12, g11', g12', goInt, d2]
      rcases Classical.em ((100 : Int) < x.mkey.size) with d3 | d3
      · simp only [sxs, sx_label, vxs, AX.then_, AX.inBlock, aexec, Opd.ev, lputO, reduceIte, Nat.reduceEqDiff, addA, Nat.reduceAdd, Option.some.injEq, exists_eq_left', Option.map_some, Option.bind_some, cond_false, cond_true, chkOk, wantedS, goInt, aidx, List.map_cons, List.map_nil, Int.reduceEq, Int.reduceLT, Int.reduceLE, Int.reduceAdd, Int.reduceSub, BEq.rfl, eq_self, reduceCtorEq, hxs, evParts, repL, List.append_nil, notT, vcells, List.cons_append, List.nil_append, List.getElem?_cons_succ, List.getElem?_cons_zero, List.length_cons, List.length_nil, ne_eq, aresults, aresult, tupOf, h0, h3, e, hg, g6, g7, g11, g12, g11', g12', goInt, d3]
        exact ⟨.inr trivial, _, _, rfl, rfl, ⟨false, rfl, fun h => by cases h⟩, Keep.refl _ _⟩
      simp only [sxs, sx_label, vxs, AX.then_, AX.inBlock, aexec, Opd.ev, lputO, reduceIte, Nat.reduceEqDiff, addA, Nat.reduceAdd, Option.some.injEq, exists_eq_left', Option.map_some, Option.bind_some, cond_false, cond_true, chkOk, wantedS, goInt, aidx, List.map_cons, List.map_nil, Int.reduceEq, Int.reduceLT, Int.reduceLE, Int.reduceAdd, Int.reduceSub, BEq.rfl, eq_self, reduceCtorEq, hxs, evParts, repL, List.append_nil, notT, vcells, List.cons_append, List.nil_append, List.getElem?_cons_succ, List.getElem?_cons_zero, List.length_cons, List.length_nil, ne_eq, aresults, aresult, tupOf, h0, h3, e, hg, g6, g7, g11, g12, g11', g12', goInt, d3]
      rcases Classical.em ((300 : Int) < x.mbody.size) with d4 | d4
      · simp only [sxs, sx_label, vxs, AX.then_, AX.inBlock, aexec, Opd.ev, lputO, reduceIte, Nat.reduceEqDiff, addA, Nat.reduceAdd, Option.some.injEq, exists_eq_left', Option.map_some, Option.bind_some, cond_false, cond_true, chkOk, wantedS, goInt, aidx, List.map_cons, List.map_nil, Int.reduceEq, Int.reduceLT, Int.reduceLE, Int.reduceAdd, Int.reduceSub, BEq.rfl, eq_self, reduceCtorEq, hxs, evParts, repL, List.append_nil, notT, vcells, List.cons_append, List.nil_append, List.getElem?_cons_succ, List.getElem?_cons_zero, List.length_cons, List.length_nil, ne_eq, aresults, aresult, tupOf, h0, h3, e, hg, g6, g7, g11, g12, g11', g12', goInt, d4]
        exact ⟨.inr trivial, _, _, rfl, rfl, ⟨false, rfl, fun h => by cases h⟩, Keep.refl _ _⟩
      simp only [sxs, sx_label, vxs, AX.then_, AX.inBlock, aexec, Opd.ev, lputO, reduceIte, Nat.reduceEqDiff, addA, Nat.reduceAdd, Option.some.injEq, exists_eq_left', Option.map_some, Option.bind_some, cond_false, cond_true, chkOk, wantedS, goInt, aidx, List.map_cons, List.map_nil, Int.reduceEq, Int.reduceLT, Int.reduceLE, Int.reduceAdd, Int.reduceSub, BEq.rfl, eq_self, reduceCtorEq, hxs, evParts, repL, List.append_nil, notT, vcells, List.cons_append, List.nil_append, List.getElem?_cons_succ, List.getElem?_cons_zero, List.length_cons, List.length_nil, ne_eq, aresults, aresult, tupOf, h0, h3, e, hg, g6, g7, g11, g12, g11', g12', goInt, d4, w0]
      refine ⟨suf.length, by simp at hm; omega, pre ++ [x], suf, by simp [hw], rfl, ?_, rfl⟩
      intro y hy
      simp only [List.mem_append, List.mem_singleton] at hy
      rcases hy with hy | rfl
      · exact hsh y hy
      · omega
  · exact ⟨[], l, rfl, rfl, (fun y hy => by cases hy), rfl, rfl, rfl⟩
theorem eq_told (A : AHeap) : EvF AQ EQ 11 [] A (fun u A' => u = bv true ∧ A' = A) := evF_ext rfl rfl ⟨rfl, rfl⟩

theorem same_check (l : List JP.Act) : resS (runS St.start l 0) = resK (runK K.start l 0) := by
  rcases runs l 0 R.start with ⟨n, h1, h2⟩ | ⟨s, k, h1, h2, _⟩ <;> rw [h1, h2] <;> rfl
theorem same_open (l : List JP.Act) : (openL (runS St.start l 0)).map smsg = (openKL (runK K.start l 0)).map kmsg := by
  rcases runs l 0 R.start with ⟨n, h1, h2⟩ | ⟨s, k, h1, h2, h3⟩
  · rw [h1, h2]; rfl
  · rw [h1, h2]; exact h3.open_
theorem open_len (l : List JP.Act) (hn : l.length ≤ 100) : ((openKL (runK K.start l 0)).map kmsg).length ≤ 1000000 := by
  cases hr : runK K.start l 0 with
  | inr i => simp [openKL]
  | inl k =>
    have hk : KW l.length k := by simpa using runK_kw KW.start hr
    have := hk.xs
    have := List.length_filter_le (openQ k) k.xs
    simp only [openKL, openK_eq, List.length_map]; omega

set_option maxRecDepth 10000 in
set_option maxHeartbeats 4000000 in
theorem asks_run {v : Value} {l : List JP.Act} {A : AHeap} (hl : Acts A v l) (hn : l.length ≤ 9223372036854775807) : EvF AQ EQ 3 [v] A (fun u A' => u = bv true ∧ Keep [] A A') := by
  refine rf_body (fn := Code.a3) rfl ?_
  obtain ⟨a, cp, hv, _⟩ := hl.shape
  subst hv
  simp only [Code.a3, sxs, sx_label, vxs, AX.then_, AX.inBlock, aexec, Opd.ev, lputO, reduceIte, Nat.reduceEqDiff, addA, Nat.reduceAdd, Option.some.injEq, exists_eq_left', Option.map_some, Option.bind_some, cond_false, cond_true, chkOk, wantedS, goInt, aidx, List.map_cons, List.map_nil, Int.reduceEq, Int.reduceLT, Int.reduceLE, Int.reduceAdd, Int.reduceSub, BEq.rfl, eq_self, reduceCtorEq, hxs, evParts, repL, List.append_nil, notT, vcells, List.cons_append, List.nil_append, List.getElem?_cons_succ, List.getElem?_cons_zero, List.length_cons, List.length_nil, ne_eq, aresults, aresult, tupOf]
  refine RF_use (few_spec hl hn) ?_
  rintro u A1 ⟨⟨b, rfl, hfew⟩, hk1⟩
  have hl1 := hl.keep hk1 (by simp)
  cases b with
  | false =>
    simp only [sxs, sx_label, vxs, AX.then_, AX.inBlock, aexec, Opd.ev, lputO, reduceIte, Nat.reduceEqDiff, addA, Nat.reduceAdd, Option.some.injEq, exists_eq_left', Option.map_some, Option.bind_some, cond_false, cond_true, chkOk, wantedS, goInt, aidx, List.map_cons, List.map_nil, Int.reduceEq, Int.reduceLT, Int.reduceLE, Int.reduceAdd, Int.reduceSub, BEq.rfl, eq_self, reduceCtorEq, hxs, evParts, repL, List.append_nil, notT, vcells, List.cons_append, List.nil_append, List.getElem?_cons_succ, List.getElem?_cons_zero, List.length_cons, List.length_nil, ne_eq, aresults, aresult, tupOf]
    refine RF_use (eq_told A1) ?_
    rintro u A2 ⟨rfl, rfl⟩
    simp only [sxs, sx_label, vxs, AX.then_, AX.inBlock, aexec, Opd.ev, lputO, reduceIte, Nat.reduceEqDiff, addA, Nat.reduceAdd, Option.some.injEq, exists_eq_left', Option.map_some, Option.bind_some, cond_false, cond_true, chkOk, wantedS, goInt, aidx, List.map_cons, List.map_nil, Int.reduceEq, Int.reduceLT, Int.reduceLE, Int.reduceAdd, Int.reduceSub, BEq.rfl, eq_self, reduceCtorEq, hxs, evParts, repL, List.append_nil, notT, vcells, List.cons_append, List.nil_append, List.getElem?_cons_succ, List.getElem?_cons_zero, List.length_cons, List.length_nil, ne_eq, aresults, aresult, tupOf]
    exact ⟨.inr trivial, _, _, rfl, rfl, rfl, hk1⟩
  | true =>
    obtain ⟨hl80, hsh⟩ := hfew rfl
    simp only [sxs, sx_label, vxs, AX.then_, AX.inBlock, aexec, Opd.ev, lputO, reduceIte, Nat.reduceEqDiff, addA, Nat.reduceAdd, Option.some.injEq, exists_eq_left', Option.map_some, Option.bind_some, cond_false, cond_true, chkOk, wantedS, goInt, aidx, List.map_cons, List.map_nil, Int.reduceEq, Int.reduceLT, Int.reduceLE, Int.reduceAdd, Int.reduceSub, BEq.rfl, eq_self, reduceCtorEq, hxs, evParts, repL, List.append_nil, notT, vcells, List.cons_append, List.nil_append, List.getElem?_cons_succ, List.getElem?_cons_zero, List.length_cons, List.length_nil, ne_eq, aresults, aresult, tupOf]
    refine rc_loop (fun m fr A' => ∃ pre suf, l = pre ++ suf ∧ suf.length = m ∧ lget fr 0 = .slice a l.length cp ∧ lget fr 3 = iv (nPub pre) ∧ lget fr 4 = iv pre.length ∧ A' = A1) ?_ l.length ?_
    · rintro m fr A2 ⟨pre, suf, hw, hm, h0, h3, h4, rfl⟩
      cases suf with
      | nil =>
        have e : ¬ ((pre.length : Int) < l.length) := by rw [hw]; simp
        have hpre : pre = l := by rw [hw]; simp
        rw [hpre] at h3
        simp only [sxs, sx_label, vxs, AX.then_, AX.inBlock, aexec, Opd.ev, lputO, reduceIte, Nat.reduceEqDiff, addA, Nat.reduceAdd, Option.some.injEq, exists_eq_left', Option.map_some, Option.bind_some, cond_false, cond_true, chkOk, wantedS, goInt, aidx, List.map_cons, List.map_nil, Int.reduceEq, Int.reduceLT, Int.reduceLE, Int.reduceAdd, Int.reduceSub, BEq.rfl, eq_self, reduceCtorEq, hxs, evParts, repL, List.append_nil, notT, vcells, List.cons_append, List.nil_append, List.getElem?_cons_succ, List.getElem?_cons_zero, List.length_cons, List.length_nil, ne_eq, aresults, aresult, tupOf, h0, h3, h4, e]
        refine RF_use (eq_told A2) ?_
        rintro u A3 ⟨rfl, rfl⟩
        simp only [sxs, sx_label, vxs, AX.then_, AX.inBlock, aexec, Opd.ev, lputO, reduceIte, Nat.reduceEqDiff, addA, Nat.reduceAdd, Option.some.injEq, exists_eq_left', Option.map_some, Option.bind_some, cond_false, cond_true, chkOk, wantedS, goInt, aidx, List.map_cons, List.map_nil, Int.reduceEq, Int.reduceLT, Int.reduceLE, Int.reduceAdd, Int.reduceSub, BEq.rfl, eq_self, reduceCtorEq, hxs, evParts, repL, List.append_nil, notT, vcells, List.cons_append, List.nil_append, List.getElem?_cons_succ, List.getElem?_cons_zero, List.length_cons, List.length_nil, ne_eq, aresults, aresult, tupOf, h0, h3, h4]
        refine RF_use (checkK_spec hl1 (by omega) hsh) ?_
        rintro u A4 ⟨rfl, hk4⟩
        have hl4 := hl1.keep hk4 (by simp)
        simp only [sxs, sx_label, vxs, AX.then_, AX.inBlock, aexec, Opd.ev, lputO, reduceIte, Nat.reduceEqDiff, addA, Nat.reduceAdd, Option.some.injEq, exists_eq_left', Option.map_some, Option.bind_some, cond_false, cond_true, chkOk, wantedS, goInt, aidx, List.map_cons, List.map_nil, Int.reduceEq, Int.reduceLT, Int.reduceLE, Int.reduceAdd, Int.reduceSub, BEq.rfl, eq_self, reduceCtorEq, hxs, evParts, repL, List.append_nil, notT, vcells, List.cons_append, List.nil_append, List.getElem?_cons_succ, List.getElem?_cons_zero, List.length_cons, List.length_nil, ne_eq, aresults, aresult, tupOf, h0, h3, h4]
        refine RF_use (check_spec hl4 (by omega) hsh) ?_
        rintro u A5 ⟨rfl, hk5⟩
        have hl5 := hl4.keep hk5 (by simp)
        simp only [sxs, sx_label, vxs, AX.then_, AX.inBlock, aexec, Opd.ev, lputO, reduceIte, Nat.reduceEqDiff, addA, Nat.reduceAdd, Option.some.injEq, exists_eq_left', Option.map_some, Option.bind_some, cond_false, cond_true, chkOk, wantedS, goInt, aidx, List.map_cons, List.map_nil, Int.reduceEq, Int.reduceLT, Int.reduceLE, Int.reduceAdd, Int.reduceSub, BEq.rfl, eq_self, reduceCtorEq, hxs, evParts, repL, List.append_nil, notT, vcells, List.cons_append, List.nil_append, List.getElem?_cons_succ, List.getElem?_cons_zero, List.length_cons, List.length_nil, ne_eq, aresults, aresult, tupOf, h0, h3, h4, same_check]
        refine RF_use (openK_spec hl5 (by omega) hsh) ?_
        rintro u1 A6 ⟨ho1, hr1, hk6⟩
        have hl6 := hl5.keep hk6 (by simp)
        simp only [sxs, sx_label, vxs, AX.then_, AX.inBlock, aexec, Opd.ev, lputO, reduceIte, Nat.reduceEqDiff, addA, Nat.reduceAdd, Option.some.injEq, exists_eq_left', Option.map_some, Option.bind_some, cond_false, cond_true, chkOk, wantedS, goInt, aidx, List.map_cons, List.map_nil, Int.reduceEq, Int.reduceLT, Int.reduceLE, Int.reduceAdd, Int.reduceSub, BEq.rfl, eq_self, reduceCtorEq, hxs, evParts, repL, List.append_nil, notT, vcells, List.cons_append, List.nil_append, List.getElem?_cons_succ, List.getElem?_cons_zero, List.length_cons, List.length_nil, ne_eq, aresults, aresult, tupOf, h0, h3, h4]
        refine RF_use (open_spec hl6 (by omega) hsh) ?_
        rintro u2 A7 ⟨ho2, hr2, hk7⟩
        have ho1' := ho1.keep hk7 (fun r hr => ⟨(hr1 r hr).2, by simp⟩)
        have hl7 := hl6.keep hk7 (by simp)
        simp only [sxs, sx_label, vxs, AX.then_, AX.inBlock, aexec, Opd.ev, lputO, reduceIte, Nat.reduceEqDiff, addA, Nat.reduceAdd, Option.some.injEq, exists_eq_left', Option.map_some, Option.bind_some, cond_false, cond_true, chkOk, wantedS, goInt, aidx, List.map_cons, List.map_nil, Int.reduceEq, Int.reduceLT, Int.reduceLE, Int.reduceAdd, Int.reduceSub, BEq.rfl, eq_self, reduceCtorEq, hxs, evParts, repL, List.append_nil, notT, vcells, List.cons_append, List.nil_append, List.getElem?_cons_succ, List.getElem?_cons_zero, List.length_cons, List.length_nil, ne_eq, aresults, aresult, tupOf, h0, h3, h4]
        refine RF_use (messages_spec ho1' ho2 (open_len l (by omega)) (same_open l).symm) ?_
        rintro u A8 ⟨rfl, rfl⟩
        simp only [sxs, sx_label, vxs, AX.then_, AX.inBlock, aexec, Opd.ev, lputO, reduceIte, Nat.reduceEqDiff, addA, Nat.reduceAdd, Option.some.injEq, exists_eq_left', Option.map_some, Option.bind_some, cond_false, cond_true, chkOk, wantedS, goInt, aidx, List.map_cons, List.map_nil, Int.reduceEq, Int.reduceLT, Int.reduceLE, Int.reduceAdd, Int.reduceSub, BEq.rfl, eq_self, reduceCtorEq, hxs, evParts, repL, List.append_nil, notT, vcells, List.cons_append, List.nil_append, List.getElem?_cons_succ, List.getElem?_cons_zero, List.length_cons, List.length_nil, ne_eq, aresults, aresult, tupOf, h0, h3, h4]
        refine RF_use (batches_spec hl7 (by omega)) ?_
        rintro u A9 ⟨rfl, hk9⟩
        simp only [sxs, sx_label, vxs, AX.then_, AX.inBlock, aexec, Opd.ev, lputO, reduceIte, Nat.reduceEqDiff, addA, Nat.reduceAdd, Option.some.injEq, exists_eq_left', Option.map_some, Option.bind_some, cond_false, cond_true, chkOk, wantedS, goInt, aidx, List.map_cons, List.map_nil, Int.reduceEq, Int.reduceLT, Int.reduceLE, Int.reduceAdd, Int.reduceSub, BEq.rfl, eq_self, reduceCtorEq, hxs, evParts, repL, List.append_nil, notT, vcells, List.cons_append, List.nil_append, List.getElem?_cons_succ, List.getElem?_cons_zero, List.length_cons, List.length_nil, ne_eq, aresults, aresult, tupOf, h0, h3, h4]
        exact ⟨.inr trivial, _, _, rfl, rfl, rfl, ((((hk1.trans hk4 (by simp)).trans hk5 (by simp)).trans hk6 (by simp)).trans hk7 (by simp)).trans hk9 (by simp)⟩
      | cons x suf =>
        have hpl : l.length = pre.length + (suf.length + 1) := by rw [hw]; simp
        have e : ((pre.length : Int) < l.length) := by omega
        have hp : l[pre.length]? = some x := by rw [hw]; simp
        obtain ⟨r, off, cs, sz, ro, o, rfl, hrl, hg, hcell⟩ := hl1.cell hp
        have g0 : cs[off + pre.length * 14]? = some (iv x.kind) := (hcell 0 (by omega)).trans (act0 x)
        have w0 : IntKind.i64.wrap (pre.length + 1) = ((pre ++ [x]).length : Int) := by rw [i64_add (by omega) (by omega)]; simp
        have hnp : nPub pre ≤ pre.length := List.length_filter_le _ _
        have w1 : IntKind.i64.wrap ((nPub pre : Int) + 1) = ((nPub pre + 1 : Nat) : Int) := i64_add (by omega) (by omega)
        have hnx : nPub (pre ++ [x]) = nPub pre + (if x.kind = 1 then 1 else 0) := by simp only [nPub, List.filter_append, List.length_append, List.filter_cons, List.filter_nil]; split <;> simp_all
        simp only [sxs, sx_label, vxs, AX.then_, AX.inBlock, aexec, Opd.ev, lputO, reduceIte, Nat.reduceEqDiff, addA, Nat.reduceAdd, Option.some.injEq, exists_eq_left', Option.map_some, Option.bind_some, cond_false, cond_true, chkOk, wantedS, goInt, aidx, List.map_cons, List.map_nil, Int.reduceEq, Int.reduceLT, Int.reduceLE, Int.reduceAdd, Int.reduceSub, BEq.rfl, eq_self, reduceCtorEq, hxs, evParts, repL, List.append_nil, notT, vcells, List.cons_append, List.nil_append, List.getElem?_cons_succ, List.getElem?_cons_zero, List.length_cons, List.length_nil, ne_eq, aresults, aresult, tupOf, h0, h3, h4, e, hg, g0]
        rcases Classical.em (x.kind = 1) with d | d
        · simp only [sxs, sx_label, vxs, AX.then_, AX.inBlock, aexec, Opd.ev, lputO, reduceIte, Nat.reduceEqDiff, addA, Nat.reduceAdd, Option.some.injEq, exists_eq_left', Option.map_some, Option.bind_some, cond_false, cond_true, chkOk, wantedS, goInt, aidx, List.map_cons, List.map_nil, Int.reduceEq, Int.reduceLT, Int.reduceLE, Int.reduceAdd, Int.reduceSub, BEq.rfl, eq_self, reduceCtorEq, hxs, evParts, repL, List.append_nil, notT, vcells, List.cons_append, List.nil_append, List.getElem?_cons_succ, List.getElem?_cons_zero, List.length_cons, List.length_nil, ne_eq, aresults, aresult, tupOf, h0, h3, h4, w0, w1, d]
          exact ⟨suf.length, by simp at hm; omega, pre ++ [x], suf, by simp [hw], rfl, by rw [hnx, if_pos d], rfl⟩
        · simp only [sxs, sx_label, vxs, AX.then_, AX.inBlock, aexec, Opd.ev, lputO, reduceIte, Nat.reduceEqDiff, addA, Nat.reduceAdd, Option.some.injEq, exists_eq_left', Option.map_some, Option.bind_some, cond_false, cond_true, chkOk, wantedS, goInt, aidx, List.map_cons, List.map_nil, Int.reduceEq, Int.reduceLT, Int.reduceLE, Int.reduceAdd, Int.reduceSub, BEq.rfl, eq_self, reduceCtorEq, hxs, evParts, repL, List.append_nil, notT, vcells, List.cons_append, List.nil_append, List.getElem?_cons_succ, List.getElem?_cons_zero, List.length_cons, List.length_nil, ne_eq, aresults, aresult, tupOf, h0, h3, h4, w0, w1, d]
          exact ⟨suf.length, by simp at hm; omega, pre ++ [x], suf, by simp [hw], rfl, by rw [hnx, if_neg d, Nat.add_zero], rfl⟩
    · exact ⟨[], l, rfl, rfl, rfl, rfl, rfl, rfl⟩
end Go.Proofs.YtiimkdijiddjcaaDoor
