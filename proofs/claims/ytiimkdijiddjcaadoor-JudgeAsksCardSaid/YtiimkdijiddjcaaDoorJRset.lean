/- The document's judge on the abstract machine: a tag goes from one state to another one. -/
import Derived.Test.YtiimkdijiddjcaaDoorJRdef
set_option linter.unusedSimpArgs false
namespace Go.Proofs.YtiimkdijiddjcaaDoor
set_option linter.unusedSimpArgs false
set_option linter.unusedVariables false
set_option linter.unusedSectionVars false
set_option linter.defProp false
open Go Go.Abs JP

set_option maxRecDepth 10000 in
set_option maxHeartbeats 8000000 in
theorem settle_spec {j fr_ to : Nat} {vw vm vt : Value} {s : St} {a : JP.Act} {A : AHeap} (hj : JR j vw vm vt s A) (hs : Small s) :
    EvF AQ EQ 28 [pv j, .agg (actV a).toArray, iv fr_, iv to] A (fun v A' => v = bv (setS s a fr_ to).isSome ∧ Keep (rowL vm ++ rowL vt) A A' ∧ ∀ s', setS s a fr_ to = some s' → JR j vw vm vt s' A') := by
  refine rf_body (fn := Code.a28) rfl ?_
  simp only [Code.a28, sxs, sx_label, vxs, AX.then_, AX.inBlock, aexec, Opd.ev, lputO, reduceIte, Nat.reduceEqDiff, addA, Nat.reduceAdd, Option.some.injEq, exists_eq_left', Option.map_some, Option.bind_some, cond_false, cond_true, chkOk, wantedS, goInt, aidx, List.map_cons, List.map_nil, Int.reduceEq, Int.reduceLT, Int.reduceLE, Int.reduceAdd, Int.reduceSub, BEq.rfl, eq_self, reduceCtorEq, hxs, evParts, repL, List.append_nil, notT, vcells, List.cons_append, List.nil_append, List.getElem?_cons_succ, List.getElem?_cons_zero, List.length_cons, List.length_nil, ne_eq, aresults, aresult, tupOf]
  refine rc_loop (fun m fr A' => ∃ pre suf, s.tags = pre ++ suf ∧ suf.length = m ∧ setL a fr_ to s.tags = (setL a fr_ to suf).map (fun (m, l) => (m, pre ++ l)) ∧
    lget fr 0 = pv j ∧ lget fr 2 = iv fr_ ∧ lget fr 3 = iv to ∧ lget fr 5 = pv A.next ∧ lget fr 8 = bv false ∧ lget fr 9 = iv pre.length ∧ Keep [] A A' ∧ A.next < A'.next ∧ A'.get A.next = some (.row (actV a) 14 false false)) ?_ s.tags.length ?_
  · rintro m fr A1 ⟨pre, suf, hw, hm, hans, h0, h2, h3, h5, h8, h9, hk, hb1, hb⟩
    have hj1 := hj.keep hk (by simp)
    obtain ⟨o, n, c, hv, hn⟩ := hj1.tags.len
    have hr := hj1.rec_
    obtain ⟨t0, t1, t2, t3, ht⟩ : ∃ t0 t1 t2 t3, s.tops = [t0, t1, t2, t3] := by
      have := hj.tops
      match hs : s.tops, this with
      | [a, b, c, d], _ => exact ⟨_, _, _, _, rfl⟩
    rw [hv, ht] at hr
    simp only [List.map_cons, List.map_nil, List.cons_append, List.nil_append] at hr
    rw [len_flat gotV 5 gotV_len] at hn
    have hn : n = s.tags.length := by omega
    subst hn
    cases suf with
    | nil =>
      have e : ¬ ((pre.length : Int) < s.tags.length) := by rw [hw]; simp
      simp only [sxs, sx_label, vxs, AX.then_, AX.inBlock, aexec, Opd.ev, lputO, reduceIte, Nat.reduceEqDiff, addA, Nat.reduceAdd, Option.some.injEq, exists_eq_left', Option.map_some, Option.bind_some, cond_false, cond_true, chkOk, wantedS, goInt, aidx, List.map_cons, List.map_nil, Int.reduceEq, Int.reduceLT, Int.reduceLE, Int.reduceAdd, Int.reduceSub, BEq.rfl, eq_self, reduceCtorEq, hxs, evParts, repL, List.append_nil, notT, vcells, List.cons_append, List.nil_append, List.getElem?_cons_succ, List.getElem?_cons_zero, List.length_cons, List.length_nil, ne_eq, aresults, aresult, tupOf, h0, h2, h3, h5, h8, h9, hr, e]
      refine ⟨.inr trivial, _, _, rfl, rfl, ?_, hk.mono (by simp), ?_⟩
      · simp [setS, hans, setL]
      · intro s' h; simp [setS, hans, setL] at h
    | cons g suf =>
      have e : ((pre.length : Int) < s.tags.length) := by rw [hw]; simp; omega
      have hp : s.tags[pre.length]? = some g := by rw [hw]; simp
      obtain ⟨r, n2, hv2, hg, hl, hlt⟩ := hj1.tags.at (i := pre.length) (by rw [len_flat gotV 5 gotV_len, hw]; simp)
      rw [hv] at hv2
      cases hv2
      subst hv
      have hrd := rdRow_flat gotV 5 gotV_len hg hp
      have hjl : j < A1.next := hj1.lt j (by simp)
      have hrl : r < A1.next := hj1.lt r (by simp [rowL])
      have hn0 : setL a fr_ to (g :: suf) = if g.tg = a.tg ∧ g.state = fr_ then some (g.m, { g with state := to } :: suf) else (setL a fr_ to suf).map fun (m, l) => (m, g :: l) := rfl
      have w0 : IntKind.i64.wrap (pre.length + 1) = ((pre ++ [g]).length : Int) := by
        have hpl : s.tags.length = pre.length + (suf.length + 1) := by rw [hw]; simp
        rw [i64_add (by omega) (by have := hs.tl; omega)]; simp
      have hmiss : (¬ (g.tg = a.tg ∧ g.state = fr_)) → setL a fr_ to s.tags = (setL a fr_ to suf).map (fun (m, l) => (m, pre ++ [g] ++ l)) := by
        intro hne
        rw [hans, hn0, if_neg hne]
        cases setL a fr_ to suf <;> simp
      have hk2 : Keep [] A (A1.new (.row (gotV g) 5 false false)) := hk.trans (Keep.new (own := []) _ _) (by simp)
      simp only [sxs, sx_label, vxs, AX.then_, AX.inBlock, aexec, Opd.ev, lputO, reduceIte, Nat.reduceEqDiff, addA, Nat.reduceAdd, Option.some.injEq, exists_eq_left', Option.map_some, Option.bind_some, cond_false, cond_true, chkOk, wantedS, goInt, aidx, List.map_cons, List.map_nil, Int.reduceEq, Int.reduceLT, Int.reduceLE, Int.reduceAdd, Int.reduceSub, BEq.rfl, eq_self, reduceCtorEq, hxs, evParts, repL, List.append_nil, notT, vcells, List.cons_append, List.nil_append, List.getElem?_cons_succ, List.getElem?_cons_zero, List.length_cons, List.length_nil, ne_eq, aresults, aresult, tupOf, h0, h2, h3, h5, h8, h9, hr, e, hrd, hb, hb1, hjl, w0]
      rcases (Classical.em (g.client = a.client)).symm with c1 | c1
      · simp only [sxs, sx_label, vxs, AX.then_, AX.inBlock, aexec, Opd.ev, lputO, reduceIte, Nat.reduceEqDiff, addA, Nat.reduceAdd, Option.some.injEq, exists_eq_left', Option.map_some, Option.bind_some, cond_false, cond_true, chkOk, wantedS, goInt, aidx, List.map_cons, List.map_nil, Int.reduceEq, Int.reduceLT, Int.reduceLE, Int.reduceAdd, Int.reduceSub, BEq.rfl, eq_self, reduceCtorEq, hxs, evParts, repL, List.append_nil, notT, vcells, List.cons_append, List.nil_append, List.getElem?_cons_succ, List.getElem?_cons_zero, List.length_cons, List.length_nil, ne_eq, aresults, aresult, tupOf, h0, h2, h3, h5, h8, h9, hr, e, hrd, hb, hb1, hjl, w0, c1]
        exact ⟨suf.length, by simp at hm; omega, pre ++ [g], suf, by simp [hw], rfl, hmiss (by simp [Got.tg, Act.tg, c1]), rfl, hk2, by omega⟩
      simp only [sxs, sx_label, vxs, AX.then_, AX.inBlock, aexec, Opd.ev, lputO, reduceIte, Nat.reduceEqDiff, addA, Nat.reduceAdd, Option.some.injEq, exists_eq_left', Option.map_some, Option.bind_some, cond_false, cond_true, chkOk, wantedS, goInt, aidx, List.map_cons, List.map_nil, Int.reduceEq, Int.reduceLT, Int.reduceLE, Int.reduceAdd, Int.reduceSub, BEq.rfl, eq_self, reduceCtorEq, hxs, evParts, repL, List.append_nil, notT, vcells, List.cons_append, List.nil_append, List.getElem?_cons_succ, List.getElem?_cons_zero, List.length_cons, List.length_nil, ne_eq, aresults, aresult, tupOf, h0, h2, h3, h5, h8, h9, hr, e, hrd, hb, hb1, hjl, w0, c1]
      rcases (Classical.em (g.queue = a.queue)).symm with c2 | c2
      · simp only [sxs, sx_label, vxs, AX.then_, AX.inBlock, aexec, Opd.ev, lputO, reduceIte, Nat.reduceEqDiff, addA, Nat.reduceAdd, Option.some.injEq, exists_eq_left', Option.map_some, Option.bind_some, cond_false, cond_true, chkOk, wantedS, goInt, aidx, List.map_cons, List.map_nil, Int.reduceEq, Int.reduceLT, Int.reduceLE, Int.reduceAdd, Int.reduceSub, BEq.rfl, eq_self, reduceCtorEq, hxs, evParts, repL, List.append_nil, notT, vcells, List.cons_append, List.nil_append, List.getElem?_cons_succ, List.getElem?_cons_zero, List.length_cons, List.length_nil, ne_eq, aresults, aresult, tupOf, h0, h2, h3, h5, h8, h9, hr, e, hrd, hb, hb1, hjl, w0, c2]
        exact ⟨suf.length, by simp at hm; omega, pre ++ [g], suf, by simp [hw], rfl, hmiss (by simp [Got.tg, Act.tg, c2]), rfl, hk2, by omega⟩
      simp only [sxs, sx_label, vxs, AX.then_, AX.inBlock, aexec, Opd.ev, lputO, reduceIte, Nat.reduceEqDiff, addA, Nat.reduceAdd, Option.some.injEq, exists_eq_left', Option.map_some, Option.bind_some, cond_false, cond_true, chkOk, wantedS, goInt, aidx, List.map_cons, List.map_nil, Int.reduceEq, Int.reduceLT, Int.reduceLE, Int.reduceAdd, Int.reduceSub, BEq.rfl, eq_self, reduceCtorEq, hxs, evParts, repL, List.append_nil, notT, vcells, List.cons_append, List.nil_append, List.getElem?_cons_succ, List.getElem?_cons_zero, List.length_cons, List.length_nil, ne_eq, aresults, aresult, tupOf, h0, h2, h3, h5, h8, h9, hr, e, hrd, hb, hb1, hjl, w0, c2]
      rcases (Classical.em (g.tag = a.tag)).symm with c3 | c3
      · simp only [sxs, sx_label, vxs, AX.then_, AX.inBlock, aexec, Opd.ev, lputO, reduceIte, Nat.reduceEqDiff, addA, Nat.reduceAdd, Option.some.injEq, exists_eq_left', Option.map_some, Option.bind_some, cond_false, cond_true, chkOk, wantedS, goInt, aidx, List.map_cons, List.map_nil, Int.reduceEq, Int.reduceLT, Int.reduceLE, Int.reduceAdd, Int.reduceSub, BEq.rfl, eq_self, reduceCtorEq, hxs, evParts, repL, List.append_nil, notT, vcells, List.cons_append, List.nil_append, List.getElem?_cons_succ, List.getElem?_cons_zero, List.length_cons, List.length_nil, ne_eq, aresults, aresult, tupOf, h0, h2, h3, h5, h8, h9, hr, e, hrd, hb, hb1, hjl, w0, c3]
        exact ⟨suf.length, by simp at hm; omega, pre ++ [g], suf, by simp [hw], rfl, hmiss (by simp [Got.tg, Act.tg, c3]), rfl, hk2, by omega⟩
      simp only [sxs, sx_label, vxs, AX.then_, AX.inBlock, aexec, Opd.ev, lputO, reduceIte, Nat.reduceEqDiff, addA, Nat.reduceAdd, Option.some.injEq, exists_eq_left', Option.map_some, Option.bind_some, cond_false, cond_true, chkOk, wantedS, goInt, aidx, List.map_cons, List.map_nil, Int.reduceEq, Int.reduceLT, Int.reduceLE, Int.reduceAdd, Int.reduceSub, BEq.rfl, eq_self, reduceCtorEq, hxs, evParts, repL, List.append_nil, notT, vcells, List.cons_append, List.nil_append, List.getElem?_cons_succ, List.getElem?_cons_zero, List.length_cons, List.length_nil, ne_eq, aresults, aresult, tupOf, h0, h2, h3, h5, h8, h9, hr, e, hrd, hb, hb1, hjl, w0, c3]
      rcases (Classical.em ((g.state : Int) = fr_)).symm with c4 | c4
      · simp only [sxs, sx_label, vxs, AX.then_, AX.inBlock, aexec, Opd.ev, lputO, reduceIte, Nat.reduceEqDiff, addA, Nat.reduceAdd, Option.some.injEq, exists_eq_left', Option.map_some, Option.bind_some, cond_false, cond_true, chkOk, wantedS, goInt, aidx, List.map_cons, List.map_nil, Int.reduceEq, Int.reduceLT, Int.reduceLE, Int.reduceAdd, Int.reduceSub, BEq.rfl, eq_self, reduceCtorEq, hxs, evParts, repL, List.append_nil, notT, vcells, List.cons_append, List.nil_append, List.getElem?_cons_succ, List.getElem?_cons_zero, List.length_cons, List.length_nil, ne_eq, aresults, aresult, tupOf, h0, h2, h3, h5, h8, h9, hr, e, hrd, hb, hb1, hjl, w0, c4]
        exact ⟨suf.length, by simp at hm; omega, pre ++ [g], suf, by simp [hw], rfl, hmiss (by rintro ⟨_, h⟩; exact c4 (by omega)), rfl, hk2, by omega⟩
      have hmt : g.tg = a.tg ∧ g.state = fr_ := ⟨by simp [Got.tg, Act.tg, c1, c2, c3], by omega⟩
      have hres : setL a fr_ to s.tags = some (g.m, s.tags.set pre.length { g with state := to }) := by
        rw [hans, hn0, if_pos hmt]; simp [hw]
      have hwr := wrRow_flat (A := A1.new (.row (gotV g) 5 false false)) (vs := [iv to]) gotV 5 gotV_len (off := 4) { g with state := to } ((AHeap.new_lt hrl).trans hg) hp (by simp) rfl
      have hj2 := (hj.keep hk2 (by simp)).tagsSet rfl rfl (s.tags.set pre.length { g with state := to }) List.length_set
      simp only [sxs, sx_label, vxs, AX.then_, AX.inBlock, aexec, Opd.ev, lputO, reduceIte, Nat.reduceEqDiff, addA, Nat.reduceAdd, Option.some.injEq, exists_eq_left', Option.map_some, Option.bind_some, cond_false, cond_true, chkOk, wantedS, goInt, aidx, List.map_cons, List.map_nil, Int.reduceEq, Int.reduceLT, Int.reduceLE, Int.reduceAdd, Int.reduceSub, BEq.rfl, eq_self, reduceCtorEq, hxs, evParts, repL, List.append_nil, notT, vcells, List.cons_append, List.nil_append, List.getElem?_cons_succ, List.getElem?_cons_zero, List.length_cons, List.length_nil, ne_eq, aresults, aresult, tupOf, h0, h2, h3, h5, h8, h9, hr, e, hrd, hb, hb1, hjl, w0, c4, hwr]
      have hrn : r ≠ A1.next := by omega
      have hbg : ((A1.new (.row (gotV g) 5 false false)).set r (.row ((s.tags.set pre.length { g with state := to }).flatMap gotV) 5 false true)).get A1.next = some (.row (gotV g) 5 false false) := by rw [AHeap.set_ne hrn]; exact AHeap.new_get
      have hk3 : Keep [r] A ((A1.new (.row (gotV g) 5 false false)).set r (.row ((s.tags.set pre.length { g with state := to }).flatMap gotV) 5 false true)) := (hk2.mono (by simp)).trans (Keep.set (own := [r]) _ (.inl (by simp))) (fun _ _ h => h)
      generalize (A1.new (.row (gotV g) 5 false false)).set r (.row ((s.tags.set pre.length { g with state := to }).flatMap gotV) 5 false true) = A2 at hj2 hbg hk3 ⊢
      have hgm : g.m < s.ms.length := hs.gm g (by rw [hw]; simp)
      obtain ⟨x, hx⟩ : ∃ x, s.ms[g.m]? = some x := ⟨s.ms[g.m], List.getElem?_eq_getElem hgm⟩
      obtain ⟨q, n2, hv2, hg2, hl2, hlt2⟩ := hj2.ms.at (i := g.m) (by rw [len_flat seenV 11 seenV_len]; simp only; omega)
      rw [len_flat seenV 11 seenV_len] at hl2
      simp only at hl2 hg2
      have hn2 : n2 = s.ms.length := by omega
      subst hn2
      subst hv2
      have hr2 := hj2.rec_
      simp only [ht, List.map_cons, List.map_nil, List.cons_append, List.nil_append] at hr2
      have hqj : q ≠ j := by
        have hnd := hj2.nodup
        simp only [rowL, List.cons_append, List.nil_append, List.nodup_cons, List.mem_cons, List.mem_append, not_or] at hnd
        exact fun e => hnd.1.2.1 e.symm
      have hqa : q ≠ A1.next := by have := hj1.lt q (by simp [rowL]); omega
      have e2 : ((g.m : Int) < s.ms.length) := by omega
      have hfin : ∀ y : Seen, y = toM to x → Keep (rowL (.slice (some ⟨q, 0, none⟩) s.ms.length (capInf * (11 + 1) + s.ms.length)) ++ rowL (.slice (some ⟨r, 0, none⟩) s.tags.length (capInf * (5 + 1) + s.tags.length))) A (A2.set q (.row ((s.ms.set g.m y).flatMap seenV) 11 false true)) ∧
          ∀ s', setS s a fr_ to = some s' → JR j vw (.slice (some ⟨q, 0, none⟩) s.ms.length (capInf * (11 + 1) + s.ms.length)) (.slice (some ⟨r, 0, none⟩) s.tags.length (capInf * (5 + 1) + s.tags.length)) s' (A2.set q (.row ((s.ms.set g.m y).flatMap seenV) 11 false true)) := by
        intro y hy
        refine ⟨(hk3.mono (own' := [q] ++ [r]) (fun id _ h => List.mem_append_right _ h)).trans (Keep.set (own := [q]) _ (.inl (List.mem_singleton.2 rfl))) (fun id _ h => List.mem_append_left _ h), ?_⟩
        intro s' h
        rw [setS, hres] at h
        cases h
        have hme : modAt s.ms g.m (toM to) = s.ms.set g.m y := by
          rw [modAt, set_of_modify _ hx, hy]
        show JR j vw _ _ { s with ms := modAt s.ms g.m (toM to), tags := _ } _
        rw [hme]
        exact hj2.msSet rfl rfl _ List.length_set
      rcases Classical.em ((to : Int) = 1) with d1 | d1
      · have hwa := wrRow_flat (A := A2) (vs := [bv false]) seenV 11 seenV_len (off := 8) { x with hd := false } hg2 hx (by simp) rfl
        have hwb := wrRow_flat (A := A2.set q (.row ((s.ms.set g.m { x with hd := false }).flatMap seenV) 11 false true)) (vs := [bv true]) seenV 11 seenV_len (off := 9) (i := g.m) (x := { x with hd := false }) { x with hd := false, ak := true } AHeap.set_get (by rw [List.getElem?_set_self (by omega)]) (by simp) rfl
        have hqb : ¬ A1.next = q := fun e => hqa e.symm
        simp only [sxs, sx_label, vxs, AX.then_, AX.inBlock, aexec, Opd.ev, lputO, reduceIte, Nat.reduceEqDiff, addA, Nat.reduceAdd, Option.some.injEq, exists_eq_left', Option.map_some, Option.bind_some, cond_false, cond_true, chkOk, wantedS, goInt, aidx, List.map_cons, List.map_nil, Int.reduceEq, Int.reduceLT, Int.reduceLE, Int.reduceAdd, Int.reduceSub, BEq.rfl, eq_self, reduceCtorEq, hxs, evParts, repL, List.append_nil, notT, vcells, List.cons_append, List.nil_append, List.getElem?_cons_succ, List.getElem?_cons_zero, List.length_cons, List.length_nil, ne_eq, aresults, aresult, tupOf, hr2, hbg, h0, d1, e2, hwa, hwb, AHeap.set_ne, hqj, hqa, hqb, AHeap.set_set, List.set_set]
        exact ⟨.inr trivial, _, _, rfl, rfl, by simp [setS, hres], hfin _ (by have h : to = 1 := (by omega); rw [h]; rfl)⟩
      · rcases Classical.em ((to : Int) = 2) with d2 | d2
        · have hwa := wrRow_flat (A := A2) (vs := [bv false]) seenV 11 seenV_len (off := 8) { x with hd := false } hg2 hx (by simp) rfl
          simp only [sxs, sx_label, vxs, AX.then_, AX.inBlock, aexec, Opd.ev, lputO, reduceIte, Nat.reduceEqDiff, addA, Nat.reduceAdd, Option.some.injEq, exists_eq_left', Option.map_some, Option.bind_some, cond_false, cond_true, chkOk, wantedS, goInt, aidx, List.map_cons, List.map_nil, Int.reduceEq, Int.reduceLT, Int.reduceLE, Int.reduceAdd, Int.reduceSub, BEq.rfl, eq_self, reduceCtorEq, hxs, evParts, repL, List.append_nil, notT, vcells, List.cons_append, List.nil_append, List.getElem?_cons_succ, List.getElem?_cons_zero, List.length_cons, List.length_nil, ne_eq, aresults, aresult, tupOf, hr2, hbg, h0, d1, d2, e2, hwa, AHeap.set_ne, hqj, hqa]
          exact ⟨.inr trivial, _, _, rfl, rfl, by simp [setS, hres], hfin _ (by have h : to = 2 := (by omega); rw [h]; rfl)⟩
        · have hwa := wrRow_flat (A := A2) (vs := [bv true]) seenV 11 seenV_len (off := 10) { x with fi := true } hg2 hx (by simp) rfl
          simp only [sxs, sx_label, vxs, AX.then_, AX.inBlock, aexec, Opd.ev, lputO, reduceIte, Nat.reduceEqDiff, addA, Nat.reduceAdd, Option.some.injEq, exists_eq_left', Option.map_some, Option.bind_some, cond_false, cond_true, chkOk, wantedS, goInt, aidx, List.map_cons, List.map_nil, Int.reduceEq, Int.reduceLT, Int.reduceLE, Int.reduceAdd, Int.reduceSub, BEq.rfl, eq_self, reduceCtorEq, hxs, evParts, repL, List.append_nil, notT, vcells, List.cons_append, List.nil_append, List.getElem?_cons_succ, List.getElem?_cons_zero, List.length_cons, List.length_nil, ne_eq, aresults, aresult, tupOf, hr2, hbg, h0, d1, d2, e2, hwa, AHeap.set_ne, hqj, hqa]
          have e1 : ¬ to = 1 := by omega
          have e2 : ¬ to = 2 := by omega
          exact ⟨.inr trivial, _, _, rfl, rfl, by simp [setS, hres], hfin _ (by simp [toM, e1, e2])⟩
  · exact ⟨[], s.tags, rfl, rfl, by simp, rfl, rfl, rfl, rfl, rfl, rfl, Keep.new _ _, by simp [AHeap.new_next], AHeap.new_get⟩
end Go.Proofs.YtiimkdijiddjcaaDoor
