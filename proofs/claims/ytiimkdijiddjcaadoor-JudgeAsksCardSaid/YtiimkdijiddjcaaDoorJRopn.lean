/- The document's judge on the abstract machine: what is open. -/
import Derived.Test.YtiimkdijiddjcaaDoorJRchk
set_option linter.unusedSimpArgs false
namespace Go.Proofs.YtiimkdijiddjcaaDoor
set_option linter.unusedSimpArgs false
set_option linter.unusedVariables false
set_option linter.unusedSectionVars false
set_option linter.defProp false
open Go Go.Abs JP

def msgV (x : Int × Int × Str × Str) : List Value := [iv x.1, iv x.2.1, sv x.2.2.1, sv x.2.2.2, bv false]
theorem msgV_len (x : Int × Int × Str × Str) : (msgV x).length = 5 := (rfl)
def smsg (x : Seen) : Int × Int × Str × Str := (x.pub, x.seq, x.key, x.body)
def openP (w : List Post) (x : Seen) : Bool := decide (stOf w x.post = 1 ∧ x.ak = false ∧ x.fi = false)
theorem openS_eq (s : St) : openS s = s.ms.filter (openP s.wait) := rfl
/-- what a call hands out: messages in a row of their own -/
def OPost (ms : List (Int × Int × Str × Str)) (A : AHeap) (u : Value) (A' : AHeap) : Prop :=
  Sl A' 5 u (ms.flatMap msgV) ∧ (∀ r ∈ rowL u, A.next ≤ r ∧ r < A'.next) ∧ Keep [] A A'

set_option maxRecDepth 10000 in
set_option maxHeartbeats 4000000 in
theorem open_spec {v : Value} {l : List JP.Act} {A : AHeap} (hl : Acts A v l) (hn : l.length ≤ 100) (hsh : Short l) :
    EvF AQ EQ 16 [v] A (OPost ((openL (runS St.start l 0)).map smsg) A) := by
  refine rf_body (fn := Code.a16) rfl ?_
  simp only [Code.a16, sxs, sx_label, vxs, AX.then_, AX.inBlock, aexec, Opd.ev, lputO, reduceIte, Nat.reduceEqDiff, addA, Nat.reduceAdd, Option.some.injEq, exists_eq_left', Option.map_some, Option.bind_some, cond_false, cond_true, chkOk, wantedS, goInt, aidx, List.map_cons, List.map_nil, Int.reduceEq, Int.reduceLT, Int.reduceLE, Int.reduceAdd, Int.reduceSub, BEq.rfl, eq_self, reduceCtorEq, hxs, evParts, repL, List.append_nil, notT, vcells, List.cons_append, List.nil_append, List.getElem?_cons_succ, List.getElem?_cons_zero, List.length_cons, List.length_nil, ne_eq, aresults, aresult, tupOf, fill_J]
  refine rc_loop (fun m fr A' => ∃ pre suf s vw vm vt, l = pre ++ suf ∧ suf.length = m ∧ runS St.start l 0 = runS s suf pre.length ∧ Wf pre.length s ∧ JR A.next vw vm vt s A' ∧ (∀ x ∈ rowL vw ++ (rowL vm ++ rowL vt), A.next ≤ x) ∧
    lget fr 0 = v ∧ lget fr 2 = .slice none 0 0 ∧ lget fr 3 = pv A.next ∧ lget fr 4 = iv pre.length ∧ Keep [] A A') ?_ l.length ?_
  · rintro m fr A1 ⟨pre, suf, s, vw, vm, vt, hw, hm, hrun, hwf, hj, hge, h0, h2, h3, h4, hk⟩
    have hl1 := hl.keep hk (by simp)
    obtain ⟨a, c, hv, _⟩ := hl1.shape
    subst hv
    cases suf with
    | nil =>
      have e : ¬ ((pre.length : Int) < l.length) := by rw [hw]; simp
      have hpl : pre.length = l.length := by rw [hw]; simp
      have hsx := hwf.small (by omega)
      simp only [sxs, sx_label, vxs, AX.then_, AX.inBlock, aexec, Opd.ev, lputO, reduceIte, Nat.reduceEqDiff, addA, Nat.reduceAdd, Option.some.injEq, exists_eq_left', Option.map_some, Option.bind_some, cond_false, cond_true, chkOk, wantedS, goInt, aidx, List.map_cons, List.map_nil, Int.reduceEq, Int.reduceLT, Int.reduceLE, Int.reduceAdd, Int.reduceSub, BEq.rfl, eq_self, reduceCtorEq, hxs, evParts, repL, List.append_nil, notT, vcells, List.cons_append, List.nil_append, List.getElem?_cons_succ, List.getElem?_cons_zero, List.length_cons, List.length_nil, ne_eq, aresults, aresult, tupOf, h0, h2, h3, h4, e]
      refine rc_loop (fun m fr A' => ∃ pre suf vo, s.ms = pre ++ suf ∧ suf.length = m ∧ Sl A' 5 vo (((pre.filter (openP s.wait)).map smsg).flatMap msgV) ∧ (∀ r ∈ rowL vo, A1.next ≤ r ∧ r < A'.next) ∧
        lget fr 3 = pv A.next ∧ lget fr 5 = vo ∧ lget fr 6 = iv pre.length ∧ Keep [] A1 A') ?_ s.ms.length ?_
      · rintro m fr A2 ⟨pre, suf, vo, hw, hm, ho, hor, h3, h5, h6, hk2⟩
        have hj2 := hj.keep hk2 (by simp)
        obtain ⟨t0, t1, t2, t3, ht, hr⟩ := hj2.four
        cases suf with
        | nil =>
          have e : ¬ ((pre.length : Int) < s.ms.length) := by rw [hw]; simp
          have hpre : pre = s.ms := by simpa using hw.symm
          subst hpre
          obtain ⟨om, nm, cm, hvm, hnm⟩ := hj2.ms.len
          rw [len_flat seenV 11 seenV_len] at hnm
          have hnm : nm = s.ms.length := by omega
          subst hnm hvm
          simp only [sxs, sx_label, vxs, AX.then_, AX.inBlock, aexec, Opd.ev, lputO, reduceIte, Nat.reduceEqDiff, addA, Nat.reduceAdd, Option.some.injEq, exists_eq_left', Option.map_some, Option.bind_some, cond_false, cond_true, chkOk, wantedS, goInt, aidx, List.map_cons, List.map_nil, Int.reduceEq, Int.reduceLT, Int.reduceLE, Int.reduceAdd, Int.reduceSub, BEq.rfl, eq_self, reduceCtorEq, hxs, evParts, repL, List.append_nil, notT, vcells, List.cons_append, List.nil_append, List.getElem?_cons_succ, List.getElem?_cons_zero, List.length_cons, List.length_nil, ne_eq, aresults, aresult, tupOf, h3, h5, h6, hr, e]
          refine ⟨.inr trivial, _, _, rfl, rfl, ?_, ?_, hk.trans hk2 (by simp)⟩
          · rw [hrun]; exact ho
          · exact fun r hr => ⟨by have := (hor r hr).1; have := hk.next; omega, (hor r hr).2⟩
        | cons x suf =>
          have e : ((pre.length : Int) < s.ms.length) := by rw [hw]; simp; omega
          have hp : s.ms[pre.length]? = some x := by rw [hw]; simp
          have hpl2 : s.ms.length = pre.length + (suf.length + 1) := by rw [hw]; simp
          obtain ⟨q, n2, hv2, hg, hlq, hlt⟩ := hj2.ms.at (i := pre.length) (by rw [len_flat seenV 11 seenV_len]; omega)
          rw [len_flat seenV 11 seenV_len] at hlq
          have hnq : n2 = s.ms.length := by omega
          subst hnq hv2
          have hxw : x.post < s.wait.length := hwf.mp x (by rw [hw]; simp)
          obtain ⟨p, hpw⟩ : ∃ p, s.wait[x.post]? = some p := ⟨s.wait[x.post], List.getElem?_eq_getElem hxw⟩
          obtain ⟨rw_, nw, hvw, hgw, hlw, hltw⟩ := hj2.wait.at (i := x.post) (by rw [len_flat postV 6 postV_len]; omega)
          rw [len_flat postV 6 postV_len] at hlw
          have hnw : nw = s.wait.length := by omega
          subst hnw hvw
          have hst5 : (s.wait.flatMap postV)[x.post * 6 + 5]? = some (iv p.state) := (get_flat postV 6 postV_len _ _ 5 _ hpw (by omega)).trans rfl
          have hst : stOf s.wait x.post = p.state := by simp [stOf, hpw]
          have ep : ((x.post : Int) < s.wait.length) := by omega
          have hpo : (s.ms.flatMap seenV)[pre.length * 11 + 1]? = some (iv x.post) := (get_flat seenV 11 seenV_len _ _ 1 _ hp (by omega)).trans rfl
          have hak : (s.ms.flatMap seenV)[pre.length * 11 + 9]? = some (bv x.ak) := (get_flat seenV 11 seenV_len _ _ 9 _ hp (by omega)).trans rfl
          have hfi : (s.ms.flatMap seenV)[pre.length * 11 + 10]? = some (bv x.fi) := (get_flat seenV 11 seenV_len _ _ 10 _ hp (by omega)).trans rfl
          have hrd : rdRow A2 q (pre.length * 11 + 2) 5 = some [iv x.pub, iv x.seq, sv x.key, sv x.body, bv false] := (rdRow_part seenV 11 seenV_len 2 5 hg hp (by omega)).trans rfl
          have w0 : IntKind.i64.wrap (pre.length + 1) = ((pre ++ [x]).length : Int) := by rw [i64_add (by omega) (by have := hwf.ml; omega)]; simp
          obtain ⟨bb, hbb⟩ : ∃ bb : Bool, bb = openP s.wait x := ⟨_, rfl⟩
          simp only [sxs, sx_label, vxs, AX.then_, AX.inBlock, aexec, Opd.ev, lputO, reduceIte, Nat.reduceEqDiff, addA, Nat.reduceAdd, Option.some.injEq, exists_eq_left', Option.map_some, Option.bind_some, cond_false, cond_true, chkOk, wantedS, goInt, aidx, List.map_cons, List.map_nil, Int.reduceEq, Int.reduceLT, Int.reduceLE, Int.reduceAdd, Int.reduceSub, BEq.rfl, eq_self, reduceCtorEq, hxs, evParts, repL, List.append_nil, notT, vcells, List.cons_append, List.nil_append, List.getElem?_cons_succ, List.getElem?_cons_zero, List.length_cons, List.length_nil, ne_eq, aresults, aresult, tupOf, h3, h5, h6, e, hr, hg, hgw, hpo, hak, hfi, hst5, ep]
          refine RG_cut (fun fr' A' => A' = A2 ∧ lget fr' 3 = pv A.next ∧ lget fr' 5 = vo ∧ lget fr' 6 = iv pre.length ∧ lget fr' 68 = bv bb) ?_ ?_
          · rcases (Classical.em ((p.state : Int) = 1)).symm with d1 | d1
            · have hbf : bb = false := by rw [hbb]; simp [openP, hst, show ¬ p.state = 1 by omega]
              simp only [sxs, sx_label, vxs, AX.then_, AX.inBlock, aexec, Opd.ev, lputO, reduceIte, Nat.reduceEqDiff, addA, Nat.reduceAdd, Option.some.injEq, exists_eq_left', Option.map_some, Option.bind_some, cond_false, cond_true, chkOk, wantedS, goInt, aidx, List.map_cons, List.map_nil, Int.reduceEq, Int.reduceLT, Int.reduceLE, Int.reduceAdd, Int.reduceSub, BEq.rfl, eq_self, reduceCtorEq, hxs, evParts, repL, List.append_nil, notT, vcells, List.cons_append, List.nil_append, List.getElem?_cons_succ, List.getElem?_cons_zero, List.length_cons, List.length_nil, ne_eq, aresults, aresult, tupOf, h3, h5, h6, e, hr, hg, hgw, hpo, hak, hfi, hst5, ep, d1, hbf]
            simp only [sxs, sx_label, vxs, AX.then_, AX.inBlock, aexec, Opd.ev, lputO, reduceIte, Nat.reduceEqDiff, addA, Nat.reduceAdd, Option.some.injEq, exists_eq_left', Option.map_some, Option.bind_some, cond_false, cond_true, chkOk, wantedS, goInt, aidx, List.map_cons, List.map_nil, Int.reduceEq, Int.reduceLT, Int.reduceLE, Int.reduceAdd, Int.reduceSub, BEq.rfl, eq_self, reduceCtorEq, hxs, evParts, repL, List.append_nil, notT, vcells, List.cons_append, List.nil_append, List.getElem?_cons_succ, List.getElem?_cons_zero, List.length_cons, List.length_nil, ne_eq, aresults, aresult, tupOf, h3, h5, h6, e, hr, hg, hgw, hpo, hak, hfi, hst5, ep, d1]
            cases d2 : x.ak with
            | true =>
              have hbf : bb = false := by rw [hbb]; simp [openP, d2]
              simp only [sxs, sx_label, vxs, AX.then_, AX.inBlock, aexec, Opd.ev, lputO, reduceIte, Nat.reduceEqDiff, addA, Nat.reduceAdd, Option.some.injEq, exists_eq_left', Option.map_some, Option.bind_some, cond_false, cond_true, chkOk, wantedS, goInt, aidx, List.map_cons, List.map_nil, Int.reduceEq, Int.reduceLT, Int.reduceLE, Int.reduceAdd, Int.reduceSub, BEq.rfl, eq_self, reduceCtorEq, hxs, evParts, repL, List.append_nil, notT, vcells, List.cons_append, List.nil_append, List.getElem?_cons_succ, List.getElem?_cons_zero, List.length_cons, List.length_nil, ne_eq, aresults, aresult, tupOf, h3, h5, h6, e, hr, hg, hgw, hpo, hak, hfi, hst5, ep, hbf]
            | false =>
            simp only [sxs, sx_label, vxs, AX.then_, AX.inBlock, aexec, Opd.ev, lputO, reduceIte, Nat.reduceEqDiff, addA, Nat.reduceAdd, Option.some.injEq, exists_eq_left', Option.map_some, Option.bind_some, cond_false, cond_true, chkOk, wantedS, goInt, aidx, List.map_cons, List.map_nil, Int.reduceEq, Int.reduceLT, Int.reduceLE, Int.reduceAdd, Int.reduceSub, BEq.rfl, eq_self, reduceCtorEq, hxs, evParts, repL, List.append_nil, notT, vcells, List.cons_append, List.nil_append, List.getElem?_cons_succ, List.getElem?_cons_zero, List.length_cons, List.length_nil, ne_eq, aresults, aresult, tupOf, h3, h5, h6, e, hr, hg, hgw, hpo, hak, hfi, hst5, ep]
            cases d3 : x.fi with
            | true =>
              have hbf : bb = false := by rw [hbb]; simp [openP, d3]
              simp only [sxs, sx_label, vxs, AX.then_, AX.inBlock, aexec, Opd.ev, lputO, reduceIte, Nat.reduceEqDiff, addA, Nat.reduceAdd, Option.some.injEq, exists_eq_left', Option.map_some, Option.bind_some, cond_false, cond_true, chkOk, wantedS, goInt, aidx, List.map_cons, List.map_nil, Int.reduceEq, Int.reduceLT, Int.reduceLE, Int.reduceAdd, Int.reduceSub, BEq.rfl, eq_self, reduceCtorEq, hxs, evParts, repL, List.append_nil, notT, vcells, List.cons_append, List.nil_append, List.getElem?_cons_succ, List.getElem?_cons_zero, List.length_cons, List.length_nil, ne_eq, aresults, aresult, tupOf, h3, h5, h6, e, hr, hg, hgw, hpo, hak, hfi, hst5, ep, hbf]
            | false =>
              have hbf : bb = true := by rw [hbb]; simp [openP, hst, d2, d3, show p.state = 1 by omega]
              simp only [sxs, sx_label, vxs, AX.then_, AX.inBlock, aexec, Opd.ev, lputO, reduceIte, Nat.reduceEqDiff, addA, Nat.reduceAdd, Option.some.injEq, exists_eq_left', Option.map_some, Option.bind_some, cond_false, cond_true, chkOk, wantedS, goInt, aidx, List.map_cons, List.map_nil, Int.reduceEq, Int.reduceLT, Int.reduceLE, Int.reduceAdd, Int.reduceSub, BEq.rfl, eq_self, reduceCtorEq, hxs, evParts, repL, List.append_nil, notT, vcells, List.cons_append, List.nil_append, List.getElem?_cons_succ, List.getElem?_cons_zero, List.length_cons, List.length_nil, ne_eq, aresults, aresult, tupOf, h3, h5, h6, e, hr, hg, hgw, hpo, hak, hfi, hst5, ep, hbf]
          · rintro fr2 A3 ⟨rfl, h3, h5, h6, h68⟩
            simp only [sxs, sx_label, vxs, AX.then_, AX.inBlock, aexec, Opd.ev, lputO, reduceIte, Nat.reduceEqDiff, addA, Nat.reduceAdd, Option.some.injEq, exists_eq_left', Option.map_some, Option.bind_some, cond_false, cond_true, chkOk, wantedS, goInt, aidx, List.map_cons, List.map_nil, Int.reduceEq, Int.reduceLT, Int.reduceLE, Int.reduceAdd, Int.reduceSub, BEq.rfl, eq_self, reduceCtorEq, hxs, evParts, repL, List.append_nil, notT, vcells, List.cons_append, List.nil_append, List.getElem?_cons_succ, List.getElem?_cons_zero, List.length_cons, List.length_nil, ne_eq, aresults, aresult, tupOf, h68]
            cases hbv : bb with
            | false =>
              simp only [sxs, sx_label, vxs, AX.then_, AX.inBlock, aexec, Opd.ev, lputO, reduceIte, Nat.reduceEqDiff, addA, Nat.reduceAdd, Option.some.injEq, exists_eq_left', Option.map_some, Option.bind_some, cond_false, cond_true, chkOk, wantedS, goInt, aidx, List.map_cons, List.map_nil, Int.reduceEq, Int.reduceLT, Int.reduceLE, Int.reduceAdd, Int.reduceSub, BEq.rfl, eq_self, reduceCtorEq, hxs, evParts, repL, List.append_nil, notT, vcells, List.cons_append, List.nil_append, List.getElem?_cons_succ, List.getElem?_cons_zero, List.length_cons, List.length_nil, ne_eq, aresults, aresult, tupOf, h3, h5, h6, w0]
              exact ⟨suf.length, by simp at hm; omega, pre ++ [x], suf, vo, by simp [hw], rfl, by rw [List.filter_append, List.filter_cons, ← hbb, hbv]; simpa using ho, hor, rfl, rfl, hk2⟩
            | true =>
              simp only [sxs, sx_label, vxs, AX.then_, AX.inBlock, aexec, Opd.ev, lputO, reduceIte, Nat.reduceEqDiff, addA, Nat.reduceAdd, Option.some.injEq, exists_eq_left', Option.map_some, Option.bind_some, cond_false, cond_true, chkOk, wantedS, goInt, aidx, List.map_cons, List.map_nil, Int.reduceEq, Int.reduceLT, Int.reduceLE, Int.reduceAdd, Int.reduceSub, BEq.rfl, eq_self, reduceCtorEq, hxs, evParts, repL, List.append_nil, notT, vcells, List.cons_append, List.nil_append, List.getElem?_cons_succ, List.getElem?_cons_zero, List.length_cons, List.length_nil, ne_eq, aresults, aresult, tupOf, h3, h5, h6, hr, e, hrd]
              have hcl : ((pre.filter (openP s.wait)).map smsg).length ≤ 8000 := by
                have := hsx.ml
                have := List.length_filter_le (openP s.wait) pre
                simp only [List.length_map]; omega
              have ho2 : Sl (A3.new (.row (msgV (smsg x)) 5 false false)) 5 vo _ := ho.keep (Keep.new (own := []) _ _) (fun r hr => ⟨(hor r hr).2, by simp⟩)
              obtain ⟨A4, happ, hn4, hg4, hk4⟩ := ho2.app (bytes := 56) (m := ((pre.filter (openP s.wait)).map smsg).length) (x := .slice (some ⟨A3.next, 0, none⟩) 1 1) (n := 1) (new := msgV (smsg x))
                (len_flat msgV 5 msgV_len _) (by omega) rfl (rdRow_all AHeap.new_get rfl) rfl (by omega) (by omega) (by omega)
              refine RX_use happ ?_
              simp only [sxs, sx_label, vxs, AX.then_, AX.inBlock, aexec, Opd.ev, lputO, reduceIte, Nat.reduceEqDiff, addA, Nat.reduceAdd, Option.some.injEq, exists_eq_left', Option.map_some, Option.bind_some, cond_false, cond_true, chkOk, wantedS, goInt, aidx, List.map_cons, List.map_nil, Int.reduceEq, Int.reduceLT, Int.reduceLE, Int.reduceAdd, Int.reduceSub, BEq.rfl, eq_self, reduceCtorEq, hxs, evParts, repL, List.append_nil, notT, vcells, List.cons_append, List.nil_append, List.getElem?_cons_succ, List.getElem?_cons_zero, List.length_cons, List.length_nil, ne_eq, aresults, aresult, tupOf, h3, h5, h6, w0]
              refine ⟨suf.length, by simp at hm; omega, pre ++ [x], suf, _, by simp [hw], rfl, ?_, ?_, rfl, rfl, ?_⟩
              · rw [List.filter_append, List.filter_cons, ← hbb, hbv]
                simp only [if_true, List.filter_nil, List.map_append, List.map_cons, List.map_nil, List.flatMap_append, List.flatMap_cons, List.flatMap_nil, List.append_nil]
                refine .own hg4 ?_
                simp only [List.length_append, len_flat msgV 5 msgV_len, msgV_len]; omega
              · intro r hr
                simp only [rowL, List.mem_singleton] at hr
                rw [hr, hn4, AHeap.new_next]
                have := hk2.next; omega
              · refine (hk2.trans (Keep.new (own := []) A3 (.row (msgV (smsg x)) 5 false false)) (by simp)).trans hk4 (fun id hid h => ?_)
                have := (hor id h).1; omega
      · exact ⟨[], s.ms, .slice none 0 0, rfl, rfl, .nil, by simp [rowL], by simp only [lget_lput, reduceIte, Nat.reduceEqDiff, h3], by simp only [lget_lput, reduceIte, Nat.reduceEqDiff], by simp only [lget_lput, reduceIte]; rfl, Keep.refl _ _⟩
    | cons x suf =>
      have hpl : l.length = pre.length + (suf.length + 1) := by rw [hw]; simp
      have e : ((pre.length : Int) < l.length) := by omega
      have hp : l[pre.length]? = some x := by rw [hw]; simp
      obtain ⟨r, off, rfl, hrl, hrd⟩ := hl1.at hp
      have hsx := hwf.small (by omega)
      have w0 : IntKind.i64.wrap (pre.length + 1) = ((pre ++ [x]).length : Int) := by rw [i64_add (by omega) (by omega)]; simp
      simp only [sxs, sx_label, vxs, AX.then_, AX.inBlock, aexec, Opd.ev, lputO, reduceIte, Nat.reduceEqDiff, addA, Nat.reduceAdd, Option.some.injEq, exists_eq_left', Option.map_some, Option.bind_some, cond_false, cond_true, chkOk, wantedS, goInt, aidx, List.map_cons, List.map_nil, Int.reduceEq, Int.reduceLT, Int.reduceLE, Int.reduceAdd, Int.reduceSub, BEq.rfl, eq_self, reduceCtorEq, hxs, evParts, repL, List.append_nil, notT, vcells, List.cons_append, List.nil_append, List.getElem?_cons_succ, List.getElem?_cons_zero, List.length_cons, List.length_nil, ne_eq, aresults, aresult, tupOf, h0, h2, h3, h4, e, hrd]
      refine RF_use (add_spec hj hsx (hsh x (by rw [hw]; simp))) ?_
      rintro u A2 ⟨rfl, hk2, hj2⟩
      have hk3 : Keep [] A A2 := hk.trans hk2 (fun id hid h => by
        have := hge id
        simp only [List.mem_append, List.mem_singleton] at h this
        rcases h with h | h
        · omega
        · have := this h; omega)
      cases hadd : addS s x with
      | none =>
        simp only [sxs, sx_label, vxs, AX.then_, AX.inBlock, aexec, Opd.ev, lputO, reduceIte, Nat.reduceEqDiff, addA, Nat.reduceAdd, Option.some.injEq, exists_eq_left', Option.map_some, Option.bind_some, cond_false, cond_true, chkOk, wantedS, goInt, aidx, List.map_cons, List.map_nil, Int.reduceEq, Int.reduceLT, Int.reduceLE, Int.reduceAdd, Int.reduceSub, BEq.rfl, eq_self, reduceCtorEq, hxs, evParts, repL, List.append_nil, notT, vcells, List.cons_append, List.nil_append, List.getElem?_cons_succ, List.getElem?_cons_zero, List.length_cons, List.length_nil, ne_eq, aresults, aresult, tupOf, h0, h2, h3, h4, e, hrd, w0, Option.isSome_none]
        refine ⟨.inr trivial, _, _, rfl, rfl, ?_, by simp [rowL], hk3⟩
        rw [hrun]; simp only [runS, hadd, openL]; exact .nil
      | some s2 =>
        simp only [sxs, sx_label, vxs, AX.then_, AX.inBlock, aexec, Opd.ev, lputO, reduceIte, Nat.reduceEqDiff, addA, Nat.reduceAdd, Option.some.injEq, exists_eq_left', Option.map_some, Option.bind_some, cond_false, cond_true, chkOk, wantedS, goInt, aidx, List.map_cons, List.map_nil, Int.reduceEq, Int.reduceLT, Int.reduceLE, Int.reduceAdd, Int.reduceSub, BEq.rfl, eq_self, reduceCtorEq, hxs, evParts, repL, List.append_nil, notT, vcells, List.cons_append, List.nil_append, List.getElem?_cons_succ, List.getElem?_cons_zero, List.length_cons, List.length_nil, ne_eq, aresults, aresult, tupOf, h0, h2, h3, h4, e, hrd, w0, Option.isSome_some]
        obtain ⟨vw', vm', vt', hj3, hr3⟩ := hj2 s2 hadd
        refine ⟨suf.length, by simp at hm; omega, pre ++ [x], suf, s2, vw', vm', vt', by simp [hw], rfl, ?_, by simpa using addS_wf hwf hadd, hj3, ?_, rfl, hk3⟩
        · rw [hrun]; simp [runS, hadd]
        · intro y hy
          rcases hr3 y hy with h | h
          · exact hge y h
          · have := hk.next; omega
  · exact ⟨[], l, St.start, .slice none 0 0, .slice none 0 0, .slice none 0 0, rfl, rfl, rfl, Wf.start, JR_start A, by simp [rowL], rfl, rfl, rfl, rfl, Keep.new _ _⟩
end Go.Proofs.YtiimkdijiddjcaaDoor
