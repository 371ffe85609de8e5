/- The document's judge on the abstract machine: a message is handed out. -/
import Derived.Test.YtiimkdijiddjcaaDoorJRdef
set_option linter.unusedSimpArgs false
namespace Go.Proofs.YtiimkdijiddjcaaDoor
set_option linter.unusedSimpArgs false
set_option linter.unusedVariables false
set_option linter.unusedSectionVars false
set_option linter.defProp false
open Go Go.Abs JP

def kOf : Option Nat → Int
  | none => -1
  | some k => k

set_option maxRecDepth 10000 in
set_option maxHeartbeats 4000000 in
theorem deliver_spec {j : Nat} {vw vm vt : Value} {s : St} {a : JP.Act} {A : AHeap} (hj : JR j vw vm vt s A) (hs : Small s) (hcl : 0 ≤ a.client ∧ a.client < 4) :
    EvF AQ EQ 27 [pv j, .agg (actV a).toArray] A (fun v A' => v = bv (delS s a).isSome ∧ Keep ([j] ++ (rowL vm ++ rowL vt)) A A' ∧ ∀ s', delS s a = some s' →
      ∃ vt', JR j vw vm vt' s' A' ∧ (∀ r ∈ rowL vt', A.next ≤ r)) := by
  refine rf_body (fn := Code.a27) rfl ?_
  obtain ⟨t0, t1, t2, t3, ht, hr0⟩ := hj.four
  have hjA : j < A.next := hj.lt j (by simp)
  obtain ⟨cl, hclE⟩ : ∃ c : Nat, a.client = c := ⟨a.client.toNat, by omega⟩
  have hcl4 : cl < 4 := by omega
  have htop : ([.slice none 0 0, vw, vm, iv t0, iv t1, iv t2, iv t3, vt] : List Value)[3 + cl * 1]? = some (iv (topOf s.tops a.client)) := by
    rw [ht, hclE, topOf, Int.toNat_natCast]
    match cl, hcl4 with
    | 0, _ => rfl
    | 1, _ => rfl
    | 2, _ => rfl
    | 3, _ => rfl
  have hrm : ∀ B : AHeap, rdRow (B.new (.row (actV a) 14 false false)) B.next 9 5 = some [iv a.pub, iv a.mseq, sv a.mkey, sv a.mbody, bv a.again] := fun B => by
    rw [rdRow_at AHeap.new_get (by simp [actV])]; rfl
  have ecl : (cl : Int) < ((4 : Nat) : Int) := by omega
  simp only [Code.a27, sxs, sx_label, vxs, AX.then_, AX.inBlock, aexec, Opd.ev, lputO, reduceIte, Nat.reduceEqDiff, addA, Nat.reduceAdd, Option.some.injEq, exists_eq_left', Option.map_some, Option.bind_some, cond_false, cond_true, chkOk, wantedS, goInt, aidx, List.map_cons, List.map_nil, Int.reduceEq, Int.reduceLT, Int.reduceLE, Int.reduceAdd, Int.reduceSub, BEq.rfl, eq_self, reduceCtorEq, hxs, evParts, repL, List.append_nil, notT, vcells, List.cons_append, List.nil_append, List.getElem?_cons_succ, List.getElem?_cons_zero, List.length_cons, List.length_nil, ne_eq, aresults, aresult, tupOf, hr0, hjA, htop, hrm, hclE, ecl]
  rcases Classical.em (a.tag < 1) with c1 | c1
  · simp only [sxs, sx_label, vxs, AX.then_, AX.inBlock, aexec, Opd.ev, lputO, reduceIte, Nat.reduceEqDiff, addA, Nat.reduceAdd, Option.some.injEq, exists_eq_left', Option.map_some, Option.bind_some, cond_false, cond_true, chkOk, wantedS, goInt, aidx, List.map_cons, List.map_nil, Int.reduceEq, Int.reduceLT, Int.reduceLE, Int.reduceAdd, Int.reduceSub, BEq.rfl, eq_self, reduceCtorEq, hxs, evParts, repL, List.append_nil, notT, vcells, List.cons_append, List.nil_append, List.getElem?_cons_succ, List.getElem?_cons_zero, List.length_cons, List.length_nil, ne_eq, aresults, aresult, tupOf, c1]
    have hn : delS s a = none := by rw [delS, if_pos (.inl c1)]
    exact ⟨.inr trivial, _, _, rfl, rfl, by simp [hn], Keep.new _ _, fun s' h => (by rw [hn] at h; cases h)⟩
  simp only [sxs, sx_label, vxs, AX.then_, AX.inBlock, aexec, Opd.ev, lputO, reduceIte, Nat.reduceEqDiff, addA, Nat.reduceAdd, Option.some.injEq, exists_eq_left', Option.map_some, Option.bind_some, cond_false, cond_true, chkOk, wantedS, goInt, aidx, List.map_cons, List.map_nil, Int.reduceEq, Int.reduceLT, Int.reduceLE, Int.reduceAdd, Int.reduceSub, BEq.rfl, eq_self, reduceCtorEq, hxs, evParts, repL, List.append_nil, notT, vcells, List.cons_append, List.nil_append, List.getElem?_cons_succ, List.getElem?_cons_zero, List.length_cons, List.length_nil, ne_eq, aresults, aresult, tupOf, hr0, hjA, htop, hrm, hclE, ecl, c1]
  rcases Classical.em (a.tag ≤ topOf s.tops cl) with c2 | c2
  · simp only [sxs, sx_label, vxs, AX.then_, AX.inBlock, aexec, Opd.ev, lputO, reduceIte, Nat.reduceEqDiff, addA, Nat.reduceAdd, Option.some.injEq, exists_eq_left', Option.map_some, Option.bind_some, cond_false, cond_true, chkOk, wantedS, goInt, aidx, List.map_cons, List.map_nil, Int.reduceEq, Int.reduceLT, Int.reduceLE, Int.reduceAdd, Int.reduceSub, BEq.rfl, eq_self, reduceCtorEq, hxs, evParts, repL, List.append_nil, notT, vcells, List.cons_append, List.nil_append, List.getElem?_cons_succ, List.getElem?_cons_zero, List.length_cons, List.length_nil, ne_eq, aresults, aresult, tupOf, c2]
    have hn : delS s a = none := by rw [delS, if_pos (.inr (by rw [hclE]; exact c2))]
    exact ⟨.inr trivial, _, _, rfl, rfl, by simp [hn], Keep.new _ _, fun s' h => (by rw [hn] at h; cases h)⟩
  simp only [sxs, sx_label, vxs, AX.then_, AX.inBlock, aexec, Opd.ev, lputO, reduceIte, Nat.reduceEqDiff, addA, Nat.reduceAdd, Option.some.injEq, exists_eq_left', Option.map_some, Option.bind_some, cond_false, cond_true, chkOk, wantedS, goInt, aidx, List.map_cons, List.map_nil, Int.reduceEq, Int.reduceLT, Int.reduceLE, Int.reduceAdd, Int.reduceSub, BEq.rfl, eq_self, reduceCtorEq, hxs, evParts, repL, List.append_nil, notT, vcells, List.cons_append, List.nil_append, List.getElem?_cons_succ, List.getElem?_cons_zero, List.length_cons, List.length_nil, ne_eq, aresults, aresult, tupOf, hr0, hjA, htop, hrm, hclE, ecl, c2]
  have hd0 : delS s a = delT s a := by
    rw [delS, if_neg]
    rintro (h | h)
    · exact c1 h
    · rw [hclE] at h; exact c2 h
  have hstop : ∀ (b : Option Nat) (A1 : AHeap), True := fun _ _ => trivial
  refine rc_loop (fun m fr A' => ∃ pre suf ko, s.ms = pre ++ suf ∧ suf.length = m ∧ lastM (bare a s.wait) s.ms 0 none = lastM (bare a s.wait) suf pre.length ko ∧ (∀ k, ko = some k → k < pre.length) ∧ heldIn a pre = false ∧
    lget fr 0 = pv j ∧ lget fr 3 = pv A.next ∧ lget fr 4 = bv false ∧ lget fr 5 = pv (A.next + 1) ∧ lget fr 6 = iv (kOf ko) ∧ lget fr 7 = iv pre.length ∧ Keep [] A A' ∧ A.next + 1 < A'.next ∧ A'.get A.next = some (.row (actV a) 14 false false) ∧ A'.get (A.next + 1) = some (.row [iv a.pub, iv a.mseq, sv a.mkey, sv a.mbody, bv false] 5 false false)) ?_ s.ms.length ?_
  · rintro m fr A1 ⟨pre, suf, ko, hw, hm, hlast, hko, hheld, h0, h3, h4, h5, h6, h7, hk, hb2, hb, hc⟩
    have hj1 := hj.keep hk (by simp)
    have hb1 : A.next < A1.next := by omega
    obtain ⟨o, n0, c, hv, hn⟩ := hj1.ms.len
    obtain ⟨t0, t1, t2, t3, ht, hr⟩ := hj1.four
    rw [len_flat seenV 11 seenV_len] at hn
    have hn : n0 = s.ms.length := by omega
    subst hn
    have hjl : j < A1.next := hj1.lt j (by simp)
    cases suf with
    | nil =>
      have e : ¬ ((pre.length : Int) < s.ms.length) := by rw [hw]; simp
      subst hv
      have hpre : pre = s.ms := by simpa using hw.symm
      subst hpre
      rw [show lastM (bare a s.wait) [] s.ms.length ko = ko from rfl] at hlast
      cases ko with
      | none =>
        have hn : delS s a = none := by rw [hd0, delT, hheld, hlast]; rfl
        simp only [sxs, sx_label, vxs, AX.then_, AX.inBlock, aexec, Opd.ev, lputO, reduceIte, Nat.reduceEqDiff, addA, Nat.reduceAdd, Option.some.injEq, exists_eq_left', Option.map_some, Option.bind_some, cond_false, cond_true, chkOk, wantedS, goInt, aidx, List.map_cons, List.map_nil, Int.reduceEq, Int.reduceLT, Int.reduceLE, Int.reduceAdd, Int.reduceSub, BEq.rfl, eq_self, reduceCtorEq, hxs, evParts, repL, List.append_nil, notT, vcells, List.cons_append, List.nil_append, List.getElem?_cons_succ, List.getElem?_cons_zero, List.length_cons, List.length_nil, ne_eq, aresults, aresult, tupOf, h0, h3, h4, h5, h6, h7, hr, e, hb, hc, kOf]
        exact ⟨.inr trivial, _, _, rfl, rfl, by simp [hn], hk.mono (by simp), fun s' h => (by rw [hn] at h; cases h)⟩
      | some k =>
        have hkl := hko k rfl
        obtain ⟨x, hx⟩ : ∃ x, s.ms[k]? = some x := ⟨s.ms[k], List.getElem?_eq_getElem hkl⟩
        have hd1 : delS s a = delU s a k x := by
          rw [hd0, delT, hheld, hlast]
          show (match s.ms[k]? with | none => none | some x => delU s a k x) = _
          rw [hx]
        obtain ⟨q, n2, hv2, hg, hl, hlt⟩ := hj1.ms.at (i := k) (by rw [len_flat seenV 11 seenV_len]; omega)
        cases hv2
        have ek : ¬ ((k : Int) < 0) := by omega
        have ek2 : ((k : Int) < s.ms.length) := by omega
        have hfi : (s.ms.flatMap seenV)[k * 11 + 10]? = some (bv x.fi) := (get_flat seenV 11 seenV_len _ _ 10 _ hx (by omega)).trans rfl
        have hdl : (s.ms.flatMap seenV)[k * 11 + 7]? = some (bv x.dl) := (get_flat seenV 11 seenV_len _ _ 7 _ hx (by omega)).trans rfl
        simp only [sxs, sx_label, vxs, AX.then_, AX.inBlock, aexec, Opd.ev, lputO, reduceIte, Nat.reduceEqDiff, addA, Nat.reduceAdd, Option.some.injEq, exists_eq_left', Option.map_some, Option.bind_some, cond_false, cond_true, chkOk, wantedS, goInt, aidx, List.map_cons, List.map_nil, Int.reduceEq, Int.reduceLT, Int.reduceLE, Int.reduceAdd, Int.reduceSub, BEq.rfl, eq_self, reduceCtorEq, hxs, evParts, repL, List.append_nil, notT, vcells, List.cons_append, List.nil_append, List.getElem?_cons_succ, List.getElem?_cons_zero, List.length_cons, List.length_nil, ne_eq, aresults, aresult, tupOf, h0, h3, h4, h5, h6, h7, hr, e, hb, hc, kOf, ek, ek2, hg, hfi, hdl]
        cases hfv : x.fi with
        | true =>
          have hn : delS s a = none := by rw [hd1, delU, if_pos (.inl hfv)]
          simp only [sxs, sx_label, vxs, AX.then_, AX.inBlock, aexec, Opd.ev, lputO, reduceIte, Nat.reduceEqDiff, addA, Nat.reduceAdd, Option.some.injEq, exists_eq_left', Option.map_some, Option.bind_some, cond_false, cond_true, chkOk, wantedS, goInt, aidx, List.map_cons, List.map_nil, Int.reduceEq, Int.reduceLT, Int.reduceLE, Int.reduceAdd, Int.reduceSub, BEq.rfl, eq_self, reduceCtorEq, hxs, evParts, repL, List.append_nil, notT, vcells, List.cons_append, List.nil_append, List.getElem?_cons_succ, List.getElem?_cons_zero, List.length_cons, List.length_nil, ne_eq, aresults, aresult, tupOf]
          exact ⟨.inr trivial, _, _, rfl, rfl, by simp [hn], hk.mono (by simp), fun s' h => (by rw [hn] at h; cases h)⟩
        | false =>
        simp only [sxs, sx_label, vxs, AX.then_, AX.inBlock, aexec, Opd.ev, lputO, reduceIte, Nat.reduceEqDiff, addA, Nat.reduceAdd, Option.some.injEq, exists_eq_left', Option.map_some, Option.bind_some, cond_false, cond_true, chkOk, wantedS, goInt, aidx, List.map_cons, List.map_nil, Int.reduceEq, Int.reduceLT, Int.reduceLE, Int.reduceAdd, Int.reduceSub, BEq.rfl, eq_self, reduceCtorEq, hxs, evParts, repL, List.append_nil, notT, vcells, List.cons_append, List.nil_append, List.getElem?_cons_succ, List.getElem?_cons_zero, List.length_cons, List.length_nil, ne_eq, aresults, aresult, tupOf, h0, h3, h4, h5, h6, h7, hr, e, hb, hc, kOf, ek, ek2, hg, hfi, hdl]
        rcases (Classical.em (a.again = x.dl)).symm with c3 | c3
        · have c3' : (a.again == x.dl) = false := by rw [beq_eq_false_iff_ne]; exact c3
          have hn : delS s a = none := by rw [hd1, delU, if_pos (.inr c3)]
          simp only [sxs, sx_label, vxs, AX.then_, AX.inBlock, aexec, Opd.ev, lputO, reduceIte, Nat.reduceEqDiff, addA, Nat.reduceAdd, Option.some.injEq, exists_eq_left', Option.map_some, Option.bind_some, cond_false, cond_true, chkOk, wantedS, goInt, aidx, List.map_cons, List.map_nil, Int.reduceEq, Int.reduceLT, Int.reduceLE, Int.reduceAdd, Int.reduceSub, BEq.rfl, eq_self, reduceCtorEq, hxs, evParts, repL, List.append_nil, notT, vcells, List.cons_append, List.nil_append, List.getElem?_cons_succ, List.getElem?_cons_zero, List.length_cons, List.length_nil, ne_eq, aresults, aresult, tupOf, c3']
          exact ⟨.inr trivial, _, _, rfl, rfl, by simp [hn], hk.mono (by simp), fun s' h => (by rw [hn] at h; cases h)⟩
        have c3' : (a.again == x.dl) = true := by rw [beq_iff_eq]; exact c3
        have hd2 : delS s a = if a.again = false ∧ JP.ahead a s.wait s.ms = true then none else some { s with tops := s.tops.set a.client.toNat a.tag, ms := modAt s.ms k (fun x => { x with dl := true, hd := true, ak := false }), tags := s.tags ++ [⟨a.client, a.queue, a.tag, k, 0⟩] } := by
          rw [hd1, delU, if_neg]
          rintro (h | h)
          · rw [hfv] at h; cases h
          · exact h c3
        simp only [sxs, sx_label, vxs, AX.then_, AX.inBlock, aexec, Opd.ev, lputO, reduceIte, Nat.reduceEqDiff, addA, Nat.reduceAdd, Option.some.injEq, exists_eq_left', Option.map_some, Option.bind_some, cond_false, cond_true, chkOk, wantedS, goInt, aidx, List.map_cons, List.map_nil, Int.reduceEq, Int.reduceLT, Int.reduceLE, Int.reduceAdd, Int.reduceSub, BEq.rfl, eq_self, reduceCtorEq, hxs, evParts, repL, List.append_nil, notT, vcells, List.cons_append, List.nil_append, List.getElem?_cons_succ, List.getElem?_cons_zero, List.length_cons, List.length_nil, ne_eq, aresults, aresult, tupOf, h0, h3, h4, h5, h6, h7, hr, e, hb, hc, kOf, ek, ek2, hg, hfi, hdl, c3']
        refine RC_cut (fun y fr' A' => (y = .exit 2 ∧ ¬ (a.again = false ∧ JP.ahead a s.wait s.ms = true) ∧ lget fr' 0 = pv j ∧ lget fr' 3 = pv A.next ∧ lget fr' 4 = bv false ∧ lget fr' 6 = iv k ∧ Keep [] A A' ∧ A.next + 1 < A'.next ∧ A'.get A.next = some (.row (actV a) 14 false false)) ∨
          (y = .ret ∧ lget fr' 4 = bv false ∧ Keep [] A A' ∧ delS s a = none)) ?_ ?_
        · refine rc_loop (fun m fr A' => ∃ pre suf, s.ms = pre ++ suf ∧ suf.length = m ∧ (a.again = false → JP.ahead a s.wait pre = false) ∧
            lget fr 0 = pv j ∧ lget fr 3 = pv A.next ∧ lget fr 4 = bv false ∧ lget fr 6 = iv k ∧ lget fr 9 = iv pre.length ∧ Keep [] A A' ∧ A.next + 1 < A'.next ∧ A'.get A.next = some (.row (actV a) 14 false false)) ?_ s.ms.length ?_
          · rintro m fr A1 ⟨pre, suf, hw, hm, hah, h0, h3, h4, h6, h9, hk, hb2, hb⟩
            have hj1 := hj.keep hk (by simp)
            have hb1 : A.next < A1.next := by omega
            obtain ⟨t0, t1, t2, t3, ht, hr⟩ := hj1.four
            have hjl : j < A1.next := hj1.lt j (by simp)
            cases suf with
            | nil =>
              have e : ¬ ((pre.length : Int) < s.ms.length) := by rw [hw]; simp
              have hpre : pre = s.ms := by simpa using hw.symm
              subst hpre
              simp only [sxs, sx_label, vxs, AX.then_, AX.inBlock, aexec, Opd.ev, lputO, reduceIte, Nat.reduceEqDiff, addA, Nat.reduceAdd, Option.some.injEq, exists_eq_left', Option.map_some, Option.bind_some, cond_false, cond_true, chkOk, wantedS, goInt, aidx, List.map_cons, List.map_nil, Int.reduceEq, Int.reduceLT, Int.reduceLE, Int.reduceAdd, Int.reduceSub, BEq.rfl, eq_self, reduceCtorEq, hxs, evParts, repL, List.append_nil, notT, vcells, List.cons_append, List.nil_append, List.getElem?_cons_succ, List.getElem?_cons_zero, List.length_cons, List.length_nil, ne_eq, aresults, aresult, tupOf, h0, h3, h4, h6, h9, hr, e, hb]
              simp only [hk, hb2, and_true, AX.exit.injEq, reduceCtorEq, false_and, or_false, true_and]
              rintro ⟨h1, h2⟩
              rw [hah h1] at h2; cases h2
            | cons x2 suf =>
              have e : ((pre.length : Int) < s.ms.length) := by rw [hw]; simp; omega
              cases hag : a.again with
              | true =>
                simp only [sxs, sx_label, vxs, AX.then_, AX.inBlock, aexec, Opd.ev, lputO, reduceIte, Nat.reduceEqDiff, addA, Nat.reduceAdd, Option.some.injEq, exists_eq_left', Option.map_some, Option.bind_some, cond_false, cond_true, chkOk, wantedS, goInt, aidx, List.map_cons, List.map_nil, Int.reduceEq, Int.reduceLT, Int.reduceLE, Int.reduceAdd, Int.reduceSub, BEq.rfl, eq_self, reduceCtorEq, hxs, evParts, repL, List.append_nil, notT, vcells, List.cons_append, List.nil_append, List.getElem?_cons_succ, List.getElem?_cons_zero, List.length_cons, List.length_nil, ne_eq, aresults, aresult, tupOf, h0, h3, h4, h6, h9, hr, e, hb, hag]
                exact .inl ⟨by simp, hk, by omega⟩
              | false =>
              have hp : s.ms[pre.length]? = some x2 := by rw [hw]; simp
              obtain ⟨r, n2, hv2, hg, hl, hlt⟩ := hj1.ms.at (i := pre.length) (by rw [len_flat seenV 11 seenV_len, hw]; simp)
              cases hv2
              have hxw : x2.post < s.wait.length := hs.mp x2 (by rw [hw]; simp)
              obtain ⟨p, hpw⟩ : ∃ p, s.wait[x2.post]? = some p := ⟨s.wait[x2.post], List.getElem?_eq_getElem hxw⟩
              obtain ⟨rw_, nw, hvw, hgw, hlw, hltw⟩ := hj1.wait.at (i := x2.post) (by rw [len_flat postV 6 postV_len]; omega)
              rw [len_flat postV 6 postV_len] at hlw
              have hnw : nw = s.wait.length := by omega
              subst hnw
              subst hvw
              have hrwl : rw_ < A1.next := hj1.lt rw_ (by simp [rowL])
              have hst5 : (s.wait.flatMap postV)[x2.post * 6 + 5]? = some (iv p.state) := (get_flat postV 6 postV_len _ _ 5 _ hpw (by omega)).trans rfl
              have hst : stOf s.wait x2.post = p.state := by simp [stOf, hpw]
              have ep : ((x2.post : Int) < s.wait.length) := by omega
              have hrd := rdRow_flat seenV 11 seenV_len hg hp
              have w0 : IntKind.i64.wrap (pre.length + 1) = ((pre ++ [x2]).length : Int) := by
                have hpl : s.ms.length = pre.length + (suf.length + 1) := by rw [hw]; simp
                rw [i64_add (by omega) (by have := hs.ml; omega)]; simp
              have hk2 : Keep [] A (A1.new (.row (seenV x2) 11 false false)) := hk.trans (Keep.new (own := []) _ _) (by simp)
              obtain ⟨bb, hbb⟩ : ∃ bb : Bool, bb = decide (x2.queue = a.queue ∧ x2.pub = a.pub ∧ x2.key = a.mkey ∧ x2.seq < a.mseq ∧ stOf s.wait x2.post ≠ 2 ∧ x2.dl = false) := ⟨_, rfl⟩
              have haa : JP.ahead a s.wait (pre ++ [x2]) = (JP.ahead a s.wait pre || bb) := by rw [hbb]; simp [JP.ahead]
              simp only [sxs, sx_label, vxs, AX.then_, AX.inBlock, aexec, Opd.ev, lputO, reduceIte, Nat.reduceEqDiff, addA, Nat.reduceAdd, Option.some.injEq, exists_eq_left', Option.map_some, Option.bind_some, cond_false, cond_true, chkOk, wantedS, goInt, aidx, List.map_cons, List.map_nil, Int.reduceEq, Int.reduceLT, Int.reduceLE, Int.reduceAdd, Int.reduceSub, BEq.rfl, eq_self, reduceCtorEq, hxs, evParts, repL, List.append_nil, notT, vcells, List.cons_append, List.nil_append, List.getElem?_cons_succ, List.getElem?_cons_zero, List.length_cons, List.length_nil, ne_eq, aresults, aresult, tupOf, h0, h3, h4, h6, h9, hr, e, hrd, hb, hb1, hb2, hjl, hag, hgw, hrwl, hst5, ep, w0]
              refine RG_cut (fun fr' A' => A' = A1.new (.row (seenV x2) 11 false false) ∧ lget fr' 0 = pv j ∧ lget fr' 3 = pv A.next ∧ lget fr' 4 = bv false ∧ lget fr' 6 = iv k ∧ lget fr' 9 = iv pre.length ∧ lget fr' 183 = bv bb) ?_ ?_
              · rcases (Classical.em (x2.queue = a.queue)).symm with d1 | d1
                · have hbf : bb = false := by rw [hbb]; simp [d1]
                  simp only [sxs, sx_label, vxs, AX.then_, AX.inBlock, aexec, Opd.ev, lputO, reduceIte, Nat.reduceEqDiff, addA, Nat.reduceAdd, Option.some.injEq, exists_eq_left', Option.map_some, Option.bind_some, cond_false, cond_true, chkOk, wantedS, goInt, aidx, List.map_cons, List.map_nil, Int.reduceEq, Int.reduceLT, Int.reduceLE, Int.reduceAdd, Int.reduceSub, BEq.rfl, eq_self, reduceCtorEq, hxs, evParts, repL, List.append_nil, notT, vcells, List.cons_append, List.nil_append, List.getElem?_cons_succ, List.getElem?_cons_zero, List.length_cons, List.length_nil, ne_eq, aresults, aresult, tupOf, h0, h3, h4, h6, h9, hr, e, hrd, hb, hb1, hb2, hjl, hag, hgw, hrwl, hst5, ep, w0, d1, hbf]
                simp only [sxs, sx_label, vxs, AX.then_, AX.inBlock, aexec, Opd.ev, lputO, reduceIte, Nat.reduceEqDiff, addA, Nat.reduceAdd, Option.some.injEq, exists_eq_left', Option.map_some, Option.bind_some, cond_false, cond_true, chkOk, wantedS, goInt, aidx, List.map_cons, List.map_nil, Int.reduceEq, Int.reduceLT, Int.reduceLE, Int.reduceAdd, Int.reduceSub, BEq.rfl, eq_self, reduceCtorEq, hxs, evParts, repL, List.append_nil, notT, vcells, List.cons_append, List.nil_append, List.getElem?_cons_succ, List.getElem?_cons_zero, List.length_cons, List.length_nil, ne_eq, aresults, aresult, tupOf, h0, h3, h4, h6, h9, hr, e, hrd, hb, hb1, hb2, hjl, hag, hgw, hrwl, hst5, ep, w0, d1]
                rcases (Classical.em (x2.pub = a.pub)).symm with d2 | d2
                · have hbf : bb = false := by rw [hbb]; simp [d2]
                  simp only [sxs, sx_label, vxs, AX.then_, AX.inBlock, aexec, Opd.ev, lputO, reduceIte, Nat.reduceEqDiff, addA, Nat.reduceAdd, Option.some.injEq, exists_eq_left', Option.map_some, Option.bind_some, cond_false, cond_true, chkOk, wantedS, goInt, aidx, List.map_cons, List.map_nil, Int.reduceEq, Int.reduceLT, Int.reduceLE, Int.reduceAdd, Int.reduceSub, BEq.rfl, eq_self, reduceCtorEq, hxs, evParts, repL, List.append_nil, notT, vcells, List.cons_append, List.nil_append, List.getElem?_cons_succ, List.getElem?_cons_zero, List.length_cons, List.length_nil, ne_eq, aresults, aresult, tupOf, h0, h3, h4, h6, h9, hr, e, hrd, hb, hb1, hb2, hjl, hag, hgw, hrwl, hst5, ep, w0, d2, hbf]
                simp only [sxs, sx_label, vxs, AX.then_, AX.inBlock, aexec, Opd.ev, lputO, reduceIte, Nat.reduceEqDiff, addA, Nat.reduceAdd, Option.some.injEq, exists_eq_left', Option.map_some, Option.bind_some, cond_false, cond_true, chkOk, wantedS, goInt, aidx, List.map_cons, List.map_nil, Int.reduceEq, Int.reduceLT, Int.reduceLE, Int.reduceAdd, Int.reduceSub, BEq.rfl, eq_self, reduceCtorEq, hxs, evParts, repL, List.append_nil, notT, vcells, List.cons_append, List.nil_append, List.getElem?_cons_succ, List.getElem?_cons_zero, List.length_cons, List.length_nil, ne_eq, aresults, aresult, tupOf, h0, h3, h4, h6, h9, hr, e, hrd, hb, hb1, hb2, hjl, hag, hgw, hrwl, hst5, ep, w0, d2]
                rcases (Classical.em (x2.key = a.mkey)).symm with d3 | d3
                · have hbf : bb = false := by rw [hbb]; simp [d3]
                  simp only [sxs, sx_label, vxs, AX.then_, AX.inBlock, aexec, Opd.ev, lputO, reduceIte, Nat.reduceEqDiff, addA, Nat.reduceAdd, Option.some.injEq, exists_eq_left', Option.map_some, Option.bind_some, cond_false, cond_true, chkOk, wantedS, goInt, aidx, List.map_cons, List.map_nil, Int.reduceEq, Int.reduceLT, Int.reduceLE, Int.reduceAdd, Int.reduceSub, BEq.rfl, eq_self, reduceCtorEq, hxs, evParts, repL, List.append_nil, notT, vcells, List.cons_append, List.nil_append, List.getElem?_cons_succ, List.getElem?_cons_zero, List.length_cons, List.length_nil, ne_eq, aresults, aresult, tupOf, h0, h3, h4, h6, h9, hr, e, hrd, hb, hb1, hb2, hjl, hag, hgw, hrwl, hst5, ep, w0, d3, hbf]
                simp only [sxs, sx_label, vxs, AX.then_, AX.inBlock, aexec, Opd.ev, lputO, reduceIte, Nat.reduceEqDiff, addA, Nat.reduceAdd, Option.some.injEq, exists_eq_left', Option.map_some, Option.bind_some, cond_false, cond_true, chkOk, wantedS, goInt, aidx, List.map_cons, List.map_nil, Int.reduceEq, Int.reduceLT, Int.reduceLE, Int.reduceAdd, Int.reduceSub, BEq.rfl, eq_self, reduceCtorEq, hxs, evParts, repL, List.append_nil, notT, vcells, List.cons_append, List.nil_append, List.getElem?_cons_succ, List.getElem?_cons_zero, List.length_cons, List.length_nil, ne_eq, aresults, aresult, tupOf, h0, h3, h4, h6, h9, hr, e, hrd, hb, hb1, hb2, hjl, hag, hgw, hrwl, hst5, ep, w0, d3]
                rcases (Classical.em (x2.seq < a.mseq)).symm with d4 | d4
                · have hbf : bb = false := by rw [hbb]; simp [d4]
                  simp only [sxs, sx_label, vxs, AX.then_, AX.inBlock, aexec, Opd.ev, lputO, reduceIte, Nat.reduceEqDiff, addA, Nat.reduceAdd, Option.some.injEq, exists_eq_left', Option.map_some, Option.bind_some, cond_false, cond_true, chkOk, wantedS, goInt, aidx, List.map_cons, List.map_nil, Int.reduceEq, Int.reduceLT, Int.reduceLE, Int.reduceAdd, Int.reduceSub, BEq.rfl, eq_self, reduceCtorEq, hxs, evParts, repL, List.append_nil, notT, vcells, List.cons_append, List.nil_append, List.getElem?_cons_succ, List.getElem?_cons_zero, List.length_cons, List.length_nil, ne_eq, aresults, aresult, tupOf, h0, h3, h4, h6, h9, hr, e, hrd, hb, hb1, hb2, hjl, hag, hgw, hrwl, hst5, ep, w0, d4, hbf]
                simp only [sxs, sx_label, vxs, AX.then_, AX.inBlock, aexec, Opd.ev, lputO, reduceIte, Nat.reduceEqDiff, addA, Nat.reduceAdd, Option.some.injEq, exists_eq_left', Option.map_some, Option.bind_some, cond_false, cond_true, chkOk, wantedS, goInt, aidx, List.map_cons, List.map_nil, Int.reduceEq, Int.reduceLT, Int.reduceLE, Int.reduceAdd, Int.reduceSub, BEq.rfl, eq_self, reduceCtorEq, hxs, evParts, repL, List.append_nil, notT, vcells, List.cons_append, List.nil_append, List.getElem?_cons_succ, List.getElem?_cons_zero, List.length_cons, List.length_nil, ne_eq, aresults, aresult, tupOf, h0, h3, h4, h6, h9, hr, e, hrd, hb, hb1, hb2, hjl, hag, hgw, hrwl, hst5, ep, w0, d4]
                rcases Classical.em ((p.state : Int) = 2) with d5 | d5
                · have hbf : bb = false := by rw [hbb]; simp [hst, show p.state = 2 by omega]
                  simp only [sxs, sx_label, vxs, AX.then_, AX.inBlock, aexec, Opd.ev, lputO, reduceIte, Nat.reduceEqDiff, addA, Nat.reduceAdd, Option.some.injEq, exists_eq_left', Option.map_some, Option.bind_some, cond_false, cond_true, chkOk, wantedS, goInt, aidx, List.map_cons, List.map_nil, Int.reduceEq, Int.reduceLT, Int.reduceLE, Int.reduceAdd, Int.reduceSub, BEq.rfl, eq_self, reduceCtorEq, hxs, evParts, repL, List.append_nil, notT, vcells, List.cons_append, List.nil_append, List.getElem?_cons_succ, List.getElem?_cons_zero, List.length_cons, List.length_nil, ne_eq, aresults, aresult, tupOf, h0, h3, h4, h6, h9, hr, e, hrd, hb, hb1, hb2, hjl, hag, hgw, hrwl, hst5, ep, w0, d5, hbf]
                simp only [sxs, sx_label, vxs, AX.then_, AX.inBlock, aexec, Opd.ev, lputO, reduceIte, Nat.reduceEqDiff, addA, Nat.reduceAdd, Option.some.injEq, exists_eq_left', Option.map_some, Option.bind_some, cond_false, cond_true, chkOk, wantedS, goInt, aidx, List.map_cons, List.map_nil, Int.reduceEq, Int.reduceLT, Int.reduceLE, Int.reduceAdd, Int.reduceSub, BEq.rfl, eq_self, reduceCtorEq, hxs, evParts, repL, List.append_nil, notT, vcells, List.cons_append, List.nil_append, List.getElem?_cons_succ, List.getElem?_cons_zero, List.length_cons, List.length_nil, ne_eq, aresults, aresult, tupOf, h0, h3, h4, h6, h9, hr, e, hrd, hb, hb1, hb2, hjl, hag, hgw, hrwl, hst5, ep, w0, d5]
                cases d6 : x2.dl with
                | true =>
                  have hbf : bb = false := by rw [hbb]; simp [d6]
                  simp only [sxs, sx_label, vxs, AX.then_, AX.inBlock, aexec, Opd.ev, lputO, reduceIte, Nat.reduceEqDiff, addA, Nat.reduceAdd, Option.some.injEq, exists_eq_left', Option.map_some, Option.bind_some, cond_false, cond_true, chkOk, wantedS, goInt, aidx, List.map_cons, List.map_nil, Int.reduceEq, Int.reduceLT, Int.reduceLE, Int.reduceAdd, Int.reduceSub, BEq.rfl, eq_self, reduceCtorEq, hxs, evParts, repL, List.append_nil, notT, vcells, List.cons_append, List.nil_append, List.getElem?_cons_succ, List.getElem?_cons_zero, List.length_cons, List.length_nil, ne_eq, aresults, aresult, tupOf, h0, h3, h4, h6, h9, hr, e, hrd, hb, hb1, hb2, hjl, hag, hgw, hrwl, hst5, ep, w0, hbf]
                | false =>
                  have hbf : bb = true := by rw [hbb]; simp [d1, d2, d3, d4, d6, hst, show ¬ p.state = 2 by omega]
                  simp only [sxs, sx_label, vxs, AX.then_, AX.inBlock, aexec, Opd.ev, lputO, reduceIte, Nat.reduceEqDiff, addA, Nat.reduceAdd, Option.some.injEq, exists_eq_left', Option.map_some, Option.bind_some, cond_false, cond_true, chkOk, wantedS, goInt, aidx, List.map_cons, List.map_nil, Int.reduceEq, Int.reduceLT, Int.reduceLE, Int.reduceAdd, Int.reduceSub, BEq.rfl, eq_self, reduceCtorEq, hxs, evParts, repL, List.append_nil, notT, vcells, List.cons_append, List.nil_append, List.getElem?_cons_succ, List.getElem?_cons_zero, List.length_cons, List.length_nil, ne_eq, aresults, aresult, tupOf, h0, h3, h4, h6, h9, hr, e, hrd, hb, hb1, hb2, hjl, hag, hgw, hrwl, hst5, ep, w0, hbf]
              · rintro fr2 A2 ⟨rfl, h0, h3, h4, h6, h9, h183⟩
                simp only [sxs, sx_label, vxs, AX.then_, AX.inBlock, aexec, Opd.ev, lputO, reduceIte, Nat.reduceEqDiff, addA, Nat.reduceAdd, Option.some.injEq, exists_eq_left', Option.map_some, Option.bind_some, cond_false, cond_true, chkOk, wantedS, goInt, aidx, List.map_cons, List.map_nil, Int.reduceEq, Int.reduceLT, Int.reduceLE, Int.reduceAdd, Int.reduceSub, BEq.rfl, eq_self, reduceCtorEq, hxs, evParts, repL, List.append_nil, notT, vcells, List.cons_append, List.nil_append, List.getElem?_cons_succ, List.getElem?_cons_zero, List.length_cons, List.length_nil, ne_eq, aresults, aresult, tupOf, h183]
                cases hbv : bb with
                | false =>
                  simp only [sxs, sx_label, vxs, AX.then_, AX.inBlock, aexec, Opd.ev, lputO, reduceIte, Nat.reduceEqDiff, addA, Nat.reduceAdd, Option.some.injEq, exists_eq_left', Option.map_some, Option.bind_some, cond_false, cond_true, chkOk, wantedS, goInt, aidx, List.map_cons, List.map_nil, Int.reduceEq, Int.reduceLT, Int.reduceLE, Int.reduceAdd, Int.reduceSub, BEq.rfl, eq_self, reduceCtorEq, hxs, evParts, repL, List.append_nil, notT, vcells, List.cons_append, List.nil_append, List.getElem?_cons_succ, List.getElem?_cons_zero, List.length_cons, List.length_nil, ne_eq, aresults, aresult, tupOf, h0, h3, h4, h6, h9, w0, hb, hb1]
                  exact ⟨suf.length, by simp at hm; omega, pre ++ [x2], suf, by simp [hw], rfl, fun _ => by rw [haa, hah hag, hbv]; rfl, rfl, hk2, by omega⟩
                | true =>
                  simp only [sxs, sx_label, vxs, AX.then_, AX.inBlock, aexec, Opd.ev, lputO, reduceIte, Nat.reduceEqDiff, addA, Nat.reduceAdd, Option.some.injEq, exists_eq_left', Option.map_some, Option.bind_some, cond_false, cond_true, chkOk, wantedS, goInt, aidx, List.map_cons, List.map_nil, Int.reduceEq, Int.reduceLT, Int.reduceLE, Int.reduceAdd, Int.reduceSub, BEq.rfl, eq_self, reduceCtorEq, hxs, evParts, repL, List.append_nil, notT, vcells, List.cons_append, List.nil_append, List.getElem?_cons_succ, List.getElem?_cons_zero, List.length_cons, List.length_nil, ne_eq, aresults, aresult, tupOf, h0, h3, h4, h6, h9, w0, hb, hb1]
                  have hn : delS s a = none := by
                    rw [hd2, if_pos]
                    refine ⟨hag, ?_⟩
                    simp only [JP.ahead, List.any_eq_true]
                    exact ⟨x2, by rw [hw]; simp, by rw [← hbb, hbv]⟩
                  exact .inr ⟨hk2, hn⟩
          · exact ⟨[], s.ms, rfl, rfl, fun _ => rfl, by simp only [lget_lput, reduceIte, Nat.reduceEqDiff, h0], by simp only [lget_lput, reduceIte, Nat.reduceEqDiff, h3], by simp only [lget_lput, reduceIte, Nat.reduceEqDiff, h4], by simp only [lget_lput, reduceIte, Nat.reduceEqDiff, h6, kOf], by simp only [lget_lput, reduceIte]; rfl, hk, hb2, hb⟩
        · rintro y fr2 A2 (⟨rfl, hna, h0, h3, h4, h6, hk, hb2, hb⟩ | ⟨rfl, h4, hk, hn⟩)
          · have hj2 := hj.keep hk (by simp)
            obtain ⟨t0, t1, t2, t3, ht, hr⟩ := hj2.four
            have hj2l : j < A2.next := hj2.lt j (by simp)
            have hwt : wrRow A2 j (3 + cl * 1) [iv a.tag] = some (A2.set j (.row ([.slice none 0 0, vw, .slice (some ⟨q, 0, none⟩) s.ms.length (capInf * (11 + 1) + s.ms.length)] ++ ((s.tops.set cl a.tag).map iv ++ [vt])) 8 false false)) := by
              rw [wrRow_at hr (by simp; omega), ht]
              match cl, hcl4 with
              | 0, _ => rfl
              | 1, _ => rfl
              | 2, _ => rfl
              | 3, _ => rfl
            have hj3 := hj2.topsSet (s.tops.set cl a.tag) (by simp [ht])
            have hk3 : Keep [j] A2 (A2.set j (.row ([.slice none 0 0, vw, .slice (some ⟨q, 0, none⟩) s.ms.length (capInf * (11 + 1) + s.ms.length)] ++ ((s.tops.set cl a.tag).map iv ++ [vt])) 8 false false)) := Keep.set _ (.inl (by simp))
            obtain ⟨A3, hA3⟩ : ∃ A3, A3 = A2.set j (.row ([.slice none 0 0, vw, .slice (some ⟨q, 0, none⟩) s.ms.length (capInf * (11 + 1) + s.ms.length)] ++ ((s.tops.set cl a.tag).map iv ++ [vt])) 8 false false) := ⟨_, rfl⟩
            rw [← hA3] at hwt hj3 hk3
            clear hA3
            have hjne : j ≠ A.next := by omega
            have hb3 : A3.get A.next = some (.row (actV a) 14 false false) := (hk3.get A.next (by omega) (by simp only [List.mem_singleton]; exact fun e => hjne e.symm)).trans hb
            obtain ⟨u0, u1, u2, u3, hu, hr3⟩ := hj3.four
            obtain ⟨q', n', hv3, hg3, hl3, hlt3⟩ := hj3.ms.at (i := k) (by rw [len_flat seenV 11 seenV_len]; simp only; omega)
            cases hv3
            have hqj : q ≠ j := by
              have hnd := hj3.nodup
              simp only [rowL, List.cons_append, List.nil_append, List.nodup_cons, List.mem_cons, List.mem_append, not_or] at hnd
              exact fun e => hnd.1.2.1 e.symm
            have hql : q < A.next := hj.lt q (by simp [rowL])
            have hwa := wrRow_flat (A := A3) (vs := [bv true]) seenV 11 seenV_len (off := 7) { x with dl := true } hg3 hx (by simp) rfl
            have hwb := wrRow_flat (A := A3.set q (.row ((s.ms.set k { x with dl := true }).flatMap seenV) 11 false true)) (vs := [bv true]) seenV 11 seenV_len (off := 8) (i := k) (x := { x with dl := true }) { x with dl := true, hd := true } AHeap.set_get (by rw [List.getElem?_set_self (by omega)]) (by simp) rfl
            have hwc := wrRow_flat (A := A3.set q (.row (((s.ms.set k { x with dl := true }).set k { x with dl := true, hd := true }).flatMap seenV) 11 false true)) (vs := [bv false]) seenV 11 seenV_len (off := 9) (i := k) (x := { x with dl := true, hd := true }) { x with dl := true, hd := true, ak := false } AHeap.set_get (by rw [List.getElem?_set_self (by simp; omega)]) (by simp) rfl
            rw [AHeap.set_set] at hwb hwc
            have hj4 := hj3.msSet rfl rfl (((s.ms.set k { x with dl := true }).set k { x with dl := true, hd := true }).set k { x with dl := true, hd := true, ak := false }) (by simp)
            have hk4 : Keep [q] A3 (A3.set q (.row ((((s.ms.set k { x with dl := true }).set k { x with dl := true, hd := true }).set k { x with dl := true, hd := true, ak := false }).flatMap seenV) 11 false true)) := Keep.set _ (.inl (by simp))
            obtain ⟨A4, hA4⟩ : ∃ A4, A4 = A3.set q (.row ((((s.ms.set k { x with dl := true }).set k { x with dl := true, hd := true }).set k { x with dl := true, hd := true, ak := false }).flatMap seenV) 11 false true) := ⟨_, rfl⟩
            rw [← hA4] at hwc hj4 hk4
            clear hA4
            have hb4 : A4.get A.next = some (.row (actV a) 14 false false) := (hk4.get A.next (by have := hk3.next; omega) (by simp only [List.mem_singleton]; omega)).trans hb3
            obtain ⟨y0, y1, y2, y3, hy, hr4⟩ := hj4.four
            obtain ⟨ot, nt, ct, hvt, hnt⟩ := hj4.tags.len
            rw [len_flat gotV 5 gotV_len] at hnt
            simp only at hnt
            have hnt : nt = s.tags.length := by omega
            subst hnt
            subst hvt
            simp only [sxs, sx_label, vxs, AX.then_, AX.inBlock, aexec, Opd.ev, lputO, reduceIte, Nat.reduceEqDiff, addA, Nat.reduceAdd, Option.some.injEq, exists_eq_left', Option.map_some, Option.bind_some, cond_false, cond_true, chkOk, wantedS, goInt, aidx, List.map_cons, List.map_nil, Int.reduceEq, Int.reduceLT, Int.reduceLE, Int.reduceAdd, Int.reduceSub, BEq.rfl, eq_self, reduceCtorEq, hxs, evParts, repL, List.append_nil, notT, vcells, List.cons_append, List.nil_append, List.getElem?_cons_succ, List.getElem?_cons_zero, List.length_cons, List.length_nil, ne_eq, aresults, aresult, tupOf, h0, h3, h4, h6, hr, hb, hclE, ecl, hwt, hr3, hb3, ek2, hwa, hwb, hwc, hr4, hb4, AHeap.set_ne, hqj]
            have hj5 := hj4.keep (Keep.new (own := []) A4 (.row (gotV ⟨cl, a.queue, a.tag, k, 0⟩) 5 false false)) (by simp)
            obtain ⟨A5, happ, hn5, hg5, hk5⟩ := hj5.tags.app (bytes := 40) (m := s.tags.length) (x := .slice (some ⟨A4.next, 0, none⟩) 1 1) (n := 1) (new := gotV ⟨cl, a.queue, a.tag, k, 0⟩)
              (len_flat gotV 5 gotV_len _) (by omega) rfl (rdRow_all AHeap.new_get rfl) rfl (by omega) (by have := hs.tl; omega) (by have := hs.tl; omega)
            refine RX_use happ ?_
            have hjv : j ∉ rowL (.slice ot s.tags.length ct) := by
              have hnd := hj4.nodup
              simp only [List.cons_append, List.nil_append, List.nodup_cons, List.mem_append, not_or] at hnd
              exact hnd.1.2.2
            have hj4l : j < A4.next := hj4.lt j (by simp)
            have hr5 : A5.get j = some (.row [.slice none 0 0, vw, .slice (some ⟨q, 0, none⟩) s.ms.length (capInf * (11 + 1) + s.ms.length), iv y0, iv y1, iv y2, iv y3, .slice ot s.tags.length ct] 8 false false) := (hk5.get j (by rw [AHeap.new_next]; omega) hjv).trans ((AHeap.new_lt hj4l).trans hr4)
            have hwr : wrRow A5 j 7 [.slice (some ⟨A4.next + 1, 0, none⟩) (s.tags.length + 1) (capInf * (5 + 1) + (s.tags.length + 1))] = some (A5.set j (.row [.slice none 0 0, vw, .slice (some ⟨q, 0, none⟩) s.ms.length (capInf * (11 + 1) + s.ms.length), iv y0, iv y1, iv y2, iv y3, .slice (some ⟨A4.next + 1, 0, none⟩) (s.tags.length + 1) (capInf * (5 + 1) + (s.tags.length + 1))] 8 false false)) := by
              rw [wrRow_at hr5 (by simp)]; rfl
            simp only [sxs, sx_label, vxs, AX.then_, AX.inBlock, aexec, Opd.ev, lputO, reduceIte, Nat.reduceEqDiff, addA, Nat.reduceAdd, Option.some.injEq, exists_eq_left', Option.map_some, Option.bind_some, cond_false, cond_true, chkOk, wantedS, goInt, aidx, List.map_cons, List.map_nil, Int.reduceEq, Int.reduceLT, Int.reduceLE, Int.reduceAdd, Int.reduceSub, BEq.rfl, eq_self, reduceCtorEq, hxs, evParts, repL, List.append_nil, notT, vcells, List.cons_append, List.nil_append, List.getElem?_cons_succ, List.getElem?_cons_zero, List.length_cons, List.length_nil, ne_eq, aresults, aresult, tupOf, h0, hr5, hwr]
            have hfin := hj5.tagsPush (A1 := A5) [⟨cl, a.queue, a.tag, k, 0⟩] hn5 (by simpa using hg5) hk5 (n := s.tags.length + 1) (by simp) (row := [.slice none 0 0, vw, .slice (some ⟨q, 0, none⟩) s.ms.length (capInf * (11 + 1) + s.ms.length), iv y0, iv y1, iv y2, iv y3, .slice (some ⟨A4.next + 1, 0, none⟩) (s.tags.length + 1) (capInf * (5 + 1) + (s.tags.length + 1))]) (by simp only at hy; simp only [hy]; rfl)
            have hres : delS s a = some { s with tops := s.tops.set cl a.tag, ms := ((s.ms.set k { x with dl := true }).set k { x with dl := true, hd := true }).set k { x with dl := true, hd := true, ak := false }, tags := s.tags ++ [⟨cl, a.queue, a.tag, k, 0⟩] } := by
              rw [hd2, if_neg hna, modAt, set_of_modify _ hx, hclE, Int.toNat_natCast]
              simp only [List.set_set]
            refine ⟨.inr trivial, _, _, rfl, rfl, by rw [hres]; rfl, ?_, ?_⟩
            · refine Keep.trans (own' := [j] ++ rowL (.slice ot s.tags.length ct)) (B := A4.new (.row (gotV ⟨cl, a.queue, a.tag, k, 0⟩) 5 false false)) ?_ hfin.2 (fun id _ h => ?_)
              · refine Keep.trans (own' := []) (B := A4) ?_ (Keep.new _ _) (by simp)
                refine Keep.trans (own' := [q]) (B := A3) ?_ hk4 (fun id _ h => ?_)
                · refine Keep.trans (own' := [j]) (B := A2) (hk.mono (by simp)) hk3 (fun id _ h => ?_)
                  simp only [List.mem_singleton] at h; simp [h]
                · simp only [List.mem_singleton] at h; simp [h, rowL]
              · simp only [List.mem_cons, List.mem_append, List.mem_singleton, List.not_mem_nil, or_false] at h ⊢
                rcases h with h | h
                · exact .inl h
                · exact .inr (.inr h)
            · intro s' h
              rw [hres] at h
              cases h
              refine ⟨_, hfin.1, ?_⟩
              intro r hr
              simp only [rowL, List.mem_singleton] at hr
              rw [hr]; show A.next ≤ A4.next + 1
              have := hk3.next; have := hk4.next; omega
          · simp only [sxs, sx_label, vxs, AX.then_, AX.inBlock, aexec, Opd.ev, lputO, reduceIte, Nat.reduceEqDiff, addA, Nat.reduceAdd, Option.some.injEq, exists_eq_left', Option.map_some, Option.bind_some, cond_false, cond_true, chkOk, wantedS, goInt, aidx, List.map_cons, List.map_nil, Int.reduceEq, Int.reduceLT, Int.reduceLE, Int.reduceAdd, Int.reduceSub, BEq.rfl, eq_self, reduceCtorEq, hxs, evParts, repL, List.append_nil, notT, vcells, List.cons_append, List.nil_append, List.getElem?_cons_succ, List.getElem?_cons_zero, List.length_cons, List.length_nil, ne_eq, aresults, aresult, tupOf, h4]
            exact ⟨.inr trivial, _, _, rfl, rfl, by simp [hn], hk.mono (by simp), fun s' h => (by rw [hn] at h; cases h)⟩
    | cons x suf =>
      have e : ((pre.length : Int) < s.ms.length) := by rw [hw]; simp; omega
      have hp : s.ms[pre.length]? = some x := by rw [hw]; simp
      obtain ⟨r, n2, hv2, hg, hl, hlt⟩ := hj1.ms.at (i := pre.length) (by rw [len_flat seenV 11 seenV_len, hw]; simp)
      rw [hv] at hv2
      cases hv2
      subst hv
      have hxw : x.post < s.wait.length := hs.mp x (by rw [hw]; simp)
      obtain ⟨p, hpw⟩ : ∃ p, s.wait[x.post]? = some p := ⟨s.wait[x.post], List.getElem?_eq_getElem hxw⟩
      obtain ⟨rw_, nw, hvw, hgw, hlw, hltw⟩ := hj1.wait.at (i := x.post) (by rw [len_flat postV 6 postV_len]; omega)
      rw [len_flat postV 6 postV_len] at hlw
      have hnw : nw = s.wait.length := by omega
      subst hnw
      subst hvw
      have hrwl : rw_ < A1.next := hj1.lt rw_ (by simp [rowL])
      have hst5 : (s.wait.flatMap postV)[x.post * 6 + 5]? = some (iv p.state) := (get_flat postV 6 postV_len _ _ 5 _ hpw (by omega)).trans rfl
      have hst : stOf s.wait x.post = p.state := by simp [stOf, hpw]
      have ep : ((x.post : Int) < s.wait.length) := by omega
      have hrd := rdRow_flat seenV 11 seenV_len hg hp
      have hrx : rdRow (A1.new (.row (seenV x) 11 false false)) A1.next 2 5 = some [iv x.pub, iv x.seq, sv x.key, sv x.body, bv false] := by
        rw [rdRow_at AHeap.new_get (by simp [seenV_len])]; rfl
      have hrc : rdRow (A1.new (.row (seenV x) 11 false false)) (A.next + 1) 0 5 = some [iv a.pub, iv a.mseq, sv a.mkey, sv a.mbody, bv false] := rdRow_all ((AHeap.new_lt hb2).trans hc) rfl
      have w0 : IntKind.i64.wrap (pre.length + 1) = ((pre ++ [x]).length : Int) := by
        have hpl : s.ms.length = pre.length + (suf.length + 1) := by rw [hw]; simp
        rw [i64_add (by omega) (by have := hs.ml; omega)]; simp
      have hk2 : Keep [] A (A1.new (.row (seenV x) 11 false false)) := hk.trans (Keep.new (own := []) _ _) (by simp)
      have hn0 : lastM (bare a s.wait) (x :: suf) pre.length ko = lastM (bare a s.wait) suf (pre.length + 1) (if bare a s.wait x then some pre.length else ko) := rfl
      have hhe : heldIn a (pre ++ [x]) = (heldIn a pre || decide (x.queue = a.queue ∧ x.key = a.mkey ∧ x.hd)) := by simp [heldIn]
      simp only [sxs, sx_label, vxs, AX.then_, AX.inBlock, aexec, Opd.ev, lputO, reduceIte, Nat.reduceEqDiff, addA, Nat.reduceAdd, Option.some.injEq, exists_eq_left', Option.map_some, Option.bind_some, cond_false, cond_true, chkOk, wantedS, goInt, aidx, List.map_cons, List.map_nil, Int.reduceEq, Int.reduceLT, Int.reduceLE, Int.reduceAdd, Int.reduceSub, BEq.rfl, eq_self, reduceCtorEq, hxs, evParts, repL, List.append_nil, notT, vcells, List.cons_append, List.nil_append, List.getElem?_cons_succ, List.getElem?_cons_zero, List.length_cons, List.length_nil, ne_eq, aresults, aresult, tupOf, h0, h3, h4, h5, h6, h7, hr, e, hrd, hb, hc, hb1, hb2, hjl, w0]
      refine RG_cut (fun fr' A' => A' = A1.new (.row (seenV x) 11 false false) ∧ lget fr' 0 = pv j ∧ lget fr' 3 = pv A.next ∧ lget fr' 4 = bv false ∧ lget fr' 5 = pv (A.next + 1) ∧ lget fr' 6 = iv (kOf ko) ∧ lget fr' 7 = iv pre.length ∧ lget fr' 8 = pv A1.next ∧ lget fr' 67 = bv (bare a s.wait x)) ?_ ?_
      · rcases (Classical.em (x.queue = a.queue)).symm with c1 | c1
        · have hbr : bare a s.wait x = false := by simp [bare, c1]
          simp only [sxs, sx_label, vxs, AX.then_, AX.inBlock, aexec, Opd.ev, lputO, reduceIte, Nat.reduceEqDiff, addA, Nat.reduceAdd, Option.some.injEq, exists_eq_left', Option.map_some, Option.bind_some, cond_false, cond_true, chkOk, wantedS, goInt, aidx, List.map_cons, List.map_nil, Int.reduceEq, Int.reduceLT, Int.reduceLE, Int.reduceAdd, Int.reduceSub, BEq.rfl, eq_self, reduceCtorEq, hxs, evParts, repL, List.append_nil, notT, vcells, List.cons_append, List.nil_append, List.getElem?_cons_succ, List.getElem?_cons_zero, List.length_cons, List.length_nil, ne_eq, aresults, aresult, tupOf, h0, h3, h4, h5, h6, h7, hr, e, hrd, hb, hc, hb1, hb2, hjl, w0, c1, hbr]
        · simp only [sxs, sx_label, vxs, AX.then_, AX.inBlock, aexec, Opd.ev, lputO, reduceIte, Nat.reduceEqDiff, addA, Nat.reduceAdd, Option.some.injEq, exists_eq_left', Option.map_some, Option.bind_some, cond_false, cond_true, chkOk, wantedS, goInt, aidx, List.map_cons, List.map_nil, Int.reduceEq, Int.reduceLT, Int.reduceLE, Int.reduceAdd, Int.reduceSub, BEq.rfl, eq_self, reduceCtorEq, hxs, evParts, repL, List.append_nil, notT, vcells, List.cons_append, List.nil_append, List.getElem?_cons_succ, List.getElem?_cons_zero, List.length_cons, List.length_nil, ne_eq, aresults, aresult, tupOf, h0, h3, h4, h5, h6, h7, hr, e, hrd, hb, hc, hb1, hb2, hjl, w0, hrx, hrc, c1]
          rcases (Classical.em (x.pub = a.pub ∧ x.seq = a.mseq ∧ x.key = a.mkey ∧ x.body = a.mbody)).symm with c2 | c2
          · have hbr : bare a s.wait x = false := by simp only [bare, decide_eq_false_iff_not]; exact fun h => c2 ⟨h.2.1, h.2.2.1, h.2.2.2.1, h.2.2.2.2.1⟩
            simp only [sxs, sx_label, vxs, AX.then_, AX.inBlock, aexec, Opd.ev, lputO, reduceIte, Nat.reduceEqDiff, addA, Nat.reduceAdd, Option.some.injEq, exists_eq_left', Option.map_some, Option.bind_some, cond_false, cond_true, chkOk, wantedS, goInt, aidx, List.map_cons, List.map_nil, Int.reduceEq, Int.reduceLT, Int.reduceLE, Int.reduceAdd, Int.reduceSub, BEq.rfl, eq_self, reduceCtorEq, hxs, evParts, repL, List.append_nil, notT, vcells, List.cons_append, List.nil_append, List.getElem?_cons_succ, List.getElem?_cons_zero, List.length_cons, List.length_nil, ne_eq, aresults, aresult, tupOf, h0, h3, h4, h5, h6, h7, hr, e, hrd, hb, hc, hb1, hb2, hjl, w0, c2, hbr]
          · simp only [sxs, sx_label, vxs, AX.then_, AX.inBlock, aexec, Opd.ev, lputO, reduceIte, Nat.reduceEqDiff, addA, Nat.reduceAdd, Option.some.injEq, exists_eq_left', Option.map_some, Option.bind_some, cond_false, cond_true, chkOk, wantedS, goInt, aidx, List.map_cons, List.map_nil, Int.reduceEq, Int.reduceLT, Int.reduceLE, Int.reduceAdd, Int.reduceSub, BEq.rfl, eq_self, reduceCtorEq, hxs, evParts, repL, List.append_nil, notT, vcells, List.cons_append, List.nil_append, List.getElem?_cons_succ, List.getElem?_cons_zero, List.length_cons, List.length_nil, ne_eq, aresults, aresult, tupOf, h0, h3, h4, h5, h6, h7, hr, e, hrd, hb, hc, hb1, hb2, hjl, w0, c2, hgw, hrwl, hst5, ep]
            rcases (Classical.em ((p.state : Int) = 2)) with c3 | c3
            · have hbr : bare a s.wait x = false := by simp [bare, hst, show p.state = 2 by omega]
              simp only [sxs, sx_label, vxs, AX.then_, AX.inBlock, aexec, Opd.ev, lputO, reduceIte, Nat.reduceEqDiff, addA, Nat.reduceAdd, Option.some.injEq, exists_eq_left', Option.map_some, Option.bind_some, cond_false, cond_true, chkOk, wantedS, goInt, aidx, List.map_cons, List.map_nil, Int.reduceEq, Int.reduceLT, Int.reduceLE, Int.reduceAdd, Int.reduceSub, BEq.rfl, eq_self, reduceCtorEq, hxs, evParts, repL, List.append_nil, notT, vcells, List.cons_append, List.nil_append, List.getElem?_cons_succ, List.getElem?_cons_zero, List.length_cons, List.length_nil, ne_eq, aresults, aresult, tupOf, h0, h3, h4, h5, h6, h7, hr, e, hrd, hb, hc, hb1, hb2, hjl, w0, c3, hbr]
            · have hbr : bare a s.wait x = true := by simp [bare, hst, show ¬ p.state = 2 by omega, c1, c2]
              simp only [sxs, sx_label, vxs, AX.then_, AX.inBlock, aexec, Opd.ev, lputO, reduceIte, Nat.reduceEqDiff, addA, Nat.reduceAdd, Option.some.injEq, exists_eq_left', Option.map_some, Option.bind_some, cond_false, cond_true, chkOk, wantedS, goInt, aidx, List.map_cons, List.map_nil, Int.reduceEq, Int.reduceLT, Int.reduceLE, Int.reduceAdd, Int.reduceSub, BEq.rfl, eq_self, reduceCtorEq, hxs, evParts, repL, List.append_nil, notT, vcells, List.cons_append, List.nil_append, List.getElem?_cons_succ, List.getElem?_cons_zero, List.length_cons, List.length_nil, ne_eq, aresults, aresult, tupOf, h0, h3, h4, h5, h6, h7, hr, e, hrd, hb, hc, hb1, hb2, hjl, w0, c3, hbr]
      · rintro fr2 A2 ⟨rfl, h0, h3, h4, h5, h6, h7, h8, h67⟩
        simp only [sxs, sx_label, vxs, AX.then_, AX.inBlock, aexec, Opd.ev, lputO, reduceIte, Nat.reduceEqDiff, addA, Nat.reduceAdd, Option.some.injEq, exists_eq_left', Option.map_some, Option.bind_some, cond_false, cond_true, chkOk, wantedS, goInt, aidx, List.map_cons, List.map_nil, Int.reduceEq, Int.reduceLT, Int.reduceLE, Int.reduceAdd, Int.reduceSub, BEq.rfl, eq_self, reduceCtorEq, hxs, evParts, repL, List.append_nil, notT, vcells, List.cons_append, List.nil_append, List.getElem?_cons_succ, List.getElem?_cons_zero, List.length_cons, List.length_nil, ne_eq, aresults, aresult, tupOf, h67]
        refine RGC_cut (fun y fr' A' => y = .normal ∧ A' = A1.new (.row (seenV x) 11 false false) ∧ lget fr' 0 = pv j ∧ lget fr' 3 = pv A.next ∧ lget fr' 4 = bv false ∧ lget fr' 5 = pv (A.next + 1) ∧ lget fr' 6 = iv (kOf (if bare a s.wait x then some pre.length else ko)) ∧ lget fr' 7 = iv pre.length ∧ lget fr' 8 = pv A1.next) ?_ ?_
        · cases hbr : bare a s.wait x with
          | true => simp only [sxs, sx_label, vxs, AX.then_, AX.inBlock, aexec, Opd.ev, lputO, reduceIte, Nat.reduceEqDiff, addA, Nat.reduceAdd, Option.some.injEq, exists_eq_left', Option.map_some, Option.bind_some, cond_false, cond_true, chkOk, wantedS, goInt, aidx, List.map_cons, List.map_nil, Int.reduceEq, Int.reduceLT, Int.reduceLE, Int.reduceAdd, Int.reduceSub, BEq.rfl, eq_self, reduceCtorEq, hxs, evParts, repL, List.append_nil, notT, vcells, List.cons_append, List.nil_append, List.getElem?_cons_succ, List.getElem?_cons_zero, List.length_cons, List.length_nil, ne_eq, aresults, aresult, tupOf, h0, h3, h4, h5, h6, h7, h8, kOf]
          | false => simp only [sxs, sx_label, vxs, AX.then_, AX.inBlock, aexec, Opd.ev, lputO, reduceIte, Nat.reduceEqDiff, addA, Nat.reduceAdd, Option.some.injEq, exists_eq_left', Option.map_some, Option.bind_some, cond_false, cond_true, chkOk, wantedS, goInt, aidx, List.map_cons, List.map_nil, Int.reduceEq, Int.reduceLT, Int.reduceLE, Int.reduceAdd, Int.reduceSub, BEq.rfl, eq_self, reduceCtorEq, hxs, evParts, repL, List.append_nil, notT, vcells, List.cons_append, List.nil_append, List.getElem?_cons_succ, List.getElem?_cons_zero, List.length_cons, List.length_nil, ne_eq, aresults, aresult, tupOf, h0, h3, h4, h5, h6, h7, h8, Bool.false_eq_true]
        · rintro y fr2 A2 ⟨rfl, rfl, h0, h3, h4, h5, h6, h7, h8⟩
          simp only [sxs, sx_label, vxs, AX.then_, AX.inBlock, aexec, Opd.ev, lputO, reduceIte, Nat.reduceEqDiff, addA, Nat.reduceAdd, Option.some.injEq, exists_eq_left', Option.map_some, Option.bind_some, cond_false, cond_true, chkOk, wantedS, goInt, aidx, List.map_cons, List.map_nil, Int.reduceEq, Int.reduceLT, Int.reduceLE, Int.reduceAdd, Int.reduceSub, BEq.rfl, eq_self, reduceCtorEq, hxs, evParts, repL, List.append_nil, notT, vcells, List.cons_append, List.nil_append, List.getElem?_cons_succ, List.getElem?_cons_zero, List.length_cons, List.length_nil, ne_eq, aresults, aresult, tupOf, hb, hc, hb1, hb2, w0, h0, h3, h4, h5, h6, h7, h8]
          have hko2 : ∀ k, (if bare a s.wait x then some pre.length else ko) = some k → k < (pre ++ [x]).length := by
            intro k hk
            simp only [List.length_append, List.length_cons, List.length_nil]
            split at hk
            · cases hk; omega
            · have := hko k hk; omega
          have hl2 : lastM (bare a s.wait) s.ms 0 none = lastM (bare a s.wait) suf (pre ++ [x]).length (if bare a s.wait x then some pre.length else ko) := by
            rw [hlast, hn0]; simp
          rcases (Classical.em (x.queue = a.queue)).symm with d1 | d1
          · simp only [sxs, sx_label, vxs, AX.then_, AX.inBlock, aexec, Opd.ev, lputO, reduceIte, Nat.reduceEqDiff, addA, Nat.reduceAdd, Option.some.injEq, exists_eq_left', Option.map_some, Option.bind_some, cond_false, cond_true, chkOk, wantedS, goInt, aidx, List.map_cons, List.map_nil, Int.reduceEq, Int.reduceLT, Int.reduceLE, Int.reduceAdd, Int.reduceSub, BEq.rfl, eq_self, reduceCtorEq, hxs, evParts, repL, List.append_nil, notT, vcells, List.cons_append, List.nil_append, List.getElem?_cons_succ, List.getElem?_cons_zero, List.length_cons, List.length_nil, ne_eq, aresults, aresult, tupOf, hb, hc, hb1, hb2, w0, h0, h3, h4, h5, h6, h7, h8, d1]
            exact ⟨suf.length, by simp at hm; omega, pre ++ [x], suf, _, by simp [hw], rfl, hl2, hko2, by simp [hhe, hheld, d1], rfl, rfl, hk2, by omega⟩
          simp only [sxs, sx_label, vxs, AX.then_, AX.inBlock, aexec, Opd.ev, lputO, reduceIte, Nat.reduceEqDiff, addA, Nat.reduceAdd, Option.some.injEq, exists_eq_left', Option.map_some, Option.bind_some, cond_false, cond_true, chkOk, wantedS, goInt, aidx, List.map_cons, List.map_nil, Int.reduceEq, Int.reduceLT, Int.reduceLE, Int.reduceAdd, Int.reduceSub, BEq.rfl, eq_self, reduceCtorEq, hxs, evParts, repL, List.append_nil, notT, vcells, List.cons_append, List.nil_append, List.getElem?_cons_succ, List.getElem?_cons_zero, List.length_cons, List.length_nil, ne_eq, aresults, aresult, tupOf, hb, hc, hb1, hb2, w0, h0, h3, h4, h5, h6, h7, h8, d1]
          rcases (Classical.em (x.key = a.mkey)).symm with d2 | d2
          · simp only [sxs, sx_label, vxs, AX.then_, AX.inBlock, aexec, Opd.ev, lputO, reduceIte, Nat.reduceEqDiff, addA, Nat.reduceAdd, Option.some.injEq, exists_eq_left', Option.map_some, Option.bind_some, cond_false, cond_true, chkOk, wantedS, goInt, aidx, List.map_cons, List.map_nil, Int.reduceEq, Int.reduceLT, Int.reduceLE, Int.reduceAdd, Int.reduceSub, BEq.rfl, eq_self, reduceCtorEq, hxs, evParts, repL, List.append_nil, notT, vcells, List.cons_append, List.nil_append, List.getElem?_cons_succ, List.getElem?_cons_zero, List.length_cons, List.length_nil, ne_eq, aresults, aresult, tupOf, hb, hc, hb1, hb2, w0, h0, h3, h4, h5, h6, h7, h8, d2]
            exact ⟨suf.length, by simp at hm; omega, pre ++ [x], suf, _, by simp [hw], rfl, hl2, hko2, by simp [hhe, hheld, d2], rfl, rfl, hk2, by omega⟩
          simp only [sxs, sx_label, vxs, AX.then_, AX.inBlock, aexec, Opd.ev, lputO, reduceIte, Nat.reduceEqDiff, addA, Nat.reduceAdd, Option.some.injEq, exists_eq_left', Option.map_some, Option.bind_some, cond_false, cond_true, chkOk, wantedS, goInt, aidx, List.map_cons, List.map_nil, Int.reduceEq, Int.reduceLT, Int.reduceLE, Int.reduceAdd, Int.reduceSub, BEq.rfl, eq_self, reduceCtorEq, hxs, evParts, repL, List.append_nil, notT, vcells, List.cons_append, List.nil_append, List.getElem?_cons_succ, List.getElem?_cons_zero, List.length_cons, List.length_nil, ne_eq, aresults, aresult, tupOf, hb, hc, hb1, hb2, w0, h0, h3, h4, h5, h6, h7, h8, d2]
          cases d3 : x.hd with
          | false =>
            simp only [sxs, sx_label, vxs, AX.then_, AX.inBlock, aexec, Opd.ev, lputO, reduceIte, Nat.reduceEqDiff, addA, Nat.reduceAdd, Option.some.injEq, exists_eq_left', Option.map_some, Option.bind_some, cond_false, cond_true, chkOk, wantedS, goInt, aidx, List.map_cons, List.map_nil, Int.reduceEq, Int.reduceLT, Int.reduceLE, Int.reduceAdd, Int.reduceSub, BEq.rfl, eq_self, reduceCtorEq, hxs, evParts, repL, List.append_nil, notT, vcells, List.cons_append, List.nil_append, List.getElem?_cons_succ, List.getElem?_cons_zero, List.length_cons, List.length_nil, ne_eq, aresults, aresult, tupOf, hb, hc, hb1, hb2, w0, h0, h3, h4, h5, h6, h7, h8]
            exact ⟨suf.length, by simp at hm; omega, pre ++ [x], suf, _, by simp [hw], rfl, hl2, hko2, by simp [hhe, hheld, d3], rfl, rfl, hk2, by omega⟩
          | true =>
            simp only [sxs, sx_label, vxs, AX.then_, AX.inBlock, aexec, Opd.ev, lputO, reduceIte, Nat.reduceEqDiff, addA, Nat.reduceAdd, Option.some.injEq, exists_eq_left', Option.map_some, Option.bind_some, cond_false, cond_true, chkOk, wantedS, goInt, aidx, List.map_cons, List.map_nil, Int.reduceEq, Int.reduceLT, Int.reduceLE, Int.reduceAdd, Int.reduceSub, BEq.rfl, eq_self, reduceCtorEq, hxs, evParts, repL, List.append_nil, notT, vcells, List.cons_append, List.nil_append, List.getElem?_cons_succ, List.getElem?_cons_zero, List.length_cons, List.length_nil, ne_eq, aresults, aresult, tupOf, hb, hc, hb1, hb2, w0, h0, h3, h4, h5, h6, h7, h8]
            have hn : delS s a = none := by
              rw [hd0, delT, if_pos]
              simp only [heldIn, List.any_eq_true]
              exact ⟨x, by rw [hw]; simp, by simp [d1, d2, d3]⟩
            exact ⟨.inr trivial, _, _, rfl, rfl, by simp [hn], hk2.mono (by simp), fun s' h => (by rw [hn] at h; cases h)⟩
  · exact ⟨[], s.ms, none, rfl, rfl, rfl, by simp, rfl, by simp only [lget_lput, frOf_cons, frOf_nil, reduceIte, Nat.reduceEqDiff], by simp only [lget_lput, frOf_cons, frOf_nil, reduceIte, Nat.reduceEqDiff], by simp only [lget_lput, frOf_cons, frOf_nil, reduceIte, Nat.reduceEqDiff], by simp only [lget_lput, frOf_cons, frOf_nil, reduceIte, Nat.reduceEqDiff], by simp only [lget_lput, frOf_cons, frOf_nil, reduceIte, Nat.reduceEqDiff]; rfl, by simp only [lget_lput, reduceIte]; rfl, (Keep.new (own := []) _ _).trans (Keep.new (own := []) _ _) (by simp), by simp only [AHeap.new_next]; omega, by rw [AHeap.new_lt (by simp only [AHeap.new_next]; omega)]; exact AHeap.new_get, AHeap.new_get (A := A.new _)⟩
end Go.Proofs.YtiimkdijiddjcaaDoor
