/- The judge on the abstract machine: what is open; how many batches; small helpers of the laws. -/
import Derived.Test.YtiimkdijiddjcaaDoorJKchk
set_option linter.unusedSimpArgs false
namespace Go.Proofs.YtiimkdijiddjcaaDoor
set_option linter.unusedSimpArgs false
set_option linter.unusedVariables false
set_option linter.unusedSectionVars false
set_option linter.defProp false
open Go Go.Abs JP

def kmsg (x : KX) : Int × Int × Str × Str := (x.pub, x.seq, x.key, x.body)
def openQ (k : K) (x : KX) : Bool := decide (stK k.bs x.b = 1 ∧ x.ak = false ∧ x.se = false)
theorem openK_eq (k : K) : openK k = k.xs.filter (openQ k) := rfl
def openKL (r : K ⊕ Nat) : List KX := match r with
  | .inl k => openK k
  | .inr _ => []
theorem runK_kw {l : List JP.Act} : ∀ {k : K} {n i : Nat} {k' : K}, KW n k → runK k l i = .inl k' → KW (n + l.length) k' := by
  induction l with
  | nil => intro k n i k' h hr; cases hr; exact h
  | cons a l ih =>
    intro k n i k' h hr
    simp only [runK] at hr
    split at hr
    · rename_i k2 h2
      have := ih (addK_kw h h2) hr
      rw [List.length_cons, Nat.add_comm l.length 1, ← Nat.add_assoc]; exact this
    · cases hr
theorem KW.start : KW 0 K.start := ⟨fun _ => by simp [K.start], fun _ => by simp [K.start], by simp [K.start]⟩

set_option maxRecDepth 10000 in
set_option maxHeartbeats 4000000 in
theorem openK_spec {v : Value} {l : List JP.Act} {A : AHeap} (hl : Acts A v l) (hn : l.length ≤ 100) (hsh : Short l) :
    EvF AQ EQ 15 [v] A (OPost ((openKL (runK K.start l 0)).map kmsg) A) := by
  refine rf_body (fn := Code.a15) rfl ?_
  simp only [Code.a15, sxs, sx_label, vxs, AX.then_, AX.inBlock, aexec, Opd.ev, lputO, reduceIte, Nat.reduceEqDiff, addA, Nat.reduceAdd, Option.some.injEq, exists_eq_left', Option.map_some, Option.bind_some, cond_false, cond_true, chkOk, wantedS, goInt, aidx, List.map_cons, List.map_nil, Int.reduceEq, Int.reduceLT, Int.reduceLE, Int.reduceAdd, Int.reduceSub, BEq.rfl, eq_self, reduceCtorEq, hxs, evParts, repL, List.append_nil, notT, vcells, List.cons_append, List.nil_append, List.getElem?_cons_succ, List.getElem?_cons_zero, List.length_cons, List.length_nil, ne_eq, aresults, aresult, tupOf]
  refine RF_use (newCourt_spec A) ?_
  rintro u A1 ⟨c, L, rfl, hK, hk⟩
  simp only [sxs, sx_label, vxs, AX.then_, AX.inBlock, aexec, Opd.ev, lputO, reduceIte, Nat.reduceEqDiff, addA, Nat.reduceAdd, Option.some.injEq, exists_eq_left', Option.map_some, Option.bind_some, cond_false, cond_true, chkOk, wantedS, goInt, aidx, List.map_cons, List.map_nil, Int.reduceEq, Int.reduceLT, Int.reduceLE, Int.reduceAdd, Int.reduceSub, BEq.rfl, eq_self, reduceCtorEq, hxs, evParts, repL, List.append_nil, notT, vcells, List.cons_append, List.nil_append, List.getElem?_cons_succ, List.getElem?_cons_zero, List.length_cons, List.length_nil, ne_eq, aresults, aresult, tupOf]
  refine RF_use (hear_spec hK hl ⟨hk.next, fun id hi => hk.get id hi (by simp)⟩ hn hsh) ?_
  rintro u A2 ⟨rfl, hb, hK2⟩
  simp only [sxs, sx_label, vxs, AX.then_, AX.inBlock, aexec, Opd.ev, lputO, reduceIte, Nat.reduceEqDiff, addA, Nat.reduceAdd, Option.some.injEq, exists_eq_left', Option.map_some, Option.bind_some, cond_false, cond_true, chkOk, wantedS, goInt, aidx, List.map_cons, List.map_nil, Int.reduceEq, Int.reduceLT, Int.reduceLE, Int.reduceAdd, Int.reduceSub, BEq.rfl, eq_self, reduceCtorEq, hxs, evParts, repL, List.append_nil, notT, vcells, List.cons_append, List.nil_append, List.getElem?_cons_succ, List.getElem?_cons_zero, List.length_cons, List.length_nil, ne_eq, aresults, aresult, tupOf]
  cases hrun : runK K.start l 0 with
  | inr i =>
    have hi : ¬ ((i : Int) = 0) := by
      have : ∀ (l : List JP.Act) (k : K) (j i : Nat), runK k l j = .inr i → 0 < i := by
        intro l
        induction l with
        | nil => intro k j i h; cases h
        | cons a l ih =>
          intro k j i h
          simp only [runK] at h
          split at h
          · exact ih _ _ _ h
          · cases h; omega
      have := this l K.start 0 i hrun
      omega
    simp only [sxs, sx_label, vxs, AX.then_, AX.inBlock, aexec, Opd.ev, lputO, reduceIte, Nat.reduceEqDiff, addA, Nat.reduceAdd, Option.some.injEq, exists_eq_left', Option.map_some, Option.bind_some, cond_false, cond_true, chkOk, wantedS, goInt, aidx, List.map_cons, List.map_nil, Int.reduceEq, Int.reduceLT, Int.reduceLE, Int.reduceAdd, Int.reduceSub, BEq.rfl, eq_self, reduceCtorEq, hxs, evParts, repL, List.append_nil, notT, vcells, List.cons_append, List.nil_append, List.getElem?_cons_succ, List.getElem?_cons_zero, List.length_cons, List.length_nil, ne_eq, aresults, aresult, tupOf, resK, hi]
    exact ⟨.inr trivial, _, _, rfl, rfl, .nil, by simp [rowL], hb.keep⟩
  | inl k =>
    obtain ⟨M, hKi⟩ := hK2 k hrun
    have hkw : KW l.length k := by simpa using runK_kw KW.start hrun
    have hxn := hkw.xs
    obtain ⟨q0, q1, q2, q3, hq, hc⟩ := hKi.four
    obtain ⟨o, cp, hov⟩ := Sl.len1 hKi.ord
    rw [List.length_map, List.length_range] at hov
    rw [hov] at hc
    simp only [sxs, sx_label, vxs, AX.then_, AX.inBlock, aexec, Opd.ev, lputO, reduceIte, Nat.reduceEqDiff, addA, Nat.reduceAdd, Option.some.injEq, exists_eq_left', Option.map_some, Option.bind_some, cond_false, cond_true, chkOk, wantedS, goInt, aidx, List.map_cons, List.map_nil, Int.reduceEq, Int.reduceLT, Int.reduceLE, Int.reduceAdd, Int.reduceSub, BEq.rfl, eq_self, reduceCtorEq, hxs, evParts, repL, List.append_nil, notT, vcells, List.cons_append, List.nil_append, List.getElem?_cons_succ, List.getElem?_cons_zero, List.length_cons, List.length_nil, ne_eq, aresults, aresult, tupOf, resK, hc]
    refine rc_loop (fun m fr A' => ∃ pre suf vo, k.xs = pre ++ suf ∧ suf.length = m ∧ Sl A' 5 vo (((pre.filter (openQ k)).map kmsg).flatMap msgV) ∧ (∀ r ∈ rowL vo, A2.next ≤ r ∧ r < A'.next) ∧
      lget fr 4 = vo ∧ lget fr 15 = .slice o k.xs.length cp ∧ lget fr 16 = iv k.xs.length ∧ lget fr 17 = iv pre.length ∧ Keep [] A2 A') ?_ k.xs.length ?_
    · rintro m fr A3 ⟨pre, suf, vo, hw, hm, ho, hor, h4, h15, h16, h17, hk3⟩
      have hK3 := hKi.keep hk3 (by simp)
      cases suf with
      | nil =>
        have e : ¬ ((pre.length : Int) < k.xs.length) := by rw [hw]; simp
        have hpre : pre = k.xs := by simpa using hw.symm
        simp only [sxs, sx_label, vxs, AX.then_, AX.inBlock, aexec, Opd.ev, lputO, reduceIte, Nat.reduceEqDiff, addA, Nat.reduceAdd, Option.some.injEq, exists_eq_left', Option.map_some, Option.bind_some, cond_false, cond_true, chkOk, wantedS, goInt, aidx, List.map_cons, List.map_nil, Int.reduceEq, Int.reduceLT, Int.reduceLE, Int.reduceAdd, Int.reduceSub, BEq.rfl, eq_self, reduceCtorEq, hxs, evParts, repL, List.append_nil, notT, vcells, List.cons_append, List.nil_append, List.getElem?_cons_succ, List.getElem?_cons_zero, List.length_cons, List.length_nil, ne_eq, aresults, aresult, tupOf, h4, h15, h16, h17, e]
        refine ⟨.inr trivial, _, _, rfl, rfl, ?_, fun r hr => ⟨by have := (hor r hr).1; have := hb.1; omega, (hor r hr).2⟩, hb.keep.trans hk3 (by simp)⟩
        rw [hpre] at ho
        simp only [openKL, openK_eq]; exact ho
      | cons x suf =>
        have hpl : k.xs.length = pre.length + (suf.length + 1) := by rw [hw]; simp
        have e : ((pre.length : Int) < k.xs.length) := by omega
        have hp : k.xs[pre.length]? = some x := by rw [hw]; simp
        obtain ⟨r, n2, hv2, hgo, hl2, hlt⟩ := hK3.ord.at (i := pre.length) (by simp; omega)
        rw [hov] at hv2
        cases hv2
        have hci : ((List.range k.xs.length).map fun i => pv (M.ix i))[pre.length]? = some (pv (M.ix pre.length)) := by
          rw [List.getElem?_map, List.getElem?_range (by omega)]; rfl
        have hx1 := hK3.xs pre.length x hp
        have hxb := hKi.wx x (List.mem_of_getElem? hp)
        obtain ⟨b, hbb⟩ : ∃ b, k.bs[x.b]? = some b := ⟨k.bs[x.b], List.getElem?_eq_getElem hxb⟩
        have hb1 := hK3.bs x.b b hbb
        have hst : stK k.bs x.b = b.state := by simp [stK, hbb]
        have hrd : rdRow A3 (M.ix pre.length) 0 5 = some [iv x.pub, iv x.seq, sv x.key, sv x.body, bv false] := by rw [rdRow_at hx1 (by simp [kxV])]; rfl
        have w0 : IntKind.i64.wrap (pre.length + 1) = ((pre ++ [x]).length : Int) := by rw [i64_add (by omega) (by omega)]; simp
        obtain ⟨bb, hbe⟩ : ∃ bb : Bool, bb = openQ k x := ⟨_, rfl⟩
        simp only [sxs, sx_label, vxs, AX.then_, AX.inBlock, aexec, Opd.ev, lputO, reduceIte, Nat.reduceEqDiff, addA, Nat.reduceAdd, Option.some.injEq, exists_eq_left', Option.map_some, Option.bind_some, cond_false, cond_true, chkOk, wantedS, goInt, aidx, List.map_cons, List.map_nil, Int.reduceEq, Int.reduceLT, Int.reduceLE, Int.reduceAdd, Int.reduceSub, BEq.rfl, eq_self, reduceCtorEq, hxs, evParts, repL, List.append_nil, notT, vcells, List.cons_append, List.nil_append, List.getElem?_cons_succ, List.getElem?_cons_zero, List.length_cons, List.length_nil, ne_eq, aresults, aresult, tupOf, kgs, h4, h15, h16, h17, e, hgo, hci, hx1, hb1]
        refine RG_cut (fun fr' A' => A' = A3 ∧ lget fr' 4 = vo ∧ lget fr' 6 = pv (M.ix pre.length) ∧ lget fr' 15 = .slice (some ⟨r, 0, none⟩) k.xs.length (capInf * (1 + 1) + k.xs.length) ∧ lget fr' 16 = iv k.xs.length ∧ lget fr' 17 = iv pre.length ∧ lget fr' 42 = bv bb) ?_ ?_
        · rcases (Classical.em ((b.state : Int) = 1)).symm with d1 | d1
          · have hbf : bb = false := by rw [hbe]; simp [openQ, hst, show ¬ b.state = 1 by omega]
            simp only [sxs, sx_label, vxs, AX.then_, AX.inBlock, aexec, Opd.ev, lputO, reduceIte, Nat.reduceEqDiff, addA, Nat.reduceAdd, Option.some.injEq, exists_eq_left', Option.map_some, Option.bind_some, cond_false, cond_true, chkOk, wantedS, goInt, aidx, List.map_cons, List.map_nil, Int.reduceEq, Int.reduceLT, Int.reduceLE, Int.reduceAdd, Int.reduceSub, BEq.rfl, eq_self, reduceCtorEq, hxs, evParts, repL, List.append_nil, notT, vcells, List.cons_append, List.nil_append, List.getElem?_cons_succ, List.getElem?_cons_zero, List.length_cons, List.length_nil, ne_eq, aresults, aresult, tupOf, kgs, h4, h15, h16, h17, e, hgo, hci, hx1, hb1, d1, hbf]
          simp only [sxs, sx_label, vxs, AX.then_, AX.inBlock, aexec, Opd.ev, lputO, reduceIte, Nat.reduceEqDiff, addA, Nat.reduceAdd, Option.some.injEq, exists_eq_left', Option.map_some, Option.bind_some, cond_false, cond_true, chkOk, wantedS, goInt, aidx, List.map_cons, List.map_nil, Int.reduceEq, Int.reduceLT, Int.reduceLE, Int.reduceAdd, Int.reduceSub, BEq.rfl, eq_self, reduceCtorEq, hxs, evParts, repL, List.append_nil, notT, vcells, List.cons_append, List.nil_append, List.getElem?_cons_succ, List.getElem?_cons_zero, List.length_cons, List.length_nil, ne_eq, aresults, aresult, tupOf, kgs, h4, h15, h16, h17, e, hgo, hci, hx1, hb1, d1]
          cases d2 : x.ak with
          | true =>
            have hbf : bb = false := by rw [hbe]; simp [openQ, d2]
            simp only [sxs, sx_label, vxs, AX.then_, AX.inBlock, aexec, Opd.ev, lputO, reduceIte, Nat.reduceEqDiff, addA, Nat.reduceAdd, Option.some.injEq, exists_eq_left', Option.map_some, Option.bind_some, cond_false, cond_true, chkOk, wantedS, goInt, aidx, List.map_cons, List.map_nil, Int.reduceEq, Int.reduceLT, Int.reduceLE, Int.reduceAdd, Int.reduceSub, BEq.rfl, eq_self, reduceCtorEq, hxs, evParts, repL, List.append_nil, notT, vcells, List.cons_append, List.nil_append, List.getElem?_cons_succ, List.getElem?_cons_zero, List.length_cons, List.length_nil, ne_eq, aresults, aresult, tupOf, kgs, h4, h15, h16, h17, e, hgo, hci, hx1, hb1, hbf]
          | false =>
          simp only [sxs, sx_label, vxs, AX.then_, AX.inBlock, aexec, Opd.ev, lputO, reduceIte, Nat.reduceEqDiff, addA, Nat.reduceAdd, Option.some.injEq, exists_eq_left', Option.map_some, Option.bind_some, cond_false, cond_true, chkOk, wantedS, goInt, aidx, List.map_cons, List.map_nil, Int.reduceEq, Int.reduceLT, Int.reduceLE, Int.reduceAdd, Int.reduceSub, BEq.rfl, eq_self, reduceCtorEq, hxs, evParts, repL, List.append_nil, notT, vcells, List.cons_append, List.nil_append, List.getElem?_cons_succ, List.getElem?_cons_zero, List.length_cons, List.length_nil, ne_eq, aresults, aresult, tupOf, kgs, h4, h15, h16, h17, e, hgo, hci, hx1, hb1]
          cases d3 : x.se with
          | true =>
            have hbf : bb = false := by rw [hbe]; simp [openQ, d3]
            simp only [sxs, sx_label, vxs, AX.then_, AX.inBlock, aexec, Opd.ev, lputO, reduceIte, Nat.reduceEqDiff, addA, Nat.reduceAdd, Option.some.injEq, exists_eq_left', Option.map_some, Option.bind_some, cond_false, cond_true, chkOk, wantedS, goInt, aidx, List.map_cons, List.map_nil, Int.reduceEq, Int.reduceLT, Int.reduceLE, Int.reduceAdd, Int.reduceSub, BEq.rfl, eq_self, reduceCtorEq, hxs, evParts, repL, List.append_nil, notT, vcells, List.cons_append, List.nil_append, List.getElem?_cons_succ, List.getElem?_cons_zero, List.length_cons, List.length_nil, ne_eq, aresults, aresult, tupOf, kgs, h4, h15, h16, h17, e, hgo, hci, hx1, hb1, hbf]
          | false =>
            have hbf : bb = true := by rw [hbe]; simp [openQ, hst, d2, d3, show b.state = 1 by omega]
            simp only [sxs, sx_label, vxs, AX.then_, AX.inBlock, aexec, Opd.ev, lputO, reduceIte, Nat.reduceEqDiff, addA, Nat.reduceAdd, Option.some.injEq, exists_eq_left', Option.map_some, Option.bind_some, cond_false, cond_true, chkOk, wantedS, goInt, aidx, List.map_cons, List.map_nil, Int.reduceEq, Int.reduceLT, Int.reduceLE, Int.reduceAdd, Int.reduceSub, BEq.rfl, eq_self, reduceCtorEq, hxs, evParts, repL, List.append_nil, notT, vcells, List.cons_append, List.nil_append, List.getElem?_cons_succ, List.getElem?_cons_zero, List.length_cons, List.length_nil, ne_eq, aresults, aresult, tupOf, kgs, h4, h15, h16, h17, e, hgo, hci, hx1, hb1, hbf]
        · rintro fr2 A4 ⟨rfl, h4, h6, h15, h16, h17, h42⟩
          simp only [sxs, sx_label, vxs, AX.then_, AX.inBlock, aexec, Opd.ev, lputO, reduceIte, Nat.reduceEqDiff, addA, Nat.reduceAdd, Option.some.injEq, exists_eq_left', Option.map_some, Option.bind_some, cond_false, cond_true, chkOk, wantedS, goInt, aidx, List.map_cons, List.map_nil, Int.reduceEq, Int.reduceLT, Int.reduceLE, Int.reduceAdd, Int.reduceSub, BEq.rfl, eq_self, reduceCtorEq, hxs, evParts, repL, List.append_nil, notT, vcells, List.cons_append, List.nil_append, List.getElem?_cons_succ, List.getElem?_cons_zero, List.length_cons, List.length_nil, ne_eq, aresults, aresult, tupOf, h42]
          cases hbv : bb with
          | false =>
            simp only [sxs, sx_label, vxs, AX.then_, AX.inBlock, aexec, Opd.ev, lputO, reduceIte, Nat.reduceEqDiff, addA, Nat.reduceAdd, Option.some.injEq, exists_eq_left', Option.map_some, Option.bind_some, cond_false, cond_true, chkOk, wantedS, goInt, aidx, List.map_cons, List.map_nil, Int.reduceEq, Int.reduceLT, Int.reduceLE, Int.reduceAdd, Int.reduceSub, BEq.rfl, eq_self, reduceCtorEq, hxs, evParts, repL, List.append_nil, notT, vcells, List.cons_append, List.nil_append, List.getElem?_cons_succ, List.getElem?_cons_zero, List.length_cons, List.length_nil, ne_eq, aresults, aresult, tupOf, h4, h6, h15, h16, h17, w0]
            exact ⟨suf.length, by simp at hm; omega, pre ++ [x], suf, vo, by simp [hw], rfl, by rw [List.filter_append, List.filter_cons, ← hbe, hbv]; simpa using ho, hor, rfl, rfl, hk3⟩
          | true =>
            simp only [sxs, sx_label, vxs, AX.then_, AX.inBlock, aexec, Opd.ev, lputO, reduceIte, Nat.reduceEqDiff, addA, Nat.reduceAdd, Option.some.injEq, exists_eq_left', Option.map_some, Option.bind_some, cond_false, cond_true, chkOk, wantedS, goInt, aidx, List.map_cons, List.map_nil, Int.reduceEq, Int.reduceLT, Int.reduceLE, Int.reduceAdd, Int.reduceSub, BEq.rfl, eq_self, reduceCtorEq, hxs, evParts, repL, List.append_nil, notT, vcells, List.cons_append, List.nil_append, List.getElem?_cons_succ, List.getElem?_cons_zero, List.length_cons, List.length_nil, ne_eq, aresults, aresult, tupOf, h4, h6, h15, h16, h17, hrd]
            have hcl : ((pre.filter (openQ k)).map kmsg).length ≤ 8000 := by
              have := List.length_filter_le (openQ k) pre
              simp only [List.length_map]; omega
            have ho2 : Sl (A4.new (.row (msgV (kmsg x)) 5 false false)) 5 vo _ := ho.keep (Keep.new (own := []) _ _) (fun r hr => ⟨(hor r hr).2, by simp⟩)
            obtain ⟨A5, happ, hn5, hg5, hk5⟩ := ho2.app (bytes := 56) (m := ((pre.filter (openQ k)).map kmsg).length) (x := .slice (some ⟨A4.next, 0, none⟩) 1 1) (n := 1) (new := msgV (kmsg x))
              (len_flat msgV 5 msgV_len _) (by omega) rfl (rdRow_all AHeap.new_get rfl) rfl (by omega) (by omega) (by omega)
            refine RX_use happ ?_
            simp only [sxs, sx_label, vxs, AX.then_, AX.inBlock, aexec, Opd.ev, lputO, reduceIte, Nat.reduceEqDiff, addA, Nat.reduceAdd, Option.some.injEq, exists_eq_left', Option.map_some, Option.bind_some, cond_false, cond_true, chkOk, wantedS, goInt, aidx, List.map_cons, List.map_nil, Int.reduceEq, Int.reduceLT, Int.reduceLE, Int.reduceAdd, Int.reduceSub, BEq.rfl, eq_self, reduceCtorEq, hxs, evParts, repL, List.append_nil, notT, vcells, List.cons_append, List.nil_append, List.getElem?_cons_succ, List.getElem?_cons_zero, List.length_cons, List.length_nil, ne_eq, aresults, aresult, tupOf, h4, h6, h15, h16, h17, w0]
            refine ⟨suf.length, by simp at hm; omega, pre ++ [x], suf, _, by simp [hw], rfl, ?_, ?_, rfl, rfl, ?_⟩
            · rw [List.filter_append, List.filter_cons, ← hbe, hbv]
              simp only [if_true, List.filter_nil, List.map_append, List.map_cons, List.map_nil, List.flatMap_append, List.flatMap_cons, List.flatMap_nil, List.append_nil]
              refine .own hg5 ?_
              simp only [List.length_append, len_flat msgV 5 msgV_len, msgV_len]; omega
            · intro r hr
              simp only [rowL, List.mem_singleton] at hr
              rw [hr, hn5, AHeap.new_next]
              have := hk3.next; omega
            · refine (hk3.trans (Keep.new (own := []) A4 (.row (msgV (kmsg x)) 5 false false)) (by simp)).trans hk5 (fun id hid h => ?_)
              have := (hor id h).1; omega
    · exact ⟨[], k.xs, .slice none 0 0, rfl, rfl, .nil, by simp [rowL], by simp only [lget_lput, frOf_cons, frOf_nil, reduceIte, Nat.reduceEqDiff], by simp only [lget_lput, frOf_cons, frOf_nil, reduceIte, Nat.reduceEqDiff], by simp only [lget_lput, frOf_cons, frOf_nil, reduceIte, Nat.reduceEqDiff], by simp only [lget_lput, reduceIte]; rfl, Keep.refl _ _⟩

/-- how many batches were published -/
def nPub (l : List JP.Act) : Nat := (l.filter fun a => decide (a.kind = 1)).length
theorem act_new {A : AHeap} (a : JP.Act) : wrRow (A.new (.row [iv 0, iv 0, iv 0, iv 0, iv 0, iv 0, sv ⟨#[]⟩, sv ⟨#[]⟩, iv 0, iv 0, iv 0, sv ⟨#[]⟩, sv ⟨#[]⟩, bv false] 14 false false)) A.next 0 (actV a) = some (A.new (.row (actV a) 14 false false)) := wrRow_new rfl
theorem actV_len (a : JP.Act) : (actV a).length = 14 := (rfl)
set_option maxRecDepth 10000 in
theorem batches_spec {v : Value} {l : List JP.Act} {A : AHeap} (hl : Acts A v l) (hn : l.length ≤ 100) : EvF AQ EQ 17 [v] A (fun u A' => u = iv (nPub l) ∧ Keep [] A A') := by
  refine rf_body (fn := Code.a17) rfl ?_
  obtain ⟨a, cp, hv, _⟩ := hl.shape
  subst hv
  simp only [Code.a17, sxs, sx_label, vxs, AX.then_, AX.inBlock, aexec, Opd.ev, lputO, reduceIte, Nat.reduceEqDiff, addA, Nat.reduceAdd, Option.some.injEq, exists_eq_left', Option.map_some, Option.bind_some, cond_false, cond_true, chkOk, wantedS, goInt, aidx, List.map_cons, List.map_nil, Int.reduceEq, Int.reduceLT, Int.reduceLE, Int.reduceAdd, Int.reduceSub, BEq.rfl, eq_self, reduceCtorEq, hxs, evParts, repL, List.append_nil, notT, vcells, List.cons_append, List.nil_append, List.getElem?_cons_succ, List.getElem?_cons_zero, List.length_cons, List.length_nil, ne_eq, aresults, aresult, tupOf]
  refine rc_loop (fun m fr A' => ∃ pre suf, l = pre ++ suf ∧ suf.length = m ∧ lget fr 3 = iv (nPub pre) ∧ lget fr 6 = .slice a l.length cp ∧ lget fr 7 = iv l.length ∧ lget fr 8 = iv pre.length ∧ Keep [] A A') ?_ l.length ?_
  · rintro m fr A1 ⟨pre, suf, hw, hm, h3, h6, h7, h8, hk⟩
    have hl1 := hl.keep hk (by simp)
    cases suf with
    | nil =>
      have e : ¬ ((pre.length : Int) < l.length) := by rw [hw]; simp
      simp only [sxs, sx_label, vxs, AX.then_, AX.inBlock, aexec, Opd.ev, lputO, reduceIte, Nat.reduceEqDiff, addA, Nat.reduceAdd, Option.some.injEq, exists_eq_left', Option.map_some, Option.bind_some, cond_false, cond_true, chkOk, wantedS, goInt, aidx, List.map_cons, List.map_nil, Int.reduceEq, Int.reduceLT, Int.reduceLE, Int.reduceAdd, Int.reduceSub, BEq.rfl, eq_self, reduceCtorEq, hxs, evParts, repL, List.append_nil, notT, vcells, List.cons_append, List.nil_append, List.getElem?_cons_succ, List.getElem?_cons_zero, List.length_cons, List.length_nil, ne_eq, aresults, aresult, tupOf, h3, h6, h7, h8, e]
      exact ⟨.inr trivial, _, _, rfl, rfl, by rw [hw, List.append_nil], hk⟩
    | cons x suf =>
      have hpl : l.length = pre.length + (suf.length + 1) := by rw [hw]; simp
      have e : ((pre.length : Int) < l.length) := by omega
      have hp : l[pre.length]? = some x := by rw [hw]; simp
      obtain ⟨r, off, rfl, hrl, hrd⟩ := hl1.at hp
      have w0 : IntKind.i64.wrap (pre.length + 1) = ((pre ++ [x]).length : Int) := by rw [i64_add (by omega) (by omega)]; simp
      have hnp : nPub pre ≤ pre.length := List.length_filter_le _ _
      have w1 : IntKind.i64.wrap ((nPub pre : Int) + 1) = ((nPub pre + 1 : Nat) : Int) := i64_add (by omega) (by omega)
      have hnx : nPub (pre ++ [x]) = nPub pre + (if x.kind = 1 then 1 else 0) := by simp only [nPub, List.filter_append, List.length_append, List.filter_cons, List.filter_nil]; split <;> simp_all
      have hk2 : Keep [] A (A1.new (.row (actV x) 14 false false)) := hk.trans (Keep.new (own := []) _ _) (by simp)
      simp only [sxs, sx_label, vxs, AX.then_, AX.inBlock, aexec, Opd.ev, lputO, reduceIte, Nat.reduceEqDiff, addA, Nat.reduceAdd, Option.some.injEq, exists_eq_left', Option.map_some, Option.bind_some, cond_false, cond_true, chkOk, wantedS, goInt, aidx, List.map_cons, List.map_nil, Int.reduceEq, Int.reduceLT, Int.reduceLE, Int.reduceAdd, Int.reduceSub, BEq.rfl, eq_self, reduceCtorEq, hxs, evParts, repL, List.append_nil, notT, vcells, List.cons_append, List.nil_append, List.getElem?_cons_succ, List.getElem?_cons_zero, List.length_cons, List.length_nil, ne_eq, aresults, aresult, tupOf, h3, h6, h7, h8, e, hrd, act_new, actV_len]
      rcases Classical.em (x.kind = 1) with d | d
      · simp only [sxs, sx_label, vxs, AX.then_, AX.inBlock, aexec, Opd.ev, lputO, reduceIte, Nat.reduceEqDiff, addA, Nat.reduceAdd, Option.some.injEq, exists_eq_left', Option.map_some, Option.bind_some, cond_false, cond_true, chkOk, wantedS, goInt, aidx, List.map_cons, List.map_nil, Int.reduceEq, Int.reduceLT, Int.reduceLE, Int.reduceAdd, Int.reduceSub, BEq.rfl, eq_self, reduceCtorEq, hxs, evParts, repL, List.append_nil, notT, vcells, List.cons_append, List.nil_append, List.getElem?_cons_succ, List.getElem?_cons_zero, List.length_cons, List.length_nil, ne_eq, aresults, aresult, tupOf, h3, h6, h7, h8, w0, w1, d]
        exact ⟨suf.length, by simp at hm; omega, pre ++ [x], suf, by simp [hw], rfl, by rw [hnx, if_pos d], rfl, hk2⟩
      · simp only [sxs, sx_label, vxs, AX.then_, AX.inBlock, aexec, Opd.ev, lputO, reduceIte, Nat.reduceEqDiff, addA, Nat.reduceAdd, Option.some.injEq, exists_eq_left', Option.map_some, Option.bind_some, cond_false, cond_true, chkOk, wantedS, goInt, aidx, List.map_cons, List.map_nil, Int.reduceEq, Int.reduceLT, Int.reduceLE, Int.reduceAdd, Int.reduceSub, BEq.rfl, eq_self, reduceCtorEq, hxs, evParts, repL, List.append_nil, notT, vcells, List.cons_append, List.nil_append, List.getElem?_cons_succ, List.getElem?_cons_zero, List.length_cons, List.length_nil, ne_eq, aresults, aresult, tupOf, h3, h6, h7, h8, w0, w1, d]
        exact ⟨suf.length, by simp at hm; omega, pre ++ [x], suf, by simp [hw], rfl, by rw [hnx, if_neg d, Nat.add_zero], rfl, hk2⟩
  · exact ⟨[], l, rfl, rfl, rfl, rfl, rfl, rfl, Keep.refl _ _⟩

set_option maxRecDepth 10000 in
/-- the same messages, one by one? -/
theorem messages_spec {u v : Value} {p q : List (Int × Int × Str × Str)} {A : AHeap} (hp : Sl A 5 u (p.flatMap msgV)) (hq : Sl A 5 v (q.flatMap msgV)) (hpn : p.length ≤ 1000000) (heq : p = q) :
    EvF AQ EQ 14 [u, v] A (fun r A' => r = bv true ∧ A' = A) := by
  subst heq
  refine rf_body (fn := Code.a14) rfl ?_
  obtain ⟨o1, n1, c1, hu, hn1⟩ := hp.len
  obtain ⟨o2, n2, c2, hv, hn2⟩ := hq.len
  rw [len_flat msgV 5 msgV_len] at hn1 hn2
  have hn1 : n1 = p.length := by omega
  have hn2 : n2 = p.length := by omega
  subst hn1 hn2
  subst hu hv
  simp only [Code.a14, sxs, sx_label, vxs, AX.then_, AX.inBlock, aexec, Opd.ev, lputO, reduceIte, Nat.reduceEqDiff, addA, Nat.reduceAdd, Option.some.injEq, exists_eq_left', Option.map_some, Option.bind_some, cond_false, cond_true, chkOk, wantedS, goInt, aidx, List.map_cons, List.map_nil, Int.reduceEq, Int.reduceLT, Int.reduceLE, Int.reduceAdd, Int.reduceSub, BEq.rfl, eq_self, reduceCtorEq, hxs, evParts, repL, List.append_nil, notT, vcells, List.cons_append, List.nil_append, List.getElem?_cons_succ, List.getElem?_cons_zero, List.length_cons, List.length_nil, ne_eq, aresults, aresult, tupOf]
  refine rc_loop (fun m fr A' => ∃ i, i + m = p.length ∧ lget fr 0 = .slice o1 p.length c1 ∧ lget fr 1 = .slice o2 p.length c2 ∧ lget fr 5 = iv i ∧ A' = A) ?_ p.length ?_
  · rintro m fr A1 ⟨i, him, h0, h1, h5, rfl⟩
    cases m with
    | zero =>
      have e : ¬ ((i : Int) < p.length) := by omega
      simp only [sxs, sx_label, vxs, AX.then_, AX.inBlock, aexec, Opd.ev, lputO, reduceIte, Nat.reduceEqDiff, addA, Nat.reduceAdd, Option.some.injEq, exists_eq_left', Option.map_some, Option.bind_some, cond_false, cond_true, chkOk, wantedS, goInt, aidx, List.map_cons, List.map_nil, Int.reduceEq, Int.reduceLT, Int.reduceLE, Int.reduceAdd, Int.reduceSub, BEq.rfl, eq_self, reduceCtorEq, hxs, evParts, repL, List.append_nil, notT, vcells, List.cons_append, List.nil_append, List.getElem?_cons_succ, List.getElem?_cons_zero, List.length_cons, List.length_nil, ne_eq, aresults, aresult, tupOf, h0, h1, h5, e]
      exact ⟨.inr trivial, _, _, rfl, rfl, rfl⟩
    | succ m =>
      have e : (i : Int) < p.length := by omega
      obtain ⟨x, hx⟩ : ∃ x, p[i]? = some x := ⟨p[i], List.getElem?_eq_getElem (by omega)⟩
      obtain ⟨r1, k1, hv1, hg1, _, _⟩ := hp.at (i := i) (by rw [len_flat msgV 5 msgV_len]; omega)
      obtain ⟨r2, k2, hv2, hg2, _, _⟩ := hq.at (i := i) (by rw [len_flat msgV 5 msgV_len]; omega)
      cases hv1; cases hv2
      have hrd1 : rdRow A1 r1 (i * 5) 5 = some [iv x.1, iv x.2.1, sv x.2.2.1, sv x.2.2.2, bv false] := rdRow_flat msgV 5 msgV_len hg1 hx
      have hrd2 : rdRow A1 r2 (i * 5) 5 = some [iv x.1, iv x.2.1, sv x.2.2.1, sv x.2.2.2, bv false] := rdRow_flat msgV 5 msgV_len hg2 hx
      have w0 : IntKind.i64.wrap ((i : Int) + 1) = ((i + 1 : Nat) : Int) := i64_add (by omega) (by omega)
      simp only [sxs, sx_label, vxs, AX.then_, AX.inBlock, aexec, Opd.ev, lputO, reduceIte, Nat.reduceEqDiff, addA, Nat.reduceAdd, Option.some.injEq, exists_eq_left', Option.map_some, Option.bind_some, cond_false, cond_true, chkOk, wantedS, goInt, aidx, List.map_cons, List.map_nil, Int.reduceEq, Int.reduceLT, Int.reduceLE, Int.reduceAdd, Int.reduceSub, BEq.rfl, eq_self, reduceCtorEq, hxs, evParts, repL, List.append_nil, notT, vcells, List.cons_append, List.nil_append, List.getElem?_cons_succ, List.getElem?_cons_zero, List.length_cons, List.length_nil, ne_eq, aresults, aresult, tupOf, h0, h1, h5, e, hrd1, hrd2, w0]
      exact ⟨m, by omega, i + 1, by omega, rfl⟩
  · exact ⟨0, by omega, rfl, rfl, rfl, rfl⟩
end Go.Proofs.YtiimkdijiddjcaaDoor
