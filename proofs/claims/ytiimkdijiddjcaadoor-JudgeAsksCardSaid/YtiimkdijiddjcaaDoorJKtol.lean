/- The judge on the abstract machine: what is said of a batch. -/
import Derived.Test.YtiimkdijiddjcaaDoorJKdef
set_option linter.unusedSimpArgs false
namespace Go.Proofs.YtiimkdijiddjcaaDoor
set_option linter.unusedSimpArgs false
set_option linter.unusedVariables false
set_option linter.unusedSectionVars false
set_option linter.defProp false
open Go Go.Abs JP

set_option maxRecDepth 10000 in
set_option maxHeartbeats 4000000 in
theorem told_spec {c lo st : Nat} {k : K} {L : Lay} {a : JP.Act} {A : AHeap} (hK : KR c lo k L A) (hlo : lo ≤ A.next) (hbn : ∀ l, (k.batches l).length ≤ 1000000) :
    EvF AQ EQ 30 [pv c, .agg (actV a).toArray, iv st] A (KPost c lo (tolK k a st) A) := by
  refine rf_body (fn := Code.a30) rfl ?_
  have hcA : c < A.next := hK.ltN hK.rc (by simp)
  obtain ⟨l0, l1, l2, l3, hl, hc0⟩ := hK.four
  have hB : KR c lo k L (A.new (.row (actV a) 14 false false)) := hK.keep (Keep.new (own := []) _ _) (by simp)
  have hlook : alookup (.agg [.int .i64, .int .i64, .str]) (.slice none 0 0) false (.map (some L.mb)) (.agg #[iv a.client, iv a.queue, sv a.key]) (A.new (.row (actV a) 14 false false)) = some (L.vb a.line) := hB.mB.lookup a.line
  have hbl : Below_ lo A (A.new (.row (actV a) 14 false false)) := Below_.new _ _ hlo
  obtain ⟨o, n, cp, hv, hn⟩ := (hB.sB a.line).len
  simp only [List.length_map, Nat.mul_one] at hn
  rw [hv] at hlook
  have hb : (A.new (.row (actV a) 14 false false)).get A.next = some (.row (actV a) 14 false false) := AHeap.new_get
  simp only [Code.a30, sxs, sx_label, vxs, AX.then_, AX.inBlock, aexec, Opd.ev, lputO, reduceIte, Nat.reduceEqDiff, addA, Nat.reduceAdd, Option.some.injEq, exists_eq_left', Option.map_some, Option.bind_some, cond_false, cond_true, chkOk, wantedS, goInt, aidx, List.map_cons, List.map_nil, Int.reduceEq, Int.reduceLT, Int.reduceLE, Int.reduceAdd, Int.reduceSub, BEq.rfl, eq_self, reduceCtorEq, hxs, evParts, repL, List.append_nil, notT, vcells, List.cons_append, List.nil_append, List.getElem?_cons_succ, List.getElem?_cons_zero, List.length_cons, List.length_nil, ne_eq, aresults, aresult, tupOf, hcA, hc0, hlook]
  obtain ⟨A1, hA1⟩ : ∃ A1, A1 = A.new (.row (actV a) 14 false false) := ⟨_, rfl⟩
  have hn1 : A1.next = A.next + 1 := by rw [hA1]; rfl
  rw [← hA1] at hB hbl hb ⊢
  refine rc_loop (fun m fr A' => ∃ pre suf, k.batches a.line = pre ++ suf ∧ suf.length = m ∧ (∀ i ∈ pre, ¬ stK k.bs i = 0) ∧ A' = A1 ∧
    lget fr 2 = iv st ∧ lget fr 4 = pv A.next ∧ lget fr 20 = .slice o n cp ∧ lget fr 21 = iv n ∧ lget fr 22 = iv pre.length) ?_ (k.batches a.line).length ?_
  · rintro m fr A2 ⟨pre, suf, hw, hm, hpre, rfl, h2, h4, h20, h21, h22⟩
    cases suf with
    | nil =>
      have e : ¬ ((pre.length : Int) < n) := by rw [← hn, hw]; simp
      simp only [sxs, sx_label, vxs, AX.then_, AX.inBlock, aexec, Opd.ev, lputO, reduceIte, Nat.reduceEqDiff, addA, Nat.reduceAdd, Option.some.injEq, exists_eq_left', Option.map_some, Option.bind_some, cond_false, cond_true, chkOk, wantedS, goInt, aidx, List.map_cons, List.map_nil, Int.reduceEq, Int.reduceLT, Int.reduceLE, Int.reduceAdd, Int.reduceSub, BEq.rfl, eq_self, reduceCtorEq, hxs, evParts, repL, List.append_nil, notT, vcells, List.cons_append, List.nil_append, List.getElem?_cons_succ, List.getElem?_cons_zero, List.length_cons, List.length_nil, ne_eq, aresults, aresult, tupOf, h2, h4, h20, h21, h22, e]
      have hr : tolK k a st = none := by
        rw [tolK, hw, List.append_nil, List.find?_eq_none.2 (by simpa using hpre)]
      exact ⟨.inr trivial, _, _, rfl, rfl, by rw [hr]; rfl, hbl, fun k' h => (by rw [hr] at h; cases h)⟩
    | cons i suf =>
      have hpl : n = pre.length + (suf.length + 1) := by rw [← hn, hw]; simp
      have e : ((pre.length : Int) < n) := by omega
      obtain ⟨r, n2, hv2, hg, hl2, hlt⟩ := (hB.sB a.line).at (i := pre.length) (by rw [List.length_map, hn]; omega)
      rw [hv] at hv2
      cases hv2
      have hil : i < k.bs.length := hK.wb a.line i (by rw [hw]; simp)
      obtain ⟨b, hbi⟩ : ∃ b, k.bs[i]? = some b := ⟨k.bs[i], List.getElem?_eq_getElem hil⟩
      have hci : ((k.batches a.line).map fun i => pv (L.ib i))[pre.length]? = some (pv (L.ib i)) := by rw [List.getElem?_map, hw]; simp
      have hbr := hB.bs i b hbi
      have hst : stK k.bs i = b.state := by simp [stK, hbi]
      have w0 : IntKind.i64.wrap (pre.length + 1) = ((pre ++ [i]).length : Int) := by
        rw [i64_add (by omega) (by have := hbn a.line; omega)]; simp
      simp only [sxs, sx_label, vxs, AX.then_, AX.inBlock, aexec, Opd.ev, lputO, reduceIte, Nat.reduceEqDiff, addA, Nat.reduceAdd, Option.some.injEq, exists_eq_left', Option.map_some, Option.bind_some, cond_false, cond_true, chkOk, wantedS, goInt, aidx, List.map_cons, List.map_nil, Int.reduceEq, Int.reduceLT, Int.reduceLE, Int.reduceAdd, Int.reduceSub, BEq.rfl, eq_self, reduceCtorEq, hxs, evParts, repL, List.append_nil, notT, vcells, List.cons_append, List.nil_append, List.getElem?_cons_succ, List.getElem?_cons_zero, List.length_cons, List.length_nil, ne_eq, aresults, aresult, tupOf, kgs, h2, h4, h20, h21, h22, e, hg, hci, hbr, hb]
      rcases (Classical.em ((b.state : Int) = 0)).symm with d | d
      · simp only [sxs, sx_label, vxs, AX.then_, AX.inBlock, aexec, Opd.ev, lputO, reduceIte, Nat.reduceEqDiff, addA, Nat.reduceAdd, Option.some.injEq, exists_eq_left', Option.map_some, Option.bind_some, cond_false, cond_true, chkOk, wantedS, goInt, aidx, List.map_cons, List.map_nil, Int.reduceEq, Int.reduceLT, Int.reduceLE, Int.reduceAdd, Int.reduceSub, BEq.rfl, eq_self, reduceCtorEq, hxs, evParts, repL, List.append_nil, notT, vcells, List.cons_append, List.nil_append, List.getElem?_cons_succ, List.getElem?_cons_zero, List.length_cons, List.length_nil, ne_eq, aresults, aresult, tupOf, kgs, h2, h4, h20, h21, h22, e, hg, hci, hbr, hb, d, w0]
        exact ⟨suf.length, by simp at hm; omega, pre ++ [i], suf, by simp [hw], rfl, by
          intro i' hi'
          simp only [List.mem_append, List.mem_singleton] at hi'
          rcases hi' with hi' | rfl
          · exact hpre i' hi'
          · rw [hst]; omega, rfl⟩
      have hfind : (k.batches a.line).find? (fun i => decide (stK k.bs i = 0)) = some i := by
        rw [hw, List.find?_append, List.find?_eq_none.2 (by simpa using hpre)]
        simp [hst, show b.state = 0 by omega]
      have hwr : wrRow A2 (L.ib i) 2 [iv st] = some (A2.set (L.ib i) (.row (kbV { b with state := st }) 3 false false)) := by
        rw [wrRow_at hbr (by simp [kbV])]; rfl
      have hib : L.ib i ≠ A.next := by have := hK.ltN (hK.rib i hil) (by simp); omega
      simp only [sxs, sx_label, vxs, AX.then_, AX.inBlock, aexec, Opd.ev, lputO, reduceIte, Nat.reduceEqDiff, addA, Nat.reduceAdd, Option.some.injEq, exists_eq_left', Option.map_some, Option.bind_some, cond_false, cond_true, chkOk, wantedS, goInt, aidx, List.map_cons, List.map_nil, Int.reduceEq, Int.reduceLT, Int.reduceLE, Int.reduceAdd, Int.reduceSub, BEq.rfl, eq_self, reduceCtorEq, hxs, evParts, repL, List.append_nil, notT, vcells, List.cons_append, List.nil_append, List.getElem?_cons_succ, List.getElem?_cons_zero, List.length_cons, List.length_nil, ne_eq, aresults, aresult, tupOf, kgs, h2, h4, h20, h21, h22, e, hg, hci, hbr, hb, d, hwr, AHeap.set_get, AHeap.set_ne, hib]
      have hlo2 : lo ≤ L.ib i := (hK.lt (L.ib i) (by rw [hK.rib i hil]; simp)).1
      have hbl2 : Below_ lo A (A2.set (L.ib i) (.row (kbV { b with state := st }) 3 false false)) := hbl.trans (Below_.of (Keep.set (own := [L.ib i]) _ (.inl (by simp))) (by omega) (by simpa using hlo2))
      have hK2 := hB.setB (i := i) hil { b with state := st }
      rcases (Classical.em (b.to_ = a.seq)).symm with d2 | d2
      · have hr : tolK k a st = none := by rw [tolK, hfind]; simp [hbi, d2]
        exact ⟨.inr trivial, _, _, rfl, rfl, by rw [hr]; simp [d2], hbl2, fun k' h => (by rw [hr] at h; cases h)⟩
      · have hr : tolK k a st = some { k with bs := k.bs.set i { b with state := st } } := by
          rw [tolK, hfind]; simp [hbi, d2, set_of_modify _ hbi]
        exact ⟨.inr trivial, _, _, rfl, rfl, by rw [hr]; simp [d2], hbl2, fun k' h => (by rw [hr] at h; cases h; exact ⟨L, hK2⟩)⟩
  · exact ⟨[], k.batches a.line, rfl, rfl, by simp, rfl, by simp only [lget_lput, frOf_cons, frOf_nil, reduceIte, Nat.reduceEqDiff], by simp only [lget_lput, frOf_cons, frOf_nil, reduceIte, Nat.reduceEqDiff], by simp only [lget_lput, frOf_cons, frOf_nil, reduceIte, Nat.reduceEqDiff], by simp only [lget_lput, frOf_cons, frOf_nil, reduceIte, Nat.reduceEqDiff], by simp only [lget_lput, reduceIte]; rfl⟩
end Go.Proofs.YtiimkdijiddjcaaDoor
