/- The judge on the abstract machine: a message is handed out. -/
import Derived.Test.YtiimkdijiddjcaaDoorJKset
set_option linter.unusedSimpArgs false
namespace Go.Proofs.YtiimkdijiddjcaaDoor
set_option linter.unusedSimpArgs false
set_option linter.unusedVariables false
set_option linter.unusedSectionVars false
set_option linter.defProp false
open Go Go.Abs JP

set_option maxRecDepth 10000 in
set_option maxHeartbeats 1500000 in
theorem deliverK_spec {c lo : Nat} {k : K} {L : Lay} {a : JP.Act} {A : AHeap} (hK : KR c lo k L A) (hlo : lo ≤ A.next) (hcl : 0 ≤ a.client ∧ a.client < 4) (hbn : ∀ l, (k.all l).length ≤ 1000000) :
    EvF AQ EQ 31 [pv c, .agg (actV a).toArray] A (KPost c lo (delK k a) A) := by
  refine rf_body (fn := Code.a31) rfl ?_
  have hcA : c < A.next := hK.ltN hK.rc (by simp)
  obtain ⟨l0, l1, l2, l3, hl, hc0⟩ := hK.four
  obtain ⟨cl, hclE⟩ : ∃ n : Nat, a.client = n := ⟨a.client.toNat, by omega⟩
  have hcl4 : cl < 4 := by omega
  have ecl : (cl : Int) < ((4 : Nat) : Int) := by omega
  -- the three rows of its own
  let X := (A.new (.row (actV a) 14 false false)).new (.row [iv 0, iv 0, sv ⟨#[]⟩] 3 false false)
  let B1 := X.new (.row [iv 0, iv 0, sv ⟨#[]⟩, sv ⟨#[]⟩, bv false] 5 false false)
  let B2 := B1.set (A.next + 1) (.row [iv a.pub, iv a.queue, sv a.mkey] 3 false false)
  let B3 := B2.set (A.next + 2) (.row [iv a.pub, iv a.mseq, sv a.mkey, sv a.mbody, bv a.again] 5 false false)
  have hXn : X.next = A.next + 2 := rfl
  have hB1n : B1.next = A.next + 3 := rfl
  have g11 : B1.get (A.next + 1) = some (.row [iv 0, iv 0, sv ⟨#[]⟩] 3 false false) := by
    show (X.new _).get _ = _
    rw [AHeap.new_lt (by omega)]; exact AHeap.new_get (A := A.new _)
  have g12 : B1.get (A.next + 2) = some (.row [iv 0, iv 0, sv ⟨#[]⟩, sv ⟨#[]⟩, bv false] 5 false false) := AHeap.new_get (A := X)
  have hw1 : wrRow B1 (A.next + 1) 0 [iv a.pub, iv a.queue, sv a.mkey] = some B2 := by
    rw [wrRow_at g11 (by simp)]; rfl
  have hw2 : wrRow B2 (A.next + 2) 0 [iv a.pub, iv a.mseq, sv a.mkey, sv a.mbody, bv a.again] = some B3 := by
    rw [wrRow_at (cs := [iv 0, iv 0, sv ⟨#[]⟩, sv ⟨#[]⟩, bv false]) (sz := 5) (o := false) (by show (B1.set _ _).get _ = _; rw [AHeap.set_ne (by omega)]; exact g12) (by simp)]; rfl
  have hk3 : Keep [] A B3 := by
    refine ⟨by show A.next ≤ A.next + 3; omega, fun id hi _ => ?_⟩
    show ((B1.set _ _).set _ _).get id = _
    rw [AHeap.set_ne (by omega), AHeap.set_ne (by omega)]
    show (X.new _).get id = _
    rw [AHeap.new_lt (by omega)]
    show ((A.new _).new _).get id = _
    rw [AHeap.new_lt (by rw [AHeap.new_next]; omega), AHeap.new_lt hi]
  have hrm : rdRow (A.new (.row (actV a) 14 false false)) A.next 9 5 = some [iv a.pub, iv a.mseq, sv a.mkey, sv a.mbody, bv a.again] := by
    rw [rdRow_at AHeap.new_get (by simp [actV])]; rfl
  have gA1 : B1.get A.next = some (.row (actV a) 14 false false) := by
    show (X.new _).get _ = _
    rw [AHeap.new_lt (by omega)]
    show ((A.new _).new _).get _ = _
    rw [AHeap.new_lt (by rw [AHeap.new_next]; omega)]; exact AHeap.new_get
  have gA2 : B2.get A.next = some (.row (actV a) 14 false false) := by
    show (B1.set _ _).get _ = _
    rw [AHeap.set_ne (by omega)]; exact gA1
  have hrm2 : rdRow B2 A.next 9 5 = some [iv a.pub, iv a.mseq, sv a.mkey, sv a.mbody, bv a.again] := by
    rw [rdRow_at gA2 (by simp [actV])]; rfl
  have hbA : B3.get A.next = some (.row (actV a) 14 false false) := by
    show (B2.set _ _).get _ = _
    rw [AHeap.set_ne (by omega)]; exact gA2
  have hM : B3.get (A.next + 2) = some (.row [iv a.pub, iv a.mseq, sv a.mkey, sv a.mbody, bv a.again] 5 false false) := AHeap.set_get
  have hLn : rdRow B3 (A.next + 1) 0 3 = some [iv a.pub, iv a.queue, sv a.mkey] := rdRow_all (by show (B2.set _ _).get _ = _; rw [AHeap.set_ne (by omega)]; exact AHeap.set_get) rfl
  have hB3n : B3.next = A.next + 3 := rfl
  have eX : (A.new (.row (actV a) 14 false false)).new (.row [iv 0, iv 0, sv ⟨#[]⟩] 3 false false) = X := rfl
  have eB1 : X.new (.row [iv 0, iv 0, sv ⟨#[]⟩, sv ⟨#[]⟩, bv false] 5 false false) = B1 := rfl
  clear_value B3 B2 B1 X
  have hB : KR c lo k L B3 := hK.keep hk3 (by simp)
  have hbl : Below_ lo A B3 := Below_.of hk3 hlo (by simp)
  have hc : B3.get c = some (.row [.map (some L.mb), .map (some L.ma), L.ov, .map (some L.mh), .map (some L.mo), .map (some L.mc), iv l0, iv l1, iv l2, iv l3] 10 false false) := (hk3.get c hcA (by simp)).trans hc0
  have htop : ([.map (some L.mb), .map (some L.ma), L.ov, .map (some L.mh), .map (some L.mo), .map (some L.mc), iv l0, iv l1, iv l2, iv l3] : List Value)[6 + cl * 1]? = some (iv (topOf k.last a.client)) := by
    rw [hl, hclE, topOf, Int.toNat_natCast]
    match cl, hcl4 with
    | 0, _ => rfl
    | 1, _ => rfl
    | 2, _ => rfl
    | 3, _ => rfl
  have hlook : alookup (.agg [.int .i64, .int .i64, .str]) (.slice none 0 0) false (.map (some L.ma)) (.agg #[iv a.pub, iv a.queue, sv a.mkey]) B3 = some (L.va a.mline) := hB.mA.lookup a.mline
  obtain ⟨o, n, cp, hv, hn⟩ := (hB.sA a.mline).len
  simp only [List.length_map, Nat.mul_one] at hn
  rw [hv] at hlook
  have hheld : alookup (.agg [.int .i64, .str]) (.bool false) false (.map (some L.mh)) (.agg #[iv a.queue, sv a.mkey]) B3 = some (bv (k.held a.lock)) := hB.mH.lookup a.lock
  have hno : (a.tag ≤ topOf k.last a.client ∨ a.mseq < 1 ∨ a.mseq > (k.all a.mline).length ∨ k.held a.lock = true) → delK k a = none := fun h => by rw [delK, if_pos h]
  simp only [Code.a31, sxs, vxs, AX.then_, AX.inBlock, aexec, Opd.ev, lputO, reduceIte, Nat.reduceEqDiff, addA, Nat.reduceAdd, Option.some.injEq, exists_eq_left', Option.map_some, Option.bind_some, cond_false, cond_true, chkOk, wantedS, goInt, aidx, List.map_cons, List.map_nil, Int.reduceEq, Int.reduceLT, Int.reduceLE, Int.reduceAdd, Int.reduceSub, BEq.rfl, eq_self, reduceCtorEq, hxs, evParts, repL, List.append_nil, notT, vcells, List.cons_append, List.nil_append, List.getElem?_cons_succ, List.getElem?_cons_zero, List.length_cons, List.length_nil, ne_eq, aresults, aresult, tupOf, eX, eB1, hXn, hB1n, hw1, hw2, hrm, hrm2, valEq, valEqs, valEq1, hc, hbA, hLn, hM, hlook, htop, ecl, hclE, hheld]
  apply sx_scopeS
  simp only [sxs, vxs, AX.then_, AX.inBlock, aexec, Opd.ev, lputO, reduceIte, Nat.reduceEqDiff, addA, Nat.reduceAdd, Option.some.injEq, exists_eq_left', Option.map_some, Option.bind_some, cond_false, cond_true, chkOk, wantedS, goInt, aidx, List.map_cons, List.map_nil, Int.reduceEq, Int.reduceLT, Int.reduceLE, Int.reduceAdd, Int.reduceSub, BEq.rfl, eq_self, reduceCtorEq, hxs, evParts, repL, List.append_nil, notT, vcells, List.cons_append, List.nil_append, List.getElem?_cons_succ, List.getElem?_cons_zero, List.length_cons, List.length_nil, ne_eq, aresults, aresult, tupOf, eX, eB1, hXn, hB1n, hw1, hw2, hrm, hrm2, valEq, valEqs, valEq1, hc, hbA, hLn, hM, hlook, htop, ecl, hclE, hheld]
  have hnone : ∀ h : delK k a = none, KPost c lo (delK k a) A (bv false) B3 := fun h => ⟨by rw [h]; rfl, hbl, fun k' h' => by rw [h] at h'; cases h'⟩
  rcases Classical.em (a.tag ≤ topOf k.last cl) with c1 | c1
  · simp only [sxs, vxs, AX.then_, AX.inBlock, aexec, Opd.ev, lputO, reduceIte, Nat.reduceEqDiff, addA, Nat.reduceAdd, Option.some.injEq, exists_eq_left', Option.map_some, Option.bind_some, cond_false, cond_true, chkOk, wantedS, goInt, aidx, List.map_cons, List.map_nil, Int.reduceEq, Int.reduceLT, Int.reduceLE, Int.reduceAdd, Int.reduceSub, BEq.rfl, eq_self, reduceCtorEq, hxs, evParts, repL, List.append_nil, notT, vcells, List.cons_append, List.nil_append, List.getElem?_cons_succ, List.getElem?_cons_zero, List.length_cons, List.length_nil, ne_eq, aresults, aresult, tupOf, c1, AX.jump]
    exact ⟨.inr trivial, _, _, rfl, rfl, hnone (hno (.inl (by rw [hclE]; exact c1)))⟩
  simp only [sxs, vxs, AX.then_, AX.inBlock, aexec, Opd.ev, lputO, reduceIte, Nat.reduceEqDiff, addA, Nat.reduceAdd, Option.some.injEq, exists_eq_left', Option.map_some, Option.bind_some, cond_false, cond_true, chkOk, wantedS, goInt, aidx, List.map_cons, List.map_nil, Int.reduceEq, Int.reduceLT, Int.reduceLE, Int.reduceAdd, Int.reduceSub, BEq.rfl, eq_self, reduceCtorEq, hxs, evParts, repL, List.append_nil, notT, vcells, List.cons_append, List.nil_append, List.getElem?_cons_succ, List.getElem?_cons_zero, List.length_cons, List.length_nil, ne_eq, aresults, aresult, tupOf, hc, hbA, hLn, hM, hlook, htop, ecl, hclE, hheld, c1]
  rcases Classical.em (a.mseq < 1) with c2 | c2
  · simp only [sxs, vxs, AX.then_, AX.inBlock, aexec, Opd.ev, lputO, reduceIte, Nat.reduceEqDiff, addA, Nat.reduceAdd, Option.some.injEq, exists_eq_left', Option.map_some, Option.bind_some, cond_false, cond_true, chkOk, wantedS, goInt, aidx, List.map_cons, List.map_nil, Int.reduceEq, Int.reduceLT, Int.reduceLE, Int.reduceAdd, Int.reduceSub, BEq.rfl, eq_self, reduceCtorEq, hxs, evParts, repL, List.append_nil, notT, vcells, List.cons_append, List.nil_append, List.getElem?_cons_succ, List.getElem?_cons_zero, List.length_cons, List.length_nil, ne_eq, aresults, aresult, tupOf, c2, AX.jump]
    exact ⟨.inr trivial, _, _, rfl, rfl, hnone (hno (.inr (.inl c2)))⟩
  simp only [sxs, vxs, AX.then_, AX.inBlock, aexec, Opd.ev, lputO, reduceIte, Nat.reduceEqDiff, addA, Nat.reduceAdd, Option.some.injEq, exists_eq_left', Option.map_some, Option.bind_some, cond_false, cond_true, chkOk, wantedS, goInt, aidx, List.map_cons, List.map_nil, Int.reduceEq, Int.reduceLT, Int.reduceLE, Int.reduceAdd, Int.reduceSub, BEq.rfl, eq_self, reduceCtorEq, hxs, evParts, repL, List.append_nil, notT, vcells, List.cons_append, List.nil_append, List.getElem?_cons_succ, List.getElem?_cons_zero, List.length_cons, List.length_nil, ne_eq, aresults, aresult, tupOf, hc, hbA, hLn, hM, hlook, htop, ecl, hclE, hheld, c2]
  rcases Classical.em ((n : Int) < a.mseq) with c3 | c3
  · simp only [sxs, vxs, AX.then_, AX.inBlock, aexec, Opd.ev, lputO, reduceIte, Nat.reduceEqDiff, addA, Nat.reduceAdd, Option.some.injEq, exists_eq_left', Option.map_some, Option.bind_some, cond_false, cond_true, chkOk, wantedS, goInt, aidx, List.map_cons, List.map_nil, Int.reduceEq, Int.reduceLT, Int.reduceLE, Int.reduceAdd, Int.reduceSub, BEq.rfl, eq_self, reduceCtorEq, hxs, evParts, repL, List.append_nil, notT, vcells, List.cons_append, List.nil_append, List.getElem?_cons_succ, List.getElem?_cons_zero, List.length_cons, List.length_nil, ne_eq, aresults, aresult, tupOf, c3, AX.jump]
    exact ⟨.inr trivial, _, _, rfl, rfl, hnone (hno (.inr (.inr (.inl (by omega)))))⟩
  simp only [sxs, vxs, AX.then_, AX.inBlock, aexec, Opd.ev, lputO, reduceIte, Nat.reduceEqDiff, addA, Nat.reduceAdd, Option.some.injEq, exists_eq_left', Option.map_some, Option.bind_some, cond_false, cond_true, chkOk, wantedS, goInt, aidx, List.map_cons, List.map_nil, Int.reduceEq, Int.reduceLT, Int.reduceLE, Int.reduceAdd, Int.reduceSub, BEq.rfl, eq_self, reduceCtorEq, hxs, evParts, repL, List.append_nil, notT, vcells, List.cons_append, List.nil_append, List.getElem?_cons_succ, List.getElem?_cons_zero, List.length_cons, List.length_nil, ne_eq, aresults, aresult, tupOf, hc, hbA, hLn, hM, hlook, htop, ecl, hclE, hheld, c3]
  cases hhd : k.held a.lock with
  | true =>
    simp only [sxs, vxs, AX.then_, AX.inBlock, aexec, Opd.ev, lputO, reduceIte, Nat.reduceEqDiff, addA, Nat.reduceAdd, Option.some.injEq, exists_eq_left', Option.map_some, Option.bind_some, cond_false, cond_true, chkOk, wantedS, goInt, aidx, List.map_cons, List.map_nil, Int.reduceEq, Int.reduceLT, Int.reduceLE, Int.reduceAdd, Int.reduceSub, BEq.rfl, eq_self, reduceCtorEq, hxs, evParts, repL, List.append_nil, notT, vcells, List.cons_append, List.nil_append, List.getElem?_cons_succ, List.getElem?_cons_zero, List.length_cons, List.length_nil, ne_eq, aresults, aresult, tupOf, AX.jump]
    exact ⟨.inr trivial, _, _, rfl, rfl, hnone (hno (.inr (.inr (.inr hhd))))⟩
  | false =>
  have hd1 : delK k a = match (k.all a.mline)[(a.mseq - 1).toNat]? with
    | none => none
    | some j => match k.xs[j]? with
      | none => none
      | some x => delX k a j x := by
    rw [delK, if_neg]
    · rfl
    rintro (h | h | h | h)
    · rw [hclE] at h; exact c1 h
    · exact c2 h
    · omega
    · rw [hhd] at h; cases h
  obtain ⟨q, hq⟩ : ∃ q : Nat, a.mseq - 1 = q := ⟨(a.mseq - 1).toNat, by omega⟩
  have hqn : q < n := by omega
  have wq : IntKind.i64.wrap (a.mseq - 1) = (q : Int) := by rw [← hq]; exact i64_add (by omega) (by have := hbn a.mline; omega)
  have eq_ : (q : Int) < n := by omega
  obtain ⟨j, hj⟩ : ∃ j, (k.all a.mline)[q]? = some j := ⟨(k.all a.mline)[q], List.getElem?_eq_getElem (by omega)⟩
  have hjl : j < k.xs.length := hK.wa a.mline j (List.mem_of_getElem? hj)
  obtain ⟨x, hx⟩ : ∃ x, k.xs[j]? = some x := ⟨k.xs[j], List.getElem?_eq_getElem hjl⟩
  have hxb : x.b < k.bs.length := hK.wx x (List.mem_of_getElem? hx)
  obtain ⟨b, hbb⟩ : ∃ b, k.bs[x.b]? = some b := ⟨k.bs[x.b], List.getElem?_eq_getElem hxb⟩
  obtain ⟨r, n2, hv2, hg, hl2, hlt⟩ := (hB.sA a.mline).at (i := q) (by rw [List.length_map]; omega)
  rw [hv] at hv2
  cases hv2
  have hci : ((k.all a.mline).map fun i => pv (L.ix i))[q]? = some (pv (L.ix j)) := by rw [List.getElem?_map, hj]; rfl
  have hd2 : delK k a = delX k a j x := by rw [hd1, hq, Int.toNat_natCast, hj]; simp only [hx]
  -- the message's flag is taken off
  have hw3 : wrRow B3 (A.next + 2) 4 [bv false] = some (B3.set (A.next + 2) (.row [iv a.pub, iv a.mseq, sv a.mkey, sv a.mbody, bv false] 5 false false)) := by
    rw [wrRow_at hM (by simp)]; rfl
  have hk4 : Keep [A.next + 2] B3 (B3.set (A.next + 2) (.row [iv a.pub, iv a.mseq, sv a.mkey, sv a.mbody, bv false] 5 false false)) := Keep.set _ (.inl (by simp))
  obtain ⟨B4, hB4⟩ : ∃ B4, B4 = B3.set (A.next + 2) (.row [iv a.pub, iv a.mseq, sv a.mkey, sv a.mbody, bv false] 5 false false) := ⟨_, rfl⟩
  have hM4 : B4.get (A.next + 2) = some (.row [iv a.pub, iv a.mseq, sv a.mkey, sv a.mbody, bv false] 5 false false) := by rw [hB4]; exact AHeap.set_get
  have hn4 : B4.next = A.next + 3 := by rw [hB4]; exact hB3n
  rw [← hB4] at hw3 hk4
  have hB5 : KR c lo k L B4 := hB.keep hk4 (by
    intro id hid
    simp only [List.mem_singleton] at hid
    subst hid
    cases hr : L.role (A.next + 2) with
    | no => rfl
    | _ => have := (hK.lt (A.next + 2) (by rw [hr]; simp)).2; omega)
  have hbl4 : Below_ lo A B4 := hbl.trans (Below_.of hk4 (by omega) (by simp; omega))
  have hbA4 : B4.get A.next = some (.row (actV a) 14 false false) := (hk4.get A.next (by omega) (by simp)).trans hbA
  have hcm4 : rdRow B4 (A.next + 2) 0 5 = some [iv a.pub, iv a.mseq, sv a.mkey, sv a.mbody, bv false] := rdRow_all hM4 rfl
  have hx4 := hB5.xs j x hx
  have hb4 := hB5.bs x.b b hbb
  have hcx4 : rdRow B4 (L.ix j) 0 5 = some [iv x.pub, iv x.seq, sv x.key, sv x.body, bv false] := by rw [rdRow_at hx4 (by simp [kxV])]; rfl
  have hst : stK k.bs x.b = b.state := by simp [stK, hbb]
  have hr4 : B4.get r = some (.row ((k.all a.mline).map fun i => pv (L.ix i)) 1 false true) := by
    have h0 : r < B3.next := by
      have := hB.ltN (hB.rva a.mline r (by rw [hv]; simp [rowL])) (by simp); exact this
    have h1 : r < A.next := hK.ltN (hK.rva a.mline r (by rw [hv]; simp [rowL])) (by simp)
    exact (hk4.get r h0 (by simp; omega)).trans hg
  have hnone4 : ∀ h : delK k a = none, KPost c lo (delK k a) A (bv false) B4 := fun h => ⟨by rw [h]; rfl, hbl4, fun k' h' => by rw [h] at h'; cases h'⟩
  simp only [sxs, vxs, AX.then_, AX.inBlock, aexec, Opd.ev, lputO, reduceIte, Nat.reduceEqDiff, addA, Nat.reduceAdd, Option.some.injEq, exists_eq_left', Option.map_some, Option.bind_some, cond_false, cond_true, chkOk, wantedS, goInt, aidx, List.map_cons, List.map_nil, Int.reduceEq, Int.reduceLT, Int.reduceLE, Int.reduceAdd, Int.reduceSub, BEq.rfl, eq_self, reduceCtorEq, hxs, evParts, repL, List.append_nil, notT, vcells, List.cons_append, List.nil_append, List.getElem?_cons_succ, List.getElem?_cons_zero, List.length_cons, List.length_nil, ne_eq, aresults, aresult, tupOf, kgs, hc, hbA, hLn, hM, hlook, htop, ecl, hclE, hheld, wq, eq_, hg, hci, hw3, hcm4, hcx4]
  rcases (Classical.em (x.pub = a.pub ∧ x.seq = a.mseq ∧ x.key = a.mkey ∧ x.body = a.mbody)).symm with d1 | d1
  · simp only [sxs, vxs, AX.then_, AX.inBlock, aexec, Opd.ev, lputO, reduceIte, Nat.reduceEqDiff, addA, Nat.reduceAdd, Option.some.injEq, exists_eq_left', Option.map_some, Option.bind_some, cond_false, cond_true, chkOk, wantedS, goInt, aidx, List.map_cons, List.map_nil, Int.reduceEq, Int.reduceLT, Int.reduceLE, Int.reduceAdd, Int.reduceSub, BEq.rfl, eq_self, reduceCtorEq, hxs, evParts, repL, List.append_nil, notT, vcells, List.cons_append, List.nil_append, List.getElem?_cons_succ, List.getElem?_cons_zero, List.length_cons, List.length_nil, ne_eq, aresults, aresult, tupOf, d1, AX.jump]
    exact ⟨.inr trivial, _, _, rfl, rfl, hnone4 (by rw [hd2, delX, if_pos (.inl d1)])⟩
  simp only [sxs, vxs, AX.then_, AX.inBlock, aexec, Opd.ev, lputO, reduceIte, Nat.reduceEqDiff, addA, Nat.reduceAdd, Option.some.injEq, exists_eq_left', Option.map_some, Option.bind_some, cond_false, cond_true, chkOk, wantedS, goInt, aidx, List.map_cons, List.map_nil, Int.reduceEq, Int.reduceLT, Int.reduceLE, Int.reduceAdd, Int.reduceSub, BEq.rfl, eq_self, reduceCtorEq, hxs, evParts, repL, List.append_nil, notT, vcells, List.cons_append, List.nil_append, List.getElem?_cons_succ, List.getElem?_cons_zero, List.length_cons, List.length_nil, ne_eq, aresults, aresult, tupOf, kgs, d1, hx4, hb4]
  rcases Classical.em ((b.state : Int) = 2) with d2 | d2
  · simp only [sxs, vxs, AX.then_, AX.inBlock, aexec, Opd.ev, lputO, reduceIte, Nat.reduceEqDiff, addA, Nat.reduceAdd, Option.some.injEq, exists_eq_left', Option.map_some, Option.bind_some, cond_false, cond_true, chkOk, wantedS, goInt, aidx, List.map_cons, List.map_nil, Int.reduceEq, Int.reduceLT, Int.reduceLE, Int.reduceAdd, Int.reduceSub, BEq.rfl, eq_self, reduceCtorEq, hxs, evParts, repL, List.append_nil, notT, vcells, List.cons_append, List.nil_append, List.getElem?_cons_succ, List.getElem?_cons_zero, List.length_cons, List.length_nil, ne_eq, aresults, aresult, tupOf, d2, AX.jump]
    exact ⟨.inr trivial, _, _, rfl, rfl, hnone4 (by rw [hd2, delX, if_pos (.inr (.inl (by rw [hst]; omega)))])⟩
  simp only [sxs, vxs, AX.then_, AX.inBlock, aexec, Opd.ev, lputO, reduceIte, Nat.reduceEqDiff, addA, Nat.reduceAdd, Option.some.injEq, exists_eq_left', Option.map_some, Option.bind_some, cond_false, cond_true, chkOk, wantedS, goInt, aidx, List.map_cons, List.map_nil, Int.reduceEq, Int.reduceLT, Int.reduceLE, Int.reduceAdd, Int.reduceSub, BEq.rfl, eq_self, reduceCtorEq, hxs, evParts, repL, List.append_nil, notT, vcells, List.cons_append, List.nil_append, List.getElem?_cons_succ, List.getElem?_cons_zero, List.length_cons, List.length_nil, ne_eq, aresults, aresult, tupOf, kgs, d2, hx4, hb4]
  cases d3 : x.se with
  | true =>
    simp only [sxs, vxs, AX.then_, AX.inBlock, aexec, Opd.ev, lputO, reduceIte, Nat.reduceEqDiff, addA, Nat.reduceAdd, Option.some.injEq, exists_eq_left', Option.map_some, Option.bind_some, cond_false, cond_true, chkOk, wantedS, goInt, aidx, List.map_cons, List.map_nil, Int.reduceEq, Int.reduceLT, Int.reduceLE, Int.reduceAdd, Int.reduceSub, BEq.rfl, eq_self, reduceCtorEq, hxs, evParts, repL, List.append_nil, notT, vcells, List.cons_append, List.nil_append, List.getElem?_cons_succ, List.getElem?_cons_zero, List.length_cons, List.length_nil, ne_eq, aresults, aresult, tupOf, AX.jump]
    exact ⟨.inr trivial, _, _, rfl, rfl, hnone4 (by rw [hd2, delX, if_pos (.inr (.inr (.inl d3)))])⟩
  | false =>
  simp only [sxs, vxs, AX.then_, AX.inBlock, aexec, Opd.ev, lputO, reduceIte, Nat.reduceEqDiff, addA, Nat.reduceAdd, Option.some.injEq, exists_eq_left', Option.map_some, Option.bind_some, cond_false, cond_true, chkOk, wantedS, goInt, aidx, List.map_cons, List.map_nil, Int.reduceEq, Int.reduceLT, Int.reduceLE, Int.reduceAdd, Int.reduceSub, BEq.rfl, eq_self, reduceCtorEq, hxs, evParts, repL, List.append_nil, notT, vcells, List.cons_append, List.nil_append, List.getElem?_cons_succ, List.getElem?_cons_zero, List.length_cons, List.length_nil, ne_eq, aresults, aresult, tupOf, kgs, hx4, hb4, hbA4]
  rcases (Classical.em (x.dl = a.again)).symm with d4 | d4
  · have d4' : (x.dl == a.again) = false := by rw [beq_eq_false_iff_ne]; exact d4
    simp only [sxs, vxs, AX.then_, AX.inBlock, aexec, Opd.ev, lputO, reduceIte, Nat.reduceEqDiff, addA, Nat.reduceAdd, Option.some.injEq, exists_eq_left', Option.map_some, Option.bind_some, cond_false, cond_true, chkOk, wantedS, goInt, aidx, List.map_cons, List.map_nil, Int.reduceEq, Int.reduceLT, Int.reduceLE, Int.reduceAdd, Int.reduceSub, BEq.rfl, eq_self, reduceCtorEq, hxs, evParts, repL, List.append_nil, notT, vcells, List.cons_append, List.nil_append, List.getElem?_cons_succ, List.getElem?_cons_zero, List.length_cons, List.length_nil, ne_eq, aresults, aresult, tupOf, d4', AX.jump]
    exact ⟨.inr trivial, _, _, rfl, rfl, hnone4 (by rw [hd2, delX, if_pos (.inr (.inr (.inr d4)))])⟩
  have d4' : (x.dl == a.again) = true := by rw [beq_iff_eq]; exact d4
  have hd3 : delK k a = if x.dl = false ∧ ((k.all a.mline).take q).any (behind k) = true then none else some (delR k a j) := by
    rw [hd2, delX, if_neg, hq, Int.toNat_natCast]
    rintro (h | h | h | h)
    · exact h d1
    · rw [hst] at h; omega
    · rw [d3] at h; cases h
    · exact h d4
  simp only [sxs, vxs, AX.then_, AX.inBlock, aexec, Opd.ev, lputO, reduceIte, Nat.reduceEqDiff, addA, Nat.reduceAdd, Option.some.injEq, exists_eq_left', Option.map_some, Option.bind_some, cond_false, cond_true, chkOk, wantedS, goInt, aidx, List.map_cons, List.map_nil, Int.reduceEq, Int.reduceLT, Int.reduceLE, Int.reduceAdd, Int.reduceSub, BEq.rfl, eq_self, reduceCtorEq, hxs, evParts, repL, List.append_nil, notT, vcells, List.cons_append, List.nil_append, List.getElem?_cons_succ, List.getElem?_cons_zero, List.length_cons, List.length_nil, ne_eq, aresults, aresult, tupOf, kgs, hx4, hb4, hbA4, d4']
  rw [sx_label]
  simp only [AX.then_]
  refine rs_tail (l := 0) rfl (fun m fr A' => ∃ i, i + m = q ∧ (x.dl = false → ((k.all a.mline).take i).any (behind k) = false) ∧ A' = B4 ∧
    lget fr 0 = pv c ∧ lget fr 3 = pv A.next ∧ lget fr 4 = bv false ∧ lget fr 6 = pv (A.next + 2) ∧ lget fr 7 = .slice (some ⟨r, 0, none⟩) n (capInf * (1 + 1) + n) ∧ lget fr 8 = pv (L.ix j) ∧ lget fr 9 = iv i) ?_ q ?_
  · rintro m fr A' ⟨i, him, hah, rfl, h0, h3, h4, h6, h7, h8, h9⟩
    rw [sx_seq]
    refine RC_cut (fun y fr' A'' => A'' = A' ∧ lget fr' 0 = pv c ∧ lget fr' 3 = pv A.next ∧ lget fr' 4 = bv false ∧ lget fr' 6 = pv (A.next + 2) ∧ lget fr' 7 = .slice (some ⟨r, 0, none⟩) n (capInf * (1 + 1) + n) ∧ lget fr' 8 = pv (L.ix j) ∧
      ((y = .normal ∧ ¬ (x.dl = false ∧ ((k.all a.mline).take q).any (behind k) = true)) ∨ (y = .goto 0 ∧ ∃ i', i' + (m - 1) = q ∧ 0 < m ∧ (x.dl = false → ((k.all a.mline).take i').any (behind k) = false) ∧ lget fr' 9 = iv i') ∨ (y = .ret ∧ delK k a = none))) ?_ ?_
    · cases m with
      | zero =>
        have e : ¬ ((i : Int) < q) := by omega
        have hiq : i = q := by omega
        subst hiq
        simp only [sxs, vxs, AX.then_, AX.inBlock, aexec, Opd.ev, lputO, reduceIte, Nat.reduceEqDiff, addA, Nat.reduceAdd, Option.some.injEq, exists_eq_left', Option.map_some, Option.bind_some, cond_false, cond_true, chkOk, wantedS, goInt, aidx, List.map_cons, List.map_nil, Int.reduceEq, Int.reduceLT, Int.reduceLE, Int.reduceAdd, Int.reduceSub, BEq.rfl, eq_self, reduceCtorEq, hxs, evParts, repL, List.append_nil, notT, vcells, List.cons_append, List.nil_append, List.getElem?_cons_succ, List.getElem?_cons_zero, List.length_cons, List.length_nil, ne_eq, aresults, aresult, tupOf, kgs, h0, h3, h4, h6, h7, h8, h9, hM4, wq, e]
        exact .inl (by rintro ⟨e1, e2⟩; rw [hah e1] at e2; cases e2)
      | succ m =>
        have e : (i : Int) < q := by omega
        have ein : (i : Int) < n := by omega
        cases hdl : x.dl with
        | true =>
          simp only [sxs, vxs, AX.then_, AX.inBlock, aexec, Opd.ev, lputO, reduceIte, Nat.reduceEqDiff, addA, Nat.reduceAdd, Option.some.injEq, exists_eq_left', Option.map_some, Option.bind_some, cond_false, cond_true, chkOk, wantedS, goInt, aidx, List.map_cons, List.map_nil, Int.reduceEq, Int.reduceLT, Int.reduceLE, Int.reduceAdd, Int.reduceSub, BEq.rfl, eq_self, reduceCtorEq, hxs, evParts, repL, List.append_nil, notT, vcells, List.cons_append, List.nil_append, List.getElem?_cons_succ, List.getElem?_cons_zero, List.length_cons, List.length_nil, ne_eq, aresults, aresult, tupOf, kgs, h0, h3, h4, h6, h7, h8, h9, hM4, wq, e, hx4, hdl]
          exact .inl (fun h => h.1)
        | false =>
        obtain ⟨y, hy⟩ : ∃ y, (k.all a.mline)[i]? = some y := ⟨(k.all a.mline)[i], List.getElem?_eq_getElem (by omega)⟩
        have hyl : y < k.xs.length := hK.wa a.mline y (List.mem_of_getElem? hy)
        obtain ⟨x2, hx2⟩ : ∃ x, k.xs[y]? = some x := ⟨k.xs[y], List.getElem?_eq_getElem hyl⟩
        have hxb2 : x2.b < k.bs.length := hK.wx x2 (List.mem_of_getElem? hx2)
        obtain ⟨b2, hbb2⟩ : ∃ b, k.bs[x2.b]? = some b := ⟨k.bs[x2.b], List.getElem?_eq_getElem hxb2⟩
        have hciy : ((k.all a.mline).map fun i => pv (L.ix i))[i]? = some (pv (L.ix y)) := by rw [List.getElem?_map, hy]; rfl
        have hxy := hB5.xs y x2 hx2
        have hby := hB5.bs x2.b b2 hbb2
        have hbe : behind k y = decide (x2.dl = false ∧ b2.state ≠ 2) := by simp [behind, dlK, bK, stK, hx2, hbb2]
        have htk : ((k.all a.mline).take (i + 1)).any (behind k) = (((k.all a.mline).take i).any (behind k) || behind k y) := by
          rw [List.take_add_one, hy]; simp
        have w0 : IntKind.i64.wrap (i + 1) = ((i + 1 : Nat) : Int) := i64_add (by omega) (by have := hbn a.mline; omega)
        simp only [sxs, vxs, AX.then_, AX.inBlock, aexec, Opd.ev, lputO, reduceIte, Nat.reduceEqDiff, addA, Nat.reduceAdd, Option.some.injEq, exists_eq_left', Option.map_some, Option.bind_some, cond_false, cond_true, chkOk, wantedS, goInt, aidx, List.map_cons, List.map_nil, Int.reduceEq, Int.reduceLT, Int.reduceLE, Int.reduceAdd, Int.reduceSub, BEq.rfl, eq_self, reduceCtorEq, hxs, evParts, repL, List.append_nil, notT, vcells, List.cons_append, List.nil_append, List.getElem?_cons_succ, List.getElem?_cons_zero, List.length_cons, List.length_nil, ne_eq, aresults, aresult, tupOf, kgs, h0, h3, h4, h6, h7, h8, h9, hM4, wq, e, ein, hx4, hdl, hr4, hciy, hxy]
        cases hdl2 : x2.dl with
        | true =>
          simp only [sxs, vxs, AX.then_, AX.inBlock, aexec, Opd.ev, lputO, reduceIte, Nat.reduceEqDiff, addA, Nat.reduceAdd, Option.some.injEq, exists_eq_left', Option.map_some, Option.bind_some, cond_false, cond_true, chkOk, wantedS, goInt, aidx, List.map_cons, List.map_nil, Int.reduceEq, Int.reduceLT, Int.reduceLE, Int.reduceAdd, Int.reduceSub, BEq.rfl, eq_self, reduceCtorEq, hxs, evParts, repL, List.append_nil, notT, vcells, List.cons_append, List.nil_append, List.getElem?_cons_succ, List.getElem?_cons_zero, List.length_cons, List.length_nil, ne_eq, aresults, aresult, tupOf, kgs, h0, h3, h4, h6, h7, h8, h9, w0]
          exact .inr (.inl ⟨i + 1, by omega, by omega, fun h => by rw [htk, hah hdl, hbe]; simp [hdl2], rfl⟩)
        | false =>
        simp only [sxs, vxs, AX.then_, AX.inBlock, aexec, Opd.ev, lputO, reduceIte, Nat.reduceEqDiff, addA, Nat.reduceAdd, Option.some.injEq, exists_eq_left', Option.map_some, Option.bind_some, cond_false, cond_true, chkOk, wantedS, goInt, aidx, List.map_cons, List.map_nil, Int.reduceEq, Int.reduceLT, Int.reduceLE, Int.reduceAdd, Int.reduceSub, BEq.rfl, eq_self, reduceCtorEq, hxs, evParts, repL, List.append_nil, notT, vcells, List.cons_append, List.nil_append, List.getElem?_cons_succ, List.getElem?_cons_zero, List.length_cons, List.length_nil, ne_eq, aresults, aresult, tupOf, kgs, h0, h3, h4, h6, h7, h8, h9, hxy, hby]
        rcases Classical.em ((b2.state : Int) = 2) with g2 | g2
        · simp only [sxs, vxs, AX.then_, AX.inBlock, aexec, Opd.ev, lputO, reduceIte, Nat.reduceEqDiff, addA, Nat.reduceAdd, Option.some.injEq, exists_eq_left', Option.map_some, Option.bind_some, cond_false, cond_true, chkOk, wantedS, goInt, aidx, List.map_cons, List.map_nil, Int.reduceEq, Int.reduceLT, Int.reduceLE, Int.reduceAdd, Int.reduceSub, BEq.rfl, eq_self, reduceCtorEq, hxs, evParts, repL, List.append_nil, notT, vcells, List.cons_append, List.nil_append, List.getElem?_cons_succ, List.getElem?_cons_zero, List.length_cons, List.length_nil, ne_eq, aresults, aresult, tupOf, kgs, h0, h3, h4, h6, h7, h8, h9, w0, g2]
          exact .inr (.inl ⟨i + 1, by omega, by omega, fun h => by rw [htk, hah hdl, hbe]; simp [show b2.state = 2 by omega], rfl⟩)
        · simp only [sxs, vxs, AX.then_, AX.inBlock, aexec, Opd.ev, lputO, reduceIte, Nat.reduceEqDiff, addA, Nat.reduceAdd, Option.some.injEq, exists_eq_left', Option.map_some, Option.bind_some, cond_false, cond_true, chkOk, wantedS, goInt, aidx, List.map_cons, List.map_nil, Int.reduceEq, Int.reduceLT, Int.reduceLE, Int.reduceAdd, Int.reduceSub, BEq.rfl, eq_self, reduceCtorEq, hxs, evParts, repL, List.append_nil, notT, vcells, List.cons_append, List.nil_append, List.getElem?_cons_succ, List.getElem?_cons_zero, List.length_cons, List.length_nil, ne_eq, aresults, aresult, tupOf, kgs, h0, h3, h4, h6, h7, h8, h9, w0, g2]
          refine .inr (.inr ?_)
          rw [hd3, if_pos]
          refine ⟨hdl, ?_⟩
          rw [List.any_eq_true]
          refine ⟨y, ?_, by rw [hbe]; simp [hdl2]; omega⟩
          rw [List.mem_iff_getElem?]
          exact ⟨i, by rw [List.getElem?_take, if_pos (by omega)]; exact hy⟩
    · rintro y fr2 A2 ⟨rfl, h0, h3, h4, h6, h7, h8, (⟨rfl, hna⟩ | ⟨rfl, i', hi1, hi2, hi3, h9⟩ | ⟨rfl, hdn⟩)⟩
      · have hixA : L.ix j < A.next := hK.ltN (hK.rix j hjl) (by simp)
        have hmhA : L.mh < A.next := hK.ltN hK.rmh (by simp)
        have hmoA : L.mo < A.next := hK.ltN hK.rmo (by simp)
        have hloX : lo ≤ L.ix j := (hK.lt (L.ix j) (by rw [hK.rix j hjl]; simp)).1
        have hloC : lo ≤ c := (hK.lt c (by rw [hK.rc]; simp)).1
        have hloH : lo ≤ L.mh := (hK.lt L.mh (by rw [hK.rmh]; simp)).1
        have hloO : lo ≤ L.mo := (hK.lt L.mo (by rw [hK.rmo]; simp)).1
        have hcx : c ≠ L.ix j := fun e => by have h1 := hK.rc; have h2 := hK.rix j hjl; rw [e, h2] at h1; cases h1
        -- the message
        have hwa : wrRow A2 (L.ix j) 6 [bv true] = some (A2.set (L.ix j) (.row (kxV L.ib { x with dl := true }) 9 false false)) := by
          rw [wrRow_at hx4 (by simp [kxV])]; rfl
        have hwb : wrRow (A2.set (L.ix j) (.row (kxV L.ib { x with dl := true }) 9 false false)) (L.ix j) 7 [bv false] = some (A2.set (L.ix j) (.row (kxV L.ib { x with dl := true, ak := false }) 9 false false)) := by
          rw [wrRow_at AHeap.set_get (by simp [kxV]), AHeap.set_set]; rfl
        have hK6 := hB5.setX (i := j) hjl { x with dl := true, ak := false } hxb
        have hkC1 : Keep [L.ix j] A2 (A2.set (L.ix j) (.row (kxV L.ib { x with dl := true }) 9 false false)) := Keep.set _ (.inl (by simp))
        have hkC2 : Keep [L.ix j] A2 (A2.set (L.ix j) (.row (kxV L.ib { x with dl := true, ak := false }) 9 false false)) := Keep.set _ (.inl (by simp))
        obtain ⟨C1, hC1⟩ : ∃ C1, C1 = A2.set (L.ix j) (.row (kxV L.ib { x with dl := true }) 9 false false) := ⟨_, rfl⟩
        obtain ⟨C2, hC2⟩ : ∃ C2, C2 = A2.set (L.ix j) (.row (kxV L.ib { x with dl := true, ak := false }) 9 false false) := ⟨_, rfl⟩
        have hnC2 : C2.next = A.next + 3 := by rw [hC2]; exact hn4
        rw [← hC1] at hwa hwb hkC1
        rw [← hC2] at hwb hK6 hkC2
        clear hC1 hC2
        have hb1 : C1.get A.next = some (.row (actV a) 14 false false) := (hkC1.get A.next (by omega) (by simp; omega)).trans hbA4
        have hb2 : C2.get A.next = some (.row (actV a) 14 false false) := (hkC2.get A.next (by omega) (by simp; omega)).trans hbA4
        have hM2 : C2.get (A.next + 2) = some (.row [iv a.pub, iv a.mseq, sv a.mkey, sv a.mbody, bv false] 5 false false) := (hkC2.get _ (by omega) (by simp; omega)).trans hM4
        -- the client's highest tag
        obtain ⟨p0, p1, p2, p3, hp, hc2⟩ := hK6.four
        have hp' : k.last = [p0, p1, p2, p3] := hp
        have hwt : wrRow C2 c (6 + cl) [iv a.tag] = some (C2.set c (.row (crtV L { k with xs := k.xs.set j { x with dl := true, ak := false }, last := k.last.set cl a.tag }) 10 false false)) := by
          rw [wrRow_at hc2 (by simp; omega), crtV]
          simp only [hp']
          match cl, hcl4 with
          | 0, _ => rfl
          | 1, _ => rfl
          | 2, _ => rfl
          | 3, _ => rfl
        have hK7 := hK6.setLast (k.last.set cl a.tag) (by simp [hp'])
        have hkC3 : Keep [c] C2 (C2.set c (.row (crtV L { k with xs := k.xs.set j { x with dl := true, ak := false }, last := k.last.set cl a.tag }) 10 false false)) := Keep.set _ (.inl (by simp))
        obtain ⟨C3, hC3⟩ : ∃ C3, C3 = C2.set c (.row (crtV L { k with xs := k.xs.set j { x with dl := true, ak := false }, last := k.last.set cl a.tag }) 10 false false) := ⟨_, rfl⟩
        have hnC3 : C3.next = A.next + 3 := by rw [hC3]; exact hnC2
        rw [← hC3] at hwt hK7 hkC3
        clear hC3
        have hb3 : C3.get A.next = some (.row (actV a) 14 false false) := (hkC3.get A.next (by omega) (by simp; omega)).trans hb2
        have hM3 : C3.get (A.next + 2) = some (.row [iv a.pub, iv a.mseq, sv a.mkey, sv a.mbody, bv false] 5 false false) := (hkC3.get _ (by omega) (by simp; omega)).trans hM2
        obtain ⟨_, _, _, _, _, hc3⟩ := hK7.four
        -- what is held
        obtain ⟨e1, D1, hent1, hnD1, hkD1, _, hst1⟩ := hK7.mH.entry a.lock
        obtain ⟨D2, hst1', hnD2, hkD2, hmD2⟩ := hst1 D1 (bv true) rfl rfl
        have hent1' : amapEnt (.agg [.int .i64, .str]) (.bool false) (.map (some L.mh)) (.agg #[iv a.queue, sv a.mkey]) C3 = some (.tuple #[bv (k.held a.lock), goInt e1], D1) := hent1
        have hst1'' : aentSt (.agg [.int .i64, .str]) (.map (some L.mh)) (.int .i64 e1) (.bool true) D1 = some D2 := hst1'
        have hK8 := hK7.setH (A' := D2) (by omega) (hkD1.trans hkD2 (fun _ _ h => h)) (JP.upd k.held a.lock true) (by rw [bv_upd]; exact hmD2)
        have hbD1 : D1.get A.next = some (.row (actV a) 14 false false) := (hkD1.get A.next (by omega) (by simp; omega)).trans hb3
        have hbD2 : D2.get A.next = some (.row (actV a) 14 false false) := (hkD2.get A.next (by omega) (by simp; omega)).trans hbD1
        -- what clients hold
        obtain ⟨e2, E1, hent2, hnE1, hkE1, _, hst2⟩ := hK8.mO.entry a.tg
        obtain ⟨E2, hst2', hnE2, hkE2, hmE2⟩ := hst2 E1 (pv (L.ix j)) rfl rfl
        have hent2' : amapEnt (.agg [.int .i64, .int .i64, .int .i64]) (.pointer none) (.map (some L.mo)) (.agg #[iv cl, iv a.queue, iv a.tag]) D2 = some (.tuple #[ptrO L.ix (k.holds a.tg), goInt e2], E1) := by
          rw [← hclE]; exact hent2
        have hst2'' : aentSt (.agg [.int .i64, .int .i64, .int .i64]) (.map (some L.mo)) (.int .i64 e2) (pv (L.ix j)) E1 = some E2 := hst2'
        have hK9 := hK8.setO (A' := E2) (by omega) (hkE1.trans hkE2 (fun _ _ h => h)) (JP.upd k.holds a.tg (some j)) (upd_lt (by simpa using hK.wo) (fun i h => by cases h; simpa using hjl)) (by rw [ptrO_upd]; exact hmE2)
        simp only [sxs, vxs, AX.then_, AX.inBlock, aexec, Opd.ev, lputO, reduceIte, Nat.reduceEqDiff, addA, Nat.reduceAdd, Option.some.injEq, exists_eq_left', Option.map_some, Option.bind_some, cond_false, cond_true, chkOk, wantedS, goInt, aidx, List.map_cons, List.map_nil, Int.reduceEq, Int.reduceLT, Int.reduceLE, Int.reduceAdd, Int.reduceSub, BEq.rfl, eq_self, reduceCtorEq, hxs, evParts, repL, List.append_nil, notT, vcells, List.cons_append, List.nil_append, List.getElem?_cons_succ, List.getElem?_cons_zero, List.length_cons, List.length_nil, ne_eq, aresults, aresult, tupOf, kgs, h0, h3, h4, h6, h7, h8, hx4, hwa, hwb, hb1, hb2, hbA4, hclE, ecl, hwt, hc3, hb3, hM3, hent1', hst1'', hbD1, hbD2, hent2', hst2'']
        simp only [AX.back, lget_lput, reduceIte]
        have hr : delK k a = some { k with xs := k.xs.set j { x with dl := true, ak := false }, last := k.last.set cl a.tag, held := JP.upd k.held a.lock true, holds := JP.upd k.holds a.tg (some j) } := by
          rw [hd3, if_neg hna, delR, set_of_modify _ hx, hclE, Int.toNat_natCast]
        refine ⟨.inr trivial, [.bool true], .bool true, rfl, rfl, ?_⟩
        have hfin : KPost c lo (delK k a) A (.bool true) E2 := by
          rw [hr]
          refine ⟨rfl, ?_, ?_⟩
          · refine hbl4.trans ((Below_.of hkC2 (by omega) (by simpa using hloX)).trans ((Below_.of hkC3 (by omega) (by simpa using hloC)).trans ((Below_.of hkD1 (by omega) (by simpa using hloH)).trans ((Below_.of hkD2 (by omega) (by simpa using hloH)).trans ((Below_.of hkE1 (by omega) (by simpa using hloO)).trans (Below_.of hkE2 (by omega) (by simpa using hloO)))))))
          · intro k' h
            rw [Option.some.injEq] at h
            rw [← h]
            exact ⟨L, hK9⟩
        exact hfin
      · show (0 : Nat) = 0 ∧ _
        refine ⟨rfl, ?_⟩
        exact ⟨m - 1, by omega, i', hi1, hi3, rfl, h0, h3, h4, h6, h7, h8, h9⟩
      · simp only [AX.then_, AX.back, aresults, aresult, Option.bind_some, Option.map_some, h4]
        exact ⟨.inr trivial, _, _, rfl, rfl, hnone4 hdn⟩
  · exact ⟨0, by omega, fun _ => rfl, rfl, by simp only [lget_lput, frOf_cons, frOf_nil, reduceIte, Nat.reduceEqDiff], by simp only [lget_lput, frOf_cons, frOf_nil, reduceIte, Nat.reduceEqDiff], by simp only [lget_lput, frOf_cons, frOf_nil, reduceIte, Nat.reduceEqDiff], by simp only [lget_lput, frOf_cons, frOf_nil, reduceIte, Nat.reduceEqDiff], by simp only [lget_lput, frOf_cons, frOf_nil, reduceIte, Nat.reduceEqDiff], by simp only [lget_lput, frOf_cons, frOf_nil, reduceIte, Nat.reduceEqDiff], by simp only [lget_lput, reduceIte]; rfl⟩
end Go.Proofs.YtiimkdijiddjcaaDoor
