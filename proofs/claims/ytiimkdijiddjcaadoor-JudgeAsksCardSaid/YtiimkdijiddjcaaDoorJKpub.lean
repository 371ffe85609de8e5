/- The judge on the abstract machine: a batch is published. -/
import Derived.Test.YtiimkdijiddjcaaDoorJKadd
import Derived.Test.YtiimkdijiddjcaaDoorJRdig
set_option linter.unusedSimpArgs false
namespace Go.Proofs.YtiimkdijiddjcaaDoor
set_option linter.unusedSimpArgs false
set_option linter.unusedVariables false
set_option linter.unusedSectionVars false
set_option linter.defProp false
open Go Go.Abs JP

theorem Sl.len1 {A : AHeap} {v : Value} {cs : List Value} (h : Sl A 1 v cs) : ∃ a c, v = .slice a cs.length c := by
  obtain ⟨a, n, c, hv, hn⟩ := h.len
  exact ⟨a, c, by rw [hn, Nat.mul_one]; exact hv⟩

/-- the court behind so many of a batch's messages -/
def pubI (k : K) (a : JP.Act) (b0 : KB) (i : Nat) : K := { k with bs := k.bs ++ [b0], batches := JP.upd k.batches a.line (k.batches a.line ++ [k.bs.length]), xs := k.xs ++ (List.range i).map (newK a k.bs.length), all := JP.upd k.all a.line (k.all a.line ++ (List.range i).map (k.xs.length + ·)) }
theorem pubI_zero (k : K) (a : JP.Act) (b0 : KB) : pubI k a b0 0 = { k with bs := k.bs ++ [b0], batches := JP.upd k.batches a.line (k.batches a.line ++ [k.bs.length]) } := by
  have : JP.upd k.all a.line (k.all a.line) = k.all := by
    funext x; simp only [JP.upd]; split
    · rename_i h; rw [h]
    · rfl
  simp [pubI, this]
theorem pubI_succ (k : K) (a : JP.Act) (b0 : KB) (i : Nat) : pubI k a b0 (i + 1) = { pubI k a b0 i with xs := (pubI k a b0 i).xs ++ [newK a k.bs.length i], all := JP.upd (pubI k a b0 i).all a.line ((pubI k a b0 i).all a.line ++ [(pubI k a b0 i).xs.length]) } := by
  have : JP.upd k.all a.line (k.all a.line ++ (List.range (i + 1)).map (k.xs.length + ·)) = JP.upd (JP.upd k.all a.line (k.all a.line ++ (List.range i).map (k.xs.length + ·))) a.line ((JP.upd k.all a.line (k.all a.line ++ (List.range i).map (k.xs.length + ·))) a.line ++ [(k.xs ++ (List.range i).map (newK a k.bs.length)).length]) := by
    funext x; simp only [JP.upd]; split
    · simp [List.range_succ]
    · rfl
  simp only [pubI, this]
  simp [List.range_succ]

set_option maxRecDepth 10000 in
set_option maxHeartbeats 4000000 in
theorem publishK_spec {c lo : Nat} {k : K} {L : Lay} {a : JP.Act} {A : AHeap} (hK : KR c lo k L A) (hlo : lo ≤ A.next) (hbn : ∀ l, (k.all l).length ≤ 1000000) (hbb : ∀ l, (k.batches l).length ≤ 1000000) (hxn : k.xs.length ≤ 1000000) (hbd : a.body.size ≤ 1000000) :
    EvF AQ EQ 29 [pv c, .agg (actV a).toArray] A (KPost c lo (pubK k a) A) := by
  refine rf_body (fn := Code.a29) rfl ?_
  have hcA : c < A.next := hK.ltN hK.rc (by simp)
  obtain ⟨l0, l1, l2, l3, hl, hc0⟩ := hK.four
  obtain ⟨A2, hA2⟩ : ∃ A2, A2 = (A.new (.row (actV a) 14 false false)).new (.row [iv a.client, iv a.queue, sv a.key] 3 false false) := ⟨_, rfl⟩
  have hn2 : A2.next = A.next + 2 := by rw [hA2]; rfl
  have hk2 : Keep [] A A2 := by rw [hA2]; exact (Keep.new (own := []) _ _).trans (Keep.new (own := []) _ _) (by simp)
  have hK2 : KR c lo k L A2 := hK.keep hk2 (by simp)
  have hbl : Below_ lo A A2 := Below_.of hk2 hlo (by simp)
  have hc : A2.get c = some (.row [.map (some L.mb), .map (some L.ma), L.ov, .map (some L.mh), .map (some L.mo), .map (some L.mc), iv l0, iv l1, iv l2, iv l3] 10 false false) := (hk2.get c hcA (by simp)).trans hc0
  have hb : A2.get A.next = some (.row (actV a) 14 false false) := by
    rw [hA2, AHeap.new_lt (by rw [AHeap.new_next]; omega)]; exact AHeap.new_get
  have hlg : A2.get (A.next + 1) = some (.row [iv a.client, iv a.queue, sv a.key] 3 false false) := by rw [hA2]; exact AHeap.new_get (A := A.new _)
  have hln : rdRow A2 (A.next + 1) 0 3 = some [iv a.client, iv a.queue, sv a.key] := rdRow_all hlg rfl
  obtain ⟨o1, c1, hva⟩ := Sl.len1 (hK2.sA a.line)
  rw [List.length_map] at hva
  have hlook : alookup (.agg [.int .i64, .int .i64, .str]) (.slice none 0 0) false (.map (some L.ma)) (.agg #[iv a.client, iv a.queue, sv a.key]) A2 = some (L.va a.line) := hK2.mA.lookup a.line
  rw [hva] at hlook
  have hno : (a.many < 1 ∨ 8 < a.many ∨ a.seq ≠ (k.all a.line).length + 1) → pubK k a = none := fun h => if_pos h
  have hnone : ∀ h : pubK k a = none, KPost c lo (pubK k a) A (bv false) A2 := fun h => ⟨by rw [h]; rfl, hbl, fun k' h' => by rw [h] at h'; cases h'⟩
  have wn : IntKind.i64.wrap ((k.all a.line).length + 1) = (k.all a.line).length + 1 := i64_add (by omega) (by have := hbn a.line; omega)
  simp only [Code.a29, sxs, sx_label, vxs, AX.then_, AX.inBlock, aexec, Opd.ev, lputO, reduceIte, Nat.reduceEqDiff, addA, Nat.reduceAdd, Option.some.injEq, exists_eq_left', Option.map_some, Option.bind_some, cond_false, cond_true, chkOk, wantedS, goInt, aidx, List.map_cons, List.map_nil, Int.reduceEq, Int.reduceLT, Int.reduceLE, Int.reduceAdd, Int.reduceSub, BEq.rfl, eq_self, reduceCtorEq, hxs, evParts, repL, List.append_nil, notT, vcells, List.cons_append, List.nil_append, List.getElem?_cons_succ, List.getElem?_cons_zero, List.length_cons, List.length_nil, ne_eq, aresults, aresult, tupOf]
  rw [← hA2]
  simp only [sxs, sx_label, vxs, AX.then_, AX.inBlock, aexec, Opd.ev, lputO, reduceIte, Nat.reduceEqDiff, addA, Nat.reduceAdd, Option.some.injEq, exists_eq_left', Option.map_some, Option.bind_some, cond_false, cond_true, chkOk, wantedS, goInt, aidx, List.map_cons, List.map_nil, Int.reduceEq, Int.reduceLT, Int.reduceLE, Int.reduceAdd, Int.reduceSub, BEq.rfl, eq_self, reduceCtorEq, hxs, evParts, repL, List.append_nil, notT, vcells, List.cons_append, List.nil_append, List.getElem?_cons_succ, List.getElem?_cons_zero, List.length_cons, List.length_nil, ne_eq, aresults, aresult, tupOf, hc, hb, hln, hlook, wn]
  rcases Classical.em (a.many < 1) with d1 | d1
  · simp only [sxs, sx_label, vxs, AX.then_, AX.inBlock, aexec, Opd.ev, lputO, reduceIte, Nat.reduceEqDiff, addA, Nat.reduceAdd, Option.some.injEq, exists_eq_left', Option.map_some, Option.bind_some, cond_false, cond_true, chkOk, wantedS, goInt, aidx, List.map_cons, List.map_nil, Int.reduceEq, Int.reduceLT, Int.reduceLE, Int.reduceAdd, Int.reduceSub, BEq.rfl, eq_self, reduceCtorEq, hxs, evParts, repL, List.append_nil, notT, vcells, List.cons_append, List.nil_append, List.getElem?_cons_succ, List.getElem?_cons_zero, List.length_cons, List.length_nil, ne_eq, aresults, aresult, tupOf, d1]
    exact ⟨.inr trivial, _, _, rfl, rfl, hnone (hno (.inl d1))⟩
  simp only [sxs, sx_label, vxs, AX.then_, AX.inBlock, aexec, Opd.ev, lputO, reduceIte, Nat.reduceEqDiff, addA, Nat.reduceAdd, Option.some.injEq, exists_eq_left', Option.map_some, Option.bind_some, cond_false, cond_true, chkOk, wantedS, goInt, aidx, List.map_cons, List.map_nil, Int.reduceEq, Int.reduceLT, Int.reduceLE, Int.reduceAdd, Int.reduceSub, BEq.rfl, eq_self, reduceCtorEq, hxs, evParts, repL, List.append_nil, notT, vcells, List.cons_append, List.nil_append, List.getElem?_cons_succ, List.getElem?_cons_zero, List.length_cons, List.length_nil, ne_eq, aresults, aresult, tupOf, hc, hb, hln, hlook, wn, d1]
  rcases Classical.em (8 < a.many) with d2 | d2
  · simp only [sxs, sx_label, vxs, AX.then_, AX.inBlock, aexec, Opd.ev, lputO, reduceIte, Nat.reduceEqDiff, addA, Nat.reduceAdd, Option.some.injEq, exists_eq_left', Option.map_some, Option.bind_some, cond_false, cond_true, chkOk, wantedS, goInt, aidx, List.map_cons, List.map_nil, Int.reduceEq, Int.reduceLT, Int.reduceLE, Int.reduceAdd, Int.reduceSub, BEq.rfl, eq_self, reduceCtorEq, hxs, evParts, repL, List.append_nil, notT, vcells, List.cons_append, List.nil_append, List.getElem?_cons_succ, List.getElem?_cons_zero, List.length_cons, List.length_nil, ne_eq, aresults, aresult, tupOf, d2]
    exact ⟨.inr trivial, _, _, rfl, rfl, hnone (hno (.inr (.inl d2)))⟩
  simp only [sxs, sx_label, vxs, AX.then_, AX.inBlock, aexec, Opd.ev, lputO, reduceIte, Nat.reduceEqDiff, addA, Nat.reduceAdd, Option.some.injEq, exists_eq_left', Option.map_some, Option.bind_some, cond_false, cond_true, chkOk, wantedS, goInt, aidx, List.map_cons, List.map_nil, Int.reduceEq, Int.reduceLT, Int.reduceLE, Int.reduceAdd, Int.reduceSub, BEq.rfl, eq_self, reduceCtorEq, hxs, evParts, repL, List.append_nil, notT, vcells, List.cons_append, List.nil_append, List.getElem?_cons_succ, List.getElem?_cons_zero, List.length_cons, List.length_nil, ne_eq, aresults, aresult, tupOf, hc, hb, hln, hlook, wn, d2]
  rcases (Classical.em (a.seq = (k.all a.line).length + 1)).symm with d3 | d3
  · simp only [sxs, sx_label, vxs, AX.then_, AX.inBlock, aexec, Opd.ev, lputO, reduceIte, Nat.reduceEqDiff, addA, Nat.reduceAdd, Option.some.injEq, exists_eq_left', Option.map_some, Option.bind_some, cond_false, cond_true, chkOk, wantedS, goInt, aidx, List.map_cons, List.map_nil, Int.reduceEq, Int.reduceLT, Int.reduceLE, Int.reduceAdd, Int.reduceSub, BEq.rfl, eq_self, reduceCtorEq, hxs, evParts, repL, List.append_nil, notT, vcells, List.cons_append, List.nil_append, List.getElem?_cons_succ, List.getElem?_cons_zero, List.length_cons, List.length_nil, ne_eq, aresults, aresult, tupOf, d3]
    exact ⟨.inr trivial, _, _, rfl, rfl, hnone (hno (.inr (.inr d3)))⟩
  have hnb := hbn a.line
  have w1 : IntKind.i64.wrap (a.seq + a.many) = a.seq + a.many := i64_add (by omega) (by omega)
  have w2 : IntKind.i64.wrap (a.seq + a.many - 1) = a.seq + a.many - 1 := i64_add (by omega) (by omega)
  -- the batch
  obtain ⟨b0, hb0⟩ : ∃ b0 : KB, b0 = ⟨a.seq, a.seq + a.many - 1, 0⟩ := ⟨_, rfl⟩
  obtain ⟨A3, hA3⟩ : ∃ A3, A3 = A2.new (.row [iv a.seq, iv (a.seq + a.many - 1), iv 0] 3 false false) := ⟨_, rfl⟩
  have hK3 := hK2.addB (by omega) b0
  rw [show A2.new (.row (kbV b0) 3 false false) = A3 by rw [hA3, hb0]; rfl] at hK3
  have hn3 : A3.next = A.next + 3 := by rw [hA3, AHeap.new_next, hn2]
  have hk3 : Keep [] A2 A3 := by rw [hA3]; exact Keep.new _ _
  obtain ⟨L3, hL3⟩ : ∃ L3 : Lay, L3 = { L with role := setR L.role A2.next (.b k.bs.length), ib := setN L.ib k.bs.length A2.next } := ⟨_, rfl⟩
  rw [← hL3] at hK3
  have hib3 : L3.ib k.bs.length = A2.next := by rw [hL3]; exact setN_eq _ _ _
  have hvb3 : L3.vb = L.vb := by rw [hL3]
  have hmb3 : L3.mb = L.mb := by rw [hL3]
  have hma3 : L3.ma = L.ma := by rw [hL3]
  have hro3 : ∀ id, id < A.next + 2 → L3.role id = L.role id := fun id hi => by rw [hL3]; exact setR_ne _ _ (by omega)
  have hroA : ∀ id, A.next ≤ id → L.role id = .no := fun id hi => by
    cases hr : L.role id with
    | no => rfl
    | _ => have := (hK.lt id (by rw [hr]; simp)).2; omega
  -- a row for it
  obtain ⟨A4, hA4⟩ : ∃ A4, A4 = A3.new (.row [pv A2.next] 1 false false) := ⟨_, rfl⟩
  have hn4 : A4.next = A.next + 4 := by rw [hA4, AHeap.new_next, hn3]
  have hk4 : Keep [] A3 A4 := by rw [hA4]; exact Keep.new _ _
  have hK4 := hK3.keep hk4 (by simp)
  have hr4 : A4.get A3.next = some (.row [pv A2.next] 1 false false) := by rw [hA4]; exact AHeap.new_get
  have hmbA : L3.mb < A.next := by rw [hmb3]; exact hK.ltN hK.rmb (by simp)
  -- the line's entry
  obtain ⟨e1, A5, hent, hn5, hk5, hm5, hst⟩ := hK4.mB.entry a.line
  obtain ⟨o2, c2, hvb⟩ := Sl.len1 (hK4.sB a.line)
  rw [List.length_map] at hvb
  have hrvb : ∀ x ∈ rowL (L3.vb a.line), x < A.next ∧ x ≠ L3.mb := fun x hx => by
    have h1 := hK3.rvb a.line x hx
    have h2 : x < A3.next := hK3.ltN h1 (by simp)
    refine ⟨?_, fun e => by rw [e, hK3.rmb] at h1; cases h1⟩
    have h3 : L.role x = .lb a.line := hK.rvb a.line x (by rw [← hvb3]; exact hx)
    exact hK.ltN h3 (by simp)
  have hs5 : Sl A5 1 (L3.vb a.line) ((k.batches a.line).map fun i => pv (L3.ib i)) := (hK4.sB a.line).keep hk5 (fun x hx => ⟨by have := (hrvb x hx).1; omega, by simpa using (hrvb x hx).2⟩)
  have hr5 : A5.get A3.next = some (.row [pv A2.next] 1 false false) := (hk5.get A3.next (by omega) (by simp; omega)).trans hr4
  obtain ⟨A6, happ, hn6, hg6, hk6⟩ := hs5.app (bytes := 8) (m := (k.batches a.line).length) (x := .slice (some ⟨A3.next, 0, none⟩) 1 1) (n := 1) (new := [pv A2.next])
    (by simp) (by omega) rfl (rdRow_all hr5 rfl) rfl (by omega) (by have := hbb a.line; omega) (by have := hbb a.line; omega)
  obtain ⟨A7, hst7, hn7, hk7, hm7⟩ := hst A6 (.slice (some ⟨A5.next, 0, none⟩) ((k.batches a.line).length + 1) (capInf * (1 + 1) + ((k.batches a.line).length + 1))) (hk6.get L3.mb (by omega) (fun hx => (hrvb _ hx).2 rfl)) rfl
  have hent' : amapEnt (.agg [.int .i64, .int .i64, .str]) (.slice none 0 0) (.map (some L.mb)) (.agg #[iv a.client, iv a.queue, sv a.key]) A4 = some (.tuple #[.slice o2 (k.batches a.line).length c2, .int .i64 e1], A5) := by
    rw [← hmb3, ← hvb]; exact hent
  rw [hvb] at happ hk6
  have hst7' : aentSt (.agg [.int .i64, .int .i64, .str]) (.map (some L.mb)) (.int .i64 e1) (.slice (some ⟨A5.next, 0, none⟩) ((k.batches a.line).length + 1) (capInf * (1 + 1) + ((k.batches a.line).length + 1))) A6 = some A7 := by
    rw [← hmb3]; exact hst7
  have hk47 : Keep ([L3.mb] ++ rowL (L3.vb a.line)) A4 A7 := by
    refine Keep.trans (own' := [L3.mb]) (B := A6) ?_ hk7 (fun _ _ h => List.mem_append_left _ h)
    exact Keep.trans (own' := rowL (L3.vb a.line)) (B := A5) (hk5.mono (fun _ _ h => List.mem_append_left _ h)) (by rw [hvb]; exact hk6) (fun _ _ h => List.mem_append_right _ h)
  have hs7 : Sl A7 1 (.slice (some ⟨A5.next, 0, none⟩) ((k.batches a.line).length + 1) (capInf * (1 + 1) + ((k.batches a.line).length + 1))) (((k.batches a.line).map fun i => pv (L3.ib i)) ++ [pv (L3.ib k.bs.length)]) := by
    rw [hib3]
    exact Sl.own ((hk7.get A5.next (by omega) (by simp; omega)).trans hg6) (by simp)
  have hK7 := hK4.addL (by omega) (l := a.line) (i := k.bs.length) (by simp) hk47 (r := A5.next) (by omega) (by omega) hs7 hm7
  have hnn5 : A5.next = A.next + 4 := by omega
  have hnn7 : A7.next = A.next + 5 := by rw [hn7, hn6, hnn5]
  obtain ⟨L7, hL7⟩ : ∃ L7 : Lay, L7 = { L3 with vb := Go.Abs.upd L3.vb a.line (.slice (some ⟨A5.next, 0, none⟩) ((k.batches a.line).length + 1) (capInf * (1 + 1) + ((k.batches a.line).length + 1))), role := setR L3.role A5.next (.lb a.line) } := ⟨_, rfl⟩
  rw [← hL7] at hK7
  have hro7 : ∀ id, id < A.next + 2 → L7.role id = L.role id := fun id hi => by rw [hL7]; exact (setR_ne _ _ (by omega)).trans (hro3 id hi)
  have hib7 : L7.ib k.bs.length = A2.next := by rw [hL7]; exact hib3
  have hbl7 : Below_ lo A A7 := by
    refine (hbl.trans (Below_.of hk3 (by omega) (by simp))).trans ((Below_.of hk4 (by omega) (by simp)).trans (Below_.of hk47 (by omega) (fun id hid => ?_)))
    simp only [List.mem_append, List.mem_singleton] at hid
    rcases hid with rfl | hid
    · exact (hK3.lt L3.mb (by rw [hK3.rmb]; simp)).1
    · exact (hK3.lt id (by rw [hK3.rvb a.line id hid]; simp)).1
  have hc3 : A3.get c = some (.row [.map (some L.mb), .map (some L.ma), L.ov, .map (some L.mh), .map (some L.mo), .map (some L.mc), iv l0, iv l1, iv l2, iv l3] 10 false false) := (hk3.get c (by omega) (by simp)).trans hc
  have hlg3 : A3.get (A.next + 1) = some (.row [iv a.client, iv a.queue, sv a.key] 3 false false) := (hk3.get _ (by omega) (by simp)).trans hlg
  have hln3 : rdRow A3 (A.next + 1) 0 3 = some [iv a.client, iv a.queue, sv a.key] := rdRow_all hlg3 rfl
  have hown7 : ∀ id, id ∈ [L3.mb] ++ rowL (L3.vb a.line) → id < A.next := fun id hid => by
    simp only [List.mem_append, List.mem_singleton] at hid
    rcases hid with rfl | hid
    · exact hmbA
    · exact (hrvb id hid).1
  have hb7 : A7.get A.next = some (.row (actV a) 14 false false) := by
    rw [hk47.get A.next (by omega) (fun h => by have := hown7 _ h; omega), hk4.get A.next (by omega) (by simp), hk3.get A.next (by omega) (by simp)]; exact hb
  have hlg7 : A7.get (A.next + 1) = some (.row [iv a.client, iv a.queue, sv a.key] 3 false false) := by
    rw [hk47.get (A.next + 1) (by omega) (fun h => by have := hown7 _ h; omega), hk4.get (A.next + 1) (by omega) (by simp)]; exact hlg3
  simp only [sxs, sx_label, vxs, AX.then_, AX.inBlock, aexec, Opd.ev, lputO, reduceIte, Nat.reduceEqDiff, addA, Nat.reduceAdd, Option.some.injEq, exists_eq_left', Option.map_some, Option.bind_some, cond_false, cond_true, chkOk, wantedS, goInt, aidx, List.map_cons, List.map_nil, Int.reduceEq, Int.reduceLT, Int.reduceLE, Int.reduceAdd, Int.reduceSub, BEq.rfl, eq_self, reduceCtorEq, hxs, evParts, repL, List.append_nil, notT, vcells, List.cons_append, List.nil_append, List.getElem?_cons_succ, List.getElem?_cons_zero, List.length_cons, List.length_nil, ne_eq, aresults, aresult, tupOf, hc, hb, hln, hlook, wn, d3, decide_false]
  rw [← d3]
  simp only [sxs, sx_label, vxs, AX.then_, AX.inBlock, aexec, Opd.ev, lputO, reduceIte, Nat.reduceEqDiff, addA, Nat.reduceAdd, Option.some.injEq, exists_eq_left', Option.map_some, Option.bind_some, cond_false, cond_true, chkOk, wantedS, goInt, aidx, List.map_cons, List.map_nil, Int.reduceEq, Int.reduceLT, Int.reduceLE, Int.reduceAdd, Int.reduceSub, BEq.rfl, eq_self, reduceCtorEq, hxs, evParts, repL, List.append_nil, notT, vcells, List.cons_append, List.nil_append, List.getElem?_cons_succ, List.getElem?_cons_zero, List.length_cons, List.length_nil, ne_eq, aresults, aresult, tupOf, hc, hb, hln, hlook, w1, w2]
  have eA3 : A2.new (.row [iv a.seq, iv (a.seq + a.many - 1), iv 0] 3 false false) = A3 := hA3.symm
  have eA4 : A3.new (.row [pv A2.next] 1 false false) = A4 := hA4.symm
  rw [eA3]
  simp only [sxs, sx_label, vxs, AX.then_, AX.inBlock, aexec, Opd.ev, lputO, reduceIte, Nat.reduceEqDiff, addA, Nat.reduceAdd, Option.some.injEq, exists_eq_left', Option.map_some, Option.bind_some, cond_false, cond_true, chkOk, wantedS, goInt, aidx, List.map_cons, List.map_nil, Int.reduceEq, Int.reduceLT, Int.reduceLE, Int.reduceAdd, Int.reduceSub, BEq.rfl, eq_self, reduceCtorEq, hxs, evParts, repL, List.append_nil, notT, vcells, List.cons_append, List.nil_append, List.getElem?_cons_succ, List.getElem?_cons_zero, List.length_cons, List.length_nil, ne_eq, aresults, aresult, tupOf, hc3, hln3, eA3, eA4, hent', happ, hst7', List.size_toArray, List.getElem?_toArray]
  obtain ⟨kk, hmk⟩ : ∃ n : Nat, a.many = n := ⟨a.many.toNat, by omega⟩
  simp only [sxs, sx_label, vxs, AX.then_, AX.inBlock, aexec, Opd.ev, lputO, reduceIte, Nat.reduceEqDiff, addA, Nat.reduceAdd, Option.some.injEq, exists_eq_left', Option.map_some, Option.bind_some, cond_false, cond_true, chkOk, wantedS, goInt, aidx, List.map_cons, List.map_nil, Int.reduceEq, Int.reduceLT, Int.reduceLE, Int.reduceAdd, Int.reduceSub, BEq.rfl, eq_self, reduceCtorEq, hxs, evParts, repL, List.append_nil, notT, vcells, List.cons_append, List.nil_append, List.getElem?_cons_succ, List.getElem?_cons_zero, List.length_cons, List.length_nil, ne_eq, aresults, aresult, tupOf, hb7]
  have hk0 : KR c lo (pubI k a b0 0) L7 A7 := by rw [pubI_zero]; exact hK7
  refine rc_loop (fun m fr A' => ∃ i L', i + m = kk ∧ KR c lo (pubI k a b0 i) L' A' ∧ (∀ id, A.next ≤ id → id < A.next + 2 → L'.role id = .no) ∧ L'.ib k.bs.length = A2.next ∧
    lget fr 0 = pv c ∧ lget fr 3 = pv A.next ∧ lget fr 5 = pv (A.next + 1) ∧ lget fr 6 = pv A2.next ∧ lget fr 59 = iv a.many ∧ lget fr 60 = iv i ∧ Below_ lo A A' ∧ A'.get A.next = some (.row (actV a) 14 false false) ∧ A'.get (A.next + 1) = some (.row [iv a.client, iv a.queue, sv a.key] 3 false false) ∧ A.next + 5 ≤ A'.next) ?_ kk ?_
  · rintro m fr B ⟨i, M, him, hKi, hrn, hib, h0, h3, h5, h6, h59, h60, hbB, hbx, hlx, hBn⟩
    cases m with
    | zero =>
      have e : ¬ ((i : Int) < a.many) := by omega
      have hik : i = kk := by omega
      simp only [sxs, sx_label, vxs, AX.then_, AX.inBlock, aexec, Opd.ev, lputO, reduceIte, Nat.reduceEqDiff, addA, Nat.reduceAdd, Option.some.injEq, exists_eq_left', Option.map_some, Option.bind_some, cond_false, cond_true, chkOk, wantedS, goInt, aidx, List.map_cons, List.map_nil, Int.reduceEq, Int.reduceLT, Int.reduceLE, Int.reduceAdd, Int.reduceSub, BEq.rfl, eq_self, reduceCtorEq, hxs, evParts, repL, List.append_nil, notT, vcells, List.cons_append, List.nil_append, List.getElem?_cons_succ, List.getElem?_cons_zero, List.length_cons, List.length_nil, ne_eq, aresults, aresult, tupOf, h0, h3, h5, h6, h59, h60, e]
      have hr : pubK k a = some (pubI k a b0 i) := by
        rw [pubK, if_neg (by omega), pubI, hb0, hik, hmk, Int.toNat_natCast]
      exact ⟨.inr trivial, _, _, rfl, rfl, by rw [hr]; rfl, hbB, fun k' h => by rw [hr] at h; cases h; exact ⟨M, hKi⟩⟩
    | succ m =>
      have e : (i : Int) < a.many := by omega
      have w4 : IntKind.i64.wrap (a.seq + i) = a.seq + i := i64_add (by omega) (by omega)
      have w5 : IntKind.i64.wrap (i + 1) = ((i + 1 : Nat) : Int) := i64_add (by omega) (by omega)
      have hAB : A.next < B.next := by omega
      have hrow : ∀ bd : Str, bd = bodyOf a i → ([iv a.client, iv (a.seq + i), sv a.key, sv bd, bv false, pv A2.next, bv false, bv false, bv false] : List Value) = kxV M.ib (newK a k.bs.length i) := by
        intro bd hbd; rw [kxV]; simp only [newK, hib, hbd]
      have hdz : (dig i).size = 1 := rfl
      simp only [sxs, sx_label, vxs, AX.then_, AX.inBlock, aexec, Opd.ev, lputO, reduceIte, Nat.reduceEqDiff, addA, Nat.reduceAdd, Option.some.injEq, exists_eq_left', Option.map_some, Option.bind_some, cond_false, cond_true, chkOk, wantedS, goInt, aidx, List.map_cons, List.map_nil, Int.reduceEq, Int.reduceLT, Int.reduceLE, Int.reduceAdd, Int.reduceSub, BEq.rfl, eq_self, reduceCtorEq, hxs, evParts, repL, List.append_nil, notT, vcells, List.cons_append, List.nil_append, List.getElem?_cons_succ, List.getElem?_cons_zero, List.length_cons, List.length_nil, ne_eq, aresults, aresult, tupOf, h0, h3, h5, h6, h59, h60, e, hbx, w4, hAB]
      refine RGC_cut (fun y fr' A' => y = .normal ∧ A' = B.new (.row (kxV M.ib (newK a k.bs.length i)) 9 false false) ∧ lget fr' 0 = pv c ∧ lget fr' 3 = pv A.next ∧ lget fr' 5 = pv (A.next + 1) ∧ lget fr' 6 = pv A2.next ∧ lget fr' 59 = iv a.many ∧ lget fr' 60 = iv i ∧ lget fr' 8 = pv B.next) ?_ ?_
      · rcases Classical.em (1 < a.many) with f1 | f1
        · simp only [sxs, sx_label, vxs, AX.then_, AX.inBlock, aexec, Opd.ev, lputO, reduceIte, Nat.reduceEqDiff, addA, Nat.reduceAdd, Option.some.injEq, exists_eq_left', Option.map_some, Option.bind_some, cond_false, cond_true, chkOk, wantedS, goInt, aidx, List.map_cons, List.map_nil, Int.reduceEq, Int.reduceLT, Int.reduceLE, Int.reduceAdd, Int.reduceSub, BEq.rfl, eq_self, reduceCtorEq, hxs, evParts, repL, List.append_nil, notT, vcells, List.cons_append, List.nil_append, List.getElem?_cons_succ, List.getElem?_cons_zero, List.length_cons, List.length_nil, ne_eq, aresults, aresult, tupOf, h0, h3, h5, h6, h59, h60, hbx, hAB, f1]
          refine RF_use (itoa_spec i (by omega) _) ?_
          rintro v A' ⟨rfl, rfl⟩
          simp only [sxs, sx_label, vxs, AX.then_, AX.inBlock, aexec, Opd.ev, lputO, reduceIte, Nat.reduceEqDiff, addA, Nat.reduceAdd, Option.some.injEq, exists_eq_left', Option.map_some, Option.bind_some, cond_false, cond_true, chkOk, wantedS, goInt, aidx, List.map_cons, List.map_nil, Int.reduceEq, Int.reduceLT, Int.reduceLE, Int.reduceAdd, Int.reduceSub, BEq.rfl, eq_self, reduceCtorEq, hxs, evParts, repL, List.append_nil, notT, vcells, List.cons_append, List.nil_append, List.getElem?_cons_succ, List.getElem?_cons_zero, List.length_cons, List.length_nil, ne_eq, aresults, aresult, tupOf, h0, h3, h5, h6, h59, h60, hbx, hAB, abin_sadd, hdz, (by omega : a.body.size + 1 ≤ 1099511627776)]
          rw [hrow _ (by simp [bodyOf, f1])]
        · simp only [sxs, sx_label, vxs, AX.then_, AX.inBlock, aexec, Opd.ev, lputO, reduceIte, Nat.reduceEqDiff, addA, Nat.reduceAdd, Option.some.injEq, exists_eq_left', Option.map_some, Option.bind_some, cond_false, cond_true, chkOk, wantedS, goInt, aidx, List.map_cons, List.map_nil, Int.reduceEq, Int.reduceLT, Int.reduceLE, Int.reduceAdd, Int.reduceSub, BEq.rfl, eq_self, reduceCtorEq, hxs, evParts, repL, List.append_nil, notT, vcells, List.cons_append, List.nil_append, List.getElem?_cons_succ, List.getElem?_cons_zero, List.length_cons, List.length_nil, ne_eq, aresults, aresult, tupOf, h0, h3, h5, h6, h59, h60, hbx, hAB, f1]
          rw [hrow _ (by simp [bodyOf, f1])]
      · rintro y fr2 B1 ⟨rfl, hB1, h0, h3, h5, h6, h59, h60, h8⟩
        have hnB1 : B1.next = B.next + 1 := by rw [hB1]; rfl
        have hkB1 : Keep [] B B1 := by rw [hB1]; exact Keep.new _ _
        have hx1 : B1.get B.next = some (.row (kxV M.ib (newK a k.bs.length i)) 9 false false) := by rw [hB1]; exact AHeap.new_get
        clear hB1
        have hKB1 := hKi.keep hkB1 (by simp)
        obtain ⟨q0, q1, q2, q3, hq, hcB1⟩ := hKB1.four
        have hcB : c < B.next := hKi.ltN hKi.rc (by simp)
        have hmaB : M.ma < B.next := hKi.ltN hKi.rma (by simp)
        have hcma : c ≠ M.ma := fun e => by have h1 := hKi.rc; rw [e, hKi.rma] at h1; cases h1
        have hlB1 : rdRow B1 (A.next + 1) 0 3 = some [iv a.client, iv a.queue, sv a.key] := rdRow_all ((hkB1.get _ (by omega) (by simp)).trans hlx) rfl
        have hlkB1 : alookup (.agg [.int .i64, .int .i64, .str]) (.slice none 0 0) false (.map (some M.ma)) (.agg #[iv a.client, iv a.queue, sv a.key]) B1 = some (M.va a.line) := hKB1.mA.lookup a.line
        obtain ⟨o3, c3, hva3⟩ := Sl.len1 (hKB1.sA a.line)
        obtain ⟨o4, c4, hov4⟩ := Sl.len1 hKB1.ord
        rw [List.length_map] at hva3
        rw [List.length_map, List.length_range] at hov4
        have hrva : ∀ x ∈ rowL (M.va a.line), x < B.next ∧ x ≠ c ∧ x ≠ M.ma := fun x hx => by
          have h1 := hKi.rva a.line x hx
          exact ⟨hKi.ltN h1 (by simp), fun e => (by rw [e, hKi.rc] at h1; cases h1), fun e => (by rw [e, hKi.rma] at h1; cases h1)⟩
        have hrov : ∀ x ∈ rowL M.ov, x < B.next ∧ x ≠ c ∧ x ≠ M.ma := fun x hx => by
          have h1 := hKi.rov x hx
          exact ⟨hKi.ltN h1 (by simp), fun e => (by rw [e, hKi.rc] at h1; cases h1), fun e => (by rw [e, hKi.rma] at h1; cases h1)⟩
        have hvo : ∀ x ∈ rowL M.ov, x ∉ rowL (M.va a.line) := fun x hx h => by
          have h1 := hKi.rov x hx; rw [hKi.rva a.line x h] at h1; cases h1
        have hA0 : ∀ id, A.next ≤ id → id < A.next + 2 → id ≠ c ∧ id ≠ M.ma ∧ id ∉ rowL (M.va a.line) ∧ id ∉ rowL M.ov := fun id h1 h2 => by
          have hr := hrn id h1 h2
          refine ⟨fun e => ?_, fun e => ?_, fun e => ?_, fun e => ?_⟩
          · rw [e, hKi.rc] at hr; cases hr
          · rw [e, hKi.rma] at hr; cases hr
          · rw [hKi.rva a.line id e] at hr; cases hr
          · rw [hKi.rov id e] at hr; cases hr
        obtain ⟨B2, hB2⟩ : ∃ B2, B2 = B1.new (.row [pv B.next] 1 false false) := ⟨_, rfl⟩
        have hnB2 : B2.next = B.next + 2 := by rw [hB2, AHeap.new_next, hnB1]
        have hkB2 : Keep [] B1 B2 := by rw [hB2]; exact Keep.new _ _
        have hrB2 : B2.get B1.next = some (.row [pv B.next] 1 false false) := by rw [hB2]; exact AHeap.new_get
        have eB2 : B1.new (.row [pv B.next] 1 false false) = B2 := hB2.symm
        have hs2 := (hKB1.sA a.line).keep hkB2 (fun x hx => ⟨by have := (hrva x hx).1; omega, by simp⟩)
        have hal : ((pubI k a b0 i).all a.line).length ≤ 1000010 := by simp [pubI, JP.upd]; omega
        have hxl : (pubI k a b0 i).xs.length ≤ 1000010 := by simp [pubI]; omega
        obtain ⟨B3, happ1, hnB3, hgB3, hkB3⟩ := hs2.app (bytes := 8) (m := ((pubI k a b0 i).all a.line).length) (x := .slice (some ⟨B1.next, 0, none⟩) 1 1) (n := 1) (new := [pv B.next])
          (by simp) (by omega) rfl (rdRow_all hrB2 rfl) rfl (by omega) (by omega) (by omega)
        obtain ⟨B4, hB4⟩ : ∃ B4, B4 = B3.new (.row [pv B.next] 1 false false) := ⟨_, rfl⟩
        have hnB4 : B4.next = B.next + 4 := by rw [hB4, AHeap.new_next, hnB3, hnB2]
        have hkB4 : Keep [] B3 B4 := by rw [hB4]; exact Keep.new _ _
        have hrB4 : B4.get B3.next = some (.row [pv B.next] 1 false false) := by rw [hB4]; exact AHeap.new_get
        have eB4 : B3.new (.row [pv B.next] 1 false false) = B4 := hB4.symm
        clear hB2 hB4
        have hk14 : Keep (rowL (M.va a.line)) B1 B4 := (((hkB2.mono (fun _ _ h => by cases h)).trans hkB3 (fun _ _ h => h)).trans hkB4 (by simp))
        have hs4 := hKB1.ord.keep hk14 (fun x hx => ⟨by have := (hrov x hx).1; omega, hvo x hx⟩)
        obtain ⟨B5, happ2, hnB5, hgB5, hkB5⟩ := hs4.app (bytes := 8) (m := (pubI k a b0 i).xs.length) (x := .slice (some ⟨B3.next, 0, none⟩) 1 1) (n := 1) (new := [pv B.next])
          (by simp) (by omega) rfl (rdRow_all hrB4 rfl) rfl (by omega) (by omega) (by omega)
        have hk15 : Keep (rowL (M.va a.line) ++ rowL M.ov) B1 B5 := (hk14.mono (fun _ _ h => List.mem_append_left _ h)).trans hkB5 (fun _ _ h => List.mem_append_right _ h)
        have hma5 : B5.get M.ma = B1.get M.ma := hk15.get M.ma (by omega) (fun h => by
          simp only [List.mem_append] at h
          rcases h with h | h
          · exact (hrva _ h).2.2 rfl
          · exact (hrov _ h).2.2 rfl)
        obtain ⟨e5, B6, hent5, hnB6, hkB6, hmB6, hst5⟩ := (hKB1.mA.of_get hma5).entry a.line
        obtain ⟨B7, hst6, hnB7, hkB7, hmB7⟩ := hst5 B6 (.slice (some ⟨B2.next, 0, none⟩) (((pubI k a b0 i).all a.line).length + 1) (capInf * (1 + 1) + (((pubI k a b0 i).all a.line).length + 1))) rfl rfl
        have hent5' : amapEnt (.agg [.int .i64, .int .i64, .str]) (.slice none 0 0) (.map (some M.ma)) (.agg #[iv a.client, iv a.queue, sv a.key]) B5 = some (.tuple #[M.va a.line, .int .i64 e5], B6) := hent5
        have hst6' : aentSt (.agg [.int .i64, .int .i64, .str]) (.map (some M.ma)) (.int .i64 e5) (.slice (some ⟨B2.next, 0, none⟩) (((pubI k a b0 i).all a.line).length + 1) (capInf * (1 + 1) + (((pubI k a b0 i).all a.line).length + 1))) B6 = some B7 := hst6
        have hk57 : Keep [M.ma] B5 B7 := hkB6.trans hkB7 (fun _ _ h => h)
        have hcn : c ∉ rowL (M.va a.line) ∧ c ∉ rowL M.ov := ⟨fun h => (hrva c h).2.1 rfl, fun h => (hrov c h).2.1 rfl⟩
        have hcB3 : B3.get c = some (.row [.map (some M.mb), .map (some M.ma), M.ov, .map (some M.mh), .map (some M.mo), .map (some M.mc), iv q0, iv q1, iv q2, iv q3] 10 false false) := by
          rw [hkB3.get c (by omega) hcn.1, hkB2.get c (by omega) (by simp)]; exact hcB1
        have hcB5 : B5.get c = some (.row [.map (some M.mb), .map (some M.ma), M.ov, .map (some M.mh), .map (some M.mo), .map (some M.mc), iv q0, iv q1, iv q2, iv q3] 10 false false) := by
          rw [hk15.get c (by omega) (by simp [hcn.1, hcn.2])]; exact hcB1
        have hcB7 : B7.get c = some (.row [.map (some M.mb), .map (some M.ma), M.ov, .map (some M.mh), .map (some M.mo), .map (some M.mc), iv q0, iv q1, iv q2, iv q3] 10 false false) := by
          rw [hk57.get c (by omega) (by simpa using hcma)]; exact hcB5
        have hl1 : B1.get (A.next + 1) = some (.row [iv a.client, iv a.queue, sv a.key] 3 false false) := (hkB1.get _ (by omega) (by simp)).trans hlx
        have hlB3 : rdRow B3 (A.next + 1) 0 3 = some [iv a.client, iv a.queue, sv a.key] := rdRow_all (by
          rw [hkB3.get (A.next + 1) (by omega) (hA0 (A.next + 1) (by omega) (by omega)).2.2.1, hkB2.get (A.next + 1) (by omega) (by simp)]; exact hl1) rfl
        have hlB5g : B5.get (A.next + 1) = some (.row [iv a.client, iv a.queue, sv a.key] 3 false false) := by
          rw [hk15.get (A.next + 1) (by omega) (by simp only [List.mem_append, not_or]; exact ⟨(hA0 (A.next + 1) (by omega) (by omega)).2.2.1, (hA0 (A.next + 1) (by omega) (by omega)).2.2.2⟩)]; exact hl1
        have hlB5 : rdRow B5 (A.next + 1) 0 3 = some [iv a.client, iv a.queue, sv a.key] := rdRow_all hlB5g rfl
        have hwr : wrRow B7 c 2 [.slice (some ⟨B4.next, 0, none⟩) ((pubI k a b0 i).xs.length + 1) (capInf * (1 + 1) + ((pubI k a b0 i).xs.length + 1))] = some (B7.set c (.row (crtV { M with ov := .slice (some ⟨B4.next, 0, none⟩) ((pubI k a b0 i).xs.length + 1) (capInf * (1 + 1) + ((pubI k a b0 i).xs.length + 1)) } (pubI k a b0 i)) 10 false false)) := by
          rw [wrRow_at hcB7 (by simp), crtV, hq]; rfl
        rw [hva3] at happ1 hent5'
        rw [hov4] at happ2 hcB1 hcB3 hcB5
        rw [hva3] at hlkB1
        simp only [sxs, sx_label, vxs, AX.then_, AX.inBlock, aexec, Opd.ev, lputO, reduceIte, Nat.reduceEqDiff, addA, Nat.reduceAdd, Option.some.injEq, exists_eq_left', Option.map_some, Option.bind_some, cond_false, cond_true, chkOk, wantedS, goInt, aidx, List.map_cons, List.map_nil, Int.reduceEq, Int.reduceLT, Int.reduceLE, Int.reduceAdd, Int.reduceSub, BEq.rfl, eq_self, reduceCtorEq, hxs, evParts, repL, List.append_nil, notT, vcells, List.cons_append, List.nil_append, List.getElem?_cons_succ, List.getElem?_cons_zero, List.length_cons, List.length_nil, ne_eq, aresults, aresult, tupOf, h0, h3, h5, h6, h59, h60, h8, hcB1, hlB1, hlkB1, eB2, happ1, hcB3, hlB3, eB4, happ2, hcB5, hlB5, hent5', hst6', hcB7, hwr, w5, valEq, valEqs, valEq1, List.size_toArray, List.getElem?_toArray]
        obtain ⟨B8, hB8⟩ : ∃ B8, B8 = B7.set c (.row (crtV { M with ov := .slice (some ⟨B4.next, 0, none⟩) ((pubI k a b0 i).xs.length + 1) (capInf * 2 + ((pubI k a b0 i).xs.length + 1)) } (pubI k a b0 i)) 10 false false) := ⟨_, rfl⟩
        have hnB8 : B8.next = B.next + 5 := by rw [hB8, AHeap.set_next, hnB7, hnB6, hnB5, hnB4]
        have hk78 : Keep [c] B7 B8 := by rw [hB8]; exact Keep.set _ (.inl (by simp))
        have hcB8 : B8.get c = some (.row (crtV { M with ov := .slice (some ⟨B4.next, 0, none⟩) ((pubI k a b0 i).xs.length + 1) (capInf * 2 + ((pubI k a b0 i).xs.length + 1)) } (pubI k a b0 i)) 10 false false) := by rw [hB8]; exact AHeap.set_get
        rw [← hB8]
        clear hB8
        have hovge : ∀ id, B.next ≤ id → id ∉ rowL M.ov := fun id hi h => by have := (hrov id h).1; omega
        have hvage : ∀ id, B.next ≤ id → id ∉ rowL (M.va a.line) := fun id hi h => by have := (hrva id h).1; omega
        have hfar : ∀ id, B.next ≤ id → id < B5.next → B8.get id = B5.get id := fun id h1 h2 => by
          rw [hk78.get id (by omega) (by simp; omega), hk57.get id (by omega) (by simp; omega)]
        have hg1 : B8.get B2.next = some (.row (((pubI k a b0 i).all a.line).map (fun i => pv (M.ix i)) ++ [pv B.next]) 1 false true) := by
          rw [hfar _ (by omega) (by omega), hkB5.get B2.next (by omega) (hovge _ (by omega)), hkB4.get B2.next (by omega) (by simp)]; exact hgB3
        have hg2 : B8.get B4.next = some (.row ((List.range (pubI k a b0 i).xs.length).map (fun i => pv (M.ix i)) ++ [pv B.next]) 1 false true) := by
          rw [hfar _ (by omega) (by omega)]; exact hgB5
        have hgx : B8.get B.next = some (.row (kxV M.ib (newK a k.bs.length i)) 9 false false) := by
          rw [hfar _ (by omega) (by omega), hk15.get B.next (by omega) (by simp only [List.mem_append, not_or]; exact ⟨hvage _ (by omega), hovge _ (by omega)⟩)]; exact hx1
        have hkB8 : Keep ([c, M.ma] ++ (rowL (M.va a.line) ++ rowL M.ov)) B B8 := by
          refine Keep.trans (own' := [c]) (B := B7) ?_ hk78 (fun _ _ h => by simp only [List.mem_singleton] at h; simp [h])
          refine Keep.trans (own' := [M.ma]) (B := B5) ?_ hk57 (fun _ _ h => by simp only [List.mem_singleton] at h; simp [h])
          exact Keep.trans (own' := rowL (M.va a.line) ++ rowL M.ov) (B := B1) (hkB1.mono (fun _ _ h => by cases h)) hk15 (fun _ _ h => List.mem_append_right _ h)
        have hK8 := hKi.addX (by have := hbB.1; omega) (l := a.line) (x := newK a k.bs.length i) (by simp [newK, pubI]) (A' := B8) (xi := B.next) (r1 := B2.next) (n1 := ((pubI k a b0 i).all a.line).length + 1) (c1 := capInf * (1 + 1) + (((pubI k a b0 i).all a.line).length + 1)) (r2 := B4.next) (n2 := (pubI k a b0 i).xs.length + 1) (c2 := capInf * (1 + 1) + ((pubI k a b0 i).xs.length + 1))
          hkB8 (Nat.le_refl _) (by omega) (by omega) (by omega) hgx (.own hg1 (by simp)) (.own hg2 (by simp)) (hmB7.of_get (hk78.get M.ma (by omega) (by simpa using fun e => hcma e.symm))) hcB8
        rw [← pubI_succ] at hK8
        refine ⟨m, by omega, i + 1, _, by omega, hK8, ?_, ?_, rfl, ?_, ?_, ?_, by omega⟩
        · intro id h1 h2
          simp only
          rw [setR_ne _ _ (by omega), setR_ne _ _ (by omega), setR_ne _ _ (by omega)]; exact hrn id h1 h2
        · exact hib
        · refine hbB.trans (Below_.of hkB8 (by have := hbB.1; omega) (fun id hid => ?_))
          simp only [List.mem_append, List.mem_cons, List.not_mem_nil, or_false] at hid
          rcases hid with (rfl | rfl) | hid | hid
          · exact (hKi.lt id (by rw [hKi.rc]; simp)).1
          · exact (hKi.lt M.ma (by rw [hKi.rma]; simp)).1
          · exact (hKi.lt id (by rw [hKi.rva a.line id hid]; simp)).1
          · exact (hKi.lt id (by rw [hKi.rov id hid]; simp)).1
        · have hh := hA0 A.next (by omega) (by omega)
          rw [hkB8.get A.next (by omega) (by simp [hh.1, hh.2.1, hh.2.2.1, hh.2.2.2])]; exact hbx
        · have hh := hA0 (A.next + 1) (by omega) (by omega)
          rw [hkB8.get (A.next + 1) (by omega) (by simp [hh.1, hh.2.1, hh.2.2.1, hh.2.2.2])]; exact hlx
  · refine ⟨0, L7, by omega, hk0, fun id h1 h2 => by rw [hro7 id h2]; exact hroA id h1, hib7, by simp only [lget_lput, frOf_cons, frOf_nil, reduceIte, Nat.reduceEqDiff], by simp only [lget_lput, frOf_cons, frOf_nil, reduceIte, Nat.reduceEqDiff], by simp only [lget_lput, frOf_cons, frOf_nil, reduceIte, Nat.reduceEqDiff], by simp only [lget_lput, frOf_cons, frOf_nil, reduceIte, Nat.reduceEqDiff], by simp only [lget_lput, frOf_cons, frOf_nil, reduceIte, Nat.reduceEqDiff], by simp only [lget_lput, reduceIte]; rfl, hbl7, hb7, hlg7, by omega⟩
end Go.Proofs.YtiimkdijiddjcaaDoor
