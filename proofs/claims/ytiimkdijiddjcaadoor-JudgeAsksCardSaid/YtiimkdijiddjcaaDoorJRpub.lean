/- The document's judge on the abstract machine: a batch is published. -/
import Derived.Test.YtiimkdijiddjcaaDoorJRdig
set_option linter.unusedSimpArgs false
namespace Go.Proofs.YtiimkdijiddjcaaDoor
set_option linter.unusedSimpArgs false
set_option linter.unusedVariables false
set_option linter.unusedSectionVars false
set_option linter.defProp false
open Go Go.Abs JP

theorem ends_bound {s : St} (hs : Small s) (l : Line) : ∀ (w : List Post) (n : Int), (∀ p ∈ w, p ∈ s.wait) → 0 ≤ n → n ≤ 1000000 → 0 ≤ ends l w n ∧ ends l w n ≤ 1000000 := by
  intro w
  induction w with
  | nil => intro n _ h1 h2; exact ⟨h1, h2⟩
  | cons p w ih =>
    intro n hw h1 h2
    have := hs.post p (hw p (by simp))
    exact ih _ (fun q hq => hw q (by simp [hq])) (by split <;> omega) (by split <;> omega)

set_option maxRecDepth 10000 in
set_option maxHeartbeats 2000000 in
theorem publish_spec {j : Nat} {vw vm vt : Value} {s : St} {a : JP.Act} {A : AHeap} (hj : JR j vw vm vt s A) (hs : Small s) (hbd : a.body.size ≤ 1000000) :
    EvF AQ EQ 25 [pv j, .agg (actV a).toArray] A (fun v A' => v = bv (pubS s a).isSome ∧ Keep ([j] ++ (rowL vw ++ rowL vm)) A A' ∧ ∀ s', pubS s a = some s' →
      ∃ vw' vm', JR j vw' vm' vt s' A' ∧ (∀ r ∈ rowL vw' ++ rowL vm', r ∈ rowL vm ∨ A.next ≤ r)) := by
  refine rf_body (fn := Code.a25) rfl ?_
  simp only [Code.a25, sxs, sx_label, vxs, AX.then_, AX.inBlock, aexec, Opd.ev, lputO, reduceIte, Nat.reduceEqDiff, addA, Nat.reduceAdd, Option.some.injEq, exists_eq_left', Option.map_some, Option.bind_some, cond_false, cond_true, chkOk, wantedS, goInt, aidx, List.map_cons, List.map_nil, Int.reduceEq, Int.reduceLT, Int.reduceLE, Int.reduceAdd, Int.reduceSub, BEq.rfl, eq_self, reduceCtorEq, hxs, evParts, repL, List.append_nil, notT, vcells, List.cons_append, List.nil_append, List.getElem?_cons_succ, List.getElem?_cons_zero, List.length_cons, List.length_nil, ne_eq, aresults, aresult, tupOf]
  refine rc_loop (fun m fr A' => ∃ pre suf n, s.wait = pre ++ suf ∧ suf.length = m ∧ ends a.line s.wait 0 = ends a.line suf n ∧
    lget fr 0 = pv j ∧ lget fr 3 = pv A.next ∧ lget fr 4 = bv false ∧ lget fr 5 = iv n ∧ lget fr 6 = iv pre.length ∧ Keep [] A A' ∧ A.next < A'.next ∧ A'.get A.next = some (.row (actV a) 14 false false)) ?_ s.wait.length ?_
  · rintro m fr A1 ⟨pre, suf, n, hw, hm, hans, h0, h3, h4, h5, h6, hk, hb1, hb⟩
    have hj1 := hj.keep hk (by simp)
    obtain ⟨o, n0, c, hv, hn⟩ := hj1.wait.len
    obtain ⟨t0, t1, t2, t3, ht, hr⟩ := hj1.four
    rw [len_flat postV 6 postV_len] at hn
    have hn : n0 = s.wait.length := by omega
    subst hn
    have hjl : j < A1.next := hj1.lt j (by simp)
    cases suf with
    | nil =>
      have e : ¬ ((pre.length : Int) < s.wait.length) := by rw [hw]; simp
      simp only [ends] at hans
      subst hans
      have hnb := ends_bound hs a.line s.wait 0 (fun _ h => h) (by omega) (by omega)
      have w1 : IntKind.i64.wrap (ends a.line s.wait 0 + 1) = ends a.line s.wait 0 + 1 := i64_add (by omega) (by omega)
      have hnone : ∀ h : a.many < 1 ∨ 8 < a.many ∨ a.seq ≠ ends a.line s.wait 0 + 1, pubS s a = none := fun h => if_pos h
      subst hv
      simp only [sxs, sx_label, vxs, AX.then_, AX.inBlock, aexec, Opd.ev, lputO, reduceIte, Nat.reduceEqDiff, addA, Nat.reduceAdd, Option.some.injEq, exists_eq_left', Option.map_some, Option.bind_some, cond_false, cond_true, chkOk, wantedS, goInt, aidx, List.map_cons, List.map_nil, Int.reduceEq, Int.reduceLT, Int.reduceLE, Int.reduceAdd, Int.reduceSub, BEq.rfl, eq_self, reduceCtorEq, hxs, evParts, repL, List.append_nil, notT, vcells, List.cons_append, List.nil_append, List.getElem?_cons_succ, List.getElem?_cons_zero, List.length_cons, List.length_nil, ne_eq, aresults, aresult, tupOf, h0, h3, h4, h5, h6, hr, e, hb, w1]
      rcases Classical.em (a.many < 1) with c1 | c1
      · simp only [sxs, sx_label, vxs, AX.then_, AX.inBlock, aexec, Opd.ev, lputO, reduceIte, Nat.reduceEqDiff, addA, Nat.reduceAdd, Option.some.injEq, exists_eq_left', Option.map_some, Option.bind_some, cond_false, cond_true, chkOk, wantedS, goInt, aidx, List.map_cons, List.map_nil, Int.reduceEq, Int.reduceLT, Int.reduceLE, Int.reduceAdd, Int.reduceSub, BEq.rfl, eq_self, reduceCtorEq, hxs, evParts, repL, List.append_nil, notT, vcells, List.cons_append, List.nil_append, List.getElem?_cons_succ, List.getElem?_cons_zero, List.length_cons, List.length_nil, ne_eq, aresults, aresult, tupOf, h0, h3, h4, h5, h6, hr, e, hb, w1, c1]
        exact ⟨.inr trivial, _, _, rfl, rfl, by simp [hnone (.inl c1)], hk.mono (by simp), fun s' h => by simp [hnone (.inl c1)] at h⟩
      simp only [sxs, sx_label, vxs, AX.then_, AX.inBlock, aexec, Opd.ev, lputO, reduceIte, Nat.reduceEqDiff, addA, Nat.reduceAdd, Option.some.injEq, exists_eq_left', Option.map_some, Option.bind_some, cond_false, cond_true, chkOk, wantedS, goInt, aidx, List.map_cons, List.map_nil, Int.reduceEq, Int.reduceLT, Int.reduceLE, Int.reduceAdd, Int.reduceSub, BEq.rfl, eq_self, reduceCtorEq, hxs, evParts, repL, List.append_nil, notT, vcells, List.cons_append, List.nil_append, List.getElem?_cons_succ, List.getElem?_cons_zero, List.length_cons, List.length_nil, ne_eq, aresults, aresult, tupOf, h0, h3, h4, h5, h6, hr, e, hb, w1, c1]
      rcases Classical.em (8 < a.many) with c2 | c2
      · simp only [sxs, sx_label, vxs, AX.then_, AX.inBlock, aexec, Opd.ev, lputO, reduceIte, Nat.reduceEqDiff, addA, Nat.reduceAdd, Option.some.injEq, exists_eq_left', Option.map_some, Option.bind_some, cond_false, cond_true, chkOk, wantedS, goInt, aidx, List.map_cons, List.map_nil, Int.reduceEq, Int.reduceLT, Int.reduceLE, Int.reduceAdd, Int.reduceSub, BEq.rfl, eq_self, reduceCtorEq, hxs, evParts, repL, List.append_nil, notT, vcells, List.cons_append, List.nil_append, List.getElem?_cons_succ, List.getElem?_cons_zero, List.length_cons, List.length_nil, ne_eq, aresults, aresult, tupOf, h0, h3, h4, h5, h6, hr, e, hb, w1, c2]
        exact ⟨.inr trivial, _, _, rfl, rfl, by simp [hnone (.inr (.inl c2))], hk.mono (by simp), fun s' h => by simp [hnone (.inr (.inl c2))] at h⟩
      simp only [sxs, sx_label, vxs, AX.then_, AX.inBlock, aexec, Opd.ev, lputO, reduceIte, Nat.reduceEqDiff, addA, Nat.reduceAdd, Option.some.injEq, exists_eq_left', Option.map_some, Option.bind_some, cond_false, cond_true, chkOk, wantedS, goInt, aidx, List.map_cons, List.map_nil, Int.reduceEq, Int.reduceLT, Int.reduceLE, Int.reduceAdd, Int.reduceSub, BEq.rfl, eq_self, reduceCtorEq, hxs, evParts, repL, List.append_nil, notT, vcells, List.cons_append, List.nil_append, List.getElem?_cons_succ, List.getElem?_cons_zero, List.length_cons, List.length_nil, ne_eq, aresults, aresult, tupOf, h0, h3, h4, h5, h6, hr, e, hb, w1, c2]
      rcases (Classical.em (a.seq = ends a.line s.wait 0 + 1)).symm with c3 | c3
      · simp only [sxs, sx_label, vxs, AX.then_, AX.inBlock, aexec, Opd.ev, lputO, reduceIte, Nat.reduceEqDiff, addA, Nat.reduceAdd, Option.some.injEq, exists_eq_left', Option.map_some, Option.bind_some, cond_false, cond_true, chkOk, wantedS, goInt, aidx, List.map_cons, List.map_nil, Int.reduceEq, Int.reduceLT, Int.reduceLE, Int.reduceAdd, Int.reduceSub, BEq.rfl, eq_self, reduceCtorEq, hxs, evParts, repL, List.append_nil, notT, vcells, List.cons_append, List.nil_append, List.getElem?_cons_succ, List.getElem?_cons_zero, List.length_cons, List.length_nil, ne_eq, aresults, aresult, tupOf, h0, h3, h4, h5, h6, hr, e, hb, w1, c3]
        exact ⟨.inr trivial, _, _, rfl, rfl, by simp [hnone (.inr (.inr c3))], hk.mono (by simp), fun s' h => by simp [hnone (.inr (.inr c3))] at h⟩
      simp only [sxs, sx_label, vxs, AX.then_, AX.inBlock, aexec, Opd.ev, lputO, reduceIte, Nat.reduceEqDiff, addA, Nat.reduceAdd, Option.some.injEq, exists_eq_left', Option.map_some, Option.bind_some, cond_false, cond_true, chkOk, wantedS, goInt, aidx, List.map_cons, List.map_nil, Int.reduceEq, Int.reduceLT, Int.reduceLE, Int.reduceAdd, Int.reduceSub, BEq.rfl, eq_self, reduceCtorEq, hxs, evParts, repL, List.append_nil, notT, vcells, List.cons_append, List.nil_append, List.getElem?_cons_succ, List.getElem?_cons_zero, List.length_cons, List.length_nil, ne_eq, aresults, aresult, tupOf, h0, h3, h4, h5, h6, hr, e, hb, w1, c3]
      obtain ⟨k, hmk⟩ : ∃ k : Nat, a.many = k := ⟨a.many.toNat, by omega⟩
      refine rc_loop (fun m fr A' => ∃ i vm', i + m = k ∧ JR j (.slice o s.wait.length c) vm' vt { s with ms := s.ms ++ (List.range i).map (newS a s.wait.length) } A' ∧
        lget fr 0 = pv j ∧ lget fr 3 = pv A.next ∧ lget fr 4 = bv false ∧ lget fr 8 = iv i ∧ Keep ([j] ++ rowL vm) A A' ∧ (∀ r ∈ rowL vm', r ∈ rowL vm ∨ A.next < r) ∧ A.next < A'.next ∧ A'.get A.next = some (.row (actV a) 14 false false)) ?_ k ?_
      · rintro m fr A2 ⟨i, vm', hik, hj2, h0, h3, h4, h8, hk2, hvm, hb2, hbx⟩
        obtain ⟨t0, t1, t2, t3, ht, hr2⟩ := hj2.four
        simp only at ht
        have hjl2 : j < A2.next := hj2.lt j (by simp)
        obtain ⟨om, nm, cm, hvm2, hnm⟩ := hj2.ms.len
        rw [len_flat seenV 11 seenV_len] at hnm
        have hlr : ((List.range i).map (newS a s.wait.length)).length = i := by simp
        have hnm : nm = s.ms.length + i := by simp only [List.length_append, hlr] at hnm; omega
        cases m with
        | zero =>
          have e2 : ¬ ((i : Int) < a.many) := by omega
          simp only [sxs, sx_label, vxs, AX.then_, AX.inBlock, aexec, Opd.ev, lputO, reduceIte, Nat.reduceEqDiff, addA, Nat.reduceAdd, Option.some.injEq, exists_eq_left', Option.map_some, Option.bind_some, cond_false, cond_true, chkOk, wantedS, goInt, aidx, List.map_cons, List.map_nil, Int.reduceEq, Int.reduceLT, Int.reduceLE, Int.reduceAdd, Int.reduceSub, BEq.rfl, eq_self, reduceCtorEq, hxs, evParts, repL, List.append_nil, notT, vcells, List.cons_append, List.nil_append, List.getElem?_cons_succ, List.getElem?_cons_zero, List.length_cons, List.length_nil, ne_eq, aresults, aresult, tupOf, h0, h3, h4, h8, hr2, hbx, e2]
          have hj3 := hj2.keep (Keep.new (own := []) A2 (.row (postV ⟨a.client, a.queue, a.key, a.seq, a.many, 0⟩) 6 false false)) (by simp)
          obtain ⟨A3, happ, hn3, hg3, hk3⟩ := hj3.wait.app (bytes := 56) (m := s.wait.length) (x := .slice (some ⟨A2.next, 0, none⟩) 1 1) (n := 1) (new := postV ⟨a.client, a.queue, a.key, a.seq, a.many, 0⟩)
            (len_flat postV 6 postV_len _) (by omega) rfl (rdRow_all AHeap.new_get rfl) rfl (by omega) (by have := hs.wl; omega) (by have := hs.wl; omega)
          refine RX_use happ ?_
          have hjv : j ∉ rowL (.slice o s.wait.length c) := by
            have hnd := hj2.nodup
            simp only [List.cons_append, List.nil_append, List.nodup_cons, List.mem_append, not_or] at hnd
            exact hnd.1.1
          have hr3 : A3.get j = some (.row [.slice none 0 0, .slice o s.wait.length c, vm', iv t0, iv t1, iv t2, iv t3, vt] 8 false false) := (hk3.get j (by rw [AHeap.new_next]; omega) hjv).trans ((AHeap.new_lt hjl2).trans hr2)
          have hwr : wrRow A3 j 1 [.slice (some ⟨A2.next + 1, 0, none⟩) (s.wait.length + 1) (capInf * (6 + 1) + (s.wait.length + 1))] = some (A3.set j (.row [.slice none 0 0, .slice (some ⟨A2.next + 1, 0, none⟩) (s.wait.length + 1) (capInf * (6 + 1) + (s.wait.length + 1)), vm', iv t0, iv t1, iv t2, iv t3, vt] 8 false false)) := by
            rw [wrRow_at hr3 (by simp)]; rfl
          simp only [sxs, sx_label, vxs, AX.then_, AX.inBlock, aexec, Opd.ev, lputO, reduceIte, Nat.reduceEqDiff, addA, Nat.reduceAdd, Option.some.injEq, exists_eq_left', Option.map_some, Option.bind_some, cond_false, cond_true, chkOk, wantedS, goInt, aidx, List.map_cons, List.map_nil, Int.reduceEq, Int.reduceLT, Int.reduceLE, Int.reduceAdd, Int.reduceSub, BEq.rfl, eq_self, reduceCtorEq, hxs, evParts, repL, List.append_nil, notT, vcells, List.cons_append, List.nil_append, List.getElem?_cons_succ, List.getElem?_cons_zero, List.length_cons, List.length_nil, ne_eq, aresults, aresult, tupOf, h0, h3, h4, h8, hr3, hwr]
          have hfin := hj3.waitPush (A1 := A3) [⟨a.client, a.queue, a.key, a.seq, a.many, 0⟩] hn3 (by simpa using hg3) hk3 (n := s.wait.length + 1) (by simp) (row := [.slice none 0 0, .slice (some ⟨A2.next + 1, 0, none⟩) (s.wait.length + 1) (capInf * (6 + 1) + (s.wait.length + 1)), vm', iv t0, iv t1, iv t2, iv t3, vt]) (by simp only [ht]; rfl)
          have hres : pubS s a = some { s with wait := s.wait ++ [⟨a.client, a.queue, a.key, a.seq, a.many, 0⟩], ms := s.ms ++ (List.range i).map (newS a s.wait.length) } := by
            rw [pubS, if_neg (by omega), (by omega : a.many.toNat = i)]
          refine ⟨.inr trivial, _, _, rfl, rfl, by rw [hres]; rfl, ?_, ?_⟩
          · refine ((hk2.trans (Keep.new (own := []) A2 _) (by simp)).mono (fun _ _ h => ?_)).trans hfin.2 (fun id _ h => ?_)
            · simp only [List.mem_append, List.mem_singleton] at h ⊢; rcases h with h | h <;> simp [h]
            · simp only [List.mem_append, List.mem_singleton] at h ⊢; rcases h with h | h <;> simp [h]
          · intro s' h
            rw [hres] at h
            cases h
            refine ⟨_, _, hfin.1, ?_⟩
            intro r hr
            simp only [rowL, List.mem_append, List.mem_singleton] at hr
            rcases hr with hr | hr
            · exact .inr (by rw [hr]; show A.next ≤ A2.next + 1; omega)
            · rcases hvm r hr with h | h
              · exact .inl h
              · exact .inr (by omega)
        | succ m =>
          have e2 : (i : Int) < a.many := by omega
          subst hvm2
          simp only [sxs, sx_label, vxs, AX.then_, AX.inBlock, aexec, Opd.ev, lputO, reduceIte, Nat.reduceEqDiff, addA, Nat.reduceAdd, Option.some.injEq, exists_eq_left', Option.map_some, Option.bind_some, cond_false, cond_true, chkOk, wantedS, goInt, aidx, List.map_cons, List.map_nil, Int.reduceEq, Int.reduceLT, Int.reduceLE, Int.reduceAdd, Int.reduceSub, BEq.rfl, eq_self, reduceCtorEq, hxs, evParts, repL, List.append_nil, notT, vcells, List.cons_append, List.nil_append, List.getElem?_cons_succ, List.getElem?_cons_zero, List.length_cons, List.length_nil, ne_eq, aresults, aresult, tupOf, h0, h3, h4, h8, hr2, hbx, e2]
          refine RF_use (body_spec i (by omega) hbd A2) ?_
          rintro v A' ⟨rfl, rfl⟩
          have w4 : IntKind.i64.wrap (a.seq + i) = a.seq + i := i64_add (by omega) (by omega)
          have w5 : IntKind.i64.wrap (i + 1) = ((i + 1 : Nat) : Int) := i64_add (by omega) (by omega)
          simp only [sxs, sx_label, vxs, AX.then_, AX.inBlock, aexec, Opd.ev, lputO, reduceIte, Nat.reduceEqDiff, addA, Nat.reduceAdd, Option.some.injEq, exists_eq_left', Option.map_some, Option.bind_some, cond_false, cond_true, chkOk, wantedS, goInt, aidx, List.map_cons, List.map_nil, Int.reduceEq, Int.reduceLT, Int.reduceLE, Int.reduceAdd, Int.reduceSub, BEq.rfl, eq_self, reduceCtorEq, hxs, evParts, repL, List.append_nil, notT, vcells, List.cons_append, List.nil_append, List.getElem?_cons_succ, List.getElem?_cons_zero, List.length_cons, List.length_nil, ne_eq, aresults, aresult, tupOf, h0, h3, h4, h8, hr2, hbx, w4]
          have hj3 := hj2.keep (Keep.new (own := []) A' (.row (seenV (newS a s.wait.length i)) 11 false false)) (by simp)
          obtain ⟨A3, happ, hn3, hg3, hk3⟩ := hj3.ms.app (bytes := 80) (m := nm) (x := .slice (some ⟨A'.next, 0, none⟩) 1 1) (n := 1) (new := seenV (newS a s.wait.length i))
            (by rw [len_flat seenV 11 seenV_len, hnm]; simp) (by omega) rfl (rdRow_all AHeap.new_get rfl) rfl (by omega) (by have := hs.ml; omega) (by have := hs.ml; omega)
          refine RX_use happ ?_
          have hjv : j ∉ rowL (.slice om nm cm) := by
            have hnd := hj2.nodup
            simp only [List.cons_append, List.nil_append, List.nodup_cons, List.mem_append, not_or] at hnd
            exact hnd.1.2.1
          have hr3 : A3.get j = some (.row [.slice none 0 0, .slice o s.wait.length c, .slice om nm cm, iv t0, iv t1, iv t2, iv t3, vt] 8 false false) := (hk3.get j (by rw [AHeap.new_next]; omega) hjv).trans ((AHeap.new_lt hjl2).trans hr2)
          have hwr : wrRow A3 j 2 [.slice (some ⟨A'.next + 1, 0, none⟩) (nm + 1) (capInf * (11 + 1) + (nm + 1))] = some (A3.set j (.row [.slice none 0 0, .slice o s.wait.length c, .slice (some ⟨A'.next + 1, 0, none⟩) (nm + 1) (capInf * (11 + 1) + (nm + 1)), iv t0, iv t1, iv t2, iv t3, vt] 8 false false)) := by
            rw [wrRow_at hr3 (by simp)]; rfl
          simp only [sxs, sx_label, vxs, AX.then_, AX.inBlock, aexec, Opd.ev, lputO, reduceIte, Nat.reduceEqDiff, addA, Nat.reduceAdd, Option.some.injEq, exists_eq_left', Option.map_some, Option.bind_some, cond_false, cond_true, chkOk, wantedS, goInt, aidx, List.map_cons, List.map_nil, Int.reduceEq, Int.reduceLT, Int.reduceLE, Int.reduceAdd, Int.reduceSub, BEq.rfl, eq_self, reduceCtorEq, hxs, evParts, repL, List.append_nil, notT, vcells, List.cons_append, List.nil_append, List.getElem?_cons_succ, List.getElem?_cons_zero, List.length_cons, List.length_nil, ne_eq, aresults, aresult, tupOf, h0, h3, h4, h8, hr3, hwr, w5]
          have hfin := hj3.msPush (A1 := A3) [newS a s.wait.length i] hn3 (by simpa using hg3) hk3 (n := nm + 1) (by simp [hnm]; omega) (row := [.slice none 0 0, .slice o s.wait.length c, .slice (some ⟨A'.next + 1, 0, none⟩) (nm + 1) (capInf * (11 + 1) + (nm + 1)), iv t0, iv t1, iv t2, iv t3, vt]) (by simp only [ht]; rfl)
          refine ⟨m, by omega, i + 1, .slice (some ⟨A'.next + 1, 0, none⟩) (nm + 1) (capInf * (11 + 1) + (nm + 1)), by omega, ?_, rfl, ?_, ?_, ?_, ?_⟩
          · have := hfin.1
            simp only [List.append_assoc] at this
            rw [List.range_succ, List.map_append]
            exact this
          · refine (hk2.trans (Keep.new (own := []) A' _) (by simp)).trans hfin.2 (fun id hid h => ?_)
            simp only [List.mem_append, List.mem_singleton] at h ⊢
            rcases h with h | h
            · exact .inl h
            · rcases hvm id h with h | h
              · exact .inr h
              · omega
          · intro r hr
            simp only [rowL, List.mem_singleton] at hr
            exact .inr (by rw [hr]; show A.next < A'.next + 1; omega)
          · rw [hn3, AHeap.new_next]; omega
          · have hjA : j < A.next := hj.lt j (by simp)
            rw [AHeap.set_ne (by omega), hk3.get A.next (by rw [AHeap.new_next]; omega) (fun h => ?_), AHeap.new_lt hb2]
            · exact hbx
            · rcases hvm A.next h with h | h
              · have := hj.lt A.next (by simp [h]); omega
              · omega
      · exact ⟨0, vm, by omega, by simpa using hj1, by simp only [lget_lput, reduceIte, Nat.reduceEqDiff, h0], by simp only [lget_lput, reduceIte, Nat.reduceEqDiff, h3], by simp only [lget_lput, reduceIte, Nat.reduceEqDiff, h4], by simp only [lget_lput, reduceIte]; rfl, hk.mono (by simp), fun r hr => .inl hr, hb1, hb⟩
    | cons p suf =>
      have e : ((pre.length : Int) < s.wait.length) := by rw [hw]; simp; omega
      have hp : s.wait[pre.length]? = some p := by rw [hw]; simp
      obtain ⟨r, n2, hv2, hg, hl, hlt⟩ := hj1.wait.at (i := pre.length) (by rw [len_flat postV 6 postV_len, hw]; simp)
      rw [hv] at hv2
      cases hv2
      subst hv
      have hrd := rdRow_flat postV 6 postV_len hg hp
      have hsm := hs.post p (by rw [hw]; simp)
      have w1 : IntKind.i64.wrap (p.first + p.many) = p.first + p.many := i64_add (by omega) (by omega)
      have w2 : IntKind.i64.wrap (p.first + p.many - 1) = p.first + p.many - 1 := i64_add (by omega) (by omega)
      have w0 : IntKind.i64.wrap (pre.length + 1) = ((pre ++ [p]).length : Int) := by
        have hpl : s.wait.length = pre.length + (suf.length + 1) := by rw [hw]; simp
        rw [i64_add (by omega) (by have := hs.wl; omega)]; simp
      have hn0 : ends a.line (p :: suf) n = ends a.line suf (if p.line = a.line then p.first + p.many - 1 else n) := rfl
      have hk2 : Keep [] A (A1.new (.row (postV p) 6 false false)) := hk.trans (Keep.new (own := []) _ _) (by simp)
      have hmiss : ¬ (p.line = a.line) → ends a.line s.wait 0 = ends a.line suf n := by
        intro hne; rw [hans, hn0, if_neg hne]
      simp only [sxs, sx_label, vxs, AX.then_, AX.inBlock, aexec, Opd.ev, lputO, reduceIte, Nat.reduceEqDiff, addA, Nat.reduceAdd, Option.some.injEq, exists_eq_left', Option.map_some, Option.bind_some, cond_false, cond_true, chkOk, wantedS, goInt, aidx, List.map_cons, List.map_nil, Int.reduceEq, Int.reduceLT, Int.reduceLE, Int.reduceAdd, Int.reduceSub, BEq.rfl, eq_self, reduceCtorEq, hxs, evParts, repL, List.append_nil, notT, vcells, List.cons_append, List.nil_append, List.getElem?_cons_succ, List.getElem?_cons_zero, List.length_cons, List.length_nil, ne_eq, aresults, aresult, tupOf, h0, h3, h4, h5, h6, hr, e, hrd, hb, hb1, hjl, w0]
      rcases (Classical.em (p.client = a.client)).symm with c1 | c1
      · simp only [sxs, sx_label, vxs, AX.then_, AX.inBlock, aexec, Opd.ev, lputO, reduceIte, Nat.reduceEqDiff, addA, Nat.reduceAdd, Option.some.injEq, exists_eq_left', Option.map_some, Option.bind_some, cond_false, cond_true, chkOk, wantedS, goInt, aidx, List.map_cons, List.map_nil, Int.reduceEq, Int.reduceLT, Int.reduceLE, Int.reduceAdd, Int.reduceSub, BEq.rfl, eq_self, reduceCtorEq, hxs, evParts, repL, List.append_nil, notT, vcells, List.cons_append, List.nil_append, List.getElem?_cons_succ, List.getElem?_cons_zero, List.length_cons, List.length_nil, ne_eq, aresults, aresult, tupOf, h0, h3, h4, h5, h6, hr, e, hrd, hb, hb1, hjl, w0, c1]
        exact ⟨suf.length, by simp at hm; omega, pre ++ [p], suf, n, by simp [hw], rfl, hmiss (by simp [Post.line, Act.line, c1]), rfl, rfl, hk2, by omega⟩
      simp only [sxs, sx_label, vxs, AX.then_, AX.inBlock, aexec, Opd.ev, lputO, reduceIte, Nat.reduceEqDiff, addA, Nat.reduceAdd, Option.some.injEq, exists_eq_left', Option.map_some, Option.bind_some, cond_false, cond_true, chkOk, wantedS, goInt, aidx, List.map_cons, List.map_nil, Int.reduceEq, Int.reduceLT, Int.reduceLE, Int.reduceAdd, Int.reduceSub, BEq.rfl, eq_self, reduceCtorEq, hxs, evParts, repL, List.append_nil, notT, vcells, List.cons_append, List.nil_append, List.getElem?_cons_succ, List.getElem?_cons_zero, List.length_cons, List.length_nil, ne_eq, aresults, aresult, tupOf, h0, h3, h4, h5, h6, hr, e, hrd, hb, hb1, hjl, w0, c1]
      rcases (Classical.em (p.queue = a.queue)).symm with c2 | c2
      · simp only [sxs, sx_label, vxs, AX.then_, AX.inBlock, aexec, Opd.ev, lputO, reduceIte, Nat.reduceEqDiff, addA, Nat.reduceAdd, Option.some.injEq, exists_eq_left', Option.map_some, Option.bind_some, cond_false, cond_true, chkOk, wantedS, goInt, aidx, List.map_cons, List.map_nil, Int.reduceEq, Int.reduceLT, Int.reduceLE, Int.reduceAdd, Int.reduceSub, BEq.rfl, eq_self, reduceCtorEq, hxs, evParts, repL, List.append_nil, notT, vcells, List.cons_append, List.nil_append, List.getElem?_cons_succ, List.getElem?_cons_zero, List.length_cons, List.length_nil, ne_eq, aresults, aresult, tupOf, h0, h3, h4, h5, h6, hr, e, hrd, hb, hb1, hjl, w0, c2]
        exact ⟨suf.length, by simp at hm; omega, pre ++ [p], suf, n, by simp [hw], rfl, hmiss (by simp [Post.line, Act.line, c2]), rfl, rfl, hk2, by omega⟩
      simp only [sxs, sx_label, vxs, AX.then_, AX.inBlock, aexec, Opd.ev, lputO, reduceIte, Nat.reduceEqDiff, addA, Nat.reduceAdd, Option.some.injEq, exists_eq_left', Option.map_some, Option.bind_some, cond_false, cond_true, chkOk, wantedS, goInt, aidx, List.map_cons, List.map_nil, Int.reduceEq, Int.reduceLT, Int.reduceLE, Int.reduceAdd, Int.reduceSub, BEq.rfl, eq_self, reduceCtorEq, hxs, evParts, repL, List.append_nil, notT, vcells, List.cons_append, List.nil_append, List.getElem?_cons_succ, List.getElem?_cons_zero, List.length_cons, List.length_nil, ne_eq, aresults, aresult, tupOf, h0, h3, h4, h5, h6, hr, e, hrd, hb, hb1, hjl, w0, c2]
      rcases (Classical.em (p.key = a.key)).symm with c3 | c3
      · simp only [sxs, sx_label, vxs, AX.then_, AX.inBlock, aexec, Opd.ev, lputO, reduceIte, Nat.reduceEqDiff, addA, Nat.reduceAdd, Option.some.injEq, exists_eq_left', Option.map_some, Option.bind_some, cond_false, cond_true, chkOk, wantedS, goInt, aidx, List.map_cons, List.map_nil, Int.reduceEq, Int.reduceLT, Int.reduceLE, Int.reduceAdd, Int.reduceSub, BEq.rfl, eq_self, reduceCtorEq, hxs, evParts, repL, List.append_nil, notT, vcells, List.cons_append, List.nil_append, List.getElem?_cons_succ, List.getElem?_cons_zero, List.length_cons, List.length_nil, ne_eq, aresults, aresult, tupOf, h0, h3, h4, h5, h6, hr, e, hrd, hb, hb1, hjl, w0, c3]
        exact ⟨suf.length, by simp at hm; omega, pre ++ [p], suf, n, by simp [hw], rfl, hmiss (by simp [Post.line, Act.line, c3]), rfl, rfl, hk2, by omega⟩
      simp only [sxs, sx_label, vxs, AX.then_, AX.inBlock, aexec, Opd.ev, lputO, reduceIte, Nat.reduceEqDiff, addA, Nat.reduceAdd, Option.some.injEq, exists_eq_left', Option.map_some, Option.bind_some, cond_false, cond_true, chkOk, wantedS, goInt, aidx, List.map_cons, List.map_nil, Int.reduceEq, Int.reduceLT, Int.reduceLE, Int.reduceAdd, Int.reduceSub, BEq.rfl, eq_self, reduceCtorEq, hxs, evParts, repL, List.append_nil, notT, vcells, List.cons_append, List.nil_append, List.getElem?_cons_succ, List.getElem?_cons_zero, List.length_cons, List.length_nil, ne_eq, aresults, aresult, tupOf, h0, h3, h4, h5, h6, hr, e, hrd, hb, hb1, hjl, w0, c3, w1, w2]
      exact ⟨suf.length, by simp at hm; omega, pre ++ [p], suf, _, by simp [hw], rfl, by rw [hans, hn0, if_pos (by simp [Post.line, Act.line, c1, c2, c3])], rfl, rfl, hk2, by omega⟩
  · exact ⟨[], s.wait, 0, rfl, rfl, rfl, rfl, rfl, rfl, rfl, rfl, Keep.new _ _, by simp [AHeap.new_next], AHeap.new_get⟩
end Go.Proofs.YtiimkdijiddjcaaDoor
