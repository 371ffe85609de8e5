/- The judge on the abstract machine: a message is settled; a client holds a message no more. -/
import Derived.Test.YtiimkdijiddjcaaDoorJKdef
set_option linter.unusedSimpArgs false
namespace Go.Proofs.YtiimkdijiddjcaaDoor
set_option linter.unusedSimpArgs false
set_option linter.unusedVariables false
set_option linter.unusedSectionVars false
set_option linter.defProp false
open Go Go.Abs JP

set_option maxRecDepth 10000 in
set_option maxHeartbeats 4000000 in
theorem settled_spec {c lo : Nat} {k : K} {L : Lay} {a : JP.Act} {A : AHeap} (hK : KR c lo k L A) (hlo : lo ≤ A.next) :
    EvF AQ EQ 33 [pv c, .agg (actV a).toArray] A (KPost c lo (setK k a) A) := by
  refine rf_body (fn := Code.a33) rfl ?_
  have hcA : c < A.next := hK.ltN hK.rc (by simp)
  obtain ⟨l0, l1, l2, l3, hl, hc0⟩ := hK.four
  have hB : KR c lo k L ((A.new (.row (actV a) 14 false false)).new (.row [iv a.client, iv a.queue, iv a.tag] 3 false false)) := (hK.keep (Keep.new (own := []) _ _) (by simp)).keep (Keep.new (own := []) _ _) (by simp)
  have hc : ((A.new (.row (actV a) 14 false false)).new (.row [iv a.client, iv a.queue, iv a.tag] 3 false false)).get c = some (.row [.map (some L.mb), .map (some L.ma), L.ov, .map (some L.mh), .map (some L.mo), .map (some L.mc), iv l0, iv l1, iv l2, iv l3] 10 false false) := by
    rw [AHeap.new_lt (by rw [AHeap.new_next]; omega), AHeap.new_lt hcA]; exact hc0
  have hlook : alookup (.agg [.int .i64, .int .i64, .int .i64]) (.pointer none) false (.map (some L.mc)) (.agg #[iv a.client, iv a.queue, iv a.tag]) ((A.new (.row (actV a) 14 false false)).new (.row [iv a.client, iv a.queue, iv a.tag] 3 false false)) = some (ptrO L.ix (k.acks a.tg)) := hB.mC.lookup a.tg
  have ht : rdRow ((A.new (.row (actV a) 14 false false)).new (.row [iv a.client, iv a.queue, iv a.tag] 3 false false)) (A.next + 1) 0 3 = some [iv a.client, iv a.queue, iv a.tag] := rdRow_all AHeap.new_get rfl
  have hbl : Below_ lo A ((A.new (.row (actV a) 14 false false)).new (.row [iv a.client, iv a.queue, iv a.tag] 3 false false)) := (Below_.new _ _ hlo).trans (Below_.new _ _ (by rw [AHeap.new_next]; omega))
  simp only [Code.a33, sxs, sx_label, vxs, AX.then_, AX.inBlock, aexec, Opd.ev, lputO, reduceIte, Nat.reduceEqDiff, addA, Nat.reduceAdd, Option.some.injEq, exists_eq_left', Option.map_some, Option.bind_some, cond_false, cond_true, chkOk, wantedS, goInt, aidx, List.map_cons, List.map_nil, Int.reduceEq, Int.reduceLT, Int.reduceLE, Int.reduceAdd, Int.reduceSub, BEq.rfl, eq_self, reduceCtorEq, hxs, evParts, repL, List.append_nil, notT, vcells, List.cons_append, List.nil_append, List.getElem?_cons_succ, List.getElem?_cons_zero, List.length_cons, List.length_nil, ne_eq, aresults, aresult, tupOf, hc, ht, hlook]
  cases hac : k.acks a.tg with
  | none =>
    have hn : setK k a = none := by rw [setK, hac]
    simp only [sxs, sx_label, vxs, AX.then_, AX.inBlock, aexec, Opd.ev, lputO, reduceIte, Nat.reduceEqDiff, addA, Nat.reduceAdd, Option.some.injEq, exists_eq_left', Option.map_some, Option.bind_some, cond_false, cond_true, chkOk, wantedS, goInt, aidx, List.map_cons, List.map_nil, Int.reduceEq, Int.reduceLT, Int.reduceLE, Int.reduceAdd, Int.reduceSub, BEq.rfl, eq_self, reduceCtorEq, hxs, evParts, repL, List.append_nil, notT, vcells, List.cons_append, List.nil_append, List.getElem?_cons_succ, List.getElem?_cons_zero, List.length_cons, List.length_nil, ne_eq, aresults, aresult, tupOf, ptrO, Option.isNone_none]
    exact ⟨.inr trivial, _, _, rfl, rfl, by rw [hn]; rfl, hbl, fun k' h => (by rw [hn] at h; cases h)⟩
  | some i =>
    have hix : i < k.xs.length := hK.wc _ _ hac
    obtain ⟨x, hx⟩ : ∃ x, k.xs[i]? = some x := ⟨k.xs[i], List.getElem?_eq_getElem hix⟩
    obtain ⟨A3, hdel, hn3, hk3, hm3⟩ := hB.mC.remove a.tg
    have hdel' : adelete (.agg [.int .i64, .int .i64, .int .i64]) (.map (some L.mc)) (.agg #[iv a.client, iv a.queue, iv a.tag]) ((A.new (.row (actV a) 14 false false)).new (.row [iv a.client, iv a.queue, iv a.tag] 3 false false)) = some A3 := hdel
    have hK3 := hB.setC hn3 hk3 (JP.upd k.acks a.tg none) (upd_lt hK.wc (fun i h => by cases h)) (by rw [ptrO_upd]; exact hm3)
    have hx3 := hK3.xs i x hx
    have hwr : wrRow A3 (L.ix i) 8 [bv true] = some (A3.set (L.ix i) (.row (kxV L.ib { x with se := true }) 9 false false)) := by
      rw [wrRow_at hx3 (by simp [kxV])]; rfl
    have hK4 := hK3.setX (i := i) hix { x with se := true } (hK.wx x (List.mem_of_getElem? hx))
    simp only [sxs, sx_label, vxs, AX.then_, AX.inBlock, aexec, Opd.ev, lputO, reduceIte, Nat.reduceEqDiff, addA, Nat.reduceAdd, Option.some.injEq, exists_eq_left', Option.map_some, Option.bind_some, cond_false, cond_true, chkOk, wantedS, goInt, aidx, List.map_cons, List.map_nil, Int.reduceEq, Int.reduceLT, Int.reduceLE, Int.reduceAdd, Int.reduceSub, BEq.rfl, eq_self, reduceCtorEq, hxs, evParts, repL, List.append_nil, notT, vcells, List.cons_append, List.nil_append, List.getElem?_cons_succ, List.getElem?_cons_zero, List.length_cons, List.length_nil, ne_eq, aresults, aresult, tupOf, ptrO, hc, ht, hdel', hwr]
    have hr : setK k a = some { k with acks := JP.upd k.acks a.tg none, xs := k.xs.set i { x with se := true } } := by
      rw [setK, hac]; simp only [set_of_modify _ hx]
    have hlo1 : lo ≤ L.mc := (hK.lt L.mc (by rw [hK.rmc]; simp)).1
    have hlo2 : lo ≤ L.ix i := (hK.lt (L.ix i) (by rw [hK.rix i hix]; simp)).1
    have hlo3 := hbl.1
    refine ⟨.inr trivial, _, _, rfl, rfl, by rw [hr]; rfl, ?_, fun k' h => ?_⟩
    · exact (hbl.trans (Below_.of hk3 (by omega) (by simpa using hlo1))).trans (Below_.of (Keep.set (own := [L.ix i]) _ (.inl (by simp))) (by rw [hn3]; omega) (by simpa using hlo2))
    · rw [hr] at h; cases h; exact ⟨L, hK4⟩

set_option maxRecDepth 10000 in
set_option maxHeartbeats 4000000 in
theorem leaves_spec {c lo : Nat} {k : K} {L : Lay} {a : JP.Act} {A : AHeap} (hK : KR c lo k L A) (hlo : lo ≤ A.next) :
    EvF AQ EQ 32 [pv c, .agg (actV a).toArray] A (KPost c lo (leaK k a) A) := by
  refine rf_body (fn := Code.a32) rfl ?_
  have hcA : c < A.next := hK.ltN hK.rc (by simp)
  obtain ⟨l0, l1, l2, l3, hl, hc0⟩ := hK.four
  have hB : KR c lo k L ((A.new (.row (actV a) 14 false false)).new (.row [iv a.client, iv a.queue, iv a.tag] 3 false false)) := (hK.keep (Keep.new (own := []) _ _) (by simp)).keep (Keep.new (own := []) _ _) (by simp)
  have hc : ((A.new (.row (actV a) 14 false false)).new (.row [iv a.client, iv a.queue, iv a.tag] 3 false false)).get c = some (.row [.map (some L.mb), .map (some L.ma), L.ov, .map (some L.mh), .map (some L.mo), .map (some L.mc), iv l0, iv l1, iv l2, iv l3] 10 false false) := by
    rw [AHeap.new_lt (by rw [AHeap.new_next]; omega), AHeap.new_lt hcA]; exact hc0
  have hb : ((A.new (.row (actV a) 14 false false)).new (.row [iv a.client, iv a.queue, iv a.tag] 3 false false)).get A.next = some (.row (actV a) 14 false false) := by
    rw [AHeap.new_lt (by rw [AHeap.new_next]; omega)]; exact AHeap.new_get
  have hlook : alookup (.agg [.int .i64, .int .i64, .int .i64]) (.pointer none) false (.map (some L.mo)) (.agg #[iv a.client, iv a.queue, iv a.tag]) ((A.new (.row (actV a) 14 false false)).new (.row [iv a.client, iv a.queue, iv a.tag] 3 false false)) = some (ptrO L.ix (k.holds a.tg)) := hB.mO.lookup a.tg
  have ht : rdRow ((A.new (.row (actV a) 14 false false)).new (.row [iv a.client, iv a.queue, iv a.tag] 3 false false)) (A.next + 1) 0 3 = some [iv a.client, iv a.queue, iv a.tag] := rdRow_all AHeap.new_get rfl
  have hbl : Below_ lo A ((A.new (.row (actV a) 14 false false)).new (.row [iv a.client, iv a.queue, iv a.tag] 3 false false)) := (Below_.new _ _ hlo).trans (Below_.new _ _ (by rw [AHeap.new_next]; omega))
  have hnx : ((A.new (.row (actV a) 14 false false)).new (.row [iv a.client, iv a.queue, iv a.tag] 3 false false)).next = A.next + 2 := rfl
  simp only [Code.a32, sxs, sx_label, vxs, AX.then_, AX.inBlock, aexec, Opd.ev, lputO, reduceIte, Nat.reduceEqDiff, addA, Nat.reduceAdd, Option.some.injEq, exists_eq_left', Option.map_some, Option.bind_some, cond_false, cond_true, chkOk, wantedS, goInt, aidx, List.map_cons, List.map_nil, Int.reduceEq, Int.reduceLT, Int.reduceLE, Int.reduceAdd, Int.reduceSub, BEq.rfl, eq_self, reduceCtorEq, hxs, evParts, repL, List.append_nil, notT, vcells, List.cons_append, List.nil_append, List.getElem?_cons_succ, List.getElem?_cons_zero, List.length_cons, List.length_nil, ne_eq, aresults, aresult, tupOf, hc, ht, hlook]
  cases hac : k.holds a.tg with
  | none =>
    have hn : leaK k a = none := by rw [leaK, hac]
    simp only [sxs, sx_label, vxs, AX.then_, AX.inBlock, aexec, Opd.ev, lputO, reduceIte, Nat.reduceEqDiff, addA, Nat.reduceAdd, Option.some.injEq, exists_eq_left', Option.map_some, Option.bind_some, cond_false, cond_true, chkOk, wantedS, goInt, aidx, List.map_cons, List.map_nil, Int.reduceEq, Int.reduceLT, Int.reduceLE, Int.reduceAdd, Int.reduceSub, BEq.rfl, eq_self, reduceCtorEq, hxs, evParts, repL, List.append_nil, notT, vcells, List.cons_append, List.nil_append, List.getElem?_cons_succ, List.getElem?_cons_zero, List.length_cons, List.length_nil, ne_eq, aresults, aresult, tupOf, ptrO, Option.isNone_none]
    exact ⟨.inr trivial, _, _, rfl, rfl, by rw [hn]; rfl, hbl, fun k' h => (by rw [hn] at h; cases h)⟩
  | some i =>
    have hix : i < k.xs.length := hK.wo _ _ hac
    obtain ⟨x, hx⟩ : ∃ x, k.xs[i]? = some x := ⟨k.xs[i], List.getElem?_eq_getElem hix⟩
    obtain ⟨B, hBe⟩ : ∃ B, B = (A.new (.row (actV a) 14 false false)).new (.row [iv a.client, iv a.queue, iv a.tag] 3 false false) := ⟨_, rfl⟩
    simp only [sxs, sx_label, vxs, AX.then_, AX.inBlock, aexec, Opd.ev, lputO, reduceIte, Nat.reduceEqDiff, addA, Nat.reduceAdd, Option.some.injEq, exists_eq_left', Option.map_some, Option.bind_some, cond_false, cond_true, chkOk, wantedS, goInt, aidx, List.map_cons, List.map_nil, Int.reduceEq, Int.reduceLT, Int.reduceLE, Int.reduceAdd, Int.reduceSub, BEq.rfl, eq_self, reduceCtorEq, hxs, evParts, repL, List.append_nil, notT, vcells, List.cons_append, List.nil_append, List.getElem?_cons_succ, List.getElem?_cons_zero, List.length_cons, List.length_nil, ne_eq, aresults, aresult, tupOf, ptrO, hc, ht]
    rw [← hBe] at hB hc hb ht hbl hnx ⊢
    obtain ⟨A3, hdel, hn3, hk3, hm3⟩ := hB.mO.remove a.tg
    have hdel' : adelete (.agg [.int .i64, .int .i64, .int .i64]) (.map (some L.mo)) (.agg #[iv a.client, iv a.queue, iv a.tag]) B = some A3 := hdel
    have hK3 := hB.setO hn3 hk3 (JP.upd k.holds a.tg none) (upd_lt hK.wo (fun i h => by cases h)) (by rw [ptrO_upd]; exact hm3)
    have hmoA : L.mo < A.next := hK.ltN hK.rmo (by simp)
    have hmhA : L.mh < A.next := hK.ltN hK.rmh (by simp)
    have hb3 : A3.get A.next = some (.row (actV a) 14 false false) := (hk3.get A.next (by omega) (by simp; omega)).trans hb
    have ht3 : A3.get (A.next + 1) = B.get (A.next + 1) := hk3.get _ (by omega) (by simp; omega)
    have hx3 := hK3.xs i x hx
    obtain ⟨_, _, _, _, _, hc3⟩ := hK3.four
    have hx2 : (kxV L.ib x)[2]? = some (sv x.key) := rfl
    obtain ⟨A4, hdel4, hn4, hk4, hm4⟩ := hK3.mH.remove (a.queue, x.key)
    have hdel4' : adelete (.agg [.int .i64, .str]) (.map (some L.mh)) (.agg #[iv a.queue, sv x.key]) A3 = some A4 := hdel4
    have hK4 := hK3.setH hn4 hk4 (JP.upd k.held (a.queue, x.key) false) (by rw [bv_upd]; exact hm4)
    have hb4 : A4.get A.next = some (.row (actV a) 14 false false) := (hk4.get A.next (by omega) (by simp; omega)).trans hb3
    have ht4 : A4.get (A.next + 1) = B.get (A.next + 1) := (hk4.get _ (by omega) (by simp; omega)).trans ht3
    simp only [sxs, sx_label, vxs, AX.then_, AX.inBlock, aexec, Opd.ev, lputO, reduceIte, Nat.reduceEqDiff, addA, Nat.reduceAdd, Option.some.injEq, exists_eq_left', Option.map_some, Option.bind_some, cond_false, cond_true, chkOk, wantedS, goInt, aidx, List.map_cons, List.map_nil, Int.reduceEq, Int.reduceLT, Int.reduceLE, Int.reduceAdd, Int.reduceSub, BEq.rfl, eq_self, reduceCtorEq, hxs, evParts, repL, List.append_nil, notT, vcells, List.cons_append, List.nil_append, List.getElem?_cons_succ, List.getElem?_cons_zero, List.length_cons, List.length_nil, ne_eq, aresults, aresult, tupOf, ptrO, hc, ht, hdel', hb3, hx3, hc3, hx2, hdel4', hb4]
    have hlo1 : lo ≤ L.mo := (hK.lt L.mo (by rw [hK.rmo]; simp)).1
    have hlo2 : lo ≤ L.ix i := (hK.lt (L.ix i) (by rw [hK.rix i hix]; simp)).1
    have hlo4 : lo ≤ L.mh := (hK.lt L.mh (by rw [hK.rmh]; simp)).1
    have hlo5 : lo ≤ L.mc := (hK.lt L.mc (by rw [hK.rmc]; simp)).1
    have hbl4 : Below_ lo A A4 := (hbl.trans (Below_.of hk3 (by omega) (by simpa using hlo1))).trans (Below_.of hk4 (by omega) (by simpa using hlo4))
    rcases (Classical.em (a.kind = 5)).symm with d | d
    · simp only [sxs, sx_label, vxs, AX.then_, AX.inBlock, aexec, Opd.ev, lputO, reduceIte, Nat.reduceEqDiff, addA, Nat.reduceAdd, Option.some.injEq, exists_eq_left', Option.map_some, Option.bind_some, cond_false, cond_true, chkOk, wantedS, goInt, aidx, List.map_cons, List.map_nil, Int.reduceEq, Int.reduceLT, Int.reduceLE, Int.reduceAdd, Int.reduceSub, BEq.rfl, eq_self, reduceCtorEq, hxs, evParts, repL, List.append_nil, notT, vcells, List.cons_append, List.nil_append, List.getElem?_cons_succ, List.getElem?_cons_zero, List.length_cons, List.length_nil, ne_eq, aresults, aresult, tupOf, d]
      have hr : leaK k a = some { k with holds := JP.upd k.holds a.tg none, held := JP.upd k.held (a.queue, x.key) false } := by
        rw [leaK, hac]; simp only [hx, if_neg d]
      exact ⟨.inr trivial, _, _, rfl, rfl, by rw [hr]; rfl, hbl4, fun k' h => by rw [hr] at h; cases h; exact ⟨L, hK4⟩⟩
    · have hx4 := hK4.xs i x hx
      have hwr : wrRow A4 (L.ix i) 7 [bv true] = some (A4.set (L.ix i) (.row (kxV L.ib { x with ak := true }) 9 false false)) := by
        rw [wrRow_at hx4 (by simp [kxV])]; rfl
      have hK5 := hK4.setX (i := i) hix { x with ak := true } (hK.wx x (List.mem_of_getElem? hx))
      have hk5 : Keep [L.ix i] A4 (A4.set (L.ix i) (.row (kxV L.ib { x with ak := true }) 9 false false)) := Keep.set _ (.inl (by simp))
      obtain ⟨A5, hA5⟩ : ∃ A5, A5 = A4.set (L.ix i) (.row (kxV L.ib { x with ak := true }) 9 false false) := ⟨_, rfl⟩
      have hn5 : A5.next = A4.next := by rw [hA5]; rfl
      rw [← hA5] at hwr hK5 hk5
      obtain ⟨_, _, _, _, _, hc4⟩ := hK4.four
      have hixA : L.ix i < A.next := hK.ltN (hK.rix i hix) (by simp)
      have ht5 : rdRow A5 (A.next + 1) 0 3 = some [iv a.client, iv a.queue, iv a.tag] := by
        rw [show rdRow A5 (A.next + 1) 0 3 = rdRow B (A.next + 1) 0 3 by simp only [rdRow, hk5.get (A.next + 1) (by omega) (by simp; omega), ht4]]; exact ht
      have ht4' : rdRow A4 (A.next + 1) 0 3 = some [iv a.client, iv a.queue, iv a.tag] := by
        rw [show rdRow A4 (A.next + 1) 0 3 = rdRow B (A.next + 1) 0 3 by simp only [rdRow, ht4]]; exact ht
      obtain ⟨n, A6, hent, hn6, hk6, hm6, hst⟩ := hK5.mC.entry a.tg
      have hent' : amapEnt (.agg [.int .i64, .int .i64, .int .i64]) (.pointer none) (.map (some L.mc)) (.agg #[iv a.client, iv a.queue, iv a.tag]) A5 = some (.tuple #[ptrO L.ix (k.acks a.tg), goInt n], A6) := hent
      obtain ⟨A7, hst7, hn7, hk7, hm7⟩ := hst A6 (pv (L.ix i)) rfl rfl
      have hst7' : aentSt (.agg [.int .i64, .int .i64, .int .i64]) (.map (some L.mc)) (.int .i64 n) (pv (L.ix i)) A6 = some A7 := hst7
      have hK7 := hK5.setC (A' := A7) (by omega) (hk6.trans hk7 (fun _ _ h => h)) (JP.upd k.acks a.tg (some i)) (upd_lt (by simpa using hK.wc) (fun i h => by cases h; simpa using hix)) (by rw [ptrO_upd]; exact hm7)
      simp only [sxs, sx_label, vxs, AX.then_, AX.inBlock, aexec, Opd.ev, lputO, reduceIte, Nat.reduceEqDiff, addA, Nat.reduceAdd, Option.some.injEq, exists_eq_left', Option.map_some, Option.bind_some, cond_false, cond_true, chkOk, wantedS, goInt, aidx, List.map_cons, List.map_nil, Int.reduceEq, Int.reduceLT, Int.reduceLE, Int.reduceAdd, Int.reduceSub, BEq.rfl, eq_self, reduceCtorEq, hxs, evParts, repL, List.append_nil, notT, vcells, List.cons_append, List.nil_append, List.getElem?_cons_succ, List.getElem?_cons_zero, List.length_cons, List.length_nil, ne_eq, aresults, aresult, tupOf, d, hc4, hwr, ht5, ht4', valEq, valEqs, valEq1, hent', hst7']
      have hr : leaK k a = some { k with holds := JP.upd k.holds a.tg none, held := JP.upd k.held (a.queue, x.key) false, xs := k.xs.set i { x with ak := true }, acks := JP.upd k.acks a.tg (some i) } := by
        rw [leaK, hac]; simp only [hx, if_pos d, set_of_modify _ hx]
      refine ⟨.inr trivial, _, _, rfl, rfl, by rw [hr]; rfl, ?_, fun k' h => by rw [hr] at h; cases h; exact ⟨L, hK7⟩⟩
      exact ((hbl4.trans (Below_.of hk5 (by omega) (by simpa using hlo2))).trans (Below_.of hk6 (by omega) (by simpa using hlo5))).trans (Below_.of hk7 (by omega) (by simpa using hlo5))
end Go.Proofs.YtiimkdijiddjcaaDoor
