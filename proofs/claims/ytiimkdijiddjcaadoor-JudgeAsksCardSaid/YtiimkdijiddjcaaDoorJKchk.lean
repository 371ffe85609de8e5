/- The judge on the abstract machine: a new court, the acts one by one, the number of the first wrong one. -/
import Derived.Test.YtiimkdijiddjcaaDoorJKrig
import Derived.Test.YtiimkdijiddjcaaDoorJRopn
set_option linter.unusedSimpArgs false
namespace Go.Proofs.YtiimkdijiddjcaaDoor
set_option linter.unusedSimpArgs false
set_option linter.unusedVariables false
set_option linter.unusedSectionVars false
set_option linter.defProp false
open Go Go.Abs JP

theorem Acts.below {A A' : AHeap} {v : Value} {l : List JP.Act} (h : Acts A v l) (hk : Below_ A.next A A') : Acts A' v l := by
  obtain ⟨a, c, rfl, h2⟩ := h
  refine ⟨a, c, rfl, fun i x hx => ?_⟩
  obtain ⟨r, off, cs, sz, ro, o, h3, h4, h5, h6, h7⟩ := h2 i x hx
  exact ⟨r, off, cs, sz, ro, o, h3, Nat.lt_of_lt_of_le h4 hk.1, (hk.2 r h4).trans h5, h6, h7⟩
theorem Below_.keep {A A' : AHeap} (h : Below_ A.next A A') : Keep [] A A' := ⟨h.1, fun id hi _ => h.2 id hi⟩

theorem fill_crt (a b c d e : Nat) : fillL [.map none, .map none, .slice none 0 0, .map none, .map none, .map none, iv 0, iv 0, iv 0, iv 0] [(0, 1, .map (some a)), (1, 1, .map (some b)), (3, 1, .map (some c)), (4, 1, .map (some d)), (5, 1, .map (some e))] = some [.map (some a), .map (some b), .slice none 0 0, .map (some c), .map (some d), .map (some e), iv 0, iv 0, iv 0, iv 0] := rfl

def role0 (n : Nat) : Nat → Role := fun id => if id = n then .mB else if id = n + 1 then .mA else if id = n + 2 then .mH else if id = n + 3 then .mO else if id = n + 4 then .mC else if id = n + 5 then .crt else .no
def lay0 (n : Nat) : Lay := ⟨role0 n, n, n + 1, n + 2, n + 3, n + 4, fun _ => .slice none 0 0, fun _ => .slice none 0 0, .slice none 0 0, fun _ => 0, fun _ => 0⟩

set_option maxRecDepth 10000 in
theorem newCourt_spec (A : AHeap) : EvF AQ EQ 20 [] A (fun v A' => ∃ c L, v = pv c ∧ KR c A.next K.start L A' ∧ Keep [] A A') := by
  refine rf_body (fn := Code.a20) rfl ?_
  simp only [Code.a20, sxs, sx_label, vxs, AX.then_, AX.inBlock, aexec, Opd.ev, lputO, reduceIte, Nat.reduceEqDiff, addA, Nat.reduceAdd, Option.some.injEq, exists_eq_left', Option.map_some, Option.bind_some, cond_false, cond_true, chkOk, wantedS, goInt, aidx, List.map_cons, List.map_nil, Int.reduceEq, Int.reduceLT, Int.reduceLE, Int.reduceAdd, Int.reduceSub, BEq.rfl, eq_self, reduceCtorEq, hxs, evParts, repL, List.append_nil, notT, vcells, List.cons_append, List.nil_append, List.getElem?_cons_succ, List.getElem?_cons_zero, List.length_cons, List.length_nil, ne_eq, aresults, aresult, tupOf, fill_crt]
  refine ⟨.inr trivial, _, _, rfl, rfl, A.next + 5, lay0 A.next, rfl, ?_, ?_⟩
  · obtain ⟨A1, h1⟩ : ∃ B, B = A.new (.map (.agg [.int .i64, .int .i64, .str]) [] 0) := ⟨_, rfl⟩
    obtain ⟨A2, h2⟩ : ∃ B, B = A1.new (.map (.agg [.int .i64, .int .i64, .str]) [] 0) := ⟨_, rfl⟩
    obtain ⟨A3, h3⟩ : ∃ B, B = A2.new (.map (.agg [.int .i64, .str]) [] 0) := ⟨_, rfl⟩
    obtain ⟨A4, h4⟩ : ∃ B, B = A3.new (.map (.agg [.int .i64, .int .i64, .int .i64]) [] 0) := ⟨_, rfl⟩
    obtain ⟨A5, h5⟩ : ∃ B, B = A4.new (.map (.agg [.int .i64, .int .i64, .int .i64]) [] 0) := ⟨_, rfl⟩
    obtain ⟨A6, h6⟩ : ∃ B, B = A5.new (.row [.map (some A.next), .map (some (A.next + 1)), .slice none 0 0, .map (some (A.next + 2)), .map (some (A.next + 3)), .map (some (A.next + 4)), iv 0, iv 0, iv 0, iv 0] 10 false false) := ⟨_, rfl⟩
    have n1 : A1.next = A.next + 1 := by rw [h1]; rfl
    have n2 : A2.next = A.next + 2 := by rw [h2, AHeap.new_next, n1]
    have n3 : A3.next = A.next + 3 := by rw [h3, AHeap.new_next, n2]
    have n4 : A4.next = A.next + 4 := by rw [h4, AHeap.new_next, n3]
    have n5 : A5.next = A.next + 5 := by rw [h5, AHeap.new_next, n4]
    have n6 : A6.next = A.next + 6 := by rw [h6, AHeap.new_next, n5]
    rw [← h1, ← h2, ← h3, ← h4, ← h5, ← h6]
    have m1 : MapFn (κ := Line) A1 A.next (.slice none 0 0) (fun _ => .slice none 0 0) := by rw [h1]; exact MapFn.new (κ := Line) A _
    have m2 : MapFn (κ := Line) A2 (A.next + 1) (.slice none 0 0) (fun _ => .slice none 0 0) := by rw [h2, ← n1]; exact MapFn.new (κ := Line) A1 _
    have m3 : MapFn (κ := Lock) A3 (A.next + 2) (bv false) (fun _ => bv false) := by rw [h3, ← n2]; exact MapFn.new (κ := Lock) A2 _
    have m4 : MapFn (κ := Tg) A4 (A.next + 3) (.pointer none) (fun _ => .pointer none) := by rw [h4, ← n3]; exact MapFn.new (κ := Tg) A3 _
    have m5 : MapFn (κ := Tg) A5 (A.next + 4) (.pointer none) (fun _ => .pointer none) := by rw [h5, ← n4]; exact MapFn.new (κ := Tg) A4 _
    have k2 : Keep [] A1 A2 := by rw [h2]; exact Keep.new _ _
    have k3 : Keep [] A2 A3 := by rw [h3]; exact Keep.new _ _
    have k4 : Keep [] A3 A4 := by rw [h4]; exact Keep.new _ _
    have k5 : Keep [] A4 A5 := by rw [h5]; exact Keep.new _ _
    have k6 : Keep [] A5 A6 := by rw [h6]; exact Keep.new _ _
    have hrno : ∀ id, role0 A.next id ≠ .no → A.next ≤ id ∧ id < A.next + 6 := by
      intro id h
      unfold role0 at h
      by_cases e : A.next ≤ id ∧ id < A.next + 6
      · exact e
      · exfalso; apply h
        rw [if_neg (by omega), if_neg (by omega), if_neg (by omega), if_neg (by omega), if_neg (by omega), if_neg (by omega)]
    refine { last := rfl, crt := ?_, ord := .nil, bs := ?_, xs := ?_, mB := ?_, mA := ?_, sB := fun _ => .nil, sA := fun _ => .nil, mH := ?_, mO := ?_, mC := ?_, rc := ?_, rmb := ?_, rma := ?_, rmh := ?_, rmo := ?_, rmc := ?_, rov := ?_, rvb := ?_, rva := ?_, rib := ?_, rix := ?_, lt := ?_, wb := ?_, wa := ?_, wx := ?_, wo := ?_, wc := ?_ }
    · rw [← n5, h6]; exact AHeap.new_get
    · intro i b h; simp [K.start] at h
    · intro i b h; simp [K.start] at h
    · exact ((((m1.keep k2 (by omega) (by simp)).keep k3 (by omega) (by simp)).keep k4 (by omega) (by simp)).keep k5 (by omega) (by simp)).keep k6 (by omega) (by simp)
    · exact (((m2.keep k3 (by omega) (by simp)).keep k4 (by omega) (by simp)).keep k5 (by omega) (by simp)).keep k6 (by omega) (by simp)
    · exact ((m3.keep k4 (by omega) (by simp)).keep k5 (by omega) (by simp)).keep k6 (by omega) (by simp)
    · exact (m4.keep k5 (by omega) (by simp)).keep k6 (by omega) (by simp)
    · exact m5.keep k6 (by omega) (by simp)
    · simp [lay0, role0]
    · simp [lay0, role0]
    · simp [lay0, role0]
    · simp [lay0, role0]
    · simp [lay0, role0]
    · simp [lay0, role0]
    · intro r hr; simp [lay0, rowL] at hr
    · intro l r hr; simp [lay0, rowL] at hr
    · intro l r hr; simp [lay0, rowL] at hr
    · intro i hi; simp [K.start] at hi
    · intro i hi; simp [K.start] at hi
    · intro id hi; rw [n6]; exact hrno id hi
    · intro l i hi; simp [K.start] at hi
    · intro l i hi; simp [K.start] at hi
    · intro x hx; simp [K.start] at hx
    · intro t i hi; simp [K.start] at hi
    · intro t i hi; simp [K.start] at hi
  · exact (((((Keep.new (own := []) _ _).trans (Keep.new (own := []) _ _) (by simp)).trans (Keep.new (own := []) _ _) (by simp)).trans (Keep.new (own := []) _ _) (by simp)).trans (Keep.new (own := []) _ _) (by simp)).trans (Keep.new (own := []) _ _) (by simp)

def resK (r : K ⊕ Nat) : Int := match r with
  | .inl _ => 0
  | .inr i => i

set_option maxRecDepth 10000 in
set_option maxHeartbeats 4000000 in
theorem hear_spec {c : Nat} {L : Lay} {v : Value} {l : List JP.Act} {A0 A : AHeap} (hK : KR c A0.next K.start L A) (hl0 : Acts A0 v l) (hA : Below_ A0.next A0 A) (hn : l.length ≤ 100) (hsh : Short l) :
    EvF AQ EQ 21 [pv c, v] A (fun u A' => u = iv (resK (runK K.start l 0)) ∧ Below_ A0.next A0 A' ∧ ∀ k', runK K.start l 0 = .inl k' → ∃ L, KR c A0.next k' L A') := by
  refine rf_body (fn := Code.a21) rfl ?_
  simp only [Code.a21, sxs, vxs, AX.then_, AX.inBlock, aexec, Opd.ev, lputO, reduceIte, Nat.reduceEqDiff, addA, Nat.reduceAdd, Option.some.injEq, exists_eq_left', Option.map_some, Option.bind_some, cond_false, cond_true, chkOk, wantedS, goInt, aidx, List.map_cons, List.map_nil, Int.reduceEq, Int.reduceLT, Int.reduceLE, Int.reduceAdd, Int.reduceSub, BEq.rfl, eq_self, reduceCtorEq, hxs, evParts, repL, List.append_nil, notT, vcells, List.cons_append, List.nil_append, List.getElem?_cons_succ, List.getElem?_cons_zero, List.length_cons, List.length_nil, ne_eq, aresults, aresult, tupOf]
  apply sx_scopeS
  simp only [sxs, vxs, AX.then_, AX.inBlock, aexec, Opd.ev, lputO, reduceIte, Nat.reduceEqDiff, addA, Nat.reduceAdd, Option.some.injEq, exists_eq_left', Option.map_some, Option.bind_some, cond_false, cond_true, chkOk, wantedS, goInt, aidx, List.map_cons, List.map_nil, Int.reduceEq, Int.reduceLT, Int.reduceLE, Int.reduceAdd, Int.reduceSub, BEq.rfl, eq_self, reduceCtorEq, hxs, evParts, repL, List.append_nil, notT, vcells, List.cons_append, List.nil_append, List.getElem?_cons_succ, List.getElem?_cons_zero, List.length_cons, List.length_nil, ne_eq, aresults, aresult, tupOf]
  rw [sx_label]
  simp only [AX.then_]
  refine rs_tail (l := 0) rfl (fun m fr A' => ∃ pre suf k L, l = pre ++ suf ∧ suf.length = m ∧ runK K.start l 0 = runK k suf pre.length ∧ KW pre.length k ∧ KR c A0.next k L A' ∧
    lget fr 0 = pv c ∧ lget fr 1 = v ∧ lget fr 5 = iv pre.length ∧ Below_ A0.next A0 A') ?_ l.length ?_
  · rintro m fr A1 ⟨pre, suf, k, M, hw, hm, hrun, hkw, hKi, h0, h1, h5, hb⟩
    have hl1 := hl0.below hb
    obtain ⟨a, cp, hv, _⟩ := hl1.shape
    subst hv
    cases suf with
    | nil =>
      have e : ¬ ((pre.length : Int) < l.length) := by rw [hw]; simp
      simp only [sxs, vxs, AX.then_, AX.inBlock, aexec, Opd.ev, lputO, reduceIte, Nat.reduceEqDiff, addA, Nat.reduceAdd, Option.some.injEq, exists_eq_left', Option.map_some, Option.bind_some, cond_false, cond_true, chkOk, wantedS, goInt, aidx, List.map_cons, List.map_nil, Int.reduceEq, Int.reduceLT, Int.reduceLE, Int.reduceAdd, Int.reduceSub, BEq.rfl, eq_self, reduceCtorEq, hxs, evParts, repL, List.append_nil, notT, vcells, List.cons_append, List.nil_append, List.getElem?_cons_succ, List.getElem?_cons_zero, List.length_cons, List.length_nil, ne_eq, aresults, aresult, tupOf, h0, h1, h5, e, AX.back]
      exact ⟨.inr trivial, _, _, rfl, rfl, by rw [hrun]; rfl, hb, fun k' h => by rw [hrun] at h; cases h; exact ⟨M, hKi⟩⟩
    | cons x suf =>
      have hpl : l.length = pre.length + (suf.length + 1) := by rw [hw]; simp
      have e : ((pre.length : Int) < l.length) := by omega
      have hp : l[pre.length]? = some x := by rw [hw]; simp
      obtain ⟨r, off, rfl, hrl, hrd⟩ := hl1.at hp
      have w0 : IntKind.i64.wrap (pre.length + 1) = ((pre ++ [x]).length : Int) := by rw [i64_add (by omega) (by omega)]; simp
      simp only [sxs, vxs, AX.then_, AX.inBlock, aexec, Opd.ev, lputO, reduceIte, Nat.reduceEqDiff, addA, Nat.reduceAdd, Option.some.injEq, exists_eq_left', Option.map_some, Option.bind_some, cond_false, cond_true, chkOk, wantedS, goInt, aidx, List.map_cons, List.map_nil, Int.reduceEq, Int.reduceLT, Int.reduceLE, Int.reduceAdd, Int.reduceSub, BEq.rfl, eq_self, reduceCtorEq, hxs, evParts, repL, List.append_nil, notT, vcells, List.cons_append, List.nil_append, List.getElem?_cons_succ, List.getElem?_cons_zero, List.length_cons, List.length_nil, ne_eq, aresults, aresult, tupOf, h0, h1, h5, e, hrd]
      refine RF_use (right_spec hKi hb.1 hkw (by omega) (hsh x (by rw [hw]; simp))) ?_
      rintro u A2 ⟨rfl, hb2, hK2⟩
      have hb3 : Below_ A0.next A0 A2 := hb.trans hb2
      cases hadd : addK k x with
      | none =>
        simp only [sxs, vxs, AX.then_, AX.inBlock, aexec, Opd.ev, lputO, reduceIte, Nat.reduceEqDiff, addA, Nat.reduceAdd, Option.some.injEq, exists_eq_left', Option.map_some, Option.bind_some, cond_false, cond_true, chkOk, wantedS, goInt, aidx, List.map_cons, List.map_nil, Int.reduceEq, Int.reduceLT, Int.reduceLE, Int.reduceAdd, Int.reduceSub, BEq.rfl, eq_self, reduceCtorEq, hxs, evParts, repL, List.append_nil, notT, vcells, List.cons_append, List.nil_append, List.getElem?_cons_succ, List.getElem?_cons_zero, List.length_cons, List.length_nil, ne_eq, aresults, aresult, tupOf, h0, h1, h5, e, hrd, w0, Option.isSome_none, AX.back]
        refine ⟨.inr trivial, _, _, rfl, rfl, ?_, hb3, fun k' h => ?_⟩
        · rw [hrun]; simp [runK, hadd, resK]
        · rw [hrun] at h; simp [runK, hadd] at h
      | some k2 =>
        simp only [sxs, vxs, AX.then_, AX.inBlock, aexec, Opd.ev, lputO, reduceIte, Nat.reduceEqDiff, addA, Nat.reduceAdd, Option.some.injEq, exists_eq_left', Option.map_some, Option.bind_some, cond_false, cond_true, chkOk, wantedS, goInt, aidx, List.map_cons, List.map_nil, Int.reduceEq, Int.reduceLT, Int.reduceLE, Int.reduceAdd, Int.reduceSub, BEq.rfl, eq_self, reduceCtorEq, hxs, evParts, repL, List.append_nil, notT, vcells, List.cons_append, List.nil_append, List.getElem?_cons_succ, List.getElem?_cons_zero, List.length_cons, List.length_nil, ne_eq, aresults, aresult, tupOf, h0, h1, h5, e, hrd, w0, Option.isSome_some, AX.back]
        obtain ⟨M2, hK3⟩ := hK2 k2 hadd
        refine ⟨suf.length, by simp at hm; omega, pre ++ [x], suf, k2, M2, by simp [hw], rfl, ?_, by simpa using addK_kw hkw hadd, hK3, rfl, hb3⟩
        rw [hrun]; simp [runK, hadd]
  · exact ⟨[], l, K.start, L, rfl, rfl, rfl, ⟨fun _ => by simp [K.start], fun _ => by simp [K.start], by simp [K.start]⟩, hK, rfl, rfl, rfl, hA⟩

set_option maxRecDepth 10000 in
theorem checkK_spec {v : Value} {l : List JP.Act} {A : AHeap} (hl : Acts A v l) (hn : l.length ≤ 100) (hsh : Short l) :
    EvF AQ EQ 12 [v] A (fun u A' => u = iv (resK (runK K.start l 0)) ∧ Keep [] A A') := by
  refine rf_body (fn := Code.a12) rfl ?_
  simp only [Code.a12, sxs, sx_label, vxs, AX.then_, AX.inBlock, aexec, Opd.ev, lputO, reduceIte, Nat.reduceEqDiff, addA, Nat.reduceAdd, Option.some.injEq, exists_eq_left', Option.map_some, Option.bind_some, cond_false, cond_true, chkOk, wantedS, goInt, aidx, List.map_cons, List.map_nil, Int.reduceEq, Int.reduceLT, Int.reduceLE, Int.reduceAdd, Int.reduceSub, BEq.rfl, eq_self, reduceCtorEq, hxs, evParts, repL, List.append_nil, notT, vcells, List.cons_append, List.nil_append, List.getElem?_cons_succ, List.getElem?_cons_zero, List.length_cons, List.length_nil, ne_eq, aresults, aresult, tupOf]
  refine RF_use (newCourt_spec A) ?_
  rintro u A1 ⟨c, L, rfl, hK, hk⟩
  simp only [sxs, sx_label, vxs, AX.then_, AX.inBlock, aexec, Opd.ev, lputO, reduceIte, Nat.reduceEqDiff, addA, Nat.reduceAdd, Option.some.injEq, exists_eq_left', Option.map_some, Option.bind_some, cond_false, cond_true, chkOk, wantedS, goInt, aidx, List.map_cons, List.map_nil, Int.reduceEq, Int.reduceLT, Int.reduceLE, Int.reduceAdd, Int.reduceSub, BEq.rfl, eq_self, reduceCtorEq, hxs, evParts, repL, List.append_nil, notT, vcells, List.cons_append, List.nil_append, List.getElem?_cons_succ, List.getElem?_cons_zero, List.length_cons, List.length_nil, ne_eq, aresults, aresult, tupOf]
  refine RF_use (hear_spec hK hl ⟨hk.next, fun id hi => hk.get id hi (by simp)⟩ hn hsh) ?_
  rintro u A2 ⟨rfl, hb, _⟩
  simp only [sxs, sx_label, vxs, AX.then_, AX.inBlock, aexec, Opd.ev, lputO, reduceIte, Nat.reduceEqDiff, addA, Nat.reduceAdd, Option.some.injEq, exists_eq_left', Option.map_some, Option.bind_some, cond_false, cond_true, chkOk, wantedS, goInt, aidx, List.map_cons, List.map_nil, Int.reduceEq, Int.reduceLT, Int.reduceLE, Int.reduceAdd, Int.reduceSub, BEq.rfl, eq_self, reduceCtorEq, hxs, evParts, repL, List.append_nil, notT, vcells, List.cons_append, List.nil_append, List.getElem?_cons_succ, List.getElem?_cons_zero, List.length_cons, List.length_nil, ne_eq, aresults, aresult, tupOf]
  exact ⟨.inr trivial, _, _, rfl, rfl, rfl, hb.keep⟩
end Go.Proofs.YtiimkdijiddjcaaDoor
