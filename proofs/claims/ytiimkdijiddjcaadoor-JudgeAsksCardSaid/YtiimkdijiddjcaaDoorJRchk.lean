/- The document's judge on the abstract machine: the number of the first wrong act; what is open. -/
import Derived.Test.YtiimkdijiddjcaaDoorJRwf
set_option linter.unusedSimpArgs false
namespace Go.Proofs.YtiimkdijiddjcaaDoor
set_option linter.unusedSimpArgs false
set_option linter.unusedVariables false
set_option linter.unusedSectionVars false
set_option linter.defProp false
open Go Go.Abs JP

/-- acts that stand one behind the other -/
structure Acts (A : AHeap) (v : Value) (l : List JP.Act) : Prop where
  shape : ∃ a c, v = .slice a l.length c ∧ ∀ i x, l[i]? = some x → ∃ r off cs sz ro o, a = some ⟨r, off, none⟩ ∧ r < A.next ∧ A.get r = some (.row cs sz ro o) ∧ off + i * 14 + 14 ≤ cs.length ∧ (cs.drop (off + i * 14)).take 14 = actV x
theorem Acts.keep {A A' : AHeap} {v : Value} {l : List JP.Act} {own : List Nat} (h : Acts A v l) (hk : Keep own A A') (hd : ∀ r ∈ rowL v, r ∉ own) : Acts A' v l := by
  obtain ⟨a, c, rfl, h2⟩ := h
  refine ⟨a, c, rfl, fun i x hx => ?_⟩
  obtain ⟨r, off, cs, sz, ro, o, h3, h4, h5, h6, h7⟩ := h2 i x hx
  exact ⟨r, off, cs, sz, ro, o, h3, Nat.lt_of_lt_of_le h4 hk.next, (hk.get r h4 (hd r (by rw [h3]; simp [rowL]))).trans h5, h6, h7⟩
theorem Acts.at {A : AHeap} {a : Option Addr} {n c : Nat} {l : List JP.Act} (h : Acts A (.slice a n c) l) {i : Nat} {x : JP.Act} (hx : l[i]? = some x) :
    ∃ r off, a = some ⟨r, off, none⟩ ∧ r < A.next ∧ rdRow A r (off + i * 14) 14 = some (actV x) := by
  obtain ⟨a', c', h1, h2⟩ := h
  cases h1
  obtain ⟨r, off, cs, sz, ro, o, h3, h4, h5, h6, h7⟩ := h2 i x hx
  exact ⟨r, off, h3, h4, by rw [rdRow_at h5 h6, h7]⟩

def resS (r : St ⊕ Nat) : Int := match r with
  | .inl _ => 0
  | .inr i => i
def openL (r : St ⊕ Nat) : List Seen := match r with
  | .inl s => openS s
  | .inr _ => []
/-- bodies are short -/
def Short (l : List JP.Act) : Prop := ∀ a ∈ l, a.body.size ≤ 1000000

def nilJ : List Value := [.slice none 0 0, .slice none 0 0, .slice none 0 0, iv 0, iv 0, iv 0, iv 0, .slice none 0 0]
theorem fill_J : fillL [.slice none 0 0, .slice none 0 0, .slice none 0 0, iv 0, iv 0, iv 0, iv 0, .slice none 0 0] [] = some nilJ := rfl
theorem JR_start (A : AHeap) : JR A.next (.slice none 0 0) (.slice none 0 0) (.slice none 0 0) St.start (A.new (.row nilJ 8 false false)) :=
  ⟨rfl, AHeap.new_get, .nil, .nil, .nil, by simp [rowL], by simp [rowL, AHeap.new_next]⟩

set_option maxRecDepth 10000 in
set_option maxHeartbeats 4000000 in
theorem check_spec {v : Value} {l : List JP.Act} {A : AHeap} (hl : Acts A v l) (hn : l.length ≤ 100) (hsh : Short l) :
    EvF AQ EQ 13 [v] A (fun u A' => u = iv (resS (runS St.start l 0)) ∧ Keep [] A A') := by
  refine rf_body (fn := Code.a13) rfl ?_
  simp only [Code.a13, sxs, sx_label, vxs, AX.then_, AX.inBlock, aexec, Opd.ev, lputO, reduceIte, Nat.reduceEqDiff, addA, Nat.reduceAdd, Option.some.injEq, exists_eq_left', Option.map_some, Option.bind_some, cond_false, cond_true, chkOk, wantedS, goInt, aidx, List.map_cons, List.map_nil, Int.reduceEq, Int.reduceLT, Int.reduceLE, Int.reduceAdd, Int.reduceSub, BEq.rfl, eq_self, reduceCtorEq, hxs, evParts, repL, List.append_nil, notT, vcells, List.cons_append, List.nil_append, List.getElem?_cons_succ, List.getElem?_cons_zero, List.length_cons, List.length_nil, ne_eq, aresults, aresult, tupOf, fill_J]
  refine rc_loop (fun m fr A' => ∃ pre suf s vw vm vt, l = pre ++ suf ∧ suf.length = m ∧ runS St.start l 0 = runS s suf pre.length ∧ Wf pre.length s ∧ JR A.next vw vm vt s A' ∧ (∀ x ∈ rowL vw ++ (rowL vm ++ rowL vt), A.next ≤ x) ∧
    lget fr 0 = v ∧ lget fr 2 = iv 0 ∧ lget fr 3 = pv A.next ∧ lget fr 4 = iv pre.length ∧ Keep [] A A') ?_ l.length ?_
  · rintro m fr A1 ⟨pre, suf, s, vw, vm, vt, hw, hm, hrun, hwf, hj, hge, h0, h2, h3, h4, hk⟩
    have hl1 := hl.keep hk (by simp)
    obtain ⟨a, c, hv, _⟩ := hl1.shape
    subst hv
    cases suf with
    | nil =>
      have e : ¬ ((pre.length : Int) < l.length) := by rw [hw]; simp
      simp only [sxs, sx_label, vxs, AX.then_, AX.inBlock, aexec, Opd.ev, lputO, reduceIte, Nat.reduceEqDiff, addA, Nat.reduceAdd, Option.some.injEq, exists_eq_left', Option.map_some, Option.bind_some, cond_false, cond_true, chkOk, wantedS, goInt, aidx, List.map_cons, List.map_nil, Int.reduceEq, Int.reduceLT, Int.reduceLE, Int.reduceAdd, Int.reduceSub, BEq.rfl, eq_self, reduceCtorEq, hxs, evParts, repL, List.append_nil, notT, vcells, List.cons_append, List.nil_append, List.getElem?_cons_succ, List.getElem?_cons_zero, List.length_cons, List.length_nil, ne_eq, aresults, aresult, tupOf, h0, h2, h3, h4, e]
      exact ⟨.inr trivial, _, _, rfl, rfl, by rw [hrun]; rfl, hk⟩
    | cons x suf =>
      have hpl : l.length = pre.length + (suf.length + 1) := by rw [hw]; simp
      have e : ((pre.length : Int) < l.length) := by omega
      have hp : l[pre.length]? = some x := by rw [hw]; simp
      obtain ⟨r, off, rfl, hrl, hrd⟩ := hl1.at hp
      have hsx := hwf.small (by omega)
      have w0 : IntKind.i64.wrap (pre.length + 1) = ((pre ++ [x]).length : Int) := by rw [i64_add (by omega) (by omega)]; simp
      simp only [sxs, sx_label, vxs, AX.then_, AX.inBlock, aexec, Opd.ev, lputO, reduceIte, Nat.reduceEqDiff, addA, Nat.reduceAdd, Option.some.injEq, exists_eq_left', Option.map_some, Option.bind_some, cond_false, cond_true, chkOk, wantedS, goInt, aidx, List.map_cons, List.map_nil, Int.reduceEq, Int.reduceLT, Int.reduceLE, Int.reduceAdd, Int.reduceSub, BEq.rfl, eq_self, reduceCtorEq, hxs, evParts, repL, List.append_nil, notT, vcells, List.cons_append, List.nil_append, List.getElem?_cons_succ, List.getElem?_cons_zero, List.length_cons, List.length_nil, ne_eq, aresults, aresult, tupOf, h0, h2, h3, h4, e, hrd]
      refine RF_use (add_spec hj hsx (hsh x (by rw [hw]; simp))) ?_
      rintro u A2 ⟨rfl, hk2, hj2⟩
      have hk3 : Keep [] A A2 := hk.trans hk2 (fun id hid h => by
        have := hge id
        simp only [List.mem_append, List.mem_singleton] at h this
        rcases h with h | h
        · omega
        · have := this h; omega)
      cases hadd : addS s x with
      | none =>
        simp only [sxs, sx_label, vxs, AX.then_, AX.inBlock, aexec, Opd.ev, lputO, reduceIte, Nat.reduceEqDiff, addA, Nat.reduceAdd, Option.some.injEq, exists_eq_left', Option.map_some, Option.bind_some, cond_false, cond_true, chkOk, wantedS, goInt, aidx, List.map_cons, List.map_nil, Int.reduceEq, Int.reduceLT, Int.reduceLE, Int.reduceAdd, Int.reduceSub, BEq.rfl, eq_self, reduceCtorEq, hxs, evParts, repL, List.append_nil, notT, vcells, List.cons_append, List.nil_append, List.getElem?_cons_succ, List.getElem?_cons_zero, List.length_cons, List.length_nil, ne_eq, aresults, aresult, tupOf, h0, h2, h3, h4, e, hrd, w0, Option.isSome_none]
        refine ⟨.inr trivial, _, _, rfl, rfl, ?_, hk3⟩
        rw [hrun]; simp [runS, hadd, resS]
      | some s2 =>
        simp only [sxs, sx_label, vxs, AX.then_, AX.inBlock, aexec, Opd.ev, lputO, reduceIte, Nat.reduceEqDiff, addA, Nat.reduceAdd, Option.some.injEq, exists_eq_left', Option.map_some, Option.bind_some, cond_false, cond_true, chkOk, wantedS, goInt, aidx, List.map_cons, List.map_nil, Int.reduceEq, Int.reduceLT, Int.reduceLE, Int.reduceAdd, Int.reduceSub, BEq.rfl, eq_self, reduceCtorEq, hxs, evParts, repL, List.append_nil, notT, vcells, List.cons_append, List.nil_append, List.getElem?_cons_succ, List.getElem?_cons_zero, List.length_cons, List.length_nil, ne_eq, aresults, aresult, tupOf, h0, h2, h3, h4, e, hrd, w0, Option.isSome_some]
        obtain ⟨vw', vm', vt', hj3, hr3⟩ := hj2 s2 hadd
        refine ⟨suf.length, by simp at hm; omega, pre ++ [x], suf, s2, vw', vm', vt', by simp [hw], rfl, ?_, by simpa using addS_wf hwf hadd, hj3, ?_, rfl, hk3⟩
        · rw [hrun]; simp [runS, hadd]
        · intro y hy
          rcases hr3 y hy with h | h
          · exact hge y h
          · have := hk.next; omega
  · exact ⟨[], l, St.start, .slice none 0 0, .slice none 0 0, .slice none 0 0, rfl, rfl, rfl, Wf.start, JR_start A, by simp [rowL], rfl, rfl, rfl, rfl, Keep.new _ _⟩
end Go.Proofs.YtiimkdijiddjcaaDoor
