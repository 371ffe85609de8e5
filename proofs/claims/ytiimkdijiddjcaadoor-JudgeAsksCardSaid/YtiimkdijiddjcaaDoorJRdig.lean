/- The digits and the bodies of a batch's messages on the abstract machine. -/
import Derived.Test.YtiimkdijiddjcaaDoorJRdef
set_option linter.unusedSimpArgs false
namespace Go.Proofs.YtiimkdijiddjcaaDoor
set_option linter.unusedSimpArgs false
set_option linter.unusedVariables false
set_option linter.unusedSectionVars false
set_option linter.defProp false
open Go Go.Abs JP

set_option maxRecDepth 100000 in
theorem dec_spec (i : Nat) (hi : i < 8) (A : AHeap) : EvF AQ EQ 36 [iv i] A (fun v A' => v = sv (dig i) ∧ A' = A) := by
  match i, hi with
  | 0, _ => exact ⟨60, _, _, (by kernel_rfl : evF AQ EQ 60 36 [iv 0] A = some (sv (dig 0), A)), rfl, rfl⟩
  | 1, _ => exact ⟨60, _, _, (by kernel_rfl : evF AQ EQ 60 36 [iv 1] A = some (sv (dig 1), A)), rfl, rfl⟩
  | 2, _ => exact ⟨60, _, _, (by kernel_rfl : evF AQ EQ 60 36 [iv 2] A = some (sv (dig 2), A)), rfl, rfl⟩
  | 3, _ => exact ⟨60, _, _, (by kernel_rfl : evF AQ EQ 60 36 [iv 3] A = some (sv (dig 3), A)), rfl, rfl⟩
  | 4, _ => exact ⟨60, _, _, (by kernel_rfl : evF AQ EQ 60 36 [iv 4] A = some (sv (dig 4), A)), rfl, rfl⟩
  | 5, _ => exact ⟨60, _, _, (by kernel_rfl : evF AQ EQ 60 36 [iv 5] A = some (sv (dig 5), A)), rfl, rfl⟩
  | 6, _ => exact ⟨60, _, _, (by kernel_rfl : evF AQ EQ 60 36 [iv 6] A = some (sv (dig 6), A)), rfl, rfl⟩
  | 7, _ => exact ⟨60, _, _, (by kernel_rfl : evF AQ EQ 60 36 [iv 7] A = some (sv (dig 7), A)), rfl, rfl⟩
set_option maxRecDepth 100000 in
theorem itoa_spec (i : Nat) (hi : i < 8) (A : AHeap) : EvF AQ EQ 35 [iv i] A (fun v A' => v = sv (dig i) ∧ A' = A) := by
  match i, hi with
  | 0, _ => exact ⟨60, _, _, (by kernel_rfl : evF AQ EQ 60 35 [iv 0] A = some (sv (dig 0), A)), rfl, rfl⟩
  | 1, _ => exact ⟨60, _, _, (by kernel_rfl : evF AQ EQ 60 35 [iv 1] A = some (sv (dig 1), A)), rfl, rfl⟩
  | 2, _ => exact ⟨60, _, _, (by kernel_rfl : evF AQ EQ 60 35 [iv 2] A = some (sv (dig 2), A)), rfl, rfl⟩
  | 3, _ => exact ⟨60, _, _, (by kernel_rfl : evF AQ EQ 60 35 [iv 3] A = some (sv (dig 3), A)), rfl, rfl⟩
  | 4, _ => exact ⟨60, _, _, (by kernel_rfl : evF AQ EQ 60 35 [iv 4] A = some (sv (dig 4), A)), rfl, rfl⟩
  | 5, _ => exact ⟨60, _, _, (by kernel_rfl : evF AQ EQ 60 35 [iv 5] A = some (sv (dig 5), A)), rfl, rfl⟩
  | 6, _ => exact ⟨60, _, _, (by kernel_rfl : evF AQ EQ 60 35 [iv 6] A = some (sv (dig 6), A)), rfl, rfl⟩
  | 7, _ => exact ⟨60, _, _, (by kernel_rfl : evF AQ EQ 60 35 [iv 7] A = some (sv (dig 7), A)), rfl, rfl⟩
theorem body_spec {a : JP.Act} (i : Nat) (hi : i < 8) (hb : a.body.size ≤ 1000000) (A : AHeap) : EvF AQ EQ 34 [sv a.body, iv a.many, iv i] A (fun v A' => v = sv (bodyOf a i) ∧ A' = A) := by
  refine rf_body (fn := Code.a34) rfl ?_
  have hd : (dig i).size = 1 := rfl
  simp only [Code.a34, sxs, sx_label, vxs, AX.then_, AX.inBlock, aexec, Opd.ev, lputO, reduceIte, Nat.reduceEqDiff, addA, Nat.reduceAdd, Option.some.injEq, exists_eq_left', Option.map_some, Option.bind_some, cond_false, cond_true, chkOk, wantedS, goInt, aidx, List.map_cons, List.map_nil, Int.reduceEq, Int.reduceLT, Int.reduceLE, Int.reduceAdd, Int.reduceSub, BEq.rfl, eq_self, reduceCtorEq, hxs, evParts, repL, List.append_nil, notT, vcells, List.cons_append, List.nil_append, List.getElem?_cons_succ, List.getElem?_cons_zero, List.length_cons, List.length_nil, ne_eq, aresults, aresult, tupOf]
  rcases Classical.em (1 < a.many) with c | c
  · simp only [sxs, sx_label, vxs, AX.then_, AX.inBlock, aexec, Opd.ev, lputO, reduceIte, Nat.reduceEqDiff, addA, Nat.reduceAdd, Option.some.injEq, exists_eq_left', Option.map_some, Option.bind_some, cond_false, cond_true, chkOk, wantedS, goInt, aidx, List.map_cons, List.map_nil, Int.reduceEq, Int.reduceLT, Int.reduceLE, Int.reduceAdd, Int.reduceSub, BEq.rfl, eq_self, reduceCtorEq, hxs, evParts, repL, List.append_nil, notT, vcells, List.cons_append, List.nil_append, List.getElem?_cons_succ, List.getElem?_cons_zero, List.length_cons, List.length_nil, ne_eq, aresults, aresult, tupOf, c]
    refine RF_use (dec_spec i hi A) ?_
    rintro v A' ⟨rfl, rfl⟩
    simp only [sxs, sx_label, vxs, AX.then_, AX.inBlock, aexec, Opd.ev, lputO, reduceIte, Nat.reduceEqDiff, addA, Nat.reduceAdd, Option.some.injEq, exists_eq_left', Option.map_some, Option.bind_some, cond_false, cond_true, chkOk, wantedS, goInt, aidx, List.map_cons, List.map_nil, Int.reduceEq, Int.reduceLT, Int.reduceLE, Int.reduceAdd, Int.reduceSub, BEq.rfl, eq_self, reduceCtorEq, hxs, evParts, repL, List.append_nil, notT, vcells, List.cons_append, List.nil_append, List.getElem?_cons_succ, List.getElem?_cons_zero, List.length_cons, List.length_nil, ne_eq, aresults, aresult, tupOf, abin_sadd, hd, (by omega : a.body.size + 1 ≤ 1099511627776)]
    simp [bodyOf, c]
  · simp only [sxs, sx_label, vxs, AX.then_, AX.inBlock, aexec, Opd.ev, lputO, reduceIte, Nat.reduceEqDiff, addA, Nat.reduceAdd, Option.some.injEq, exists_eq_left', Option.map_some, Option.bind_some, cond_false, cond_true, chkOk, wantedS, goInt, aidx, List.map_cons, List.map_nil, Int.reduceEq, Int.reduceLT, Int.reduceLE, Int.reduceAdd, Int.reduceSub, BEq.rfl, eq_self, reduceCtorEq, hxs, evParts, repL, List.append_nil, notT, vcells, List.cons_append, List.nil_append, List.getElem?_cons_succ, List.getElem?_cons_zero, List.length_cons, List.length_nil, ne_eq, aresults, aresult, tupOf, c]
    simp [bodyOf, c]
end Go.Proofs.YtiimkdijiddjcaaDoor
