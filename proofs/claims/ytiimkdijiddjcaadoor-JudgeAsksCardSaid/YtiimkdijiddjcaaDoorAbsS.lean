/- A region that draws its order: what the checks on its layout say; the run in the laid order, point by point. -/
import Derived.Test.YtiimkdijiddjcaaDoorAbsR
namespace Go.Abs
open Go

theorem valEq1_eq {a b : Value} (h : valEq1 a b = true) : a = b := by
  unfold valEq1 at h
  split at h <;> simp_all
  exact ByteArray.ext h
theorem valEqs_eq : ∀ {as bs : List Value}, valEqs as bs = true → as = bs
  | [], [], _ => rfl
  | [], _ :: _, h => by simp [valEqs] at h
  | _ :: _, [], h => by simp [valEqs] at h
  | a :: as, b :: bs, h => by
    simp only [valEqs, Bool.and_eq_true] at h
    rw [valEq1_eq h.1, valEqs_eq h.2]
theorem valEq_eq {a b : Value} (h : valEq a b = true) : a = b := by
  unfold valEq at h
  split at h
  · rw [Array.ext' (valEqs_eq h)]
  · rw [Array.ext' (valEqs_eq h)]
  · exact valEq1_eq h

theorem chkOk_at {o : AOp} {fr : Fr} {v : Value} : ∀ {n : Nat} {S : List AHeap}, chkOk o fr v n S = true → ∀ k, k < n → ∃ H, S[k]? = some H ∧ ∃ A', aexec o fr H = some (v, A')
  | 0, _, _, k, hk => by omega
  | n + 1, [], h, _, _ => by simp [chkOk] at h
  | n + 1, H :: r, h, k, hk => by
    simp only [chkOk, Bool.and_eq_true] at h
    cases k with
    | zero =>
      refine ⟨H, rfl, ?_⟩
      have h1 := h.1
      split at h1
      · rename_i v' A' he
        exact ⟨A', by rw [he, valEq_eq h1]⟩
      · cases h1
    | succ k => exact chkOk_at h.2 k (by omega)

/- ## the layout -/
section
variable {ss : List Step} {anc : List (List Nat)}

theorem lay_at : ∀ (ord pre : List Nat) (q j : Nat) (s : Step), (∀ i ∈ ord, i < ss.length) → ord[q]? = some j → ss[j]? = some s →
    ((lay ss anc pre ord).map (·.2))[q]? = some { s with chk := chkFor ss anc (pre ++ ord.take q) j, sv := s.op.cls == 3 } := by
  intro ord
  induction ord with
  | nil => intro pre q j s _ h; simp at h
  | cons i ord ih =>
    intro pre q j s hlt hq hs
    have hi := hlt i (by simp)
    simp only [lay, List.getElem?_eq_getElem hi, List.map_cons]
    cases q with
    | zero =>
      simp only [List.getElem?_cons_zero, Option.some.injEq] at hq
      subst hq
      rw [List.getElem?_eq_getElem hi] at hs
      cases hs
      simp
    | succ q =>
      simp only [List.getElem?_cons_succ] at hq ⊢
      rw [ih (pre ++ [i]) q j s (fun k hk => hlt k (by simp [hk])) hq hs]
      simp
theorem lay_length : ∀ (ord pre : List Nat), (∀ i ∈ ord, i < ss.length) → ((lay ss anc pre ord).map (·.2)).length = ord.length := by
  intro ord
  induction ord with
  | nil => intro pre _; rfl
  | cons i ord ih =>
    intro pre hlt
    have hi := hlt i (by simp)
    simp only [lay, List.getElem?_eq_getElem hi, List.map_cons, List.length_cons]
    rw [ih _ fun k hk => hlt k (by simp [hk])]
theorem ordOk_at : ∀ (ord pre : List Nat) (q j : Nat), ordOk ss anc pre ord = true → ord[q]? = some j →
    (∀ i ∈ ancOf anc j, i ∈ pre ++ ord.take q) ∧ (clsAt ss j = 3 → ∀ i ∈ pre ++ ord.take q, i ∈ ancOf anc j) := by
  intro ord
  induction ord with
  | nil => intro pre q j _ h; simp at h
  | cons i ord ih =>
    intro pre q j h hq
    simp only [ordOk, Bool.and_eq_true] at h
    cases q with
    | zero =>
      simp only [List.getElem?_cons_zero, Option.some.injEq] at hq
      subst hq
      obtain ⟨⟨h1, h2⟩, _⟩ := h
      refine ⟨fun k hk => ?_, fun hc k hk => ?_⟩
      · have := List.all_eq_true.1 h1 k hk
        simpa using this
      · simp only [hc, bne_self_eq_false, Bool.false_or] at h2
        have := List.all_eq_true.1 h2 k (by simpa using hk)
        simpa using this
    | succ q =>
      simp only [List.getElem?_cons_succ] at hq
      have := ih (pre ++ [i]) q j h.2 hq
      simpa using this

structure Lay (ops : Array Oper) (ss : List Step) (anc : List (List Nat)) (ord : List Nat) : Prop where
  slen : ss.length = ops.size
  inj : ∀ (p q i : Nat), ord[p]? = some i → ord[q]? = some i → p = q
  lt : ∀ (p i : Nat), ord[p]? = some i → i < ops.size
  all : ∀ i, i < ops.size → ∃ p : Nat, ord[p]? = some i
  dir : ∀ (j : Nat) (o : Oper), ops[j]? = some o → ∀ i ∈ direct o, i < j ∧ i ∈ ancOf anc j
  ance : ∀ (j : Nat) (o : Oper), ops[j]? = some o → ∀ i ∈ ancOf anc j, i ∈ direct o ∨ ∃ e ∈ direct o, i ∈ ancOf anc e
  pre : ∀ (q j : Nat), ord[q]? = some j → ∀ i ∈ ancOf anc j, ∃ p : Nat, p < q ∧ ord[p]? = some i
  wrt : ∀ (q j : Nat), ord[q]? = some j → clsAt ss j = 3 → ∀ (p i : Nat), p < q → ord[p]? = some i → i ∈ ancOf anc j
  b2 : ∀ i j, i < ops.size → j < ops.size → bound2 ss anc i j = true

theorem mem_take_iff {α : Type} {l : List α} {q : Nat} {x : α} : x ∈ l.take q ↔ ∃ p, p < q ∧ l[p]? = some x := by
  rw [List.mem_iff_getElem?]
  constructor
  · rintro ⟨p, hp⟩
    rw [List.getElem?_take] at hp
    split at hp
    · exact ⟨p, by assumption, hp⟩
    · cases hp
  · rintro ⟨p, hp, h⟩
    exact ⟨p, by rw [List.getElem?_take, if_pos hp]; exact h⟩

theorem Lay.of {ops : Array Oper} {ord : List Nat} (hl : ss.length = ops.size) (h : drawOk ops ss anc ord = true) : Lay ops ss anc ord := by
  simp only [drawOk, Bool.and_eq_true, decide_eq_true_eq] at h
  obtain ⟨⟨⟨⟨⟨hnd, hlt⟩, hall⟩, hanc⟩, hord⟩, hb⟩ := h
  have hanc' : ∀ (j : Nat) (o : Oper), ops[j]? = some o → (∀ i ∈ direct o, i < j ∧ i ∈ ancOf anc j) ∧ ∀ i ∈ ancOf anc j, i ∈ direct o ∨ ∃ e ∈ direct o, i ∈ ancOf anc e := by
    intro j o ho
    have hj : j < ops.size := by
      rcases Nat.lt_or_ge j ops.size with h | h
      · exact h
      · rw [Array.getElem?_eq_none h] at ho; cases ho
    have := List.all_eq_true.1 hanc j (List.mem_range.2 hj)
    simp only [ancOk, ho, Bool.and_eq_true] at this
    refine ⟨fun i hi => ?_, fun i hi => ?_⟩
    · have := List.all_eq_true.1 this.1 i hi
      simpa using this
    · have := List.all_eq_true.1 this.2 i hi
      simpa using this
  refine ⟨hl, ?_, ?_, ?_, fun j o ho => (hanc' j o ho).1, fun j o ho => (hanc' j o ho).2, ?_, ?_, ?_⟩
  · intro p q i hp hq
    obtain ⟨h1, e1⟩ := List.getElem?_eq_some_iff.1 hp
    obtain ⟨h2, e2⟩ := List.getElem?_eq_some_iff.1 hq
    rw [List.Nodup, List.pairwise_iff_getElem] at hnd
    rcases Nat.lt_trichotomy p q with h | h | h
    · exact absurd (e1.trans e2.symm) (hnd p q h1 h2 h)
    · exact h
    · exact absurd (e2.trans e1.symm) (hnd q p h2 h1 h)
  · intro p i hp
    have := List.all_eq_true.1 hlt i (List.mem_of_getElem? hp)
    simpa using this
  · intro i hi
    have := List.all_eq_true.1 hall i (List.mem_range.2 hi)
    exact List.mem_iff_getElem?.1 (by simpa using this)
  · intro q j hq i hi
    have := (ordOk_at ord [] q j hord hq).1 i hi
    simp only [List.nil_append] at this
    exact mem_take_iff.1 this
  · intro q j hq hc p i hp hi
    exact (ordOk_at ord [] q j hord hq).2 hc i (by simp only [List.nil_append]; exact mem_take_iff.2 ⟨p, hp, hi⟩)
  · intro i j hi hj
    exact List.all_eq_true.1 (List.all_eq_true.1 hb i (List.mem_range.2 hi)) j (List.mem_range.2 hj)

theorem bound2_spec {i j : Nat} {s t : Step} {d : Nat} (h : bound2 ss anc i j = true) (hi : ss[i]? = some s) (hj : ss[j]? = some t) (hd : s.dst = some d) (hn : d ∈ namesOf t) : i = j ∨ i ∈ ancOf anc j ∨ j ∈ ancOf anc i := by
  simp only [bound2, hi, hj, Option.bind_some, hd, Bool.or_eq_true, beq_iff_eq, Bool.not_eq_true', List.contains_iff_mem] at h
  rcases h with ((h | h) | h) | h
  · exact .inl h
  · exact .inr (.inl h)
  · exact .inr (.inr h)
  · have h2 : (namesOf t).contains d = true := by simpa using hn
    rw [h] at h2
    cases h2
end

/- ## the run in the laid order -/
structure StepAt (call : Call) (s : Step) (F : Fr) (A : AHeap) (S : List AHeap) (V : Value) (F' : Fr) (A' : AHeap) (S' : List AHeap) : Prop where
  run : (wantedS F s.guard = true ∧ stepRun call s F A = some (V, A') ∧ chkOk s.op F V s.chk S = true) ∨ (wantedS F s.guard = false ∧ V = undef ∧ A' = A)
  fr : F' = lputO F s.dst V
  sv : S' = if s.sv then A' :: S else S

structure Chain (call : Call) (L : List Step) (F : Nat → Fr) (A : Nat → AHeap) (S : Nat → List AHeap) (V : Nat → Value) : Prop where
  step : ∀ (p : Nat) (s : Step), L[p]? = some s → StepAt call s (F p) (A p) (S p) (V p) (F (p + 1)) (A (p + 1)) (S (p + 1))

theorem chain_of {call : Call} : ∀ {L : List Step} {S0 : List AHeap} {F0 Fn : Fr} {A0 An : AHeap}, runSteps call L S0 F0 A0 = some (Fn, An) →
    ∃ F A S V, Chain call L F A S V ∧ F 0 = F0 ∧ A 0 = A0 ∧ S 0 = S0 ∧ F L.length = Fn ∧ A L.length = An := by
  intro L
  induction L with
  | nil =>
    intro S0 F0 Fn A0 An h
    simp only [runSteps, Option.some.injEq, Prod.mk.injEq] at h
    exact ⟨fun _ => F0, fun _ => A0, fun _ => S0, fun _ => undef, ⟨fun p s h => by simp at h⟩, rfl, rfl, rfl, h.1, h.2⟩
  | cons s L ih =>
    intro S0 F0 Fn A0 An h
    have key : ∀ V F1 A1 S1, StepAt call s F0 A0 S0 V F1 A1 S1 → runSteps call L S1 F1 A1 = some (Fn, An) → ∃ F A S V, Chain call (s :: L) F A S V ∧ F 0 = F0 ∧ A 0 = A0 ∧ S 0 = S0 ∧ F (s :: L).length = Fn ∧ A (s :: L).length = An := by
      intro V0 F1 A1 S1 hs hr
      obtain ⟨F, A, S, V, hc, rfl, rfl, rfl, rfl, rfl⟩ := ih hr
      refine ⟨fun | 0 => F0 | p + 1 => F p, fun | 0 => A0 | p + 1 => A p, fun | 0 => S0 | p + 1 => S p, fun | 0 => V0 | p + 1 => V p, ⟨fun p s' h => ?_⟩, rfl, rfl, rfl, rfl, rfl⟩
      cases p with
      | zero => simp only [List.getElem?_cons_zero, Option.some.injEq] at h; subst h; exact hs
      | succ p => exact hc.step p s' (by simpa using h)
    simp only [runSteps, cond_eq_ite] at h
    split at h
    · rename_i hw
      split at h
      · rename_i v A' hr
        split at h
        · rename_i hk
          exact key v _ A' _ ⟨.inl ⟨hw, hr, hk⟩, rfl, rfl⟩ h
        · cases h
      · cases h
    · rename_i hw
      exact key undef _ A0 _ ⟨.inr ⟨by simpa using hw, rfl, rfl⟩, rfl, rfl⟩ h

/- ## the kinds of operations -/
theorem not3_call {o : AOp} (h : o.cls ≠ 3) : o.isCall = false := by cases o <;> first | rfl | (exact absurd rfl h)
theorem stepRun_plain {call : Call} {s : Step} {fr : Fr} {A : AHeap} (h : s.op.cls ≠ 3) : stepRun call s fr A = aexec s.op fr A := by
  unfold stepRun
  split
  · rename_i e; rw [e] at h; exact absurd rfl h
  · rename_i e; rw [e] at h; exact absurd rfl h
  · rfl

theorem stepRun_op {call : Call} {s : Step} {fr : Fr} {A : AHeap} {r : Option (Value × AHeap)} (h : stepRun call s fr A = r) (hc : s.op.cls ≠ 3) : aexec s.op fr A = r := (stepRun_plain hc).symm.trans h
theorem map_pair {α : Type} {x : Option α} {f : α → Value} {A A' : AHeap} {v : Value} (h : (x.map fun y => (f y, A)) = some (v, A')) : A' = A ∧ ∀ H : AHeap, (x.map fun y => (f y, H)) = some (v, H) := by
  simp only [Option.map_eq_some_iff, Prod.mk.injEq] at h
  obtain ⟨y, rfl, rfl, rfl⟩ := h
  exact ⟨rfl, fun _ => rfl⟩
theorem some_pair {u v : Value} {A A' : AHeap} (h : some (u, A) = some (v, A')) : A' = A ∧ ∀ H : AHeap, some (u, H) = some (v, H) := by
  simp only [Option.some.injEq, Prod.mk.injEq] at h
  exact ⟨h.2.symm, fun H => by rw [h.1]⟩

theorem aexec_pure {o : AOp} {fr : Fr} {A A' : AHeap} {v : Value} (hc : o.cls = 0) (h : aexec o fr A = some (v, A')) : A' = A ∧ ∀ H, aexec o fr H = some (v, H) := by
  cases o <;> try (simp [AOp.cls] at hc; done)
  all_goals simp only [aexec] at h ⊢
  case mkFunc =>
    split at h
    · rename_i hh
      simp only [if_pos hh]
      exact some_pair h
    · cases h
  case ixStr =>
    split at h
    · split at h
      · rename_i hh
        simp only [if_pos hh]
        exact map_pair h
      · cases h
    · cases h
  case ixAgg =>
    split at h
    · split at h
      · rename_i hh
        simp only [if_pos hh]
        exact map_pair (f := id) h
      · cases h
    · cases h
  all_goals first
    | exact map_pair (f := id) h
    | exact map_pair h
    | exact some_pair h
    | (split at h <;> first | exact map_pair (f := id) h | exact some_pair h | (cases h; done) | (split at h <;> first | exact map_pair (f := id) h | exact map_pair h | exact some_pair h | (cases h; done)))

theorem aexec_reader {o : AOp} {fr : Fr} {A A' : AHeap} {v : Value} (hc : o.cls = 1) (h : aexec o fr A = some (v, A')) : A' = A := by
  cases o <;> try (simp [AOp.cls] at hc; done)
  all_goals simp only [aexec] at h
  all_goals first
    | exact (map_pair (f := id) h).1
    | exact (map_pair h).1
    | (split at h <;> first | exact (map_pair h).1 | exact (some_pair h).1 | (cases h; done) | (split at h <;> first | exact (map_pair (f := id) h).1 | exact (map_pair h).1 | exact (some_pair h).1 | (cases h; done)))

theorem aexec_adder {o : AOp} {fr : Fr} {A A' : AHeap} {v : Value} (hc : o.cls = 2) (h : aexec o fr A = some (v, A')) : ∃ x, wrO (some x) ∧ A' = A.new x ∧ ∀ H : AHeap, H.next = A.next → aexec o fr H = some (v, H.new x) := by
  cases o <;> try (simp [AOp.cls] at hc; done)
  case alloc z sz =>
    simp only [aexec, Option.some.injEq, Prod.mk.injEq] at h ⊢
    obtain ⟨rfl, rfl⟩ := h
    exact ⟨_, by exact True.intro, rfl, fun H e => by rw [e]; exact ⟨rfl, rfl⟩⟩
  case box sz x =>
    simp only [aexec, cond_eq_ite] at h ⊢
    split at h
    · simp only [Option.some.injEq, Prod.mk.injEq] at h
      obtain ⟨rfl, rfl⟩ := h
      rename_i hh
      exact ⟨_, by exact True.intro, rfl, fun H e => by rw [e, if_pos hh]⟩
    · cases h
  case buildSlice sz len z ps =>
    simp only [aexec, Option.map_eq_some_iff, Prod.mk.injEq] at h ⊢
    obtain ⟨cs, hf, rfl, rfl⟩ := h
    exact ⟨_, by exact True.intro, rfl, fun H e => ⟨cs, hf, by rw [e], rfl⟩⟩
  case mkMap k =>
    simp only [aexec, Option.some.injEq, Prod.mk.injEq] at h ⊢
    obtain ⟨rfl, rfl⟩ := h
    exact ⟨_, by exact True.intro, rfl, fun H e => by rw [e]; exact ⟨rfl, rfl⟩⟩
  case mkSlice sz bytes z l c =>
    simp only [aexec, amkSlice] at h ⊢
    split at h
    · split at h
      · simp only [Option.some.injEq, Prod.mk.injEq] at h
        obtain ⟨rfl, rfl⟩ := h
        exact ⟨_, by exact True.intro, rfl, fun H e => by rename_i hh; rw [if_pos hh, e]⟩
      · cases h
    · cases h
end Go.Abs
