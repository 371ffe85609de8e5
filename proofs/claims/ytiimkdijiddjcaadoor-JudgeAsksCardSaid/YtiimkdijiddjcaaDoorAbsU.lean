/- A region that draws its order: in every order the run comes to what the laid order comes to. -/
import Derived.Test.YtiimkdijiddjcaaDoorAbsS
namespace Go.Abs
open Go

theorem cText_at {P : Program} {ops : Array Oper} : ∀ {l : List Oper} {ss : List Step}, cText P ops l = some ss → ss.length = l.length ∧ ∀ (j : Nat) (o : Oper), l[j]? = some o → ∃ s, ss[j]? = some s ∧ cStep P ops o = some s
  | [], ss, h => by simp only [cText, Option.some.injEq] at h; subst h; exact ⟨rfl, fun j o h => by simp at h⟩
  | o :: l, ss, h => by
    simp only [cText, Option.bind_eq_some_iff, Option.map_eq_some_iff] at h
    obtain ⟨s, hs, r, hr, rfl⟩ := h
    obtain ⟨h1, h2⟩ := cText_at hr
    refine ⟨by simp [h1], fun j o' hj => ?_⟩
    cases j with
    | zero => simp only [List.getElem?_cons_zero, Option.some.injEq] at hj; subst hj; exact ⟨s, rfl, hs⟩
    | succ j => exact h2 j o' (by simpa using hj)

theorem cls_cases (o : AOp) : o.cls = 0 ∨ o.cls = 1 ∨ o.cls = 2 ∨ o.cls = 3 := by cases o <;> simp [AOp.cls]

def dstAt (ss : List Step) (ord : List Nat) (q : Nat) : Option (Nat × Nat) := (ord[q]?).bind fun j => (ss[j]?).bind fun s => s.dst.map fun d => (j, d)
def lastV (ss : List Step) (ord : List Nat) (F0 : Fr) (V : Nat → Value) (D : Nat → Bool) : Nat → Nat → Value
  | 0, t => lget F0 t
  | q + 1, t => match dstAt ss ord q with
    | some (j, d) => if d = t ∧ D j = true then V q else lastV ss ord F0 V D q t
    | none => lastV ss ord F0 V D q t

theorem dstAt_some {ss : List Step} {ord : List Nat} {q j d : Nat} (h : dstAt ss ord q = some (j, d)) : ∃ s, ord[q]? = some j ∧ ss[j]? = some s ∧ s.dst = some d := by
  simp only [dstAt, Option.bind_eq_some_iff, Option.map_eq_some_iff, Prod.mk.injEq] at h
  obtain ⟨j', hj, s, hs, d', hd, rfl, rfl⟩ := h
  exact ⟨s, hj, hs, hd⟩
theorem dstAt_eq {ss : List Step} {ord : List Nat} {q j : Nat} {s : Step} (hj : ord[q]? = some j) (hs : ss[j]? = some s) : dstAt ss ord q = s.dst.map fun d => (j, d) := by
  simp only [dstAt, hj, hs, Option.bind_some]

structure Cx (P : Program) (B0 : Nat) (call : Call) (ops : Array Oper) (ss : List Step) (anc : List (List Nat)) (ord : List Nat) (n : Nat) (F : Nat → Fr) (A : Nat → AHeap) (S : Nat → List AHeap) (V : Nat → Value) : Prop where
  hcall : CallOk P B0 call
  hss : cText P ops ops.toList = some ss
  ly : Lay ops ss anc ord
  ch : Chain call ((lay ss anc [] ord).map (·.2)) F A S V
  wf0 : wfA (A 0)
  nlt : ∀ s ∈ ss, ∀ t ∈ namesOf s, t < n
  S0 : S 0 = [A 0]

section
variable {P : Program} {B0 : Nat} {call : Call} {ops : Array Oper} {ss : List Step} {anc : List (List Nat)} {ord : List Nat} {n : Nat} {F : Nat → Fr} {A : Nat → AHeap} {S : Nat → List AHeap} {V : Nat → Value}

theorem Cx.at_ (c : Cx P B0 call ops ss anc ord n F A S V) {q j : Nat} (hq : ord[q]? = some j) : ∃ o s, ops[j]? = some o ∧ ss[j]? = some s ∧ cStep P ops o = some s ∧
    StepAt call { s with chk := chkFor ss anc (ord.take q) j, sv := s.op.cls == 3 } (F q) (A q) (S q) (V q) (F (q + 1)) (A (q + 1)) (S (q + 1)) := by
  have hj := c.ly.lt q j hq
  obtain ⟨h1, h2⟩ := cText_at c.hss
  obtain ⟨s, hs, hst⟩ := h2 j ops[j] (by simp [hj])
  refine ⟨ops[j], s, by simp [hj], hs, hst, ?_⟩
  have := lay_at (ss := ss) (anc := anc) ord [] q j s (fun i hi => by
    obtain ⟨p, hp⟩ := List.mem_iff_getElem?.1 hi
    rw [c.ly.slen]; exact c.ly.lt p i hp) hq hs
  exact c.ch.step q _ (by simpa using this)
theorem clsAt_eq {j : Nat} {s : Step} (hs : ss[j]? = some s) : clsAt ss j = s.op.cls := by simp [clsAt, hs]

theorem Cx.step_ (c : Cx P B0 call ops ss anc ord n F A S V) {q : Nat} (hq : q < ord.length) (hw : wfA (A q)) : wfA (A (q + 1)) ∧ (A q).next ≤ (A (q + 1)).next := by
  obtain ⟨o, s, ho, hs, hst, hat⟩ := c.at_ (List.getElem?_eq_getElem hq)
  rcases hat.run with ⟨_, hr, _⟩ | ⟨_, _, e⟩
  · exact stepRun_step c.hcall hr hw
  · rw [e]; exact ⟨hw, Nat.le_refl _⟩
theorem Cx.wf (c : Cx P B0 call ops ss anc ord n F A S V) : ∀ {q : Nat}, q ≤ ord.length → wfA (A q)
  | 0, _ => c.wf0
  | _ + 1, h => (c.step_ h (c.wf (Nat.le_of_succ_le h))).1
theorem Cx.next_le (c : Cx P B0 call ops ss anc ord n F A S V) {p q : Nat} (h : p ≤ q) (hq : q ≤ ord.length) : (A p).next ≤ (A q).next := by
  induction h with
  | refl => exact Nat.le_refl _
  | @step m h ih => exact Nat.le_trans (ih (by omega)) (c.step_ (by omega) (c.wf (by omega))).2

/-- a wanted adder stands at q and makes o under the number id -/
structure Ad (ss : List Step) (ord : List Nat) (F : Nat → Fr) (A : Nat → AHeap) (V : Nat → Value) (q id : Nat) (x : AObj) : Prop where
  ex : ∃ j s, ord[q]? = some j ∧ ss[j]? = some s ∧ s.op.cls = 2 ∧ wantedS (F q) s.guard = true ∧ ∀ H : AHeap, H.next = id → aexec s.op (F q) H = some (V q, H.new x)
  id_ : id = (A q).next
  wr : wrO (some x)
  eq : A (q + 1) = (A q).new x

theorem Ad.lt {q id : Nat} {x : AObj} (h : Ad ss ord F A V q id x) : q < ord.length := by
  obtain ⟨j, s, hj, _⟩ := h.ex
  exact (List.getElem?_eq_some_iff.1 hj).1
theorem Ad.next {q id : Nat} {x : AObj} (h : Ad ss ord F A V q id x) : (A (q + 1)).next = id + 1 := by rw [h.eq, h.id_]; rfl
theorem Cx.ad_inj (c : Cx P B0 call ops ss anc ord n F A S V) {q q' id : Nat} {x y : AObj} (h : Ad ss ord F A V q id x) (k : Ad ss ord F A V q' id y) : q = q' := by
  have h1 := h.next
  have h2 := k.next
  have h3 := h.id_
  have h4 := k.id_
  rcases Nat.lt_trichotomy q q' with hh | hh | hh
  · have := c.next_le (show q + 1 ≤ q' from hh) (Nat.le_of_lt k.lt); omega
  · exact hh
  · have := c.next_le (show q' + 1 ≤ q from hh) (Nat.le_of_lt h.lt); omega
theorem Ad.obj {q id : Nat} {x y : AObj} (h : Ad ss ord F A V q id x) (k : Ad ss ord F A V q id y) : x = y := by
  have e := h.eq.symm.trans k.eq
  have e2 : ((A q).new x).get (A q).next = ((A q).new y).get (A q).next := by rw [e]
  simpa [AHeap.get_new] using e2

theorem Cx.nonmut (c : Cx P B0 call ops ss anc ord n F A S V) {q j : Nat} (hq : ord[q]? = some j) (hc : clsAt ss j ≠ 3) (id : Nat) (x : AObj) : (A (q + 1)).get id = some x ↔ (A q).get id = some x ∨ Ad ss ord F A V q id x := by
  obtain ⟨o, s, ho, hs, hst, hat⟩ := c.at_ hq
  have hql := (List.getElem?_eq_some_iff.1 hq).1
  rw [clsAt_eq hs] at hc
  have hsame : A (q + 1) = A q → (wantedS (F q) s.guard = true → s.op.cls ≠ 2) → ((A (q + 1)).get id = some x ↔ (A q).get id = some x ∨ Ad ss ord F A V q id x) := by
    intro e hn
    rw [e]
    refine ⟨.inl, fun h => h.elim _root_.id fun h => ?_⟩
    obtain ⟨j', s', hj', hs', h2, hw, _⟩ := h.ex
    rw [hq] at hj'; cases hj'
    rw [hs] at hs'; cases hs'
    exact absurd h2 (hn hw)
  rcases hat.run with ⟨hw, hr, _⟩ | ⟨hw, _, e⟩
  · have hr : aexec s.op (F q) (A q) = some (V q, A (q + 1)) := stepRun_op hr hc
    rcases cls_cases s.op with h | h | h | h
    · exact hsame (aexec_pure h hr).1 fun _ => by omega
    · exact hsame (aexec_reader h hr) fun _ => by omega
    · obtain ⟨y, hwr, e, hH⟩ := aexec_adder h hr
      have had : Ad ss ord F A V q (A q).next y := ⟨⟨j, s, hq, hs, h, hw, hH⟩, rfl, hwr, e⟩
      rw [e, AHeap.get_new]
      constructor
      · intro hg
        split at hg
        · rename_i e2; cases hg; subst e2; exact .inr had
        · exact .inl hg
      · rintro (hg | hg)
        · rw [if_neg (by intro e2; subst e2; rw [c.wf (Nat.le_of_lt hql) _ (Nat.le_refl _)] at hg; cases hg)]; exact hg
        · have e3 := hg.id_
          subst e3
          rw [if_pos rfl, Ad.obj hg had]
    · exact absurd h hc
  · exact hsame e fun h => absurd h (by change wantedS (F q) s.guard = false at hw; rw [hw]; simp)

theorem Cx.seg (c : Cx P B0 call ops ss anc ord n F A S V) {p : Nat} : ∀ {q : Nat}, p ≤ q → q ≤ ord.length → (∀ r j, p ≤ r → r < q → ord[r]? = some j → clsAt ss j ≠ 3) → ∀ id x, (A q).get id = some x ↔ (A p).get id = some x ∨ ∃ r, p ≤ r ∧ r < q ∧ Ad ss ord F A V r id x := by
  intro q h
  induction h with
  | refl => intro _ _ id x; exact ⟨.inl, fun h => h.elim _root_.id fun ⟨r, h1, h2, _⟩ => by omega⟩
  | @step m h ih =>
    intro hl hn id x
    have hm : ord[m]? = some ord[m] := List.getElem?_eq_getElem hl
    rw [c.nonmut hm (hn m _ h (Nat.lt_succ_self m) hm), ih (by omega) (fun r j h1 h2 => hn r j h1 (by omega))]
    constructor
    · rintro ((h1 | ⟨r, h1, h2, h3⟩) | h1)
      · exact .inl h1
      · exact .inr ⟨r, h1, by omega, h3⟩
      · exact .inr ⟨m, h, Nat.lt_succ_self m, h1⟩
    · rintro (h1 | ⟨r, h1, h2, h3⟩)
      · exact .inl (.inl h1)
      · by_cases e : r = m
        · subst e; exact .inr h3
        · exact .inl (.inr ⟨r, h1, by omega, h3⟩)

/- the frames -/
theorem Cx.fr_last (c : Cx P B0 call ops ss anc ord n F A S V) : ∀ {q : Nat}, q ≤ ord.length → ∀ t, lget (F q) t = lastV ss ord (F 0) V (fun _ => true) q t
  | 0, _, _ => rfl
  | q + 1, h, t => by
    have hq : ord[q]? = some ord[q] := List.getElem?_eq_getElem h
    obtain ⟨o, s, ho, hs, hst, hat⟩ := c.at_ hq
    rw [hat.fr]
    simp only [lastV, dstAt_eq hq hs]
    cases hd : s.dst with
    | none => simp only [lputO, Option.map_none]; exact c.fr_last (Nat.le_of_succ_le h) t
    | some d =>
      simp only [lputO, lget_lput, Option.map_some, and_true]
      split
      · rfl
      · exact c.fr_last (Nat.le_of_succ_le h) t

/-- who writes a slot that j names -/
theorem Cx.writer (c : Cx P B0 call ops ss anc ord n F A S V) {q r j i d : Nat} {s : Step} (hq : ord[q]? = some j) (hs : ss[j]? = some s) (hd : dstAt ss ord r = some (i, d)) (hn : d ∈ namesOf s) :
    r = q ∨ (r < q ∧ i ∈ ancOf anc j) ∨ (q < r ∧ j ∈ ancOf anc i) := by
  obtain ⟨s', hr, hs', hd'⟩ := dstAt_some hd
  rcases bound2_spec (c.ly.b2 i j (c.ly.lt r i hr) (c.ly.lt q j hq)) hs' hs hd' hn with e | h | h
  · subst e; exact .inl (c.ly.inj _ _ _ hr hq)
  · obtain ⟨p, hp, hp'⟩ := c.ly.pre q j hq i h
    exact .inr (.inl ⟨by rw [c.ly.inj _ _ _ hr hp']; exact hp, h⟩)
  · obtain ⟨p, hp, hp'⟩ := c.ly.pre r i hr j h
    exact .inr (.inr ⟨by rw [c.ly.inj _ _ _ hq hp']; exact hp, h⟩)

theorem Cx.names_eq (c : Cx P B0 call ops ss anc ord n F A S V) {D : Nat → Bool} (hcl : ∀ i, D i = true → ∀ k ∈ ancOf anc i, D k = true) {q j : Nat} {s : Step} (hq : ord[q]? = some j) (hs : ss[j]? = some s) (hj : D j = false) (hanc : ∀ k ∈ ancOf anc j, D k = true)
    {t : Nat} (ht : t ∈ namesOf s) : lastV ss ord (F 0) V D ord.length t = lget (F q) t := by
  have hql := (List.getElem?_eq_some_iff.1 hq).1
  rw [c.fr_last (Nat.le_of_lt hql)]
  have h2 : ∀ r, r ≤ q → lastV ss ord (F 0) V D r t = lastV ss ord (F 0) V (fun _ => true) r t := by
    intro r
    induction r with
    | zero => intro _; rfl
    | succ r ih =>
      intro hr
      simp only [lastV, ih (by omega)]
      cases hd : dstAt ss ord r with
      | none => rfl
      | some x =>
        obtain ⟨i, d⟩ := x
        simp only []
        by_cases e : d = t
        · subst e
          rcases c.writer hq hs hd ht with h | ⟨_, h⟩ | ⟨h, _⟩
          · omega
          · simp [hanc i h]
          · omega
        · simp [e]
  have h1 : ∀ r, q ≤ r → lastV ss ord (F 0) V D r t = lastV ss ord (F 0) V D q t := by
    intro r hr
    induction hr with
    | refl => rfl
    | @step m h ih =>
      simp only [lastV, ih]
      cases hd : dstAt ss ord m with
      | none => rfl
      | some x =>
        obtain ⟨i, d⟩ := x
        simp only []
        by_cases e : d = t
        · subst e
          have hi : D i = false := by
            rcases c.writer hq hs hd ht with h' | ⟨h', _⟩ | ⟨_, h'⟩
            · obtain ⟨s', hr, _⟩ := dstAt_some hd
              subst h'
              rw [hr] at hq; cases hq; exact hj
            · have : q ≤ m := h
              omega
            · cases hDi : D i with
              | false => rfl
              | true => rw [hcl i hDi j h'] at hj; cases hj
          simp [hi]
        · simp [e]
  rw [h1 _ (Nat.le_of_lt hql), h2 q (Nat.le_refl _)]

theorem Cx.last_put (c : Cx P B0 call ops ss anc ord n F A S V) {D D' : Nat → Bool} (hcl : ∀ i, D i = true → ∀ k ∈ ancOf anc i, D k = true) {q j : Nat} {s : Step} (hq : ord[q]? = some j) (hs : ss[j]? = some s) (hj : D j = false)
    (hD : ∀ i, D' i = (D i || i == j)) (t : Nat) : lastV ss ord (F 0) V D' ord.length t = if s.dst = some t then V q else lastV ss ord (F 0) V D ord.length t := by
  have hql := (List.getElem?_eq_some_iff.1 hq).1
  have h1 : ∀ r, r ≤ q → lastV ss ord (F 0) V D' r t = lastV ss ord (F 0) V D r t := by
    intro r
    induction r with
    | zero => intro _; rfl
    | succ r ih =>
      intro hr
      simp only [lastV, ih (by omega)]
      cases hd : dstAt ss ord r with
      | none => rfl
      | some x =>
        obtain ⟨i, d⟩ := x
        simp only []
        obtain ⟨s', hr', _⟩ := dstAt_some hd
        have hne : i ≠ j := by intro e; subst e; have := c.ly.inj _ _ _ hr' hq; omega
        simp [hD, hne]
  have h2 : ∀ r, q + 1 ≤ r → lastV ss ord (F 0) V D' r t = if s.dst = some t then V q else lastV ss ord (F 0) V D r t := by
    intro r hr
    induction hr with
    | refl =>
      simp only [lastV, dstAt_eq hq hs, h1 q (Nat.le_refl _)]
      cases hd : s.dst with
      | none => simp
      | some d => simp [hD, hj]
    | @step m h ih =>
      simp only [lastV, ih]
      cases hd : dstAt ss ord m with
      | none => rfl
      | some x =>
        obtain ⟨i, d⟩ := x
        simp only []
        obtain ⟨s', hr', hs', hd'⟩ := dstAt_some hd
        have hm : q + 1 ≤ m := h
        have hne : i ≠ j := by intro e; subst e; have := c.ly.inj _ _ _ hr' hq; omega
        have hDi : D' i = D i := by simp [hD, hne]
        rw [hDi]
        by_cases e : s.dst = some t
        · simp only [e, if_true]
          by_cases e2 : d = t
          · subst e2
            have hi : D i = false := by
              rcases c.writer hq hs hd (by simp [namesOf, e]) with h' | ⟨h', _⟩ | ⟨_, h'⟩
              · omega
              · omega
              · cases hDi : D i with
                | false => rfl
                | true => rw [hcl i hDi j h'] at hj; cases hj
            simp [hi]
          · simp [e2]
        · simp only [e, if_false]
  exact h2 _ hql

/- the saved heaps -/
theorem Cx.saved (c : Cx P B0 call ops ss anc ord n F A S V) {p : Nat} (hp : p = 0 ∨ ∃ r j, p = r + 1 ∧ ord[r]? = some j ∧ clsAt ss j = 3) : ∀ {q : Nat}, p ≤ q → q ≤ ord.length →
    (S q)[(((ord.take q).drop p).filter fun i => clsAt ss i == 3).length]? = some (A p) := by
  intro q h
  induction h with
  | refl =>
    intro hl
    have e : (ord.take p).drop p = [] := List.drop_eq_nil_of_le (by rw [List.length_take]; omega)
    rw [e]
    simp only [List.filter_nil, List.length_nil]
    rcases hp with rfl | ⟨r, j, rfl, hr, hc⟩
    · rw [c.S0]; rfl
    · obtain ⟨o, s, ho, hs, hst, hat⟩ := c.at_ hr
      rw [hat.sv]
      rw [clsAt_eq hs] at hc
      simp [hc]
  | @step m h ih =>
    intro hl
    have hm : ord[m]? = some ord[m] := List.getElem?_eq_getElem hl
    obtain ⟨o, s, ho, hs, hst, hat⟩ := c.at_ hm
    have h0 : p ≤ m := h
    have e : (ord.take (m + 1)).drop p = (ord.take m).drop p ++ [ord[m]] := by
      rw [List.take_add_one, hm, List.drop_append_of_le_length (by rw [List.length_take]; omega)]; rfl
    rw [e, List.filter_append, List.length_append, hat.sv]
    have ih' := ih (by omega)
    cases hc : (s.op.cls == 3) with
    | true =>
      simp only [List.filter_cons, clsAt_eq hs, hc, if_true, List.filter_nil, List.length_singleton, List.getElem?_cons_succ]
      exact ih'
    | false =>
      simp only [List.filter_cons, clsAt_eq hs, hc, Bool.false_eq_true, if_false, List.filter_nil, List.length_nil, Nat.add_zero]
      exact ih'

theorem take_split {p q : Nat} (h : p ≤ q) (l : List Nat) : l.take q = l.take p ++ (l.take q).drop p := by
  have := List.take_append_drop p (l.take q)
  rw [List.take_take, Nat.min_eq_left h] at this
  exact this.symm
theorem mem_mid {p q i : Nat} {l : List Nat} (h : i ∈ (l.take q).drop p) : ∃ r, p ≤ r ∧ r < q ∧ l[r]? = some i := by
  obtain ⟨k, hk⟩ := List.mem_iff_getElem?.1 h
  rw [List.getElem?_drop, List.getElem?_take] at hk
  split at hk
  · exact ⟨p + k, by omega, by assumption, hk⟩
  · cases hk
theorem mid_mem {p q r i : Nat} {l : List Nat} (h1 : p ≤ r) (h2 : r < q) (h : l[r]? = some i) : i ∈ (l.take q).drop p := by
  refine List.mem_iff_getElem?.2 ⟨r - p, ?_⟩
  rw [List.getElem?_drop, List.getElem?_take, if_pos (by omega), show p + (r - p) = r by omega]
  exact h

theorem late_le {p q j : Nat} (h : p ≤ q) (hn : ∀ r i, p ≤ r → r < q → ord[r]? = some i → clsAt ss i = 3 → i ∉ ancOf anc j) :
    (((ord.take q).drop p).filter fun i => clsAt ss i == 3).length ≤ lateM ss anc (ord.take q) j := by
  unfold lateM
  rw [take_split h ord, List.filter_append, List.reverse_append, List.takeWhile_append_of_pos]
  · simp only [List.length_append, List.length_reverse]
    rw [← take_split h ord]
    omega
  · intro i hi
    simp only [List.mem_reverse, List.mem_filter, beq_iff_eq] at hi
    obtain ⟨r, h1, h2, h3⟩ := mem_mid hi.1
    have := hn r i h1 h2 h3 hi.2
    simp [this]
theorem fresh_mem {p q : Nat} (h : p ≤ q) (hn : ∀ r i, p ≤ r → r < q → ord[r]? = some i → clsAt ss i ≠ 3) {r i : Nat} (h1 : p ≤ r) (h2 : r < q) (h3 : ord[r]? = some i) (hc : clsAt ss i = 2) : i ∈ freshA ss (ord.take q) := by
  unfold freshA
  rw [take_split h ord, List.reverse_append, List.takeWhile_append_of_pos]
  · simp only [List.mem_filter, List.mem_append, List.mem_reverse]
    exact ⟨.inl (mid_mem h1 h2 h3), by simp [hc]⟩
  · intro k hk
    simp only [List.mem_reverse] at hk
    obtain ⟨r, h1, h2, h3⟩ := mem_mid hk
    simpa using hn r k h1 h2 h3
end
end Go.Abs
