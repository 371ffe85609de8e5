/- The judge and the document's judge tell the same: plain functions, no program in sight. -/
import Derived.Test.YtiimkdijiddjcaaDoorJP
set_option linter.unusedSimpArgs false
namespace Go.Proofs.YtiimkdijiddjcaaDoor.JP
set_option linter.unusedSimpArgs false
set_option linter.unusedVariables false
set_option linter.unusedSectionVars false
set_option linter.defProp false

/-- what both know is the same -/
structure R (s : St) (k : K) : Prop where
  bl : k.bs.length = s.wait.length
  xl : k.xs.length = s.ms.length
  b : ∀ (i : Nat) p, s.wait[i]? = some p → k.bs[i]? = some ⟨p.first, p.first + p.many - 1, p.state⟩
  x : ∀ (j : Nat) y, s.ms[j]? = some y → k.xs[j]? = some ⟨y.pub, y.seq, y.key, y.body, y.post, y.dl, y.ak, y.fi⟩
  bt : ∀ l, k.batches l = (List.range s.wait.length).filter fun i => decide ((s.wait[i]?).map Post.line = some l)
  all1 : ∀ l (t j : Nat), (k.all l)[t]? = some j → ∃ y, s.ms[j]? = some y ∧ y.line = l ∧ y.seq = t + 1
  all2 : ∀ (j : Nat) y, s.ms[j]? = some y → ∃ t : Nat, (k.all y.line)[t]? = some j ∧ y.seq = t + 1
  ends : ∀ l, ends l s.wait 0 = (k.all l).length
  last : k.last = s.tops
  tops : s.tops.length = 4
  tpos : ∀ t ∈ s.tops, 0 ≤ t
  held : ∀ q key, k.held (q, key) = true ↔ ∃ y ∈ s.ms, y.queue = q ∧ y.key = key ∧ y.hd = true
  one : ∀ (j1 j2 : Nat) y1 y2, s.ms[j1]? = some y1 → s.ms[j2]? = some y2 → y1.hd = true → y2.hd = true → y1.queue = y2.queue → y1.key = y2.key → j1 = j2
  holds : ∀ t j, k.holds t = some j ↔ ∃ g ∈ s.tags, g.tg = t ∧ g.state = 0 ∧ g.m = j
  acks : ∀ t j, k.acks t = some j ↔ ∃ g ∈ s.tags, g.tg = t ∧ g.state = 1 ∧ g.m = j
  tag1 : ∀ (i1 i2 : Nat) g1 g2, s.tags[i1]? = some g1 → s.tags[i2]? = some g2 → g1.tg = g2.tg → i1 = i2
  tagT : ∀ g ∈ s.tags, g.tag ≤ topOf s.tops g.client ∧ 0 ≤ g.client ∧ g.client < 4
  hm : ∀ g ∈ s.tags, ∃ y, s.ms[g.m]? = some y ∧ y.queue = g.queue ∧ (g.state = 0 → y.hd = true)
  hm2 : ∀ (i1 i2 : Nat) g1 g2, s.tags[i1]? = some g1 → s.tags[i2]? = some g2 → g1.state = 0 → g2.state = 0 → g1.m = g2.m → i1 = i2

theorem R.start : R St.start K.start where
  bl := rfl
  xl := rfl
  b := fun i p h => by simp [St.start] at h
  x := fun i p h => by simp [St.start] at h
  bt := fun l => by simp [St.start, K.start]
  all1 := fun l t j h => by simp [K.start] at h
  all2 := fun j y h => by simp [St.start] at h
  ends := fun l => rfl
  last := rfl
  tops := rfl
  tpos := fun t h => by simp [St.start] at h; omega
  held := fun q key => by simp [K.start, St.start]
  one := fun j1 j2 y1 y2 h => by simp [St.start] at h
  holds := fun t j => by simp [K.start, St.start]
  acks := fun t j => by simp [K.start, St.start]
  tag1 := fun i1 i2 g1 g2 h => by simp [St.start] at h
  tagT := fun g h => by simp [St.start] at h
  hm := fun g h => by simp [St.start] at h
  hm2 := fun i1 i2 g1 g2 h => by simp [St.start] at h

/-- one step of both -/
def Same (s : St) (k : K) (rs : Option St) (rk : Option K) : Prop := (rs = none ∧ rk = none) ∨ ∃ s' k', rs = some s' ∧ rk = some k' ∧ R s' k'

section
variable {s : St} {k : K} {a : Act}
theorem R.st (h : R s k) (i : Nat) : stK k.bs i = stOf s.wait i := by
  cases hp : s.wait[i]? with
  | none =>
    have : k.bs[i]? = none := by rw [List.getElem?_eq_none_iff] at hp ⊢; rw [h.bl]; exact hp
    simp [stK, stOf, hp, this]
  | some p => simp [stK, stOf, hp, h.b i p hp]

/- ## what is said of a batch -/
theorem ansL_none {st : Nat} : ∀ {l : List Post}, (∀ p ∈ l, ¬ (p.line = a.line ∧ p.state = 0)) → ansL a st l = none := by
  intro l
  induction l with
  | nil => intro _; rfl
  | cons p l ih =>
    intro h
    have h1 := h p (by simp)
    simp only [ansL, if_neg h1]
    rw [ih (fun q hq => h q (by simp [hq]))]; rfl
theorem ansL_at {st : Nat} : ∀ {l : List Post} {i : Nat} {p : Post}, l[i]? = some p → p.line = a.line ∧ p.state = 0 → (∀ (j : Nat) q, j < i → l[j]? = some q → ¬ (q.line = a.line ∧ q.state = 0)) →
    ansL a st l = if p.first + p.many - 1 ≠ a.seq then none else some (l.set i { p with state := st }) := by
  intro l
  induction l with
  | nil => intro i p h; simp at h
  | cons q l ih =>
    intro i p h hp hf
    cases i with
    | zero => simp at h; subst h; simp only [ansL, if_pos hp, List.set_cons_zero]
    | succ i =>
      have h0 := hf 0 q (by omega) rfl
      simp only [ansL, if_neg h0]
      rw [ih (by simpa using h) hp (fun j r hj hr => hf (j + 1) r (by omega) (by simpa using hr))]
      split <;> simp
theorem step_ans (h : R s k) (st : Nat) : Same s k (ansS s a st) (tolK k a st) := by
  by_cases hex : ∃ i : Nat, ∃ p, s.wait[i]? = some p ∧ p.line = a.line ∧ p.state = 0
  · -- the first one
    obtain ⟨i, hi, hmin⟩ : ∃ i : Nat, (∃ p, s.wait[i]? = some p ∧ p.line = a.line ∧ p.state = 0) ∧ ∀ j, j < i → ¬ ∃ p, s.wait[j]? = some p ∧ p.line = a.line ∧ p.state = 0 := by
      obtain ⟨i, hi⟩ := hex
      induction i using Nat.strongRecOn with
      | ind i ih =>
        by_cases hs : ∃ j, j < i ∧ ∃ p, s.wait[j]? = some p ∧ p.line = a.line ∧ p.state = 0
        · obtain ⟨j, hj, hp⟩ := hs; exact ih j hj hp
        · exact ⟨i, hi, fun j hj hp => hs ⟨j, hj, hp⟩⟩
    obtain ⟨p, hp, hl, hs0⟩ := hi
    have hil : i < s.wait.length := (List.getElem?_eq_some_iff.1 hp).1
    have hfind : (k.batches a.line).find? (fun i => decide (stK k.bs i = 0)) = some i := by
      rw [h.bt, List.find?_filter, List.find?_range_eq_some]
      refine ⟨by simp [hp, hl, h.st, stOf, hs0], List.mem_range.2 hil, fun j hj => ?_⟩
      have := hmin j hj
      cases hq : s.wait[j]? with
      | none => simp
      | some q =>
        simp only [Option.map_some, Option.some.injEq, h.st, stOf, hq, Option.getD_some, Bool.not_eq_true', Bool.and_eq_false_imp, decide_eq_true_eq, decide_eq_false_iff_not]
        intro e1; exact this ⟨q, hq, e1⟩
    have hans := ansL_at (st := st) hp ⟨hl, hs0⟩ (fun j q hj hq e => hmin j hj ⟨q, hq, e.1, e.2⟩)
    have hb := h.b i p hp
    by_cases e : p.first + p.many - 1 = a.seq
    · right
      refine ⟨{ s with wait := s.wait.set i { p with state := st } }, { k with bs := k.bs.modify i fun b => { b with state := st } }, ?_, ?_, ?_⟩
      · simp [ansS, hans, e]
      · rw [tolK, hfind]; simp [hb, e]
      · have hline : ∀ j : Nat, ((s.wait.set i { p with state := st })[j]?).map Post.line = (s.wait[j]?).map Post.line := by
          intro j; rw [List.getElem?_set]
          by_cases e : i = j
          · subst e; simp [hil, (List.getElem?_eq_some_iff.1 hp).2, Post.line]
          · simp [e]
        have hends : ∀ l, ends l (s.wait.set i { p with state := st }) 0 = ends l s.wait 0 := by
          have key : ∀ (w : List Post) (i : Nat) (p : Post) (l : Line) (n : Int), w[i]? = some p → ends l (w.set i { p with state := st }) n = ends l w n := by
            intro w
            induction w with
            | nil => intro i p l n h; simp at h
            | cons q w ih =>
              intro i p l n h
              cases i with
              | zero => simp at h; subst h; rfl
              | succ i => simp only [List.set_cons_succ, ends]; exact ih i p l _ (by simpa using h)
          exact fun l => key _ _ _ l 0 hp
        exact { h with
          bl := by simp [h.bl]
          b := fun j q hq => by
            simp only [List.getElem?_set] at hq
            rw [List.getElem?_modify]
            by_cases e : i = j
            · subst e; simp [hil] at hq; subst hq; simp [hb]
            · simp [e] at hq; simp [e, h.b j q hq]
          bt := fun l => by simp only [List.length_set, hline]; exact h.bt l
          ends := fun l => (hends l).trans (h.ends l) }
    · left
      refine ⟨by simp [ansS, hans, e], ?_⟩
      rw [tolK, hfind]; simp [hb, e]
  · left
    refine ⟨?_, ?_⟩
    · rw [ansS, ansL_none (fun p hp e => hex ?_)]; rfl
      obtain ⟨i, hi⟩ := List.mem_iff_getElem?.1 hp
      exact ⟨i, p, hi, e.1, e.2⟩
    · rw [tolK]
      have : (k.batches a.line).find? (fun i => decide (stK k.bs i = 0)) = none := by
        rw [List.find?_eq_none, h.bt]
        intro i hi
        simp only [List.mem_filter, List.mem_range, decide_eq_true_eq] at hi
        cases hq : s.wait[i]? with
        | none => simp [hq] at hi
        | some q =>
          simp only [hq, Option.map_some, Option.some.injEq] at hi
          simp only [h.st, stOf, hq, Option.map_some, Option.getD_some, decide_eq_true_eq]
          exact fun e => hex ⟨i, q, hq, hi.2, e⟩
      rw [this]

/- ## a batch is published -/
theorem ends_app (l : Line) (p : Post) : ∀ (w : List Post) (n : Int), ends l (w ++ [p]) n = if p.line = l then p.first + p.many - 1 else ends l w n := by
  intro w
  induction w with
  | nil => intro n; rfl
  | cons q w ih => intro n; simp only [List.cons_append, ends]; exact ih _
theorem step_pub (h : R s k) : Same s k (pubS s a) (pubK k a) := by
  have he := h.ends a.line
  by_cases hc : a.many < 1 ∨ 8 < a.many ∨ a.seq ≠ ends a.line s.wait 0 + 1
  · left
    exact ⟨by rw [pubS, if_pos hc], by rw [pubK, if_pos (by rw [← he]; exact hc)]⟩
  · right
    refine ⟨_, _, by rw [pubS, if_neg hc], by rw [pubK, if_neg (by rw [← he]; exact hc)], ?_⟩
    simp only [not_or, Int.not_lt, ne_eq, Decidable.not_not] at hc
    have hml : ((List.range a.many.toNat).map (newS a s.wait.length)).length = a.many.toNat := by simp
    have hnew : ∀ y, y ∈ (List.range a.many.toNat).map (newS a s.wait.length) → y.hd = false := by
      intro y hy; simp only [List.mem_map] at hy; obtain ⟨i, _, rfl⟩ := hy; rfl
    have hget : ∀ (j : Nat) y, (s.ms ++ (List.range a.many.toNat).map (newS a s.wait.length))[j]? = some y → s.ms[j]? = some y ∨ ∃ i : Nat, i < a.many.toNat ∧ j = s.ms.length + i ∧ y = newS a s.wait.length i := by
      intro j y hj
      rw [List.getElem?_append] at hj
      split at hj
      · exact .inl hj
      · right
        rename_i hlt
        rw [List.getElem?_map] at hj
        by_cases hi : j - s.ms.length < a.many.toNat
        · rw [List.getElem?_range hi] at hj
          simp at hj
          exact ⟨j - s.ms.length, hi, by omega, hj.symm⟩
        · rw [List.getElem?_eq_none (by simpa using hi)] at hj; cases hj
    have hold : ∀ (j : Nat) y, s.ms[j]? = some y → (s.ms ++ (List.range a.many.toNat).map (newS a s.wait.length))[j]? = some y := by
      intro j y hj; rw [List.getElem?_append_left (List.getElem?_eq_some_iff.1 hj).1]; exact hj
    have hhd : ∀ (j : Nat) y, (s.ms ++ (List.range a.many.toNat).map (newS a s.wait.length))[j]? = some y → y.hd = true → s.ms[j]? = some y := by
      intro j y hj hh
      rcases hget j y hj with h1 | ⟨i, _, _, rfl⟩
      · exact h1
      · cases hh
    exact { h with
      bl := by simp [h.bl]
      xl := by simp [h.xl]
      b := fun i p hp => by
        simp only [List.getElem?_append] at hp ⊢
        rw [h.bl]
        split at hp
        · rename_i hi; rw [if_pos hi]; exact h.b i p hp
        · rename_i hi
          rw [if_neg hi]
          have hi0 : i - s.wait.length = 0 := by
            cases hh : i - s.wait.length with
            | zero => rfl
            | succ m => rw [hh] at hp; simp at hp
          rw [hi0] at hp ⊢; simp at hp; subst hp; rfl
      x := fun j y hy => by
        rcases hget j y hy with h1 | ⟨i, hi, rfl, rfl⟩
        · rw [List.getElem?_append_left (by rw [h.xl]; exact (List.getElem?_eq_some_iff.1 h1).1)]; exact h.x j y h1
        · rw [← h.xl, List.getElem?_append_right (by omega), Nat.add_sub_cancel_left, List.getElem?_map, List.getElem?_range hi]
          simp [newK, newS, h.bl]
      bt := fun l => by
        simp only [List.length_append, List.length_cons, List.length_nil, List.range_succ, List.filter_append]
        have h1 : ((List.range s.wait.length).filter fun i => decide (((s.wait ++ [(⟨a.client, a.queue, a.key, a.seq, a.many, 0⟩ : Post)])[i]?).map Post.line = some l)) = k.batches l := by
          rw [h.bt]
          apply List.filter_congr
          intro i hi
          rw [List.getElem?_append_left (List.mem_range.1 hi)]
        rw [h1]
        simp only [upd]
        by_cases e : l = a.line
        · subst e
          simp [List.filter_cons, h.bl, Post.line, Act.line]
        · rw [if_neg e]
          simp [List.filter_cons, Post.line]
          exact fun e' => e e'.symm
      all1 := fun l t j hj => by
        simp only [upd] at hj
        by_cases e : l = a.line
        · rw [if_pos e, List.getElem?_append] at hj
          split at hj
          · rename_i ht
            obtain ⟨y, h1, h2, h3⟩ := h.all1 a.line t j hj
            exact ⟨y, hold j y h1, by rw [h2, e], h3⟩
          · rename_i ht
            rw [List.getElem?_map] at hj
            by_cases hi : t - (k.all a.line).length < a.many.toNat
            · rw [List.getElem?_range hi] at hj
              simp at hj
              refine ⟨newS a s.wait.length (t - (k.all a.line).length), ?_, by rw [e]; rfl, ?_⟩
              · rw [← hj, h.xl, List.getElem?_append_right (by omega), Nat.add_sub_cancel_left, List.getElem?_map, List.getElem?_range hi]; rfl
              · simp only [newS]; omega
            · rw [List.getElem?_eq_none (by simpa using hi)] at hj; cases hj
        · rw [if_neg e] at hj
          obtain ⟨y, h1, h2, h3⟩ := h.all1 l t j hj
          exact ⟨y, hold j y h1, h2, h3⟩
      all2 := fun j y hy => by
        simp only [upd]
        rcases hget j y hy with h1 | ⟨i, hi, rfl, rfl⟩
        · obtain ⟨t, h2, h3⟩ := h.all2 j y h1
          refine ⟨t, ?_, h3⟩
          split
          · rename_i e
            rw [← e, List.getElem?_append_left (List.getElem?_eq_some_iff.1 h2).1]; exact h2
          · exact h2
        · refine ⟨(k.all a.line).length + i, ?_, by simp only [newS]; omega⟩
          rw [if_pos (show (newS a s.wait.length i).line = a.line from rfl), List.getElem?_append_right (by omega), Nat.add_sub_cancel_left, List.getElem?_map, List.getElem?_range hi, h.xl]; rfl
      ends := fun l => by
        simp only [ends_app, upd]
        by_cases e : l = a.line
        · rw [if_pos e, if_pos (by rw [e]; rfl)]
          simp only [List.length_append, List.length_map, List.length_range]; omega
        · rw [if_neg e, if_neg (by exact fun e' => e e'.symm)]; exact h.ends l
      held := fun q key => by
        rw [h.held]
        constructor
        · rintro ⟨y, h1, h2⟩; exact ⟨y, List.mem_append_left _ h1, h2⟩
        · rintro ⟨y, h1, h2, h3, h4⟩
          rcases List.mem_append.1 h1 with h1 | h1
          · exact ⟨y, h1, h2, h3, h4⟩
          · rw [hnew y h1] at h4; cases h4
      one := fun j1 j2 y1 y2 g1 g2 d1 d2 => h.one j1 j2 y1 y2 (hhd j1 y1 g1 d1) (hhd j2 y2 g2 d2) d1 d2
      hm := fun g hg => by
        obtain ⟨y, h1, h2⟩ := h.hm g hg
        exact ⟨y, hold g.m y h1, h2⟩ }

/- ## a tag goes from one state to another one -/
theorem setL_none {f t : Nat} : ∀ {l : List Got}, (∀ g ∈ l, ¬ (g.tg = a.tg ∧ g.state = f)) → setL a f t l = none := by
  intro l
  induction l with
  | nil => intro _; rfl
  | cons g l ih =>
    intro h
    simp only [setL, if_neg (h g (by simp))]
    rw [ih (fun q hq => h q (by simp [hq]))]; rfl
theorem setL_at {f t : Nat} : ∀ {l : List Got} {i : Nat} {g : Got}, l[i]? = some g → g.tg = a.tg ∧ g.state = f → (∀ (j : Nat) q, j < i → l[j]? = some q → ¬ (q.tg = a.tg ∧ q.state = f)) →
    setL a f t l = some (g.m, l.set i { g with state := t }) := by
  intro l
  induction l with
  | nil => intro i g h; simp at h
  | cons q l ih =>
    intro i g h hp hf
    cases i with
    | zero => simp at h; subst h; simp only [setL, if_pos hp, List.set_cons_zero]
    | succ i =>
      have h0 := hf 0 q (by omega) rfl
      simp only [setL, if_neg h0]
      rw [ih (by simpa using h) hp (fun j r hj hr => hf (j + 1) r (by omega) (by simpa using hr))]
      rfl
/-- the one tag, if it stands in that state -/
theorem R.tagOf (h : R s k) (f : Nat) : (∃ (i : Nat) (g : Got), s.tags[i]? = some g ∧ g.tg = a.tg ∧ g.state = f ∧ ∀ t, setL a f t s.tags = some (g.m, s.tags.set i { g with state := t })) ∨ ((∀ g ∈ s.tags, ¬ (g.tg = a.tg ∧ g.state = f)) ∧ ∀ t, setL a f t s.tags = none) := by
  by_cases hex : ∃ g ∈ s.tags, g.tg = a.tg ∧ g.state = f
  · obtain ⟨g, hg, h1, h2⟩ := hex
    obtain ⟨i, hi⟩ := List.mem_iff_getElem?.1 hg
    refine .inl ⟨i, g, hi, h1, h2, fun t => setL_at hi ⟨h1, h2⟩ (fun j q hj hq e => ?_)⟩
    have := h.tag1 j i q g hq hi (e.1.trans h1.symm)
    omega
  · have : ∀ g ∈ s.tags, ¬ (g.tg = a.tg ∧ g.state = f) := fun g hg e => hex ⟨g, hg, e⟩
    exact .inr ⟨this, fun t => setL_none this⟩
theorem set_get {α : Type} {l : List α} {m : Nat} {y z : α} {j : Nat} (h : (l.set m y)[j]? = some z) : (j = m ∧ z = y) ∨ (j ≠ m ∧ l[j]? = some z) := by
  rw [List.getElem?_set] at h
  by_cases e : m = j
  · subst e
    left
    split at h
    · split at h
      · cases h; exact ⟨rfl, rfl⟩
      · cases h
    · exact absurd rfl (by assumption)
  · rw [if_neg e] at h; exact .inr ⟨fun e' => e e'.symm, h⟩
theorem set_same {α : Type} {l : List α} {m : Nat} {x : α} (y : α) (h : l[m]? = some x) : (l.set m y)[m]? = some y := by
  rw [List.getElem?_set_self (List.getElem?_eq_some_iff.1 h).1]
theorem set_other {α : Type} {l : List α} {m j : Nat} (y : α) (h : j ≠ m) : (l.set m y)[j]? = l[j]? := by
  rw [List.getElem?_set_ne (fun e => h e.symm)]
theorem mod_set {α : Type} {l : List α} {i : Nat} {x : α} (f : α → α) (h : l[i]? = some x) : l.modify i f = l.set i (f x) := by
  apply List.ext_getElem?
  intro k
  rw [List.getElem?_modify, List.getElem?_set]
  have hi : i < l.length := (List.getElem?_eq_some_iff.1 h).1
  by_cases e : i = k
  · subst e; simp [hi, (List.getElem?_eq_some_iff.1 h).2]
  · simp [e]

/-- what a tag's turn makes of who holds what -/
theorem R.turned (h : R s k) {i : Nat} {g : Got} (hi : s.tags[i]? = some g) (hg : g.tg = a.tg) (t v : Nat) (u : Tg) (j : Nat) :
    (∃ q ∈ s.tags.set i { g with state := t }, q.tg = u ∧ q.state = v ∧ q.m = j) ↔ if u = a.tg then t = v ∧ g.m = j else ∃ q ∈ s.tags, q.tg = u ∧ q.state = v ∧ q.m = j := by
  split
  · rename_i e
    constructor
    · rintro ⟨q, hq, h1, h2, h3⟩
      obtain ⟨n, hn⟩ := List.mem_iff_getElem?.1 hq
      rcases set_get hn with ⟨rfl, rfl⟩ | ⟨hne, hn⟩
      · exact ⟨h2, h3⟩
      · exact absurd (h.tag1 n i q g hn hi (by rw [h1, e, hg])) hne
    · rintro ⟨h1, h2⟩
      exact ⟨{ g with state := t }, List.mem_iff_getElem?.2 ⟨i, set_same _ hi⟩, by rw [e, ← hg]; rfl, h1, h2⟩
  · rename_i e
    constructor
    · rintro ⟨q, hq, h1, h2, h3⟩
      obtain ⟨n, hn⟩ := List.mem_iff_getElem?.1 hq
      rcases set_get hn with ⟨rfl, rfl⟩ | ⟨hne, hn⟩
      · exact absurd (h1.symm.trans hg) e
      · exact ⟨q, List.mem_iff_getElem?.2 ⟨n, hn⟩, h1, h2, h3⟩
    · rintro ⟨q, hq, h1, h2, h3⟩
      obtain ⟨n, hn⟩ := List.mem_iff_getElem?.1 hq
      have hne : n ≠ i := by rintro rfl; rw [hi] at hn; cases hn; exact e (h1.symm.trans hg)
      exact ⟨q, List.mem_iff_getElem?.2 ⟨n, by rw [set_other _ hne]; exact hn⟩, h1, h2, h3⟩
theorem tg_queue {g : Got} {a : Act} (h : g.tg = a.tg) : g.queue = a.queue := by
  simp only [Got.tg, Act.tg, Prod.mk.injEq] at h; exact h.2.1

/-- what both know behind a tag's turn from state f to t: of the message y becomes y' -/
theorem R.turn (h : R s k) {i f t : Nat} {g : Got} (hi : s.tags[i]? = some g) (hg : g.tg = a.tg) (hf : g.state = f) (ht : t ≠ 0) {y y' : Seen} (hy : s.ms[g.m]? = some y)
    (e1 : y'.queue = y.queue) (e2 : y'.pub = y.pub) (e3 : y'.seq = y.seq) (e4 : y'.key = y.key) (e6 : y'.hd = true → y.hd = true ∧ f ≠ 0) (e7 : f ≠ 0 → y'.hd = y.hd)
    {k' : K} (k1 : k'.bs = k.bs) (k2 : k'.batches = k.batches) (k3 : k'.all = k.all) (k4 : k'.last = k.last)
    (k5 : k'.xs = k.xs.set g.m ⟨y'.pub, y'.seq, y'.key, y'.body, y'.post, y'.dl, y'.ak, y'.fi⟩)
    (kh : ∀ q key, k'.held (q, key) = true ↔ ∃ z ∈ s.ms.set g.m y', z.queue = q ∧ z.key = key ∧ z.hd = true)
    (ko : ∀ u j, k'.holds u = some j ↔ if u = a.tg then False else k.holds u = some j)
    (kc : ∀ u j, k'.acks u = some j ↔ if u = a.tg then t = 1 ∧ g.m = j else k.acks u = some j) :
    R { s with tags := s.tags.set i { g with state := t }, ms := s.ms.set g.m y' } k' where
  bl := by rw [k1]; exact h.bl
  xl := by rw [k5]; simp [h.xl]
  b := fun i p hp => by rw [k1]; exact h.b i p hp
  x := fun j z hz => by
    rw [k5]
    rcases set_get hz with ⟨rfl, rfl⟩ | ⟨hne, hz⟩
    · exact set_same _ (h.x _ _ hy)
    · rw [set_other _ hne]; exact h.x j z hz
  bt := fun l => by rw [k2]; exact h.bt l
  all1 := fun l n j hj => by
    rw [k3] at hj
    obtain ⟨z, h1, h2, h3⟩ := h.all1 l n j hj
    by_cases e : j = g.m
    · subst e
      rw [hy] at h1; cases h1
      exact ⟨y', set_same _ hy, by rw [← h2]; simp [Seen.line, e1, e2, e4], by rw [e3]; exact h3⟩
    · exact ⟨z, by simp only; rw [set_other _ e]; exact h1, h2, h3⟩
  all2 := fun j z hz => by
    rw [k3]
    rcases set_get hz with ⟨rfl, rfl⟩ | ⟨hne, hz⟩
    · obtain ⟨n, h1, h2⟩ := h.all2 _ _ hy
      exact ⟨n, by rw [show z.line = y.line by simp [Seen.line, e1, e2, e4]]; exact h1, by rw [e3]; exact h2⟩
    · exact h.all2 j z hz
  ends := fun l => by rw [k3]; exact h.ends l
  last := by rw [k4]; exact h.last
  tops := h.tops
  tpos := h.tpos
  held := kh
  one := fun j1 j2 y1 y2 g1 g2 d1 d2 c1 c2 => by
    have back : ∀ (j : Nat) z, (s.ms.set g.m y')[j]? = some z → z.hd = true → ∃ w, s.ms[j]? = some w ∧ w.hd = true ∧ w.queue = z.queue ∧ w.key = z.key := by
      intro j z hz hh
      rcases set_get hz with ⟨rfl, rfl⟩ | ⟨hne, hz⟩
      · exact ⟨y, hy, (e6 hh).1, e1.symm, e4.symm⟩
      · exact ⟨z, hz, hh, rfl, rfl⟩
    obtain ⟨w1, a1, a2, a3, a4⟩ := back j1 y1 g1 d1
    obtain ⟨w2, b1, b2, b3, b4⟩ := back j2 y2 g2 d2
    exact h.one j1 j2 w1 w2 a1 b1 a2 b2 (by rw [a3, b3, c1]) (by rw [a4, b4, c2])
  holds := fun u j => by
    rw [ko, h.turned hi hg t 0 u j]
    split
    · exact ⟨fun h => h.elim, fun h => ht h.1⟩
    · exact h.holds u j
  acks := fun u j => by
    rw [kc, h.turned hi hg t 1 u j]
    split
    · exact Iff.rfl
    · exact h.acks u j
  tag1 := fun i1 i2 g1 g2 h1 h2 he => by
    have back : ∀ (n : Nat) q, (s.tags.set i { g with state := t })[n]? = some q → ∃ q', s.tags[n]? = some q' ∧ q'.tg = q.tg := by
      intro n q hq
      rcases set_get hq with ⟨rfl, rfl⟩ | ⟨hne, hq⟩
      · exact ⟨g, hi, rfl⟩
      · exact ⟨q, hq, rfl⟩
    obtain ⟨q1, a1, a2⟩ := back i1 g1 h1
    obtain ⟨q2, b1, b2⟩ := back i2 g2 h2
    exact h.tag1 i1 i2 q1 q2 a1 b1 (by rw [a2, b2, he])
  tagT := fun q hq => by
    rcases List.mem_or_eq_of_mem_set hq with hq | rfl
    · exact h.tagT q hq
    · exact h.tagT g (List.mem_of_getElem? hi)
  hm := fun q hq => by
    obtain ⟨n, hn⟩ := List.mem_iff_getElem?.1 hq
    rcases set_get hn with ⟨rfl, rfl⟩ | ⟨hne, hn⟩
    · obtain ⟨z, h1, h2, _⟩ := h.hm g (List.mem_of_getElem? hi)
      rw [hy] at h1; cases h1
      exact ⟨y', set_same _ hy, by rw [e1]; exact h2, fun h0 => absurd h0 ht⟩
    · obtain ⟨z, h1, h2, h3⟩ := h.hm q (List.mem_of_getElem? hn)
      by_cases e : q.m = g.m
      · rw [e, hy] at h1; cases h1
        refine ⟨y', by rw [e]; exact set_same _ hy, by rw [e1]; exact h2, fun h0 => ?_⟩
        by_cases hf0 : f = 0
        · exact absurd (h.hm2 n i q g hn hi h0 (by rw [hf, hf0]) e) hne
        · rw [e7 hf0]; exact h3 h0
      · exact ⟨z, by simp only; rw [set_other _ e]; exact h1, h2, h3⟩
  hm2 := fun i1 i2 g1 g2 h1 h2 s1 s2 he => by
    rcases set_get h1 with ⟨rfl, rfl⟩ | ⟨n1, h1⟩
    · exact absurd s1 ht
    · rcases set_get h2 with ⟨rfl, rfl⟩ | ⟨n2, h2⟩
      · exact absurd s2 ht
      · exact h.hm2 i1 i2 g1 g2 h1 h2 s1 s2 he
theorem step_lea (h : R s k) (ha : a.kind = 5 ∨ ¬ a.kind = 5) : Same s k (setS s a 0 (if a.kind = 5 then 1 else 2)) (leaK k a) := by
  rcases h.tagOf (a := a) 0 with ⟨i, g, hi, hg, hg0, hset⟩ | ⟨hno, hset⟩
  · right
    have hgm : g ∈ s.tags := List.mem_of_getElem? hi
    obtain ⟨y, hy, hq, hhd⟩ := h.hm g hgm
    have hx := h.x g.m y hy
    have hho : k.holds a.tg = some g.m := (h.holds _ _).2 ⟨g, hgm, hg, hg0, rfl⟩
    have hyq : y.queue = a.queue := hq.trans (tg_queue hg)
    have hyh : y.hd = true := hhd hg0
    have hlock : ∀ (y' : Seen), y'.queue = y.queue → y'.key = y.key → y'.hd = false → ∀ q key, upd k.held (a.queue, y.key) false (q, key) = true ↔ ∃ z ∈ s.ms.set g.m y', z.queue = q ∧ z.key = key ∧ z.hd = true := by
      intro y' f1 f2 f3 q key
      simp only [upd, Prod.mk.injEq]
      split
      · rename_i e
        constructor
        · intro h; cases h
        · rintro ⟨z, hz, h1, h2, h3⟩
          obtain ⟨n, hn⟩ := List.mem_iff_getElem?.1 hz
          rcases set_get hn with ⟨rfl, rfl⟩ | ⟨hne, hn⟩
          · rw [f3] at h3; cases h3
          · exact absurd (h.one n g.m z y hn hy h3 hyh (by rw [h1, e.1, hyq]) (by rw [h2, e.2])) hne
      · rename_i e
        rw [h.held]
        constructor
        · rintro ⟨z, hz, h1, h2, h3⟩
          obtain ⟨n, hn⟩ := List.mem_iff_getElem?.1 hz
          have hne : n ≠ g.m := by rintro rfl; rw [hy] at hn; cases hn; exact e ⟨by rw [← h1, hyq], h2.symm⟩
          exact ⟨z, List.mem_iff_getElem?.2 ⟨n, by rw [set_other _ hne]; exact hn⟩, h1, h2, h3⟩
        · rintro ⟨z, hz, h1, h2, h3⟩
          obtain ⟨n, hn⟩ := List.mem_iff_getElem?.1 hz
          rcases set_get hn with ⟨rfl, rfl⟩ | ⟨hne, hn⟩
          · rw [f3] at h3; cases h3
          · exact ⟨z, List.mem_iff_getElem?.2 ⟨n, hn⟩, h1, h2, h3⟩
    have hko : ∀ u j, upd k.holds a.tg none u = some j ↔ if u = a.tg then False else k.holds u = some j := by
      intro u j; simp only [upd]; split <;> simp
    have hnac : ∀ j, ¬ k.acks a.tg = some j := by
      intro j hj
      obtain ⟨q, hq, h1, h2, _⟩ := (h.acks _ _).1 hj
      obtain ⟨n, hn⟩ := List.mem_iff_getElem?.1 hq
      have := h.tag1 n i q g hn hi (h1.trans hg.symm)
      subst this
      rw [hi] at hn; cases hn; omega
    by_cases hk5 : a.kind = 5
    · refine ⟨{ s with tags := s.tags.set i { g with state := 1 }, ms := s.ms.set g.m { y with hd := false, ak := true } }, { k with holds := upd k.holds a.tg none, held := upd k.held (a.queue, y.key) false, xs := k.xs.set g.m ⟨y.pub, y.seq, y.key, y.body, y.post, y.dl, true, y.fi⟩, acks := upd k.acks a.tg (some g.m) }, ?_, ?_, ?_⟩
      · rw [if_pos hk5, setS, hset]; simp only [Option.map_some, modAt, mod_set _ hy]; rfl
      · rw [leaK, hho]; simp only [hx, if_pos hk5, mod_set _ hx]
      · exact h.turn (f := 0) (t := 1) (y' := { y with hd := false, ak := true }) hi hg hg0 (by omega) hy rfl rfl rfl rfl (fun h => by cases h) (fun h => absurd rfl h) rfl rfl rfl rfl rfl (hlock _ rfl rfl rfl) hko (fun u j => by simp only [upd]; split <;> simp)
    · refine ⟨{ s with tags := s.tags.set i { g with state := 2 }, ms := s.ms.set g.m { y with hd := false } }, { k with holds := upd k.holds a.tg none, held := upd k.held (a.queue, y.key) false }, ?_, ?_, ?_⟩
      · rw [if_neg hk5, setS, hset]; simp only [Option.map_some, modAt, mod_set _ hy]; rfl
      · rw [leaK, hho]; simp only [hx, if_neg hk5]
      · have hxs : k.xs = k.xs.set g.m ⟨y.pub, y.seq, y.key, y.body, y.post, y.dl, y.ak, y.fi⟩ := by
          apply List.ext_getElem?
          intro n
          by_cases e : n = g.m
          · subst e; rw [set_same _ hx]; exact hx
          · rw [set_other _ e]
        exact h.turn (f := 0) (t := 2) (y' := { y with hd := false }) hi hg hg0 (by omega) hy rfl rfl rfl rfl (fun h => by cases h) (fun h => absurd rfl h) rfl rfl rfl rfl hxs (hlock _ rfl rfl rfl) hko (fun u j => by
          split
          · rename_i e; rw [e]; exact ⟨fun h => absurd h (hnac j), fun h => by omega⟩
          · exact Iff.rfl)
  · left
    have : k.holds a.tg = none := by
      cases hh : k.holds a.tg with
      | none => rfl
      | some j =>
        obtain ⟨q, hq, h1, h2, _⟩ := (h.holds _ _).1 hh
        exact absurd ⟨h1, h2⟩ (hno q hq)
    exact ⟨by rw [setS, hset]; rfl, by rw [leaK, this]⟩
theorem step_set (h : R s k) : Same s k (setS s a 1 3) (setK k a) := by
  rcases h.tagOf (a := a) 1 with ⟨i, g, hi, hg, hg0, hset⟩ | ⟨hno, hset⟩
  · right
    have hgm : g ∈ s.tags := List.mem_of_getElem? hi
    obtain ⟨y, hy, hq, hhd⟩ := h.hm g hgm
    have hx := h.x g.m y hy
    have hho : k.acks a.tg = some g.m := (h.acks _ _).2 ⟨g, hgm, hg, hg0, rfl⟩
    have hnho : ∀ j, ¬ k.holds a.tg = some j := by
      intro j hj
      obtain ⟨q, hq, h1, h2, _⟩ := (h.holds _ _).1 hj
      obtain ⟨n, hn⟩ := List.mem_iff_getElem?.1 hq
      have := h.tag1 n i q g hn hi (h1.trans hg.symm)
      subst this
      rw [hi] at hn; cases hn; omega
    refine ⟨{ s with tags := s.tags.set i { g with state := 3 }, ms := s.ms.set g.m { y with fi := true } }, { k with acks := upd k.acks a.tg none, xs := k.xs.set g.m ⟨y.pub, y.seq, y.key, y.body, y.post, y.dl, y.ak, true⟩ }, ?_, ?_, ?_⟩
    · rw [setS, hset]; simp only [Option.map_some, modAt, mod_set _ hy]; rfl
    · rw [setK, hho]; simp only [mod_set _ hx]
    · refine h.turn (f := 1) (t := 3) (y' := { y with fi := true }) hi hg hg0 (by omega) hy rfl rfl rfl rfl (fun h => ⟨h, by omega⟩) (fun _ => rfl) rfl rfl rfl rfl rfl ?_ (fun u j => by
        split
        · rename_i e; rw [e]; exact ⟨fun h => absurd h (hnho j), fun h => h.elim⟩
        · exact Iff.rfl) (fun u j => by simp only [upd]; split <;> simp)
      intro q key
      rw [h.held]
      constructor
      · rintro ⟨z, hz, h1, h2, h3⟩
        obtain ⟨n, hn⟩ := List.mem_iff_getElem?.1 hz
        by_cases e : n = g.m
        · subst e; rw [hy] at hn; cases hn
          exact ⟨{ y with fi := true }, List.mem_iff_getElem?.2 ⟨g.m, set_same _ hy⟩, h1, h2, h3⟩
        · exact ⟨z, List.mem_iff_getElem?.2 ⟨n, by rw [set_other _ e]; exact hn⟩, h1, h2, h3⟩
      · rintro ⟨z, hz, h1, h2, h3⟩
        obtain ⟨n, hn⟩ := List.mem_iff_getElem?.1 hz
        rcases set_get hn with ⟨rfl, rfl⟩ | ⟨hne, hn⟩
        · exact ⟨y, List.mem_of_getElem? hy, h1, h2, h3⟩
        · exact ⟨z, List.mem_of_getElem? hn, h1, h2, h3⟩
  · left
    have : k.acks a.tg = none := by
      cases hh : k.acks a.tg with
      | none => rfl
      | some j =>
        obtain ⟨q, hq, h1, h2, _⟩ := (h.acks _ _).1 hh
        exact absurd ⟨h1, h2⟩ (hno q hq)
    exact ⟨by rw [setS, hset]; rfl, by rw [setK, this]⟩

/- ## a message is handed out -/
theorem lastM_unique {f : Seen → Bool} : ∀ {l : List Seen} {i : Nat} {o : Option Nat} {j : Nat} {y : Seen}, l[j]? = some y → f y = true → (∀ (n : Nat) z, l[n]? = some z → f z = true → n = j) → lastM f l i o = some (i + j) := by
  intro l
  induction l with
  | nil => intro i o j y h; simp at h
  | cons x l ih =>
    intro i o j y h hf hu
    simp only [lastM]
    cases j with
    | zero =>
      simp at h; subst h
      rw [if_pos hf]
      have hno : ∀ (l : List Seen) (i k : Nat), (∀ z ∈ l, f z = false) → lastM f l i (some k) = some k := by
        intro l
        induction l with
        | nil => intro i k _; rfl
        | cons z l ih2 => intro i k hz; simp only [lastM, hz z (by simp)]; exact ih2 _ _ fun w hw => hz w (by simp [hw])
      refine hno l (i + 1) i fun z hz => ?_
      obtain ⟨n, hn⟩ := List.mem_iff_getElem?.1 hz
      cases hfz : f z with
      | false => rfl
      | true => have := hu (n + 1) z (by simpa using hn) hfz; omega
    | succ j =>
      have := ih (i := i + 1) (o := if f x = true then some i else o) (j := j) (by simpa using h) hf (fun n z hn hz => by
        have := hu (n + 1) z (by simpa using hn) hz; omega)
      rw [this]; congr 1; omega
theorem lastM_none {f : Seen → Bool} : ∀ {l : List Seen} {i : Nat} {o : Option Nat}, (∀ z ∈ l, f z = false) → lastM f l i o = o := by
  intro l
  induction l with
  | nil => intro i o _; rfl
  | cons z l ih => intro i o hz; simp only [lastM, hz z (by simp)]; exact ih fun w hw => hz w (by simp [hw])
theorem topOf_mem {l : List Int} {c : Int} (hl : l.length = 4) (h0 : 0 ≤ c) (h4 : c < 4) : topOf l c ∈ l := by
  have : c.toNat < l.length := by omega
  rw [topOf, List.getD_eq_getElem?_getD, List.getElem?_eq_getElem this]; exact List.getElem_mem this
theorem topOf_set {l : List Int} {c d v : Int} (hl : l.length = 4) (h0 : 0 ≤ c) (h4 : c < 4) (d0 : 0 ≤ d) : topOf (l.set c.toNat v) d = if d = c then v else topOf l d := by
  simp only [topOf, List.getD_eq_getElem?_getD, List.getElem?_set]
  by_cases e : d = c
  · subst e; rw [if_pos rfl, if_pos rfl, if_pos (by omega)]; rfl
  · rw [if_neg (by omega), if_neg e]
theorem step_del (h : R s k) (hc : 0 ≤ a.client ∧ a.client < 4) : Same s k (delS s a) (delK k a) := by
  have hlast : topOf k.last a.client = topOf s.tops a.client := by rw [h.last]
  have htp : 0 ≤ topOf s.tops a.client := h.tpos _ (topOf_mem h.tops hc.1 hc.2)
  by_cases h1 : a.tag ≤ topOf s.tops a.client
  · exact .inl ⟨by rw [delS, if_pos (.inr h1)], by rw [delK, if_pos (.inl (by rw [hlast]; exact h1))]⟩
  have hS : delS s a = delT s a := by rw [delS, if_neg (by omega)]
  by_cases h2 : k.held a.lock = true
  · refine .inl ⟨?_, by rw [delK, if_pos (.inr (.inr (.inr h2)))]⟩
    rw [hS, delT, if_pos]
    obtain ⟨y, g1, g2, g3, g4⟩ := (h.held a.queue a.mkey).1 h2
    simp only [heldIn, List.any_eq_true]
    exact ⟨y, g1, by simp [g2, g3, g4]⟩
  have hnh : heldIn a s.ms = false := by
    cases hh : heldIn a s.ms with
    | false => rfl
    | true =>
      simp only [heldIn, List.any_eq_true, decide_eq_true_eq] at hh
      obtain ⟨y, g1, g2⟩ := hh
      exact absurd ((h.held a.queue a.mkey).2 ⟨y, g1, g2⟩) h2
  have hS2 : delS s a = match lastM (bare a s.wait) s.ms 0 none with
    | none => none
    | some k => match s.ms[k]? with
      | none => none
      | some x => delU s a k x := by rw [hS, delT, hnh]; rfl
  have hbare : ∀ y, bare a s.wait y = true ↔ (y.line = a.mline ∧ y.seq = a.mseq ∧ y.body = a.mbody ∧ stOf s.wait y.post ≠ 2) := by
    intro y
    simp only [bare, decide_eq_true_eq, Seen.line, Act.mline, Prod.mk.injEq]
    constructor
    · rintro ⟨e1, e2, e3, e4, e5, e6⟩; exact ⟨⟨e2, e1, e4⟩, e3, e5, e6⟩
    · rintro ⟨⟨e2, e1, e4⟩, e3, e5, e6⟩; exact ⟨e1, e2, e3, e4, e5, e6⟩
  by_cases h3 : a.mseq < 1 ∨ a.mseq > (k.all a.mline).length
  · refine .inl ⟨?_, by rw [delK, if_pos (.inr (h3.imp_right .inl))]⟩
    rw [hS2, lastM_none]
    intro z hz
    cases hb : bare a s.wait z with
    | false => rfl
    | true =>
      obtain ⟨e1, e2, _, _⟩ := (hbare z).1 hb
      obtain ⟨n, hn⟩ := List.mem_iff_getElem?.1 hz
      obtain ⟨t, g1, g2⟩ := h.all2 n z hn
      rw [e1] at g1
      have := (List.getElem?_eq_some_iff.1 g1).1
      omega
  have hK : delK k a = match (k.all a.mline)[(a.mseq - 1).toNat]? with
    | none => none
    | some j => match k.xs[j]? with
      | none => none
      | some x => delX k a j x := by
    rw [delK, if_neg]
    · rfl
    rintro (e | e | e | e)
    · rw [hlast] at e; exact h1 e
    · exact h3 (.inl e)
    · exact h3 (.inr e)
    · exact h2 e
  obtain ⟨q, hq⟩ : ∃ q : Nat, a.mseq = q + 1 := ⟨(a.mseq - 1).toNat, by omega⟩
  have hqt : (a.mseq - 1).toNat = q := by omega
  have hql : q < (k.all a.mline).length := by omega
  obtain ⟨j, hj⟩ : ∃ j, (k.all a.mline)[q]? = some j := ⟨(k.all a.mline)[q], List.getElem?_eq_getElem hql⟩
  obtain ⟨y, hy, hyl, hys⟩ := h.all1 _ _ _ hj
  have hx := h.x j y hy
  have huni : ∀ (n : Nat) z, s.ms[n]? = some z → z.line = a.mline → z.seq = a.mseq → n = j := by
    intro n z hn e1 e2
    obtain ⟨t, g1, g2⟩ := h.all2 n z hn
    rw [e1] at g1
    have : t = q := by omega
    subst this
    rw [g1] at hj; exact Option.some.inj hj
  have hK2 : delK k a = delX k a j ⟨y.pub, y.seq, y.key, y.body, y.post, y.dl, y.ak, y.fi⟩ := by rw [hK, hqt, hj]; simp only [hx]
  have hyl' : y.pub = a.pub ∧ y.queue = a.queue ∧ y.key = a.mkey := by
    simp only [Seen.line, Act.mline, Prod.mk.injEq] at hyl; exact ⟨hyl.1, hyl.2.1, hyl.2.2⟩
  have hst := h.st y.post
  rcases (Classical.em (y.body = a.mbody ∧ stOf s.wait y.post ≠ 2)).symm with h4 | h4
  · refine .inl ⟨?_, ?_⟩
    · rw [hS2, lastM_none]
      intro z hz
      cases hb : bare a s.wait z with
      | false => rfl
      | true =>
        obtain ⟨e1, e2, e3, e4⟩ := (hbare z).1 hb
        obtain ⟨n, hn⟩ := List.mem_iff_getElem?.1 hz
        have := huni n z hn e1 e2
        subst this
        rw [hy] at hn; cases hn
        exact absurd ⟨e3, e4⟩ h4
    · rw [hK2, delX, if_pos]
      by_cases e : y.body = a.mbody
      · refine .inr (.inl ?_)
        rw [hst]
        exact Classical.byContradiction fun e' => h4 ⟨e, e'⟩
      · exact .inl fun e' => e e'.2.2.2
  have hlm : lastM (bare a s.wait) s.ms 0 none = some j := by
    have := lastM_unique (f := bare a s.wait) (i := 0) (o := none) hy ((hbare y).2 ⟨hyl, by omega, h4.1, h4.2⟩) (fun n z hn hz => by
      obtain ⟨e1, e2, _, _⟩ := (hbare z).1 hz
      exact huni n z hn e1 e2)
    simpa using this
  have hS3 : delS s a = delU s a j y := by rw [hS2, hlm]; simp only [hy]
  by_cases h5 : y.fi = true ∨ a.again ≠ y.dl
  · refine .inl ⟨by rw [hS3, delU, if_pos h5], ?_⟩
    rw [hK2, delX, if_pos]
    rcases h5 with h5 | h5
    · exact .inr (.inr (.inl h5))
    · exact .inr (.inr (.inr fun e => h5 e.symm))
  have hag : a.again = y.dl := Classical.byContradiction fun e => h5 (.inr e)
  have hfi : y.fi = false := by cases hh : y.fi with | false => rfl | true => exact absurd (.inl hh) h5
  -- is there one ahead of it?
  have hahead : ahead a s.wait s.ms = true ↔ ((k.all a.mline).take q).any (behind k) = true := by
    simp only [ahead, List.any_eq_true, decide_eq_true_eq]
    constructor
    · rintro ⟨z, hz, e1, e2, e3, e4, e5, e6⟩
      obtain ⟨n, hn⟩ := List.mem_iff_getElem?.1 hz
      obtain ⟨t, g1, g2⟩ := h.all2 n z hn
      have hzl : z.line = a.mline := by simp [Seen.line, Act.mline, e1, e2, e3]
      rw [hzl] at g1
      refine ⟨n, List.mem_iff_getElem?.2 ⟨t, ?_⟩, ?_⟩
      · rw [List.getElem?_take, if_pos (by omega)]; exact g1
      · have := h.x n z hn
        simp [behind, dlK, bK, this, e6, h.st, e5]
    · rintro ⟨n, hn, hb⟩
      obtain ⟨t, ht⟩ := List.mem_iff_getElem?.1 hn
      rw [List.getElem?_take] at ht
      split at ht
      · rename_i htq
        obtain ⟨z, g1, g2, g3⟩ := h.all1 _ _ _ ht
        have hzx := h.x n z g1
        simp only [Seen.line, Act.mline, Prod.mk.injEq] at g2
        simp only [behind, dlK, bK, hzx, Option.map_some, Option.getD_some, h.st, decide_eq_true_eq] at hb
        exact ⟨z, List.mem_of_getElem? g1, g2.2.1, g2.1, g2.2.2, by omega, hb.2, hb.1⟩
      · cases ht
  have hKn : ¬ (¬ (y.pub = a.pub ∧ y.seq = a.mseq ∧ y.key = a.mkey ∧ y.body = a.mbody) ∨ stK k.bs y.post = 2 ∨ y.fi = true ∨ y.dl ≠ a.again) := by
    rintro (e | e | e | e)
    · exact e ⟨hyl'.1, by omega, hyl'.2.2, h4.1⟩
    · rw [hst] at e; exact h4.2 e
    · rw [hfi] at e; cases e
    · exact e hag.symm
  by_cases h6 : a.again = false ∧ ahead a s.wait s.ms = true
  · refine .inl ⟨by rw [hS3, delU, if_neg h5, if_pos h6], ?_⟩
    rw [hK2, delX, if_neg hKn, if_pos]
    exact ⟨by rw [← hag]; exact h6.1, by rw [hqt]; exact hahead.1 h6.2⟩
  right
  refine ⟨_, _, by rw [hS3, delU, if_neg h5, if_neg h6], by rw [hK2, delX, if_neg hKn, if_neg (by rw [hqt]; rintro ⟨e1, e2⟩; exact h6 ⟨by rw [hag]; exact e1, hahead.2 e2⟩)], ?_⟩
  have hydf : y.hd = false := by
    cases hh : y.hd with
    | false => rfl
    | true => exact absurd ((h.held a.queue a.mkey).2 ⟨y, List.mem_of_getElem? hy, hyl'.2.1, hyl'.2.2, hh⟩) h2
  have hmy : modAt s.ms j (fun x => { x with dl := true, hd := true, ak := false }) = s.ms.set j { y with dl := true, hd := true, ak := false } := by rw [modAt, mod_set _ hy]
  have hmx : k.xs.modify j (fun x => { x with dl := true, ak := false }) = k.xs.set j ⟨y.pub, y.seq, y.key, y.body, y.post, true, false, y.fi⟩ := by rw [mod_set _ hx]
  rw [delR, hmy, hmx]
  -- the new tag is no elder one
  have hnew : ∀ g ∈ s.tags, g.tg ≠ a.tg := by
    intro g hg e
    simp only [Got.tg, Act.tg, Prod.mk.injEq] at e
    have := (h.tagT g hg).1
    rw [e.1, e.2.2] at this
    omega
  have hnm : ∀ g ∈ s.tags, g.state = 0 → g.m ≠ j := by
    intro g hg h0 e
    obtain ⟨z, g1, _, g3⟩ := h.hm g hg
    rw [e, hy] at g1; cases g1
    rw [g3 h0] at hydf; cases hydf
  have htag : ∀ (n : Nat) g, (s.tags ++ [(⟨a.client, a.queue, a.tag, j, 0⟩ : Got)])[n]? = some g → s.tags[n]? = some g ∨ (n = s.tags.length ∧ g = ⟨a.client, a.queue, a.tag, j, 0⟩) := by
    intro n g hn
    rw [List.getElem?_append] at hn
    split at hn
    · exact .inl hn
    · rename_i hlt
      have hi0 : n - s.tags.length = 0 := by
        cases hh : n - s.tags.length with
        | zero => rfl
        | succ m => rw [hh] at hn; simp at hn
      rw [hi0] at hn; simp at hn
      exact .inr ⟨by omega, hn.symm⟩
  exact { h with
    xl := by simp [h.xl]
    x := fun n z hz => by
      rcases set_get hz with ⟨rfl, rfl⟩ | ⟨hne, hz⟩
      · exact set_same _ hx
      · simp only; rw [set_other _ hne]; exact h.x n z hz
    all1 := fun l n i hi => by
      obtain ⟨z, g1, g2, g3⟩ := h.all1 l n i hi
      by_cases e : i = j
      · subst e
        rw [hy] at g1; cases g1
        exact ⟨_, set_same _ hy, g2, g3⟩
      · exact ⟨z, by simp only; rw [set_other _ e]; exact g1, g2, g3⟩
    all2 := fun n z hz => by
      rcases set_get hz with ⟨rfl, rfl⟩ | ⟨hne, hz⟩
      · obtain ⟨t, f1, f2⟩ := h.all2 _ _ hy; exact ⟨t, f1, f2⟩
      · exact h.all2 n z hz
    last := by simp only [h.last]
    tops := by simp [h.tops]
    tpos := fun t ht => by
      rcases List.mem_or_eq_of_mem_set ht with ht | rfl
      · exact h.tpos t ht
      · omega
    held := fun q' key => by
      simp only [upd, Act.lock, Prod.mk.injEq]
      split
      · rename_i e
        exact ⟨fun _ => ⟨_, List.mem_iff_getElem?.2 ⟨j, set_same _ hy⟩, hyl'.2.1.trans e.1.symm, hyl'.2.2.trans e.2.symm, rfl⟩, fun _ => rfl⟩
      · rename_i e
        rw [h.held]
        constructor
        · rintro ⟨z, hz, e1, e2, e3⟩
          obtain ⟨n, hn⟩ := List.mem_iff_getElem?.1 hz
          have hne : n ≠ j := by rintro rfl; rw [hy] at hn; cases hn; rw [e3] at hydf; cases hydf
          exact ⟨z, List.mem_iff_getElem?.2 ⟨n, by rw [set_other _ hne]; exact hn⟩, e1, e2, e3⟩
        · rintro ⟨z, hz, e1, e2, e3⟩
          obtain ⟨n, hn⟩ := List.mem_iff_getElem?.1 hz
          rcases set_get hn with ⟨rfl, rfl⟩ | ⟨hne, hn⟩
          · exact absurd ⟨e1.symm.trans hyl'.2.1, e2.symm.trans hyl'.2.2⟩ e
          · exact ⟨z, List.mem_of_getElem? hn, e1, e2, e3⟩
    one := fun j1 j2 y1 y2 g1 g2 d1 d2 c1 c2 => by
      have hlk : ∀ (n : Nat) z, s.ms[n]? = some z → z.hd = true → ¬ (z.queue = y.queue ∧ z.key = y.key) := by
        intro n z hn hh e
        exact h2 ((h.held a.queue a.mkey).2 ⟨z, List.mem_of_getElem? hn, e.1.trans hyl'.2.1, e.2.trans hyl'.2.2, hh⟩)
      rcases set_get g1 with ⟨a1, a2⟩ | ⟨n1, f1⟩
      · rcases set_get g2 with ⟨b1, b2⟩ | ⟨n2, f2⟩
        · rw [a1, b1]
        · rw [a2] at c1 c2
          exact absurd ⟨c1.symm, c2.symm⟩ (hlk j2 y2 f2 d2)
      · rcases set_get g2 with ⟨b1, b2⟩ | ⟨n2, f2⟩
        · rw [b2] at c1 c2
          exact absurd ⟨c1, c2⟩ (hlk j1 y1 f1 d1)
        · exact h.one j1 j2 y1 y2 f1 f2 d1 d2 c1 c2
    holds := fun t i => by
      simp only [upd]
      split
      · rename_i e
        constructor
        · intro e'
          cases e'
          exact ⟨_, List.mem_append_right _ (List.mem_singleton.2 rfl), e.symm, rfl, rfl⟩
        · rintro ⟨g, hg, e1, e2, e3⟩
          rcases List.mem_append.1 hg with hg | hg
          · exact absurd (e1.trans e) (hnew g hg)
          · rw [List.mem_singleton.1 hg] at e3; rw [← e3]
      · rename_i e
        rw [h.holds]
        constructor
        · rintro ⟨g, hg, e1⟩; exact ⟨g, List.mem_append_left _ hg, e1⟩
        · rintro ⟨g, hg, e1, e2, e3⟩
          rcases List.mem_append.1 hg with hg | hg
          · exact ⟨g, hg, e1, e2, e3⟩
          · rw [List.mem_singleton.1 hg] at e1; exact absurd e1.symm e
    acks := fun t i => by
      rw [h.acks]
      constructor
      · rintro ⟨g, hg, e1⟩; exact ⟨g, List.mem_append_left _ hg, e1⟩
      · rintro ⟨g, hg, e1, e2, e3⟩
        rcases List.mem_append.1 hg with hg | hg
        · exact ⟨g, hg, e1, e2, e3⟩
        · rw [List.mem_singleton.1 hg] at e2; cases e2
    tag1 := fun i1 i2 g1 g2 e1 e2 e3 => by
      rcases htag i1 g1 e1 with f1 | ⟨f1, rfl⟩
      · rcases htag i2 g2 e2 with f2 | ⟨f2, rfl⟩
        · exact h.tag1 i1 i2 g1 g2 f1 f2 e3
        · exact absurd e3 (hnew g1 (List.mem_of_getElem? f1))
      · rcases htag i2 g2 e2 with f2 | ⟨f2, rfl⟩
        · exact absurd e3.symm (hnew g2 (List.mem_of_getElem? f2))
        · omega
    tagT := fun g hg => by
      rcases List.mem_append.1 hg with hg | hg
      · have := h.tagT g hg
        refine ⟨?_, this.2⟩
        simp only
        rw [topOf_set h.tops hc.1 hc.2 this.2.1]
        split
        · rename_i e; rw [e] at this; omega
        · exact this.1
      · rw [List.mem_singleton.1 hg]
        refine ⟨?_, hc⟩
        simp only
        rw [topOf_set h.tops hc.1 hc.2 hc.1, if_pos rfl]; exact Int.le_refl _
    hm := fun g hg => by
      rcases List.mem_append.1 hg with hg | hg
      · obtain ⟨z, g1, g2, g3⟩ := h.hm g hg
        by_cases e : g.m = j
        · rw [e, hy] at g1; cases g1
          exact ⟨{ y with dl := true, hd := true, ak := false }, by rw [e]; exact set_same _ hy, g2, fun _ => rfl⟩
        · exact ⟨z, by simp only; rw [set_other _ e]; exact g1, g2, g3⟩
      · rw [List.mem_singleton.1 hg]
        exact ⟨_, set_same _ hy, hyl'.2.1, fun _ => rfl⟩
    hm2 := fun i1 i2 g1 g2 e1 e2 e3 e4 e5 => by
      rcases htag i1 g1 e1 with f1 | ⟨f1, rfl⟩
      · rcases htag i2 g2 e2 with f2 | ⟨f2, rfl⟩
        · exact h.hm2 i1 i2 g1 g2 f1 f2 e3 e4 e5
        · exact absurd e5 (hnm g1 (List.mem_of_getElem? f1) e3)
      · rcases htag i2 g2 e2 with f2 | ⟨f2, rfl⟩
        · exact absurd e5.symm (hnm g2 (List.mem_of_getElem? f2) e4)
        · omega }

theorem step (h : R s k) (a : Act) : Same s k (addS s a) (addK k a) := by
  by_cases hb : a.client < 0 ∨ 4 ≤ a.client ∨ a.queue < 0 ∨ 4 ≤ a.queue
  · exact .inl ⟨by rw [addS, if_pos hb], by rw [addK, if_pos hb]⟩
  rw [addS, if_neg hb, addK, if_neg hb]
  by_cases k1 : a.kind = 1
  · rw [if_pos k1, if_pos k1]; exact step_pub h
  rw [if_neg k1, if_neg k1]
  by_cases k2 : a.kind = 2
  · rw [if_pos k2, if_pos k2]; exact step_ans h 1
  rw [if_neg k2, if_neg k2]
  by_cases k3 : a.kind = 3
  · rw [if_pos k3, if_pos k3]; exact step_ans h 2
  rw [if_neg k3, if_neg k3]
  by_cases k4 : a.kind = 4
  · rw [if_pos k4, if_pos k4]; exact step_del h ⟨by omega, by omega⟩
  rw [if_neg k4, if_neg k4]
  by_cases k5 : a.kind = 5
  · rw [if_pos k5, if_pos (.inl k5)]
    have := step_lea (a := a) h (.inl k5)
    rwa [if_pos k5] at this
  rw [if_neg k5]
  by_cases k7 : a.kind = 7 ∨ a.kind = 8
  · rw [if_pos k7, if_pos (.inr k7)]
    have := step_lea (a := a) h (.inr k5)
    rwa [if_neg k5] at this
  rw [if_neg k7, if_neg (show ¬ (a.kind = 5 ∨ a.kind = 7 ∨ a.kind = 8) by omega)]
  by_cases k6 : a.kind = 6
  · rw [if_pos k6, if_pos k6]; exact step_set h
  rw [if_neg k6, if_neg k6]
  by_cases k9 : a.kind = 9
  · rw [if_pos k9, if_pos k9]; exact .inr ⟨s, k, rfl, rfl, h⟩
  · rw [if_neg k9, if_neg k9]; exact .inl ⟨rfl, rfl⟩
theorem runs (l : List Act) : ∀ {s : St} {k : K} (i : Nat), R s k → (∃ n, runS s l i = .inr n ∧ runK k l i = .inr n) ∨ ∃ s' k', runS s l i = .inl s' ∧ runK k l i = .inl k' ∧ R s' k' := by
  induction l with
  | nil => intro s k i h; exact .inr ⟨s, k, rfl, rfl, h⟩
  | cons a l ih =>
    intro s k i h
    simp only [runS, runK]
    rcases step h a with ⟨e1, e2⟩ | ⟨s', k', e1, e2, h2⟩
    · exact .inl ⟨i + 1, by rw [e1], by rw [e2]⟩
    · rw [e1, e2]; exact ih (i + 1) h2
/-- what is open is the same -/
theorem R.open_ (h : R s k) : (openS s).map (fun x => (x.pub, x.seq, x.key, x.body)) = (openK k).map (fun x => (x.pub, x.seq, x.key, x.body)) := by
  have hxs : k.xs = s.ms.map fun y => ⟨y.pub, y.seq, y.key, y.body, y.post, y.dl, y.ak, y.fi⟩ := by
    apply List.ext_getElem?
    intro n
    rw [List.getElem?_map]
    cases hn : s.ms[n]? with
    | none => rw [List.getElem?_eq_none_iff] at hn; rw [List.getElem?_eq_none (by rw [h.xl]; exact hn)]; rfl
    | some y => rw [h.x n y hn]; rfl
  rw [openK, hxs, List.filter_map, List.map_map, openS]
  have : (s.ms.filter ((fun x : KX => decide (stK k.bs x.b = 1 ∧ x.ak = false ∧ x.se = false)) ∘ fun y => (⟨y.pub, y.seq, y.key, y.body, y.post, y.dl, y.ak, y.fi⟩ : KX))) = s.ms.filter fun x => decide (stOf s.wait x.post = 1 ∧ x.ak = false ∧ x.fi = false) := by
    apply List.filter_congr
    intro y _
    simp only [Function.comp, h.st]
  rw [this]
  rfl
end
end Go.Proofs.YtiimkdijiddjcaaDoor.JP
