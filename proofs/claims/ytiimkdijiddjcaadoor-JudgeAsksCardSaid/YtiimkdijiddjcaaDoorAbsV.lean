/- A region that draws its order: the invariant, and what it comes to. -/
import Derived.Test.YtiimkdijiddjcaaDoorAbsU
namespace Go.Abs
open Go

section
variable {P : Program} {B0 : Nat} {μ : Mu}

theorem VR.of_bool {v : Value} {b : Bool} (h : VR μ v (.bool b)) : v = .bool b := by
  cases h with
  | one h => cases h with
    | s h => cases h; rfl

theorem cStep_spec {ops : Array Oper} {o : Oper} {s : Step} (hs : cStep P ops o = some s) : s.dst = o.dst ∧ cGuard ops o.guard = some s.guard ∧ s.chk = 0 ∧ s.sv = false := by
  simp only [cStep, Option.bind_eq_some_iff] at hs
  obtain ⟨ao, _, hs⟩ := hs
  split at hs
  · simp only [Option.map_eq_some_iff] at hs
    obtain ⟨g, hg, rfl⟩ := hs
    exact ⟨rfl, hg, rfl, rfl⟩
  · cases hs

theorem wanted_eq {ops : Array Oper} {o : Oper} {s : Step} (hs : cStep P ops o = some s) {fr : Fr} {tm : Array Value} (hlt : ∀ t ∈ namesOf s, t < tm.size) (hfr : FrR μ fr tm (namesOf s)) : Region.wanted o (yielded ops tm) = wantedS fr s.guard := by
  obtain ⟨_, hg, _, _⟩ := cStep_spec hs
  unfold Region.wanted
  cases hog : o.guard with
  | none =>
    rw [hog] at hg
    simp only [cGuard, Option.some.injEq] at hg
    rw [← hg]
    rfl
  | some jw =>
    obtain ⟨j, want⟩ := jw
    rw [hog] at hg
    simp only [cGuard, Option.bind_eq_some_iff, Option.map_eq_some_iff] at hg
    obtain ⟨oj, hoj, d, hd, e⟩ := hg
    have hm : d ∈ namesOf s := by rw [namesOf, ← e]; simp [gSlots]
    have hdl := hlt d hm
    have hv := hfr d hm
    rw [← e]
    simp only [wantedS, yielded, hoj, Option.bind_some, hd]
    rw [Array.getElem?_eq_getElem hdl]
    simp only [Array.getD, hdl, dif_pos] at hv
    change VR μ (lget fr d) tm[d] at hv
    generalize lget fr d = x at hv ⊢
    generalize tm[d] = y at hv ⊢
    by_cases hy : ∃ b, y = .bool b
    · obtain ⟨b, rfl⟩ := hy
      rw [hv.of_bool]
      simp
    · have hx : ∀ b, x ≠ .bool b := by
        rintro b rfl
        exact hy ⟨b, hv.bool⟩
      cases y <;> first
        | exact absurd ⟨_, rfl⟩ hy
        | (cases x <;> first | exact absurd rfl (hx _) | rfl)

def gOver (g g0 g0' : G) : G := fun id => match g id, g0 id with
  | some o, none => some o
  | _, _ => g0' id

/-- one wanted operation, run on a part of the memory -/
theorem lift {call : Call} (hcall : CallOk P B0 call) {o : Oper} {ops : Array Oper} {s : Step} (hs : cStep P ops o = some s) {g : G} {H H' : AHeap} {fr : Fr} {a : Act} {w : World} {v : Value} (hrep : Rep B0 μ g w) (hB : B0 ≤ w.heap.size) (hwf : wfA H)
    (hsub : ∀ id x, H.get id = some x → g id = some x) (hX : ∀ id x, g id = some x → H.get id = none → wrO (some x))
    (hgap : ∀ id, H.next ≤ id → id < H'.next → μ id = none) (hfr : FrR μ fr a.tmps s.op.slots) (hx : stepRun call s fr H = some (v, H')) {K : Act → World → Prop} {Q : Exit → Act → World → Prop}
    (hK : ∀ μ' v' w', Out B0 μ g w H.next H'.next μ' (gOver g H.get H'.get) w' → VR μ' v v' → K (a.put o.dst v') w') : o.wp P a w K Q := by
  refine op_sound hcall hs (hrep.sub hsub) hB hwf hgap hfr hx fun μ' v' w' ho hv => hK μ' v' w' ?_ hv
  refine Out.frame hrep hsub (fun id => (∃ x, g id = some x) ∧ H.get id = none) (fun id ⟨⟨x, h1⟩, h2⟩ => ⟨by rw [h1]; exact hX id x h1 h2, h2⟩) ho ?_ ?_
  · rintro id ⟨⟨x, h1⟩, h2⟩
    simp only [gOver, h1, h2]
  · intro id hn
    simp only [gOver]
    split
    · rename_i x h1 h2; exact absurd ⟨⟨x, h1⟩, h2⟩ hn
    · rfl
theorem gOver_same {g g0 : G} (hsub : ∀ id x, g0 id = some x → g id = some x) : gOver g g0 g0 = g := by
  funext id
  simp only [gOver]
  split
  · rename_i h1 h2; exact h1.symm
  · rename_i hn
    cases h0 : g0 id with
    | some x => exact (hsub id x h0).symm
    | none =>
      cases hg : g id with
      | none => rfl
      | some x => exact absurd h0 (hn x hg)

end

section
variable (P : Program) (B0 : Nat) (call : Call) (ops : Array Oper) (ss : List Step) (anc : List (List Nat)) (ord : List Nat) (n : Nat) (F : Nat → Fr) (A : Nat → AHeap) (S : Nat → List AHeap) (V : Nat → Value)

structure Inv (μ0 : Mu) (g0 : G) (w0 : World) (df : List Deferred) (p : Nat) (D : Nat → Bool) (μ : Mu) (g : G) (a : Act) (w : World) : Prop where
  ple : p ≤ ord.length
  pm : p = 0 ∨ ∃ r j, p = r + 1 ∧ ord[r]? = some j ∧ clsAt ss j = 3
  lo : ∀ (q j : Nat), q < p → ord[q]? = some j → D j = true
  hi : ∀ (q j : Nat), p ≤ q → ord[q]? = some j → clsAt ss j = 3 → D j = false
  cl : ∀ i, D i = true → ∀ k ∈ ancOf anc i, D k = true
  gI : ∀ id x, g id = some x ↔ (A p).get id = some x ∨ ∃ q j, p ≤ q ∧ ord[q]? = some j ∧ D j = true ∧ Ad ss ord F A V q id x
  dom : ∀ id i, μ id = some i → id < (A p).next ∨ (A ord.length).next ≤ id ∨ ∃ q j x, p ≤ q ∧ ord[q]? = some j ∧ D j = true ∧ Ad ss ord F A V q id x
  out : Out B0 μ0 g0 w0 (A 0).next (A ord.length).next μ g w
  siz : a.tmps.size = n
  def_ : a.defers = df
  fr : ∀ t, t < n → VR μ (lastV ss ord (F 0) V D ord.length t) (a.tmps.getD t undef)
end

section
variable {P : Program} {B0 : Nat} {call : Call} {ops : Array Oper} {ss : List Step} {anc : List (List Nat)} {ord : List Nat} {n : Nat} {F : Nat → Fr} {A : Nat → AHeap} {S : Nat → List AHeap} {V : Nat → Value}
variable {μ0 : Mu} {g0 : G} {w0 : World} {df : List Deferred} {p : Nat} {D D' : Nat → Bool} {μ μ' : Mu} {g : G} {a : Act} {w w' : World}

theorem put_size (a : Act) (d : Option Tmp) (v : Value) : (a.put d v).tmps.size = a.tmps.size := by cases d <;> simp [Act.put]
theorem put_defers (a : Act) (d : Option Tmp) (v : Value) : (a.put d v).defers = a.defers := by cases d <;> rfl
theorem put_getD (a : Act) (d : Option Tmp) (v : Value) {t : Nat} (ht : t < a.tmps.size) : (a.put d v).tmps.getD t undef = if d = some t then v else a.tmps.getD t undef := by
  cases d with
  | none => simp [Act.put]
  | some d =>
    by_cases e : d = t
    · subst e; simp [Act.put, Array.getD, ht]
    · simp [Act.put, Array.getD, ht, e]

theorem Cx.frame (c : Cx P B0 call ops ss anc ord n F A S V) (h : Inv B0 ss anc ord n F A V μ0 g0 w0 df p D μ g a w) {q j : Nat} {s : Step} (hq : ord[q]? = some j) (hs : ss[j]? = some s) (hj : D j = false) (hanc : ∀ k ∈ ancOf anc j, D k = true) :
    FrR μ (F q) a.tmps (namesOf s) ∧ ∀ t ∈ namesOf s, t < a.tmps.size := by
  have hlt : ∀ t ∈ namesOf s, t < a.tmps.size := fun t ht => by rw [h.siz]; exact c.nlt s (List.mem_of_getElem? hs) t ht
  refine ⟨fun t ht => ?_, hlt⟩
  have := h.fr t (by rw [← h.siz]; exact hlt t ht)
  rwa [c.names_eq h.cl hq hs hj hanc ht] at this

/-- the frame behind an operation -/
theorem Cx.fr_put (c : Cx P B0 call ops ss anc ord n F A S V) (h : Inv B0 ss anc ord n F A V μ0 g0 w0 df p D μ g a w) {q j : Nat} {s : Step} (hq : ord[q]? = some j) (hs : ss[j]? = some s) (hj : D j = false) (hD : ∀ i, D' i = (D i || i == j)) {v' : Value} (hle : μ.le μ') (hv : VR μ' (V q) v') :
    ∀ t, t < n → VR μ' (lastV ss ord (F 0) V D' ord.length t) ((a.put s.dst v').tmps.getD t undef) := by
  intro t ht
  rw [c.last_put h.cl hq hs hj hD, put_getD _ _ _ (by rw [h.siz]; exact ht)]
  split
  · exact hv
  · exact (h.fr t ht).mono hle

variable {q j : Nat}
/-- what stands over an operation that is ready -/
structure Ready (anc : List (List Nat)) (ord : List Nat) (D D' : Nat → Bool) (p q j : Nat) : Prop where
  hq : ord[q]? = some j
  hj : D j = false
  hanc : ∀ k ∈ ancOf anc j, D k = true
  hD : ∀ i, D' i = (D i || i == j)
  hp : p ≤ q

theorem Ready.ne (_c : Cx P B0 call ops ss anc ord n F A S V) (r : Ready anc ord D D' p q j) {q' j' : Nat} (hq' : ord[q']? = some j') (hn : q' ≠ q) : D' j' = D j' := by
  have : j' ≠ j := by intro e; subst e; exact hn (_c.ly.inj _ _ _ hq' r.hq)
  simp [r.hD, this]
theorem Ready.sub (r : Ready anc ord D D' p q j) {i : Nat} (h : D i = true) : D' i = true := by simp [r.hD, h]
theorem Ready.self (r : Ready anc ord D D' p q j) : D' j = true := by simp [r.hD]
theorem Ready.cl (h : Inv B0 ss anc ord n F A V μ0 g0 w0 df p D μ g a w) (r : Ready anc ord D D' p q j) : ∀ i, D' i = true → ∀ k ∈ ancOf anc i, D' k = true := by
  intro i hi k hk
  rw [r.hD, Bool.or_eq_true, beq_iff_eq] at hi
  rcases hi with hi | rfl
  · exact r.sub (h.cl i hi k hk)
  · exact r.sub (r.hanc k hk)

/-- an operation that leaves the memory as it is and is no wanted adder -/
theorem Inv.quiet (c : Cx P B0 call ops ss anc ord n F A S V) (h : Inv B0 ss anc ord n F A V μ0 g0 w0 df p D μ g a w) (r : Ready anc ord D D' p q j) {s : Step} (hs : ss[j]? = some s) (hc : clsAt ss j ≠ 3) (hna : ∀ id x, ¬ Ad ss ord F A V q id x)
    {lo hi : Nat} (hlh : hi ≤ lo) (hl : (A 0).next ≤ lo) (hh : hi ≤ (A ord.length).next) (ho : Out B0 μ g w lo hi μ' g w') {v' : Value} (hv : VR μ' (V q) v') : Inv B0 ss anc ord n F A V μ0 g0 w0 df p D' μ' g (a.put s.dst v') w' := by
  refine ⟨h.ple, h.pm, fun q' j' h1 h2 => r.sub (h.lo q' j' h1 h2), ?_, r.cl h, ?_, ?_, h.out.trans2 ho hl hh, (put_size _ _ _).trans h.siz, (put_defers _ _ _).trans h.def_, c.fr_put h r.hq hs r.hj r.hD ho.ext hv⟩
  · intro q' j' h1 h2 h3
    by_cases e : q' = q
    · subst e; rw [r.hq] at h2; cases h2; exact absurd h3 hc
    · rw [r.ne c h2 e]; exact h.hi q' j' h1 h2 h3
  · intro id x
    rw [h.gI]
    refine or_congr Iff.rfl ⟨fun ⟨q', j', h1, h2, h3, h4⟩ => ⟨q', j', h1, h2, r.sub h3, h4⟩, fun ⟨q', j', h1, h2, h3, h4⟩ => ⟨q', j', h1, h2, ?_, h4⟩⟩
    by_cases e : q' = q
    · subst e; exact absurd h4 (hna id x)
    · rwa [r.ne c h2 e] at h3
  · intro id i hm
    rcases ho.gap id i hm with h1 | ⟨h1, h2⟩
    · rcases h.dom id i h1 with h1 | h1 | ⟨q', j', x, h1, h2, h3, h4⟩
      · exact .inl h1
      · exact .inr (.inl h1)
      · exact .inr (.inr ⟨q', j', x, h1, h2, r.sub h3, h4⟩)
    · omega

theorem Cx.no_ad (_c : Cx P B0 call ops ss anc ord n F A S V) {q j : Nat} {s : Step} (hq : ord[q]? = some j) (hs : ss[j]? = some s) (h : s.op.cls = 2 → wantedS (F q) s.guard = false) : ∀ id x, ¬ Ad ss ord F A V q id x := by
  intro id x ha
  obtain ⟨j', s', hj', hs', h2, hw, _⟩ := ha.ex
  rw [hq] at hj'; cases hj'
  rw [hs] at hs'; cases hs'
  rw [h h2] at hw
  cases hw

/-- the memory ahead of a writing operation -/
theorem Inv.before (c : Cx P B0 call ops ss anc ord n F A S V) (h : Inv B0 ss anc ord n F A V μ0 g0 w0 df p D μ g a w) (r : Ready anc ord D D' p q j) (hc : clsAt ss j = 3) :
    (∀ q' j', q' < q → ord[q']? = some j' → D j' = true) ∧ ∀ id x, g id = some x ↔ (A q).get id = some x ∨ ∃ q' j', q < q' ∧ ord[q']? = some j' ∧ D j' = true ∧ Ad ss ord F A V q' id x := by
  have hql := (List.getElem?_eq_some_iff.1 r.hq).1
  have hb : ∀ q' j', q' < q → ord[q']? = some j' → D j' = true := fun q' j' h1 h2 => r.hanc j' (c.ly.wrt q j r.hq hc q' j' h1 h2)
  refine ⟨hb, fun id x => ?_⟩
  rw [h.gI, c.seg r.hp (Nat.le_of_lt hql) (fun r' j' h1 h2 h3 h4 => by have e := hb r' j' h2 h3; rw [h.hi r' j' h1 h3 h4] at e; cases e)]
  constructor
  · rintro (h1 | ⟨q', j', h1, h2, h3, h4⟩)
    · exact .inl (.inl h1)
    · rcases Nat.lt_trichotomy q' q with h5 | h5 | h5
      · exact .inl (.inr ⟨q', h1, h5, h4⟩)
      · subst h5; rw [r.hq] at h2; cases h2; rw [r.hj] at h3; cases h3
      · exact .inr ⟨q', j', h5, h2, h3, h4⟩
  · rintro ((h1 | ⟨q', h1, h2, h3⟩) | ⟨q', j', h1, h2, h3, h4⟩)
    · exact .inl h1
    · have hq' := List.getElem?_eq_getElem (l := ord) (i := q') (by omega)
      exact .inr ⟨q', _, h1, hq', hb q' _ h2 hq', h3⟩
    · exact .inr ⟨q', j', by have := r.hp; omega, h2, h3, h4⟩

/-- behind a writing operation -/
theorem Inv.wrote (c : Cx P B0 call ops ss anc ord n F A S V) (h : Inv B0 ss anc ord n F A V μ0 g0 w0 df p D μ g a w) (r : Ready anc ord D D' p q j) {s : Step} (hs : ss[j]? = some s) (hc : clsAt ss j = 3)
    (ho : Out B0 μ g w (A q).next (A (q + 1)).next μ' (gOver g (A q).get (A (q + 1)).get) w') {v' : Value} (hv : VR μ' (V q) v') : Inv B0 ss anc ord n F A V μ0 g0 w0 df (q + 1) D' μ' (gOver g (A q).get (A (q + 1)).get) (a.put s.dst v') w' := by
  have hql := (List.getElem?_eq_some_iff.1 r.hq).1
  obtain ⟨hb, hg⟩ := h.before c r hc
  have hn1 := (c.step_ hql (c.wf (Nat.le_of_lt hql))).2
  refine ⟨hql, .inr ⟨q, j, rfl, r.hq, hc⟩, ?_, ?_, r.cl h, ?_, ?_, h.out.trans2 ho (c.next_le (Nat.zero_le _) (Nat.le_of_lt hql)) (c.next_le hql (Nat.le_refl _)), (put_size _ _ _).trans h.siz, (put_defers _ _ _).trans h.def_, c.fr_put h r.hq hs r.hj r.hD ho.ext hv⟩
  · intro q' j' h1 h2
    by_cases e : q' = q
    · subst e; rw [r.hq] at h2; cases h2; exact r.self
    · exact r.sub (hb q' j' (by omega) h2)
  · intro q' j' h1 h2 h3
    rw [r.ne c h2 (by omega)]
    exact h.hi q' j' (by have := r.hp; omega) h2 h3
  · intro id x
    have hfar : ∀ q' x, q < q' → Ad ss ord F A V q' id x → (A q).get id = none ∧ (A (q + 1)).get id = none := by
      intro q' x h1 h2
      have hle : (A (q + 1)).next ≤ (A q').next := c.next_le (show q + 1 ≤ q' from h1) (Nat.le_of_lt h2.lt)
      have := h2.id_
      exact ⟨c.wf (Nat.le_of_lt hql) id (by omega), c.wf hql id (show (A (q + 1)).next ≤ id by omega)⟩
    simp only [gOver]
    constructor
    · intro hx
      split at hx
      · rename_i x' h1 h2
        cases hx
        rcases (hg id x).1 h1 with h3 | ⟨q', j', h3, h4, h5, h6⟩
        · rw [h2] at h3; cases h3
        · exact .inr ⟨q', j', h3, h4, r.sub h5, h6⟩
      · exact .inl hx
    · rintro (h1 | ⟨q', j', h1, h2, h3, h4⟩)
      · split
        · rename_i x' h2 h3
          rcases (hg id x').1 h2 with h4 | ⟨q', j', h4, h5, h6, h7⟩
          · rw [h3] at h4; cases h4
          · rw [(hfar q' x' h4 h7).2] at h1; cases h1
        · exact h1
      · have h5 : D j' = true := by rwa [r.ne c h2 (by omega)] at h3
        have h6 := (hg id x).2 (.inr ⟨q', j', h1, h2, h5, h4⟩)
        have h7 := (hfar q' x h1 h4).1
        simp only [h6, h7]
  · intro id i hm
    rcases ho.gap id i hm with h1 | ⟨h1, h2⟩
    · rcases h.dom id i h1 with h1 | h1 | ⟨q', j', x, h1, h2, h3, h4⟩
      · exact .inl (Nat.lt_of_lt_of_le h1 (c.next_le (Nat.le_succ_of_le r.hp) hql))
      · exact .inr (.inl h1)
      · rcases Nat.lt_trichotomy q' q with h5 | h5 | h5
        · have := c.next_le (show q' + 1 ≤ q + 1 by omega) hql
          have := h4.next
          exact .inl (by omega)
        · subst h5; rw [r.hq] at h2; cases h2; rw [r.hj] at h3; cases h3
        · exact .inr (.inr ⟨q', j', x, h5, h2, r.sub h3, h4⟩)
    · exact .inl h2

/-- behind an operation that has made memory -/
theorem Inv.made (c : Cx P B0 call ops ss anc ord n F A S V) (h : Inv B0 ss anc ord n F A V μ0 g0 w0 df p D μ g a w) (r : Ready anc ord D D' p q j) {s : Step} (hs : ss[j]? = some s) (hc : clsAt ss j ≠ 3) {x0 : AObj} (had : Ad ss ord F A V q (A q).next x0)
    (ho : Out B0 μ g w (A q).next ((A q).next + 1) μ' (gOver g (A p).get ((⟨(A p).objs, (A q).next⟩ : AHeap).new x0).get) w') {v' : Value} (hv : VR μ' (V q) v') :
    Inv B0 ss anc ord n F A V μ0 g0 w0 df p D' μ' (gOver g (A p).get ((⟨(A p).objs, (A q).next⟩ : AHeap).new x0).get) (a.put s.dst v') w' := by
  have hql := (List.getElem?_eq_some_iff.1 r.hq).1
  have hnx := had.next
  have hup : (A (q + 1)).next ≤ (A ord.length).next := c.next_le hql (Nat.le_refl _)
  refine ⟨h.ple, h.pm, fun q' j' h1 h2 => r.sub (h.lo q' j' h1 h2), ?_, r.cl h, ?_, ?_, h.out.trans2 ho (c.next_le (Nat.zero_le _) (Nat.le_of_lt hql)) (by omega), (put_size _ _ _).trans h.siz, (put_defers _ _ _).trans h.def_, c.fr_put h r.hq hs r.hj r.hD ho.ext hv⟩
  · intro q' j' h1 h2 h3
    by_cases e : q' = q
    · subst e; rw [r.hq] at h2; cases h2; exact absurd h3 hc
    · rw [r.ne c h2 e]; exact h.hi q' j' h1 h2 h3
  · intro id x
    have hpg : (A p).get (A q).next = none := c.wf h.ple _ (c.next_le r.hp (Nat.le_of_lt hql))
    have hg0 : ∀ y, g (A q).next ≠ some y := by
      intro y hy
      rcases (h.gI _ y).1 hy with h1 | ⟨q', j', h1, h2, h3, h4⟩
      · rw [hpg] at h1; cases h1
      · have e := c.ad_inj h4 had
        subst e; rw [r.hq] at h2; cases h2; rw [r.hj] at h3; cases h3
    have hnew : ∀ id, ((⟨(A p).objs, (A q).next⟩ : AHeap).new x0).get id = if (A q).next = id then some x0 else (A p).get id := fun id => AHeap.get_new _ _ _
    have key : gOver g (A p).get ((⟨(A p).objs, (A q).next⟩ : AHeap).new x0).get id = if (A q).next = id then some x0 else g id := by
      simp only [gOver, hnew]
      by_cases e : (A q).next = id
      · simp only [e, if_true]
        split
        · rename_i y h1 h2; rw [← e] at h1; exact absurd h1 (hg0 y)
        · rfl
      · simp only [e, if_false]
        split
        · rename_i y h1 h2; exact h1.symm
        · rename_i hn
          cases h0 : (A p).get id with
          | some y => exact ((h.gI id y).2 (.inl h0)).symm
          | none =>
            cases hgi : g id with
            | none => rfl
            | some y => exact absurd h0 (hn y hgi)
    rw [key]
    by_cases e : (A q).next = id
    · subst e
      simp only [if_true]
      constructor
      · intro h1; cases h1; exact .inr ⟨q, j, r.hp, r.hq, r.self, had⟩
      · rintro (h1 | ⟨q', j', h1, h2, h3, h4⟩)
        · rw [hpg] at h1; cases h1
        · have e := c.ad_inj h4 had
          subst e
          rw [Ad.obj h4 had]
    · simp only [e, if_false]
      rw [h.gI]
      refine or_congr Iff.rfl ⟨fun ⟨q', j', h1, h2, h3, h4⟩ => ⟨q', j', h1, h2, r.sub h3, h4⟩, fun ⟨q', j', h1, h2, h3, h4⟩ => ⟨q', j', h1, h2, ?_, h4⟩⟩
      by_cases e2 : q' = q
      · subst e2; exact absurd h4.id_.symm e
      · rwa [r.ne c h2 e2] at h3
  · intro id i hm
    rcases ho.gap id i hm with h1 | ⟨h1, h2⟩
    · rcases h.dom id i h1 with h1 | h1 | ⟨q', j', x, h1, h2, h3, h4⟩
      · exact .inl h1
      · exact .inr (.inl h1)
      · exact .inr (.inr ⟨q', j', x, h1, h2, r.sub h3, h4⟩)
    · have e : id = (A q).next := by omega
      subst e
      exact .inr (.inr ⟨q, j, x0, r.hp, r.hq, r.self, had⟩)
end
end Go.Abs
