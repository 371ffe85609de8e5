/- A region that draws its order: every order comes to the end of the laid one. -/
import Derived.Test.YtiimkdijiddjcaaDoorAbsV
namespace Go.Abs
open Go

section
variable {P : Program} {B0 : Nat} {call : Call} {ops : Array Oper} {ss : List Step} {anc : List (List Nat)} {ord : List Nat} {n : Nat} {F : Nat → Fr} {A : Nat → AHeap} {S : Nat → List AHeap} {V : Nat → Value}
variable {μ0 : Mu} {g0 : G} {w0 : World} {df : List Deferred} {p : Nat} {D D' : Nat → Bool} {μ μ' : Mu} {g : G} {a : Act} {w w' : World} {q j : Nat}

theorem Inv.sub (_c : Cx P B0 call ops ss anc ord n F A S V) (h : Inv B0 ss anc ord n F A V μ0 g0 w0 df p D μ g a w) : (∀ id x, (A p).get id = some x → g id = some x) ∧ ∀ id x, g id = some x → (A p).get id = none → wrO (some x) := by
  refine ⟨fun id x hx => (h.gI id x).2 (.inl hx), fun id x hx h0 => ?_⟩
  rcases (h.gI id x).1 hx with h1 | ⟨q', j', h1, h2, h3, h4⟩
  · rw [h0] at h1; cases h1
  · exact h4.wr

/-- one more operation -/
theorem Inv.next_ (c : Cx P B0 call ops ss anc ord n F A S V) (hB : B0 ≤ w0.heap.size) (h : Inv B0 ss anc ord n F A V μ0 g0 w0 df p D μ g a w) (r : Ready anc ord D D' p q j) {o : Oper} (ho : ops[j]? = some o) {K : Act → World → Prop} {Q : Exit → Act → World → Prop}
    (hK : ∀ p' μ' g' a' w', Inv B0 ss anc ord n F A V μ0 g0 w0 df p' D' μ' g' a' w' → K a' w') :
    if Region.wanted o (yielded ops a.tmps) then o.wp P a w K Q ∨ (o.asks P a w ∧ LetsOut Q) else K (a.put o.dst undef) w := by
  have hql := (List.getElem?_eq_some_iff.1 r.hq).1
  obtain ⟨o', s, ho', hs, hst, hat⟩ := c.at_ r.hq
  rw [ho] at ho'; cases ho'
  obtain ⟨hF, hlt⟩ := c.frame h r.hq hs r.hj r.hanc
  obtain ⟨hdst, _, _, _⟩ := cStep_spec hst
  have hBw : B0 ≤ w.heap.size := Nat.le_trans hB h.out.size
  have hFs : FrR μ (F q) a.tmps s.op.slots := fun t ht => hF t (by simp [namesOf, ht])
  rw [wanted_eq hst hlt hF]
  rcases hat.run with ⟨hw, hr, hck⟩ | ⟨hw, hv, he⟩
  · change wantedS (F q) s.guard = true at hw
    rw [hw, if_pos rfl]
    refine .inl ?_
    by_cases h3 : s.op.cls = 3
    · -- it writes
      have hc : clsAt ss j = 3 := by rw [clsAt_eq hs]; exact h3
      have hr' : stepRun call s (F q) (A q) = some (V q, A (q + 1)) := hr
      obtain ⟨hb, hg⟩ := h.before c r hc
      refine lift c.hcall hst h.out.rep hBw (c.wf (Nat.le_of_lt hql)) (fun id x hx => (hg id x).2 (.inl hx)) (fun id x hx h0 => ?_) (fun id h1 h2 => ?_) hFs hr' fun μ' v' w' hout hv => ?_
      · rcases (hg id x).1 hx with h4 | ⟨q', j', h4, h5, h6, h7⟩
        · rw [h0] at h4; cases h4
        · exact h7.wr
      · cases hm : μ id with
        | none => rfl
        | some i =>
          exfalso
          have hup : (A (q + 1)).next ≤ (A ord.length).next := c.next_le hql (Nat.le_refl _)
          rcases h.dom id i hm with h4 | h4 | ⟨q', j', x, h4, h5, h6, h7⟩
          · have := c.next_le r.hp (Nat.le_of_lt hql); omega
          · omega
          · have e1 := h7.id_
            have e2 := h7.next
            rcases Nat.lt_trichotomy q' q with h8 | h8 | h8
            · have : (A (q' + 1)).next ≤ (A q).next := c.next_le h8 (Nat.le_of_lt hql); omega
            · subst h8; have := r.hq; rw [h5] at this; cases this; have := r.hj; rw [h6] at this; cases this
            · have : (A (q + 1)).next ≤ (A q').next := c.next_le h8 (Nat.le_of_lt h7.lt); omega
      · rw [← hdst]
        exact hK _ _ _ _ _ (h.wrote c r hs hc hout hv)
    · have hc : clsAt ss j ≠ 3 := by rw [clsAt_eq hs]; exact h3
      have hr0 : aexec s.op (F q) (A q) = some (V q, A (q + 1)) := stepRun_op hr h3
      have hex : ∀ (H : AHeap) (v : Value) (H' : AHeap), aexec s.op (F q) H = some (v, H') → stepRun call s (F q) H = some (v, H') := fun H v H' e => (stepRun_plain h3).trans e
      -- a part of the memory in which it is run and that it leaves as it is
      have hsame : (∀ id x, ¬ Ad ss ord F A V q id x) → ∀ H : AHeap, aexec s.op (F q) H = some (V q, H) → wfA H → (A 0).next ≤ H.next → H.next ≤ (A ord.length).next → (∀ id x, H.get id = some x → g id = some x) → (∀ id x, (A p).get id = some x → H.get id = some x) → o.wp P a w K Q := by
        intro hna H hH hwf hl hh hsub hsup
        refine lift c.hcall hst h.out.rep hBw hwf hsub (fun id x hx h0 => (h.sub c).2 id x hx ?_) (fun id h1 h2 => by omega) hFs (hex _ _ _ hH) fun μ' v' w' hout hv => ?_
        · cases h1 : (A p).get id with
          | none => rfl
          | some y => rw [hsup id y h1] at h0; cases h0
        · rw [gOver_same hsub] at hout
          rw [← hdst]
          exact hK _ _ _ _ _ (h.quiet c r hs hc hna (Nat.le_refl _) hl hh hout hv)
      have hp0 : (A 0).next ≤ (A p).next := c.next_le (Nat.zero_le _) h.ple
      have hp1 : (A p).next ≤ (A ord.length).next := c.next_le h.ple (Nat.le_refl _)
      rcases cls_cases s.op with h0 | h1 | h2 | h3'
      · obtain ⟨_, hH⟩ := aexec_pure h0 hr0
        exact hsame (c.no_ad r.hq hs fun e => by omega) (A p) (hH _) (c.wf h.ple) hp0 hp1 (h.sub c).1 (fun _ _ e => e)
      · have hna := c.no_ad r.hq hs fun e => absurd e (by omega)
        have hmid : ∀ r' i, p ≤ r' → r' < q → ord[r']? = some i → clsAt ss i = 3 → i ∉ ancOf anc j := by
          intro r' i h5 h6 h7 h8 h9
          have := r.hanc i h9
          rw [h.hi r' i h5 h7 h8] at this
          cases this
        change chkOk s.op (F q) (V q) (chkFor ss anc (ord.take q) j) (S q) = true at hck
        have hsv := c.saved h.pm r.hp (Nat.le_of_lt hql)
        have hle := late_le (ss := ss) (anc := anc) r.hp hmid
        unfold chkFor at hck
        rw [clsAt_eq hs, if_pos h1] at hck
        split at hck
        · rename_i hz
          have hno : ∀ r' i, p ≤ r' → r' < q → ord[r']? = some i → clsAt ss i ≠ 3 := by
            intro r' i h5 h6 h7 h8
            rw [hz.1] at hle
            have hm : i ∈ ((ord.take q).drop p).filter fun i => clsAt ss i == 3 := List.mem_filter.2 ⟨mid_mem h5 h6 h7, by simp [h8]⟩
            have := List.length_pos_of_mem hm
            omega
          have hseg := c.seg r.hp (Nat.le_of_lt hql) hno
          have e := aexec_reader h1 hr0
          refine hsame hna (A q) (by rw [hr0, e]) (c.wf (Nat.le_of_lt hql)) (c.next_le (Nat.zero_le _) (Nat.le_of_lt hql)) (c.next_le (Nat.le_of_lt hql) (Nat.le_refl _)) (fun id x hx => ?_) (fun id x hx => (hseg id x).2 (.inl hx))
          rcases (hseg id x).1 hx with h5 | ⟨r', h5, h6, h7⟩
          · exact (h.sub c).1 id x h5
          · obtain ⟨j', s', hj', hs', h8, _⟩ := h7.ex
            have hf := fresh_mem r.hp hno h5 h6 hj' (by rw [clsAt_eq hs']; exact h8)
            have := List.all_eq_true.1 hz.2 j' hf
            exact (h.gI id x).2 (.inr ⟨r', j', h5, hj', r.hanc j' (by simpa using this), h7⟩)
        · obtain ⟨H, hH1, H', hH2⟩ := chkOk_at hck _ (Nat.lt_succ_of_le hle)
          rw [hsv] at hH1
          cases hH1
          have e := aexec_reader h1 hH2
          subst e
          exact hsame hna (A p) hH2 (c.wf h.ple) hp0 hp1 (h.sub c).1 (fun _ _ e => e)
      · obtain ⟨x0, hwr, e, hH⟩ := aexec_adder h2 hr0
        have had : Ad ss ord F A V q (A q).next x0 := ⟨⟨j, s, r.hq, hs, h2, hw, hH⟩, rfl, hwr, e⟩
        have hpq : (A p).next ≤ (A q).next := c.next_le r.hp (Nat.le_of_lt hql)
        have hnx := had.next
        have hup : (A (q + 1)).next ≤ (A ord.length).next := c.next_le hql (Nat.le_refl _)
        refine lift c.hcall hst (g := g) (H := ⟨(A p).objs, (A q).next⟩) h.out.rep hBw (fun id hid => c.wf h.ple id (Nat.le_trans hpq hid)) (fun id x hx => (h.sub c).1 id x hx) (fun id x hx h0 => (h.sub c).2 id x hx h0) (fun id h5 h6 => ?_) hFs (hex _ _ _ (hH _ rfl)) fun μ' v' w' hout hv => ?_
        · cases hm : μ id with
          | none => rfl
          | some i =>
            exfalso
            have h5' : (A q).next ≤ id := h5
            have h6' : id < (A q).next + 1 := h6
            have e2 : id = (A q).next := by omega
            rcases h.dom id i hm with h4 | h4 | ⟨q', j', x, h4, h7, h8, h9⟩
            · omega
            · omega
            · rw [e2] at h9
              have e3 := c.ad_inj h9 had
              subst e3
              have := r.hq; rw [h7] at this; cases this; have := r.hj; rw [h8] at this; cases this
        · rw [← hdst]
          exact hK _ _ _ _ _ (h.made c r hs hc had hout hv)
      · exact absurd h3' h3
  · change wantedS (F q) s.guard = false at hw
    rw [hw]
    simp only [Bool.false_eq_true, if_false]
    rw [← hdst]
    have hV : VR μ (V q) undef := by rw [hv]; exact VR.undef_
    by_cases h3 : clsAt ss j = 3
    · obtain ⟨hb, hg⟩ := h.before c r h3
      have hsub : ∀ id x, (A q).get id = some x → g id = some x := fun id x hx => (hg id x).2 (.inl hx)
      have e : gOver g (A q).get (A (q + 1)).get = g := by rw [he]; exact gOver_same hsub
      have := h.wrote c r hs h3 (by rw [e]; exact Out.refl h.out.rep _ _) hV
      rw [e] at this
      exact hK _ _ _ _ _ this
    · exact hK _ _ _ _ _ (h.quiet c r hs h3 (c.no_ad r.hq hs fun _ => hw) (Nat.le_refl _) (Nat.le_refl _) (c.next_le (Nat.zero_le _) (Nat.le_refl _)) (Out.refl h.out.rep _ _) hV)

def Dof (listed : Array Bool) (i : Nat) : Bool := listed.getD i false
def unl (N : Nat) (listed : Array Bool) : Nat := ((List.range N).filter fun i => !listed.getD i true).length

theorem ready_mem {listed : Array Bool} (hsz : listed.size = ops.size) {j : Nat} (h : j ∈ Region.ready .any ops listed) : ∃ o, ops[j]? = some o ∧ j < ops.size ∧ Dof listed j = false ∧ ∀ i ∈ direct o, Dof listed i = true := by
  simp only [Region.ready, List.mem_filter, List.mem_range, Bool.and_eq_true, Bool.not_eq_true'] at h
  obtain ⟨hj, h1, h2⟩ := h
  refine ⟨ops[j], by simp [hj], hj, ?_, ?_⟩
  · simp only [Dof, Array.getD, hsz, hj, dif_pos] at h1 ⊢; exact h1
  · rw [Array.getElem?_eq_getElem hj] at h2
    simp only [Option.map_some, Option.getD_some] at h2
    intro i hi
    simp only [direct, List.mem_map, List.mem_filter] at hi
    obtain ⟨e, ⟨he, hb⟩, rfl⟩ := hi
    have := Array.all_eq_true'.1 h2 e (by simpa using he)
    simpa [hb, Dof] using this

theorem Inv.all_of (c : Cx P B0 call ops ss anc ord n F A S V) {listed : Array Bool} (hsz : listed.size = ops.size) (hr : Region.ready .any ops listed = []) : ∀ j, j < ops.size → Dof listed j = true := by
  intro j
  induction j using Nat.strongRecOn with
  | _ j ih =>
    intro hj
    cases hD : Dof listed j with
    | true => rfl
    | false =>
      exfalso
      have : j ∈ Region.ready .any ops listed := by
        simp only [Region.ready, List.mem_filter, List.mem_range, Bool.and_eq_true, Bool.not_eq_true']
        refine ⟨hj, ?_, ?_⟩
        · simp only [Dof, Array.getD, hsz, hj, dif_pos] at hD ⊢; exact hD
        · rw [Array.getElem?_eq_getElem hj]
          simp only [Option.map_some, Option.getD_some]
          refine Array.all_eq_true'.2 fun e he => ?_
          by_cases hb : Region.binds .any e = true
          · have hd : e.on ∈ direct ops[j] := by
              simp only [direct, List.mem_map, List.mem_filter]
              exact ⟨e, ⟨by simpa using he, hb⟩, rfl⟩
            have h1 := (c.ly.dir j ops[j] (by simp [hj]) _ hd).1
            have := ih e.on h1 (by omega)
            simp only [Dof] at this
            simp [this]
          · simp [hb]
      rw [hr] at this
      cases this

theorem dof_set {listed : Array Bool} {j : Nat} (hj : j < listed.size) (i : Nat) : Dof (listed.setIfInBounds j true) i = (Dof listed i || i == j) := by
  simp only [Dof, Array.getD_eq_getD_getElem?, Array.getElem?_setIfInBounds]
  by_cases e : j = i
  · subst e; simp [hj]
  · have : (i == j) = false := by simp; exact fun h => e h.symm
    simp [e, this]

theorem unl_set {N : Nat} {listed : Array Bool} {j : Nat} (hj : j < N) (hsz : listed.size = N) (hD : Dof listed j = false) : unl N (listed.setIfInBounds j true) < unl N listed := by
  have e : ((List.range N).filter fun i => !(listed.setIfInBounds j true).getD i true) = ((List.range N).filter fun i => !listed.getD i true).filter fun i => i != j := by
    rw [List.filter_filter]
    refine List.filter_congr fun i hi => ?_
    have hi' := List.mem_range.1 hi
    simp only [Array.getD_eq_getD_getElem?, Array.getElem?_setIfInBounds]
    by_cases e : j = i
    · subst e; simp [hsz, hj]
    · have : (i != j) = true := by simp; exact fun h => e h.symm
      simp [e, this]
  unfold unl
  rw [e]
  refine List.length_filter_lt_length_iff_exists.2 ⟨j, ?_, by simp⟩
  simp only [List.mem_filter, List.mem_range, Bool.not_eq_true']
  refine ⟨hj, ?_⟩
  simp only [Dof, Array.getD, hsz, hj, dif_pos] at hD ⊢
  exact hD

theorem any_sound (c : Cx P B0 call ops ss anc ord n F A S V) (hB : B0 ≤ w0.heap.size) {Q : Exit → Act → World → Prop}
    (hQ : ∀ μ a w, Out B0 μ0 g0 w0 (A 0).next (A ord.length).next μ (A ord.length).get w → a.tmps.size = n → a.defers = df → (∀ t, t < n → VR μ (lget (F ord.length) t) (a.tmps.getD t undef)) → Q .normal a w) :
    ∀ (fuel : Nat) (listed : Array Bool) (p : Nat) (μ : Mu) (g : G) (a : Act) (w : World), listed.size = ops.size → unl ops.size listed ≤ fuel → Inv B0 ss anc ord n F A V μ0 g0 w0 df p (Dof listed) μ g a w → wpAny P .any ops Q fuel listed a w := by
  have hfin : ∀ (listed : Array Bool) (p : Nat) (μ : Mu) (g : G) (a : Act) (w : World), listed.size = ops.size → Inv B0 ss anc ord n F A V μ0 g0 w0 df p (Dof listed) μ g a w → Region.ready .any ops listed = [] → Q .normal a w := by
    intro listed p μ g a w hsz h hr
    have hall := Inv.all_of c hsz hr
    have hall' : ∀ q j, ord[q]? = some j → Dof listed j = true := fun q j hq => hall j (c.ly.lt q j hq)
    have eg : g = (A ord.length).get := by
      funext id
      have hseg := c.seg h.ple (Nat.le_refl _) (fun r j h1 h2 h3 h4 => by have := h.hi r j h1 h3 h4; rw [hall' r j h3] at this; cases this)
      have : ∀ x, g id = some x ↔ (A ord.length).get id = some x := by
        intro x
        rw [h.gI, hseg]
        refine or_congr Iff.rfl ⟨fun ⟨q, j, h1, h2, h3, h4⟩ => ⟨q, h1, h4.lt, h4⟩, fun ⟨q, h1, h2, h3⟩ => ⟨q, _, h1, List.getElem?_eq_getElem h2, hall' q _ (List.getElem?_eq_getElem h2), h3⟩⟩
      cases hg : g id with
      | some x => exact ((this x).1 hg).symm
      | none =>
        cases hA : (A ord.length).get id with
        | none => rfl
        | some x => rw [(this x).2 hA] at hg; cases hg
    refine hQ μ a w (by rw [← eg]; exact h.out) h.siz h.def_ fun t ht => ?_
    have := h.fr t ht
    have e : lastV ss ord (F 0) V (Dof listed) ord.length t = lget (F ord.length) t := by
      rw [c.fr_last (Nat.le_refl _)]
      generalize ord.length = m
      induction m with
      | zero => rfl
      | succ m ih =>
        simp only [lastV, ih]
        cases hd : dstAt ss ord m with
        | none => rfl
        | some x =>
          obtain ⟨i, d⟩ := x
          obtain ⟨s', hr', _⟩ := dstAt_some hd
          simp [hall' m i hr']
    rwa [e] at this
  intro fuel
  induction fuel with
  | zero =>
    intro listed p μ g a w hsz hu h
    have hr : Region.ready .any ops listed = [] := by
      cases hr : Region.ready .any ops listed with
      | nil => rfl
      | cons j rs =>
        exfalso
        have hj : j ∈ Region.ready .any ops listed := by rw [hr]; simp
        simp only [Region.ready, List.mem_filter, Bool.and_eq_true] at hj
        have : j ∈ (List.range ops.size).filter fun i => !listed.getD i true := List.mem_filter.2 ⟨hj.1, hj.2.1⟩
        have := List.length_pos_of_mem this
        unfold unl at hu
        omega
    exact ⟨hr, hfin listed p μ g a w hsz h hr⟩
  | succ fuel ih =>
    intro listed p μ g a w hsz hu h
    refine ⟨hfin listed p μ g a w hsz h, fun i hi => ?_⟩
    obtain ⟨o, ho, hi', hD, hdir⟩ := ready_mem hsz hi
    obtain ⟨q, hq⟩ := c.ly.all i hi'
    have r : Ready anc ord (Dof listed) (Dof (listed.setIfInBounds i true)) p q i := by
      refine ⟨hq, hD, fun k hk => ?_, dof_set (by rw [hsz]; exact hi'), ?_⟩
      · rcases c.ly.ance i o ho k hk with h1 | ⟨e, h1, h2⟩
        · exact hdir k h1
        · exact h.cl e (hdir e h1) k h2
      · rcases Nat.lt_or_ge q p with h1 | h1
        · have := h.lo q i h1 hq; rw [hD] at this; cases this
        · exact h1
    unfold wpOp
    rw [ho]
    exact h.next_ c hB r ho fun p' μ' g' a' w' h' => ih _ _ _ _ _ _ (by simp [hsz]) (by have := unl_set hi' hsz hD; omega) h'
end
end Go.Abs
