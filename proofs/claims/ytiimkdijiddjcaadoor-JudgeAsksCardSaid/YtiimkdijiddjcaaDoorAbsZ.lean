/- The abstract machine is the model's: code, functions, calls. -/
import Derived.Test.YtiimkdijiddjcaaDoorAbsY
namespace Go.Abs
open Go

def AX.exit_ : AX → Exit
  | .normal => .normal
  | .exit id => .exit id
  | .goto l => .goto l
  | .ret => .ret

theorem AC.lt_mono {m n : Nat} (h : m ≤ n) : ∀ {c : AC}, c.lt m = true → c.lt n = true := by
  have ho : ∀ {l : List Nat}, optLt m l = true → optLt n l = true := by
    intro l hl
    simp only [optLt, List.all_eq_true, decide_eq_true_eq] at hl ⊢
    exact fun t ht => Nat.lt_of_lt_of_le (hl t ht) h
  intro c
  induction c with
  | reg ss =>
    intro hc
    simp only [AC.lt, List.all_eq_true] at hc ⊢
    exact fun s hs => ho (hc s hs)
  | seq a b iha ihb => intro hc; simp only [AC.lt, Bool.and_eq_true] at hc ⊢; exact ⟨iha hc.1, ihb hc.2⟩
  | cond x t e iht ihe => intro hc; simp only [AC.lt, Bool.and_eq_true] at hc ⊢; exact ⟨ho hc.1, iht hc.2.1, ihe hc.2.2⟩
  | block id c ih => exact fun hc => ih hc
  | loop c ih => exact fun hc => ih hc
  | scope c ih => exact fun hc => ih hc
  | _ => intro _; rfl

section
variable (P : Program) (B0 : Nat) (AP : FuncId → Option AFn) (E : Call)

def SimC (n : Nat) : Prop := ∀ (c : Code) (ac : AC) (m : Nat) (fr : Fr) (A : AHeap) (x : AX) (fr' : Fr) (A' : AHeap), cCode P c = some ac → ac.lt m = true → evC AP E n ac ⟨fr, A⟩ = some (x, ⟨fr', A'⟩) → wfA A →
  (wfA A' ∧ A.next ≤ A'.next) ∧ ∀ (μ : Mu) (a : Act) (w : World), Rep B0 μ A.get w → B0 ≤ w.heap.size → (∀ id, A.next ≤ id → id < A'.next → μ id = none) → StR m μ fr a → ∀ Q : Exit → Act → World → Prop,
    (∀ μ' a' w', Out B0 μ A.get w A.next A'.next μ' A'.get w' → StR m μ' fr' a' → Q x.exit_ a' w') → c.wp P Q a w
def SimS (n : Nat) : Prop := ∀ (c cur : Code) (ac acur : AC) (m : Nat) (fr : Fr) (A : AHeap) (x : AX) (fr' : Fr) (A' : AHeap), cCode P c = some ac → ac.lt m = true → cCode P cur = some acur → acur.lt m = true → evS AP E n ac acur ⟨fr, A⟩ = some (x, ⟨fr', A'⟩) → wfA A →
  (wfA A' ∧ A.next ≤ A'.next) ∧ ∀ (μ : Mu) (a : Act) (w : World), Rep B0 μ A.get w → B0 ≤ w.heap.size → (∀ id, A.next ≤ id → id < A'.next → μ id = none) → StR m μ fr a → ∀ Q : Exit → Act → World → Prop,
    (∀ μ' a' w', Out B0 μ A.get w A.next A'.next μ' A'.get w' → StR m μ' fr' a' → Q x.exit_ a' w') → InScope P c cur Q a w
end

/-- the table of the abstract machine is the program's -/
def TabOk (P : Program) (AP : FuncId → Option AFn) : Prop := ∀ f afn, AP f = some afn → ∃ fn, P.funcs[f]? = some fn ∧ cFn P fn = some afn ∧ (fn.name == "runtime.NumGoroutine") = false

section
variable {P : Program} {B0 : Nat} {AP : FuncId → Option AFn} {E : Call}

def resG (tm : Array Value) (r : ResultVar) : Sem Value := match r with | .tmp t => pure (tm.getD t undef) | .cell x t => do loadVar t (← asAddr (tm.getD x undef))
theorem res_sound {μ : Mu} {A : AHeap} {w : World} {fr : Fr} {n : Nat} {a : Act} (hrep : Rep B0 μ A.get w) (hst : StR n μ fr a) {r : ResultVar} {ar : ARes} (hc : cRes P r = some ar) (hl : ar.slot < n) {v : Value} (hv : aresult A fr ar = some v) :
    ∃ v', (resG a.tmps r).run P w = .ok v' w ∧ VR μ v v' := by
  cases r with
  | tmp t =>
    simp only [cRes, Option.some.injEq] at hc
    subst hc
    simp only [aresult, Option.some.injEq] at hv
    subst hv
    exact ⟨_, by simp only [resG, Sem.run_pure], hst.fr t hl⟩
  | cell x t =>
    simp only [cRes] at hc
    split at hc
    · rename_i hag
      simp only [Option.map_eq_some_iff] at hc
      obtain ⟨k, hk, rfl⟩ := hc
      have hx := hst.fr x hl
      simp only [aresult] at hv
      split at hv
      · rename_i id off he
        rw [he] at hx
        obtain ⟨i, hi, _, e⟩ := hx.ptr
        simp only [if_true, Option.map_eq_some_iff] at hv
        obtain ⟨l, hl', rfl⟩ := hv
        obtain ⟨v', h1, h2⟩ := snd_ldN hrep hag hk hl' hi
        refine ⟨v', ?_, h2⟩
        simp only [resG, e]
        simpa only [Instr.loadAt, Instr.sureAddr, asAddr, Sem.run_bind, Sem.run_pure, Result.andThen_ok] using h1
      · cases hv
    · rename_i hag
      simp only [Option.some.injEq] at hc
      subst hc
      have hx := hst.fr x hl
      simp only [aresult] at hv
      split at hv
      · rename_i id off he
        rw [he] at hx
        obtain ⟨i, hi, _, e⟩ := hx.ptr
        simp only [Bool.false_eq_true, if_false, Option.bind_eq_some_iff] at hv
        obtain ⟨l, hl', hv⟩ := hv
        obtain ⟨cs, sz, ro, opn, hg, rfl, hlen⟩ := rdRow_get hl'
        have hv' : cs[off]? = some v := by
          have := hv
          rw [List.getElem?_take, if_pos (by omega), List.getElem?_drop] at this
          simpa using this
        obtain ⟨v', h1, h2⟩ := snd_ld1 hrep hag hg hv' hi
        refine ⟨v', ?_, h2⟩
        simp only [resG, e]
        simpa only [Instr.loadAt, Instr.sureAddr, asAddr, Sem.run_bind, Sem.run_pure, Result.andThen_ok] using h1
      · cases hv
    · cases hc

theorem results_sound {μ : Mu} {A : AHeap} {w : World} {fr : Fr} {n : Nat} {a : Act} (hrep : Rep B0 μ A.get w) (hst : StR n μ fr a) : ∀ {rs : List ResultVar} {ars : List ARes} {vs : List Value}, rs.mapM (cRes P) = some ars → (∀ r ∈ ars, r.slot < n) → aresults A fr ars = some vs →
    ∃ vs', (rs.mapM (resG a.tmps)).run P w = .ok vs' w ∧ All2 (VR μ) vs vs' := by
  intro rs
  induction rs with
  | nil =>
    intro ars vs h _ hv
    simp only [List.mapM_nil, Option.pure_def, Option.some.injEq] at h
    subst h
    simp only [aresults, Option.some.injEq] at hv
    subst hv
    exact ⟨[], by simp only [List.mapM_nil, Sem.run_pure], .nil⟩
  | cons r rs ih =>
    intro ars vs h hl hv
    simp only [List.mapM_cons, Option.bind_eq_bind, Option.bind_eq_some_iff, Option.pure_def, Option.some.injEq] at h
    obtain ⟨ar, har, ars', hars, rfl⟩ := h
    simp only [aresults, Option.bind_eq_some_iff, Option.map_eq_some_iff] at hv
    obtain ⟨v, hv, vs', hvs, rfl⟩ := hv
    obtain ⟨v', h1, h2⟩ := res_sound hrep hst har (hl ar (by simp)) hv
    obtain ⟨vs'', h3, h4⟩ := ih hars (fun r hr => hl r (by simp [hr])) hvs
    refine ⟨v' :: vs'', ?_, .cons h2 h4⟩
    simp only [List.mapM_cons, Sem.run_bind, h1, Result.andThen_ok, h3, Sem.run_pure]

theorem notT_v1 {μ : Mu} {v v' : Value} (hn : notT v = true) (h : VR μ v v') : V1 μ v v' := by
  cases h with
  | one h => exact h
  | tup h => cases hn
theorem tup_rel {μ : Mu} {vs vs' : List Value} {v : Value} (h : tupOf vs = some v) (hr : All2 (VR μ) vs vs') : ∃ v', (if h : vs'.toArray.size = 1 then vs'.toArray[0] else .tuple vs'.toArray) = v' ∧ VR μ v v' := by
  refine ⟨_, rfl, ?_⟩
  have key : ∀ {vs vs' : List Value}, vs.all notT = true → All2 (VR μ) vs vs' → All2 (V1 μ) vs vs' := by
    intro vs vs' hn hr
    induction hr with
    | nil => exact .nil
    | cons h t ih =>
      simp only [List.all_cons, Bool.and_eq_true] at hn
      exact .cons (notT_v1 hn.1 h) (ih hn.2)
  unfold tupOf at h
  split at h
  · cases hr with
    | cons h1 t =>
      cases t
      simp only [Option.some.injEq] at h
      subst h
      simpa using h1
  · rename_i hne
    simp only [cond_eq_ite] at h
    split at h
    · rename_i hn
      simp only [Option.some.injEq] at h
      subst h
      have hl := hr.length
      have : vs'.toArray.size ≠ 1 := by
        intro e
        simp only [List.size_toArray] at e
        rw [e] at hl
        obtain ⟨x, hx⟩ := List.length_eq_one_iff.1 hl.symm
        exact hne x hx
      rw [dif_neg this]
      exact .tup (key hn hr)
    · cases h

theorem frOf_get : ∀ (l : List Value) (i : Nat) (fr : Fr) (t : Nat), lget (frOf l i fr) t = if i ≤ t ∧ t < i + l.length then l.getD (t - i) undef else lget fr t
  | [], i, fr, t => by
    have : ¬ (i ≤ t ∧ t < i + 0) := by omega
    simp only [frOf, List.length_nil]
    rw [if_neg this]
  | v :: l, i, fr, t => by
    simp only [frOf]
    rw [frOf_get l (i + 1) _ t]
    have hp := lget_lput fr i t v
    simp only [lput] at hp
    rw [hp]
    simp only [List.length_cons]
    by_cases h : i = t
    · subst h
      rw [if_neg (by omega), if_pos rfl, if_pos (by omega)]
      simp
    · rw [if_neg h]
      by_cases h2 : i + 1 ≤ t ∧ t < i + 1 + l.length
      · rw [if_pos h2, if_pos (by omega), show t - i = (t - (i + 1)) + 1 by omega]
        simp
      · rw [if_neg h2, if_neg (by omega)]

theorem sim_all (hP : P.follows .mixedOrders = true) (hAP : TabOk P AP) (hE : CallOk P B0 E) : ∀ n, SimC P B0 AP E n ∧ SimS P B0 AP E n ∧ CallOk P B0 (evF AP E n) := by
  intro n
  induction n using Nat.strongRecOn with
  | _ n ih =>
    cases n with
    | zero =>
      refine ⟨fun c ac m fr A x fr' A' _ _ h => by simp [evC] at h, fun c cur ac acur m fr A x fr' A' _ _ _ _ h => by simp [evS] at h, ⟨fun f args A v A' h => by simp [evF] at h, fun f args A v A' h => by simp [evF] at h, fun f args A v A' h => by simp [evF] at h⟩⟩
    | succ n =>
      obtain ⟨ihC, ihS, ihF⟩ := ih n (Nat.lt_succ_self n)
      refine ⟨?_, ?_, ?_⟩
      · intro c ac m fr A x fr' A' hc hm hev hwf
        cases c with
        | skip =>
          simp only [cCode, Option.some.injEq] at hc; subst hc
          simp only [evC, Option.some.injEq, Prod.mk.injEq, ASt.mk.injEq] at hev
          obtain ⟨rfl, rfl, rfl⟩ := hev
          exact ⟨⟨hwf, Nat.le_refl _⟩, fun μ a w hrep _ _ hst Q hQ => wp_skip (hQ μ a w (Out.refl hrep _ _) hst)⟩
        | label l =>
          simp only [cCode, Option.some.injEq] at hc; subst hc
          simp only [evC, Option.some.injEq, Prod.mk.injEq, ASt.mk.injEq] at hev
          obtain ⟨rfl, rfl, rfl⟩ := hev
          exact ⟨⟨hwf, Nat.le_refl _⟩, fun μ a w hrep _ _ hst Q hQ => wp_label (hQ μ a w (Out.refl hrep _ _) hst)⟩
        | exit l =>
          simp only [cCode, Option.some.injEq] at hc; subst hc
          simp only [evC, Option.some.injEq, Prod.mk.injEq, ASt.mk.injEq] at hev
          obtain ⟨rfl, rfl, rfl⟩ := hev
          exact ⟨⟨hwf, Nat.le_refl _⟩, fun μ a w hrep _ _ hst Q hQ => wp_exit (hQ μ a w (Out.refl hrep _ _) hst)⟩
        | goto l =>
          simp only [cCode, Option.some.injEq] at hc; subst hc
          simp only [evC, Option.some.injEq, Prod.mk.injEq, ASt.mk.injEq] at hev
          obtain ⟨rfl, rfl, rfl⟩ := hev
          exact ⟨⟨hwf, Nat.le_refl _⟩, fun μ a w hrep _ _ hst Q hQ => wp_goto (hQ μ a w (Out.refl hrep _ _) hst)⟩
        | ret =>
          simp only [cCode, Option.some.injEq] at hc; subst hc
          simp only [evC, Option.some.injEq, Prod.mk.injEq, ASt.mk.injEq] at hev
          obtain ⟨rfl, rfl, rfl⟩ := hev
          exact ⟨⟨hwf, Nat.le_refl _⟩, fun μ a w hrep _ _ hst Q hQ => wp_ret (hQ μ a w (Out.refl hrep _ _) hst)⟩
        | region id ops draw =>
          simp only [cCode] at hc
          have hgo : ∀ ss, ac = .reg ss → (∀ s ∈ ss, ∀ t ∈ namesOf s, t < m) ∧ x = .normal ∧ runSteps (evF AP E n) ss [A] fr A = some (fr', A') := by
            rintro ss rfl
            refine ⟨fun s hs t ht => ?_, ?_⟩
            · simp only [AC.lt, List.all_eq_true, optLt, decide_eq_true_eq] at hm
              exact hm s hs t ht
            · simp only [evC] at hev
              split at hev
              · rename_i fr1 A1 hr
                simp only [Option.some.injEq, Prod.mk.injEq, ASt.mk.injEq] at hev
                obtain ⟨rfl, rfl, rfl⟩ := hev
                exact ⟨rfl, hr⟩
              · cases hev
          split at hc
          · rename_i hd
            simp only [Option.map_eq_some_iff] at hc
            obtain ⟨ss, hss, rfl⟩ := hc
            obtain ⟨hlt, rfl, hr⟩ := hgo ss rfl
            refine ⟨runSteps_step ihF hr hwf, fun μ a w hrep hB hgap hst Q hQ => ?_⟩
            rw [hd]
            exact draw_sound hP ihF hss hlt hr hrep hB hwf hgap hst hQ
          · rename_i hd
            simp only [Option.map_eq_some_iff] at hc
            obtain ⟨ss, hss, rfl⟩ := hc
            obtain ⟨hlt, rfl, hr⟩ := hgo ss rfl
            refine ⟨runSteps_step ihF hr hwf, fun μ a w hrep hB hgap hst Q hQ => ?_⟩
            rw [show draw = false by simpa using hd]
            exact wp_region_list (list_sound ihF hss hlt hr hrep hB hwf hgap hst hQ)
        | seq a b =>
          simp only [cCode, Option.bind_eq_some_iff, Option.map_eq_some_iff] at hc
          obtain ⟨xa, hxa, xb, hxb, rfl⟩ := hc
          simp only [AC.lt, Bool.and_eq_true] at hm
          simp only [evC] at hev
          split at hev
          · rename_i s1 h1
            obtain ⟨fr1, A1⟩ := s1
            obtain ⟨⟨hw1, hl1⟩, k1⟩ := ihC _ _ _ _ _ _ _ _ hxa hm.1 h1 hwf
            obtain ⟨⟨hw2, hl2⟩, k2⟩ := ihC _ _ _ _ _ _ _ _ hxb hm.2 hev hw1
            refine ⟨⟨hw2, Nat.le_trans hl1 hl2⟩, fun μ a w hrep hB hgap hst Q hQ => wp_seq (k1 μ a w hrep hB (fun id h1 h2 => hgap id h1 (by omega)) hst _ fun μ1 a1 w1 ho1 hst1 => ?_)⟩
            exact k2 μ1 a1 w1 ho1.rep (Nat.le_trans hB ho1.size) (gap_next hgap hl1 ho1) hst1 Q fun μ2 a2 w2 ho2 hst2 => hQ μ2 a2 w2 (ho1.trans hl1 hl2 ho2) hst2
          · rename_i hn
            obtain ⟨hw1, k1⟩ := ihC _ _ _ _ _ _ _ _ hxa hm.1 hev hwf
            refine ⟨hw1, fun μ a w hrep hB hgap hst Q hQ => wp_seq (k1 μ a w hrep hB hgap hst _ fun μ1 a1 w1 ho1 hst1 => ?_)⟩
            have := hQ μ1 a1 w1 ho1 hst1
            cases x with
            | normal => exact absurd hev (hn _)
            | _ => exact this
        | cond c t e =>
          simp only [cCode, Option.bind_eq_some_iff, Option.map_eq_some_iff] at hc
          obtain ⟨xc, hxc, xt, hxt, xe, hxe, rfl⟩ := hc
          simp only [AC.lt, Bool.and_eq_true] at hm
          have hsl : ∀ t ∈ xc.slots, t < m := fun t ht => by
            have := hm.1
            simp only [optLt, List.all_eq_true, decide_eq_true_eq] at this
            exact this t ht
          simp only [evC] at hev
          split at hev
          · rename_i hb
            obtain ⟨hw1, k1⟩ := ihC _ _ _ _ _ _ _ _ hxt hm.2.1 hev hwf
            refine ⟨hw1, fun μ a w hrep hB hgap hst Q hQ => wp_cond_true ?_ (k1 μ a w hrep hB hgap hst Q hQ)⟩
            have := opd_rel (a := a) hxc (hst.frR hsl)
            rw [hb] at this
            exact this.bool
          · rename_i hb
            obtain ⟨hw1, k1⟩ := ihC _ _ _ _ _ _ _ _ hxe hm.2.2 hev hwf
            refine ⟨hw1, fun μ a w hrep hB hgap hst Q hQ => wp_cond_false ?_ (k1 μ a w hrep hB hgap hst Q hQ)⟩
            have := opd_rel (a := a) hxc (hst.frR hsl)
            rw [hb] at this
            exact this.bool
          · cases hev
        | block id c =>
          simp only [cCode, Option.map_eq_some_iff] at hc
          obtain ⟨xc, hxc, rfl⟩ := hc
          simp only [AC.lt] at hm
          simp only [evC, cond_eq_ite] at hev
          split at hev
          · rename_i i s1 h1
            obtain ⟨fr1, A1⟩ := s1
            obtain ⟨hw1, k1⟩ := ihC _ _ _ _ _ _ _ _ hxc hm h1 hwf
            have e : fr1 = fr' ∧ A1 = A' ∧ x = if i = id then .normal else .exit i := by
              simp only [Nat.beq_eq] at hev
              split at hev <;> (simp only [Option.some.injEq, Prod.mk.injEq, ASt.mk.injEq] at hev; rename_i hh; simp [hh, hev])
            obtain ⟨rfl, rfl, rfl⟩ := e
            refine ⟨hw1, fun μ a w hrep hB hgap hst Q hQ => wp_block (k1 μ a w hrep hB hgap hst _ fun μ1 a1 w1 ho1 hst1 => ?_)⟩
            have := hQ μ1 a1 w1 ho1 hst1
            simp only [AX.exit_, Exit.inBlock]
            split
            · rename_i hh; rw [if_pos hh] at this; exact this
            · rename_i hh; rw [if_neg hh] at this; exact this
          · rename_i hn
            obtain ⟨hw1, k1⟩ := ihC _ _ _ _ _ _ _ _ hxc hm hev hwf
            refine ⟨hw1, fun μ a w hrep hB hgap hst Q hQ => wp_block (k1 μ a w hrep hB hgap hst _ fun μ1 a1 w1 ho1 hst1 => ?_)⟩
            have := hQ μ1 a1 w1 ho1 hst1
            cases x with
            | exit i => exact absurd hev (hn _ _)
            | _ => exact this
        | loop c =>
          simp only [cCode, Option.map_eq_some_iff] at hc
          obtain ⟨xc, hxc, rfl⟩ := hc
          simp only [AC.lt] at hm
          have hmono : ∀ k, k ≤ n + 1 → ∀ fr0 A0, evC AP E k (.loop xc) ⟨fr0, A0⟩ = some (x, ⟨fr', A'⟩) → wfA A0 → wfA A' ∧ A0.next ≤ A'.next := by
            intro k
            induction k with
            | zero => intro _ fr0 A0 h; simp [evC] at h
            | succ k ihk =>
              intro hk fr0 A0 h hw0
              obtain ⟨kC, _, _⟩ := ih k (by omega)
              simp only [evC] at h
              split at h
              · rename_i s1 h1
                obtain ⟨fr1, A1⟩ := s1
                obtain ⟨⟨hw1, hl1⟩, _⟩ := kC _ _ _ _ _ _ _ _ hxc hm h1 hw0
                obtain ⟨hw2, hl2⟩ := ihk (by omega) _ _ h hw1
                exact ⟨hw2, Nat.le_trans hl1 hl2⟩
              · exact (kC _ _ _ _ _ _ _ _ hxc hm h hw0).1
          refine ⟨hmono _ (Nat.le_refl _) _ _ hev hwf, fun μ a w hrep hB hgap hst Q hQ => ?_⟩
          refine wp_loop_idx (fun k a1 w1 => k ≤ n + 1 ∧ ∃ fr1 A1 μ1, evC AP E k (.loop xc) ⟨fr1, A1⟩ = some (x, ⟨fr', A'⟩) ∧ Out B0 μ A.get w A.next A1.next μ1 A1.get w1 ∧ wfA A1 ∧ A.next ≤ A1.next ∧ StR m μ1 fr1 a1) ?_ (n := n + 1) ⟨Nat.le_refl _, fr, A, μ, hev, Out.refl hrep _ _, hwf, Nat.le_refl _, hst⟩
          rintro k a1 w1 ⟨hk, fr1, A1, μ1, hev1, ho1, hw1, hl1, hst1⟩
          cases k with
          | zero => simp [evC] at hev1
          | succ k =>
            obtain ⟨kC, _, _⟩ := ih k (by omega)
            have hmn := hmono (k + 1) hk _ _ hev1 hw1
            simp only [evC] at hev1
            split at hev1
            · rename_i s2 h2
              obtain ⟨fr2, A2⟩ := s2
              obtain ⟨⟨hw2, hl2⟩, k2⟩ := kC _ _ _ _ _ _ _ _ hxc hm h2 hw1
              have hl3 := (hmono k (by omega) _ _ hev1 hw2).2
              refine k2 μ1 a1 w1 ho1.rep (Nat.le_trans hB ho1.size) (fun id h3 h4 => gap_next hgap hl1 ho1 id h3 (by omega)) hst1 _ fun μ2 a2 w2 ho2 hst2 => ?_
              exact ⟨k, Nat.lt_succ_self k, by omega, fr2, A2, μ2, hev1, ho1.trans hl1 hl2 ho2, hw2, Nat.le_trans hl1 hl2, hst2⟩
            · rename_i hn
              obtain ⟨hw2, k2⟩ := kC _ _ _ _ _ _ _ _ hxc hm hev1 hw1
              refine k2 μ1 a1 w1 ho1.rep (Nat.le_trans hB ho1.size) (gap_next hgap hl1 ho1) hst1 _ fun μ2 a2 w2 ho2 hst2 => ?_
              have := hQ μ2 a2 w2 (ho1.trans hl1 hmn.2 ho2) hst2
              cases x with
              | normal => exact absurd hev1 (hn _)
              | _ => exact this
        | scope c =>
          simp only [cCode, Option.map_eq_some_iff] at hc
          obtain ⟨xc, hxc, rfl⟩ := hc
          simp only [AC.lt] at hm
          simp only [evC] at hev
          obtain ⟨hw1, k1⟩ := ihS _ _ _ _ _ _ _ _ _ _ hxc hm hxc hm hev hwf
          exact ⟨hw1, fun μ a w hrep hB hgap hst Q hQ => wp_inScope (k1 μ a w hrep hB hgap hst Q hQ)⟩
        | _ => simp [cCode] at hc
      · intro c cur ac acur m fr A x fr' A' hc hm hcur hmcur hev hwf
        simp only [evS] at hev
        split at hev
        · rename_i l s1 h1
          obtain ⟨fr1, A1⟩ := s1
          obtain ⟨⟨hw1, hl1⟩, k1⟩ := ihC _ _ _ _ _ _ _ _ hcur hmcur h1 hwf
          have hfind := cCode_find hc hm l
          split at hev
          · rename_i rest hf
            cases hfl : findLabel c l with
            | none => rw [hfl] at hfind; rw [hf] at hfind; cases hfind
            | some rc =>
              rw [hfl] at hfind
              obtain ⟨ar, h2, h3, h4⟩ := hfind
              rw [hf] at h2
              cases h2
              obtain ⟨⟨hw2, hl2⟩, k2⟩ := ihS _ _ _ _ _ _ _ _ _ _ hc hm h3 h4 hev hw1
              refine ⟨⟨hw2, Nat.le_trans hl1 hl2⟩, fun μ a w hrep hB hgap hst Q hQ => inScope_of (k1 μ a w hrep hB (fun id h1 h2 => hgap id h1 (by omega)) hst _ fun μ1 a1 w1 ho1 hst1 => ?_)⟩
              simp only [AX.exit_, Exit.inScope, hfl]
              exact k2 μ1 a1 w1 ho1.rep (Nat.le_trans hB ho1.size) (gap_next hgap hl1 ho1) hst1 Q fun μ2 a2 w2 ho2 hst2 => hQ μ2 a2 w2 (ho1.trans hl1 hl2 ho2) hst2
          · rename_i hf
            simp only [Option.some.injEq, Prod.mk.injEq, ASt.mk.injEq] at hev
            obtain ⟨rfl, rfl, rfl⟩ := hev
            refine ⟨⟨hw1, hl1⟩, fun μ a w hrep hB hgap hst Q hQ => inScope_of (k1 μ a w hrep hB hgap hst _ fun μ1 a1 w1 ho1 hst1 => ?_)⟩
            cases hfl : findLabel c l with
            | some rc =>
              rw [hfl] at hfind
              obtain ⟨ar, h2, _⟩ := hfind
              rw [hf] at h2; cases h2
            | none =>
              simp only [AX.exit_, Exit.inScope, hfl]
              exact hQ μ1 a1 w1 ho1 hst1
        · rename_i hn
          obtain ⟨hw1, k1⟩ := ihC _ _ _ _ _ _ _ _ hcur hmcur hev hwf
          refine ⟨hw1, fun μ a w hrep hB hgap hst Q hQ => inScope_of (k1 μ a w hrep hB hgap hst _ fun μ1 a1 w1 ho1 hst1 => ?_)⟩
          have := hQ μ1 a1 w1 ho1 hst1
          cases x with
          | goto l => exact absurd hev (hn _ _)
          | _ => exact this
      · have hdec : ∀ f args A v A', evF AP E (n + 1) f args A = some (v, A') → (AP f = none ∧ E f args A = some (v, A')) ∨ ∃ afn x s vs, AP f = some afn ∧ evC AP E n afn.body ⟨frOf args 0 .e, A⟩ = some (x, s) ∧ (x = .normal ∨ x = .ret) ∧ aresults s.A s.fr afn.res = some vs ∧ tupOf vs = some v ∧ s.A = A' := by
          intro f args A v A' h
          simp only [evF] at h
          split at h
          · rename_i afn haf
            split at h
            · rename_i s hs
              simp only [Option.bind_eq_some_iff, Option.map_eq_some_iff, Prod.mk.injEq] at h
              obtain ⟨vs, hvs, v', hv', rfl, rfl⟩ := h
              exact .inr ⟨afn, _, s, vs, haf, hs, .inl rfl, hvs, hv', rfl⟩
            · rename_i s hs
              simp only [Option.bind_eq_some_iff, Option.map_eq_some_iff, Prod.mk.injEq] at h
              obtain ⟨vs, hvs, v', hv', rfl, rfl⟩ := h
              exact .inr ⟨afn, _, s, vs, haf, hs, .inr rfl, hvs, hv', rfl⟩
            · cases h
          · rename_i haf
            exact .inl ⟨haf, h⟩
        have hfn : ∀ f afn, AP f = some afn → ∃ fn c rs, P.funcs[f]? = some fn ∧ fn.body = some c ∧ cCode P c = some afn.body ∧ rs = afn.res ∧ fn.results.toList.mapM (cRes P) = some rs ∧ afn.body.lt fn.ntmps = true ∧ (∀ r ∈ rs, r.slot < fn.ntmps) ∧ (fn.name == "runtime.NumGoroutine") = false := by
          intro f afn haf
          obtain ⟨fn, hf, hcf, hnm⟩ := hAP f afn haf
          simp only [cFn, Option.bind_eq_some_iff] at hcf
          obtain ⟨b, hb, c, hc, rs, hrs, h⟩ := hcf
          split at h
          · rename_i hok
            simp only [Bool.and_eq_true, List.all_eq_true, decide_eq_true_eq] at hok
            cases h
            exact ⟨fn, b, rs, hf, hb, hc, rfl, hrs, hok.1, hok.2, hnm⟩
          · cases h
        refine ⟨?_, ?_, ?_⟩
        · intro f args A v A' h μ w args' hrep hB hwf hgap hargs
          obtain ⟨_, hex⟩ | ⟨afn, x, ⟨fr', A1⟩, vs, haf, hev, hx, hvs, htv, rfl⟩ := hdec f args A v A' h
          · exact hE.sim f args A v A' hex μ w args' hrep hB hwf hgap hargs
          obtain ⟨fn, c, rs, hf, hb, hc, rfl, hrs, hlt, hrl, hnm⟩ := hfn f afn haf
          refine calls_of_wp hf hb ?_
          have hle : fn.ntmps ≤ (args'.toArray ++ Array.replicate (fn.ntmps - args'.toArray.size) undef).size := by simp; omega
          generalize hm : (args'.toArray ++ Array.replicate (fn.ntmps - args'.toArray.size) undef).size = m at hle
          obtain ⟨hw1, k1⟩ := ihC _ _ m _ _ _ _ _ hc (AC.lt_mono hle hlt) hev hwf
          refine k1 μ _ w hrep hB hgap ⟨hm, rfl, fun t ht => ?_⟩ _ fun μ' a' w' ho hst => ?_
          · rw [frOf_get]
            have hll := hargs.length
            simp only [Array.getD_eq_getD_getElem?, Array.getElem?_append, List.size_toArray, List.getElem?_toArray, Array.getElem?_replicate]
            by_cases h1 : t < args.length
            · rw [if_pos (by omega), if_pos (by omega)]
              obtain ⟨v', h2, h3⟩ := hargs.at_ t args[t] (List.getElem?_eq_getElem h1)
              simp only [h2, Option.getD_some, Nat.sub_zero, List.getD_eq_getElem?_getD, List.getElem?_eq_getElem h1]
              exact h3
            · rw [if_neg (by omega), if_neg (by omega)]
              have : ∀ y : Option Value, (y = none ∨ y = some undef) → VR μ (lget .e t) (y.getD undef) := by
                rintro y (rfl | rfl) <;> exact VR.undef_
              refine this _ ?_
              split
              · exact .inr rfl
              · exact .inl rfl
          · obtain ⟨vs', h1, h2⟩ := results_sound ho.rep hst hrs (fun r hr => Nat.lt_of_lt_of_le (hrl r hr) hle) hvs
            obtain ⟨v', h3, h4⟩ := tup_rel htv h2
            have hr : (results fn a'.tmps).run P w' = .ok v' w' := by
              have e : fn.results.mapM (resG a'.tmps) = (fn.results.toList.mapM (resG a'.tmps) >>= fun l => pure l.toArray) := by
                rw [Array.mapM_eq_mapM_toList]
                rfl
              have e2 : results fn a'.tmps = (fn.results.mapM (resG a'.tmps) >>= fun vs => pure (if h : vs.size = 1 then vs[0] else .tuple vs)) := rfl
              rw [e2, e]
              simp only [Sem.run_bind, h1, Result.andThen_ok, Sem.run_pure, h3]
            rcases hx with rfl | rfl
            · exact ⟨hst.df, v', hr, μ', v', rfl, ho, h4⟩
            · exact ⟨hst.df, v', hr, μ', v', rfl, ho, h4⟩
        · intro f args A v A' h
          obtain ⟨_, hex⟩ | ⟨afn, x, s, vs, haf, _⟩ := hdec f args A v A' h
          · exact hE.fn f args A v A' hex
          obtain ⟨fn, c, rs, hf, hb, _, _, _, _, _, hnm⟩ := hfn f afn haf
          exact ⟨fn, hf, by rw [hb]; rfl, hnm⟩
        · intro f args A v A' h hwf
          obtain ⟨_, hex⟩ | ⟨afn, x, ⟨fr', A1⟩, vs, haf, hev, hx, hvs, htv, rfl⟩ := hdec f args A v A' h
          · exact hE.step f args A v A' hex hwf
          obtain ⟨fn, c, rs, hf, hb, hc, rfl, hrs, hlt, hrl, hnm⟩ := hfn f afn haf
          exact (ihC _ _ _ _ _ _ _ _ hc hlt hev hwf).1

/-- what the abstract machine comes to, the program comes to -/
theorem calls_of_ev (hP : P.follows .mixedOrders = true) (hAP : TabOk P AP) (hE : CallOk P B0 E) {n : Nat} {f : FuncId} {args : List Value} {A A' : AHeap} {v : Value} (h : evF AP E n f args A = some (v, A')) {μ : Mu} {w : World} {args' : List Value} (hrep : Rep B0 μ A.get w) (hB : B0 ≤ w.heap.size) (hwf : wfA A)
    (hgap : ∀ id, A.next ≤ id → id < A'.next → μ id = none) (hargs : All2 (VR μ) args args') :
    Calls P f args'.toArray w fun e w' => ∃ μ' v', e = .returned v' ∧ Out B0 μ A.get w A.next A'.next μ' A'.get w' ∧ VR μ' v v' :=
  (sim_all hP hAP hE n).2.2.sim f args A v A' h μ w args' hrep hB hwf hgap hargs
end
end Go.Abs
