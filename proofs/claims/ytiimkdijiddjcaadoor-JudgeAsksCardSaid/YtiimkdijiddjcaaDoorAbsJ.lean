/- The operations of the abstract machine are the model's: slices, addresses, parts. -/
import Derived.Test.YtiimkdijiddjcaaDoorAbsI
namespace Go.Abs
open Go

section
variable {P : Program} {B0 : Nat} {μ : Mu} {A A' : AHeap} {w : World} {fr : Fr} {a : Act}

/-- an optional operand -/
def OptR (μ : Mu) (x x' : Option Value) : Prop := (x = none ∧ x' = none) ∨ ∃ u u', x = some u ∧ x' = some u' ∧ VR μ u u'
theorem optR_of {x : Option Operand} {y : Option Opd} (h : cOpt x = some y) (hf : FrR μ fr a.tmps (optSlots y)) : OptR μ (y.map (Opd.ev fr)) (x.map a.eval) := by
  rcases opt_rel (a := a) h hf with ⟨rfl, rfl⟩ | ⟨x0, y0, rfl, rfl, hv⟩
  · exact .inl ⟨rfl, rfl⟩
  · exact .inr ⟨_, _, rfl, rfl, hv⟩

theorem bound_run {u u' : Value} {y n : Nat} (h : boundOf u y = some n) (hv : VR μ u u') {y' : Nat} (hy : y ≤ y') (code : BoundsCode) : (Instr.sliceBound u' y' code).run P w = .ok n w ∧ n ≤ y := by
  unfold boundOf at h
  split at h
  · rename_i k i
    split at h
    · rename_i hc
      cases h
      have e := hv.int; subst e
      exact ⟨run_sliceBound w k i y' code hc.1 (by omega), by omega⟩
    · cases h
  · cases h

theorem low_run {lo lo' : Option Value} {h l : Nat} (hl : boundO lo h 0 = some l) (hlo : OptR μ lo lo') (m : Nat) (code : BoundsCode) :
    (match (generalizing := false) lo' with
      | some v => do let l ← Instr.sliceBound v h code; pure (l, h, m)
      | none => do let l ← (pure 0 : Sem Nat); pure (l, h, m) : Sem (Nat × Nat × Nat)).run P w = .ok (l, h, m) w ∧ l ≤ h := by
  rcases hlo with ⟨rfl, rfl⟩ | ⟨u, u', rfl, rfl, hv⟩
  · simp [boundO] at hl; subst hl; exact ⟨rfl, by omega⟩
  · simp only [boundO] at hl
    obtain ⟨h1, h2⟩ := bound_run (P := P) (w := w) hl hv (Nat.le_refl _) code
    exact ⟨by simp [h1], h2⟩
theorem bounds_run {lo hi : Option Value} {lo' hi' : Option Value} {isS : Bool} {len c cap' l h : Nat} (hh : boundO hi c len = some h) (hl : boundO lo h 0 = some l) (hlo : OptR μ lo lo') (hhi : OptR μ hi hi') (hc : c ≤ cap') :
    (Instr.sliceBounds isS len cap' lo' hi' none).run P w = .ok (l, h, cap') w ∧ l ≤ h ∧ (h ≤ c ∨ (hi = none ∧ h = len)) := by
  rcases hhi with ⟨rfl, rfl⟩ | ⟨u, u', rfl, rfl, hv⟩
  · simp [boundO] at hh; subst hh
    obtain ⟨h1, h2⟩ := low_run (P := P) (w := w) hl hlo cap' (if (none : Option Value).isSome then .slice3C else .sliceB)
    refine ⟨?_, h2, .inr ⟨rfl, rfl⟩⟩
    simp only [Instr.sliceBounds, Sem.run_bind, Sem.run_pure, Result.andThen_ok]
    exact h1
  · simp only [boundO] at hh
    obtain ⟨h3, h4⟩ := bound_run (P := P) (w := w) hh hv hc (if isS then .sliceAcap else .sliceAlen)
    obtain ⟨h1, h2⟩ := low_run (P := P) (w := w) hl hlo cap' (if (none : Option Value).isSome then .slice3C else .sliceB)
    refine ⟨?_, h2, .inl h4⟩
    simp only [Instr.sliceBounds, Sem.run_bind, Sem.run_pure, Result.andThen_ok, h3]
    exact h1

theorem addA_none (b o n : Nat) : addA ⟨b, o, none⟩ n = ⟨b, o + n, none⟩ := rfl

theorem snd_slStr {t : TypeId} (ht : P.underlying t = some .string) {u u' v : Value} {lo hi lo' hi' : Option Value} (h : aslStr u lo hi = some v) (hu : VR μ u u') (hlo : OptR μ lo lo') (hhi : OptR μ hi hi') :
    ∃ v', (Instr.sliceAt t u' lo' hi' none).run P w = .ok v' w ∧ VR μ v v' := by
  unfold aslStr at h
  split at h
  · rename_i s
    have e := hu.string; subst e
    simp only [Option.bind_eq_some_iff] at h
    obtain ⟨hh, h1, l, h2, h3⟩ := h
    cases h3
    obtain ⟨hb, _⟩ := bounds_run (P := P) (w := w) (isS := false) h1 h2 hlo hhi (Nat.le_refl _)
    refine ⟨.string (s.extract l hh), ?_, vr_string _⟩
    simp only [Instr.sliceAt, Instr.slice, Sem.run_bind, run_underlying ht, Result.andThen_ok, hb, Option.isSome_none, Bool.false_eq_true, if_false, Sem.run_pure]
  · cases h

theorem snd_slArr {t e : TypeId} {n sz : Nat} (ht : P.underlying t = some (.array n e)) (hn : szOf P e = some sz) (hcap : n < capInf) {u u' v : Value} {lo hi lo' hi' : Option Value} (h : aslArr sz n u lo hi = some v) (hu : VR μ u u') (hlo : OptR μ lo lo') (hhi : OptR μ hi hi') :
    ∃ v', (Instr.sliceAt t u' lo' hi' none).run P w = .ok v' w ∧ VR μ v v' := by
  unfold aslArr at h
  split at h
  · rename_i ad
    obtain ⟨id, off, sp⟩ := ad
    obtain ⟨i, hi', rfl, rfl⟩ := hu.ptr
    simp only [Option.bind_eq_some_iff] at h
    obtain ⟨hh, h1, l, h2, h3⟩ := h
    cases h3
    obtain ⟨hb, h4, h5⟩ := bounds_run (P := P) (w := w) (isS := false) h1 h2 hlo hhi (Nat.le_refl _)
    have h6 : hh ≤ n := by rcases h5 with h5 | ⟨_, h5⟩ <;> omega
    refine ⟨.slice (some (if n = l then ⟨i.blk, i.base + off, none⟩ else (⟨i.blk, i.base + off, none⟩ : Addr).add (l * sz))) (hh - l) (n - l), ?_, ?_⟩
    · simp only [Instr.sliceAt, Sem.run_bind, run_underlying ht, Instr.sureAddr, Result.andThen_ok, Sem.run_pure, hb, run_sizeOf hn]
    · by_cases e : n = l
      · simp only [if_pos e]
        exact .sr (.slx hi' (by omega) (.inr ⟨by omega, by omega⟩))
      · simp only [if_neg e, addr_add, addA_none]
        exact .sr (.slx hi' (by omega) (.inl (by omega)))
  · cases h

theorem snd_slice {t e : TypeId} {sz : Nat} (ht : P.underlying t = some (.slice e)) (hn : szOf P e = some sz) {u u' v : Value} {lo hi mx lo' hi' mx' : Option Value} (h : aslice sz u lo hi mx = some v) (hu : VR μ u u') (hlo : OptR μ lo lo') (hhi : OptR μ hi hi') (hmx : OptR μ mx mx') :
    ∃ v', (Instr.sliceAt t u' lo' hi' mx').run P w = .ok v' w ∧ VR μ v v' := by
  unfold aslice at h
  split at h
  · rename_i ao len cap
    -- the model's slice
    have hu2 : ∃ ao' cap', u' = .slice ao' len cap' ∧ Nat.mod cap capInf ≤ cap' ∧ (cap < capInf → cap' = cap) ∧ (ao = none → ao' = none) ∧
        ∀ id off sp, ao = some ⟨id, off, sp⟩ → ∃ i off', μ id = some i ∧ sp = none ∧ ao' = some ⟨i.blk, off', none⟩ ∧ ((cap < capInf ∧ (off' = i.base + off ∨ (cap = 0 ∧ len = 0))) ∨
          (i.opn = true ∧ ∃ c0, cap = capInf * (i.sz + 1) + c0 ∧ len ≤ c0 ∧ c0 < capInf ∧ c0 ≤ cap' ∧ (cap' = 0 ∨ (off' = i.base + off ∧ off' + cap' * i.sz ≤ i.asz)))) := by
      cases ao with
      | none =>
        have e := hu.slice0; subst e
        exact ⟨none, cap, rfl, Nat.mod_le _ _, fun _ => rfl, fun _ => rfl, (fun _ _ _ h => by cases h)⟩
      | some ad =>
        obtain ⟨id, off, sp⟩ := ad
        obtain ⟨i, off', cap', hi, hsp, rfl, hh⟩ := hu.slice
        refine ⟨_, cap', rfl, ?_, ?_, (fun h => by cases h), fun id2 off2 sp2 h => ?_⟩
        · rcases hh with ⟨h1, rfl, _⟩ | ⟨c0, rfl, _, _, hc, hc', _⟩
          · exact Nat.mod_le _ _
          · rw [(open_cap hc).1]; exact hc'
        · intro hlt
          rcases hh with ⟨h1, rfl, _⟩ | ⟨c0, rfl, _, _, hc, hc', _⟩
          · rfl
          · exact absurd hlt (open_cap hc).2.2
        · cases h
          refine ⟨i, off', hi, hsp, rfl, ?_⟩
          rcases hh with ⟨h1, rfl, h2⟩ | ⟨c0, hc1, ho, hl, hc, hc', hd⟩
          · exact .inl ⟨h1, h2⟩
          · exact .inr ⟨ho, c0, hc1, hl, hc, hc', hd⟩
    obtain ⟨ao', cap', rfl, hcap, hex, hnil, hsome⟩ := hu2
    cases mx with
    | some m0 =>
      rcases hmx with ⟨h1, _⟩ | ⟨um, um', h1, rfl, hvm⟩
      · cases h1
      cases h1
      simp only [Option.bind_eq_some_iff] at h
      obtain ⟨m, hm, hh, ⟨uh, huh, hh2⟩, l, hl, hv⟩ := h
      cases hv
      subst huh
      rcases hhi with ⟨h1, _⟩ | ⟨u2, uh', h1, rfl, hvh⟩
      · cases h1
      cases h1
      obtain ⟨r1, b1⟩ := bound_run (P := P) (w := w) hm hvm hcap .slice3Acap
      obtain ⟨r2, b2⟩ := bound_run (P := P) (w := w) hh2 hvh (Nat.le_refl _) .slice3B
      have r3 := low_run (P := P) (w := w) hl hlo m (if (some um').isSome then .slice3C else .sliceB)
      refine ⟨.slice (if m = l then ao' else ao'.map (·.add (l * sz))) (hh - l) (m - l), ?_, ?_⟩
      · have hb : (Instr.sliceBounds true len cap' lo' (some uh') (some um')).run P w = .ok (l, hh, m) w := by
          simp only [Instr.sliceBounds, Sem.run_bind, Result.andThen_ok, if_true, r1, r2]
          exact r3.1
        simp only [Instr.sliceAt, Instr.slice, Sem.run_bind, run_underlying ht, Result.andThen_ok, hb, run_sizeOf hn, Sem.run_pure]
      · have hmc : m < capInf := Nat.lt_of_le_of_lt b1 (Nat.mod_lt _ (by decide))
        cases ao with
        | none =>
          rw [hnil rfl]
          simp only [Option.map_none, ite_self]
          exact .sr (.plain rfl)
        | some ad =>
          obtain ⟨id, off, sp⟩ := ad
          obtain ⟨i, off', hi, rfl, rfl, hh3⟩ := hsome _ _ _ rfl
          by_cases e : m = l
          · simp only [if_pos e]
            exact .sr (.slx hi (by omega) (.inr ⟨by omega, by omega⟩))
          · simp only [if_neg e, Option.map_some, addr_add, addA_none]
            refine .sr (.slx hi (by omega) (.inl ?_))
            rcases hh3 with ⟨h1, h2 | ⟨h2, h3⟩⟩ | ⟨_, c0, rfl, _, hc, hc', h2 | ⟨h2, _⟩⟩
            · omega
            · subst h2; simp [Nat.mod] at b1; omega
            · rw [(open_cap hc).1] at b1; omega
            · omega
    | none =>
      have hmx' : mx' = none := by
        rcases hmx with ⟨_, h⟩ | ⟨um, um', h1, _⟩
        · exact h
        · cases h1
      subst hmx'
      simp only [Option.bind_eq_some_iff] at h
      obtain ⟨hh, h1, l, h2, hv⟩ := h
      obtain ⟨hb, hlh, hor⟩ := bounds_run (P := P) (w := w) (isS := true) h1 h2 hlo hhi hcap
      have hrun : (Instr.sliceAt t (.slice ao' len cap') lo' hi' none).run P w = .ok (.slice (if cap' = l then ao' else ao'.map (·.add (l * sz))) (hh - l) (cap' - l)) w := by
        simp only [Instr.sliceAt, Instr.slice, Sem.run_bind, run_underlying ht, Result.andThen_ok, hb, run_sizeOf hn, Sem.run_pure]
      refine ⟨_, hrun, ?_⟩
      split at hv
      · rename_i hlt
        cases hv
        have e1 := hex hlt; subst e1
        cases ao with
        | none =>
          rw [hnil rfl]
          simp only [Option.map_none, ite_self]
          exact .sr (.plain rfl)
        | some ad =>
          obtain ⟨id, off, sp⟩ := ad
          obtain ⟨i, off', hi, rfl, rfl, hh3⟩ := hsome _ _ _ rfl
          have hh4 : off' = i.base + off ∨ (cap' = 0 ∧ len = 0) := by
            rcases hh3 with ⟨_, h⟩ | ⟨_, c0, rfl, _, hc, _⟩
            · exact h
            · exact absurd hlt (open_cap hc).2.2
          by_cases e : cap' = l
          · simp only [if_pos e]
            refine .sr (.slx hi (by omega) ?_)
            rcases hh4 with h | ⟨h, h'⟩
            · exact .inl h
            · refine .inr ⟨by omega, ?_⟩
              rcases hor with h5 | ⟨_, h5⟩
              · rw [exact_cap hlt] at h5; omega
              · omega
          · simp only [if_neg e, Option.map_some, addr_add, addA_none]
            refine .sr (.slx hi (by omega) ?_)
            rcases hh4 with h | ⟨h, h'⟩
            · exact .inl (by omega)
            · rcases hor with h5 | ⟨_, h5⟩
              · rw [exact_cap hlt] at h5; omega
              · omega
      · rename_i hge
        split at hv
        · rename_i hsz
          cases hv
          cases ao with
          | none =>
            rw [hnil rfl]
            simp only [Option.map_none, ite_self]
            have e := hu.slice0
            have e2 : cap' = cap := by injection e
            subst e2
            exact .sr (.plain rfl)
          | some ad =>
            obtain ⟨id, off, sp⟩ := ad
            obtain ⟨i, off', hi, rfl, rfl, hh3⟩ := hsome _ _ _ rfl
            rcases hh3 with ⟨h, _⟩ | ⟨ho, c0, rfl, hlc, hc, hc', hd⟩
            · exact absurd h hge
            · rw [(open_cap hc).2.1] at hsz
              rw [(open_cap hc).1] at hor
              have hhc : hh ≤ c0 := by rcases hor with h | ⟨_, h⟩ <;> omega
              have esz : i.sz = sz := by omega
              subst esz
              have e3 : capInf * (i.sz + 1) + c0 - l = capInf * (i.sz + 1) + (c0 - l) := by omega
              rw [e3]
              simp only [Option.map_some, addA_none]
              by_cases e : cap' = l
              · simp only [if_pos e]
                exact .sr (.slo hi ho (by omega) (by omega) (by omega) (.inl (by omega)))
              · simp only [if_neg e, addr_add]
                refine .sr (.slo hi ho (by omega) (by omega) (by omega) (.inr ?_))
                rcases hd with h | ⟨h, h'⟩
                · omega
                · refine ⟨by omega, ?_⟩
                  have : off' + l * i.sz + (cap' - l) * i.sz = off' + cap' * i.sz := by
                    rw [Nat.add_assoc, ← Nat.add_mul]; congr 2; omega
                  omega
        · cases hv
  · cases h
end
end Go.Abs
