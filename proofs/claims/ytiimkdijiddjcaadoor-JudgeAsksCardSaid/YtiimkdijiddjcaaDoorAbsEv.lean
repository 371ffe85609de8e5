/- Runs of the abstract machine, without their fuel: what a piece of code comes to. -/
import Derived.Test.YtiimkdijiddjcaaDoorAbsW
namespace Go.Abs
set_option linter.unusedSimpArgs false
set_option linter.unusedVariables false
set_option linter.unusedSectionVars false
set_option linter.defProp false
open Go

theorem stepRun_mono {call call' : Call} (hc : ∀ f a A r, call f a A = some r → call' f a A = some r) {s : Step} {fr : Fr} {A : AHeap} {r : Value × AHeap} (h : stepRun call s fr A = some r) : stepRun call' s fr A = some r := by
  unfold stepRun at h ⊢
  split at h
  · exact hc _ _ _ _ h
  · split at h
    · split at h
      · rename_i h0; rw [if_pos h0]; exact hc _ _ _ _ h
      · cases h
    · cases h
  · exact h
theorem runSteps_mono {call call' : Call} (hc : ∀ f a A r, call f a A = some r → call' f a A = some r) : ∀ {L : List Step} {S : List AHeap} {fr : Fr} {A : AHeap} {r : Fr × AHeap}, runSteps call L S fr A = some r → runSteps call' L S fr A = some r
  | [], _, _, _, _, h => h
  | s :: L, S, fr, A, r, h => by
    simp only [runSteps, cond_eq_ite] at h ⊢
    split at h
    · rename_i hw
      rw [if_pos hw]
      split at h
      · rename_i v A' hr
        rw [stepRun_mono hc hr]
        simp only []
        split at h
        · rename_i hk; rw [if_pos hk]; exact runSteps_mono hc h
        · cases h
      · cases h
    · rename_i hw
      rw [if_neg hw]
      exact runSteps_mono hc h

section
variable {AP : FuncId → Option AFn} {E : Call}
theorem ev_mono : ∀ n : Nat, (∀ c s r, evC AP E n c s = some r → ∀ m, n ≤ m → evC AP E m c s = some r) ∧ (∀ c d s r, evS AP E n c d s = some r → ∀ m, n ≤ m → evS AP E m c d s = some r) ∧ (∀ f a A r, evF AP E n f a A = some r → ∀ m, n ≤ m → evF AP E m f a A = some r) := by
  intro n
  induction n with
  | zero => exact ⟨fun c s r h => by simp [evC] at h, fun c d s r h => by simp [evS] at h, fun f a A r h => by simp [evF] at h⟩
  | succ n ih =>
    obtain ⟨ihC, ihS, ihF⟩ := ih
    refine ⟨?_, ?_, ?_⟩
    · intro c s r h m hm
      obtain ⟨m, rfl⟩ : ∃ k, m = k + 1 := ⟨m - 1, by omega⟩
      have hm' : n ≤ m := by omega
      cases c with
      | reg ss =>
        simp only [evC] at h ⊢
        split at h
        · rename_i fr A hr
          rw [runSteps_mono (fun f a A r hx => ihF f a A r hx m hm') hr]
          exact h
        · cases h
      | seq a b =>
        simp only [evC] at h ⊢
        split at h
        · rename_i s1 h1
          rw [ihC _ _ _ h1 m hm']
          exact ihC _ _ _ h m hm'
        · rename_i hn
          have h1 := ihC _ _ _ h m hm'
          rw [h1]
          split
          · rename_i s1 e; cases e; exact absurd h (hn _)
          · rfl
      | cond x t e =>
        simp only [evC] at h ⊢
        split at h
        · exact ihC _ _ _ h m hm'
        · exact ihC _ _ _ h m hm'
        · cases h
      | block id c =>
        simp only [evC] at h ⊢
        split at h
        · rename_i i s1 h1
          rw [ihC _ _ _ h1 m hm']
          exact h
        · rename_i hn
          have h1 := ihC _ _ _ h m hm'
          rw [h1]
          split
          · rename_i i s1 e; cases e; exact absurd h (hn _ _)
          · rfl
      | loop c =>
        simp only [evC] at h ⊢
        split at h
        · rename_i s1 h1
          rw [ihC _ _ _ h1 m hm']
          exact ihC _ _ _ h m hm'
        · rename_i hn
          have h1 := ihC _ _ _ h m hm'
          rw [h1]
          split
          · rename_i s1 e; cases e; exact absurd h (hn _)
          · rfl
      | scope c =>
        simp only [evC] at h ⊢
        exact ihS _ _ _ _ h m hm'
      | _ => simp only [evC] at h ⊢; exact h
    · intro c d s r h m hm
      obtain ⟨m, rfl⟩ : ∃ k, m = k + 1 := ⟨m - 1, by omega⟩
      have hm' : n ≤ m := by omega
      simp only [evS] at h ⊢
      split at h
      · rename_i l s1 h1
        rw [ihC _ _ _ h1 m hm']
        simp only []
        split at h
        · exact ihS _ _ _ _ h m hm'
        · exact h
      · rename_i hn
        have h1 := ihC _ _ _ h m hm'
        rw [h1]
        split
        · rename_i l s1 e; cases e; exact absurd h (hn _ _)
        · rfl
    · intro f a A r h m hm
      obtain ⟨m, rfl⟩ : ∃ k, m = k + 1 := ⟨m - 1, by omega⟩
      have hm' : n ≤ m := by omega
      simp only [evF] at h ⊢
      split at h
      · rename_i fn hf
        split at h
        · rename_i s hs
          rw [ihC _ _ _ hs m hm']
          exact h
        · rename_i s hs
          rw [ihC _ _ _ hs m hm']
          exact h
        · cases h
      · exact h

variable (AP E)
/-- what a piece of code, a region, a call comes to -/
def EvC (c : AC) (fr : Fr) (A : AHeap) (Q : AX → Fr → AHeap → Prop) : Prop := ∃ n x fr' A', evC AP E n c ⟨fr, A⟩ = some (x, ⟨fr', A'⟩) ∧ Q x fr' A'
def EvS (c d : AC) (fr : Fr) (A : AHeap) (Q : AX → Fr → AHeap → Prop) : Prop := ∃ n x fr' A', evS AP E n c d ⟨fr, A⟩ = some (x, ⟨fr', A'⟩) ∧ Q x fr' A'
def EvR (ss : List Step) (S : List AHeap) (fr : Fr) (A : AHeap) (Q : Fr → AHeap → Prop) : Prop := ∃ n fr' A', runSteps (evF AP E n) ss S fr A = some (fr', A') ∧ Q fr' A'
def EvF (f : FuncId) (args : List Value) (A : AHeap) (Q : Value → AHeap → Prop) : Prop := ∃ n v A', evF AP E n f args A = some (v, A') ∧ Q v A'
variable {AP E}

section
variable {fr fr' : Fr} {A A' : AHeap} {Q : AX → Fr → AHeap → Prop}
theorem EvC.mono {c : AC} {Q' : AX → Fr → AHeap → Prop} (h : EvC AP E c fr A Q) (hq : ∀ x fr A, Q x fr A → Q' x fr A) : EvC AP E c fr A Q' := let ⟨n, x, fr', A', h1, h2⟩ := h; ⟨n, x, fr', A', h1, hq _ _ _ h2⟩
theorem EvF.mono {f : FuncId} {args : List Value} {R R' : Value → AHeap → Prop} (h : EvF AP E f args A R) (hq : ∀ v A, R v A → R' v A) : EvF AP E f args A R' := let ⟨n, v, A', h1, h2⟩ := h; ⟨n, v, A', h1, hq _ _ h2⟩

theorem ev_skip (h : Q .normal fr A) : EvC AP E .skip fr A Q := ⟨1, _, _, _, rfl, h⟩
theorem ev_label {l : Nat} (h : Q .normal fr A) : EvC AP E (.label l) fr A Q := ⟨1, _, _, _, rfl, h⟩
theorem ev_ret (h : Q .ret fr A) : EvC AP E .ret fr A Q := ⟨1, _, _, _, rfl, h⟩
theorem ev_exit {i : Nat} (h : Q (.exit i) fr A) : EvC AP E (.exit i) fr A Q := ⟨1, _, _, _, rfl, h⟩
theorem ev_goto {l : Nat} (h : Q (.goto l) fr A) : EvC AP E (.goto l) fr A Q := ⟨1, _, _, _, rfl, h⟩
theorem ev_reg {ss : List Step} (h : EvR AP E ss [A] fr A fun fr' A' => Q .normal fr' A') : EvC AP E (.reg ss) fr A Q := by
  obtain ⟨n, fr', A', h1, h2⟩ := h
  exact ⟨n + 1, .normal, fr', A', by simp only [evC, h1], h2⟩
/-- by any way out but the normal one: out; by the normal one: on -/
def AX.then_ (K : Fr → AHeap → Prop) (Q : AX → Fr → AHeap → Prop) : AX → Fr → AHeap → Prop
  | .normal, fr, A => K fr A
  | x, fr, A => Q x fr A
theorem ev_seq {a b : AC} (h : EvC AP E a fr A (AX.then_ (fun fr A => EvC AP E b fr A Q) Q)) : EvC AP E (.seq a b) fr A Q := by
  obtain ⟨n, x, fr1, A1, h1, h2⟩ := h
  cases x with
  | normal =>
    obtain ⟨m, y, fr2, A2, h3, h4⟩ := h2
    refine ⟨max n m + 1, y, fr2, A2, ?_, h4⟩
    simp only [evC, (ev_mono n).1 _ _ _ h1 (max n m) (Nat.le_max_left _ _)]
    exact (ev_mono m).1 _ _ _ h3 _ (Nat.le_max_right _ _)
  | exit i => exact ⟨n + 1, _, fr1, A1, by simp only [evC, h1], h2⟩
  | goto l => exact ⟨n + 1, _, fr1, A1, by simp only [evC, h1], h2⟩
  | ret => exact ⟨n + 1, _, fr1, A1, by simp only [evC, h1], h2⟩
theorem ev_cond {x : Opd} {t e : AC} {b : Bool} (hx : x.ev fr = .bool b) (h : EvC AP E (if b then t else e) fr A Q) : EvC AP E (.cond x t e) fr A Q := by
  obtain ⟨n, y, fr1, A1, h1, h2⟩ := h
  refine ⟨n + 1, y, fr1, A1, ?_, h2⟩
  cases b <;> simp only [evC, hx] <;> exact h1
def AX.inBlock (id : Nat) (Q : AX → Fr → AHeap → Prop) : AX → Fr → AHeap → Prop
  | .exit i, fr, A => if i = id then Q .normal fr A else Q (.exit i) fr A
  | x, fr, A => Q x fr A
theorem ev_block {id : Nat} {c : AC} (h : EvC AP E c fr A (AX.inBlock id Q)) : EvC AP E (.block id c) fr A Q := by
  obtain ⟨n, x, fr1, A1, h1, h2⟩ := h
  cases x with
  | exit i =>
    simp only [AX.inBlock] at h2
    by_cases e : i = id
    · rw [if_pos e] at h2; exact ⟨n + 1, _, fr1, A1, by simp [evC, h1, e], h2⟩
    · rw [if_neg e] at h2; exact ⟨n + 1, _, fr1, A1, by
        have e' : Nat.beq i id = false := by cases hb : Nat.beq i id with | false => rfl | true => exact absurd (Nat.eq_of_beq_eq_true hb) e
        simp only [evC, h1, e', cond_false], h2⟩
  | normal => exact ⟨n + 1, _, fr1, A1, by simp only [evC, h1], h2⟩
  | goto l => exact ⟨n + 1, _, fr1, A1, by simp only [evC, h1], h2⟩
  | ret => exact ⟨n + 1, _, fr1, A1, by simp only [evC, h1], h2⟩
/-- one pass of a loop -/
theorem ev_loop {c : AC} (h : EvC AP E c fr A (AX.then_ (fun fr A => EvC AP E (.loop c) fr A Q) Q)) : EvC AP E (.loop c) fr A Q := by
  obtain ⟨n, x, fr1, A1, h1, h2⟩ := h
  cases x with
  | normal =>
    obtain ⟨m, y, fr2, A2, h3, h4⟩ := h2
    refine ⟨max n m + 1, y, fr2, A2, ?_, h4⟩
    simp only [evC, (ev_mono n).1 _ _ _ h1 (max n m) (Nat.le_max_left _ _)]
    exact (ev_mono m).1 _ _ _ h3 _ (Nat.le_max_right _ _)
  | exit i => exact ⟨n + 1, _, fr1, A1, by simp only [evC, h1], h2⟩
  | goto l => exact ⟨n + 1, _, fr1, A1, by simp only [evC, h1], h2⟩
  | ret => exact ⟨n + 1, _, fr1, A1, by simp only [evC, h1], h2⟩
theorem ev_scope {c : AC} (h : EvS AP E c c fr A Q) : EvC AP E (.scope c) fr A Q := by
  obtain ⟨n, x, fr1, A1, h1, h2⟩ := h
  exact ⟨n + 1, x, fr1, A1, by simp only [evC, h1], h2⟩
def AX.jump (c : AC) (K : AC → Fr → AHeap → Prop) (Q : AX → Fr → AHeap → Prop) : AX → Fr → AHeap → Prop
  | .goto l, fr, A => match findL c l with
    | some rest => K rest fr A
    | none => Q (.goto l) fr A
  | x, fr, A => Q x fr A
theorem ev_scopeS {c d : AC} (h : EvC AP E d fr A (AX.jump c (fun rest fr A => EvS AP E c rest fr A Q) Q)) : EvS AP E c d fr A Q := by
  obtain ⟨n, x, fr1, A1, h1, h2⟩ := h
  cases x with
  | goto l =>
    simp only [AX.jump] at h2
    split at h2
    · rename_i rest hf
      obtain ⟨m, y, fr2, A2, h3, h4⟩ := h2
      refine ⟨max n m + 1, y, fr2, A2, ?_, h4⟩
      simp only [evS, (ev_mono n).1 _ _ _ h1 (max n m) (Nat.le_max_left _ _), hf]
      exact (ev_mono m).2.1 _ _ _ _ h3 _ (Nat.le_max_right _ _)
    · rename_i hf
      exact ⟨n + 1, _, fr1, A1, by simp only [evS, h1, hf], h2⟩
  | exit i => exact ⟨n + 1, _, fr1, A1, by simp only [evS, h1], h2⟩
  | normal => exact ⟨n + 1, _, fr1, A1, by simp only [evS, h1], h2⟩
  | ret => exact ⟨n + 1, _, fr1, A1, by simp only [evS, h1], h2⟩
end

section
variable {fr : Fr} {A : AHeap} {Q : Fr → AHeap → Prop} {S : List AHeap} {rest : List Step}
theorem evR_nil (h : Q fr A) : EvR AP E [] S fr A Q := ⟨0, fr, A, rfl, h⟩
/-- an operation that calls nothing -/
theorem evR_op {s : Step} {v : Value} {A' : AHeap} (hw : wantedS fr s.guard = true) (hx : aexec s.op fr A = some (v, A')) (hk : chkOk s.op fr v s.chk S = true) (h : EvR AP E rest (bif s.sv then A' :: S else S) (lputO fr s.dst v) A' Q) : EvR AP E (s :: rest) S fr A Q := by
  obtain ⟨n, fr', A2, h1, h2⟩ := h
  refine ⟨n, fr', A2, ?_, h2⟩
  have hs : stepRun (evF AP E n) s fr A = some (v, A') := by
    unfold stepRun
    split
    · rename_i e; rw [e] at hx; simp [aexec] at hx
    · rename_i e; rw [e] at hx; simp [aexec] at hx
    · exact hx
  simp only [runSteps, hw, hs, hk, cond_true]
  exact h1
theorem evR_not {s : Step} (hw : wantedS fr s.guard = false) (h : EvR AP E rest (bif s.sv then A :: S else S) (lputO fr s.dst undef) A Q) : EvR AP E (s :: rest) S fr A Q := by
  obtain ⟨n, fr', A2, h1, h2⟩ := h
  refine ⟨n, fr', A2, ?_, h2⟩
  simp only [runSteps, hw, cond_false]
  exact h1
theorem evR_call {s : Step} {f : FuncId} {xs : List Opd} (ho : s.op = .call f xs) (hc : s.chk = 0) (hw : wantedS fr s.guard = true) (h : EvF AP E f (xs.map (Opd.ev fr)) A fun v A' => EvR AP E rest (bif s.sv then A' :: S else S) (lputO fr s.dst v) A' Q) : EvR AP E (s :: rest) S fr A Q := by
  obtain ⟨n, v, A', h1, m, fr', A2, h2, h3⟩ := h
  refine ⟨max n m, fr', A2, ?_, h3⟩
  have hs : stepRun (evF AP E (max n m)) s fr A = some (v, A') := by
    unfold stepRun
    rw [ho]
    exact (ev_mono n).2.2 _ _ _ _ h1 _ (Nat.le_max_left _ _)
  simp only [runSteps, hw, hs, hc, chkOk, cond_true]
  exact runSteps_mono (fun f a A r hx => (ev_mono m).2.2 f a A r hx _ (Nat.le_max_right _ _)) h2
/-- several operations at once -/
theorem evR_run {l1 : List Step} {fr' : Fr} {A' : AHeap} {S' : List AHeap} (h1 : ∀ call r, runSteps call rest S' fr' A' = some r → runSteps call (l1 ++ rest) S fr A = some r) (h : EvR AP E rest S' fr' A' Q) : EvR AP E (l1 ++ rest) S fr A Q := by
  obtain ⟨n, fr2, A2, h2, h3⟩ := h
  exact ⟨n, fr2, A2, h1 _ _ h2, h3⟩
end

/-- a function of the table -/
theorem evF_body {f : FuncId} {fn : AFn} {args : List Value} {A : AHeap} {Q : Value → AHeap → Prop} (hf : AP f = some fn)
    (h : EvC AP E fn.body (frOf args 0 .e) A fun x fr A' => (x = .normal ∨ x = .ret) ∧ ∃ vs v, aresults A' fr fn.res = some vs ∧ tupOf vs = some v ∧ Q v A') : EvF AP E f args A Q := by
  obtain ⟨n, x, fr', A', h1, hx, vs, v, h2, h3, h4⟩ := h
  refine ⟨n + 1, v, A', ?_, h4⟩
  simp only [evF, hf, h1]
  rcases hx with rfl | rfl <;> simp [h2, h3]
theorem evF_ext {f : FuncId} {args : List Value} {A A' : AHeap} {v : Value} {Q : Value → AHeap → Prop} (hf : AP f = none) (he : E f args A = some (v, A')) (h : Q v A') : EvF AP E f args A Q :=
  ⟨1, v, A', by simp only [evF, hf, he], h⟩
end
end Go.Abs
