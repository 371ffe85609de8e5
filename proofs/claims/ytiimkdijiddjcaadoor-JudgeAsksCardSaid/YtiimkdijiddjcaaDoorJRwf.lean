/- The document's judge's record behind so many acts: numbers are small. -/
import Derived.Test.YtiimkdijiddjcaaDoorJRadd
set_option linter.unusedSimpArgs false
namespace Go.Proofs.YtiimkdijiddjcaaDoor
set_option linter.unusedSimpArgs false
set_option linter.unusedVariables false
set_option linter.unusedSectionVars false
set_option linter.defProp false
open Go Go.Abs JP

structure Wf (n : Nat) (s : St) : Prop where
  post : ∀ p ∈ s.wait, 0 < p.first ∧ 0 < p.many ∧ p.many ≤ 8 ∧ p.first + p.many ≤ 8 * n + 1
  wl : s.wait.length ≤ n
  ml : s.ms.length ≤ 8 * n
  tl : s.tags.length ≤ n
  mp : ∀ x ∈ s.ms, x.post < s.wait.length
  gm : ∀ g ∈ s.tags, g.m < s.ms.length
theorem Wf.small {n : Nat} {s : St} (h : Wf n s) (hn : n ≤ 100) : Small s :=
  ⟨fun p hp => by have := h.post p hp; omega, by have := h.wl; omega, by have := h.ml; omega, by have := h.tl; omega, h.mp, h.gm⟩
theorem Wf.start : Wf 0 St.start := ⟨fun p hp => by simp [St.start] at hp, Nat.le_refl _, Nat.le_refl _, Nat.le_refl _, fun x hx => by simp [St.start] at hx, fun x hx => by simp [St.start] at hx⟩
theorem Wf.more {n : Nat} {s : St} (h : Wf n s) : Wf (n + 1) s :=
  ⟨fun p hp => by have := h.post p hp; omega, by have := h.wl; omega, by have := h.ml; omega, by have := h.tl; omega, h.mp, h.gm⟩
theorem ends_le {n : Nat} {s : St} (h : Wf n s) (l : Line) : ∀ (w : List Post) (k : Int), (∀ p ∈ w, p ∈ s.wait) → 0 ≤ k → k ≤ 8 * n → 0 ≤ ends l w k ∧ ends l w k ≤ 8 * n := by
  intro w
  induction w with
  | nil => intro k _ h1 h2; exact ⟨h1, h2⟩
  | cons p w ih =>
    intro k hw h1 h2
    have := h.post p (hw p (by simp))
    exact ih _ (fun q hq => hw q (by simp [hq])) (by split <;> omega) (by split <;> omega)
theorem ansL_len {a : JP.Act} {st : Nat} : ∀ {w w' : List Post}, ansL a st w = some w' → w'.length = w.length ∧ ∀ p ∈ w', ∃ q ∈ w, p.first = q.first ∧ p.many = q.many := by
  intro w
  induction w with
  | nil => intro w' h; cases h
  | cons p w ih =>
    intro w' h
    simp only [ansL] at h
    split at h
    · split at h
      · cases h
      · cases h; exact ⟨rfl, fun q hq => by
          rcases List.mem_cons.1 hq with rfl | hq
          · exact ⟨p, by simp, rfl, rfl⟩
          · exact ⟨q, by simp [hq], rfl, rfl⟩⟩
    · simp only [Option.map_eq_some_iff] at h
      obtain ⟨l, hl, rfl⟩ := h
      obtain ⟨h1, h2⟩ := ih hl
      refine ⟨by simp [h1], fun q hq => ?_⟩
      rcases List.mem_cons.1 hq with rfl | hq
      · exact ⟨q, by simp, rfl, rfl⟩
      · obtain ⟨q', hq', he⟩ := h2 q hq; exact ⟨q', by simp [hq'], he⟩
theorem setL_len {a : JP.Act} {f t : Nat} : ∀ {w : List Got} {m : Nat} {w' : List Got}, setL a f t w = some (m, w') → w'.length = w.length ∧ (∃ g ∈ w, g.m = m) ∧ ∀ p ∈ w', ∃ q ∈ w, p.m = q.m := by
  intro w
  induction w with
  | nil => intro m w' h; cases h
  | cons p w ih =>
    intro m w' h
    simp only [setL] at h
    split at h
    · cases h; exact ⟨rfl, ⟨p, by simp, rfl⟩, fun q hq => by
        rcases List.mem_cons.1 hq with rfl | hq
        · exact ⟨p, by simp, rfl⟩
        · exact ⟨q, by simp [hq], rfl⟩⟩
    · simp only [Option.map_eq_some_iff] at h
      obtain ⟨⟨m1, l⟩, hl, he⟩ := h
      cases he
      obtain ⟨h1, ⟨g, hg, hgm⟩, h2⟩ := ih hl
      refine ⟨by simp [h1], ⟨g, by simp [hg], hgm⟩, fun q hq => ?_⟩
      rcases List.mem_cons.1 hq with rfl | hq
      · exact ⟨q, by simp, rfl⟩
      · obtain ⟨q', hq', he⟩ := h2 q hq; exact ⟨q', by simp [hq'], he⟩
theorem modAt_mem {α : Type} {l : List α} {i : Nat} {f : α → α} {x : α} (h : x ∈ modAt l i f) : x ∈ l ∨ ∃ y ∈ l, x = f y := by
  unfold modAt at h
  obtain ⟨k, hk⟩ := List.mem_iff_getElem?.1 h
  rw [List.getElem?_modify] at hk
  cases hl : l[k]? with
  | none => simp [hl] at hk
  | some y =>
    have hy : y ∈ l := List.mem_of_getElem? hl
    simp only [hl, Option.map_eq_map, Option.map_some, Option.some.injEq] at hk
    split at hk
    · exact .inr ⟨y, hy, hk.symm⟩
    · exact .inl (hk ▸ hy)
theorem addS_wf {n : Nat} {s s' : St} {a : JP.Act} (h : Wf n s) (ha : addS s a = some s') : Wf (n + 1) s' := by
  have hpub : ∀ s', pubS s a = some s' → Wf (n + 1) s' := by
    intro s' ha
    unfold pubS at ha
    split at ha
    · cases ha
    · rename_i hc
      simp only [not_or] at hc
      have he := ends_le h a.line s.wait 0 (fun _ h => h) (by omega) (by omega)
      cases ha
      refine ⟨?_, by simp; have := h.wl; omega, ?_, by have := h.tl; simp only; omega, ?_, ?_⟩
      · intro p hp
        simp only [List.mem_append, List.mem_singleton] at hp
        rcases hp with hp | rfl
        · have := h.post p hp; omega
        · simp only; omega
      · simp only [List.length_append, List.length_map, List.length_range]; have := h.ml; omega
      · intro x hx
        simp only [List.mem_append, List.mem_map] at hx
        rcases hx with hx | ⟨i, _, rfl⟩
        · have := h.mp x hx; simp; omega
        · simp [newS]
      · intro g hg; have := h.gm g hg; simp only [List.length_append]; omega
  have hans : ∀ st s', ansS s a st = some s' → Wf (n + 1) s' := by
    intro st s' ha
    simp only [ansS, Option.map_eq_some_iff] at ha
    obtain ⟨w, hw, rfl⟩ := ha
    obtain ⟨h1, h2⟩ := ansL_len hw
    refine ⟨?_, by simp only; have := h.wl; omega, by have := h.ml; simp only; omega, by have := h.tl; simp only; omega, fun x hx => by have := h.mp x hx; simp only; omega, h.gm⟩
    intro p hp
    obtain ⟨q, hq, e1, e2⟩ := h2 p hp
    have := h.post q hq; omega
  have hset : ∀ f t s', setS s a f t = some s' → Wf (n + 1) s' := by
    intro f t s' ha
    simp only [setS, Option.map_eq_some_iff] at ha
    obtain ⟨⟨m, l⟩, hl, rfl⟩ := ha
    obtain ⟨h1, _, h2⟩ := setL_len hl
    refine ⟨fun p hp => by have := h.post p hp; omega, by have := h.wl; simp only; omega, by have := h.ml; simp only [modAt, List.length_modify]; omega, by have := h.tl; simp only; omega, ?_, ?_⟩
    · intro x hx
      rcases modAt_mem hx with hx | ⟨y, hy, rfl⟩
      · exact h.mp x hx
      · have := h.mp y hy
        unfold toM; split
        · exact this
        · split <;> exact this
    · intro g hg
      obtain ⟨q, hq, e⟩ := h2 g hg
      have := h.gm q hq; simp only [modAt, List.length_modify]; omega
  have hdel : ∀ s', delS s a = some s' → Wf (n + 1) s' := by
    intro s' ha
    unfold delS at ha
    split at ha
    · cases ha
    · unfold delT at ha
      split at ha
      · cases ha
      · split at ha
        · cases ha
        · rename_i k hk
          split at ha
          · cases ha
          · rename_i x hx
            unfold delU at ha
            split at ha
            · cases ha
            · split at ha
              · cases ha
              · cases ha
                have hkl : k < s.ms.length := (List.getElem?_eq_some_iff.1 hx).1
                refine ⟨fun p hp => by have := h.post p hp; omega, by have := h.wl; simp only; omega, by have := h.ml; simp only [modAt, List.length_modify]; omega, by have := h.tl; simp only [List.length_append, List.length_cons, List.length_nil]; omega, ?_, ?_⟩
                · intro x hx
                  rcases modAt_mem hx with hx | ⟨y, hy, rfl⟩
                  · exact h.mp x hx
                  · exact h.mp y hy
                · intro g hg
                  simp only [List.mem_append, List.mem_singleton] at hg
                  simp only [modAt, List.length_modify]
                  rcases hg with hg | rfl
                  · exact h.gm g hg
                  · exact hkl
  unfold addS at ha
  split at ha
  · cases ha
  split at ha
  · exact hpub s' ha
  split at ha
  · exact hans 1 s' ha
  split at ha
  · exact hans 2 s' ha
  split at ha
  · exact hdel s' ha
  split at ha
  · exact hset _ _ s' ha
  split at ha
  · exact hset _ _ s' ha
  split at ha
  · exact hset _ _ s' ha
  split at ha
  · cases ha; exact h.more
  · cases ha
end Go.Proofs.YtiimkdijiddjcaaDoor
