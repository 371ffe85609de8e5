/- Maps of the abstract machine as functions of typed keys. -/
import Derived.Test.YtiimkdijiddjcaaDoorAbsSy
set_option linter.unusedSimpArgs false
set_option linter.unusedSectionVars false
namespace Go.Abs
set_option linter.unusedSimpArgs false
set_option linter.unusedVariables false
set_option linter.unusedSectionVars false
set_option linter.defProp false
open Go

def upd {α β : Type} [DecidableEq α] (f : α → β) (k : α) (v : β) : α → β := fun x => if x = k then v else f x
theorem upd_same {α β : Type} [DecidableEq α] (f : α → β) (k : α) (v : β) : upd f k v k = v := by simp [upd]
theorem upd_ne {α β : Type} [DecidableEq α] (f : α → β) {k x : α} (v : β) (h : x ≠ k) : upd f k v x = f x := by simp [upd, h]

/-- keys of a kind -/
class Enc (κ : Type) [DecidableEq κ] where
  kk : KK
  enc : κ → Value
  ok : ∀ t, kk.ok (enc t) = true
  eq : ∀ s t, keq (enc s) (enc t) = decide (s = t)

abbrev TE (κ : Type) := κ × Value × Nat

section
variable {κ : Type} [DecidableEq κ] [Enc κ]
def ent (p : TE κ) : MapEntry := ⟨Enc.enc p.1, p.2.1, p.2.2⟩
def look (z : Value) : List (TE κ) → κ → Value
  | [], _ => z
  | p :: r, t => if t = p.1 then p.2.1 else look z r t

/-- the map m holds f -/
def MapFn (A : AHeap) (m : Nat) (z : Value) (f : κ → Value) : Prop :=
  ∃ (ts : List (TE κ)) (clock : Nat), A.get m = some (.map (Enc.kk κ) (ts.map ent) clock) ∧ (ts.map (·.1)).Nodup ∧ (ts.map (·.2.2)).Nodup ∧ (∀ p ∈ ts, p.2.2 < clock) ∧ ∀ t, look z ts t = f t
theorem MapFn.of_get {A A' : AHeap} {m : Nat} {z : Value} {f : κ → Value} (h : MapFn A m z f) (hg : A'.get m = A.get m) : MapFn A' m z f := by
  obtain ⟨ts, cl, h1, h2⟩ := h
  exact ⟨ts, cl, hg.trans h1, h2⟩
theorem MapFn.keep {own : List Nat} {A A' : AHeap} {m : Nat} {z : Value} {f : κ → Value} (h : MapFn A m z f) (hk : Keep own A A') (hm : m < A.next) (hn : m ∉ own) : MapFn A' m z f := h.of_get (hk.get m hm hn)
theorem MapFn.new (A : AHeap) (z : Value) : MapFn (κ := κ) (A.new (.map (Enc.kk κ) [] 0)) A.next z (fun _ => z) :=
  ⟨[], 0, AHeap.new_get, List.nodup_nil, List.nodup_nil, by simp, fun _ => rfl⟩

theorem mfind_none {t : κ} : ∀ {ts : List (TE κ)} (i : Nat), t ∉ ts.map (·.1) → mfind (Enc.enc t) (ts.map ent) i = none := by
  intro ts
  induction ts with
  | nil => intro i _; rfl
  | cons p r ih =>
    intro i h
    simp only [List.map_cons, List.mem_cons, not_or] at h
    simp only [List.map_cons, mfind, ent, Enc.eq, decide_eq_false h.1, cond_false]
    exact ih _ h.2
theorem mfind_some {t : κ} : ∀ {ts : List (TE κ)} (i : Nat), t ∈ ts.map (·.1) → ∃ k p, ts[k]? = some p ∧ p.1 = t ∧ (∀ q ∈ ts.take k, q.1 ≠ t) ∧ mfind (Enc.enc t) (ts.map ent) i = some (i + k, ent p) := by
  intro ts
  induction ts with
  | nil => intro i h; simp at h
  | cons p r ih =>
    intro i h
    by_cases e : t = p.1
    · exact ⟨0, p, rfl, e.symm, by simp, by simp only [List.map_cons, mfind, ent, Enc.eq, decide_eq_true e, cond_true, Nat.add_zero]⟩
    · have h2 : t ∈ r.map (·.1) := by
        simp only [List.map_cons, List.mem_cons] at h
        exact h.resolve_left e
      obtain ⟨k, q, h3, h4, h5, h6⟩ := ih (i + 1) h2
      refine ⟨k + 1, q, by simpa using h3, h4, ?_, ?_⟩
      · intro x hx
        simp only [List.take_succ_cons, List.mem_cons] at hx
        rcases hx with rfl | hx
        · exact fun e' => e e'.symm
        · exact h5 x hx
      · have hk : keq (Enc.enc t) (ent p).key = false := by rw [ent, Enc.eq, decide_eq_false e]
        simp only [List.map_cons, mfind, hk, cond_false]
        rw [h6, Nat.add_right_comm, Nat.add_assoc]
theorem look_none {z : Value} {t : κ} : ∀ {ts : List (TE κ)}, t ∉ ts.map (·.1) → look z ts t = z := by
  intro ts
  induction ts with
  | nil => intro _; rfl
  | cons p r ih =>
    intro h
    simp only [List.map_cons, List.mem_cons, not_or] at h
    simp only [look, if_neg h.1]; exact ih h.2
theorem look_some {z : Value} {t : κ} : ∀ {ts : List (TE κ)} {k : Nat} {p : TE κ}, ts[k]? = some p → p.1 = t → (∀ q ∈ ts.take k, q.1 ≠ t) → look z ts t = p.2.1 := by
  intro ts
  induction ts with
  | nil => intro k p h; simp at h
  | cons q r ih =>
    intro k p h1 h2 h3
    cases k with
    | zero => simp at h1; subst h1; simp only [look, if_pos h2.symm]
    | succ k =>
      have hq : ¬ t = q.1 := fun e => h3 q (by simp) e.symm
      simp only [look, if_neg hq]
      exact ih (by simpa using h1) h2 (fun x hx => h3 x (by simp [hx]))
theorem look_app {z v : Value} {t : κ} {b : Nat} : ∀ {ts : List (TE κ)}, t ∉ ts.map (·.1) → ∀ s, look z (ts ++ [(t, v, b)]) s = if s = t then v else look z ts s := by
  intro ts
  induction ts with
  | nil => intro _ s; rfl
  | cons p r ih =>
    intro h s
    simp only [List.map_cons, List.mem_cons, not_or] at h
    simp only [List.cons_append, look]
    by_cases e : s = p.1
    · rw [if_pos e, if_neg (by rw [e]; exact fun e' => h.1 e'.symm), if_pos e]
    · rw [if_neg e, ih h.2 s, if_neg e]
theorem look_set {z v : Value} {t : κ} {b : Nat} : ∀ {ts : List (TE κ)} {k : Nat} {p : TE κ}, ts[k]? = some p → p.1 = t → (∀ q ∈ ts.take k, q.1 ≠ t) → ∀ s, look z (ts.set k (t, v, b)) s = if s = t then v else look z ts s := by
  intro ts
  induction ts with
  | nil => intro k p h; simp at h
  | cons q r ih =>
    intro k p h1 h2 h3 s
    cases k with
    | zero => simp at h1; subst h1; subst h2; simp only [List.set_cons_zero, look]; by_cases e : s = q.1 <;> simp [e]
    | succ k =>
      have hq := h3 q (by simp)
      simp only [List.set_cons_succ, look]
      by_cases e : s = q.1
      · rw [if_pos e, if_neg (by rw [e]; exact hq), if_pos e]
      · rw [if_neg e, ih (by simpa using h1) h2 (fun x hx => h3 x (by simp [hx])) s, if_neg e]
theorem look_erase {z : Value} {t : κ} : ∀ {ts : List (TE κ)} {k : Nat} {p : TE κ}, (ts.map (·.1)).Nodup → ts[k]? = some p → p.1 = t → ∀ s, look z (ts.eraseIdx k) s = if s = t then z else look z ts s := by
  intro ts
  induction ts with
  | nil => intro k p _ h; simp at h
  | cons q r ih =>
    intro k p hn h1 h2 s
    simp only [List.map_cons, List.nodup_cons] at hn
    cases k with
    | zero =>
      simp at h1; subst h1; subst h2
      simp only [List.eraseIdx_cons_zero, look]
      by_cases e : s = q.1
      · rw [if_pos e]; exact look_none (by rw [e]; exact hn.1)
      · rw [if_neg e, if_neg e]
    | succ k =>
      simp only [List.getElem?_cons_succ] at h1
      have hq : q.1 ≠ t := fun e => hn.1 (by rw [e, ← h2]; exact List.mem_map_of_mem (List.mem_of_getElem? h1))
      simp only [List.eraseIdx_cons_succ, look]
      by_cases e : s = q.1
      · rw [if_pos e, if_neg (by rw [e]; exact hq), if_pos e]
      · rw [if_neg e, ih hn.2 h1 h2 s, if_neg e]

variable {A : AHeap} {m : Nat} {z : Value} {f : κ → Value}
theorem mapOf_at {kk : KK} {es : List MapEntry} {cl : Nat} (h : A.get m = some (.map kk es cl)) : mapOf kk A (.map (some m)) = some (m, es, cl) := by
  simp only [mapOf, h, if_true]
theorem MapFn.lookup (h : MapFn A m z f) (t : κ) : alookup (Enc.kk κ) z false (.map (some m)) (Enc.enc t) A = some (f t) := by
  obtain ⟨ts, cl, h1, h2, h3, h4, h5⟩ := h
  simp only [alookup, mapOf_at h1, Enc.ok, if_true]
  by_cases hm : t ∈ ts.map (·.1)
  · obtain ⟨k, p, h6, h7, h8, h9⟩ := mfind_some 0 hm
    rw [h9, ← h5 t, look_some h6 h7 h8]; rfl
  · rw [mfind_none 0 hm, ← h5 t, look_none hm]; rfl
theorem map_erase {α β : Type} (f : α → β) : ∀ (l : List α) (k : Nat), (l.map f).eraseIdx k = (l.eraseIdx k).map f
  | [], _ => rfl
  | _ :: _, 0 => rfl
  | x :: l, k + 1 => by simp only [List.map_cons, List.eraseIdx_cons_succ, map_erase f l k]
structure TsOk (ts : List (TE κ)) (cl : Nat) : Prop where
  keys : (ts.map (·.1)).Nodup
  borns : (ts.map (·.2.2)).Nodup
  lt : ∀ p ∈ ts, p.2.2 < cl
theorem TsOk.set {ts : List (TE κ)} {cl k : Nat} {p : TE κ} (h : TsOk ts cl) (hp : ts[k]? = some p) (v : Value) : TsOk (ts.set k (p.1, v, p.2.2)) cl := by
  have hkl : k < ts.length := (List.getElem?_eq_some_iff.1 hp).1
  have hpe : ts[k] = p := (List.getElem?_eq_some_iff.1 hp).2
  refine ⟨?_, ?_, ?_⟩
  · have e : (ts.set k (p.1, v, p.2.2)).map (·.1) = ts.map (·.1) := by
      apply List.ext_getElem?; intro i
      simp only [List.getElem?_map, List.getElem?_set]
      by_cases e : k = i
      · subst e; simp [hkl, hpe]
      · simp [e]
    rw [e]; exact h.keys
  · have e : (ts.set k (p.1, v, p.2.2)).map (·.2.2) = ts.map (·.2.2) := by
      apply List.ext_getElem?; intro i
      simp only [List.getElem?_map, List.getElem?_set]
      by_cases e : k = i
      · subst e; simp [hkl, hpe]
      · simp [e]
    rw [e]; exact h.borns
  · intro q hq
    rcases List.mem_or_eq_of_mem_set hq with hq | rfl
    · exact h.lt q hq
    · exact h.lt p (List.mem_of_getElem? hp)
theorem TsOk.app {ts : List (TE κ)} {cl : Nat} (h : TsOk ts cl) {t : κ} (ht : t ∉ ts.map (·.1)) (v : Value) : TsOk (ts ++ [(t, v, cl)]) (cl + 1) := by
  refine ⟨?_, ?_, ?_⟩
  · rw [List.map_append, List.nodup_append]
    refine ⟨h.keys, by simp, ?_⟩
    intro a ha b hb
    simp only [List.map_cons, List.map_nil, List.mem_singleton] at hb
    subst hb
    exact fun e => ht (e ▸ ha)
  · rw [List.map_append, List.nodup_append]
    refine ⟨h.borns, by simp, ?_⟩
    intro a ha b hb
    simp only [List.map_cons, List.map_nil, List.mem_singleton] at hb
    subst hb
    obtain ⟨p, hp, rfl⟩ := List.mem_map.1 ha
    have := h.lt p hp; omega
  · intro q hq
    simp only [List.mem_append, List.mem_singleton] at hq
    rcases hq with hq | rfl
    · have := h.lt q hq; omega
    · exact Nat.lt_succ_self _
theorem TsOk.erase {ts : List (TE κ)} {cl : Nat} (h : TsOk ts cl) (k : Nat) : TsOk (ts.eraseIdx k) cl :=
  ⟨List.Nodup.sublist ((List.eraseIdx_sublist ts k).map _) h.keys, List.Nodup.sublist ((List.eraseIdx_sublist ts k).map _) h.borns, fun p hp => h.lt p (List.mem_of_mem_eraseIdx hp)⟩
theorem MapFn.of_ts {A' : AHeap} {ts : List (TE κ)} {cl : Nat} (h : A'.get m = some (.map (Enc.kk κ) (ts.map ent) cl)) (ho : TsOk ts cl) (hf : ∀ t, look z ts t = f t) : MapFn A' m z f := ⟨ts, cl, h, ho.keys, ho.borns, ho.lt, hf⟩
theorem MapFn.update (h : MapFn A m z f) (t : κ) {v : Value} (hv : cellV v = true) :
    ∃ A', amapUpd (Enc.kk κ) (.map (some m)) (Enc.enc t) v A = some A' ∧ A'.next = A.next ∧ Keep [m] A A' ∧ MapFn A' m z (upd f t v) := by
  obtain ⟨ts, cl, h1, h2, h3, h4, h5⟩ := h
  by_cases hm : t ∈ ts.map (·.1)
  · obtain ⟨k, p, h6, h7, h8, h9⟩ := mfind_some 0 hm
    subst h7
    refine ⟨A.set m (.map (Enc.kk κ) ((ts.map ent).set k (ent (p.1, v, p.2.2))) cl), ?_, rfl, Keep.set _ (.inl (by simp)), ?_⟩
    · simp only [amapUpd, mapOf_at h1, Enc.ok, hv, Bool.and_self, if_true, h9, Nat.zero_add]; rfl
    · refine MapFn.of_ts (ts := ts.set k (p.1, v, p.2.2)) (cl := cl) (by rw [AHeap.set_get, List.map_set]) (TsOk.set ⟨h2, h3, h4⟩ h6 v) (fun s => ?_)
      rw [look_set h6 rfl h8, h5]; rfl
  · refine ⟨A.set m (.map (Enc.kk κ) (ts.map ent ++ [ent (t, v, cl)]) (cl + 1)), ?_, rfl, Keep.set _ (.inl (by simp)), ?_⟩
    · simp only [amapUpd, mapOf_at h1, Enc.ok, hv, Bool.and_self, if_true, mfind_none 0 hm, ent]
    · refine MapFn.of_ts (ts := ts ++ [(t, v, cl)]) (cl := cl + 1) (by rw [AHeap.set_get, List.map_append]; rfl) (TsOk.app ⟨h2, h3, h4⟩ hm v) (fun s => ?_)
      rw [look_app hm, h5]; rfl
theorem MapFn.remove (h : MapFn A m z f) (t : κ) :
    ∃ A', adelete (Enc.kk κ) (.map (some m)) (Enc.enc t) A = some A' ∧ A'.next = A.next ∧ Keep [m] A A' ∧ MapFn A' m z (upd f t z) := by
  obtain ⟨ts, cl, h1, h2, h3, h4, h5⟩ := h
  by_cases hm : t ∈ ts.map (·.1)
  · obtain ⟨k, p, h6, h7, h8, h9⟩ := mfind_some 0 hm
    refine ⟨A.set m (.map (Enc.kk κ) ((ts.map ent).eraseIdx k) cl), ?_, rfl, Keep.set _ (.inl (by simp)), ?_⟩
    · simp only [adelete, mapOf_at h1, Enc.ok, if_true, h9, Nat.zero_add]
    · refine MapFn.of_ts (ts := ts.eraseIdx k) (cl := cl) (by rw [AHeap.set_get, map_erase]) (TsOk.erase ⟨h2, h3, h4⟩ k) (fun s => ?_)
      rw [look_erase h2 h6 h7, h5]; rfl
  · refine ⟨A, ?_, rfl, Keep.refl _ _, ?_⟩
    · simp only [adelete, mapOf_at h1, Enc.ok, if_true, mfind_none 0 hm]
    · refine MapFn.of_ts h1 ⟨h2, h3, h4⟩ (fun s => ?_)
      rw [h5]; simp only [upd]; split
      · rename_i e; rw [e, ← h5 t, look_none hm]
      · rfl
theorem bornSet_at {v : Value} : ∀ {ts : List (TE κ)} {k : Nat} {p : TE κ}, (ts.map (·.2.2)).Nodup → ts[k]? = some p → bornSet (p.2.2 : Int) v (ts.map ent) = some ((ts.set k (p.1, v, p.2.2)).map ent) := by
  intro ts
  induction ts with
  | nil => intro k p _ h; simp at h
  | cons q r ih =>
    intro k p hn h
    simp only [List.map_cons, List.nodup_cons] at hn
    cases k with
    | zero =>
      simp at h; subst h
      simp [bornSet, ent]
    | succ k =>
      simp only [List.getElem?_cons_succ] at h
      have hq : q.2.2 ≠ p.2.2 := fun e => hn.1 (by rw [e]; exact List.mem_map_of_mem (f := fun x : TE κ => x.2.2) (List.mem_of_getElem? h))
      have hb : (((ent q).born : Int) == (p.2.2 : Int)) = false := by
        rw [beq_eq_false_iff_ne]; simp only [ent]; omega
      simp only [List.map_cons, bornSet, hb, Bool.false_eq_true, if_false, ih hn.2 h, Option.map_some, List.set_cons_succ]
/-- an entry is taken, and written later -/
theorem MapFn.entry (h : MapFn A m z f) (t : κ) :
    ∃ (n : Nat) (A' : AHeap), amapEnt (Enc.kk κ) z (.map (some m)) (Enc.enc t) A = some (.tuple #[f t, goInt n], A') ∧ A'.next = A.next ∧ Keep [m] A A' ∧ MapFn A' m z f ∧
      ∀ (A2 : AHeap) (v : Value), A2.get m = A'.get m → cellV v = true → ∃ A3, aentSt (Enc.kk κ) (.map (some m)) (goInt n) v A2 = some A3 ∧ A3.next = A2.next ∧ Keep [m] A2 A3 ∧ MapFn A3 m z (upd f t v) := by
  obtain ⟨ts, cl, h1, h2, h3, h4, h5⟩ := h
  have key : ∀ (ts' : List (TE κ)) (cl' k : Nat) (p : TE κ) (A2 : AHeap) (v : Value), TsOk ts' cl' → ts'[k]? = some p → p.1 = t → (∀ q ∈ ts'.take k, q.1 ≠ t) → (∀ s, look z ts' s = f s) → A2.get m = some (.map (Enc.kk κ) (ts'.map ent) cl') → cellV v = true →
      ∃ A3, aentSt (Enc.kk κ) (.map (some m)) (goInt p.2.2) v A2 = some A3 ∧ A3.next = A2.next ∧ Keep [m] A2 A3 ∧ MapFn A3 m z (upd f t v) := by
    intro ts' cl' k p A2 v ho hp hpt hq hf hg hv
    refine ⟨A2.set m (.map (Enc.kk κ) ((ts'.set k (p.1, v, p.2.2)).map ent) cl'), ?_, rfl, Keep.set _ (.inl (by simp)), ?_⟩
    · simp only [aentSt, mapOf_at hg, goInt, hv, if_true, bornSet_at ho.borns hp, Option.map_some]
    · refine MapFn.of_ts AHeap.set_get (ho.set hp v) (fun s => ?_)
      rw [hpt, look_set hp hpt hq, hf]; rfl
  by_cases hm : t ∈ ts.map (·.1)
  · obtain ⟨k, p, h6, h7, h8, h9⟩ := mfind_some 0 hm
    have hkl : k < ts.length := (List.getElem?_eq_some_iff.1 h6).1
    have hft : p.2.1 = f t := by rw [← h5 t, look_some h6 h7 h8]
    have hset : (ts.map ent).set k (ent p) = ts.map ent := by
      apply List.ext_getElem?; intro i
      rw [List.getElem?_set]
      by_cases e : k = i
      · subst e; simp [hkl, (List.getElem?_eq_some_iff.1 h6).2]
      · simp [e]
    refine ⟨p.2.2, A.set m (.map (Enc.kk κ) (ts.map ent) cl), ?_, rfl, Keep.set _ (.inl (by simp)), MapFn.of_ts AHeap.set_get ⟨h2, h3, h4⟩ h5, ?_⟩
    · have he : (⟨Enc.enc t, (ent p).val, (ent p).born⟩ : MapEntry) = ent p := by rw [← h7]; rfl
      simp only [amapEnt, mapOf_at h1, Enc.ok, if_true, h9, Nat.zero_add, he, hset]
      simp only [ent, hft]
    · intro A2 v hg hv
      exact key ts cl k p A2 v ⟨h2, h3, h4⟩ h6 h7 h8 h5 (hg.trans AHeap.set_get) hv
  · have hz : f t = z := by rw [← h5 t, look_none hm]
    have ho := TsOk.app ⟨h2, h3, h4⟩ hm z
    have hf : ∀ s, look z (ts ++ [(t, z, cl)]) s = f s := by
      intro s; rw [look_app hm]; split
      · rename_i e; rw [e, hz]
      · exact h5 s
    refine ⟨cl, A.set m (.map (Enc.kk κ) ((ts ++ [(t, z, cl)]).map ent) (cl + 1)), ?_, rfl, Keep.set _ (.inl (by simp)), MapFn.of_ts AHeap.set_get ho hf, ?_⟩
    · simp only [amapEnt, mapOf_at h1, Enc.ok, if_true, mfind_none 0 hm, hz, List.map_append, List.map_cons, List.map_nil, ent]
    · intro A2 v hg hv
      refine key (ts ++ [(t, z, cl)]) (cl + 1) ts.length (t, z, cl) A2 v ho (by simp) rfl ?_ hf (hg.trans AHeap.set_get) hv
      intro q hq
      rw [List.take_left] at hq
      exact fun e => hm (by rw [← e]; exact List.mem_map_of_mem hq)
end
end Go.Abs
