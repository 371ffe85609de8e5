/- The operations of the abstract machine are the model's: maps. -/
import Derived.Test.YtiimkdijiddjcaaDoorAbsK
namespace Go.Abs
open Go

section
variable {P : Program} {w : World}

theorem run_checkKey1 {t : TypeId} {c : CK} (h : ckOf P t = some c) (em : Bool) (n : Nat) (v : Value) : (Instr.checkKey em (n + 1) t v).run P w = .ok () w := by
  unfold ckOf at h
  split at h
  · rename_i hu; simp [Instr.checkKey, run_underlying hu]
  · rename_i hu; simp [Instr.checkKey, run_underlying hu]
  · rename_i hu; simp [Instr.checkKey, run_underlying hu]
  · cases h

theorem ckFields_cons {i : Nat} {f : Field} {fs : List Field} {cs : List CK} (h : ckFields P i (f :: fs) = some cs) : f.name ≠ "_" ∧ f.offset = i ∧ ∃ c cs', ckOf P f.type = some c ∧ ckFields P (i + 1) fs = some cs' ∧ cs = c :: cs' := by
  simp only [ckFields] at h
  split at h
  · rename_i hn
    simp only [Option.bind_eq_some_iff, Option.map_eq_some_iff] at h
    obtain ⟨c, hc, cs', hcs, rfl⟩ := h
    exact ⟨hn.1, hn.2, c, cs', hc, hcs, rfl⟩
  · cases h

theorem run_checkFields (em : Bool) (n : Nat) : ∀ (fs : List Field) (i : Nat) (cs : List CK), ckFields P i fs = some cs → ∀ (xs : Array Value), allOk cs (xs.toList.drop i) = true →
    (forIn fs PUnit.unit (fun f _ => do
      if f.name ≠ "_" then do
        Instr.checkKey em (n + 1) f.type (← part f.type xs f.offset)
        pure (ForInStep.yield PUnit.unit)
      else pure (ForInStep.yield PUnit.unit) : Field → PUnit → Sem (ForInStep PUnit))).run P w = .ok PUnit.unit w
  | [], _, _, _, _, _ => by simp
  | f :: fs, i, cs, h, xs, hx => by
    obtain ⟨h1, h2, c, cs', hc, hcs, rfl⟩ := ckFields_cons h
    cases hd : xs.toList.drop i with
    | nil => rw [hd] at hx; simp [allOk] at hx
    | cons v vs =>
      rw [hd] at hx
      simp only [allOk, Bool.and_eq_true] at hx
      have e : xs.toList.drop (i + 1) = vs := by rw [← List.drop_drop, hd]; rfl
      have g : xs[i]? = some v := by
        have : (xs.toList.drop i)[0]? = some v := by rw [hd]; rfl
        rw [List.getElem?_drop] at this; simpa using this
      have hp : (part f.type xs f.offset).run P w = .ok v w := run_part1 (ckOf_agg hc) (by rw [h2]; exact g)
      have ih := run_checkFields em n fs (i + 1) cs' hcs xs (by rw [e]; exact hx.2)
      simp only [List.forIn_cons, if_pos h1, Sem.run_bind, hp, Result.andThen_ok, run_checkKey1 hc, Sem.run_pure]
      exact ih

theorem run_checkKey {kt : TypeId} {kk : KK} (hkk : kkOf P kt = some kk) {k : Value} (hk : kk.ok k = true) (em : Bool) : (Instr.checkKey em 10000 kt k).run P w = .ok () w := by
  unfold kkOf at hkk
  split at hkk
  · rename_i fs hu
    split at hkk
    · simp only [Option.map_eq_some_iff] at hkk
      obtain ⟨cs, hcs, rfl⟩ := hkk
      cases k <;> simp [KK.ok] at hk
      rename_i xs
      have := run_checkFields (w := w) em 9998 fs.toList 0 cs hcs xs (by simpa using hk)
      have h0 : ∀ n : Nat, n = 9998 → (Instr.checkKey em (n + 2) kt (.agg xs)).run P w = .ok () w := by
        intro n hn
        unfold Instr.checkKey
        simp only [Sem.run_bind, run_underlying hu, Result.andThen_ok]
        rw [← Array.forIn_toList, hn]
        simp only [this, Result.andThen_ok, Sem.run_pure]
      exact h0 _ rfl
    · cases hkk
  · simp only [Option.map_eq_some_iff] at hkk
    obtain ⟨c, hc, rfl⟩ := hkk
    exact run_checkKey1 hc em 9999 k

theorem ekFields_ck {f : TypeId → Option (List CK)} : ∀ (fs : List Field) (i : Nat) (cs : List CK), ckFields P i fs = some cs → ekFields f P i fs = some cs
  | [], _, _, h => by simpa [ekFields, ckFields] using h
  | x :: fs, i, cs, h => by
    obtain ⟨h1, h2, c, cs', hc, hcs, rfl⟩ := ckFields_cons h
    have ih := ekFields_ck (f := f) fs (i + 1) cs' hcs
    simp only [ekFields, if_pos (And.intro h1 h2)]
    have : ∀ fs', P.underlying x.type ≠ some (.struct fs') := by
      intro fs' e
      unfold ckOf at hc
      rw [e] at hc
      cases hc
    split
    · rename_i fs' e; exact absurd e (this _)
    · simp [hc, ih]

theorem run_equal_key {kt : TypeId} {kk : KK} (hkk : kkOf P kt = some kk) {a b : Value} (ha : kk.ok a = true) (hb : kk.ok b = true) : (Op.equal kt a b).run P w = .ok (keq a b) w := by
  unfold kkOf at hkk
  split at hkk
  · rename_i fs hu
    split at hkk
    · rename_i hst
      simp only [Option.map_eq_some_iff] at hkk
      obtain ⟨cs, hcs, rfl⟩ := hkk
      cases a <;> simp [KK.ok] at ha
      cases b <;> simp [KK.ok] at hb
      rename_i xs ys
      have he : ekOf P 1 kt = some cs := by
        simp only [ekOf, hu, if_pos hst]; exact ekFields_ck _ _ _ hcs
      have := run_equalIn_ek (P := P) 1 kt cs he 9998 xs ys w ha hb
      exact this
    · cases hkk
  · simp only [Option.map_eq_some_iff] at hkk
    obtain ⟨c, hc, rfl⟩ := hkk
    simp only [KK.ok] at ha hb
    have h1 := run_equalIn_ck (P := P) (w := w) hc ha hb 9999
    have e : keq a b = ceq a b := by cases c <;> cases a <;> simp [CK.ok] at ha <;> rfl
    rw [e]; exact h1

theorem sameBits_cell {c : CK} {a b : Value} (ha : c.ok a = true) (hb : c.ok b = true) (h : ceq a b = true) (n : Nat) : Instr.sameBits n b a = true := by
  cases c <;> cases a <;> simp [CK.ok] at ha <;> cases b <;> simp [CK.ok] at hb <;> simp [ceq] at h
  · subst ha; subst hb; subst h; simp [Instr.sameBits]
  · simp only [Instr.sameBits, run_beq_str]; simp [h]
  · subst h; simp [Instr.sameBits]
theorem sameBits_cells : ∀ {cs : List CK} {a b : List Value}, allOk cs a = true → allOk cs b = true → ceqs a b = true → ∀ n, (b.zip a).all (fun (x, y) => Instr.sameBits n x y) = true
  | [], [], [], _, _, _, _ => rfl
  | [], [], _ :: _, _, h, _, _ => by simp [allOk] at h
  | [], _ :: _, _, h, _, _, _ => by simp [allOk] at h
  | _ :: _, [], _, h, _, _, _ => by simp [allOk] at h
  | _ :: _, _ :: _, [], _, h, _, _ => by simp [allOk] at h
  | c :: cs, x :: a, y :: b, ha, hb, h, n => by
    simp only [allOk, Bool.and_eq_true, ceqs] at ha hb h
    simp only [List.zip_cons_cons, List.all_cons, Bool.and_eq_true]
    exact ⟨sameBits_cell ha.1 hb.1 h.1 n, sameBits_cells ha.2 hb.2 h.2 n⟩
theorem run_stays {kk : KK} {a b : Value} (ha : kk.ok a = true) (hb : kk.ok b = true) (h : keq a b = true) : (Instr.keyThatStays b a).run P w = .ok a w := by
  have e : Instr.sameBits 10000 b a = true := by
    cases kk with
    | one c =>
      have e1 : keq a b = ceq a b := by cases c <;> cases a <;> simp [KK.ok, CK.ok] at ha <;> rfl
      rw [e1] at h
      exact sameBits_cell ha hb h _
    | agg cs =>
      cases a <;> simp [KK.ok] at ha
      cases b <;> simp [KK.ok] at hb
      rename_i xs ys
      simp only [keq] at h
      have hl : ys.size = xs.size := by have h1 := allOk_length ha; have h2 := allOk_length hb; simp at h1 h2; omega
      have h0 : ∀ n : Nat, Instr.sameBits (n + 1) (.agg ys) (.agg xs) = true := by
        intro n
        simp only [Instr.sameBits, Bool.and_eq_true]
        exact ⟨by simp [hl], sameBits_cells ha hb h n⟩
      exact h0 9999
  simp [Instr.keyThatStays, e]
end

section
variable {P : Program} {B0 : Nat} {μ : Mu} {A A' : AHeap} {w : World} {fr : Fr} {a : Act}

/-- where a key stands -/
def Found (μ : Mu) (kk : KK) (k : Value) (es es' : List MapEntry) (n : Nat) (r : Option (Nat × Value)) : Prop :=
  match mfind k es n with
  | none => r = none
  | some (i, e) => ∃ e', n ≤ i ∧ es[i - n]? = some e ∧ es'[i - n]? = some e' ∧ EntR μ kk e e' ∧ keq k e.key = true ∧ r = some (i, e'.val)

theorem Found.step {kk : KK} {k : Value} {e e' : MapEntry} {es es' : List MapEntry} {n : Nat} {r : Option (Nat × Value)} (hne : keq k e.key = false) (h : Found μ kk k es es' (n + 1) r) : Found μ kk k (e :: es) (e' :: es') n r := by
  unfold Found at *
  simp only [mfind, hne, cond_false]
  cases hf : mfind k es (n + 1) with
  | none => rw [hf] at h; exact h
  | some p =>
    obtain ⟨i, e2⟩ := p
    rw [hf] at h
    obtain ⟨e3, h1, h2, h3, h4, h5, h6⟩ := h
    refine ⟨e3, by omega, ?_, ?_, h4, h5, h6⟩
    · rw [show i - n = (i - (n + 1)) + 1 from by omega, List.getElem?_cons_succ]; exact h2
    · rw [show i - n = (i - (n + 1)) + 1 from by omega, List.getElem?_cons_succ]; exact h3
theorem Found.here {kk : KK} {k : Value} {e e' : MapEntry} {es es' : List MapEntry} {n : Nat} (heq : keq k e.key = true) (hr : EntR μ kk e e') : Found μ kk k (e :: es) (e' :: es') n (some (n, e'.val)) := by
  unfold Found
  simp only [mfind, heq, cond_true]
  exact ⟨e', Nat.le_refl _, by simp, by simp, hr, by first | trivial | exact heq, rfl⟩

theorem findAsking_run {kt : TypeId} {kk : KK} (hkk : kkOf P kt = some kk) {k : Value} (hk : kk.ok k = true) {es es' : List MapEntry} (h : All2 (EntR μ kk) es es') : ∀ n, ∃ r, (Instr.findAsking kt k es' n).run P w = .ok r w ∧ Found μ kk k es es' n r := by
  induction h with
  | nil => intro n; exact ⟨none, by simp [Instr.findAsking], rfl⟩
  | @cons e e' es es' hr _ ih =>
    intro n
    have hb : kk.ok e'.key = true := by rw [hr.1]; exact hr.2.1
    have heq := run_equal_key (w := w) hkk hk hb
    simp only [Instr.findAsking, Sem.run_bind, heq, Result.andThen_ok]
    cases hq : keq k e'.key with
    | true => exact ⟨_, by simp, Found.here (by rw [← hr.1]; exact hq) hr⟩
    | false =>
      obtain ⟨r, h1, h2⟩ := ih (n + 1)
      exact ⟨r, by simpa using h1, Found.step (by rw [← hr.1]; exact hq) h2⟩

theorem findNow_run {d : TypeDesc} {c : CK} (hd : (∃ k, d = .int k ∧ c = .int k) ∨ (d = .string ∧ c = .str) ∨ (d = .bool ∧ c = .bool)) {k : Value} (hk : c.ok k = true) {es es' : List MapEntry} (h : All2 (EntR μ (.one c)) es es') : ∀ n, ∃ r, Instr.findNow d k es' n = some r ∧ Found μ (.one c) k es es' n r := by
  induction h with
  | nil => intro n; exact ⟨none, rfl, rfl⟩
  | @cons e e' es es' hr _ ih =>
    intro n
    have hb : c.ok e'.key = true := by rw [hr.1]; exact hr.2.1
    have hs : Instr.sameNow d k e'.key = some (keq k e'.key) := by
      rcases hd with ⟨kd, rfl, rfl⟩ | ⟨rfl, rfl⟩ | ⟨rfl, rfl⟩
      · cases hkv : k <;> rw [hkv] at hk <;> simp [CK.ok] at hk
        cases hev : e'.key <;> rw [hev] at hb <;> simp [CK.ok] at hb
        subst hk; subst hb
        simp [Instr.sameNow, keq, ceq]
      · cases hkv : k <;> rw [hkv] at hk <;> simp [CK.ok] at hk
        cases hev : e'.key <;> rw [hev] at hb <;> simp [CK.ok] at hb
        simp only [Instr.sameNow, keq, ceq, run_beq_str]
      · cases hkv : k <;> rw [hkv] at hk <;> simp [CK.ok] at hk
        cases hev : e'.key <;> rw [hev] at hb <;> simp [CK.ok] at hb
        simp [Instr.sameNow, keq, ceq]
    simp only [Instr.findNow, hs]
    cases hq : keq k e'.key with
    | true => exact ⟨_, rfl, Found.here (by rw [← hr.1]; exact hq) hr⟩
    | false =>
      obtain ⟨r, h1, h2⟩ := ih (n + 1)
      exact ⟨r, h1, Found.step (by rw [← hr.1]; exact hq) h2⟩

theorem find_run {kt : TypeId} {kk : KK} (hkk : kkOf P kt = some kk) {k : Value} (hk : kk.ok k = true) {es es' : List MapEntry} (h : All2 (EntR μ kk) es es') : ∃ r, (Instr.findKey kt k es').run P w = .ok r w ∧ Found μ kk k es es' 0 r := by
  have hkk0 := hkk
  unfold kkOf at hkk
  split at hkk
  · rename_i fs hu
    split at hkk
    · simp only [Option.map_eq_some_iff] at hkk
      obtain ⟨cs, hcs, rfl⟩ := hkk
      obtain ⟨r, h1, h2⟩ := findAsking_run (w := w) hkk0 hk h 0
      refine ⟨r, ?_, h2⟩
      simp only [Instr.findKey, Sem.run_bind, run_underlying hu, Result.andThen_ok]
      cases es' with
      | nil => simpa [Instr.findNow, Instr.findAsking] using h1
      | cons e es' =>
        have : Instr.findNow (.struct fs) k (e :: es') 0 = none := by simp [Instr.findNow, Instr.sameNow]
        rw [this]; exact h1
    · cases hkk
  · simp only [Option.map_eq_some_iff] at hkk
    obtain ⟨c, hc, rfl⟩ := hkk
    have hd : ∃ d, P.underlying kt = some d ∧ ((∃ k, d = .int k ∧ c = .int k) ∨ (d = .string ∧ c = .str) ∨ (d = .bool ∧ c = .bool)) := by
      unfold ckOf at hc
      split at hc
      · rename_i k hu; cases hc; exact ⟨_, hu, .inl ⟨k, rfl, rfl⟩⟩
      · rename_i hu; cases hc; exact ⟨_, hu, .inr (.inl ⟨rfl, rfl⟩)⟩
      · rename_i hu; cases hc; exact ⟨_, hu, .inr (.inr ⟨rfl, rfl⟩)⟩
      · cases hc
    obtain ⟨d, hu, hd⟩ := hd
    obtain ⟨r, h1, h2⟩ := findNow_run hd hk h 0
    refine ⟨r, ?_, h2⟩
    simp only [Instr.findKey, Sem.run_bind, run_underlying hu, Result.andThen_ok, h1, Sem.run_pure]

theorem plain_cells : ∀ {ks : List CK} {u u' : List Value}, allOk ks u = true → All2 (SR μ) u u' → u' = u
  | [], [], _, _, h => by cases h; rfl
  | [], _ :: _, _, h, _ => by simp [allOk] at h
  | _ :: _, [], _, h, _ => by simp [allOk] at h
  | k :: ks, v :: u, _, h, hr => by
    cases hr with
    | cons hs ht =>
      simp only [allOk, Bool.and_eq_true] at h
      rw [plain_cells h.2 ht]
      have hk := h.1
      cases hs with
      | plain _ => rfl
      | _ => cases k <;> simp [CK.ok] at hk
theorem key_same {kk : KK} {k k' : Value} (hok : kk.ok k = true) (hk : VR μ k k') : k' = k := by
  cases kk with
  | one c =>
    cases c <;> cases k <;> simp [KK.ok, CK.ok] at hok
    · exact hk.int
    · exact hk.string
    · exact hk.bool
  | agg cs =>
    cases k <;> simp [KK.ok] at hok
    obtain ⟨cs', rfl, hc⟩ := hk.agg
    rw [plain_cells hok hc]
theorem mapOf_get {kk : KK} {x : Value} {r : Nat} {es : List MapEntry} {clock : Nat} (h : mapOf kk A x = some (r, es, clock)) : x = .map (some r) ∧ A.get r = some (.map kk es clock) := by
  unfold mapOf at h
  split at h
  · split at h
    · rename_i hg
      split at h
      · rename_i e; subst e; cases h; exact ⟨rfl, hg⟩
      · cases h
    · cases h
  · cases h

theorem run_getMap {r : Nat} {es : Array MapEntry} {clock : Nat} (h : w.heap[r]? = some (.map es clock)) : (getObj r).run P w = .ok (.map es clock) w := by
  simp [getObj, Sem.run, h]
theorem run_setMap {r : Nat} {es : Array MapEntry} {clock : Nat} (h : w.heap[r]? = some (.map es clock)) (o : Obj) : ∃ w', (setObj r o).run P w = .ok () w' ∧ Wr w w' r o := by
  refine ⟨{ w with heap := w.heap.setIfInBounds r o }, by simp [setObj, Sem.run, h], rfl, rfl, rfl, by simp, ?_, fun c hc => ?_⟩
  · have := lt_of_heap h; simp [this]
  · rw [Array.getElem?_setIfInBounds]; rw [if_neg (fun e => hc e.symm)]

theorem snd_lookup (hrep : Rep B0 μ A.get w) {t kt e : TypeId} {kk : KK} {i : TypeInfo} {z : Value} {ok : Bool} (ht : P.underlying t = some (.map kt e)) (hkk : kkOf P kt = some kk) (hi : P.info? e = some i) (hz : i.zero = some z) (hzp : plain1 z = true)
    {x k v x' k' : Value} (h : alookup kk z ok x k A = some v) (hx : VR μ x x') (hk : VR μ k k') : ∃ v', (Instr.lookup t x' k' ok).run P w = .ok v' w ∧ VR μ v v' := by
  unfold alookup at h
  split at h
  · rename_i r es clock hm
    obtain ⟨rfl, hg⟩ := mapOf_get hm
    obtain ⟨inf, es', hr⟩ := hrep.map _ _ _ _ hg
    obtain ⟨i2, hi2, rfl⟩ := hx.map
    have e1 := hr.mu; rw [hi2] at e1; cases e1
    split at h
    · rename_i hok
      have hkp := key_same hok hk
      subst hkp
      obtain ⟨rr, hf, hfo⟩ := find_run (w := w) hkk hok hr.ents
      have hrun : ∀ (v : Value) (f : Bool), (match rr with | some (_, v) => pure (v, true) | none => do pure (← zeroValue e, false) : Sem (Value × Bool)).run P w = .ok (v, f) w →
          (Instr.lookup t (.map (some inf.blk)) k' ok).run P w = .ok (if ok then .tuple #[v, .bool f] else v) w := by
        intro v f hh
        simp only [Instr.lookup, Sem.run_bind, run_underlying ht, Result.andThen_ok, run_getMap hr.heap, Sem.run_pure, run_checkKey hkk hok, hf]
        cases rr with
        | none => simp only [Sem.run_bind, run_zeroValue hi hz, Result.andThen_ok, Sem.run_pure] at hh ⊢; cases hh; rfl
        | some p => simp only [Sem.run_pure] at hh ⊢; cases hh; rfl
      have hres : ∀ {v v' : Value} {f : Bool}, SR μ v v' → VR μ (if ok then .tuple #[v, .bool f] else v) (if ok then .tuple #[v', .bool f] else v') := by
        intro v v' f hs
        cases ok
        · simpa using VR.sr hs
        · have := VR.tup (μ := μ) (All2.cons (V1.s hs) (All2.cons (V1.s (.plain (v := .bool f) rfl)) .nil))
          simpa using this
      unfold Found at hfo
      split at h
      · rename_i j e2 hfd
        rw [hfd] at hfo
        obtain ⟨e', _, _, _, hent, _, rfl⟩ := hfo
        cases h
        exact ⟨_, hrun e'.val true rfl, hres hent.2.2.2⟩
      · rename_i hfd
        rw [hfd] at hfo
        subst hfo
        cases h
        exact ⟨_, hrun z false (by simp [run_zeroValue hi hz]), hres (.plain hzp)⟩
    · cases h
  · cases h

theorem ents_set {kk : KK} {es : List MapEntry} {es' : Array MapEntry} (h : All2 (EntR μ kk) es es'.toList) {i : Nat} {e e' : MapEntry} (hr : EntR μ kk e e') (f : MapEntry → MapEntry) (hf : ∀ x, es'[i]? = some x → f x = e') : All2 (EntR μ kk) (es.set i e) (es'.modify i f).toList := by
  have hl := h.length
  simp only [Array.length_toList] at hl
  refine All2.mk (by simp [hl]) fun j x hj => ?_
  rw [Array.getElem?_toList, Array.getElem?_modify]
  rw [List.getElem?_set] at hj
  by_cases e1 : i = j
  · subst e1
    rw [if_pos rfl] at hj ⊢
    split at hj
    · rename_i hlt
      cases hj
      have hlt' : i < es'.size := by omega
      rw [Array.getElem?_eq_getElem hlt', Option.map_some, hf _ (Array.getElem?_eq_getElem hlt')]
      exact ⟨_, rfl, hr⟩
    · cases hj
  · rw [if_neg e1] at hj ⊢
    obtain ⟨b, h1, h2⟩ := h.at_ _ _ hj
    exact ⟨b, by simpa using h1, h2⟩

/-- a map has turned -/
theorem out_map (hrep : Rep B0 μ A.get w) (lo up : Nat) {kk : KK} {r : Nat} {es : List MapEntry} {clock : Nat} (hg : A.get r = some (.map kk es clock)) {inf : Info} {es' : Array MapEntry} (hr : MapAt B0 μ w r kk es clock inf es')
    {es2 : List MapEntry} {clock2 : Nat} {es2' : Array MapEntry} (h2 : All2 (EntR μ kk) es2 es2'.toList) :
    ∃ w', (∀ P : Program, (setObj inf.blk (.map es2' clock2)).run P w = .ok () w') ∧ Out B0 μ A.get w lo up μ (A.set r (.map kk es2 clock2)).get w' := by
  refine ⟨{ w with heap := w.heap.setIfInBounds inf.blk (.map es2' clock2) }, fun P => by simp [setObj, Sem.run, hr.heap], ?_⟩
  have hlt := lt_of_heap hr.heap
  have hwr : Wr w { w with heap := w.heap.setIfInBounds inf.blk (.map es2' clock2) } inf.blk (.map es2' clock2) :=
    ⟨rfl, rfl, rfl, by simp, by simp [hlt], fun c hc => by rw [Array.getElem?_setIfInBounds, if_neg (fun e => hc e.symm)]⟩
  refine out_set hrep lo up (by rw [hg]; trivial) hr.mu (fun j => A.get_set r j _) hwr (fun _ _ _ _ h => by cases h) ?_
  intro kk3 es3 clock3 h
  cases h
  exact ⟨inf, es2', ⟨hr.mu, hr.own, hwr.at_, h2⟩⟩

theorem snd_mapUpd (hrep : Rep B0 μ A.get w) {t kt e : TypeId} {kk : KK} (ht : P.underlying t = some (.map kt e)) (hkk : kkOf P kt = some kk)
    {x k v x' k' v' : Value} (h : amapUpd kk x k v A = some A') (hx : VR μ x x') (hk : VR μ k k') (hv : VR μ v v') : SndU P B0 μ A w (Instr.mapUpdate t x' k' v') A' := by
  unfold amapUpd at h
  split at h
  · rename_i r es clock hm
    obtain ⟨rfl, hg⟩ := mapOf_get hm
    obtain ⟨inf, es', hr⟩ := hrep.map _ _ _ _ hg
    obtain ⟨i2, hi2, rfl⟩ := hx.map
    have e1 := hr.mu; rw [hi2] at e1; cases e1
    split at h
    · rename_i hcond
      simp only [Bool.and_eq_true] at hcond
      obtain ⟨hok, hcv⟩ := hcond
      have hkp := key_same hok hk
      subst hkp
      have hs := hv.inv_sr hcv
      obtain ⟨rr, hf, hfo⟩ := find_run (w := w) hkk hok hr.ents
      unfold Found at hfo
      split at h
      · rename_i i e0 hfd
        rw [hfd] at hfo
        obtain ⟨e', _, he, he', hent, heq, rfl⟩ := hfo
        cases h
        simp only [Nat.sub_zero] at he he'
        have hb : kk.ok e'.key = true := by rw [hent.1]; exact hent.2.1
        obtain ⟨w', hrun, ho⟩ := out_map hrep A.next A.next hg hr (clock2 := clock) (ents_set hr.ents (i := i) (e := ⟨k', v, e0.born⟩) (e' := ⟨k', v', e'.born⟩) ⟨rfl, hok, hent.2.2.1, hs⟩
          (fun x => { x with key := k', val := v' }) (fun x hx => by rw [← Array.getElem?_toList, he'] at hx; cases hx; rfl))
        refine ⟨μ, w', ?_, ho⟩
        have hkey : ((es'[i]?).map (·.key)).getD k' = e'.key := by rw [← Array.getElem?_toList, he']; rfl
        simp only [Instr.mapUpdate, Sem.run_bind, run_underlying ht, Result.andThen_ok, run_getMap hr.heap, run_checkKey hkk hok, hf, hkey, run_stays (w := w) hok hb (by rw [hent.1]; exact heq), hrun]
      · rename_i hfd
        rw [hfd] at hfo
        subst hfo
        cases h
        obtain ⟨w', hrun, ho⟩ := out_map hrep A.next A.next hg hr (clock2 := clock + 1) (es2 := es ++ [⟨k', v, clock⟩]) (es2' := es'.push ⟨k', v', clock⟩) (by
          rw [Array.toList_push]; exact hr.ents.append (.cons ⟨rfl, hok, rfl, hs⟩ .nil))
        refine ⟨μ, w', ?_, ho⟩
        simp only [Instr.mapUpdate, Sem.run_bind, run_underlying ht, Result.andThen_ok, run_getMap hr.heap, run_checkKey hkk hok, hf, hrun]
    · cases h
  · cases h

theorem snd_mapEnt (hrep : Rep B0 μ A.get w) {t kt e : TypeId} {kk : KK} {i : TypeInfo} {z : Value} (ht : P.underlying t = some (.map kt e)) (hkk : kkOf P kt = some kk) (hi : P.info? e = some i) (hz : i.zero = some z) (hzp : plain1 z = true)
    {x k v x' k' : Value} (h : amapEnt kk z x k A = some (v, A')) (hx : VR μ x x') (hk : VR μ k k') : Snd P B0 μ A w (Instr.mapEntry t x' k') v A' := by
  unfold amapEnt at h
  have hres : ∀ {v v' : Value} {n n' : Nat}, SR μ v v' → n' = n → VR μ (.tuple #[v, goInt n]) (.tuple #[v', goInt n']) := by
    intro v v' n n' hs hn
    subst hn
    have := VR.tup (μ := μ) (All2.cons (V1.s hs) (All2.cons (V1.s (.plain (v := goInt n') rfl)) .nil))
    simpa using this
  split at h
  · rename_i r es clock hm
    obtain ⟨rfl, hg⟩ := mapOf_get hm
    obtain ⟨inf, es', hr⟩ := hrep.map _ _ _ _ hg
    obtain ⟨i2, hi2, rfl⟩ := hx.map
    have e1 := hr.mu; rw [hi2] at e1; cases e1
    split at h
    · rename_i hok
      have hkp := key_same hok hk
      subst hkp
      obtain ⟨rr, hf, hfo⟩ := find_run (w := w) hkk hok hr.ents
      unfold Found at hfo
      split at h
      · rename_i j e0 hfd
        rw [hfd] at hfo
        obtain ⟨e', _, he, he', hent, heq, rfl⟩ := hfo
        cases h
        simp only [Nat.sub_zero] at he he'
        have hb : kk.ok e'.key = true := by rw [hent.1]; exact hent.2.1
        obtain ⟨w', hrun, ho⟩ := out_map hrep A.next A.next hg hr (clock2 := clock) (ents_set hr.ents (i := j) (e := ⟨k', e0.val, e0.born⟩) (e' := ⟨k', e'.val, e'.born⟩) ⟨rfl, hok, hent.2.2.1, hent.2.2.2⟩
          (fun x => { x with key := k' }) (fun x hx => by rw [← Array.getElem?_toList, he'] at hx; cases hx; rfl))
        refine ⟨μ, _, w', ?_, ho, hres hent.2.2.2 hent.2.2.1⟩
        have hkey : ((es'[j]?).map (·.key)).getD k' = e'.key := by rw [← Array.getElem?_toList, he']; rfl
        have hborn : (Option.map (fun x => (x.born : Int)) es'[j]?).getD 0 = (e'.born : Int) := by rw [← Array.getElem?_toList, he']; rfl
        simp only [Instr.mapEntry, Sem.run_bind, run_underlying ht, Result.andThen_ok, run_getMap hr.heap, run_checkKey hkk hok, hf, hkey, run_stays (w := w) hok hb (by rw [hent.1]; exact heq), hrun, hborn, Sem.run_pure]
      · rename_i hfd
        rw [hfd] at hfo
        subst hfo
        cases h
        obtain ⟨w', hrun, ho⟩ := out_map hrep A.next A.next hg hr (clock2 := clock + 1) (es2 := es ++ [⟨k', z, clock⟩]) (es2' := es'.push ⟨k', z, clock⟩) (by
          rw [Array.toList_push]; exact hr.ents.append (.cons ⟨rfl, hok, rfl, .plain hzp⟩ .nil))
        refine ⟨μ, _, w', ?_, ho, hres (.plain hzp) rfl⟩
        simp only [Instr.mapEntry, Sem.run_bind, run_underlying ht, Result.andThen_ok, run_getMap hr.heap, run_checkKey hkk hok, hf, run_zeroValue hi hz, hrun, Sem.run_pure]
    · cases h
  · cases h

theorem born_find {kk : KK} {n : Int} {v v' : Value} (hv : SR μ v v') : ∀ {es es2 : List MapEntry} {es' : List MapEntry}, bornSet n v es = some es2 → All2 (EntR μ kk) es es' →
    ∃ i e', es'.findIdx? (fun e => (e.born : Int) == n) = some i ∧ es'[i]? = some e' ∧ All2 (EntR μ kk) es2 (es'.set i ⟨e'.key, v', e'.born⟩)
  | [], _, _, h, _ => by simp [bornSet] at h
  | e :: es, es2, _, h, hr => by
    cases hr with
    | @cons _ e' _ es' he ht =>
      simp only [bornSet] at h
      split at h
      · rename_i hb
        cases h
        refine ⟨0, e', ?_, rfl, .cons ⟨he.1, he.2.1, he.2.2.1, hv⟩ ht⟩
        rw [List.findIdx?_cons, he.2.2.1, if_pos hb]
      · rename_i hb
        simp only [Option.map_eq_some_iff] at h
        obtain ⟨es3, h3, rfl⟩ := h
        obtain ⟨i, e2, h4, h5, h6⟩ := born_find hv h3 ht
        refine ⟨i + 1, e2, ?_, by simpa using h5, .cons he h6⟩
        rw [List.findIdx?_cons, he.2.2.1, if_neg hb, h4]; rfl

theorem snd_entSt (hrep : Rep B0 μ A.get w) {t : TypeId} {kk : KK} {x s v x' s' v' : Value} (h : aentSt kk x s v A = some A') (hx : VR μ x x') (hsv : VR μ s s') (hv : VR μ v v') : SndU P B0 μ A w (Instr.entryStore t x' s' v') A' := by
  unfold aentSt at h
  split at h
  · rename_i r es clock k n hm
    obtain ⟨rfl, hg⟩ := mapOf_get hm
    obtain ⟨inf, es', hr⟩ := hrep.map _ _ _ _ hg
    obtain ⟨i2, hi2, rfl⟩ := hx.map
    have e1 := hr.mu; rw [hi2] at e1; cases e1
    have e2 := hsv.int; subst e2
    split at h
    · rename_i hcv
      simp only [Option.map_eq_some_iff] at h
      obtain ⟨es2, hb, rfl⟩ := h
      have hs := hv.inv_sr hcv
      obtain ⟨j, e', hfi, he', hall⟩ := born_find hs hb hr.ents
      have hfi' : es'.findIdx? (fun e => (e.born : Int) == n) = some j := by rw [← hfi]; cases es'; simp
      have hmod : (es'.modify j fun e => { e with val := v' }).toList = es'.toList.set j ⟨e'.key, v', e'.born⟩ := by
        apply List.ext_getElem?
        intro m
        rw [Array.getElem?_toList, Array.getElem?_modify, List.getElem?_set]
        have hj : j < es'.toList.length := (List.getElem?_eq_some_iff.1 he').1
        by_cases e3 : j = m
        · subst e3
          rw [if_pos rfl, if_pos rfl, if_pos hj, ← Array.getElem?_toList, he']; rfl
        · rw [if_neg e3, if_neg e3, Array.getElem?_toList]
      obtain ⟨w', hrun, ho⟩ := out_map hrep A.next A.next hg hr (clock2 := clock) (es2 := es2) (es2' := es'.modify j fun e => { e with val := v' }) (by rw [hmod]; exact hall)
      refine ⟨μ, w', ?_, ho⟩
      simp only [Instr.entryStore, Sem.run_bind, run_getMap hr.heap, Result.andThen_ok, asInt, asIntOf, Sem.run_pure, hfi', hrun]
    · cases h
  · cases h

theorem snd_delete (hrep : Rep B0 μ A.get w) {t kt e : TypeId} {kk : KK} {ty : TypeId} {ts : Array TypeId} (hts : ts[0]? = some t) (ht : P.underlying t = some (.map kt e)) (hkk : kkOf P kt = some kk)
    {x k x' k' : Value} (h : adelete kk x k A = some A') (hx : VR μ x x') (hk : VR μ k k') : Snd P B0 μ A w (Builtin.delete_ ts ty #[x', k']) (.tuple #[]) A' := by
  unfold adelete at h
  split at h
  · rename_i r es clock hm
    obtain ⟨rfl, hg⟩ := mapOf_get hm
    obtain ⟨inf, es', hr⟩ := hrep.map _ _ _ _ hg
    obtain ⟨i2, hi2, rfl⟩ := hx.map
    have e1 := hr.mu; rw [hi2] at e1; cases e1
    split at h
    · rename_i hok
      have hkp := key_same hok hk
      subst hkp
      obtain ⟨rr, hf, hfo⟩ := find_run (w := w) hkk hok hr.ents
      unfold Found at hfo
      split at h
      · rename_i j e0 hfd
        rw [hfd] at hfo
        obtain ⟨e', _, he, he', hent, heq, rfl⟩ := hfo
        cases h
        simp only [Nat.sub_zero] at he'
        have hj : j < es'.size := by have := (List.getElem?_eq_some_iff.1 he').1; simpa using this
        obtain ⟨w', hrun, ho⟩ := out_map hrep A.next A.next hg hr (clock2 := clock) (es2 := es.eraseIdx j) (es2' := es'.eraseIdxIfInBounds j) (by
          unfold Array.eraseIdxIfInBounds
          rw [dif_pos hj, Array.toList_eraseIdx]; exact hr.ents.eraseIdx j)
        refine ⟨μ, _, w', ?_, ho, .undef_⟩
        simp [Builtin.delete_, hts, run_underlying ht, run_getMap hr.heap, run_checkKey hkk hok, hf, hrun]
        rfl
      · rename_i hfd
        rw [hfd] at hfo
        subst hfo
        cases h
        obtain ⟨w', hrun, ho⟩ := out_map hrep A.next A.next hg hr (clock2 := clock) (es2 := es) (es2' := es') hr.ents
        refine ⟨μ, _, w', ?_, ?_, .undef_⟩
        · simp [Builtin.delete_, hts, run_underlying ht, run_getMap hr.heap, run_checkKey hkk hok, hf, hrun]
          rfl
        · have hsame : (A.set r (.map kk es clock)).get = A.get := by
            funext j
            rw [A.get_set]
            by_cases e3 : r = j
            · subst e3; rw [if_pos rfl, hg]
            · rw [if_neg e3]
          rw [hsame] at ho; exact ho
    · cases h
  · cases h
end
end Go.Abs
