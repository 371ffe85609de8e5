/- A slice that came in, as a row of the abstract memory that is only read. -/
import Derived.Test.YtiimkdijiddjcaaDoorAbsSy
import Derived.Deep.Slices
set_option linter.unusedSimpArgs false
namespace Go.Abs
set_option linter.unusedSimpArgs false
set_option linter.unusedVariables false
set_option linter.unusedSectionVars false
set_option linter.defProp false
open Go Go.RowKit Go.WideShapes Go.ChangeShapes Go.WideElems

theorem allOk_app2 : ∀ {a b : List CK} {u v : List Value}, allOk a u = true → allOk b v = true → allOk (a ++ b) (u ++ v) = true
  | [], _, [], _, _, h => h
  | [], _, _ :: _, _, h, _ => by simp [allOk] at h
  | _ :: _, _, [], _, h, _ => by simp [allOk] at h
  | c :: a, b, x :: u, v, h, k => by
    simp only [allOk, Bool.and_eq_true] at h
    simp only [List.cons_append, allOk, h.1, Bool.true_and]
    exact allOk_app2 h.2 k
theorem allOk_len : ∀ {a : List CK} {u : List Value}, allOk a u = true → u.length = a.length
  | [], [], _ => rfl
  | [], _ :: _, h => by simp [allOk] at h
  | _ :: _, [], h => by simp [allOk] at h
  | c :: a, x :: u, h => by
    simp only [allOk, Bool.and_eq_true] at h
    simp [allOk_len h.2]
theorem ck_plain {c : CK} {v : Value} (h : c.ok v = true) : plain1 v = true := by
  cases c <;> cases v <;> simp_all [CK.ok, plain1]
theorem allOk_plain : ∀ {a : List CK} {u : List Value}, allOk a u = true → ∀ v ∈ u, plain1 v = true
  | [], [], _ => fun v h => by cases h
  | [], _ :: _, h => by simp [allOk] at h
  | _ :: _, [], h => by simp [allOk] at h
  | c :: a, x :: u, h => by
    simp only [allOk, Bool.and_eq_true] at h
    intro v hv
    rcases List.mem_cons.1 hv with rfl | hv
    · exact ck_plain h.1
    · exact allOk_plain h.2 v hv

section
variable {H : Type} {enc : TypeId × Value → H} {P : Program} {w : World} {base : Nat} {spare : Nat → Bool} {held : Bool}
theorem trod_ck {t : TypeId} {c : CK} (hc : ckOf P t = some c) {n : Nat} {cs : List Value} {x : DataW H × List MemPlace} (h : DataW.trod enc P w base spare held n t cs = some x) : ∃ v, cs = [v] ∧ c.ok v = true := by
  unfold ckOf at hc
  split at hc
  · rename_i k ht
    cases hc
    obtain ⟨m, rfl, _⟩ := DataW.trod_int ht h
    exact ⟨_, rfl, by simp [CK.ok]⟩
  · rename_i ht
    cases hc
    obtain ⟨s, rfl, _⟩ := DataW.trod_string ht h
    exact ⟨_, rfl, rfl⟩
  · rename_i ht
    cases hc
    obtain ⟨b, rfl, _⟩ := DataW.trod_bool ht h
    exact ⟨_, rfl, rfl⟩
  · cases hc
theorem szOf_cells {t : TypeId} {n : Nat} (h : szOf P t = some n) : P.cellsOf t = n := by
  simp only [szOf] at h
  simp [Program.cellsOf, h]
theorem trod_fields {d : Nat} (ih : ∀ (t : TypeId) (cks : List CK) (n : Nat) (cs : List Value) (x : DataW H × List MemPlace), ekOf P d t = some cks → P.cellsOf t = cks.length → DataW.trod enc P w base spare held n t cs = some x → allOk cks cs = true) :
    ∀ (fs : List Field) (i : Nat) (cks : List CK) (cs : List Value), ekFields (ekOf P d) P i fs = some cks → (∀ f ∈ fs, ∃ n x, DataW.trod enc P w base spare held n f.type ((cs.drop f.offset).take (P.cellsOf f.type)) = some x) → cs.length = i + cks.length → allOk cks (cs.drop i) = true := by
  intro fs
  induction fs with
  | nil =>
    intro i cks cs hk _ hl
    simp only [ekFields, Option.some.injEq] at hk
    subst hk
    rw [List.drop_eq_nil_of_le (by simp at hl; omega)]; rfl
  | cons f fs ihf =>
    intro i cks cs hk hf hl
    simp only [ekFields] at hk
    split at hk
    · rename_i hname
      obtain ⟨n, x, hx⟩ := hf f (by simp)
      rw [hname.2] at hx
      split at hk
      · rename_i hu
        simp only [Option.bind_eq_some_iff] at hk
        obtain ⟨c, hc, m, hm, hk⟩ := hk
        split at hk
        · rename_i hcl
          simp only [Option.map_eq_some_iff] at hk
          obtain ⟨r, hr, rfl⟩ := hk
          rw [szOf_cells hm] at hx
          have h1 := ih f.type c n _ x hc (by rw [szOf_cells hm, hcl]) hx
          have h2 := ihf (i + m) r cs hr (fun g hg => hf g (by simp [hg])) (by simp at hl; omega)
          have : cs.drop i = (cs.drop i).take m ++ cs.drop (i + m) := by rw [← List.drop_drop, List.take_append_drop]
          rw [this]; exact allOk_app2 h1 h2
        · cases hk
      · rename_i hu
        simp only [Option.bind_eq_some_iff, Option.map_eq_some_iff] at hk
        obtain ⟨c, hc, r, hr, rfl⟩ := hk
        obtain ⟨v, hv, hok⟩ := trod_ck hc hx
        have h2 := ihf (i + 1) r cs hr (fun g hg => hf g (by simp [hg])) (by simp at hl; omega)
        have h3 : cs.drop i = v :: cs.drop (i + 1) := by
          cases hd : cs.drop i with
          | nil => rw [hd] at hv; simp at hv
          | cons u l =>
            rw [hd] at hv
            have hu : u = v := by
              cases hn : P.cellsOf f.type with
              | zero => rw [hn] at hv; simp at hv
              | succ n => rw [hn] at hv; simp at hv; exact hv.1
            have : cs.drop (i + 1) = l := by rw [← List.drop_drop, hd]; rfl
            rw [this, hu]
        rw [h3]; simp only [allOk, hok, h2, Bool.and_self]
    · cases hk
/-- a struct of plain cells that reads as data holds cells of its kinds -/
theorem trod_kinds : ∀ (d : Nat) (t : TypeId) (cks : List CK) (n : Nat) (cs : List Value) (x : DataW H × List MemPlace), ekOf P d t = some cks → P.cellsOf t = cks.length → DataW.trod enc P w base spare held n t cs = some x → allOk cks cs = true := by
  intro d
  induction d with
  | zero => intro t cks n cs x h; simp [ekOf] at h
  | succ d ih =>
    intro t cks n cs x hk hsz h
    simp only [ekOf] at hk
    split at hk
    · rename_i fs ht
      split at hk
      · obtain ⟨xs, m, rfl, _, hl, hxl, hfs⟩ := DataW.trod_struct ht h
        have h1 := trod_fields (d := d) (enc := enc) (P := P) (w := w) (base := base) (spare := spare) (held := held) ih fs.toList 0 cks cs hk (fun f hf => by
          obtain ⟨i, hi⟩ := List.mem_iff_getElem?.1 hf
          have hi' : fs[i]? = some f := by simpa using hi
          have := hfs i f hi'
          have hil : i < xs.length := by rw [hxl]; exact (Array.getElem?_eq_some_iff.1 hi').1
          exact ⟨m, xs[i], by rw [this, List.getElem?_eq_getElem hil]⟩) (by rw [hl, hsz]; omega)
        simpa using h1
      · cases hk
    · cases hk

/-- a slice of structs of plain cells, as it came in -/
theorem slice_in {tS e : TypeId} {v : Value} {dd : DataW H} {ps : List MemPlace} {d : Nat} {cks : List CK} (ht : P.underlying tS = some (.slice e)) (hk : ekOf P d e = some cks) (hsz : P.cellsOf e = cks.length) (hpos : 0 < cks.length)
    (hval : Value.okWide P w .any base tS v) (h : DataW.Trod enc P w 0 (fun _ => true) true tS v dd ps) :
    v = .slice none 0 0 ∨ ∃ blk off len cap arr t fz, v = .slice (some ⟨blk, off, none⟩) len cap ∧ len ≤ cap ∧ cap ≤ maxLen ∧ w.heap[blk]? = some (.cells arr t fz) ∧ (0 < cap → off + cap * cks.length ≤ arr.size) ∧
      ∀ i, i < cap → allOk cks ((arr.toList.drop (off + i * cks.length)).take cks.length) = true := by
  obtain ⟨fuel, h⟩ := h
  obtain ⟨a0, l0, c0, rfl⟩ := okWide_slice ht hval
  rcases Go.Deep.open_slice ht h with ⟨h0, _⟩ | ⟨a, len, cap, m, n, D, Pl, hv, _, hl, hm, hmm, _, hx⟩
  · left
    simpa [Value.cells] using h0
  right
  have hv' : Value.slice a0 l0 c0 = .slice (some a) len cap := by
    simpa [Value.cells] using hv
  rw [hv'] at hval ⊢
  have hok : Cell.ok P w .any base tS (.slice (some a) len cap) := by
    simpa only [Value.okWide, ht, Cell.okWide] using hval
  simp only [Cell.ok, ht, World.has] at hok
  obtain ⟨_, _, _, hspot, row, cells, hshape, _⟩ := hok
  have hmc : m = cap := by simpa using hmm
  subst hmc
  obtain ⟨arr, t, fz, hheap⟩ : ∃ arr t fz, w.heap[a.block]? = some (.cells arr t fz) := by
    unfold World.shape? at hshape
    split at hshape
    · rename_i c el fz hh; exact ⟨c, el, fz, hh⟩
    · cases hshape
  obtain ⟨blk, off, spot⟩ := a
  simp only at hspot hheap
  subst hspot
  have hcell : ∀ i, i < m → ∃ cs', cs'.length = cks.length ∧ allOk cks cs' = true ∧ ∀ j, j < cks.length → arr[off + i * cks.length + j]? = cs'[j]? := by
    intro i hi
    obtain ⟨cs', h1, h2⟩ := hx i hi
    rw [hsz] at h1
    obtain ⟨_, h3, h4⟩ := World.cells?_some h1
    refine ⟨cs', h3, trod_kinds d e cks n cs' _ hk hsz h2, fun j hj => ?_⟩
    rw [← h4 j hj]
    have hadd : ((⟨blk, off, none⟩ : Addr).add (i * cks.length)).add j = ⟨blk, off + i * cks.length + j, none⟩ := by
      unfold Addr.add
      by_cases e1 : i * cks.length = 0
      · rw [if_pos e1]
        by_cases e2 : j = 0
        · rw [if_pos e2, e1, e2]; rfl
        · rw [if_neg e2, e1]; rfl
      · rw [if_neg e1]
        by_cases e2 : j = 0
        · rw [if_pos e2, e2]; rfl
        · rw [if_neg e2]
    rw [hadd]
    simp [World.cell?, hheap]
  refine ⟨blk, off, len, m, arr, t, fz, rfl, hl, hm, hheap, ?_, ?_⟩
  · intro hm0
    obtain ⟨cs', h3, _, h5⟩ := hcell (m - 1) (by omega)
    have h6 := h5 (cks.length - 1) (by omega)
    rw [List.getElem?_eq_getElem (by omega)] at h6
    have h7 := (Array.getElem?_eq_some_iff.1 h6).1
    have h8 : m * cks.length = (m - 1) * cks.length + cks.length := by
      rw [← Nat.succ_mul]; congr 1; omega
    omega
  · intro i hi
    obtain ⟨cs', h3, h4, h5⟩ := hcell i hi
    have : (arr.toList.drop (off + i * cks.length)).take cks.length = cs' := by
      apply List.ext_getElem?
      intro j
      rw [List.getElem?_take]
      split
      · rename_i hj
        rw [List.getElem?_drop, Array.getElem?_toList]; exact h5 j hj
      · rename_i hj
        rw [List.getElem?_eq_none (by omega)]
    rw [this]; exact h4

/-- a row that is only read, laid into the abstract memory -/
theorem Rep.addRo {B0 : Nat} {μ : Mu} {A : AHeap} {W : World} (h : Rep B0 μ A.get W) (hwf : wfA A) (hg : ∀ id, A.next ≤ id → μ id = none) {blk base sz : Nat} {arr : Array Value} {t : TypeId} {fz : Nat × Nat} {cs : List Value} (hb : blk < B0) (hh : W.heap[blk]? = some (.cells arr t fz)) (hl : base + cs.length ≤ arr.size)
    (hc : ∀ (j : Nat) v, cs[j]? = some v → arr[base + j]? = some v ∧ plain1 v = true) :
    ∃ μ' : Mu, μ.le μ' ∧ μ' A.next = some ⟨blk, base, sz, arr.size, false⟩ ∧ Rep B0 μ' (A.new (.row cs sz true false)).get W ∧ wfA (A.new (.row cs sz true false)) ∧ ∀ id, (A.new (.row cs sz true false)).next ≤ id → μ' id = none := by
  refine ⟨fun id => if id = A.next then some ⟨blk, base, sz, arr.size, false⟩ else μ id, ?_, by simp, ?_, wfA.new hwf _, ?_⟩
  · intro id i hi
    have : id ≠ A.next := fun e => by rw [e, hg A.next (Nat.le_refl _)] at hi; cases hi
    simp only [if_neg this]; exact hi
  · have hle : μ.le fun id => if id = A.next then some ⟨blk, base, sz, arr.size, false⟩ else μ id := by
      intro id i hi
      have : id ≠ A.next := fun e => by rw [e, hg A.next (Nat.le_refl _)] at hi; cases hi
      simp only [if_neg this]; exact hi
    refine ⟨fun id cs' sz' ro opn hget => ?_, fun id kk es cl hget => ?_, fun id1 id2 i1 i2 hne h1 h2 h3 h4 => ?_⟩
    · rw [AHeap.get_new] at hget
      split at hget
      · rename_i e
        subst e
        cases hget
        refine ⟨⟨blk, base, sz, arr.size, false⟩, arr, t, fz, ⟨by simp, rfl, by simp, hh, rfl, hl, fun j v hj => ?_, by simp, fun _ => hb⟩⟩
        obtain ⟨h5, h6⟩ := hc j v hj
        exact ⟨v, h5, .plain h6⟩
      · obtain ⟨i, arr', t', fz', hr⟩ := h.row _ _ _ _ _ hget
        exact ⟨i, arr', t', fz', ⟨hle _ _ hr.mu, hr.opn_, hr.sz_, hr.heap, hr.asz, hr.len, fun j v hj => let ⟨v', h5, h6⟩ := hr.cells j v hj; ⟨v', h5, h6.mono hle⟩, hr.own, hr.old⟩⟩
    · rw [AHeap.get_new] at hget
      split at hget
      · cases hget
      · obtain ⟨i, es', hr⟩ := h.map _ _ _ _ hget
        exact ⟨i, es', ⟨hle _ _ hr.mu, hr.own, hr.heap, hr.ents.mono fun a b ⟨e1, e2, e3, e4⟩ => ⟨e1, e2, e3, e4.mono hle⟩⟩⟩
    · rw [AHeap.get_new] at h1 h2
      by_cases e1 : A.next = id1
      · rw [if_pos e1] at h1; exact absurd h1 (by simp [wrO])
      · rw [if_neg e1] at h1
        simp only [if_neg (fun e => e1 (e ▸ rfl) : ¬ id1 = A.next)] at h3
        by_cases e2 : A.next = id2
        · subst e2
          simp only [if_true] at h4
          cases h4
          -- a row that may be written lies from B0 on
          cases hx : A.get id1 with
          | none => rw [hx] at h1; exact absurd h1 (by simp [wrO])
          | some o =>
            cases o with
            | row cs' sz' ro opn =>
              cases ro with
              | true => rw [hx] at h1; exact absurd h1 (by simp [wrO])
              | false =>
                obtain ⟨i, arr', t', fz', hr⟩ := h.row _ _ _ _ _ hx
                rw [hr.mu] at h3; cases h3
                have := (hr.own rfl).1; simp only; omega
            | map kk es cl =>
              obtain ⟨i, es', hr⟩ := h.map _ _ _ _ hx
              rw [hr.mu] at h3; cases h3
              have := hr.own; simp only; omega
            | dead => rw [hx] at h1; exact absurd h1 (by simp [wrO])
        · rw [if_neg e2] at h2
          simp only [if_neg (fun e => e2 (e ▸ rfl) : ¬ id2 = A.next)] at h4
          exact h.sep id1 id2 i1 i2 hne h1 h2 h3 h4
  · intro id hid
    rw [AHeap.new_next] at hid
    simp only [if_neg (by omega : ¬ id = A.next)]; exact hg id (by omega)
end
end Go.Abs
