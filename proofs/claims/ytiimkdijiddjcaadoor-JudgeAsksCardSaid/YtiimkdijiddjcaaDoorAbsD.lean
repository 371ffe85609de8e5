/- How the model's memory operations keep what an abstract memory says. -/
import Derived.Test.YtiimkdijiddjcaaDoorAbsC
import Derived.WalkKit
namespace Go.Abs
open Go

theorem addr_add (b o n : Nat) : (⟨b, o, none⟩ : Addr).add n = ⟨b, o + n, none⟩ := by
  unfold Addr.add; split <;> simp_all

/-- a world in which one block has turned -/
structure Wr (w w' : World) (b : Nat) (o : Obj) : Prop where
  os : w'.os = w.os
  tape : w'.tape = w.tape
  output : w'.output = w.output
  size : w'.heap.size = w.heap.size
  at_ : w'.heap[b]? = some o
  far : ∀ c, c ≠ b → w'.heap[c]? = w.heap[c]?

theorem cell_at {w : World} {b : Nat} {arr : Array Value} {t : TypeId} {fz : Nat × Nat} (h : w.heap[b]? = some (.cells arr t fz)) (o : Nat) : w.cell? ⟨b, o, none⟩ = arr[o]? := by
  simp [World.cell?, h]
theorem frozen_at {w : World} {b : Nat} {arr : Array Value} {t : TypeId} {fz : Nat × Nat} (h : w.heap[b]? = some (.cells arr t fz)) (o : Nat) (hf : ¬ (fz.1 ≤ o ∧ o < fz.2)) : w.frozen? ⟨b, o, none⟩ = false := by
  obtain ⟨lo, hi⟩ := fz
  simp only [World.frozen?, h]
  simp only at hf
  by_cases h1 : lo ≤ o <;> by_cases h2 : o < hi <;> simp_all
theorem setCell_wr {w : World} {b : Nat} {arr : Array Value} {t : TypeId} {fz : Nat × Nat} (h : w.heap[b]? = some (.cells arr t fz)) (o : Nat) (v : Value) : Wr w (w.setCell ⟨b, o, none⟩ v) b (.cells (arr.setIfInBounds o v) t fz) := by
  refine ⟨rfl, rfl, rfl, by simp [World.setCell], by simp [World.setCell, Array.getElem?_modify, h], fun c hc => ?_⟩
  simp only [World.setCell, Array.getElem?_modify]
  rw [if_neg (fun e => hc e.symm)]
theorem Wr.trans {w w1 w2 : World} {b : Nat} {o o' : Obj} (h : Wr w w1 b o) (k : Wr w1 w2 b o') : Wr w w2 b o' :=
  ⟨k.os.trans h.os, k.tape.trans h.tape, k.output.trans h.output, k.size.trans h.size, k.at_, fun c hc => (k.far c hc).trans (h.far c hc)⟩

theorem SR.cell1 {μ : Mu} {v v' : Value} (h : SR μ v v') : cellV v = true := by
  cases h with
  | plain h => cases v <;> simp_all [plain1, cellV]
  | _ => rfl
theorem SR.cell2 {μ : Mu} {v v' : Value} (h : SR μ v v') : cellV v' = true := by
  cases h with
  | plain h => cases v <;> simp_all [plain1, cellV]
  | _ => rfl

section
variable {P : Program}
theorem run_storeM (w : World) (a : Addr) (v u : Value) {α : Type} (k : Sem α) (hv : cellV v = true) (hc : w.cell? a = some u) (hf : w.frozen? a = false) :
    (Sem.store .plain a v k).run P w = k.run P (w.setCell a v) := by
  cases v <;> simp_all [Sem.run, cellV]

theorem run_storeCells (b : Nat) (t : TypeId) (fz : Nat × Nat) : ∀ (vs : List Value) (o k : Nat) (w : World) (arr : Array Value), w.heap[b]? = some (.cells arr t fz) → o + k + vs.length ≤ arr.size →
    (∀ v ∈ vs, cellV v = true) → (∀ off, off < arr.size → ¬ (fz.1 ≤ off ∧ off < fz.2)) →
    ∃ w' arr', (storeCells ⟨b, o, none⟩ vs k).run P w = .ok () w' ∧ Wr w w' b (.cells arr' t fz) ∧ arr'.size = arr.size ∧
      ∀ j, arr'[j]? = if o + k ≤ j ∧ j < o + k + vs.length then vs[j - (o + k)]? else arr[j]?
  | [], o, k, w, arr, h, _, _, _ => ⟨w, arr, by simp [storeCells, Sem.run_pure], ⟨rfl, rfl, rfl, rfl, h, fun _ _ => rfl⟩, rfl, fun j => by rw [if_neg (by simp)]⟩
  | v :: vs, o, k, w, arr, h, hl, hv, hf => by
    simp only [List.length_cons] at hl
    have hw := setCell_wr h (o + k) v
    obtain ⟨w', arr', hr, hwr, hs, hg⟩ := run_storeCells b t fz vs o (k + 1) (w.setCell ⟨b, o + k, none⟩ v) (arr.setIfInBounds (o + k) v) hw.at_ (by simp; omega)
      (fun x hx => hv x (by simp [hx])) (by simpa using hf)
    refine ⟨w', arr', ?_, hw.trans hwr, by simpa using hs, fun j => ?_⟩
    · have hc : w.cell? ⟨b, o + k, none⟩ = some (arr[o + k]'(by omega)) := by rw [cell_at h]; exact Array.getElem?_eq_getElem (by omega)
      have hfz := frozen_at h (o + k) (hf _ (by omega))
      simp only [storeCells, store, addr_add, Sem.run_bind]
      rw [run_storeM w _ v _ _ (hv v (by simp)) hc hfz]
      simpa [Sem.run_pure] using hr
    · rw [hg j, Array.getElem?_setIfInBounds]
      by_cases h1 : o + k + 1 ≤ j ∧ j < o + k + 1 + vs.length
      · rw [if_pos (by omega), if_pos (by simp only [List.length_cons]; omega)]
        obtain ⟨m, rfl⟩ : ∃ m, j = o + k + 1 + m := ⟨j - (o + k + 1), by omega⟩
        rw [show o + k + 1 + m - (o + (k + 1)) = m from by omega, show o + k + 1 + m - (o + k) = m + 1 from by omega, List.getElem?_cons_succ]
      · rw [if_neg (by omega)]
        by_cases h2 : o + k = j
        · subst h2
          rw [if_pos rfl, if_pos (by omega), if_pos (by simp only [List.length_cons]; omega)]
          simp
        · rw [if_neg h2, if_neg (by simp only [List.length_cons]; omega)]

theorem run_loadCellsFrom (b : Nat) (t : TypeId) (fz : Nat × Nat) (w : World) (arr : Array Value) (h : w.heap[b]? = some (.cells arr t fz)) (o : Nat) : ∀ (n k : Nat) (acc : Array Value), o + k + n ≤ arr.size →
    (loadCellsFrom ⟨b, o, none⟩ k n acc).run P w = .ok (acc ++ ((arr.toList.drop (o + k)).take n).toArray) w
  | 0, k, acc, _ => by simp [loadCellsFrom, Sem.run_pure]
  | n + 1, k, acc, hl => by
    have hc : w.cell? ⟨b, o + k, none⟩ = some (arr[o + k]'(by omega)) := by rw [cell_at h]; exact Array.getElem?_eq_getElem (by omega)
    have ih := run_loadCellsFrom b t fz w arr h o n (k + 1) (acc.push (arr[o + k]'(by omega))) (by omega)
    simp only [loadCellsFrom, load, addr_add, Sem.run_bind, Sem.run, hc, Result.andThen_ok]
    rw [ih]
    congr 1
    have e : arr.toList.drop (o + k) = (arr[o + k]'(by omega)) :: arr.toList.drop (o + k + 1) := by
      rw [List.drop_eq_getElem_cons (by rw [Array.length_toList]; omega)]; simp
    rw [e, List.take_succ_cons]
    simp [Nat.add_assoc]
theorem run_loadCells (b : Nat) (t : TypeId) (fz : Nat × Nat) (w : World) (arr : Array Value) (h : w.heap[b]? = some (.cells arr t fz)) (o n : Nat) (hl : o + n ≤ arr.size) :
    (loadCells ⟨b, o, none⟩ n).run P w = .ok ((arr.toList.drop o).take n).toArray w := by
  have := run_loadCellsFrom (P := P) b t fz w arr h o n 0 #[] (by omega)
  simpa [loadCells] using this
end

/- ## Rep, Out -/
theorem rdRow_get {A : AHeap} {id off n : Nat} {l : List Value} (h : rdRow A id off n = some l) :
    ∃ cs sz ro opn, A.get id = some (.row cs sz ro opn) ∧ l = (cs.drop off).take n ∧ l.length = n := by
  unfold rdRow at h
  split at h
  · rename_i cs sz ro opn hg
    simp only [cond_eq_ite, Nat.beq_eq] at h
    split at h
    · rename_i hl; simp at h; subst h; exact ⟨cs, _, _, _, hg, rfl, hl⟩
    · cases h
  · cases h

theorem wrRow_get {A A' : AHeap} {id off : Nat} {vs : List Value} (h : wrRow A id off vs = some A') :
    ∃ cs sz opn, A.get id = some (.row cs sz false opn) ∧ off + vs.length ≤ cs.length ∧ A' = A.set id (.row (cs.take off ++ (vs ++ cs.drop (off + vs.length))) sz false opn) := by
  unfold wrRow at h
  split at h
  · rename_i cs sz opn hg
    simp only [cond_eq_ite, Nat.ble_eq] at h
    split at h
    · rename_i hl; simp at h; exact ⟨cs, sz, opn, hg, hl, h.symm⟩
    · cases h
  · cases h

/-- what is read: the cells of the model's row -/
theorem RowAt.read {B0 : Nat} {μ : Mu} {w : World} {id : Nat} {cs : List Value} {sz : Nat} {ro opn : Bool} {i : Info} {arr : Array Value} {t : TypeId} {fz : Nat × Nat}
    (h : RowAt B0 μ w id cs sz ro opn i arr t fz) {off n : Nat} (hl : ((cs.drop off).take n).length = n) (hn : n ≠ 0) :
    i.base + off + n ≤ arr.size ∧ All2 (SR μ) ((cs.drop off).take n) ((arr.toList.drop (i.base + off)).take n) := by
  have h1 := h.len
  simp only [List.length_take, List.length_drop] at hl
  refine ⟨by omega, All2.mk (by simp; omega) fun j v hj => ?_⟩
  have hjn : j < n := by
    have := (List.getElem?_eq_some_iff.1 hj).1
    simp only [List.length_take, List.length_drop] at this
    omega
  rw [List.getElem?_take_of_lt hjn, List.getElem?_drop] at hj
  obtain ⟨v', hv, hr⟩ := h.cells _ _ hj
  exact ⟨v', by rw [List.getElem?_take_of_lt hjn, List.getElem?_drop, Array.getElem?_toList, ← hv, Nat.add_assoc], hr⟩

section
variable {B0 : Nat} {μ : Mu} {g : G} {w : World}

/-- a new block -/
theorem out_new (hrep : Rep B0 μ g w) {id : Nat} (hid : μ id = none) {cs : List Value} {sz : Nat} {opn : Bool} {arr : Array Value} {t : TypeId} {fz : Nat × Nat}
    (hB : B0 ≤ w.heap.size) (hlen : cs.length ≤ arr.size) (hcells : ∀ (j : Nat) v, cs[j]? = some v → ∃ v', arr[j]? = some v' ∧ SR μ v v')
    (hfz : ∀ off, off < arr.size → ¬ (fz.1 ≤ off ∧ off < fz.2))
    {g' : G} (hg' : ∀ j, g' j = if id = j then some (.row cs sz false opn) else g j) {w' : World} (hw : w'.heap = w.heap.push (.cells arr t fz)) (hos : w'.os = w.os) (htape : w'.tape = w.tape) (hout : w'.output = w.output) :
    ∃ μ', Out B0 μ g w id (id + 1) μ' g' w' ∧ μ' id = some ⟨w.heap.size, 0, sz, arr.size, opn⟩ := by
  let i0 : Info := ⟨w.heap.size, 0, sz, arr.size, opn⟩
  let μ' : Mu := fun j => if id = j then some i0 else μ j
  have hle : μ.le μ' := fun j i h => by
    show (if id = j then some i0 else μ j) = some i
    rw [if_neg (fun e => by subst e; rw [hid] at h; cases h)]; exact h
  have hold : ∀ b, b < w.heap.size → w'.heap[b]? = w.heap[b]? := fun b hb => by rw [hw, Array.getElem?_push, if_neg (by omega)]
  have hlt : ∀ b o, w.heap[b]? = some o → b < w.heap.size := fun b o h => (Array.getElem?_eq_some_iff.1 h).1
  have hrow : ∀ j cs2 sz2 ro2 opn2, id ≠ j → g' j = some (.row cs2 sz2 ro2 opn2) → ∃ i arr t fz, RowAt B0 μ' w' j cs2 sz2 ro2 opn2 i arr t fz ∧ i.blk < w.heap.size ∧ μ j = some i := by
    intro j cs2 sz2 ro2 opn2 hne hj
    rw [hg', if_neg hne] at hj
    obtain ⟨i, arr2, t2, fz2, hr⟩ := hrep.row _ _ _ _ _ hj
    exact ⟨i, arr2, t2, fz2, ⟨hle _ _ hr.mu, hr.opn_, hr.sz_, by rw [hold _ (hlt _ _ hr.heap)]; exact hr.heap, hr.asz, hr.len,
      fun k v hk => by obtain ⟨v', h1, h2⟩ := hr.cells k v hk; exact ⟨v', h1, h2.mono hle⟩, hr.own, hr.old⟩, hlt _ _ hr.heap, hr.mu⟩
  have hmap : ∀ j kk es clock, g' j = some (.map kk es clock) → ∃ i es', MapAt B0 μ' w' j kk es clock i es' ∧ i.blk < w.heap.size ∧ id ≠ j ∧ μ j = some i := by
    intro j kk es clock hj
    have hne : id ≠ j := by rintro rfl; rw [hg', if_pos rfl] at hj; cases hj
    rw [hg', if_neg hne] at hj
    obtain ⟨i, es', hr⟩ := hrep.map _ _ _ _ hj
    exact ⟨i, es', ⟨hle _ _ hr.mu, hr.own, by rw [hold _ (hlt _ _ hr.heap)]; exact hr.heap, hr.ents.mono fun a b h => ⟨h.1, h.2.1, h.2.2.1, h.2.2.2.mono hle⟩⟩, hlt _ _ hr.heap, hne, hr.mu⟩
  have hblk : ∀ j i, id ≠ j → aliveO (g' j) → μ' j = some i → i.blk < w.heap.size := by
    intro j i hne ha hm
    cases hgj : g' j with
    | none => rw [hgj] at ha; exact ha.elim
    | some o =>
      cases o with
      | row cs2 sz2 ro2 opn2 =>
        obtain ⟨i2, _, _, _, hr, hlt2, _⟩ := hrow j _ _ _ _ hne hgj
        have := hr.mu; rw [hm] at this; cases this; exact hlt2
      | map kk es clock =>
        obtain ⟨i2, _, hr, hlt2, _, _⟩ := hmap j _ _ _ hgj
        have := hr.mu; rw [hm] at this; cases this; exact hlt2
      | dead => rw [hgj] at ha; exact ha.elim
  have hnew : μ' id = some i0 := by show (if id = id then some i0 else μ id) = _; rw [if_pos rfl]
  have hother : ∀ j, id ≠ j → μ' j = μ j := fun j hne => by show (if id = j then some i0 else μ j) = _; rw [if_neg hne]
  refine ⟨μ', ⟨hle, ?_, ⟨?_, ?_, ?_⟩, hos, htape, hout, by rw [hw]; simp, fun b hb _ => hold b hb, ?_⟩, hnew⟩
  · intro j i h
    by_cases e : id = j
    · subst e; exact .inr ⟨Nat.le_refl _, by omega⟩
    · rw [hother j e] at h; exact .inl h
  · intro j cs2 sz2 ro2 opn2 hj
    by_cases e : id = j
    · subst e
      rw [hg', if_pos rfl] at hj
      cases hj
      refine ⟨i0, arr, t, fz, ⟨hnew, rfl, fun _ => rfl, ?_, rfl, by simpa [i0] using hlen, fun k v hk => ?_, fun _ => ⟨hB, hfz⟩, (fun h => by cases h)⟩⟩
      · rw [hw]; simp [i0]
      · obtain ⟨v', h1, h2⟩ := hcells k v hk
        exact ⟨v', by simpa [i0] using h1, h2.mono hle⟩
    · obtain ⟨i, a, t, f, h, _, _⟩ := hrow j _ _ _ _ e hj
      exact ⟨i, a, t, f, h⟩
  · intro j kk es clock hj
    obtain ⟨i, es', h, _, _, _⟩ := hmap j _ _ _ hj
    exact ⟨i, es', h⟩
  · intro j1 j2 i1 i2 hne hw1 ha2 hm1 hm2
    by_cases e1 : id = j1
    · subst e1
      rw [hnew] at hm1; cases hm1
      have := hblk j2 i2 hne ha2 hm2
      simp only [i0]; omega
    · by_cases e2 : id = j2
      · subst e2
        rw [hnew] at hm2; cases hm2
        have ha1 : aliveO (g' j1) := by
          cases hgj : g' j1 with
          | none => rw [hgj] at hw1; exact hw1.elim
          | some o => cases o with
            | dead => rw [hgj] at hw1; exact hw1.elim
            | _ => trivial
        have := hblk j1 i1 e1 ha1 hm1
        simp only [i0]; omega
      · rw [hother _ e1] at hm1
        rw [hother _ e2] at hm2
        rw [hg', if_neg e1] at hw1
        rw [hg', if_neg e2] at ha2
        exact hrep.sep j1 j2 i1 i2 hne hw1 ha2 hm1 hm2
  · intro j i hwj hm
    by_cases e : id = j
    · subst e; rw [hnew] at hm; cases hm; exact .inl (Nat.le_refl _)
    · rw [hother _ e] at hm
      rw [hg', if_neg e] at hwj
      exact .inr ⟨j, i, hwj, hm, rfl⟩

theorem wr_alive {o : Option AObj} (h : wrO o) : aliveO o := by
  cases o with
  | none => exact h.elim
  | some o => cases o with
    | dead => exact h.elim
    | _ => trivial

theorem lt_of_heap {w : World} {b : Nat} {o : Obj} (h : w.heap[b]? = some o) : b < w.heap.size := (Array.getElem?_eq_some_iff.1 h).1

/-- what stands elsewhere stays -/
theorem Rep.far_row (hrep : Rep B0 μ g w) {μ' : Mu} (hle : μ.le μ') {id : Nat} {i : Info} (hid : wrO (g id)) (hm : μ id = some i) {w' : World} (hfar : ∀ c, c ≠ i.blk → c < w.heap.size → w'.heap[c]? = w.heap[c]?)
    {j : Nat} (hne : id ≠ j) {cs : List Value} {sz : Nat} {ro opn : Bool} (hj : g j = some (.row cs sz ro opn)) : ∃ i arr t fz, RowAt B0 μ' w' j cs sz ro opn i arr t fz := by
  obtain ⟨i2, arr, t, fz, hr⟩ := hrep.row _ _ _ _ _ hj
  have hb := hrep.sep id j i i2 hne hid (by rw [hj]; trivial) hm hr.mu
  exact ⟨i2, arr, t, fz, ⟨hle _ _ hr.mu, hr.opn_, hr.sz_, by rw [hfar _ (fun e => hb e.symm) (lt_of_heap hr.heap)]; exact hr.heap, hr.asz, hr.len,
    fun k v hk => by obtain ⟨v', h1, h2⟩ := hr.cells k v hk; exact ⟨v', h1, h2.mono hle⟩, hr.own, hr.old⟩⟩
theorem Rep.far_map (hrep : Rep B0 μ g w) {μ' : Mu} (hle : μ.le μ') {id : Nat} {i : Info} (hid : wrO (g id)) (hm : μ id = some i) {w' : World} (hfar : ∀ c, c ≠ i.blk → c < w.heap.size → w'.heap[c]? = w.heap[c]?)
    {j : Nat} (hne : id ≠ j) {kk : KK} {es : List MapEntry} {clock : Nat} (hj : g j = some (.map kk es clock)) : ∃ i es', MapAt B0 μ' w' j kk es clock i es' := by
  obtain ⟨i2, es', hr⟩ := hrep.map _ _ _ _ hj
  have hb := hrep.sep id j i i2 hne hid (by rw [hj]; trivial) hm hr.mu
  exact ⟨i2, es', ⟨hle _ _ hr.mu, hr.own, by rw [hfar _ (fun e => hb e.symm) (lt_of_heap hr.heap)]; exact hr.heap, hr.ents.mono fun a b h => ⟨h.1, h.2.1, h.2.2.1, h.2.2.2.mono hle⟩⟩⟩

/-- an object that may be written is another one now -/
theorem out_set (hrep : Rep B0 μ g w) (lo hi : Nat) {id : Nat} {i : Info} (hid : wrO (g id)) (hm : μ id = some i) {x : AObj} {g' : G} (hg' : ∀ j, g' j = if id = j then some x else g j) {w' : World} {o : Obj} (hw : Wr w w' i.blk o)
    (hrow : ∀ cs sz ro opn, x = .row cs sz ro opn → ∃ i arr t fz, RowAt B0 μ w' id cs sz ro opn i arr t fz)
    (hmap : ∀ kk es clock, x = .map kk es clock → ∃ i es', MapAt B0 μ w' id kk es clock i es') : Out B0 μ g w lo hi μ g' w' := by
  refine ⟨Mu.le_refl _, fun _ _ h => .inl h, ⟨?_, ?_, ?_⟩, hw.os, hw.tape, hw.output, by rw [hw.size]; exact Nat.le_refl _, ?_, ?_⟩
  · intro j cs sz ro opn hj
    by_cases e : id = j
    · subst e; rw [hg', if_pos rfl] at hj; cases hj; exact hrow _ _ _ _ rfl
    · rw [hg', if_neg e] at hj; exact hrep.far_row (Mu.le_refl _) hid hm (fun c hc _ => hw.far c hc) e hj
  · intro j kk es clock hj
    by_cases e : id = j
    · subst e; rw [hg', if_pos rfl] at hj; cases hj; exact hmap _ _ _ rfl
    · rw [hg', if_neg e] at hj; exact hrep.far_map (Mu.le_refl _) hid hm (fun c hc _ => hw.far c hc) e hj
  · intro j1 j2 i1 i2 hne hw1 ha2 hm1 hm2
    by_cases e1 : id = j1
    · subst e1
      have e2 : id ≠ j2 := hne
      rw [hg', if_neg e2] at ha2
      exact hrep.sep _ _ _ _ hne hid ha2 hm1 hm2
    · rw [hg', if_neg e1] at hw1
      by_cases e2 : id = j2
      · subst e2; exact hrep.sep _ _ _ _ hne hw1 (wr_alive hid) hm1 hm2
      · rw [hg', if_neg e2] at ha2; exact hrep.sep _ _ _ _ hne hw1 ha2 hm1 hm2
  · intro b _ hne; exact hw.far b (fun e => hne id i hid hm e.symm)
  · intro j i2 hwj hmj
    by_cases e : id = j
    · subst e; exact .inr ⟨id, i2, hid, hmj, rfl⟩
    · rw [hg', if_neg e] at hwj; exact .inr ⟨j, i2, hwj, hmj, rfl⟩

/-- an open row goes on under a new number, in its own block -/
theorem out_rename (hrep : Rep B0 μ g w) {id id' : Nat} {i : Info} (hid : wrO (g id)) (hm : μ id = some i) (hid' : μ id' = none) {x : AObj} {g' : G} (hg' : ∀ j, g' j = if id' = j then some x else if id = j then some .dead else g j)
    {i' : Info} (hb : i'.blk = i.blk) {w' : World} {o : Obj} (hw : Wr w w' i.blk o)
    (hrow : ∀ μ' : Mu, μ.le μ' → μ' id' = some i' → ∃ cs sz opn arr t fz, x = .row cs sz false opn ∧ RowAt B0 μ' w' id' cs sz false opn i' arr t fz) :
    ∃ μ', Out B0 μ g w id' (id' + 1) μ' g' w' ∧ μ' id' = some i' := by
  let μ' : Mu := fun j => if id' = j then some i' else μ j
  have hnew : μ' id' = some i' := by show (if id' = id' then some i' else μ id') = _; rw [if_pos rfl]
  have hother : ∀ j, id' ≠ j → μ' j = μ j := fun j hne => by show (if id' = j then some i' else μ j) = _; rw [if_neg hne]
  have hle : μ.le μ' := fun j i h => by
    have hne : id' ≠ j := by rintro rfl; rw [hid'] at h; cases h
    rw [hother _ hne]; exact h
  have hne0 : id' ≠ id := by rintro rfl; rw [hid'] at hm; cases hm
  obtain ⟨cs, sz, opn, arr, t, fz, rfl, hx⟩ := hrow μ' hle hnew
  refine ⟨μ', ⟨hle, ?_, ⟨?_, ?_, ?_⟩, hw.os, hw.tape, hw.output, by rw [hw.size]; exact Nat.le_refl _, ?_, ?_⟩, hnew⟩
  · intro j i h
    by_cases e : id' = j
    · subst e; exact .inr ⟨Nat.le_refl _, by omega⟩
    · rw [hother _ e] at h; exact .inl h
  · intro j cs sz ro opn hj
    rw [hg'] at hj
    by_cases e : id' = j
    · subst e; rw [if_pos rfl] at hj; cases hj; exact ⟨i', arr, t, fz, hx⟩
    · rw [if_neg e] at hj
      by_cases e2 : id = j
      · rw [if_pos e2] at hj; cases hj
      · rw [if_neg e2] at hj; exact hrep.far_row hle hid hm (fun c hc _ => hw.far c hc) e2 hj
  · intro j kk es clock hj
    rw [hg'] at hj
    by_cases e : id' = j
    · rw [if_pos e] at hj; cases hj
    · rw [if_neg e] at hj
      by_cases e2 : id = j
      · rw [if_pos e2] at hj; cases hj
      · rw [if_neg e2] at hj; exact hrep.far_map hle hid hm (fun c hc _ => hw.far c hc) e2 hj
  · intro j1 j2 i1 i2 hne hw1 ha2 hm1 hm2
    rw [hg'] at hw1 ha2
    by_cases e1 : id' = j1
    · subst e1
      rw [hnew] at hm1; cases hm1
      rw [if_neg hne] at ha2
      by_cases e2 : id = j2
      · rw [if_pos e2] at ha2; exact ha2.elim
      · rw [if_neg e2] at ha2
        rw [hother _ hne] at hm2
        rw [hb]; exact hrep.sep _ _ _ _ e2 hid ha2 hm hm2
    · rw [if_neg e1] at hw1
      by_cases e1' : id = j1
      · rw [if_pos e1'] at hw1; exact hw1.elim
      · rw [if_neg e1'] at hw1
        rw [hother _ e1] at hm1
        by_cases e2 : id' = j2
        · subst e2
          rw [hnew] at hm2; cases hm2
          rw [hb]; exact hrep.sep _ _ _ _ (fun e => e1' e.symm) hw1 (wr_alive hid) hm1 hm
        · rw [if_neg e2] at ha2
          by_cases e2' : id = j2
          · rw [if_pos e2'] at ha2; exact ha2.elim
          · rw [if_neg e2'] at ha2
            rw [hother _ e2] at hm2
            exact hrep.sep _ _ _ _ hne hw1 ha2 hm1 hm2
  · intro b _ hne; exact hw.far b (fun e => hne id i hid hm e.symm)
  · intro j i2 hwj hmj
    rw [hg'] at hwj
    by_cases e : id' = j
    · subst e; rw [hnew] at hmj; cases hmj; exact .inr ⟨id, i, hid, hm, hb.symm⟩
    · rw [if_neg e] at hwj
      by_cases e2 : id = j
      · rw [if_pos e2] at hwj; exact hwj.elim
      · rw [if_neg e2] at hwj; rw [hother _ e] at hmj; exact .inr ⟨j, i2, hwj, hmj, rfl⟩

/-- a new map -/
theorem out_newmap (hrep : Rep B0 μ g w) {id : Nat} (hid : μ id = none) {kk : KK} (hB : B0 ≤ w.heap.size)
    {g' : G} (hg' : ∀ j, g' j = if id = j then some (.map kk [] 0) else g j) {w' : World} (hw : w'.heap = w.heap.push (.map #[] 0)) (hos : w'.os = w.os) (htape : w'.tape = w.tape) (hout : w'.output = w.output) :
    ∃ μ' i, Out B0 μ g w id (id + 1) μ' g' w' ∧ μ' id = some i ∧ i.blk = w.heap.size := by
  let i0 : Info := ⟨w.heap.size, 0, 0, 0, false⟩
  let μ' : Mu := fun j => if id = j then some i0 else μ j
  have hnew : μ' id = some i0 := by show (if id = id then some i0 else μ id) = _; rw [if_pos rfl]
  have hother : ∀ j, id ≠ j → μ' j = μ j := fun j hne => by show (if id = j then some i0 else μ j) = _; rw [if_neg hne]
  have hle : μ.le μ' := fun j i h => by
    have hne : id ≠ j := by rintro rfl; rw [hid] at h; cases h
    rw [hother _ hne]; exact h
  have hold : ∀ b, b < w.heap.size → w'.heap[b]? = w.heap[b]? := fun b hb => by rw [hw, Array.getElem?_push, if_neg (by omega)]
  have hrow : ∀ j cs2 sz2 ro2 opn2, g' j = some (.row cs2 sz2 ro2 opn2) → ∃ i arr t fz, RowAt B0 μ' w' j cs2 sz2 ro2 opn2 i arr t fz ∧ i.blk < w.heap.size ∧ id ≠ j ∧ μ j = some i := by
    intro j cs2 sz2 ro2 opn2 hj
    have hne : id ≠ j := by rintro rfl; rw [hg', if_pos rfl] at hj; cases hj
    rw [hg', if_neg hne] at hj
    obtain ⟨i, arr2, t2, fz2, hr⟩ := hrep.row _ _ _ _ _ hj
    exact ⟨i, arr2, t2, fz2, ⟨hle _ _ hr.mu, hr.opn_, hr.sz_, by rw [hold _ (lt_of_heap hr.heap)]; exact hr.heap, hr.asz, hr.len,
      fun k v hk => by obtain ⟨v', h1, h2⟩ := hr.cells k v hk; exact ⟨v', h1, h2.mono hle⟩, hr.own, hr.old⟩, lt_of_heap hr.heap, hne, hr.mu⟩
  have hmap : ∀ j kk es clock, id ≠ j → g' j = some (.map kk es clock) → ∃ i es', MapAt B0 μ' w' j kk es clock i es' ∧ i.blk < w.heap.size ∧ μ j = some i := by
    intro j kk es clock hne hj
    rw [hg', if_neg hne] at hj
    obtain ⟨i, es', hr⟩ := hrep.map _ _ _ _ hj
    exact ⟨i, es', ⟨hle _ _ hr.mu, hr.own, by rw [hold _ (lt_of_heap hr.heap)]; exact hr.heap, hr.ents.mono fun a b h => ⟨h.1, h.2.1, h.2.2.1, h.2.2.2.mono hle⟩⟩, lt_of_heap hr.heap, hr.mu⟩
  have hblk : ∀ j i, id ≠ j → aliveO (g' j) → μ' j = some i → i.blk < w.heap.size := by
    intro j i hne ha hm
    cases hgj : g' j with
    | none => rw [hgj] at ha; exact ha.elim
    | some o =>
      cases o with
      | row cs2 sz2 ro2 opn2 =>
        obtain ⟨i2, _, _, _, hr, hlt2, _⟩ := hrow j _ _ _ _ hgj
        have := hr.mu; rw [hm] at this; cases this; exact hlt2
      | map kk es clock =>
        obtain ⟨i2, _, hr, hlt2, _⟩ := hmap j _ _ _ hne hgj
        have := hr.mu; rw [hm] at this; cases this; exact hlt2
      | dead => rw [hgj] at ha; exact ha.elim
  refine ⟨μ', i0, ⟨hle, ?_, ⟨?_, ?_, ?_⟩, hos, htape, hout, by rw [hw]; simp, fun b hb _ => hold b hb, ?_⟩, hnew, rfl⟩
  · intro j i h
    by_cases e : id = j
    · subst e; exact .inr ⟨Nat.le_refl _, by omega⟩
    · rw [hother j e] at h; exact .inl h
  · intro j cs2 sz2 ro2 opn2 hj
    obtain ⟨i, a, t, f, h, _⟩ := hrow j _ _ _ _ hj
    exact ⟨i, a, t, f, h⟩
  · intro j kk2 es clock hj
    by_cases e : id = j
    · subst e
      rw [hg', if_pos rfl] at hj
      cases hj
      exact ⟨i0, #[], ⟨hnew, hB, by rw [hw]; simp [i0], .nil⟩⟩
    · obtain ⟨i, es', h, _, _⟩ := hmap j _ _ _ e hj
      exact ⟨i, es', h⟩
  · intro j1 j2 i1 i2 hne hw1 ha2 hm1 hm2
    by_cases e1 : id = j1
    · subst e1
      rw [hnew] at hm1; cases hm1
      have := hblk j2 i2 hne ha2 hm2
      simp only [i0]; omega
    · by_cases e2 : id = j2
      · subst e2
        rw [hnew] at hm2; cases hm2
        have := hblk j1 i1 e1 (wr_alive hw1) hm1
        simp only [i0]; omega
      · rw [hother _ e1] at hm1
        rw [hother _ e2] at hm2
        rw [hg', if_neg e1] at hw1
        rw [hg', if_neg e2] at ha2
        exact hrep.sep j1 j2 i1 i2 hne hw1 ha2 hm1 hm2
  · intro j i hwj hm
    by_cases e : id = j
    · subst e; rw [hnew] at hm; cases hm; exact .inl (Nat.le_refl _)
    · rw [hother _ e] at hm
      rw [hg', if_neg e] at hwj
      exact .inr ⟨j, i, hwj, hm, rfl⟩
end
end Go.Abs
