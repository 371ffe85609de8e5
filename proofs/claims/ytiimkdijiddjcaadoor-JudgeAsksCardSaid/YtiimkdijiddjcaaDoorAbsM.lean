/- The operations of the abstract machine are the model's: append, copy, clear. -/
import Derived.Test.YtiimkdijiddjcaaDoorAbsL
namespace Go.Abs
open Go

section
variable {P : Program} {B0 : Nat} {μ : Mu} {A A' : AHeap} {w : World} {fr : Fr} {a : Act}

theorem cells2 {l l' : List Value} (h : All2 (SR μ) l l') : ∀ v ∈ l', cellV v = true := by
  induction h with
  | nil => intro v h; cases h
  | cons h _ ih => intro v hx; rcases List.mem_cons.1 hx with rfl | hx; exact h.cell2; exact ih v hx
theorem src_run (hrep : Rep B0 μ A.get w) {n sz m : Nat} {x x' : Value} {l : List Value} (hm : srcLen x = some m) (hn : n ≤ m) (h : srcCells A n sz x = some l) (hx : VR μ x x') :
    ∃ l' : List Value, (∀ w1 : World, w1.heap = w.heap → (Builtin.firstCells sz n x').run P w1 = .ok l'.toArray w1) ∧ All2 (SR μ) l l' := by
  unfold srcCells at h
  split at h
  · rename_i id off len cap
    simp [srcLen] at hm; subst hm
    obtain ⟨b, off', cap', l', rfl, hrun, hr⟩ := srcRow_rel hrep h hx hn
    exact ⟨l', fun w1 hw1 => by simpa [Builtin.firstCells] using hrun P w1 hw1, hr⟩
  · cases h
    have e := hx.slice0; subst e
    exact ⟨[], fun _ _ => by simp [Builtin.firstCells], .nil⟩
  · rename_i s
    cases h
    have e := hx.string; subst e
    refine ⟨((s.extract 0 n).data.toList).map fun b => .int .u8 (b.toNat : Int), fun _ _ => ?_, All2.diag fun v hv => ?_⟩
    · simp only [Builtin.firstCells, Sem.run_pure]
      congr 1
      apply Array.ext'
      simp
    · obtain ⟨b, _, rfl⟩ := List.mem_map.1 hv
      exact .plain rfl
  · cases h
theorem srcLen_run {x x' : Value} {m : Nat} (hm : srcLen x = some m) (hx : VR μ x x') : (Builtin.lenOf x').run P w = .ok m w := by
  unfold srcLen at hm
  split at hm
  · rename_i ao n c
    cases hm
    cases ao with
    | none => have e := hx.slice0; subst e; rfl
    | some ad => obtain ⟨id, off, sp⟩ := ad; obtain ⟨i, off', cap', _, _, rfl, _⟩ := hx.slice; rfl
  · cases hm; have e := hx.string; subst e; rfl
  · cases hm
theorem src_none {n sz m : Nat} {x x' : Value} (hm : srcLen x = some m) (h0 : n = 0) (hx : VR μ x x') : ∃ l' : List Value, (Builtin.firstCells sz n x').run P w = .ok l'.toArray w ∧ l' = [] := by
  subst h0
  unfold srcLen at hm
  split at hm
  · rename_i ao n c
    refine ⟨[], ?_, rfl⟩
    cases ao with
    | none => have e := hx.slice0; subst e; rfl
    | some ad => obtain ⟨id, off, sp⟩ := ad; obtain ⟨i, off', cap', _, _, rfl, _⟩ := hx.slice; simp [Builtin.firstCells, loadCells, loadCellsFrom]
  · have e := hx.string; subst e
    rename_i s
    refine ⟨[], ?_, rfl⟩
    simp only [Builtin.firstCells, Sem.run_pure]
    congr 1
    apply Array.ext'
    simp
  · cases hm

structure AppT (P : Program) (ts : Array TypeId) (t u e : TypeId) (i : TypeInfo) (z : Value) (sz : Nat) : Prop where
  t0 : ts[0]? = some t
  t1 : ts[1]? = some u
  ht : P.underlying t = some (.slice e)
  hu : (∃ e', P.underlying u = some (.slice e')) ∨ P.underlying u = some .string
  hi : P.info? e = some i
  hz : i.zero = some z
  hsz : i.size = sz
  hzl : z.cells.size = sz

theorem AppT.zeros {ts : Array TypeId} {t u e : TypeId} {i : TypeInfo} {z : Value} {sz : Nat} (h : AppT P ts t u e i z sz) : ∃ d, P.underlying u = some d ∧ ∀ k, d ≠ .int k := by
  rcases h.hu with ⟨e', hu⟩ | hu
  · exact ⟨_, hu, by simp⟩
  · exact ⟨_, hu, by simp⟩

/-- there is room -/
theorem run_append_in {ts : Array TypeId} {t u e ty : TypeId} {i : TypeInfo} {z : Value} {sz : Nat} (hT : AppT P ts t u e i z sz) {base : Option Addr} {len cap n : Nat} {x' : Value} {l' : List Value} {w' : World}
    (hl : (Builtin.lenOf x').run P w = .ok n w) (hroom : len + n ≤ cap) (hsrc : (Builtin.firstCells sz n x').run P w = .ok l'.toArray w)
    (hst : (match base with | some a => storeCells (a.add (len * sz)) l' | none => pure () : Sem Unit).run P w = .ok () w') :
    (Builtin.append_ ts ty #[.slice base len cap, x']).run P w = .ok (.slice base (len + n) cap) w' := by
  have hsize := run_sizeOf (P := P) (w := w) (t := e) (n := sz) (by simp [szOf, hT.hi, hT.hsz])
  rcases hT.hu with ⟨e', hu⟩ | hu
  all_goals
    unfold Builtin.append_
    simp only [hT.t0, hT.t1, List.getElem?_toArray, List.getElem?_cons_zero, List.getElem?_cons_succ, Sem.run_bind, run_underlying hT.ht, Result.andThen_ok, hsize]
    simp only [run_underlying hu, Result.andThen_ok, Sem.run_pure]
    simp only [Bool.false_eq_true, if_false, hl, Result.andThen_ok, Bool.not_false, if_true, if_pos hroom, Sem.run_bind, hsrc]
    cases base with
    | none => simp only [Sem.run_pure] at hst ⊢; cases hst; simp
    | some ad => simp only at hst ⊢; simp [hst]

/-- there is none -/
theorem run_append_new {ts : Array TypeId} {t u e ty : TypeId} {i : TypeInfo} {z : Value} {sz : Nat} (hT : AppT P ts t u e i z sz) {base : Option Addr} {len cap n : Nat} {x' : Value} {o' l' : List Value}
    (hl : (Builtin.lenOf x').run P w = .ok n w) (hroom : ¬ (len + n ≤ cap)) (hb : (len + n) * i.bytes ≤ 140737488355328) (hn : len + n ≤ 140737488355328)
    (hold : ∀ w1 : World, w1.heap = w.heap → (Builtin.firstCells sz len (.slice base len cap)).run P w1 = .ok o'.toArray w1) (hsrc : ∀ w1 : World, w1.heap = w.heap → (Builtin.firstCells sz n x').run P w1 = .ok l'.toArray w1) :
    ∃ newCap w', len + n ≤ newCap ∧ (Builtin.append_ ts ty #[.slice base len cap, x']).run P w = .ok (.slice (some ⟨w.heap.size, 0, none⟩) (len + n) newCap) w' ∧ w'.os = w.os ∧ w'.tape = w.tape ∧ w'.output = w.output ∧
      w'.heap = w.heap.push (.cells (o'.toArray ++ l'.toArray ++ Builtin.zeroCells z.cells (newCap - (len + n))) e) := by
  have hsize : ∀ w1 : World, (sizeOf e).run P w1 = .ok sz w1 := fun w1 => run_sizeOf (P := P) (w := w1) (t := e) (n := sz) (by simp [szOf, hT.hi, hT.hsz])
  have hfit : ¬ (Builtin.nextslicecap (len + n) cap * i.bytes > 281474976710656) := by
    have := growslice_fits (need := len + n) (old := cap) (bytes := i.bytes) (by omega) hb
    omega
  let newCap := (Question.appendCap (len + n) cap e).cut (w.tape w.drawn (.appendCap (len + n) cap e))
  let w1 : World := { w with drawn := w.drawn + 1 }
  have hge : len + n ≤ newCap := by show len + n ≤ len + n + _; omega
  refine ⟨newCap, { w1 with heap := w1.heap.push (.cells (o'.toArray ++ l'.toArray ++ Builtin.zeroCells z.cells (newCap - (len + n))) e) }, hge, ?_, rfl, rfl, rfl, rfl⟩
  have hch : (choose (.appendCap (len + n) cap e)).run P w = .ok newCap w1 := rfl
  have hmax : ¬ ((((len + n : Nat)) : Int) > 9223372036854775807 ∧ i.bytes = 0) := by omega
  rcases hT.hu with ⟨e', hu⟩ | hu
  all_goals
    unfold Builtin.append_
    simp only [hT.t0, hT.t1, List.getElem?_toArray, List.getElem?_cons_zero, List.getElem?_cons_succ, Sem.run_bind, run_underlying hT.ht, Result.andThen_ok, hsize]
    simp only [run_underlying hu, Result.andThen_ok, Sem.run_pure]
    simp only [Bool.false_eq_true, if_false, hl, Result.andThen_ok, Bool.not_false, if_true, if_neg hroom, Sem.run_bind, run_typeInfo hT.hi, IntKind.max_i64, false_or]
    rw [if_neg hmax]
    simp only [Sem.run_bind, run_typeInfo hT.hi, Result.andThen_ok]
    rw [if_neg (show ¬ (Builtin.nextslicecap (len + n) cap * i.bytes > 2 ^ 48) from hfit)]
    simp only [Sem.run_bind, hch, Result.andThen_ok, run_typeInfo hT.hi, run_askRoom, hold w1 rfl, hsrc w1 rfl, run_zeroValue hT.hi hT.hz, newRow, run_newObj, Sem.run_pure]
    rfl

theorem zeroCells_size (z : Array Value) (n : Nat) : (Builtin.zeroCells z n).size = n * z.size := by simp [Builtin.zeroCells]

theorem snd_append (hrep : Rep B0 μ A.get w) (hB : B0 ≤ w.heap.size) (hgap : ∀ id, A.next ≤ id → id < A'.next → μ id = none) {ts : Array TypeId} {t u e ty : TypeId} {i : TypeInfo} {z : Value} {sz : Nat} (hT : AppT P ts t u e i z sz)
    {s x v s' x' : Value} (h : aappend sz i.bytes s x A = some (v, A')) (hs : VR μ s s') (hx : VR μ x x') : Snd P B0 μ A w (Builtin.append_ ts ty #[s', x']) v A' := by
  unfold aappend at h
  split at h
  · rename_i ao len cap n hsl
    have hlr := srcLen_run (P := P) (w := w) hsl hx
    -- the model's slice
    have hs2 : ∃ ao' cap', s' = .slice ao' len cap' ∧ Nat.mod cap capInf ≤ cap' ∧ (cap < capInf → cap' = cap) ∧ (ao = none → ao' = none ∧ cap' = cap) ∧
        ∀ id off sp, ao = some ⟨id, off, sp⟩ → ∃ i off', μ id = some i ∧ ao' = some ⟨i.blk, off', none⟩ ∧ ((cap < capInf ∧ (off' = i.base + off ∨ (cap = 0 ∧ len = 0))) ∨
          (i.opn = true ∧ ∃ c0, cap = capInf * (i.sz + 1) + c0 ∧ len ≤ c0 ∧ c0 < capInf ∧ c0 ≤ cap' ∧ (cap' = 0 ∨ (off' = i.base + off ∧ off' + cap' * i.sz ≤ i.asz)))) := by
      cases ao with
      | none =>
        have e := hs.slice0; subst e
        exact ⟨none, cap, rfl, Nat.mod_le _ _, fun _ => rfl, fun _ => ⟨rfl, rfl⟩, (fun _ _ _ h => by cases h)⟩
      | some ad =>
        obtain ⟨id, off, sp⟩ := ad
        obtain ⟨i, off', cap', hi, hsp, rfl, hh⟩ := hs.slice
        refine ⟨_, cap', rfl, ?_, ?_, (fun h => by cases h), fun id2 off2 sp2 h => ?_⟩
        · rcases hh with ⟨h1, rfl, _⟩ | ⟨c0, rfl, _, _, hc, hc', _⟩
          · exact Nat.mod_le _ _
          · rw [(open_cap hc).1]; exact hc'
        · intro hlt
          rcases hh with ⟨h1, rfl, _⟩ | ⟨c0, rfl, _, _, hc, hc', _⟩
          · rfl
          · exact absurd hlt (open_cap hc).2.2
        · cases h
          refine ⟨i, off', hi, rfl, ?_⟩
          rcases hh with ⟨h1, rfl, h2⟩ | ⟨c0, hc1, ho, hl, hc, hc', hd⟩
          · exact .inl ⟨h1, h2⟩
          · exact .inr ⟨ho, c0, hc1, hl, hc, hc', hd⟩
    obtain ⟨ao', cap', rfl, hcap, hex, hnil, hsome⟩ := hs2
    split at h
    · rename_i hroom
      split at h
      · rename_i h0
        cases h
        obtain ⟨l', hsrc, rfl⟩ := src_none (P := P) (w := w) (sz := sz) hsl h0 hx
        have hrun := run_append_in (ty := ty) hT (base := ao') (cap := cap') hlr (Nat.le_trans hroom hcap) hsrc (w' := w) (by cases ao' <;> simp [storeCells])
        rw [h0, Nat.add_zero] at hrun
        exact Snd.still hrep ⟨_, hrun, hs⟩
      · rename_i h0
        split at h
        · rename_i id off
          simp only [Option.bind_eq_some_iff, Option.map_eq_some_iff] at h
          obtain ⟨new, hnew, A1, hw, he⟩ := h
          cases he
          obtain ⟨l', hsrc, hr⟩ := src_run (P := P) hrep hsl (Nat.le_refl _) hnew hx
          obtain ⟨inf, off', hi, rfl, hh⟩ := hsome _ _ _ rfl
          have ho : off' = inf.base + off := by
            rcases hh with ⟨h1, h2 | ⟨h2, h3⟩⟩ | ⟨_, c0, rfl, _, hc, hc', h2 | ⟨h2, _⟩⟩
            · exact h2
            · subst h2; simp [Nat.mod] at hroom; omega
            · rw [(open_cap hc).1] at hroom; omega
            · exact h2
          subst ho
          obtain ⟨w', hst, hout⟩ := snd_write (P := P) hrep A.next A'.next hw hi hr
          have hrun := run_append_in (ty := ty) hT (base := some ⟨inf.blk, inf.base + off, none⟩) (cap := cap') hlr (Nat.le_trans hroom hcap) (hsrc w rfl) (w' := w') (by simp only [addr_add, Nat.add_assoc] at hst ⊢; exact hst)
          refine ⟨μ, _, w', hrun, hout, ?_⟩
          rcases hh with ⟨h1, _⟩ | ⟨ho, c0, rfl, hl, hc, hc', hd⟩
          · have e1 := hex h1; subst e1
            exact .sr (.slx hi h1 (.inl rfl))
          · rw [(open_cap hc).1] at hroom
            exact .sr (.slo hi ho hroom hc hc' hd)
        · cases h
    · rename_i hroom
      split at h
      · rename_i hbytes
        obtain ⟨hb, hn⟩ := hbytes
        have hd1 : ∀ w1 : World, w1.heap = w.heap → Rep B0 μ A.get w1 := fun w1 h => hrep.drew h
        have slen : srcLen (.slice ao len cap) = some len := rfl
        -- the new block
        have hnewblk : ∀ {old new o' l' : List Value} {newCap : Nat}, All2 (SR μ) old o' → All2 (SR μ) new l' → o'.length = len * sz → l'.length = n * sz → len + n ≤ newCap →
            ∀ (arr : Array Value), arr = o'.toArray ++ l'.toArray ++ Builtin.zeroCells z.cells (newCap - (len + n)) → arr.size = newCap * sz ∧ (old ++ new).length ≤ arr.size ∧ ∀ (j : Nat) v, (old ++ new)[j]? = some v → ∃ v', arr[j]? = some v' ∧ SR μ v v' := by
          intro old new o' l' newCap h1 h2 h3 h4 h5 arr ha
          have hz := zeroCells_size z.cells (newCap - (len + n))
          have hlen := (h1.append h2).length
          refine ⟨?_, ?_, fun j v hj => ?_⟩
          · rw [ha]; simp only [Array.size_append, List.size_toArray, hz, hT.hzl, h3, h4]
            rw [← Nat.add_mul, ← Nat.add_mul]; congr 1; omega
          · rw [ha]; simp only [Array.size_append, List.size_toArray]; simp only [List.length_append] at hlen ⊢; omega
          · obtain ⟨v', h6, h7⟩ := (h1.append h2).at_ j v hj
            refine ⟨v', ?_, h7⟩
            have hjl : j < (o' ++ l').length := (List.getElem?_eq_some_iff.1 h6).1
            rw [ha, Array.getElem?_append_left (by simpa using hjl)]
            simpa using h6
        split at h
        · rename_i hlt
          have e1 := hex hlt; subst e1
          simp only [Option.bind_eq_some_iff, cond_eq_ite] at h
          obtain ⟨old, hold, new, hnew, he⟩ := h
          split at he
          · rename_i hlens
            simp only [Bool.and_eq_true, Nat.beq_eq] at hlens
            cases he
            obtain ⟨o', ho1, ho2⟩ := src_run (P := P) hrep slen (Nat.le_refl _) hold hs
            obtain ⟨l', hl1, hl2⟩ := src_run (P := P) hrep hsl (Nat.le_refl _) hnew hx
            obtain ⟨newCap, w', hge, hrun, hos, htape, hout, hheap⟩ := run_append_new (ty := ty) hT hlr (by rw [exact_cap hlt] at hroom; exact hroom) hb hn ho1 hl1
            obtain ⟨h1, h2, h3⟩ := hnewblk ho2 hl2 (by rw [ho2.length, hlens.1]) (by rw [hl2.length, hlens.2]) hge _ rfl
            obtain ⟨μ', hO, hm⟩ := out_new (w' := w') (sz := sz) (opn := true) (t := e) (fz := (0, 0)) hrep (hgap _ (Nat.le_refl _) (by show A.next < A.next + 1; omega)) hB h2 h3 (by simp) (fun j => A.get_new j _) hheap hos htape hout
            refine ⟨μ', _, w', hrun, hO, ?_⟩
            refine .sr (SR.slo (i := ⟨w.heap.size, 0, sz, _, true⟩) hm rfl (Nat.le_refl _) (by simp [capInf]; omega) hge (.inr ⟨rfl, ?_⟩))
            simpa using Nat.le_of_eq h1.symm
          · cases he
        · rename_i hge0
          split at h
          · rename_i hdiv
            split at h
            · rename_i id off
              split at h
              · rename_i cs0 sz0 hg
                simp only [Option.bind_eq_some_iff, cond_eq_ite] at h
                obtain ⟨old, hold, new, hnew, he⟩ := h
                split at he
                · rename_i hlens
                  simp only [Bool.and_eq_true, Nat.beq_eq] at hlens
                  cases he
                  obtain ⟨inf, off', hi, rfl, hh⟩ := hsome _ _ _ rfl
                  rcases hh with ⟨h1, _⟩ | ⟨ho, c0, rfl, hl, hc, hc', hd⟩
                  · exact absurd h1 hge0
                  rw [(open_cap hc).2.1] at hdiv
                  rw [(open_cap hc).1] at hroom
                  have esz : inf.sz = sz := by omega
                  obtain ⟨o', ho1, ho2⟩ := src_run (P := P) hrep slen (Nat.le_refl _) hold hs
                  obtain ⟨l', hl1, hl2⟩ := src_run (P := P) hrep hsl (Nat.le_refl _) hnew hx
                  have hid : μ A.next = none := hgap _ (Nat.le_refl _) (by show A.next < A.next + 1; omega)
                  have hnid : A.next ≠ id := by rintro rfl; rw [hid] at hi; cases hi
                  have hget : ∀ j, ((A.set id .dead).new (.row (old ++ new) sz false true)).get j = if A.next = j then some (.row (old ++ new) sz false true) else if id = j then some .dead else A.get j := by
                    intro j
                    rw [AHeap.get_new]
                    show (if A.next = j then _ else (A.set id .dead).get j) = _
                    rw [A.get_set]
                  by_cases hfit : len + n ≤ cap'
                  · -- in its own block
                    have ho' : off' = inf.base + off ∧ off' + cap' * inf.sz ≤ inf.asz := by
                      rcases hd with h | h
                      · omega
                      · exact h
                    obtain ⟨hoff, hbound⟩ := ho'
                    obtain ⟨i2, arr, t2, fz, hr⟩ := hrep.row _ _ _ _ _ hg
                    have e2 := hr.mu; rw [hi] at e2; cases e2
                    have hll : l'.length = n * sz := by rw [hl2.length, hlens.2]
                    have hspace : off' + len * sz + n * sz ≤ arr.size := by
                      have : (len + n) * sz ≤ cap' * sz := Nat.mul_le_mul_right _ hfit
                      rw [Nat.add_mul] at this
                      rw [esz, hr.asz] at hbound; omega
                    have hcell := cells2 hl2
                    obtain ⟨w', arr', hst, hwr, hsz', hget'⟩ := run_storeCells (P := P) inf.blk t2 fz l' (off' + len * sz) 0 w arr hr.heap (by omega) hcell (hr.own rfl).2
                    have hrun := run_append_in (ty := ty) hT (base := some ⟨inf.blk, off', none⟩) (cap := cap') hlr hfit (hl1 w rfl) (w' := w') (by simp only [addr_add]; exact hst)
                    obtain ⟨old', _, _, _, hgo0, heqo, _⟩ := rdRow_get hold
                    rw [hg] at hgo0
                    cases hgo0
                    obtain ⟨μ', hO, hm⟩ := out_rename (x := .row (old ++ new) sz false true) (i' := ⟨inf.blk, inf.base + off, sz, inf.asz, true⟩) hrep (by rw [hg]; trivial) hi hid hget rfl hwr (by
                      intro μ' hle hm'
                      refine ⟨_, _, _, arr', t2, fz, rfl, ⟨hm', rfl, fun _ => rfl, hwr.at_, by rw [hsz']; exact hr.asz, ?_, ?_, fun _ => ⟨(hr.own rfl).1, by rw [hsz']; exact (hr.own rfl).2⟩, (fun h => by cases h)⟩⟩
                      · simp only [List.length_append]; rw [hlens.1, hlens.2, hsz']; rw [hoff] at hspace; show inf.base + off + _ ≤ _; omega
                      · intro j v hj
                        show ∃ v', arr'[inf.base + off + j]? = some v' ∧ _
                        rw [hget']
                        by_cases hjl : j < old.length
                        · rw [if_neg (by rw [hlens.1] at hjl; omega)]
                          rw [List.getElem?_append_left hjl] at hj
                          rw [heqo] at hj
                          have hgo : cs0[off + j]? = some v := by
                            have hjn : j < len * sz := by rw [hlens.1] at hjl; exact hjl
                            rw [List.getElem?_take_of_lt hjn, List.getElem?_drop] at hj; exact hj
                          obtain ⟨v', h6, h7⟩ := hr.cells _ _ hgo
                          exact ⟨v', by rw [Nat.add_assoc]; exact h6, h7.mono hle⟩
                        · have hjn : j < old.length + new.length := by have := (List.getElem?_eq_some_iff.1 hj).1; simpa using this
                          rw [List.getElem?_append_right (by omega)] at hj
                          obtain ⟨v', h6, h7⟩ := hl2.at_ _ _ hj
                          rw [if_pos (by rw [hll]; rw [hlens.1, hlens.2] at hjn; rw [hlens.1] at hjl; omega)]
                          exact ⟨v', by rw [← h6]; congr 1; rw [hlens.1]; omega, h7.mono hle⟩)
                    refine ⟨μ', _, w', hrun, hO, ?_⟩
                    have := SR.slo (i := ⟨inf.blk, inf.base + off, sz, inf.asz, true⟩) (off := 0) (len := len + n) (c := len + n) (off' := off') (cap' := cap') hm rfl (Nat.le_refl _) (by simp [capInf]; omega) hfit (.inr ⟨hoff, by rw [← esz]; exact hbound⟩)
                    exact .sr this
                  · obtain ⟨newCap, w', hge, hrun, hos, htape, hout, hheap⟩ := run_append_new (ty := ty) hT hlr hfit hb hn ho1 hl1
                    obtain ⟨h1, h2, h3⟩ := hnewblk ho2 hl2 (by rw [ho2.length, hlens.1]) (by rw [hl2.length, hlens.2]) hge _ rfl
                    obtain ⟨i2, arr, t2, fz, hr⟩ := hrep.row _ _ _ _ _ hg
                    have e2 := hr.mu; rw [hi] at e2; cases e2
                    have hkill := out_set hrep A.next A.next (by rw [hg]; trivial) hi (x := .dead) (g' := (A.set id .dead).get) (fun j => A.get_set id j _) (w' := w) (o := .cells arr t2 fz) ⟨rfl, rfl, rfl, rfl, hr.heap, fun _ _ => rfl⟩ (fun _ _ _ _ h => by cases h) (fun _ _ _ h => by cases h)
                    obtain ⟨μ', hO, hm⟩ := out_new (w' := w') (sz := sz) (opn := true) (t := e) (fz := (0, 0)) hkill.rep hid hB h2 h3 (by simp) (fun j => AHeap.get_new (A.set id .dead) j _) hheap hos htape hout
                    refine ⟨μ', _, w', hrun, Out.trans (Nat.le_refl _) (Nat.le_succ _) hkill hO, ?_⟩
                    refine .sr (SR.slo (i := ⟨w.heap.size, 0, sz, _, true⟩) hm rfl (Nat.le_refl _) (by simp [capInf]; omega) hge (.inr ⟨rfl, ?_⟩))
                    simpa using Nat.le_of_eq h1.symm
                · cases he
              · cases h
            · cases h
          · cases h
      · cases h
  · cases h

theorem snd_copy (hrep : Rep B0 μ A.get w) {ts : Array TypeId} {t e ty : TypeId} {sz : Nat} (hts : ts[0]? = some t) (ht : P.underlying t = some (.slice e)) (hn : szOf P e = some sz)
    {d x v d' x' : Value} (h : acopy sz d x A = some (v, A')) (hd : VR μ d d') (hx : VR μ x x') : Snd P B0 μ A w (Builtin.copy_ ts ty #[d', x']) v A' := by
  unfold acopy at h
  split at h
  · rename_i ao len cap n0 hsl
    have hlr := srcLen_run (P := P) (w := w) hsl hx
    have hd2 : ∃ ao' cap', d' = .slice ao' len cap' ∧ (∀ id off sp, ao = some ⟨id, off, sp⟩ → ∃ i off', μ id = some i ∧ ao' = some ⟨i.blk, off', none⟩ ∧ (0 < len → off' = i.base + off)) := by
      cases ao with
      | none => have e := hd.slice0; subst e; exact ⟨none, cap, rfl, (fun _ _ _ h => by cases h)⟩
      | some ad =>
        obtain ⟨id, off, sp⟩ := ad
        obtain ⟨i, off', cap', hi, hsp, rfl, hh⟩ := hd.slice
        refine ⟨_, cap', rfl, fun id2 off2 sp2 h => ?_⟩
        cases h
        refine ⟨i, off', hi, rfl, fun hl => ?_⟩
        rcases hh with ⟨_, _, h | ⟨_, h⟩⟩ | ⟨c0, _, _, h3, _, h4, h | ⟨h, _⟩⟩
        · exact h
        · omega
        · omega
        · exact h
    obtain ⟨ao', cap', rfl, hsome⟩ := hd2
    have hrunOf : ∀ (l' : List Value) (w' : World), (Builtin.firstCells sz (Nat.min n0 len) x').run P w = .ok l'.toArray w → (match ao' with | some a => storeCells a l' | none => pure () : Sem Unit).run P w = .ok () w' →
        (Builtin.copy_ ts ty #[.slice ao' len cap', x']).run P w = .ok (goInt (Nat.min n0 len : Nat)) w' := by
      intro l' w' h1 h2
      unfold Builtin.copy_
      simp only [hts, List.getElem?_toArray, List.getElem?_cons_zero, List.getElem?_cons_succ, Sem.run_bind, run_underlying ht, Result.andThen_ok, hlr, run_sizeOf hn, h1]
      cases ao' with
      | none => simp only [Sem.run_pure] at h2 ⊢; cases h2; rfl
      | some ad => simp only at h2 ⊢; simp [h2]
    simp only at h
    split at h
    · rename_i h0
      cases h
      obtain ⟨l', h1, rfl⟩ := src_none (P := P) (w := w) (sz := sz) hsl h0 hx
      have := hrunOf [] w h1 (by cases ao' <;> simp [storeCells])
      rw [h0] at this
      exact Snd.still hrep ⟨_, this, vr_int _ _⟩
    · rename_i h0
      split at h
      · rename_i id off
        simp only [Option.bind_eq_some_iff, Option.map_eq_some_iff] at h
        obtain ⟨new, hnew, A1, hw, he⟩ := h
        cases he
        obtain ⟨l', hsrc, hr⟩ := src_run (P := P) hrep hsl (Nat.min_le_left _ _) hnew hx
        obtain ⟨inf, off', hi, rfl, ho⟩ := hsome _ _ _ rfl
        have hlen : 0 < len := by
          have : Nat.min n0 len ≤ len := Nat.min_le_right _ _
          omega
        obtain ⟨w', hst, hout⟩ := snd_write (P := P) hrep A.next A'.next hw hi hr
        rw [← ho hlen] at hst
        exact ⟨μ, _, w', hrunOf l' w' (hsrc w rfl) hst, hout, vr_int _ _⟩
      · cases h
  · cases h

theorem snd_clear (hrep : Rep B0 μ A.get w) {ts : Array TypeId} {t e ty : TypeId} {z : List Value} (hts : ts[0]? = some t) (ht : P.underlying t = some (.slice e)) (hz : zeroOf P e = some z)
    {x x' : Value} (h : aclear z x A = some A') (hx : VR μ x x') : Snd P B0 μ A w (Builtin.clear_ ts ty #[x']) (.tuple #[]) A' := by
  obtain ⟨i, zv, hi, hzv, hzc, hzp⟩ := zero_of hz
  unfold aclear at h
  split at h
  · rename_i n c
    cases h
    have e := hx.slice0; subst e
    refine Snd.still hrep ⟨.tuple #[], ?_, .undef_⟩
    simp [Builtin.clear_, hts, run_underlying ht]
  · rename_i id off n c
    obtain ⟨inf, off', cap', hi', _, rfl, hh⟩ := hx.slice
    split at h
    · rename_i h0
      cases h
      subst h0
      refine Snd.still hrep ⟨.tuple #[], ?_, .undef_⟩
      simp [Builtin.clear_, hts, run_underlying ht]
    · rename_i h0
      have ho : off' = inf.base + off := by
        rcases hh with ⟨_, _, h | ⟨_, h⟩⟩ | ⟨c0, _, _, h3, _, h4, h | ⟨h, _⟩⟩
        · exact h
        · omega
        · omega
        · exact h
      subst ho
      obtain ⟨w', hst, hout⟩ := snd_write (P := P) hrep A.next A'.next h hi' (repL_plain hzp n)
      refine ⟨μ, _, w', ?_, hout, .undef_⟩
      have e1 : (Builtin.zeroCells zv.cells n).toList = repL z n := by rw [← hzc, ← repL_array]; rfl
      obtain ⟨m, rfl⟩ : ∃ m, n = m + 1 := ⟨n - 1, by omega⟩
      simp [Builtin.clear_, hts, run_underlying ht, run_zeroValue hi hzv, e1, hst]
      rfl
  · cases h
end
end Go.Abs
