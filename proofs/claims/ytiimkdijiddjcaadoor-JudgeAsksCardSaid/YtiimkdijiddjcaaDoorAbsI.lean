/- The operations of the abstract machine are the model's: each operation's own run. -/
import Derived.Test.YtiimkdijiddjcaaDoorAbsH
namespace Go.Abs
open Go

section
variable {P : Program} {B0 : Nat} {μ : Mu} {A A' : AHeap} {w : World} {fr : Fr} {a : Act}

/-- how an operation ends: its value, the new memory -/
def Snd (P : Program) (B0 : Nat) (μ : Mu) (A : AHeap) (w : World) (s : Sem Value) (v : Value) (A' : AHeap) : Prop :=
  ∃ μ' v' w', s.run P w = .ok v' w' ∧ Out B0 μ A.get w A.next A'.next μ' A'.get w' ∧ VR μ' v v'
def SndU (P : Program) (B0 : Nat) (μ : Mu) (A : AHeap) (w : World) (s : Sem Unit) (A' : AHeap) : Prop :=
  ∃ μ' w', s.run P w = .ok () w' ∧ Out B0 μ A.get w A.next A'.next μ' A'.get w'

theorem Snd.still (hrep : Rep B0 μ A.get w) {s : Sem Value} {v : Value} (h : ∃ v', s.run P w = .ok v' w ∧ VR μ v v') : Snd P B0 μ A w s v A := by
  obtain ⟨v', hr, hv⟩ := h
  exact ⟨μ, v', w, hr, Out.refl hrep _ _, hv⟩

theorem vr_int (k : IntKind) (n : Int) : VR μ (.int k n) (.int k n) := .sr (.plain rfl)
theorem vr_bool (b : Bool) : VR μ (.bool b) (.bool b) := .sr (.plain rfl)
theorem vr_string (s : ByteArray) : VR μ (.string s) (.string s) := .sr (.plain rfl)

theorem snd_build {t : TypeId} {parts : Array (Nat × Operand)} {z : List Value} {ps : List (Nat × Nat × Opd)} {cs : List Value}
    (hc : comp P (.build t parts) = some (.build z ps)) (hfr : FrR μ fr a.tmps (ps.flatMap fun p => p.2.2.slots)) (hx : fillL z (evParts fr ps) = some cs) :
    ∃ v', (Instr.build t (parts.map fun (i, x) => (i, a.eval x))).run P w = .ok v' w ∧ VR μ (.agg cs.toArray) v' := by
  simp only [comp, Option.bind_eq_some_iff] at hc
  obtain ⟨z0, hz, hc⟩ := hc
  obtain ⟨i, zv, hi, hzv, hzc, hzp⟩ := zero_of hz
  have hlist : (parts.map fun (i, x) => (i, a.eval x)).toList = parts.toList.map fun p => (p.1, a.eval p.2) := by simp
  split at hc
  · rename_i fs hu
    simp only [Option.bind_eq_some_iff, Option.map_eq_some_iff] at hc
    obtain ⟨places, hpl, ps', hps, he⟩ := hc
    cases he
    obtain ⟨cells', h1, h2⟩ := fill_rel (a := a) (μ := μ) (cells := zv.cells) hps hfr (by rw [hzc]; exact All2.diag fun x hx => .plain (hzp x hx)) hx
    refine ⟨.agg cells', run_build w t _ cells' ?_, ?_⟩
    · simp only [Program.built, hi, hu, hzv, hpl, hlist]; exact h1
    · have := V1.agg h2; simpa using VR.one this
  · rename_i n e hu
    simp only [Option.bind_eq_some_iff, Option.map_eq_some_iff] at hc
    obtain ⟨n, hn, ps', hps, he⟩ := hc
    cases he
    obtain ⟨ie, hie, rfl⟩ := info_of hn
    obtain ⟨cells', h1, h2⟩ := fill_rel (a := a) (μ := μ) (cells := zv.cells) hps hfr (by rw [hzc]; exact All2.diag fun x hx => .plain (hzp x hx)) hx
    refine ⟨.agg cells', run_build w t _ cells' ?_, ?_⟩
    · simp only [Program.built, hi, hu, hzv, hie, hlist]; exact h1
    · have := V1.agg h2; simpa using VR.one this
  · cases hc

/-- a new row of values that are related to the model's -/
theorem snd_newRow (hrep : Rep B0 μ A.get w) (hB : B0 ≤ w.heap.size) (hgap : μ A.next = none) {e : TypeId} {cs : List Value} {cells : Array Value} (hr : All2 (SR μ) cs cells.toList) (sz : Nat) (opn : Bool) :
    ∃ μ', (newRow e cells).run P w = .ok ⟨w.heap.size, 0, none⟩ { w with heap := w.heap.push (.cells cells e) } ∧
      Out B0 μ A.get w A.next (A.new (.row cs sz false opn)).next μ' (A.new (.row cs sz false opn)).get { w with heap := w.heap.push (.cells cells e) } ∧ μ' A.next = some ⟨w.heap.size, 0, sz, cells.size, opn⟩ := by
  have hl := hr.length
  obtain ⟨μ', ho, hm⟩ := out_new (w' := { w with heap := w.heap.push (.cells cells e) }) (sz := sz) (opn := opn) (t := e) (fz := (0, 0)) hrep hgap hB (cs := cs) (arr := cells) (by simp at hl; omega)
    (fun j v hj => by obtain ⟨v', h1, h2⟩ := hr.at_ j v hj; exact ⟨v', by simpa using h1, h2⟩) (by simp) (fun j => A.get_new j _) rfl rfl rfl rfl
  exact ⟨μ', by simp [newRow], ho, hm⟩

theorem snd_box (hrep : Rep B0 μ A.get w) (hB : B0 ≤ w.heap.size) (hgap : μ A.next = none) {e : TypeId} {sz : Nat} {u u' : Value} (hu : VR μ u u') (hn : notT u = true) :
    Snd P B0 μ A w (Instr.box e u') (.pointer (some ⟨A.next, 0, none⟩)) (A.new (.row (vcells u) sz false false)) := by
  have hc := vcells_rel hu (by intro c h; rw [h] at hn; cases hn)
  obtain ⟨μ', hr, ho, hm⟩ := snd_newRow (P := P) (e := e) hrep hB hgap hc sz false
  refine ⟨μ', .pointer (some ⟨w.heap.size, 0, none⟩), _, ?_, ho, ?_⟩
  · simp [Instr.box, newVar, hr]
  · have := SR.ptr (off := 0) hm; exact .sr (by simpa using this)

theorem snd_alloc (hrep : Rep B0 μ A.get w) (hB : B0 ≤ w.heap.size) (hgap : μ A.next = none) {e : TypeId} {sz : Nat} {z : List Value} (hz : zeroOf P e = some z) :
    Snd P B0 μ A w (Instr.alloc e true (.tuple #[])) (.pointer (some ⟨A.next, 0, none⟩)) (A.new (.row z sz false false)) := by
  obtain ⟨i, zv, hi, hzv, hzc, hzp⟩ := zero_of hz
  obtain ⟨μ', hr, ho, hm⟩ := snd_newRow (P := P) (e := e) (cs := z) (cells := zv.cells) hrep hB hgap (by rw [hzc]; exact All2.diag fun x hx => .plain (hzp x hx)) sz false
  refine ⟨μ', .pointer (some ⟨w.heap.size, 0, none⟩), _, ?_, ho, ?_⟩
  · simp [Instr.alloc, run_zeroValue hi hzv, newVar, hr]
  · have := SR.ptr (off := 0) hm; exact .sr (by simpa using this)

theorem snd_buildSlice (hrep : Rep B0 μ A.get w) (hB : B0 ≤ w.heap.size) (hgap : μ A.next = none) {t : TypeId} {len sz : Nat} {parts : Array (Nat × Operand)} {z : List Value} {ps : List (Nat × Nat × Opd)} {cs : List Value}
    (hc : comp P (.buildSlice t len parts) = some (.buildSlice sz len z ps)) (hfr : FrR μ fr a.tmps (ps.flatMap fun p => p.2.2.slots)) (hx : fillL (repL z len) (evParts fr ps) = some cs) :
    Snd P B0 μ A w (Instr.buildSlice t len (parts.map fun (i, x) => (i, a.eval x))) (.slice (some ⟨A.next, 0, none⟩) len len) (A.new (.row cs sz false false)) := by
  simp only [comp] at hc
  split at hc
  · rename_i e hu
    simp only [Option.bind_eq_some_iff] at hc
    obtain ⟨z0, hz, n, hn, hc⟩ := hc
    split at hc
    · rename_i hcond
      obtain ⟨hzl, hn0, hle⟩ := hcond
      simp only [Option.map_eq_some_iff] at hc
      obtain ⟨ps', hps, he⟩ := hc
      cases he
      obtain ⟨i, zv, hi, hzv, hzc, hzp⟩ := zero_of hz
      have hlist : (parts.map fun (i, x) => (i, a.eval x)).toList = parts.toList.map fun p => (p.1, a.eval p.2) := by simp
      have hzs : zv.cells.size = sz := by rw [← hzl, ← hzc]; simp
      have hcap : len < capInf := by
        have : len * 1 ≤ len * sz := Nat.mul_le_mul_left _ (by omega)
        simp [capInf]; omega
      obtain ⟨cells', h1, h2⟩ := fill_rel (a := a) (μ := μ) (cells := (Array.range (len * sz)).map (fun i => zv.cells[i % zv.cells.size]!)) hps hfr (by
        rw [← hzs, repL_array, hzc]; exact repL_plain hzp _) hx
      obtain ⟨μ', hr, ho, hm⟩ := snd_newRow (P := P) (e := e) hrep hB hgap h2 sz false
      refine ⟨μ', .slice (some ⟨w.heap.size, 0, none⟩) len len, _, ?_, ho, ?_⟩
      · by_cases h0 : len * sz = 0
        · have e0 : (Array.range (len * sz)).map (fun i => (#[] : Array Value)[i % (#[] : Array Value).size]!) = (Array.range (len * sz)).map (fun i => zv.cells[i % zv.cells.size]!) := by rw [h0]; simp [Array.range_zero']
          have h1' := h1
          rw [← e0] at h1'
          rw [h0] at h1'
          simp only [Instr.buildSlice, Sem.run_bind, run_underlying hu, Result.andThen_ok, run_sizeOf hn, h0, Sem.run_ite, hlist]
          rw [if_neg (by omega)]
          simp only [if_true, Sem.run_pure, Result.andThen_ok]
          simp only [h1', Sem.run_bind, hr, Result.andThen_ok, Sem.run_pure]
        · simp only [Instr.buildSlice, Sem.run_bind, run_underlying hu, Result.andThen_ok, run_sizeOf hn, h0, Sem.run_ite, hlist]
          rw [if_neg (by omega)]
          simp only [if_false, run_zeroValue hi hzv, Sem.run_pure, Result.andThen_ok]
          simp only [h1, Sem.run_bind, hr, Result.andThen_ok, Sem.run_pure]
      · have := SR.slx (off := 0) (off' := 0) (len := len) (cap := len) hm hcap (.inl rfl); exact .sr (by simpa using this)
    · cases hc
  · cases hc

theorem snd_makeSlice (hrep : Rep B0 μ A.get w) (hB : B0 ≤ w.heap.size) (hgap : μ A.next = none) {t : TypeId} {l c : Operand} {L C : Opd} {sz bytes : Nat} {z : List Value} {v : Value}
    (hc : comp P (.makeSlice t l c) = some (.mkSlice sz bytes z L C)) (hfr : FrR μ fr a.tmps (L.slots ++ C.slots)) (hx : amkSlice sz bytes z (L.ev fr) (C.ev fr) A = some (v, A')) :
    Snd P B0 μ A w (Instr.makeSlice t (a.eval l) (a.eval c)) v A' := by
  simp only [comp] at hc
  split at hc
  · rename_i e hu
    simp only [Option.bind_eq_some_iff] at hc
    obtain ⟨L0, hL, C0, hC, i, hi, z0, hz, hc⟩ := hc
    split at hc
    · rename_i hcond
      obtain ⟨hzl, hn0⟩ := hcond
      cases hc
      obtain ⟨i', zv, hi', hzv, hzc, hzp⟩ := zero_of hz
      rw [hi] at hi'; cases hi'
      have hl := opd_rel (a := a) hL hfr.left
      have hcc := opd_rel (a := a) hC hfr.right
      unfold amkSlice at hx
      split at hx
      · rename_i kl l' kc c' e1 e2
        split at hx
        · rename_i hcnd
          obtain ⟨h0, hlc, hb, h40⟩ := hcnd
          cases hx
          rw [e1] at hl; rw [e2] at hcc
          have f1 := hl.int; have f2 := hcc.int
          have hzs : zv.cells.size = i.size := by rw [← hzl, ← hzc]; simp
          have hb' : (i.bytes : Int) * c' ≤ 281474976710656 := by rw [Int.mul_comm]; omega
          have hrun := run_make (P := P) w t e i zv hu hi hzv kl kc l' c' h0 hlc hb' (by omega)
          have h2 : All2 (SR μ) (repL z c'.toNat) (madeCells zv.cells (c'.toNat * i.size)).toList := by
            unfold madeCells
            rw [← hzs, repL_array, hzc]; exact repL_plain hzp _
          obtain ⟨μ', hr, ho, hm⟩ := snd_newRow (P := P) (e := e) hrep hB hgap h2 i.size false
          refine ⟨μ', .slice (some ⟨w.heap.size, 0, none⟩) l'.toNat c'.toNat, _, by rw [f1, f2]; exact hrun, ho, ?_⟩
          have := SR.slx (off := 0) (off' := 0) (len := l'.toNat) (cap := c'.toNat) hm (by simp [capInf]; omega) (.inl rfl)
          exact .sr (by simpa using this)
        · cases hx
      · cases hx
    · cases hc
  · cases hc
end
end Go.Abs
