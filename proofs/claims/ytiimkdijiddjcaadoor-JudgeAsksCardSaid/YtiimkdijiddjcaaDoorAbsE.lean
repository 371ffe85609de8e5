/- The operations of the abstract machine are the model's: those that reckon, read, make and write rows. -/
import Derived.Test.YtiimkdijiddjcaaDoorAbsD
namespace Go.Abs
open Go

section inv
variable {μ : Mu} {x' : Value}
theorem VR.inv_sr {v : Value} (hv : cellV v = true) (h : VR μ v x') : SR μ v x' := by
  cases h with
  | one h => cases h with
    | s h => exact h
    | agg h => simp [cellV] at hv
  | tup h => simp [cellV] at hv
theorem VR.int {k : IntKind} {n : Int} (h : VR μ (.int k n) x') : x' = .int k n := by have := h.inv_sr rfl; cases this; rfl
theorem VR.bool {b : Bool} (h : VR μ (.bool b) x') : x' = .bool b := by have := h.inv_sr rfl; cases this; rfl
theorem VR.string {s : ByteArray} (h : VR μ (.string s) x') : x' = .string s := by have := h.inv_sr rfl; cases this; rfl
theorem VR.ptr {id off : Nat} {sp : Option Nat} (h : VR μ (.pointer (some ⟨id, off, sp⟩)) x') : ∃ i, μ id = some i ∧ sp = none ∧ x' = .pointer (some ⟨i.blk, i.base + off, none⟩) := by
  have h1 := h.inv_sr rfl
  cases h1 with
  | plain hh => simp [plain1] at hh
  | ptr hh => exact ⟨_, hh, rfl, rfl⟩
theorem VR.ptr0 (h : VR μ (.pointer none) x') : x' = .pointer none := by have := h.inv_sr rfl; cases this; rfl
theorem VR.slice0 {n c : Nat} (h : VR μ (.slice none n c) x') : x' = .slice none n c := by have := h.inv_sr rfl; cases this; rfl
theorem VR.slice {id off n c : Nat} {sp : Option Nat} (h : VR μ (.slice (some ⟨id, off, sp⟩) n c) x') : ∃ i off' cap', μ id = some i ∧ sp = none ∧ x' = .slice (some ⟨i.blk, off', none⟩) n cap' ∧
    ((c < capInf ∧ cap' = c ∧ (off' = i.base + off ∨ (c = 0 ∧ n = 0))) ∨
    ∃ c0, c = capInf * (i.sz + 1) + c0 ∧ i.opn = true ∧ n ≤ c0 ∧ c0 < capInf ∧ c0 ≤ cap' ∧ (cap' = 0 ∨ (off' = i.base + off ∧ off' + cap' * i.sz ≤ i.asz))) := by
  have h1 := h.inv_sr rfl
  cases h1 with
  | plain hh => simp [plain1] at hh
  | slx hh hc hd => exact ⟨_, _, _, hh, rfl, rfl, .inl ⟨hc, rfl, hd⟩⟩
  | slo hh ho hl hc0 hc hd => exact ⟨_, _, _, hh, rfl, rfl, .inr ⟨_, rfl, ho, hl, hc0, hc, hd⟩⟩
theorem open_cap {sz c : Nat} (h : c < capInf) : Nat.mod (capInf * (sz + 1) + c) capInf = c ∧ Nat.div (capInf * (sz + 1) + c) capInf = sz + 1 ∧ ¬ (capInf * (sz + 1) + c < capInf) := by
  have hp : 0 < capInf := by decide
  refine ⟨?_, ?_, ?_⟩
  · show (capInf * (sz + 1) + c) % capInf = c
    rw [Nat.mul_add_mod, Nat.mod_eq_of_lt h]
  · show (capInf * (sz + 1) + c) / capInf = sz + 1
    rw [Nat.mul_add_div hp, Nat.div_eq_of_lt h, Nat.add_zero]
  · have : capInf * 1 ≤ capInf * (sz + 1) := Nat.mul_le_mul_left _ (by omega)
    omega
theorem exact_cap {c : Nat} (h : c < capInf) : Nat.mod c capInf = c := Nat.mod_eq_of_lt h
theorem VR.map0 (h : VR μ (.map none) x') : x' = .map none := by have := h.inv_sr rfl; cases this; rfl
theorem VR.map {id : Nat} (h : VR μ (.map (some id)) x') : ∃ i, μ id = some i ∧ x' = .map (some i.blk) := by
  have h1 := h.inv_sr rfl
  cases h1 with
  | plain hh => simp [plain1] at hh
  | map hh => exact ⟨_, hh, rfl⟩
theorem VR.nilFunc_ (h : VR μ .nilFunc x') : x' = .nilFunc := by have := h.inv_sr rfl; cases this; rfl
theorem VR.func {f : Fn} {a c : Array Value} (h : VR μ (.func f a c) x') : ∃ g cs', f = .func g ∧ a = #[] ∧ x' = .func (.func g) #[] cs'.toArray ∧ All2 (PR μ) c.toList cs' := by
  have h1 := h.inv_sr rfl
  cases h1 with
  | plain hh => simp [plain1] at hh
  | fn hh => exact ⟨_, _, rfl, rfl, rfl, by simpa using hh⟩
theorem VR.agg {a : Array Value} (h : VR μ (.agg a) x') : ∃ cs', x' = .agg cs'.toArray ∧ All2 (SR μ) a.toList cs' := by
  cases h with
  | one h => cases h with
    | s h => cases h with | plain h => simp [plain1] at h
    | agg h => exact ⟨_, rfl, by simpa using h⟩
theorem VR.tuple {a : Array Value} (h : VR μ (.tuple a) x') : ∃ cs', x' = .tuple cs'.toArray ∧ All2 (V1 μ) a.toList cs' := by
  cases h with
  | one h => cases h with
    | s h => cases h with | plain h => simp [plain1] at h
  | tup h => exact ⟨_, rfl, by simpa using h⟩
/-- the cells of a value of one variable -/
theorem vcells_rel {v v' : Value} (h : VR μ v v') (hl : (∀ cs, v ≠ .tuple cs)) : All2 (SR μ) (vcells v) v'.cells.toList := by
  cases h with
  | one h => cases h with
    | s h =>
      have h1 := h.cell1
      have h2 := h.cell2
      have e1 : vcells v = [v] := by cases v <;> simp_all [vcells, cellV]
      have e2 : v'.cells.toList = [v'] := by cases v' <;> simp_all [Value.cells, cellV]
      rw [e1, e2]; exact .cons h .nil
    | agg h => simpa [vcells, Value.cells] using h
  | tup h => exact absurd rfl (hl _)
theorem vcells_tuple (cs : Array Value) : vcells (.tuple cs) = [.tuple cs] := rfl
theorem VR.plainV_ {v : Value} (h : plainV v = true) : VR μ v v := by
  cases v with
  | agg cs =>
    simp only [plainV, List.all_eq_true] at h
    have := V1.agg (μ := μ) (All2.diag (as := cs.toList) (R := SR μ) fun a ha => .plain (h a ha))
    simpa using VR.one this
  | tuple cs =>
    simp only [plainV, List.all_eq_true] at h
    have := VR.tup (μ := μ) (All2.diag (as := cs.toList) (R := V1 μ) fun a ha => .s (.plain (h a ha)))
    simpa using this
  | _ => exact .sr (.plain h)
end inv

section
variable {P : Program} {μ : Mu} {fr : Fr} {a : Act}
def FrR (μ : Mu) (fr : Fr) (tm : Array Value) (ts : List Nat) : Prop := ∀ t ∈ ts, VR μ (lget fr t) (tm.getD t undef)

theorem opd_rel {x : Operand} {y : Opd} (h : cOpd x = some y) (hf : FrR μ fr a.tmps y.slots) : VR μ (y.ev fr) (a.eval x) := by
  cases x with
  | tmp n => simp [cOpd] at h; subst h; exact hf n (by simp [Opd.slots])
  | const v =>
    simp only [cOpd] at h
    split at h
    · rename_i hp; cases h; exact VR.plainV_ hp
    · cases h
  | global g => cases h
  | func f => simp [cOpd] at h; subst h; exact .sr (.fn (cs := []) (cs' := []) .nil)
theorem FrR.left {tm : Array Value} {s t : List Nat} (h : FrR μ fr tm (s ++ t)) : FrR μ fr tm s := fun x hx => h x (by simp [hx])
theorem FrR.right {tm : Array Value} {s t : List Nat} (h : FrR μ fr tm (s ++ t)) : FrR μ fr tm t := fun x hx => h x (by simp [hx])
theorem opds_rel : ∀ {xs : List Operand} {ys : List Opd}, cOpds xs = some ys → FrR μ fr a.tmps (ys.flatMap Opd.slots) → All2 (VR μ) (ys.map (Opd.ev fr)) (xs.map a.eval)
  | [], ys, h, _ => by simp [cOpds] at h; subst h; exact .nil
  | x :: xs, ys, h, hf => by
    simp only [cOpds, List.mapM_cons, Option.bind_eq_bind, Option.bind_eq_some_iff, Option.pure_def, Option.some.injEq] at h
    obtain ⟨y, hy, ys', hys, rfl⟩ := h
    simp only [List.flatMap_cons] at hf
    exact .cons (opd_rel hy hf.left) (opds_rel (xs := xs) hys hf.right)
theorem opt_rel {x : Option Operand} {y : Option Opd} (h : cOpt x = some y) (hf : FrR μ fr a.tmps (optSlots y)) :
    (x = none ∧ y = none) ∨ ∃ x0 y0, x = some x0 ∧ y = some y0 ∧ VR μ (y0.ev fr) (a.eval x0) := by
  cases x with
  | none => simp [cOpt] at h; exact .inl ⟨rfl, h.symm⟩
  | some x =>
    simp only [cOpt, Option.map_eq_some_iff] at h
    obtain ⟨y0, hy, rfl⟩ := h
    exact .inr ⟨x, y0, rfl, rfl, opd_rel hy hf⟩
end

section
variable {P : Program} {w : World}
theorem run_isAgg {t : TypeId} {b : Bool} (h : isAggB P t = some b) : (isAgg t).run P w = .ok b w := by
  unfold isAggB at h
  simp only [Option.map_eq_some_iff] at h
  obtain ⟨d, hd, hb⟩ := h
  unfold isAgg
  simp only [Sem.run_bind, run_underlying hd, Result.andThen_ok]
  subst hb
  cases d <;> rfl
theorem info_of {t : TypeId} {n : Nat} (h : szOf P t = some n) : ∃ i, P.info? t = some i ∧ i.size = n := by
  simpa [szOf] using h
theorem run_typeInfo {t : TypeId} {i : TypeInfo} (h : P.info? t = some i) : (typeInfo t).run P w = .ok i w := by
  unfold typeInfo
  simp [h]
theorem run_sizeOf {t : TypeId} {n : Nat} (h : szOf P t = some n) : (sizeOf t).run P w = .ok n w := by
  obtain ⟨i, hi, rfl⟩ := info_of h
  unfold sizeOf
  simp [run_typeInfo hi]
theorem run_zeroValue {t : TypeId} {i : TypeInfo} {z : Value} (h : P.info? t = some i) (hz : i.zero = some z) : (zeroValue t).run P w = .ok z w := by
  unfold zeroValue
  simp [run_typeInfo h, hz]
theorem zero_of {t : TypeId} {z : List Value} (h : zeroOf P t = some z) : ∃ i v, P.info? t = some i ∧ i.zero = some v ∧ v.cells.toList = z ∧ ∀ x ∈ z, plain1 x = true := by
  simp only [zeroOf, Option.bind_eq_some_iff] at h
  obtain ⟨v, ⟨i, hi, hz⟩, he⟩ := h
  split at he
  · rename_i hp
    cases he
    exact ⟨i, v, hi, hz, rfl, fun x hx => List.all_eq_true.1 hp x hx⟩
  · cases he
end

/- ## reading -/
section
variable {P : Program} {B0 : Nat} {μ : Mu} {A A' : AHeap} {w : World}

theorem snd_ld1 (hrep : Rep B0 μ A.get w) {t : TypeId} (ht : isAggB P t = some false) {id off : Nat} {cs : List Value} {sz : Nat} {ro opn : Bool} (hg : A.get id = some (.row cs sz ro opn)) {v : Value} (hv : cs[off]? = some v) {i : Info} (hi : μ id = some i) :
    ∃ v', (Instr.loadAt t (.pointer (some ⟨i.blk, i.base + off, none⟩))).run P w = .ok v' w ∧ VR μ v v' := by
  obtain ⟨i2, arr, t2, fz, hr⟩ := hrep.row _ _ _ _ _ hg
  have e := hr.mu; rw [hi] at e; cases e
  obtain ⟨v', hv', hs⟩ := hr.cells _ _ hv
  refine ⟨v', ?_, .sr hs⟩
  simp only [Instr.loadAt, Instr.sureAddr, loadVar, Sem.run_bind, Sem.run_pure, Result.andThen_ok, run_isAgg ht, load, Sem.run, cell_at hr.heap, hv', Bool.false_eq_true, if_false]

theorem snd_ldN (hrep : Rep B0 μ A.get w) {t : TypeId} {n : Nat} (ht : isAggB P t = some true) (hn : szOf P t = some n) {id off : Nat} {l : List Value} (hl : rdRow A id off n = some l) {i : Info} (hi : μ id = some i) :
    ∃ v', (Instr.loadAt t (.pointer (some ⟨i.blk, i.base + off, none⟩))).run P w = .ok v' w ∧ VR μ (.agg l.toArray) v' := by
  obtain ⟨cs, sz, ro, opn, hg, rfl, hlen⟩ := rdRow_get hl
  obtain ⟨i2, arr, t2, fz, hr⟩ := hrep.row _ _ _ _ _ hg
  have e := hr.mu; rw [hi] at e; cases e
  by_cases h0 : n = 0
  · subst h0
    refine ⟨.agg #[], ?_, ?_⟩
    · simp only [Instr.loadAt, Instr.sureAddr, loadVar, Sem.run_bind, Sem.run_pure, Result.andThen_ok, run_isAgg ht, run_sizeOf hn, if_true, loadCells, loadCellsFrom]
    · exact .one (.agg (cs := (cs.drop off).take 0) (cs' := []) (by simpa using .nil))
  · obtain ⟨h1, h2⟩ := hr.read hlen h0
    refine ⟨_, ?_, .one (.agg h2)⟩
    simp only [Instr.loadAt, Instr.sureAddr, loadVar, Sem.run_bind, Sem.run_pure, Result.andThen_ok, run_isAgg ht, run_sizeOf hn, if_true, run_loadCells _ _ _ _ _ hr.heap _ _ h1]

/-- a row is written -/
theorem snd_write (hrep : Rep B0 μ A.get w) (lo up : Nat) {id off : Nat} {vs vs' : List Value} (hw : wrRow A id off vs = some A') {i : Info} (hi : μ id = some i) (hv : All2 (SR μ) vs vs') :
    ∃ w', (storeCells ⟨i.blk, i.base + off, none⟩ vs').run P w = .ok () w' ∧ Out B0 μ A.get w lo up μ A'.get w' := by
  obtain ⟨cs, sz, opn, hg, hl, rfl⟩ := wrRow_get hw
  obtain ⟨i2, arr, t2, fz, hr⟩ := hrep.row _ _ _ _ _ hg
  have e := hr.mu; rw [hi] at e; cases e
  have hlen := hr.len
  have hvl := hv.length
  have hcell : ∀ v ∈ vs', cellV v = true := by
    clear hvl hw hl
    induction hv with
    | nil => intro v h; cases h
    | cons h _ ih => intro v hx; rcases List.mem_cons.1 hx with rfl | hx; exact h.cell2; exact ih v hx
  obtain ⟨w', arr', hrun, hwr, hsz, hget⟩ := run_storeCells (P := P) i.blk t2 fz vs' (i.base + off) 0 w arr hr.heap (by omega) hcell (hr.own rfl).2
  refine ⟨w', hrun, out_set hrep lo up (by rw [hg]; trivial) hi (fun j => A.get_set id j _) hwr ?_ (fun _ _ _ h => by cases h)⟩
  intro cs2 sz2 ro2 opn2 hx
  cases hx
  refine ⟨i, arr', t2, fz, ⟨hi, hr.opn_, hr.sz_, hwr.at_, by rw [hsz]; exact hr.asz, ?_, ?_, fun _ => ⟨(hr.own rfl).1, by rw [hsz]; exact (hr.own rfl).2⟩, (fun h => by cases h)⟩⟩
  · simp only [List.length_append, List.length_take, List.length_drop]; rw [hsz]; omega
  · intro j v hj
    rw [hget]
    by_cases h1 : j < off
    · rw [if_neg (by omega)]
      rw [List.getElem?_append_left (by simp; omega), List.getElem?_take_of_lt h1] at hj
      exact hr.cells _ _ hj
    · by_cases h2 : j < off + vs.length
      · rw [if_pos (by omega)]
        rw [List.getElem?_append_right (by simp; omega), List.length_take, show min off cs.length = off from by omega, List.getElem?_append_left (by omega)] at hj
        obtain ⟨v', h3, h4⟩ := hv.at_ _ _ hj
        exact ⟨v', by rw [← h3]; congr 1; omega, h4⟩
      · rw [if_neg (by omega)]
        rw [List.getElem?_append_right (by simp; omega), List.length_take, show min off cs.length = off from by omega, List.getElem?_append_right (by omega), List.getElem?_drop] at hj
        exact hr.cells j v (by rw [← hj]; congr 1; omega)
end
end Go.Abs
