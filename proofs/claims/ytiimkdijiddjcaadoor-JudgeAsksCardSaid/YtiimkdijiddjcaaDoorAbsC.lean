/- What an abstract memory says of the model's: each number stands for a block and a place in it. -/
import Derived.Test.YtiimkdijiddjcaaDoorAbsB
namespace Go.Abs
open Go

/- ## tables -/
theorem T.get_one {α : Type} (v : α) : ∀ (f i j : Nat), i < f → (T.one f i v).get j = if i = j then some v else none := by
  intro f
  induction f with
  | zero => intro i j h; omega
  | succ f ih =>
    intro i j h
    simp only [T.one, cond_eq_ite, Nat.beq_eq]
    by_cases h0 : i = 0
    · subst h0
      simp only [if_true, T.get, cond_eq_ite, Nat.beq_eq]
      by_cases hj : j = 0
      · simp [hj]
      · simp only [hj, if_false, if_neg (fun h : 0 = j => hj h.symm)]
        split <;> rfl
    · simp only [h0, if_false]
      have hd : Nat.div i 2 = i / 2 := rfl
      have hm : Nat.mod i 2 = i % 2 := rfl
      have hs : Nat.sub (i / 2) 1 = i / 2 - 1 := rfl
      have hd' : Nat.div j 2 = j / 2 := rfl
      have hm' : Nat.mod j 2 = j % 2 := rfl
      have hs' : Nat.sub (j / 2) 1 = j / 2 - 1 := rfl
      rw [hd, hm, hs]
      by_cases h1 : i % 2 = 1
      · simp only [h1, if_true, T.get, cond_eq_ite, Nat.beq_eq, hd', hm']
        by_cases hj : j = 0
        · simp only [hj, if_true]; rw [if_neg h0]
        · simp only [hj, if_false]
          by_cases hj1 : j % 2 = 1
          · simp only [hj1, if_true]; rw [ih _ _ (by omega)]
            by_cases e : i = j
            · subst e; simp
            · rw [if_neg e, if_neg (by omega)]
          · simp only [hj1, if_false]; rw [if_neg (by intro e; subst e; exact hj1 h1)]
      · simp only [h1, if_false, T.get, cond_eq_ite, Nat.beq_eq, hd', hm', hs']
        by_cases hj : j = 0
        · simp only [hj, if_true]; rw [if_neg h0]
        · simp only [hj, if_false]
          by_cases hj1 : j % 2 = 1
          · simp only [hj1, if_true]; rw [if_neg (by intro e; subst e; exact h1 hj1)]
          · simp only [hj1, if_false]; rw [ih _ _ (by omega)]
            by_cases e : i = j
            · subst e; simp
            · rw [if_neg e, if_neg (by omega)]

theorem T.get_put {α : Type} (v : α) : ∀ (t : T α) (i j : Nat), (t.put i v).get j = if i = j then some v else t.get j := by
  intro t
  induction t with
  | e => intro i j; simp only [T.put]; rw [T.get_one v _ _ _ (by omega)]; simp [T.get]
  | nd w l r ihl ihr =>
    intro i j
    have hd : Nat.div i 2 = i / 2 := rfl
    have hm : Nat.mod i 2 = i % 2 := rfl
    have hs : Nat.sub (i / 2) 1 = i / 2 - 1 := rfl
    have hd' : Nat.div j 2 = j / 2 := rfl
    have hm' : Nat.mod j 2 = j % 2 := rfl
    have hs' : Nat.sub (j / 2) 1 = j / 2 - 1 := rfl
    simp only [T.put, cond_eq_ite, Nat.beq_eq]
    by_cases h0 : i = 0
    · subst h0
      simp only [if_true, T.get, cond_eq_ite, Nat.beq_eq]
      by_cases hj : j = 0
      · simp [hj]
      · simp only [hj, if_false, if_neg (fun h : 0 = j => hj h.symm)]
    · simp only [h0, if_false]
      rw [hd, hm, hs]
      by_cases h1 : i % 2 = 1
      · simp only [h1, if_true, T.get, cond_eq_ite, Nat.beq_eq, hd', hm', hs']
        by_cases hj : j = 0
        · simp only [hj, if_true]; rw [if_neg h0]
        · simp only [hj, if_false]
          by_cases hj1 : j % 2 = 1
          · simp only [hj1, if_true]; rw [ihl]
            by_cases e : i = j
            · subst e; simp
            · rw [if_neg e, if_neg (by omega)]
          · simp only [hj1, if_false]; rw [if_neg (by intro e; subst e; exact hj1 h1)]
      · simp only [h1, if_false, T.get, cond_eq_ite, Nat.beq_eq, hd', hm', hs']
        by_cases hj : j = 0
        · simp only [hj, if_true]; rw [if_neg h0]
        · simp only [hj, if_false]
          by_cases hj1 : j % 2 = 1
          · simp only [hj1, if_true]; rw [if_neg (by intro e; subst e; exact h1 hj1)]
          · simp only [hj1, if_false]; rw [ihr]
            by_cases e : i = j
            · subst e; simp
            · rw [if_neg e, if_neg (by omega)]

theorem AHeap.get_set (A : AHeap) (i j : Nat) (x : AObj) : (A.set i x).get j = if i = j then some x else A.get j := T.get_put x _ _ _
theorem AHeap.get_new (A : AHeap) (j : Nat) (x : AObj) : (A.new x).get j = if A.next = j then some x else A.get j := T.get_put x _ _ _
theorem lget_lput (fr : Fr) (i j : Nat) (v : Value) : lget (lput fr i v) j = if i = j then v else lget fr j := by
  unfold lget lput; rw [T.get_put]; by_cases h : i = j <;> simp [h]

/- ## relations -/
inductive All2 {α β : Type} (R : α → β → Prop) : List α → List β → Prop where
  | nil : All2 R [] []
  | cons {a b as bs} (h : R a b) (t : All2 R as bs) : All2 R (a :: as) (b :: bs)

section
variable {α β : Type} {R R' : α → β → Prop}
theorem All2.length {as : List α} {bs : List β} (h : All2 R as bs) : bs.length = as.length := by induction h <;> simp_all
theorem All2.mono (hr : ∀ a b, R a b → R' a b) {as : List α} {bs : List β} (h : All2 R as bs) : All2 R' as bs := by
  induction h with
  | nil => exact .nil
  | cons h _ ih => exact .cons (hr _ _ h) ih
theorem All2.append {as cs : List α} {bs ds : List β} (h : All2 R as bs) (k : All2 R cs ds) : All2 R (as ++ cs) (bs ++ ds) := by
  induction h with
  | nil => exact k
  | cons h _ ih => exact .cons h ih
theorem All2.at_ {as : List α} {bs : List β} (h : All2 R as bs) : ∀ (j : Nat) (a : α), as[j]? = some a → ∃ b, bs[j]? = some b ∧ R a b := by
  induction h with
  | nil => intro j a h; simp at h
  | cons h _ ih =>
    intro j a hj
    cases j with
    | zero => simp at hj; subst hj; exact ⟨_, rfl, h⟩
    | succ j => simpa using ih j a (by simpa using hj)
theorem All2.mk : ∀ {as : List α} {bs : List β}, bs.length = as.length → (∀ (j : Nat) (a : α), as[j]? = some a → ∃ b, bs[j]? = some b ∧ R a b) → All2 R as bs
  | [], [], _, _ => .nil
  | [], _ :: _, h, _ => by simp at h
  | _ :: _, [], h, _ => by simp at h
  | a :: as, b :: bs, hl, h => by
    obtain ⟨b', hb, hr⟩ := h 0 a rfl
    simp at hb; subst hb
    exact .cons hr (All2.mk (by simpa using hl) fun j a hj => by simpa using h (j + 1) a (by simpa using hj))
theorem All2.take {as : List α} {bs : List β} (h : All2 R as bs) : ∀ n : Nat, All2 R (as.take n) (bs.take n) := by
  induction h with
  | nil => intro n; simpa using .nil
  | cons h _ ih =>
    intro n
    cases n with
    | zero => exact .nil
    | succ n => exact .cons h (ih n)
theorem All2.drop {as : List α} {bs : List β} (h : All2 R as bs) : ∀ n : Nat, All2 R (as.drop n) (bs.drop n) := by
  induction h with
  | nil => intro n; simpa using .nil
  | cons h t ih =>
    intro n
    cases n with
    | zero => exact .cons h t
    | succ n => exact ih n
theorem All2.set {as : List α} {bs : List β} (h : All2 R as bs) {a : α} {b : β} (hr : R a b) : ∀ n : Nat, All2 R (as.set n a) (bs.set n b) := by
  induction h with
  | nil => intro n; exact .nil
  | cons h t ih =>
    intro n
    cases n with
    | zero => exact .cons hr t
    | succ n => exact .cons h (ih n)
theorem All2.eraseIdx {as : List α} {bs : List β} (h : All2 R as bs) : ∀ n : Nat, All2 R (as.eraseIdx n) (bs.eraseIdx n) := by
  induction h with
  | nil => intro n; exact .nil
  | cons h t ih =>
    intro n
    cases n with
    | zero => exact t
    | succ n => exact .cons h (ih n)
theorem All2.map {γ δ : Type} {S : γ → δ → Prop} {f : α → γ} {g : β → δ} {as : List α} {bs : List β} (h : All2 R as bs) (hf : ∀ a b, R a b → S (f a) (g b)) : All2 S (as.map f) (bs.map g) := by
  induction h with
  | nil => exact .nil
  | cons h _ ih => exact .cons (hf _ _ h) ih
theorem All2.diag {R : α → α → Prop} {as : List α} (h : ∀ a ∈ as, R a a) : All2 R as as := by
  induction as with
  | nil => exact .nil
  | cons a as ih => exact .cons (h a (by simp)) (ih fun x hx => h x (by simp [hx]))
end

structure Info where
  blk : Nat
  base : Nat
  sz : Nat
  asz : Nat
  opn : Bool
abbrev Mu := Nat → Option Info

/-- a value without an address, or a pointer -/
inductive PR (μ : Mu) : Value → Value → Prop where
  | plain {v : Value} (h : plain1 v = true) : PR μ v v
  | ptr {id off : Nat} {i : Info} (h : μ id = some i) : PR μ (.pointer (some ⟨id, off, none⟩)) (.pointer (some ⟨i.blk, i.base + off, none⟩))
/-- values of one cell -/
inductive SR (μ : Mu) : Value → Value → Prop where
  | plain {v : Value} (h : plain1 v = true) : SR μ v v
  | ptr {id off : Nat} {i : Info} (h : μ id = some i) : SR μ (.pointer (some ⟨id, off, none⟩)) (.pointer (some ⟨i.blk, i.base + off, none⟩))
  | slx {id off off' len cap : Nat} {i : Info} (h : μ id = some i) (hc : cap < capInf) (hd : off' = i.base + off ∨ (cap = 0 ∧ len = 0)) : SR μ (.slice (some ⟨id, off, none⟩) len cap) (.slice (some ⟨i.blk, off', none⟩) len cap)
  | slo {id off len c off' cap' : Nat} {i : Info} (h : μ id = some i) (ho : i.opn = true) (hl : len ≤ c) (hc0 : c < capInf) (hc : c ≤ cap') (hd : cap' = 0 ∨ (off' = i.base + off ∧ off' + cap' * i.sz ≤ i.asz)) :
      SR μ (.slice (some ⟨id, off, none⟩) len (capInf * (i.sz + 1) + c)) (.slice (some ⟨i.blk, off', none⟩) len cap')
  | map {id : Nat} {i : Info} (h : μ id = some i) : SR μ (.map (some id)) (.map (some i.blk))
  | fn {f : FuncId} {cs cs' : List Value} (h : All2 (PR μ) cs cs') : SR μ (.func (.func f) #[] cs.toArray) (.func (.func f) #[] cs'.toArray)
inductive V1 (μ : Mu) : Value → Value → Prop where
  | s {v v' : Value} (h : SR μ v v') : V1 μ v v'
  | agg {cs cs' : List Value} (h : All2 (SR μ) cs cs') : V1 μ (.agg cs.toArray) (.agg cs'.toArray)
inductive VR (μ : Mu) : Value → Value → Prop where
  | one {v v' : Value} (h : V1 μ v v') : VR μ v v'
  | tup {cs cs' : List Value} (h : All2 (V1 μ) cs cs') : VR μ (.tuple cs.toArray) (.tuple cs'.toArray)

def Mu.le (μ μ' : Mu) : Prop := ∀ id i, μ id = some i → μ' id = some i
theorem Mu.le_refl (μ : Mu) : μ.le μ := fun _ _ h => h
theorem Mu.le_trans {a b c : Mu} (h : a.le b) (k : b.le c) : a.le c := fun _ _ x => k _ _ (h _ _ x)

section
variable {μ μ' : Mu}
theorem PR.mono (hm : μ.le μ') {v v' : Value} (h : PR μ v v') : PR μ' v v' := by
  cases h with
  | plain h => exact .plain h
  | ptr h => exact .ptr (hm _ _ h)
theorem PR.sr {v v' : Value} (h : PR μ v v') : SR μ v v' := by
  cases h with
  | plain h => exact .plain h
  | ptr h => exact .ptr h
theorem SR.mono (hm : μ.le μ') {v v' : Value} (h : SR μ v v') : SR μ' v v' := by
  cases h with
  | plain h => exact .plain h
  | ptr h => exact .ptr (hm _ _ h)
  | slx h hc hd => exact .slx (hm _ _ h) hc hd
  | slo h ho hl hc0 hc hd => exact .slo (hm _ _ h) ho hl hc0 hc hd
  | map h => exact .map (hm _ _ h)
  | fn h => exact .fn (h.mono fun _ _ => PR.mono hm)
theorem V1.mono (hm : μ.le μ') {v v' : Value} (h : V1 μ v v') : V1 μ' v v' := by
  cases h with
  | s h => exact .s (h.mono hm)
  | agg h => exact .agg (h.mono fun _ _ => SR.mono hm)
theorem VR.mono (hm : μ.le μ') {v v' : Value} (h : VR μ v v') : VR μ' v v' := by
  cases h with
  | one h => exact .one (h.mono hm)
  | tup h => exact .tup (h.mono fun _ _ => V1.mono hm)
theorem VR.sr {v v' : Value} (h : SR μ v v') : VR μ v v' := .one (.s h)
theorem VR.undef_ : VR μ undef undef := .tup .nil
end

def wrO : Option AObj → Prop
  | some (.row _ _ false _) => True
  | some (.map _ _ _) => True
  | _ => False
def aliveO : Option AObj → Prop
  | some (.row _ _ _ _) => True
  | some (.map _ _ _) => True
  | _ => False

def EntR (μ : Mu) (kk : KK) (e e' : MapEntry) : Prop := e'.key = e.key ∧ kk.ok e.key = true ∧ e'.born = e.born ∧ SR μ e.val e'.val

structure RowAt (B0 : Nat) (μ : Mu) (w : World) (id : Nat) (cs : List Value) (sz : Nat) (ro opn : Bool) (i : Info) (arr : Array Value) (t : TypeId) (fz : Nat × Nat) : Prop where
  mu : μ id = some i
  opn_ : i.opn = opn
  sz_ : opn = true → i.sz = sz
  heap : w.heap[i.blk]? = some (.cells arr t fz)
  asz : i.asz = arr.size
  len : i.base + cs.length ≤ arr.size
  cells : ∀ (j : Nat) v, cs[j]? = some v → ∃ v', arr[i.base + j]? = some v' ∧ SR μ v v'
  own : ro = false → B0 ≤ i.blk ∧ ∀ off, off < arr.size → ¬ (fz.1 ≤ off ∧ off < fz.2)
  old : ro = true → i.blk < B0

structure MapAt (B0 : Nat) (μ : Mu) (w : World) (id : Nat) (kk : KK) (es : List MapEntry) (clock : Nat) (i : Info) (es' : Array MapEntry) : Prop where
  mu : μ id = some i
  own : B0 ≤ i.blk
  heap : w.heap[i.blk]? = some (.map es' clock)
  ents : All2 (EntR μ kk) es es'.toList

abbrev G := Nat → Option AObj
structure Rep (B0 : Nat) (μ : Mu) (g : G) (w : World) : Prop where
  row : ∀ id cs sz ro opn, g id = some (.row cs sz ro opn) → ∃ i arr t fz, RowAt B0 μ w id cs sz ro opn i arr t fz
  map : ∀ id kk es clock, g id = some (.map kk es clock) → ∃ i es', MapAt B0 μ w id kk es clock i es'
  sep : ∀ id1 id2 i1 i2, id1 ≠ id2 → wrO (g id1) → aliveO (g id2) → μ id1 = some i1 → μ id2 = some i2 → i1.blk ≠ i2.blk

/-- what has become of the memory: 'lo', 'hi': the new numbers -/
structure Out (B0 : Nat) (μ : Mu) (g : G) (w : World) (lo hi : Nat) (μ' : Mu) (g' : G) (w' : World) : Prop where
  ext : μ.le μ'
  gap : ∀ id i, μ' id = some i → μ id = some i ∨ (lo ≤ id ∧ id < hi)
  rep : Rep B0 μ' g' w'
  os : w'.os = w.os
  tape : w'.tape = w.tape
  output : w'.output = w.output
  size : w.heap.size ≤ w'.heap.size
  keep : ∀ b, b < w.heap.size → (∀ id i, wrO (g id) → μ id = some i → i.blk ≠ b) → w'.heap[b]? = w.heap[b]?
  own : ∀ id i, wrO (g' id) → μ' id = some i → w.heap.size ≤ i.blk ∨ ∃ id0 i0, wrO (g id0) ∧ μ id0 = some i0 ∧ i0.blk = i.blk

theorem Out.refl {B0 : Nat} {μ : Mu} {g : G} {w : World} (h : Rep B0 μ g w) (lo hi : Nat) : Out B0 μ g w lo hi μ g w :=
  ⟨Mu.le_refl _, fun _ _ h => .inl h, h, rfl, rfl, rfl, Nat.le_refl _, fun _ _ _ => rfl, fun id i hw hm => .inr ⟨id, i, hw, hm, rfl⟩⟩

theorem Out.trans {B0 : Nat} {μ μ1 μ2 : Mu} {g g1 g2 : G} {w w1 w2 : World} {a b c : Nat} (hab : a ≤ b) (hbc : b ≤ c) (h : Out B0 μ g w a b μ1 g1 w1) (k : Out B0 μ1 g1 w1 b c μ2 g2 w2) : Out B0 μ g w a c μ2 g2 w2 := by
  refine ⟨Mu.le_trans h.ext k.ext, ?_, k.rep, k.os.trans h.os, k.tape.trans h.tape, k.output.trans h.output, Nat.le_trans h.size k.size, ?_, ?_⟩
  · intro id i hi
    rcases k.gap id i hi with h1 | ⟨h1, h2⟩
    · rcases h.gap id i h1 with h0 | ⟨h3, h4⟩
      · exact .inl h0
      · exact .inr ⟨h3, Nat.lt_of_lt_of_le h4 hbc⟩
    · exact .inr ⟨Nat.le_trans hab h1, h2⟩
  · intro b hb hne
    rw [k.keep b (Nat.lt_of_lt_of_le hb h.size), h.keep b hb hne]
    intro id i hw hm he
    rcases h.own id i hw hm with h1 | ⟨id0, i0, hw0, hm0, he0⟩
    · omega
    · exact hne id0 i0 hw0 hm0 (he0.trans he)
  · intro id i hw hm
    rcases k.own id i hw hm with h1 | ⟨id1, i1, hw1, hm1, he1⟩
    · exact .inl (Nat.le_trans h.size h1)
    · rcases h.own id1 i1 hw1 hm1 with h2 | ⟨id0, i0, hw0, hm0, he0⟩
      · exact .inl (by omega)
      · exact .inr ⟨id0, i0, hw0, hm0, he0.trans he1⟩

/-- the same words, of a world that has drawn -/
theorem Rep.drew {B0 : Nat} {μ : Mu} {g : G} {w w' : World} (h : Rep B0 μ g w) (hh : w'.heap = w.heap) : Rep B0 μ g w' := by
  refine ⟨fun id cs sz ro opn hg => ?_, fun id kk es clock hg => ?_, h.sep⟩
  · obtain ⟨i, arr, t, fz, hr⟩ := h.row id cs sz ro opn hg
    exact ⟨i, arr, t, fz, ⟨hr.mu, hr.opn_, hr.sz_, by rw [hh]; exact hr.heap, hr.asz, hr.len, hr.cells, hr.own, hr.old⟩⟩
  · obtain ⟨i, es', hr⟩ := h.map id kk es clock hg
    exact ⟨i, es', ⟨hr.mu, hr.own, by rw [hh]; exact hr.heap, hr.ents⟩⟩
end Go.Abs
