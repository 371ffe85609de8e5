/- The judge on the abstract machine: how its court lies in memory, and what becomes of it by each write. -/
import Derived.Test.YtiimkdijiddjcaaDoorAbsSm
import Derived.Test.YtiimkdijiddjcaaDoorJRchk
set_option linter.unusedSimpArgs false
namespace Go.Proofs.YtiimkdijiddjcaaDoor
set_option linter.unusedSimpArgs false
set_option linter.unusedVariables false
set_option linter.unusedSectionVars false
set_option linter.defProp false
open Go Go.Abs JP

instance : Enc Line where
  kk := .agg [.int .i64, .int .i64, .str]
  enc t := .agg #[iv t.1, iv t.2.1, sv t.2.2]
  ok t := rfl
  eq s t := by
    obtain ⟨a, b, c⟩ := s; obtain ⟨a', b', c'⟩ := t
    simp [keq, ceqs, ceq_int, ceq_str, Bool.decide_and]
instance : Enc Lock where
  kk := .agg [.int .i64, .str]
  enc t := .agg #[iv t.1, sv t.2]
  ok t := rfl
  eq s t := by
    obtain ⟨a, c⟩ := s; obtain ⟨a', c'⟩ := t
    simp [keq, ceqs, ceq_int, ceq_str, Bool.decide_and]
instance : Enc Tg where
  kk := .agg [.int .i64, .int .i64, .int .i64]
  enc t := .agg #[iv t.1, iv t.2.1, iv t.2.2]
  ok t := rfl
  eq s t := by
    obtain ⟨a, b, c⟩ := s; obtain ⟨a', b', c'⟩ := t
    simp [keq, ceqs, ceq_int, Bool.decide_and]

/-- what a number stands for -/
inductive Role where
  | no | crt | mB | mA | mH | mO | mC | ord | lb (l : Line) | la (l : Line) | b (i : Nat) | x (i : Nat)
structure Lay where
  role : Nat → Role
  mb : Nat
  ma : Nat
  mh : Nat
  mo : Nat
  mc : Nat
  vb : Line → Value
  va : Line → Value
  ov : Value
  ib : Nat → Nat
  ix : Nat → Nat

def kbV (b : KB) : List Value := [iv b.from_, iv b.to_, iv b.state]
def kxV (ib : Nat → Nat) (x : KX) : List Value := [iv x.pub, iv x.seq, sv x.key, sv x.body, bv false, pv (ib x.b), bv x.dl, bv x.ak, bv x.se]
theorem kb0 (b : KB) : (kbV b)[0]? = some (iv b.from_) := rfl
theorem kb1 (b : KB) : (kbV b)[1]? = some (iv b.to_) := rfl
theorem kb2 (b : KB) : (kbV b)[2]? = some (iv b.state) := rfl
section
variable (ib : Nat → Nat) (x : KX)
theorem kx0 : (kxV ib x)[0]? = some (iv x.pub) := rfl
theorem kx1 : (kxV ib x)[1]? = some (iv x.seq) := rfl
theorem kx2 : (kxV ib x)[2]? = some (sv x.key) := rfl
theorem kx3 : (kxV ib x)[3]? = some (sv x.body) := rfl
theorem kx4 : (kxV ib x)[4]? = some (bv false) := rfl
theorem kx5 : (kxV ib x)[5]? = some (pv (ib x.b)) := rfl
theorem kx6 : (kxV ib x)[6]? = some (bv x.dl) := rfl
theorem kx7 : (kxV ib x)[7]? = some (bv x.ak) := rfl
theorem kx8 : (kxV ib x)[8]? = some (bv x.se) := rfl
end
def ptrO (ix : Nat → Nat) : Option Nat → Value
  | some i => pv (ix i)
  | none => .pointer none
def crtV (L : Lay) (k : K) : List Value := [.map (some L.mb), .map (some L.ma), L.ov, .map (some L.mh), .map (some L.mo), .map (some L.mc)] ++ k.last.map iv

structure KR (c lo : Nat) (k : K) (L : Lay) (A : AHeap) : Prop where
  last : k.last.length = 4
  crt : A.get c = some (.row (crtV L k) 10 false false)
  ord : Sl A 1 L.ov ((List.range k.xs.length).map fun i => pv (L.ix i))
  bs : ∀ i b, k.bs[i]? = some b → A.get (L.ib i) = some (.row (kbV b) 3 false false)
  xs : ∀ i x, k.xs[i]? = some x → A.get (L.ix i) = some (.row (kxV L.ib x) 9 false false)
  mB : MapFn A L.mb (.slice none 0 0) L.vb
  mA : MapFn A L.ma (.slice none 0 0) L.va
  sB : ∀ l, Sl A 1 (L.vb l) ((k.batches l).map fun i => pv (L.ib i))
  sA : ∀ l, Sl A 1 (L.va l) ((k.all l).map fun i => pv (L.ix i))
  mH : MapFn A L.mh (bv false) (fun t : Lock => bv (k.held t))
  mO : MapFn A L.mo (.pointer none) (fun t : Tg => ptrO L.ix (k.holds t))
  mC : MapFn A L.mc (.pointer none) (fun t : Tg => ptrO L.ix (k.acks t))
  rc : L.role c = .crt
  rmb : L.role L.mb = .mB
  rma : L.role L.ma = .mA
  rmh : L.role L.mh = .mH
  rmo : L.role L.mo = .mO
  rmc : L.role L.mc = .mC
  rov : ∀ r ∈ rowL L.ov, L.role r = .ord
  rvb : ∀ l, ∀ r ∈ rowL (L.vb l), L.role r = .lb l
  rva : ∀ l, ∀ r ∈ rowL (L.va l), L.role r = .la l
  rib : ∀ i, i < k.bs.length → L.role (L.ib i) = .b i
  rix : ∀ i, i < k.xs.length → L.role (L.ix i) = .x i
  lt : ∀ id, L.role id ≠ .no → lo ≤ id ∧ id < A.next
  wb : ∀ l, ∀ i ∈ k.batches l, i < k.bs.length
  wa : ∀ l, ∀ i ∈ k.all l, i < k.xs.length
  wx : ∀ x ∈ k.xs, x.b < k.bs.length
  wo : ∀ t i, k.holds t = some i → i < k.xs.length
  wc : ∀ t i, k.acks t = some i → i < k.xs.length

/-- all of other roles stays -/
def KeepR (L : Lay) (P : Role → Prop) (A A' : AHeap) : Prop := A.next ≤ A'.next ∧ ∀ id, id < A.next → ¬ P (L.role id) → A'.get id = A.get id
theorem KeepR.of {L : Lay} {P : Role → Prop} {A A' : AHeap} {own : List Nat} (h : Keep own A A') (hp : ∀ id ∈ own, P (L.role id)) : KeepR L P A A' :=
  ⟨h.next, fun id hl hn => h.get id hl fun hi => hn (hp id hi)⟩
theorem KeepR.trans {L : Lay} {P : Role → Prop} {A B C : AHeap} (h : KeepR L P A B) (k : KeepR L P B C) : KeepR L P A C :=
  ⟨Nat.le_trans h.1 k.1, fun id hl hn => (k.2 id (Nat.lt_of_lt_of_le hl h.1) hn).trans (h.2 id hl hn)⟩

section
variable {c lo : Nat} {k : K} {L : Lay} {A A' : AHeap} {P : Role → Prop}
theorem KR.ltN (h : KR c lo k L A) {id : Nat} {r : Role} (hr : L.role id = r) (hn : r ≠ .no) : id < A.next := (h.lt id (by rw [hr]; exact hn)).2
theorem KR.gt (h : KR c lo k L A) (hk : KeepR L P A A') {id : Nat} {r : Role} (hr : L.role id = r) (hp : ¬ P r) (hn : r ≠ .no) : A'.get id = A.get id := hk.2 id (h.ltN hr hn) (by rw [hr]; exact hp)
theorem KR.sl (h : KR c lo k L A) (hk : KeepR L P A A') {sz : Nat} {v : Value} {cs : List Value} (hs : Sl A sz v cs) {r : Role} (hr : ∀ x ∈ rowL v, L.role x = r) (hp : ¬ P r) (hn : r ≠ .no) : Sl A' sz v cs := by
  cases hs with
  | nil => exact .nil
  | emp hg => exact .emp ((h.gt hk (hr _ (by simp [rowL])) hp hn).trans hg)
  | own hg hl => exact .own ((h.gt hk (hr _ (by simp [rowL])) hp hn).trans hg) hl
/-- nothing of it is written -/
theorem KR.keep (h : KR c lo k L A) {own : List Nat} (hk : Keep own A A') (hd : ∀ id ∈ own, L.role id = .no) : KR c lo k L A' := by
  have hr : KeepR L (· = .no) A A' := .of hk hd
  exact { h with
    crt := (h.gt hr h.rc (by simp) (by simp)).trans h.crt
    ord := h.sl hr h.ord h.rov (by simp) (by simp)
    bs := fun i b hb => (h.gt hr (h.rib i (List.getElem?_eq_some_iff.1 hb).1) (by simp) (by simp)).trans (h.bs i b hb)
    xs := fun i b hb => (h.gt hr (h.rix i (List.getElem?_eq_some_iff.1 hb).1) (by simp) (by simp)).trans (h.xs i b hb)
    mB := h.mB.of_get (h.gt hr h.rmb (by simp) (by simp))
    mA := h.mA.of_get (h.gt hr h.rma (by simp) (by simp))
    sB := fun l => h.sl hr (h.sB l) (h.rvb l) (by simp) (by simp)
    sA := fun l => h.sl hr (h.sA l) (h.rva l) (by simp) (by simp)
    mH := h.mH.of_get (h.gt hr h.rmh (by simp) (by simp))
    mO := h.mO.of_get (h.gt hr h.rmo (by simp) (by simp))
    mC := h.mC.of_get (h.gt hr h.rmc (by simp) (by simp))
    lt := fun id hi => ⟨(h.lt id hi).1, Nat.lt_of_lt_of_le (h.lt id hi).2 hr.1⟩ }
/-- a batch is written anew -/
theorem KR.setB (h : KR c lo k L A) {i : Nat} (hi : i < k.bs.length) (b : KB) : KR c lo { k with bs := k.bs.set i b } L (A.set (L.ib i) (.row (kbV b) 3 false false)) := by
  have hr : KeepR L (· = .b i) A (A.set (L.ib i) (.row (kbV b) 3 false false)) := .of (Keep.set (own := [L.ib i]) _ (.inl (by simp))) (by simp only [List.mem_singleton, forall_eq]; exact h.rib i hi)
  exact { h with
    crt := (h.gt hr h.rc (by simp) (by simp)).trans h.crt
    ord := h.sl hr h.ord h.rov (by simp) (by simp)
    bs := fun i' b' hb => by
      simp only [List.getElem?_set] at hb
      by_cases e : i = i'
      · subst e; simp [hi] at hb; subst hb; exact AHeap.set_get
      · simp [e] at hb
        exact (h.gt hr (h.rib i' (List.getElem?_eq_some_iff.1 hb).1) (by simp; omega) (by simp)).trans (h.bs i' b' hb)
    xs := fun i b hb => (h.gt hr (h.rix i (List.getElem?_eq_some_iff.1 hb).1) (by simp) (by simp)).trans (h.xs i b hb)
    mB := h.mB.of_get (h.gt hr h.rmb (by simp) (by simp))
    mA := h.mA.of_get (h.gt hr h.rma (by simp) (by simp))
    sB := fun l => h.sl hr (h.sB l) (h.rvb l) (by simp) (by simp)
    sA := fun l => h.sl hr (h.sA l) (h.rva l) (by simp) (by simp)
    mH := h.mH.of_get (h.gt hr h.rmh (by simp) (by simp))
    mO := h.mO.of_get (h.gt hr h.rmo (by simp) (by simp))
    mC := h.mC.of_get (h.gt hr h.rmc (by simp) (by simp))
    rib := fun i hi => h.rib i (by simpa using hi)
    wb := fun l i hi => by simpa using h.wb l i hi
    wx := fun x hx => by simpa using h.wx x hx }
/-- a message is written anew -/
theorem KR.setX (h : KR c lo k L A) {i : Nat} (hi : i < k.xs.length) (b : KX) (hb : b.b < k.bs.length) : KR c lo { k with xs := k.xs.set i b } L (A.set (L.ix i) (.row (kxV L.ib b) 9 false false)) := by
  have hr : KeepR L (· = .x i) A (A.set (L.ix i) (.row (kxV L.ib b) 9 false false)) := .of (Keep.set (own := [L.ix i]) _ (.inl (by simp))) (by simp only [List.mem_singleton, forall_eq]; exact h.rix i hi)
  exact { h with
    crt := (h.gt hr h.rc (by simp) (by simp)).trans h.crt
    ord := by simpa using h.sl hr h.ord h.rov (by simp) (by simp)
    xs := fun i' b' hb => by
      simp only [List.getElem?_set] at hb
      by_cases e : i = i'
      · subst e; simp [hi] at hb; subst hb; exact AHeap.set_get
      · simp [e] at hb
        exact (h.gt hr (h.rix i' (List.getElem?_eq_some_iff.1 hb).1) (by simp; omega) (by simp)).trans (h.xs i' b' hb)
    bs := fun i b hb => (h.gt hr (h.rib i (List.getElem?_eq_some_iff.1 hb).1) (by simp) (by simp)).trans (h.bs i b hb)
    mB := h.mB.of_get (h.gt hr h.rmb (by simp) (by simp))
    mA := h.mA.of_get (h.gt hr h.rma (by simp) (by simp))
    sB := fun l => h.sl hr (h.sB l) (h.rvb l) (by simp) (by simp)
    sA := fun l => h.sl hr (h.sA l) (h.rva l) (by simp) (by simp)
    mH := h.mH.of_get (h.gt hr h.rmh (by simp) (by simp))
    mO := h.mO.of_get (h.gt hr h.rmo (by simp) (by simp))
    mC := h.mC.of_get (h.gt hr h.rmc (by simp) (by simp))
    rix := fun i hi => h.rix i (by simpa using hi)
    wa := fun l i hi => by simpa using h.wa l i hi
    wx := fun x hx => by
      rcases List.mem_or_eq_of_mem_set hx with hx | rfl
      · exact h.wx x hx
      · exact hb
    wo := fun t i hi => by simpa using h.wo t i hi
    wc := fun t i hi => by simpa using h.wc t i hi }
/-- the highest tags are written anew -/
theorem KR.setLast (h : KR c lo k L A) (t : List Int) (ht : t.length = 4) : KR c lo { k with last := t } L (A.set c (.row (crtV L { k with last := t }) 10 false false)) := by
  have hr : KeepR L (· = .crt) A (A.set c (.row (crtV L { k with last := t }) 10 false false)) := .of (Keep.set (own := [c]) _ (.inl (by simp))) (by simp only [List.mem_singleton, forall_eq]; exact h.rc)
  exact { h with
    last := ht
    crt := AHeap.set_get
    ord := h.sl hr h.ord h.rov (by simp) (by simp)
    bs := fun i b hb => (h.gt hr (h.rib i (List.getElem?_eq_some_iff.1 hb).1) (by simp) (by simp)).trans (h.bs i b hb)
    xs := fun i b hb => (h.gt hr (h.rix i (List.getElem?_eq_some_iff.1 hb).1) (by simp) (by simp)).trans (h.xs i b hb)
    mB := h.mB.of_get (h.gt hr h.rmb (by simp) (by simp))
    mA := h.mA.of_get (h.gt hr h.rma (by simp) (by simp))
    sB := fun l => h.sl hr (h.sB l) (h.rvb l) (by simp) (by simp)
    sA := fun l => h.sl hr (h.sA l) (h.rva l) (by simp) (by simp)
    mH := h.mH.of_get (h.gt hr h.rmh (by simp) (by simp))
    mO := h.mO.of_get (h.gt hr h.rmo (by simp) (by simp))
    mC := h.mC.of_get (h.gt hr h.rmc (by simp) (by simp)) }
/-- the map of what is held -/
theorem KR.setH (h : KR c lo k L A) (hn : A'.next = A.next) (hk : Keep [L.mh] A A') (f : Lock → Bool) (hf : MapFn A' L.mh (bv false) (fun t : Lock => bv (f t))) : KR c lo { k with held := f } L A' := by
  have hr : KeepR L (· = .mH) A A' := .of hk (by simp only [List.mem_singleton, forall_eq]; exact h.rmh)
  exact { h with
    crt := (h.gt hr h.rc (by simp) (by simp)).trans h.crt
    ord := h.sl hr h.ord h.rov (by simp) (by simp)
    bs := fun i b hb => (h.gt hr (h.rib i (List.getElem?_eq_some_iff.1 hb).1) (by simp) (by simp)).trans (h.bs i b hb)
    xs := fun i b hb => (h.gt hr (h.rix i (List.getElem?_eq_some_iff.1 hb).1) (by simp) (by simp)).trans (h.xs i b hb)
    mB := h.mB.of_get (h.gt hr h.rmb (by simp) (by simp))
    mA := h.mA.of_get (h.gt hr h.rma (by simp) (by simp))
    sB := fun l => h.sl hr (h.sB l) (h.rvb l) (by simp) (by simp)
    sA := fun l => h.sl hr (h.sA l) (h.rva l) (by simp) (by simp)
    mH := hf
    mO := h.mO.of_get (h.gt hr h.rmo (by simp) (by simp))
    mC := h.mC.of_get (h.gt hr h.rmc (by simp) (by simp))
    lt := fun id hi => by rw [hn]; exact h.lt id hi }
/-- the map of what clients hold -/
theorem KR.setO (h : KR c lo k L A) (hn : A'.next = A.next) (hk : Keep [L.mo] A A') (f : Tg → Option Nat) (hw : ∀ t i, f t = some i → i < k.xs.length) (hf : MapFn A' L.mo (.pointer none) (fun t : Tg => ptrO L.ix (f t))) : KR c lo { k with holds := f } L A' := by
  have hr : KeepR L (· = .mO) A A' := .of hk (by simp only [List.mem_singleton, forall_eq]; exact h.rmo)
  exact { h with
    crt := (h.gt hr h.rc (by simp) (by simp)).trans h.crt
    ord := h.sl hr h.ord h.rov (by simp) (by simp)
    bs := fun i b hb => (h.gt hr (h.rib i (List.getElem?_eq_some_iff.1 hb).1) (by simp) (by simp)).trans (h.bs i b hb)
    xs := fun i b hb => (h.gt hr (h.rix i (List.getElem?_eq_some_iff.1 hb).1) (by simp) (by simp)).trans (h.xs i b hb)
    mB := h.mB.of_get (h.gt hr h.rmb (by simp) (by simp))
    mA := h.mA.of_get (h.gt hr h.rma (by simp) (by simp))
    sB := fun l => h.sl hr (h.sB l) (h.rvb l) (by simp) (by simp)
    sA := fun l => h.sl hr (h.sA l) (h.rva l) (by simp) (by simp)
    mH := h.mH.of_get (h.gt hr h.rmh (by simp) (by simp))
    mO := hf
    mC := h.mC.of_get (h.gt hr h.rmc (by simp) (by simp))
    wo := hw
    lt := fun id hi => by rw [hn]; exact h.lt id hi }
/-- the map of what is acked -/
theorem KR.setC (h : KR c lo k L A) (hn : A'.next = A.next) (hk : Keep [L.mc] A A') (f : Tg → Option Nat) (hw : ∀ t i, f t = some i → i < k.xs.length) (hf : MapFn A' L.mc (.pointer none) (fun t : Tg => ptrO L.ix (f t))) : KR c lo { k with acks := f } L A' := by
  have hr : KeepR L (· = .mC) A A' := .of hk (by simp only [List.mem_singleton, forall_eq]; exact h.rmc)
  exact { h with
    crt := (h.gt hr h.rc (by simp) (by simp)).trans h.crt
    ord := h.sl hr h.ord h.rov (by simp) (by simp)
    bs := fun i b hb => (h.gt hr (h.rib i (List.getElem?_eq_some_iff.1 hb).1) (by simp) (by simp)).trans (h.bs i b hb)
    xs := fun i b hb => (h.gt hr (h.rix i (List.getElem?_eq_some_iff.1 hb).1) (by simp) (by simp)).trans (h.xs i b hb)
    mB := h.mB.of_get (h.gt hr h.rmb (by simp) (by simp))
    mA := h.mA.of_get (h.gt hr h.rma (by simp) (by simp))
    sB := fun l => h.sl hr (h.sB l) (h.rvb l) (by simp) (by simp)
    sA := fun l => h.sl hr (h.sA l) (h.rva l) (by simp) (by simp)
    mH := h.mH.of_get (h.gt hr h.rmh (by simp) (by simp))
    mO := h.mO.of_get (h.gt hr h.rmo (by simp) (by simp))
    mC := hf
    wc := hw
    lt := fun id hi => by rw [hn]; exact h.lt id hi }
end
theorem KR.four {c lo : Nat} {k : K} {L : Lay} {A : AHeap} (h : KR c lo k L A) : ∃ l0 l1 l2 l3, k.last = [l0, l1, l2, l3] ∧ A.get c = some (.row [.map (some L.mb), .map (some L.ma), L.ov, .map (some L.mh), .map (some L.mo), .map (some L.mc), iv l0, iv l1, iv l2, iv l3] 10 false false) := by
  have := h.last
  match hs : k.last, this with
  | [a, b, c, d], _ =>
    have hr := h.crt
    rw [crtV, hs] at hr
    exact ⟨_, _, _, _, rfl, hr⟩
/-- below lo all stays -/
def Below_ (lo : Nat) (A A' : AHeap) : Prop := A.next ≤ A'.next ∧ ∀ id, id < lo → A'.get id = A.get id
theorem Below_.of {lo : Nat} {A A' : AHeap} {own : List Nat} (h : Keep own A A') (hl : lo ≤ A.next) (ho : ∀ id ∈ own, lo ≤ id) : Below_ lo A A' :=
  ⟨h.next, fun id hi => h.get id (Nat.lt_of_lt_of_le hi hl) fun hm => by have := ho id hm; omega⟩
theorem Below_.trans {lo : Nat} {A B C : AHeap} (h : Below_ lo A B) (k : Below_ lo B C) : Below_ lo A C := ⟨Nat.le_trans h.1 k.1, fun id hi => (k.2 id hi).trans (h.2 id hi)⟩
theorem Below_.new {lo : Nat} (A : AHeap) (x : AObj) (hl : lo ≤ A.next) : Below_ lo A (A.new x) := Below_.of (Keep.new (own := []) A x) hl (by simp)
/-- what a call leaves of the court -/
def KPost (c lo : Nat) (r : Option K) (A : AHeap) (v : Value) (A' : AHeap) : Prop := v = bv r.isSome ∧ Below_ lo A A' ∧ ∀ k', r = some k' → ∃ L, KR c lo k' L A'
theorem ptrO_upd (ix : Nat → Nat) (f : Tg → Option Nat) (t : Tg) (o : Option Nat) : (fun s => ptrO ix (JP.upd f t o s)) = Go.Abs.upd (fun s => ptrO ix (f s)) t (ptrO ix o) := by
  funext s; simp only [JP.upd, Go.Abs.upd]; split <;> rfl
theorem bv_upd (f : Lock → Bool) (t : Lock) (o : Bool) : (fun s => bv (JP.upd f t o s)) = Go.Abs.upd (fun s => bv (f s)) t (bv o) := by
  funext s; simp only [JP.upd, Go.Abs.upd]; split <;> rfl
theorem upd_lt {f : Tg → Option Nat} {t : Tg} {o : Option Nat} {n : Nat} (h : ∀ t i, f t = some i → i < n) (ho : ∀ i, o = some i → i < n) : ∀ s i, JP.upd f t o s = some i → i < n := by
  intro s i hi
  simp only [JP.upd] at hi
  split at hi
  · exact ho i hi
  · exact h s i hi

/-- the rules of the judge's maps, as one -/
def kgs := And.intro (And.intro (And.intro @kb0 (And.intro @kb1 @kb2)) (And.intro @kx0 (And.intro @kx1 @kx2))) (And.intro (And.intro @kx3 (And.intro @kx4 @kx5)) (And.intro (And.intro @kx6 @kx7) (And.intro @kx8 @Nat.mul_one)))

end Go.Proofs.YtiimkdijiddjcaaDoor
