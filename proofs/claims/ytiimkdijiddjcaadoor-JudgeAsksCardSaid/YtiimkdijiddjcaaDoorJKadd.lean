/- The judge's court in memory: a batch more, a line's batch, a line's message. -/
import Derived.Test.YtiimkdijiddjcaaDoorJKdef
set_option linter.unusedSimpArgs false
namespace Go.Proofs.YtiimkdijiddjcaaDoor
set_option linter.unusedSimpArgs false
set_option linter.unusedVariables false
set_option linter.unusedSectionVars false
set_option linter.defProp false
open Go Go.Abs JP

def setR (f : Nat → Role) (i : Nat) (r : Role) : Nat → Role := fun x => if x = i then r else f x
theorem setR_eq (f : Nat → Role) (i : Nat) (r : Role) : setR f i r i = r := by simp [setR]
theorem setR_ne (f : Nat → Role) {i x : Nat} (r : Role) (h : x ≠ i) : setR f i r x = f x := by simp [setR, h]
def setN (f : Nat → Nat) (i r : Nat) : Nat → Nat := fun x => if x = i then r else f x
theorem setN_eq (f : Nat → Nat) (i r : Nat) : setN f i r i = r := by simp [setN]
theorem setN_ne (f : Nat → Nat) {i x : Nat} (r : Nat) (h : x ≠ i) : setN f i r x = f x := by simp [setN, h]

section
variable {c lo : Nat} {k : K} {L : Lay} {A A' : AHeap}
theorem KR.old (h : KR c lo k L A) {id n : Nat} {r : Role} (hr : L.role id = r) (hn : r ≠ .no) (hA : A.next ≤ n) : id ≠ n := by have := h.ltN hr hn; omega
theorem map_ib {ib : Nat → Nat} {l : List Nat} {n r : Nat} (h : ∀ i ∈ l, i < n) : (l.map fun i => pv (setN ib n r i)) = l.map fun i => pv (ib i) :=
  List.map_congr_left fun i hi => by have := h i hi; rw [setN_ne _ _ (by omega)]

/-- a batch more -/
theorem KR.addB (h : KR c lo k L A) (hlo : lo ≤ A.next) (b : KB) : KR c lo { k with bs := k.bs ++ [b] } { L with role := setR L.role A.next (.b k.bs.length), ib := setN L.ib k.bs.length A.next } (A.new (.row (kbV b) 3 false false)) := by
  have hr : KeepR L (· = .no) A (A.new (.row (kbV b) 3 false false)) := .of (Keep.new (own := []) _ _) (by simp)
  have ro : ∀ {id : Nat} {r : Role}, L.role id = r → r ≠ .no → setR L.role A.next (.b k.bs.length) id = r := fun hr hn => by rw [setR_ne _ _ (h.old hr hn (Nat.le_refl _))]; exact hr
  exact {
    last := h.last
    crt := (h.gt hr h.rc (by simp) (by simp)).trans h.crt
    ord := h.sl hr h.ord h.rov (by simp) (by simp)
    bs := fun i b' hb => by
      simp only [List.getElem?_append] at hb
      split at hb
      · rename_i hi
        simp only
        rw [setN_ne _ _ (by omega)]
        exact (h.gt hr (h.rib i hi) (by simp) (by simp)).trans (h.bs i b' hb)
      · rename_i hi
        have hi0 : i - k.bs.length = 0 := by
          cases hh : i - k.bs.length with
          | zero => rfl
          | succ m => rw [hh] at hb; simp at hb
        rw [hi0] at hb; simp at hb; subst hb
        have : i = k.bs.length := by omega
        subst this
        simp only [setN_eq]; exact AHeap.new_get
    xs := fun i x hx => by
      have hxb := h.wx x (List.mem_of_getElem? hx)
      have : kxV (setN L.ib k.bs.length A.next) x = kxV L.ib x := by simp only [kxV]; rw [setN_ne _ _ (by omega)]
      simp only [this]
      exact (h.gt hr (h.rix i (List.getElem?_eq_some_iff.1 hx).1) (by simp) (by simp)).trans (h.xs i x hx)
    mB := h.mB.of_get (h.gt hr h.rmb (by simp) (by simp))
    mA := h.mA.of_get (h.gt hr h.rma (by simp) (by simp))
    sB := fun l => by simp only [map_ib (h.wb l)]; exact h.sl hr (h.sB l) (h.rvb l) (by simp) (by simp)
    sA := fun l => h.sl hr (h.sA l) (h.rva l) (by simp) (by simp)
    mH := h.mH.of_get (h.gt hr h.rmh (by simp) (by simp))
    mO := h.mO.of_get (h.gt hr h.rmo (by simp) (by simp))
    mC := h.mC.of_get (h.gt hr h.rmc (by simp) (by simp))
    rc := ro h.rc (by simp)
    rmb := ro h.rmb (by simp)
    rma := ro h.rma (by simp)
    rmh := ro h.rmh (by simp)
    rmo := ro h.rmo (by simp)
    rmc := ro h.rmc (by simp)
    rov := fun r hr => ro (h.rov r hr) (by simp)
    rvb := fun l r hr => ro (h.rvb l r hr) (by simp)
    rva := fun l r hr => ro (h.rva l r hr) (by simp)
    rib := fun i hi => by
      simp only [List.length_append, List.length_cons, List.length_nil] at hi
      by_cases e : i = k.bs.length
      · subst e; simp only [setN_eq, setR_eq]
      · simp only [setN_ne _ _ e]; exact ro (h.rib i (by omega)) (by simp)
    rix := fun i hi => ro (h.rix i hi) (by simp)
    lt := fun id hi => by
      by_cases e : id = A.next
      · subst e; rw [AHeap.new_next]; omega
      · simp only [setR_ne _ _ e] at hi
        have := h.lt id hi
        rw [AHeap.new_next]; omega
    wb := fun l i hi => by have := h.wb l i hi; simp; omega
    wa := h.wa
    wx := fun x hx => by have := h.wx x hx; simp; omega
    wo := h.wo
    wc := h.wc }

/-- a line's batch -/
theorem KR.addL (h : KR c lo k L A) (hlo : lo ≤ A.next) {l : Line} {i r n cp : Nat} (hi : i < k.bs.length) (hk : Keep ([L.mb] ++ rowL (L.vb l)) A A') (hr1 : A.next ≤ r) (hr2 : r < A'.next)
    (hs : Sl A' 1 (.slice (some ⟨r, 0, none⟩) n cp) (((k.batches l).map fun i => pv (L.ib i)) ++ [pv (L.ib i)])) (hm : MapFn A' L.mb (.slice none 0 0) (Go.Abs.upd L.vb l (.slice (some ⟨r, 0, none⟩) n cp))) :
    KR c lo { k with batches := JP.upd k.batches l (k.batches l ++ [i]) } { L with vb := Go.Abs.upd L.vb l (.slice (some ⟨r, 0, none⟩) n cp), role := setR L.role r (.lb l) } A' := by
  have hr : KeepR L (fun x => x = .mB ∨ x = .lb l) A A' := .of hk (fun id hid => by
    simp only [List.mem_append, List.mem_singleton] at hid
    rcases hid with rfl | hid
    · exact .inl h.rmb
    · exact .inr (h.rvb l id hid))
  have ro : ∀ {id : Nat} {x : Role}, L.role id = x → x ≠ .no → setR L.role r (.lb l) id = x := fun hr hn => by rw [setR_ne _ _ (h.old hr hn hr1)]; exact hr
  exact {
    last := h.last
    crt := (h.gt hr h.rc (by simp) (by simp)).trans h.crt
    ord := h.sl hr h.ord h.rov (by simp) (by simp)
    bs := fun i b hb => (h.gt hr (h.rib i (List.getElem?_eq_some_iff.1 hb).1) (by simp) (by simp)).trans (h.bs i b hb)
    xs := fun i b hb => (h.gt hr (h.rix i (List.getElem?_eq_some_iff.1 hb).1) (by simp) (by simp)).trans (h.xs i b hb)
    mB := hm
    mA := h.mA.of_get (h.gt hr h.rma (by simp) (by simp))
    sB := fun l' => by
      by_cases e : l' = l
      · subst e; simp only [JP.upd, Go.Abs.upd, if_true, List.map_append, List.map_cons, List.map_nil]; exact hs
      · simp only [JP.upd, Go.Abs.upd, if_neg e]
        exact h.sl hr (h.sB l') (h.rvb l') (by simp [e]) (by simp)
    sA := fun l => h.sl hr (h.sA l) (h.rva l) (by simp) (by simp)
    mH := h.mH.of_get (h.gt hr h.rmh (by simp) (by simp))
    mO := h.mO.of_get (h.gt hr h.rmo (by simp) (by simp))
    mC := h.mC.of_get (h.gt hr h.rmc (by simp) (by simp))
    rc := ro h.rc (by simp)
    rmb := ro h.rmb (by simp)
    rma := ro h.rma (by simp)
    rmh := ro h.rmh (by simp)
    rmo := ro h.rmo (by simp)
    rmc := ro h.rmc (by simp)
    rov := fun r hr => ro (h.rov r hr) (by simp)
    rvb := fun l' x hx => by
      by_cases e : l' = l
      · subst e
        simp only [Go.Abs.upd, if_true, rowL, List.mem_singleton] at hx
        subst hx; exact setR_eq _ _ _
      · simp only [Go.Abs.upd, if_neg e] at hx
        exact ro (h.rvb l' x hx) (by simp)
    rva := fun l r hr => ro (h.rva l r hr) (by simp)
    rib := fun i hi => ro (h.rib i hi) (by simp)
    rix := fun i hi => ro (h.rix i hi) (by simp)
    lt := fun id hi => by
      by_cases e : id = r
      · subst e; omega
      · simp only [setR_ne _ _ e] at hi
        have := h.lt id hi
        have := hk.next; omega
    wb := fun l' j hj => by
      by_cases e : l' = l
      · subst e
        simp only [JP.upd, if_true, List.mem_append, List.mem_singleton] at hj
        rcases hj with hj | rfl
        · exact h.wb l' j hj
        · exact hi
      · simp only [JP.upd, if_neg e] at hj; exact h.wb l' j hj
    wa := h.wa
    wx := h.wx
    wo := h.wo
    wc := h.wc }

/-- a line's message -/
theorem KR.addX (h : KR c lo k L A) (hlo : lo ≤ A.next) {l : Line} {x : KX} (hxb : x.b < k.bs.length) {xi r1 n1 c1 r2 n2 c2 : Nat} (hk : Keep ([c, L.ma] ++ (rowL (L.va l) ++ rowL L.ov)) A A') (hx1 : A.next ≤ xi) (hx2 : xi < r1) (hr1 : r1 < r2) (hr2 : r2 < A'.next)
    (hgx : A'.get xi = some (.row (kxV L.ib x) 9 false false))
    (hs1 : Sl A' 1 (.slice (some ⟨r1, 0, none⟩) n1 c1) (((k.all l).map fun i => pv (L.ix i)) ++ [pv xi])) (hs2 : Sl A' 1 (.slice (some ⟨r2, 0, none⟩) n2 c2) (((List.range k.xs.length).map fun i => pv (L.ix i)) ++ [pv xi]))
    (hm : MapFn A' L.ma (.slice none 0 0) (Go.Abs.upd L.va l (.slice (some ⟨r1, 0, none⟩) n1 c1)))
    (hc : A'.get c = some (.row (crtV { L with ov := .slice (some ⟨r2, 0, none⟩) n2 c2 } k) 10 false false)) :
    KR c lo { k with xs := k.xs ++ [x], all := JP.upd k.all l (k.all l ++ [k.xs.length]) }
      { L with va := Go.Abs.upd L.va l (.slice (some ⟨r1, 0, none⟩) n1 c1), ov := .slice (some ⟨r2, 0, none⟩) n2 c2, ix := setN L.ix k.xs.length xi, role := setR (setR (setR L.role xi (.x k.xs.length)) r1 (.la l)) r2 .ord } A' := by
  have hr : KeepR L (fun x => x = .crt ∨ x = .mA ∨ x = .la l ∨ x = .ord) A A' := .of hk (fun id hid => by
    simp only [List.mem_append, List.mem_cons, List.not_mem_nil, or_false] at hid
    rcases hid with (rfl | rfl) | hid | hid
    · exact .inl h.rc
    · exact .inr (.inl h.rma)
    · exact .inr (.inr (.inl (h.rva l id hid)))
    · exact .inr (.inr (.inr (h.rov id hid))))
  have ro : ∀ {id : Nat} {y : Role}, L.role id = y → y ≠ .no → setR (setR (setR L.role xi (.x k.xs.length)) r1 (.la l)) r2 .ord id = y := fun hr hn => by
    rw [setR_ne _ _ (h.old hr hn (by omega)), setR_ne _ _ (h.old hr hn (by omega)), setR_ne _ _ (h.old hr hn hx1)]; exact hr
  have hpo : ∀ o : Option Nat, (∀ i, o = some i → i < k.xs.length) → ptrO (setN L.ix k.xs.length xi) o = ptrO L.ix o := by
    intro o ho
    cases o with
    | none => rfl
    | some i => simp only [ptrO]; rw [setN_ne _ _ (by have := ho i rfl; omega)]
  exact {
    last := h.last
    crt := hc
    ord := by
      simp only [List.length_append, List.length_cons, List.length_nil, List.range_succ, List.map_append, List.map_cons, List.map_nil, setN_eq]
      rw [map_ib (fun i hi => List.mem_range.1 hi)]; exact hs2
    bs := fun i b hb => (h.gt hr (h.rib i (List.getElem?_eq_some_iff.1 hb).1) (by simp) (by simp)).trans (h.bs i b hb)
    xs := fun i x' hx => by
      simp only [List.getElem?_append] at hx
      split at hx
      · rename_i hi
        simp only
        rw [setN_ne _ _ (by omega)]
        exact (h.gt hr (h.rix i hi) (by simp) (by simp)).trans (h.xs i x' hx)
      · rename_i hi
        have hi0 : i - k.xs.length = 0 := by
          cases hh : i - k.xs.length with
          | zero => rfl
          | succ m => rw [hh] at hx; simp at hx
        rw [hi0] at hx; simp at hx; subst hx
        have : i = k.xs.length := by omega
        subst this
        simp only [setN_eq]; exact hgx
    mB := h.mB.of_get (h.gt hr h.rmb (by simp) (by simp))
    mA := hm
    sB := fun l => h.sl hr (h.sB l) (h.rvb l) (by simp) (by simp)
    sA := fun l' => by
      by_cases e : l' = l
      · subst e; simp only [JP.upd, Go.Abs.upd, if_true, List.map_append, List.map_cons, List.map_nil, setN_eq]
        rw [map_ib (h.wa l')]; exact hs1
      · simp only [JP.upd, Go.Abs.upd, if_neg e]
        rw [map_ib (h.wa l')]
        exact h.sl hr (h.sA l') (h.rva l') (by simp [e]) (by simp)
    mH := h.mH.of_get (h.gt hr h.rmh (by simp) (by simp))
    mO := by
      have : (fun t : Tg => ptrO (setN L.ix k.xs.length xi) (k.holds t)) = fun t => ptrO L.ix (k.holds t) := funext fun t => hpo _ (h.wo t)
      simp only [this]
      exact h.mO.of_get (h.gt hr h.rmo (by simp) (by simp))
    mC := by
      have : (fun t : Tg => ptrO (setN L.ix k.xs.length xi) (k.acks t)) = fun t => ptrO L.ix (k.acks t) := funext fun t => hpo _ (h.wc t)
      simp only [this]
      exact h.mC.of_get (h.gt hr h.rmc (by simp) (by simp))
    rc := ro h.rc (by simp)
    rmb := ro h.rmb (by simp)
    rma := ro h.rma (by simp)
    rmh := ro h.rmh (by simp)
    rmo := ro h.rmo (by simp)
    rmc := ro h.rmc (by simp)
    rov := fun r hr => by
      simp only [rowL, List.mem_singleton] at hr
      subst hr; exact setR_eq _ _ _
    rvb := fun l' x hx => ro (h.rvb l' x hx) (by simp)
    rva := fun l' y hy => by
      by_cases e : l' = l
      · subst e
        simp only [Go.Abs.upd, if_true, rowL, List.mem_singleton] at hy
        subst hy; simp only; rw [setR_ne _ _ (by omega), setR_eq]
      · simp only [Go.Abs.upd, if_neg e] at hy
        exact ro (h.rva l' y hy) (by simp)
    rib := fun i hi => ro (h.rib i hi) (by simp)
    rix := fun i hi => by
      simp only [List.length_append, List.length_cons, List.length_nil] at hi
      by_cases e : i = k.xs.length
      · subst e; simp only [setN_eq]; rw [setR_ne _ _ (by omega), setR_ne _ _ (by omega), setR_eq]
      · simp only [setN_ne _ _ e]; exact ro (h.rix i (by omega)) (by simp)
    lt := fun id hi => by
      by_cases e2 : id = r2
      · subst e2; omega
      · by_cases e1 : id = r1
        · subst e1; omega
        · by_cases e0 : id = xi
          · subst e0; omega
          · simp only [setR_ne _ _ e2, setR_ne _ _ e1, setR_ne _ _ e0] at hi
            have := h.lt id hi
            have := hk.next; omega
    wb := h.wb
    wa := fun l' j hj => by
      simp only [List.length_append, List.length_cons, List.length_nil]
      by_cases e : l' = l
      · subst e
        simp only [JP.upd, if_true, List.mem_append, List.mem_singleton] at hj
        rcases hj with hj | rfl
        · have := h.wa l' j hj; omega
        · omega
      · simp only [JP.upd, if_neg e] at hj; have := h.wa l' j hj; omega
    wx := fun y hy => by
      simp only [List.mem_append, List.mem_singleton] at hy
      rcases hy with hy | rfl
      · exact h.wx y hy
      · exact hxb
    wo := fun t i hi => by have := h.wo t i hi; simp; omega
    wc := fun t i hi => by have := h.wc t i hi; simp; omega }
end
end Go.Proofs.YtiimkdijiddjcaaDoor
