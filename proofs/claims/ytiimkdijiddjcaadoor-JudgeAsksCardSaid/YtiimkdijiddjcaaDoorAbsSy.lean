/- What the abstract machine's operations make of values that are known but for their numbers; memory's rows, slices, what is kept. -/
import Derived.Test.YtiimkdijiddjcaaDoorAbsSx
set_option linter.unusedSimpArgs false
namespace Go.Abs
set_option linter.unusedSimpArgs false
set_option linter.unusedVariables false
set_option linter.unusedSectionVars false
set_option linter.defProp false
open Go

/-- an int -/
abbrev iv (n : Int) : Value := .int .i64 n
abbrev bv (b : Bool) : Value := .bool b
abbrev sv (s : ByteArray) : Value := .string s
/-- a pointer to a row's head -/
abbrev pv (id : Nat) : Value := .pointer (some ⟨id, 0, none⟩)

theorem ba_beq (a b : ByteArray) : (a.toList == b.toList) = decide (a = b) := by
  rw [ByteArray.toList_eq, ByteArray.toList_eq]
  by_cases h : a = b
  · subst h; simp
  · have h2 : (a.data.toList == b.data.toList) = false := by
      rw [beq_eq_false_iff_ne]; exact fun e => h (ByteArray.ext (Array.toList_inj.1 e))
    rw [h2]; simp [h]
theorem ba_beq2 (a b : ByteArray) : (a.data.toList == b.data.toList) = decide (a = b) := by
  have := ba_beq a b
  rwa [ByteArray.toList_eq, ByteArray.toList_eq] at this

theorem ib (a b : Int) : (a == b) = decide (a = b) := by by_cases h : a = b <;> simp [h]
section
variable (k : IntKind) (a b : Int) (s t : ByteArray)
theorem abin_add : abin .add (.int k a) (.int k b) = some (.int k (k.wrap (a + b))) := by simp [abin, Op.intArith, semVal, pure]
theorem abin_sub : abin .sub (.int k a) (.int k b) = some (.int k (k.wrap (a - b))) := by simp [abin, Op.intArith, semVal, pure]
theorem abin_mul : abin .mul (.int k a) (.int k b) = some (.int k (k.wrap (a * b))) := by simp [abin, Op.intArith, semVal, pure]
theorem abin_quo (h : b ≠ 0) : abin .quo (.int k a) (.int k b) = some (.int k (k.wrap (a.tdiv b))) := by simp [abin, Op.intDiv, semVal, pure, h]
theorem abin_rem (h : b ≠ 0) : abin .rem (.int k a) (.int k b) = some (.int k (a.tmod b)) := by simp [abin, Op.intDiv, semVal, pure, h]
theorem abin_eql : abin .eql (.int k a) (.int k b) = some (.bool (decide (a = b))) := by simp [abin, Op.intCmp, semVal, pure, ib]
theorem abin_neq : abin .neq (.int k a) (.int k b) = some (.bool (decide (a ≠ b))) := by simp [abin, Op.intCmp, semVal, pure, bne, ib]
theorem abin_lss : abin .lss (.int k a) (.int k b) = some (.bool (decide (a < b))) := by simp [abin, Op.intCmp, semVal, pure]
theorem abin_leq : abin .leq (.int k a) (.int k b) = some (.bool (decide (a ≤ b))) := by simp [abin, Op.intCmp, semVal, pure]
theorem abin_gtr : abin .gtr (.int k a) (.int k b) = some (.bool (decide (b < a))) := by simp [abin, Op.intCmp, semVal, pure]
theorem abin_geq : abin .geq (.int k a) (.int k b) = some (.bool (decide (b ≤ a))) := by simp [abin, Op.intCmp, semVal, pure]
theorem abin_seql : abin .eql (.string s) (.string t) = some (.bool (decide (s = t))) := by simp [abin, Op.stringOp, semVal, pure, ba_beq]
theorem abin_sneq : abin .neq (.string s) (.string t) = some (.bool (decide (s ≠ t))) := by simp [abin, Op.stringOp, semVal, pure, ba_beq]
theorem abin_sadd (h : s.size + t.size ≤ 1099511627776) : abin .add (.string s) (.string t) = some (.string (s ++ t)) := by simp [abin, h]
theorem aeq_bool (p q : Bool) : aeq .bool (.bool p) (.bool q) = some (p == q) := rfl
theorem ceq_int : ceq (.int k a) (.int k b) = decide (a = b) := by simp [ceq, ib]
theorem ceq_str : ceq (.string s) (.string t) = decide (s = t) := by simp only [ceq, ba_beq2]
theorem ceq_bool (p q : Bool) : ceq (.bool p) (.bool q) = (p == q) := rfl
end
theorem i64_add {x : Int} (h1 : -9223372036854775808 ≤ x) (h2 : x < 9223372036854775808) : IntKind.i64.wrap x = x := by rw [IntKind.wrap_i64]; omega

/- ## memory -/
theorem AHeap.set_next (A : AHeap) (i : Nat) (x : AObj) : (A.set i x).next = A.next := (rfl)
theorem AHeap.new_next (A : AHeap) (x : AObj) : (A.new x).next = A.next + 1 := (rfl)
theorem AHeap.set_get {A : AHeap} {i : Nat} {x : AObj} : (A.set i x).get i = some x := by rw [AHeap.get_set]; simp
theorem AHeap.set_ne {A : AHeap} {i j : Nat} {x : AObj} (h : i ≠ j) : (A.set i x).get j = A.get j := by rw [AHeap.get_set]; simp [h]
theorem AHeap.new_get {A : AHeap} {x : AObj} : (A.new x).get A.next = some x := by rw [AHeap.get_new]; simp
theorem AHeap.new_lt {A : AHeap} {j : Nat} {x : AObj} (h : j < A.next) : (A.new x).get j = A.get j := by rw [AHeap.get_new]; simp; omega

theorem T.put_one {α : Type} (v w : α) : ∀ (f i : Nat), i < f → (T.one f i v).put i w = T.one f i w := by
  intro f
  induction f with
  | zero => intro i h; omega
  | succ f ih =>
    intro i h
    have hd : Nat.div i 2 = i / 2 := rfl
    have hs : Nat.sub (i / 2) 1 = i / 2 - 1 := rfl
    simp only [T.one, cond_eq_ite, Nat.beq_eq, hd, hs]
    by_cases h0 : i = 0
    · subst h0; simp [T.put]
    · simp only [h0, if_false]
      split
      · rename_i h1
        simp only [T.put, cond_eq_ite, Nat.beq_eq, h0, if_false, h1, if_true, hd]
        rw [ih _ (by omega)]
      · rename_i h1
        simp only [T.put, cond_eq_ite, Nat.beq_eq, h0, if_false, h1, hd, hs]
        rw [ih _ (by omega)]
theorem T.put_put {α : Type} (v w : α) : ∀ (t : T α) (i : Nat), (t.put i v).put i w = t.put i w := by
  intro t
  induction t with
  | e => intro i; simp only [T.put]; exact T.put_one v w _ _ (by omega)
  | nd x l r ihl ihr =>
    intro i
    simp only [T.put, cond_eq_ite, Nat.beq_eq]
    split
    · rename_i h0; simp only [T.put, cond_eq_ite, Nat.beq_eq, h0, if_true]
    · rename_i h0
      split
      · rename_i h1; simp only [T.put, cond_eq_ite, Nat.beq_eq, h0, if_false, h1, if_true, ihl]
      · rename_i h1; simp only [T.put, cond_eq_ite, Nat.beq_eq, h0, if_false, h1, ihr]
theorem AHeap.set_new (A : AHeap) (x y : AObj) : (A.new x).set A.next y = A.new y := by simp only [AHeap.set, AHeap.new, T.put_put]
theorem AHeap.set_set (A : AHeap) (i : Nat) (x y : AObj) : (A.set i x).set i y = A.set i y := by simp only [AHeap.set, T.put_put]
theorem wrRow_new {A : AHeap} {z vs : List Value} {sz : Nat} {o : Bool} (h : vs.length = z.length) : wrRow (A.new (.row z sz false o)) A.next 0 vs = some (A.new (.row vs sz false o)) := by
  simp only [wrRow, AHeap.new_get, List.take_zero, List.nil_append, Nat.zero_add, h, List.drop_length, List.append_nil, Nat.ble_eq_true_of_le (Nat.le_refl _), cond_true, AHeap.set_new]
theorem rdRow_at {A : AHeap} {id off n sz : Nat} {cs : List Value} {ro o : Bool} (h : A.get id = some (.row cs sz ro o)) (hl : off + n ≤ cs.length) : rdRow A id off n = some ((cs.drop off).take n) := by
  have h1 : ((cs.drop off).take n).length = n := by rw [List.length_take, List.length_drop]; omega
  simp only [rdRow, h, h1, Nat.beq_refl, cond_true]
theorem rdRow_all {A : AHeap} {id n sz : Nat} {cs : List Value} {ro o : Bool} (h : A.get id = some (.row cs sz ro o)) (hl : n = cs.length) : rdRow A id 0 n = some cs := by
  rw [rdRow_at h (by omega), hl, List.drop_zero, List.take_length]
theorem wrRow_at {A : AHeap} {id off sz : Nat} {cs vs : List Value} {o : Bool} (h : A.get id = some (.row cs sz false o)) (hl : off + vs.length ≤ cs.length) : wrRow A id off vs = some (A.set id (.row (cs.take off ++ (vs ++ cs.drop (off + vs.length))) sz false o)) := by
  simp only [wrRow, h, Nat.ble_eq_true_of_le hl, cond_true]

/-- all that lay stays but what is 'own' -/
structure Keep (own : List Nat) (A A' : AHeap) : Prop where
  next : A.next ≤ A'.next
  get : ∀ id, id < A.next → id ∉ own → A'.get id = A.get id
theorem Keep.refl (own : List Nat) (A : AHeap) : Keep own A A := ⟨Nat.le_refl _, fun _ _ _ => rfl⟩
theorem Keep.mono {own own' : List Nat} {A A' : AHeap} (h : Keep own A A') (hs : ∀ id, id < A.next → id ∈ own → id ∈ own') : Keep own' A A' := ⟨h.next, fun id hl hn => h.get id hl fun hi => hn (hs id hl hi)⟩
theorem Keep.trans {own own' : List Nat} {A B C : AHeap} (h : Keep own A B) (k : Keep own' B C) (hs : ∀ id, id < A.next → id ∈ own' → id ∈ own) : Keep own A C :=
  ⟨Nat.le_trans h.next k.next, fun id hl hn => (k.get id (Nat.lt_of_lt_of_le hl h.next) fun hi => hn (hs id hl hi)).trans (h.get id hl hn)⟩
theorem Keep.new {own : List Nat} (A : AHeap) (x : AObj) : Keep own A (A.new x) := ⟨by rw [AHeap.new_next]; omega, fun _ hl _ => AHeap.new_lt hl⟩
theorem Keep.set {own : List Nat} {A : AHeap} {i : Nat} (x : AObj) (h : i ∈ own ∨ A.next ≤ i) : Keep own A (A.set i x) :=
  ⟨Nat.le_refl _, fun id hl hn => AHeap.set_ne fun e => by subst e; rcases h with h | h; exact hn h; omega⟩

/- ## slices at the head of rows of their own -/
inductive Sl (A : AHeap) (sz : Nat) : Value → List Value → Prop where
  | nil : Sl A sz (.slice none 0 0) []
  | emp {r : Nat} {z : Nat} (h : A.get r = some (.row [] z false false)) : Sl A sz (.slice (some ⟨r, 0, none⟩) 0 0) []
  | own {r n : Nat} {cs : List Value} (h : A.get r = some (.row cs sz false true)) (hl : cs.length = n * sz) : Sl A sz (.slice (some ⟨r, 0, none⟩) n (capInf * (sz + 1) + n)) cs
def rowL : Value → List Nat
  | .slice (some a) _ _ => [a.block]
  | _ => []
theorem Sl.keep {own : List Nat} {A A' : AHeap} {sz : Nat} {v : Value} {cs : List Value} (h : Sl A sz v cs) (hk : Keep own A A') (hd : ∀ r ∈ rowL v, r < A.next ∧ r ∉ own) : Sl A' sz v cs := by
  cases h with
  | nil => exact .nil
  | emp h => exact .emp ((hk.get _ (hd _ (by simp [rowL])).1 (hd _ (by simp [rowL])).2).trans h)
  | own h hl => exact .own ((hk.get _ (hd _ (by simp [rowL])).1 (hd _ (by simp [rowL])).2).trans h) hl
/-- an element's place -/
theorem Sl.at {A : AHeap} {sz : Nat} {v : Value} {cs : List Value} (h : Sl A sz v cs) {i : Nat} (hi : i * sz < cs.length) :
    ∃ r n, v = .slice (some ⟨r, 0, none⟩) n (capInf * (sz + 1) + n) ∧ A.get r = some (.row cs sz false true) ∧ cs.length = n * sz ∧ i < n := by
  cases h with
  | nil => simp at hi
  | emp h => simp at hi
  | own h hl => exact ⟨_, _, rfl, h, hl, by rw [hl] at hi; exact Nat.lt_of_mul_lt_mul_right hi⟩
theorem Sl.len {A : AHeap} {sz : Nat} {v : Value} {cs : List Value} (h : Sl A sz v cs) : ∃ a n c, v = .slice a n c ∧ cs.length = n * sz := by
  cases h with
  | nil => exact ⟨_, _, _, rfl, by simp⟩
  | emp h => exact ⟨_, _, _, rfl, by simp⟩
  | own h hl => exact ⟨_, _, _, rfl, hl⟩

theorem take_drop_flat {α : Type} (f : α → List Value) (z : Nat) (hf : ∀ x, (f x).length = z) : ∀ (l : List α) (i : Nat) (x : α), l[i]? = some x → ((l.flatMap f).drop (i * z)).take z = f x := by
  intro l
  induction l with
  | nil => intro i x h; simp at h
  | cons y l ih =>
    intro i x h
    cases i with
    | zero =>
      simp only [List.getElem?_cons_zero, Option.some.injEq] at h
      subst h
      simp only [List.flatMap_cons, Nat.zero_mul, List.drop_zero]
      rw [List.take_append_of_le_length (by rw [hf]; exact Nat.le_refl _), ← hf y, List.take_length]
    | succ i =>
      simp only [List.getElem?_cons_succ] at h
      simp only [List.flatMap_cons]
      rw [Nat.succ_mul, Nat.add_comm, ← hf y, List.drop_append, hf y]
      have : (f y).drop (z + i * z) = [] := List.drop_eq_nil_of_le (by rw [hf]; omega)
      rw [this, List.nil_append, Nat.add_sub_cancel_left]
      exact ih i x h
theorem get_flat {α : Type} (f : α → List Value) (z : Nat) (hf : ∀ x, (f x).length = z) (l : List α) (i o : Nat) (x : α) (h : l[i]? = some x) (ho : o < z) : (l.flatMap f)[i * z + o]? = (f x)[o]? := by
  have h1 := take_drop_flat f z hf l i x h
  have h2 : (((l.flatMap f).drop (i * z)).take z)[o]? = (f x)[o]? := by rw [h1]
  rw [List.getElem?_take, if_pos ho, List.getElem?_drop] at h2
  exact h2
theorem len_flat {α : Type} (f : α → List Value) (z : Nat) (hf : ∀ x, (f x).length = z) (l : List α) : (l.flatMap f).length = l.length * z := by
  induction l with
  | nil => simp
  | cons y l ih => simp only [List.flatMap_cons, List.length_append, List.length_cons, ih, hf, Nat.succ_mul]; omega
theorem rdRow_flat {α : Type} (f : α → List Value) (z : Nat) (hf : ∀ x, (f x).length = z) {A : AHeap} {r sz : Nat} {ro o : Bool} {l : List α} {i : Nat} {x : α} (h : A.get r = some (.row (l.flatMap f) sz ro o)) (hx : l[i]? = some x) : rdRow A r (i * z) z = some (f x) := by
  have hi : i < l.length := (List.getElem?_eq_some_iff.1 hx).1
  rw [rdRow_at h ?_, take_drop_flat f z hf l i x hx]
  rw [len_flat f z hf, ← Nat.succ_mul]; exact Nat.mul_le_mul_right z hi
/-- a part of an element that is written -/
theorem set_flat {α : Type} (f : α → List Value) (z : Nat) (hf : ∀ x, (f x).length = z) : ∀ (l : List α) (i : Nat) (x y : α) (o : Nat) (vs : List Value), l[i]? = some x → o + vs.length ≤ z → f y = (f x).take o ++ (vs ++ (f x).drop (o + vs.length)) →
    (l.flatMap f).take (i * z + o) ++ (vs ++ (l.flatMap f).drop (i * z + o + vs.length)) = (l.set i y).flatMap f := by
  intro l
  induction l with
  | nil => intro i x y o vs h; simp at h
  | cons w l ih =>
    intro i x y o vs h ho hy
    cases i with
    | zero =>
      simp only [List.getElem?_cons_zero, Option.some.injEq] at h
      subst h
      simp only [List.flatMap_cons, Nat.zero_mul, Nat.zero_add, List.set_cons_zero]
      rw [hy, List.take_append_of_le_length (by rw [hf]; omega), List.drop_append, hf]
      have : (o + vs.length) - z = 0 := by omega
      rw [this, List.drop_zero]
      simp only [List.append_assoc]
    | succ i =>
      simp only [List.getElem?_cons_succ] at h
      simp only [List.flatMap_cons, List.set_cons_succ]
      rw [← ih i x y o vs h ho hy]
      have e1 : (i + 1) * z + o = z + (i * z + o) := by rw [Nat.succ_mul]; omega
      have e2 : z + (i * z + o) + vs.length = z + (i * z + o + vs.length) := by omega
      rw [e1, e2, List.take_append, List.drop_append, hf]
      have : (f w).take (z + (i * z + o)) = f w := List.take_of_length_le (by rw [hf]; omega)
      rw [this]
      have : (f w).drop (z + (i * z + o + vs.length)) = [] := List.drop_eq_nil_of_le (by rw [hf]; omega)
      rw [this, List.nil_append, Nat.add_sub_cancel_left, Nat.add_sub_cancel_left, List.append_assoc]
theorem bt (b : Bool) : (b == true) = b := by cases b <;> rfl
theorem bf (b : Bool) : (b == false) = !b := by cases b <;> rfl
theorem wrRow_flat {α : Type} (f : α → List Value) (z : Nat) (hf : ∀ x, (f x).length = z) {A : AHeap} {r sz : Nat} {o : Bool} {l : List α} {i off : Nat} {x : α} (y : α) {vs : List Value} (h : A.get r = some (.row (l.flatMap f) sz false o)) (hx : l[i]? = some x)
    (ho : off + vs.length ≤ z) (hy : f y = (f x).take off ++ (vs ++ (f x).drop (off + vs.length))) : wrRow A r (i * z + off) vs = some (A.set r (.row ((l.set i y).flatMap f) sz false o)) := by
  have hi : i < l.length := (List.getElem?_eq_some_iff.1 hx).1
  have h1 : (i + 1) * z ≤ l.length * z := Nat.mul_le_mul_right z hi
  rw [Nat.succ_mul] at h1
  rw [wrRow_at h (by rw [len_flat f z hf]; omega), set_flat f z hf l i x y off vs hx ho hy]
theorem frOf_cons (v : Value) (vs : List Value) (i : Nat) (fr : Fr) : frOf (v :: vs) i fr = frOf vs (i + 1) (lput fr i v) := rfl
theorem frOf_nil (i : Nat) (fr : Fr) : frOf [] i fr = fr := rfl

/-- a slice that grows -/
theorem Sl.app {A : AHeap} {sz bytes : Nat} {v : Value} {cs : List Value} (h : Sl A sz v cs) {x : Value} {m n : Nat} {new : List Value} (hm : cs.length = m * sz) (h0 : 0 < sz) (hx : srcLen x = some n) (hs : srcCells A n sz x = some new) (hn : new.length = n * sz) (h1 : 0 < n)
    (hb : (m + n) * bytes ≤ 140737488355328) (hb2 : m + n ≤ 140737488355328) :
    ∃ A1, aappend sz bytes v x A = some (.slice (some ⟨A.next, 0, none⟩) (m + n) (capInf * (sz + 1) + (m + n)), A1) ∧ A1.next = A.next + 1 ∧ A1.get A.next = some (.row (cs ++ new) sz false true) ∧ Keep (rowL v) A A1 := by
  have hz : Nat.mod 0 capInf = 0 := rfl
  cases h with
  | nil =>
    have hm0 : m = 0 := Nat.eq_of_mul_eq_mul_right h0 (by simpa using hm.symm)
    subst hm0
    have c1 : ¬ (0 + n ≤ Nat.mod 0 capInf) := by rw [hz]; omega
    have c2 : (0 : Nat) < capInf := by decide
    refine ⟨A.new (.row ([] ++ new) sz false true), ?_, rfl, AHeap.new_get, Keep.new _ _⟩
    have hr : srcCells A 0 sz (.slice none 0 0) = some [] := rfl
    simp only [aappend, hx, c1, if_false, hb, hb2, and_self, if_true, c2, hr, Option.bind_some, hs, hn, List.length_nil, Nat.zero_mul, Nat.beq_refl, Bool.and_self, cond_true]
  | @emp r z h =>
    have hm0 : m = 0 := Nat.eq_of_mul_eq_mul_right h0 (by simpa using hm.symm)
    subst hm0
    have c1 : ¬ (0 + n ≤ Nat.mod 0 capInf) := by rw [hz]; omega
    have c2 : (0 : Nat) < capInf := by decide
    refine ⟨A.new (.row ([] ++ new) sz false true), ?_, rfl, AHeap.new_get, Keep.new _ _⟩
    have hr : srcCells A 0 sz (.slice (some ⟨r, 0, none⟩) 0 0) = some [] := by simp only [srcCells, Nat.zero_mul]; exact rdRow_all h rfl
    simp only [aappend, hx, c1, if_false, hb, hb2, and_self, if_true, c2, hr, Option.bind_some, hs, hn, List.length_nil, Nat.zero_mul, Nat.beq_refl, Bool.and_self, cond_true]
  | @own r k cs h hl =>
    have hk : k = m := Nat.eq_of_mul_eq_mul_right h0 (hl.symm.trans hm)
    subst hk
    have c0 : k < capInf := by have : capInf = 9223372036854775808 := rfl; omega
    have cm : Nat.mod (capInf * (sz + 1) + k) capInf = k := by
      show (capInf * (sz + 1) + k) % capInf = k
      rw [Nat.mul_add_mod]; exact Nat.mod_eq_of_lt c0
    have cd : Nat.div (capInf * (sz + 1) + k) capInf = sz + 1 := by
      show (capInf * (sz + 1) + k) / capInf = sz + 1
      rw [Nat.mul_add_div (by decide), Nat.div_eq_of_lt c0, Nat.add_zero]
    have c1 : ¬ (k + n ≤ Nat.mod (capInf * (sz + 1) + k) capInf) := by rw [cm]; omega
    have c2 : ¬ (capInf * (sz + 1) + k < capInf) := by
      have : capInf * 1 ≤ capInf * (sz + 1) := Nat.mul_le_mul_left _ (by omega)
      omega
    have hr : srcCells A k sz (.slice (some ⟨r, 0, none⟩) k (capInf * (sz + 1) + k)) = some cs := by simp only [srcCells]; exact rdRow_all h hl.symm
    refine ⟨(A.set r .dead).new (.row (cs ++ new) sz false true), ?_, rfl, AHeap.new_get (A := A.set r .dead), ?_⟩
    · simp only [aappend, hx, c1, if_false, hb, hb2, and_self, if_true, c2, cd, h, hr, Option.bind_some, hs, hn, hl, Nat.beq_refl, Bool.and_self, cond_true]
    · exact (Keep.set (own := rowL (.slice (some ⟨r, 0, none⟩) k (capInf * (sz + 1) + k))) .dead (.inl (by simp [rowL]))).trans (Keep.new (own := []) _ _) (by simp)
/-- the same, of one more element that has just been laid -/
theorem srcLen_sl (a : Option Addr) (n c : Nat) : srcLen (.slice a n c) = some n := rfl
theorem valEq_int (k : IntKind) (a : Int) : valEq (.int k a) (.int k a) = true := by simp [valEq, valEq1]
theorem valEq_bool (b : Bool) : valEq (.bool b) (.bool b) = true := by cases b <;> rfl
theorem valEq_str (a : ByteArray) : valEq (.string a) (.string a) = true := by simp [valEq, valEq1]
theorem valEq_ptr (a : Option Addr) : valEq (.pointer a) (.pointer a) = true := by simp [valEq, valEq1]
theorem valEq_map (a : Option Nat) : valEq (.map a) (.map a) = true := by simp [valEq, valEq1]
theorem valEq_slice (a : Option Addr) (n c : Nat) : valEq (.slice a n c) (.slice a n c) = true := by simp [valEq, valEq1, Nat.beq_refl]
theorem set_of_modify {α : Type} {l : List α} {i : Nat} {x : α} (f : α → α) (h : l[i]? = some x) : l.modify i f = l.set i (f x) := by
  apply List.ext_getElem?
  intro k
  rw [List.getElem?_modify, List.getElem?_set]
  have hi : i < l.length := (List.getElem?_eq_some_iff.1 h).1
  by_cases e : i = k
  · subst e; simp [hi, (List.getElem?_eq_some_iff.1 h).2]
  · simp [e]
theorem un_not (b : Bool) : semVal (Op.unary .not (.bool b)) = some (.bool (!b)) := (rfl)
theorem rdRow_part {α : Type} (f : α → List Value) (z : Nat) (hf : ∀ x, (f x).length = z) {A : AHeap} {r sz : Nat} {ro o : Bool} {l : List α} {i : Nat} {x : α} (off n : Nat) (h : A.get r = some (.row (l.flatMap f) sz ro o)) (hx : l[i]? = some x) (ho : off + n ≤ z) : rdRow A r (i * z + off) n = some (((f x).drop off).take n) := by
  have hi : i < l.length := (List.getElem?_eq_some_iff.1 hx).1
  have hz : (i + 1) * z ≤ l.length * z := Nat.mul_le_mul_right z hi
  rw [Nat.succ_mul] at hz
  rw [rdRow_at h (by rw [len_flat f z hf]; omega), ← take_drop_flat f z hf l i x hx, List.drop_take, List.take_take, List.drop_drop]
  congr 2
  omega

/-- the rules that run code, as one; the rules of values, as one -/
def sxs := And.intro (And.intro (And.intro (And.intro (And.intro @sx_mov (And.intro @sx_reg @sx_guard)) (And.intro @sx_nil (And.intro @sx_call @sx_pick))) (And.intro (And.intro @sx_alloc (And.intro @sx_box @sx_build)) (And.intro (And.intro @sx_buildSlice @sx_ld1) (And.intro @sx_ldN @sx_st)))) (And.intro (And.intro (And.intro @sx_nilCheck (And.intro @sx_bin @sx_eq)) (And.intro (And.intro @sx_un @sx_cvI) (And.intro @sx_cvB @sx_cvS))) (And.intro (And.intro @sx_mkFunc (And.intro @sx_mkMap @sx_mkSlice)) (And.intro (And.intro @sx_slStr @sx_slice) (And.intro @sx_slArr @sx_fadd))))) (And.intro (And.intro (And.intro (And.intro @sx_idxA (And.intro @sx_idxS @sx_ixStr)) (And.intro @sx_ixAgg (And.intro @sx_fld @sx_lookup))) (And.intro (And.intro @sx_mapUpd (And.intro @sx_mapEnt @sx_entSt)) (And.intro (And.intro @sx_extract @sx_lenS) (And.intro @sx_lenC @sx_lenSl)))) (And.intro (And.intro (And.intro @sx_lenM (And.intro @sx_append @sx_copy)) (And.intro (And.intro @sx_clearS @sx_delete) (And.intro @sx_min @sx_skip))) (And.intro (And.intro @sx_ret (And.intro @sx_exit @sx_goto)) (And.intro (And.intro @sx_seq @sx_cond) (And.intro @sx_block @sx_scope)))))
def vxs := And.intro (And.intro (And.intro (And.intro (And.intro @RX_some @RV_eq) (And.intro @RG_true (And.intro @RG_false @RB_bool))) (And.intro (And.intro @lget_lput @Nat.zero_add) (And.intro @Nat.add_zero (And.intro @true_and @abin_add)))) (And.intro (And.intro (And.intro @abin_sub @abin_eql) (And.intro @abin_neq (And.intro @abin_lss @abin_leq))) (And.intro (And.intro @abin_gtr @abin_geq) (And.intro @abin_seql (And.intro @abin_sneq @bt))))) (And.intro (And.intro (And.intro (And.intro @bf @aeq_bool) (And.intro @un_not (And.intro @valEq_int @valEq_bool))) (And.intro (And.intro @valEq_str @valEq_ptr) (And.intro @valEq_map (And.intro @valEq_slice @Int.natCast_nonneg)))) (And.intro (And.intro (And.intro @Int.toNat_natCast @and_true) (And.intro @and_self (And.intro @AHeap.new_get @AHeap.new_next))) (And.intro (And.intro @AHeap.set_next @Bool.not_true) (And.intro @Bool.not_false (And.intro @decide_true @decide_false)))))

end Go.Abs
