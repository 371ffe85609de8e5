/- The document's judge on the abstract machine: what its functions make of its own record. -/
import Derived.Test.YtiimkdijiddjcaaDoorAbsSy
import Derived.Test.YtiimkdijiddjcaaDoorLawGlue
import Derived.Test.YtiimkdijiddjcaaDoorJP
set_option linter.unusedSimpArgs false
namespace Go.Proofs.YtiimkdijiddjcaaDoor
set_option linter.unusedSimpArgs false
set_option linter.unusedVariables false
set_option linter.unusedSectionVars false
set_option linter.defProp false
open Go Go.Abs JP

def actV (a : JP.Act) : List Value := [iv a.kind, iv a.client, iv a.queue, iv a.seq, iv a.tag, iv a.code, sv a.key, sv a.body, iv a.many, iv a.pub, iv a.mseq, sv a.mkey, sv a.mbody, bv a.again]
def postV (p : Post) : List Value := [iv p.client, iv p.queue, sv p.key, iv p.first, iv p.many, iv p.state]
def seenV (x : Seen) : List Value := [iv x.queue, iv x.post, iv x.pub, iv x.seq, sv x.key, sv x.body, bv false, bv x.dl, bv x.hd, bv x.ak, bv x.fi]
def gotV (g : Got) : List Value := [iv g.client, iv g.queue, iv g.tag, iv g.m, iv g.state]
theorem postV_len (p : Post) : (postV p).length = 6 := (rfl)
theorem seenV_len (x : Seen) : (seenV x).length = 11 := (rfl)
theorem gotV_len (g : Got) : (gotV g).length = 5 := (rfl)
section
variable {A : AHeap}
theorem post_new (p : Post) : wrRow (A.new (.row [iv 0, iv 0, sv ⟨#[]⟩, iv 0, iv 0, iv 0] 6 false false)) A.next 0 (postV p) = some (A.new (.row (postV p) 6 false false)) := wrRow_new rfl
theorem seen_new (x : Seen) : wrRow (A.new (.row [iv 0, iv 0, iv 0, iv 0, sv ⟨#[]⟩, sv ⟨#[]⟩, bv false, bv false, bv false, bv false, bv false] 11 false false)) A.next 0 (seenV x) = some (A.new (.row (seenV x) 11 false false)) := wrRow_new rfl
theorem got_new (g : Got) : wrRow (A.new (.row [iv 0, iv 0, iv 0, iv 0, iv 0] 5 false false)) A.next 0 (gotV g) = some (A.new (.row (gotV g) 5 false false)) := wrRow_new rfl
end
theorem act0 (a : JP.Act) : (actV a)[0]? = some (iv a.kind) := rfl
theorem act1 (a : JP.Act) : (actV a)[1]? = some (iv a.client) := rfl
theorem act2 (a : JP.Act) : (actV a)[2]? = some (iv a.queue) := rfl
theorem act3 (a : JP.Act) : (actV a)[3]? = some (iv a.seq) := rfl
theorem act4 (a : JP.Act) : (actV a)[4]? = some (iv a.tag) := rfl
theorem act5 (a : JP.Act) : (actV a)[5]? = some (iv a.code) := rfl
theorem act6 (a : JP.Act) : (actV a)[6]? = some (sv a.key) := rfl
theorem act7 (a : JP.Act) : (actV a)[7]? = some (sv a.body) := rfl
theorem act8 (a : JP.Act) : (actV a)[8]? = some (iv a.many) := rfl
theorem act9 (a : JP.Act) : (actV a)[9]? = some (iv a.pub) := rfl
theorem act10 (a : JP.Act) : (actV a)[10]? = some (iv a.mseq) := rfl
theorem act11 (a : JP.Act) : (actV a)[11]? = some (sv a.mkey) := rfl
theorem act12 (a : JP.Act) : (actV a)[12]? = some (sv a.mbody) := rfl
theorem act13 (a : JP.Act) : (actV a)[13]? = some (bv a.again) := rfl
theorem post0 (p : Post) : (postV p)[0]? = some (iv p.client) := rfl
theorem post1 (p : Post) : (postV p)[1]? = some (iv p.queue) := rfl
theorem post2 (p : Post) : (postV p)[2]? = some (sv p.key) := rfl
theorem post3 (p : Post) : (postV p)[3]? = some (iv p.first) := rfl
theorem post4 (p : Post) : (postV p)[4]? = some (iv p.many) := rfl
theorem post5 (p : Post) : (postV p)[5]? = some (iv p.state) := rfl
theorem seen0 (x : Seen) : (seenV x)[0]? = some (iv x.queue) := rfl
theorem seen1 (x : Seen) : (seenV x)[1]? = some (iv x.post) := rfl
theorem seen2 (x : Seen) : (seenV x)[2]? = some (iv x.pub) := rfl
theorem seen3 (x : Seen) : (seenV x)[3]? = some (iv x.seq) := rfl
theorem seen4 (x : Seen) : (seenV x)[4]? = some (sv x.key) := rfl
theorem seen5 (x : Seen) : (seenV x)[5]? = some (sv x.body) := rfl
theorem seen6 (x : Seen) : (seenV x)[6]? = some (bv false) := rfl
theorem seen7 (x : Seen) : (seenV x)[7]? = some (bv x.dl) := rfl
theorem seen8 (x : Seen) : (seenV x)[8]? = some (bv x.hd) := rfl
theorem seen9 (x : Seen) : (seenV x)[9]? = some (bv x.ak) := rfl
theorem seen10 (x : Seen) : (seenV x)[10]? = some (bv x.fi) := rfl
theorem got0 (g : Got) : (gotV g)[0]? = some (iv g.client) := rfl
theorem got1 (g : Got) : (gotV g)[1]? = some (iv g.queue) := rfl
theorem got2 (g : Got) : (gotV g)[2]? = some (iv g.tag) := rfl
theorem got3 (g : Got) : (gotV g)[3]? = some (iv g.m) := rfl
theorem got4 (g : Got) : (gotV g)[4]? = some (iv g.state) := rfl


/-- the record of the document's judge -/
structure JR (j : Nat) (vw vm vt : Value) (s : St) (A : AHeap) : Prop where
  tops : s.tops.length = 4
  rec_ : A.get j = some (.row ([.slice none 0 0, vw, vm] ++ (s.tops.map iv ++ [vt])) 8 false false)
  wait : Sl A 6 vw (s.wait.flatMap postV)
  ms : Sl A 11 vm (s.ms.flatMap seenV)
  tags : Sl A 5 vt (s.tags.flatMap gotV)
  nodup : ([j] ++ (rowL vw ++ (rowL vm ++ rowL vt))).Nodup
  lt : ∀ r ∈ [j] ++ (rowL vw ++ (rowL vm ++ rowL vt)), r < A.next

/-- numbers are small, and stand for what there is -/
structure Small (s : St) : Prop where
  post : ∀ p ∈ s.wait, 0 < p.first ∧ 0 < p.many ∧ p.many ≤ 8 ∧ p.first + p.many ≤ 1000000
  wl : s.wait.length ≤ 1000
  ml : s.ms.length ≤ 8000
  tl : s.tags.length ≤ 1000
  mp : ∀ x ∈ s.ms, x.post < s.wait.length
  gm : ∀ g ∈ s.tags, g.m < s.ms.length

theorem JR.keep {j : Nat} {vw vm vt : Value} {s : St} {A A' : AHeap} {own : List Nat} (h : JR j vw vm vt s A) (hk : Keep own A A') (hd : ∀ r ∈ [j] ++ (rowL vw ++ (rowL vm ++ rowL vt)), r ∉ own) : JR j vw vm vt s A' := by
  refine ⟨h.tops, ?_, h.wait.keep hk ?_, h.ms.keep hk ?_, h.tags.keep hk ?_, h.nodup, fun r hr => Nat.lt_of_lt_of_le (h.lt r hr) hk.next⟩
  · rw [hk.get j (h.lt j (by simp)) (hd j (by simp))]; exact h.rec_
  · exact fun r hr => ⟨h.lt r (by simp [hr]), hd r (by simp [hr])⟩
  · exact fun r hr => ⟨h.lt r (by simp [hr]), hd r (by simp [hr])⟩
  · exact fun r hr => ⟨h.lt r (by simp [hr]), hd r (by simp [hr])⟩
/-- the batches are written anew, in their place -/
theorem JR.waitSet {j r n c : Nat} {vm vt : Value} {s : St} {A : AHeap} (h : JR j (.slice (some ⟨r, 0, none⟩) n c) vm vt s A) (hg : A.get r = some (.row (s.wait.flatMap postV) 6 false true)) (hn : n = s.wait.length) (hc : c = capInf * (6 + 1) + n) (w : List Post) (hw : w.length = s.wait.length) :
    JR j (.slice (some ⟨r, 0, none⟩) n c) vm vt { s with wait := w } (A.set r (.row (w.flatMap postV) 6 false true)) := by
  have hk : Keep [r] A (A.set r (.row (w.flatMap postV) 6 false true)) := Keep.set _ (.inl (by simp))
  have hnd := h.nodup
  simp only [rowL, List.cons_append, List.nil_append, List.nodup_cons, List.mem_cons, List.mem_append, not_or] at hnd
  have hlt : ∀ x, x = j ∨ x = r ∨ x ∈ rowL vm ∨ x ∈ rowL vt → x < A.next := by
    intro x hx
    exact h.lt x (by simpa [rowL] using hx)
  refine ⟨h.tops, ?_, ?_, h.ms.keep hk ?_, h.tags.keep hk ?_, h.nodup, fun x hx => h.lt x hx⟩
  · rw [hk.get j (hlt j (.inl rfl)) (by simpa using hnd.1.1)]; exact h.rec_
  · subst hc; exact .own AHeap.set_get (by rw [len_flat postV 6 postV_len, hw, hn])
  · exact fun x hx => ⟨hlt x (.inr (.inr (.inl hx))), fun e => by cases List.mem_singleton.1 e; exact hnd.2.1.1 hx⟩
  · exact fun x hx => ⟨hlt x (.inr (.inr (.inr hx))), fun e => by cases List.mem_singleton.1 e; exact hnd.2.1.2 hx⟩

/-- the messages are written anew, in their place -/
theorem JR.msSet {j r n c : Nat} {vw vt : Value} {s : St} {A : AHeap} (h : JR j vw (.slice (some ⟨r, 0, none⟩) n c) vt s A) (hn : n = s.ms.length) (hc : c = capInf * (11 + 1) + n) (w : List Seen) (hw : w.length = s.ms.length) :
    JR j vw (.slice (some ⟨r, 0, none⟩) n c) vt { s with ms := w } (A.set r (.row (w.flatMap seenV) 11 false true)) := by
  have hk : Keep [r] A (A.set r (.row (w.flatMap seenV) 11 false true)) := Keep.set _ (.inl (by simp))
  obtain ⟨h1, h2, h3, h4⟩ : r ≠ j ∧ j < A.next ∧ (∀ x ∈ rowL vw, x < A.next ∧ x ≠ r) ∧ (∀ x ∈ rowL vt, x < A.next ∧ x ≠ r) := by
    have hnd := h.nodup
    have hlt := h.lt
    simp only [rowL, List.cons_append, List.nil_append, List.nodup_cons, List.nodup_append, List.mem_cons, List.mem_append, not_or] at hnd hlt
    exact ⟨fun e => hnd.1.2.1 e.symm, hlt j (.inl rfl), fun x hx => ⟨hlt x (.inr (.inl hx)), fun e => hnd.2.2.2 x hx r (.inl rfl) e⟩, fun x hx => ⟨hlt x (.inr (.inr (.inr hx))), fun e => hnd.2.2.1.1 (e ▸ hx)⟩⟩
  refine ⟨h.tops, ?_, h.wait.keep hk ?_, ?_, h.tags.keep hk ?_, h.nodup, fun x hx => h.lt x hx⟩
  · rw [AHeap.set_ne h1]; exact h.rec_
  · exact fun x hx => ⟨(h3 x hx).1, by simpa using (h3 x hx).2⟩
  · subst hc; exact .own AHeap.set_get (by rw [len_flat seenV 11 seenV_len, hw, hn])
  · exact fun x hx => ⟨(h4 x hx).1, by simpa using (h4 x hx).2⟩
/-- the tags are written anew, in their place -/
theorem JR.tagsSet {j r n c : Nat} {vw vm : Value} {s : St} {A : AHeap} (h : JR j vw vm (.slice (some ⟨r, 0, none⟩) n c) s A) (hn : n = s.tags.length) (hc : c = capInf * (5 + 1) + n) (w : List Got) (hw : w.length = s.tags.length) :
    JR j vw vm (.slice (some ⟨r, 0, none⟩) n c) { s with tags := w } (A.set r (.row (w.flatMap gotV) 5 false true)) := by
  have hk : Keep [r] A (A.set r (.row (w.flatMap gotV) 5 false true)) := Keep.set _ (.inl (by simp))
  obtain ⟨h1, h2, h3, h4⟩ : r ≠ j ∧ j < A.next ∧ (∀ x ∈ rowL vw, x < A.next ∧ x ≠ r) ∧ (∀ x ∈ rowL vm, x < A.next ∧ x ≠ r) := by
    have hnd := h.nodup
    have hlt := h.lt
    simp only [rowL, List.cons_append, List.nil_append, List.nodup_cons, List.nodup_append, List.mem_cons, List.mem_append, not_or, List.not_mem_nil] at hnd hlt
    exact ⟨fun e => hnd.1.2.2.1 e.symm, hlt j (.inl rfl), fun x hx => ⟨hlt x (.inr (.inl hx)), fun e => hnd.2.2.2 x hx r (.inr (.inl rfl)) e⟩, fun x hx => ⟨hlt x (.inr (.inr (.inl hx))), fun e => hnd.2.2.1.2.2 x hx r (.inl rfl) e⟩⟩
  refine ⟨h.tops, ?_, h.wait.keep hk ?_, h.ms.keep hk ?_, ?_, h.nodup, fun x hx => h.lt x hx⟩
  · rw [AHeap.set_ne h1]; exact h.rec_
  · exact fun x hx => ⟨(h3 x hx).1, by simpa using (h3 x hx).2⟩
  · exact fun x hx => ⟨(h4 x hx).1, by simpa using (h4 x hx).2⟩
  · subst hc; exact .own AHeap.set_get (by rw [len_flat gotV 5 gotV_len, hw, hn])

section
variable (p q n m c t k : Int) (x y : ByteArray) (b0 b1 b2 b3 b4 : Bool) (v0 v1 v2 v3 v4 v5 v6 v7 v8 v9 v10 : Value)
theorem fill_msg : fillL [iv 0, iv 0, sv ⟨#[]⟩, sv ⟨#[]⟩, bv false] [(0, 1, iv p), (1, 1, iv q), (2, 1, sv x), (3, 1, sv y)] = some [iv p, iv q, sv x, sv y, bv false] := rfl
theorem fill_seen : fillL [iv 0, iv 0, iv 0, iv 0, sv ⟨#[]⟩, sv ⟨#[]⟩, bv false, bv false, bv false, bv false, bv false] [(0, 1, iv n), (1, 1, iv m), (2, 5, .agg #[iv p, iv q, sv x, sv y, bv false])] = some [iv n, iv m, iv p, iv q, sv x, sv y, bv false, bv false, bv false, bv false, bv false] := rfl
theorem fill_seen1 : fillL [iv 0, iv 0, iv 0, iv 0, sv ⟨#[]⟩, sv ⟨#[]⟩, bv false, bv false, bv false, bv false, bv false] [(0, 11, .agg #[v0, v1, v2, v3, v4, v5, v6, v7, v8, v9, v10])] = some [v0, v1, v2, v3, v4, v5, v6, v7, v8, v9, v10] := rfl
theorem fill_post : fillL [iv 0, iv 0, sv ⟨#[]⟩, iv 0, iv 0, iv 0] [(0, 1, iv n), (1, 1, iv m), (2, 1, sv x), (3, 1, iv p), (4, 1, iv q)] = some [iv n, iv m, sv x, iv p, iv q, iv 0] := rfl
theorem fill_post1 : fillL [iv 0, iv 0, sv ⟨#[]⟩, iv 0, iv 0, iv 0] [(0, 6, .agg #[v0, v1, v2, v3, v4, v5])] = some [v0, v1, v2, v3, v4, v5] := rfl
theorem fill_got : fillL [iv 0, iv 0, iv 0, iv 0, iv 0] [(0, 1, iv n), (1, 1, iv m), (2, 1, iv p), (3, 1, iv q)] = some [iv n, iv m, iv p, iv q, iv 0] := rfl
theorem fill_got1 : fillL [iv 0, iv 0, iv 0, iv 0, iv 0] [(0, 5, .agg #[v0, v1, v2, v3, v4])] = some [v0, v1, v2, v3, v4] := rfl
theorem fill_msg1 : fillL [iv 0, iv 0, sv ⟨#[]⟩, sv ⟨#[]⟩, bv false] [(0, 5, .agg #[v0, v1, v2, v3, v4])] = some [v0, v1, v2, v3, v4] := rfl
end
section
variable {A : AHeap} (v0 v1 v2 v3 v4 w : Value)
theorem msg_new : wrRow (A.new (.row [iv 0, iv 0, sv ⟨#[]⟩, sv ⟨#[]⟩, bv false] 5 false false)) A.next 0 [v0, v1, v2, v3, v4] = some (A.new (.row [v0, v1, v2, v3, v4] 5 false false)) := wrRow_new rfl
theorem msg_again : wrRow (A.new (.row [v0, v1, v2, v3, v4] 5 false false)) A.next 4 [w] = some (A.new (.row [v0, v1, v2, v3, w] 5 false false)) := by
  rw [wrRow_at AHeap.new_get (by simp), AHeap.set_new]; rfl
theorem msg_new1 {n : Nat} (h : n ≤ A.next) (h' : A.next ≤ n) : wrRow (A.new (.row [iv 0, iv 0, sv ⟨#[]⟩, sv ⟨#[]⟩, bv false] 5 false false)) n 0 [v0, v1, v2, v3, v4] = some (A.new (.row [v0, v1, v2, v3, v4] 5 false false)) := Nat.le_antisymm h h' ▸ wrRow_new rfl
theorem msg_again1 {n : Nat} (h : n ≤ A.next) (h' : A.next ≤ n) : wrRow (A.new (.row [v0, v1, v2, v3, v4] 5 false false)) n 4 [w] = some (A.new (.row [v0, v1, v2, v3, w] 5 false false)) := by
  have := Nat.le_antisymm h h'; subst this; exact msg_again v0 v1 v2 v3 v4 w
theorem msg_eq (p q p' q' : Int) (k b k' b' : ByteArray) (f f' : Bool) : aeq (.agg [.int .i64, .int .i64, .str, .str, .bool]) (.agg #[iv p, iv q, sv k, sv b, bv f]) (.agg #[iv p', iv q', sv k', sv b', bv f']) = some (decide (p = p' ∧ q = q' ∧ k = k' ∧ b = b' ∧ f = f')) := by
  simp [aeq, allOk, CK.ok, ceqs, ceq_int, ceq_str, ceq_bool, Bool.decide_and]
  cases f <;> cases f' <;> simp
end
section
variable {A : AHeap} (p q r : Int) (x : ByteArray) (v0 v1 v2 : Value)
theorem fill_tag : fillL [iv 0, iv 0, iv 0] [(0, 1, iv p), (1, 1, iv q), (2, 1, iv r)] = some [iv p, iv q, iv r] := rfl
theorem fill_line : fillL [iv 0, iv 0, sv ⟨#[]⟩] [(0, 1, iv p), (1, 1, iv q), (2, 1, sv x)] = some [iv p, iv q, sv x] := rfl
theorem fill_lock : fillL [iv 0, sv ⟨#[]⟩] [(0, 1, iv p), (1, 1, sv x)] = some [iv p, sv x] := rfl
theorem tag_new {n : Nat} (h : n ≤ A.next) (h' : A.next ≤ n) : wrRow (A.new (.row [iv 0, iv 0, iv 0] 3 false false)) n 0 [v0, v1, v2] = some (A.new (.row [v0, v1, v2] 3 false false)) := Nat.le_antisymm h h' ▸ wrRow_new rfl
theorem line_new {n : Nat} (h : n ≤ A.next) (h' : A.next ≤ n) : wrRow (A.new (.row [iv 0, iv 0, sv ⟨#[]⟩] 3 false false)) n 0 [v0, v1, v2] = some (A.new (.row [v0, v1, v2] 3 false false)) := Nat.le_antisymm h h' ▸ wrRow_new rfl
theorem fill_b : fillL [iv 0, iv 0, iv 0] [(0, 1, iv p), (1, 1, iv q)] = some [iv p, iv q, iv 0] := rfl
theorem fill_p (i : Nat) : fillL [.pointer none] [(0, 1, pv i)] = some [pv i] := rfl
theorem fill_x (y : ByteArray) (i : Nat) : fillL [iv 0, iv 0, sv ⟨#[]⟩, sv ⟨#[]⟩, bv false, .pointer none, bv false, bv false, bv false] [(0, 5, .agg #[iv p, iv q, sv x, sv y, bv false]), (5, 1, pv i)] = some [iv p, iv q, sv x, sv y, bv false, pv i, bv false, bv false, bv false] := rfl
theorem kx_body (v3 v4 v5 v6 v7 v8 w : Value) : wrRow (A.new (.row [v0, v1, v2, v3, v4, v5, v6, v7, v8] 9 false false)) A.next 3 [w] = some (A.new (.row [v0, v1, v2, w, v4, v5, v6, v7, v8] 9 false false)) := by
  rw [wrRow_at AHeap.new_get (by simp), AHeap.set_new]; rfl
theorem aeq_pn (b : Option Addr) : aeq .ptr (.pointer none) (.pointer b) = some b.isNone := rfl
theorem aeq_ps (a : Addr) : aeq .ptr (.pointer (some a)) (.pointer none) = some false := rfl
end
theorem JR.topsSet {j : Nat} {vw vm vt : Value} {s : St} {A : AHeap} (h : JR j vw vm vt s A) (t : List Int) (ht : t.length = 4) : JR j vw vm vt { s with tops := t } (A.set j (.row ([.slice none 0 0, vw, vm] ++ (t.map iv ++ [vt])) 8 false false)) := by
  have hnd := h.nodup
  simp only [List.cons_append, List.nil_append, List.nodup_cons, List.mem_append, not_or] at hnd
  have hk : Keep [j] A (A.set j (.row ([.slice none 0 0, vw, vm] ++ (t.map iv ++ [vt])) 8 false false)) := Keep.set _ (.inl (by simp))
  have hd : ∀ r, r ∈ rowL vw ∨ r ∈ rowL vm ∨ r ∈ rowL vt → r < A.next ∧ r ∉ [j] := fun r hr => ⟨h.lt r (by rcases hr with h | h | h <;> simp [h]), fun e => by
    cases List.mem_singleton.1 e
    rcases hr with h | h | h
    · exact hnd.1.1 h
    · exact hnd.1.2.1 h
    · exact hnd.1.2.2 h⟩
  exact ⟨ht, AHeap.set_get, h.wait.keep hk fun r hr => hd r (.inl hr), h.ms.keep hk fun r hr => hd r (.inr (.inl hr)), h.tags.keep hk fun r hr => hd r (.inr (.inr hr)), h.nodup, h.lt⟩
theorem JR.four {j : Nat} {vw vm vt : Value} {s : St} {A : AHeap} (h : JR j vw vm vt s A) : ∃ t0 t1 t2 t3, s.tops = [t0, t1, t2, t3] ∧ A.get j = some (.row [.slice none 0 0, vw, vm, iv t0, iv t1, iv t2, iv t3, vt] 8 false false) := by
  have := h.tops
  match hs : s.tops, this with
  | [a, b, c, d], _ =>
    have hr := h.rec_
    rw [hs] at hr
    exact ⟨_, _, _, _, rfl, hr⟩
/-- messages more -/
theorem JR.msPush {j n : Nat} {vw vm vt : Value} {s : St} {A A1 : AHeap} (h : JR j vw vm vt s A) (l : List Seen) (hn1 : A1.next = A.next + 1) (hg : A1.get A.next = some (.row (s.ms.flatMap seenV ++ l.flatMap seenV) 11 false true)) (hk : Keep (rowL vm) A A1) (hn : n = (s.ms ++ l).length) {row : List Value}
    (hrow : row = [.slice none 0 0, vw, .slice (some ⟨A.next, 0, none⟩) n (capInf * (11 + 1) + n)] ++ (s.tops.map iv ++ [vt])) :
    JR j vw (.slice (some ⟨A.next, 0, none⟩) n (capInf * (11 + 1) + n)) vt { s with ms := s.ms ++ l } (A1.set j (.row row 8 false false)) ∧ Keep ([j] ++ rowL vm) A (A1.set j (.row row 8 false false)) := by
  obtain ⟨h0, h1, h2, h3, h4⟩ : j < A.next ∧ (∀ x ∈ rowL vw, x < A.next ∧ x ≠ j ∧ x ∉ rowL vm) ∧ (∀ x ∈ rowL vm, x < A.next) ∧ (∀ x ∈ rowL vt, x < A.next ∧ x ≠ j ∧ x ∉ rowL vm) ∧ (rowL vw).Nodup ∧ (rowL vt).Nodup ∧ ∀ a ∈ rowL vw, ∀ b ∈ rowL vt, a ≠ b := by
    have hnd := h.nodup
    have hlt := h.lt
    simp only [List.cons_append, List.nil_append, List.nodup_cons, List.nodup_append, List.mem_cons, List.mem_append, not_or] at hnd hlt
    refine ⟨hlt j (.inl rfl), fun x hx => ⟨hlt x (.inr (.inl hx)), fun e => hnd.1.1 (e ▸ hx), fun hm => hnd.2.2.2 x hx x (.inl hm) rfl⟩, fun x hx => hlt x (.inr (.inr (.inl hx))), fun x hx => ⟨hlt x (.inr (.inr (.inr hx))), fun e => hnd.1.2.2 (e ▸ hx), fun hm => hnd.2.2.1.2.2 x hm x hx rfl⟩, hnd.2.1, hnd.2.2.1.2.1, fun a ha b hb => hnd.2.2.2 a ha b (.inr hb)⟩
  have hk2 : Keep ([j] ++ rowL vm) A (A1.set j (.row row 8 false false)) := (hk.mono (fun _ _ h => List.mem_append_right _ h)).trans (Keep.set (own := [j] ++ rowL vm) _ (.inl (by simp))) (fun _ _ h => h)
  refine ⟨⟨h.tops, by rw [AHeap.set_get, hrow], h.wait.keep hk2 ?_, ?_, h.tags.keep hk2 ?_, ?_, ?_⟩, hk2⟩
  · exact fun x hx => ⟨(h1 x hx).1, by simp only [List.mem_append, List.mem_singleton, not_or]; exact (h1 x hx).2⟩
  · refine .own (by rw [AHeap.set_ne (by omega), hg]; simp) ?_
    rw [len_flat seenV 11 seenV_len, hn]
  · exact fun x hx => ⟨(h3 x hx).1, by simp only [List.mem_append, List.mem_singleton, not_or]; exact (h3 x hx).2⟩
  · simp only [rowL, List.cons_append, List.nil_append, List.nodup_cons, List.nodup_append, List.mem_cons, List.mem_append, not_or]
    refine ⟨⟨fun hx => (h1 j hx).2.1 rfl, by omega, fun hx => (h3 j hx).2.1 rfl⟩, h4.1, ⟨fun hx => by have := (h3 _ hx).1; omega, h4.2.1⟩, ?_⟩
    intro a ha b hb
    rcases hb with hb | hb
    · have := (h1 a ha).1; omega
    · exact h4.2.2 a ha b hb
  · intro x hx
    rw [AHeap.set_next, hn1]
    simp only [rowL, List.cons_append, List.nil_append, List.mem_cons, List.mem_append] at hx
    rcases hx with hx | hx | hx | hx
    · omega
    · have := (h1 x hx).1; omega
    · omega
    · have := (h3 x hx).1; omega
/-- a batch more -/
theorem JR.waitPush {j n : Nat} {vw vm vt : Value} {s : St} {A A1 : AHeap} (h : JR j vw vm vt s A) (l : List Post) (hn1 : A1.next = A.next + 1) (hg : A1.get A.next = some (.row (s.wait.flatMap postV ++ l.flatMap postV) 6 false true)) (hk : Keep (rowL vw) A A1) (hn : n = (s.wait ++ l).length) {row : List Value}
    (hrow : row = [.slice none 0 0, .slice (some ⟨A.next, 0, none⟩) n (capInf * (6 + 1) + n), vm] ++ (s.tops.map iv ++ [vt])) :
    JR j (.slice (some ⟨A.next, 0, none⟩) n (capInf * (6 + 1) + n)) vm vt { s with wait := s.wait ++ l } (A1.set j (.row row 8 false false)) ∧ Keep ([j] ++ rowL vw) A (A1.set j (.row row 8 false false)) := by
  obtain ⟨h0, h1, h2, h3, h4⟩ : j < A.next ∧ (∀ x ∈ rowL vm, x < A.next ∧ x ≠ j ∧ x ∉ rowL vw) ∧ (∀ x ∈ rowL vw, x < A.next) ∧ (∀ x ∈ rowL vt, x < A.next ∧ x ≠ j ∧ x ∉ rowL vw) ∧ (rowL vm).Nodup ∧ (rowL vt).Nodup ∧ ∀ a ∈ rowL vm, ∀ b ∈ rowL vt, a ≠ b := by
    have hnd := h.nodup
    have hlt := h.lt
    simp only [List.cons_append, List.nil_append, List.nodup_cons, List.nodup_append, List.mem_cons, List.mem_append, not_or] at hnd hlt
    refine ⟨hlt j (.inl rfl), fun x hx => ⟨hlt x (.inr (.inr (.inl hx))), fun e => hnd.1.2.1 (e ▸ hx), fun hm => hnd.2.2.2 x hm x (.inl hx) rfl⟩, fun x hx => hlt x (.inr (.inl hx)), fun x hx => ⟨hlt x (.inr (.inr (.inr hx))), fun e => hnd.1.2.2 (e ▸ hx), fun hm => hnd.2.2.2 x hm x (.inr hx) rfl⟩, hnd.2.2.1.1, hnd.2.2.1.2.1, hnd.2.2.1.2.2⟩
  have hk2 : Keep ([j] ++ rowL vw) A (A1.set j (.row row 8 false false)) := (hk.mono (fun _ _ h => List.mem_append_right _ h)).trans (Keep.set (own := [j] ++ rowL vw) _ (.inl (by simp))) (fun _ _ h => h)
  refine ⟨⟨h.tops, by rw [AHeap.set_get, hrow], ?_, h.ms.keep hk2 ?_, h.tags.keep hk2 ?_, ?_, ?_⟩, hk2⟩
  · refine .own (by rw [AHeap.set_ne (by omega), hg]; simp) ?_
    rw [len_flat postV 6 postV_len, hn]
  · exact fun x hx => ⟨(h1 x hx).1, by simp only [List.mem_append, List.mem_singleton, not_or]; exact (h1 x hx).2⟩
  · exact fun x hx => ⟨(h3 x hx).1, by simp only [List.mem_append, List.mem_singleton, not_or]; exact (h3 x hx).2⟩
  · simp only [rowL, List.cons_append, List.nil_append, List.nodup_cons, List.nodup_append, List.mem_cons, List.mem_append, not_or]
    refine ⟨⟨by omega, fun hx => (h1 j hx).2.1 rfl, fun hx => (h3 j hx).2.1 rfl⟩, ⟨fun hx => by have := (h1 _ hx).1; omega, fun hx => by have := (h3 _ hx).1; omega⟩, h4.1, h4.2.1, h4.2.2⟩
  · intro x hx
    rw [AHeap.set_next, hn1]
    simp only [rowL, List.cons_append, List.nil_append, List.mem_cons, List.mem_append] at hx
    rcases hx with hx | hx | hx | hx
    · omega
    · omega
    · have := (h1 x hx).1; omega
    · have := (h3 x hx).1; omega
/-- tags more, and a client's highest one -/
theorem JR.tagsPush {j n : Nat} {vw vm vt : Value} {s : St} {A A1 : AHeap} (h : JR j vw vm vt s A) (l : List Got) (hn1 : A1.next = A.next + 1) (hg : A1.get A.next = some (.row (s.tags.flatMap gotV ++ l.flatMap gotV) 5 false true)) (hk : Keep (rowL vt) A A1) (hn : n = (s.tags ++ l).length) {row : List Value}
    (hrow : row = [.slice none 0 0, vw, vm] ++ (s.tops.map iv ++ [.slice (some ⟨A.next, 0, none⟩) n (capInf * (5 + 1) + n)])) :
    JR j vw vm (.slice (some ⟨A.next, 0, none⟩) n (capInf * (5 + 1) + n)) { s with tags := s.tags ++ l } (A1.set j (.row row 8 false false)) ∧ Keep ([j] ++ rowL vt) A (A1.set j (.row row 8 false false)) := by
  obtain ⟨h0, h1, h2, h3, h4⟩ : j < A.next ∧ (∀ x ∈ rowL vm, x < A.next ∧ x ≠ j ∧ x ∉ rowL vt) ∧ (∀ x ∈ rowL vt, x < A.next) ∧ (∀ x ∈ rowL vw, x < A.next ∧ x ≠ j ∧ x ∉ rowL vt) ∧ (rowL vm).Nodup ∧ (rowL vw).Nodup ∧ ∀ a ∈ rowL vw, ∀ b ∈ rowL vm, a ≠ b := by
    have hnd := h.nodup
    have hlt := h.lt
    simp only [List.cons_append, List.nil_append, List.nodup_cons, List.nodup_append, List.mem_cons, List.mem_append, not_or] at hnd hlt
    refine ⟨hlt j (.inl rfl), fun x hx => ⟨hlt x (.inr (.inr (.inl hx))), fun e => hnd.1.2.1 (e ▸ hx), fun hm => hnd.2.2.1.2.2 x hx x hm rfl⟩, fun x hx => hlt x (.inr (.inr (.inr hx))), fun x hx => ⟨hlt x (.inr (.inl hx)), fun e => hnd.1.1 (e ▸ hx), fun hm => hnd.2.2.2 x hx x (.inr hm) rfl⟩, hnd.2.2.1.1, hnd.2.1, fun a ha b hb => hnd.2.2.2 a ha b (.inl hb)⟩
  have hk2 : Keep ([j] ++ rowL vt) A (A1.set j (.row row 8 false false)) := (hk.mono (fun _ _ h => List.mem_append_right _ h)).trans (Keep.set (own := [j] ++ rowL vt) _ (.inl (by simp))) (fun _ _ h => h)
  refine ⟨⟨h.tops, by rw [AHeap.set_get, hrow], h.wait.keep hk2 ?_, h.ms.keep hk2 ?_, ?_, ?_, ?_⟩, hk2⟩
  · exact fun x hx => ⟨(h3 x hx).1, by simp only [List.mem_append, List.mem_singleton, not_or]; exact (h3 x hx).2⟩
  · exact fun x hx => ⟨(h1 x hx).1, by simp only [List.mem_append, List.mem_singleton, not_or]; exact (h1 x hx).2⟩
  · refine .own (by rw [AHeap.set_ne (by omega), hg]; simp) ?_
    rw [len_flat gotV 5 gotV_len, hn]
  · simp only [rowL, List.cons_append, List.nil_append, List.nodup_cons, List.nodup_append, List.mem_cons, List.mem_append, not_or, List.not_mem_nil]
    refine ⟨⟨fun hx => (h3 j hx).2.1 rfl, fun hx => (h1 j hx).2.1 rfl, by omega, fun h => h.elim⟩, h4.2.1, ⟨h4.1, ⟨fun h => h.elim, List.nodup_nil⟩, ?_⟩, ?_⟩
    · intro a ha b hb
      rcases hb with hb | hb
      · have := (h1 a ha).1; omega
      · exact hb.elim
    · intro a ha b hb
      rcases hb with hb | hb | hb
      · exact h4.2.2 a ha b hb
      · have := (h3 a ha).1; omega
      · exact hb.elim
  · intro x hx
    rw [AHeap.set_next, hn1]
    simp only [rowL, List.cons_append, List.nil_append, List.mem_cons, List.mem_append, List.not_mem_nil, or_false] at hx
    rcases hx with hx | hx | hx | hx
    · omega
    · have := (h3 x hx).1; omega
    · have := (h1 x hx).1; omega
    · omega

/-- the rules of this seat, as one -/
def hxs := And.intro (And.intro (And.intro (And.intro (And.intro (And.intro @fill_b @fill_p) (And.intro @fill_x @kx_body)) (And.intro (And.intro @fill_tag @fill_lock) (And.intro @fill_line (And.intro @tag_new @line_new)))) (And.intro (And.intro (And.intro @aeq_pn @aeq_ps) (And.intro @Nat.le_refl @msg_new1)) (And.intro (And.intro @msg_again1 @msg_new) (And.intro @msg_again (And.intro @msg_eq @fill_msg))))) (And.intro (And.intro (And.intro (And.intro @fill_seen @fill_seen1) (And.intro @fill_post @fill_post1)) (And.intro (And.intro @fill_got @fill_got1) (And.intro @fill_msg1 (And.intro @post_new @seen_new)))) (And.intro (And.intro (And.intro @got_new @postV_len) (And.intro @seenV_len (And.intro @gotV_len @Nat.beq_refl))) (And.intro (And.intro @Bool.and_self @AHeap.new_lt) (And.intro @act0 (And.intro @act1 @act2)))))) (And.intro (And.intro (And.intro (And.intro (And.intro @act3 @act4) (And.intro @act5 @act6)) (And.intro (And.intro @act7 @act8) (And.intro @act9 (And.intro @act10 @act11)))) (And.intro (And.intro (And.intro @act12 @act13) (And.intro @post0 @post1)) (And.intro (And.intro @post2 @post3) (And.intro @post4 (And.intro @post5 @seen0))))) (And.intro (And.intro (And.intro (And.intro @seen1 @seen2) (And.intro @seen3 @seen4)) (And.intro (And.intro @seen5 @seen6) (And.intro @seen7 (And.intro @seen8 @seen9)))) (And.intro (And.intro (And.intro @seen10 @got0) (And.intro @got1 (And.intro @got2 @got3))) (And.intro (And.intro @got4 @not_true_eq_false) (And.intro @not_false_eq_true (And.intro @frOf_cons @frOf_nil))))))

end Go.Proofs.YtiimkdijiddjcaaDoor
