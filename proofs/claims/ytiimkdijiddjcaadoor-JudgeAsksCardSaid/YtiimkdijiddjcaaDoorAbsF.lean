/- The operations of the abstract machine are the model's: those that reckon alone. -/
import Derived.Test.YtiimkdijiddjcaaDoorAbsE
namespace Go.Abs
open Go

theorem semVal_pure {s : Sem Value} {v : Value} (h : semVal s = some v) : s = .pure v := by
  cases s <;> simp [semVal] at h; subst h; rfl

section
variable {P : Program} {μ : Mu} {w : World}

theorem intArith_plain {op : BinOp} {k : IntKind} {a b : Int} {v : Value} (h : semVal (Op.intArith op k a b) = some v) : plain1 v = true := by
  cases op <;> simp [Op.intArith, semVal, stuck, pure] at h <;> (subst h; rfl)
theorem intDiv_plain {op : BinOp} {k : IntKind} {a b : Int} {v : Value} (h : semVal (Op.intDiv op k a b) = some v) : plain1 v = true := by
  unfold Op.intDiv at h
  split at h
  · simp [runtimePanic, program, bind, Sem.bind, semVal] at h
  · cases op <;> simp [semVal, stuck, pure] at h <;> (subst h; rfl)
theorem intBits_plain {op : BinOp} {k : IntKind} {a b : Int} {v : Value} (h : semVal (Op.intBits op k a b) = some v) : plain1 v = true := by
  cases op <;> simp [Op.intBits, semVal, stuck, pure] at h <;> (subst h; rfl)
theorem intCmp_plain {op : BinOp} {a b : Int} {v : Value} (h : semVal (Op.intCmp op a b) = some v) : plain1 v = true := by
  cases op <;> simp [Op.intCmp, semVal, stuck, pure] at h <;> (subst h; rfl)
theorem shift_plain {op : BinOp} {k yk : IntKind} {a b : Int} {v : Value} (h : semVal (Op.shift op k a yk b) = some v) : plain1 v = true := by
  unfold Op.shift at h
  split at h
  · simp [runtimePanic, program, bind, Sem.bind, semVal] at h
  · cases op <;> simp [semVal, stuck, pure] at h <;> (subst h; rfl)
theorem stringOp_plain {op : BinOp} {a b : ByteArray} {v : Value} (hop : op ≠ .add) (h : semVal (Op.stringOp op a b) = some v) : plain1 v = true := by
  cases op <;> simp [Op.stringOp, semVal, stuck, pure] at h hop <;> (subst h; rfl)

theorem snd_bin {op : BinOp} {t : TypeId} {x y : Operand} {u1 u2 v v1 v2 : Value} (h : abin op u1 u2 = some v) (h1 : VR μ u1 v1) (h2 : VR μ u2 v2) :
    ∃ v', (do eqGuard op t x y v1 v2; binOp op t v1 v2 : Sem Value).run P w = .ok v' w ∧ VR μ v v' := by
  unfold abin at h
  split at h
  · rename_i k a k' b
    have e1 := h1.int; have e2 := h2.int; subst e1; subst e2
    have key : ∀ s : Sem Value, semVal s = some v → binOp op t (.int k a) (.int k' b) = s → plain1 v = true → ∃ v', (do eqGuard op t x y (.int k a) (.int k' b); binOp op t (.int k a) (.int k' b) : Sem Value).run P w = .ok v' w ∧ VR μ v v' := by
      intro s hs hb hp
      refine ⟨v, ?_, .sr (.plain hp)⟩
      rw [eqGuard_at_int, Sem.run_bind, Sem.run_pure, Result.andThen_ok, hb, semVal_pure hs, Sem.run_pure']
    split at h
    · exact key _ h rfl (shift_plain h)
    · exact key _ h rfl (shift_plain h)
    all_goals (split at h; rotate_left; cases h)
    all_goals (rename_i hk; subst hk)
    · exact key _ h (by simp [binOp]) (intArith_plain h)
    · exact key _ h (by simp [binOp]) (intArith_plain h)
    · exact key _ h (by simp [binOp]) (intArith_plain h)
    · exact key _ h (by simp [binOp]) (intDiv_plain h)
    · exact key _ h (by simp [binOp]) (intDiv_plain h)
    · exact key _ h (by simp [binOp]) (intBits_plain h)
    · exact key _ h (by simp [binOp]) (intBits_plain h)
    · exact key _ h (by simp [binOp]) (intBits_plain h)
    · exact key _ h (by simp [binOp]) (intBits_plain h)
    · exact key _ h (by cases op <;> simp_all [binOp]) (intCmp_plain h)
  · rename_i a b
    have e1 := h1.string; have e2 := h2.string; subst e1; subst e2
    split at h
    · split at h
      · rename_i hs
        cases h
        refine ⟨_, ?_, .sr (.plain rfl)⟩
        rw [eqGuard_at_string, Sem.run_bind, Sem.run_pure, Result.andThen_ok]
        simp only [binOp, Op.stringOp, IntKind.max_i64]
        rw [if_neg (by omega), Sem.run_pure]
      · cases h
    · rename_i hop
      refine ⟨v, ?_, .sr (.plain (stringOp_plain hop h))⟩
      rw [eqGuard_at_string, Sem.run_bind, Sem.run_pure, Result.andThen_ok]
      have e : binOp op t (.string a) (.string b) = Op.stringOp op a b := by cases op <;> rfl
      rw [e, semVal_pure h, Sem.run_pure']
  · cases h

theorem snd_un {op : UnOp} {v0 v v1 : Value} (h : semVal (Op.unary op v0) = some v) (hv : (∃ k n, v0 = .int k n) ∨ (∃ b, v0 = .bool b)) (h1 : VR μ v0 v1) :
    ∃ v', (Op.unary op v1).run P w = .ok v' w ∧ VR μ v v' := by
  rcases hv with ⟨k, n, rfl⟩ | ⟨b, rfl⟩
  · have e1 := h1.int; subst e1
    refine ⟨v, by rw [semVal_pure h, Sem.run_pure'], .sr (.plain ?_)⟩
    cases op with
    | neg => exact intArith_plain (op := .sub) (k := k) (a := 0) (b := n) h
    | xor => exact intBits_plain (op := .xor) (k := k) (a := if k.signed then -1 else k.max) (b := n) h
    | _ => simp [Op.unary, semVal, stuck] at h
  · have e1 := h1.bool; subst e1
    refine ⟨v, by rw [semVal_pure h, Sem.run_pure'], .sr (.plain ?_)⟩
    cases op <;> simp [Op.unary, semVal, stuck, pure] at h
    subst h; rfl

/- ## equality -/
theorem run_beq_str (a b : ByteArray) : (a == b) = (a.data.toList == b.data.toList) := by
  rw [beq_toListBytes, ByteArray.toList_eq, ByteArray.toList_eq]
theorem run_part1 {t : TypeId} {cs : Array Value} {off : Nat} {v : Value} (ht : isAggB P t = some false) (h : cs[off]? = some v) : (part t cs off).run P w = .ok v w := by
  unfold part
  simp [run_isAgg ht, h]
theorem ckOf_agg {t : TypeId} {c : CK} (h : ckOf P t = some c) : isAggB P t = some false := by
  unfold ckOf at h
  unfold isAggB
  split at h <;> simp_all
theorem run_equalIn_ck {t : TypeId} {c : CK} (h : ckOf P t = some c) {a b : Value} (ha : c.ok a = true) (hb : c.ok b = true) (d : Nat) : (Op.equalIn (d + 1) t a b).run P w = .ok (ceq a b) w := by
  unfold ckOf at h
  split at h
  · rename_i k hu
    cases h
    cases a <;> simp [CK.ok] at ha
    cases b <;> simp [CK.ok] at hb
    subst ha; subst hb
    simp [Op.equalIn, run_underlying hu, ceq]
  · rename_i hu
    cases h
    cases a <;> simp [CK.ok] at ha
    cases b <;> simp [CK.ok] at hb
    rename_i a b
    simp only [Op.equalIn, Sem.run_bind, run_underlying hu, Result.andThen_ok, Sem.run_pure, ceq, run_beq_str]
  · rename_i hu
    cases h
    cases a <;> simp [CK.ok] at ha
    cases b <;> simp [CK.ok] at hb
    simp [Op.equalIn, run_underlying hu, ceq]
  · cases h

theorem allOk_length : ∀ {cs : List CK} {vs : List Value}, allOk cs vs = true → vs.length = cs.length
  | [], [], _ => rfl
  | [], _ :: _, h => by simp [allOk] at h
  | _ :: _, [], h => by simp [allOk] at h
  | _ :: _, _ :: _, h => by simp [allOk] at h; simp [allOk_length h.2]
theorem allOk_append : ∀ {cs ds : List CK} {vs us : List Value}, allOk cs vs = true → allOk (cs ++ ds) (vs ++ us) = allOk ds us
  | [], _, [], _, _ => rfl
  | [], _, _ :: _, _, h => by simp [allOk] at h
  | _ :: _, _, [], _, h => by simp [allOk] at h
  | _ :: _, _, _ :: _, _, h => by simp [allOk] at h; simp [allOk, h.1, allOk_append h.2]
theorem allOk_split : ∀ {cs ds : List CK} {vs : List Value}, allOk (cs ++ ds) vs = true → allOk cs (vs.take cs.length) = true ∧ allOk ds (vs.drop cs.length) = true
  | [], _, vs, h => ⟨by simp [allOk], by simpa using h⟩
  | _ :: _, _, [], h => by simp [allOk] at h
  | c :: cs, ds, v :: vs, h => by
    simp only [List.cons_append, allOk, Bool.and_eq_true] at h
    obtain ⟨h1, h2⟩ := allOk_split h.2
    exact ⟨by simp [allOk, h.1, h1], by simpa using h2⟩
theorem ceqs_append : ∀ {a b c d : List Value}, a.length = b.length → ceqs (a ++ c) (b ++ d) = (ceqs a b && ceqs c d)
  | [], [], _, _, _ => by simp [ceqs]
  | [], _ :: _, _, _, h => by simp at h
  | _ :: _, [], _, _, h => by simp at h
  | x :: a, y :: b, c, d, h => by simp [ceqs, ceqs_append (a := a) (b := b) (c := c) (d := d) (by simpa using h), Bool.and_assoc]

/-- one field behind the other -/
theorem run_eqFields {d : Nat} {f : TypeId → Option (List CK)} (hf : ∀ (t : TypeId) (cs : List CK), f t = some cs → (∃ fs, P.underlying t = some (.struct fs)) → ∀ (xs ys : Array Value) (w : World), allOk cs xs.toList = true → allOk cs ys.toList = true → (Op.equalIn (d + 1) t (.agg xs) (.agg ys)).run P w = .ok (ceqs xs.toList ys.toList) w) :
    ∀ (fs : List Field) (i : Nat) (cs : List CK), ekFields f P i fs = some cs → ∀ (xs ys : Array Value), allOk cs (xs.toList.drop i) = true → allOk cs (ys.toList.drop i) = true →
    (Op.eqFields (d + 1) xs ys fs).run P w = .ok (ceqs (xs.toList.drop i) (ys.toList.drop i)) w
  | [], i, cs, h, xs, ys, hx, hy => by
    simp [ekFields] at h; subst h
    cases h1 : xs.toList.drop i <;> rw [h1] at hx <;> simp [allOk] at hx
    cases h2 : ys.toList.drop i <;> rw [h2] at hy <;> simp [allOk] at hy
    simp [Op.eqFields, ceqs]
  | x :: fs, i, cs, h, xs, ys, hx, hy => by
    simp only [ekFields] at h
    split at h
    · rename_i hn
      obtain ⟨hname, hoff⟩ := hn
      split at h
      · rename_i fs2 hu
        simp only [Option.bind_eq_some_iff] at h
        obtain ⟨c, hc, n, hsz, h⟩ := h
        split at h
        · rename_i hcl
          simp only [Option.map_eq_some_iff] at h
          obtain ⟨cs2, hcs2, rfl⟩ := h
          obtain ⟨hx1, hx2⟩ := allOk_split hx
          obtain ⟨hy1, hy2⟩ := allOk_split hy
          rw [List.drop_drop] at hx2 hy2
          have hag : isAggB P x.type = some true := by simp [isAggB, hu]
          have e : ∀ zs : Array Value, zs.extract i (i + n) = ((zs.toList.drop i).take n).toArray := fun zs => by
            apply Array.ext'; simp
          have hpx : (part x.type xs x.offset).run P w = .ok (.agg ((xs.toList.drop i).take n).toArray) w := by
            unfold part; simp [run_isAgg hag, run_sizeOf hsz, hoff, e]
          have hpy : (part x.type ys x.offset).run P w = .ok (.agg ((ys.toList.drop i).take n).toArray) w := by
            unfold part; simp [run_isAgg hag, run_sizeOf hsz, hoff, e]
          rw [hcl] at hx1 hy1 hx2 hy2
          have hrun := hf _ _ hc ⟨_, hu⟩ ((xs.toList.drop i).take n).toArray ((ys.toList.drop i).take n).toArray w (by simpa using hx1) (by simpa using hy1)
          have ih := run_eqFields hf fs (i + n) cs2 hcs2 xs ys hx2 hy2
          have hsplit : ceqs (xs.toList.drop i) (ys.toList.drop i) = (ceqs ((xs.toList.drop i).take n) ((ys.toList.drop i).take n) && ceqs (xs.toList.drop (i + n)) (ys.toList.drop (i + n))) := by
            rw [← ceqs_append (by rw [allOk_length hx1, allOk_length hy1]), ← List.drop_drop, ← List.drop_drop, List.take_append_drop, List.take_append_drop]
          rw [hsplit]
          simp only [Op.eqFields, if_pos hname, Sem.run_bind, hpx, hpy, Result.andThen_ok, hrun]
          cases hb : ceqs ((xs.toList.drop i).take n) ((ys.toList.drop i).take n)
          · simp
          · simpa using ih
        · cases h
      · rename_i hns
        simp only [Option.bind_eq_some_iff, Option.map_eq_some_iff] at h
        obtain ⟨c, hc, cs2, hcs2, rfl⟩ := h
        cases hdx : xs.toList.drop i with
        | nil => rw [hdx] at hx; simp [allOk] at hx
        | cons a xs2 =>
          cases hdy : ys.toList.drop i with
          | nil => rw [hdy] at hy; simp [allOk] at hy
          | cons b ys2 =>
            rw [hdx] at hx; rw [hdy] at hy
            simp only [allOk, Bool.and_eq_true] at hx hy
            have ex : xs.toList.drop (i + 1) = xs2 := by rw [← List.drop_drop, hdx]; rfl
            have ey : ys.toList.drop (i + 1) = ys2 := by rw [← List.drop_drop, hdy]; rfl
            have gx : xs[i]? = some a := by
              have : (xs.toList.drop i)[0]? = some a := by rw [hdx]; rfl
              rw [List.getElem?_drop] at this; simpa using this
            have gy : ys[i]? = some b := by
              have : (ys.toList.drop i)[0]? = some b := by rw [hdy]; rfl
              rw [List.getElem?_drop] at this; simpa using this
            have hpx : (part x.type xs x.offset).run P w = .ok a w := run_part1 (ckOf_agg hc) (by rw [hoff]; exact gx)
            have hpy : (part x.type ys x.offset).run P w = .ok b w := run_part1 (ckOf_agg hc) (by rw [hoff]; exact gy)
            have ih := run_eqFields hf fs (i + 1) cs2 hcs2 xs ys (by rw [ex]; exact hx.2) (by rw [ey]; exact hy.2)
            rw [ex, ey] at ih
            simp only [Op.eqFields, if_pos hname, Sem.run_bind, hpx, hpy, Result.andThen_ok, run_equalIn_ck hc hx.1 hy.1, ceqs]
            cases hb : ceq a b
            · simp
            · simpa using ih
    · cases h

theorem run_equalIn_ek : ∀ (e : Nat) (t : TypeId) (cs : List CK), ekOf P e t = some cs → ∀ (d : Nat) (xs ys : Array Value) (w : World), allOk cs xs.toList = true → allOk cs ys.toList = true →
    (Op.equalIn (d + e + 1) t (.agg xs) (.agg ys)).run P w = .ok (ceqs xs.toList ys.toList) w
  | 0, _, _, h, _, _, _, _, _, _ => by simp [ekOf] at h
  | e + 1, t, cs, h, d, xs, ys, w, hx, hy => by
    simp only [ekOf] at h
    split at h
    · rename_i fs hu
      split at h
      · rename_i hst
        have hfs : P.fieldsOf t = fs := by simp [Program.fieldsOf, hu]
        rw [show d + (e + 1) + 1 = (d + e + 1) + 1 from by omega, run_equalIn_struct w (d + e + 1) t xs ys (by rw [hfs]; exact hu) hst, hfs]
        have := run_eqFields (w := w) (d := d + e) (f := ekOf P e) (fun t2 cs2 h2 _ xs ys w hx hy => run_equalIn_ek e t2 cs2 h2 d xs ys w hx hy) fs.toList 0 cs h xs ys (by simpa using hx) (by simpa using hy)
        simpa using this
      · cases h
    · cases h
end
end Go.Abs
