/- The operations of the abstract machine are the model's: equality, structs, slices, indexes. -/
import Derived.Test.YtiimkdijiddjcaaDoorAbsF
namespace Go.Abs
open Go

section
variable {P : Program} {μ : Mu} {w : World}

def eqOp (neg : Bool) : BinOp := if neg then .neq else .eql
theorem run_binEq {t : TypeId} {x y : Operand} {v1 v2 : Value} {b : Bool} (neg : Bool) (hg : (eqGuard (eqOp neg) t x y v1 v2).run P w = .ok () w) (h : (Op.equal t v1 v2).run P w = .ok b w)
    (hb : binOp (eqOp neg) t v1 v2 = (if neg then do pure (.bool (!(← Op.equal t v1 v2))) else do pure (.bool (← Op.equal t v1 v2)))) :
    (do eqGuard (eqOp neg) t x y v1 v2; binOp (eqOp neg) t v1 v2 : Sem Value).run P w = .ok (.bool (if neg then !b else b)) w := by
  rw [Sem.run_bind, hg, Result.andThen_ok, hb]
  cases neg <;> simp [h]

theorem opaque_eq {t : TypeId} {v1 v2 : Value} (neg : Bool) (h : (∃ a b, v1 = .bool a ∧ v2 = .bool b) ∨ (∃ a b, v1 = .pointer a ∧ v2 = .pointer b) ∨ (∃ a n c b m d, v1 = .slice a n c ∧ v2 = .slice b m d) ∨ (∃ a b, v1 = .map a ∧ v2 = .map b) ∨
    (v1 = .nilFunc ∧ (v2 = .nilFunc ∨ ∃ f a c, v2 = .func f a c)) ∨ (v2 = .nilFunc ∧ ∃ f a c, v1 = .func f a c) ∨ (∃ a b, v1 = .agg a ∧ v2 = .agg b)) :
    binOp (eqOp neg) t v1 v2 = (if neg then do pure (.bool (!(← Op.equal t v1 v2))) else do pure (.bool (← Op.equal t v1 v2))) := by
  rcases h with ⟨a, b, rfl, rfl⟩ | ⟨a, b, rfl, rfl⟩ | ⟨a, n, c, b, m, d, rfl, rfl⟩ | ⟨a, b, rfl, rfl⟩ | ⟨rfl, rfl | ⟨f, a, c, rfl⟩⟩ | ⟨rfl, f, a, c, rfl⟩ | ⟨a, b, rfl, rfl⟩ <;> cases neg <;> rfl

theorem eqGuard_plain {op : BinOp} {t : TypeId} {x y : Operand} {v1 v2 : Value} (h : (∀ cs, v1 ≠ .agg cs) ∧ v1 ≠ .nilIface) : (eqGuard op t x y v1 v2).run P w = .ok () w := by
  cases v1 <;> simp_all [eqGuard_at_bool, eqGuard_at_int, eqGuard_at_float, eqGuard_at_complex, eqGuard_at_string, eqGuard_at_pointer, eqGuard_at_slice, eqGuard_at_map, eqGuard_at_chan, eqGuard_at_func, eqGuard_at_nilFunc, eqGuard_at_iface, eqGuard_at_tuple]

theorem equal_of {t : TypeId} {a b : Value} {r : Result Bool} (h : ∀ d : Nat, (Op.equalIn (d + 1) t a b).run P w = r) : (Op.equal t a b).run P w = r := h 9999
def EqOk (P : Program) (w : World) (neg : Bool) (t : TypeId) (x y : Operand) (v1 v2 : Value) (b : Bool) : Prop :=
  (do eqGuard (eqOp neg) t x y v1 v2; binOp (eqOp neg) t v1 v2 : Sem Value).run P w = .ok (.bool (if neg then !b else b)) w
/-- what 'cEq' lays -/
theorem snd_eq {neg : Bool} {t : TypeId} {x y : Operand} {X Y : Opd} {k : EK} (hc : cEq P neg t X Y = some (.eq neg k X Y)) {u1 u2 v1 v2 : Value} {b : Bool} (h : aeq k u1 u2 = some b) (h1 : VR μ u1 v1) (h2 : VR μ u2 v2) :
    EqOk P w neg t x y v1 v2 b := by
  unfold cEq at hc
  split at hc
  · cases hc
  · cases hc
  · rename_i hu
    cases hc
    unfold aeq at h
    split at h <;> simp_all
    rename_i a b'
    have e1 := h1.bool; have e2 := h2.bool; subst e1; subst e2
    refine run_binEq neg (eqGuard_plain (by simp)) ?_ (opaque_eq neg (.inl ⟨_, _, rfl, rfl⟩))
    exact equal_of fun d => by simp [Op.equalIn, run_underlying hu, h]
  · rename_i e hu
    cases hc
    unfold aeq at h
    split at h <;> simp_all
    · rename_i b'
      have e1 := h1.ptr0; subst e1
      cases b' with
      | none =>
        have e2 := h2.ptr0; subst e2
        refine run_binEq neg (eqGuard_plain (by simp)) ?_ (opaque_eq neg (.inr (.inl ⟨_, _, rfl, rfl⟩)))
        exact equal_of fun d => by simp [Op.equalIn, run_underlying hu, ← h]
      | some ad =>
        obtain ⟨i, _, _, e2⟩ := h2.ptr; subst e2
        refine run_binEq neg (eqGuard_plain (by simp)) ?_ (opaque_eq neg (.inr (.inl ⟨_, _, rfl, rfl⟩)))
        exact equal_of fun d => by simp [Op.equalIn, run_underlying hu, ← h]
    · rename_i ad
      obtain ⟨i, _, _, e1⟩ := h1.ptr; subst e1
      have e2 := h2.ptr0; subst e2
      refine run_binEq neg (eqGuard_plain (by simp)) ?_ (opaque_eq neg (.inr (.inl ⟨_, _, rfl, rfl⟩)))
      exact equal_of fun d => by simp [Op.equalIn, run_underlying hu]
  · rename_i e hu
    cases hc
    unfold aeq at h
    split at h <;> simp_all
    · rename_i n c b' m d'
      have e1 := h1.slice0; subst e1
      cases b' with
      | none =>
        have e2 := h2.slice0; subst e2
        refine run_binEq neg (eqGuard_plain (by simp)) ?_ (opaque_eq neg (.inr (.inr (.inl ⟨_, _, _, _, _, _, rfl, rfl⟩))))
        exact equal_of fun d => by simp [Op.equalIn, run_underlying hu, ← h]
      | some ad =>
        obtain ⟨i, _, _, _, _, e2, _⟩ := h2.slice; subst e2
        refine run_binEq neg (eqGuard_plain (by simp)) ?_ (opaque_eq neg (.inr (.inr (.inl ⟨_, _, _, _, _, _, rfl, rfl⟩))))
        exact equal_of fun d => by simp [Op.equalIn, run_underlying hu, ← h]
    · rename_i ad n c m d'
      have e2 := h2.slice0; subst e2
      obtain ⟨i, _, _, _, _, e1, _⟩ := h1.slice; subst e1
      refine run_binEq neg (eqGuard_plain (by simp)) ?_ (opaque_eq neg (.inr (.inr (.inl ⟨_, _, _, _, _, _, rfl, rfl⟩))))
      exact equal_of fun d => by simp [Op.equalIn, run_underlying hu]
  · rename_i k' e hu
    cases hc
    unfold aeq at h
    split at h <;> simp_all
    · rename_i b'
      have e1 := h1.map0; subst e1
      cases b' with
      | none =>
        have e2 := h2.map0; subst e2
        refine run_binEq neg (eqGuard_plain (by simp)) ?_ (opaque_eq neg (.inr (.inr (.inr (.inl ⟨_, _, rfl, rfl⟩)))))
        exact equal_of fun d => by simp [Op.equalIn, run_underlying hu, ← h]
      | some ad =>
        obtain ⟨i, _, e2⟩ := h2.map; subst e2
        refine run_binEq neg (eqGuard_plain (by simp)) ?_ (opaque_eq neg (.inr (.inr (.inr (.inl ⟨_, _, rfl, rfl⟩)))))
        exact equal_of fun d => by simp [Op.equalIn, run_underlying hu, ← h]
    · rename_i ad
      have e2 := h2.map0; subst e2
      obtain ⟨i, _, e1⟩ := h1.map; subst e1
      refine run_binEq neg (eqGuard_plain (by simp)) ?_ (opaque_eq neg (.inr (.inr (.inr (.inl ⟨_, _, rfl, rfl⟩)))))
      exact equal_of fun d => by simp [Op.equalIn, run_underlying hu]
  · rename_i a1 a2 a3 hu
    cases hc
    unfold aeq at h
    split at h <;> simp_all
    · have e1 := h1.nilFunc_; have e2 := h2.nilFunc_; subst e1; subst e2
      refine run_binEq neg (eqGuard_plain (by simp)) ?_ (opaque_eq neg (.inr (.inr (.inr (.inr (.inl ⟨rfl, .inl rfl⟩))))))
      exact equal_of fun d => by simp [Op.equalIn, run_underlying hu]
    · have e1 := h1.nilFunc_; subst e1
      obtain ⟨g, cs', _, _, e2, _⟩ := h2.func; subst e2
      refine run_binEq neg (eqGuard_plain (by simp)) ?_ (opaque_eq neg (.inr (.inr (.inr (.inr (.inl ⟨rfl, .inr ⟨_, _, _, rfl⟩⟩))))))
      exact equal_of fun d => by simp [Op.equalIn, run_underlying hu]
    · have e2 := h2.nilFunc_; subst e2
      obtain ⟨g, cs', _, _, e1, _⟩ := h1.func; subst e1
      refine run_binEq neg (eqGuard_plain (by simp)) ?_ (opaque_eq neg (.inr (.inr (.inr (.inr (.inr (.inl ⟨rfl, _, _, _, rfl⟩)))))))
      exact equal_of fun d => by simp [Op.equalIn, run_underlying hu]
  · rename_i fs hu
    split at hc
    · rename_i hgt
      simp only [Option.map_eq_some_iff] at hc
      obtain ⟨cs, hek, hcc⟩ := hc
      cases hcc
      unfold aeq at h
      split at h <;> simp_all
      rename_i cs2 a0 b0 _
      obtain ⟨⟨ha, hb⟩, hbb⟩ := h
      have plain_of : ∀ (ks : List CK) (u : List Value) (u' : List Value), allOk ks u = true → All2 (SR μ) u u' → u' = u := by
        intro ks
        induction ks with
        | nil => intro u u' ho hr; cases u <;> simp [allOk] at ho; cases hr; rfl
        | cons k ks ih =>
          intro u u' ho hr
          cases hr with
          | nil => simp [allOk] at ho
          | cons hs ht =>
            simp only [allOk, Bool.and_eq_true] at ho
            rw [ih _ _ ho.2 ht]
            have hk := ho.1
            cases hs with
            | plain _ => rfl
            | _ => cases k <;> simp [CK.ok] at hk
      obtain ⟨a', e1, ra⟩ := h1.agg
      obtain ⟨b'', e2, rb⟩ := h2.agg
      have e3 := plain_of _ _ _ ha ra
      have e4 := plain_of _ _ _ hb rb
      subst e1; subst e2; rw [e3, e4]
      refine run_binEq neg ?_ ?_ (opaque_eq neg (.inr (.inr (.inr (.inr (.inr (.inr ⟨_, _, rfl, rfl⟩)))))))
      · exact run_eqGuard_agg w _ _ _ _ _ _ hgt
      · have := run_equalIn_ek (P := P) 3 t _ hek 9996 a0.toList.toArray b0.toList.toArray w (by simpa using ha) (by simpa using hb)
        rw [show ceqs a0.toList.toArray.toList b0.toList.toArray.toList = b from by simpa using hbb] at this
        exact this
    · cases hc
  · cases hc
end
end Go.Abs
