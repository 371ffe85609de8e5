/- Each operation of the abstract machine is the model's: the whole. -/
import Derived.Test.YtiimkdijiddjcaaDoorAbsN
namespace Go.Abs
open Go

section
variable {P : Program} {B0 : Nat} {μ : Mu} {A A' : AHeap} {w : World} {fr : Fr} {a : Act} {v : Value}

def OpOk (P : Program) (B0 : Nat) (μ : Mu) (A : AHeap) (w : World) (s : Sem Next) (v : Value) (A' : AHeap) : Prop :=
  ∃ μ' v' w' nx, s.run P w = .ok nx w' ∧ (nx = .value v' ∨ (nx = .skip ∧ v' = undef)) ∧ Out B0 μ A.get w A.next A'.next μ' A'.get w' ∧ VR μ' v v'
theorem ok_val {s : Sem Value} {v : Value} (h : Snd P B0 μ A w s v A') : OpOk P B0 μ A w (do pure (.value (← s))) v A' := by
  obtain ⟨μ', v', w', hr, ho, hv⟩ := h
  exact ⟨μ', v', w', .value v', by simp [hr], .inl rfl, ho, hv⟩
theorem ok_unit {s : Sem Unit} (h : SndU P B0 μ A w s A') : OpOk P B0 μ A w (do s; pure .skip) undef A' := by
  obtain ⟨μ', w', hr, ho⟩ := h
  exact ⟨μ', undef, w', .skip, by simp [hr], .inr ⟨rfl, rfl⟩, ho, .undef_⟩
theorem ok_pure (hrep : Rep B0 μ A.get w) {v v' : Value} (h : VR μ v v') : OpOk P B0 μ A w (pure (.value v')) v A :=
  ⟨μ, v', w, .value v', rfl, .inl rfl, Out.refl hrep _ _, h⟩

theorem wfFr {ts : List Nat} {tm : Array Value} (h : FrR μ fr tm ts) {t : Nat} (ht : t ∈ ts) : VR μ (lget fr t) (tm.getD t undef) := h t ht

theorem snd_mov (hrep : Rep B0 μ A.get w) {x : Operand} {X : Opd} (hX : cOpd x = some X) (hfr : FrR μ fr a.tmps X.slots) (hx : aexec (.mov X) fr A = some (v, A')) : OpOk P B0 μ A w (pure (.value (a.eval x))) v A' := by
  simp only [aexec, Option.some.injEq, Prod.mk.injEq] at hx
  obtain ⟨rfl, rfl⟩ := hx
  exact ok_pure hrep (opd_rel hX hfr)

theorem cEq_eq {neg neg' : Bool} {t : TypeId} {X Y x y : Opd} {k : EK} (h : cEq P neg t X Y = some (.eq neg' k x y)) : neg' = neg ∧ x = X ∧ y = Y := by
  unfold cEq at h
  split at h <;> first | (cases h; done) | skip
  all_goals first
    | (cases h; exact ⟨rfl, rfl, rfl⟩)
    | (split at h
       · simp only [Option.map_eq_some_iff] at h
         obtain ⟨cs, _, he⟩ := h
         cases he; exact ⟨rfl, rfl, rfl⟩
       · cases h)
theorem cEq_bin {neg : Bool} {t : TypeId} {X Y x y : Opd} {op : BinOp} (h : cEq P neg t X Y = some (.bin op x y)) : op = eqOp neg ∧ x = X ∧ y = Y := by
  unfold cEq at h
  split at h <;> first | (cases h; done) | skip
  all_goals first
    | (cases h; exact ⟨rfl, rfl, rfl⟩)
    | (split at h
       · simp only [Option.map_eq_some_iff] at h
         obtain ⟨cs, _, he⟩ := h
         cases he
       · cases h)
theorem cEq_form {neg : Bool} {t : TypeId} {X Y : Opd} {ao : AOp} (h : cEq P neg t X Y = some ao) : (∃ k, ao = .eq neg k X Y) ∨ ao = .bin (eqOp neg) X Y := by
  unfold cEq at h
  split at h
  · cases h; exact .inr rfl
  · cases h; exact .inr rfl
  · cases h; exact .inl ⟨_, rfl⟩
  · cases h; exact .inl ⟨_, rfl⟩
  · cases h; exact .inl ⟨_, rfl⟩
  · cases h; exact .inl ⟨_, rfl⟩
  · cases h; exact .inl ⟨_, rfl⟩
  · split at h
    · simp only [Option.map_eq_some_iff] at h
      obtain ⟨cs, _, he⟩ := h
      exact .inl ⟨_, he.symm⟩
    · cases h
  · cases h

theorem snd_binEq (hrep : Rep B0 μ A.get w) {neg : Bool} {t : TypeId} {x y : Operand} {X Y : Opd} {ao : AOp} (hX : cOpd x = some X) (hY : cOpd y = some Y) (hc : cEq P neg t X Y = some ao) (hfr : FrR μ fr a.tmps ao.slots) (hx : aexec ao fr A = some (v, A')) :
    OpOk P B0 μ A w (do pure (.value (← (do eqGuard (eqOp neg) t x y (a.eval x) (a.eval y); binOp (eqOp neg) t (a.eval x) (a.eval y) : Sem Value)))) v A' := by
  rcases cEq_form hc with ⟨k, rfl⟩ | rfl
  · simp only [aexec, Option.map_eq_some_iff, Prod.mk.injEq] at hx
    obtain ⟨b, hb, rfl, rfl⟩ := hx
    have h1 := opd_rel (a := a) hX hfr.left
    have h2 := opd_rel (a := a) hY hfr.right
    have := snd_eq (w := w) (x := x) (y := y) hc hb h1 h2
    exact ok_val (Snd.still hrep ⟨_, this, vr_bool _⟩)
  · simp only [aexec, Option.map_eq_some_iff, Prod.mk.injEq] at hx
    obtain ⟨b, hb, rfl, rfl⟩ := hx
    exact ok_val (Snd.still hrep (snd_bin hb (opd_rel hX hfr.left) (opd_rel hY hfr.right)))

theorem capR {v v' : Value} (h : capOk v = true) (hv : VR μ v v') : PR μ v v' := by
  have hc : cellV v = true := by cases v <;> simp_all [capOk, plain1, cellV]
  have := hv.inv_sr hc
  cases this with
  | plain h => exact .plain h
  | ptr h' => exact .ptr h'
  | slx h => simp [capOk, plain1] at *
  | slo h => simp [capOk, plain1] at *
  | map h => simp [capOk, plain1] at *
  | fn h => simp [capOk, plain1] at *
theorem caps_rel : ∀ {l l' : List Value}, All2 (VR μ) l l' → l.all capOk = true → All2 (PR μ) l l'
  | [], _, h, _ => by cases h; exact .nil
  | _ :: _, _, h, hc => by
    cases h with
    | cons h t =>
      simp only [List.all_cons, Bool.and_eq_true] at hc
      exact .cons (capR hc.1 h) (caps_rel t hc.2)

theorem snd_builtin (hrep : Rep B0 μ A.get w) (hB : B0 ≤ w.heap.size) (hgap : ∀ id, A.next ≤ id → id < A'.next → μ id = none) {b : Builtin} {args : Array Operand} {ts : Array TypeId} {ty : TypeId} {ao : AOp} {consts : Array Bool}
    (hc : cBuiltin P b args.toList ts.toList = some ao) (hfr : FrR μ fr a.tmps ao.slots) (hx : aexec ao fr A = some (v, A')) :
    OpOk P B0 μ A w (builtin b ts ty consts (args.map a.eval)) v A' := by
  obtain ⟨al⟩ := args
  obtain ⟨tl⟩ := ts
  simp only at hc
  unfold cBuiltin at hc
  split at hc
  · -- len
    rename_i x t
    simp only [Option.bind_eq_some_iff] at hc
    obtain ⟨X, hX, hc⟩ := hc
    have hargs : Array.map a.eval ⟨[x]⟩ = #[a.eval x] := by simp
    rw [hargs]
    refine ok_val (s := Builtin.len_ #[t] ty #[a.eval x]) ?_
    have hrun : ∀ {d : TypeDesc} {r : Value} (hd : P.underlying t = some d), (∀ s : Sem Value, s = (match d, a.eval x with
        | .string, .string s => pure (goInt s.size)
        | .array n _, _ => pure (goInt n)
        | .slice _, .slice _ n _ => pure (goInt n)
        | .map _ _, .map none => pure (goInt 0)
        | .map _ _, .map (some r) => do
          let .map entries _ ← getObj r | stuck "len: map expected"
          pure (goInt entries.size)
        | _, _ => stuck "") → s.run P w = .ok r w) → (Builtin.len_ #[t] ty #[a.eval x]).run P w = .ok r w := by
      intro d r hd h
      have h1 := h _ rfl
      unfold Builtin.len_
      simp only [List.getElem?_toArray, List.getElem?_cons_zero, Sem.run_bind, run_underlying hd, Result.andThen_ok]
      revert h1
      generalize a.eval x = q
      intro h1
      cases d <;> cases q <;> first | exact h1 | (exact absurd h1 (by simp)) | skip
      all_goals
        rename_i r'
        cases r' <;> first | exact h1 | (exact absurd h1 (by simp)) | skip
    split at hc
    · rename_i hu
      cases hc
      have hv := opd_rel (a := a) hX hfr
      simp only [aexec] at hx
      split at hx
      · rename_i s he
        cases hx
        rw [he] at hv
        have e := hv.string
        exact Snd.still hrep ⟨_, hrun hu (fun s' hs => by rw [hs, e]; rfl), vr_int _ _⟩
      · cases hx
    · rename_i n e hu
      cases hc
      simp only [aexec, Option.some.injEq, Prod.mk.injEq] at hx
      obtain ⟨rfl, rfl⟩ := hx
      exact Snd.still hrep ⟨_, hrun hu (fun s' hs => by rw [hs]; rfl), vr_int _ _⟩
    · rename_i e hu
      cases hc
      have hv := opd_rel (a := a) hX hfr
      simp only [aexec] at hx
      split at hx
      · rename_i ao n c he
        cases hx
        rw [he] at hv
        have e' : ∃ ao' c', a.eval x = .slice ao' n c' := by
          cases ao with
          | none => exact ⟨_, _, hv.slice0⟩
          | some ad => obtain ⟨id, off, sp⟩ := ad; obtain ⟨i, off', cap', _, _, h, _⟩ := hv.slice; exact ⟨_, _, h⟩
        obtain ⟨ao', c', e'⟩ := e'
        exact Snd.still hrep ⟨_, hrun hu (fun s' hs => by rw [hs, e']; rfl), vr_int _ _⟩
      · cases hx
    · rename_i k e hu
      simp only [Option.map_eq_some_iff] at hc
      obtain ⟨kk, hkk, rfl⟩ := hc
      have hv := opd_rel (a := a) hX hfr
      simp only [aexec] at hx
      split at hx
      · rename_i he
        cases hx
        rw [he] at hv
        have e := hv.map0
        exact Snd.still hrep ⟨_, hrun hu (fun s' hs => by rw [hs, e]; rfl), vr_int _ _⟩
      · simp only [Option.map_eq_some_iff, Prod.mk.injEq] at hx
        obtain ⟨⟨r, es, clock⟩, hm, rfl, rfl⟩ := hx
        obtain ⟨hxe, hg⟩ := mapOf_get hm
        rw [hxe] at hv
        obtain ⟨inf, es', hr⟩ := hrep.map _ _ _ _ hg
        obtain ⟨i2, hi2, e⟩ := hv.map
        have e1 := hr.mu; rw [hi2] at e1; cases e1
        have hl := hr.ents.length
        refine Snd.still hrep ⟨_, hrun (r := goInt (es'.size : Nat)) hu (fun s' hs => by rw [hs, e]; simp [run_getMap hr.heap]), ?_⟩
        simp only [Array.length_toList] at hl
        rw [hl]; exact vr_int _ _
    · cases hc
  · -- append
    rename_i s x t u
    simp only [Option.bind_eq_some_iff] at hc
    obtain ⟨S, hS, X, hX, hc⟩ := hc
    split at hc
    · rename_i e hu
      have key : ∀ (hc' : ((P.info? e).bind fun i => (zeroOf P e).bind fun z => if z.length = i.size then some (AOp.append i.size i.bytes S X) else none) = some ao) (hu2 : (∃ e', P.underlying u = some (.slice e')) ∨ P.underlying u = some .string), OpOk P B0 μ A w (builtin .append #[t, u] ty consts #[a.eval s, a.eval x]) v A' := by
        intro hc' hu2
        simp only [Option.bind_eq_some_iff] at hc'
        obtain ⟨i, hi, z, hz, hc'⟩ := hc'
        split at hc'
        · rename_i hzl
          cases hc'
          obtain ⟨i', zv, hi', hzv, hzc, _⟩ := zero_of hz
          rw [hi] at hi'; cases hi'
          have hT : AppT P #[t, u] t u e i zv i.size := ⟨rfl, rfl, hu, hu2, hi, hzv, rfl, by rw [← hzl, ← hzc]; simp⟩
          exact ok_val (snd_append hrep hB hgap hT hx (opd_rel hS hfr.left) (opd_rel hX hfr.right))
        · cases hc'
      split at hc
      · rename_i e' hu2; simpa using key hc (.inl ⟨_, hu2⟩)
      · rename_i hu2; simpa using key hc (.inr hu2)
      · cases hc
    · cases hc
  · -- copy
    rename_i d x t ts
    simp only [Option.bind_eq_some_iff] at hc
    obtain ⟨D, hD, X, hX, hc⟩ := hc
    split at hc
    · rename_i e hu
      simp only [Option.map_eq_some_iff] at hc
      obtain ⟨n, hn, rfl⟩ := hc
      have hargs : Array.map a.eval ⟨[d, x]⟩ = #[a.eval d, a.eval x] := by simp
      rw [hargs]
      exact ok_val (snd_copy (P := P) (ty := ty) hrep (ts := ⟨t :: ts⟩) rfl hu hn hx (opd_rel hD hfr.left) (opd_rel hX hfr.right))
    · cases hc
  · -- clear
    rename_i x t
    simp only [Option.bind_eq_some_iff] at hc
    obtain ⟨X, hX, hc⟩ := hc
    split at hc
    · rename_i e hu
      simp only [Option.map_eq_some_iff] at hc
      obtain ⟨z, hz, rfl⟩ := hc
      simp only [aexec, Option.map_eq_some_iff, Prod.mk.injEq] at hx
      obtain ⟨A1, h1, rfl, rfl⟩ := hx
      have hargs : Array.map a.eval ⟨[x]⟩ = #[a.eval x] := by simp
      rw [hargs]
      exact ok_val (snd_clear (P := P) (ty := ty) hrep (ts := ⟨[t]⟩) rfl hu hz h1 (opd_rel hX hfr))
    · cases hc
  · -- delete
    rename_i m k t ts
    simp only [Option.bind_eq_some_iff] at hc
    obtain ⟨M, hM, K, hK, hc⟩ := hc
    split at hc
    · rename_i kt e hu
      simp only [Option.map_eq_some_iff] at hc
      obtain ⟨kk, hkk, rfl⟩ := hc
      simp only [aexec, Option.map_eq_some_iff, Prod.mk.injEq] at hx
      obtain ⟨A1, h1, rfl, rfl⟩ := hx
      have hargs : Array.map a.eval ⟨[m, k]⟩ = #[a.eval m, a.eval k] := by simp
      rw [hargs]
      exact ok_val (snd_delete (P := P) (ty := ty) hrep (ts := ⟨t :: ts⟩) rfl hu hkk h1 (opd_rel hM hfr.left) (opd_rel hK hfr.right))
    · cases hc
  · -- min
    rename_i xs ts
    simp only [Option.map_eq_some_iff] at hc
    obtain ⟨ys, hys, rfl⟩ := hc
    simp only [aexec, Option.map_eq_some_iff, Prod.mk.injEq] at hx
    obtain ⟨v0, h0, rfl, rfl⟩ := hx
    have hr := opds_rel (a := a) hys hfr
    refine ok_val (s := Builtin.min_ _ ty _) (Snd.still hrep ?_)
    cases hy : ys.map (Opd.ev fr) with
    | nil => rw [hy] at h0; simp [aminL] at h0
    | cons y0 yr =>
      rw [hy] at h0 hr
      simp only [aminL] at h0
      cases hxs : al.map a.eval with
      | nil => rw [hxs] at hr; cases hr
      | cons x0 xr =>
        rw [hxs] at hr
        cases hr with
        | cons hh ht =>
          obtain ⟨v', h1, h2⟩ := snd_min (P := P) (w := w) yr y0 v0 xr x0 h0 hh ht
          refine ⟨v', ?_, h2⟩
          have : (Array.map a.eval ⟨al⟩).toList = x0 :: xr := by simpa using hxs
          unfold Builtin.min_
          rw [this]; exact h1
  · cases hc
end
end Go.Abs
