/- Each operation of the abstract machine is the model's: one theorem. -/
import Derived.Test.YtiimkdijiddjcaaDoorAbsO
namespace Go.Abs
open Go

section
variable {P : Program} {B0 : Nat} {μ : Mu} {A A' : AHeap} {w : World} {fr : Fr} {a : Act} {v : Value}

theorem opdVR {x : Operand} {X : Opd} (hX : cOpd x = some X) (hfr : FrR μ fr a.tmps X.slots) {u : Value} (h : X.ev fr = u) : VR μ u (a.eval x) := h ▸ opd_rel hX hfr

set_option maxHeartbeats 1000000 in
theorem aexec_sound (hrep : Rep B0 μ A.get w) (hB : B0 ≤ w.heap.size) (hgap : ∀ id, A.next ≤ id → id < A'.next → μ id = none) (o : Oper) {ao : AOp} (hc : comp P o.op = some ao) (hfr : FrR μ fr a.tmps ao.slots) (hx : aexec ao fr A = some (v, A')) :
    OpOk P B0 μ A w (execOp a.eval o) v A' := by
  obtain ⟨dst, op, ty, pos, af, gd⟩ := o
  have hgn : A'.next = A.next + 1 → μ A.next = none := fun h => hgap _ (Nat.le_refl _) (by omega)
  cases op with
  | move x =>
    simp only [comp, Option.map_eq_some_iff] at hc
    obtain ⟨X, hX, rfl⟩ := hc
    exact snd_mov hrep hX hfr hx
  | assign x =>
    simp only [comp, Option.map_eq_some_iff] at hc
    obtain ⟨X, hX, rfl⟩ := hc
    exact snd_mov hrep hX hfr hx
  | pick c x y =>
    simp only [comp, Option.bind_eq_some_iff, Option.map_eq_some_iff] at hc
    obtain ⟨C, hC, X, hX, Y, hY, rfl⟩ := hc
    simp only [aexec] at hx
    split at hx
    · rename_i t he
      cases hx
      have h1 := (opdVR (a := a) hC hfr.left he).bool
      show OpOk P B0 μ A w (do pure (.value (if ← asBool (a.eval c) then a.eval x else a.eval y))) _ A
      rw [h1]
      cases t
      · exact ok_pure hrep (opd_rel hY hfr.right.right)
      · exact ok_pure hrep (opd_rel hX hfr.right.left)
    · cases hx
  | alloc e =>
    simp only [comp, Option.bind_eq_some_iff, Option.map_eq_some_iff] at hc
    obtain ⟨z, hz, n, hn, rfl⟩ := hc
    simp only [aexec, Option.some.injEq, Prod.mk.injEq] at hx
    obtain ⟨rfl, rfl⟩ := hx
    exact ok_val (snd_alloc hrep hB (hgn rfl) hz)
  | box e x =>
    simp only [comp, Option.bind_eq_some_iff, Option.map_eq_some_iff] at hc
    obtain ⟨n, hn, X, hX, rfl⟩ := hc
    simp only [aexec, cond_eq_ite] at hx
    split at hx
    · rename_i hnt
      simp only [Option.some.injEq, Prod.mk.injEq] at hx
      obtain ⟨rfl, rfl⟩ := hx
      exact ok_val (snd_box hrep hB (hgn rfl) (opd_rel hX hfr) hnt)
    · cases hx
  | build t parts =>
    have hc0 := hc
    simp only [comp, Option.bind_eq_some_iff] at hc
    obtain ⟨z, hz, hc⟩ := hc
    have hform : ∃ ps, ao = .build z ps := by
      split at hc
      · simp only [Option.bind_eq_some_iff, Option.map_eq_some_iff] at hc
        obtain ⟨_, _, ps, _, rfl⟩ := hc; exact ⟨ps, rfl⟩
      · simp only [Option.bind_eq_some_iff, Option.map_eq_some_iff] at hc
        obtain ⟨_, _, ps, _, rfl⟩ := hc; exact ⟨ps, rfl⟩
      · cases hc
    obtain ⟨ps, rfl⟩ := hform
    simp only [aexec, Option.map_eq_some_iff, Prod.mk.injEq] at hx
    obtain ⟨cs, hcs, rfl, rfl⟩ := hx
    exact ok_val (Snd.still hrep (snd_build hc0 hfr hcs))
  | buildSlice t len parts =>
    have hc0 := hc
    simp only [comp] at hc
    split at hc
    · simp only [Option.bind_eq_some_iff] at hc
      obtain ⟨z, hz, n, hn, hc⟩ := hc
      split at hc
      · simp only [Option.map_eq_some_iff] at hc
        obtain ⟨ps, hps, rfl⟩ := hc
        simp only [aexec, Option.map_eq_some_iff, Prod.mk.injEq] at hx
        obtain ⟨cs, hcs, rfl, rfl⟩ := hx
        exact ok_val (snd_buildSlice hrep hB (hgn rfl) hc0 hfr hcs)
      · cases hc
    · cases hc
  | insert t m k x => simp [comp] at hc
  | load t x =>
    simp only [comp, Option.bind_eq_some_iff] at hc
    obtain ⟨X, hX, hc⟩ := hc
    split at hc
    · rename_i hag
      simp only [Option.map_eq_some_iff] at hc
      obtain ⟨n, hn, rfl⟩ := hc
      simp only [aexec] at hx
      split at hx
      · rename_i id off he
        simp only [Option.map_eq_some_iff, Prod.mk.injEq] at hx
        obtain ⟨l, hl, rfl, rfl⟩ := hx
        obtain ⟨i, hi, _, e⟩ := (opdVR (a := a) hX hfr he).ptr
        refine ok_val (s := Instr.loadAt t (a.eval x)) (Snd.still hrep ?_)
        rw [e]; exact snd_ldN hrep hag hn hl hi
      · cases hx
    · rename_i hag
      cases hc
      simp only [aexec] at hx
      split at hx
      · rename_i id off he
        split at hx
        · rename_i cs sz ro opn hg
          simp only [Option.map_eq_some_iff, Prod.mk.injEq] at hx
          obtain ⟨v0, hv0, rfl, rfl⟩ := hx
          obtain ⟨i, hi, _, e⟩ := (opdVR (a := a) hX hfr he).ptr
          refine ok_val (s := Instr.loadAt t (a.eval x)) (Snd.still hrep ?_)
          rw [e]; exact snd_ld1 hrep hag hg hv0 hi
        · cases hx
      · cases hx
    · cases hc
  | store t x y =>
    simp only [comp, Option.bind_eq_some_iff, Option.map_eq_some_iff] at hc
    obtain ⟨n, hn, X, hX, Y, hY, rfl⟩ := hc
    simp only [aexec, cond_eq_ite] at hx
    split at hx
    · rename_i id off he
      split at hx
      · rename_i hcond
        simp only [Bool.and_eq_true, Nat.beq_eq] at hcond
        simp only [Option.map_eq_some_iff, Prod.mk.injEq] at hx
        obtain ⟨A1, h1, rfl, rfl⟩ := hx
        exact ok_unit (snd_st hrep hn (opdVR (a := a) hX hfr.left he) (opd_rel hY hfr.right) hcond.1 hcond.2 h1)
      · cases hx
    · cases hx
  | ready g => simp [comp] at hc
  | waits g => simp [comp] at hc
  | nilCheck x =>
    simp only [comp, Option.map_eq_some_iff] at hc
    obtain ⟨X, hX, rfl⟩ := hc
    simp only [aexec] at hx
    split at hx
    · rename_i ad he
      cases hx
      obtain ⟨id, off, sp⟩ := ad
      have hv := opdVR (a := a) hX hfr he
      obtain ⟨i, hi, rfl, e⟩ := hv.ptr
      refine ⟨μ, a.eval x, w, .value (a.eval x), ?_, .inl rfl, Out.refl hrep _ _, hv⟩
      simp only [execOp, e]; rfl
    · rename_i f a1 c1 he
      cases hx
      have hv := opdVR (a := a) hX hfr he
      obtain ⟨g, cs', hf, ha, e, hcap⟩ := hv.func
      refine ⟨μ, a.eval x, w, .value (a.eval x), ?_, .inl rfl, Out.refl hrep _ _, hv⟩
      simp only [execOp, e]; rfl
    · cases hx
  | binOp op t x y yt =>
    simp only [comp, Option.bind_eq_some_iff] at hc
    obtain ⟨X, hX, Y, hY, hc⟩ := hc
    split at hc
    · exact snd_binEq (neg := false) hrep hX hY hc hfr hx
    · exact snd_binEq (neg := true) hrep hX hY hc hfr hx
    · cases hc
      simp only [aexec, Option.map_eq_some_iff, Prod.mk.injEq] at hx
      obtain ⟨b, hb, rfl, rfl⟩ := hx
      exact ok_val (Snd.still hrep (snd_bin hb (opd_rel hX hfr.left) (opd_rel hY hfr.right)))
  | unOp op t x =>
    simp only [comp, Option.map_eq_some_iff] at hc
    obtain ⟨X, hX, rfl⟩ := hc
    have hv := opd_rel (a := a) hX hfr
    simp only [aexec] at hx
    split at hx
    · rename_i k n he
      simp only [Option.map_eq_some_iff, Prod.mk.injEq] at hx
      obtain ⟨b, hb, rfl, rfl⟩ := hx
      rw [he] at hv
      exact ok_val (Snd.still hrep (snd_un hb (.inl ⟨_, _, rfl⟩) hv))
    · rename_i n he
      simp only [Option.map_eq_some_iff, Prod.mk.injEq] at hx
      obtain ⟨b, hb, rfl, rfl⟩ := hx
      rw [he] at hv
      exact ok_val (Snd.still hrep (snd_un hb (.inr ⟨_, rfl⟩) hv))
    · cases hx
  | convert src dst x =>
    simp only [comp, Option.bind_eq_some_iff] at hc
    obtain ⟨X, hX, hc⟩ := hc
    split at hc
    · rename_i ks k hs hd
      cases hc
      simp only [aexec] at hx
      split at hx
      · rename_i k0 n he
        cases hx
        have e := (opdVR (a := a) hX hfr he).int
        refine ok_val (s := convert src dst (a.eval x)) (Snd.still hrep ⟨_, ?_, vr_int _ _⟩)
        rw [e]
        simp [convert, run_underlying hs, run_underlying hd, Conv.intToInt]
      · cases hx
    · rename_i hs hd
      cases hc
      simp only [aexec] at hx
      split at hx
      · rename_i s he
        cases hx
        have e := (opdVR (a := a) hX hfr he).string
        refine ok_val (s := convert src dst (a.eval x)) (Snd.still hrep ⟨_, ?_, vr_string _⟩)
        rw [e]
        simp [convert, run_underlying hs, run_underlying hd]
      · cases hx
    · rename_i e hs hd
      split at hc
      · rename_i hu8
        cases hc
        simp only [aexec, Option.map_eq_some_iff, Prod.mk.injEq] at hx
        obtain ⟨b, hb, rfl, rfl⟩ := hx
        exact ok_val (Snd.still hrep (snd_cvB hrep hs hu8 hd hb (opd_rel hX hfr)))
      · cases hc
    · cases hc
  | sliceToArrayPointer t x => simp [comp] at hc
  | makeInterface t x => simp [comp] at hc
  | makeFunc fn first cap =>
    cases fn with
    | func f =>
      simp only [comp] at hc
      split at hc
      · rename_i h0
        simp only [Option.map_eq_some_iff] at hc
        obtain ⟨cs, hcs, rfl⟩ := hc
        simp only [aexec] at hx
        split at hx
        · rename_i hall
          simp only [Option.some.injEq, Prod.mk.injEq] at hx
          obtain ⟨rfl, rfl⟩ := hx
          have hr := caps_rel (opds_rel (a := a) hcs hfr) hall
          have hf : first = #[] := by simpa using h0
          subst hf
          refine ok_val (s := Instr.makeFunc (.func f) _ _) (Snd.still hrep ⟨_, rfl, ?_⟩)
          have := SR.fn (f := f) hr
          have e : (Array.map a.eval #[]) = #[] := by apply Array.ext'; rw [Array.toList_map]; rfl
          have e2 : cap.map a.eval = (cap.toList.map a.eval).toArray := by apply Array.ext'; rw [Array.toList_map]
          rw [e, e2]
          exact .sr this
        · cases hx
      · cases hc
    | _ => simp [comp] at hc
  | makeMap t r =>
    cases r with
    | some r => simp [comp] at hc
    | none =>
      simp only [comp] at hc
      split at hc
      · rename_i k e hu
        simp only [Option.map_eq_some_iff] at hc
        obtain ⟨kk, hkk, rfl⟩ := hc
        simp only [aexec, Option.some.injEq, Prod.mk.injEq] at hx
        obtain ⟨rfl, rfl⟩ := hx
        obtain ⟨μ', i, ho, hm, hb⟩ := out_newmap (w' := { w with heap := w.heap.push (.map #[] 0) }) (kk := kk) hrep (hgn rfl) hB (fun j => A.get_new j _) rfl rfl rfl rfl
        refine ok_val (s := Instr.makeMap t none) ⟨μ', .map (some w.heap.size), _, ?_, ho, ?_⟩
        · simp [Instr.makeMap]
        · rw [← hb]; exact .sr (.map hm)
      · cases hc
  | makeChan t x => simp [comp] at hc
  | makeSlice t l c =>
    have hc0 := hc
    simp only [comp] at hc
    split at hc
    · simp only [Option.bind_eq_some_iff] at hc
      obtain ⟨L, hL, C, hC, i, hi, z, hz, hc⟩ := hc
      split at hc
      · cases hc
        simp only [aexec] at hx
        have hn : A'.next = A.next + 1 := by
          unfold amkSlice at hx
          split at hx
          · split at hx
            · cases hx; rfl
            · cases hx
          · cases hx
        exact ok_val (snd_makeSlice hrep hB (hgn hn) hc0 hfr hx)
      · cases hc
    · cases hc
  | slice t x lo hi mx =>
    simp only [comp, Option.bind_eq_some_iff] at hc
    obtain ⟨X, hX, LO, hLO, HI, hHI, MX, hMX, hc⟩ := hc
    split at hc
    · rename_i hu
      split at hc
      · cases hc
      · rename_i hmx
        cases hc
        simp only [aexec, Option.map_eq_some_iff, Prod.mk.injEq] at hx
        obtain ⟨b, hb, rfl, rfl⟩ := hx
        have hmx' : mx = none := by
          cases mx with
          | none => rfl
          | some m => simp only [cOpt, Option.map_eq_some_iff] at hMX; obtain ⟨_, _, rfl⟩ := hMX; simp at hmx
        subst hmx'
        exact ok_val (Snd.still hrep (snd_slStr hu hb (opd_rel hX hfr.left) (optR_of hLO hfr.right.left) (optR_of hHI hfr.right.right)))
    · rename_i e hu
      simp only [Option.map_eq_some_iff] at hc
      obtain ⟨n, hn, rfl⟩ := hc
      simp only [aexec, Option.map_eq_some_iff, Prod.mk.injEq] at hx
      obtain ⟨b, hb, rfl, rfl⟩ := hx
      exact ok_val (Snd.still hrep (snd_slice hu hn hb (opd_rel hX hfr.left) (optR_of hLO hfr.right.left) (optR_of hHI hfr.right.right.left) (optR_of hMX hfr.right.right.right)))
    · rename_i k e hu
      split at hc
      · cases hc
      · rename_i hmx
        simp only [Option.map_eq_some_iff] at hc
        obtain ⟨n, hn, rfl⟩ := hc
        simp only [aexec, Option.map_eq_some_iff, Prod.mk.injEq] at hx
        obtain ⟨b, hb, rfl, rfl⟩ := hx
        have hmx' : mx = none := by
          cases mx with
          | none => rfl
          | some m => simp only [cOpt, Option.map_eq_some_iff] at hMX; obtain ⟨_, _, rfl⟩ := hMX; simp at hmx
        subst hmx'
        have hk : k < capInf := by
          rcases Nat.lt_or_ge k capInf with h | h
          · exact h
          · exact absurd (Or.inr (by omega)) hmx
        exact ok_val (Snd.still hrep (snd_slArr hu hn hk hb (opd_rel hX hfr.left) (optR_of hLO hfr.right.left) (optR_of hHI hfr.right.right)))
    · cases hc
  | fieldAddr s x f =>
    simp only [comp, Option.bind_eq_some_iff] at hc
    obtain ⟨X, hX, hc⟩ := hc
    split at hc
    · rename_i fs hu
      simp only [Option.bind_eq_some_iff] at hc
      obtain ⟨fd, hfd, n, hn, hc⟩ := hc
      split at hc
      · cases hc
      · rename_i h0
        cases hc
        simp only [aexec] at hx
        split at hx
        · rename_i ad he
          cases hx
          exact ok_val (Snd.still hrep (snd_fadd hu hfd hn h0 (opdVR (a := a) hX hfr he)))
        · cases hx
    · cases hc
  | field s x f =>
    simp only [comp, Option.bind_eq_some_iff] at hc
    obtain ⟨X, hX, hc⟩ := hc
    split at hc
    · rename_i fs hu
      simp only [Option.bind_eq_some_iff, Option.map_eq_some_iff] at hc
      obtain ⟨fd, hfd, n, hn, g, hg, rfl⟩ := hc
      simp only [aexec] at hx
      split at hx
      · rename_i cs he
        simp only [Option.map_eq_some_iff, Prod.mk.injEq] at hx
        obtain ⟨b, hb, rfl, rfl⟩ := hx
        obtain ⟨cs', e, hr⟩ := (opdVR (a := a) hX hfr he).agg
        obtain ⟨v', h1, h2⟩ := snd_part (P := P) (w := w) hg hn hr hb
        refine ok_val (s := Instr.field s (a.eval x) f) (Snd.still hrep ⟨v', ?_, h2⟩)
        rw [e]
        simp only [Instr.field, Sem.run_bind, run_underlying hu, Result.andThen_ok, hfd, asAgg, Sem.run_pure, h1]
      · cases hx
    · cases hc
  | indexAddr t x i =>
    simp only [comp, Option.bind_eq_some_iff] at hc
    obtain ⟨X, hX, I, hI, hc⟩ := hc
    split at hc
    · rename_i n e hu
      simp only [Option.map_eq_some_iff] at hc
      obtain ⟨k, hk, rfl⟩ := hc
      simp only [aexec] at hx
      split at hx
      · rename_i ad he
        simp only [Option.map_eq_some_iff, Prod.mk.injEq] at hx
        obtain ⟨b, hb, rfl, rfl⟩ := hx
        have hv := opdVR (a := a) hX hfr.left he
        obtain ⟨id, off, sp⟩ := ad
        obtain ⟨_, _, rfl, _⟩ := hv.ptr
        exact ok_val (Snd.still hrep (snd_idxA hu hk hb hv (opd_rel hI hfr.right)))
      · cases hx
    · rename_i e hu
      simp only [Option.map_eq_some_iff] at hc
      obtain ⟨k, hk, rfl⟩ := hc
      simp only [aexec] at hx
      split at hx
      · rename_i ad len cap he
        simp only [Option.map_eq_some_iff, Prod.mk.injEq] at hx
        obtain ⟨b, hb, rfl, rfl⟩ := hx
        have hv := opdVR (a := a) hX hfr.left he
        obtain ⟨id, off, sp⟩ := ad
        obtain ⟨_, _, _, _, rfl, _⟩ := hv.slice
        exact ok_val (Snd.still hrep (snd_idxS hu hk hb hv (opd_rel hI hfr.right)))
      · cases hx
    · cases hc
  | index t x i =>
    simp only [comp, Option.bind_eq_some_iff] at hc
    obtain ⟨X, hX, I, hI, hc⟩ := hc
    split at hc
    · rename_i hu
      cases hc
      simp only [aexec] at hx
      split at hx
      · rename_i s k n he1 he2
        split at hx
        · rename_i h0
          simp only [Option.map_eq_some_iff, Prod.mk.injEq] at hx
          obtain ⟨b, hb, rfl, rfl⟩ := hx
          have e1 := (opdVR (a := a) hX hfr.left he1).string
          have e2 := (opdVR (a := a) hI hfr.right he2).int
          refine ok_val (s := Instr.index t (a.eval x) (a.eval i)) (Snd.still hrep ⟨_, ?_, vr_int _ _⟩)
          rw [e1, e2]; exact snd_ixStr hu h0 hb
        · cases hx
      · cases hx
    · rename_i n e hu
      simp only [Option.bind_eq_some_iff, Option.map_eq_some_iff] at hc
      obtain ⟨k, hk, g, hg, rfl⟩ := hc
      simp only [aexec] at hx
      split at hx
      · rename_i cs kk nn he1 he2
        split at hx
        · rename_i h0
          simp only [Option.map_eq_some_iff, Prod.mk.injEq] at hx
          obtain ⟨b, hb, rfl, rfl⟩ := hx
          obtain ⟨cs', e1, hr⟩ := (opdVR (a := a) hX hfr.left he1).agg
          have e2 := (opdVR (a := a) hI hfr.right he2).int
          refine ok_val (s := Instr.index t (a.eval x) (a.eval i)) (Snd.still hrep ?_)
          rw [e1, e2]; exact snd_ixAgg hu hk hg hr h0.1 h0.2 hb
        · cases hx
      · cases hx
    · cases hc
  | lookup t x k ok =>
    simp only [comp, Option.bind_eq_some_iff] at hc
    obtain ⟨X, hX, K, hK, hc⟩ := hc
    split at hc
    · rename_i kt e hu
      simp only [Option.bind_eq_some_iff] at hc
      obtain ⟨kk, hkk, hc⟩ := hc
      split at hc
      · rename_i i hi
        split at hc
        · rename_i z hz hag
          split at hc
          · rename_i hzp
            cases hc
            simp only [aexec, Option.map_eq_some_iff, Prod.mk.injEq] at hx
            obtain ⟨b, hb, rfl, rfl⟩ := hx
            exact ok_val (Snd.still hrep (snd_lookup hrep hu hkk hi hz hzp hb (opd_rel hX hfr.left) (opd_rel hK hfr.right)))
          · cases hc
        · cases hc
      · cases hc
    · cases hc
  | mapUpdate t m k x =>
    simp only [comp, Option.bind_eq_some_iff] at hc
    obtain ⟨M, hM, K, hK, X, hX, hc⟩ := hc
    split at hc
    · rename_i kt e hu
      simp only [Option.map_eq_some_iff] at hc
      obtain ⟨kk, hkk, rfl⟩ := hc
      simp only [aexec, Option.map_eq_some_iff, Prod.mk.injEq] at hx
      obtain ⟨A1, h1, rfl, rfl⟩ := hx
      exact ok_unit (snd_mapUpd hrep hu hkk h1 (opd_rel hM hfr.left) (opd_rel hK hfr.right.left) (opd_rel hX hfr.right.right))
    · cases hc
  | mapEntry t m k =>
    simp only [comp, Option.bind_eq_some_iff] at hc
    obtain ⟨M, hM, K, hK, hc⟩ := hc
    split at hc
    · rename_i kt e hu
      simp only [Option.bind_eq_some_iff] at hc
      obtain ⟨kk, hkk, hc⟩ := hc
      split at hc
      · rename_i i hi
        split at hc
        · rename_i z hz hag
          split at hc
          · rename_i hzp
            cases hc
            exact ok_val (snd_mapEnt hrep hu hkk hi hz hzp hx (opd_rel hM hfr.left) (opd_rel hK hfr.right))
          · cases hc
        · cases hc
      · cases hc
    · cases hc
  | entryStore t m s x =>
    simp only [comp, Option.bind_eq_some_iff] at hc
    obtain ⟨M, hM, S, hS, X, hX, hc⟩ := hc
    split at hc
    · rename_i kt e hu
      simp only [Option.map_eq_some_iff] at hc
      obtain ⟨kk, hkk, rfl⟩ := hc
      simp only [aexec, Option.map_eq_some_iff, Prod.mk.injEq] at hx
      obtain ⟨A1, h1, rfl, rfl⟩ := hx
      exact ok_unit (snd_entSt hrep h1 (opd_rel hM hfr.left) (opd_rel hS hfr.right.left) (opd_rel hX hfr.right.right))
    · cases hc
  | range t x => simp [comp] at hc
  | next it s => simp [comp] at hc
  | entry it => simp [comp] at hc
  | typeAssert x t u ok => simp [comp] at hc
  | extract x i =>
    simp only [comp, Option.map_eq_some_iff] at hc
    obtain ⟨X, hX, rfl⟩ := hc
    simp only [aexec] at hx
    split at hx
    · rename_i vs he
      simp only [Option.map_eq_some_iff, Prod.mk.injEq] at hx
      obtain ⟨b, hb, rfl, rfl⟩ := hx
      obtain ⟨cs', e, hr⟩ := (opdVR (a := a) hX hfr he).tuple
      obtain ⟨v', h1, h2⟩ := hr.at_ _ _ hb
      refine ok_val (s := Instr.extract (a.eval x) i) (Snd.still hrep ⟨v', ?_, .one h2⟩)
      rw [e]
      simp [Instr.extract, h1]
    · cases hx
  | call c =>
    obtain ⟨callee, args, ts⟩ := c
    cases callee with
    | value f =>
      cases f with
      | tmp t => simp only [comp, Option.map_eq_some_iff] at hc; obtain ⟨xs, _, rfl⟩ := hc; simp [aexec] at hx
      | func f => simp only [comp, Option.map_eq_some_iff] at hc; obtain ⟨xs, _, rfl⟩ := hc; simp [aexec] at hx
      | const v => simp [comp] at hc
      | global g => simp [comp] at hc
    | invoke r m => simp [comp] at hc
    | builtin b =>
      simp only [comp] at hc
      have := snd_builtin (ty := ty) (consts := args.map fun | .const _ => true | _ => false) hrep hB hgap hc hfr hx
      obtain ⟨μ', v', w', nx, h1, h2, h3, h4⟩ := this
      refine ⟨μ', v', w', nx, ?_, h2, h3, h4⟩
      simp only [execOp, resolve, Sem.run_bind, Sem.run_pure, Result.andThen_ok, invoke]
      exact h1
  | go c => simp [comp] at hc
  | defer c => simp [comp] at hc
  | panic x => simp [comp] at hc
  | send ch x => simp [comp] at hc
  | recv t ch ok => simp [comp] at hc
  | select cs b => simp [comp] at hc
end
end Go.Abs
