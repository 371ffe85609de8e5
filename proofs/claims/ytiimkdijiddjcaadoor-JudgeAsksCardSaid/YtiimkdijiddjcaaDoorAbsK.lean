/- The operations of the abstract machine are the model's: addresses, indexes, parts, lengths, bytes; rows that are written. -/
import Derived.Test.YtiimkdijiddjcaaDoorAbsJ
namespace Go.Abs
open Go

section
variable {P : Program} {B0 : Nat} {μ : Mu} {A A' : AHeap} {w : World} {fr : Fr} {a : Act}

theorem snd_fadd {s : TypeId} {f : Nat} {fs : Array Field} {fd : Field} {n : Nat} (hs : P.underlying s = some (.struct fs)) (hf : fs[f]? = some fd) (hn : szOf P fd.type = some n) (h0 : n ≠ 0) {ad : Addr} {u' : Value} (hu : VR μ (.pointer (some ad)) u') :
    ∃ v', (Instr.fieldAt s u' f).run P w = .ok v' w ∧ VR μ (.pointer (some (addA ad fd.offset))) v' := by
  obtain ⟨id, off, sp⟩ := ad
  obtain ⟨i, hi, rfl, rfl⟩ := hu.ptr
  refine ⟨.pointer (some ⟨i.blk, i.base + off + fd.offset, none⟩), ?_, ?_⟩
  · simp only [Instr.fieldAt, Sem.run_bind, run_underlying hs, Result.andThen_ok, hf, Instr.sureAddr, Sem.run_pure, fieldPlace, run_sizeOf hn, if_neg h0, addr_add]
  · rw [addA_none, Nat.add_assoc]; exact .sr (.ptr hi)

theorem snd_idx {id off len sz : Nat} {u' v iv : Value} (h : aidx sz ⟨id, off, none⟩ len iv = some v) (hi : VR μ iv u') {i : Info} (hm : μ id = some i) :
    ∃ k n, u' = .int k n ∧ 0 ≤ n ∧ n < (len : Int) ∧ VR μ v (.pointer (some ((⟨i.blk, i.base + off, none⟩ : Addr).add (n.toNat * sz)))) := by
  unfold aidx at h
  split at h
  · rename_i k n
    split at h
    · rename_i hc
      cases h
      have e := hi.int; subst e
      refine ⟨k, n, rfl, hc.1, hc.2, ?_⟩
      rw [addr_add, addA_none, Nat.add_assoc]; exact .sr (.ptr hm)
    · cases h
  · cases h

theorem snd_idxS {t e : TypeId} {sz : Nat} (ht : P.underlying t = some (.slice e)) (hn : szOf P e = some sz) {ad : Addr} {len cap : Nat} {iv v x' i' : Value} (h : aidx sz ad len iv = some v) (hx : VR μ (.slice (some ad) len cap) x') (hi : VR μ iv i') :
    ∃ v', (Instr.indexAt t x' i').run P w = .ok v' w ∧ VR μ v v' := by
  obtain ⟨id, off, sp⟩ := ad
  obtain ⟨i, off', cap', hm, rfl, rfl, hh⟩ := hx.slice
  obtain ⟨k, n, rfl, h0, h1, hv⟩ := snd_idx h hi hm
  have ho : off' = i.base + off := by
    rcases hh with ⟨_, _, h | ⟨_, h⟩⟩ | ⟨c0, _, _, h3, _, h4, h | ⟨h, _⟩⟩
    · exact h
    · omega
    · omega
    · exact h
  subst ho
  refine ⟨_, ?_, hv⟩
  simp only [Instr.indexAt, asIntOf, Sem.run_bind, Sem.run_pure, Result.andThen_ok, run_underlying ht]
  rw [if_pos ⟨h0, h1⟩]
  simp only [Sem.run_bind, run_sizeOf hn, Result.andThen_ok, Sem.run_pure]

theorem snd_idxA {t e : TypeId} {sz len : Nat} (ht : P.underlying t = some (.array len e)) (hn : szOf P e = some sz) {ad : Addr} {iv v x' i' : Value} (h : aidx sz ad len iv = some v) (hx : VR μ (.pointer (some ad)) x') (hi : VR μ iv i') :
    ∃ v', (Instr.indexAt t x' i').run P w = .ok v' w ∧ VR μ v v' := by
  obtain ⟨id, off, sp⟩ := ad
  obtain ⟨i, hm, rfl, rfl⟩ := hx.ptr
  obtain ⟨k, n, rfl, h0, h1, hv⟩ := snd_idx h hi hm
  refine ⟨_, ?_, hv⟩
  simp only [Instr.indexAt, asIntOf, Sem.run_bind, Sem.run_pure, Result.andThen_ok, run_underlying ht, Instr.sureAddr]
  rw [if_pos ⟨h0, h1⟩]
  simp only [Sem.run_bind, run_sizeOf hn, Result.andThen_ok, Sem.run_pure]

theorem snd_part {t : TypeId} {off sz : Nat} {g : Bool} (hg : isAggB P t = some g) (hn : szOf P t = some sz) {cs : List Value} {cs' : List Value} (hc : All2 (SR μ) cs cs') {v : Value} (h : apart off sz g cs = some v) :
    ∃ v', (part t cs'.toArray off).run P w = .ok v' w ∧ VR μ v v' := by
  unfold apart at h
  split at h
  · rename_i hg'
    subst hg'
    simp only [cond_eq_ite, Nat.beq_eq] at h
    split at h
    · rename_i hl
      cases h
      refine ⟨.agg ((cs'.drop off).take sz).toArray, ?_, ?_⟩
      · simp [part, run_isAgg hg, run_sizeOf hn]
      · exact .one (.agg ((hc.drop _).take _))
    · cases h
  · rename_i hg'
    have : g = false := by cases g <;> simp_all
    subst this
    obtain ⟨v', h1, h2⟩ := hc.at_ _ _ h
    exact ⟨v', run_part1 hg (by simpa using h1), .sr h2⟩

theorem snd_ixStr {t : TypeId} (ht : P.underlying t = some .string) {s : ByteArray} {k : IntKind} {n : Int} {b : UInt8} (h0 : 0 ≤ n) (hb : s.data.toList[n.toNat]? = some b) :
    (Instr.index t (.string s) (.int k n)).run P w = .ok (.int .u8 (b.toNat : Int)) w := by
  have e : s[n.toNat]? = some b := by
    have h1 : n.toNat < s.data.toList.length := (List.getElem?_eq_some_iff.1 hb).1
    have h2 : n.toNat < s.size := by simpa using h1
    rw [getElem?_pos s n.toNat h2]
    rw [List.getElem?_eq_getElem h1] at hb
    rw [← hb]
    rfl
  simp only [Instr.index, asIntOf, Sem.run_bind, Sem.run_pure, Result.andThen_ok, run_underlying ht, if_pos h0, e]

theorem snd_ixAgg {t e : TypeId} {sz len : Nat} {g : Bool} (ht : P.underlying t = some (.array len e)) (hn : szOf P e = some sz) (hg : isAggB P e = some g) {cs : List Value} {cs' : List Value} (hc : All2 (SR μ) cs cs') {k : IntKind} {n : Int} (h0 : 0 ≤ n) (h1 : n < (len : Int)) {v : Value} (h : apart (n.toNat * sz) sz g cs = some v) :
    ∃ v', (Instr.index t (.agg cs'.toArray) (.int k n)).run P w = .ok v' w ∧ VR μ v v' := by
  obtain ⟨v', hr, hv⟩ := snd_part (P := P) (w := w) hg hn hc h
  refine ⟨v', ?_, hv⟩
  simp only [Instr.index, asIntOf, Sem.run_bind, Sem.run_pure, Result.andThen_ok, run_underlying ht]
  rw [if_pos ⟨h0, h1⟩]
  simp only [Sem.run_bind, run_sizeOf hn, Result.andThen_ok, hr]

theorem pushB_ints : ∀ (cs : List Value) (acc bs : List UInt8), pushB cs acc = some bs → ∃ ns : List Int, cs = ns.map (Value.int .u8) ∧ bs = acc.reverse ++ ns.map fun n => UInt8.ofNat n.toNat
  | [], acc, bs, h => by simp [pushB] at h; subst h; exact ⟨[], rfl, by simp⟩
  | .int .u8 n :: r, acc, bs, h => by
    simp only [pushB] at h
    obtain ⟨ns, h1, h2⟩ := pushB_ints r _ bs h
    exact ⟨n :: ns, by simp [h1], by simp [h2]⟩
  | .bool _ :: _, _, _, h => by simp [pushB] at h
  | .int .i8 _ :: _, _, _, h => by simp [pushB] at h
  | .int .i16 _ :: _, _, _, h => by simp [pushB] at h
  | .int .i32 _ :: _, _, _, h => by simp [pushB] at h
  | .int .i64 _ :: _, _, _, h => by simp [pushB] at h
  | .int .u16 _ :: _, _, _, h => by simp [pushB] at h
  | .int .u32 _ :: _, _, _, h => by simp [pushB] at h
  | .int .u64 _ :: _, _, _, h => by simp [pushB] at h
  | .float _ _ :: _, _, _, h => by simp [pushB] at h
  | .complex _ _ _ :: _, _, _, h => by simp [pushB] at h
  | .string _ :: _, _, _, h => by simp [pushB] at h
  | .pointer _ :: _, _, _, h => by simp [pushB] at h
  | .slice _ _ _ :: _, _, _, h => by simp [pushB] at h
  | .map _ :: _, _, _, h => by simp [pushB] at h
  | .chan _ :: _, _, _, h => by simp [pushB] at h
  | .func _ _ _ :: _, _, _, h => by simp [pushB] at h
  | .nilFunc :: _, _, _, h => by simp [pushB] at h
  | .iface _ _ :: _, _, _, h => by simp [pushB] at h
  | .nilIface :: _, _, _, h => by simp [pushB] at h
  | .agg _ :: _, _, _, h => by simp [pushB] at h
  | .tuple _ :: _, _, _, h => by simp [pushB] at h

theorem srcRow_rel (hrep : Rep B0 μ A.get w) {id off n sz len cap : Nat} {l : List Value} (hl : rdRow A id off (n * sz) = some l) {x' : Value} (hx : VR μ (.slice (some ⟨id, off, none⟩) len cap) x') (hn : n ≤ len) :
    ∃ b off' cap' l', x' = .slice (some ⟨b, off', none⟩) len cap' ∧ (∀ (P : Program) (w1 : World), w1.heap = w.heap → (loadCells ⟨b, off', none⟩ (n * sz)).run P w1 = .ok l'.toArray w1) ∧ All2 (SR μ) l l' := by
  obtain ⟨i, off', cap', hm, _, rfl, hh⟩ := hx.slice
  obtain ⟨cs, sz', ro, opn, hg, rfl, hlen⟩ := rdRow_get hl
  by_cases h0 : n * sz = 0
  · refine ⟨_, _, _, [], rfl, fun P w1 _ => by rw [h0]; rfl, ?_⟩
    rw [h0]; simpa using All2.nil
  · have hn0 : 0 < n := Nat.pos_of_ne_zero fun e => h0 (by rw [e, Nat.zero_mul])
    have ho : off' = i.base + off := by
      rcases hh with ⟨_, _, h | ⟨_, h⟩⟩ | ⟨c0, _, _, h3, _, h4, h | ⟨h, _⟩⟩
      · exact h
      · omega
      · omega
      · exact h
    subst ho
    obtain ⟨i2, arr, t2, fz, hr⟩ := hrep.row _ _ _ _ _ hg
    have e := hr.mu; rw [hm] at e; cases e
    obtain ⟨h1, h2⟩ := hr.read hlen h0
    exact ⟨_, _, _, _, rfl, fun P w1 hw1 => run_loadCells _ _ _ _ _ (by rw [hw1]; exact hr.heap) _ _ h1, h2⟩

theorem ints_rel {ns : List Int} {l : List Value} (h : All2 (SR μ) (ns.map (Value.int .u8)) l) : l = ns.map (Value.int .u8) := by
  induction ns generalizing l with
  | nil => cases h; rfl
  | cons n ns ih =>
    cases h with
    | cons h t => rw [ih t]; cases h; rfl

theorem snd_cvB (hrep : Rep B0 μ A.get w) {src dst e : TypeId} (hs : P.underlying src = some (.slice e)) (he : P.underlying e = some (.int .u8)) (hd : P.underlying dst = some .string) {u u' v : Value} (h : acvB u A = some v) (hu : VR μ u u') :
    ∃ v', (convert src dst u').run P w = .ok v' w ∧ VR μ v v' := by
  unfold acvB at h
  split at h
  · rename_i n c
    cases h
    have e1 := hu.slice0; subst e1
    refine ⟨.string .empty, ?_, vr_string _⟩
    simp [convert, run_underlying hs, run_underlying he, run_underlying hd, Conv.bytesToString]
  · rename_i id off len cap
    simp only [Option.bind_eq_some_iff, Option.map_eq_some_iff] at h
    obtain ⟨cs, hcs, bs, hbs, rfl⟩ := h
    obtain ⟨b, off', cap', l', rfl, hrun, hr⟩ := srcRow_rel (n := len) (sz := 1) hrep (by simpa using hcs) hu (Nat.le_refl _)
    obtain ⟨ns, rfl, rfl⟩ := pushB_ints _ _ _ hbs
    have e1 := ints_rel hr
    subst e1
    have h2 := run_bytesToString (P := P) w ⟨b, off', none⟩ len cap' ns (by simpa using hrun P w rfl)
    refine ⟨_, ?_, vr_string _⟩
    rw [run_convert_bytes_string w src dst e _ len cap' hs he hd, h2, foldl_push_bytes]
    simp [ByteArray.empty, ByteArray.emptyWithCapacity]
    rfl
  · cases h

theorem snd_st (hrep : Rep B0 μ A.get w) {t : TypeId} {n : Nat} (hn : szOf P t = some n) {id off : Nat} {u u' x' : Value} (hx : VR μ (.pointer (some ⟨id, off, none⟩)) x') (hu : VR μ u u') (hnt : notT u = true) (hl : (vcells u).length = n) (hw : wrRow A id off (vcells u) = some A') :
    SndU P B0 μ A w (Instr.storeAt t x' u') A' := by
  obtain ⟨i, hi, _, rfl⟩ := hx.ptr
  have hc := vcells_rel hu (by intro c h; rw [h] at hnt; cases hnt)
  have hlen := hc.length
  obtain ⟨w', hr, ho⟩ := snd_write (P := P) hrep A.next A'.next hw hi hc
  refine ⟨μ, w', ?_, ho⟩
  simp only [Instr.storeAt, Instr.sureAddr, Sem.run_bind, Sem.run_pure, Result.andThen_ok, storeVar, run_sizeOf hn, Sem.run_ite]
  rw [if_neg (by rw [← Array.length_toList, hlen, hl]; simp)]
  exact hr

theorem snd_min : ∀ (xs : List Value) (x v : Value) (xs' : List Value) (x' : Value), aminF x xs = some v → VR μ x x' → All2 (VR μ) xs xs' → ∃ v', (xs'.foldlM Builtin.min2 x').run P w = .ok v' w ∧ VR μ v v'
  | [], x, v, xs', x', h, hx, hxs => by
    cases hxs
    cases x <;> simp [aminF] at h
    subst h
    have e := hx.int; subst e
    exact ⟨_, rfl, vr_int _ _⟩
  | y :: xs, x, v, xs', x', h, hx, hxs => by
    cases hxs with
    | cons hy ht =>
      cases x <;> cases y <;> simp only [aminF, reduceCtorEq] at h
      have e1 := hx.int; have e2 := hy.int; subst e1; subst e2
      rename_i k a j b
      obtain ⟨v', h1, h2⟩ := snd_min xs _ v _ (.int k (if b < a then b else a)) h (vr_int _ _) ht
      refine ⟨v', ?_, h2⟩
      simp only [List.foldlM_cons, Sem.run_bind, Builtin.min2, Sem.run_pure, Result.andThen_ok]
      exact h1
end
end Go.Abs
