/- The operations of the abstract machine are the model's: structs and rows that are built. -/
import Derived.Test.YtiimkdijiddjcaaDoorAbsG
namespace Go.Abs
open Go

theorem fill_get (off : Nat) : ∀ (l : List Value) (k : Nat) (cs : Array Value) (j : Nat),
    ((l.zipIdx k).foldl (fun cs (p : Value × Nat) => cs.setIfInBounds (off + p.2) p.1) cs)[j]? = if off + k ≤ j ∧ j < off + k + l.length ∧ j < cs.size then l[j - (off + k)]? else cs[j]?
  | [], k, cs, j => by rw [if_neg (by simp; omega)]; rfl
  | v :: l, k, cs, j => by
    simp only [List.zipIdx_cons, List.foldl_cons]
    rw [fill_get off l (k + 1), Array.getElem?_setIfInBounds]
    simp only [Array.size_setIfInBounds, List.length_cons]
    by_cases h1 : off + (k + 1) ≤ j ∧ j < off + (k + 1) + l.length ∧ j < cs.size
    · rw [if_pos h1, if_pos (by omega)]
      obtain ⟨m, rfl⟩ : ∃ m, j = off + k + 1 + m := ⟨j - (off + k + 1), by omega⟩
      rw [show off + k + 1 + m - (off + (k + 1)) = m from by omega, show off + k + 1 + m - (off + k) = m + 1 from by omega, List.getElem?_cons_succ]
    · rw [if_neg h1]
      by_cases h2 : off + k = j
      · subst h2
        rw [if_pos rfl]
        by_cases h3 : off + k < cs.size
        · rw [if_pos h3, if_pos (by omega)]; simp
        · rw [if_neg h3, if_neg (by omega), Array.getElem?_eq_none (by omega)]
      · rw [if_neg h2, if_neg (by omega)]
theorem fill_size (off : Nat) : ∀ (l : List Value) (k : Nat) (cs : Array Value), ((l.zipIdx k).foldl (fun cs (p : Value × Nat) => cs.setIfInBounds (off + p.2) p.1) cs).size = cs.size
  | [], _, _ => rfl
  | v :: l, k, cs => by simp only [List.zipIdx_cons, List.foldl_cons]; rw [fill_size off l (k + 1)]; simp

section
variable {P : Program} {μ : Mu} {fr : Fr} {a : Act}

theorem splice_rel {cs vs cs' vs' : List Value} {off : Nat} (h : All2 (SR μ) cs cs') (hv : All2 (SR μ) vs vs') : All2 (SR μ) (cs.take off ++ (vs ++ cs.drop (off + vs.length))) (cs'.take off ++ (vs' ++ cs'.drop (off + vs.length))) :=
  (h.take _).append (hv.append (h.drop _))

theorem fill_rel {place : Nat → Option (Nat × Nat)} : ∀ {parts : List (Nat × Operand)} {ps : List (Nat × Nat × Opd)} {cs : List Value} {cells : Array Value} {cs' : List Value}, cParts place parts = some ps → FrR μ fr a.tmps (ps.flatMap fun p => p.2.2.slots) →
    All2 (SR μ) cs cells.toList → fillL cs (evParts fr ps) = some cs' → ∃ cells', Instr.fill place cells (parts.map fun p => (p.1, a.eval p.2)) = some cells' ∧ All2 (SR μ) cs' cells'.toList
  | [], ps, cs, cells, cs', hc, _, hr, hf => by
    simp [cParts] at hc; subst hc
    simp [evParts, fillL] at hf; subst hf
    exact ⟨cells, rfl, hr⟩
  | (i, x) :: parts, ps, cs, cells, cs', hc, hfr, hr, hf => by
    simp only [cParts, Option.bind_eq_some_iff, Option.map_eq_some_iff] at hc
    obtain ⟨⟨o, n⟩, hp, y, hy, ps', hps, rfl⟩ := hc
    simp only [List.flatMap_cons] at hfr
    have hv := opd_rel (a := a) hy hfr.left
    simp only [evParts, List.map_cons, fillL, cond_eq_ite, Bool.and_eq_true, Nat.beq_eq, Nat.ble_eq] at hf
    split at hf
    · rename_i hcond
      obtain ⟨hnt, hlen, hle⟩ := hcond
      have hvc := vcells_rel hv (by intro c e; rw [e] at hnt; cases hnt)
      have hsz : (a.eval x).cells.size = n := by rw [← Array.length_toList, hvc.length, hlen]
      have hcl := hr.length
      have hcs : cells.size = cs.length := by rw [← hcl]; simp
      have hnew : All2 (SR μ) (cs.take o ++ (vcells (y.ev fr) ++ cs.drop (o + n))) ((a.eval x).cells.zipIdx.foldl (fun cs (c, j) => cs.setIfInBounds (o + j) c) cells).toList := by
        have hs := splice_rel (off := o) hr hvc
        rw [hlen] at hs
        have hEq : ((a.eval x).cells.zipIdx.foldl (fun cs (c, j) => cs.setIfInBounds (o + j) c) cells).toList = cells.toList.take o ++ ((a.eval x).cells.toList ++ cells.toList.drop (o + n)) := ?_
        · rw [hEq]; exact hs
        apply List.ext_getElem?
        intro j
        have e1 : (a.eval x).cells.zipIdx.foldl (fun cs (p : Value × Nat) => cs.setIfInBounds (o + p.2) p.1) cells = ((a.eval x).cells.toList.zipIdx 0).foldl (fun cs (p : Value × Nat) => cs.setIfInBounds (o + p.2) p.1) cells := by
          rw [← Array.foldl_toList, Array.toList_zipIdx]
        have e2 : (a.eval x).cells.zipIdx.foldl (fun cs (c, j) => cs.setIfInBounds (o + j) c) cells = (a.eval x).cells.zipIdx.foldl (fun cs (p : Value × Nat) => cs.setIfInBounds (o + p.2) p.1) cells := rfl
        rw [e2, e1, Array.getElem?_toList, fill_get]
        have hl2 : (a.eval x).cells.toList.length = n := by simpa using hsz
        by_cases h1 : j < o
        · rw [if_neg (by omega), List.getElem?_append_left (by simp; omega), List.getElem?_take_of_lt h1]; simp
        · rw [List.getElem?_append_right (by simp; omega), List.length_take, show min o cells.toList.length = o from by rw [Array.length_toList]; omega]
          by_cases h2 : j < o + n
          · rw [if_pos (by omega), List.getElem?_append_left (by omega)]; simp
          · rw [if_neg (by omega), List.getElem?_append_right (by omega), List.getElem?_drop, hl2, ← Array.getElem?_toList]
            congr 1; omega
      obtain ⟨cells', h1, h2⟩ := fill_rel (parts := parts) hps hfr.right hnew hf
      refine ⟨cells', ?_, h2⟩
      simp only [List.map_cons, Instr.fill, hp]
      rw [if_neg (by simp [hsz]; omega)]
      exact h1
    · cases hf
end

theorem repL_length (z : List Value) : ∀ n, (repL z n).length = n * z.length
  | 0 => by simp [repL]
  | n + 1 => by simp [repL, repL_length z n, Nat.succ_mul, Nat.add_comm]
theorem repL_get (z : List Value) (hz : z.length ≠ 0) : ∀ (n j : Nat), j < n * z.length → (repL z n)[j]? = z[j % z.length]?
  | 0, j, h => by simp at h
  | n + 1, j, h => by
    simp only [repL]
    by_cases h1 : j < z.length
    · rw [List.getElem?_append_left h1, Nat.mod_eq_of_lt h1]
    · rw [List.getElem?_append_right (by omega), repL_get z hz n (j - z.length) (by rw [Nat.succ_mul] at h; omega)]
      congr 1
      rw [Nat.mod_eq_sub_mod (by omega : j ≥ z.length)]
theorem repL_array (z : Array Value) (n : Nat) : ((Array.range (n * z.size)).map fun i => z[i % z.size]!).toList = repL z.toList n := by
  by_cases h0 : z.size = 0
  · have e : z.toList = [] := by simpa using h0
    rw [h0, e]
    have : ∀ n, repL ([] : List Value) n = [] := by intro n; induction n with | zero => rfl | succ n ih => simp [repL, ih]
    simp [this]
  · apply List.ext_getElem?
    intro j
    by_cases hj : j < n * z.size
    · rw [repL_get _ (by simpa using h0) n j (by simpa using hj)]
      have hm : j % z.size < z.size := Nat.mod_lt _ (by omega)
      simp [hj, hm]
    · rw [List.getElem?_eq_none (by simp; omega), List.getElem?_eq_none (by rw [repL_length]; simp; omega)]
theorem repL_plain {μ : Mu} {z : List Value} (hz : ∀ x ∈ z, plain1 x = true) : ∀ n, All2 (SR μ) (repL z n) (repL z n)
  | 0 => .nil
  | n + 1 => (All2.diag fun x hx => .plain (hz x hx)).append (repL_plain hz n)
end Go.Abs
