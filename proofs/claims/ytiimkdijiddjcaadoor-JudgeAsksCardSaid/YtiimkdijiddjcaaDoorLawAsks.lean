/- JudgeAsks answers true for every input: which act is the first wrong one, what is open, and how many batches there are, is what the document's judge says, whatever acts come in. No condition beyond the card's own: the listed variables start as the program's text lays them. -/
import Derived.Test.YtiimkdijiddjcaaDoorJQasks
import Derived.Test.YtiimkdijiddjcaaDoorAbsIn
namespace Go.Proofs.YtiimkdijiddjcaaDoor
set_option linter.unusedSimpArgs false
set_option linter.unusedVariables false
set_option linter.unusedSectionVars false
set_option linter.defProp false
open Go Go.ChangeShapes Go.WideShapes Go.ChangeAt Go.WideMaps Go.WideElems Go.RowKit Go.Abs

abbrev actCk : List CK := [.int .i64, .int .i64, .int .i64, .int .i64, .int .i64, .int .i64, .str, .str, .int .i64, .int .i64, .int .i64, .str, .str, .bool]
theorem ok_i {v : Value} (h : (CK.int .i64).ok v = true) : ∃ n, v = iv n := by
  cases v with
  | int k n =>
    simp only [CK.ok, decide_eq_true_eq] at h
    exact ⟨n, by rw [← h]⟩
  | _ => simp [CK.ok] at h
theorem ok_s {v : Value} (h : CK.str.ok v = true) : ∃ s, v = sv s := by
  cases v with
  | string s => exact ⟨s, rfl⟩
  | _ => simp [CK.ok] at h
theorem ok_b {v : Value} (h : CK.bool.ok v = true) : ∃ b, v = bv b := by
  cases v with
  | bool b => exact ⟨b, rfl⟩
  | _ => simp [CK.ok] at h
theorem ok_cons {c : CK} {cs : List CK} {vs : List Value} (h : allOk (c :: cs) vs = true) : ∃ v r, vs = v :: r ∧ c.ok v = true ∧ allOk cs r = true := by
  cases vs with
  | nil => simp [allOk] at h
  | cons v r =>
    simp only [allOk, Bool.and_eq_true] at h
    exact ⟨v, r, rfl, h.1, h.2⟩
theorem ok_nil {vs : List Value} (h : allOk [] vs = true) : vs = [] := by
  cases vs with
  | nil => rfl
  | cons v r => simp [allOk] at h
theorem ok_act {cs : List Value} (h : allOk actCk cs = true) : ∃ x : JP.Act, cs = actV x := by
  obtain ⟨v0, r0, e0, g0, h1⟩ := ok_cons h
  obtain ⟨v1, r1, e1, g1, h2⟩ := ok_cons h1
  obtain ⟨v2, r2, e2, g2, h3⟩ := ok_cons h2
  obtain ⟨v3, r3, e3, g3, h4⟩ := ok_cons h3
  obtain ⟨v4, r4, e4, g4, h5⟩ := ok_cons h4
  obtain ⟨v5, r5, e5, g5, h6⟩ := ok_cons h5
  obtain ⟨v6, r6, e6, g6, h7⟩ := ok_cons h6
  obtain ⟨v7, r7, e7, g7, h8⟩ := ok_cons h7
  obtain ⟨v8, r8, e8, g8, h9⟩ := ok_cons h8
  obtain ⟨v9, r9, e9, g9, h10⟩ := ok_cons h9
  obtain ⟨v10, r10, e10, g10, h11⟩ := ok_cons h10
  obtain ⟨v11, r11, e11, g11, h12⟩ := ok_cons h11
  obtain ⟨v12, r12, e12, g12, h13⟩ := ok_cons h12
  obtain ⟨v13, r13, e13, g13, h14⟩ := ok_cons h13
  obtain ⟨a0, b0⟩ := ok_i g0
  obtain ⟨a1, b1⟩ := ok_i g1
  obtain ⟨a2, b2⟩ := ok_i g2
  obtain ⟨a3, b3⟩ := ok_i g3
  obtain ⟨a4, b4⟩ := ok_i g4
  obtain ⟨a5, b5⟩ := ok_i g5
  obtain ⟨a6, b6⟩ := ok_s g6
  obtain ⟨a7, b7⟩ := ok_s g7
  obtain ⟨a8, b8⟩ := ok_i g8
  obtain ⟨a9, b9⟩ := ok_i g9
  obtain ⟨a10, b10⟩ := ok_i g10
  obtain ⟨a11, b11⟩ := ok_s g11
  obtain ⟨a12, b12⟩ := ok_s g12
  obtain ⟨a13, b13⟩ := ok_b g13
  have b14 := ok_nil h14
  exact ⟨⟨a0, a1, a2, a3, a4, a5, a6, a7, a8, a9, a10, a11, a12, a13⟩, by rw [e0, e1, e2, e3, e4, e5, e6, e7, e8, e9, e10, e11, e12, e13, b0, b1, b2, b3, b4, b5, b6, b7, b8, b9, b10, b11, b12, b13, b14]; rfl⟩
instance : Inhabited JP.Act := ⟨⟨0, 0, 0, 0, 0, 0, ⟨#[]⟩, ⟨#[]⟩, 0, 0, 0, ⟨#[]⟩, ⟨#[]⟩, false⟩⟩

/-- a run over one read-only row, told of the program -/
theorem calls_in {f : FuncId} {W : World} {A : AHeap} {μ : Mu} {args args' : List Value} (hrep : Rep W.heap.size μ A.get W) (hwf : wfA A) (hgap : ∀ id, A.next ≤ id → μ id = none) (hargs : All2 (VR μ) args args') (hro : ∀ id, ¬ wrO (A.get id))
    (h : EvF AQ EQ f args A (fun u A' => u = bv true ∧ Keep [] A A')) : Calls Tryd.prog f args'.toArray W fun e W' => e = .returned (.bool true) ∧ Below W.heap.size W W' := by
  obtain ⟨n, u, A', he, rfl, hk⟩ := h
  refine (calls_of_ev mixed tabOkQ (eq_ok _) he hrep (Nat.le_refl _) hwf (fun id h1 _ => hgap id h1) hargs).mono ?_
  rintro e W' ⟨μ', v', rfl, ho, hv⟩
  rw [hv.bool]
  exact ⟨rfl, ⟨ho.os, ho.tape, ho.output, ho.size, fun b hb => ho.keep b hb fun id i hw _ => absurd hw (hro id)⟩⟩

theorem empty_rep (W : World) : Rep W.heap.size (fun _ => none) (⟨.e, 0⟩ : AHeap).get W ∧ wfA (⟨.e, 0⟩ : AHeap) ∧ ∀ id, ¬ wrO ((⟨.e, 0⟩ : AHeap).get id) := by
  have h0 : ∀ id, (⟨.e, 0⟩ : AHeap).get id = none := fun id => rfl
  exact ⟨⟨fun id cs sz ro opn hg => (by rw [h0] at hg; cases hg), fun id kk es cl hg => (by rw [h0] at hg; cases hg), fun id1 id2 i1 i2 _ _ _ hm => (by cases hm)⟩, fun id _ => h0 id, fun id => by rw [h0]; exact fun h => h⟩

set_option maxRecDepth 100000 in
theorem asks_calls {H : Type} {enc : TypeId × Value → H} {W : World} {base : Nat} {v : Value} {d : DataW H} {ps : List MemPlace} (hval : Value.okWide Tryd.prog W .any base 22 v) (h : DataW.Trod enc Tryd.prog W 0 (fun _ => true) true 22 v d ps) :
    Calls Tryd.prog 3 #[v] W fun e W' => e = .returned (.bool true) ∧ Below W.heap.size W W' := by
  obtain ⟨hrep0, hwf0, hro0⟩ := empty_rep W
  rcases slice_in (d := 3) (cks := actCk) Tryd.underlying22 (by kernel_rfl) (by kernel_rfl) (by decide) hval h with rfl | ⟨blk, off, len, cap, arr, t, fz, rfl, hlc, hcm, hh, hin, hrow⟩
  · exact calls_in (args := [.slice none 0 0]) hrep0 hwf0 (fun _ _ => rfl) (.cons (VR.sr (.plain rfl)) .nil) hro0 (asks_run (l := []) ⟨none, 0, rfl, fun i x hx => by simp at hx⟩ (by simp))
  · have hblk : blk < W.heap.size := lt_of_heap hh
    have hlen : actCk.length = 14 := rfl
    rw [hlen] at hin
    have hcap : cap < capInf := by have : maxLen = 9223372036854775807 := rfl; have : capInf = 9223372036854775808 := rfl; omega
    obtain ⟨X, hX⟩ := Go.Deep.choose_lt (α := JP.Act) (p := fun i x => (arr.toList.drop (off + i * 14)).take 14 = actV x) (n := cap) (fun i hi => ok_act (hrow i hi))
    by_cases hc0 : cap = 0
    · have hl0 : len = 0 := by omega
      subst hc0 hl0
      obtain ⟨μ', hle, hμ, hrep, hwf, hgap⟩ := Rep.addRo (blk := blk) (base := 0) (sz := 14) (cs := []) hrep0 hwf0 (fun _ _ => rfl) hblk hh (by simp) (fun j v hj => by simp at hj)
      refine calls_in (args := [.slice (some ⟨0, 0, none⟩) 0 0]) hrep hwf hgap (.cons (VR.sr (.slx hμ hcap (.inr ⟨rfl, rfl⟩))) .nil) ?_ (asks_run (l := []) ⟨some ⟨0, 0, none⟩, 0, rfl, fun i x hx => by simp at hx⟩ (by simp))
      intro id
      rw [AHeap.get_new]
      split
      · exact fun h => h
      · exact hro0 id
    · have hin' := hin (by omega)
      have hcl : ((arr.toList.drop off).take (cap * 14)).length = cap * 14 := by rw [List.length_take, List.length_drop, Array.length_toList]; omega
      obtain ⟨μ', hle, hμ, hrep, hwf, hgap⟩ := Rep.addRo (blk := blk) (base := off) (sz := 14) (cs := (arr.toList.drop off).take (cap * 14)) hrep0 hwf0 (fun _ _ => rfl) hblk hh (by rw [hcl]; omega) (fun j v hj => by
        rw [List.getElem?_take] at hj
        split at hj
        · rename_i hlt
          rw [List.getElem?_drop, Array.getElem?_toList] at hj
          refine ⟨hj, ?_⟩
          have hi : j / 14 < cap := by omega
          refine allOk_plain (hrow (j / 14) hi) v ?_
          rw [hlen]
          refine List.mem_of_getElem? (i := j % 14) ?_
          rw [List.getElem?_take, if_pos (by omega), List.getElem?_drop, Array.getElem?_toList, ← hj]
          congr 1; omega
        · cases hj)
      have hget : (((⟨.e, 0⟩ : AHeap).new (.row ((arr.toList.drop off).take (cap * 14)) 14 true false))).get 0 = some (.row ((arr.toList.drop off).take (cap * 14)) 14 true false) := AHeap.new_get (A := ⟨.e, 0⟩)
      refine calls_in (args := [.slice (some ⟨0, 0, none⟩) len cap]) hrep hwf hgap (.cons (VR.sr (.slx hμ hcap (.inl rfl))) .nil) ?_ (asks_run (l := (List.range len).map X) ⟨some ⟨0, 0, none⟩, cap, by simp, fun i x hx => ?_⟩ (by have : maxLen = 9223372036854775807 := rfl; simp; omega))
      · intro id
        rw [AHeap.get_new]
        split
        · exact fun h => h
        · exact hro0 id
      · have hil : i < len := by have := (List.getElem?_eq_some_iff.1 hx).1; simpa using this
        rw [List.getElem?_map, List.getElem?_range hil] at hx
        simp at hx
        refine ⟨0, 0, _, _, _, _, rfl, Nat.lt_succ_self 0, hget, ?_, ?_⟩
        · rw [hcl]; omega
        · rw [← hx, ← hX i (by omega), Nat.zero_add, List.drop_take, List.take_take, List.drop_drop]
          congr 1; omega

theorem laid_out : laidOutB Tryd.prog = true := by kernel_rfl
theorem keep_places {H : Type} {enc : TypeId × Value → H} {W W' : World} {t : TypeId} {v : Value} {d : DataW H} {ps : List MemPlace} (hr : Tryd.prog.readableRec t = true) (hrow : t < Tryd.prog.types.size) (h : DataW.Trod enc Tryd.prog W 0 (fun _ => true) true t v d ps) (hb : Below W.heap.size W W') (hlt : ∀ x ∈ ps, x.block < W.heap.size) (sp : Nat → Bool) (hsp : ∀ x ∈ ps, sp x.block = true) :
    DataW.Trod enc Tryd.prog W' 0 sp true t v d ps :=
  WideElems.Trod_stays laid_out hr hrow h (fun x hx => hb.same (hlt x hx)) hsp

set_option maxRecDepth 100000 in
theorem asks_lifted (os : Os) (started : os.Started) (H : Type) (enc : TypeId × Value → H) :
    ReturnsInHanded {} Tryd.checked os 3 .any (fun w args => (Rows.judgeAsksSpec.pre enc Tryd.prog Tryd.f3 [] false w args ∧ laidMetH Tryd.prog laidL w) ∧ sizedMet enc Tryd.prog Tryd.f3 (OpenSpec.ofChange Rows.judgeAsksSpec) false w args)
      (Rows.judgeAsksSpec.post enc Tryd.prog Tryd.f3 false true false false) := by
  refine returnsInHanded_of_change_and (C := Tryd.checked) (X := fun w _ => laidMetH Tryd.prog laidL w) (fun _ _ _ hh h => h.of_heap hh) own started (by kernel_rfl) Tryd.func3
    (ChangeSpec.witness_shaped (enc := enc) (C := Tryd.checked) (os := os) (X := fun w _ => laidMetH Tryd.prog laidL w) false (World.doorLaid Tryd.prog 24 os) #[.slice none 0 0] 8 rfl (World.shaped_of_RefB (by kernel_rfl) (by kernel_rfl)) (by kernel_rfl) (by kernel_rfl) (by kernel_rfl) (door_met os _)) ?_
  intro W base args ds gs before hval0 hW _ _ _ _
  have hval : ∀ (j : Nat) t v, Tryd.f3.params[j]? = some t → args[j]? = some v → Value.okWide Tryd.prog W .any base t v := hval0
  have hW' := hW
  obtain ⟨p, q, hA0, hV, rfl, hfz, hnd⟩ := hW
  have hA : DataW.TrodAll enc Tryd.prog W 0 (fun _ => true) true Tryd.f3.params.toList args.toList ds p := hA0
  rw [Tryd.params3] at hA hval
  obtain ⟨v0, d0, rfl, rfl, h0⟩ := trodAll_one hA
  obtain ⟨rfl, rfl⟩ := trodVars_none hV
  clear hA0 hval
  refine (asks_calls (hval0 0 22 v0 (by rw [Tryd.params3]; rfl) rfl) h0).mono fun e W' ⟨he, hb⟩ => ?_
  subst he
  exact ⟨_, rfl, post_below (pa := p) (pv := []) hW' (fun _ _ _ => trodAll_mk1 (shut_bool Tryd.underlying4 _))
    (fun sp hsp => trodAll_mk1 (keep_places (by kernel_rfl) (of_decide_eq_true (by kernel_rfl)) h0 hb (fun x hx => hW'.lt x (List.mem_append_left _ hx)) sp (fun x hx => hsp x (List.mem_append_left _ hx)))) (fun _ _ => rfl) rfl hb (ok_one (by kernel_rfl) rfl (okWide_bool_mk Tryd.underlying4 _))⟩

theorem asks_holds : Rows.JudgeAsksSaid :=
  OpenClaim.holds_of_wide 3 Tryd.f3 rfl rfl rfl rfl rfl rfl rfl ⟨rfl, rfl, rfl, rfl, rfl⟩ rfl rfl rfl rfl rfl (by kernel_rfl) Tryd.func3 (by kernel_rfl)
    (of_decide_eq_true (by kernel_rfl)) (by unfold Func.isWrapper; first | (rw [if_pos (by decide +kernel)]; kernel_rfl) | (rw [if_neg (by decide +kernel)]; exact ⟨rfl, rfl⟩))
    (fun os started H enc _ => asks_lifted os started H enc)

theorem asks_card : Rows.JudgeAsksCardSaid :=
  Claim7.holds_tied_plain_at .later [] [.data, .data, .data] true (true, "94d59b91644fe7f440b74a354b05e83f098ed69fceb9379f1314d9db3e2b29b6") false
    asks_holds (fun _ h => by cases h) (by kernel_rfl) (fun _ h => by cases h) judgeAsks_row_tie rfl ⟨rfl, rfl⟩ (by kernel_rfl) rfl
    (fun f fn hf hfn => by
      obtain rfl : f = 3 := Option.some.inj ((show Tryd.prog.funcNamed "carrefour/carrefourlaw21.JudgeAsks" = some 3 by kernel_rfl).symm.trans hf) |>.symm
      obtain rfl : fn = Tryd.f3 := (Option.some.inj (Tryd.func3.symm.trans hfn)).symm
      exact ⟨by kernel_rfl, fun j t ht => by
        rw [Tryd.params3] at ht
        have hm : t ∈ ([22] : List Nat) := by simpa using Array.mem_of_getElem? ht
        have hall : (([22] : List Nat).all fun u => !Tryd.prog.wantsStandIn u) = true := by kernel_rfl
        exact (show Tryd.prog.wantsStandIn t = false by simpa using List.all_eq_true.1 hall t hm)⟩)
    (by kernel_rfl)
#print axioms asks_card
end Go.Proofs.YtiimkdijiddjcaaDoor
