/- JudgeOrder answers true for every input: of a key and a publisher the second before the first is wrong, unless the first was refused; in their order, one settled ahead of the next one, all is right. No condition beyond the card's own: the listed variables start as the program's text lays them. -/
import Derived.Test.YtiimkdijiddjcaaDoorLawOrder1
import Derived.Test.YtiimkdijiddjcaaDoorLawOrder2
import Derived.Test.YtiimkdijiddjcaaDoorLawOrder3
import Derived.Test.YtiimkdijiddjcaaDoorLawOrder4
import Derived.Test.YtiimkdijiddjcaaDoorLawOrder5
import Derived.Test.YtiimkdijiddjcaaDoorLawOrder6
namespace Go.Proofs.YtiimkdijiddjcaaDoor
open Go Go.ChangeShapes Go.WideShapes Go.ChangeAt Go.WideMaps Go.WideElems Go.RowKit Go.Abs


theorem order_run (a b : Int) : retTrue (evF AQ EQ 40004 7 [.int .i64 a, .int .i64 b] ⟨.e, 0⟩) = true := by
  obtain ⟨c, hc, ec⟩ := umod a (m := 8) (by decide) (by decide)
  rw [order_split, ec]
  match c, hc with
  | 0, _ =>
    obtain ⟨d, hd, ed⟩ := umod b (m := 1) (by decide) (by decide)
    rw [show IntKind.i64.wrap (1 + ((0 : Nat) : Int)) = 1 by decide, show ((0 : Nat) : Int) = 0 by decide, order_mid0, ed]
    match d, hd with
    | 0, _ => rw [show IntKind.i64.wrap (1 + ((0 : Nat) : Int)) = 1 by decide]; exact order_tail0x0 a b _ _ _ _
  | 1, _ =>
    obtain ⟨d, hd, ed⟩ := umod b (m := 2) (by decide) (by decide)
    rw [show IntKind.i64.wrap (1 + ((1 : Nat) : Int)) = 2 by decide, show ((1 : Nat) : Int) = 1 by decide, order_mid1, ed]
    match d, hd with
    | 0, _ => rw [show IntKind.i64.wrap (1 + ((0 : Nat) : Int)) = 1 by decide]; exact order_tail1x0 a b _ _ _ _
    | 1, _ => rw [show IntKind.i64.wrap (1 + ((1 : Nat) : Int)) = 2 by decide]; exact order_tail1x1 a b _ _ _ _
  | 2, _ =>
    obtain ⟨d, hd, ed⟩ := umod b (m := 3) (by decide) (by decide)
    rw [show IntKind.i64.wrap (1 + ((2 : Nat) : Int)) = 3 by decide, show ((2 : Nat) : Int) = 2 by decide, order_mid2, ed]
    match d, hd with
    | 0, _ => rw [show IntKind.i64.wrap (1 + ((0 : Nat) : Int)) = 1 by decide]; exact order_tail2x0 a b _ _ _ _
    | 1, _ => rw [show IntKind.i64.wrap (1 + ((1 : Nat) : Int)) = 2 by decide]; exact order_tail2x1 a b _ _ _ _
    | 2, _ => rw [show IntKind.i64.wrap (1 + ((2 : Nat) : Int)) = 3 by decide]; exact order_tail2x2 a b _ _ _ _
  | 3, _ =>
    obtain ⟨d, hd, ed⟩ := umod b (m := 4) (by decide) (by decide)
    rw [show IntKind.i64.wrap (1 + ((3 : Nat) : Int)) = 4 by decide, show ((3 : Nat) : Int) = 3 by decide, order_mid3, ed]
    match d, hd with
    | 0, _ => rw [show IntKind.i64.wrap (1 + ((0 : Nat) : Int)) = 1 by decide]; exact order_tail3x0 a b _ _ _ _
    | 1, _ => rw [show IntKind.i64.wrap (1 + ((1 : Nat) : Int)) = 2 by decide]; exact order_tail3x1 a b _ _ _ _
    | 2, _ => rw [show IntKind.i64.wrap (1 + ((2 : Nat) : Int)) = 3 by decide]; exact order_tail3x2 a b _ _ _ _
    | 3, _ => rw [show IntKind.i64.wrap (1 + ((3 : Nat) : Int)) = 4 by decide]; exact order_tail3x3 a b _ _ _ _
  | 4, _ =>
    obtain ⟨d, hd, ed⟩ := umod b (m := 5) (by decide) (by decide)
    rw [show IntKind.i64.wrap (1 + ((4 : Nat) : Int)) = 5 by decide, show ((4 : Nat) : Int) = 4 by decide, order_mid4, ed]
    match d, hd with
    | 0, _ => rw [show IntKind.i64.wrap (1 + ((0 : Nat) : Int)) = 1 by decide]; exact order_tail4x0 a b _ _ _ _
    | 1, _ => rw [show IntKind.i64.wrap (1 + ((1 : Nat) : Int)) = 2 by decide]; exact order_tail4x1 a b _ _ _ _
    | 2, _ => rw [show IntKind.i64.wrap (1 + ((2 : Nat) : Int)) = 3 by decide]; exact order_tail4x2 a b _ _ _ _
    | 3, _ => rw [show IntKind.i64.wrap (1 + ((3 : Nat) : Int)) = 4 by decide]; exact order_tail4x3 a b _ _ _ _
    | 4, _ => rw [show IntKind.i64.wrap (1 + ((4 : Nat) : Int)) = 5 by decide]; exact order_tail4x4 a b _ _ _ _
  | 5, _ =>
    obtain ⟨d, hd, ed⟩ := umod b (m := 6) (by decide) (by decide)
    rw [show IntKind.i64.wrap (1 + ((5 : Nat) : Int)) = 6 by decide, show ((5 : Nat) : Int) = 5 by decide, order_mid5, ed]
    match d, hd with
    | 0, _ => rw [show IntKind.i64.wrap (1 + ((0 : Nat) : Int)) = 1 by decide]; exact order_tail5x0 a b _ _ _ _
    | 1, _ => rw [show IntKind.i64.wrap (1 + ((1 : Nat) : Int)) = 2 by decide]; exact order_tail5x1 a b _ _ _ _
    | 2, _ => rw [show IntKind.i64.wrap (1 + ((2 : Nat) : Int)) = 3 by decide]; exact order_tail5x2 a b _ _ _ _
    | 3, _ => rw [show IntKind.i64.wrap (1 + ((3 : Nat) : Int)) = 4 by decide]; exact order_tail5x3 a b _ _ _ _
    | 4, _ => rw [show IntKind.i64.wrap (1 + ((4 : Nat) : Int)) = 5 by decide]; exact order_tail5x4 a b _ _ _ _
    | 5, _ => rw [show IntKind.i64.wrap (1 + ((5 : Nat) : Int)) = 6 by decide]; exact order_tail5x5 a b _ _ _ _
  | 6, _ =>
    obtain ⟨d, hd, ed⟩ := umod b (m := 7) (by decide) (by decide)
    rw [show IntKind.i64.wrap (1 + ((6 : Nat) : Int)) = 7 by decide, show ((6 : Nat) : Int) = 6 by decide, order_mid6, ed]
    match d, hd with
    | 0, _ => rw [show IntKind.i64.wrap (1 + ((0 : Nat) : Int)) = 1 by decide]; exact order_tail6x0 a b _ _ _ _
    | 1, _ => rw [show IntKind.i64.wrap (1 + ((1 : Nat) : Int)) = 2 by decide]; exact order_tail6x1 a b _ _ _ _
    | 2, _ => rw [show IntKind.i64.wrap (1 + ((2 : Nat) : Int)) = 3 by decide]; exact order_tail6x2 a b _ _ _ _
    | 3, _ => rw [show IntKind.i64.wrap (1 + ((3 : Nat) : Int)) = 4 by decide]; exact order_tail6x3 a b _ _ _ _
    | 4, _ => rw [show IntKind.i64.wrap (1 + ((4 : Nat) : Int)) = 5 by decide]; exact order_tail6x4 a b _ _ _ _
    | 5, _ => rw [show IntKind.i64.wrap (1 + ((5 : Nat) : Int)) = 6 by decide]; exact order_tail6x5 a b _ _ _ _
    | 6, _ => rw [show IntKind.i64.wrap (1 + ((6 : Nat) : Int)) = 7 by decide]; exact order_tail6x6 a b _ _ _ _
  | 7, _ =>
    obtain ⟨d, hd, ed⟩ := umod b (m := 8) (by decide) (by decide)
    rw [show IntKind.i64.wrap (1 + ((7 : Nat) : Int)) = 8 by decide, show ((7 : Nat) : Int) = 7 by decide, order_mid7, ed]
    match d, hd with
    | 0, _ => rw [show IntKind.i64.wrap (1 + ((0 : Nat) : Int)) = 1 by decide]; exact order_tail7x0 a b _ _ _ _
    | 1, _ => rw [show IntKind.i64.wrap (1 + ((1 : Nat) : Int)) = 2 by decide]; exact order_tail7x1 a b _ _ _ _
    | 2, _ => rw [show IntKind.i64.wrap (1 + ((2 : Nat) : Int)) = 3 by decide]; exact order_tail7x2 a b _ _ _ _
    | 3, _ => rw [show IntKind.i64.wrap (1 + ((3 : Nat) : Int)) = 4 by decide]; exact order_tail7x3 a b _ _ _ _
    | 4, _ => rw [show IntKind.i64.wrap (1 + ((4 : Nat) : Int)) = 5 by decide]; exact order_tail7x4 a b _ _ _ _
    | 5, _ => rw [show IntKind.i64.wrap (1 + ((5 : Nat) : Int)) = 6 by decide]; exact order_tail7x5 a b _ _ _ _
    | 6, _ => rw [show IntKind.i64.wrap (1 + ((6 : Nat) : Int)) = 7 by decide]; exact order_tail7x6 a b _ _ _ _
    | 7, _ => rw [show IntKind.i64.wrap (1 + ((7 : Nat) : Int)) = 8 by decide]; exact order_tail7x7 a b _ _ _ _

set_option maxRecDepth 100000 in
theorem order_lifted (os : Os) (started : os.Started) (H : Type) (enc : TypeId × Value → H) :
    ReturnsInHanded {} Tryd.checked os 7 .any (fun w args => (Rows.judgeOrderSpec.pre enc Tryd.prog Tryd.f7 [] false w args ∧ laidMetH Tryd.prog laidL w) ∧ sizedMet enc Tryd.prog Tryd.f7 (OpenSpec.ofChange Rows.judgeOrderSpec) false w args)
      (Rows.judgeOrderSpec.post enc Tryd.prog Tryd.f7 false true false false) := by
  refine returnsInHanded_of_change_and (C := Tryd.checked) (X := fun w _ => laidMetH Tryd.prog laidL w) (fun _ _ _ hh h => h.of_heap hh) own started (by kernel_rfl) Tryd.func7
    (ChangeSpec.witness_shaped (enc := enc) (C := Tryd.checked) (os := os) (X := fun w _ => laidMetH Tryd.prog laidL w) false (World.doorLaid Tryd.prog 24 os) #[.int .i64 0, .int .i64 0] 8 rfl (World.shaped_of_RefB (by kernel_rfl) (by kernel_rfl)) (by kernel_rfl) (by kernel_rfl) (by kernel_rfl) (door_met os _)) ?_
  intro W base args ds gs before hval0 hW _ _ _ _
  have hval : ∀ (j : Nat) t v, Tryd.f7.params[j]? = some t → args[j]? = some v → Value.okWide Tryd.prog W .any base t v := hval0
  have hW' := hW
  obtain ⟨p, q, hA0, hV, rfl, hfz, hnd⟩ := hW
  have hA : DataW.TrodAll enc Tryd.prog W 0 (fun _ => true) true Tryd.f7.params.toList args.toList ds p := hA0
  rw [Tryd.params7] at hA hval
  obtain ⟨v0, v1, d0, d1, p0, p1, rfl, rfl, rfl, h0, h1⟩ := trodAll_two hA
  obtain ⟨a, rfl, rfl, rfl, wa⟩ := open_int Tryd.underlying3 (hval 0 3 v0 rfl rfl) h0
  obtain ⟨b, rfl, rfl, rfl, wb⟩ := open_int Tryd.underlying3 (hval 1 3 v1 rfl rfl) h1
  obtain ⟨rfl, rfl⟩ := trodVars_none hV
  clear hA0 hval0
  simp only [List.append_nil] at hW'
  refine (calls_closed mixed tabOkQ eq_ok (args := [.int .i64 a, .int .i64 b]) rfl (order_run a b) W).mono fun e W' ⟨he, hb⟩ => ?_
  subst he
  exact ⟨_, rfl, post_below (pa := []) (pv := []) hW' (fun _ _ _ => trodAll_mk1 (shut_bool Tryd.underlying4 _)) (fun sp _ => trodAll_mk2 (shut_int Tryd.underlying3 wa) (shut_int Tryd.underlying3 wb)) (fun _ _ => rfl) rfl hb (ok_one (by kernel_rfl) rfl (okWide_bool_mk Tryd.underlying4 _))⟩

theorem order_holds : Rows.JudgeOrderSaid :=
  OpenClaim.holds_of_wide 7 Tryd.f7 rfl rfl rfl rfl rfl rfl rfl ⟨rfl, rfl, rfl, rfl, rfl⟩ rfl rfl rfl rfl rfl (by kernel_rfl) Tryd.func7 (by kernel_rfl)
    (of_decide_eq_true (by kernel_rfl)) (by unfold Func.isWrapper; first | (rw [if_pos (by decide +kernel)]; kernel_rfl) | (rw [if_neg (by decide +kernel)]; exact ⟨rfl, rfl⟩))
    (fun os started H enc _ => order_lifted os started H enc)

theorem order_card : Rows.JudgeOrderCardSaid :=
  Claim7.holds_tied_plain_at .later [] [.data, .data, .data] true (true, "94d59b91644fe7f440b74a354b05e83f098ed69fceb9379f1314d9db3e2b29b6") false
    order_holds (fun _ h => by cases h) (by kernel_rfl) (fun _ h => by cases h) judgeOrder_row_tie rfl ⟨rfl, rfl⟩ (by kernel_rfl) rfl
    (fun f fn hf hfn => by
      obtain rfl : f = 7 := Option.some.inj ((show Tryd.prog.funcNamed "carrefour/carrefourlaw21.JudgeOrder" = some 7 by kernel_rfl).symm.trans hf) |>.symm
      obtain rfl : fn = Tryd.f7 := (Option.some.inj (Tryd.func7.symm.trans hfn)).symm
      exact ⟨by kernel_rfl, fun j t ht => by
        rw [Tryd.params7] at ht
        have hm : t ∈ ([3, 3] : List Nat) := by simpa using Array.mem_of_getElem? ht
        have hall : (([3, 3] : List Nat).all fun u => !Tryd.prog.wantsStandIn u) = true := by kernel_rfl
        exact (show Tryd.prog.wantsStandIn t = false by simpa using List.all_eq_true.1 hall t hm)⟩)
    (by kernel_rfl)
#print axioms order_card
end Go.Proofs.YtiimkdijiddjcaaDoor
