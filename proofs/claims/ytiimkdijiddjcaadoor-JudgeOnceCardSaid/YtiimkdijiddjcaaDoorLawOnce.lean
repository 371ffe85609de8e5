/- JudgeOnce answers true for every input: a message that is delivered twice without a flag, or with one at first, or while somebody holds it, is wrong: any two clients, any tags. No condition beyond the card's own: the listed variables start as the program's text lays them. -/
import Derived.Test.YtiimkdijiddjcaaDoorLawGlue
namespace Go.Proofs.YtiimkdijiddjcaaDoor
open Go Go.ChangeShapes Go.WideShapes Go.ChangeAt Go.WideMaps Go.WideElems Go.RowKit Go.Abs

/-- the frame when the clients are chosen -/
def onceFr (a b : Int) (s t : Bool) (ua ub ra rb c d : Int) : Fr :=
  lput (lput (lput (lput (lput (lput (lput (lput (lput (lput (lput (frOf [.int .i64 a, .int .i64 b, .bool s, .bool t] 0 .e) 8 (.bool false)) 16 (.int .i64 a)) 17 (.int .u64 ua)) 18 (.int .u64 ra)) 19 (.int .i64 c)) 20 (.int .i64 b)) 21 (.int .u64 ub)) 22 (.int .u64 rb)) 23 (.int .i64 d)) 9 (.int .i64 c)) 10 (.int .i64 d)
set_option maxRecDepth 1000000 in
theorem once_split (a b : Int) (s t : Bool) : evF AQ EQ 3004 6 [.int .i64 a, .int .i64 b, .bool s, .bool t] ⟨.e, 0⟩ =
    evB AQ EQ 3001 [.tmp 8] Code.a6.body.snd.snd (onceFr a b s t (IntKind.u64.wrap a) (IntKind.u64.wrap b) (Int.tmod (IntKind.u64.wrap a) (4 : Nat)) (Int.tmod (IntKind.u64.wrap b) (4 : Nat)) (IntKind.i64.wrap (Int.tmod (IntKind.u64.wrap a) (4 : Nat))) (IntKind.i64.wrap (Int.tmod (IntKind.u64.wrap b) (4 : Nat)))) ⟨.e, 0⟩ :=
  (evF_eq (n := 3003) (fn := Code.a6) rfl).trans ((evB_reg (n := 3001) (b := Code.a6.body.snd) (fr' := lput (frOf [.int .i64 a, .int .i64 b, .bool s, .bool t] 0 .e) 8 (.bool false)) (A' := ⟨.e, 0⟩) (by kernel_rfl)).trans (evB_reg (n := 3000) (b := Code.a6.body.snd.snd) (by kernel_rfl)))

set_option maxRecDepth 1000000 in
theorem once_tail00 (a b : Int) (s t : Bool) (ua ub ra rb : Int) : retTrue (evB AQ EQ 3001 [.tmp 8] Code.a6.body.snd.snd (onceFr a b s t ua ub ra rb 0 0) ⟨.e, 0⟩) = true := by
  cases s <;> cases t <;> kernel_rfl
set_option maxRecDepth 1000000 in
theorem once_tail01 (a b : Int) (s t : Bool) (ua ub ra rb : Int) : retTrue (evB AQ EQ 3001 [.tmp 8] Code.a6.body.snd.snd (onceFr a b s t ua ub ra rb 0 1) ⟨.e, 0⟩) = true := by
  cases s <;> cases t <;> kernel_rfl
set_option maxRecDepth 1000000 in
theorem once_tail02 (a b : Int) (s t : Bool) (ua ub ra rb : Int) : retTrue (evB AQ EQ 3001 [.tmp 8] Code.a6.body.snd.snd (onceFr a b s t ua ub ra rb 0 2) ⟨.e, 0⟩) = true := by
  cases s <;> cases t <;> kernel_rfl
set_option maxRecDepth 1000000 in
theorem once_tail03 (a b : Int) (s t : Bool) (ua ub ra rb : Int) : retTrue (evB AQ EQ 3001 [.tmp 8] Code.a6.body.snd.snd (onceFr a b s t ua ub ra rb 0 3) ⟨.e, 0⟩) = true := by
  cases s <;> cases t <;> kernel_rfl
set_option maxRecDepth 1000000 in
theorem once_tail10 (a b : Int) (s t : Bool) (ua ub ra rb : Int) : retTrue (evB AQ EQ 3001 [.tmp 8] Code.a6.body.snd.snd (onceFr a b s t ua ub ra rb 1 0) ⟨.e, 0⟩) = true := by
  cases s <;> cases t <;> kernel_rfl
set_option maxRecDepth 1000000 in
theorem once_tail11 (a b : Int) (s t : Bool) (ua ub ra rb : Int) : retTrue (evB AQ EQ 3001 [.tmp 8] Code.a6.body.snd.snd (onceFr a b s t ua ub ra rb 1 1) ⟨.e, 0⟩) = true := by
  cases s <;> cases t <;> kernel_rfl
set_option maxRecDepth 1000000 in
theorem once_tail12 (a b : Int) (s t : Bool) (ua ub ra rb : Int) : retTrue (evB AQ EQ 3001 [.tmp 8] Code.a6.body.snd.snd (onceFr a b s t ua ub ra rb 1 2) ⟨.e, 0⟩) = true := by
  cases s <;> cases t <;> kernel_rfl
set_option maxRecDepth 1000000 in
theorem once_tail13 (a b : Int) (s t : Bool) (ua ub ra rb : Int) : retTrue (evB AQ EQ 3001 [.tmp 8] Code.a6.body.snd.snd (onceFr a b s t ua ub ra rb 1 3) ⟨.e, 0⟩) = true := by
  cases s <;> cases t <;> kernel_rfl
set_option maxRecDepth 1000000 in
theorem once_tail20 (a b : Int) (s t : Bool) (ua ub ra rb : Int) : retTrue (evB AQ EQ 3001 [.tmp 8] Code.a6.body.snd.snd (onceFr a b s t ua ub ra rb 2 0) ⟨.e, 0⟩) = true := by
  cases s <;> cases t <;> kernel_rfl
set_option maxRecDepth 1000000 in
theorem once_tail21 (a b : Int) (s t : Bool) (ua ub ra rb : Int) : retTrue (evB AQ EQ 3001 [.tmp 8] Code.a6.body.snd.snd (onceFr a b s t ua ub ra rb 2 1) ⟨.e, 0⟩) = true := by
  cases s <;> cases t <;> kernel_rfl
set_option maxRecDepth 1000000 in
theorem once_tail22 (a b : Int) (s t : Bool) (ua ub ra rb : Int) : retTrue (evB AQ EQ 3001 [.tmp 8] Code.a6.body.snd.snd (onceFr a b s t ua ub ra rb 2 2) ⟨.e, 0⟩) = true := by
  cases s <;> cases t <;> kernel_rfl
set_option maxRecDepth 1000000 in
theorem once_tail23 (a b : Int) (s t : Bool) (ua ub ra rb : Int) : retTrue (evB AQ EQ 3001 [.tmp 8] Code.a6.body.snd.snd (onceFr a b s t ua ub ra rb 2 3) ⟨.e, 0⟩) = true := by
  cases s <;> cases t <;> kernel_rfl
set_option maxRecDepth 1000000 in
theorem once_tail30 (a b : Int) (s t : Bool) (ua ub ra rb : Int) : retTrue (evB AQ EQ 3001 [.tmp 8] Code.a6.body.snd.snd (onceFr a b s t ua ub ra rb 3 0) ⟨.e, 0⟩) = true := by
  cases s <;> cases t <;> kernel_rfl
set_option maxRecDepth 1000000 in
theorem once_tail31 (a b : Int) (s t : Bool) (ua ub ra rb : Int) : retTrue (evB AQ EQ 3001 [.tmp 8] Code.a6.body.snd.snd (onceFr a b s t ua ub ra rb 3 1) ⟨.e, 0⟩) = true := by
  cases s <;> cases t <;> kernel_rfl
set_option maxRecDepth 1000000 in
theorem once_tail32 (a b : Int) (s t : Bool) (ua ub ra rb : Int) : retTrue (evB AQ EQ 3001 [.tmp 8] Code.a6.body.snd.snd (onceFr a b s t ua ub ra rb 3 2) ⟨.e, 0⟩) = true := by
  cases s <;> cases t <;> kernel_rfl
set_option maxRecDepth 1000000 in
theorem once_tail33 (a b : Int) (s t : Bool) (ua ub ra rb : Int) : retTrue (evB AQ EQ 3001 [.tmp 8] Code.a6.body.snd.snd (onceFr a b s t ua ub ra rb 3 3) ⟨.e, 0⟩) = true := by
  cases s <;> cases t <;> kernel_rfl

theorem once_run (a b : Int) (s t : Bool) : retTrue (evF AQ EQ 3004 6 [.int .i64 a, .int .i64 b, .bool s, .bool t] ⟨.e, 0⟩) = true := by
  obtain ⟨c, hc, ec⟩ := umod a (m := 4) (by decide) (by decide)
  obtain ⟨d, hd, ed⟩ := umod b (m := 4) (by decide) (by decide)
  rw [once_split, ec, ed]
  match c, hc, d, hd with
  | 0, _, 0, _ => exact once_tail00 a b s t _ _ _ _
  | 0, _, 1, _ => exact once_tail01 a b s t _ _ _ _
  | 0, _, 2, _ => exact once_tail02 a b s t _ _ _ _
  | 0, _, 3, _ => exact once_tail03 a b s t _ _ _ _
  | 1, _, 0, _ => exact once_tail10 a b s t _ _ _ _
  | 1, _, 1, _ => exact once_tail11 a b s t _ _ _ _
  | 1, _, 2, _ => exact once_tail12 a b s t _ _ _ _
  | 1, _, 3, _ => exact once_tail13 a b s t _ _ _ _
  | 2, _, 0, _ => exact once_tail20 a b s t _ _ _ _
  | 2, _, 1, _ => exact once_tail21 a b s t _ _ _ _
  | 2, _, 2, _ => exact once_tail22 a b s t _ _ _ _
  | 2, _, 3, _ => exact once_tail23 a b s t _ _ _ _
  | 3, _, 0, _ => exact once_tail30 a b s t _ _ _ _
  | 3, _, 1, _ => exact once_tail31 a b s t _ _ _ _
  | 3, _, 2, _ => exact once_tail32 a b s t _ _ _ _
  | 3, _, 3, _ => exact once_tail33 a b s t _ _ _ _

set_option maxRecDepth 100000 in
theorem once_lifted (os : Os) (started : os.Started) (H : Type) (enc : TypeId × Value → H) :
    ReturnsInHanded {} Tryd.checked os 6 .any (fun w args => (Rows.judgeOnceSpec.pre enc Tryd.prog Tryd.f6 [] false w args ∧ laidMetH Tryd.prog laidL w) ∧ sizedMet enc Tryd.prog Tryd.f6 (OpenSpec.ofChange Rows.judgeOnceSpec) false w args)
      (Rows.judgeOnceSpec.post enc Tryd.prog Tryd.f6 false true false false) := by
  refine returnsInHanded_of_change_and (C := Tryd.checked) (X := fun w _ => laidMetH Tryd.prog laidL w) (fun _ _ _ hh h => h.of_heap hh) own started (by kernel_rfl) Tryd.func6
    (ChangeSpec.witness_shaped (enc := enc) (C := Tryd.checked) (os := os) (X := fun w _ => laidMetH Tryd.prog laidL w) false (World.doorLaid Tryd.prog 24 os) #[.int .i64 0, .int .i64 0, .bool false, .bool false] 8 rfl (World.shaped_of_RefB (by kernel_rfl) (by kernel_rfl)) (by kernel_rfl) (by kernel_rfl) (by kernel_rfl) (door_met os _)) ?_
  intro W base args ds gs before hval0 hW _ _ _ _
  have hval : ∀ (j : Nat) t v, Tryd.f6.params[j]? = some t → args[j]? = some v → Value.okWide Tryd.prog W .any base t v := hval0
  have hW' := hW
  obtain ⟨p, q, hA0, hV, rfl, hfz, hnd⟩ := hW
  have hA : DataW.TrodAll enc Tryd.prog W 0 (fun _ => true) true Tryd.f6.params.toList args.toList ds p := hA0
  rw [Tryd.params6] at hA hval
  obtain ⟨v0, v1, v2, v3, d0, d1, d2, d3, p0, p1, p2, p3, rfl, rfl, rfl, h0, h1, h2, h3⟩ := trodAll_four hA
  obtain ⟨a, rfl, rfl, rfl, wa⟩ := open_int Tryd.underlying3 (hval 0 3 v0 rfl rfl) h0
  obtain ⟨b, rfl, rfl, rfl, wb⟩ := open_int Tryd.underlying3 (hval 1 3 v1 rfl rfl) h1
  obtain ⟨s, rfl, rfl, rfl⟩ := open_bool Tryd.underlying4 (hval 2 4 v2 rfl rfl) h2
  obtain ⟨t, rfl, rfl, rfl⟩ := open_bool Tryd.underlying4 (hval 3 4 v3 rfl rfl) h3
  obtain ⟨rfl, rfl⟩ := trodVars_none hV
  clear hA0 hval0
  simp only [List.append_nil] at hW'
  refine (calls_closed mixed tabOkQ eq_ok (args := [.int .i64 a, .int .i64 b, .bool s, .bool t]) rfl (once_run a b s t) W).mono fun e W' ⟨he, hb⟩ => ?_
  subst he
  exact ⟨_, rfl, post_below (pa := []) (pv := []) hW' (fun _ _ _ => trodAll_mk1 (shut_bool Tryd.underlying4 _)) (fun sp _ => trodAll_mk4 (shut_int Tryd.underlying3 wa) (shut_int Tryd.underlying3 wb) (shut_bool Tryd.underlying4 _) (shut_bool Tryd.underlying4 _)) (fun _ _ => rfl) rfl hb (ok_one (by kernel_rfl) rfl (okWide_bool_mk Tryd.underlying4 _))⟩

theorem once_holds : Rows.JudgeOnceSaid :=
  OpenClaim.holds_of_wide 6 Tryd.f6 rfl rfl rfl rfl rfl rfl rfl ⟨rfl, rfl, rfl, rfl, rfl⟩ rfl rfl rfl rfl rfl (by kernel_rfl) Tryd.func6 (by kernel_rfl)
    (of_decide_eq_true (by kernel_rfl)) (by unfold Func.isWrapper; first | (rw [if_pos (by decide +kernel)]; kernel_rfl) | (rw [if_neg (by decide +kernel)]; exact ⟨rfl, rfl⟩))
    (fun os started H enc _ => once_lifted os started H enc)

theorem once_card : Rows.JudgeOnceCardSaid :=
  Claim7.holds_tied_plain_at .later [] [.data, .data, .data] true (true, "94d59b91644fe7f440b74a354b05e83f098ed69fceb9379f1314d9db3e2b29b6") false
    once_holds (fun _ h => by cases h) (by kernel_rfl) (fun _ h => by cases h) judgeOnce_row_tie rfl ⟨rfl, rfl⟩ (by kernel_rfl) rfl
    (fun f fn hf hfn => by
      obtain rfl : f = 6 := Option.some.inj ((show Tryd.prog.funcNamed "carrefour/carrefourlaw21.JudgeOnce" = some 6 by kernel_rfl).symm.trans hf) |>.symm
      obtain rfl : fn = Tryd.f6 := (Option.some.inj (Tryd.func6.symm.trans hfn)).symm
      exact ⟨by kernel_rfl, fun j t ht => by
        rw [Tryd.params6] at ht
        have hm : t ∈ ([3, 3, 4, 4] : List Nat) := by simpa using Array.mem_of_getElem? ht
        have hall : (([3, 3, 4, 4] : List Nat).all fun u => !Tryd.prog.wantsStandIn u) = true := by kernel_rfl
        exact (show Tryd.prog.wantsStandIn t = false by simpa using List.all_eq_true.1 hall t hm)⟩)
    (by kernel_rfl)
#print axioms once_card
end Go.Proofs.YtiimkdijiddjcaaDoor
