/- What every law of this seat needs: the listed variables as the start lays them, and the row's last step. -/
import Derived.Test.YtiimkdijiddjcaaDoorAbsP
import Derived.Test.YtiimkdijiddjcaaDoorRows
import Derived.Test.YtiimkdijiddjcaaDoorTie
import Derived.Test.YtiimkdijiddjcaaDoorCards
import Derived.ProofKit
import Derived.LaidMore
import Derived.OpenShut
import Derived.Stop.Joined
import Derived.SevenTiedAt
namespace Go.Proofs.YtiimkdijiddjcaaDoor
open Go Go.ChangeShapes Go.WideShapes Go.ChangeAt Go.WideMaps Go.WideElems Go.RowKit Go.Abs

theorem own : ownKnob Tryd.prog.godebug = none := by kernel_rfl
theorem mixed : Tryd.prog.follows .mixedOrders = true := by kernel_rfl
abbrev laidL : List (String × DataW Unit) := [("math/bits.deBruijn32tab", Rows.laid_math_bits_deBruijn32tab), ("math/bits.deBruijn64tab", Rows.laid_math_bits_deBruijn64tab), ("internal/strconv.uint64pow10", Rows.laid_internal_strconv_uint64pow10)]

set_option maxRecDepth 100000 in
theorem door_met (os : Os) (args : Array Value) : laidMetH Tryd.prog laidL ((World.doorLaid Tryd.prog 24 os).forCall (fun _ _ => 0) ⟨#[], args, []⟩).memory :=
  laidMetH_of_parts3 (fuel := 8) (laidMet_of_run' 8 (by kernel_rfl) (by kernel_rfl)) (by kernel_rfl) (by kernel_rfl)


set_option maxRecDepth 1000000 in
/-- what the program tells of a few, by the kernel -/
theorem told_run : retTrue (evF Code.AP noE 3000 11 [] ⟨.e, 0⟩) = true := by kernel_rfl
theorem told_calls (W : World) : Calls Tryd.prog 11 #[] W fun e W' => e = .returned (.bool true) ∧ Below W.heap.size W W' :=
  calls_closed mixed Code.tabOk noE_ok (args := []) rfl told_run W
/-- the table without that function; it is called by what is shown of it -/
def AQ : FuncId → Option AFn := fun f => bif Nat.beq f 11 then none else Code.AP f
theorem tabOkQ : TabOk Tryd.prog AQ := by
  intro f afn h
  unfold AQ at h
  simp only [cond_eq_ite] at h
  split at h
  · cases h
  · exact Code.tabOk f afn h
abbrev EQ : Abs.Call := constE 11 (.bool true)
theorem eq_ok (B0 : Nat) : CallOk Tryd.prog B0 EQ := constE_ok rfl Tryd.func11 (by kernel_rfl) (by kernel_rfl) told_calls B0
end Go.Proofs.YtiimkdijiddjcaaDoor
