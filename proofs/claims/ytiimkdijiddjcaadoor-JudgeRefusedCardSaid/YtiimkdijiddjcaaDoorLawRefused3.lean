/- Refused: a part of the cases. -/
import Derived.Test.YtiimkdijiddjcaaDoorLawRefused0
namespace Go.Proofs.YtiimkdijiddjcaaDoor
open Go Go.Abs
set_option maxRecDepth 1000000 in
theorem refused_tail4x2 (a b ua ra ub rb : Int) : retTrue (evB AQ EQ 12000 [.tmp 4] Code.a8.body.snd.snd.snd (refusedFr2 a b ua ra 4 6 ub rb 2 3) ⟨.e, 0⟩) = true := by kernel_rfl
set_option maxRecDepth 1000000 in
theorem refused_tail4x5 (a b ua ra ub rb : Int) : retTrue (evB AQ EQ 12000 [.tmp 4] Code.a8.body.snd.snd.snd (refusedFr2 a b ua ra 4 6 ub rb 5 6) ⟨.e, 0⟩) = true := by kernel_rfl
set_option maxRecDepth 1000000 in
theorem refused_tail3x2 (a b ua ra ub rb : Int) : retTrue (evB AQ EQ 12000 [.tmp 4] Code.a8.body.snd.snd.snd (refusedFr2 a b ua ra 3 5 ub rb 2 3) ⟨.e, 0⟩) = true := by kernel_rfl
set_option maxRecDepth 1000000 in
theorem refused_tail2x0 (a b ua ra ub rb : Int) : retTrue (evB AQ EQ 12000 [.tmp 4] Code.a8.body.snd.snd.snd (refusedFr2 a b ua ra 2 4 ub rb 0 1) ⟨.e, 0⟩) = true := by kernel_rfl
set_option maxRecDepth 1000000 in
theorem refused_tail2x1 (a b ua ra ub rb : Int) : retTrue (evB AQ EQ 12000 [.tmp 4] Code.a8.body.snd.snd.snd (refusedFr2 a b ua ra 2 4 ub rb 1 2) ⟨.e, 0⟩) = true := by kernel_rfl
set_option maxRecDepth 1000000 in
theorem refused_tail1x0 (a b ua ra ub rb : Int) : retTrue (evB AQ EQ 12000 [.tmp 4] Code.a8.body.snd.snd.snd (refusedFr2 a b ua ra 1 3 ub rb 0 1) ⟨.e, 0⟩) = true := by kernel_rfl
set_option maxRecDepth 1000000 in
theorem refused_tail0x0 (a b ua ra ub rb : Int) : retTrue (evB AQ EQ 12000 [.tmp 4] Code.a8.body.snd.snd.snd (refusedFr2 a b ua ra 0 2 ub rb 0 1) ⟨.e, 0⟩) = true := by kernel_rfl
end Go.Proofs.YtiimkdijiddjcaaDoor
