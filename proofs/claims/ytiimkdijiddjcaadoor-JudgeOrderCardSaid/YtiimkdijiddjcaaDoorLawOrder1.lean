/- Order: a part of the cases. -/
import Derived.Test.YtiimkdijiddjcaaDoorLawOrder0
namespace Go.Proofs.YtiimkdijiddjcaaDoor
open Go Go.Abs
set_option maxRecDepth 1000000 in
theorem order_tail7x0 (a b ua ra ub rb : Int) : retTrue (evB AQ EQ 40000 [.tmp 4] Code.a7.body.snd.snd.snd (orderFr2 a b ua ra 7 8 ub rb 0 1) ⟨.e, 0⟩) = true := by kernel_rfl
set_option maxRecDepth 1000000 in
theorem order_tail7x6 (a b ua ra ub rb : Int) : retTrue (evB AQ EQ 40000 [.tmp 4] Code.a7.body.snd.snd.snd (orderFr2 a b ua ra 7 8 ub rb 6 7) ⟨.e, 0⟩) = true := by kernel_rfl
set_option maxRecDepth 1000000 in
theorem order_tail5x1 (a b ua ra ub rb : Int) : retTrue (evB AQ EQ 40000 [.tmp 4] Code.a7.body.snd.snd.snd (orderFr2 a b ua ra 5 6 ub rb 1 2) ⟨.e, 0⟩) = true := by kernel_rfl
set_option maxRecDepth 1000000 in
theorem order_tail5x4 (a b ua ra ub rb : Int) : retTrue (evB AQ EQ 40000 [.tmp 4] Code.a7.body.snd.snd.snd (orderFr2 a b ua ra 5 6 ub rb 4 5) ⟨.e, 0⟩) = true := by kernel_rfl
set_option maxRecDepth 1000000 in
theorem order_tail3x2 (a b ua ra ub rb : Int) : retTrue (evB AQ EQ 40000 [.tmp 4] Code.a7.body.snd.snd.snd (orderFr2 a b ua ra 3 4 ub rb 2 3) ⟨.e, 0⟩) = true := by kernel_rfl
set_option maxRecDepth 1000000 in
theorem order_tail2x2 (a b ua ra ub rb : Int) : retTrue (evB AQ EQ 40000 [.tmp 4] Code.a7.body.snd.snd.snd (orderFr2 a b ua ra 2 3 ub rb 2 3) ⟨.e, 0⟩) = true := by kernel_rfl
end Go.Proofs.YtiimkdijiddjcaaDoor
