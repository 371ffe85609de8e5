/- Refused: the numbers are chosen. -/
import Derived.Test.YtiimkdijiddjcaaDoorLawGlue
namespace Go.Proofs.YtiimkdijiddjcaaDoor
open Go Go.Abs
/-- the frames when the first, and the second, number is chosen -/
def refusedFr (a b ua ra c k : Int) : Fr :=
  lput (lput (lput (lput (lput (lput (lput (frOf [.int .i64 a, .int .i64 b] 0 .e) 4 (.bool false)) 11 (.int .i64 a)) 12 (.int .u64 ua)) 13 (.int .u64 ra)) 14 (.int .i64 c)) 15 (.int .i64 k)) 5 (.int .i64 k)
def refusedFr2 (a b ua ra c k ub rb d e : Int) : Fr :=
  lput (lput (lput (lput (lput (lput (lput (lput (refusedFr a b ua ra c k) 16 (.int .i64 b)) 17 (.int .u64 ub)) 18 (.int .i64 k)) 19 (.int .u64 k)) 20 (.int .u64 rb)) 21 (.int .i64 d)) 22 (.int .i64 e)) 6 (.int .i64 e)
set_option maxRecDepth 1000000 in
theorem refused_split (a b : Int) : evF AQ EQ 12004 8 [.int .i64 a, .int .i64 b] ⟨.e, 0⟩ =
    evB AQ EQ 12001 [.tmp 4] Code.a8.body.snd.snd (refusedFr a b (IntKind.u64.wrap a) (Int.tmod (IntKind.u64.wrap a) (5 : Nat)) (IntKind.i64.wrap (Int.tmod (IntKind.u64.wrap a) (5 : Nat))) (IntKind.i64.wrap (2 + IntKind.i64.wrap (Int.tmod (IntKind.u64.wrap a) (5 : Nat))))) ⟨.e, 0⟩ :=
  (evF_eq (n := 12003) (fn := Code.a8) rfl).trans ((evB_reg (n := 12001) (b := Code.a8.body.snd) (fr' := lput (frOf [.int .i64 a, .int .i64 b] 0 .e) 4 (.bool false)) (A' := ⟨.e, 0⟩) (by kernel_rfl)).trans (evB_reg (n := 12000) (b := Code.a8.body.snd.snd) (by kernel_rfl)))
set_option maxRecDepth 1000000 in
theorem refused_mid0 (a b ua ra : Int) : evB AQ EQ 12001 [.tmp 4] Code.a8.body.snd.snd (refusedFr a b ua ra 0 2) ⟨.e, 0⟩ =
    evB AQ EQ 12000 [.tmp 4] Code.a8.body.snd.snd.snd (refusedFr2 a b ua ra 0 2 (IntKind.u64.wrap b) (Int.tmod (IntKind.u64.wrap b) (2 : Nat)) (IntKind.i64.wrap (Int.tmod (IntKind.u64.wrap b) (2 : Nat))) (IntKind.i64.wrap (1 + IntKind.i64.wrap (Int.tmod (IntKind.u64.wrap b) (2 : Nat))))) ⟨.e, 0⟩ :=
  evB_reg (n := 11999) (b := Code.a8.body.snd.snd.snd) (by kernel_rfl)
set_option maxRecDepth 1000000 in
theorem refused_mid1 (a b ua ra : Int) : evB AQ EQ 12001 [.tmp 4] Code.a8.body.snd.snd (refusedFr a b ua ra 1 3) ⟨.e, 0⟩ =
    evB AQ EQ 12000 [.tmp 4] Code.a8.body.snd.snd.snd (refusedFr2 a b ua ra 1 3 (IntKind.u64.wrap b) (Int.tmod (IntKind.u64.wrap b) (3 : Nat)) (IntKind.i64.wrap (Int.tmod (IntKind.u64.wrap b) (3 : Nat))) (IntKind.i64.wrap (1 + IntKind.i64.wrap (Int.tmod (IntKind.u64.wrap b) (3 : Nat))))) ⟨.e, 0⟩ :=
  evB_reg (n := 11999) (b := Code.a8.body.snd.snd.snd) (by kernel_rfl)
set_option maxRecDepth 1000000 in
theorem refused_mid2 (a b ua ra : Int) : evB AQ EQ 12001 [.tmp 4] Code.a8.body.snd.snd (refusedFr a b ua ra 2 4) ⟨.e, 0⟩ =
    evB AQ EQ 12000 [.tmp 4] Code.a8.body.snd.snd.snd (refusedFr2 a b ua ra 2 4 (IntKind.u64.wrap b) (Int.tmod (IntKind.u64.wrap b) (4 : Nat)) (IntKind.i64.wrap (Int.tmod (IntKind.u64.wrap b) (4 : Nat))) (IntKind.i64.wrap (1 + IntKind.i64.wrap (Int.tmod (IntKind.u64.wrap b) (4 : Nat))))) ⟨.e, 0⟩ :=
  evB_reg (n := 11999) (b := Code.a8.body.snd.snd.snd) (by kernel_rfl)
set_option maxRecDepth 1000000 in
theorem refused_mid3 (a b ua ra : Int) : evB AQ EQ 12001 [.tmp 4] Code.a8.body.snd.snd (refusedFr a b ua ra 3 5) ⟨.e, 0⟩ =
    evB AQ EQ 12000 [.tmp 4] Code.a8.body.snd.snd.snd (refusedFr2 a b ua ra 3 5 (IntKind.u64.wrap b) (Int.tmod (IntKind.u64.wrap b) (5 : Nat)) (IntKind.i64.wrap (Int.tmod (IntKind.u64.wrap b) (5 : Nat))) (IntKind.i64.wrap (1 + IntKind.i64.wrap (Int.tmod (IntKind.u64.wrap b) (5 : Nat))))) ⟨.e, 0⟩ :=
  evB_reg (n := 11999) (b := Code.a8.body.snd.snd.snd) (by kernel_rfl)
set_option maxRecDepth 1000000 in
theorem refused_mid4 (a b ua ra : Int) : evB AQ EQ 12001 [.tmp 4] Code.a8.body.snd.snd (refusedFr a b ua ra 4 6) ⟨.e, 0⟩ =
    evB AQ EQ 12000 [.tmp 4] Code.a8.body.snd.snd.snd (refusedFr2 a b ua ra 4 6 (IntKind.u64.wrap b) (Int.tmod (IntKind.u64.wrap b) (6 : Nat)) (IntKind.i64.wrap (Int.tmod (IntKind.u64.wrap b) (6 : Nat))) (IntKind.i64.wrap (1 + IntKind.i64.wrap (Int.tmod (IntKind.u64.wrap b) (6 : Nat))))) ⟨.e, 0⟩ :=
  evB_reg (n := 11999) (b := Code.a8.body.snd.snd.snd) (by kernel_rfl)
end Go.Proofs.YtiimkdijiddjcaaDoor
