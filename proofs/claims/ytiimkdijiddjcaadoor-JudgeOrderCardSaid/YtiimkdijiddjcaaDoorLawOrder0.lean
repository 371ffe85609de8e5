/- Order: the numbers are chosen. -/
import Derived.Test.YtiimkdijiddjcaaDoorLawGlue
namespace Go.Proofs.YtiimkdijiddjcaaDoor
open Go Go.Abs
/-- the frames when the first, and the second, number is chosen -/
def orderFr (a b ua ra c k : Int) : Fr :=
  lput (lput (lput (lput (lput (lput (lput (frOf [.int .i64 a, .int .i64 b] 0 .e) 4 (.bool false)) 10 (.int .i64 a)) 11 (.int .u64 ua)) 12 (.int .u64 ra)) 13 (.int .i64 c)) 14 (.int .i64 k)) 5 (.int .i64 k)
def orderFr2 (a b ua ra c k ub rb d e : Int) : Fr :=
  lput (lput (lput (lput (lput (lput (lput (lput (orderFr a b ua ra c k) 15 (.int .i64 b)) 16 (.int .u64 ub)) 17 (.int .i64 k)) 18 (.int .u64 k)) 19 (.int .u64 rb)) 20 (.int .i64 d)) 21 (.int .i64 e)) 6 (.int .i64 e)
set_option maxRecDepth 1000000 in
theorem order_split (a b : Int) : evF AQ EQ 40004 7 [.int .i64 a, .int .i64 b] ⟨.e, 0⟩ =
    evB AQ EQ 40001 [.tmp 4] Code.a7.body.snd.snd (orderFr a b (IntKind.u64.wrap a) (Int.tmod (IntKind.u64.wrap a) (8 : Nat)) (IntKind.i64.wrap (Int.tmod (IntKind.u64.wrap a) (8 : Nat))) (IntKind.i64.wrap (1 + IntKind.i64.wrap (Int.tmod (IntKind.u64.wrap a) (8 : Nat))))) ⟨.e, 0⟩ :=
  (evF_eq (n := 40003) (fn := Code.a7) rfl).trans ((evB_reg (n := 40001) (b := Code.a7.body.snd) (fr' := lput (frOf [.int .i64 a, .int .i64 b] 0 .e) 4 (.bool false)) (A' := ⟨.e, 0⟩) (by kernel_rfl)).trans (evB_reg (n := 40000) (b := Code.a7.body.snd.snd) (by kernel_rfl)))
set_option maxRecDepth 1000000 in
theorem order_mid0 (a b ua ra : Int) : evB AQ EQ 40001 [.tmp 4] Code.a7.body.snd.snd (orderFr a b ua ra 0 1) ⟨.e, 0⟩ =
    evB AQ EQ 40000 [.tmp 4] Code.a7.body.snd.snd.snd (orderFr2 a b ua ra 0 1 (IntKind.u64.wrap b) (Int.tmod (IntKind.u64.wrap b) (1 : Nat)) (IntKind.i64.wrap (Int.tmod (IntKind.u64.wrap b) (1 : Nat))) (IntKind.i64.wrap (1 + IntKind.i64.wrap (Int.tmod (IntKind.u64.wrap b) (1 : Nat))))) ⟨.e, 0⟩ :=
  evB_reg (n := 39999) (b := Code.a7.body.snd.snd.snd) (by kernel_rfl)
set_option maxRecDepth 1000000 in
theorem order_mid1 (a b ua ra : Int) : evB AQ EQ 40001 [.tmp 4] Code.a7.body.snd.snd (orderFr a b ua ra 1 2) ⟨.e, 0⟩ =
    evB AQ EQ 40000 [.tmp 4] Code.a7.body.snd.snd.snd (orderFr2 a b ua ra 1 2 (IntKind.u64.wrap b) (Int.tmod (IntKind.u64.wrap b) (2 : Nat)) (IntKind.i64.wrap (Int.tmod (IntKind.u64.wrap b) (2 : Nat))) (IntKind.i64.wrap (1 + IntKind.i64.wrap (Int.tmod (IntKind.u64.wrap b) (2 : Nat))))) ⟨.e, 0⟩ :=
  evB_reg (n := 39999) (b := Code.a7.body.snd.snd.snd) (by kernel_rfl)
set_option maxRecDepth 1000000 in
theorem order_mid2 (a b ua ra : Int) : evB AQ EQ 40001 [.tmp 4] Code.a7.body.snd.snd (orderFr a b ua ra 2 3) ⟨.e, 0⟩ =
    evB AQ EQ 40000 [.tmp 4] Code.a7.body.snd.snd.snd (orderFr2 a b ua ra 2 3 (IntKind.u64.wrap b) (Int.tmod (IntKind.u64.wrap b) (3 : Nat)) (IntKind.i64.wrap (Int.tmod (IntKind.u64.wrap b) (3 : Nat))) (IntKind.i64.wrap (1 + IntKind.i64.wrap (Int.tmod (IntKind.u64.wrap b) (3 : Nat))))) ⟨.e, 0⟩ :=
  evB_reg (n := 39999) (b := Code.a7.body.snd.snd.snd) (by kernel_rfl)
set_option maxRecDepth 1000000 in
theorem order_mid3 (a b ua ra : Int) : evB AQ EQ 40001 [.tmp 4] Code.a7.body.snd.snd (orderFr a b ua ra 3 4) ⟨.e, 0⟩ =
    evB AQ EQ 40000 [.tmp 4] Code.a7.body.snd.snd.snd (orderFr2 a b ua ra 3 4 (IntKind.u64.wrap b) (Int.tmod (IntKind.u64.wrap b) (4 : Nat)) (IntKind.i64.wrap (Int.tmod (IntKind.u64.wrap b) (4 : Nat))) (IntKind.i64.wrap (1 + IntKind.i64.wrap (Int.tmod (IntKind.u64.wrap b) (4 : Nat))))) ⟨.e, 0⟩ :=
  evB_reg (n := 39999) (b := Code.a7.body.snd.snd.snd) (by kernel_rfl)
set_option maxRecDepth 1000000 in
theorem order_mid4 (a b ua ra : Int) : evB AQ EQ 40001 [.tmp 4] Code.a7.body.snd.snd (orderFr a b ua ra 4 5) ⟨.e, 0⟩ =
    evB AQ EQ 40000 [.tmp 4] Code.a7.body.snd.snd.snd (orderFr2 a b ua ra 4 5 (IntKind.u64.wrap b) (Int.tmod (IntKind.u64.wrap b) (5 : Nat)) (IntKind.i64.wrap (Int.tmod (IntKind.u64.wrap b) (5 : Nat))) (IntKind.i64.wrap (1 + IntKind.i64.wrap (Int.tmod (IntKind.u64.wrap b) (5 : Nat))))) ⟨.e, 0⟩ :=
  evB_reg (n := 39999) (b := Code.a7.body.snd.snd.snd) (by kernel_rfl)
set_option maxRecDepth 1000000 in
theorem order_mid5 (a b ua ra : Int) : evB AQ EQ 40001 [.tmp 4] Code.a7.body.snd.snd (orderFr a b ua ra 5 6) ⟨.e, 0⟩ =
    evB AQ EQ 40000 [.tmp 4] Code.a7.body.snd.snd.snd (orderFr2 a b ua ra 5 6 (IntKind.u64.wrap b) (Int.tmod (IntKind.u64.wrap b) (6 : Nat)) (IntKind.i64.wrap (Int.tmod (IntKind.u64.wrap b) (6 : Nat))) (IntKind.i64.wrap (1 + IntKind.i64.wrap (Int.tmod (IntKind.u64.wrap b) (6 : Nat))))) ⟨.e, 0⟩ :=
  evB_reg (n := 39999) (b := Code.a7.body.snd.snd.snd) (by kernel_rfl)
set_option maxRecDepth 1000000 in
theorem order_mid6 (a b ua ra : Int) : evB AQ EQ 40001 [.tmp 4] Code.a7.body.snd.snd (orderFr a b ua ra 6 7) ⟨.e, 0⟩ =
    evB AQ EQ 40000 [.tmp 4] Code.a7.body.snd.snd.snd (orderFr2 a b ua ra 6 7 (IntKind.u64.wrap b) (Int.tmod (IntKind.u64.wrap b) (7 : Nat)) (IntKind.i64.wrap (Int.tmod (IntKind.u64.wrap b) (7 : Nat))) (IntKind.i64.wrap (1 + IntKind.i64.wrap (Int.tmod (IntKind.u64.wrap b) (7 : Nat))))) ⟨.e, 0⟩ :=
  evB_reg (n := 39999) (b := Code.a7.body.snd.snd.snd) (by kernel_rfl)
set_option maxRecDepth 1000000 in
theorem order_mid7 (a b ua ra : Int) : evB AQ EQ 40001 [.tmp 4] Code.a7.body.snd.snd (orderFr a b ua ra 7 8) ⟨.e, 0⟩ =
    evB AQ EQ 40000 [.tmp 4] Code.a7.body.snd.snd.snd (orderFr2 a b ua ra 7 8 (IntKind.u64.wrap b) (Int.tmod (IntKind.u64.wrap b) (8 : Nat)) (IntKind.i64.wrap (Int.tmod (IntKind.u64.wrap b) (8 : Nat))) (IntKind.i64.wrap (1 + IntKind.i64.wrap (Int.tmod (IntKind.u64.wrap b) (8 : Nat))))) ⟨.e, 0⟩ :=
  evB_reg (n := 39999) (b := Code.a7.body.snd.snd.snd) (by kernel_rfl)
end Go.Proofs.YtiimkdijiddjcaaDoor
