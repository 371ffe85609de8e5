/-
  NARROWER THAN 'FOR EVERY INPUT', by the rows' own cells (each row's printed sentence says how): JudgeAsks: laid · JudgeMakes: laid · JudgeFront: laid · JudgeOnce: laid · JudgeOrder: laid · JudgeRefused: laid · JudgeKeys: laid.
  DERIVED. THE GIVEN ROWS OF THIS SEAT. 7 by the template 'for every input the law returns true; each argument reads behind the call as it read before'; 0 by the template 'total and deterministic' (their statements: YtiimkdijiddjcaaDoorTotals.lean).
  GIVEN WITH THE SEED: the statements are not yours to turn. If you find one false, say at which input.
  Laid BY PROGRAM, IN A SANDBOX (cutbox-rows.mjs): the forced cells as the released guide's own fill.sh prints them over the translation f50a32df18b24d21… (all of the seat's roots in one cut). By AI agents, Wed Nov 11 2026. No macro, syntax, notation, axiom, sorry.
-/
import Derived.Test.YtiimkdijiddjcaaDoorChecked
import GoSem.Claim
import GoSem.ClaimJoined
import GoSem.ClaimMapViews
import Derived.JoinedTies
import Derived.KernelRfl
namespace Go.Proofs.YtiimkdijiddjcaaDoor
/- THE CELL 'sum', in the pinned program and in every row, IS THE sha256 OF THE DUMP (.gsa) THAT YtiimkdijiddjcaaDoorProg.lean LOADS. Nothing in Lean hashes anything: it is a label: what it is worth is what the hold of that sum in a sandbox is worth. -/
noncomputable def Tryd.pinned : Pinned := { name := "ytiimkdijiddjcaadoor", sum := "f50a32df18b24d21dc22cce379d8feccf607c70a524019d9c97df33ecd871f52", checked := Tryd.checked }
namespace Rows
def none {H : Type} : Left H := { results := [], args := [] }

/- WHAT THE LISTED PACKAGE-LEVEL VARIABLES READ AS WHEN THE CALL BEGINS. Each datum BY PROGRAM (the guide's laid-datum.mjs) off the statement by which the dump's own 'gosem.cut.vars' lays the variable. In a bare row this is a premise. The card (YtiimkdijiddjcaaDoorCards.lean) ties it to the program's text. -/
def laid_math_bits_deBruijn32tab {H : Type} : DataW H := .agg [.lit (.int .u8 0), .lit (.int .u8 1), .lit (.int .u8 28), .lit (.int .u8 2), .lit (.int .u8 29), .lit (.int .u8 14), .lit (.int .u8 24), .lit (.int .u8 3), .lit (.int .u8 30), .lit (.int .u8 22), .lit (.int .u8 20), .lit (.int .u8 15), .lit (.int .u8 25), .lit (.int .u8 17), .lit (.int .u8 4), .lit (.int .u8 8), .lit (.int .u8 31), .lit (.int .u8 27), .lit (.int .u8 13), .lit (.int .u8 23), .lit (.int .u8 21), .lit (.int .u8 19), .lit (.int .u8 16), .lit (.int .u8 7), .lit (.int .u8 26), .lit (.int .u8 12), .lit (.int .u8 18), .lit (.int .u8 6), .lit (.int .u8 11), .lit (.int .u8 5), .lit (.int .u8 10), .lit (.int .u8 9)]
def laid_math_bits_deBruijn64tab {H : Type} : DataW H := .agg [.lit (.int .u8 0), .lit (.int .u8 1), .lit (.int .u8 56), .lit (.int .u8 2), .lit (.int .u8 57), .lit (.int .u8 49), .lit (.int .u8 28), .lit (.int .u8 3), .lit (.int .u8 61), .lit (.int .u8 58), .lit (.int .u8 42), .lit (.int .u8 50), .lit (.int .u8 38), .lit (.int .u8 29), .lit (.int .u8 17), .lit (.int .u8 4), .lit (.int .u8 62), .lit (.int .u8 47), .lit (.int .u8 59), .lit (.int .u8 36), .lit (.int .u8 45), .lit (.int .u8 43), .lit (.int .u8 51), .lit (.int .u8 22), .lit (.int .u8 53), .lit (.int .u8 39), .lit (.int .u8 33), .lit (.int .u8 30), .lit (.int .u8 24), .lit (.int .u8 18), .lit (.int .u8 12), .lit (.int .u8 5), .lit (.int .u8 63), .lit (.int .u8 55), .lit (.int .u8 48), .lit (.int .u8 27), .lit (.int .u8 60), .lit (.int .u8 41), .lit (.int .u8 37), .lit (.int .u8 16), .lit (.int .u8 46), .lit (.int .u8 35), .lit (.int .u8 44), .lit (.int .u8 21), .lit (.int .u8 52), .lit (.int .u8 32), .lit (.int .u8 23), .lit (.int .u8 11), .lit (.int .u8 54), .lit (.int .u8 26), .lit (.int .u8 40), .lit (.int .u8 15), .lit (.int .u8 34), .lit (.int .u8 20), .lit (.int .u8 31), .lit (.int .u8 10), .lit (.int .u8 25), .lit (.int .u8 14), .lit (.int .u8 19), .lit (.int .u8 9), .lit (.int .u8 13), .lit (.int .u8 8), .lit (.int .u8 7), .lit (.int .u8 6)]
def laid_internal_strconv_uint64pow10 {H : Type} : DataW H := .agg [.lit (.int .u64 1), .lit (.int .u64 10), .lit (.int .u64 100), .lit (.int .u64 1000), .lit (.int .u64 10000), .lit (.int .u64 100000), .lit (.int .u64 1000000), .lit (.int .u64 10000000), .lit (.int .u64 100000000), .lit (.int .u64 1000000000), .lit (.int .u64 10000000000), .lit (.int .u64 100000000000), .lit (.int .u64 1000000000000), .lit (.int .u64 10000000000000), .lit (.int .u64 100000000000000), .lit (.int .u64 1000000000000000), .lit (.int .u64 10000000000000000), .lit (.int .u64 100000000000000000), .lit (.int .u64 1000000000000000000), .lit (.int .u64 10000000000000000000)]

/-- 'carrefourlaw21.JudgeAsks': WHATEVER THE INPUT: true; the input reads as it did. -/
def judgeAsksSpec : ChangeSpec := { name := "judgeAsks", fn := fun _ => fun
  | [d] => { results := [.lit (.bool true)], args := [d] }
  | _ => none }
def judgeAsksRow : OpenClaim := { program := "ytiimkdijiddjcaadoor", sum := "f50a32df18b24d21dc22cce379d8feccf607c70a524019d9c97df33ecd871f52", func := "carrefour/carrefourlaw21.JudgeAsks", spec := "judgeAsks", named := ["internal/strconv.uint64pow10", "math/bits.deBruijn32tab", "math/bits.deBruijn64tab"], plainKeys := false, apart := false, laid := [("math/bits.deBruijn32tab", laid_math_bits_deBruijn32tab), ("math/bits.deBruijn64tab", laid_math_bits_deBruijn64tab), ("internal/strconv.uint64pow10", laid_internal_strconv_uint64pow10)] }
def JudgeAsksSaid : Prop := judgeAsksRow.holds Tryd.pinned (OpenSpec.ofChange judgeAsksSpec)

/-- ITS FALSE NEIGHBOUR: 'it returns false'. Refute it at one input. -/
def judgeAsksWrong : ChangeSpec := { name := "judgeAsks", fn := fun _ => fun
  | [d] => { results := [.lit (.bool false)], args := [d] }
  | _ => none }
def JudgeAsksWrongFalsely : Prop := judgeAsksRow.holds Tryd.pinned (OpenSpec.ofChange judgeAsksWrong)

/-- 'carrefourlaw21.JudgeMakes': WHATEVER THE INPUT: true; the input reads as it did. -/
def judgeMakesSpec : ChangeSpec := { name := "judgeMakes", fn := fun _ => fun
  | [d1, d2] => { results := [.lit (.bool true)], args := [d1, d2] }
  | _ => none }
def judgeMakesRow : OpenClaim := { program := "ytiimkdijiddjcaadoor", sum := "f50a32df18b24d21dc22cce379d8feccf607c70a524019d9c97df33ecd871f52", func := "carrefour/carrefourlaw21.JudgeMakes", spec := "judgeMakes", named := ["internal/strconv.uint64pow10", "math/bits.deBruijn32tab", "math/bits.deBruijn64tab"], plainKeys := false, apart := false, laid := [("math/bits.deBruijn32tab", laid_math_bits_deBruijn32tab), ("math/bits.deBruijn64tab", laid_math_bits_deBruijn64tab), ("internal/strconv.uint64pow10", laid_internal_strconv_uint64pow10)] }
def JudgeMakesSaid : Prop := judgeMakesRow.holds Tryd.pinned (OpenSpec.ofChange judgeMakesSpec)

/-- ITS FALSE NEIGHBOUR: 'it returns false'. Refute it at one input. -/
def judgeMakesWrong : ChangeSpec := { name := "judgeMakes", fn := fun _ => fun
  | [d1, d2] => { results := [.lit (.bool false)], args := [d1, d2] }
  | _ => none }
def JudgeMakesWrongFalsely : Prop := judgeMakesRow.holds Tryd.pinned (OpenSpec.ofChange judgeMakesWrong)

/-- 'carrefourlaw21.JudgeFront': WHATEVER THE INPUT: true; the input reads as it did. -/
def judgeFrontSpec : ChangeSpec := { name := "judgeFront", fn := fun _ => fun
  | [d1, d2] => { results := [.lit (.bool true)], args := [d1, d2] }
  | _ => none }
def judgeFrontRow : OpenClaim := { program := "ytiimkdijiddjcaadoor", sum := "f50a32df18b24d21dc22cce379d8feccf607c70a524019d9c97df33ecd871f52", func := "carrefour/carrefourlaw21.JudgeFront", spec := "judgeFront", named := ["internal/strconv.uint64pow10", "math/bits.deBruijn32tab", "math/bits.deBruijn64tab"], plainKeys := false, apart := false, laid := [("math/bits.deBruijn32tab", laid_math_bits_deBruijn32tab), ("math/bits.deBruijn64tab", laid_math_bits_deBruijn64tab), ("internal/strconv.uint64pow10", laid_internal_strconv_uint64pow10)] }
def JudgeFrontSaid : Prop := judgeFrontRow.holds Tryd.pinned (OpenSpec.ofChange judgeFrontSpec)

/-- ITS FALSE NEIGHBOUR: 'it returns false'. Refute it at one input. -/
def judgeFrontWrong : ChangeSpec := { name := "judgeFront", fn := fun _ => fun
  | [d1, d2] => { results := [.lit (.bool false)], args := [d1, d2] }
  | _ => none }
def JudgeFrontWrongFalsely : Prop := judgeFrontRow.holds Tryd.pinned (OpenSpec.ofChange judgeFrontWrong)

/-- 'carrefourlaw21.JudgeOnce': WHATEVER THE INPUT: true; the input reads as it did. -/
def judgeOnceSpec : ChangeSpec := { name := "judgeOnce", fn := fun _ => fun
  | [d1, d2, d3, d4] => { results := [.lit (.bool true)], args := [d1, d2, d3, d4] }
  | _ => none }
def judgeOnceRow : OpenClaim := { program := "ytiimkdijiddjcaadoor", sum := "f50a32df18b24d21dc22cce379d8feccf607c70a524019d9c97df33ecd871f52", func := "carrefour/carrefourlaw21.JudgeOnce", spec := "judgeOnce", named := ["internal/strconv.uint64pow10", "math/bits.deBruijn32tab", "math/bits.deBruijn64tab"], plainKeys := false, apart := false, laid := [("math/bits.deBruijn32tab", laid_math_bits_deBruijn32tab), ("math/bits.deBruijn64tab", laid_math_bits_deBruijn64tab), ("internal/strconv.uint64pow10", laid_internal_strconv_uint64pow10)] }
def JudgeOnceSaid : Prop := judgeOnceRow.holds Tryd.pinned (OpenSpec.ofChange judgeOnceSpec)

/-- ITS FALSE NEIGHBOUR: 'it returns false'. Refute it at one input. -/
def judgeOnceWrong : ChangeSpec := { name := "judgeOnce", fn := fun _ => fun
  | [d1, d2, d3, d4] => { results := [.lit (.bool false)], args := [d1, d2, d3, d4] }
  | _ => none }
def JudgeOnceWrongFalsely : Prop := judgeOnceRow.holds Tryd.pinned (OpenSpec.ofChange judgeOnceWrong)

/-- 'carrefourlaw21.JudgeOrder': WHATEVER THE INPUT: true; the input reads as it did. -/
def judgeOrderSpec : ChangeSpec := { name := "judgeOrder", fn := fun _ => fun
  | [d1, d2] => { results := [.lit (.bool true)], args := [d1, d2] }
  | _ => none }
def judgeOrderRow : OpenClaim := { program := "ytiimkdijiddjcaadoor", sum := "f50a32df18b24d21dc22cce379d8feccf607c70a524019d9c97df33ecd871f52", func := "carrefour/carrefourlaw21.JudgeOrder", spec := "judgeOrder", named := ["internal/strconv.uint64pow10", "math/bits.deBruijn32tab", "math/bits.deBruijn64tab"], plainKeys := false, apart := false, laid := [("math/bits.deBruijn32tab", laid_math_bits_deBruijn32tab), ("math/bits.deBruijn64tab", laid_math_bits_deBruijn64tab), ("internal/strconv.uint64pow10", laid_internal_strconv_uint64pow10)] }
def JudgeOrderSaid : Prop := judgeOrderRow.holds Tryd.pinned (OpenSpec.ofChange judgeOrderSpec)

/-- ITS FALSE NEIGHBOUR: 'it returns false'. Refute it at one input. -/
def judgeOrderWrong : ChangeSpec := { name := "judgeOrder", fn := fun _ => fun
  | [d1, d2] => { results := [.lit (.bool false)], args := [d1, d2] }
  | _ => none }
def JudgeOrderWrongFalsely : Prop := judgeOrderRow.holds Tryd.pinned (OpenSpec.ofChange judgeOrderWrong)

/-- 'carrefourlaw21.JudgeRefused': WHATEVER THE INPUT: true; the input reads as it did. -/
def judgeRefusedSpec : ChangeSpec := { name := "judgeRefused", fn := fun _ => fun
  | [d1, d2] => { results := [.lit (.bool true)], args := [d1, d2] }
  | _ => none }
def judgeRefusedRow : OpenClaim := { program := "ytiimkdijiddjcaadoor", sum := "f50a32df18b24d21dc22cce379d8feccf607c70a524019d9c97df33ecd871f52", func := "carrefour/carrefourlaw21.JudgeRefused", spec := "judgeRefused", named := ["internal/strconv.uint64pow10", "math/bits.deBruijn32tab", "math/bits.deBruijn64tab"], plainKeys := false, apart := false, laid := [("math/bits.deBruijn32tab", laid_math_bits_deBruijn32tab), ("math/bits.deBruijn64tab", laid_math_bits_deBruijn64tab), ("internal/strconv.uint64pow10", laid_internal_strconv_uint64pow10)] }
def JudgeRefusedSaid : Prop := judgeRefusedRow.holds Tryd.pinned (OpenSpec.ofChange judgeRefusedSpec)

/-- ITS FALSE NEIGHBOUR: 'it returns false'. Refute it at one input. -/
def judgeRefusedWrong : ChangeSpec := { name := "judgeRefused", fn := fun _ => fun
  | [d1, d2] => { results := [.lit (.bool false)], args := [d1, d2] }
  | _ => none }
def JudgeRefusedWrongFalsely : Prop := judgeRefusedRow.holds Tryd.pinned (OpenSpec.ofChange judgeRefusedWrong)

/-- 'carrefourlaw21.JudgeKeys': WHATEVER THE INPUT: true; the input reads as it did. -/
def judgeKeysSpec : ChangeSpec := { name := "judgeKeys", fn := fun _ => fun
  | [d1, d2] => { results := [.lit (.bool true)], args := [d1, d2] }
  | _ => none }
def judgeKeysRow : OpenClaim := { program := "ytiimkdijiddjcaadoor", sum := "f50a32df18b24d21dc22cce379d8feccf607c70a524019d9c97df33ecd871f52", func := "carrefour/carrefourlaw21.JudgeKeys", spec := "judgeKeys", named := ["internal/strconv.uint64pow10", "math/bits.deBruijn32tab", "math/bits.deBruijn64tab"], plainKeys := false, apart := false, laid := [("math/bits.deBruijn32tab", laid_math_bits_deBruijn32tab), ("math/bits.deBruijn64tab", laid_math_bits_deBruijn64tab), ("internal/strconv.uint64pow10", laid_internal_strconv_uint64pow10)] }
def JudgeKeysSaid : Prop := judgeKeysRow.holds Tryd.pinned (OpenSpec.ofChange judgeKeysSpec)

/-- ITS FALSE NEIGHBOUR: 'it returns false'. Refute it at one input. -/
def judgeKeysWrong : ChangeSpec := { name := "judgeKeys", fn := fun _ => fun
  | [d1, d2] => { results := [.lit (.bool false)], args := [d1, d2] }
  | _ => none }
def JudgeKeysWrongFalsely : Prop := judgeKeysRow.holds Tryd.pinned (OpenSpec.ofChange judgeKeysWrong)

/- THE SECOND FORM. 'bulk': how many values and letters a reading holds, each counted each time it is reached (what is shared counts as often as it is met; a slice's spare places count too). A statement '..UptoSaid' is the law's where the arguments, and the package variables that the reading takes, are together of bulk at most 1048576: NARROWER than '..Said'. Prove '..Said' where nothing that the law and all that it calls make is longer than what came in: it says more and counts as full. Else prove '..UptoSaid'. A law counts once. -/
mutual
def uptoBulk {H : Type} : DataW H → Nat
  | .lit (.string bytes) => bytes.length + 1
  | .lit _ => 1
  | .nil => 1
  | .ptr d => uptoBulk d + 1
  | .slice elems spare => uptoBulkAll elems + uptoBulkAll spare + 1
  | .agg parts => uptoBulkAll parts + 1
  | .iface _ d => uptoBulk d + 1
  | .map entries => uptoBulkEntries entries + 1
  | .held _ => 1
def uptoBulkAll {H : Type} : List (DataW H) → Nat
  | [] => 0
  | d :: r => uptoBulk d + uptoBulkAll r
def uptoBulkEntries {H : Type} : List (Lit × DataW H) → Nat
  | [] => 0
  | x :: r => uptoBulkEntry x + uptoBulkEntries r
def uptoBulkEntry {H : Type} : Lit × DataW H → Nat
  | (.string bytes, d) => bytes.length + uptoBulk d + 1
  | (_, d) => uptoBulk d + 1
 end
def uptoSmall : (H : Type) → List (DataW H) → Bool := fun _ ds => decide (uptoBulkAll ds ≤ 1048576)
def OpenSpec.upto (s : _root_.Go.ChangeSpec) : _root_.Go.OpenSpec := { _root_.Go.OpenSpec.ofChange s with cond := some uptoSmall }

/-- 'carrefourlaw21.JudgeAsks', WHERE WHAT IT READS IS OF BULK AT MOST 1048576: true; the input reads as it did. -/
def judgeAsksUptoRow : OpenClaim := { program := "ytiimkdijiddjcaadoor", sum := "f50a32df18b24d21dc22cce379d8feccf607c70a524019d9c97df33ecd871f52", func := "carrefour/carrefourlaw21.JudgeAsks", spec := "judgeAsks", named := ["internal/strconv.uint64pow10", "math/bits.deBruijn32tab", "math/bits.deBruijn64tab"], plainKeys := false, apart := false, laid := [("math/bits.deBruijn32tab", laid_math_bits_deBruijn32tab), ("math/bits.deBruijn64tab", laid_math_bits_deBruijn64tab), ("internal/strconv.uint64pow10", laid_internal_strconv_uint64pow10)], narrowed := true }
def JudgeAsksUptoSaid : Prop := judgeAsksUptoRow.holds Tryd.pinned (OpenSpec.upto judgeAsksSpec)

/-- 'carrefourlaw21.JudgeMakes', WHERE WHAT IT READS IS OF BULK AT MOST 1048576: true; the input reads as it did. -/
def judgeMakesUptoRow : OpenClaim := { program := "ytiimkdijiddjcaadoor", sum := "f50a32df18b24d21dc22cce379d8feccf607c70a524019d9c97df33ecd871f52", func := "carrefour/carrefourlaw21.JudgeMakes", spec := "judgeMakes", named := ["internal/strconv.uint64pow10", "math/bits.deBruijn32tab", "math/bits.deBruijn64tab"], plainKeys := false, apart := false, laid := [("math/bits.deBruijn32tab", laid_math_bits_deBruijn32tab), ("math/bits.deBruijn64tab", laid_math_bits_deBruijn64tab), ("internal/strconv.uint64pow10", laid_internal_strconv_uint64pow10)], narrowed := true }
def JudgeMakesUptoSaid : Prop := judgeMakesUptoRow.holds Tryd.pinned (OpenSpec.upto judgeMakesSpec)

/-- 'carrefourlaw21.JudgeFront', WHERE WHAT IT READS IS OF BULK AT MOST 1048576: true; the input reads as it did. -/
def judgeFrontUptoRow : OpenClaim := { program := "ytiimkdijiddjcaadoor", sum := "f50a32df18b24d21dc22cce379d8feccf607c70a524019d9c97df33ecd871f52", func := "carrefour/carrefourlaw21.JudgeFront", spec := "judgeFront", named := ["internal/strconv.uint64pow10", "math/bits.deBruijn32tab", "math/bits.deBruijn64tab"], plainKeys := false, apart := false, laid := [("math/bits.deBruijn32tab", laid_math_bits_deBruijn32tab), ("math/bits.deBruijn64tab", laid_math_bits_deBruijn64tab), ("internal/strconv.uint64pow10", laid_internal_strconv_uint64pow10)], narrowed := true }
def JudgeFrontUptoSaid : Prop := judgeFrontUptoRow.holds Tryd.pinned (OpenSpec.upto judgeFrontSpec)

/-- 'carrefourlaw21.JudgeOnce', WHERE WHAT IT READS IS OF BULK AT MOST 1048576: true; the input reads as it did. -/
def judgeOnceUptoRow : OpenClaim := { program := "ytiimkdijiddjcaadoor", sum := "f50a32df18b24d21dc22cce379d8feccf607c70a524019d9c97df33ecd871f52", func := "carrefour/carrefourlaw21.JudgeOnce", spec := "judgeOnce", named := ["internal/strconv.uint64pow10", "math/bits.deBruijn32tab", "math/bits.deBruijn64tab"], plainKeys := false, apart := false, laid := [("math/bits.deBruijn32tab", laid_math_bits_deBruijn32tab), ("math/bits.deBruijn64tab", laid_math_bits_deBruijn64tab), ("internal/strconv.uint64pow10", laid_internal_strconv_uint64pow10)], narrowed := true }
def JudgeOnceUptoSaid : Prop := judgeOnceUptoRow.holds Tryd.pinned (OpenSpec.upto judgeOnceSpec)

/-- 'carrefourlaw21.JudgeOrder', WHERE WHAT IT READS IS OF BULK AT MOST 1048576: true; the input reads as it did. -/
def judgeOrderUptoRow : OpenClaim := { program := "ytiimkdijiddjcaadoor", sum := "f50a32df18b24d21dc22cce379d8feccf607c70a524019d9c97df33ecd871f52", func := "carrefour/carrefourlaw21.JudgeOrder", spec := "judgeOrder", named := ["internal/strconv.uint64pow10", "math/bits.deBruijn32tab", "math/bits.deBruijn64tab"], plainKeys := false, apart := false, laid := [("math/bits.deBruijn32tab", laid_math_bits_deBruijn32tab), ("math/bits.deBruijn64tab", laid_math_bits_deBruijn64tab), ("internal/strconv.uint64pow10", laid_internal_strconv_uint64pow10)], narrowed := true }
def JudgeOrderUptoSaid : Prop := judgeOrderUptoRow.holds Tryd.pinned (OpenSpec.upto judgeOrderSpec)

/-- 'carrefourlaw21.JudgeRefused', WHERE WHAT IT READS IS OF BULK AT MOST 1048576: true; the input reads as it did. -/
def judgeRefusedUptoRow : OpenClaim := { program := "ytiimkdijiddjcaadoor", sum := "f50a32df18b24d21dc22cce379d8feccf607c70a524019d9c97df33ecd871f52", func := "carrefour/carrefourlaw21.JudgeRefused", spec := "judgeRefused", named := ["internal/strconv.uint64pow10", "math/bits.deBruijn32tab", "math/bits.deBruijn64tab"], plainKeys := false, apart := false, laid := [("math/bits.deBruijn32tab", laid_math_bits_deBruijn32tab), ("math/bits.deBruijn64tab", laid_math_bits_deBruijn64tab), ("internal/strconv.uint64pow10", laid_internal_strconv_uint64pow10)], narrowed := true }
def JudgeRefusedUptoSaid : Prop := judgeRefusedUptoRow.holds Tryd.pinned (OpenSpec.upto judgeRefusedSpec)

/-- 'carrefourlaw21.JudgeKeys', WHERE WHAT IT READS IS OF BULK AT MOST 1048576: true; the input reads as it did. -/
def judgeKeysUptoRow : OpenClaim := { program := "ytiimkdijiddjcaadoor", sum := "f50a32df18b24d21dc22cce379d8feccf607c70a524019d9c97df33ecd871f52", func := "carrefour/carrefourlaw21.JudgeKeys", spec := "judgeKeys", named := ["internal/strconv.uint64pow10", "math/bits.deBruijn32tab", "math/bits.deBruijn64tab"], plainKeys := false, apart := false, laid := [("math/bits.deBruijn32tab", laid_math_bits_deBruijn32tab), ("math/bits.deBruijn64tab", laid_math_bits_deBruijn64tab), ("internal/strconv.uint64pow10", laid_internal_strconv_uint64pow10)], narrowed := true }
def JudgeKeysUptoSaid : Prop := judgeKeysUptoRow.holds Tryd.pinned (OpenSpec.upto judgeKeysSpec)

end Rows
end Go.Proofs.YtiimkdijiddjcaaDoor
