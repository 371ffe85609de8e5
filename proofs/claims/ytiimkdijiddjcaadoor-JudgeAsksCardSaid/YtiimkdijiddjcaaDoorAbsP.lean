/- The abstract machine's code of the functions that the claims reach, written by a program; 'c..' hold it against the model's own code. -/
import Derived.Test.YtiimkdijiddjcaaDoorAbsW
import Derived.Test.YtiimkdijiddjcaaDoorProg
namespace Go.Abs.Code
open Go Go.Abs Go.Proofs
set_option maxRecDepth 100000
def a3 : AFn := ⟨44, [.tmp 2],
 .seq (.reg [⟨(some 2), none, .mov (.c (.bool false)), 0, false⟩])
 (.seq (.seq (.reg [⟨(some 5), none, .mov (.t 0), 0, false⟩,
   ⟨(some 6), none, .call 10 [(.t 5)], 0, false⟩,
   ⟨(some 7), none, .un .not (.t 6), 0, false⟩])
 (.cond (.t 7) (.seq (.reg [⟨(some 8), none, .call 11 [], 0, false⟩,
    ⟨(some 2), none, .mov (.t 8), 0, false⟩])
  (.ret))
  (.skip)))
 (.seq (.reg [⟨(some 3), none, .mov (.c (.int .i64 0)), 0, false⟩])
 (.seq (.seq (.reg [⟨(some 4), none, .mov (.c (.int .i64 0)), 0, false⟩])
 (.block 0 (.loop (.seq (.seq (.reg [⟨(some 9), none, .mov (.t 4), 0, false⟩,
    ⟨(some 10), none, .mov (.t 0), 0, false⟩,
    ⟨(some 11), none, .lenSl (.t 10), 0, false⟩,
    ⟨(some 12), none, .bin .lss (.t 9) (.t 11), 0, false⟩])
  (.cond (.t 12) (.skip)
   (.exit 0)))
  (.seq (.block 1 (.seq (.reg [⟨(some 15), none, .mov (.t 0), 0, false⟩,
    ⟨(some 16), none, .mov (.t 4), 0, false⟩,
    ⟨(some 17), none, .idxS 14 (.t 15) (.t 16), 0, false⟩,
    ⟨(some 18), none, .fadd 0 (.t 17), 0, false⟩,
    ⟨(some 19), none, .ld1 (.t 18), 0, false⟩,
    ⟨(some 20), none, .bin .eql (.t 19) (.c (.int .i64 1)), 0, false⟩])
  (.cond (.t 20) (.reg [⟨(some 21), none, .mov (.t 3), 0, false⟩,
     ⟨(some 22), none, .bin .add (.t 21) (.c (.int .i64 1)), 0, false⟩,
     ⟨(some 3), none, .mov (.t 22), 0, false⟩])
   (.skip))))
  (.reg [⟨(some 13), none, .mov (.t 4), 0, false⟩,
    ⟨(some 14), none, .bin .add (.t 13) (.c (.int .i64 1)), 0, false⟩,
    ⟨(some 4), none, .mov (.t 14), 0, false⟩]))))))
 (.seq (.reg [⟨(some 23), none, .call 11 [], 0, false⟩,
   ⟨(some 24), none, .mov (.t 23), 0, false⟩,
   ⟨(some 25), (some (24, true)), .mov (.t 0), 0, false⟩,
   ⟨(some 26), (some (24, true)), .call 12 [(.t 25)], 0, false⟩,
   ⟨(some 27), (some (24, true)), .mov (.t 0), 0, false⟩,
   ⟨(some 28), (some (24, true)), .call 13 [(.t 27)], 0, false⟩,
   ⟨(some 29), (some (24, true)), .bin .eql (.t 26) (.t 28), 0, false⟩,
   ⟨(some 30), none, .pick (.t 24) (.t 29) (.c (.bool false)), 0, false⟩,
   ⟨(some 31), none, .mov (.t 30), 0, false⟩,
   ⟨(some 32), (some (31, true)), .mov (.t 0), 0, false⟩,
   ⟨(some 33), (some (31, true)), .call 15 [(.t 32)], 0, false⟩,
   ⟨(some 34), (some (31, true)), .mov (.t 0), 0, false⟩,
   ⟨(some 35), (some (31, true)), .call 16 [(.t 34)], 0, false⟩,
   ⟨(some 36), (some (31, true)), .call 14 [(.t 33), (.t 35)], 0, false⟩,
   ⟨(some 37), none, .pick (.t 31) (.t 36) (.c (.bool false)), 0, false⟩,
   ⟨(some 38), none, .mov (.t 37), 0, false⟩,
   ⟨(some 39), (some (38, true)), .mov (.t 0), 0, false⟩,
   ⟨(some 40), (some (38, true)), .call 17 [(.t 39)], 0, false⟩,
   ⟨(some 41), (some (38, true)), .mov (.t 3), 0, false⟩,
   ⟨(some 42), (some (38, true)), .bin .eql (.t 40) (.t 41), 0, false⟩,
   ⟨(some 43), none, .pick (.t 38) (.t 42) (.c (.bool false)), 0, false⟩,
   ⟨(some 2), none, .mov (.t 43), 0, false⟩])
 (.ret)))))⟩
theorem c3 : cFn Tryd.prog Tryd.f3 = some a3 := by kernel_rfl
def a4 : AFn := ⟨37, [.tmp 4],
 .seq (.reg [⟨(some 4), none, .mov (.c (.bool false)), 0, false⟩])
 (.seq (.seq (.reg [⟨(some 7), none, .mov (.t 0), 0, false⟩,
   ⟨(some 8), none, .lenSl (.t 7), 0, false⟩,
   ⟨(some 9), none, .bin .gtr (.t 8) (.c (.int .i64 80)), 0, false⟩])
 (.cond (.t 9) (.seq (.reg [⟨(some 10), none, .call 11 [], 0, false⟩,
    ⟨(some 4), none, .mov (.t 10), 0, false⟩])
  (.ret))
  (.skip)))
 (.seq (.reg [⟨(some 11), none, .mov (.t 0), 0, false⟩,
   ⟨(some 12), none, .mov (.t 1), 0, false⟩,
   ⟨(some 13), none, .call 18 [(.t 11), (.t 12)], 0, false⟩,
   ⟨(some 5), none, .mov (.t 13), 0, false⟩])
 (.seq (.reg [⟨(some 14), none, .mov (.t 5), 0, false⟩,
   ⟨(some 15), none, .call 12 [(.t 14)], 0, false⟩,
   ⟨(some 6), none, .mov (.t 15), 0, false⟩])
 (.seq (.reg [⟨(some 16), none, .call 11 [], 0, false⟩,
   ⟨(some 17), none, .mov (.t 16), 0, false⟩,
   ⟨(some 18), (some (17, true)), .mov (.t 6), 0, false⟩,
   ⟨(some 19), (some (17, true)), .mov (.t 5), 0, false⟩,
   ⟨(some 20), (some (17, true)), .call 13 [(.t 19)], 0, false⟩,
   ⟨(some 21), (some (17, true)), .bin .eql (.t 18) (.t 20), 0, false⟩,
   ⟨(some 22), none, .pick (.t 17) (.t 21) (.c (.bool false)), 0, false⟩,
   ⟨(some 23), none, .mov (.t 22), 0, false⟩,
   ⟨(some 24), (some (23, true)), .mov (.t 1), 0, false⟩,
   ⟨(some 25), (some (23, true)), .mov (.t 24), 0, false⟩,
   ⟨(some 26), (some (25, false)), .mov (.t 6), 0, false⟩,
   ⟨(some 27), (some (25, false)), .bin .eql (.t 26) (.c (.int .i64 0)), 0, false⟩,
   ⟨(some 28), (some (23, true)), .pick (.t 25) (.c (.bool true)) (.t 27), 0, false⟩,
   ⟨(some 29), none, .pick (.t 23) (.t 28) (.c (.bool false)), 0, false⟩,
   ⟨(some 30), none, .mov (.t 29), 0, false⟩,
   ⟨(some 31), (some (30, true)), .mov (.t 5), 0, false⟩,
   ⟨(some 32), (some (30, true)), .call 15 [(.t 31)], 0, false⟩,
   ⟨(some 33), (some (30, true)), .mov (.t 5), 0, false⟩,
   ⟨(some 34), (some (30, true)), .call 16 [(.t 33)], 0, false⟩,
   ⟨(some 35), (some (30, true)), .call 14 [(.t 32), (.t 34)], 0, false⟩,
   ⟨(some 36), none, .pick (.t 30) (.t 35) (.c (.bool false)), 0, false⟩,
   ⟨(some 4), none, .mov (.t 36), 0, false⟩])
 (.ret)))))⟩
theorem c4 : cFn Tryd.prog Tryd.f4 = some a4 := by kernel_rfl
def a5 : AFn := ⟨66, [.tmp 4],
 .seq (.reg [⟨(some 4), none, .mov (.c (.bool false)), 0, false⟩])
 (.seq (.seq (.reg [⟨(some 8), none, .mov (.t 0), 0, false⟩,
   ⟨(some 9), none, .lenSl (.t 8), 0, false⟩,
   ⟨(some 10), none, .bin .gtr (.t 9) (.c (.int .i64 60)), 0, false⟩])
 (.cond (.t 10) (.seq (.reg [⟨(some 11), none, .call 11 [], 0, false⟩,
    ⟨(some 4), none, .mov (.t 11), 0, false⟩])
  (.ret))
  (.skip)))
 (.seq (.reg [⟨(some 12), none, .mov (.t 0), 0, false⟩,
   ⟨(some 13), none, .call 18 [(.t 12), (.c (.bool false))], 0, false⟩,
   ⟨(some 5), none, .mov (.t 13), 0, false⟩])
 (.seq (.reg [⟨(some 14), none, .mov (.t 1), 0, false⟩,
   ⟨(some 15), none, .cvI .u64 (.t 14), 0, false⟩,
   ⟨(some 16), none, .mov (.t 5), 0, false⟩,
   ⟨(some 17), none, .lenSl (.t 16), 0, false⟩,
   ⟨(some 18), none, .bin .add (.t 17) (.c (.int .i64 1)), 0, false⟩,
   ⟨(some 19), none, .cvI .u64 (.t 18), 0, false⟩,
   ⟨(some 20), none, .bin .rem (.t 15) (.t 19), 0, false⟩,
   ⟨(some 21), none, .cvI .i64 (.t 20), 0, false⟩,
   ⟨(some 6), none, .mov (.t 21), 0, false⟩])
 (.seq (.seq (.reg [⟨(some 22), none, .mov (.t 5), 0, false⟩,
   ⟨(some 23), none, .call 12 [(.t 22)], 0, false⟩,
   ⟨(some 24), none, .bin .neq (.t 23) (.c (.int .i64 0)), 0, false⟩,
   ⟨(some 25), none, .mov (.t 24), 0, false⟩,
   ⟨(some 26), (some (25, false)), .mov (.t 5), 0, false⟩,
   ⟨(some 27), (some (25, false)), .mov (.t 6), 0, false⟩,
   ⟨(some 28), (some (25, false)), .slice 14 (.t 26) none (some (.t 27)) none, 0, false⟩,
   ⟨(some 29), (some (25, false)), .call 12 [(.t 28)], 0, false⟩,
   ⟨(some 30), (some (25, false)), .bin .neq (.t 29) (.c (.int .i64 0)), 0, false⟩,
   ⟨(some 31), none, .pick (.t 25) (.c (.bool true)) (.t 30), 0, false⟩])
 (.cond (.t 31) (.seq (.reg [⟨(some 4), none, .mov (.c (.bool false)), 0, false⟩])
  (.ret))
  (.skip)))
 (.seq (.seq (.reg [⟨(some 32), none, .mov (.t 6), 0, false⟩,
   ⟨(some 33), none, .mov (.t 5), 0, false⟩,
   ⟨(some 34), none, .lenSl (.t 33), 0, false⟩,
   ⟨(some 35), none, .bin .eql (.t 32) (.t 34), 0, false⟩])
 (.cond (.t 35) (.seq (.reg [⟨(some 36), none, .call 11 [], 0, false⟩,
    ⟨(some 4), none, .mov (.t 36), 0, false⟩])
  (.ret))
  (.skip)))
 (.seq (.reg [⟨(some 37), none, .buildSlice 14 0 [(.int .i64 0), (.int .i64 0), (.int .i64 0), (.int .i64 0), (.int .i64 0), (.int .i64 0), (.string ⟨#[]⟩), (.string ⟨#[]⟩), (.int .i64 0), (.int .i64 0), (.int .i64 0), (.string ⟨#[]⟩), (.string ⟨#[]⟩), (.bool false)] [], 0, false⟩,
   ⟨(some 38), none, .mov (.t 5), 0, false⟩,
   ⟨(some 39), none, .mov (.t 6), 0, false⟩,
   ⟨(some 40), none, .slice 14 (.t 38) none (some (.t 39)) none, 0, false⟩,
   ⟨(some 41), none, .append 14 144 (.t 37) (.t 40), 0, true⟩,
   ⟨(some 42), none, .mov (.t 5), 0, false⟩,
   ⟨(some 43), none, .mov (.t 6), 0, false⟩,
   ⟨(some 44), none, .bin .add (.t 43) (.c (.int .i64 1)), 0, false⟩,
   ⟨(some 45), none, .slice 14 (.t 42) (some (.t 44)) none none, 0, false⟩,
   ⟨(some 46), none, .append 14 144 (.t 41) (.t 45), 0, true⟩,
   ⟨(some 7), none, .mov (.t 46), 0, false⟩])
 (.seq (.reg [⟨(some 47), none, .call 11 [], 0, false⟩,
   ⟨(some 48), none, .mov (.t 47), 0, false⟩,
   ⟨(some 49), (some (48, true)), .mov (.t 7), 0, false⟩,
   ⟨(some 50), (some (48, true)), .call 12 [(.t 49)], 0, false⟩,
   ⟨(some 51), (some (48, true)), .mov (.t 7), 0, false⟩,
   ⟨(some 52), (some (48, true)), .call 13 [(.t 51)], 0, false⟩,
   ⟨(some 53), (some (48, true)), .bin .eql (.t 50) (.t 52), 0, false⟩,
   ⟨(some 54), none, .pick (.t 48) (.t 53) (.c (.bool false)), 0, false⟩,
   ⟨(some 55), none, .mov (.t 54), 0, false⟩,
   ⟨(some 56), (some (55, true)), .mov (.t 7), 0, false⟩,
   ⟨(some 57), (some (55, true)), .call 12 [(.t 56)], 0, false⟩,
   ⟨(some 58), (some (55, true)), .bin .eql (.t 57) (.c (.int .i64 0)), 0, false⟩,
   ⟨(some 59), (some (55, true)), .mov (.t 58), 0, false⟩,
   ⟨(some 60), (some (59, false)), .mov (.t 7), 0, false⟩,
   ⟨(some 61), (some (59, false)), .call 12 [(.t 60)], 0, false⟩,
   ⟨(some 62), (some (59, false)), .mov (.t 6), 0, false⟩,
   ⟨(some 63), (some (59, false)), .bin .gtr (.t 61) (.t 62), 0, false⟩,
   ⟨(some 64), (some (55, true)), .pick (.t 59) (.c (.bool true)) (.t 63), 0, false⟩,
   ⟨(some 65), none, .pick (.t 55) (.t 64) (.c (.bool false)), 0, false⟩,
   ⟨(some 4), none, .mov (.t 65), 0, false⟩])
 (.ret))))))))⟩
theorem c5 : cFn Tryd.prog Tryd.f5 = some a5 := by kernel_rfl
def a6 : AFn := ⟨73, [.tmp 8],
 .seq (.reg [⟨(some 8), none, .mov (.c (.bool false)), 0, false⟩])
 (.seq (.reg [⟨(some 16), none, .mov (.t 0), 0, false⟩,
   ⟨(some 17), none, .cvI .u64 (.t 16), 0, false⟩,
   ⟨(some 18), none, .bin .rem (.t 17) (.c (.int .u64 4)), 0, false⟩,
   ⟨(some 19), none, .cvI .i64 (.t 18), 0, false⟩,
   ⟨(some 20), none, .mov (.t 1), 0, false⟩,
   ⟨(some 21), none, .cvI .u64 (.t 20), 0, false⟩,
   ⟨(some 22), none, .bin .rem (.t 21) (.c (.int .u64 4)), 0, false⟩,
   ⟨(some 23), none, .cvI .i64 (.t 22), 0, false⟩,
   ⟨(some 9), none, .mov (.t 19), 0, false⟩,
   ⟨(some 10), none, .mov (.t 23), 0, false⟩])
 (.seq (.reg [⟨(some 24), none, .build [(.int .i64 0), (.int .i64 0), (.string ⟨#[]⟩), (.string ⟨#[]⟩), (.bool false)] [(1, 1, (.c (.int .i64 1))), (2, 1, (.c (.string ⟨#[107]⟩))), (3, 1, (.c (.string ⟨#[98]⟩)))], 0, false⟩,
   ⟨(some 11), none, .alloc [(.int .i64 0), (.int .i64 0), (.string ⟨#[]⟩), (.string ⟨#[]⟩), (.bool false)] 5, 0, false⟩,
   ⟨none, none, .st 5 (.t 11) (.t 24), 0, false⟩])
 (.seq (.reg [⟨(some 25), none, .build [(.int .i64 0), (.int .i64 0), (.int .i64 0), (.int .i64 0), (.int .i64 0), (.int .i64 0), (.string ⟨#[]⟩), (.string ⟨#[]⟩), (.int .i64 0), (.int .i64 0), (.int .i64 0), (.string ⟨#[]⟩), (.string ⟨#[]⟩), (.bool false)] [(0, 1, (.c (.int .i64 1))), (3, 1, (.c (.int .i64 1))), (6, 1, (.c (.string ⟨#[107]⟩))), (7, 1, (.c (.string ⟨#[98]⟩))), (8, 1, (.c (.int .i64 1)))], 0, false⟩,
   ⟨(some 26), none, .mov (.t 9), 0, false⟩,
   ⟨(some 27), none, .ldN 5 (.t 11), 0, false⟩,
   ⟨(some 28), none, .build [(.int .i64 0), (.int .i64 0), (.int .i64 0), (.int .i64 0), (.int .i64 0), (.int .i64 0), (.string ⟨#[]⟩), (.string ⟨#[]⟩), (.int .i64 0), (.int .i64 0), (.int .i64 0), (.string ⟨#[]⟩), (.string ⟨#[]⟩), (.bool false)] [(0, 1, (.c (.int .i64 4))), (1, 1, (.t 26)), (4, 1, (.c (.int .i64 1))), (9, 5, (.t 27))], 0, false⟩,
   ⟨(some 29), none, .buildSlice 14 2 [(.int .i64 0), (.int .i64 0), (.int .i64 0), (.int .i64 0), (.int .i64 0), (.int .i64 0), (.string ⟨#[]⟩), (.string ⟨#[]⟩), (.int .i64 0), (.int .i64 0), (.int .i64 0), (.string ⟨#[]⟩), (.string ⟨#[]⟩), (.bool false)] [(0, 14, (.t 25)), (14, 14, (.t 28))], 0, false⟩,
   ⟨(some 12), none, .mov (.t 29), 0, false⟩])
 (.seq (.seq (.reg [⟨(some 30), none, .mov (.t 2), 0, false⟩])
 (.cond (.t 30) (.reg [⟨(some 31), none, .mov (.t 12), 0, false⟩,
    ⟨(some 32), none, .mov (.t 9), 0, false⟩,
    ⟨(some 33), none, .build [(.int .i64 0), (.int .i64 0), (.int .i64 0), (.int .i64 0), (.int .i64 0), (.int .i64 0), (.string ⟨#[]⟩), (.string ⟨#[]⟩), (.int .i64 0), (.int .i64 0), (.int .i64 0), (.string ⟨#[]⟩), (.string ⟨#[]⟩), (.bool false)] [(0, 1, (.c (.int .i64 7))), (1, 1, (.t 32)), (4, 1, (.c (.int .i64 1)))], 0, false⟩,
    ⟨(some 34), none, .buildSlice 14 1 [(.int .i64 0), (.int .i64 0), (.int .i64 0), (.int .i64 0), (.int .i64 0), (.int .i64 0), (.string ⟨#[]⟩), (.string ⟨#[]⟩), (.int .i64 0), (.int .i64 0), (.int .i64 0), (.string ⟨#[]⟩), (.string ⟨#[]⟩), (.bool false)] [(0, 14, (.t 33))], 0, false⟩,
    ⟨(some 35), none, .append 14 144 (.t 31) (.t 34), 0, false⟩,
    ⟨(some 12), none, .mov (.t 35), 0, false⟩])
  (.skip)))
 (.seq (.reg [⟨(some 36), none, .mov (.t 3), 0, false⟩,
   ⟨(some 37), none, .fadd 4 (.t 11), 0, false⟩,
   ⟨none, none, .st 1 (.t 37) (.t 36), 0, false⟩])
 (.seq (.reg [⟨(some 38), none, .mov (.t 12), 0, false⟩,
   ⟨(some 39), none, .mov (.t 10), 0, false⟩,
   ⟨(some 40), none, .ldN 5 (.t 11), 0, false⟩,
   ⟨(some 41), none, .build [(.int .i64 0), (.int .i64 0), (.int .i64 0), (.int .i64 0), (.int .i64 0), (.int .i64 0), (.string ⟨#[]⟩), (.string ⟨#[]⟩), (.int .i64 0), (.int .i64 0), (.int .i64 0), (.string ⟨#[]⟩), (.string ⟨#[]⟩), (.bool false)] [(0, 1, (.c (.int .i64 4))), (1, 1, (.t 39)), (4, 1, (.c (.int .i64 2))), (9, 5, (.t 40))], 0, false⟩,
   ⟨(some 42), none, .buildSlice 14 1 [(.int .i64 0), (.int .i64 0), (.int .i64 0), (.int .i64 0), (.int .i64 0), (.int .i64 0), (.string ⟨#[]⟩), (.string ⟨#[]⟩), (.int .i64 0), (.int .i64 0), (.int .i64 0), (.string ⟨#[]⟩), (.string ⟨#[]⟩), (.bool false)] [(0, 14, (.t 41))], 0, false⟩,
   ⟨(some 43), none, .append 14 144 (.t 38) (.t 42), 0, false⟩,
   ⟨(some 12), none, .mov (.t 43), 0, false⟩])
 (.seq (.reg [⟨(some 13), none, .mov (.c (.int .i64 0)), 0, false⟩])
 (.seq (.seq (.reg [⟨(some 44), none, .mov (.t 2), 0, false⟩,
   ⟨(some 45), none, .un .not (.t 44), 0, false⟩,
   ⟨(some 46), none, .mov (.t 45), 0, false⟩,
   ⟨(some 47), (some (46, false)), .mov (.t 3), 0, false⟩,
   ⟨(some 48), (some (46, false)), .un .not (.t 47), 0, false⟩,
   ⟨(some 49), none, .pick (.t 46) (.c (.bool true)) (.t 48), 0, false⟩])
 (.cond (.t 49) (.reg [⟨(some 50), none, .mov (.t 12), 0, false⟩,
    ⟨(some 51), none, .lenSl (.t 50), 0, false⟩,
    ⟨(some 13), none, .mov (.t 51), 0, false⟩])
  (.skip)))
 (.seq (.reg [⟨(some 52), none, .mov (.t 12), 0, false⟩,
   ⟨(some 53), none, .idxS 14 (.t 52) (.c (.int .i64 0)), 0, false⟩,
   ⟨(some 54), none, .ldN 14 (.t 53), 0, false⟩,
   ⟨(some 55), none, .mov (.t 9), 0, false⟩,
   ⟨(some 56), none, .ldN 5 (.t 11), 0, false⟩,
   ⟨(some 57), none, .build [(.int .i64 0), (.int .i64 0), (.int .i64 0), (.int .i64 0), (.int .i64 0), (.int .i64 0), (.string ⟨#[]⟩), (.string ⟨#[]⟩), (.int .i64 0), (.int .i64 0), (.int .i64 0), (.string ⟨#[]⟩), (.string ⟨#[]⟩), (.bool false)] [(0, 1, (.c (.int .i64 4))), (1, 1, (.t 55)), (4, 1, (.c (.int .i64 1))), (9, 5, (.t 56))], 0, false⟩,
   ⟨(some 58), none, .buildSlice 14 2 [(.int .i64 0), (.int .i64 0), (.int .i64 0), (.int .i64 0), (.int .i64 0), (.int .i64 0), (.string ⟨#[]⟩), (.string ⟨#[]⟩), (.int .i64 0), (.int .i64 0), (.int .i64 0), (.string ⟨#[]⟩), (.string ⟨#[]⟩), (.bool false)] [(0, 14, (.t 54)), (14, 14, (.t 57))], 0, false⟩,
   ⟨(some 14), none, .mov (.t 58), 0, false⟩])
 (.seq (.reg [⟨(some 15), none, .mov (.c (.int .i64 0)), 0, false⟩])
 (.seq (.seq (.reg [⟨(some 59), none, .mov (.t 3), 0, false⟩])
 (.cond (.t 59) (.reg [⟨(some 15), none, .mov (.c (.int .i64 2)), 0, false⟩])
  (.skip)))
 (.seq (.reg [⟨(some 60), none, .call 11 [], 0, false⟩,
   ⟨(some 61), none, .mov (.t 60), 0, false⟩,
   ⟨(some 62), (some (61, true)), .mov (.t 12), 0, false⟩,
   ⟨(some 63), (some (61, true)), .call 12 [(.t 62)], 0, false⟩,
   ⟨(some 64), (some (61, true)), .mov (.t 13), 0, false⟩,
   ⟨(some 65), (some (61, true)), .bin .eql (.t 63) (.t 64), 0, false⟩,
   ⟨(some 66), none, .pick (.t 61) (.t 65) (.c (.bool false)), 0, false⟩,
   ⟨(some 67), none, .mov (.t 66), 0, false⟩,
   ⟨(some 68), (some (67, true)), .mov (.t 14), 0, false⟩,
   ⟨(some 69), (some (67, true)), .call 12 [(.t 68)], 0, false⟩,
   ⟨(some 70), (some (67, true)), .mov (.t 15), 0, false⟩,
   ⟨(some 71), (some (67, true)), .bin .eql (.t 69) (.t 70), 0, false⟩,
   ⟨(some 72), none, .pick (.t 67) (.t 71) (.c (.bool false)), 0, false⟩,
   ⟨(some 8), none, .mov (.t 72), 0, false⟩])
 (.ret)))))))))))))⟩
theorem c6 : cFn Tryd.prog Tryd.f6 = some a6 := by kernel_rfl
def a7 : AFn := ⟨79, [.tmp 4],
 .seq (.reg [⟨(some 4), none, .mov (.c (.bool false)), 0, false⟩])
 (.seq (.reg [⟨(some 10), none, .mov (.t 0), 0, false⟩,
   ⟨(some 11), none, .cvI .u64 (.t 10), 0, false⟩,
   ⟨(some 12), none, .bin .rem (.t 11) (.c (.int .u64 8)), 0, false⟩,
   ⟨(some 13), none, .cvI .i64 (.t 12), 0, false⟩,
   ⟨(some 14), none, .bin .add (.c (.int .i64 1)) (.t 13), 0, false⟩,
   ⟨(some 5), none, .mov (.t 14), 0, false⟩])
 (.seq (.reg [⟨(some 15), none, .mov (.t 1), 0, false⟩,
   ⟨(some 16), none, .cvI .u64 (.t 15), 0, false⟩,
   ⟨(some 17), none, .mov (.t 5), 0, false⟩,
   ⟨(some 18), none, .cvI .u64 (.t 17), 0, false⟩,
   ⟨(some 19), none, .bin .rem (.t 16) (.t 18), 0, false⟩,
   ⟨(some 20), none, .cvI .i64 (.t 19), 0, false⟩,
   ⟨(some 21), none, .bin .add (.c (.int .i64 1)) (.t 20), 0, false⟩,
   ⟨(some 6), none, .mov (.t 21), 0, false⟩])
 (.seq (.reg [⟨(some 22), none, .mov (.t 5), 0, false⟩,
   ⟨(some 23), none, .call 19 [(.t 22)], 0, false⟩,
   ⟨(some 7), none, .mov (.t 23), 0, false⟩])
 (.seq (.reg [⟨(some 24), none, .buildSlice 14 0 [(.int .i64 0), (.int .i64 0), (.int .i64 0), (.int .i64 0), (.int .i64 0), (.int .i64 0), (.string ⟨#[]⟩), (.string ⟨#[]⟩), (.int .i64 0), (.int .i64 0), (.int .i64 0), (.string ⟨#[]⟩), (.string ⟨#[]⟩), (.bool false)] [], 0, false⟩,
   ⟨(some 25), none, .mov (.t 7), 0, false⟩,
   ⟨(some 26), none, .append 14 144 (.t 24) (.t 25), 0, false⟩,
   ⟨(some 27), none, .mov (.t 6), 0, false⟩,
   ⟨(some 28), none, .build [(.int .i64 0), (.int .i64 0), (.string ⟨#[]⟩), (.string ⟨#[]⟩), (.bool false)] [(1, 1, (.t 27)), (2, 1, (.c (.string ⟨#[107]⟩))), (3, 1, (.c (.string ⟨#[98]⟩)))], 0, false⟩,
   ⟨(some 29), none, .build [(.int .i64 0), (.int .i64 0), (.int .i64 0), (.int .i64 0), (.int .i64 0), (.int .i64 0), (.string ⟨#[]⟩), (.string ⟨#[]⟩), (.int .i64 0), (.int .i64 0), (.int .i64 0), (.string ⟨#[]⟩), (.string ⟨#[]⟩), (.bool false)] [(0, 1, (.c (.int .i64 4))), (4, 1, (.c (.int .i64 1))), (9, 5, (.t 28))], 0, false⟩,
   ⟨(some 30), none, .buildSlice 14 1 [(.int .i64 0), (.int .i64 0), (.int .i64 0), (.int .i64 0), (.int .i64 0), (.int .i64 0), (.string ⟨#[]⟩), (.string ⟨#[]⟩), (.int .i64 0), (.int .i64 0), (.int .i64 0), (.string ⟨#[]⟩), (.string ⟨#[]⟩), (.bool false)] [(0, 14, (.t 29))], 0, false⟩,
   ⟨(some 31), none, .append 14 144 (.t 26) (.t 30), 0, false⟩,
   ⟨(some 8), none, .mov (.t 31), 0, false⟩])
 (.seq (.seq (.reg [⟨(some 32), none, .mov (.t 8), 0, false⟩,
   ⟨(some 33), none, .call 12 [(.t 32)], 0, false⟩,
   ⟨(some 34), none, .bin .eql (.t 33) (.c (.int .i64 0)), 0, false⟩,
   ⟨(some 35), none, .mov (.t 6), 0, false⟩,
   ⟨(some 36), none, .bin .eql (.t 35) (.c (.int .i64 1)), 0, false⟩,
   ⟨(some 37), none, .eq true .bool (.t 34) (.t 36), 0, false⟩])
 (.cond (.t 37) (.seq (.reg [⟨(some 4), none, .mov (.c (.bool false)), 0, false⟩])
  (.ret))
  (.skip)))
 (.seq (.seq (.reg [⟨(some 9), none, .mov (.c (.int .i64 1)), 0, false⟩])
 (.block 0 (.loop (.seq (.seq (.reg [⟨(some 38), none, .mov (.t 9), 0, false⟩,
    ⟨(some 39), none, .mov (.t 5), 0, false⟩,
    ⟨(some 40), none, .bin .leq (.t 38) (.t 39), 0, false⟩])
  (.cond (.t 40) (.skip)
   (.exit 0)))
  (.seq (.block 1 (.reg [⟨(some 43), none, .mov (.t 7), 0, false⟩,
    ⟨(some 44), none, .mov (.t 9), 0, false⟩,
    ⟨(some 45), none, .mov (.t 9), 0, false⟩,
    ⟨(some 46), none, .build [(.int .i64 0), (.int .i64 0), (.string ⟨#[]⟩), (.string ⟨#[]⟩), (.bool false)] [(1, 1, (.t 45)), (2, 1, (.c (.string ⟨#[107]⟩))), (3, 1, (.c (.string ⟨#[98]⟩)))], 0, false⟩,
    ⟨(some 47), none, .build [(.int .i64 0), (.int .i64 0), (.int .i64 0), (.int .i64 0), (.int .i64 0), (.int .i64 0), (.string ⟨#[]⟩), (.string ⟨#[]⟩), (.int .i64 0), (.int .i64 0), (.int .i64 0), (.string ⟨#[]⟩), (.string ⟨#[]⟩), (.bool false)] [(0, 1, (.c (.int .i64 4))), (4, 1, (.t 44)), (9, 5, (.t 46))], 0, false⟩,
    ⟨(some 48), none, .mov (.t 9), 0, false⟩,
    ⟨(some 49), none, .build [(.int .i64 0), (.int .i64 0), (.int .i64 0), (.int .i64 0), (.int .i64 0), (.int .i64 0), (.string ⟨#[]⟩), (.string ⟨#[]⟩), (.int .i64 0), (.int .i64 0), (.int .i64 0), (.string ⟨#[]⟩), (.string ⟨#[]⟩), (.bool false)] [(0, 1, (.c (.int .i64 5))), (4, 1, (.t 48))], 0, false⟩,
    ⟨(some 50), none, .mov (.t 9), 0, false⟩,
    ⟨(some 51), none, .build [(.int .i64 0), (.int .i64 0), (.int .i64 0), (.int .i64 0), (.int .i64 0), (.int .i64 0), (.string ⟨#[]⟩), (.string ⟨#[]⟩), (.int .i64 0), (.int .i64 0), (.int .i64 0), (.string ⟨#[]⟩), (.string ⟨#[]⟩), (.bool false)] [(0, 1, (.c (.int .i64 6))), (4, 1, (.t 50))], 0, false⟩,
    ⟨(some 52), none, .buildSlice 14 3 [(.int .i64 0), (.int .i64 0), (.int .i64 0), (.int .i64 0), (.int .i64 0), (.int .i64 0), (.string ⟨#[]⟩), (.string ⟨#[]⟩), (.int .i64 0), (.int .i64 0), (.int .i64 0), (.string ⟨#[]⟩), (.string ⟨#[]⟩), (.bool false)] [(0, 14, (.t 47)), (14, 14, (.t 49)), (28, 14, (.t 51))], 0, false⟩,
    ⟨(some 53), none, .append 14 144 (.t 43) (.t 52), 0, false⟩,
    ⟨(some 7), none, .mov (.t 53), 0, false⟩]))
  (.reg [⟨(some 41), none, .mov (.t 9), 0, false⟩,
    ⟨(some 42), none, .bin .add (.t 41) (.c (.int .i64 1)), 0, false⟩,
    ⟨(some 9), none, .mov (.t 42), 0, false⟩]))))))
 (.seq (.seq (.reg [⟨(some 54), none, .mov (.t 7), 0, false⟩,
   ⟨(some 55), none, .call 12 [(.t 54)], 0, false⟩,
   ⟨(some 56), none, .bin .neq (.t 55) (.c (.int .i64 0)), 0, false⟩,
   ⟨(some 57), none, .mov (.t 56), 0, false⟩,
   ⟨(some 58), (some (57, false)), .mov (.t 7), 0, false⟩,
   ⟨(some 59), (some (57, false)), .call 15 [(.t 58)], 0, false⟩,
   ⟨(some 60), (some (57, false)), .lenSl (.t 59), 0, false⟩,
   ⟨(some 61), (some (57, false)), .bin .neq (.t 60) (.c (.int .i64 0)), 0, false⟩,
   ⟨(some 62), none, .pick (.t 57) (.c (.bool true)) (.t 61), 0, false⟩])
 (.cond (.t 62) (.seq (.reg [⟨(some 4), none, .mov (.c (.bool false)), 0, false⟩])
  (.ret))
  (.skip)))
 (.seq (.reg [⟨(some 63), none, .mov (.t 7), 0, false⟩,
   ⟨(some 64), none, .mov (.t 5), 0, false⟩,
   ⟨(some 65), none, .bin .add (.t 64) (.c (.int .i64 1)), 0, false⟩,
   ⟨(some 66), none, .mov (.t 6), 0, false⟩,
   ⟨(some 67), none, .build [(.int .i64 0), (.int .i64 0), (.string ⟨#[]⟩), (.string ⟨#[]⟩), (.bool false)] [(1, 1, (.t 66)), (2, 1, (.c (.string ⟨#[107]⟩))), (3, 1, (.c (.string ⟨#[98]⟩))), (4, 1, (.c (.bool true)))], 0, false⟩,
   ⟨(some 68), none, .build [(.int .i64 0), (.int .i64 0), (.int .i64 0), (.int .i64 0), (.int .i64 0), (.int .i64 0), (.string ⟨#[]⟩), (.string ⟨#[]⟩), (.int .i64 0), (.int .i64 0), (.int .i64 0), (.string ⟨#[]⟩), (.string ⟨#[]⟩), (.bool false)] [(0, 1, (.c (.int .i64 4))), (4, 1, (.t 65)), (9, 5, (.t 67))], 0, false⟩,
   ⟨(some 69), none, .buildSlice 14 1 [(.int .i64 0), (.int .i64 0), (.int .i64 0), (.int .i64 0), (.int .i64 0), (.int .i64 0), (.string ⟨#[]⟩), (.string ⟨#[]⟩), (.int .i64 0), (.int .i64 0), (.int .i64 0), (.string ⟨#[]⟩), (.string ⟨#[]⟩), (.bool false)] [(0, 14, (.t 68))], 0, false⟩,
   ⟨(some 70), none, .append 14 144 (.t 63) (.t 69), 0, false⟩,
   ⟨(some 7), none, .mov (.t 70), 0, false⟩])
 (.seq (.reg [⟨(some 71), none, .call 11 [], 0, false⟩,
   ⟨(some 72), none, .mov (.t 71), 0, false⟩,
   ⟨(some 73), (some (72, true)), .mov (.t 7), 0, false⟩,
   ⟨(some 74), (some (72, true)), .call 12 [(.t 73)], 0, false⟩,
   ⟨(some 75), (some (72, true)), .mov (.t 7), 0, false⟩,
   ⟨(some 76), (some (72, true)), .lenSl (.t 75), 0, false⟩,
   ⟨(some 77), (some (72, true)), .bin .eql (.t 74) (.t 76), 0, false⟩,
   ⟨(some 78), none, .pick (.t 72) (.t 77) (.c (.bool false)), 0, false⟩,
   ⟨(some 4), none, .mov (.t 78), 0, false⟩])
 (.ret))))))))))⟩
theorem c7 : cFn Tryd.prog Tryd.f7 = some a7 := by kernel_rfl
def a8 : AFn := ⟨75, [.tmp 4],
 .seq (.reg [⟨(some 4), none, .mov (.c (.bool false)), 0, false⟩])
 (.seq (.reg [⟨(some 11), none, .mov (.t 0), 0, false⟩,
   ⟨(some 12), none, .cvI .u64 (.t 11), 0, false⟩,
   ⟨(some 13), none, .bin .rem (.t 12) (.c (.int .u64 5)), 0, false⟩,
   ⟨(some 14), none, .cvI .i64 (.t 13), 0, false⟩,
   ⟨(some 15), none, .bin .add (.c (.int .i64 2)) (.t 14), 0, false⟩,
   ⟨(some 5), none, .mov (.t 15), 0, false⟩])
 (.seq (.reg [⟨(some 16), none, .mov (.t 1), 0, false⟩,
   ⟨(some 17), none, .cvI .u64 (.t 16), 0, false⟩,
   ⟨(some 18), none, .mov (.t 5), 0, false⟩,
   ⟨(some 19), none, .cvI .u64 (.t 18), 0, false⟩,
   ⟨(some 20), none, .bin .rem (.t 17) (.t 19), 0, false⟩,
   ⟨(some 21), none, .cvI .i64 (.t 20), 0, false⟩,
   ⟨(some 22), none, .bin .add (.c (.int .i64 1)) (.t 21), 0, false⟩,
   ⟨(some 6), none, .mov (.t 22), 0, false⟩])
 (.seq (.reg [⟨(some 23), none, .mov (.t 5), 0, false⟩,
   ⟨(some 24), none, .call 19 [(.t 23)], 0, false⟩,
   ⟨(some 7), none, .mov (.t 24), 0, false⟩])
 (.seq (.reg [⟨(some 25), none, .mov (.t 7), 0, false⟩,
   ⟨(some 26), none, .mov (.t 6), 0, false⟩,
   ⟨(some 27), none, .bin .mul (.c (.int .i64 2)) (.t 26), 0, false⟩,
   ⟨(some 28), none, .bin .sub (.t 27) (.c (.int .i64 1)), 0, false⟩,
   ⟨(some 29), none, .idxS 14 (.t 25) (.t 28), 0, false⟩,
   ⟨(some 30), none, .fadd 0 (.t 29), 0, false⟩,
   ⟨none, none, .st 1 (.t 30) (.c (.int .i64 3)), 0, false⟩])
 (.seq (.reg [⟨(some 31), none, .buildSlice 14 0 [(.int .i64 0), (.int .i64 0), (.int .i64 0), (.int .i64 0), (.int .i64 0), (.int .i64 0), (.string ⟨#[]⟩), (.string ⟨#[]⟩), (.int .i64 0), (.int .i64 0), (.int .i64 0), (.string ⟨#[]⟩), (.string ⟨#[]⟩), (.bool false)] [], 0, false⟩,
   ⟨(some 32), none, .mov (.t 7), 0, false⟩,
   ⟨(some 33), none, .append 14 144 (.t 31) (.t 32), 0, false⟩,
   ⟨(some 34), none, .mov (.t 6), 0, false⟩,
   ⟨(some 35), none, .build [(.int .i64 0), (.int .i64 0), (.string ⟨#[]⟩), (.string ⟨#[]⟩), (.bool false)] [(1, 1, (.t 34)), (2, 1, (.c (.string ⟨#[107]⟩))), (3, 1, (.c (.string ⟨#[98]⟩)))], 0, false⟩,
   ⟨(some 36), none, .build [(.int .i64 0), (.int .i64 0), (.int .i64 0), (.int .i64 0), (.int .i64 0), (.int .i64 0), (.string ⟨#[]⟩), (.string ⟨#[]⟩), (.int .i64 0), (.int .i64 0), (.int .i64 0), (.string ⟨#[]⟩), (.string ⟨#[]⟩), (.bool false)] [(0, 1, (.c (.int .i64 4))), (4, 1, (.c (.int .i64 1))), (9, 5, (.t 35))], 0, false⟩,
   ⟨(some 37), none, .buildSlice 14 1 [(.int .i64 0), (.int .i64 0), (.int .i64 0), (.int .i64 0), (.int .i64 0), (.int .i64 0), (.string ⟨#[]⟩), (.string ⟨#[]⟩), (.int .i64 0), (.int .i64 0), (.int .i64 0), (.string ⟨#[]⟩), (.string ⟨#[]⟩), (.bool false)] [(0, 14, (.t 36))], 0, false⟩,
   ⟨(some 38), none, .append 14 144 (.t 33) (.t 37), 0, false⟩,
   ⟨(some 8), none, .mov (.t 38), 0, false⟩])
 (.seq (.seq (.reg [⟨(some 39), none, .mov (.t 8), 0, false⟩,
   ⟨(some 40), none, .call 12 [(.t 39)], 0, false⟩,
   ⟨(some 41), none, .mov (.t 8), 0, false⟩,
   ⟨(some 42), none, .lenSl (.t 41), 0, false⟩,
   ⟨(some 43), none, .bin .neq (.t 40) (.t 42), 0, false⟩])
 (.cond (.t 43) (.seq (.reg [⟨(some 4), none, .mov (.c (.bool false)), 0, false⟩])
  (.ret))
  (.skip)))
 (.seq (.reg [⟨(some 9), none, .mov (.c (.int .i64 0)), 0, false⟩])
 (.seq (.seq (.reg [⟨(some 10), none, .mov (.c (.int .i64 1)), 0, false⟩])
 (.block 0 (.loop (.seq (.seq (.reg [⟨(some 44), none, .mov (.t 10), 0, false⟩,
    ⟨(some 45), none, .mov (.t 5), 0, false⟩,
    ⟨(some 46), none, .bin .leq (.t 44) (.t 45), 0, false⟩])
  (.cond (.t 46) (.skip)
   (.exit 0)))
  (.seq (.block 1 (.seq (.seq (.reg [⟨(some 49), none, .mov (.t 10), 0, false⟩,
    ⟨(some 50), none, .mov (.t 6), 0, false⟩,
    ⟨(some 51), none, .bin .eql (.t 49) (.t 50), 0, false⟩])
  (.cond (.t 51) (.exit 1)
   (.skip)))
  (.seq (.reg [⟨(some 52), none, .mov (.t 9), 0, false⟩,
    ⟨(some 53), none, .bin .add (.t 52) (.c (.int .i64 1)), 0, false⟩,
    ⟨(some 9), none, .mov (.t 53), 0, false⟩])
  (.reg [⟨(some 54), none, .mov (.t 7), 0, false⟩,
    ⟨(some 55), none, .mov (.t 9), 0, false⟩,
    ⟨(some 56), none, .mov (.t 10), 0, false⟩,
    ⟨(some 57), none, .build [(.int .i64 0), (.int .i64 0), (.string ⟨#[]⟩), (.string ⟨#[]⟩), (.bool false)] [(1, 1, (.t 56)), (2, 1, (.c (.string ⟨#[107]⟩))), (3, 1, (.c (.string ⟨#[98]⟩)))], 0, false⟩,
    ⟨(some 58), none, .build [(.int .i64 0), (.int .i64 0), (.int .i64 0), (.int .i64 0), (.int .i64 0), (.int .i64 0), (.string ⟨#[]⟩), (.string ⟨#[]⟩), (.int .i64 0), (.int .i64 0), (.int .i64 0), (.string ⟨#[]⟩), (.string ⟨#[]⟩), (.bool false)] [(0, 1, (.c (.int .i64 4))), (4, 1, (.t 55)), (9, 5, (.t 57))], 0, false⟩,
    ⟨(some 59), none, .mov (.t 9), 0, false⟩,
    ⟨(some 60), none, .build [(.int .i64 0), (.int .i64 0), (.int .i64 0), (.int .i64 0), (.int .i64 0), (.int .i64 0), (.string ⟨#[]⟩), (.string ⟨#[]⟩), (.int .i64 0), (.int .i64 0), (.int .i64 0), (.string ⟨#[]⟩), (.string ⟨#[]⟩), (.bool false)] [(0, 1, (.c (.int .i64 5))), (4, 1, (.t 59))], 0, false⟩,
    ⟨(some 61), none, .buildSlice 14 2 [(.int .i64 0), (.int .i64 0), (.int .i64 0), (.int .i64 0), (.int .i64 0), (.int .i64 0), (.string ⟨#[]⟩), (.string ⟨#[]⟩), (.int .i64 0), (.int .i64 0), (.int .i64 0), (.string ⟨#[]⟩), (.string ⟨#[]⟩), (.bool false)] [(0, 14, (.t 58)), (14, 14, (.t 60))], 0, false⟩,
    ⟨(some 62), none, .append 14 144 (.t 54) (.t 61), 0, false⟩,
    ⟨(some 7), none, .mov (.t 62), 0, false⟩]))))
  (.reg [⟨(some 47), none, .mov (.t 10), 0, false⟩,
    ⟨(some 48), none, .bin .add (.t 47) (.c (.int .i64 1)), 0, false⟩,
    ⟨(some 10), none, .mov (.t 48), 0, false⟩]))))))
 (.seq (.reg [⟨(some 63), none, .call 11 [], 0, false⟩,
   ⟨(some 64), none, .mov (.t 63), 0, false⟩,
   ⟨(some 65), (some (64, true)), .mov (.t 7), 0, false⟩,
   ⟨(some 66), (some (64, true)), .call 12 [(.t 65)], 0, false⟩,
   ⟨(some 67), (some (64, true)), .bin .eql (.t 66) (.c (.int .i64 0)), 0, false⟩,
   ⟨(some 68), none, .pick (.t 64) (.t 67) (.c (.bool false)), 0, false⟩,
   ⟨(some 69), none, .mov (.t 68), 0, false⟩,
   ⟨(some 70), (some (69, true)), .mov (.t 7), 0, false⟩,
   ⟨(some 71), (some (69, true)), .call 17 [(.t 70)], 0, false⟩,
   ⟨(some 72), (some (69, true)), .mov (.t 5), 0, false⟩,
   ⟨(some 73), (some (69, true)), .bin .eql (.t 71) (.t 72), 0, false⟩,
   ⟨(some 74), none, .pick (.t 69) (.t 73) (.c (.bool false)), 0, false⟩,
   ⟨(some 4), none, .mov (.t 74), 0, false⟩])
 (.ret))))))))))⟩
theorem c8 : cFn Tryd.prog Tryd.f8 = some a8 := by kernel_rfl
def a9 : AFn := ⟨33, [.tmp 4],
 .seq (.reg [⟨(some 4), none, .mov (.c (.bool false)), 0, false⟩])
 (.seq (.reg [⟨(some 5), none, .mov (.c (.string ⟨#[108]⟩)), 0, false⟩,
   ⟨(some 6), none, .mov (.c (.int .i64 1)), 0, false⟩])
 (.seq (.seq (.reg [⟨(some 9), none, .mov (.t 0), 0, false⟩])
 (.cond (.t 9) (.reg [⟨(some 5), none, .mov (.c (.string ⟨#[107]⟩)), 0, false⟩])
  (.skip)))
 (.seq (.seq (.reg [⟨(some 10), none, .mov (.t 1), 0, false⟩])
 (.cond (.t 10) (.reg [⟨(some 6), none, .mov (.c (.int .i64 0)), 0, false⟩])
  (.skip)))
 (.seq (.reg [⟨(some 11), none, .build [(.int .i64 0), (.int .i64 0), (.int .i64 0), (.int .i64 0), (.int .i64 0), (.int .i64 0), (.string ⟨#[]⟩), (.string ⟨#[]⟩), (.int .i64 0), (.int .i64 0), (.int .i64 0), (.string ⟨#[]⟩), (.string ⟨#[]⟩), (.bool false)] [(0, 1, (.c (.int .i64 1))), (3, 1, (.c (.int .i64 1))), (6, 1, (.c (.string ⟨#[107]⟩))), (7, 1, (.c (.string ⟨#[98]⟩))), (8, 1, (.c (.int .i64 1)))], 0, false⟩,
   ⟨(some 12), none, .mov (.t 6), 0, false⟩,
   ⟨(some 13), none, .mov (.t 5), 0, false⟩,
   ⟨(some 14), none, .build [(.int .i64 0), (.int .i64 0), (.int .i64 0), (.int .i64 0), (.int .i64 0), (.int .i64 0), (.string ⟨#[]⟩), (.string ⟨#[]⟩), (.int .i64 0), (.int .i64 0), (.int .i64 0), (.string ⟨#[]⟩), (.string ⟨#[]⟩), (.bool false)] [(0, 1, (.c (.int .i64 1))), (1, 1, (.c (.int .i64 1))), (2, 1, (.t 12)), (3, 1, (.c (.int .i64 1))), (6, 1, (.t 13)), (7, 1, (.c (.string ⟨#[98]⟩))), (8, 1, (.c (.int .i64 1)))], 0, false⟩,
   ⟨(some 15), none, .build [(.int .i64 0), (.int .i64 0), (.string ⟨#[]⟩), (.string ⟨#[]⟩), (.bool false)] [(1, 1, (.c (.int .i64 1))), (2, 1, (.c (.string ⟨#[107]⟩))), (3, 1, (.c (.string ⟨#[98]⟩)))], 0, false⟩,
   ⟨(some 16), none, .build [(.int .i64 0), (.int .i64 0), (.int .i64 0), (.int .i64 0), (.int .i64 0), (.int .i64 0), (.string ⟨#[]⟩), (.string ⟨#[]⟩), (.int .i64 0), (.int .i64 0), (.int .i64 0), (.string ⟨#[]⟩), (.string ⟨#[]⟩), (.bool false)] [(0, 1, (.c (.int .i64 4))), (4, 1, (.c (.int .i64 1))), (9, 5, (.t 15))], 0, false⟩,
   ⟨(some 17), none, .mov (.t 6), 0, false⟩,
   ⟨(some 18), none, .mov (.t 5), 0, false⟩,
   ⟨(some 19), none, .build [(.int .i64 0), (.int .i64 0), (.string ⟨#[]⟩), (.string ⟨#[]⟩), (.bool false)] [(0, 1, (.c (.int .i64 1))), (1, 1, (.c (.int .i64 1))), (2, 1, (.t 18)), (3, 1, (.c (.string ⟨#[98]⟩)))], 0, false⟩,
   ⟨(some 20), none, .build [(.int .i64 0), (.int .i64 0), (.int .i64 0), (.int .i64 0), (.int .i64 0), (.int .i64 0), (.string ⟨#[]⟩), (.string ⟨#[]⟩), (.int .i64 0), (.int .i64 0), (.int .i64 0), (.string ⟨#[]⟩), (.string ⟨#[]⟩), (.bool false)] [(0, 1, (.c (.int .i64 4))), (1, 1, (.c (.int .i64 2))), (2, 1, (.t 17)), (4, 1, (.c (.int .i64 1))), (9, 5, (.t 19))], 0, false⟩,
   ⟨(some 21), none, .buildSlice 14 4 [(.int .i64 0), (.int .i64 0), (.int .i64 0), (.int .i64 0), (.int .i64 0), (.int .i64 0), (.string ⟨#[]⟩), (.string ⟨#[]⟩), (.int .i64 0), (.int .i64 0), (.int .i64 0), (.string ⟨#[]⟩), (.string ⟨#[]⟩), (.bool false)] [(0, 14, (.t 11)), (14, 14, (.t 14)), (28, 14, (.t 16)), (42, 14, (.t 20))], 0, false⟩,
   ⟨(some 7), none, .mov (.t 21), 0, false⟩])
 (.seq (.reg [⟨(some 8), none, .mov (.c (.int .i64 0)), 0, false⟩])
 (.seq (.seq (.reg [⟨(some 22), none, .mov (.t 0), 0, false⟩,
   ⟨(some 23), none, .mov (.t 22), 0, false⟩,
   ⟨(some 24), (some (23, true)), .mov (.t 1), 0, false⟩,
   ⟨(some 25), none, .pick (.t 23) (.t 24) (.c (.bool false)), 0, false⟩])
 (.cond (.t 25) (.reg [⟨(some 8), none, .mov (.c (.int .i64 4)), 0, false⟩])
  (.skip)))
 (.seq (.reg [⟨(some 26), none, .call 11 [], 0, false⟩,
   ⟨(some 27), none, .mov (.t 26), 0, false⟩,
   ⟨(some 28), (some (27, true)), .mov (.t 7), 0, false⟩,
   ⟨(some 29), (some (27, true)), .call 12 [(.t 28)], 0, false⟩,
   ⟨(some 30), (some (27, true)), .mov (.t 8), 0, false⟩,
   ⟨(some 31), (some (27, true)), .bin .eql (.t 29) (.t 30), 0, false⟩,
   ⟨(some 32), none, .pick (.t 27) (.t 31) (.c (.bool false)), 0, false⟩,
   ⟨(some 4), none, .mov (.t 32), 0, false⟩])
 (.ret))))))))⟩
theorem c9 : cFn Tryd.prog Tryd.f9 = some a9 := by kernel_rfl
def a10 : AFn := ⟨49, [.tmp 2],
 .seq (.reg [⟨(some 2), none, .mov (.c (.bool false)), 0, false⟩])
 (.seq (.seq (.reg [⟨(some 3), none, .mov (.c (.int .i64 0)), 0, false⟩])
 (.block 0 (.loop (.seq (.seq (.reg [⟨(some 4), none, .mov (.t 3), 0, false⟩,
    ⟨(some 5), none, .mov (.t 0), 0, false⟩,
    ⟨(some 6), none, .lenSl (.t 5), 0, false⟩,
    ⟨(some 7), none, .bin .lss (.t 4) (.t 6), 0, false⟩])
  (.cond (.t 7) (.skip)
   (.exit 0)))
  (.seq (.block 1 (.seq (.reg [⟨(some 10), none, .mov (.t 0), 0, false⟩,
    ⟨(some 11), none, .mov (.t 3), 0, false⟩,
    ⟨(some 12), none, .idxS 14 (.t 10) (.t 11), 0, false⟩,
    ⟨(some 13), none, .fadd 6 (.t 12), 0, false⟩,
    ⟨(some 14), none, .ld1 (.t 13), 0, false⟩,
    ⟨(some 15), none, .lenS (.t 14), 0, false⟩,
    ⟨(some 16), none, .bin .gtr (.t 15) (.c (.int .i64 100)), 0, false⟩,
    ⟨(some 17), none, .mov (.t 16), 0, false⟩,
    ⟨(some 18), (some (17, false)), .mov (.t 0), 0, false⟩,
    ⟨(some 19), (some (17, false)), .mov (.t 3), 0, false⟩,
    ⟨(some 20), (some (17, false)), .idxS 14 (.t 18) (.t 19), 0, false⟩,
    ⟨(some 21), (some (17, false)), .fadd 7 (.t 20), 0, false⟩,
    ⟨(some 22), (some (17, false)), .ld1 (.t 21), 0, false⟩,
    ⟨(some 23), (some (17, false)), .lenS (.t 22), 0, false⟩,
    ⟨(some 24), (some (17, false)), .bin .gtr (.t 23) (.c (.int .i64 300)), 0, false⟩,
    ⟨(some 25), none, .pick (.t 17) (.c (.bool true)) (.t 24), 0, false⟩,
    ⟨(some 26), none, .mov (.t 25), 0, false⟩,
    ⟨(some 27), (some (26, false)), .mov (.t 0), 0, false⟩,
    ⟨(some 28), (some (26, false)), .mov (.t 3), 0, false⟩,
    ⟨(some 29), (some (26, false)), .idxS 14 (.t 27) (.t 28), 0, false⟩,
    ⟨(some 30), (some (26, false)), .fadd 9 (.t 29), 0, false⟩,
    ⟨(some 31), (some (26, false)), .fadd 2 (.t 30), 0, false⟩,
    ⟨(some 32), (some (26, false)), .ld1 (.t 31), 0, false⟩,
    ⟨(some 33), (some (26, false)), .lenS (.t 32), 0, false⟩,
    ⟨(some 34), (some (26, false)), .bin .gtr (.t 33) (.c (.int .i64 100)), 0, false⟩,
    ⟨(some 35), none, .pick (.t 26) (.c (.bool true)) (.t 34), 0, false⟩,
    ⟨(some 36), none, .mov (.t 35), 0, false⟩,
    ⟨(some 37), (some (36, false)), .mov (.t 0), 0, false⟩,
    ⟨(some 38), (some (36, false)), .mov (.t 3), 0, false⟩,
    ⟨(some 39), (some (36, false)), .idxS 14 (.t 37) (.t 38), 0, false⟩,
    ⟨(some 40), (some (36, false)), .fadd 9 (.t 39), 0, false⟩,
    ⟨(some 41), (some (36, false)), .fadd 3 (.t 40), 0, false⟩,
    ⟨(some 42), (some (36, false)), .ld1 (.t 41), 0, false⟩,
    ⟨(some 43), (some (36, false)), .lenS (.t 42), 0, false⟩,
    ⟨(some 44), (some (36, false)), .bin .gtr (.t 43) (.c (.int .i64 300)), 0, false⟩,
    ⟨(some 45), none, .pick (.t 36) (.c (.bool true)) (.t 44), 0, false⟩])
  (.cond (.t 45) (.seq (.reg [⟨(some 2), none, .mov (.c (.bool false)), 0, false⟩])
   (.ret))
   (.skip))))
  (.reg [⟨(some 8), none, .mov (.t 3), 0, false⟩,
    ⟨(some 9), none, .bin .add (.t 8) (.c (.int .i64 1)), 0, false⟩,
    ⟨(some 3), none, .mov (.t 9), 0, false⟩]))))))
 (.seq (.reg [⟨(some 46), none, .mov (.t 0), 0, false⟩,
   ⟨(some 47), none, .lenSl (.t 46), 0, false⟩,
   ⟨(some 48), none, .bin .leq (.t 47) (.c (.int .i64 80)), 0, false⟩,
   ⟨(some 2), none, .mov (.t 48), 0, false⟩])
 (.ret)))⟩
theorem c10 : cFn Tryd.prog Tryd.f10 = some a10 := by kernel_rfl
def a11 : AFn := ⟨72, [.tmp 0],
 .seq (.reg [⟨(some 0), none, .mov (.c (.bool false)), 0, false⟩])
 (.seq (.reg [⟨(some 7), none, .build [(.int .i64 0), (.int .i64 0), (.int .i64 0), (.int .i64 0), (.int .i64 0), (.int .i64 0), (.string ⟨#[]⟩), (.string ⟨#[]⟩), (.int .i64 0), (.int .i64 0), (.int .i64 0), (.string ⟨#[]⟩), (.string ⟨#[]⟩), (.bool false)] [(0, 1, (.c (.int .i64 1))), (1, 1, (.c (.int .i64 1))), (3, 1, (.c (.int .i64 1))), (6, 1, (.c (.string ⟨#[107]⟩))), (7, 1, (.c (.string ⟨#[98]⟩))), (8, 1, (.c (.int .i64 1)))], 0, false⟩,
   ⟨(some 1), none, .alloc [(.int .i64 0), (.int .i64 0), (.int .i64 0), (.int .i64 0), (.int .i64 0), (.int .i64 0), (.string ⟨#[]⟩), (.string ⟨#[]⟩), (.int .i64 0), (.int .i64 0), (.int .i64 0), (.string ⟨#[]⟩), (.string ⟨#[]⟩), (.bool false)] 14, 0, false⟩,
   ⟨none, none, .st 14 (.t 1) (.t 7), 0, false⟩])
 (.seq (.reg [⟨(some 8), none, .build [(.int .i64 0), (.int .i64 0), (.int .i64 0), (.int .i64 0), (.int .i64 0), (.int .i64 0), (.string ⟨#[]⟩), (.string ⟨#[]⟩), (.int .i64 0), (.int .i64 0), (.int .i64 0), (.string ⟨#[]⟩), (.string ⟨#[]⟩), (.bool false)] [(0, 1, (.c (.int .i64 2))), (1, 1, (.c (.int .i64 1))), (3, 1, (.c (.int .i64 1))), (6, 1, (.c (.string ⟨#[107]⟩)))], 0, false⟩,
   ⟨(some 2), none, .alloc [(.int .i64 0), (.int .i64 0), (.int .i64 0), (.int .i64 0), (.int .i64 0), (.int .i64 0), (.string ⟨#[]⟩), (.string ⟨#[]⟩), (.int .i64 0), (.int .i64 0), (.int .i64 0), (.string ⟨#[]⟩), (.string ⟨#[]⟩), (.bool false)] 14, 0, false⟩,
   ⟨none, none, .st 14 (.t 2) (.t 8), 0, false⟩])
 (.seq (.reg [⟨(some 9), none, .build [(.int .i64 0), (.int .i64 0), (.string ⟨#[]⟩), (.string ⟨#[]⟩), (.bool false)] [(0, 1, (.c (.int .i64 1))), (1, 1, (.c (.int .i64 1))), (2, 1, (.c (.string ⟨#[107]⟩))), (3, 1, (.c (.string ⟨#[98]⟩)))], 0, false⟩,
   ⟨(some 10), none, .build [(.int .i64 0), (.int .i64 0), (.int .i64 0), (.int .i64 0), (.int .i64 0), (.int .i64 0), (.string ⟨#[]⟩), (.string ⟨#[]⟩), (.int .i64 0), (.int .i64 0), (.int .i64 0), (.string ⟨#[]⟩), (.string ⟨#[]⟩), (.bool false)] [(0, 1, (.c (.int .i64 4))), (4, 1, (.c (.int .i64 4))), (9, 5, (.t 9))], 0, false⟩,
   ⟨(some 3), none, .alloc [(.int .i64 0), (.int .i64 0), (.int .i64 0), (.int .i64 0), (.int .i64 0), (.int .i64 0), (.string ⟨#[]⟩), (.string ⟨#[]⟩), (.int .i64 0), (.int .i64 0), (.int .i64 0), (.string ⟨#[]⟩), (.string ⟨#[]⟩), (.bool false)] 14, 0, false⟩,
   ⟨none, none, .st 14 (.t 3) (.t 10), 0, false⟩])
 (.seq (.reg [⟨(some 11), none, .build [(.int .i64 0), (.int .i64 0), (.int .i64 0), (.int .i64 0), (.int .i64 0), (.int .i64 0), (.string ⟨#[]⟩), (.string ⟨#[]⟩), (.int .i64 0), (.int .i64 0), (.int .i64 0), (.string ⟨#[]⟩), (.string ⟨#[]⟩), (.bool false)] [(0, 1, (.c (.int .i64 5))), (4, 1, (.c (.int .i64 4)))], 0, false⟩,
   ⟨(some 4), none, .alloc [(.int .i64 0), (.int .i64 0), (.int .i64 0), (.int .i64 0), (.int .i64 0), (.int .i64 0), (.string ⟨#[]⟩), (.string ⟨#[]⟩), (.int .i64 0), (.int .i64 0), (.int .i64 0), (.string ⟨#[]⟩), (.string ⟨#[]⟩), (.bool false)] 14, 0, false⟩,
   ⟨none, none, .st 14 (.t 4) (.t 11), 0, false⟩])
 (.seq (.reg [⟨(some 12), none, .ldN 14 (.t 1), 0, false⟩,
   ⟨(some 13), none, .ldN 14 (.t 2), 0, false⟩,
   ⟨(some 14), none, .ldN 14 (.t 3), 0, false⟩,
   ⟨(some 15), none, .ldN 14 (.t 4), 0, false⟩,
   ⟨(some 16), none, .buildSlice 14 4 [(.int .i64 0), (.int .i64 0), (.int .i64 0), (.int .i64 0), (.int .i64 0), (.int .i64 0), (.string ⟨#[]⟩), (.string ⟨#[]⟩), (.int .i64 0), (.int .i64 0), (.int .i64 0), (.string ⟨#[]⟩), (.string ⟨#[]⟩), (.bool false)] [(0, 14, (.t 12)), (14, 14, (.t 13)), (28, 14, (.t 14)), (42, 14, (.t 15))], 0, false⟩,
   ⟨(some 5), none, .mov (.t 16), 0, false⟩])
 (.seq (.reg [⟨(some 17), none, .mov (.t 5), 0, false⟩,
   ⟨(some 18), none, .slice 14 (.t 17) none (some (.c (.int .i64 3))) none, 0, false⟩,
   ⟨(some 19), none, .call 15 [(.t 18)], 0, false⟩,
   ⟨(some 6), none, .mov (.t 19), 0, false⟩])
 (.seq (.reg [⟨(some 20), none, .mov (.t 5), 0, false⟩,
   ⟨(some 21), none, .call 12 [(.t 20)], 0, true⟩,
   ⟨(some 22), none, .bin .eql (.t 21) (.c (.int .i64 0)), 0, false⟩,
   ⟨(some 23), none, .mov (.t 22), 0, false⟩,
   ⟨(some 24), (some (23, true)), .ldN 14 (.t 2), 0, false⟩,
   ⟨(some 25), (some (23, true)), .buildSlice 14 1 [(.int .i64 0), (.int .i64 0), (.int .i64 0), (.int .i64 0), (.int .i64 0), (.int .i64 0), (.string ⟨#[]⟩), (.string ⟨#[]⟩), (.int .i64 0), (.int .i64 0), (.int .i64 0), (.string ⟨#[]⟩), (.string ⟨#[]⟩), (.bool false)] [(0, 14, (.t 24))], 0, false⟩,
   ⟨(some 26), (some (23, true)), .call 12 [(.t 25)], 0, true⟩,
   ⟨(some 27), (some (23, true)), .bin .eql (.t 26) (.c (.int .i64 1)), 0, false⟩,
   ⟨(some 28), none, .pick (.t 23) (.t 27) (.c (.bool false)), 0, false⟩,
   ⟨(some 29), none, .mov (.t 28), 0, false⟩,
   ⟨(some 30), (some (29, true)), .ldN 14 (.t 1), 0, false⟩,
   ⟨(some 31), (some (29, true)), .ldN 14 (.t 3), 0, false⟩,
   ⟨(some 32), (some (29, true)), .ldN 14 (.t 3), 0, false⟩,
   ⟨(some 33), (some (29, true)), .buildSlice 14 3 [(.int .i64 0), (.int .i64 0), (.int .i64 0), (.int .i64 0), (.int .i64 0), (.int .i64 0), (.string ⟨#[]⟩), (.string ⟨#[]⟩), (.int .i64 0), (.int .i64 0), (.int .i64 0), (.string ⟨#[]⟩), (.string ⟨#[]⟩), (.bool false)] [(0, 14, (.t 30)), (14, 14, (.t 31)), (28, 14, (.t 32))], 0, false⟩,
   ⟨(some 34), (some (29, true)), .call 12 [(.t 33)], 0, true⟩,
   ⟨(some 35), (some (29, true)), .bin .eql (.t 34) (.c (.int .i64 3)), 0, false⟩,
   ⟨(some 36), none, .pick (.t 29) (.t 35) (.c (.bool false)), 0, false⟩,
   ⟨(some 37), none, .mov (.t 36), 0, false⟩,
   ⟨(some 38), (some (37, true)), .ldN 14 (.t 1), 0, false⟩,
   ⟨(some 39), (some (37, true)), .ldN 14 (.t 1), 0, false⟩,
   ⟨(some 40), (some (37, true)), .buildSlice 14 2 [(.int .i64 0), (.int .i64 0), (.int .i64 0), (.int .i64 0), (.int .i64 0), (.int .i64 0), (.string ⟨#[]⟩), (.string ⟨#[]⟩), (.int .i64 0), (.int .i64 0), (.int .i64 0), (.string ⟨#[]⟩), (.string ⟨#[]⟩), (.bool false)] [(0, 14, (.t 38)), (14, 14, (.t 39))], 0, false⟩,
   ⟨(some 41), (some (37, true)), .call 12 [(.t 40)], 0, true⟩,
   ⟨(some 42), (some (37, true)), .bin .eql (.t 41) (.c (.int .i64 2)), 0, false⟩,
   ⟨(some 43), none, .pick (.t 37) (.t 42) (.c (.bool false)), 0, false⟩,
   ⟨(some 44), none, .mov (.t 43), 0, false⟩,
   ⟨(some 45), (some (44, true)), .mov (.t 6), 0, false⟩,
   ⟨(some 46), (some (44, true)), .lenSl (.t 45), 0, false⟩,
   ⟨(some 47), (some (44, true)), .bin .eql (.t 46) (.c (.int .i64 1)), 0, false⟩,
   ⟨(some 48), none, .pick (.t 44) (.t 47) (.c (.bool false)), 0, false⟩,
   ⟨(some 49), none, .mov (.t 48), 0, false⟩,
   ⟨(some 50), (some (49, true)), .mov (.t 6), 0, false⟩,
   ⟨(some 51), (some (49, true)), .idxS 5 (.t 50) (.c (.int .i64 0)), 0, false⟩,
   ⟨(some 52), (some (49, true)), .ldN 5 (.t 51), 0, false⟩,
   ⟨(some 53), (some (49, true)), .fadd 9 (.t 3), 0, false⟩,
   ⟨(some 54), (some (49, true)), .ldN 5 (.t 53), 0, false⟩,
   ⟨(some 55), (some (49, true)), .eq false (.agg [(.int .i64), (.int .i64), .str, .str, .bool]) (.t 52) (.t 54), 0, false⟩,
   ⟨(some 56), none, .pick (.t 49) (.t 55) (.c (.bool false)), 0, false⟩,
   ⟨(some 57), none, .mov (.t 56), 0, false⟩,
   ⟨(some 58), (some (57, true)), .mov (.t 5), 0, false⟩,
   ⟨(some 59), (some (57, true)), .call 15 [(.t 58)], 0, true⟩,
   ⟨(some 60), (some (57, true)), .lenSl (.t 59), 0, false⟩,
   ⟨(some 61), (some (57, true)), .bin .eql (.t 60) (.c (.int .i64 0)), 0, false⟩,
   ⟨(some 62), none, .pick (.t 57) (.t 61) (.c (.bool false)), 0, false⟩,
   ⟨(some 63), none, .mov (.t 62), 0, false⟩,
   ⟨(some 64), (some (63, true)), .mov (.t 5), 0, false⟩,
   ⟨(some 65), (some (63, true)), .call 17 [(.t 64)], 0, true⟩,
   ⟨(some 66), (some (63, true)), .bin .eql (.t 65) (.c (.int .i64 1)), 0, false⟩,
   ⟨(some 67), none, .pick (.t 63) (.t 66) (.c (.bool false)), 0, false⟩,
   ⟨(some 68), none, .mov (.t 67), 0, false⟩,
   ⟨(some 69), (some (68, true)), .call 12 [(.c (.slice none 0 0))], 0, true⟩,
   ⟨(some 70), (some (68, true)), .bin .eql (.t 69) (.c (.int .i64 0)), 0, false⟩,
   ⟨(some 71), none, .pick (.t 68) (.t 70) (.c (.bool false)), 0, false⟩,
   ⟨(some 0), none, .mov (.t 71), 0, false⟩])
 (.ret))))))))⟩
theorem c11 : cFn Tryd.prog Tryd.f11 = some a11 := by kernel_rfl
def a12 : AFn := ⟨6, [.tmp 2],
 .seq (.reg [⟨(some 2), none, .mov (.c (.int .i64 0)), 0, false⟩])
 (.seq (.reg [⟨(some 3), none, .call 20 [], 0, false⟩,
   ⟨(some 4), none, .mov (.t 0), 0, false⟩,
   ⟨(some 5), none, .call 21 [(.t 3), (.t 4)], 0, false⟩,
   ⟨(some 2), none, .mov (.t 5), 0, false⟩])
 (.ret))⟩
theorem c12 : cFn Tryd.prog Tryd.f12 = some a12 := by kernel_rfl
def a13 : AFn := ⟨22, [.tmp 2],
 .seq (.reg [⟨(some 2), none, .mov (.c (.int .i64 0)), 0, false⟩])
 (.seq (.reg [⟨(some 5), none, .build [(.slice none 0 0), (.slice none 0 0), (.slice none 0 0), (.int .i64 0), (.int .i64 0), (.int .i64 0), (.int .i64 0), (.slice none 0 0)] [], 0, false⟩,
   ⟨(some 6), none, .box 8 (.t 5), 0, false⟩,
   ⟨(some 3), none, .mov (.t 6), 0, false⟩])
 (.seq (.seq (.reg [⟨(some 4), none, .mov (.c (.int .i64 0)), 0, false⟩])
 (.block 0 (.loop (.seq (.seq (.reg [⟨(some 7), none, .mov (.t 4), 0, false⟩,
    ⟨(some 8), none, .mov (.t 0), 0, false⟩,
    ⟨(some 9), none, .lenSl (.t 8), 0, false⟩,
    ⟨(some 10), none, .bin .lss (.t 7) (.t 9), 0, false⟩])
  (.cond (.t 10) (.skip)
   (.exit 0)))
  (.seq (.block 1 (.seq (.reg [⟨(some 13), none, .mov (.t 3), 0, false⟩,
    ⟨(some 14), none, .mov (.t 0), 0, false⟩,
    ⟨(some 15), none, .mov (.t 4), 0, false⟩,
    ⟨(some 16), none, .idxS 14 (.t 14) (.t 15), 0, false⟩,
    ⟨(some 17), none, .ldN 14 (.t 16), 0, false⟩,
    ⟨(some 18), none, .call 22 [(.t 13), (.t 17)], 0, false⟩,
    ⟨(some 19), none, .un .not (.t 18), 0, false⟩])
  (.cond (.t 19) (.seq (.reg [⟨(some 20), none, .mov (.t 4), 0, false⟩,
     ⟨(some 21), none, .bin .add (.t 20) (.c (.int .i64 1)), 0, false⟩,
     ⟨(some 2), none, .mov (.t 21), 0, false⟩])
   (.ret))
   (.skip))))
  (.reg [⟨(some 11), none, .mov (.t 4), 0, false⟩,
    ⟨(some 12), none, .bin .add (.t 11) (.c (.int .i64 1)), 0, false⟩,
    ⟨(some 4), none, .mov (.t 12), 0, false⟩]))))))
 (.seq (.reg [⟨(some 2), none, .mov (.c (.int .i64 0)), 0, false⟩])
 (.ret))))⟩
theorem c13 : cFn Tryd.prog Tryd.f13 = some a13 := by kernel_rfl
def a14 : AFn := ⟨26, [.tmp 4],
 .seq (.reg [⟨(some 4), none, .mov (.c (.bool false)), 0, false⟩])
 (.seq (.seq (.reg [⟨(some 6), none, .mov (.t 0), 0, false⟩,
   ⟨(some 7), none, .lenSl (.t 6), 0, false⟩,
   ⟨(some 8), none, .mov (.t 1), 0, false⟩,
   ⟨(some 9), none, .lenSl (.t 8), 0, false⟩,
   ⟨(some 10), none, .bin .neq (.t 7) (.t 9), 0, false⟩])
 (.cond (.t 10) (.seq (.reg [⟨(some 4), none, .mov (.c (.bool false)), 0, false⟩])
  (.ret))
  (.skip)))
 (.seq (.seq (.reg [⟨(some 5), none, .mov (.c (.int .i64 0)), 0, false⟩])
 (.block 0 (.loop (.seq (.seq (.reg [⟨(some 11), none, .mov (.t 5), 0, false⟩,
    ⟨(some 12), none, .mov (.t 0), 0, false⟩,
    ⟨(some 13), none, .lenSl (.t 12), 0, false⟩,
    ⟨(some 14), none, .bin .lss (.t 11) (.t 13), 0, false⟩])
  (.cond (.t 14) (.skip)
   (.exit 0)))
  (.seq (.block 1 (.seq (.reg [⟨(some 17), none, .mov (.t 0), 0, false⟩,
    ⟨(some 18), none, .mov (.t 5), 0, false⟩,
    ⟨(some 19), none, .idxS 5 (.t 17) (.t 18), 0, false⟩,
    ⟨(some 20), none, .ldN 5 (.t 19), 0, false⟩,
    ⟨(some 21), none, .mov (.t 1), 0, false⟩,
    ⟨(some 22), none, .mov (.t 5), 0, false⟩,
    ⟨(some 23), none, .idxS 5 (.t 21) (.t 22), 0, false⟩,
    ⟨(some 24), none, .ldN 5 (.t 23), 0, false⟩,
    ⟨(some 25), none, .eq true (.agg [(.int .i64), (.int .i64), .str, .str, .bool]) (.t 20) (.t 24), 0, false⟩])
  (.cond (.t 25) (.seq (.reg [⟨(some 4), none, .mov (.c (.bool false)), 0, false⟩])
   (.ret))
   (.skip))))
  (.reg [⟨(some 15), none, .mov (.t 5), 0, false⟩,
    ⟨(some 16), none, .bin .add (.t 15) (.c (.int .i64 1)), 0, false⟩,
    ⟨(some 5), none, .mov (.t 16), 0, false⟩]))))))
 (.seq (.reg [⟨(some 4), none, .mov (.c (.bool true)), 0, false⟩])
 (.ret))))⟩
theorem c14 : cFn Tryd.prog Tryd.f14 = some a14 := by kernel_rfl
def a15 : AFn := ⟨52, [.tmp 2],
 .seq (.reg [⟨(some 2), none, .mov (.c (.slice none 0 0)), 0, false⟩])
 (.seq (.reg [⟨(some 7), none, .call 20 [], 0, false⟩,
   ⟨(some 3), none, .mov (.t 7), 0, false⟩])
 (.seq (.seq (.reg [⟨(some 8), none, .mov (.t 3), 0, false⟩,
   ⟨(some 9), none, .mov (.t 0), 0, false⟩,
   ⟨(some 10), none, .call 21 [(.t 8), (.t 9)], 0, false⟩,
   ⟨(some 11), none, .bin .neq (.t 10) (.c (.int .i64 0)), 0, false⟩])
 (.cond (.t 11) (.seq (.reg [⟨(some 2), none, .mov (.c (.slice none 0 0)), 0, false⟩])
  (.ret))
  (.skip)))
 (.seq (.reg [⟨(some 4), none, .mov (.c (.slice none 0 0)), 0, false⟩])
 (.seq (.seq (.reg [⟨(some 12), none, .mov (.t 3), 0, false⟩,
   ⟨(some 13), none, .nilCheck (.t 12), 0, false⟩,
   ⟨(some 14), none, .fadd 2 (.t 13), 0, false⟩,
   ⟨(some 15), none, .ld1 (.t 14), 0, false⟩,
   ⟨(some 16), none, .lenSl (.t 15), 0, false⟩,
   ⟨(some 17), none, .mov (.c (.int .i64 0)), 0, false⟩])
 (.block 0 (.loop (.seq (.reg [⟨(some 18), none, .bin .lss (.t 17) (.t 16), 0, false⟩])
  (.seq (.cond (.t 18) (.skip)
   (.exit 0))
  (.seq (.block 1 (.seq (.reg [⟨(some 19), none, .idxS 1 (.t 15) (.t 17), 0, false⟩,
    ⟨(some 20), none, .ld1 (.t 19), 0, false⟩,
    ⟨(some 6), none, .mov (.t 20), 0, false⟩])
  (.seq (.reg [⟨(some 21), none, .mov (.t 6), 0, false⟩,
    ⟨(some 22), none, .nilCheck (.t 21), 0, false⟩,
    ⟨(some 23), none, .fadd 5 (.t 22), 0, false⟩,
    ⟨(some 24), none, .ld1 (.t 23), 0, false⟩,
    ⟨(some 25), none, .nilCheck (.t 24), 0, false⟩,
    ⟨(some 26), none, .fadd 2 (.t 25), 0, false⟩,
    ⟨(some 27), none, .ld1 (.t 26), 0, false⟩,
    ⟨(some 28), none, .bin .eql (.t 27) (.c (.int .i64 1)), 0, false⟩,
    ⟨(some 29), none, .mov (.t 28), 0, false⟩,
    ⟨(some 30), (some (29, true)), .mov (.t 6), 0, false⟩,
    ⟨(some 31), (some (29, true)), .nilCheck (.t 30), 0, false⟩,
    ⟨(some 32), (some (29, true)), .fadd 7 (.t 31), 0, false⟩,
    ⟨(some 33), (some (29, true)), .ld1 (.t 32), 0, false⟩,
    ⟨(some 34), (some (29, true)), .un .not (.t 33), 0, false⟩,
    ⟨(some 35), none, .pick (.t 29) (.t 34) (.c (.bool false)), 0, false⟩,
    ⟨(some 36), none, .mov (.t 35), 0, false⟩,
    ⟨(some 37), (some (36, true)), .mov (.t 6), 0, false⟩,
    ⟨(some 38), (some (36, true)), .nilCheck (.t 37), 0, false⟩,
    ⟨(some 39), (some (36, true)), .fadd 8 (.t 38), 0, false⟩,
    ⟨(some 40), (some (36, true)), .ld1 (.t 39), 0, false⟩,
    ⟨(some 41), (some (36, true)), .un .not (.t 40), 0, false⟩,
    ⟨(some 42), none, .pick (.t 36) (.t 41) (.c (.bool false)), 0, false⟩])
  (.cond (.t 42) (.reg [⟨(some 43), none, .mov (.t 4), 0, false⟩,
     ⟨(some 44), none, .mov (.t 6), 0, false⟩,
     ⟨(some 45), none, .nilCheck (.t 44), 0, false⟩,
     ⟨(some 46), none, .fadd 0 (.t 45), 0, false⟩,
     ⟨(some 47), none, .ldN 5 (.t 46), 0, false⟩,
     ⟨(some 48), none, .buildSlice 5 1 [(.int .i64 0), (.int .i64 0), (.string ⟨#[]⟩), (.string ⟨#[]⟩), (.bool false)] [(0, 5, (.t 47))], 0, false⟩,
     ⟨(some 49), none, .append 5 56 (.t 43) (.t 48), 0, false⟩,
     ⟨(some 4), none, .mov (.t 49), 0, false⟩])
   (.skip)))))
  (.reg [⟨(some 50), none, .bin .add (.t 17) (.c (.int .i64 1)), 0, false⟩,
    ⟨(some 17), none, .mov (.t 50), 0, false⟩])))))))
 (.seq (.reg [⟨(some 51), none, .mov (.t 4), 0, false⟩,
   ⟨(some 2), none, .mov (.t 51), 0, false⟩])
 (.ret))))))⟩
theorem c15 : cFn Tryd.prog Tryd.f15 = some a15 := by kernel_rfl
def a16 : AFn := ⟨81, [.tmp 2],
 .seq (.reg [⟨(some 2), none, .mov (.c (.slice none 0 0)), 0, false⟩])
 (.seq (.reg [⟨(some 7), none, .build [(.slice none 0 0), (.slice none 0 0), (.slice none 0 0), (.int .i64 0), (.int .i64 0), (.int .i64 0), (.int .i64 0), (.slice none 0 0)] [], 0, false⟩,
   ⟨(some 8), none, .box 8 (.t 7), 0, false⟩,
   ⟨(some 3), none, .mov (.t 8), 0, false⟩])
 (.seq (.seq (.reg [⟨(some 4), none, .mov (.c (.int .i64 0)), 0, false⟩])
 (.block 0 (.loop (.seq (.seq (.reg [⟨(some 9), none, .mov (.t 4), 0, false⟩,
    ⟨(some 10), none, .mov (.t 0), 0, false⟩,
    ⟨(some 11), none, .lenSl (.t 10), 0, false⟩,
    ⟨(some 12), none, .bin .lss (.t 9) (.t 11), 0, false⟩])
  (.cond (.t 12) (.skip)
   (.exit 0)))
  (.seq (.block 1 (.seq (.reg [⟨(some 15), none, .mov (.t 3), 0, false⟩,
    ⟨(some 16), none, .mov (.t 0), 0, false⟩,
    ⟨(some 17), none, .mov (.t 4), 0, false⟩,
    ⟨(some 18), none, .idxS 14 (.t 16) (.t 17), 0, false⟩,
    ⟨(some 19), none, .ldN 14 (.t 18), 0, false⟩,
    ⟨(some 20), none, .call 22 [(.t 15), (.t 19)], 0, false⟩,
    ⟨(some 21), none, .un .not (.t 20), 0, false⟩])
  (.cond (.t 21) (.seq (.reg [⟨(some 2), none, .mov (.c (.slice none 0 0)), 0, false⟩])
   (.ret))
   (.skip))))
  (.reg [⟨(some 13), none, .mov (.t 4), 0, false⟩,
    ⟨(some 14), none, .bin .add (.t 13) (.c (.int .i64 1)), 0, false⟩,
    ⟨(some 4), none, .mov (.t 14), 0, false⟩]))))))
 (.seq (.reg [⟨(some 5), none, .mov (.c (.slice none 0 0)), 0, false⟩])
 (.seq (.seq (.reg [⟨(some 6), none, .mov (.c (.int .i64 0)), 0, false⟩])
 (.block 2 (.loop (.seq (.seq (.reg [⟨(some 22), none, .mov (.t 6), 0, false⟩,
    ⟨(some 23), none, .mov (.t 3), 0, false⟩,
    ⟨(some 24), none, .nilCheck (.t 23), 0, false⟩,
    ⟨(some 25), none, .fadd 2 (.t 24), 0, false⟩,
    ⟨(some 26), none, .ld1 (.t 25), 0, false⟩,
    ⟨(some 27), none, .lenSl (.t 26), 0, false⟩,
    ⟨(some 28), none, .bin .lss (.t 22) (.t 27), 0, false⟩])
  (.cond (.t 28) (.skip)
   (.exit 2)))
  (.seq (.block 3 (.seq (.reg [⟨(some 31), none, .mov (.t 3), 0, false⟩,
    ⟨(some 32), none, .nilCheck (.t 31), 0, false⟩,
    ⟨(some 33), none, .fadd 1 (.t 32), 0, false⟩,
    ⟨(some 34), none, .ld1 (.t 33), 0, false⟩,
    ⟨(some 35), none, .mov (.t 3), 0, false⟩,
    ⟨(some 36), none, .nilCheck (.t 35), 0, false⟩,
    ⟨(some 37), none, .fadd 2 (.t 36), 0, false⟩,
    ⟨(some 38), none, .ld1 (.t 37), 0, false⟩,
    ⟨(some 39), none, .mov (.t 6), 0, false⟩,
    ⟨(some 40), none, .idxS 11 (.t 38) (.t 39), 0, false⟩,
    ⟨(some 41), none, .fadd 1 (.t 40), 0, false⟩,
    ⟨(some 42), none, .ld1 (.t 41), 0, false⟩,
    ⟨(some 43), none, .idxS 6 (.t 34) (.t 42), 0, false⟩,
    ⟨(some 44), none, .fadd 5 (.t 43), 0, false⟩,
    ⟨(some 45), none, .ld1 (.t 44), 0, false⟩,
    ⟨(some 46), none, .bin .eql (.t 45) (.c (.int .i64 1)), 0, false⟩,
    ⟨(some 47), none, .mov (.t 46), 0, false⟩,
    ⟨(some 48), (some (47, true)), .mov (.t 3), 0, false⟩,
    ⟨(some 49), (some (47, true)), .nilCheck (.t 48), 0, false⟩,
    ⟨(some 50), (some (47, true)), .fadd 2 (.t 49), 0, false⟩,
    ⟨(some 51), (some (47, true)), .ld1 (.t 50), 0, false⟩,
    ⟨(some 52), (some (47, true)), .mov (.t 6), 0, false⟩,
    ⟨(some 53), (some (47, true)), .idxS 11 (.t 51) (.t 52), 0, false⟩,
    ⟨(some 54), (some (47, true)), .fadd 9 (.t 53), 0, false⟩,
    ⟨(some 55), (some (47, true)), .ld1 (.t 54), 0, false⟩,
    ⟨(some 56), (some (47, true)), .un .not (.t 55), 0, false⟩,
    ⟨(some 57), none, .pick (.t 47) (.t 56) (.c (.bool false)), 0, false⟩,
    ⟨(some 58), none, .mov (.t 57), 0, false⟩,
    ⟨(some 59), (some (58, true)), .mov (.t 3), 0, false⟩,
    ⟨(some 60), (some (58, true)), .nilCheck (.t 59), 0, false⟩,
    ⟨(some 61), (some (58, true)), .fadd 2 (.t 60), 0, false⟩,
    ⟨(some 62), (some (58, true)), .ld1 (.t 61), 0, false⟩,
    ⟨(some 63), (some (58, true)), .mov (.t 6), 0, false⟩,
    ⟨(some 64), (some (58, true)), .idxS 11 (.t 62) (.t 63), 0, false⟩,
    ⟨(some 65), (some (58, true)), .fadd 10 (.t 64), 0, false⟩,
    ⟨(some 66), (some (58, true)), .ld1 (.t 65), 0, false⟩,
    ⟨(some 67), (some (58, true)), .un .not (.t 66), 0, false⟩,
    ⟨(some 68), none, .pick (.t 58) (.t 67) (.c (.bool false)), 0, false⟩])
  (.cond (.t 68) (.reg [⟨(some 69), none, .mov (.t 5), 0, false⟩,
     ⟨(some 70), none, .mov (.t 3), 0, false⟩,
     ⟨(some 71), none, .nilCheck (.t 70), 0, false⟩,
     ⟨(some 72), none, .fadd 2 (.t 71), 0, false⟩,
     ⟨(some 73), none, .ld1 (.t 72), 0, false⟩,
     ⟨(some 74), none, .mov (.t 6), 0, false⟩,
     ⟨(some 75), none, .idxS 11 (.t 73) (.t 74), 0, false⟩,
     ⟨(some 76), none, .fadd 2 (.t 75), 0, false⟩,
     ⟨(some 77), none, .ldN 5 (.t 76), 0, false⟩,
     ⟨(some 78), none, .buildSlice 5 1 [(.int .i64 0), (.int .i64 0), (.string ⟨#[]⟩), (.string ⟨#[]⟩), (.bool false)] [(0, 5, (.t 77))], 0, false⟩,
     ⟨(some 79), none, .append 5 56 (.t 69) (.t 78), 0, false⟩,
     ⟨(some 5), none, .mov (.t 79), 0, false⟩])
   (.skip))))
  (.reg [⟨(some 29), none, .mov (.t 6), 0, false⟩,
    ⟨(some 30), none, .bin .add (.t 29) (.c (.int .i64 1)), 0, false⟩,
    ⟨(some 6), none, .mov (.t 30), 0, false⟩]))))))
 (.seq (.reg [⟨(some 80), none, .mov (.t 5), 0, false⟩,
   ⟨(some 2), none, .mov (.t 80), 0, false⟩])
 (.ret))))))⟩
theorem c16 : cFn Tryd.prog Tryd.f16 = some a16 := by kernel_rfl
def a17 : AFn := ⟨19, [.tmp 2],
 .seq (.reg [⟨(some 2), none, .mov (.c (.int .i64 0)), 0, false⟩])
 (.seq (.reg [⟨(some 3), none, .mov (.c (.int .i64 0)), 0, false⟩])
 (.seq (.seq (.reg [⟨(some 6), none, .mov (.t 0), 0, false⟩,
   ⟨(some 7), none, .lenSl (.t 6), 0, false⟩,
   ⟨(some 8), none, .mov (.c (.int .i64 0)), 0, false⟩])
 (.block 0 (.loop (.seq (.reg [⟨(some 9), none, .bin .lss (.t 8) (.t 7), 0, false⟩])
  (.seq (.cond (.t 9) (.skip)
   (.exit 0))
  (.seq (.block 1 (.seq (.reg [⟨(some 10), none, .idxS 14 (.t 6) (.t 8), 0, false⟩,
    ⟨(some 11), none, .ldN 14 (.t 10), 0, false⟩,
    ⟨(some 5), none, .alloc [(.int .i64 0), (.int .i64 0), (.int .i64 0), (.int .i64 0), (.int .i64 0), (.int .i64 0), (.string ⟨#[]⟩), (.string ⟨#[]⟩), (.int .i64 0), (.int .i64 0), (.int .i64 0), (.string ⟨#[]⟩), (.string ⟨#[]⟩), (.bool false)] 14, 0, false⟩,
    ⟨none, none, .st 14 (.t 5) (.t 11), 0, false⟩])
  (.seq (.reg [⟨(some 12), none, .fadd 0 (.t 5), 0, false⟩,
    ⟨(some 13), none, .ld1 (.t 12), 0, false⟩,
    ⟨(some 14), none, .bin .eql (.t 13) (.c (.int .i64 1)), 0, false⟩])
  (.cond (.t 14) (.reg [⟨(some 15), none, .mov (.t 3), 0, false⟩,
     ⟨(some 16), none, .bin .add (.t 15) (.c (.int .i64 1)), 0, false⟩,
     ⟨(some 3), none, .mov (.t 16), 0, false⟩])
   (.skip)))))
  (.reg [⟨(some 17), none, .bin .add (.t 8) (.c (.int .i64 1)), 0, false⟩,
    ⟨(some 8), none, .mov (.t 17), 0, false⟩])))))))
 (.seq (.reg [⟨(some 18), none, .mov (.t 3), 0, false⟩,
   ⟨(some 2), none, .mov (.t 18), 0, false⟩])
 (.ret))))⟩
theorem c17 : cFn Tryd.prog Tryd.f17 = some a17 := by kernel_rfl
def a18 : AFn := ⟨109, [.tmp 4],
 .seq (.reg [⟨(some 4), none, .mov (.c (.slice none 0 0)), 0, false⟩])
 (.seq (.reg [⟨(some 10), none, .build [(.slice none 0 0), (.slice none 0 0), (.slice none 0 0), (.int .i64 0), (.int .i64 0), (.int .i64 0), (.int .i64 0), (.slice none 0 0)] [], 0, false⟩,
   ⟨(some 11), none, .box 8 (.t 10), 0, false⟩,
   ⟨(some 5), none, .mov (.t 11), 0, false⟩])
 (.seq (.reg [⟨(some 6), none, .mov (.c (.slice none 0 0)), 0, false⟩])
 (.seq (.seq (.reg [⟨(some 7), none, .mov (.c (.int .i64 0)), 0, false⟩])
 (.block 0 (.loop (.seq (.seq (.reg [⟨(some 12), none, .mov (.t 7), 0, false⟩,
    ⟨(some 13), none, .mov (.t 0), 0, false⟩,
    ⟨(some 14), none, .lenSl (.t 13), 0, false⟩,
    ⟨(some 15), none, .bin .lss (.t 12) (.t 14), 0, false⟩])
  (.cond (.t 15) (.skip)
   (.exit 0)))
  (.seq (.block 1 (.seq (.reg [⟨(some 18), none, .mov (.t 5), 0, false⟩,
    ⟨(some 19), none, .mov (.t 0), 0, false⟩,
    ⟨(some 20), none, .mov (.t 7), 0, false⟩,
    ⟨(some 21), none, .idxS 6 (.t 19) (.t 20), 0, false⟩,
    ⟨(some 22), none, .ldN 6 (.t 21), 0, false⟩,
    ⟨(some 23), none, .call 23 [(.t 18), (.t 22)], 0, false⟩,
    ⟨(some 8), none, .alloc [(.int .i64 0), (.int .i64 0), (.int .i64 0), (.int .i64 0), (.int .i64 0), (.int .i64 0), (.string ⟨#[]⟩), (.string ⟨#[]⟩), (.int .i64 0), (.int .i64 0), (.int .i64 0), (.string ⟨#[]⟩), (.string ⟨#[]⟩), (.bool false)] 14, 0, false⟩,
    ⟨none, none, .st 14 (.t 8) (.t 23), 0, false⟩])
  (.seq (.seq (.reg [⟨(some 24), none, .mov (.t 1), 0, false⟩,
    ⟨(some 25), none, .mov (.t 24), 0, false⟩,
    ⟨(some 26), (some (25, true)), .mov (.t 0), 0, false⟩,
    ⟨(some 27), (some (25, true)), .mov (.t 7), 0, false⟩,
    ⟨(some 28), (some (25, true)), .idxS 6 (.t 26) (.t 27), 0, false⟩,
    ⟨(some 29), (some (25, true)), .fadd 5 (.t 28), 0, false⟩,
    ⟨(some 30), (some (25, true)), .ld1 (.t 29), 0, false⟩,
    ⟨(some 31), (some (25, true)), .bin .rem (.t 30) (.c (.int .i64 11)), 0, false⟩,
    ⟨(some 32), (some (25, true)), .bin .eql (.t 31) (.c (.int .i64 10)), 0, false⟩,
    ⟨(some 33), none, .pick (.t 25) (.t 32) (.c (.bool false)), 0, false⟩])
  (.cond (.t 33) (.seq (.reg [⟨(some 34), none, .fadd 4 (.t 8), 0, false⟩,
     ⟨(some 35), none, .ld1 (.t 34), 0, false⟩,
     ⟨(some 36), none, .mov (.t 0), 0, false⟩,
     ⟨(some 37), none, .mov (.t 7), 0, false⟩,
     ⟨(some 38), none, .idxS 6 (.t 36) (.t 37), 0, false⟩,
     ⟨(some 39), none, .fadd 4 (.t 38), 0, false⟩,
     ⟨(some 40), none, .ld1 (.t 39), 0, false⟩,
     ⟨(some 41), none, .bin .rem (.t 40) (.c (.int .i64 2)), 0, false⟩,
     ⟨(some 42), none, .bin .add (.t 35) (.t 41), 0, false⟩,
     ⟨(some 43), none, .fadd 3 (.t 8), 0, false⟩,
     ⟨(some 44), none, .ld1 (.t 43), 0, false⟩,
     ⟨(some 52), none, .fadd 4 (.t 8), 0, false⟩,
     ⟨none, none, .st 1 (.t 52) (.t 42), 0, true⟩,
     ⟨(some 45), none, .mov (.t 0), 0, false⟩,
     ⟨(some 46), none, .mov (.t 7), 0, false⟩,
     ⟨(some 47), none, .idxS 6 (.t 45) (.t 46), 0, false⟩,
     ⟨(some 48), none, .fadd 4 (.t 47), 0, false⟩,
     ⟨(some 49), none, .ld1 (.t 48), 2, false⟩,
     ⟨(some 50), none, .bin .rem (.t 49) (.c (.int .i64 3)), 0, false⟩,
     ⟨(some 51), none, .bin .add (.t 44) (.t 50), 0, false⟩,
     ⟨(some 53), none, .fadd 3 (.t 8), 0, false⟩,
     ⟨none, none, .st 1 (.t 53) (.t 51), 0, true⟩])
   (.reg [⟨(some 54), none, .fadd 9 (.t 8), 0, false⟩,
     ⟨(some 55), none, .fadd 4 (.t 54), 0, false⟩,
     ⟨(some 56), none, .ld1 (.t 55), 0, false⟩,
     ⟨(some 57), none, .un .not (.t 56), 0, false⟩,
     ⟨(some 58), none, .fadd 9 (.t 8), 0, false⟩,
     ⟨(some 59), none, .fadd 4 (.t 58), 0, false⟩,
     ⟨none, none, .st 1 (.t 59) (.t 57), 0, false⟩]))
   (.skip)))
  (.seq (.reg [⟨(some 60), none, .mov (.t 5), 0, false⟩,
    ⟨(some 61), none, .nilCheck (.t 60), 0, false⟩,
    ⟨(some 62), none, .ldN 8 (.t 61), 0, false⟩,
    ⟨(some 9), none, .alloc [(.slice none 0 0), (.slice none 0 0), (.slice none 0 0), (.int .i64 0), (.int .i64 0), (.int .i64 0), (.int .i64 0), (.slice none 0 0)] 8, 0, false⟩,
    ⟨none, none, .st 8 (.t 9) (.t 62), 0, false⟩])
  (.seq (.reg [⟨(some 63), none, .buildSlice 6 0 [(.int .i64 0), (.int .i64 0), (.string ⟨#[]⟩), (.int .i64 0), (.int .i64 0), (.int .i64 0)] [], 0, false⟩,
    ⟨(some 64), none, .mov (.t 5), 0, false⟩,
    ⟨(some 65), none, .nilCheck (.t 64), 0, false⟩,
    ⟨(some 66), none, .fadd 1 (.t 65), 0, false⟩,
    ⟨(some 67), none, .ld1 (.t 66), 0, false⟩,
    ⟨(some 68), none, .append 6 56 (.t 63) (.t 67), 0, false⟩,
    ⟨(some 69), none, .fadd 1 (.t 9), 0, false⟩,
    ⟨none, none, .st 1 (.t 69) (.t 68), 0, false⟩])
  (.seq (.reg [⟨(some 70), none, .buildSlice 11 0 [(.int .i64 0), (.int .i64 0), (.int .i64 0), (.int .i64 0), (.string ⟨#[]⟩), (.string ⟨#[]⟩), (.bool false), (.bool false), (.bool false), (.bool false), (.bool false)] [], 0, false⟩,
    ⟨(some 71), none, .mov (.t 5), 0, false⟩,
    ⟨(some 72), none, .nilCheck (.t 71), 0, false⟩,
    ⟨(some 73), none, .fadd 2 (.t 72), 0, false⟩,
    ⟨(some 74), none, .ld1 (.t 73), 0, false⟩,
    ⟨(some 75), none, .append 11 80 (.t 70) (.t 74), 0, false⟩,
    ⟨(some 76), none, .fadd 2 (.t 9), 0, false⟩,
    ⟨none, none, .st 1 (.t 76) (.t 75), 0, false⟩])
  (.seq (.reg [⟨(some 77), none, .buildSlice 5 0 [(.int .i64 0), (.int .i64 0), (.int .i64 0), (.int .i64 0), (.int .i64 0)] [], 0, false⟩,
    ⟨(some 78), none, .mov (.t 5), 0, false⟩,
    ⟨(some 79), none, .nilCheck (.t 78), 0, false⟩,
    ⟨(some 80), none, .fadd 7 (.t 79), 0, false⟩,
    ⟨(some 81), none, .ld1 (.t 80), 0, false⟩,
    ⟨(some 82), none, .append 5 40 (.t 77) (.t 81), 0, false⟩,
    ⟨(some 83), none, .fadd 7 (.t 9), 0, false⟩,
    ⟨none, none, .st 1 (.t 83) (.t 82), 0, false⟩])
  (.seq (.seq (.reg [⟨(some 84), none, .mov (.t 5), 0, false⟩,
    ⟨(some 85), none, .ldN 14 (.t 8), 0, false⟩,
    ⟨(some 86), none, .call 22 [(.t 84), (.t 85)], 0, false⟩])
  (.cond (.t 86) (.seq (.reg [⟨(some 87), none, .mov (.t 6), 0, false⟩,
     ⟨(some 88), none, .ldN 14 (.t 8), 0, false⟩,
     ⟨(some 89), none, .buildSlice 14 1 [(.int .i64 0), (.int .i64 0), (.int .i64 0), (.int .i64 0), (.int .i64 0), (.int .i64 0), (.string ⟨#[]⟩), (.string ⟨#[]⟩), (.int .i64 0), (.int .i64 0), (.int .i64 0), (.string ⟨#[]⟩), (.string ⟨#[]⟩), (.bool false)] [(0, 14, (.t 88))], 0, false⟩,
     ⟨(some 90), none, .append 14 144 (.t 87) (.t 89), 0, false⟩,
     ⟨(some 6), none, .mov (.t 90), 0, false⟩])
   (.exit 1))
   (.skip)))
  (.seq (.reg [⟨(some 91), none, .mov (.t 5), 0, false⟩,
    ⟨(some 92), none, .ldN 8 (.t 9), 0, false⟩,
    ⟨(some 93), none, .nilCheck (.t 91), 0, false⟩,
    ⟨none, none, .st 8 (.t 93) (.t 92), 0, false⟩])
  (.seq (.reg [⟨(some 94), none, .mov (.t 1), 0, false⟩,
    ⟨(some 95), none, .mov (.t 94), 0, false⟩,
    ⟨(some 96), (some (95, true)), .mov (.t 0), 0, false⟩,
    ⟨(some 97), (some (95, true)), .mov (.t 7), 0, false⟩,
    ⟨(some 98), (some (95, true)), .idxS 6 (.t 96) (.t 97), 0, false⟩,
    ⟨(some 99), (some (95, true)), .fadd 5 (.t 98), 0, false⟩,
    ⟨(some 100), (some (95, true)), .ld1 (.t 99), 0, false⟩,
    ⟨(some 101), (some (95, true)), .bin .rem (.t 100) (.c (.int .i64 7)), 0, false⟩,
    ⟨(some 102), (some (95, true)), .bin .eql (.t 101) (.c (.int .i64 6)), 0, false⟩,
    ⟨(some 103), none, .pick (.t 95) (.t 102) (.c (.bool false)), 0, false⟩])
  (.cond (.t 103) (.seq (.reg [⟨(some 104), none, .mov (.t 6), 0, false⟩,
     ⟨(some 105), none, .ldN 14 (.t 8), 0, false⟩,
     ⟨(some 106), none, .buildSlice 14 1 [(.int .i64 0), (.int .i64 0), (.int .i64 0), (.int .i64 0), (.int .i64 0), (.int .i64 0), (.string ⟨#[]⟩), (.string ⟨#[]⟩), (.int .i64 0), (.int .i64 0), (.int .i64 0), (.string ⟨#[]⟩), (.string ⟨#[]⟩), (.bool false)] [(0, 14, (.t 105))], 0, false⟩,
     ⟨(some 107), none, .append 14 144 (.t 104) (.t 106), 0, false⟩,
     ⟨(some 4), none, .mov (.t 107), 0, false⟩])
   (.ret))
   (.skip))))))))))))
  (.reg [⟨(some 16), none, .mov (.t 7), 0, false⟩,
    ⟨(some 17), none, .bin .add (.t 16) (.c (.int .i64 1)), 0, false⟩,
    ⟨(some 7), none, .mov (.t 17), 0, false⟩]))))))
 (.seq (.reg [⟨(some 108), none, .mov (.t 6), 0, false⟩,
   ⟨(some 4), none, .mov (.t 108), 0, false⟩])
 (.ret)))))⟩
theorem c18 : cFn Tryd.prog Tryd.f18 = some a18 := by kernel_rfl
def a19 : AFn := ⟨18, [.tmp 2],
 .seq (.reg [⟨(some 2), none, .mov (.c (.slice none 0 0)), 0, false⟩])
 (.seq (.reg [⟨(some 3), none, .mov (.c (.slice none 0 0)), 0, false⟩])
 (.seq (.seq (.reg [⟨(some 4), none, .mov (.c (.int .i64 1)), 0, false⟩])
 (.block 0 (.loop (.seq (.seq (.reg [⟨(some 5), none, .mov (.t 4), 0, false⟩,
    ⟨(some 6), none, .mov (.t 0), 0, false⟩,
    ⟨(some 7), none, .bin .leq (.t 5) (.t 6), 0, false⟩])
  (.cond (.t 7) (.skip)
   (.exit 0)))
  (.seq (.block 1 (.reg [⟨(some 10), none, .mov (.t 3), 0, false⟩,
    ⟨(some 11), none, .mov (.t 4), 0, false⟩,
    ⟨(some 12), none, .build [(.int .i64 0), (.int .i64 0), (.int .i64 0), (.int .i64 0), (.int .i64 0), (.int .i64 0), (.string ⟨#[]⟩), (.string ⟨#[]⟩), (.int .i64 0), (.int .i64 0), (.int .i64 0), (.string ⟨#[]⟩), (.string ⟨#[]⟩), (.bool false)] [(0, 1, (.c (.int .i64 1))), (3, 1, (.t 11)), (6, 1, (.c (.string ⟨#[107]⟩))), (7, 1, (.c (.string ⟨#[98]⟩))), (8, 1, (.c (.int .i64 1)))], 0, false⟩,
    ⟨(some 13), none, .mov (.t 4), 0, false⟩,
    ⟨(some 14), none, .build [(.int .i64 0), (.int .i64 0), (.int .i64 0), (.int .i64 0), (.int .i64 0), (.int .i64 0), (.string ⟨#[]⟩), (.string ⟨#[]⟩), (.int .i64 0), (.int .i64 0), (.int .i64 0), (.string ⟨#[]⟩), (.string ⟨#[]⟩), (.bool false)] [(0, 1, (.c (.int .i64 2))), (3, 1, (.t 13)), (6, 1, (.c (.string ⟨#[107]⟩)))], 0, false⟩,
    ⟨(some 15), none, .buildSlice 14 2 [(.int .i64 0), (.int .i64 0), (.int .i64 0), (.int .i64 0), (.int .i64 0), (.int .i64 0), (.string ⟨#[]⟩), (.string ⟨#[]⟩), (.int .i64 0), (.int .i64 0), (.int .i64 0), (.string ⟨#[]⟩), (.string ⟨#[]⟩), (.bool false)] [(0, 14, (.t 12)), (14, 14, (.t 14))], 0, false⟩,
    ⟨(some 16), none, .append 14 144 (.t 10) (.t 15), 0, false⟩,
    ⟨(some 3), none, .mov (.t 16), 0, false⟩]))
  (.reg [⟨(some 8), none, .mov (.t 4), 0, false⟩,
    ⟨(some 9), none, .bin .add (.t 8) (.c (.int .i64 1)), 0, false⟩,
    ⟨(some 4), none, .mov (.t 9), 0, false⟩]))))))
 (.seq (.reg [⟨(some 17), none, .mov (.t 3), 0, false⟩,
   ⟨(some 2), none, .mov (.t 17), 0, false⟩])
 (.ret))))⟩
theorem c19 : cFn Tryd.prog Tryd.f19 = some a19 := by kernel_rfl
def a20 : AFn := ⟨8, [.tmp 0],
 .seq (.reg [⟨(some 0), none, .mov (.c (.pointer none)), 0, false⟩])
 (.seq (.reg [⟨(some 1), none, .mkMap (.agg [(.int .i64), (.int .i64), .str]), 0, false⟩,
   ⟨(some 2), none, .mkMap (.agg [(.int .i64), (.int .i64), .str]), 0, false⟩,
   ⟨(some 3), none, .mkMap (.agg [(.int .i64), .str]), 0, false⟩,
   ⟨(some 4), none, .mkMap (.agg [(.int .i64), (.int .i64), (.int .i64)]), 0, false⟩,
   ⟨(some 5), none, .mkMap (.agg [(.int .i64), (.int .i64), (.int .i64)]), 0, false⟩,
   ⟨(some 6), none, .build [(.map none), (.map none), (.slice none 0 0), (.map none), (.map none), (.map none), (.int .i64 0), (.int .i64 0), (.int .i64 0), (.int .i64 0)] [(0, 1, (.t 1)), (1, 1, (.t 2)), (3, 1, (.t 3)), (4, 1, (.t 4)), (5, 1, (.t 5))], 0, false⟩,
   ⟨(some 7), none, .box 10 (.t 6), 0, false⟩,
   ⟨(some 0), none, .mov (.t 7), 0, false⟩])
 (.ret))⟩
theorem c20 : cFn Tryd.prog Tryd.f20 = some a20 := by kernel_rfl
def a21 : AFn := ⟨21, [.tmp 4],
 .seq (.reg [⟨(some 4), none, .mov (.c (.int .i64 0)), 0, false⟩])
 (.scope (.seq (.reg [⟨(some 5), none, .mov (.c (.int .i64 0)), 0, false⟩])
 (.seq (.label 0)
 (.seq (.seq (.reg [⟨(some 6), none, .mov (.t 5), 0, false⟩,
   ⟨(some 7), none, .mov (.t 1), 0, false⟩,
   ⟨(some 8), none, .lenSl (.t 7), 0, false⟩,
   ⟨(some 9), none, .bin .lss (.t 6) (.t 8), 0, false⟩])
 (.cond (.t 9) (.seq (.seq (.reg [⟨(some 10), none, .mov (.t 0), 0, false⟩,
    ⟨(some 11), none, .mov (.t 1), 0, false⟩,
    ⟨(some 12), none, .mov (.t 5), 0, false⟩,
    ⟨(some 13), none, .idxS 14 (.t 11) (.t 12), 0, false⟩,
    ⟨(some 14), none, .ldN 14 (.t 13), 0, false⟩,
    ⟨(some 15), none, .call 24 [(.t 10), (.t 14)], 0, false⟩,
    ⟨(some 16), none, .un .not (.t 15), 0, false⟩])
  (.cond (.t 16) (.seq (.reg [⟨(some 17), none, .mov (.t 5), 0, false⟩,
     ⟨(some 18), none, .bin .add (.t 17) (.c (.int .i64 1)), 0, false⟩,
     ⟨(some 4), none, .mov (.t 18), 0, false⟩])
   (.ret))
   (.skip)))
  (.seq (.reg [⟨(some 19), none, .mov (.t 5), 0, false⟩,
    ⟨(some 20), none, .bin .add (.t 19) (.c (.int .i64 1)), 0, false⟩,
    ⟨(some 5), none, .mov (.t 20), 0, false⟩])
  (.goto 0)))
  (.skip)))
 (.seq (.reg [⟨(some 4), none, .mov (.c (.int .i64 0)), 0, false⟩])
 (.ret))))))⟩
theorem c21 : cFn Tryd.prog Tryd.f21 = some a21 := by kernel_rfl
def a22 : AFn := ⟨63, [.tmp 4],
 .seq (.reg [⟨(some 3), none, .box 14 (.t 1), 0, false⟩,
   ⟨(some 4), none, .mov (.c (.bool false)), 0, false⟩])
 (.seq (.seq (.reg [⟨(some 5), none, .fadd 1 (.t 3), 0, false⟩,
   ⟨(some 6), none, .ld1 (.t 5), 0, false⟩,
   ⟨(some 7), none, .bin .lss (.t 6) (.c (.int .i64 0)), 0, false⟩,
   ⟨(some 8), none, .mov (.t 7), 0, false⟩,
   ⟨(some 9), (some (8, false)), .fadd 1 (.t 3), 0, false⟩,
   ⟨(some 10), (some (8, false)), .ld1 (.t 9), 0, false⟩,
   ⟨(some 11), (some (8, false)), .bin .geq (.t 10) (.c (.int .i64 4)), 0, false⟩,
   ⟨(some 12), none, .pick (.t 8) (.c (.bool true)) (.t 11), 0, false⟩,
   ⟨(some 13), none, .mov (.t 12), 0, false⟩,
   ⟨(some 14), (some (13, false)), .fadd 2 (.t 3), 0, false⟩,
   ⟨(some 15), (some (13, false)), .ld1 (.t 14), 0, false⟩,
   ⟨(some 16), (some (13, false)), .bin .lss (.t 15) (.c (.int .i64 0)), 0, false⟩,
   ⟨(some 17), none, .pick (.t 13) (.c (.bool true)) (.t 16), 0, false⟩,
   ⟨(some 18), none, .mov (.t 17), 0, false⟩,
   ⟨(some 19), (some (18, false)), .fadd 2 (.t 3), 0, false⟩,
   ⟨(some 20), (some (18, false)), .ld1 (.t 19), 0, false⟩,
   ⟨(some 21), (some (18, false)), .bin .geq (.t 20) (.c (.int .i64 4)), 0, false⟩,
   ⟨(some 22), none, .pick (.t 18) (.c (.bool true)) (.t 21), 0, false⟩])
 (.cond (.t 22) (.seq (.reg [⟨(some 4), none, .mov (.c (.bool false)), 0, false⟩])
  (.ret))
  (.skip)))
 (.seq (.seq (.reg [⟨(some 23), none, .fadd 0 (.t 3), 0, false⟩,
   ⟨(some 24), none, .ld1 (.t 23), 0, false⟩])
 (.block 0 (.seq (.reg [⟨(some 26), none, .bin .eql (.t 24) (.c (.int .i64 1)), 0, false⟩,
   ⟨(some 25), none, .mov (.t 26), 0, false⟩])
 (.cond (.t 25) (.seq (.reg [⟨(some 27), none, .mov (.t 0), 0, false⟩,
    ⟨(some 28), none, .ldN 14 (.t 3), 0, false⟩,
    ⟨(some 29), none, .call 25 [(.t 27), (.t 28)], 0, false⟩,
    ⟨(some 4), none, .mov (.t 29), 0, false⟩])
  (.ret))
  (.seq (.reg [⟨(some 31), none, .bin .eql (.t 24) (.c (.int .i64 2)), 0, false⟩,
    ⟨(some 30), none, .mov (.t 31), 0, false⟩])
  (.cond (.t 30) (.seq (.reg [⟨(some 32), none, .mov (.t 0), 0, false⟩,
     ⟨(some 33), none, .ldN 14 (.t 3), 0, false⟩,
     ⟨(some 34), none, .call 26 [(.t 32), (.t 33), (.c (.int .i64 1))], 0, false⟩,
     ⟨(some 4), none, .mov (.t 34), 0, false⟩])
   (.ret))
   (.seq (.reg [⟨(some 36), none, .bin .eql (.t 24) (.c (.int .i64 3)), 0, false⟩,
     ⟨(some 35), none, .mov (.t 36), 0, false⟩])
   (.cond (.t 35) (.seq (.reg [⟨(some 37), none, .mov (.t 0), 0, false⟩,
      ⟨(some 38), none, .ldN 14 (.t 3), 0, false⟩,
      ⟨(some 39), none, .call 26 [(.t 37), (.t 38), (.c (.int .i64 2))], 0, false⟩,
      ⟨(some 4), none, .mov (.t 39), 0, false⟩])
    (.ret))
    (.seq (.reg [⟨(some 41), none, .bin .eql (.t 24) (.c (.int .i64 4)), 0, false⟩,
      ⟨(some 40), none, .mov (.t 41), 0, false⟩])
    (.cond (.t 40) (.seq (.reg [⟨(some 42), none, .mov (.t 0), 0, false⟩,
       ⟨(some 43), none, .ldN 14 (.t 3), 0, false⟩,
       ⟨(some 44), none, .call 27 [(.t 42), (.t 43)], 0, false⟩,
       ⟨(some 4), none, .mov (.t 44), 0, false⟩])
     (.ret))
     (.seq (.reg [⟨(some 46), none, .bin .eql (.t 24) (.c (.int .i64 5)), 0, false⟩,
       ⟨(some 45), none, .mov (.t 46), 0, false⟩])
     (.cond (.t 45) (.seq (.reg [⟨(some 47), none, .mov (.t 0), 0, false⟩,
        ⟨(some 48), none, .ldN 14 (.t 3), 0, false⟩,
        ⟨(some 49), none, .call 28 [(.t 47), (.t 48), (.c (.int .i64 0)), (.c (.int .i64 1))], 0, false⟩,
        ⟨(some 4), none, .mov (.t 49), 0, false⟩])
      (.ret))
      (.seq (.seq (.reg [⟨(some 51), none, .bin .eql (.t 24) (.c (.int .i64 7)), 0, false⟩,
        ⟨(some 50), none, .mov (.t 51), 0, false⟩])
      (.cond (.t 50) (.skip)
       (.reg [⟨(some 52), none, .bin .eql (.t 24) (.c (.int .i64 8)), 0, false⟩,
         ⟨(some 50), none, .mov (.t 52), 0, false⟩])))
      (.cond (.t 50) (.seq (.reg [⟨(some 53), none, .mov (.t 0), 0, false⟩,
         ⟨(some 54), none, .ldN 14 (.t 3), 0, false⟩,
         ⟨(some 55), none, .call 28 [(.t 53), (.t 54), (.c (.int .i64 0)), (.c (.int .i64 2))], 0, false⟩,
         ⟨(some 4), none, .mov (.t 55), 0, false⟩])
       (.ret))
       (.seq (.reg [⟨(some 57), none, .bin .eql (.t 24) (.c (.int .i64 6)), 0, false⟩,
         ⟨(some 56), none, .mov (.t 57), 0, false⟩])
       (.cond (.t 56) (.seq (.reg [⟨(some 58), none, .mov (.t 0), 0, false⟩,
          ⟨(some 59), none, .ldN 14 (.t 3), 0, false⟩,
          ⟨(some 60), none, .call 28 [(.t 58), (.t 59), (.c (.int .i64 1)), (.c (.int .i64 3))], 0, false⟩,
          ⟨(some 4), none, .mov (.t 60), 0, false⟩])
        (.ret))
        (.seq (.reg [⟨(some 62), none, .bin .eql (.t 24) (.c (.int .i64 9)), 0, false⟩,
          ⟨(some 61), none, .mov (.t 62), 0, false⟩])
        (.cond (.t 61) (.seq (.reg [⟨(some 4), none, .mov (.c (.bool true)), 0, false⟩])
         (.ret))
         (.skip)))))))))))))))))))
 (.seq (.reg [⟨(some 4), none, .mov (.c (.bool false)), 0, false⟩])
 (.ret))))⟩
theorem c22 : cFn Tryd.prog Tryd.f22 = some a22 := by kernel_rfl
def a23 : AFn := ⟨229, [.cell 4 14 true],
 .seq (.reg [⟨(some 3), none, .box 6 (.t 1), 0, false⟩,
   ⟨(some 4), none, .alloc [(.int .i64 0), (.int .i64 0), (.int .i64 0), (.int .i64 0), (.int .i64 0), (.int .i64 0), (.string ⟨#[]⟩), (.string ⟨#[]⟩), (.int .i64 0), (.int .i64 0), (.int .i64 0), (.string ⟨#[]⟩), (.string ⟨#[]⟩), (.bool false)] 14, 0, false⟩])
 (.seq (.reg [⟨(some 15), none, .fadd 1 (.t 3), 0, false⟩,
   ⟨(some 16), none, .ld1 (.t 15), 0, false⟩,
   ⟨(some 17), none, .cvI .u64 (.t 16), 0, false⟩,
   ⟨(some 18), none, .bin .rem (.t 17) (.c (.int .u64 3)), 0, false⟩,
   ⟨(some 19), none, .cvI .i64 (.t 18), 0, false⟩,
   ⟨(some 20), none, .fadd 2 (.t 3), 0, false⟩,
   ⟨(some 21), none, .ld1 (.t 20), 0, false⟩,
   ⟨(some 22), none, .cvI .u64 (.t 21), 0, false⟩,
   ⟨(some 23), none, .bin .rem (.t 22) (.c (.int .u64 2)), 0, false⟩,
   ⟨(some 24), none, .cvI .i64 (.t 23), 0, false⟩,
   ⟨(some 25), none, .fadd 3 (.t 3), 0, false⟩,
   ⟨(some 26), none, .ld1 (.t 25), 0, false⟩,
   ⟨(some 27), none, .bin .and (.t 26) (.c (.int .i64 1)), 0, false⟩,
   ⟨(some 28), none, .fadd 3 (.t 3), 0, false⟩,
   ⟨(some 29), none, .ld1 (.t 28), 0, false⟩,
   ⟨(some 30), none, .bin .and (.t 29) (.c (.int .i64 1)), 0, false⟩,
   ⟨(some 31), none, .bin .add (.c (.int .i64 1)) (.t 30), 0, false⟩,
   ⟨(some 32), none, .slStr (.c (.string ⟨#[97, 98]⟩)) (some (.t 27)) (some (.t 31)), 0, false⟩,
   ⟨(some 5), none, .mov (.t 19), 0, false⟩,
   ⟨(some 6), none, .mov (.t 24), 0, false⟩,
   ⟨(some 7), none, .mov (.t 32), 0, false⟩])
 (.seq (.reg [⟨(some 33), none, .mov (.t 5), 0, false⟩,
   ⟨(some 34), none, .mov (.t 6), 0, false⟩,
   ⟨(some 35), none, .mov (.t 7), 0, false⟩,
   ⟨(some 36), none, .build [(.int .i64 0), (.int .i64 0), (.int .i64 0), (.int .i64 0), (.int .i64 0), (.int .i64 0), (.string ⟨#[]⟩), (.string ⟨#[]⟩), (.int .i64 0), (.int .i64 0), (.int .i64 0), (.string ⟨#[]⟩), (.string ⟨#[]⟩), (.bool false)] [(1, 1, (.t 33)), (2, 1, (.t 34)), (6, 1, (.t 35))], 0, false⟩,
   ⟨(some 8), none, .alloc [(.int .i64 0), (.int .i64 0), (.int .i64 0), (.int .i64 0), (.int .i64 0), (.int .i64 0), (.string ⟨#[]⟩), (.string ⟨#[]⟩), (.int .i64 0), (.int .i64 0), (.int .i64 0), (.string ⟨#[]⟩), (.string ⟨#[]⟩), (.bool false)] 14, 0, false⟩,
   ⟨none, none, .st 14 (.t 8) (.t 36), 0, false⟩])
 (.seq (.seq (.reg [⟨(some 37), none, .fadd 0 (.t 3), 0, false⟩,
   ⟨(some 38), none, .ld1 (.t 37), 0, false⟩,
   ⟨(some 39), none, .cvI .u64 (.t 38), 0, false⟩,
   ⟨(some 40), none, .bin .rem (.t 39) (.c (.int .u64 8)), 0, false⟩,
   ⟨(some 41), none, .cvI .i64 (.t 40), 0, false⟩])
 (.block 0 (.seq (.seq (.reg [⟨(some 84), none, .bin .eql (.t 41) (.c (.int .i64 0)), 0, false⟩,
   ⟨(some 83), none, .mov (.t 84), 0, false⟩])
 (.cond (.t 83) (.skip)
  (.reg [⟨(some 85), none, .bin .eql (.t 41) (.c (.int .i64 1)), 0, false⟩,
    ⟨(some 83), none, .mov (.t 85), 0, false⟩])))
 (.cond (.t 83) (.seq (.reg [⟨(some 92), none, .fadd 0 (.t 8), 0, false⟩,
    ⟨none, none, .st 1 (.t 92) (.c (.int .i64 1)), 0, true⟩,
    ⟨(some 86), none, .fadd 4 (.t 3), 0, false⟩,
    ⟨(some 87), none, .ld1 (.t 86), 2, false⟩,
    ⟨(some 88), none, .cvI .u64 (.t 87), 0, false⟩,
    ⟨(some 89), none, .bin .rem (.t 88) (.c (.int .u64 2)), 0, false⟩,
    ⟨(some 90), none, .cvI .i64 (.t 89), 0, false⟩,
    ⟨(some 91), none, .bin .add (.c (.int .i64 1)) (.t 90), 0, false⟩,
    ⟨(some 93), none, .fadd 8 (.t 8), 0, false⟩,
    ⟨none, none, .st 1 (.t 93) (.t 91), 0, true⟩,
    ⟨(some 94), none, .fadd 7 (.t 8), 0, false⟩,
    ⟨none, none, .st 1 (.t 94) (.c (.string ⟨#[120]⟩)), 0, true⟩,
    ⟨(some 95), none, .fadd 3 (.t 8), 0, false⟩,
    ⟨none, none, .st 1 (.t 95) (.c (.int .i64 1)), 0, true⟩])
  (.seq (.reg [⟨(some 9), none, .mov (.c (.int .i64 0)), 0, false⟩])
  (.block 1 (.loop (.seq (.seq (.reg [⟨(some 96), none, .mov (.t 9), 0, false⟩,
     ⟨(some 97), none, .mov (.t 0), 0, false⟩,
     ⟨(some 98), none, .nilCheck (.t 97), 0, false⟩,
     ⟨(some 99), none, .fadd 1 (.t 98), 0, false⟩,
     ⟨(some 100), none, .ld1 (.t 99), 0, false⟩,
     ⟨(some 101), none, .lenSl (.t 100), 0, false⟩,
     ⟨(some 102), none, .bin .lss (.t 96) (.t 101), 0, false⟩])
   (.cond (.t 102) (.skip)
    (.exit 1)))
   (.seq (.block 2 (.seq (.reg [⟨(some 105), none, .mov (.t 0), 0, false⟩,
     ⟨(some 106), none, .nilCheck (.t 105), 0, false⟩,
     ⟨(some 107), none, .fadd 1 (.t 106), 0, false⟩,
     ⟨(some 108), none, .ld1 (.t 107), 0, false⟩,
     ⟨(some 109), none, .mov (.t 9), 0, false⟩,
     ⟨(some 110), none, .idxS 6 (.t 108) (.t 109), 0, false⟩,
     ⟨(some 111), none, .ldN 6 (.t 110), 0, false⟩,
     ⟨(some 10), none, .alloc [(.int .i64 0), (.int .i64 0), (.string ⟨#[]⟩), (.int .i64 0), (.int .i64 0), (.int .i64 0)] 6, 0, false⟩,
     ⟨none, none, .st 6 (.t 10) (.t 111), 0, false⟩])
   (.seq (.reg [⟨(some 112), none, .fadd 0 (.t 10), 0, false⟩,
     ⟨(some 113), none, .ld1 (.t 112), 0, false⟩,
     ⟨(some 114), none, .mov (.t 5), 0, false⟩,
     ⟨(some 115), none, .bin .eql (.t 113) (.t 114), 0, false⟩,
     ⟨(some 116), none, .mov (.t 115), 0, false⟩,
     ⟨(some 117), (some (116, true)), .fadd 1 (.t 10), 0, false⟩,
     ⟨(some 118), (some (116, true)), .ld1 (.t 117), 0, false⟩,
     ⟨(some 119), (some (116, true)), .mov (.t 6), 0, false⟩,
     ⟨(some 120), (some (116, true)), .bin .eql (.t 118) (.t 119), 0, false⟩,
     ⟨(some 121), none, .pick (.t 116) (.t 120) (.c (.bool false)), 0, false⟩,
     ⟨(some 122), none, .mov (.t 121), 0, false⟩,
     ⟨(some 123), (some (122, true)), .fadd 2 (.t 10), 0, false⟩,
     ⟨(some 124), (some (122, true)), .ld1 (.t 123), 0, false⟩,
     ⟨(some 125), (some (122, true)), .mov (.t 7), 0, false⟩,
     ⟨(some 126), (some (122, true)), .bin .eql (.t 124) (.t 125), 0, false⟩,
     ⟨(some 127), none, .pick (.t 122) (.t 126) (.c (.bool false)), 0, false⟩])
   (.cond (.t 127) (.reg [⟨(some 128), none, .fadd 3 (.t 10), 0, false⟩,
      ⟨(some 129), none, .ld1 (.t 128), 0, false⟩,
      ⟨(some 130), none, .fadd 4 (.t 10), 0, false⟩,
      ⟨(some 131), none, .ld1 (.t 130), 0, false⟩,
      ⟨(some 132), none, .bin .add (.t 129) (.t 131), 0, false⟩,
      ⟨(some 133), none, .fadd 3 (.t 8), 0, false⟩,
      ⟨none, none, .st 1 (.t 133) (.t 132), 0, false⟩])
    (.skip)))))
   (.reg [⟨(some 103), none, .mov (.t 9), 0, false⟩,
     ⟨(some 104), none, .bin .add (.t 103) (.c (.int .i64 1)), 0, false⟩,
     ⟨(some 9), none, .mov (.t 104), 0, false⟩])))))))
  (.seq (.seq (.reg [⟨(some 135), none, .bin .eql (.t 41) (.c (.int .i64 2)), 0, false⟩,
    ⟨(some 134), none, .mov (.t 135), 0, false⟩])
  (.cond (.t 134) (.skip)
   (.reg [⟨(some 136), none, .bin .eql (.t 41) (.c (.int .i64 3)), 0, false⟩,
     ⟨(some 134), none, .mov (.t 136), 0, false⟩])))
  (.cond (.t 134) (.seq (.reg [⟨(some 137), none, .fadd 0 (.t 8), 0, false⟩,
     ⟨none, none, .st 1 (.t 137) (.c (.int .i64 2)), 0, false⟩])
   (.seq (.seq (.reg [⟨(some 138), none, .fadd 5 (.t 3), 0, false⟩,
     ⟨(some 139), none, .ld1 (.t 138), 0, false⟩,
     ⟨(some 140), none, .bin .and (.t 139) (.c (.int .i64 7)), 0, false⟩,
     ⟨(some 141), none, .bin .eql (.t 140) (.c (.int .i64 1)), 0, false⟩])
   (.cond (.t 141) (.reg [⟨(some 142), none, .fadd 0 (.t 8), 0, false⟩,
      ⟨none, none, .st 1 (.t 142) (.c (.int .i64 3)), 0, false⟩])
    (.skip)))
   (.seq (.reg [⟨(some 143), none, .mov (.t 0), 0, false⟩,
     ⟨(some 144), none, .nilCheck (.t 143), 0, false⟩,
     ⟨(some 145), none, .fadd 1 (.t 144), 0, false⟩,
     ⟨(some 146), none, .ld1 (.t 145), 0, false⟩,
     ⟨(some 147), none, .lenSl (.t 146), 0, false⟩,
     ⟨(some 148), none, .bin .sub (.t 147) (.c (.int .i64 1)), 0, false⟩,
     ⟨(some 11), none, .mov (.t 148), 0, false⟩])
   (.block 3 (.loop (.seq (.seq (.reg [⟨(some 149), none, .mov (.t 11), 0, false⟩,
      ⟨(some 150), none, .bin .geq (.t 149) (.c (.int .i64 0)), 0, false⟩])
    (.cond (.t 150) (.skip)
     (.exit 3)))
    (.seq (.block 4 (.seq (.reg [⟨(some 153), none, .mov (.t 0), 0, false⟩,
      ⟨(some 154), none, .nilCheck (.t 153), 0, false⟩,
      ⟨(some 155), none, .fadd 1 (.t 154), 0, false⟩,
      ⟨(some 156), none, .ld1 (.t 155), 0, false⟩,
      ⟨(some 157), none, .mov (.t 11), 0, false⟩,
      ⟨(some 158), none, .idxS 6 (.t 156) (.t 157), 0, false⟩,
      ⟨(some 159), none, .ldN 6 (.t 158), 0, false⟩,
      ⟨(some 12), none, .alloc [(.int .i64 0), (.int .i64 0), (.string ⟨#[]⟩), (.int .i64 0), (.int .i64 0), (.int .i64 0)] 6, 0, false⟩,
      ⟨none, none, .st 6 (.t 12) (.t 159), 0, false⟩])
    (.seq (.reg [⟨(some 160), none, .fadd 5 (.t 12), 0, false⟩,
      ⟨(some 161), none, .ld1 (.t 160), 0, false⟩,
      ⟨(some 162), none, .bin .eql (.t 161) (.c (.int .i64 0)), 0, false⟩])
    (.cond (.t 162) (.reg [⟨(some 163), none, .fadd 0 (.t 12), 0, false⟩,
       ⟨(some 164), none, .ld1 (.t 163), 0, false⟩,
       ⟨(some 175), none, .fadd 1 (.t 8), 0, false⟩,
       ⟨none, none, .st 1 (.t 175) (.t 164), 0, true⟩,
       ⟨(some 165), none, .fadd 1 (.t 12), 0, false⟩,
       ⟨(some 166), none, .ld1 (.t 165), 2, false⟩,
       ⟨(some 176), none, .fadd 2 (.t 8), 0, false⟩,
       ⟨none, none, .st 1 (.t 176) (.t 166), 0, true⟩,
       ⟨(some 167), none, .fadd 2 (.t 12), 0, false⟩,
       ⟨(some 168), none, .ld1 (.t 167), 3, false⟩,
       ⟨(some 177), none, .fadd 6 (.t 8), 0, false⟩,
       ⟨none, none, .st 1 (.t 177) (.t 168), 0, true⟩,
       ⟨(some 169), none, .fadd 3 (.t 12), 0, false⟩,
       ⟨(some 170), none, .ld1 (.t 169), 4, false⟩,
       ⟨(some 171), none, .fadd 4 (.t 12), 0, false⟩,
       ⟨(some 172), none, .ld1 (.t 171), 4, false⟩,
       ⟨(some 173), none, .bin .add (.t 170) (.t 172), 0, false⟩,
       ⟨(some 174), none, .bin .sub (.t 173) (.c (.int .i64 1)), 0, false⟩,
       ⟨(some 178), none, .fadd 3 (.t 8), 0, false⟩,
       ⟨none, none, .st 1 (.t 178) (.t 174), 0, true⟩])
     (.skip)))))
    (.reg [⟨(some 151), none, .mov (.t 11), 0, false⟩,
      ⟨(some 152), none, .bin .sub (.t 151) (.c (.int .i64 1)), 0, false⟩,
      ⟨(some 11), none, .mov (.t 152), 0, false⟩]))))))))
   (.seq (.seq (.reg [⟨(some 180), none, .bin .eql (.t 41) (.c (.int .i64 4)), 0, false⟩,
     ⟨(some 179), none, .mov (.t 180), 0, false⟩])
   (.cond (.t 179) (.skip)
    (.reg [⟨(some 181), none, .bin .eql (.t 41) (.c (.int .i64 5)), 0, false⟩,
      ⟨(some 179), none, .mov (.t 181), 0, false⟩])))
   (.cond (.t 179) (.seq (.reg [⟨(some 193), none, .fadd 0 (.t 8), 0, false⟩,
      ⟨none, none, .st 1 (.t 193) (.c (.int .i64 4)), 0, true⟩,
      ⟨(some 182), none, .mov (.t 0), 0, false⟩,
      ⟨(some 183), none, .mov (.t 5), 0, false⟩,
      ⟨(some 184), none, .nilCheck (.t 182), 0, false⟩,
      ⟨(some 185), none, .fadd 3 (.t 184), 0, false⟩,
      ⟨(some 186), none, .idxA 1 4 (.t 185) (.t 183), 0, false⟩,
      ⟨(some 187), none, .ld1 (.t 186), 2, false⟩,
      ⟨(some 188), none, .bin .add (.t 187) (.c (.int .i64 1)), 0, false⟩,
      ⟨(some 189), none, .fadd 5 (.t 3), 0, false⟩,
      ⟨(some 190), none, .ld1 (.t 189), 2, false⟩,
      ⟨(some 191), none, .bin .and (.t 190) (.c (.int .i64 1)), 0, false⟩,
      ⟨(some 192), none, .bin .add (.t 188) (.t 191), 0, false⟩,
      ⟨(some 194), none, .fadd 4 (.t 8), 0, false⟩,
      ⟨none, none, .st 1 (.t 194) (.t 192), 0, true⟩])
    (.seq (.reg [⟨(some 195), none, .mov (.t 0), 0, false⟩,
      ⟨(some 196), none, .nilCheck (.t 195), 0, false⟩,
      ⟨(some 197), none, .fadd 2 (.t 196), 0, false⟩,
      ⟨(some 198), none, .ld1 (.t 197), 0, false⟩,
      ⟨(some 199), none, .lenSl (.t 198), 0, false⟩,
      ⟨(some 200), none, .bin .gtr (.t 199) (.c (.int .i64 0)), 0, false⟩])
    (.cond (.t 200) (.seq (.reg [⟨(some 201), none, .mov (.t 0), 0, false⟩,
       ⟨(some 202), none, .nilCheck (.t 201), 0, false⟩,
       ⟨(some 203), none, .fadd 2 (.t 202), 0, false⟩,
       ⟨(some 204), none, .ld1 (.t 203), 0, false⟩,
       ⟨(some 205), none, .fadd 5 (.t 3), 0, false⟩,
       ⟨(some 206), none, .ld1 (.t 205), 0, false⟩,
       ⟨(some 207), none, .cvI .u64 (.t 206), 0, false⟩,
       ⟨(some 208), none, .mov (.t 0), 0, false⟩,
       ⟨(some 209), none, .nilCheck (.t 208), 0, false⟩,
       ⟨(some 210), none, .fadd 2 (.t 209), 0, false⟩,
       ⟨(some 211), none, .ld1 (.t 210), 0, false⟩,
       ⟨(some 212), none, .lenSl (.t 211), 0, false⟩,
       ⟨(some 213), none, .cvI .u64 (.t 212), 0, false⟩,
       ⟨(some 214), none, .bin .rem (.t 207) (.t 213), 0, false⟩,
       ⟨(some 215), none, .cvI .i64 (.t 214), 0, false⟩,
       ⟨(some 216), none, .idxS 11 (.t 204) (.t 215), 0, false⟩,
       ⟨(some 217), none, .ldN 11 (.t 216), 0, false⟩,
       ⟨(some 13), none, .alloc [(.int .i64 0), (.int .i64 0), (.int .i64 0), (.int .i64 0), (.string ⟨#[]⟩), (.string ⟨#[]⟩), (.bool false), (.bool false), (.bool false), (.bool false), (.bool false)] 11, 0, false⟩,
       ⟨none, none, .st 11 (.t 13) (.t 217), 0, true⟩])
     (.seq (.reg [⟨(some 218), none, .fadd 0 (.t 13), 0, false⟩,
       ⟨(some 219), none, .ld1 (.t 218), 0, false⟩,
       ⟨(some 222), none, .fadd 2 (.t 8), 0, false⟩,
       ⟨none, none, .st 1 (.t 222) (.t 219), 0, true⟩,
       ⟨(some 220), none, .fadd 2 (.t 13), 0, false⟩,
       ⟨(some 221), none, .ldN 5 (.t 220), 2, false⟩,
       ⟨(some 223), none, .fadd 9 (.t 8), 0, false⟩,
       ⟨none, none, .st 5 (.t 223) (.t 221), 0, true⟩])
     (.reg [⟨(some 224), none, .fadd 7 (.t 13), 0, false⟩,
       ⟨(some 225), none, .ld1 (.t 224), 0, false⟩,
       ⟨(some 226), none, .fadd 9 (.t 8), 0, false⟩,
       ⟨(some 227), none, .fadd 4 (.t 226), 0, false⟩,
       ⟨none, none, .st 1 (.t 227) (.t 225), 0, false⟩])))
     (.skip))))
    (.seq (.reg [⟨(some 42), none, .buildSlice 1 5 [(.int .i64 0)] [(0, 1, (.c (.int .i64 5))), (1, 1, (.c (.int .i64 7))), (2, 1, (.c (.int .i64 6))), (3, 1, (.c (.int .i64 8))), (4, 1, (.c (.int .i64 9)))], 0, false⟩,
      ⟨(some 43), none, .fadd 4 (.t 3), 0, false⟩,
      ⟨(some 44), none, .ld1 (.t 43), 0, false⟩,
      ⟨(some 45), none, .cvI .u64 (.t 44), 0, false⟩,
      ⟨(some 46), none, .bin .rem (.t 45) (.c (.int .u64 5)), 0, false⟩,
      ⟨(some 47), none, .cvI .i64 (.t 46), 0, false⟩,
      ⟨(some 48), none, .idxS 1 (.t 42) (.t 47), 0, false⟩,
      ⟨(some 49), none, .ld1 (.t 48), 0, false⟩,
      ⟨(some 50), none, .fadd 0 (.t 8), 0, false⟩,
      ⟨none, none, .st 1 (.t 50) (.t 49), 0, false⟩])
    (.seq (.reg [⟨(some 51), none, .mov (.t 0), 0, false⟩,
      ⟨(some 52), none, .nilCheck (.t 51), 0, false⟩,
      ⟨(some 53), none, .fadd 7 (.t 52), 0, false⟩,
      ⟨(some 54), none, .ld1 (.t 53), 0, false⟩,
      ⟨(some 55), none, .lenSl (.t 54), 0, false⟩,
      ⟨(some 56), none, .bin .gtr (.t 55) (.c (.int .i64 0)), 0, false⟩])
    (.cond (.t 56) (.seq (.reg [⟨(some 57), none, .mov (.t 0), 0, false⟩,
       ⟨(some 58), none, .nilCheck (.t 57), 0, false⟩,
       ⟨(some 59), none, .fadd 7 (.t 58), 0, false⟩,
       ⟨(some 60), none, .ld1 (.t 59), 0, false⟩,
       ⟨(some 61), none, .fadd 5 (.t 3), 0, false⟩,
       ⟨(some 62), none, .ld1 (.t 61), 0, false⟩,
       ⟨(some 63), none, .cvI .u64 (.t 62), 0, false⟩,
       ⟨(some 64), none, .mov (.t 0), 0, false⟩,
       ⟨(some 65), none, .nilCheck (.t 64), 0, false⟩,
       ⟨(some 66), none, .fadd 7 (.t 65), 0, false⟩,
       ⟨(some 67), none, .ld1 (.t 66), 0, false⟩,
       ⟨(some 68), none, .lenSl (.t 67), 0, false⟩,
       ⟨(some 69), none, .cvI .u64 (.t 68), 0, false⟩,
       ⟨(some 70), none, .bin .rem (.t 63) (.t 69), 0, false⟩,
       ⟨(some 71), none, .cvI .i64 (.t 70), 0, false⟩,
       ⟨(some 72), none, .idxS 5 (.t 60) (.t 71), 0, false⟩,
       ⟨(some 73), none, .ldN 5 (.t 72), 0, false⟩,
       ⟨(some 14), none, .alloc [(.int .i64 0), (.int .i64 0), (.int .i64 0), (.int .i64 0), (.int .i64 0)] 5, 0, false⟩,
       ⟨none, none, .st 5 (.t 14) (.t 73), 0, true⟩])
     (.reg [⟨(some 74), none, .fadd 0 (.t 14), 0, false⟩,
       ⟨(some 75), none, .ld1 (.t 74), 0, false⟩,
       ⟨(some 80), none, .fadd 1 (.t 8), 0, false⟩,
       ⟨none, none, .st 1 (.t 80) (.t 75), 0, true⟩,
       ⟨(some 76), none, .fadd 1 (.t 14), 0, false⟩,
       ⟨(some 77), none, .ld1 (.t 76), 2, false⟩,
       ⟨(some 81), none, .fadd 2 (.t 8), 0, false⟩,
       ⟨none, none, .st 1 (.t 81) (.t 77), 0, true⟩,
       ⟨(some 78), none, .fadd 2 (.t 14), 0, false⟩,
       ⟨(some 79), none, .ld1 (.t 78), 3, false⟩,
       ⟨(some 82), none, .fadd 4 (.t 8), 0, false⟩,
       ⟨none, none, .st 1 (.t 82) (.t 79), 0, true⟩]))
     (.skip))))))))))))
 (.seq (.reg [⟨(some 228), none, .ldN 14 (.t 8), 0, false⟩,
   ⟨none, none, .st 14 (.t 4) (.t 228), 0, false⟩])
 (.ret)))))⟩
theorem c23 : cFn Tryd.prog Tryd.f23 = some a23 := by kernel_rfl
def a24 : AFn := ⟨60, [.tmp 4],
 .seq (.reg [⟨(some 3), none, .box 14 (.t 1), 0, false⟩,
   ⟨(some 4), none, .mov (.c (.bool false)), 0, false⟩])
 (.seq (.seq (.reg [⟨(some 5), none, .fadd 1 (.t 3), 0, false⟩,
   ⟨(some 6), none, .ld1 (.t 5), 0, false⟩,
   ⟨(some 7), none, .bin .lss (.t 6) (.c (.int .i64 0)), 0, false⟩,
   ⟨(some 8), none, .mov (.t 7), 0, false⟩,
   ⟨(some 9), (some (8, false)), .fadd 1 (.t 3), 0, false⟩,
   ⟨(some 10), (some (8, false)), .ld1 (.t 9), 0, false⟩,
   ⟨(some 11), (some (8, false)), .bin .geq (.t 10) (.c (.int .i64 4)), 0, false⟩,
   ⟨(some 12), none, .pick (.t 8) (.c (.bool true)) (.t 11), 0, false⟩,
   ⟨(some 13), none, .mov (.t 12), 0, false⟩,
   ⟨(some 14), (some (13, false)), .fadd 2 (.t 3), 0, false⟩,
   ⟨(some 15), (some (13, false)), .ld1 (.t 14), 0, false⟩,
   ⟨(some 16), (some (13, false)), .bin .lss (.t 15) (.c (.int .i64 0)), 0, false⟩,
   ⟨(some 17), none, .pick (.t 13) (.c (.bool true)) (.t 16), 0, false⟩,
   ⟨(some 18), none, .mov (.t 17), 0, false⟩,
   ⟨(some 19), (some (18, false)), .fadd 2 (.t 3), 0, false⟩,
   ⟨(some 20), (some (18, false)), .ld1 (.t 19), 0, false⟩,
   ⟨(some 21), (some (18, false)), .bin .geq (.t 20) (.c (.int .i64 4)), 0, false⟩,
   ⟨(some 22), none, .pick (.t 18) (.c (.bool true)) (.t 21), 0, false⟩])
 (.cond (.t 22) (.seq (.reg [⟨(some 4), none, .mov (.c (.bool false)), 0, false⟩])
  (.ret))
  (.skip)))
 (.seq (.seq (.reg [⟨(some 23), none, .fadd 0 (.t 3), 0, false⟩,
   ⟨(some 24), none, .ld1 (.t 23), 0, false⟩])
 (.block 0 (.seq (.reg [⟨(some 26), none, .bin .eql (.t 24) (.c (.int .i64 1)), 0, false⟩,
   ⟨(some 25), none, .mov (.t 26), 0, false⟩])
 (.cond (.t 25) (.seq (.reg [⟨(some 27), none, .mov (.t 0), 0, false⟩,
    ⟨(some 28), none, .ldN 14 (.t 3), 0, false⟩,
    ⟨(some 29), none, .call 29 [(.t 27), (.t 28)], 0, false⟩,
    ⟨(some 4), none, .mov (.t 29), 0, false⟩])
  (.ret))
  (.seq (.reg [⟨(some 31), none, .bin .eql (.t 24) (.c (.int .i64 2)), 0, false⟩,
    ⟨(some 30), none, .mov (.t 31), 0, false⟩])
  (.cond (.t 30) (.seq (.reg [⟨(some 32), none, .mov (.t 0), 0, false⟩,
     ⟨(some 33), none, .ldN 14 (.t 3), 0, false⟩,
     ⟨(some 34), none, .call 30 [(.t 32), (.t 33), (.c (.int .i64 1))], 0, false⟩,
     ⟨(some 4), none, .mov (.t 34), 0, false⟩])
   (.ret))
   (.seq (.reg [⟨(some 36), none, .bin .eql (.t 24) (.c (.int .i64 3)), 0, false⟩,
     ⟨(some 35), none, .mov (.t 36), 0, false⟩])
   (.cond (.t 35) (.seq (.reg [⟨(some 37), none, .mov (.t 0), 0, false⟩,
      ⟨(some 38), none, .ldN 14 (.t 3), 0, false⟩,
      ⟨(some 39), none, .call 30 [(.t 37), (.t 38), (.c (.int .i64 2))], 0, false⟩,
      ⟨(some 4), none, .mov (.t 39), 0, false⟩])
    (.ret))
    (.seq (.reg [⟨(some 41), none, .bin .eql (.t 24) (.c (.int .i64 4)), 0, false⟩,
      ⟨(some 40), none, .mov (.t 41), 0, false⟩])
    (.cond (.t 40) (.seq (.reg [⟨(some 42), none, .mov (.t 0), 0, false⟩,
       ⟨(some 43), none, .ldN 14 (.t 3), 0, false⟩,
       ⟨(some 44), none, .call 31 [(.t 42), (.t 43)], 0, false⟩,
       ⟨(some 4), none, .mov (.t 44), 0, false⟩])
     (.ret))
     (.seq (.seq (.reg [⟨(some 46), none, .bin .eql (.t 24) (.c (.int .i64 5)), 0, false⟩,
       ⟨(some 45), none, .mov (.t 46), 0, false⟩])
     (.cond (.t 45) (.skip)
      (.seq (.reg [⟨(some 47), none, .bin .eql (.t 24) (.c (.int .i64 7)), 0, false⟩,
        ⟨(some 45), none, .mov (.t 47), 0, false⟩])
      (.cond (.t 45) (.skip)
       (.reg [⟨(some 48), none, .bin .eql (.t 24) (.c (.int .i64 8)), 0, false⟩,
         ⟨(some 45), none, .mov (.t 48), 0, false⟩])))))
     (.cond (.t 45) (.seq (.reg [⟨(some 49), none, .mov (.t 0), 0, false⟩,
        ⟨(some 50), none, .ldN 14 (.t 3), 0, false⟩,
        ⟨(some 51), none, .call 32 [(.t 49), (.t 50)], 0, false⟩,
        ⟨(some 4), none, .mov (.t 51), 0, false⟩])
      (.ret))
      (.seq (.reg [⟨(some 53), none, .bin .eql (.t 24) (.c (.int .i64 6)), 0, false⟩,
        ⟨(some 52), none, .mov (.t 53), 0, false⟩])
      (.cond (.t 52) (.seq (.reg [⟨(some 54), none, .mov (.t 0), 0, false⟩,
         ⟨(some 55), none, .ldN 14 (.t 3), 0, false⟩,
         ⟨(some 56), none, .call 33 [(.t 54), (.t 55)], 0, false⟩,
         ⟨(some 4), none, .mov (.t 56), 0, false⟩])
       (.ret))
       (.skip)))))))))))))))
 (.seq (.reg [⟨(some 57), none, .fadd 0 (.t 3), 0, false⟩,
   ⟨(some 58), none, .ld1 (.t 57), 0, false⟩,
   ⟨(some 59), none, .bin .eql (.t 58) (.c (.int .i64 9)), 0, false⟩,
   ⟨(some 4), none, .mov (.t 59), 0, false⟩])
 (.ret))))⟩
theorem c24 : cFn Tryd.prog Tryd.f24 = some a24 := by kernel_rfl
def a25 : AFn := ⟨123, [.tmp 4],
 .seq (.reg [⟨(some 3), none, .box 14 (.t 1), 0, false⟩,
   ⟨(some 4), none, .mov (.c (.bool false)), 0, false⟩])
 (.seq (.reg [⟨(some 5), none, .mov (.c (.int .i64 0)), 0, false⟩])
 (.seq (.seq (.reg [⟨(some 6), none, .mov (.c (.int .i64 0)), 0, false⟩])
 (.block 0 (.loop (.seq (.seq (.reg [⟨(some 9), none, .mov (.t 6), 0, false⟩,
    ⟨(some 10), none, .mov (.t 0), 0, false⟩,
    ⟨(some 11), none, .nilCheck (.t 10), 0, false⟩,
    ⟨(some 12), none, .fadd 1 (.t 11), 0, false⟩,
    ⟨(some 13), none, .ld1 (.t 12), 0, false⟩,
    ⟨(some 14), none, .lenSl (.t 13), 0, false⟩,
    ⟨(some 15), none, .bin .lss (.t 9) (.t 14), 0, false⟩])
  (.cond (.t 15) (.skip)
   (.exit 0)))
  (.seq (.block 1 (.seq (.reg [⟨(some 18), none, .mov (.t 0), 0, false⟩,
    ⟨(some 19), none, .nilCheck (.t 18), 0, false⟩,
    ⟨(some 20), none, .fadd 1 (.t 19), 0, false⟩,
    ⟨(some 21), none, .ld1 (.t 20), 0, false⟩,
    ⟨(some 22), none, .mov (.t 6), 0, false⟩,
    ⟨(some 23), none, .idxS 6 (.t 21) (.t 22), 0, false⟩,
    ⟨(some 24), none, .ldN 6 (.t 23), 0, false⟩,
    ⟨(some 7), none, .alloc [(.int .i64 0), (.int .i64 0), (.string ⟨#[]⟩), (.int .i64 0), (.int .i64 0), (.int .i64 0)] 6, 0, false⟩,
    ⟨none, none, .st 6 (.t 7) (.t 24), 0, false⟩])
  (.seq (.reg [⟨(some 25), none, .fadd 0 (.t 7), 0, false⟩,
    ⟨(some 26), none, .ld1 (.t 25), 0, false⟩,
    ⟨(some 27), none, .fadd 1 (.t 3), 0, false⟩,
    ⟨(some 28), none, .ld1 (.t 27), 0, false⟩,
    ⟨(some 29), none, .bin .eql (.t 26) (.t 28), 0, false⟩,
    ⟨(some 30), none, .mov (.t 29), 0, false⟩,
    ⟨(some 31), (some (30, true)), .fadd 1 (.t 7), 0, false⟩,
    ⟨(some 32), (some (30, true)), .ld1 (.t 31), 0, false⟩,
    ⟨(some 33), (some (30, true)), .fadd 2 (.t 3), 0, false⟩,
    ⟨(some 34), (some (30, true)), .ld1 (.t 33), 0, false⟩,
    ⟨(some 35), (some (30, true)), .bin .eql (.t 32) (.t 34), 0, false⟩,
    ⟨(some 36), none, .pick (.t 30) (.t 35) (.c (.bool false)), 0, false⟩,
    ⟨(some 37), none, .mov (.t 36), 0, false⟩,
    ⟨(some 38), (some (37, true)), .fadd 2 (.t 7), 0, false⟩,
    ⟨(some 39), (some (37, true)), .ld1 (.t 38), 0, false⟩,
    ⟨(some 40), (some (37, true)), .fadd 6 (.t 3), 0, false⟩,
    ⟨(some 41), (some (37, true)), .ld1 (.t 40), 0, false⟩,
    ⟨(some 42), (some (37, true)), .bin .eql (.t 39) (.t 41), 0, false⟩,
    ⟨(some 43), none, .pick (.t 37) (.t 42) (.c (.bool false)), 0, false⟩])
  (.cond (.t 43) (.reg [⟨(some 44), none, .fadd 3 (.t 7), 0, false⟩,
     ⟨(some 45), none, .ld1 (.t 44), 0, false⟩,
     ⟨(some 46), none, .fadd 4 (.t 7), 0, false⟩,
     ⟨(some 47), none, .ld1 (.t 46), 0, false⟩,
     ⟨(some 48), none, .bin .add (.t 45) (.t 47), 0, false⟩,
     ⟨(some 49), none, .bin .sub (.t 48) (.c (.int .i64 1)), 0, false⟩,
     ⟨(some 5), none, .mov (.t 49), 0, false⟩])
   (.skip)))))
  (.reg [⟨(some 16), none, .mov (.t 6), 0, false⟩,
    ⟨(some 17), none, .bin .add (.t 16) (.c (.int .i64 1)), 0, false⟩,
    ⟨(some 6), none, .mov (.t 17), 0, false⟩]))))))
 (.seq (.seq (.reg [⟨(some 50), none, .fadd 8 (.t 3), 0, false⟩,
   ⟨(some 51), none, .ld1 (.t 50), 0, false⟩,
   ⟨(some 52), none, .bin .lss (.t 51) (.c (.int .i64 1)), 0, false⟩,
   ⟨(some 53), none, .mov (.t 52), 0, false⟩,
   ⟨(some 54), (some (53, false)), .fadd 8 (.t 3), 0, false⟩,
   ⟨(some 55), (some (53, false)), .ld1 (.t 54), 0, false⟩,
   ⟨(some 56), (some (53, false)), .bin .gtr (.t 55) (.c (.int .i64 8)), 0, false⟩,
   ⟨(some 57), none, .pick (.t 53) (.c (.bool true)) (.t 56), 0, false⟩,
   ⟨(some 58), none, .mov (.t 57), 0, false⟩,
   ⟨(some 59), (some (58, false)), .fadd 3 (.t 3), 0, false⟩,
   ⟨(some 60), (some (58, false)), .ld1 (.t 59), 0, false⟩,
   ⟨(some 61), (some (58, false)), .mov (.t 5), 0, false⟩,
   ⟨(some 62), (some (58, false)), .bin .add (.t 61) (.c (.int .i64 1)), 0, false⟩,
   ⟨(some 63), (some (58, false)), .bin .neq (.t 60) (.t 62), 0, false⟩,
   ⟨(some 64), none, .pick (.t 58) (.c (.bool true)) (.t 63), 0, false⟩])
 (.cond (.t 64) (.seq (.reg [⟨(some 4), none, .mov (.c (.bool false)), 0, false⟩])
  (.ret))
  (.skip)))
 (.seq (.seq (.reg [⟨(some 8), none, .mov (.c (.int .i64 0)), 0, false⟩])
 (.block 2 (.loop (.seq (.seq (.reg [⟨(some 65), none, .mov (.t 8), 0, false⟩,
    ⟨(some 66), none, .fadd 8 (.t 3), 0, false⟩,
    ⟨(some 67), none, .ld1 (.t 66), 0, false⟩,
    ⟨(some 68), none, .bin .lss (.t 65) (.t 67), 0, false⟩])
  (.cond (.t 68) (.skip)
   (.exit 2)))
  (.seq (.block 3 (.reg [⟨(some 91), none, .fadd 7 (.t 3), 0, false⟩,
    ⟨(some 92), none, .ld1 (.t 91), 0, false⟩,
    ⟨(some 93), none, .fadd 8 (.t 3), 0, false⟩,
    ⟨(some 94), none, .ld1 (.t 93), 0, false⟩,
    ⟨(some 95), none, .mov (.t 8), 0, false⟩,
    ⟨(some 96), none, .call 34 [(.t 92), (.t 94), (.t 95)], 0, true⟩,
    ⟨(some 72), none, .mov (.t 0), 0, false⟩,
    ⟨(some 73), none, .nilCheck (.t 72), 0, false⟩,
    ⟨(some 74), none, .fadd 2 (.t 73), 0, false⟩,
    ⟨(some 75), none, .ld1 (.t 74), 2, false⟩,
    ⟨(some 76), none, .fadd 2 (.t 3), 0, false⟩,
    ⟨(some 77), none, .ld1 (.t 76), 2, false⟩,
    ⟨(some 78), none, .mov (.t 0), 0, false⟩,
    ⟨(some 79), none, .nilCheck (.t 78), 0, false⟩,
    ⟨(some 80), none, .fadd 1 (.t 79), 0, false⟩,
    ⟨(some 81), none, .ld1 (.t 80), 2, false⟩,
    ⟨(some 82), none, .lenSl (.t 81), 0, false⟩,
    ⟨(some 83), none, .fadd 1 (.t 3), 0, false⟩,
    ⟨(some 84), none, .ld1 (.t 83), 2, false⟩,
    ⟨(some 85), none, .fadd 3 (.t 3), 0, false⟩,
    ⟨(some 86), none, .ld1 (.t 85), 2, false⟩,
    ⟨(some 87), none, .mov (.t 8), 0, false⟩,
    ⟨(some 88), none, .bin .add (.t 86) (.t 87), 0, false⟩,
    ⟨(some 89), none, .fadd 6 (.t 3), 0, false⟩,
    ⟨(some 90), none, .ld1 (.t 89), 2, false⟩,
    ⟨(some 97), none, .build [(.int .i64 0), (.int .i64 0), (.string ⟨#[]⟩), (.string ⟨#[]⟩), (.bool false)] [(0, 1, (.t 84)), (1, 1, (.t 88)), (2, 1, (.t 90)), (3, 1, (.t 96))], 0, false⟩,
    ⟨(some 98), none, .build [(.int .i64 0), (.int .i64 0), (.int .i64 0), (.int .i64 0), (.string ⟨#[]⟩), (.string ⟨#[]⟩), (.bool false), (.bool false), (.bool false), (.bool false), (.bool false)] [(0, 1, (.t 77)), (1, 1, (.t 82)), (2, 5, (.t 97))], 0, false⟩,
    ⟨(some 99), none, .buildSlice 11 1 [(.int .i64 0), (.int .i64 0), (.int .i64 0), (.int .i64 0), (.string ⟨#[]⟩), (.string ⟨#[]⟩), (.bool false), (.bool false), (.bool false), (.bool false), (.bool false)] [(0, 11, (.t 98))], 0, false⟩,
    ⟨(some 100), none, .append 11 80 (.t 75) (.t 99), 0, true⟩,
    ⟨(some 71), none, .mov (.t 0), 0, false⟩,
    ⟨(some 101), none, .nilCheck (.t 71), 0, false⟩,
    ⟨(some 102), none, .fadd 2 (.t 101), 0, false⟩,
    ⟨none, none, .st 1 (.t 102) (.t 100), 0, true⟩]))
  (.reg [⟨(some 69), none, .mov (.t 8), 0, false⟩,
    ⟨(some 70), none, .bin .add (.t 69) (.c (.int .i64 1)), 0, false⟩,
    ⟨(some 8), none, .mov (.t 70), 0, false⟩]))))))
 (.seq (.reg [⟨(some 104), none, .mov (.t 0), 0, false⟩,
   ⟨(some 105), none, .nilCheck (.t 104), 0, false⟩,
   ⟨(some 106), none, .fadd 1 (.t 105), 0, false⟩,
   ⟨(some 107), none, .ld1 (.t 106), 0, false⟩,
   ⟨(some 108), none, .fadd 1 (.t 3), 0, false⟩,
   ⟨(some 109), none, .ld1 (.t 108), 0, false⟩,
   ⟨(some 110), none, .fadd 2 (.t 3), 0, false⟩,
   ⟨(some 111), none, .ld1 (.t 110), 0, false⟩,
   ⟨(some 112), none, .fadd 6 (.t 3), 0, false⟩,
   ⟨(some 113), none, .ld1 (.t 112), 0, false⟩,
   ⟨(some 114), none, .fadd 3 (.t 3), 0, false⟩,
   ⟨(some 115), none, .ld1 (.t 114), 0, false⟩,
   ⟨(some 116), none, .fadd 8 (.t 3), 0, false⟩,
   ⟨(some 117), none, .ld1 (.t 116), 0, false⟩,
   ⟨(some 118), none, .build [(.int .i64 0), (.int .i64 0), (.string ⟨#[]⟩), (.int .i64 0), (.int .i64 0), (.int .i64 0)] [(0, 1, (.t 109)), (1, 1, (.t 111)), (2, 1, (.t 113)), (3, 1, (.t 115)), (4, 1, (.t 117))], 0, false⟩,
   ⟨(some 119), none, .buildSlice 6 1 [(.int .i64 0), (.int .i64 0), (.string ⟨#[]⟩), (.int .i64 0), (.int .i64 0), (.int .i64 0)] [(0, 6, (.t 118))], 0, false⟩,
   ⟨(some 120), none, .append 6 56 (.t 107) (.t 119), 0, true⟩,
   ⟨(some 103), none, .mov (.t 0), 0, false⟩,
   ⟨(some 121), none, .nilCheck (.t 103), 0, false⟩,
   ⟨(some 122), none, .fadd 1 (.t 121), 0, false⟩,
   ⟨none, none, .st 1 (.t 122) (.t 120), 0, true⟩])
 (.seq (.reg [⟨(some 4), none, .mov (.c (.bool true)), 0, false⟩])
 (.ret)))))))⟩
theorem c25 : cFn Tryd.prog Tryd.f25 = some a25 := by kernel_rfl
def a26 : AFn := ⟨66, [.tmp 6],
 .seq (.reg [⟨(some 4), none, .box 14 (.t 1), 0, false⟩,
   ⟨(some 6), none, .mov (.c (.bool false)), 0, false⟩])
 (.seq (.seq (.reg [⟨(some 7), none, .mov (.c (.int .i64 0)), 0, false⟩])
 (.block 0 (.loop (.seq (.seq (.reg [⟨(some 9), none, .mov (.t 7), 0, false⟩,
    ⟨(some 10), none, .mov (.t 0), 0, false⟩,
    ⟨(some 11), none, .nilCheck (.t 10), 0, false⟩,
    ⟨(some 12), none, .fadd 1 (.t 11), 0, false⟩,
    ⟨(some 13), none, .ld1 (.t 12), 0, false⟩,
    ⟨(some 14), none, .lenSl (.t 13), 0, false⟩,
    ⟨(some 15), none, .bin .lss (.t 9) (.t 14), 0, false⟩])
  (.cond (.t 15) (.skip)
   (.exit 0)))
  (.seq (.block 1 (.seq (.reg [⟨(some 18), none, .mov (.t 0), 0, false⟩,
    ⟨(some 19), none, .nilCheck (.t 18), 0, false⟩,
    ⟨(some 20), none, .fadd 1 (.t 19), 0, false⟩,
    ⟨(some 21), none, .ld1 (.t 20), 0, false⟩,
    ⟨(some 22), none, .mov (.t 7), 0, false⟩,
    ⟨(some 23), none, .idxS 6 (.t 21) (.t 22), 0, false⟩,
    ⟨(some 24), none, .ldN 6 (.t 23), 0, false⟩,
    ⟨(some 8), none, .alloc [(.int .i64 0), (.int .i64 0), (.string ⟨#[]⟩), (.int .i64 0), (.int .i64 0), (.int .i64 0)] 6, 0, false⟩,
    ⟨none, none, .st 6 (.t 8) (.t 24), 0, false⟩])
  (.seq (.reg [⟨(some 25), none, .fadd 0 (.t 8), 0, false⟩,
    ⟨(some 26), none, .ld1 (.t 25), 0, false⟩,
    ⟨(some 27), none, .fadd 1 (.t 4), 0, false⟩,
    ⟨(some 28), none, .ld1 (.t 27), 0, false⟩,
    ⟨(some 29), none, .bin .eql (.t 26) (.t 28), 0, false⟩,
    ⟨(some 30), none, .mov (.t 29), 0, false⟩,
    ⟨(some 31), (some (30, true)), .fadd 1 (.t 8), 0, false⟩,
    ⟨(some 32), (some (30, true)), .ld1 (.t 31), 0, false⟩,
    ⟨(some 33), (some (30, true)), .fadd 2 (.t 4), 0, false⟩,
    ⟨(some 34), (some (30, true)), .ld1 (.t 33), 0, false⟩,
    ⟨(some 35), (some (30, true)), .bin .eql (.t 32) (.t 34), 0, false⟩,
    ⟨(some 36), none, .pick (.t 30) (.t 35) (.c (.bool false)), 0, false⟩,
    ⟨(some 37), none, .mov (.t 36), 0, false⟩,
    ⟨(some 38), (some (37, true)), .fadd 2 (.t 8), 0, false⟩,
    ⟨(some 39), (some (37, true)), .ld1 (.t 38), 0, false⟩,
    ⟨(some 40), (some (37, true)), .fadd 6 (.t 4), 0, false⟩,
    ⟨(some 41), (some (37, true)), .ld1 (.t 40), 0, false⟩,
    ⟨(some 42), (some (37, true)), .bin .eql (.t 39) (.t 41), 0, false⟩,
    ⟨(some 43), none, .pick (.t 37) (.t 42) (.c (.bool false)), 0, false⟩,
    ⟨(some 44), none, .mov (.t 43), 0, false⟩,
    ⟨(some 45), (some (44, true)), .fadd 5 (.t 8), 0, false⟩,
    ⟨(some 46), (some (44, true)), .ld1 (.t 45), 0, false⟩,
    ⟨(some 47), (some (44, true)), .bin .eql (.t 46) (.c (.int .i64 0)), 0, false⟩,
    ⟨(some 48), none, .pick (.t 44) (.t 47) (.c (.bool false)), 0, false⟩])
  (.cond (.t 48) (.seq (.seq (.reg [⟨(some 49), none, .fadd 3 (.t 8), 0, false⟩,
     ⟨(some 50), none, .ld1 (.t 49), 0, false⟩,
     ⟨(some 51), none, .fadd 4 (.t 8), 0, false⟩,
     ⟨(some 52), none, .ld1 (.t 51), 0, false⟩,
     ⟨(some 53), none, .bin .add (.t 50) (.t 52), 0, false⟩,
     ⟨(some 54), none, .bin .sub (.t 53) (.c (.int .i64 1)), 0, false⟩,
     ⟨(some 55), none, .fadd 3 (.t 4), 0, false⟩,
     ⟨(some 56), none, .ld1 (.t 55), 0, false⟩,
     ⟨(some 57), none, .bin .neq (.t 54) (.t 56), 0, false⟩])
   (.cond (.t 57) (.seq (.reg [⟨(some 6), none, .mov (.c (.bool false)), 0, false⟩])
    (.ret))
    (.skip)))
   (.seq (.reg [⟨(some 58), none, .mov (.t 0), 0, false⟩,
     ⟨(some 59), none, .nilCheck (.t 58), 0, false⟩,
     ⟨(some 60), none, .fadd 1 (.t 59), 0, false⟩,
     ⟨(some 61), none, .ld1 (.t 60), 0, false⟩,
     ⟨(some 62), none, .mov (.t 7), 0, false⟩,
     ⟨(some 63), none, .mov (.t 2), 0, false⟩,
     ⟨(some 64), none, .idxS 6 (.t 61) (.t 62), 0, false⟩,
     ⟨(some 65), none, .fadd 5 (.t 64), 0, false⟩,
     ⟨none, none, .st 1 (.t 65) (.t 63), 0, false⟩])
   (.seq (.reg [⟨(some 6), none, .mov (.c (.bool true)), 0, false⟩])
   (.ret))))
   (.skip)))))
  (.reg [⟨(some 16), none, .mov (.t 7), 0, false⟩,
    ⟨(some 17), none, .bin .add (.t 16) (.c (.int .i64 1)), 0, false⟩,
    ⟨(some 7), none, .mov (.t 17), 0, false⟩]))))))
 (.seq (.reg [⟨(some 6), none, .mov (.c (.bool false)), 0, false⟩])
 (.ret)))⟩
theorem c26 : cFn Tryd.prog Tryd.f26 = some a26 := by kernel_rfl
def a27 : AFn := ⟨230, [.tmp 4],
 .seq (.reg [⟨(some 3), none, .box 14 (.t 1), 0, false⟩,
   ⟨(some 4), none, .mov (.c (.bool false)), 0, false⟩])
 (.seq (.seq (.reg [⟨(some 11), none, .fadd 4 (.t 3), 0, false⟩,
   ⟨(some 12), none, .ld1 (.t 11), 0, false⟩,
   ⟨(some 13), none, .bin .lss (.t 12) (.c (.int .i64 1)), 0, false⟩,
   ⟨(some 14), none, .mov (.t 13), 0, false⟩,
   ⟨(some 15), (some (14, false)), .fadd 4 (.t 3), 0, false⟩,
   ⟨(some 16), (some (14, false)), .ld1 (.t 15), 0, false⟩,
   ⟨(some 17), (some (14, false)), .mov (.t 0), 0, false⟩,
   ⟨(some 18), (some (14, false)), .fadd 1 (.t 3), 0, false⟩,
   ⟨(some 19), (some (14, false)), .ld1 (.t 18), 0, false⟩,
   ⟨(some 20), (some (14, false)), .nilCheck (.t 17), 0, false⟩,
   ⟨(some 21), (some (14, false)), .fadd 3 (.t 20), 0, false⟩,
   ⟨(some 22), (some (14, false)), .idxA 1 4 (.t 21) (.t 19), 0, false⟩,
   ⟨(some 23), (some (14, false)), .ld1 (.t 22), 0, false⟩,
   ⟨(some 24), (some (14, false)), .bin .leq (.t 16) (.t 23), 0, false⟩,
   ⟨(some 25), none, .pick (.t 14) (.c (.bool true)) (.t 24), 0, false⟩])
 (.cond (.t 25) (.seq (.reg [⟨(some 4), none, .mov (.c (.bool false)), 0, false⟩])
  (.ret))
  (.skip)))
 (.seq (.reg [⟨(some 26), none, .fadd 9 (.t 3), 0, false⟩,
   ⟨(some 27), none, .ldN 5 (.t 26), 0, false⟩,
   ⟨(some 5), none, .alloc [(.int .i64 0), (.int .i64 0), (.string ⟨#[]⟩), (.string ⟨#[]⟩), (.bool false)] 5, 0, false⟩,
   ⟨none, none, .st 5 (.t 5) (.t 27), 0, false⟩])
 (.seq (.reg [⟨(some 28), none, .fadd 4 (.t 5), 0, false⟩,
   ⟨none, none, .st 1 (.t 28) (.c (.bool false)), 0, false⟩])
 (.seq (.reg [⟨(some 6), none, .mov (.c (.int .i64 (-1))), 0, false⟩])
 (.seq (.seq (.reg [⟨(some 7), none, .mov (.c (.int .i64 0)), 0, false⟩])
 (.block 0 (.loop (.seq (.seq (.reg [⟨(some 29), none, .mov (.t 7), 0, false⟩,
    ⟨(some 30), none, .mov (.t 0), 0, false⟩,
    ⟨(some 31), none, .nilCheck (.t 30), 0, false⟩,
    ⟨(some 32), none, .fadd 2 (.t 31), 0, false⟩,
    ⟨(some 33), none, .ld1 (.t 32), 0, false⟩,
    ⟨(some 34), none, .lenSl (.t 33), 0, false⟩,
    ⟨(some 35), none, .bin .lss (.t 29) (.t 34), 0, false⟩])
  (.cond (.t 35) (.skip)
   (.exit 0)))
  (.seq (.block 1 (.seq (.reg [⟨(some 38), none, .mov (.t 0), 0, false⟩,
    ⟨(some 39), none, .nilCheck (.t 38), 0, false⟩,
    ⟨(some 40), none, .fadd 2 (.t 39), 0, false⟩,
    ⟨(some 41), none, .ld1 (.t 40), 0, false⟩,
    ⟨(some 42), none, .mov (.t 7), 0, false⟩,
    ⟨(some 43), none, .idxS 11 (.t 41) (.t 42), 0, false⟩,
    ⟨(some 44), none, .ldN 11 (.t 43), 0, false⟩,
    ⟨(some 8), none, .alloc [(.int .i64 0), (.int .i64 0), (.int .i64 0), (.int .i64 0), (.string ⟨#[]⟩), (.string ⟨#[]⟩), (.bool false), (.bool false), (.bool false), (.bool false), (.bool false)] 11, 0, false⟩,
    ⟨none, none, .st 11 (.t 8) (.t 44), 0, false⟩])
  (.seq (.seq (.reg [⟨(some 45), none, .fadd 0 (.t 8), 0, false⟩,
    ⟨(some 46), none, .ld1 (.t 45), 0, false⟩,
    ⟨(some 47), none, .fadd 2 (.t 3), 0, false⟩,
    ⟨(some 48), none, .ld1 (.t 47), 0, false⟩,
    ⟨(some 49), none, .bin .eql (.t 46) (.t 48), 0, false⟩,
    ⟨(some 50), none, .mov (.t 49), 0, false⟩,
    ⟨(some 51), (some (50, true)), .fadd 2 (.t 8), 0, false⟩,
    ⟨(some 52), (some (50, true)), .ldN 5 (.t 51), 0, false⟩,
    ⟨(some 53), (some (50, true)), .ldN 5 (.t 5), 0, false⟩,
    ⟨(some 54), (some (50, true)), .eq false (.agg [(.int .i64), (.int .i64), .str, .str, .bool]) (.t 52) (.t 53), 0, false⟩,
    ⟨(some 55), none, .pick (.t 50) (.t 54) (.c (.bool false)), 0, false⟩,
    ⟨(some 56), none, .mov (.t 55), 0, false⟩,
    ⟨(some 57), (some (56, true)), .mov (.t 0), 0, false⟩,
    ⟨(some 58), (some (56, true)), .nilCheck (.t 57), 0, false⟩,
    ⟨(some 59), (some (56, true)), .fadd 1 (.t 58), 0, false⟩,
    ⟨(some 60), (some (56, true)), .ld1 (.t 59), 0, false⟩,
    ⟨(some 61), (some (56, true)), .fadd 1 (.t 8), 0, false⟩,
    ⟨(some 62), (some (56, true)), .ld1 (.t 61), 0, false⟩,
    ⟨(some 63), (some (56, true)), .idxS 6 (.t 60) (.t 62), 0, false⟩,
    ⟨(some 64), (some (56, true)), .fadd 5 (.t 63), 0, false⟩,
    ⟨(some 65), (some (56, true)), .ld1 (.t 64), 0, false⟩,
    ⟨(some 66), (some (56, true)), .bin .neq (.t 65) (.c (.int .i64 2)), 0, false⟩,
    ⟨(some 67), none, .pick (.t 56) (.t 66) (.c (.bool false)), 0, false⟩])
  (.cond (.t 67) (.reg [⟨(some 68), none, .mov (.t 7), 0, false⟩,
     ⟨(some 6), none, .mov (.t 68), 0, false⟩])
   (.skip)))
  (.seq (.reg [⟨(some 69), none, .fadd 0 (.t 8), 0, false⟩,
    ⟨(some 70), none, .ld1 (.t 69), 0, false⟩,
    ⟨(some 71), none, .fadd 2 (.t 3), 0, false⟩,
    ⟨(some 72), none, .ld1 (.t 71), 0, false⟩,
    ⟨(some 73), none, .bin .eql (.t 70) (.t 72), 0, false⟩,
    ⟨(some 74), none, .mov (.t 73), 0, false⟩,
    ⟨(some 75), (some (74, true)), .fadd 2 (.t 8), 0, false⟩,
    ⟨(some 76), (some (74, true)), .fadd 2 (.t 75), 0, false⟩,
    ⟨(some 77), (some (74, true)), .ld1 (.t 76), 0, false⟩,
    ⟨(some 78), (some (74, true)), .fadd 9 (.t 3), 0, false⟩,
    ⟨(some 79), (some (74, true)), .fadd 2 (.t 78), 0, false⟩,
    ⟨(some 80), (some (74, true)), .ld1 (.t 79), 0, false⟩,
    ⟨(some 81), (some (74, true)), .bin .eql (.t 77) (.t 80), 0, false⟩,
    ⟨(some 82), none, .pick (.t 74) (.t 81) (.c (.bool false)), 0, false⟩,
    ⟨(some 83), none, .mov (.t 82), 0, false⟩,
    ⟨(some 84), (some (83, true)), .fadd 8 (.t 8), 0, false⟩,
    ⟨(some 85), (some (83, true)), .ld1 (.t 84), 0, false⟩,
    ⟨(some 86), none, .pick (.t 83) (.t 85) (.c (.bool false)), 0, false⟩])
  (.cond (.t 86) (.seq (.reg [⟨(some 4), none, .mov (.c (.bool false)), 0, false⟩])
   (.ret))
   (.skip))))))
  (.reg [⟨(some 36), none, .mov (.t 7), 0, false⟩,
    ⟨(some 37), none, .bin .add (.t 36) (.c (.int .i64 1)), 0, false⟩,
    ⟨(some 7), none, .mov (.t 37), 0, false⟩]))))))
 (.seq (.seq (.reg [⟨(some 87), none, .mov (.t 6), 0, false⟩,
   ⟨(some 88), none, .bin .lss (.t 87) (.c (.int .i64 0)), 0, false⟩,
   ⟨(some 89), none, .mov (.t 88), 0, false⟩,
   ⟨(some 90), (some (89, false)), .mov (.t 0), 0, false⟩,
   ⟨(some 91), (some (89, false)), .nilCheck (.t 90), 0, false⟩,
   ⟨(some 92), (some (89, false)), .fadd 2 (.t 91), 0, false⟩,
   ⟨(some 93), (some (89, false)), .ld1 (.t 92), 0, false⟩,
   ⟨(some 94), (some (89, false)), .mov (.t 6), 0, false⟩,
   ⟨(some 95), (some (89, false)), .idxS 11 (.t 93) (.t 94), 0, false⟩,
   ⟨(some 96), (some (89, false)), .fadd 10 (.t 95), 0, false⟩,
   ⟨(some 97), (some (89, false)), .ld1 (.t 96), 0, false⟩,
   ⟨(some 98), none, .pick (.t 89) (.c (.bool true)) (.t 97), 0, false⟩,
   ⟨(some 99), none, .mov (.t 98), 0, false⟩,
   ⟨(some 100), (some (99, false)), .fadd 9 (.t 3), 0, false⟩,
   ⟨(some 101), (some (99, false)), .fadd 4 (.t 100), 0, false⟩,
   ⟨(some 102), (some (99, false)), .ld1 (.t 101), 0, false⟩,
   ⟨(some 103), (some (99, false)), .mov (.t 0), 0, false⟩,
   ⟨(some 104), (some (99, false)), .nilCheck (.t 103), 0, false⟩,
   ⟨(some 105), (some (99, false)), .fadd 2 (.t 104), 0, false⟩,
   ⟨(some 106), (some (99, false)), .ld1 (.t 105), 0, false⟩,
   ⟨(some 107), (some (99, false)), .mov (.t 6), 0, false⟩,
   ⟨(some 108), (some (99, false)), .idxS 11 (.t 106) (.t 107), 0, false⟩,
   ⟨(some 109), (some (99, false)), .fadd 7 (.t 108), 0, false⟩,
   ⟨(some 110), (some (99, false)), .ld1 (.t 109), 0, false⟩,
   ⟨(some 111), (some (99, false)), .eq true .bool (.t 102) (.t 110), 0, false⟩,
   ⟨(some 112), none, .pick (.t 99) (.c (.bool true)) (.t 111), 0, false⟩])
 (.cond (.t 112) (.seq (.reg [⟨(some 4), none, .mov (.c (.bool false)), 0, false⟩])
  (.ret))
  (.skip)))
 (.seq (.seq (.reg [⟨(some 9), none, .mov (.c (.int .i64 0)), 0, false⟩])
 (.block 2 (.loop (.seq (.seq (.reg [⟨(some 113), none, .mov (.t 9), 0, false⟩,
    ⟨(some 114), none, .mov (.t 0), 0, false⟩,
    ⟨(some 115), none, .nilCheck (.t 114), 0, false⟩,
    ⟨(some 116), none, .fadd 2 (.t 115), 0, false⟩,
    ⟨(some 117), none, .ld1 (.t 116), 0, false⟩,
    ⟨(some 118), none, .lenSl (.t 117), 0, false⟩,
    ⟨(some 119), none, .bin .lss (.t 113) (.t 118), 0, false⟩,
    ⟨(some 120), none, .mov (.t 119), 0, false⟩,
    ⟨(some 121), (some (120, true)), .fadd 9 (.t 3), 0, false⟩,
    ⟨(some 122), (some (120, true)), .fadd 4 (.t 121), 0, false⟩,
    ⟨(some 123), (some (120, true)), .ld1 (.t 122), 0, false⟩,
    ⟨(some 124), (some (120, true)), .un .not (.t 123), 0, false⟩,
    ⟨(some 125), none, .pick (.t 120) (.t 124) (.c (.bool false)), 0, false⟩])
  (.cond (.t 125) (.skip)
   (.exit 2)))
  (.seq (.block 3 (.seq (.reg [⟨(some 128), none, .mov (.t 0), 0, false⟩,
    ⟨(some 129), none, .nilCheck (.t 128), 0, false⟩,
    ⟨(some 130), none, .fadd 2 (.t 129), 0, false⟩,
    ⟨(some 131), none, .ld1 (.t 130), 0, false⟩,
    ⟨(some 132), none, .mov (.t 9), 0, false⟩,
    ⟨(some 133), none, .idxS 11 (.t 131) (.t 132), 0, false⟩,
    ⟨(some 134), none, .ldN 11 (.t 133), 0, false⟩,
    ⟨(some 10), none, .alloc [(.int .i64 0), (.int .i64 0), (.int .i64 0), (.int .i64 0), (.string ⟨#[]⟩), (.string ⟨#[]⟩), (.bool false), (.bool false), (.bool false), (.bool false), (.bool false)] 11, 0, false⟩,
    ⟨none, none, .st 11 (.t 10) (.t 134), 0, false⟩])
  (.seq (.reg [⟨(some 135), none, .fadd 0 (.t 10), 0, false⟩,
    ⟨(some 136), none, .ld1 (.t 135), 0, false⟩,
    ⟨(some 137), none, .fadd 2 (.t 3), 0, false⟩,
    ⟨(some 138), none, .ld1 (.t 137), 0, false⟩,
    ⟨(some 139), none, .bin .eql (.t 136) (.t 138), 0, false⟩,
    ⟨(some 140), none, .mov (.t 139), 0, false⟩,
    ⟨(some 141), (some (140, true)), .fadd 2 (.t 10), 0, false⟩,
    ⟨(some 142), (some (140, true)), .fadd 0 (.t 141), 0, false⟩,
    ⟨(some 143), (some (140, true)), .ld1 (.t 142), 0, false⟩,
    ⟨(some 144), (some (140, true)), .fadd 9 (.t 3), 0, false⟩,
    ⟨(some 145), (some (140, true)), .fadd 0 (.t 144), 0, false⟩,
    ⟨(some 146), (some (140, true)), .ld1 (.t 145), 0, false⟩,
    ⟨(some 147), (some (140, true)), .bin .eql (.t 143) (.t 146), 0, false⟩,
    ⟨(some 148), none, .pick (.t 140) (.t 147) (.c (.bool false)), 0, false⟩,
    ⟨(some 149), none, .mov (.t 148), 0, false⟩,
    ⟨(some 150), (some (149, true)), .fadd 2 (.t 10), 0, false⟩,
    ⟨(some 151), (some (149, true)), .fadd 2 (.t 150), 0, false⟩,
    ⟨(some 152), (some (149, true)), .ld1 (.t 151), 0, false⟩,
    ⟨(some 153), (some (149, true)), .fadd 9 (.t 3), 0, false⟩,
    ⟨(some 154), (some (149, true)), .fadd 2 (.t 153), 0, false⟩,
    ⟨(some 155), (some (149, true)), .ld1 (.t 154), 0, false⟩,
    ⟨(some 156), (some (149, true)), .bin .eql (.t 152) (.t 155), 0, false⟩,
    ⟨(some 157), none, .pick (.t 149) (.t 156) (.c (.bool false)), 0, false⟩,
    ⟨(some 158), none, .mov (.t 157), 0, false⟩,
    ⟨(some 159), (some (158, true)), .fadd 2 (.t 10), 0, false⟩,
    ⟨(some 160), (some (158, true)), .fadd 1 (.t 159), 0, false⟩,
    ⟨(some 161), (some (158, true)), .ld1 (.t 160), 0, false⟩,
    ⟨(some 162), (some (158, true)), .fadd 9 (.t 3), 0, false⟩,
    ⟨(some 163), (some (158, true)), .fadd 1 (.t 162), 0, false⟩,
    ⟨(some 164), (some (158, true)), .ld1 (.t 163), 0, false⟩,
    ⟨(some 165), (some (158, true)), .bin .lss (.t 161) (.t 164), 0, false⟩,
    ⟨(some 166), none, .pick (.t 158) (.t 165) (.c (.bool false)), 0, false⟩,
    ⟨(some 167), none, .mov (.t 166), 0, false⟩,
    ⟨(some 168), (some (167, true)), .mov (.t 0), 0, false⟩,
    ⟨(some 169), (some (167, true)), .nilCheck (.t 168), 0, false⟩,
    ⟨(some 170), (some (167, true)), .fadd 1 (.t 169), 0, false⟩,
    ⟨(some 171), (some (167, true)), .ld1 (.t 170), 0, false⟩,
    ⟨(some 172), (some (167, true)), .fadd 1 (.t 10), 0, false⟩,
    ⟨(some 173), (some (167, true)), .ld1 (.t 172), 0, false⟩,
    ⟨(some 174), (some (167, true)), .idxS 6 (.t 171) (.t 173), 0, false⟩,
    ⟨(some 175), (some (167, true)), .fadd 5 (.t 174), 0, false⟩,
    ⟨(some 176), (some (167, true)), .ld1 (.t 175), 0, false⟩,
    ⟨(some 177), (some (167, true)), .bin .neq (.t 176) (.c (.int .i64 2)), 0, false⟩,
    ⟨(some 178), none, .pick (.t 167) (.t 177) (.c (.bool false)), 0, false⟩,
    ⟨(some 179), none, .mov (.t 178), 0, false⟩,
    ⟨(some 180), (some (179, true)), .fadd 7 (.t 10), 0, false⟩,
    ⟨(some 181), (some (179, true)), .ld1 (.t 180), 0, false⟩,
    ⟨(some 182), (some (179, true)), .un .not (.t 181), 0, false⟩,
    ⟨(some 183), none, .pick (.t 179) (.t 182) (.c (.bool false)), 0, false⟩])
  (.cond (.t 183) (.seq (.reg [⟨(some 4), none, .mov (.c (.bool false)), 0, false⟩])
   (.ret))
   (.skip)))))
  (.reg [⟨(some 126), none, .mov (.t 9), 0, false⟩,
    ⟨(some 127), none, .bin .add (.t 126) (.c (.int .i64 1)), 0, false⟩,
    ⟨(some 9), none, .mov (.t 127), 0, false⟩]))))))
 (.seq (.reg [⟨(some 184), none, .mov (.t 0), 0, false⟩,
   ⟨(some 185), none, .fadd 1 (.t 3), 0, false⟩,
   ⟨(some 186), none, .ld1 (.t 185), 0, false⟩,
   ⟨(some 187), none, .fadd 4 (.t 3), 0, false⟩,
   ⟨(some 188), none, .ld1 (.t 187), 0, false⟩,
   ⟨(some 189), none, .nilCheck (.t 184), 0, false⟩,
   ⟨(some 190), none, .fadd 3 (.t 189), 0, false⟩,
   ⟨(some 191), none, .idxA 1 4 (.t 190) (.t 186), 0, false⟩,
   ⟨none, none, .st 1 (.t 191) (.t 188), 0, true⟩])
 (.seq (.reg [⟨(some 192), none, .mov (.t 0), 0, false⟩,
   ⟨(some 193), none, .nilCheck (.t 192), 0, false⟩,
   ⟨(some 194), none, .fadd 2 (.t 193), 0, false⟩,
   ⟨(some 195), none, .ld1 (.t 194), 0, false⟩,
   ⟨(some 196), none, .mov (.t 6), 0, false⟩,
   ⟨(some 197), none, .mov (.t 0), 0, false⟩,
   ⟨(some 198), none, .nilCheck (.t 197), 0, false⟩,
   ⟨(some 199), none, .fadd 2 (.t 198), 0, false⟩,
   ⟨(some 200), none, .ld1 (.t 199), 0, false⟩,
   ⟨(some 202), none, .mov (.t 0), 0, false⟩,
   ⟨(some 203), none, .nilCheck (.t 202), 0, false⟩,
   ⟨(some 204), none, .fadd 2 (.t 203), 0, false⟩,
   ⟨(some 205), none, .ld1 (.t 204), 0, false⟩,
   ⟨(some 207), none, .idxS 11 (.t 195) (.t 196), 0, false⟩,
   ⟨(some 208), none, .fadd 7 (.t 207), 0, false⟩,
   ⟨none, none, .st 1 (.t 208) (.c (.bool true)), 0, true⟩,
   ⟨(some 201), none, .mov (.t 6), 0, false⟩,
   ⟨(some 209), none, .idxS 11 (.t 200) (.t 201), 0, false⟩,
   ⟨(some 210), none, .fadd 8 (.t 209), 0, false⟩,
   ⟨none, none, .st 1 (.t 210) (.c (.bool true)), 0, true⟩,
   ⟨(some 206), none, .mov (.t 6), 0, false⟩,
   ⟨(some 211), none, .idxS 11 (.t 205) (.t 206), 0, false⟩,
   ⟨(some 212), none, .fadd 9 (.t 211), 0, false⟩,
   ⟨none, none, .st 1 (.t 212) (.c (.bool false)), 0, true⟩])
 (.seq (.reg [⟨(some 214), none, .mov (.t 0), 0, false⟩,
   ⟨(some 215), none, .nilCheck (.t 214), 0, false⟩,
   ⟨(some 216), none, .fadd 7 (.t 215), 0, false⟩,
   ⟨(some 217), none, .ld1 (.t 216), 0, false⟩,
   ⟨(some 218), none, .fadd 1 (.t 3), 0, false⟩,
   ⟨(some 219), none, .ld1 (.t 218), 0, false⟩,
   ⟨(some 220), none, .fadd 2 (.t 3), 0, false⟩,
   ⟨(some 221), none, .ld1 (.t 220), 0, false⟩,
   ⟨(some 222), none, .fadd 4 (.t 3), 0, false⟩,
   ⟨(some 223), none, .ld1 (.t 222), 0, false⟩,
   ⟨(some 224), none, .mov (.t 6), 0, false⟩,
   ⟨(some 225), none, .build [(.int .i64 0), (.int .i64 0), (.int .i64 0), (.int .i64 0), (.int .i64 0)] [(0, 1, (.t 219)), (1, 1, (.t 221)), (2, 1, (.t 223)), (3, 1, (.t 224))], 0, false⟩,
   ⟨(some 226), none, .buildSlice 5 1 [(.int .i64 0), (.int .i64 0), (.int .i64 0), (.int .i64 0), (.int .i64 0)] [(0, 5, (.t 225))], 0, false⟩,
   ⟨(some 227), none, .append 5 40 (.t 217) (.t 226), 0, true⟩,
   ⟨(some 213), none, .mov (.t 0), 0, false⟩,
   ⟨(some 228), none, .nilCheck (.t 213), 0, false⟩,
   ⟨(some 229), none, .fadd 7 (.t 228), 0, false⟩,
   ⟨none, none, .st 1 (.t 229) (.t 227), 0, true⟩])
 (.seq (.reg [⟨(some 4), none, .mov (.c (.bool true)), 0, false⟩])
 (.ret))))))))))))⟩
theorem c27 : cFn Tryd.prog Tryd.f27 = some a27 := by kernel_rfl
def a28 : AFn := ⟨97, [.tmp 8],
 .seq (.reg [⟨(some 5), none, .box 14 (.t 1), 0, false⟩,
   ⟨(some 8), none, .mov (.c (.bool false)), 0, false⟩])
 (.seq (.seq (.reg [⟨(some 9), none, .mov (.c (.int .i64 0)), 0, false⟩])
 (.block 0 (.loop (.seq (.seq (.reg [⟨(some 11), none, .mov (.t 9), 0, false⟩,
    ⟨(some 12), none, .mov (.t 0), 0, false⟩,
    ⟨(some 13), none, .nilCheck (.t 12), 0, false⟩,
    ⟨(some 14), none, .fadd 7 (.t 13), 0, false⟩,
    ⟨(some 15), none, .ld1 (.t 14), 0, false⟩,
    ⟨(some 16), none, .lenSl (.t 15), 0, false⟩,
    ⟨(some 17), none, .bin .lss (.t 11) (.t 16), 0, false⟩])
  (.cond (.t 17) (.skip)
   (.exit 0)))
  (.seq (.block 1 (.seq (.reg [⟨(some 20), none, .mov (.t 0), 0, false⟩,
    ⟨(some 21), none, .nilCheck (.t 20), 0, false⟩,
    ⟨(some 22), none, .fadd 7 (.t 21), 0, false⟩,
    ⟨(some 23), none, .ld1 (.t 22), 0, false⟩,
    ⟨(some 24), none, .mov (.t 9), 0, false⟩,
    ⟨(some 25), none, .idxS 5 (.t 23) (.t 24), 0, false⟩,
    ⟨(some 26), none, .ldN 5 (.t 25), 0, false⟩,
    ⟨(some 10), none, .alloc [(.int .i64 0), (.int .i64 0), (.int .i64 0), (.int .i64 0), (.int .i64 0)] 5, 0, false⟩,
    ⟨none, none, .st 5 (.t 10) (.t 26), 0, false⟩])
  (.seq (.seq (.reg [⟨(some 27), none, .fadd 0 (.t 10), 0, false⟩,
    ⟨(some 28), none, .ld1 (.t 27), 0, false⟩,
    ⟨(some 29), none, .fadd 1 (.t 5), 0, false⟩,
    ⟨(some 30), none, .ld1 (.t 29), 0, false⟩,
    ⟨(some 31), none, .bin .neq (.t 28) (.t 30), 0, false⟩,
    ⟨(some 32), none, .mov (.t 31), 0, false⟩,
    ⟨(some 33), (some (32, false)), .fadd 1 (.t 10), 0, false⟩,
    ⟨(some 34), (some (32, false)), .ld1 (.t 33), 0, false⟩,
    ⟨(some 35), (some (32, false)), .fadd 2 (.t 5), 0, false⟩,
    ⟨(some 36), (some (32, false)), .ld1 (.t 35), 0, false⟩,
    ⟨(some 37), (some (32, false)), .bin .neq (.t 34) (.t 36), 0, false⟩,
    ⟨(some 38), none, .pick (.t 32) (.c (.bool true)) (.t 37), 0, false⟩,
    ⟨(some 39), none, .mov (.t 38), 0, false⟩,
    ⟨(some 40), (some (39, false)), .fadd 2 (.t 10), 0, false⟩,
    ⟨(some 41), (some (39, false)), .ld1 (.t 40), 0, false⟩,
    ⟨(some 42), (some (39, false)), .fadd 4 (.t 5), 0, false⟩,
    ⟨(some 43), (some (39, false)), .ld1 (.t 42), 0, false⟩,
    ⟨(some 44), (some (39, false)), .bin .neq (.t 41) (.t 43), 0, false⟩,
    ⟨(some 45), none, .pick (.t 39) (.c (.bool true)) (.t 44), 0, false⟩,
    ⟨(some 46), none, .mov (.t 45), 0, false⟩,
    ⟨(some 47), (some (46, false)), .fadd 4 (.t 10), 0, false⟩,
    ⟨(some 48), (some (46, false)), .ld1 (.t 47), 0, false⟩,
    ⟨(some 49), (some (46, false)), .mov (.t 2), 0, false⟩,
    ⟨(some 50), (some (46, false)), .bin .neq (.t 48) (.t 49), 0, false⟩,
    ⟨(some 51), none, .pick (.t 46) (.c (.bool true)) (.t 50), 0, false⟩])
  (.cond (.t 51) (.exit 1)
   (.skip)))
  (.seq (.reg [⟨(some 52), none, .mov (.t 0), 0, false⟩,
    ⟨(some 53), none, .nilCheck (.t 52), 0, false⟩,
    ⟨(some 54), none, .fadd 7 (.t 53), 0, false⟩,
    ⟨(some 55), none, .ld1 (.t 54), 0, false⟩,
    ⟨(some 56), none, .mov (.t 9), 0, false⟩,
    ⟨(some 57), none, .mov (.t 3), 0, false⟩,
    ⟨(some 58), none, .idxS 5 (.t 55) (.t 56), 0, false⟩,
    ⟨(some 59), none, .fadd 4 (.t 58), 0, false⟩,
    ⟨none, none, .st 1 (.t 59) (.t 57), 0, false⟩])
  (.seq (.seq (.reg [⟨(some 60), none, .mov (.t 3), 0, false⟩])
  (.block 2 (.seq (.reg [⟨(some 70), none, .bin .eql (.t 60) (.c (.int .i64 1)), 0, false⟩,
    ⟨(some 69), none, .mov (.t 70), 0, false⟩])
  (.cond (.t 69) (.reg [⟨(some 71), none, .mov (.t 0), 0, false⟩,
     ⟨(some 72), none, .nilCheck (.t 71), 0, false⟩,
     ⟨(some 73), none, .fadd 2 (.t 72), 0, false⟩,
     ⟨(some 74), none, .ld1 (.t 73), 0, false⟩,
     ⟨(some 75), none, .fadd 3 (.t 10), 0, false⟩,
     ⟨(some 76), none, .ld1 (.t 75), 0, false⟩,
     ⟨(some 77), none, .mov (.t 0), 0, false⟩,
     ⟨(some 78), none, .nilCheck (.t 77), 0, false⟩,
     ⟨(some 79), none, .fadd 2 (.t 78), 0, false⟩,
     ⟨(some 80), none, .ld1 (.t 79), 0, false⟩,
     ⟨(some 83), none, .idxS 11 (.t 74) (.t 76), 0, false⟩,
     ⟨(some 84), none, .fadd 8 (.t 83), 0, false⟩,
     ⟨none, none, .st 1 (.t 84) (.c (.bool false)), 0, true⟩,
     ⟨(some 81), none, .fadd 3 (.t 10), 0, false⟩,
     ⟨(some 82), none, .ld1 (.t 81), 2, false⟩,
     ⟨(some 85), none, .idxS 11 (.t 80) (.t 82), 0, false⟩,
     ⟨(some 86), none, .fadd 9 (.t 85), 0, false⟩,
     ⟨none, none, .st 1 (.t 86) (.c (.bool true)), 0, true⟩])
   (.seq (.reg [⟨(some 88), none, .bin .eql (.t 60) (.c (.int .i64 2)), 0, false⟩,
     ⟨(some 87), none, .mov (.t 88), 0, false⟩])
   (.cond (.t 87) (.reg [⟨(some 89), none, .mov (.t 0), 0, false⟩,
      ⟨(some 90), none, .nilCheck (.t 89), 0, false⟩,
      ⟨(some 91), none, .fadd 2 (.t 90), 0, false⟩,
      ⟨(some 92), none, .ld1 (.t 91), 0, false⟩,
      ⟨(some 93), none, .fadd 3 (.t 10), 0, false⟩,
      ⟨(some 94), none, .ld1 (.t 93), 0, false⟩,
      ⟨(some 95), none, .idxS 11 (.t 92) (.t 94), 0, false⟩,
      ⟨(some 96), none, .fadd 8 (.t 95), 0, false⟩,
      ⟨none, none, .st 1 (.t 96) (.c (.bool false)), 0, true⟩])
    (.reg [⟨(some 61), none, .mov (.t 0), 0, false⟩,
      ⟨(some 62), none, .nilCheck (.t 61), 0, false⟩,
      ⟨(some 63), none, .fadd 2 (.t 62), 0, false⟩,
      ⟨(some 64), none, .ld1 (.t 63), 0, false⟩,
      ⟨(some 65), none, .fadd 3 (.t 10), 0, false⟩,
      ⟨(some 66), none, .ld1 (.t 65), 0, false⟩,
      ⟨(some 67), none, .idxS 11 (.t 64) (.t 66), 0, false⟩,
      ⟨(some 68), none, .fadd 10 (.t 67), 0, false⟩,
      ⟨none, none, .st 1 (.t 68) (.c (.bool true)), 0, true⟩])))))))
  (.seq (.reg [⟨(some 8), none, .mov (.c (.bool true)), 0, false⟩])
  (.ret)))))))
  (.reg [⟨(some 18), none, .mov (.t 9), 0, false⟩,
    ⟨(some 19), none, .bin .add (.t 18) (.c (.int .i64 1)), 0, false⟩,
    ⟨(some 9), none, .mov (.t 19), 0, false⟩]))))))
 (.seq (.reg [⟨(some 8), none, .mov (.c (.bool false)), 0, false⟩])
 (.ret)))⟩
theorem c28 : cFn Tryd.prog Tryd.f28 = some a28 := by kernel_rfl
def a29 : AFn := ⟨116, [.tmp 4],
 .seq (.reg [⟨(some 3), none, .box 14 (.t 1), 0, false⟩,
   ⟨(some 4), none, .mov (.c (.bool false)), 0, false⟩])
 (.seq (.reg [⟨(some 9), none, .fadd 1 (.t 3), 0, false⟩,
   ⟨(some 10), none, .ld1 (.t 9), 0, false⟩,
   ⟨(some 11), none, .fadd 2 (.t 3), 0, false⟩,
   ⟨(some 12), none, .ld1 (.t 11), 0, false⟩,
   ⟨(some 13), none, .fadd 6 (.t 3), 0, false⟩,
   ⟨(some 14), none, .ld1 (.t 13), 0, false⟩,
   ⟨(some 15), none, .build [(.int .i64 0), (.int .i64 0), (.string ⟨#[]⟩)] [(0, 1, (.t 10)), (1, 1, (.t 12)), (2, 1, (.t 14))], 0, false⟩,
   ⟨(some 5), none, .alloc [(.int .i64 0), (.int .i64 0), (.string ⟨#[]⟩)] 3, 0, false⟩,
   ⟨none, none, .st 3 (.t 5) (.t 15), 0, false⟩])
 (.seq (.seq (.reg [⟨(some 16), none, .fadd 8 (.t 3), 0, false⟩,
   ⟨(some 17), none, .ld1 (.t 16), 0, false⟩,
   ⟨(some 18), none, .bin .lss (.t 17) (.c (.int .i64 1)), 0, false⟩,
   ⟨(some 19), none, .mov (.t 18), 0, false⟩,
   ⟨(some 20), (some (19, false)), .fadd 8 (.t 3), 0, false⟩,
   ⟨(some 21), (some (19, false)), .ld1 (.t 20), 0, false⟩,
   ⟨(some 22), (some (19, false)), .bin .gtr (.t 21) (.c (.int .i64 8)), 0, false⟩,
   ⟨(some 23), none, .pick (.t 19) (.c (.bool true)) (.t 22), 0, false⟩,
   ⟨(some 24), none, .mov (.t 23), 0, false⟩,
   ⟨(some 25), (some (24, false)), .fadd 3 (.t 3), 0, false⟩,
   ⟨(some 26), (some (24, false)), .ld1 (.t 25), 0, false⟩,
   ⟨(some 27), (some (24, false)), .mov (.t 0), 0, false⟩,
   ⟨(some 28), (some (24, false)), .nilCheck (.t 27), 0, false⟩,
   ⟨(some 29), (some (24, false)), .fadd 1 (.t 28), 0, false⟩,
   ⟨(some 30), (some (24, false)), .ld1 (.t 29), 0, false⟩,
   ⟨(some 31), (some (24, false)), .ldN 3 (.t 5), 0, false⟩,
   ⟨(some 32), (some (24, false)), .lookup (.agg [(.int .i64), (.int .i64), .str]) (.slice none 0 0) false (.t 30) (.t 31), 0, false⟩,
   ⟨(some 33), (some (24, false)), .lenSl (.t 32), 0, false⟩,
   ⟨(some 34), (some (24, false)), .bin .add (.t 33) (.c (.int .i64 1)), 0, false⟩,
   ⟨(some 35), (some (24, false)), .bin .neq (.t 26) (.t 34), 0, false⟩,
   ⟨(some 36), none, .pick (.t 24) (.c (.bool true)) (.t 35), 0, false⟩])
 (.cond (.t 36) (.seq (.reg [⟨(some 4), none, .mov (.c (.bool false)), 0, false⟩])
  (.ret))
  (.skip)))
 (.seq (.reg [⟨(some 37), none, .fadd 3 (.t 3), 0, false⟩,
   ⟨(some 38), none, .ld1 (.t 37), 0, false⟩,
   ⟨(some 39), none, .fadd 3 (.t 3), 0, false⟩,
   ⟨(some 40), none, .ld1 (.t 39), 0, false⟩,
   ⟨(some 41), none, .fadd 8 (.t 3), 0, false⟩,
   ⟨(some 42), none, .ld1 (.t 41), 0, false⟩,
   ⟨(some 43), none, .bin .add (.t 40) (.t 42), 0, false⟩,
   ⟨(some 44), none, .bin .sub (.t 43) (.c (.int .i64 1)), 0, false⟩,
   ⟨(some 45), none, .build [(.int .i64 0), (.int .i64 0), (.int .i64 0)] [(0, 1, (.t 38)), (1, 1, (.t 44))], 0, false⟩,
   ⟨(some 46), none, .box 3 (.t 45), 0, false⟩,
   ⟨(some 6), none, .mov (.t 46), 0, false⟩])
 (.seq (.reg [⟨(some 47), none, .mov (.t 0), 0, false⟩,
   ⟨(some 48), none, .nilCheck (.t 47), 0, false⟩,
   ⟨(some 49), none, .fadd 0 (.t 48), 0, false⟩,
   ⟨(some 50), none, .ld1 (.t 49), 0, false⟩,
   ⟨(some 51), none, .ldN 3 (.t 5), 0, false⟩,
   ⟨(some 53), none, .mov (.t 6), 0, false⟩,
   ⟨(some 54), none, .buildSlice 1 1 [(.pointer none)] [(0, 1, (.t 53))], 0, false⟩,
   ⟨(some 55), none, .mapEnt (.agg [(.int .i64), (.int .i64), .str]) (.slice none 0 0) (.t 50) (.t 51), 0, true⟩,
   ⟨(some 52), none, .extract (.t 55) 0, 0, false⟩,
   ⟨(some 56), none, .append 1 8 (.t 52) (.t 54), 0, true⟩,
   ⟨(some 57), none, .extract (.t 55) 1, 0, false⟩,
   ⟨none, none, .entSt (.agg [(.int .i64), (.int .i64), .str]) (.t 50) (.t 57) (.t 56), 0, true⟩])
 (.seq (.seq (.reg [⟨(some 58), none, .fadd 8 (.t 3), 0, false⟩,
   ⟨(some 59), none, .ld1 (.t 58), 0, false⟩,
   ⟨(some 60), none, .mov (.c (.int .i64 0)), 0, false⟩])
 (.block 0 (.loop (.seq (.reg [⟨(some 61), none, .bin .lss (.t 60) (.t 59), 0, false⟩])
  (.seq (.cond (.t 61) (.skip)
   (.exit 0))
  (.seq (.block 1 (.seq (.reg [⟨(some 62), none, .mov (.t 60), 0, false⟩,
    ⟨(some 7), none, .mov (.t 62), 0, false⟩])
  (.seq (.reg [⟨(some 63), none, .fadd 1 (.t 3), 0, false⟩,
    ⟨(some 64), none, .ld1 (.t 63), 0, false⟩,
    ⟨(some 65), none, .fadd 3 (.t 3), 0, false⟩,
    ⟨(some 66), none, .ld1 (.t 65), 0, false⟩,
    ⟨(some 67), none, .mov (.t 7), 0, false⟩,
    ⟨(some 68), none, .bin .add (.t 66) (.t 67), 0, false⟩,
    ⟨(some 69), none, .fadd 6 (.t 3), 0, false⟩,
    ⟨(some 70), none, .ld1 (.t 69), 0, false⟩,
    ⟨(some 71), none, .fadd 7 (.t 3), 0, false⟩,
    ⟨(some 72), none, .ld1 (.t 71), 0, false⟩,
    ⟨(some 73), none, .build [(.int .i64 0), (.int .i64 0), (.string ⟨#[]⟩), (.string ⟨#[]⟩), (.bool false)] [(0, 1, (.t 64)), (1, 1, (.t 68)), (2, 1, (.t 70)), (3, 1, (.t 72))], 0, false⟩,
    ⟨(some 74), none, .mov (.t 6), 0, false⟩,
    ⟨(some 75), none, .build [(.int .i64 0), (.int .i64 0), (.string ⟨#[]⟩), (.string ⟨#[]⟩), (.bool false), (.pointer none), (.bool false), (.bool false), (.bool false)] [(0, 5, (.t 73)), (5, 1, (.t 74))], 0, false⟩,
    ⟨(some 76), none, .box 9 (.t 75), 0, false⟩,
    ⟨(some 8), none, .mov (.t 76), 0, false⟩])
  (.seq (.seq (.reg [⟨(some 77), none, .fadd 8 (.t 3), 0, false⟩,
    ⟨(some 78), none, .ld1 (.t 77), 0, false⟩,
    ⟨(some 79), none, .bin .gtr (.t 78) (.c (.int .i64 1)), 0, false⟩])
  (.cond (.t 79) (.reg [⟨(some 83), none, .mov (.t 7), 0, false⟩,
     ⟨(some 84), none, .call 35 [(.t 83)], 0, true⟩,
     ⟨(some 80), none, .mov (.t 8), 0, false⟩,
     ⟨(some 81), none, .fadd 7 (.t 3), 0, false⟩,
     ⟨(some 82), none, .ld1 (.t 81), 2, false⟩,
     ⟨(some 85), none, .bin .add (.t 82) (.t 84), 0, false⟩,
     ⟨(some 86), none, .nilCheck (.t 80), 0, false⟩,
     ⟨(some 87), none, .fadd 0 (.t 86), 0, false⟩,
     ⟨(some 88), none, .fadd 3 (.t 87), 0, false⟩,
     ⟨none, none, .st 1 (.t 88) (.t 85), 0, true⟩])
   (.skip)))
  (.reg [⟨(some 95), none, .mov (.t 0), 0, false⟩,
    ⟨(some 96), none, .nilCheck (.t 95), 0, false⟩,
    ⟨(some 97), none, .fadd 1 (.t 96), 0, false⟩,
    ⟨(some 98), none, .ld1 (.t 97), 0, false⟩,
    ⟨(some 99), none, .ldN 3 (.t 5), 0, false⟩,
    ⟨(some 100), none, .lookup (.agg [(.int .i64), (.int .i64), .str]) (.slice none 0 0) false (.t 98) (.t 99), 0, false⟩,
    ⟨(some 101), none, .mov (.t 8), 0, false⟩,
    ⟨(some 102), none, .buildSlice 1 1 [(.pointer none)] [(0, 1, (.t 101))], 0, false⟩,
    ⟨(some 103), none, .append 1 8 (.t 100) (.t 102), 0, true⟩,
    ⟨(some 104), none, .mov (.t 0), 0, false⟩,
    ⟨(some 105), none, .nilCheck (.t 104), 0, false⟩,
    ⟨(some 106), none, .fadd 2 (.t 105), 0, false⟩,
    ⟨(some 107), none, .ld1 (.t 106), 2, false⟩,
    ⟨(some 108), none, .mov (.t 8), 0, false⟩,
    ⟨(some 109), none, .buildSlice 1 1 [(.pointer none)] [(0, 1, (.t 108))], 0, false⟩,
    ⟨(some 110), none, .append 1 8 (.t 107) (.t 109), 0, true⟩,
    ⟨(some 89), none, .mov (.t 0), 0, false⟩,
    ⟨(some 90), none, .nilCheck (.t 89), 0, false⟩,
    ⟨(some 91), none, .fadd 1 (.t 90), 0, false⟩,
    ⟨(some 92), none, .ld1 (.t 91), 3, false⟩,
    ⟨(some 93), none, .ldN 3 (.t 5), 3, false⟩,
    ⟨(some 111), none, .mapEnt (.agg [(.int .i64), (.int .i64), .str]) (.slice none 0 0) (.t 92) (.t 93), 0, true⟩,
    ⟨(some 112), none, .extract (.t 111) 1, 0, false⟩,
    ⟨none, none, .entSt (.agg [(.int .i64), (.int .i64), .str]) (.t 92) (.t 112) (.t 103), 0, true⟩,
    ⟨(some 94), none, .mov (.t 0), 0, false⟩,
    ⟨(some 113), none, .nilCheck (.t 94), 0, false⟩,
    ⟨(some 114), none, .fadd 2 (.t 113), 0, false⟩,
    ⟨none, none, .st 1 (.t 114) (.t 110), 0, true⟩])))))
  (.reg [⟨(some 115), none, .bin .add (.t 60) (.c (.int .i64 1)), 0, false⟩,
    ⟨(some 60), none, .mov (.t 115), 0, false⟩])))))))
 (.seq (.reg [⟨(some 4), none, .mov (.c (.bool true)), 0, false⟩])
 (.ret)))))))⟩
theorem c29 : cFn Tryd.prog Tryd.f29 = some a29 := by kernel_rfl
def a30 : AFn := ⟨43, [.tmp 6],
 .seq (.reg [⟨(some 4), none, .box 14 (.t 1), 0, false⟩,
   ⟨(some 6), none, .mov (.c (.bool false)), 0, false⟩])
 (.seq (.seq (.reg [⟨(some 9), none, .mov (.t 0), 0, false⟩,
   ⟨(some 10), none, .nilCheck (.t 9), 0, false⟩,
   ⟨(some 11), none, .fadd 0 (.t 10), 0, false⟩,
   ⟨(some 12), none, .ld1 (.t 11), 0, false⟩,
   ⟨(some 13), none, .fadd 1 (.t 4), 0, false⟩,
   ⟨(some 14), none, .ld1 (.t 13), 0, false⟩,
   ⟨(some 15), none, .fadd 2 (.t 4), 0, false⟩,
   ⟨(some 16), none, .ld1 (.t 15), 0, false⟩,
   ⟨(some 17), none, .fadd 6 (.t 4), 0, false⟩,
   ⟨(some 18), none, .ld1 (.t 17), 0, false⟩,
   ⟨(some 19), none, .build [(.int .i64 0), (.int .i64 0), (.string ⟨#[]⟩)] [(0, 1, (.t 14)), (1, 1, (.t 16)), (2, 1, (.t 18))], 0, false⟩,
   ⟨(some 20), none, .lookup (.agg [(.int .i64), (.int .i64), .str]) (.slice none 0 0) false (.t 12) (.t 19), 0, false⟩,
   ⟨(some 21), none, .lenSl (.t 20), 0, false⟩,
   ⟨(some 22), none, .mov (.c (.int .i64 0)), 0, false⟩])
 (.block 0 (.loop (.seq (.reg [⟨(some 23), none, .bin .lss (.t 22) (.t 21), 0, false⟩])
  (.seq (.cond (.t 23) (.skip)
   (.exit 0))
  (.seq (.block 1 (.seq (.reg [⟨(some 24), none, .idxS 1 (.t 20) (.t 22), 0, false⟩,
    ⟨(some 25), none, .ld1 (.t 24), 0, false⟩,
    ⟨(some 8), none, .mov (.t 25), 0, false⟩])
  (.seq (.reg [⟨(some 26), none, .mov (.t 8), 0, false⟩,
    ⟨(some 27), none, .nilCheck (.t 26), 0, false⟩,
    ⟨(some 28), none, .fadd 2 (.t 27), 0, false⟩,
    ⟨(some 29), none, .ld1 (.t 28), 0, false⟩,
    ⟨(some 30), none, .bin .eql (.t 29) (.c (.int .i64 0)), 0, false⟩])
  (.cond (.t 30) (.seq (.reg [⟨(some 31), none, .mov (.t 8), 0, false⟩,
     ⟨(some 32), none, .mov (.t 2), 0, false⟩,
     ⟨(some 33), none, .nilCheck (.t 31), 0, false⟩,
     ⟨(some 34), none, .fadd 2 (.t 33), 0, false⟩,
     ⟨none, none, .st 1 (.t 34) (.t 32), 0, false⟩])
   (.seq (.reg [⟨(some 35), none, .mov (.t 8), 0, false⟩,
     ⟨(some 36), none, .nilCheck (.t 35), 0, false⟩,
     ⟨(some 37), none, .fadd 1 (.t 36), 0, false⟩,
     ⟨(some 38), none, .ld1 (.t 37), 0, false⟩,
     ⟨(some 39), none, .fadd 3 (.t 4), 0, false⟩,
     ⟨(some 40), none, .ld1 (.t 39), 0, false⟩,
     ⟨(some 41), none, .bin .eql (.t 38) (.t 40), 0, false⟩,
     ⟨(some 6), none, .mov (.t 41), 0, false⟩])
   (.ret)))
   (.skip)))))
  (.reg [⟨(some 42), none, .bin .add (.t 22) (.c (.int .i64 1)), 0, false⟩,
    ⟨(some 22), none, .mov (.t 42), 0, false⟩])))))))
 (.seq (.reg [⟨(some 6), none, .mov (.c (.bool false)), 0, false⟩])
 (.ret)))⟩
theorem c30 : cFn Tryd.prog Tryd.f30 = some a30 := by kernel_rfl
def a31 : AFn := ⟨173, [.tmp 4],
 .seq (.reg [⟨(some 3), none, .box 14 (.t 1), 0, false⟩,
   ⟨(some 4), none, .mov (.c (.bool false)), 0, false⟩])
 (.scope (.seq (.reg [⟨(some 11), none, .fadd 9 (.t 3), 0, false⟩,
   ⟨(some 12), none, .fadd 0 (.t 11), 0, false⟩,
   ⟨(some 13), none, .ld1 (.t 12), 0, false⟩,
   ⟨(some 14), none, .fadd 2 (.t 3), 0, false⟩,
   ⟨(some 15), none, .ld1 (.t 14), 0, false⟩,
   ⟨(some 16), none, .fadd 9 (.t 3), 0, false⟩,
   ⟨(some 17), none, .fadd 2 (.t 16), 0, false⟩,
   ⟨(some 18), none, .ld1 (.t 17), 0, false⟩,
   ⟨(some 19), none, .build [(.int .i64 0), (.int .i64 0), (.string ⟨#[]⟩)] [(0, 1, (.t 13)), (1, 1, (.t 15)), (2, 1, (.t 18))], 0, false⟩,
   ⟨(some 5), none, .alloc [(.int .i64 0), (.int .i64 0), (.string ⟨#[]⟩)] 3, 0, false⟩,
   ⟨(some 6), none, .alloc [(.int .i64 0), (.int .i64 0), (.string ⟨#[]⟩), (.string ⟨#[]⟩), (.bool false)] 5, 0, false⟩,
   ⟨none, none, .st 3 (.t 5) (.t 19), 0, true⟩,
   ⟨(some 20), none, .fadd 9 (.t 3), 0, false⟩,
   ⟨(some 21), none, .ldN 5 (.t 20), 2, false⟩,
   ⟨none, none, .st 5 (.t 6) (.t 21), 0, true⟩])
 (.seq (.reg [⟨(some 22), none, .mov (.t 0), 0, false⟩,
   ⟨(some 23), none, .nilCheck (.t 22), 0, false⟩,
   ⟨(some 24), none, .fadd 1 (.t 23), 0, false⟩,
   ⟨(some 25), none, .ld1 (.t 24), 0, false⟩,
   ⟨(some 26), none, .ldN 3 (.t 5), 0, false⟩,
   ⟨(some 27), none, .lookup (.agg [(.int .i64), (.int .i64), .str]) (.slice none 0 0) false (.t 25) (.t 26), 0, false⟩,
   ⟨(some 7), none, .mov (.t 27), 0, false⟩])
 (.seq (.seq (.reg [⟨(some 28), none, .fadd 4 (.t 3), 0, false⟩,
   ⟨(some 29), none, .ld1 (.t 28), 0, false⟩,
   ⟨(some 30), none, .mov (.t 0), 0, false⟩,
   ⟨(some 31), none, .fadd 1 (.t 3), 0, false⟩,
   ⟨(some 32), none, .ld1 (.t 31), 0, false⟩,
   ⟨(some 33), none, .nilCheck (.t 30), 0, false⟩,
   ⟨(some 34), none, .fadd 6 (.t 33), 0, false⟩,
   ⟨(some 35), none, .idxA 1 4 (.t 34) (.t 32), 0, false⟩,
   ⟨(some 36), none, .ld1 (.t 35), 0, false⟩,
   ⟨(some 37), none, .bin .leq (.t 29) (.t 36), 0, false⟩,
   ⟨(some 38), none, .mov (.t 37), 0, false⟩,
   ⟨(some 39), (some (38, false)), .fadd 1 (.t 6), 0, false⟩,
   ⟨(some 40), (some (38, false)), .ld1 (.t 39), 0, false⟩,
   ⟨(some 41), (some (38, false)), .bin .lss (.t 40) (.c (.int .i64 1)), 0, false⟩,
   ⟨(some 42), none, .pick (.t 38) (.c (.bool true)) (.t 41), 0, false⟩,
   ⟨(some 43), none, .mov (.t 42), 0, false⟩,
   ⟨(some 44), (some (43, false)), .fadd 1 (.t 6), 0, false⟩,
   ⟨(some 45), (some (43, false)), .ld1 (.t 44), 0, false⟩,
   ⟨(some 46), (some (43, false)), .mov (.t 7), 0, false⟩,
   ⟨(some 47), (some (43, false)), .lenSl (.t 46), 0, false⟩,
   ⟨(some 48), (some (43, false)), .bin .gtr (.t 45) (.t 47), 0, false⟩,
   ⟨(some 49), none, .pick (.t 43) (.c (.bool true)) (.t 48), 0, false⟩,
   ⟨(some 50), none, .mov (.t 49), 0, false⟩,
   ⟨(some 51), (some (50, false)), .mov (.t 0), 0, false⟩,
   ⟨(some 52), (some (50, false)), .nilCheck (.t 51), 0, false⟩,
   ⟨(some 53), (some (50, false)), .fadd 3 (.t 52), 0, false⟩,
   ⟨(some 54), (some (50, false)), .ld1 (.t 53), 0, false⟩,
   ⟨(some 55), (some (50, false)), .fadd 2 (.t 3), 0, false⟩,
   ⟨(some 56), (some (50, false)), .ld1 (.t 55), 0, false⟩,
   ⟨(some 57), (some (50, false)), .fadd 2 (.t 6), 0, false⟩,
   ⟨(some 58), (some (50, false)), .ld1 (.t 57), 0, false⟩,
   ⟨(some 59), (some (50, false)), .build [(.int .i64 0), (.string ⟨#[]⟩)] [(0, 1, (.t 56)), (1, 1, (.t 58))], 0, false⟩,
   ⟨(some 60), (some (50, false)), .lookup (.agg [(.int .i64), .str]) (.bool false) false (.t 54) (.t 59), 0, false⟩,
   ⟨(some 61), none, .pick (.t 50) (.c (.bool true)) (.t 60), 0, false⟩])
 (.cond (.t 61) (.seq (.reg [⟨(some 4), none, .mov (.c (.bool false)), 0, false⟩])
  (.ret))
  (.skip)))
 (.seq (.reg [⟨(some 62), none, .mov (.t 7), 0, false⟩,
   ⟨(some 63), none, .fadd 1 (.t 6), 0, false⟩,
   ⟨(some 64), none, .ld1 (.t 63), 0, false⟩,
   ⟨(some 65), none, .bin .sub (.t 64) (.c (.int .i64 1)), 0, false⟩,
   ⟨(some 66), none, .idxS 1 (.t 62) (.t 65), 0, false⟩,
   ⟨(some 67), none, .ld1 (.t 66), 0, false⟩,
   ⟨(some 8), none, .mov (.t 67), 0, false⟩])
 (.seq (.reg [⟨(some 68), none, .fadd 4 (.t 6), 0, false⟩,
   ⟨none, none, .st 1 (.t 68) (.c (.bool false)), 0, false⟩])
 (.seq (.seq (.reg [⟨(some 69), none, .mov (.t 8), 0, false⟩,
   ⟨(some 70), none, .nilCheck (.t 69), 0, false⟩,
   ⟨(some 71), none, .fadd 0 (.t 70), 0, false⟩,
   ⟨(some 72), none, .ldN 5 (.t 71), 0, false⟩,
   ⟨(some 73), none, .ldN 5 (.t 6), 0, false⟩,
   ⟨(some 74), none, .eq true (.agg [(.int .i64), (.int .i64), .str, .str, .bool]) (.t 72) (.t 73), 0, false⟩,
   ⟨(some 75), none, .mov (.t 74), 0, false⟩,
   ⟨(some 76), (some (75, false)), .mov (.t 8), 0, false⟩,
   ⟨(some 77), (some (75, false)), .nilCheck (.t 76), 0, false⟩,
   ⟨(some 78), (some (75, false)), .fadd 5 (.t 77), 0, false⟩,
   ⟨(some 79), (some (75, false)), .ld1 (.t 78), 0, false⟩,
   ⟨(some 80), (some (75, false)), .nilCheck (.t 79), 0, false⟩,
   ⟨(some 81), (some (75, false)), .fadd 2 (.t 80), 0, false⟩,
   ⟨(some 82), (some (75, false)), .ld1 (.t 81), 0, false⟩,
   ⟨(some 83), (some (75, false)), .bin .eql (.t 82) (.c (.int .i64 2)), 0, false⟩,
   ⟨(some 84), none, .pick (.t 75) (.c (.bool true)) (.t 83), 0, false⟩,
   ⟨(some 85), none, .mov (.t 84), 0, false⟩,
   ⟨(some 86), (some (85, false)), .mov (.t 8), 0, false⟩,
   ⟨(some 87), (some (85, false)), .nilCheck (.t 86), 0, false⟩,
   ⟨(some 88), (some (85, false)), .fadd 8 (.t 87), 0, false⟩,
   ⟨(some 89), (some (85, false)), .ld1 (.t 88), 0, false⟩,
   ⟨(some 90), none, .pick (.t 85) (.c (.bool true)) (.t 89), 0, false⟩,
   ⟨(some 91), none, .mov (.t 90), 0, false⟩,
   ⟨(some 92), (some (91, false)), .mov (.t 8), 0, false⟩,
   ⟨(some 93), (some (91, false)), .nilCheck (.t 92), 0, false⟩,
   ⟨(some 94), (some (91, false)), .fadd 6 (.t 93), 0, false⟩,
   ⟨(some 95), (some (91, false)), .ld1 (.t 94), 0, false⟩,
   ⟨(some 96), (some (91, false)), .fadd 9 (.t 3), 0, false⟩,
   ⟨(some 97), (some (91, false)), .fadd 4 (.t 96), 0, false⟩,
   ⟨(some 98), (some (91, false)), .ld1 (.t 97), 0, false⟩,
   ⟨(some 99), (some (91, false)), .eq true .bool (.t 95) (.t 98), 0, false⟩,
   ⟨(some 100), none, .pick (.t 91) (.c (.bool true)) (.t 99), 0, false⟩])
 (.cond (.t 100) (.seq (.reg [⟨(some 4), none, .mov (.c (.bool false)), 0, false⟩])
  (.ret))
  (.skip)))
 (.seq (.reg [⟨(some 9), none, .mov (.c (.int .i64 0)), 0, false⟩])
 (.seq (.label 0)
 (.seq (.seq (.reg [⟨(some 101), none, .mov (.t 9), 0, false⟩,
   ⟨(some 102), none, .fadd 1 (.t 6), 0, false⟩,
   ⟨(some 103), none, .ld1 (.t 102), 0, false⟩,
   ⟨(some 104), none, .bin .sub (.t 103) (.c (.int .i64 1)), 0, false⟩,
   ⟨(some 105), none, .bin .lss (.t 101) (.t 104), 0, false⟩,
   ⟨(some 106), none, .mov (.t 105), 0, false⟩,
   ⟨(some 107), (some (106, true)), .mov (.t 8), 0, false⟩,
   ⟨(some 108), (some (106, true)), .nilCheck (.t 107), 0, false⟩,
   ⟨(some 109), (some (106, true)), .fadd 6 (.t 108), 0, false⟩,
   ⟨(some 110), (some (106, true)), .ld1 (.t 109), 0, false⟩,
   ⟨(some 111), (some (106, true)), .un .not (.t 110), 0, false⟩,
   ⟨(some 112), none, .pick (.t 106) (.t 111) (.c (.bool false)), 0, false⟩])
 (.cond (.t 112) (.seq (.seq (.reg [⟨(some 113), none, .mov (.t 7), 0, false⟩,
    ⟨(some 114), none, .mov (.t 9), 0, false⟩,
    ⟨(some 115), none, .idxS 1 (.t 113) (.t 114), 0, false⟩,
    ⟨(some 116), none, .ld1 (.t 115), 0, false⟩,
    ⟨(some 10), none, .mov (.t 116), 0, false⟩])
  (.seq (.reg [⟨(some 117), none, .mov (.t 10), 0, false⟩,
    ⟨(some 118), none, .nilCheck (.t 117), 0, false⟩,
    ⟨(some 119), none, .fadd 6 (.t 118), 0, false⟩,
    ⟨(some 120), none, .ld1 (.t 119), 0, false⟩,
    ⟨(some 121), none, .un .not (.t 120), 0, false⟩,
    ⟨(some 122), none, .mov (.t 121), 0, false⟩,
    ⟨(some 123), (some (122, true)), .mov (.t 10), 0, false⟩,
    ⟨(some 124), (some (122, true)), .nilCheck (.t 123), 0, false⟩,
    ⟨(some 125), (some (122, true)), .fadd 5 (.t 124), 0, false⟩,
    ⟨(some 126), (some (122, true)), .ld1 (.t 125), 0, false⟩,
    ⟨(some 127), (some (122, true)), .nilCheck (.t 126), 0, false⟩,
    ⟨(some 128), (some (122, true)), .fadd 2 (.t 127), 0, false⟩,
    ⟨(some 129), (some (122, true)), .ld1 (.t 128), 0, false⟩,
    ⟨(some 130), (some (122, true)), .bin .neq (.t 129) (.c (.int .i64 2)), 0, false⟩,
    ⟨(some 131), none, .pick (.t 122) (.t 130) (.c (.bool false)), 0, false⟩])
  (.cond (.t 131) (.seq (.reg [⟨(some 4), none, .mov (.c (.bool false)), 0, false⟩])
   (.ret))
   (.skip))))
  (.seq (.reg [⟨(some 132), none, .mov (.t 9), 0, false⟩,
    ⟨(some 133), none, .bin .add (.t 132) (.c (.int .i64 1)), 0, false⟩,
    ⟨(some 9), none, .mov (.t 133), 0, false⟩])
  (.goto 0)))
  (.skip)))
 (.seq (.reg [⟨(some 134), none, .mov (.t 8), 0, false⟩,
   ⟨(some 141), none, .nilCheck (.t 134), 0, false⟩,
   ⟨(some 142), none, .fadd 6 (.t 141), 0, false⟩,
   ⟨none, none, .st 1 (.t 142) (.c (.bool true)), 0, true⟩,
   ⟨(some 135), none, .mov (.t 8), 0, false⟩,
   ⟨(some 143), none, .nilCheck (.t 135), 0, false⟩,
   ⟨(some 144), none, .fadd 7 (.t 143), 0, false⟩,
   ⟨none, none, .st 1 (.t 144) (.c (.bool false)), 0, true⟩,
   ⟨(some 136), none, .mov (.t 0), 0, false⟩,
   ⟨(some 137), none, .fadd 1 (.t 3), 0, false⟩,
   ⟨(some 138), none, .ld1 (.t 137), 3, false⟩,
   ⟨(some 139), none, .fadd 4 (.t 3), 0, false⟩,
   ⟨(some 140), none, .ld1 (.t 139), 3, false⟩,
   ⟨(some 145), none, .nilCheck (.t 136), 0, false⟩,
   ⟨(some 146), none, .fadd 6 (.t 145), 0, false⟩,
   ⟨(some 147), none, .idxA 1 4 (.t 146) (.t 138), 0, false⟩,
   ⟨none, none, .st 1 (.t 147) (.t 140), 0, true⟩])
 (.seq (.reg [⟨(some 148), none, .mov (.t 0), 0, false⟩,
   ⟨(some 149), none, .nilCheck (.t 148), 0, false⟩,
   ⟨(some 150), none, .fadd 3 (.t 149), 0, false⟩,
   ⟨(some 151), none, .ld1 (.t 150), 0, false⟩,
   ⟨(some 152), none, .fadd 2 (.t 3), 0, false⟩,
   ⟨(some 153), none, .ld1 (.t 152), 0, false⟩,
   ⟨(some 154), none, .fadd 2 (.t 6), 0, false⟩,
   ⟨(some 155), none, .ld1 (.t 154), 0, false⟩,
   ⟨(some 156), none, .build [(.int .i64 0), (.string ⟨#[]⟩)] [(0, 1, (.t 153)), (1, 1, (.t 155))], 0, false⟩,
   ⟨(some 157), none, .mov (.t 0), 0, false⟩,
   ⟨(some 158), none, .nilCheck (.t 157), 0, false⟩,
   ⟨(some 159), none, .fadd 4 (.t 158), 0, false⟩,
   ⟨(some 160), none, .ld1 (.t 159), 0, false⟩,
   ⟨(some 169), none, .mapEnt (.agg [(.int .i64), .str]) (.bool false) (.t 151) (.t 156), 0, true⟩,
   ⟨(some 170), none, .extract (.t 169) 1, 0, false⟩,
   ⟨none, none, .entSt (.agg [(.int .i64), .str]) (.t 151) (.t 170) (.c (.bool true)), 0, true⟩,
   ⟨(some 161), none, .fadd 1 (.t 3), 0, false⟩,
   ⟨(some 162), none, .ld1 (.t 161), 3, false⟩,
   ⟨(some 163), none, .fadd 2 (.t 3), 0, false⟩,
   ⟨(some 164), none, .ld1 (.t 163), 3, false⟩,
   ⟨(some 165), none, .fadd 4 (.t 3), 0, false⟩,
   ⟨(some 166), none, .ld1 (.t 165), 3, false⟩,
   ⟨(some 167), none, .build [(.int .i64 0), (.int .i64 0), (.int .i64 0)] [(0, 1, (.t 162)), (1, 1, (.t 164)), (2, 1, (.t 166))], 0, false⟩,
   ⟨(some 171), none, .mapEnt (.agg [(.int .i64), (.int .i64), (.int .i64)]) (.pointer none) (.t 160) (.t 167), 0, true⟩,
   ⟨(some 168), none, .mov (.t 8), 0, false⟩,
   ⟨(some 172), none, .extract (.t 171) 1, 0, false⟩,
   ⟨none, none, .entSt (.agg [(.int .i64), (.int .i64), (.int .i64)]) (.t 160) (.t 172) (.t 168), 0, true⟩])
 (.seq (.reg [⟨(some 4), none, .mov (.c (.bool true)), 0, false⟩])
 (.ret))))))))))))))⟩
theorem c31 : cFn Tryd.prog Tryd.f31 = some a31 := by kernel_rfl
def a32 : AFn := ⟨53, [.tmp 4],
 .seq (.reg [⟨(some 3), none, .box 14 (.t 1), 0, false⟩,
   ⟨(some 4), none, .mov (.c (.bool false)), 0, false⟩])
 (.seq (.reg [⟨(some 7), none, .fadd 1 (.t 3), 0, false⟩,
   ⟨(some 8), none, .ld1 (.t 7), 0, false⟩,
   ⟨(some 9), none, .fadd 2 (.t 3), 0, false⟩,
   ⟨(some 10), none, .ld1 (.t 9), 0, false⟩,
   ⟨(some 11), none, .fadd 4 (.t 3), 0, false⟩,
   ⟨(some 12), none, .ld1 (.t 11), 0, false⟩,
   ⟨(some 13), none, .build [(.int .i64 0), (.int .i64 0), (.int .i64 0)] [(0, 1, (.t 8)), (1, 1, (.t 10)), (2, 1, (.t 12))], 0, false⟩,
   ⟨(some 5), none, .alloc [(.int .i64 0), (.int .i64 0), (.int .i64 0)] 3, 0, false⟩,
   ⟨none, none, .st 3 (.t 5) (.t 13), 0, false⟩])
 (.seq (.reg [⟨(some 14), none, .mov (.t 0), 0, false⟩,
   ⟨(some 15), none, .nilCheck (.t 14), 0, false⟩,
   ⟨(some 16), none, .fadd 4 (.t 15), 0, false⟩,
   ⟨(some 17), none, .ld1 (.t 16), 0, false⟩,
   ⟨(some 18), none, .ldN 3 (.t 5), 0, false⟩,
   ⟨(some 19), none, .lookup (.agg [(.int .i64), (.int .i64), (.int .i64)]) (.pointer none) false (.t 17) (.t 18), 0, false⟩,
   ⟨(some 6), none, .mov (.t 19), 0, false⟩])
 (.seq (.seq (.reg [⟨(some 20), none, .mov (.t 6), 0, false⟩,
   ⟨(some 21), none, .eq false .ptr (.t 20) (.c (.pointer none)), 0, false⟩])
 (.cond (.t 21) (.seq (.reg [⟨(some 4), none, .mov (.c (.bool false)), 0, false⟩])
  (.ret))
  (.skip)))
 (.seq (.reg [⟨(some 22), none, .mov (.t 0), 0, false⟩,
   ⟨(some 23), none, .nilCheck (.t 22), 0, false⟩,
   ⟨(some 24), none, .fadd 4 (.t 23), 0, false⟩,
   ⟨(some 25), none, .ld1 (.t 24), 0, false⟩,
   ⟨(some 26), none, .ldN 3 (.t 5), 0, false⟩,
   ⟨none, none, .delete (.agg [(.int .i64), (.int .i64), (.int .i64)]) (.t 25) (.t 26), 0, true⟩])
 (.seq (.reg [⟨(some 27), none, .mov (.t 0), 0, false⟩,
   ⟨(some 28), none, .nilCheck (.t 27), 0, false⟩,
   ⟨(some 29), none, .fadd 3 (.t 28), 0, false⟩,
   ⟨(some 30), none, .ld1 (.t 29), 0, false⟩,
   ⟨(some 31), none, .fadd 2 (.t 3), 0, false⟩,
   ⟨(some 32), none, .ld1 (.t 31), 0, false⟩,
   ⟨(some 33), none, .mov (.t 6), 0, false⟩,
   ⟨(some 34), none, .nilCheck (.t 33), 0, false⟩,
   ⟨(some 35), none, .fadd 0 (.t 34), 0, false⟩,
   ⟨(some 36), none, .fadd 2 (.t 35), 0, false⟩,
   ⟨(some 37), none, .ld1 (.t 36), 0, false⟩,
   ⟨(some 38), none, .build [(.int .i64 0), (.string ⟨#[]⟩)] [(0, 1, (.t 32)), (1, 1, (.t 37))], 0, false⟩,
   ⟨none, none, .delete (.agg [(.int .i64), .str]) (.t 30) (.t 38), 0, true⟩])
 (.seq (.seq (.reg [⟨(some 39), none, .fadd 0 (.t 3), 0, false⟩,
   ⟨(some 40), none, .ld1 (.t 39), 0, false⟩,
   ⟨(some 41), none, .bin .eql (.t 40) (.c (.int .i64 5)), 0, false⟩])
 (.cond (.t 41) (.reg [⟨(some 42), none, .mov (.t 6), 0, false⟩,
    ⟨(some 43), none, .mov (.t 0), 0, false⟩,
    ⟨(some 44), none, .nilCheck (.t 43), 0, false⟩,
    ⟨(some 45), none, .fadd 5 (.t 44), 0, false⟩,
    ⟨(some 46), none, .ld1 (.t 45), 0, false⟩,
    ⟨(some 49), none, .nilCheck (.t 42), 0, false⟩,
    ⟨(some 50), none, .fadd 7 (.t 49), 0, false⟩,
    ⟨none, none, .st 1 (.t 50) (.c (.bool true)), 0, true⟩,
    ⟨(some 47), none, .ldN 3 (.t 5), 2, false⟩,
    ⟨(some 51), none, .mapEnt (.agg [(.int .i64), (.int .i64), (.int .i64)]) (.pointer none) (.t 46) (.t 47), 0, true⟩,
    ⟨(some 48), none, .mov (.t 6), 0, false⟩,
    ⟨(some 52), none, .extract (.t 51) 1, 0, false⟩,
    ⟨none, none, .entSt (.agg [(.int .i64), (.int .i64), (.int .i64)]) (.t 46) (.t 52) (.t 48), 0, true⟩])
  (.skip)))
 (.seq (.reg [⟨(some 4), none, .mov (.c (.bool true)), 0, false⟩])
 (.ret))))))))⟩
theorem c32 : cFn Tryd.prog Tryd.f32 = some a32 := by kernel_rfl
def a33 : AFn := ⟨30, [.tmp 4],
 .seq (.reg [⟨(some 3), none, .box 14 (.t 1), 0, false⟩,
   ⟨(some 4), none, .mov (.c (.bool false)), 0, false⟩])
 (.seq (.reg [⟨(some 7), none, .fadd 1 (.t 3), 0, false⟩,
   ⟨(some 8), none, .ld1 (.t 7), 0, false⟩,
   ⟨(some 9), none, .fadd 2 (.t 3), 0, false⟩,
   ⟨(some 10), none, .ld1 (.t 9), 0, false⟩,
   ⟨(some 11), none, .fadd 4 (.t 3), 0, false⟩,
   ⟨(some 12), none, .ld1 (.t 11), 0, false⟩,
   ⟨(some 13), none, .build [(.int .i64 0), (.int .i64 0), (.int .i64 0)] [(0, 1, (.t 8)), (1, 1, (.t 10)), (2, 1, (.t 12))], 0, false⟩,
   ⟨(some 5), none, .alloc [(.int .i64 0), (.int .i64 0), (.int .i64 0)] 3, 0, false⟩,
   ⟨none, none, .st 3 (.t 5) (.t 13), 0, false⟩])
 (.seq (.reg [⟨(some 14), none, .mov (.t 0), 0, false⟩,
   ⟨(some 15), none, .nilCheck (.t 14), 0, false⟩,
   ⟨(some 16), none, .fadd 5 (.t 15), 0, false⟩,
   ⟨(some 17), none, .ld1 (.t 16), 0, false⟩,
   ⟨(some 18), none, .ldN 3 (.t 5), 0, false⟩,
   ⟨(some 19), none, .lookup (.agg [(.int .i64), (.int .i64), (.int .i64)]) (.pointer none) false (.t 17) (.t 18), 0, false⟩,
   ⟨(some 6), none, .mov (.t 19), 0, false⟩])
 (.seq (.seq (.reg [⟨(some 20), none, .mov (.t 6), 0, false⟩,
   ⟨(some 21), none, .eq false .ptr (.t 20) (.c (.pointer none)), 0, false⟩])
 (.cond (.t 21) (.seq (.reg [⟨(some 4), none, .mov (.c (.bool false)), 0, false⟩])
  (.ret))
  (.skip)))
 (.seq (.reg [⟨(some 22), none, .mov (.t 0), 0, false⟩,
   ⟨(some 23), none, .nilCheck (.t 22), 0, false⟩,
   ⟨(some 24), none, .fadd 5 (.t 23), 0, false⟩,
   ⟨(some 25), none, .ld1 (.t 24), 0, false⟩,
   ⟨(some 26), none, .ldN 3 (.t 5), 0, false⟩,
   ⟨none, none, .delete (.agg [(.int .i64), (.int .i64), (.int .i64)]) (.t 25) (.t 26), 0, true⟩])
 (.seq (.reg [⟨(some 27), none, .mov (.t 6), 0, false⟩,
   ⟨(some 28), none, .nilCheck (.t 27), 0, false⟩,
   ⟨(some 29), none, .fadd 8 (.t 28), 0, false⟩,
   ⟨none, none, .st 1 (.t 29) (.c (.bool true)), 0, false⟩])
 (.seq (.reg [⟨(some 4), none, .mov (.c (.bool true)), 0, false⟩])
 (.ret)))))))⟩
theorem c33 : cFn Tryd.prog Tryd.f33 = some a33 := by kernel_rfl
def a34 : AFn := ⟨14, [.tmp 6],
 .seq (.reg [⟨(some 6), none, .mov (.c (.string ⟨#[]⟩)), 0, false⟩])
 (.seq (.seq (.reg [⟨(some 7), none, .mov (.t 1), 0, false⟩,
   ⟨(some 8), none, .bin .gtr (.t 7) (.c (.int .i64 1)), 0, false⟩])
 (.cond (.t 8) (.seq (.reg [⟨(some 9), none, .mov (.t 0), 0, false⟩,
    ⟨(some 10), none, .mov (.t 2), 0, false⟩,
    ⟨(some 11), none, .call 36 [(.t 10)], 0, false⟩,
    ⟨(some 12), none, .bin .add (.t 9) (.t 11), 0, false⟩,
    ⟨(some 6), none, .mov (.t 12), 0, false⟩])
  (.ret))
  (.skip)))
 (.seq (.reg [⟨(some 13), none, .mov (.t 0), 0, false⟩,
   ⟨(some 6), none, .mov (.t 13), 0, false⟩])
 (.ret)))⟩
theorem c34 : cFn Tryd.prog Tryd.f34 = some a34 := by kernel_rfl
def a35 : AFn := ⟨5, [.tmp 2],
 .seq (.reg [⟨(some 2), none, .mov (.c (.string ⟨#[]⟩)), 0, false⟩])
 (.seq (.reg [⟨(some 3), none, .mov (.t 0), 0, false⟩,
   ⟨(some 4), none, .call 37 [(.t 3)], 0, false⟩,
   ⟨(some 2), none, .mov (.t 4), 0, false⟩])
 (.ret))⟩
theorem c35 : cFn Tryd.prog Tryd.f35 = some a35 := by kernel_rfl
def a36 : AFn := ⟨35, [.tmp 2],
 .seq (.reg [⟨(some 2), none, .mov (.c (.string ⟨#[]⟩)), 0, false⟩])
 (.seq (.reg [⟨(some 6), none, .mov (.t 0), 0, false⟩,
   ⟨(some 7), none, .bin .lss (.t 6) (.c (.int .i64 0)), 0, false⟩,
   ⟨(some 3), none, .mov (.c (.string ⟨#[]⟩)), 0, false⟩,
   ⟨(some 4), none, .mov (.t 7), 0, false⟩])
 (.seq (.reg [⟨(some 8), none, .mov (.t 0), 0, false⟩,
   ⟨(some 9), none, .cvI .u64 (.t 8), 0, false⟩,
   ⟨(some 5), none, .mov (.t 9), 0, false⟩])
 (.seq (.seq (.reg [⟨(some 10), none, .mov (.t 4), 0, false⟩])
 (.cond (.t 10) (.reg [⟨(some 11), none, .mov (.t 5), 0, false⟩,
    ⟨(some 12), none, .un .neg (.t 11), 0, false⟩,
    ⟨(some 5), none, .mov (.t 12), 0, false⟩])
  (.skip)))
 (.seq (.block 0 (.loop (.seq (.seq (.reg [⟨(some 13), none, .mov (.t 5), 0, false⟩,
    ⟨(some 14), none, .bin .gtr (.t 13) (.c (.int .u64 9)), 0, false⟩])
  (.cond (.t 14) (.skip)
   (.exit 0)))
  (.block 1 (.seq (.reg [⟨(some 15), none, .mov (.t 5), 0, false⟩,
    ⟨(some 16), none, .bin .rem (.t 15) (.c (.int .u64 10)), 0, false⟩,
    ⟨(some 17), none, .mov (.t 5), 0, false⟩,
    ⟨(some 18), none, .bin .rem (.t 17) (.c (.int .u64 10)), 0, false⟩,
    ⟨(some 19), none, .bin .add (.t 18) (.c (.int .u64 1)), 0, false⟩,
    ⟨(some 20), none, .slStr (.c (.string ⟨#[48, 49, 50, 51, 52, 53, 54, 55, 56, 57]⟩)) (some (.t 16)) (some (.t 19)), 0, false⟩,
    ⟨(some 21), none, .mov (.t 3), 0, false⟩,
    ⟨(some 22), none, .bin .add (.t 20) (.t 21), 0, false⟩,
    ⟨(some 3), none, .mov (.t 22), 0, false⟩])
  (.reg [⟨(some 23), none, .mov (.t 5), 0, false⟩,
    ⟨(some 24), none, .bin .quo (.t 23) (.c (.int .u64 10)), 0, false⟩,
    ⟨(some 5), none, .mov (.t 24), 0, false⟩]))))))
 (.seq (.reg [⟨(some 25), none, .mov (.t 5), 0, false⟩,
   ⟨(some 26), none, .mov (.t 5), 0, false⟩,
   ⟨(some 27), none, .bin .add (.t 26) (.c (.int .u64 1)), 0, false⟩,
   ⟨(some 28), none, .slStr (.c (.string ⟨#[48, 49, 50, 51, 52, 53, 54, 55, 56, 57]⟩)) (some (.t 25)) (some (.t 27)), 0, false⟩,
   ⟨(some 29), none, .mov (.t 3), 0, false⟩,
   ⟨(some 30), none, .bin .add (.t 28) (.t 29), 0, false⟩,
   ⟨(some 3), none, .mov (.t 30), 0, false⟩])
 (.seq (.seq (.reg [⟨(some 31), none, .mov (.t 4), 0, false⟩])
 (.cond (.t 31) (.seq (.reg [⟨(some 32), none, .mov (.t 3), 0, false⟩,
    ⟨(some 33), none, .bin .add (.c (.string ⟨#[45]⟩)) (.t 32), 0, false⟩,
    ⟨(some 2), none, .mov (.t 33), 0, false⟩])
  (.ret))
  (.skip)))
 (.seq (.reg [⟨(some 34), none, .mov (.t 3), 0, false⟩,
   ⟨(some 2), none, .mov (.t 34), 0, false⟩])
 (.ret))))))))⟩
theorem c36 : cFn Tryd.prog Tryd.f36 = some a36 := by kernel_rfl
def a37 : AFn := ⟨5, [.tmp 2],
 .seq (.reg [⟨(some 2), none, .mov (.c (.string ⟨#[]⟩)), 0, false⟩])
 (.seq (.reg [⟨(some 3), none, .mov (.t 0), 0, false⟩,
   ⟨(some 4), none, .call 38 [(.t 3), (.c (.int .i64 10))], 0, false⟩,
   ⟨(some 2), none, .mov (.t 4), 0, false⟩])
 (.ret))⟩
theorem c37 : cFn Tryd.prog Tryd.f37 = some a37 := by kernel_rfl
def a38 : AFn := ⟨54, [.tmp 4],
 .seq (.reg [⟨(some 4), none, .mov (.c (.string ⟨#[]⟩)), 0, false⟩])
 (.seq (.seq (.reg [⟨(some 10), none, .mov (.t 1), 0, false⟩,
   ⟨(some 11), none, .bin .eql (.t 10) (.c (.int .i64 10)), 0, false⟩])
 (.cond (.t 11) (.seq (.seq (.reg [⟨(some 12), none, .mov (.t 0), 0, false⟩,
    ⟨(some 13), none, .bin .leq (.c (.int .i64 0)) (.t 12), 0, false⟩,
    ⟨(some 14), none, .mov (.t 13), 0, false⟩,
    ⟨(some 15), (some (14, true)), .mov (.t 0), 0, false⟩,
    ⟨(some 16), (some (14, true)), .bin .lss (.t 15) (.c (.int .i64 100)), 0, false⟩,
    ⟨(some 17), none, .pick (.t 14) (.t 16) (.c (.bool false)), 0, false⟩])
  (.cond (.t 17) (.seq (.reg [⟨(some 18), none, .mov (.t 0), 0, false⟩,
     ⟨(some 19), none, .call 39 [(.t 18)], 0, false⟩,
     ⟨(some 4), none, .mov (.t 19), 0, false⟩])
   (.ret))
   (.skip)))
  (.seq (.reg [⟨(some 5), none, .alloc [(.int .u8 0), (.int .u8 0), (.int .u8 0), (.int .u8 0), (.int .u8 0), (.int .u8 0), (.int .u8 0), (.int .u8 0), (.int .u8 0), (.int .u8 0), (.int .u8 0), (.int .u8 0), (.int .u8 0), (.int .u8 0), (.int .u8 0), (.int .u8 0), (.int .u8 0), (.int .u8 0), (.int .u8 0), (.int .u8 0), (.int .u8 0), (.int .u8 0), (.int .u8 0), (.int .u8 0)] 24, 0, false⟩])
  (.seq (.reg [⟨(some 20), none, .mov (.t 0), 0, false⟩,
    ⟨(some 21), none, .cvI .u64 (.t 20), 0, false⟩,
    ⟨(some 6), none, .mov (.t 21), 0, false⟩])
  (.seq (.seq (.reg [⟨(some 22), none, .mov (.t 0), 0, false⟩,
    ⟨(some 23), none, .bin .lss (.t 22) (.c (.int .i64 0)), 0, false⟩])
  (.cond (.t 23) (.reg [⟨(some 24), none, .mov (.t 6), 0, false⟩,
     ⟨(some 25), none, .un .neg (.t 24), 0, false⟩,
     ⟨(some 6), none, .mov (.t 25), 0, false⟩])
   (.skip)))
  (.seq (.reg [⟨(some 26), none, .mov (.t 6), 0, false⟩,
    ⟨(some 27), none, .call 40 [(.t 26)], 0, false⟩,
    ⟨(some 7), none, .mov (.t 27), 0, false⟩])
  (.seq (.reg [⟨(some 28), none, .mov (.t 7), 0, false⟩,
    ⟨(some 29), none, .bin .add (.c (.int .i64 1)) (.t 28), 0, false⟩,
    ⟨(some 30), none, .slArr 1 24 (.t 5) (some (.c (.int .i64 1))) (some (.t 29)), 0, false⟩,
    ⟨(some 31), none, .mov (.t 6), 0, false⟩,
    ⟨(some 32), none, .call 41 [(.t 30), (.t 31)], 0, false⟩])
  (.seq (.seq (.reg [⟨(some 33), none, .mov (.t 0), 0, false⟩,
    ⟨(some 34), none, .bin .lss (.t 33) (.c (.int .i64 0)), 0, false⟩])
  (.cond (.t 34) (.seq (.reg [⟨(some 35), none, .idxA 1 24 (.t 5) (.c (.int .i64 0)), 0, false⟩,
     ⟨none, none, .st 1 (.t 35) (.c (.int .u8 45)), 0, false⟩])
   (.seq (.reg [⟨(some 36), none, .mov (.t 7), 0, false⟩,
     ⟨(some 37), none, .bin .add (.c (.int .i64 1)) (.t 36), 0, false⟩,
     ⟨(some 38), none, .slArr 1 24 (.t 5) none (some (.t 37)), 0, false⟩,
     ⟨(some 39), none, .cvB (.t 38), 0, false⟩,
     ⟨(some 4), none, .mov (.t 39), 0, false⟩])
   (.ret)))
   (.skip)))
  (.seq (.reg [⟨(some 40), none, .mov (.t 7), 0, false⟩,
    ⟨(some 41), none, .bin .add (.c (.int .i64 1)) (.t 40), 0, false⟩,
    ⟨(some 42), none, .slArr 1 24 (.t 5) (some (.c (.int .i64 1))) (some (.t 41)), 0, false⟩,
    ⟨(some 43), none, .cvB (.t 42), 0, false⟩,
    ⟨(some 4), none, .mov (.t 43), 0, false⟩])
  (.ret)))))))))
  (.skip)))
 (.seq (.reg [⟨(some 45), none, .mov (.t 0), 0, false⟩,
   ⟨(some 46), none, .cvI .u64 (.t 45), 0, false⟩,
   ⟨(some 47), none, .mov (.t 1), 0, false⟩,
   ⟨(some 48), none, .mov (.t 0), 0, false⟩,
   ⟨(some 49), none, .bin .lss (.t 48) (.c (.int .i64 0)), 0, false⟩,
   ⟨(some 50), none, .call 42 [(.c (.slice none 0 0)), (.t 46), (.t 47), (.t 49), (.c (.bool false))], 0, false⟩,
   ⟨(some 44), none, .mov (.t 50), 0, false⟩,
   ⟨(some 51), none, .extract (.t 44) 0, 0, false⟩,
   ⟨(some 52), none, .extract (.t 44) 1, 0, false⟩,
   ⟨(some 8), none, .mov (.t 51), 0, false⟩,
   ⟨(some 9), none, .mov (.t 52), 0, false⟩])
 (.seq (.reg [⟨(some 53), none, .mov (.t 9), 0, false⟩,
   ⟨(some 4), none, .mov (.t 53), 0, false⟩])
 (.ret))))⟩
theorem c38 : cFn Tryd.prog Tryd.f38 = some a38 := by kernel_rfl
def a39 : AFn := ⟨15, [.tmp 2],
 .seq (.reg [⟨(some 2), none, .mov (.c (.string ⟨#[]⟩)), 0, false⟩])
 (.seq (.seq (.reg [⟨(some 3), none, .mov (.t 0), 0, false⟩,
   ⟨(some 4), none, .bin .lss (.t 3) (.c (.int .i64 10)), 0, false⟩])
 (.cond (.t 4) (.seq (.reg [⟨(some 5), none, .mov (.t 0), 0, false⟩,
    ⟨(some 6), none, .mov (.t 0), 0, false⟩,
    ⟨(some 7), none, .bin .add (.t 6) (.c (.int .i64 1)), 0, false⟩,
    ⟨(some 8), none, .slStr (.c (.string ⟨#[48, 49, 50, 51, 52, 53, 54, 55, 56, 57, 97, 98, 99, 100, 101, 102, 103, 104, 105, 106, 107, 108, 109, 110, 111, 112, 113, 114, 115, 116, 117, 118, 119, 120, 121, 122]⟩)) (some (.t 5)) (some (.t 7)), 0, false⟩,
    ⟨(some 2), none, .mov (.t 8), 0, false⟩])
  (.ret))
  (.skip)))
 (.seq (.reg [⟨(some 9), none, .mov (.t 0), 0, false⟩,
   ⟨(some 10), none, .bin .mul (.t 9) (.c (.int .i64 2)), 0, false⟩,
   ⟨(some 11), none, .mov (.t 0), 0, false⟩,
   ⟨(some 12), none, .bin .mul (.t 11) (.c (.int .i64 2)), 0, false⟩,
   ⟨(some 13), none, .bin .add (.t 12) (.c (.int .i64 2)), 0, false⟩,
   ⟨(some 14), none, .slStr (.c (.string ⟨#[48, 48, 48, 49, 48, 50, 48, 51, 48, 52, 48, 53, 48, 54, 48, 55, 48, 56, 48, 57, 49, 48, 49, 49, 49, 50, 49, 51, 49, 52, 49, 53, 49, 54, 49, 55, 49, 56, 49, 57, 50, 48, 50, 49, 50, 50, 50, 51, 50, 52, 50, 53, 50, 54, 50, 55, 50, 56, 50, 57, 51, 48, 51, 49, 51, 50, 51, 51, 51, 52, 51, 53, 51, 54, 51, 55, 51, 56, 51, 57, 52, 48, 52, 49, 52, 50, 52, 51, 52, 52, 52, 53, 52, 54, 52, 55, 52, 56, 52, 57, 53, 48, 53, 49, 53, 50, 53, 51, 53, 52, 53, 53, 53, 54, 53, 55, 53, 56, 53, 57, 54, 48, 54, 49, 54, 50, 54, 51, 54, 52, 54, 53, 54, 54, 54, 55, 54, 56, 54, 57, 55, 48, 55, 49, 55, 50, 55, 51, 55, 52, 55, 53, 55, 54, 55, 55, 55, 56, 55, 57, 56, 48, 56, 49, 56, 50, 56, 51, 56, 52, 56, 53, 56, 54, 56, 55, 56, 56, 56, 57, 57, 48, 57, 49, 57, 50, 57, 51, 57, 52, 57, 53, 57, 54, 57, 55, 57, 56, 57, 57]⟩)) (some (.t 10)) (some (.t 13)), 0, false⟩,
   ⟨(some 2), none, .mov (.t 14), 0, false⟩])
 (.ret)))⟩
theorem c39 : cFn Tryd.prog Tryd.f39 = some a39 := by kernel_rfl
def a41 : AFn := ⟨167, [],
 .seq (.reg [⟨(some 17), none, .mov (.t 0), 0, false⟩,
   ⟨(some 18), none, .lenSl (.t 17), 0, false⟩,
   ⟨(some 4), none, .mov (.t 18), 0, false⟩])
 (.seq (.block 0 (.loop (.seq (.seq (.reg [⟨(some 19), none, .mov (.t 4), 0, false⟩,
    ⟨(some 20), none, .bin .geq (.t 19) (.c (.int .i64 8)), 0, false⟩])
  (.cond (.t 20) (.skip)
   (.exit 0)))
  (.block 1 (.seq (.reg [⟨(some 21), none, .mov (.t 1), 0, false⟩,
    ⟨(some 22), none, .bin .rem (.t 21) (.c (.int .u64 100000000)), 0, false⟩,
    ⟨(some 23), none, .cvI .u32 (.t 22), 0, false⟩,
    ⟨(some 5), none, .mov (.t 23), 0, false⟩])
  (.seq (.reg [⟨(some 24), none, .mov (.t 1), 0, false⟩,
    ⟨(some 25), none, .bin .quo (.t 24) (.c (.int .u64 100000000)), 0, false⟩,
    ⟨(some 1), none, .mov (.t 25), 0, false⟩])
  (.seq (.reg [⟨(some 26), none, .mov (.t 5), 0, false⟩,
    ⟨(some 27), none, .bin .quo (.t 26) (.c (.int .u32 10000)), 0, false⟩,
    ⟨(some 28), none, .mov (.t 5), 0, false⟩,
    ⟨(some 29), none, .bin .rem (.t 28) (.c (.int .u32 10000)), 0, false⟩,
    ⟨(some 6), none, .mov (.t 27), 0, false⟩,
    ⟨(some 7), none, .mov (.t 29), 0, false⟩])
  (.seq (.reg [⟨(some 30), none, .mov (.t 7), 0, false⟩,
    ⟨(some 31), none, .bin .quo (.t 30) (.c (.int .u32 100)), 0, false⟩,
    ⟨(some 32), none, .bin .mul (.t 31) (.c (.int .u32 2)), 0, false⟩,
    ⟨(some 33), none, .mov (.t 7), 0, false⟩,
    ⟨(some 34), none, .bin .rem (.t 33) (.c (.int .u32 100)), 0, false⟩,
    ⟨(some 35), none, .bin .mul (.t 34) (.c (.int .u32 2)), 0, false⟩,
    ⟨(some 8), none, .mov (.t 32), 0, false⟩,
    ⟨(some 9), none, .mov (.t 35), 0, false⟩])
  (.seq (.reg [⟨(some 36), none, .mov (.t 6), 0, false⟩,
    ⟨(some 37), none, .bin .quo (.t 36) (.c (.int .u32 100)), 0, false⟩,
    ⟨(some 38), none, .bin .mul (.t 37) (.c (.int .u32 2)), 0, false⟩,
    ⟨(some 39), none, .mov (.t 6), 0, false⟩,
    ⟨(some 40), none, .bin .rem (.t 39) (.c (.int .u32 100)), 0, false⟩,
    ⟨(some 41), none, .bin .mul (.t 40) (.c (.int .u32 2)), 0, false⟩,
    ⟨(some 10), none, .mov (.t 38), 0, false⟩,
    ⟨(some 11), none, .mov (.t 41), 0, false⟩])
  (.seq (.reg [⟨(some 42), none, .mov (.t 0), 0, false⟩,
    ⟨(some 43), none, .mov (.t 4), 0, false⟩,
    ⟨(some 44), none, .bin .sub (.t 43) (.c (.int .i64 1)), 0, false⟩,
    ⟨(some 48), none, .mov (.t 9), 0, false⟩,
    ⟨(some 49), none, .bin .add (.t 48) (.c (.int .u32 1)), 0, false⟩,
    ⟨(some 50), none, .ixStr (.c (.string ⟨#[48, 48, 48, 49, 48, 50, 48, 51, 48, 52, 48, 53, 48, 54, 48, 55, 48, 56, 48, 57, 49, 48, 49, 49, 49, 50, 49, 51, 49, 52, 49, 53, 49, 54, 49, 55, 49, 56, 49, 57, 50, 48, 50, 49, 50, 50, 50, 51, 50, 52, 50, 53, 50, 54, 50, 55, 50, 56, 50, 57, 51, 48, 51, 49, 51, 50, 51, 51, 51, 52, 51, 53, 51, 54, 51, 55, 51, 56, 51, 57, 52, 48, 52, 49, 52, 50, 52, 51, 52, 52, 52, 53, 52, 54, 52, 55, 52, 56, 52, 57, 53, 48, 53, 49, 53, 50, 53, 51, 53, 52, 53, 53, 53, 54, 53, 55, 53, 56, 53, 57, 54, 48, 54, 49, 54, 50, 54, 51, 54, 52, 54, 53, 54, 54, 54, 55, 54, 56, 54, 57, 55, 48, 55, 49, 55, 50, 55, 51, 55, 52, 55, 53, 55, 54, 55, 55, 55, 56, 55, 57, 56, 48, 56, 49, 56, 50, 56, 51, 56, 52, 56, 53, 56, 54, 56, 55, 56, 56, 56, 57, 57, 48, 57, 49, 57, 50, 57, 51, 57, 52, 57, 53, 57, 54, 57, 55, 57, 56, 57, 57]⟩)) (.t 49), 0, false⟩,
    ⟨(some 53), none, .idxS 1 (.t 42) (.t 44), 0, false⟩,
    ⟨none, none, .st 1 (.t 53) (.t 50), 0, true⟩,
    ⟨(some 45), none, .mov (.t 0), 0, false⟩,
    ⟨(some 46), none, .mov (.t 4), 0, false⟩,
    ⟨(some 47), none, .bin .sub (.t 46) (.c (.int .i64 2)), 0, false⟩,
    ⟨(some 51), none, .mov (.t 9), 0, false⟩,
    ⟨(some 52), none, .ixStr (.c (.string ⟨#[48, 48, 48, 49, 48, 50, 48, 51, 48, 52, 48, 53, 48, 54, 48, 55, 48, 56, 48, 57, 49, 48, 49, 49, 49, 50, 49, 51, 49, 52, 49, 53, 49, 54, 49, 55, 49, 56, 49, 57, 50, 48, 50, 49, 50, 50, 50, 51, 50, 52, 50, 53, 50, 54, 50, 55, 50, 56, 50, 57, 51, 48, 51, 49, 51, 50, 51, 51, 51, 52, 51, 53, 51, 54, 51, 55, 51, 56, 51, 57, 52, 48, 52, 49, 52, 50, 52, 51, 52, 52, 52, 53, 52, 54, 52, 55, 52, 56, 52, 57, 53, 48, 53, 49, 53, 50, 53, 51, 53, 52, 53, 53, 53, 54, 53, 55, 53, 56, 53, 57, 54, 48, 54, 49, 54, 50, 54, 51, 54, 52, 54, 53, 54, 54, 54, 55, 54, 56, 54, 57, 55, 48, 55, 49, 55, 50, 55, 51, 55, 52, 55, 53, 55, 54, 55, 55, 55, 56, 55, 57, 56, 48, 56, 49, 56, 50, 56, 51, 56, 52, 56, 53, 56, 54, 56, 55, 56, 56, 56, 57, 57, 48, 57, 49, 57, 50, 57, 51, 57, 52, 57, 53, 57, 54, 57, 55, 57, 56, 57, 57]⟩)) (.t 51), 0, false⟩,
    ⟨(some 54), none, .idxS 1 (.t 45) (.t 47), 0, false⟩,
    ⟨none, none, .st 1 (.t 54) (.t 52), 0, true⟩])
  (.seq (.reg [⟨(some 55), none, .mov (.t 0), 0, false⟩,
    ⟨(some 56), none, .mov (.t 4), 0, false⟩,
    ⟨(some 57), none, .bin .sub (.t 56) (.c (.int .i64 3)), 0, false⟩,
    ⟨(some 61), none, .mov (.t 8), 0, false⟩,
    ⟨(some 62), none, .bin .add (.t 61) (.c (.int .u32 1)), 0, false⟩,
    ⟨(some 63), none, .ixStr (.c (.string ⟨#[48, 48, 48, 49, 48, 50, 48, 51, 48, 52, 48, 53, 48, 54, 48, 55, 48, 56, 48, 57, 49, 48, 49, 49, 49, 50, 49, 51, 49, 52, 49, 53, 49, 54, 49, 55, 49, 56, 49, 57, 50, 48, 50, 49, 50, 50, 50, 51, 50, 52, 50, 53, 50, 54, 50, 55, 50, 56, 50, 57, 51, 48, 51, 49, 51, 50, 51, 51, 51, 52, 51, 53, 51, 54, 51, 55, 51, 56, 51, 57, 52, 48, 52, 49, 52, 50, 52, 51, 52, 52, 52, 53, 52, 54, 52, 55, 52, 56, 52, 57, 53, 48, 53, 49, 53, 50, 53, 51, 53, 52, 53, 53, 53, 54, 53, 55, 53, 56, 53, 57, 54, 48, 54, 49, 54, 50, 54, 51, 54, 52, 54, 53, 54, 54, 54, 55, 54, 56, 54, 57, 55, 48, 55, 49, 55, 50, 55, 51, 55, 52, 55, 53, 55, 54, 55, 55, 55, 56, 55, 57, 56, 48, 56, 49, 56, 50, 56, 51, 56, 52, 56, 53, 56, 54, 56, 55, 56, 56, 56, 57, 57, 48, 57, 49, 57, 50, 57, 51, 57, 52, 57, 53, 57, 54, 57, 55, 57, 56, 57, 57]⟩)) (.t 62), 0, false⟩,
    ⟨(some 66), none, .idxS 1 (.t 55) (.t 57), 0, false⟩,
    ⟨none, none, .st 1 (.t 66) (.t 63), 0, true⟩,
    ⟨(some 58), none, .mov (.t 0), 0, false⟩,
    ⟨(some 59), none, .mov (.t 4), 0, false⟩,
    ⟨(some 60), none, .bin .sub (.t 59) (.c (.int .i64 4)), 0, false⟩,
    ⟨(some 64), none, .mov (.t 8), 0, false⟩,
    ⟨(some 65), none, .ixStr (.c (.string ⟨#[48, 48, 48, 49, 48, 50, 48, 51, 48, 52, 48, 53, 48, 54, 48, 55, 48, 56, 48, 57, 49, 48, 49, 49, 49, 50, 49, 51, 49, 52, 49, 53, 49, 54, 49, 55, 49, 56, 49, 57, 50, 48, 50, 49, 50, 50, 50, 51, 50, 52, 50, 53, 50, 54, 50, 55, 50, 56, 50, 57, 51, 48, 51, 49, 51, 50, 51, 51, 51, 52, 51, 53, 51, 54, 51, 55, 51, 56, 51, 57, 52, 48, 52, 49, 52, 50, 52, 51, 52, 52, 52, 53, 52, 54, 52, 55, 52, 56, 52, 57, 53, 48, 53, 49, 53, 50, 53, 51, 53, 52, 53, 53, 53, 54, 53, 55, 53, 56, 53, 57, 54, 48, 54, 49, 54, 50, 54, 51, 54, 52, 54, 53, 54, 54, 54, 55, 54, 56, 54, 57, 55, 48, 55, 49, 55, 50, 55, 51, 55, 52, 55, 53, 55, 54, 55, 55, 55, 56, 55, 57, 56, 48, 56, 49, 56, 50, 56, 51, 56, 52, 56, 53, 56, 54, 56, 55, 56, 56, 56, 57, 57, 48, 57, 49, 57, 50, 57, 51, 57, 52, 57, 53, 57, 54, 57, 55, 57, 56, 57, 57]⟩)) (.t 64), 0, false⟩,
    ⟨(some 67), none, .idxS 1 (.t 58) (.t 60), 0, false⟩,
    ⟨none, none, .st 1 (.t 67) (.t 65), 0, true⟩])
  (.seq (.reg [⟨(some 68), none, .mov (.t 0), 0, false⟩,
    ⟨(some 69), none, .mov (.t 4), 0, false⟩,
    ⟨(some 70), none, .bin .sub (.t 69) (.c (.int .i64 5)), 0, false⟩,
    ⟨(some 74), none, .mov (.t 11), 0, false⟩,
    ⟨(some 75), none, .bin .add (.t 74) (.c (.int .u32 1)), 0, false⟩,
    ⟨(some 76), none, .ixStr (.c (.string ⟨#[48, 48, 48, 49, 48, 50, 48, 51, 48, 52, 48, 53, 48, 54, 48, 55, 48, 56, 48, 57, 49, 48, 49, 49, 49, 50, 49, 51, 49, 52, 49, 53, 49, 54, 49, 55, 49, 56, 49, 57, 50, 48, 50, 49, 50, 50, 50, 51, 50, 52, 50, 53, 50, 54, 50, 55, 50, 56, 50, 57, 51, 48, 51, 49, 51, 50, 51, 51, 51, 52, 51, 53, 51, 54, 51, 55, 51, 56, 51, 57, 52, 48, 52, 49, 52, 50, 52, 51, 52, 52, 52, 53, 52, 54, 52, 55, 52, 56, 52, 57, 53, 48, 53, 49, 53, 50, 53, 51, 53, 52, 53, 53, 53, 54, 53, 55, 53, 56, 53, 57, 54, 48, 54, 49, 54, 50, 54, 51, 54, 52, 54, 53, 54, 54, 54, 55, 54, 56, 54, 57, 55, 48, 55, 49, 55, 50, 55, 51, 55, 52, 55, 53, 55, 54, 55, 55, 55, 56, 55, 57, 56, 48, 56, 49, 56, 50, 56, 51, 56, 52, 56, 53, 56, 54, 56, 55, 56, 56, 56, 57, 57, 48, 57, 49, 57, 50, 57, 51, 57, 52, 57, 53, 57, 54, 57, 55, 57, 56, 57, 57]⟩)) (.t 75), 0, false⟩,
    ⟨(some 79), none, .idxS 1 (.t 68) (.t 70), 0, false⟩,
    ⟨none, none, .st 1 (.t 79) (.t 76), 0, true⟩,
    ⟨(some 71), none, .mov (.t 0), 0, false⟩,
    ⟨(some 72), none, .mov (.t 4), 0, false⟩,
    ⟨(some 73), none, .bin .sub (.t 72) (.c (.int .i64 6)), 0, false⟩,
    ⟨(some 77), none, .mov (.t 11), 0, false⟩,
    ⟨(some 78), none, .ixStr (.c (.string ⟨#[48, 48, 48, 49, 48, 50, 48, 51, 48, 52, 48, 53, 48, 54, 48, 55, 48, 56, 48, 57, 49, 48, 49, 49, 49, 50, 49, 51, 49, 52, 49, 53, 49, 54, 49, 55, 49, 56, 49, 57, 50, 48, 50, 49, 50, 50, 50, 51, 50, 52, 50, 53, 50, 54, 50, 55, 50, 56, 50, 57, 51, 48, 51, 49, 51, 50, 51, 51, 51, 52, 51, 53, 51, 54, 51, 55, 51, 56, 51, 57, 52, 48, 52, 49, 52, 50, 52, 51, 52, 52, 52, 53, 52, 54, 52, 55, 52, 56, 52, 57, 53, 48, 53, 49, 53, 50, 53, 51, 53, 52, 53, 53, 53, 54, 53, 55, 53, 56, 53, 57, 54, 48, 54, 49, 54, 50, 54, 51, 54, 52, 54, 53, 54, 54, 54, 55, 54, 56, 54, 57, 55, 48, 55, 49, 55, 50, 55, 51, 55, 52, 55, 53, 55, 54, 55, 55, 55, 56, 55, 57, 56, 48, 56, 49, 56, 50, 56, 51, 56, 52, 56, 53, 56, 54, 56, 55, 56, 56, 56, 57, 57, 48, 57, 49, 57, 50, 57, 51, 57, 52, 57, 53, 57, 54, 57, 55, 57, 56, 57, 57]⟩)) (.t 77), 0, false⟩,
    ⟨(some 80), none, .idxS 1 (.t 71) (.t 73), 0, false⟩,
    ⟨none, none, .st 1 (.t 80) (.t 78), 0, true⟩])
  (.seq (.reg [⟨(some 81), none, .mov (.t 0), 0, false⟩,
    ⟨(some 82), none, .mov (.t 4), 0, false⟩,
    ⟨(some 83), none, .bin .sub (.t 82) (.c (.int .i64 7)), 0, false⟩,
    ⟨(some 87), none, .mov (.t 10), 0, false⟩,
    ⟨(some 88), none, .bin .add (.t 87) (.c (.int .u32 1)), 0, false⟩,
    ⟨(some 89), none, .ixStr (.c (.string ⟨#[48, 48, 48, 49, 48, 50, 48, 51, 48, 52, 48, 53, 48, 54, 48, 55, 48, 56, 48, 57, 49, 48, 49, 49, 49, 50, 49, 51, 49, 52, 49, 53, 49, 54, 49, 55, 49, 56, 49, 57, 50, 48, 50, 49, 50, 50, 50, 51, 50, 52, 50, 53, 50, 54, 50, 55, 50, 56, 50, 57, 51, 48, 51, 49, 51, 50, 51, 51, 51, 52, 51, 53, 51, 54, 51, 55, 51, 56, 51, 57, 52, 48, 52, 49, 52, 50, 52, 51, 52, 52, 52, 53, 52, 54, 52, 55, 52, 56, 52, 57, 53, 48, 53, 49, 53, 50, 53, 51, 53, 52, 53, 53, 53, 54, 53, 55, 53, 56, 53, 57, 54, 48, 54, 49, 54, 50, 54, 51, 54, 52, 54, 53, 54, 54, 54, 55, 54, 56, 54, 57, 55, 48, 55, 49, 55, 50, 55, 51, 55, 52, 55, 53, 55, 54, 55, 55, 55, 56, 55, 57, 56, 48, 56, 49, 56, 50, 56, 51, 56, 52, 56, 53, 56, 54, 56, 55, 56, 56, 56, 57, 57, 48, 57, 49, 57, 50, 57, 51, 57, 52, 57, 53, 57, 54, 57, 55, 57, 56, 57, 57]⟩)) (.t 88), 0, false⟩,
    ⟨(some 92), none, .idxS 1 (.t 81) (.t 83), 0, false⟩,
    ⟨none, none, .st 1 (.t 92) (.t 89), 0, true⟩,
    ⟨(some 84), none, .mov (.t 0), 0, false⟩,
    ⟨(some 85), none, .mov (.t 4), 0, false⟩,
    ⟨(some 86), none, .bin .sub (.t 85) (.c (.int .i64 8)), 0, false⟩,
    ⟨(some 90), none, .mov (.t 10), 0, false⟩,
    ⟨(some 91), none, .ixStr (.c (.string ⟨#[48, 48, 48, 49, 48, 50, 48, 51, 48, 52, 48, 53, 48, 54, 48, 55, 48, 56, 48, 57, 49, 48, 49, 49, 49, 50, 49, 51, 49, 52, 49, 53, 49, 54, 49, 55, 49, 56, 49, 57, 50, 48, 50, 49, 50, 50, 50, 51, 50, 52, 50, 53, 50, 54, 50, 55, 50, 56, 50, 57, 51, 48, 51, 49, 51, 50, 51, 51, 51, 52, 51, 53, 51, 54, 51, 55, 51, 56, 51, 57, 52, 48, 52, 49, 52, 50, 52, 51, 52, 52, 52, 53, 52, 54, 52, 55, 52, 56, 52, 57, 53, 48, 53, 49, 53, 50, 53, 51, 53, 52, 53, 53, 53, 54, 53, 55, 53, 56, 53, 57, 54, 48, 54, 49, 54, 50, 54, 51, 54, 52, 54, 53, 54, 54, 54, 55, 54, 56, 54, 57, 55, 48, 55, 49, 55, 50, 55, 51, 55, 52, 55, 53, 55, 54, 55, 55, 55, 56, 55, 57, 56, 48, 56, 49, 56, 50, 56, 51, 56, 52, 56, 53, 56, 54, 56, 55, 56, 56, 56, 57, 57, 48, 57, 49, 57, 50, 57, 51, 57, 52, 57, 53, 57, 54, 57, 55, 57, 56, 57, 57]⟩)) (.t 90), 0, false⟩,
    ⟨(some 93), none, .idxS 1 (.t 84) (.t 86), 0, false⟩,
    ⟨none, none, .st 1 (.t 93) (.t 91), 0, true⟩])
  (.reg [⟨(some 94), none, .mov (.t 4), 0, false⟩,
    ⟨(some 95), none, .bin .sub (.t 94) (.c (.int .i64 8)), 0, false⟩,
    ⟨(some 4), none, .mov (.t 95), 0, false⟩]))))))))))))))
 (.seq (.reg [⟨(some 96), none, .mov (.t 1), 0, false⟩,
   ⟨(some 97), none, .cvI .u32 (.t 96), 0, false⟩,
   ⟨(some 12), none, .mov (.t 97), 0, false⟩])
 (.seq (.seq (.reg [⟨(some 98), none, .mov (.t 4), 0, false⟩,
   ⟨(some 99), none, .bin .geq (.t 98) (.c (.int .i64 4)), 0, false⟩])
 (.cond (.t 99) (.seq (.reg [⟨(some 100), none, .mov (.t 12), 0, false⟩,
    ⟨(some 101), none, .bin .rem (.t 100) (.c (.int .u32 10000)), 0, false⟩,
    ⟨(some 13), none, .mov (.t 101), 0, false⟩])
  (.seq (.reg [⟨(some 102), none, .mov (.t 12), 0, false⟩,
    ⟨(some 103), none, .bin .quo (.t 102) (.c (.int .u32 10000)), 0, false⟩,
    ⟨(some 12), none, .mov (.t 103), 0, false⟩])
  (.seq (.reg [⟨(some 104), none, .mov (.t 13), 0, false⟩,
    ⟨(some 105), none, .bin .quo (.t 104) (.c (.int .u32 100)), 0, false⟩,
    ⟨(some 106), none, .bin .mul (.t 105) (.c (.int .u32 2)), 0, false⟩,
    ⟨(some 107), none, .mov (.t 13), 0, false⟩,
    ⟨(some 108), none, .bin .rem (.t 107) (.c (.int .u32 100)), 0, false⟩,
    ⟨(some 109), none, .bin .mul (.t 108) (.c (.int .u32 2)), 0, false⟩,
    ⟨(some 14), none, .mov (.t 106), 0, false⟩,
    ⟨(some 15), none, .mov (.t 109), 0, false⟩])
  (.seq (.reg [⟨(some 110), none, .mov (.t 0), 0, false⟩,
    ⟨(some 111), none, .mov (.t 4), 0, false⟩,
    ⟨(some 112), none, .bin .sub (.t 111) (.c (.int .i64 1)), 0, false⟩,
    ⟨(some 116), none, .mov (.t 15), 0, false⟩,
    ⟨(some 117), none, .bin .add (.t 116) (.c (.int .u32 1)), 0, false⟩,
    ⟨(some 118), none, .ixStr (.c (.string ⟨#[48, 48, 48, 49, 48, 50, 48, 51, 48, 52, 48, 53, 48, 54, 48, 55, 48, 56, 48, 57, 49, 48, 49, 49, 49, 50, 49, 51, 49, 52, 49, 53, 49, 54, 49, 55, 49, 56, 49, 57, 50, 48, 50, 49, 50, 50, 50, 51, 50, 52, 50, 53, 50, 54, 50, 55, 50, 56, 50, 57, 51, 48, 51, 49, 51, 50, 51, 51, 51, 52, 51, 53, 51, 54, 51, 55, 51, 56, 51, 57, 52, 48, 52, 49, 52, 50, 52, 51, 52, 52, 52, 53, 52, 54, 52, 55, 52, 56, 52, 57, 53, 48, 53, 49, 53, 50, 53, 51, 53, 52, 53, 53, 53, 54, 53, 55, 53, 56, 53, 57, 54, 48, 54, 49, 54, 50, 54, 51, 54, 52, 54, 53, 54, 54, 54, 55, 54, 56, 54, 57, 55, 48, 55, 49, 55, 50, 55, 51, 55, 52, 55, 53, 55, 54, 55, 55, 55, 56, 55, 57, 56, 48, 56, 49, 56, 50, 56, 51, 56, 52, 56, 53, 56, 54, 56, 55, 56, 56, 56, 57, 57, 48, 57, 49, 57, 50, 57, 51, 57, 52, 57, 53, 57, 54, 57, 55, 57, 56, 57, 57]⟩)) (.t 117), 0, false⟩,
    ⟨(some 121), none, .idxS 1 (.t 110) (.t 112), 0, false⟩,
    ⟨none, none, .st 1 (.t 121) (.t 118), 0, true⟩,
    ⟨(some 113), none, .mov (.t 0), 0, false⟩,
    ⟨(some 114), none, .mov (.t 4), 0, false⟩,
    ⟨(some 115), none, .bin .sub (.t 114) (.c (.int .i64 2)), 0, false⟩,
    ⟨(some 119), none, .mov (.t 15), 0, false⟩,
    ⟨(some 120), none, .ixStr (.c (.string ⟨#[48, 48, 48, 49, 48, 50, 48, 51, 48, 52, 48, 53, 48, 54, 48, 55, 48, 56, 48, 57, 49, 48, 49, 49, 49, 50, 49, 51, 49, 52, 49, 53, 49, 54, 49, 55, 49, 56, 49, 57, 50, 48, 50, 49, 50, 50, 50, 51, 50, 52, 50, 53, 50, 54, 50, 55, 50, 56, 50, 57, 51, 48, 51, 49, 51, 50, 51, 51, 51, 52, 51, 53, 51, 54, 51, 55, 51, 56, 51, 57, 52, 48, 52, 49, 52, 50, 52, 51, 52, 52, 52, 53, 52, 54, 52, 55, 52, 56, 52, 57, 53, 48, 53, 49, 53, 50, 53, 51, 53, 52, 53, 53, 53, 54, 53, 55, 53, 56, 53, 57, 54, 48, 54, 49, 54, 50, 54, 51, 54, 52, 54, 53, 54, 54, 54, 55, 54, 56, 54, 57, 55, 48, 55, 49, 55, 50, 55, 51, 55, 52, 55, 53, 55, 54, 55, 55, 55, 56, 55, 57, 56, 48, 56, 49, 56, 50, 56, 51, 56, 52, 56, 53, 56, 54, 56, 55, 56, 56, 56, 57, 57, 48, 57, 49, 57, 50, 57, 51, 57, 52, 57, 53, 57, 54, 57, 55, 57, 56, 57, 57]⟩)) (.t 119), 0, false⟩,
    ⟨(some 122), none, .idxS 1 (.t 113) (.t 115), 0, false⟩,
    ⟨none, none, .st 1 (.t 122) (.t 120), 0, true⟩])
  (.seq (.reg [⟨(some 123), none, .mov (.t 0), 0, false⟩,
    ⟨(some 124), none, .mov (.t 4), 0, false⟩,
    ⟨(some 125), none, .bin .sub (.t 124) (.c (.int .i64 3)), 0, false⟩,
    ⟨(some 129), none, .mov (.t 14), 0, false⟩,
    ⟨(some 130), none, .bin .add (.t 129) (.c (.int .u32 1)), 0, false⟩,
    ⟨(some 131), none, .ixStr (.c (.string ⟨#[48, 48, 48, 49, 48, 50, 48, 51, 48, 52, 48, 53, 48, 54, 48, 55, 48, 56, 48, 57, 49, 48, 49, 49, 49, 50, 49, 51, 49, 52, 49, 53, 49, 54, 49, 55, 49, 56, 49, 57, 50, 48, 50, 49, 50, 50, 50, 51, 50, 52, 50, 53, 50, 54, 50, 55, 50, 56, 50, 57, 51, 48, 51, 49, 51, 50, 51, 51, 51, 52, 51, 53, 51, 54, 51, 55, 51, 56, 51, 57, 52, 48, 52, 49, 52, 50, 52, 51, 52, 52, 52, 53, 52, 54, 52, 55, 52, 56, 52, 57, 53, 48, 53, 49, 53, 50, 53, 51, 53, 52, 53, 53, 53, 54, 53, 55, 53, 56, 53, 57, 54, 48, 54, 49, 54, 50, 54, 51, 54, 52, 54, 53, 54, 54, 54, 55, 54, 56, 54, 57, 55, 48, 55, 49, 55, 50, 55, 51, 55, 52, 55, 53, 55, 54, 55, 55, 55, 56, 55, 57, 56, 48, 56, 49, 56, 50, 56, 51, 56, 52, 56, 53, 56, 54, 56, 55, 56, 56, 56, 57, 57, 48, 57, 49, 57, 50, 57, 51, 57, 52, 57, 53, 57, 54, 57, 55, 57, 56, 57, 57]⟩)) (.t 130), 0, false⟩,
    ⟨(some 134), none, .idxS 1 (.t 123) (.t 125), 0, false⟩,
    ⟨none, none, .st 1 (.t 134) (.t 131), 0, true⟩,
    ⟨(some 126), none, .mov (.t 0), 0, false⟩,
    ⟨(some 127), none, .mov (.t 4), 0, false⟩,
    ⟨(some 128), none, .bin .sub (.t 127) (.c (.int .i64 4)), 0, false⟩,
    ⟨(some 132), none, .mov (.t 14), 0, false⟩,
    ⟨(some 133), none, .ixStr (.c (.string ⟨#[48, 48, 48, 49, 48, 50, 48, 51, 48, 52, 48, 53, 48, 54, 48, 55, 48, 56, 48, 57, 49, 48, 49, 49, 49, 50, 49, 51, 49, 52, 49, 53, 49, 54, 49, 55, 49, 56, 49, 57, 50, 48, 50, 49, 50, 50, 50, 51, 50, 52, 50, 53, 50, 54, 50, 55, 50, 56, 50, 57, 51, 48, 51, 49, 51, 50, 51, 51, 51, 52, 51, 53, 51, 54, 51, 55, 51, 56, 51, 57, 52, 48, 52, 49, 52, 50, 52, 51, 52, 52, 52, 53, 52, 54, 52, 55, 52, 56, 52, 57, 53, 48, 53, 49, 53, 50, 53, 51, 53, 52, 53, 53, 53, 54, 53, 55, 53, 56, 53, 57, 54, 48, 54, 49, 54, 50, 54, 51, 54, 52, 54, 53, 54, 54, 54, 55, 54, 56, 54, 57, 55, 48, 55, 49, 55, 50, 55, 51, 55, 52, 55, 53, 55, 54, 55, 55, 55, 56, 55, 57, 56, 48, 56, 49, 56, 50, 56, 51, 56, 52, 56, 53, 56, 54, 56, 55, 56, 56, 56, 57, 57, 48, 57, 49, 57, 50, 57, 51, 57, 52, 57, 53, 57, 54, 57, 55, 57, 56, 57, 57]⟩)) (.t 132), 0, false⟩,
    ⟨(some 135), none, .idxS 1 (.t 126) (.t 128), 0, false⟩,
    ⟨none, none, .st 1 (.t 135) (.t 133), 0, true⟩])
  (.reg [⟨(some 136), none, .mov (.t 4), 0, false⟩,
    ⟨(some 137), none, .bin .sub (.t 136) (.c (.int .i64 4)), 0, false⟩,
    ⟨(some 4), none, .mov (.t 137), 0, false⟩]))))))
  (.skip)))
 (.seq (.seq (.reg [⟨(some 138), none, .mov (.t 4), 0, false⟩,
   ⟨(some 139), none, .bin .geq (.t 138) (.c (.int .i64 2)), 0, false⟩])
 (.cond (.t 139) (.seq (.reg [⟨(some 140), none, .mov (.t 12), 0, false⟩,
    ⟨(some 141), none, .bin .rem (.t 140) (.c (.int .u32 100)), 0, false⟩,
    ⟨(some 142), none, .bin .mul (.t 141) (.c (.int .u32 2)), 0, false⟩,
    ⟨(some 16), none, .mov (.t 142), 0, false⟩])
  (.seq (.reg [⟨(some 143), none, .mov (.t 12), 0, false⟩,
    ⟨(some 144), none, .bin .quo (.t 143) (.c (.int .u32 100)), 0, false⟩,
    ⟨(some 12), none, .mov (.t 144), 0, false⟩])
  (.seq (.reg [⟨(some 145), none, .mov (.t 0), 0, false⟩,
    ⟨(some 146), none, .mov (.t 4), 0, false⟩,
    ⟨(some 147), none, .bin .sub (.t 146) (.c (.int .i64 1)), 0, false⟩,
    ⟨(some 151), none, .mov (.t 16), 0, false⟩,
    ⟨(some 152), none, .bin .add (.t 151) (.c (.int .u32 1)), 0, false⟩,
    ⟨(some 153), none, .ixStr (.c (.string ⟨#[48, 48, 48, 49, 48, 50, 48, 51, 48, 52, 48, 53, 48, 54, 48, 55, 48, 56, 48, 57, 49, 48, 49, 49, 49, 50, 49, 51, 49, 52, 49, 53, 49, 54, 49, 55, 49, 56, 49, 57, 50, 48, 50, 49, 50, 50, 50, 51, 50, 52, 50, 53, 50, 54, 50, 55, 50, 56, 50, 57, 51, 48, 51, 49, 51, 50, 51, 51, 51, 52, 51, 53, 51, 54, 51, 55, 51, 56, 51, 57, 52, 48, 52, 49, 52, 50, 52, 51, 52, 52, 52, 53, 52, 54, 52, 55, 52, 56, 52, 57, 53, 48, 53, 49, 53, 50, 53, 51, 53, 52, 53, 53, 53, 54, 53, 55, 53, 56, 53, 57, 54, 48, 54, 49, 54, 50, 54, 51, 54, 52, 54, 53, 54, 54, 54, 55, 54, 56, 54, 57, 55, 48, 55, 49, 55, 50, 55, 51, 55, 52, 55, 53, 55, 54, 55, 55, 55, 56, 55, 57, 56, 48, 56, 49, 56, 50, 56, 51, 56, 52, 56, 53, 56, 54, 56, 55, 56, 56, 56, 57, 57, 48, 57, 49, 57, 50, 57, 51, 57, 52, 57, 53, 57, 54, 57, 55, 57, 56, 57, 57]⟩)) (.t 152), 0, false⟩,
    ⟨(some 156), none, .idxS 1 (.t 145) (.t 147), 0, false⟩,
    ⟨none, none, .st 1 (.t 156) (.t 153), 0, true⟩,
    ⟨(some 148), none, .mov (.t 0), 0, false⟩,
    ⟨(some 149), none, .mov (.t 4), 0, false⟩,
    ⟨(some 150), none, .bin .sub (.t 149) (.c (.int .i64 2)), 0, false⟩,
    ⟨(some 154), none, .mov (.t 16), 0, false⟩,
    ⟨(some 155), none, .ixStr (.c (.string ⟨#[48, 48, 48, 49, 48, 50, 48, 51, 48, 52, 48, 53, 48, 54, 48, 55, 48, 56, 48, 57, 49, 48, 49, 49, 49, 50, 49, 51, 49, 52, 49, 53, 49, 54, 49, 55, 49, 56, 49, 57, 50, 48, 50, 49, 50, 50, 50, 51, 50, 52, 50, 53, 50, 54, 50, 55, 50, 56, 50, 57, 51, 48, 51, 49, 51, 50, 51, 51, 51, 52, 51, 53, 51, 54, 51, 55, 51, 56, 51, 57, 52, 48, 52, 49, 52, 50, 52, 51, 52, 52, 52, 53, 52, 54, 52, 55, 52, 56, 52, 57, 53, 48, 53, 49, 53, 50, 53, 51, 53, 52, 53, 53, 53, 54, 53, 55, 53, 56, 53, 57, 54, 48, 54, 49, 54, 50, 54, 51, 54, 52, 54, 53, 54, 54, 54, 55, 54, 56, 54, 57, 55, 48, 55, 49, 55, 50, 55, 51, 55, 52, 55, 53, 55, 54, 55, 55, 55, 56, 55, 57, 56, 48, 56, 49, 56, 50, 56, 51, 56, 52, 56, 53, 56, 54, 56, 55, 56, 56, 56, 57, 57, 48, 57, 49, 57, 50, 57, 51, 57, 52, 57, 53, 57, 54, 57, 55, 57, 56, 57, 57]⟩)) (.t 154), 0, false⟩,
    ⟨(some 157), none, .idxS 1 (.t 148) (.t 150), 0, false⟩,
    ⟨none, none, .st 1 (.t 157) (.t 155), 0, true⟩])
  (.reg [⟨(some 158), none, .mov (.t 4), 0, false⟩,
    ⟨(some 159), none, .bin .sub (.t 158) (.c (.int .i64 2)), 0, false⟩,
    ⟨(some 4), none, .mov (.t 159), 0, false⟩]))))
  (.skip)))
 (.seq (.reg [⟨(some 160), none, .mov (.t 4), 0, false⟩,
   ⟨(some 161), none, .bin .gtr (.t 160) (.c (.int .i64 0)), 0, false⟩])
 (.cond (.t 161) (.reg [⟨(some 162), none, .mov (.t 0), 0, false⟩,
    ⟨(some 163), none, .mov (.t 12), 0, false⟩,
    ⟨(some 164), none, .bin .add (.c (.int .u32 48)) (.t 163), 0, false⟩,
    ⟨(some 165), none, .cvI .u8 (.t 164), 0, false⟩,
    ⟨(some 166), none, .idxS 1 (.t 162) (.c (.int .i64 0)), 0, false⟩,
    ⟨none, none, .st 1 (.t 166) (.t 165), 0, false⟩])
  (.skip)))))))⟩
theorem c41 : cFn Tryd.prog Tryd.f41 = some a41 := by kernel_rfl
def AP : FuncId → Option AFn
  | 3 => some a3
  | 4 => some a4
  | 5 => some a5
  | 6 => some a6
  | 7 => some a7
  | 8 => some a8
  | 9 => some a9
  | 10 => some a10
  | 11 => some a11
  | 12 => some a12
  | 13 => some a13
  | 14 => some a14
  | 15 => some a15
  | 16 => some a16
  | 17 => some a17
  | 18 => some a18
  | 19 => some a19
  | 20 => some a20
  | 21 => some a21
  | 22 => some a22
  | 23 => some a23
  | 24 => some a24
  | 25 => some a25
  | 26 => some a26
  | 27 => some a27
  | 28 => some a28
  | 29 => some a29
  | 30 => some a30
  | 31 => some a31
  | 32 => some a32
  | 33 => some a33
  | 34 => some a34
  | 35 => some a35
  | 36 => some a36
  | 37 => some a37
  | 38 => some a38
  | 39 => some a39
  | 41 => some a41
  | _ => none
theorem tabOk : TabOk Tryd.prog AP := by
  intro f afn h
  unfold AP at h
  split at h
  · cases h; exact ⟨_, Tryd.func3, c3, by kernel_rfl⟩
  · cases h; exact ⟨_, Tryd.func4, c4, by kernel_rfl⟩
  · cases h; exact ⟨_, Tryd.func5, c5, by kernel_rfl⟩
  · cases h; exact ⟨_, Tryd.func6, c6, by kernel_rfl⟩
  · cases h; exact ⟨_, Tryd.func7, c7, by kernel_rfl⟩
  · cases h; exact ⟨_, Tryd.func8, c8, by kernel_rfl⟩
  · cases h; exact ⟨_, Tryd.func9, c9, by kernel_rfl⟩
  · cases h; exact ⟨_, Tryd.func10, c10, by kernel_rfl⟩
  · cases h; exact ⟨_, Tryd.func11, c11, by kernel_rfl⟩
  · cases h; exact ⟨_, Tryd.func12, c12, by kernel_rfl⟩
  · cases h; exact ⟨_, Tryd.func13, c13, by kernel_rfl⟩
  · cases h; exact ⟨_, Tryd.func14, c14, by kernel_rfl⟩
  · cases h; exact ⟨_, Tryd.func15, c15, by kernel_rfl⟩
  · cases h; exact ⟨_, Tryd.func16, c16, by kernel_rfl⟩
  · cases h; exact ⟨_, Tryd.func17, c17, by kernel_rfl⟩
  · cases h; exact ⟨_, Tryd.func18, c18, by kernel_rfl⟩
  · cases h; exact ⟨_, Tryd.func19, c19, by kernel_rfl⟩
  · cases h; exact ⟨_, Tryd.func20, c20, by kernel_rfl⟩
  · cases h; exact ⟨_, Tryd.func21, c21, by kernel_rfl⟩
  · cases h; exact ⟨_, Tryd.func22, c22, by kernel_rfl⟩
  · cases h; exact ⟨_, Tryd.func23, c23, by kernel_rfl⟩
  · cases h; exact ⟨_, Tryd.func24, c24, by kernel_rfl⟩
  · cases h; exact ⟨_, Tryd.func25, c25, by kernel_rfl⟩
  · cases h; exact ⟨_, Tryd.func26, c26, by kernel_rfl⟩
  · cases h; exact ⟨_, Tryd.func27, c27, by kernel_rfl⟩
  · cases h; exact ⟨_, Tryd.func28, c28, by kernel_rfl⟩
  · cases h; exact ⟨_, Tryd.func29, c29, by kernel_rfl⟩
  · cases h; exact ⟨_, Tryd.func30, c30, by kernel_rfl⟩
  · cases h; exact ⟨_, Tryd.func31, c31, by kernel_rfl⟩
  · cases h; exact ⟨_, Tryd.func32, c32, by kernel_rfl⟩
  · cases h; exact ⟨_, Tryd.func33, c33, by kernel_rfl⟩
  · cases h; exact ⟨_, Tryd.func34, c34, by kernel_rfl⟩
  · cases h; exact ⟨_, Tryd.func35, c35, by kernel_rfl⟩
  · cases h; exact ⟨_, Tryd.func36, c36, by kernel_rfl⟩
  · cases h; exact ⟨_, Tryd.func37, c37, by kernel_rfl⟩
  · cases h; exact ⟨_, Tryd.func38, c38, by kernel_rfl⟩
  · cases h; exact ⟨_, Tryd.func39, c39, by kernel_rfl⟩
  · cases h; exact ⟨_, Tryd.func41, c41, by kernel_rfl⟩
  · cases h
end Go.Abs.Code
