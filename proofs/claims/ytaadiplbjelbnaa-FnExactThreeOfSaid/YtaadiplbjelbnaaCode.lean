/- A part of the proof library: names for blocks of memory, a small form of the code, and rules for walks over it. -/
import Derived.Test.YtaadiplbjelbnaaProg
import Derived.Test.YtaadiplbjelbnaaAb18
import Derived.KernelRfl
set_option linter.all false
namespace Go.Proofs.Ytaadiplbjelbnaa
open Go.Ab
-- loop.example/g01312/laws.FnExactOneOf
def laws_FnExactOneOf_M : MC :=
  (.seq (.reg none [
      ⟨(some 2), .mov (.c (.bool false)), none⟩] (some [0]) none)
    (.seq (.reg none [
      ⟨(some 8), .mov (.t 0), none⟩,
      ⟨(some 9), .call 15 [(.t 8)], none⟩,
      ⟨(some 7), .mov (.t 9), none⟩,
      ⟨(some 10), .ext (.t 7) 0, none⟩,
      ⟨(some 11), .ext (.t 7) 1, none⟩,
      ⟨(some 3), .new (rl [(2, .int .i8 0), (12, .int .u8 0)]), none⟩,
      ⟨none, .store 14 (.t 3) (.t 10), none⟩,
      ⟨(some 4), .mov (.t 11), none⟩] (some [0, 3, 4]) none)
    (.seq (.reg none [
      ⟨(some 13), .mov (.t 0), none⟩,
      ⟨(some 14), .call 16 [(.t 13)], none⟩,
      ⟨(some 12), .mov (.t 14), none⟩,
      ⟨(some 15), .ext (.t 12) 0, none⟩,
      ⟨(some 16), .ext (.t 12) 1, none⟩,
      ⟨(some 5), .new (rl [(2, .int .i8 0), (12, .int .u8 0)]), none⟩,
      ⟨none, .store 14 (.t 5) (.t 15), none⟩,
      ⟨(some 6), .mov (.t 16), none⟩] (some [3, 4, 5, 6]) none)
    (.seq (.seq (.reg none [
      ⟨(some 17), .load (some 14) (.t 5), none⟩,
      ⟨(some 18), .load (some 14) (.t 3), none⟩,
      ⟨(some 19), .call 17 [(.t 17), (.t 18)], none⟩,
      ⟨(some 20), .un .not (.t 19), none⟩,
      ⟨(some 21), .mov (.t 20), none⟩,
      ⟨(some 22), .mov (.t 6), some (21, false)⟩,
      ⟨(some 23), .mov (.t 4), some (21, false)⟩,
      ⟨(some 24), .bin .neq (.t 22) (.t 23), some (21, false)⟩,
      ⟨(some 25), .pick (.t 21) (.c (.bool true)) (.t 24), none⟩] (some [25]) none)
    (.cond (.t 25) (.seq (.reg none [
      ⟨(some 2), .mov (.c (.bool false)), none⟩] (some [2]) none)
    .ret)
    .skip))
    (.seq (.reg none [
      ⟨(some 2), .mov (.c (.bool true)), none⟩] (some [2]) none)
    .ret)))))
def laws_FnExactOneOf_F : MF := ⟨26, [.t 2], laws_FnExactOneOf_M⟩
-- loop.example/g01312/laws.FnExactTwoOf
def laws_FnExactTwoOf_M : MC :=
  (.seq (.reg none [
      ⟨(some 2), .mov (.c (.bool false)), none⟩] (some [0]) none)
    (.seq (.reg none [
      ⟨(some 8), .mov (.t 0), none⟩,
      ⟨(some 9), .call 18 [(.t 8)], none⟩,
      ⟨(some 7), .mov (.t 9), none⟩,
      ⟨(some 10), .ext (.t 7) 0, none⟩,
      ⟨(some 11), .ext (.t 7) 1, none⟩,
      ⟨(some 3), .new (rl [(2, .int .i8 0), (12, .int .u8 0)]), none⟩,
      ⟨none, .store 14 (.t 3) (.t 10), none⟩,
      ⟨(some 4), .mov (.t 11), none⟩] (some [0, 3, 4]) none)
    (.seq (.reg none [
      ⟨(some 13), .mov (.t 0), none⟩,
      ⟨(some 14), .call 19 [(.t 13)], none⟩,
      ⟨(some 12), .mov (.t 14), none⟩,
      ⟨(some 15), .ext (.t 12) 0, none⟩,
      ⟨(some 16), .ext (.t 12) 1, none⟩,
      ⟨(some 5), .new (rl [(2, .int .i8 0), (12, .int .u8 0)]), none⟩,
      ⟨none, .store 14 (.t 5) (.t 15), none⟩,
      ⟨(some 6), .mov (.t 16), none⟩] (some [3, 4, 5, 6]) none)
    (.seq (.seq (.reg none [
      ⟨(some 17), .load (some 14) (.t 5), none⟩,
      ⟨(some 18), .load (some 14) (.t 3), none⟩,
      ⟨(some 19), .call 17 [(.t 17), (.t 18)], none⟩,
      ⟨(some 20), .un .not (.t 19), none⟩,
      ⟨(some 21), .mov (.t 20), none⟩,
      ⟨(some 22), .mov (.t 6), some (21, false)⟩,
      ⟨(some 23), .mov (.t 4), some (21, false)⟩,
      ⟨(some 24), .bin .neq (.t 22) (.t 23), some (21, false)⟩,
      ⟨(some 25), .pick (.t 21) (.c (.bool true)) (.t 24), none⟩] (some [25]) none)
    (.cond (.t 25) (.seq (.reg none [
      ⟨(some 2), .mov (.c (.bool false)), none⟩] (some [2]) none)
    .ret)
    .skip))
    (.seq (.reg none [
      ⟨(some 2), .mov (.c (.bool true)), none⟩] (some [2]) none)
    .ret)))))
def laws_FnExactTwoOf_F : MF := ⟨26, [.t 2], laws_FnExactTwoOf_M⟩
-- loop.example/g01312/laws.FnExactPlainLayer
def laws_FnExactPlainLayer_M : MC :=
  (.seq (.reg none [
      ⟨(some 4), .mov (.c (.bool false)), none⟩] (some [0, 1]) none)
    (.seq (.reg none [
      ⟨(some 10), .mov (.t 0), none⟩,
      ⟨(some 11), .mov (.t 1), none⟩,
      ⟨(some 12), .call 20 [(.t 10), (.t 11)], none⟩,
      ⟨(some 9), .mov (.t 12), none⟩,
      ⟨(some 13), .ext (.t 9) 0, none⟩,
      ⟨(some 14), .ext (.t 9) 1, none⟩,
      ⟨(some 5), .new (rl [(1, .int .i8 0), (64, .int .u8 0)]), none⟩,
      ⟨none, .store 65 (.t 5) (.t 13), none⟩,
      ⟨(some 6), .mov (.t 14), none⟩] (some [0, 1, 5, 6]) none)
    (.seq (.reg none [
      ⟨(some 16), .mov (.t 0), none⟩,
      ⟨(some 17), .mov (.t 1), none⟩,
      ⟨(some 18), .call 21 [(.t 16), (.t 17)], none⟩,
      ⟨(some 15), .mov (.t 18), none⟩,
      ⟨(some 19), .ext (.t 15) 0, none⟩,
      ⟨(some 20), .ext (.t 15) 1, none⟩,
      ⟨(some 7), .new (rl [(1, .int .i8 0), (64, .int .u8 0)]), none⟩,
      ⟨none, .store 65 (.t 7) (.t 19), none⟩,
      ⟨(some 8), .mov (.t 20), none⟩] (some [5, 6, 7, 8]) none)
    (.seq (.seq (.reg none [
      ⟨(some 21), .load (some 65) (.t 7), none⟩,
      ⟨(some 22), .load (some 65) (.t 5), none⟩,
      ⟨(some 23), .call 22 [(.t 21), (.t 22)], none⟩,
      ⟨(some 24), .un .not (.t 23), none⟩,
      ⟨(some 25), .mov (.t 24), none⟩,
      ⟨(some 26), .mov (.t 8), some (25, false)⟩,
      ⟨(some 27), .mov (.t 6), some (25, false)⟩,
      ⟨(some 28), .bin .neq (.t 26) (.t 27), some (25, false)⟩,
      ⟨(some 29), .pick (.t 25) (.c (.bool true)) (.t 28), none⟩] (some [29]) none)
    (.cond (.t 29) (.seq (.reg none [
      ⟨(some 4), .mov (.c (.bool false)), none⟩] (some [4]) none)
    .ret)
    .skip))
    (.seq (.reg none [
      ⟨(some 4), .mov (.c (.bool true)), none⟩] (some [4]) none)
    .ret)))))
def laws_FnExactPlainLayer_F : MF := ⟨30, [.t 4], laws_FnExactPlainLayer_M⟩
-- loop.example/g01312/laws.FnExactThreeOf
def laws_FnExactThreeOf_M : MC :=
  (.seq (.reg none [
      ⟨(some 2), .mov (.c (.bool false)), none⟩] (some [0]) none)
    (.seq (.reg none [
      ⟨(some 8), .mov (.t 0), none⟩,
      ⟨(some 9), .call 23 [(.t 8)], none⟩,
      ⟨(some 7), .mov (.t 9), none⟩,
      ⟨(some 10), .ext (.t 7) 0, none⟩,
      ⟨(some 11), .ext (.t 7) 1, none⟩,
      ⟨(some 3), .new (rl [(2, .int .i8 0), (12, .int .u8 0)]), none⟩,
      ⟨none, .store 14 (.t 3) (.t 10), none⟩,
      ⟨(some 4), .mov (.t 11), none⟩] (some [0, 3, 4]) none)
    (.seq (.reg none [
      ⟨(some 13), .mov (.t 0), none⟩,
      ⟨(some 14), .call 24 [(.t 13)], none⟩,
      ⟨(some 12), .mov (.t 14), none⟩,
      ⟨(some 15), .ext (.t 12) 0, none⟩,
      ⟨(some 16), .ext (.t 12) 1, none⟩,
      ⟨(some 5), .new (rl [(2, .int .i8 0), (12, .int .u8 0)]), none⟩,
      ⟨none, .store 14 (.t 5) (.t 15), none⟩,
      ⟨(some 6), .mov (.t 16), none⟩] (some [3, 4, 5, 6]) none)
    (.seq (.seq (.reg none [
      ⟨(some 17), .load (some 14) (.t 5), none⟩,
      ⟨(some 18), .load (some 14) (.t 3), none⟩,
      ⟨(some 19), .call 17 [(.t 17), (.t 18)], none⟩,
      ⟨(some 20), .un .not (.t 19), none⟩,
      ⟨(some 21), .mov (.t 20), none⟩,
      ⟨(some 22), .mov (.t 6), some (21, false)⟩,
      ⟨(some 23), .mov (.t 4), some (21, false)⟩,
      ⟨(some 24), .bin .neq (.t 22) (.t 23), some (21, false)⟩,
      ⟨(some 25), .pick (.t 21) (.c (.bool true)) (.t 24), none⟩] (some [25]) none)
    (.cond (.t 25) (.seq (.reg none [
      ⟨(some 2), .mov (.c (.bool false)), none⟩] (some [2]) none)
    .ret)
    .skip))
    (.seq (.reg none [
      ⟨(some 2), .mov (.c (.bool true)), none⟩] (some [2]) none)
    .ret)))))
def laws_FnExactThreeOf_F : MF := ⟨26, [.t 2], laws_FnExactThreeOf_M⟩
-- loop.example/g01312/laws.FnExactSameLayers
def laws_FnExactSameLayers_M : MC :=
  (.seq (.reg none [
      ⟨(some 4), .mov (.c (.bool false)), none⟩] (some [0, 1]) none)
    (.seq (.reg none [
      ⟨(some 5), .mov (.c (.int .i64 1048576)), none⟩] (some [0, 1, 5]) none)
    (.seq (.reg none [
      ⟨(some 10), .mov (.t 0), none⟩,
      ⟨(some 11), .mov (.t 5), none⟩,
      ⟨(some 12), .call 25 [(.t 10), (.t 11)], none⟩,
      ⟨(some 5), .mov (.t 12), none⟩] (some [0, 1, 5]) none)
    (.seq (.seq (.reg none [
      ⟨(some 13), .mov (.t 5), none⟩,
      ⟨(some 14), .bin .lss (.t 13) (.c (.int .i64 0)), none⟩] (some [0, 1, 5, 14]) none)
    (.cond (.t 14) (.seq (.reg none [
      ⟨(some 4), .mov (.c (.bool true)), none⟩] (some [4]) none)
    .ret)
    .skip))
    (.seq (.reg none [
      ⟨(some 15), .mov (.t 1), none⟩,
      ⟨(some 16), .mov (.t 5), none⟩,
      ⟨(some 17), .call 25 [(.t 15), (.t 16)], none⟩,
      ⟨(some 5), .mov (.t 17), none⟩] (some [0, 1, 5]) none)
    (.seq (.seq (.reg none [
      ⟨(some 18), .mov (.t 5), none⟩,
      ⟨(some 19), .bin .lss (.t 18) (.c (.int .i64 0)), none⟩] (some [0, 1, 19]) none)
    (.cond (.t 19) (.seq (.reg none [
      ⟨(some 4), .mov (.c (.bool true)), none⟩] (some [4]) none)
    .ret)
    .skip))
    (.seq (.reg none [
      ⟨(some 20), .mov (.t 0), none⟩,
      ⟨(some 21), .call 27 [(.t 20)], none⟩,
      ⟨(some 22), .mov (.t 1), none⟩,
      ⟨(some 23), .call 27 [(.t 22)], none⟩,
      ⟨(some 24), .call 26 [(.t 21), (.t 23)], none⟩,
      ⟨(some 6), .mov (.t 24), none⟩] (some [0, 1, 6]) none)
    (.seq (.reg none [
      ⟨(some 25), .mov (.t 0), none⟩,
      ⟨(some 26), .call 27 [(.t 25)], none⟩,
      ⟨(some 7), .mov (.t 26), none⟩] (some [0, 1, 6, 7]) none)
    (.seq (.reg none [
      ⟨(some 27), .mov (.t 1), none⟩,
      ⟨(some 28), .call 27 [(.t 27)], none⟩,
      ⟨(some 8), .mov (.t 28), none⟩] (some [0, 1, 6, 7, 8]) none)
    (.seq (.reg none [
      ⟨(some 29), .mov (.t 7), none⟩,
      ⟨(some 30), .mov (.t 8), none⟩,
      ⟨(some 31), .call 28 [(.t 29), (.t 30)], none⟩,
      ⟨(some 9), .mov (.t 31), none⟩] (some [0, 1, 6, 7, 8, 9]) none)
    (.seq (.seq (.reg none [
      ⟨(some 32), .mov (.t 9), none⟩,
      ⟨(some 33), .mov (.t 6), none⟩,
      ⟨(some 34), .beq true (.t 32) (.t 33), none⟩] (some [0, 1, 7, 8, 34]) none)
    (.cond (.t 34) (.seq (.reg none [
      ⟨(some 4), .mov (.c (.bool false)), none⟩] (some [4]) none)
    .ret)
    .skip))
    (.seq (.seq (.reg none [
      ⟨(some 35), .mov (.t 7), none⟩,
      ⟨(some 36), .mov (.t 0), none⟩,
      ⟨(some 37), .call 27 [(.t 36)], none⟩,
      ⟨(some 38), .call 29 [(.t 35), (.t 37)], none⟩,
      ⟨(some 39), .un .not (.t 38), none⟩] (some [1, 8, 39]) none)
    (.cond (.t 39) (.seq (.reg none [
      ⟨(some 4), .mov (.c (.bool false)), none⟩] (some [4]) none)
    .ret)
    .skip))
    (.seq (.seq (.reg none [
      ⟨(some 40), .mov (.t 8), none⟩,
      ⟨(some 41), .mov (.t 1), none⟩,
      ⟨(some 42), .call 27 [(.t 41)], none⟩,
      ⟨(some 43), .call 29 [(.t 40), (.t 42)], none⟩,
      ⟨(some 44), .un .not (.t 43), none⟩] (some [44]) none)
    (.cond (.t 44) (.seq (.reg none [
      ⟨(some 4), .mov (.c (.bool false)), none⟩] (some [4]) none)
    .ret)
    .skip))
    (.seq (.reg none [
      ⟨(some 4), .mov (.c (.bool true)), none⟩] (some [4]) none)
    .ret))))))))))))))
def laws_FnExactSameLayers_F : MF := ⟨45, [.t 4], laws_FnExactSameLayers_M⟩
-- loop.example/g01312/laws.FnExactNextOrder
def laws_FnExactNextOrder_M : MC :=
  (.seq (.reg none [
      ⟨(some 4), .mov (.c (.bool false)), none⟩] (some [0, 1]) none)
    (.seq (.reg none [
      ⟨(some 17), .mov (.t 0), none⟩,
      ⟨(some 18), .mov (.t 1), none⟩,
      ⟨(some 19), .call 30 [(.t 17), (.t 18)], none⟩,
      ⟨(some 16), .mov (.t 19), none⟩,
      ⟨(some 20), .ext (.t 16) 0, none⟩,
      ⟨(some 21), .ext (.t 16) 1, none⟩,
      ⟨(some 22), .ext (.t 16) 2, none⟩,
      ⟨(some 5), .mov (.t 20), none⟩,
      ⟨(some 6), .mov (.t 21), none⟩,
      ⟨(some 7), .mov (.t 22), none⟩] (some [0, 1, 5, 6, 7]) none)
    (.seq (.reg none [
      ⟨(some 24), .mov (.t 0), none⟩,
      ⟨(some 25), .mov (.t 1), none⟩,
      ⟨(some 26), .call 31 [(.t 24), (.t 25)], none⟩,
      ⟨(some 23), .mov (.t 26), none⟩,
      ⟨(some 27), .ext (.t 23) 0, none⟩,
      ⟨(some 28), .ext (.t 23) 1, none⟩,
      ⟨(some 29), .ext (.t 23) 2, none⟩,
      ⟨(some 8), .mov (.t 27), none⟩,
      ⟨(some 9), .mov (.t 28), none⟩,
      ⟨(some 10), .mov (.t 29), none⟩] (some [0, 1, 5, 6, 7, 8, 9, 10]) none)
    (.seq (.seq (.reg none [
      ⟨(some 30), .mov (.t 8), none⟩,
      ⟨(some 31), .mov (.t 5), none⟩,
      ⟨(some 32), .call 32 [(.t 30), (.t 31)], none⟩,
      ⟨(some 33), .un .not (.t 32), none⟩,
      ⟨(some 34), .mov (.t 33), none⟩,
      ⟨(some 35), .mov (.t 9), some (34, false)⟩,
      ⟨(some 36), .mov (.t 6), some (34, false)⟩,
      ⟨(some 37), .bin .neq (.t 35) (.t 36), some (34, false)⟩,
      ⟨(some 38), .pick (.t 34) (.c (.bool true)) (.t 37), none⟩,
      ⟨(some 39), .mov (.t 38), none⟩,
      ⟨(some 40), .mov (.t 10), some (39, false)⟩,
      ⟨(some 41), .mov (.t 7), some (39, false)⟩,
      ⟨(some 42), .bin .neq (.t 40) (.t 41), some (39, false)⟩,
      ⟨(some 43), .pick (.t 39) (.c (.bool true)) (.t 42), none⟩] (some [0, 1, 5, 6, 7, 8, 43]) none)
    (.cond (.t 43) (.seq (.reg none [
      ⟨(some 4), .mov (.c (.bool false)), none⟩] (some [4]) none)
    .ret)
    .skip))
    (.seq (.reg none [
      ⟨(some 11), .mov (.c (.int .i64 1)), none⟩] (some [0, 1, 5, 6, 7, 8, 11]) none)
    (.seq (.reg none [
      ⟨(some 44), .mov (.t 8), none⟩,
      ⟨(some 45), .mov (.t 11), none⟩,
      ⟨(some 46), .call 33 [(.t 44), (.t 45)], none⟩,
      ⟨(some 11), .mov (.t 46), none⟩] (some [0, 1, 5, 6, 7, 8, 11]) none)
    (.seq (.reg none [
      ⟨(some 12), .mov (.c (.int .i64 1)), none⟩] (some [0, 1, 5, 6, 7, 8, 11, 12]) none)
    (.seq (.reg none [
      ⟨(some 47), .mov (.t 8), none⟩,
      ⟨(some 48), .mov (.t 12), none⟩,
      ⟨(some 49), .call 34 [(.t 47), (.t 48)], none⟩,
      ⟨(some 12), .mov (.t 49), none⟩] (some [0, 1, 5, 6, 7, 8, 11, 12]) none)
    (.seq (.seq (.reg none [
      ⟨(some 50), .mov (.t 12), none⟩,
      ⟨(some 51), .bin .lss (.t 50) (.c (.int .i64 0)), none⟩] (some [0, 1, 5, 6, 7, 8, 11, 12, 51]) none)
    (.cond (.t 51) (.seq (.reg none [
      ⟨(some 4), .mov (.c (.bool false)), none⟩] (some [4]) none)
    .ret)
    .skip))
    (.seq (.seq (.reg none [
      ⟨(some 52), .mov (.t 12), none⟩,
      ⟨(some 53), .mov (.t 11), none⟩,
      ⟨(some 54), .bin .neq (.t 52) (.t 53), none⟩] (some [0, 1, 5, 6, 7, 8, 11, 54]) none)
    (.cond (.t 54) (.seq (.reg none [
      ⟨(some 4), .mov (.c (.bool false)), none⟩] (some [4]) none)
    .ret)
    .skip))
    (.seq (.reg none [
      ⟨(some 56), .mov (.t 0), none⟩,
      ⟨(some 57), .mov (.t 1), none⟩,
      ⟨(some 58), .call 31 [(.t 56), (.t 57)], none⟩,
      ⟨(some 55), .mov (.t 58), none⟩,
      ⟨(some 59), .ext (.t 55) 0, none⟩,
      ⟨(some 60), .ext (.t 55) 1, none⟩,
      ⟨(some 61), .ext (.t 55) 2, none⟩,
      ⟨(some 13), .mov (.t 59), none⟩,
      ⟨(some 14), .mov (.t 60), none⟩,
      ⟨(some 15), .mov (.t 61), none⟩] (some [5, 6, 7, 8, 11, 13, 14, 15]) none)
    (.seq (.seq (.reg none [
      ⟨(some 62), .mov (.t 13), none⟩,
      ⟨(some 63), .mov (.t 5), none⟩,
      ⟨(some 64), .call 32 [(.t 62), (.t 63)], none⟩,
      ⟨(some 65), .un .not (.t 64), none⟩,
      ⟨(some 66), .mov (.t 65), none⟩,
      ⟨(some 67), .mov (.t 14), some (66, false)⟩,
      ⟨(some 68), .mov (.t 6), some (66, false)⟩,
      ⟨(some 69), .bin .neq (.t 67) (.t 68), some (66, false)⟩,
      ⟨(some 70), .pick (.t 66) (.c (.bool true)) (.t 69), none⟩,
      ⟨(some 71), .mov (.t 70), none⟩,
      ⟨(some 72), .mov (.t 15), some (71, false)⟩,
      ⟨(some 73), .mov (.t 7), some (71, false)⟩,
      ⟨(some 74), .bin .neq (.t 72) (.t 73), some (71, false)⟩,
      ⟨(some 75), .pick (.t 71) (.c (.bool true)) (.t 74), none⟩] (some [8, 11, 75]) none)
    (.cond (.t 75) (.seq (.reg none [
      ⟨(some 4), .mov (.c (.bool false)), none⟩] (some [4]) none)
    .ret)
    .skip))
    (.seq (.reg none [
      ⟨(some 12), .mov (.c (.int .i64 1)), none⟩] (some [8, 11, 12]) none)
    (.seq (.reg none [
      ⟨(some 76), .mov (.t 8), none⟩,
      ⟨(some 77), .mov (.t 12), none⟩,
      ⟨(some 78), .call 34 [(.t 76), (.t 77)], none⟩,
      ⟨(some 12), .mov (.t 78), none⟩] (some [11, 12]) none)
    (.seq (.seq (.reg none [
      ⟨(some 79), .mov (.t 12), none⟩,
      ⟨(some 80), .bin .lss (.t 79) (.c (.int .i64 0)), none⟩] (some [11, 12, 80]) none)
    (.cond (.t 80) (.seq (.reg none [
      ⟨(some 4), .mov (.c (.bool false)), none⟩] (some [4]) none)
    .ret)
    .skip))
    (.seq (.seq (.reg none [
      ⟨(some 81), .mov (.t 12), none⟩,
      ⟨(some 82), .mov (.t 11), none⟩,
      ⟨(some 83), .bin .neq (.t 81) (.t 82), none⟩] (some [83]) none)
    (.cond (.t 83) (.seq (.reg none [
      ⟨(some 4), .mov (.c (.bool false)), none⟩] (some [4]) none)
    .ret)
    .skip))
    (.seq (.reg none [
      ⟨(some 4), .mov (.c (.bool true)), none⟩] (some [4]) none)
    .ret)))))))))))))))))
def laws_FnExactNextOrder_F : MF := ⟨84, [.t 4], laws_FnExactNextOrder_M⟩
-- loop.example/g01312/laws.FnExactCountsOf
def laws_FnExactCountsOf_M : MC :=
  (.seq (.reg none [
      ⟨(some 1), .box (.t 0), none⟩,
      ⟨(some 2), .mov (.c (.bool false)), none⟩] (some [1]) none)
    (.seq (.reg none [
      ⟨(some 8), .load (some 65) (.t 1), none⟩,
      ⟨(some 9), .call 36 [(.t 8)], none⟩,
      ⟨(some 10), .call 35 [(.t 9)], none⟩,
      ⟨(some 7), .mov (.t 10), none⟩,
      ⟨(some 11), .ext (.t 7) 0, none⟩,
      ⟨(some 12), .ext (.t 7) 1, none⟩,
      ⟨(some 3), .new (rl [(64, .int .i8 0)]), none⟩,
      ⟨none, .store 64 (.t 3) (.t 11), none⟩,
      ⟨(some 4), .mov (.t 12), none⟩] (some [1, 3, 4]) none)
    (.seq (.reg none [
      ⟨(some 14), .load (some 65) (.t 1), none⟩,
      ⟨(some 15), .call 36 [(.t 14)], none⟩,
      ⟨(some 16), .call 37 [(.t 15)], none⟩,
      ⟨(some 13), .mov (.t 16), none⟩,
      ⟨(some 17), .ext (.t 13) 0, none⟩,
      ⟨(some 18), .ext (.t 13) 1, none⟩,
      ⟨(some 5), .new (rl [(64, .int .i8 0)]), none⟩,
      ⟨none, .store 64 (.t 5) (.t 17), none⟩,
      ⟨(some 6), .mov (.t 18), none⟩] (some [3, 4, 5, 6]) none)
    (.seq (.seq (.reg none [
      ⟨(some 19), .load (some 64) (.t 5), none⟩,
      ⟨(some 20), .load (some 64) (.t 3), none⟩,
      ⟨(some 21), .call 38 [(.t 19), (.t 20)], none⟩,
      ⟨(some 22), .un .not (.t 21), none⟩,
      ⟨(some 23), .mov (.t 22), none⟩,
      ⟨(some 24), .mov (.t 6), some (23, false)⟩,
      ⟨(some 25), .mov (.t 4), some (23, false)⟩,
      ⟨(some 26), .bin .neq (.t 24) (.t 25), some (23, false)⟩,
      ⟨(some 27), .pick (.t 23) (.c (.bool true)) (.t 26), none⟩] (some [27]) none)
    (.cond (.t 27) (.seq (.reg none [
      ⟨(some 2), .mov (.c (.bool false)), none⟩] (some [2]) none)
    .ret)
    .skip))
    (.seq (.reg none [
      ⟨(some 2), .mov (.c (.bool true)), none⟩] (some [2]) none)
    .ret)))))
def laws_FnExactCountsOf_F : MF := ⟨28, [.t 2], laws_FnExactCountsOf_M⟩
-- loop.example/g01312/laws.FnExactHistogramOf
def laws_FnExactHistogramOf_M : MC :=
  (.seq (.reg none [
      ⟨(some 1), .box (.t 0), none⟩,
      ⟨(some 2), .mov (.c (.bool false)), none⟩] (some [1]) none)
    (.seq (.reg none [
      ⟨(some 8), .load (some 65) (.t 1), none⟩,
      ⟨(some 9), .call 36 [(.t 8)], none⟩,
      ⟨(some 10), .call 39 [(.t 9)], none⟩,
      ⟨(some 7), .mov (.t 10), none⟩,
      ⟨(some 11), .ext (.t 7) 0, none⟩,
      ⟨(some 12), .ext (.t 7) 1, none⟩,
      ⟨(some 3), .new (rl [(9, .int .i64 0)]), none⟩,
      ⟨none, .store 9 (.t 3) (.t 11), none⟩,
      ⟨(some 4), .mov (.t 12), none⟩] (some [1, 3, 4]) none)
    (.seq (.reg none [
      ⟨(some 14), .load (some 65) (.t 1), none⟩,
      ⟨(some 15), .call 36 [(.t 14)], none⟩,
      ⟨(some 16), .call 40 [(.t 15)], none⟩,
      ⟨(some 13), .mov (.t 16), none⟩,
      ⟨(some 17), .ext (.t 13) 0, none⟩,
      ⟨(some 18), .ext (.t 13) 1, none⟩,
      ⟨(some 5), .new (rl [(9, .int .i64 0)]), none⟩,
      ⟨none, .store 9 (.t 5) (.t 17), none⟩,
      ⟨(some 6), .mov (.t 18), none⟩] (some [3, 4, 5, 6]) none)
    (.seq (.seq (.reg none [
      ⟨(some 19), .load (some 9) (.t 5), none⟩,
      ⟨(some 20), .load (some 9) (.t 3), none⟩,
      ⟨(some 21), .call 41 [(.t 19), (.t 20)], none⟩,
      ⟨(some 22), .un .not (.t 21), none⟩,
      ⟨(some 23), .mov (.t 22), none⟩,
      ⟨(some 24), .mov (.t 6), some (23, false)⟩,
      ⟨(some 25), .mov (.t 4), some (23, false)⟩,
      ⟨(some 26), .bin .neq (.t 24) (.t 25), some (23, false)⟩,
      ⟨(some 27), .pick (.t 23) (.c (.bool true)) (.t 26), none⟩] (some [27]) none)
    (.cond (.t 27) (.seq (.reg none [
      ⟨(some 2), .mov (.c (.bool false)), none⟩] (some [2]) none)
    .ret)
    .skip))
    (.seq (.reg none [
      ⟨(some 2), .mov (.c (.bool true)), none⟩] (some [2]) none)
    .ret)))))
def laws_FnExactHistogramOf_F : MF := ⟨28, [.t 2], laws_FnExactHistogramOf_M⟩
-- loop.example/g01312/laws.FnExactSwapColours
def laws_FnExactSwapColours_M : MC :=
  (.seq (.reg none [
      ⟨(some 1), .box (.t 0), none⟩,
      ⟨(some 2), .mov (.c (.bool false)), none⟩] (some [1]) none)
    (.seq (.reg none [
      ⟨(some 8), .load (some 14) (.t 1), none⟩,
      ⟨(some 9), .call 43 [(.t 8)], none⟩,
      ⟨(some 10), .call 42 [(.t 9)], none⟩,
      ⟨(some 7), .mov (.t 10), none⟩,
      ⟨(some 11), .ext (.t 7) 0, none⟩,
      ⟨(some 12), .ext (.t 7) 1, none⟩,
      ⟨(some 3), .new (rl [(2, .int .i8 0), (12, .int .u8 0)]), none⟩,
      ⟨none, .store 14 (.t 3) (.t 11), none⟩,
      ⟨(some 4), .mov (.t 12), none⟩] (some [1, 3, 4]) none)
    (.seq (.reg none [
      ⟨(some 14), .load (some 14) (.t 1), none⟩,
      ⟨(some 15), .call 43 [(.t 14)], none⟩,
      ⟨(some 16), .call 44 [(.t 15)], none⟩,
      ⟨(some 13), .mov (.t 16), none⟩,
      ⟨(some 17), .ext (.t 13) 0, none⟩,
      ⟨(some 18), .ext (.t 13) 1, none⟩,
      ⟨(some 5), .new (rl [(2, .int .i8 0), (12, .int .u8 0)]), none⟩,
      ⟨none, .store 14 (.t 5) (.t 17), none⟩,
      ⟨(some 6), .mov (.t 18), none⟩] (some [3, 4, 5, 6]) none)
    (.seq (.seq (.reg none [
      ⟨(some 19), .load (some 14) (.t 5), none⟩,
      ⟨(some 20), .load (some 14) (.t 3), none⟩,
      ⟨(some 21), .call 17 [(.t 19), (.t 20)], none⟩,
      ⟨(some 22), .un .not (.t 21), none⟩,
      ⟨(some 23), .mov (.t 22), none⟩,
      ⟨(some 24), .mov (.t 6), some (23, false)⟩,
      ⟨(some 25), .mov (.t 4), some (23, false)⟩,
      ⟨(some 26), .bin .neq (.t 24) (.t 25), some (23, false)⟩,
      ⟨(some 27), .pick (.t 23) (.c (.bool true)) (.t 26), none⟩] (some [27]) none)
    (.cond (.t 27) (.seq (.reg none [
      ⟨(some 2), .mov (.c (.bool false)), none⟩] (some [2]) none)
    .ret)
    .skip))
    (.seq (.reg none [
      ⟨(some 2), .mov (.c (.bool true)), none⟩] (some [2]) none)
    .ret)))))
def laws_FnExactSwapColours_F : MF := ⟨28, [.t 2], laws_FnExactSwapColours_M⟩
-- loop.example/g01312/laws.FnExactDifferAt
def laws_FnExactDifferAt_M : MC :=
  (.seq (.reg none [
      ⟨(some 2), .box (.t 0), none⟩,
      ⟨(some 3), .box (.t 1), none⟩,
      ⟨(some 4), .mov (.c (.bool false)), none⟩] (some [2, 3]) none)
    (.seq (.reg (some [(1, 2), (0, 3), (0, 4), (2, 4)]) [
      ⟨(some 10), .load (some 65) (.t 2), none⟩,
      ⟨(some 11), .call 36 [(.t 10)], none⟩,
      ⟨(some 12), .load (some 65) (.t 3), none⟩,
      ⟨(some 13), .call 36 [(.t 12)], none⟩,
      ⟨(some 14), .call 45 [(.t 11), (.t 13)], none⟩,
      ⟨(some 9), .mov (.t 14), none⟩,
      ⟨(some 15), .ext (.t 9) 0, none⟩,
      ⟨(some 16), .ext (.t 9) 1, none⟩,
      ⟨(some 5), .mov (.t 15), none⟩,
      ⟨(some 6), .mov (.t 16), none⟩] (some [2, 3, 5, 6]) none)
    (.seq (.reg (some [(1, 2), (0, 3), (0, 4), (2, 4)]) [
      ⟨(some 18), .load (some 65) (.t 2), none⟩,
      ⟨(some 19), .call 36 [(.t 18)], none⟩,
      ⟨(some 20), .load (some 65) (.t 3), none⟩,
      ⟨(some 21), .call 36 [(.t 20)], none⟩,
      ⟨(some 22), .call 46 [(.t 19), (.t 21)], none⟩,
      ⟨(some 17), .mov (.t 22), none⟩,
      ⟨(some 23), .ext (.t 17) 0, none⟩,
      ⟨(some 24), .ext (.t 17) 1, none⟩,
      ⟨(some 7), .mov (.t 23), none⟩,
      ⟨(some 8), .mov (.t 24), none⟩] (some [5, 6, 7, 8]) none)
    (.seq (.seq (.reg none [
      ⟨(some 25), .mov (.t 7), none⟩,
      ⟨(some 26), .mov (.t 5), none⟩,
      ⟨(some 27), .bin .neq (.t 25) (.t 26), none⟩,
      ⟨(some 28), .mov (.t 27), none⟩,
      ⟨(some 29), .mov (.t 8), some (28, false)⟩,
      ⟨(some 30), .mov (.t 6), some (28, false)⟩,
      ⟨(some 31), .bin .neq (.t 29) (.t 30), some (28, false)⟩,
      ⟨(some 32), .pick (.t 28) (.c (.bool true)) (.t 31), none⟩] (some [32]) none)
    (.cond (.t 32) (.seq (.reg none [
      ⟨(some 4), .mov (.c (.bool false)), none⟩] (some [4]) none)
    .ret)
    .skip))
    (.seq (.reg none [
      ⟨(some 4), .mov (.c (.bool true)), none⟩] (some [4]) none)
    .ret)))))
def laws_FnExactDifferAt_F : MF := ⟨33, [.t 4], laws_FnExactDifferAt_M⟩
-- loop.example/g01312/laws.FnExactOppositeScheme
def laws_FnExactOppositeScheme_M : MC :=
  (.seq (.reg none [
      ⟨(some 1), .box (.t 0), none⟩,
      ⟨(some 2), .mov (.c (.bool false)), none⟩] (some [1]) none)
    (.seq (.reg none [
      ⟨(some 8), .load (some 14) (.t 1), none⟩,
      ⟨(some 9), .call 43 [(.t 8)], none⟩,
      ⟨(some 10), .call 47 [(.t 9)], none⟩,
      ⟨(some 7), .mov (.t 10), none⟩,
      ⟨(some 11), .ext (.t 7) 0, none⟩,
      ⟨(some 12), .ext (.t 7) 1, none⟩,
      ⟨(some 3), .new (rl [(2, .int .i8 0), (12, .int .u8 0)]), none⟩,
      ⟨none, .store 14 (.t 3) (.t 11), none⟩,
      ⟨(some 4), .mov (.t 12), none⟩] (some [1, 3, 4]) none)
    (.seq (.reg none [
      ⟨(some 14), .load (some 14) (.t 1), none⟩,
      ⟨(some 15), .call 43 [(.t 14)], none⟩,
      ⟨(some 16), .call 48 [(.t 15)], none⟩,
      ⟨(some 13), .mov (.t 16), none⟩,
      ⟨(some 17), .ext (.t 13) 0, none⟩,
      ⟨(some 18), .ext (.t 13) 1, none⟩,
      ⟨(some 5), .new (rl [(2, .int .i8 0), (12, .int .u8 0)]), none⟩,
      ⟨none, .store 14 (.t 5) (.t 17), none⟩,
      ⟨(some 6), .mov (.t 18), none⟩] (some [3, 4, 5, 6]) none)
    (.seq (.seq (.reg none [
      ⟨(some 19), .load (some 14) (.t 5), none⟩,
      ⟨(some 20), .load (some 14) (.t 3), none⟩,
      ⟨(some 21), .call 17 [(.t 19), (.t 20)], none⟩,
      ⟨(some 22), .un .not (.t 21), none⟩,
      ⟨(some 23), .mov (.t 22), none⟩,
      ⟨(some 24), .mov (.t 6), some (23, false)⟩,
      ⟨(some 25), .mov (.t 4), some (23, false)⟩,
      ⟨(some 26), .bin .neq (.t 24) (.t 25), some (23, false)⟩,
      ⟨(some 27), .pick (.t 23) (.c (.bool true)) (.t 26), none⟩] (some [27]) none)
    (.cond (.t 27) (.seq (.reg none [
      ⟨(some 2), .mov (.c (.bool false)), none⟩] (some [2]) none)
    .ret)
    .skip))
    (.seq (.reg none [
      ⟨(some 2), .mov (.c (.bool true)), none⟩] (some [2]) none)
    .ret)))))
def laws_FnExactOppositeScheme_F : MF := ⟨28, [.t 2], laws_FnExactOppositeScheme_M⟩
-- loop.example/g01312/laws.FnExactLevelFor
def laws_FnExactLevelFor_M : MC :=
  (.seq (.reg none [
      ⟨(some 2), .box (.t 0), none⟩,
      ⟨(some 4), .mov (.c (.bool false)), none⟩] (some [1, 2]) none)
    (.seq (.reg none [
      ⟨(some 10), .load (some 65) (.t 2), none⟩,
      ⟨(some 11), .call 36 [(.t 10)], none⟩,
      ⟨(some 12), .mov (.t 1), none⟩,
      ⟨(some 13), .call 49 [(.t 11), (.t 12)], none⟩,
      ⟨(some 9), .mov (.t 13), none⟩,
      ⟨(some 14), .ext (.t 9) 0, none⟩,
      ⟨(some 15), .ext (.t 9) 1, none⟩,
      ⟨(some 5), .mov (.t 14), none⟩,
      ⟨(some 6), .mov (.t 15), none⟩] (some [1, 2, 5, 6]) none)
    (.seq (.reg none [
      ⟨(some 17), .load (some 65) (.t 2), none⟩,
      ⟨(some 18), .call 36 [(.t 17)], none⟩,
      ⟨(some 19), .mov (.t 1), none⟩,
      ⟨(some 20), .call 50 [(.t 18), (.t 19)], none⟩,
      ⟨(some 16), .mov (.t 20), none⟩,
      ⟨(some 21), .ext (.t 16) 0, none⟩,
      ⟨(some 22), .ext (.t 16) 1, none⟩,
      ⟨(some 7), .mov (.t 21), none⟩,
      ⟨(some 8), .mov (.t 22), none⟩] (some [5, 6, 7, 8]) none)
    (.seq (.seq (.reg none [
      ⟨(some 23), .mov (.t 7), none⟩,
      ⟨(some 24), .mov (.t 5), none⟩,
      ⟨(some 25), .bin .neq (.t 23) (.t 24), none⟩,
      ⟨(some 26), .mov (.t 25), none⟩,
      ⟨(some 27), .mov (.t 8), some (26, false)⟩,
      ⟨(some 28), .mov (.t 6), some (26, false)⟩,
      ⟨(some 29), .bin .neq (.t 27) (.t 28), some (26, false)⟩,
      ⟨(some 30), .pick (.t 26) (.c (.bool true)) (.t 29), none⟩] (some [30]) none)
    (.cond (.t 30) (.seq (.reg none [
      ⟨(some 4), .mov (.c (.bool false)), none⟩] (some [4]) none)
    .ret)
    .skip))
    (.seq (.reg none [
      ⟨(some 4), .mov (.c (.bool true)), none⟩] (some [4]) none)
    .ret)))))
def laws_FnExactLevelFor_F : MF := ⟨31, [.t 4], laws_FnExactLevelFor_M⟩
-- loop.example/g01312/spec.OneOf
def spec_OneOf_L0 : MC :=
  (.seq (.seq (.reg none [
      ⟨(some 13), .mov (.t 5), none⟩,
      ⟨(some 14), .mov (.t 0), none⟩,
      ⟨(some 15), .bin .lss (.t 13) (.t 14), none⟩] (some [0, 2, 4, 5, 15]) none)
    (.cond (.t 15) .skip
    (.exit 0)))
    (.seq (.block 1 (.reg none [
      ⟨(some 18), .mov (.t 5), none⟩,
      ⟨(some 19), .fa 8 (.t 4), none⟩,
      ⟨(some 20), .iaA 6 1 (.t 19) (.t 18), none⟩,
      ⟨none, .store 1 (.t 20) (.c (.int .u8 1)), none⟩] (some [0, 2, 4, 5]) none))
    (.reg none [
      ⟨(some 16), .mov (.t 5), none⟩,
      ⟨(some 17), .bin .add (.t 16) (.c (.int .i64 1)), none⟩,
      ⟨(some 5), .mov (.t 17), none⟩] (some [0, 2, 4, 5]) none)))
def spec_OneOf_M : MC :=
  (.seq (.reg none [
      ⟨(some 2), .new (rl [(2, .int .i8 0), (12, .int .u8 0)]), none⟩,
      ⟨(some 3), .mov (.c (.int .i64 0)), none⟩] (some [0, 2]) none)
    (.seq (.seq (.reg none [
      ⟨(some 6), .mov (.t 0), none⟩,
      ⟨(some 7), .call 51 [(.t 6), (.c (.int .i64 1)), (.c (.int .i64 6))], none⟩,
      ⟨(some 8), .un .not (.t 7), none⟩] (some [0, 2, 8]) none)
    (.cond (.t 8) (.seq (.reg none [
      ⟨(some 9), .bld (rl [(2, .int .i8 0), (12, .int .u8 0)]) [], none⟩,
      ⟨none, .store 14 (.t 2) (.t 9), none⟩,
      ⟨(some 3), .mov (.c (.int .i64 2)), none⟩] (some [2, 3]) none)
    .ret)
    .skip))
    (.seq (.reg none [
      ⟨(some 10), .mov (.t 0), none⟩,
      ⟨(some 11), .conv .i8 (.t 10), none⟩,
      ⟨(some 12), .bld (rl [(2, .int .i8 0), (12, .int .u8 0)]) [(0, 1, (.t 11)), (1, 1, (.c (.int .i8 1)))], none⟩,
      ⟨(some 4), .new (rl [(2, .int .i8 0), (12, .int .u8 0)]), none⟩,
      ⟨none, .store 14 (.t 4) (.t 12), none⟩] (some [0, 2, 4]) none)
    (.seq (.seq (.reg none [
      ⟨(some 5), .mov (.c (.int .i64 0)), none⟩] (some [0, 2, 4, 5]) none)
    (.block 0 (.loop spec_OneOf_L0)))
    (.seq (.reg none [
      ⟨(some 21), .load (some 14) (.t 4), none⟩,
      ⟨none, .store 14 (.t 2) (.t 21), none⟩,
      ⟨(some 3), .mov (.c (.int .i64 0)), none⟩] (some [2, 3]) none)
    .ret)))))
def spec_OneOf_F : MF := ⟨22, [.c 2 (some 14), .t 3], spec_OneOf_M⟩
-- loop.example/g01312/impl.OneOf
def impl_OneOf_M : MC :=
  (.seq (.reg none [
      ⟨(some 2), .new (rl [(2, .int .i8 0), (12, .int .u8 0)]), none⟩,
      ⟨(some 3), .mov (.c (.int .i64 0)), none⟩] (some [0, 2]) none)
    (.seq (.seq (.reg none [
      ⟨(some 4), .mov (.t 0), none⟩,
      ⟨(some 5), .call 52 [(.t 4), (.c (.int .i64 1)), (.c (.int .i64 6))], none⟩,
      ⟨(some 6), .un .not (.t 5), none⟩] (some [0, 2, 6]) none)
    (.cond (.t 6) (.seq (.reg none [
      ⟨(some 7), .bld (rl [(2, .int .i8 0), (12, .int .u8 0)]) [], none⟩,
      ⟨none, .store 14 (.t 2) (.t 7), none⟩,
      ⟨(some 3), .mov (.c (.int .i64 2)), none⟩] (some [2, 3]) none)
    .ret)
    .skip))
    (.seq (.reg none [
      ⟨(some 8), .mov (.t 0), none⟩,
      ⟨(some 9), .call 53 [(.t 8), (.c (.int .i64 1)), (.c (.fn 54 [] []))], none⟩,
      ⟨none, .store 14 (.t 2) (.t 9), none⟩,
      ⟨(some 3), .mov (.c (.int .i64 0)), none⟩] (some [2, 3]) none)
    .ret)))
def impl_OneOf_F : MF := ⟨10, [.c 2 (some 14), .t 3], impl_OneOf_M⟩
-- loop.example/g01312/laws.eqScheme
def laws_eqScheme_M : MC :=
  (.seq (.reg none [
      ⟨(some 2), .box (.t 0), none⟩,
      ⟨(some 3), .box (.t 1), none⟩,
      ⟨(some 4), .mov (.c (.bool false)), none⟩] (some [2, 3]) none)
    (.seq (.seq (.reg none [
      ⟨(some 5), .fa 0 (.t 2), none⟩,
      ⟨(some 6), .load none (.t 5), none⟩,
      ⟨(some 7), .fa 0 (.t 3), none⟩,
      ⟨(some 8), .load none (.t 7), none⟩,
      ⟨(some 9), .bin .neq (.t 6) (.t 8), none⟩] (some [2, 3, 9]) none)
    (.cond (.t 9) (.seq (.reg none [
      ⟨(some 4), .mov (.c (.bool false)), none⟩] (some [4]) none)
    .ret)
    .skip))
    (.seq (.seq (.reg none [
      ⟨(some 10), .fa 1 (.t 2), none⟩,
      ⟨(some 11), .load none (.t 10), none⟩,
      ⟨(some 12), .fa 1 (.t 3), none⟩,
      ⟨(some 13), .load none (.t 12), none⟩,
      ⟨(some 14), .bin .neq (.t 11) (.t 13), none⟩] (some [2, 3, 14]) none)
    (.cond (.t 14) (.seq (.reg none [
      ⟨(some 4), .mov (.c (.bool false)), none⟩] (some [4]) none)
    .ret)
    .skip))
    (.seq (.seq (.reg none [
      ⟨(some 15), .fa 2 (.t 2), none⟩,
      ⟨(some 16), .load (some 6) (.t 15), none⟩,
      ⟨(some 17), .fa 2 (.t 3), none⟩,
      ⟨(some 18), .load (some 6) (.t 17), none⟩,
      ⟨(some 19), .call 55 [(.t 16), (.t 18)], none⟩,
      ⟨(some 20), .un .not (.t 19), none⟩] (some [2, 3, 20]) none)
    (.cond (.t 20) (.seq (.reg none [
      ⟨(some 4), .mov (.c (.bool false)), none⟩] (some [4]) none)
    .ret)
    .skip))
    (.seq (.seq (.reg none [
      ⟨(some 21), .fa 8 (.t 2), none⟩,
      ⟨(some 22), .load (some 6) (.t 21), none⟩,
      ⟨(some 23), .fa 8 (.t 3), none⟩,
      ⟨(some 24), .load (some 6) (.t 23), none⟩,
      ⟨(some 25), .call 55 [(.t 22), (.t 24)], none⟩,
      ⟨(some 26), .un .not (.t 25), none⟩] (some [26]) none)
    (.cond (.t 26) (.seq (.reg none [
      ⟨(some 4), .mov (.c (.bool false)), none⟩] (some [4]) none)
    .ret)
    .skip))
    (.seq (.reg none [
      ⟨(some 4), .mov (.c (.bool true)), none⟩] (some [4]) none)
    .ret))))))
def laws_eqScheme_F : MF := ⟨27, [.t 4], laws_eqScheme_M⟩
-- loop.example/g01312/spec.TwoOf
def spec_TwoOf_L0 : MC :=
  (.seq (.seq (.reg none [
      ⟨(some 15), .mov (.t 5), none⟩,
      ⟨(some 16), .mov (.t 0), none⟩,
      ⟨(some 17), .bin .lss (.t 15) (.t 16), none⟩] (some [0, 2, 4, 5, 17]) none)
    (.cond (.t 17) .skip
    (.exit 0)))
    (.seq (.block 1 (.seq (.reg none [
      ⟨(some 20), .mov (.t 5), none⟩,
      ⟨(some 21), .fa 2 (.t 4), none⟩,
      ⟨(some 22), .iaA 6 1 (.t 21) (.t 20), none⟩,
      ⟨none, .store 1 (.t 22) (.c (.int .u8 1)), none⟩] (some [0, 2, 4, 5]) none)
    (.reg none [
      ⟨(some 23), .mov (.t 5), none⟩,
      ⟨(some 24), .mov (.t 5), none⟩,
      ⟨(some 25), .conv .u64 (.t 24), none⟩,
      ⟨(some 26), .bin .shl (.c (.int .u8 1)) (.t 25), none⟩,
      ⟨(some 27), .fa 8 (.t 4), none⟩,
      ⟨(some 28), .iaA 6 1 (.t 27) (.t 23), none⟩,
      ⟨none, .store 1 (.t 28) (.t 26), none⟩] (some [0, 2, 4, 5]) none)))
    (.reg none [
      ⟨(some 18), .mov (.t 5), none⟩,
      ⟨(some 19), .bin .add (.t 18) (.c (.int .i64 1)), none⟩,
      ⟨(some 5), .mov (.t 19), none⟩] (some [0, 2, 4, 5]) none)))
def spec_TwoOf_M : MC :=
  (.seq (.reg none [
      ⟨(some 2), .new (rl [(2, .int .i8 0), (12, .int .u8 0)]), none⟩,
      ⟨(some 3), .mov (.c (.int .i64 0)), none⟩] (some [0, 2]) none)
    (.seq (.seq (.reg none [
      ⟨(some 6), .mov (.t 0), none⟩,
      ⟨(some 7), .call 51 [(.t 6), (.c (.int .i64 2)), (.c (.int .i64 6))], none⟩,
      ⟨(some 8), .un .not (.t 7), none⟩] (some [0, 2, 8]) none)
    (.cond (.t 8) (.seq (.reg none [
      ⟨(some 9), .bld (rl [(2, .int .i8 0), (12, .int .u8 0)]) [], none⟩,
      ⟨none, .store 14 (.t 2) (.t 9), none⟩,
      ⟨(some 3), .mov (.c (.int .i64 2)), none⟩] (some [2, 3]) none)
    .ret)
    .skip))
    (.seq (.reg none [
      ⟨(some 10), .mov (.t 0), none⟩,
      ⟨(some 11), .conv .i8 (.t 10), none⟩,
      ⟨(some 12), .mov (.t 0), none⟩,
      ⟨(some 13), .conv .i8 (.t 12), none⟩,
      ⟨(some 14), .bld (rl [(2, .int .i8 0), (12, .int .u8 0)]) [(0, 1, (.t 11)), (1, 1, (.t 13))], none⟩,
      ⟨(some 4), .new (rl [(2, .int .i8 0), (12, .int .u8 0)]), none⟩,
      ⟨none, .store 14 (.t 4) (.t 14), none⟩] (some [0, 2, 4]) none)
    (.seq (.seq (.reg none [
      ⟨(some 5), .mov (.c (.int .i64 0)), none⟩] (some [0, 2, 4, 5]) none)
    (.block 0 (.loop spec_TwoOf_L0)))
    (.seq (.reg none [
      ⟨(some 29), .load (some 14) (.t 4), none⟩,
      ⟨none, .store 14 (.t 2) (.t 29), none⟩,
      ⟨(some 3), .mov (.c (.int .i64 0)), none⟩] (some [2, 3]) none)
    .ret)))))
def spec_TwoOf_F : MF := ⟨30, [.c 2 (some 14), .t 3], spec_TwoOf_M⟩
-- loop.example/g01312/impl.TwoOf
def impl_TwoOf_M : MC :=
  (.seq (.reg none [
      ⟨(some 2), .new (rl [(2, .int .i8 0), (12, .int .u8 0)]), none⟩,
      ⟨(some 3), .mov (.c (.int .i64 0)), none⟩] (some [0, 2]) none)
    (.seq (.seq (.reg none [
      ⟨(some 4), .mov (.t 0), none⟩,
      ⟨(some 5), .call 52 [(.t 4), (.c (.int .i64 2)), (.c (.int .i64 6))], none⟩,
      ⟨(some 6), .un .not (.t 5), none⟩] (some [0, 2, 6]) none)
    (.cond (.t 6) (.seq (.reg none [
      ⟨(some 7), .bld (rl [(2, .int .i8 0), (12, .int .u8 0)]) [], none⟩,
      ⟨none, .store 14 (.t 2) (.t 7), none⟩,
      ⟨(some 3), .mov (.c (.int .i64 2)), none⟩] (some [2, 3]) none)
    .ret)
    .skip))
    (.seq (.reg none [
      ⟨(some 8), .mov (.t 0), none⟩,
      ⟨(some 9), .mov (.t 0), none⟩,
      ⟨(some 10), .call 53 [(.t 8), (.t 9), (.c (.fn 56 [] []))], none⟩,
      ⟨none, .store 14 (.t 2) (.t 10), none⟩,
      ⟨(some 3), .mov (.c (.int .i64 0)), none⟩] (some [2, 3]) none)
    .ret)))
def impl_TwoOf_F : MF := ⟨11, [.c 2 (some 14), .t 3], impl_TwoOf_M⟩
-- loop.example/g01312/spec.PlainLayer
def spec_PlainLayer_L0 : MC :=
  (.seq (.seq (.reg none [
      ⟨(some 15), .mov (.t 7), none⟩,
      ⟨(some 16), .bin .lss (.t 15) (.c (.int .i64 64)), none⟩,
      ⟨(some 17), .mov (.t 16), none⟩,
      ⟨(some 18), .mov (.t 1), some (17, true)⟩,
      ⟨(some 19), .pick (.t 17) (.t 18) (.c (.bool false)), none⟩] (some [0, 1, 4, 6, 7, 19]) none)
    (.cond (.t 19) .skip
    (.exit 0)))
    (.seq (.block 1 (.reg none [
      ⟨(some 22), .mov (.t 7), none⟩,
      ⟨(some 23), .mov (.t 0), none⟩,
      ⟨(some 24), .conv .u64 (.t 23), none⟩,
      ⟨(some 25), .bin .shl (.c (.int .u8 1)) (.t 24), none⟩,
      ⟨(some 26), .bin .sub (.t 25) (.c (.int .u8 1)), none⟩,
      ⟨(some 27), .fa 1 (.t 6), none⟩,
      ⟨(some 28), .iaA 64 1 (.t 27) (.t 22), none⟩,
      ⟨none, .store 1 (.t 28) (.t 26), none⟩] (some [0, 1, 4, 6, 7]) none))
    (.reg none [
      ⟨(some 20), .mov (.t 7), none⟩,
      ⟨(some 21), .bin .add (.t 20) (.c (.int .i64 1)), none⟩,
      ⟨(some 7), .mov (.t 21), none⟩] (some [0, 1, 4, 6, 7]) none)))
def spec_PlainLayer_M : MC :=
  (.seq (.reg none [
      ⟨(some 4), .new (rl [(1, .int .i8 0), (64, .int .u8 0)]), none⟩,
      ⟨(some 5), .mov (.c (.int .i64 0)), none⟩] (some [0, 1, 4]) none)
    (.seq (.seq (.reg none [
      ⟨(some 8), .mov (.t 0), none⟩,
      ⟨(some 9), .call 57 [(.t 8)], none⟩,
      ⟨(some 10), .un .not (.t 9), none⟩] (some [0, 1, 4, 10]) none)
    (.cond (.t 10) (.seq (.reg none [
      ⟨(some 11), .bld (rl [(1, .int .i8 0), (64, .int .u8 0)]) [], none⟩,
      ⟨none, .store 65 (.t 4) (.t 11), none⟩,
      ⟨(some 5), .mov (.c (.int .i64 2)), none⟩] (some [4, 5]) none)
    .ret)
    .skip))
    (.seq (.reg none [
      ⟨(some 12), .mov (.t 0), none⟩,
      ⟨(some 13), .conv .i8 (.t 12), none⟩,
      ⟨(some 14), .bld (rl [(1, .int .i8 0), (64, .int .u8 0)]) [(0, 1, (.t 13))], none⟩,
      ⟨(some 6), .new (rl [(1, .int .i8 0), (64, .int .u8 0)]), none⟩,
      ⟨none, .store 65 (.t 6) (.t 14), none⟩] (some [0, 1, 4, 6]) none)
    (.seq (.seq (.reg none [
      ⟨(some 7), .mov (.c (.int .i64 0)), none⟩] (some [0, 1, 4, 6, 7]) none)
    (.block 0 (.loop spec_PlainLayer_L0)))
    (.seq (.reg none [
      ⟨(some 29), .load (some 65) (.t 6), none⟩,
      ⟨none, .store 65 (.t 4) (.t 29), none⟩,
      ⟨(some 5), .mov (.c (.int .i64 0)), none⟩] (some [4, 5]) none)
    .ret)))))
def spec_PlainLayer_F : MF := ⟨30, [.c 4 (some 65), .t 5], spec_PlainLayer_M⟩
-- loop.example/g01312/impl.PlainLayer
def impl_PlainLayer_M : MC :=
  (.seq (.reg none [
      ⟨(some 4), .new (rl [(1, .int .i8 0), (64, .int .u8 0)]), none⟩,
      ⟨(some 5), .mov (.c (.int .i64 0)), none⟩] (some [0, 1, 4]) none)
    (.seq (.seq (.reg none [
      ⟨(some 7), .mov (.t 0), none⟩,
      ⟨(some 8), .call 58 [(.t 7)], none⟩,
      ⟨(some 9), .un .not (.t 8), none⟩] (some [0, 1, 4, 9]) none)
    (.cond (.t 9) (.seq (.reg none [
      ⟨(some 10), .bld (rl [(1, .int .i8 0), (64, .int .u8 0)]) [], none⟩,
      ⟨none, .store 65 (.t 4) (.t 10), none⟩,
      ⟨(some 5), .mov (.c (.int .i64 2)), none⟩] (some [4, 5]) none)
    .ret)
    .skip))
    (.seq (.reg none [
      ⟨(some 11), .mov (.t 0), none⟩,
      ⟨(some 12), .conv .i8 (.t 11), none⟩,
      ⟨(some 13), .bld (rl [(1, .int .i8 0), (64, .int .u8 0)]) [(0, 1, (.t 12))], none⟩,
      ⟨(some 6), .new (rl [(1, .int .i8 0), (64, .int .u8 0)]), none⟩,
      ⟨none, .store 65 (.t 6) (.t 13), none⟩] (some [1, 4, 6]) none)
    (.seq (.seq (.reg none [
      ⟨(some 14), .mov (.t 1), none⟩] (some [4, 6, 14]) none)
    (.cond (.t 14) (.seq (.reg none [
      ⟨(some 15), .load (some 65) (.t 6), none⟩,
      ⟨(some 16), .mkf 60 [] [(.t 6)], none⟩,
      ⟨(some 17), .call 59 [(.t 15), (.t 16)], none⟩,
      ⟨none, .store 65 (.t 4) (.t 17), none⟩,
      ⟨(some 5), .mov (.c (.int .i64 0)), none⟩] (some [4, 5]) none)
    .ret)
    .skip))
    (.seq (.reg none [
      ⟨(some 18), .load (some 65) (.t 6), none⟩,
      ⟨none, .store 65 (.t 4) (.t 18), none⟩,
      ⟨(some 5), .mov (.c (.int .i64 0)), none⟩] (some [4, 5]) none)
    .ret)))))
def impl_PlainLayer_F : MF := ⟨19, [.c 4 (some 65), .t 5], impl_PlainLayer_M⟩
-- loop.example/g01312/laws.eqLayer
def laws_eqLayer_M : MC :=
  (.seq (.reg none [
      ⟨(some 2), .box (.t 0), none⟩,
      ⟨(some 3), .box (.t 1), none⟩,
      ⟨(some 4), .mov (.c (.bool false)), none⟩] (some [2, 3]) none)
    (.seq (.seq (.reg none [
      ⟨(some 5), .fa 0 (.t 2), none⟩,
      ⟨(some 6), .load none (.t 5), none⟩,
      ⟨(some 7), .fa 0 (.t 3), none⟩,
      ⟨(some 8), .load none (.t 7), none⟩,
      ⟨(some 9), .bin .neq (.t 6) (.t 8), none⟩] (some [2, 3, 9]) none)
    (.cond (.t 9) (.seq (.reg none [
      ⟨(some 4), .mov (.c (.bool false)), none⟩] (some [4]) none)
    .ret)
    .skip))
    (.seq (.seq (.reg none [
      ⟨(some 10), .fa 1 (.t 2), none⟩,
      ⟨(some 11), .load (some 64) (.t 10), none⟩,
      ⟨(some 12), .fa 1 (.t 3), none⟩,
      ⟨(some 13), .load (some 64) (.t 12), none⟩,
      ⟨(some 14), .call 62 [(.t 11), (.t 13)], none⟩,
      ⟨(some 15), .un .not (.t 14), none⟩] (some [15]) none)
    (.cond (.t 15) (.seq (.reg none [
      ⟨(some 4), .mov (.c (.bool false)), none⟩] (some [4]) none)
    .ret)
    .skip))
    (.seq (.reg none [
      ⟨(some 4), .mov (.c (.bool true)), none⟩] (some [4]) none)
    .ret))))
def laws_eqLayer_F : MF := ⟨16, [.t 4], laws_eqLayer_M⟩
-- loop.example/g01312/spec.ThreeOf
def spec_ThreeOf_L0 : MC :=
  (.seq (.seq (.reg none [
      ⟨(some 24), .mov (.t 6), none⟩,
      ⟨(some 25), .mov (.t 0), none⟩,
      ⟨(some 26), .bin .lss (.t 24) (.t 25), none⟩] (some [0, 2, 4, 5, 6, 26]) none)
    (.cond (.t 26) .skip
    (.exit 0)))
    (.seq (.block 1 (.seq (.reg none [
      ⟨(some 29), .mov (.t 6), none⟩,
      ⟨(some 30), .mov (.t 0), none⟩,
      ⟨(some 31), .bin .sub (.t 30) (.c (.int .i64 2)), none⟩,
      ⟨(some 32), .conv .u64 (.t 31), none⟩,
      ⟨(some 33), .bin .shl (.c (.int .u8 1)) (.t 32), none⟩,
      ⟨(some 34), .bin .sub (.t 33) (.c (.int .u8 1)), none⟩,
      ⟨(some 35), .mov (.t 0), none⟩,
      ⟨(some 36), .bin .sub (.t 35) (.c (.int .i64 2)), none⟩,
      ⟨(some 37), .mov (.t 6), none⟩,
      ⟨(some 38), .bin .add (.t 36) (.t 37), none⟩,
      ⟨(some 39), .conv .u64 (.t 38), none⟩,
      ⟨(some 40), .bin .shl (.c (.int .u8 1)) (.t 39), none⟩,
      ⟨(some 41), .bin .or (.t 34) (.t 40), none⟩,
      ⟨(some 42), .fa 8 (.t 4), none⟩,
      ⟨(some 43), .iaA 6 1 (.t 42) (.t 29), none⟩,
      ⟨none, .store 1 (.t 43) (.t 41), none⟩] (some [0, 2, 4, 5, 6]) none)
    (.reg none [
      ⟨(some 44), .mov (.t 6), none⟩,
      ⟨(some 45), .mov (.t 5), none⟩,
      ⟨(some 46), .mov (.t 6), none⟩,
      ⟨(some 47), .fa 8 (.t 4), none⟩,
      ⟨(some 48), .iaA 6 1 (.t 47) (.t 46), none⟩,
      ⟨(some 49), .load none (.t 48), none⟩,
      ⟨(some 50), .bin .andNot (.t 45) (.t 49), none⟩,
      ⟨(some 51), .fa 2 (.t 4), none⟩,
      ⟨(some 52), .iaA 6 1 (.t 51) (.t 44), none⟩,
      ⟨none, .store 1 (.t 52) (.t 50), none⟩] (some [0, 2, 4, 5, 6]) none)))
    (.reg none [
      ⟨(some 27), .mov (.t 6), none⟩,
      ⟨(some 28), .bin .add (.t 27) (.c (.int .i64 1)), none⟩,
      ⟨(some 6), .mov (.t 28), none⟩] (some [0, 2, 4, 5, 6]) none)))
def spec_ThreeOf_M : MC :=
  (.seq (.reg none [
      ⟨(some 2), .new (rl [(2, .int .i8 0), (12, .int .u8 0)]), none⟩,
      ⟨(some 3), .mov (.c (.int .i64 0)), none⟩] (some [0, 2]) none)
    (.seq (.seq (.reg none [
      ⟨(some 7), .mov (.t 0), none⟩,
      ⟨(some 8), .call 51 [(.t 7), (.c (.int .i64 3)), (.c (.int .i64 5))], none⟩,
      ⟨(some 9), .un .not (.t 8), none⟩] (some [0, 2, 9]) none)
    (.cond (.t 9) (.seq (.reg none [
      ⟨(some 10), .bld (rl [(2, .int .i8 0), (12, .int .u8 0)]) [], none⟩,
      ⟨none, .store 14 (.t 2) (.t 10), none⟩,
      ⟨(some 3), .mov (.c (.int .i64 2)), none⟩] (some [2, 3]) none)
    .ret)
    .skip))
    (.seq (.reg none [
      ⟨(some 11), .mov (.t 0), none⟩,
      ⟨(some 12), .conv .i8 (.t 11), none⟩,
      ⟨(some 13), .mov (.t 0), none⟩,
      ⟨(some 14), .bin .mul (.c (.int .i64 2)) (.t 13), none⟩,
      ⟨(some 15), .bin .sub (.t 14) (.c (.int .i64 2)), none⟩,
      ⟨(some 16), .conv .i8 (.t 15), none⟩,
      ⟨(some 17), .bld (rl [(2, .int .i8 0), (12, .int .u8 0)]) [(0, 1, (.t 12)), (1, 1, (.t 16))], none⟩,
      ⟨(some 4), .new (rl [(2, .int .i8 0), (12, .int .u8 0)]), none⟩,
      ⟨none, .store 14 (.t 4) (.t 17), none⟩] (some [0, 2, 4]) none)
    (.seq (.reg none [
      ⟨(some 18), .mov (.t 0), none⟩,
      ⟨(some 19), .bin .mul (.c (.int .i64 2)) (.t 18), none⟩,
      ⟨(some 20), .bin .sub (.t 19) (.c (.int .i64 2)), none⟩,
      ⟨(some 21), .conv .u64 (.t 20), none⟩,
      ⟨(some 22), .bin .shl (.c (.int .u8 1)) (.t 21), none⟩,
      ⟨(some 23), .bin .sub (.t 22) (.c (.int .u8 1)), none⟩,
      ⟨(some 5), .mov (.t 23), none⟩] (some [0, 2, 4, 5]) none)
    (.seq (.seq (.reg none [
      ⟨(some 6), .mov (.c (.int .i64 0)), none⟩] (some [0, 2, 4, 5, 6]) none)
    (.block 0 (.loop spec_ThreeOf_L0)))
    (.seq (.reg none [
      ⟨(some 53), .load (some 14) (.t 4), none⟩,
      ⟨none, .store 14 (.t 2) (.t 53), none⟩,
      ⟨(some 3), .mov (.c (.int .i64 0)), none⟩] (some [2, 3]) none)
    .ret))))))
def spec_ThreeOf_F : MF := ⟨54, [.c 2 (some 14), .t 3], spec_ThreeOf_M⟩
-- loop.example/g01312/impl.ThreeOf
def impl_ThreeOf_M : MC :=
  (.seq (.reg none [
      ⟨(some 1), .box (.t 0), none⟩,
      ⟨(some 2), .new (rl [(2, .int .i8 0), (12, .int .u8 0)]), none⟩,
      ⟨(some 3), .mov (.c (.int .i64 0)), none⟩] (some [1, 2]) none)
    (.seq (.seq (.reg none [
      ⟨(some 5), .load none (.t 1), none⟩,
      ⟨(some 6), .call 52 [(.t 5), (.c (.int .i64 3)), (.c (.int .i64 5))], none⟩,
      ⟨(some 7), .un .not (.t 6), none⟩] (some [1, 2, 7]) none)
    (.cond (.t 7) (.seq (.reg none [
      ⟨(some 8), .bld (rl [(2, .int .i8 0), (12, .int .u8 0)]) [], none⟩,
      ⟨none, .store 14 (.t 2) (.t 8), none⟩,
      ⟨(some 3), .mov (.c (.int .i64 2)), none⟩] (some [2, 3]) none)
    .ret)
    .skip))
    (.seq (.reg none [
      ⟨(some 9), .load none (.t 1), none⟩,
      ⟨(some 10), .bin .mul (.c (.int .i64 2)) (.t 9), none⟩,
      ⟨(some 11), .bin .sub (.t 10) (.c (.int .i64 2)), none⟩,
      ⟨(some 4), .new [.int .i64 0], none⟩,
      ⟨none, .store 1 (.t 4) (.t 11), none⟩] (some [1, 2, 4]) none)
    (.seq (.reg none [
      ⟨(some 12), .load none (.t 1), none⟩,
      ⟨(some 13), .load none (.t 4), none⟩,
      ⟨(some 14), .mkf 63 [] [(.t 1), (.t 4)], none⟩,
      ⟨(some 15), .call 53 [(.t 12), (.t 13), (.t 14)], none⟩,
      ⟨none, .store 14 (.t 2) (.t 15), none⟩,
      ⟨(some 3), .mov (.c (.int .i64 0)), none⟩] (some [2, 3]) none)
    .ret))))
def impl_ThreeOf_F : MF := ⟨16, [.c 2 (some 14), .t 3], impl_ThreeOf_M⟩
-- loop.example/g01312/laws.szLayerS
def laws_szLayerS_M : MC :=
  (.seq (.reg none [
      ⟨(some 4), .mov (.c (.int .i64 0)), none⟩] (some [0, 1]) none)
    (.seq (.reg none [
      ⟨(some 5), .mov (.t 1), none⟩,
      ⟨(some 6), .mov (.t 0), none⟩,
      ⟨(some 7), .lenS (.t 6), none⟩,
      ⟨(some 8), .bin .sub (.t 5) (.t 7), none⟩,
      ⟨(some 1), .mov (.t 8), none⟩] (some [1]) none)
    (.seq (.seq (.reg none [
      ⟨(some 9), .mov (.t 1), none⟩,
      ⟨(some 10), .bin .lss (.t 9) (.c (.int .i64 0)), none⟩] (some [1, 10]) none)
    (.cond (.t 10) (.seq (.reg none [
      ⟨(some 4), .mov (.c (.int .i64 (-1))), none⟩] (some [4]) none)
    .ret)
    .skip))
    (.seq (.reg none [
      ⟨(some 11), .mov (.t 1), none⟩,
      ⟨(some 4), .mov (.t 11), none⟩] (some [4]) none)
    .ret))))
def laws_szLayerS_F : MF := ⟨12, [.t 4], laws_szLayerS_M⟩
-- loop.example/g01312/spec.SameLayers
def spec_SameLayers_L0 : MC :=
  (.seq (.seq (.reg none [
      ⟨(some 11), .mov (.t 5), none⟩,
      ⟨(some 12), .mov (.t 0), none⟩,
      ⟨(some 13), .lenS (.t 12), none⟩,
      ⟨(some 14), .bin .lss (.t 11) (.t 13), none⟩] (some [0, 1, 5, 14]) none)
    (.cond (.t 14) .skip
    (.exit 0)))
    (.seq (.block 1 (.seq (.reg (some []) [
      ⟨(some 17), .mov (.t 0), none⟩,
      ⟨(some 18), .mov (.t 5), none⟩,
      ⟨(some 19), .iaS 65 (.t 17) (.t 18), none⟩,
      ⟨(some 20), .load (some 65) (.t 19), none⟩,
      ⟨(some 21), .mov (.t 1), none⟩,
      ⟨(some 22), .mov (.t 5), none⟩,
      ⟨(some 23), .iaS 65 (.t 21) (.t 22), none⟩,
      ⟨(some 24), .load (some 65) (.t 23), none⟩,
      ⟨(some 25), .bin .neq (.t 20) (.t 24), none⟩] (some [0, 1, 5, 25]) none)
    (.cond (.t 25) (.seq (.reg none [
      ⟨(some 4), .mov (.c (.bool false)), none⟩] (some [4]) none)
    .ret)
    .skip)))
    (.reg none [
      ⟨(some 15), .mov (.t 5), none⟩,
      ⟨(some 16), .bin .add (.t 15) (.c (.int .i64 1)), none⟩,
      ⟨(some 5), .mov (.t 16), none⟩] (some [0, 1, 5]) none)))
def spec_SameLayers_M : MC :=
  (.seq (.reg none [
      ⟨(some 4), .mov (.c (.bool false)), none⟩] (some [0, 1]) none)
    (.seq (.seq (.reg none [
      ⟨(some 6), .mov (.t 0), none⟩,
      ⟨(some 7), .lenS (.t 6), none⟩,
      ⟨(some 8), .mov (.t 1), none⟩,
      ⟨(some 9), .lenS (.t 8), none⟩,
      ⟨(some 10), .bin .neq (.t 7) (.t 9), none⟩] (some [0, 1, 10]) none)
    (.cond (.t 10) (.seq (.reg none [
      ⟨(some 4), .mov (.c (.bool false)), none⟩] (some [4]) none)
    .ret)
    .skip))
    (.seq (.seq (.reg none [
      ⟨(some 5), .mov (.c (.int .i64 0)), none⟩] (some [0, 1, 5]) none)
    (.block 0 (.loop spec_SameLayers_L0)))
    (.seq (.reg none [
      ⟨(some 4), .mov (.c (.bool true)), none⟩] (some [4]) none)
    .ret))))
def spec_SameLayers_F : MF := ⟨26, [.t 4], spec_SameLayers_M⟩
-- loop.example/g01312/laws.toLayerS
def laws_toLayerS_L0 : MC :=
  (.seq (.seq (.reg none [
      ⟨(some 8), .mov (.t 4), none⟩,
      ⟨(some 9), .mov (.t 0), none⟩,
      ⟨(some 10), .lenS (.t 9), none⟩,
      ⟨(some 11), .bin .lss (.t 8) (.t 10), none⟩] (some [0, 3, 4, 11]) none)
    (.cond (.t 11) .skip
    (.exit 0)))
    (.seq (.block 1 (.reg none [
      ⟨(some 14), .mov (.t 3), none⟩,
      ⟨(some 15), .mov (.t 4), none⟩,
      ⟨(some 16), .mov (.t 0), none⟩,
      ⟨(some 17), .mov (.t 4), none⟩,
      ⟨(some 18), .iaS 65 (.t 16) (.t 17), none⟩,
      ⟨(some 19), .load (some 65) (.t 18), none⟩,
      ⟨(some 20), .call 36 [(.t 19)], none⟩,
      ⟨(some 21), .iaS 65 (.t 14) (.t 15), none⟩,
      ⟨none, .store 65 (.t 21) (.t 20), none⟩] (some [0, 3, 4]) none))
    (.reg none [
      ⟨(some 12), .mov (.t 4), none⟩,
      ⟨(some 13), .bin .add (.t 12) (.c (.int .i64 1)), none⟩,
      ⟨(some 4), .mov (.t 13), none⟩] (some [0, 3, 4]) none)))
def laws_toLayerS_M : MC :=
  (.seq (.reg none [
      ⟨(some 2), .mov (.c (.nilsl)), none⟩] (some [0]) none)
    (.seq (.reg none [
      ⟨(some 5), .mov (.t 0), none⟩,
      ⟨(some 6), .lenS (.t 5), none⟩,
      ⟨(some 7), .mks (rl [(1, .int .i8 0), (64, .int .u8 0)]) 65 (.t 6) (.t 6), none⟩,
      ⟨(some 3), .mov (.t 7), none⟩] (some [0, 3]) none)
    (.seq (.seq (.reg none [
      ⟨(some 4), .mov (.c (.int .i64 0)), none⟩] (some [0, 3, 4]) none)
    (.block 0 (.loop laws_toLayerS_L0)))
    (.seq (.reg none [
      ⟨(some 22), .mov (.t 3), none⟩,
      ⟨(some 2), .mov (.t 22), none⟩] (some [2]) none)
    .ret))))
def laws_toLayerS_F : MF := ⟨23, [.t 2], laws_toLayerS_M⟩
-- loop.example/g01312/impl.SameLayers
def impl_SameLayers_M : MC :=
  (.seq (.reg none [
      ⟨(some 4), .mov (.c (.bool false)), none⟩] (some [0, 1]) none)
    (.seq (.reg none [
      ⟨(some 5), .mov (.t 0), none⟩,
      ⟨(some 6), .mov (.t 1), none⟩,
      ⟨(some 7), .call 64 [(.t 5), (.t 6)], none⟩,
      ⟨(some 4), .mov (.t 7), none⟩] (some [4]) none)
    .ret))
def impl_SameLayers_F : MF := ⟨8, [.t 4], impl_SameLayers_M⟩
-- loop.example/g01312/laws.eqLayerS
def laws_eqLayerS_L0 : MC :=
  (.seq (.seq (.reg none [
      ⟨(some 11), .mov (.t 5), none⟩,
      ⟨(some 12), .mov (.t 0), none⟩,
      ⟨(some 13), .lenS (.t 12), none⟩,
      ⟨(some 14), .bin .lss (.t 11) (.t 13), none⟩] (some [0, 1, 5, 14]) none)
    (.cond (.t 14) .skip
    (.exit 0)))
    (.seq (.block 1 (.seq (.reg (some []) [
      ⟨(some 17), .mov (.t 0), none⟩,
      ⟨(some 18), .mov (.t 5), none⟩,
      ⟨(some 19), .iaS 65 (.t 17) (.t 18), none⟩,
      ⟨(some 20), .load (some 65) (.t 19), none⟩,
      ⟨(some 21), .mov (.t 1), none⟩,
      ⟨(some 22), .mov (.t 5), none⟩,
      ⟨(some 23), .iaS 65 (.t 21) (.t 22), none⟩,
      ⟨(some 24), .load (some 65) (.t 23), none⟩,
      ⟨(some 25), .call 22 [(.t 20), (.t 24)], none⟩,
      ⟨(some 26), .un .not (.t 25), none⟩] (some [0, 1, 5, 26]) none)
    (.cond (.t 26) (.seq (.reg none [
      ⟨(some 4), .mov (.c (.bool false)), none⟩] (some [4]) none)
    .ret)
    .skip)))
    (.reg none [
      ⟨(some 15), .mov (.t 5), none⟩,
      ⟨(some 16), .bin .add (.t 15) (.c (.int .i64 1)), none⟩,
      ⟨(some 5), .mov (.t 16), none⟩] (some [0, 1, 5]) none)))
def laws_eqLayerS_M : MC :=
  (.seq (.reg none [
      ⟨(some 4), .mov (.c (.bool false)), none⟩] (some [0, 1]) none)
    (.seq (.seq (.reg none [
      ⟨(some 6), .mov (.t 0), none⟩,
      ⟨(some 7), .lenS (.t 6), none⟩,
      ⟨(some 8), .mov (.t 1), none⟩,
      ⟨(some 9), .lenS (.t 8), none⟩,
      ⟨(some 10), .bin .neq (.t 7) (.t 9), none⟩] (some [0, 1, 10]) none)
    (.cond (.t 10) (.seq (.reg none [
      ⟨(some 4), .mov (.c (.bool false)), none⟩] (some [4]) none)
    .ret)
    .skip))
    (.seq (.seq (.reg none [
      ⟨(some 5), .mov (.c (.int .i64 0)), none⟩] (some [0, 1, 5]) none)
    (.block 0 (.loop laws_eqLayerS_L0)))
    (.seq (.reg none [
      ⟨(some 4), .mov (.c (.bool true)), none⟩] (some [4]) none)
    .ret))))
def laws_eqLayerS_F : MF := ⟨27, [.t 4], laws_eqLayerS_M⟩
-- loop.example/g01312/spec.NextOrder
def spec_NextOrder_M : MC :=
  (.seq (.reg none [
      ⟨(some 4), .mov (.c (.nilsl)), none⟩,
      ⟨(some 5), .mov (.c (.int .u32 0)), none⟩,
      ⟨(some 6), .mov (.c (.int .i64 0)), none⟩] (some [0, 1]) none)
    (.seq (.seq (.reg none [
      ⟨(some 9), .mov (.t 1), none⟩,
      ⟨(some 10), .call 57 [(.t 9)], none⟩,
      ⟨(some 11), .un .not (.t 10), none⟩] (some [0, 1, 11]) none)
    (.cond (.t 11) (.seq (.reg none [
      ⟨(some 12), .bldS [.int .i8 0] 0 [], none⟩,
      ⟨(some 4), .mov (.t 12), none⟩,
      ⟨(some 5), .mov (.c (.int .u32 0)), none⟩,
      ⟨(some 6), .mov (.c (.int .i64 2)), none⟩] (some [4, 5, 6]) none)
    .ret)
    .skip))
    (.seq (.reg none [
      ⟨(some 14), .mov (.t 0), none⟩,
      ⟨(some 15), .mov (.t 1), none⟩,
      ⟨(some 16), .call 65 [(.t 14), (.t 15)], none⟩,
      ⟨(some 13), .mov (.t 16), none⟩,
      ⟨(some 17), .ext (.t 13) 0, none⟩,
      ⟨(some 18), .ext (.t 13) 1, none⟩,
      ⟨(some 7), .mov (.t 17), none⟩,
      ⟨(some 8), .mov (.t 18), none⟩] (some [7, 8]) none)
    (.seq (.reg none [
      ⟨(some 19), .mov (.t 7), none⟩,
      ⟨(some 20), .mov (.t 8), none⟩,
      ⟨(some 4), .mov (.t 19), none⟩,
      ⟨(some 5), .mov (.t 20), none⟩,
      ⟨(some 6), .mov (.c (.int .i64 0)), none⟩] (some [4, 5, 6]) none)
    .ret))))
def spec_NextOrder_F : MF := ⟨21, [.t 4, .t 5, .t 6], spec_NextOrder_M⟩
-- loop.example/g01312/impl.NextOrder
def impl_NextOrder_M : MC :=
  (.seq (.reg none [
      ⟨(some 2), .box (.t 0), none⟩,
      ⟨(some 4), .mov (.c (.nilsl)), none⟩,
      ⟨(some 5), .mov (.c (.int .u32 0)), none⟩,
      ⟨(some 6), .mov (.c (.int .i64 0)), none⟩] (some [1, 2]) none)
    (.seq (.seq (.reg none [
      ⟨(some 8), .mov (.t 1), none⟩,
      ⟨(some 9), .call 58 [(.t 8)], none⟩,
      ⟨(some 10), .un .not (.t 9), none⟩] (some [1, 2, 10]) none)
    (.cond (.t 10) (.seq (.reg none [
      ⟨(some 4), .mov (.c (.nilsl)), none⟩,
      ⟨(some 5), .mov (.c (.int .u32 0)), none⟩,
      ⟨(some 6), .mov (.c (.int .i64 2)), none⟩] (some [4, 5, 6]) none)
    .ret)
    .skip))
    (.seq (.reg none [
      ⟨(some 11), .mov (.t 1), none⟩,
      ⟨(some 12), .conv .i8 (.t 11), none⟩,
      ⟨(some 13), .call 66 [(.t 2), (.t 12)], none⟩,
      ⟨(some 7), .mov (.t 13), none⟩] (some [2, 7]) none)
    (.seq (.reg (some []) [
      ⟨(some 14), .mov (.t 7), none⟩,
      ⟨(some 15), .load none (.t 2), none⟩,
      ⟨(some 4), .mov (.t 14), none⟩,
      ⟨(some 5), .mov (.t 15), none⟩,
      ⟨(some 6), .mov (.c (.int .i64 0)), none⟩] (some [4, 5, 6]) none)
    .ret))))
def impl_NextOrder_F : MF := ⟨16, [.t 4, .t 5, .t 6], impl_NextOrder_M⟩
-- loop.example/g01312/laws.eqInt8S
def laws_eqInt8S_L0 : MC :=
  (.seq (.seq (.reg none [
      ⟨(some 11), .mov (.t 5), none⟩,
      ⟨(some 12), .mov (.t 0), none⟩,
      ⟨(some 13), .lenS (.t 12), none⟩,
      ⟨(some 14), .bin .lss (.t 11) (.t 13), none⟩] (some [0, 1, 5, 14]) none)
    (.cond (.t 14) .skip
    (.exit 0)))
    (.seq (.block 1 (.seq (.reg (some []) [
      ⟨(some 17), .mov (.t 0), none⟩,
      ⟨(some 18), .mov (.t 5), none⟩,
      ⟨(some 19), .iaS 1 (.t 17) (.t 18), none⟩,
      ⟨(some 20), .load none (.t 19), none⟩,
      ⟨(some 21), .mov (.t 1), none⟩,
      ⟨(some 22), .mov (.t 5), none⟩,
      ⟨(some 23), .iaS 1 (.t 21) (.t 22), none⟩,
      ⟨(some 24), .load none (.t 23), none⟩,
      ⟨(some 25), .bin .neq (.t 20) (.t 24), none⟩] (some [0, 1, 5, 25]) none)
    (.cond (.t 25) (.seq (.reg none [
      ⟨(some 4), .mov (.c (.bool false)), none⟩] (some [4]) none)
    .ret)
    .skip)))
    (.reg none [
      ⟨(some 15), .mov (.t 5), none⟩,
      ⟨(some 16), .bin .add (.t 15) (.c (.int .i64 1)), none⟩,
      ⟨(some 5), .mov (.t 16), none⟩] (some [0, 1, 5]) none)))
def laws_eqInt8S_M : MC :=
  (.seq (.reg none [
      ⟨(some 4), .mov (.c (.bool false)), none⟩] (some [0, 1]) none)
    (.seq (.seq (.reg none [
      ⟨(some 6), .mov (.t 0), none⟩,
      ⟨(some 7), .lenS (.t 6), none⟩,
      ⟨(some 8), .mov (.t 1), none⟩,
      ⟨(some 9), .lenS (.t 8), none⟩,
      ⟨(some 10), .bin .neq (.t 7) (.t 9), none⟩] (some [0, 1, 10]) none)
    (.cond (.t 10) (.seq (.reg none [
      ⟨(some 4), .mov (.c (.bool false)), none⟩] (some [4]) none)
    .ret)
    .skip))
    (.seq (.seq (.reg none [
      ⟨(some 5), .mov (.c (.int .i64 0)), none⟩] (some [0, 1, 5]) none)
    (.block 0 (.loop laws_eqInt8S_L0)))
    (.seq (.reg none [
      ⟨(some 4), .mov (.c (.bool true)), none⟩] (some [4]) none)
    .ret))))
def laws_eqInt8S_F : MF := ⟨26, [.t 4], laws_eqInt8S_M⟩
-- loop.example/g01312/laws.markInt8S
def laws_markInt8S_L0 : MC :=
  (.seq (.seq (.reg none [
      ⟨(some 6), .mov (.t 5), none⟩,
      ⟨(some 7), .mov (.t 0), none⟩,
      ⟨(some 8), .lenS (.t 7), none⟩,
      ⟨(some 9), .bin .lss (.t 6) (.t 8), none⟩] (some [0, 1, 5, 9]) none)
    (.cond (.t 9) .skip
    (.exit 0)))
    (.seq (.block 1 (.seq (.reg none [
      ⟨(some 12), .mov (.t 0), none⟩,
      ⟨(some 13), .mov (.t 5), none⟩,
      ⟨(some 14), .mov (.t 1), none⟩,
      ⟨(some 15), .conv .i8 (.t 14), none⟩,
      ⟨(some 16), .iaS 1 (.t 12) (.t 13), none⟩,
      ⟨none, .store 1 (.t 16) (.t 15), none⟩] (some [0, 1, 5]) none)
    (.reg none [
      ⟨(some 17), .mov (.t 1), none⟩,
      ⟨(some 18), .bin .add (.t 17) (.c (.int .i64 1)), none⟩,
      ⟨(some 1), .mov (.t 18), none⟩] (some [0, 1, 5]) none)))
    (.reg none [
      ⟨(some 10), .mov (.t 5), none⟩,
      ⟨(some 11), .bin .add (.t 10) (.c (.int .i64 1)), none⟩,
      ⟨(some 5), .mov (.t 11), none⟩] (some [0, 1, 5]) none)))
def laws_markInt8S_M : MC :=
  (.seq (.reg none [
      ⟨(some 4), .mov (.c (.int .i64 0)), none⟩] (some [0, 1]) none)
    (.seq (.seq (.reg none [
      ⟨(some 5), .mov (.c (.int .i64 0)), none⟩] (some [0, 1, 5]) none)
    (.block 0 (.loop laws_markInt8S_L0)))
    (.seq (.reg none [
      ⟨(some 19), .mov (.t 1), none⟩,
      ⟨(some 4), .mov (.t 19), none⟩] (some [4]) none)
    .ret)))
def laws_markInt8S_F : MF := ⟨20, [.t 4], laws_markInt8S_M⟩
-- loop.example/g01312/laws.heldInt8S
def laws_heldInt8S_L0 : MC :=
  (.seq (.seq (.reg none [
      ⟨(some 6), .mov (.t 5), none⟩,
      ⟨(some 7), .mov (.t 0), none⟩,
      ⟨(some 8), .lenS (.t 7), none⟩,
      ⟨(some 9), .bin .lss (.t 6) (.t 8), none⟩] (some [0, 1, 5, 9]) none)
    (.cond (.t 9) .skip
    (.exit 0)))
    (.seq (.block 1 (.seq (.seq (.reg none [
      ⟨(some 12), .mov (.t 0), none⟩,
      ⟨(some 13), .mov (.t 5), none⟩,
      ⟨(some 14), .iaS 1 (.t 12) (.t 13), none⟩,
      ⟨(some 15), .load none (.t 14), none⟩,
      ⟨(some 16), .mov (.t 1), none⟩,
      ⟨(some 17), .conv .i8 (.t 16), none⟩,
      ⟨(some 18), .bin .neq (.t 15) (.t 17), none⟩] (some [0, 1, 5, 18]) none)
    (.cond (.t 18) (.seq (.reg none [
      ⟨(some 4), .mov (.c (.int .i64 (-1))), none⟩] (some [4]) none)
    .ret)
    .skip))
    (.reg none [
      ⟨(some 19), .mov (.t 1), none⟩,
      ⟨(some 20), .bin .add (.t 19) (.c (.int .i64 1)), none⟩,
      ⟨(some 1), .mov (.t 20), none⟩] (some [0, 1, 5]) none)))
    (.reg none [
      ⟨(some 10), .mov (.t 5), none⟩,
      ⟨(some 11), .bin .add (.t 10) (.c (.int .i64 1)), none⟩,
      ⟨(some 5), .mov (.t 11), none⟩] (some [0, 1, 5]) none)))
def laws_heldInt8S_M : MC :=
  (.seq (.reg none [
      ⟨(some 4), .mov (.c (.int .i64 0)), none⟩] (some [0, 1]) none)
    (.seq (.seq (.reg none [
      ⟨(some 5), .mov (.c (.int .i64 0)), none⟩] (some [0, 1, 5]) none)
    (.block 0 (.loop laws_heldInt8S_L0)))
    (.seq (.reg none [
      ⟨(some 21), .mov (.t 1), none⟩,
      ⟨(some 4), .mov (.t 21), none⟩] (some [4]) none)
    .ret)))
def laws_heldInt8S_F : MF := ⟨22, [.t 4], laws_heldInt8S_M⟩
-- loop.example/g01312/spec.CountsOf
def spec_CountsOf_L0 : MC :=
  (.seq (.seq (.reg none [
      ⟨(some 10), .mov (.t 5), none⟩,
      ⟨(some 11), .bin .lss (.t 10) (.c (.int .i64 64)), none⟩] (some [1, 2, 4, 5, 11]) none)
    (.cond (.t 11) .skip
    (.exit 0)))
    (.seq (.block 1 (.reg none [
      ⟨(some 14), .mov (.t 5), none⟩,
      ⟨(some 15), .mov (.t 5), none⟩,
      ⟨(some 16), .fa 1 (.t 1), none⟩,
      ⟨(some 17), .iaA 64 1 (.t 16) (.t 15), none⟩,
      ⟨(some 18), .load none (.t 17), none⟩,
      ⟨(some 19), .conv .u64 (.t 18), none⟩,
      ⟨(some 20), .call 68 [(.t 19)], none⟩,
      ⟨(some 21), .conv .i8 (.t 20), none⟩,
      ⟨(some 22), .iaA 64 1 (.t 4) (.t 14), none⟩,
      ⟨none, .store 1 (.t 22) (.t 21), none⟩] (some [1, 2, 4, 5]) none))
    (.reg none [
      ⟨(some 12), .mov (.t 5), none⟩,
      ⟨(some 13), .bin .add (.t 12) (.c (.int .i64 1)), none⟩,
      ⟨(some 5), .mov (.t 13), none⟩] (some [1, 2, 4, 5]) none)))
def spec_CountsOf_M : MC :=
  (.seq (.reg none [
      ⟨(some 1), .box (.t 0), none⟩,
      ⟨(some 2), .new (rl [(64, .int .i8 0)]), none⟩,
      ⟨(some 3), .mov (.c (.int .i64 0)), none⟩] (some [1, 2]) none)
    (.seq (.reg none [
      ⟨(some 6), .bld (rl [(64, .int .i8 0)]) [], none⟩,
      ⟨(some 4), .new (rl [(64, .int .i8 0)]), none⟩,
      ⟨none, .store 64 (.t 4) (.t 6), none⟩] (some [1, 2, 4]) none)
    (.seq (.seq (.reg none [
      ⟨(some 7), .call 67 [(.t 1)], none⟩,
      ⟨(some 8), .un .not (.t 7), none⟩] (some [1, 2, 4, 8]) none)
    (.cond (.t 8) (.seq (.reg none [
      ⟨(some 9), .load (some 64) (.t 4), none⟩,
      ⟨none, .store 64 (.t 2) (.t 9), none⟩,
      ⟨(some 3), .mov (.c (.int .i64 1)), none⟩] (some [2, 3]) none)
    .ret)
    .skip))
    (.seq (.seq (.reg none [
      ⟨(some 5), .mov (.c (.int .i64 0)), none⟩] (some [1, 2, 4, 5]) none)
    (.block 0 (.loop spec_CountsOf_L0)))
    (.seq (.reg none [
      ⟨(some 23), .load (some 64) (.t 4), none⟩,
      ⟨none, .store 64 (.t 2) (.t 23), none⟩,
      ⟨(some 3), .mov (.c (.int .i64 0)), none⟩] (some [2, 3]) none)
    .ret)))))
def spec_CountsOf_F : MF := ⟨24, [.c 2 (some 64), .t 3], spec_CountsOf_M⟩
-- loop.example/g01312/laws.toLayer
def laws_toLayer_M : MC :=
  (.seq (.reg none [
      ⟨(some 1), .box (.t 0), none⟩,
      ⟨(some 2), .new (rl [(1, .int .i8 0), (64, .int .u8 0)]), none⟩] (some [1, 2]) none)
    (.seq (.reg none [
      ⟨(some 3), .new (rl [(1, .int .i8 0), (64, .int .u8 0)]), none⟩] (some [1, 2, 3]) none)
    (.seq (.reg none [
      ⟨(some 4), .fa 0 (.t 1), none⟩,
      ⟨(some 5), .load none (.t 4), none⟩,
      ⟨(some 6), .fa 0 (.t 3), none⟩,
      ⟨none, .store 1 (.t 6) (.t 5), none⟩] (some [1, 2, 3]) none)
    (.seq (.reg none [
      ⟨(some 7), .fa 1 (.t 1), none⟩,
      ⟨(some 8), .load (some 64) (.t 7), none⟩,
      ⟨(some 9), .call 69 [(.t 8)], none⟩,
      ⟨(some 10), .fa 1 (.t 3), none⟩,
      ⟨none, .store 64 (.t 10) (.t 9), none⟩] (some [2, 3]) none)
    (.seq (.reg none [
      ⟨(some 11), .load (some 65) (.t 3), none⟩,
      ⟨none, .store 65 (.t 2) (.t 11), none⟩] (some [2]) none)
    .ret)))))
def laws_toLayer_F : MF := ⟨12, [.c 2 (some 65)], laws_toLayer_M⟩
-- loop.example/g01312/impl.CountsOf
def impl_CountsOf_L0 : MC :=
  (.seq (.reg none [
      ⟨(some 12), .bin .lss (.t 11) (.c (.int .i64 64)), none⟩] (some [1, 2, 4, 11, 12]) none)
    (.seq (.cond (.t 12) .skip
    (.exit 0))
    (.seq (.block 1 (.seq (.reg none [
      ⟨(some 13), .mov (.t 11), none⟩,
      ⟨(some 5), .mov (.t 13), none⟩] (some [1, 2, 4, 5, 11]) none)
    (.reg none [
      ⟨(some 14), .mov (.t 5), none⟩,
      ⟨(some 15), .load (some 65) (.t 1), none⟩,
      ⟨(some 16), .mov (.t 5), none⟩,
      ⟨(some 17), .call 71 [(.t 15), (.t 16)], none⟩,
      ⟨(some 18), .conv .i8 (.t 17), none⟩,
      ⟨(some 19), .iaA 64 1 (.t 4) (.t 14), none⟩,
      ⟨none, .store 1 (.t 19) (.t 18), none⟩] (some [1, 2, 4, 11]) none)))
    (.reg none [
      ⟨(some 20), .bin .add (.t 11) (.c (.int .i64 1)), none⟩,
      ⟨(some 11), .mov (.t 20), none⟩] (some [1, 2, 4, 11]) none))))
def impl_CountsOf_M : MC :=
  (.seq (.reg none [
      ⟨(some 1), .box (.t 0), none⟩,
      ⟨(some 2), .new (rl [(64, .int .i8 0)]), none⟩,
      ⟨(some 3), .mov (.c (.int .i64 0)), none⟩] (some [1, 2]) none)
    (.seq (.reg none [
      ⟨(some 6), .bld (rl [(64, .int .i8 0)]) [], none⟩,
      ⟨(some 4), .new (rl [(64, .int .i8 0)]), none⟩,
      ⟨none, .store 64 (.t 4) (.t 6), none⟩] (some [1, 2, 4]) none)
    (.seq (.seq (.reg none [
      ⟨(some 7), .load (some 65) (.t 1), none⟩,
      ⟨(some 8), .call 70 [(.t 7)], none⟩,
      ⟨(some 9), .un .not (.t 8), none⟩] (some [1, 2, 4, 9]) none)
    (.cond (.t 9) (.seq (.reg none [
      ⟨(some 10), .load (some 64) (.t 4), none⟩,
      ⟨none, .store 64 (.t 2) (.t 10), none⟩,
      ⟨(some 3), .mov (.c (.int .i64 1)), none⟩] (some [2, 3]) none)
    .ret)
    .skip))
    (.seq (.seq (.reg none [
      ⟨(some 11), .mov (.c (.int .i64 0)), none⟩] (some [1, 2, 4, 11]) none)
    (.block 0 (.loop impl_CountsOf_L0)))
    (.seq (.reg none [
      ⟨(some 21), .load (some 64) (.t 4), none⟩,
      ⟨none, .store 64 (.t 2) (.t 21), none⟩,
      ⟨(some 3), .mov (.c (.int .i64 0)), none⟩] (some [2, 3]) none)
    .ret)))))
def impl_CountsOf_F : MF := ⟨22, [.c 2 (some 64), .t 3], impl_CountsOf_M⟩
-- loop.example/g01312/laws.eqInt8A64
def laws_eqInt8A64_L0 : MC :=
  (.seq (.seq (.reg none [
      ⟨(some 6), .mov (.t 5), none⟩,
      ⟨(some 7), .bin .lss (.t 6) (.c (.int .i64 64)), none⟩] (some [2, 3, 5, 7]) none)
    (.cond (.t 7) .skip
    (.exit 0)))
    (.seq (.block 1 (.seq (.reg (some []) [
      ⟨(some 10), .mov (.t 5), none⟩,
      ⟨(some 11), .iaA 64 1 (.t 2) (.t 10), none⟩,
      ⟨(some 12), .load none (.t 11), none⟩,
      ⟨(some 13), .mov (.t 5), none⟩,
      ⟨(some 14), .iaA 64 1 (.t 3) (.t 13), none⟩,
      ⟨(some 15), .load none (.t 14), none⟩,
      ⟨(some 16), .bin .neq (.t 12) (.t 15), none⟩] (some [2, 3, 5, 16]) none)
    (.cond (.t 16) (.seq (.reg none [
      ⟨(some 4), .mov (.c (.bool false)), none⟩] (some [4]) none)
    .ret)
    .skip)))
    (.reg none [
      ⟨(some 8), .mov (.t 5), none⟩,
      ⟨(some 9), .bin .add (.t 8) (.c (.int .i64 1)), none⟩,
      ⟨(some 5), .mov (.t 9), none⟩] (some [2, 3, 5]) none)))
def laws_eqInt8A64_M : MC :=
  (.seq (.reg none [
      ⟨(some 2), .box (.t 0), none⟩,
      ⟨(some 3), .box (.t 1), none⟩,
      ⟨(some 4), .mov (.c (.bool false)), none⟩] (some [2, 3]) none)
    (.seq (.seq (.reg none [
      ⟨(some 5), .mov (.c (.int .i64 0)), none⟩] (some [2, 3, 5]) none)
    (.block 0 (.loop laws_eqInt8A64_L0)))
    (.seq (.reg none [
      ⟨(some 4), .mov (.c (.bool true)), none⟩] (some [4]) none)
    .ret)))
def laws_eqInt8A64_F : MF := ⟨17, [.t 4], laws_eqInt8A64_M⟩
-- loop.example/g01312/spec.HistogramOf
def spec_HistogramOf_L0 : MC :=
  (.seq (.seq (.reg none [
      ⟨(some 10), .mov (.t 5), none⟩,
      ⟨(some 11), .bin .lss (.t 10) (.c (.int .i64 64)), none⟩] (some [1, 2, 4, 5, 11]) none)
    (.cond (.t 11) .skip
    (.exit 0)))
    (.seq (.block 1 (.reg none [
      ⟨(some 14), .mov (.t 5), none⟩,
      ⟨(some 15), .fa 1 (.t 1), none⟩,
      ⟨(some 16), .iaA 64 1 (.t 15) (.t 14), none⟩,
      ⟨(some 17), .load none (.t 16), none⟩,
      ⟨(some 18), .conv .u64 (.t 17), none⟩,
      ⟨(some 19), .call 68 [(.t 18)], none⟩,
      ⟨(some 20), .iaA 9 1 (.t 4) (.t 19), none⟩,
      ⟨(some 21), .load none (.t 20), none⟩,
      ⟨(some 22), .bin .add (.t 21) (.c (.int .i64 1)), none⟩,
      ⟨(some 23), .iaA 9 1 (.t 4) (.t 19), none⟩,
      ⟨none, .store 1 (.t 23) (.t 22), none⟩] (some [1, 2, 4, 5]) none))
    (.reg none [
      ⟨(some 12), .mov (.t 5), none⟩,
      ⟨(some 13), .bin .add (.t 12) (.c (.int .i64 1)), none⟩,
      ⟨(some 5), .mov (.t 13), none⟩] (some [1, 2, 4, 5]) none)))
def spec_HistogramOf_M : MC :=
  (.seq (.reg none [
      ⟨(some 1), .box (.t 0), none⟩,
      ⟨(some 2), .new (rl [(9, .int .i64 0)]), none⟩,
      ⟨(some 3), .mov (.c (.int .i64 0)), none⟩] (some [1, 2]) none)
    (.seq (.reg none [
      ⟨(some 6), .bld (rl [(9, .int .i64 0)]) [], none⟩,
      ⟨(some 4), .new (rl [(9, .int .i64 0)]), none⟩,
      ⟨none, .store 9 (.t 4) (.t 6), none⟩] (some [1, 2, 4]) none)
    (.seq (.seq (.reg none [
      ⟨(some 7), .call 67 [(.t 1)], none⟩,
      ⟨(some 8), .un .not (.t 7), none⟩] (some [1, 2, 4, 8]) none)
    (.cond (.t 8) (.seq (.reg none [
      ⟨(some 9), .load (some 9) (.t 4), none⟩,
      ⟨none, .store 9 (.t 2) (.t 9), none⟩,
      ⟨(some 3), .mov (.c (.int .i64 1)), none⟩] (some [2, 3]) none)
    .ret)
    .skip))
    (.seq (.seq (.reg none [
      ⟨(some 5), .mov (.c (.int .i64 0)), none⟩] (some [1, 2, 4, 5]) none)
    (.block 0 (.loop spec_HistogramOf_L0)))
    (.seq (.reg none [
      ⟨(some 24), .load (some 9) (.t 4), none⟩,
      ⟨none, .store 9 (.t 2) (.t 24), none⟩,
      ⟨(some 3), .mov (.c (.int .i64 0)), none⟩] (some [2, 3]) none)
    .ret)))))
def spec_HistogramOf_F : MF := ⟨25, [.c 2 (some 9), .t 3], spec_HistogramOf_M⟩
-- loop.example/g01312/impl.HistogramOf
def impl_HistogramOf_L0 : MC :=
  (.seq (.reg none [
      ⟨(some 12), .bin .lss (.t 11) (.c (.int .i64 64)), none⟩] (some [1, 2, 4, 11, 12]) none)
    (.seq (.cond (.t 12) .skip
    (.exit 0))
    (.seq (.block 1 (.seq (.reg none [
      ⟨(some 13), .mov (.t 11), none⟩,
      ⟨(some 5), .mov (.t 13), none⟩] (some [1, 2, 4, 5, 11]) none)
    (.reg none [
      ⟨(some 14), .load (some 65) (.t 1), none⟩,
      ⟨(some 15), .mov (.t 5), none⟩,
      ⟨(some 16), .call 71 [(.t 14), (.t 15)], none⟩,
      ⟨(some 17), .iaA 9 1 (.t 4) (.t 16), none⟩,
      ⟨(some 18), .load none (.t 17), none⟩,
      ⟨(some 19), .bin .add (.t 18) (.c (.int .i64 1)), none⟩,
      ⟨(some 20), .iaA 9 1 (.t 4) (.t 16), none⟩,
      ⟨none, .store 1 (.t 20) (.t 19), none⟩] (some [1, 2, 4, 11]) none)))
    (.reg none [
      ⟨(some 21), .bin .add (.t 11) (.c (.int .i64 1)), none⟩,
      ⟨(some 11), .mov (.t 21), none⟩] (some [1, 2, 4, 11]) none))))
def impl_HistogramOf_M : MC :=
  (.seq (.reg none [
      ⟨(some 1), .box (.t 0), none⟩,
      ⟨(some 2), .new (rl [(9, .int .i64 0)]), none⟩,
      ⟨(some 3), .mov (.c (.int .i64 0)), none⟩] (some [1, 2]) none)
    (.seq (.reg none [
      ⟨(some 6), .bld (rl [(9, .int .i64 0)]) [], none⟩,
      ⟨(some 4), .new (rl [(9, .int .i64 0)]), none⟩,
      ⟨none, .store 9 (.t 4) (.t 6), none⟩] (some [1, 2, 4]) none)
    (.seq (.seq (.reg none [
      ⟨(some 7), .load (some 65) (.t 1), none⟩,
      ⟨(some 8), .call 70 [(.t 7)], none⟩,
      ⟨(some 9), .un .not (.t 8), none⟩] (some [1, 2, 4, 9]) none)
    (.cond (.t 9) (.seq (.reg none [
      ⟨(some 10), .load (some 9) (.t 4), none⟩,
      ⟨none, .store 9 (.t 2) (.t 10), none⟩,
      ⟨(some 3), .mov (.c (.int .i64 1)), none⟩] (some [2, 3]) none)
    .ret)
    .skip))
    (.seq (.seq (.reg none [
      ⟨(some 11), .mov (.c (.int .i64 0)), none⟩] (some [1, 2, 4, 11]) none)
    (.block 0 (.loop impl_HistogramOf_L0)))
    (.seq (.reg none [
      ⟨(some 22), .load (some 9) (.t 4), none⟩,
      ⟨none, .store 9 (.t 2) (.t 22), none⟩,
      ⟨(some 3), .mov (.c (.int .i64 0)), none⟩] (some [2, 3]) none)
    .ret)))))
def impl_HistogramOf_F : MF := ⟨23, [.c 2 (some 9), .t 3], impl_HistogramOf_M⟩
-- loop.example/g01312/laws.eqInt64A9
def laws_eqInt64A9_L0 : MC :=
  (.seq (.seq (.reg none [
      ⟨(some 6), .mov (.t 5), none⟩,
      ⟨(some 7), .bin .lss (.t 6) (.c (.int .i64 9)), none⟩] (some [2, 3, 5, 7]) none)
    (.cond (.t 7) .skip
    (.exit 0)))
    (.seq (.block 1 (.seq (.reg (some []) [
      ⟨(some 10), .mov (.t 5), none⟩,
      ⟨(some 11), .iaA 9 1 (.t 2) (.t 10), none⟩,
      ⟨(some 12), .load none (.t 11), none⟩,
      ⟨(some 13), .mov (.t 5), none⟩,
      ⟨(some 14), .iaA 9 1 (.t 3) (.t 13), none⟩,
      ⟨(some 15), .load none (.t 14), none⟩,
      ⟨(some 16), .bin .neq (.t 12) (.t 15), none⟩] (some [2, 3, 5, 16]) none)
    (.cond (.t 16) (.seq (.reg none [
      ⟨(some 4), .mov (.c (.bool false)), none⟩] (some [4]) none)
    .ret)
    .skip)))
    (.reg none [
      ⟨(some 8), .mov (.t 5), none⟩,
      ⟨(some 9), .bin .add (.t 8) (.c (.int .i64 1)), none⟩,
      ⟨(some 5), .mov (.t 9), none⟩] (some [2, 3, 5]) none)))
def laws_eqInt64A9_M : MC :=
  (.seq (.reg none [
      ⟨(some 2), .box (.t 0), none⟩,
      ⟨(some 3), .box (.t 1), none⟩,
      ⟨(some 4), .mov (.c (.bool false)), none⟩] (some [2, 3]) none)
    (.seq (.seq (.reg none [
      ⟨(some 5), .mov (.c (.int .i64 0)), none⟩] (some [2, 3, 5]) none)
    (.block 0 (.loop laws_eqInt64A9_L0)))
    (.seq (.reg none [
      ⟨(some 4), .mov (.c (.bool true)), none⟩] (some [4]) none)
    .ret)))
def laws_eqInt64A9_F : MF := ⟨17, [.t 4], laws_eqInt64A9_M⟩
-- loop.example/g01312/spec.SwapColours
def spec_SwapColours_M : MC :=
  (.seq (.reg none [
      ⟨(some 1), .box (.t 0), none⟩,
      ⟨(some 2), .new (rl [(2, .int .i8 0), (12, .int .u8 0)]), none⟩,
      ⟨(some 3), .mov (.c (.int .i64 0)), none⟩] (some [1, 2]) none)
    (.seq (.seq (.reg none [
      ⟨(some 4), .call 72 [(.t 1)], none⟩,
      ⟨(some 5), .un .not (.t 4), none⟩] (some [1, 2, 5]) none)
    (.cond (.t 5) (.seq (.reg none [
      ⟨(some 6), .bld (rl [(2, .int .i8 0), (12, .int .u8 0)]) [], none⟩,
      ⟨none, .store 14 (.t 2) (.t 6), none⟩,
      ⟨(some 3), .mov (.c (.int .i64 1)), none⟩] (some [2, 3]) none)
    .ret)
    .skip))
    (.seq (.reg none [
      ⟨(some 7), .fa 0 (.t 1), none⟩,
      ⟨(some 8), .load none (.t 7), none⟩,
      ⟨(some 9), .fa 1 (.t 1), none⟩,
      ⟨(some 10), .load none (.t 9), none⟩,
      ⟨(some 11), .fa 8 (.t 1), none⟩,
      ⟨(some 12), .load (some 6) (.t 11), none⟩,
      ⟨(some 13), .fa 2 (.t 1), none⟩,
      ⟨(some 14), .load (some 6) (.t 13), none⟩,
      ⟨(some 15), .bld (rl [(2, .int .i8 0), (12, .int .u8 0)]) [(0, 1, (.t 8)), (1, 1, (.t 10)), (2, 6, (.t 12)), (8, 6, (.t 14))], none⟩,
      ⟨none, .store 14 (.t 2) (.t 15), none⟩,
      ⟨(some 3), .mov (.c (.int .i64 0)), none⟩] (some [2, 3]) none)
    .ret)))
def spec_SwapColours_F : MF := ⟨16, [.c 2 (some 14), .t 3], spec_SwapColours_M⟩
-- loop.example/g01312/laws.toScheme
def laws_toScheme_M : MC :=
  (.seq (.reg none [
      ⟨(some 1), .box (.t 0), none⟩,
      ⟨(some 2), .new (rl [(2, .int .i8 0), (12, .int .u8 0)]), none⟩] (some [1, 2]) none)
    (.seq (.reg none [
      ⟨(some 3), .new (rl [(2, .int .i8 0), (12, .int .u8 0)]), none⟩] (some [1, 2, 3]) none)
    (.seq (.reg none [
      ⟨(some 4), .fa 0 (.t 1), none⟩,
      ⟨(some 5), .load none (.t 4), none⟩,
      ⟨(some 6), .fa 0 (.t 3), none⟩,
      ⟨none, .store 1 (.t 6) (.t 5), none⟩] (some [1, 2, 3]) none)
    (.seq (.reg none [
      ⟨(some 7), .fa 1 (.t 1), none⟩,
      ⟨(some 8), .load none (.t 7), none⟩,
      ⟨(some 9), .fa 1 (.t 3), none⟩,
      ⟨none, .store 1 (.t 9) (.t 8), none⟩] (some [1, 2, 3]) none)
    (.seq (.reg none [
      ⟨(some 10), .fa 2 (.t 1), none⟩,
      ⟨(some 11), .load (some 6) (.t 10), none⟩,
      ⟨(some 12), .call 73 [(.t 11)], none⟩,
      ⟨(some 13), .fa 2 (.t 3), none⟩,
      ⟨none, .store 6 (.t 13) (.t 12), none⟩] (some [1, 2, 3]) none)
    (.seq (.reg none [
      ⟨(some 14), .fa 8 (.t 1), none⟩,
      ⟨(some 15), .load (some 6) (.t 14), none⟩,
      ⟨(some 16), .call 73 [(.t 15)], none⟩,
      ⟨(some 17), .fa 8 (.t 3), none⟩,
      ⟨none, .store 6 (.t 17) (.t 16), none⟩] (some [2, 3]) none)
    (.seq (.reg none [
      ⟨(some 18), .load (some 14) (.t 3), none⟩,
      ⟨none, .store 14 (.t 2) (.t 18), none⟩] (some [2]) none)
    .ret)))))))
def laws_toScheme_F : MF := ⟨19, [.c 2 (some 14)], laws_toScheme_M⟩
-- loop.example/g01312/impl.SwapColours
def impl_SwapColours_M : MC :=
  (.seq (.reg none [
      ⟨(some 1), .box (.t 0), none⟩,
      ⟨(some 2), .new (rl [(2, .int .i8 0), (12, .int .u8 0)]), none⟩,
      ⟨(some 3), .mov (.c (.int .i64 0)), none⟩] (some [1, 2]) none)
    (.seq (.seq (.reg none [
      ⟨(some 4), .load (some 14) (.t 1), none⟩,
      ⟨(some 5), .call 74 [(.t 4)], none⟩,
      ⟨(some 6), .un .not (.t 5), none⟩] (some [1, 2, 6]) none)
    (.cond (.t 6) (.seq (.reg none [
      ⟨(some 7), .bld (rl [(2, .int .i8 0), (12, .int .u8 0)]) [], none⟩,
      ⟨none, .store 14 (.t 2) (.t 7), none⟩,
      ⟨(some 3), .mov (.c (.int .i64 1)), none⟩] (some [2, 3]) none)
    .ret)
    .skip))
    (.seq (.reg none [
      ⟨(some 8), .fa 8 (.t 1), none⟩,
      ⟨(some 9), .load (some 6) (.t 8), none⟩,
      ⟨(some 10), .fa 2 (.t 1), none⟩,
      ⟨(some 11), .load (some 6) (.t 10), none⟩,
      ⟨(some 12), .fa 2 (.t 1), none⟩,
      ⟨none, .store 6 (.t 12) (.t 9), none⟩,
      ⟨(some 13), .fa 8 (.t 1), none⟩,
      ⟨none, .store 6 (.t 13) (.t 11), none⟩] (some [1, 2]) none)
    (.seq (.reg none [
      ⟨(some 14), .load (some 14) (.t 1), none⟩,
      ⟨none, .store 14 (.t 2) (.t 14), none⟩,
      ⟨(some 3), .mov (.c (.int .i64 0)), none⟩] (some [2, 3]) none)
    .ret))))
def impl_SwapColours_F : MF := ⟨15, [.c 2 (some 14), .t 3], impl_SwapColours_M⟩
-- loop.example/g01312/spec.DifferAt
def spec_DifferAt_L0 : MC :=
  (.seq (.seq (.reg none [
      ⟨(some 19), .mov (.t 7), none⟩,
      ⟨(some 20), .bin .lss (.t 19) (.c (.int .i64 64)), none⟩] (some [2, 3, 6, 7, 20]) none)
    (.cond (.t 20) .skip
    (.exit 0)))
    (.seq (.block 1 (.seq (.reg (some []) [
      ⟨(some 23), .mov (.t 7), none⟩,
      ⟨(some 24), .fa 1 (.t 2), none⟩,
      ⟨(some 25), .iaA 64 1 (.t 24) (.t 23), none⟩,
      ⟨(some 26), .load none (.t 25), none⟩,
      ⟨(some 27), .mov (.t 7), none⟩,
      ⟨(some 28), .fa 1 (.t 3), none⟩,
      ⟨(some 29), .iaA 64 1 (.t 28) (.t 27), none⟩,
      ⟨(some 30), .load none (.t 29), none⟩,
      ⟨(some 31), .bin .neq (.t 26) (.t 30), none⟩] (some [2, 3, 6, 7, 31]) none)
    (.cond (.t 31) (.reg none [
      ⟨(some 32), .mov (.t 6), none⟩,
      ⟨(some 33), .mov (.t 7), none⟩,
      ⟨(some 34), .conv .u64 (.t 33), none⟩,
      ⟨(some 35), .bin .shl (.c (.int .u64 1)) (.t 34), none⟩,
      ⟨(some 36), .bin .or (.t 32) (.t 35), none⟩,
      ⟨(some 6), .mov (.t 36), none⟩] (some [2, 3, 6, 7]) none)
    .skip)))
    (.reg none [
      ⟨(some 21), .mov (.t 7), none⟩,
      ⟨(some 22), .bin .add (.t 21) (.c (.int .i64 1)), none⟩,
      ⟨(some 7), .mov (.t 22), none⟩] (some [2, 3, 6, 7]) none)))
def spec_DifferAt_M : MC :=
  (.seq (.reg none [
      ⟨(some 2), .box (.t 0), none⟩,
      ⟨(some 3), .box (.t 1), none⟩,
      ⟨(some 4), .mov (.c (.int .u64 0)), none⟩,
      ⟨(some 5), .mov (.c (.int .i64 0)), none⟩] (some [2, 3]) none)
    (.seq (.seq (.reg none [
      ⟨(some 8), .call 67 [(.t 2)], none⟩,
      ⟨(some 9), .un .not (.t 8), none⟩,
      ⟨(some 10), .mov (.t 9), none⟩,
      ⟨(some 11), .call 67 [(.t 3)], some (10, false)⟩,
      ⟨(some 12), .un .not (.t 11), some (10, false)⟩,
      ⟨(some 13), .pick (.t 10) (.c (.bool true)) (.t 12), none⟩] (some [2, 3, 13]) none)
    (.cond (.t 13) (.seq (.reg none [
      ⟨(some 4), .mov (.c (.int .u64 0)), none⟩,
      ⟨(some 5), .mov (.c (.int .i64 1)), none⟩] (some [4, 5]) none)
    .ret)
    .skip))
    (.seq (.seq (.reg none [
      ⟨(some 14), .fa 0 (.t 2), none⟩,
      ⟨(some 15), .load none (.t 14), none⟩,
      ⟨(some 16), .fa 0 (.t 3), none⟩,
      ⟨(some 17), .load none (.t 16), none⟩,
      ⟨(some 18), .bin .neq (.t 15) (.t 17), none⟩] (some [2, 3, 18]) none)
    (.cond (.t 18) (.seq (.reg none [
      ⟨(some 4), .mov (.c (.int .u64 0)), none⟩,
      ⟨(some 5), .mov (.c (.int .i64 4)), none⟩] (some [4, 5]) none)
    .ret)
    .skip))
    (.seq (.reg none [
      ⟨(some 6), .mov (.c (.int .u64 0)), none⟩] (some [2, 3, 6]) none)
    (.seq (.seq (.reg none [
      ⟨(some 7), .mov (.c (.int .i64 0)), none⟩] (some [2, 3, 6, 7]) none)
    (.block 0 (.loop spec_DifferAt_L0)))
    (.seq (.reg none [
      ⟨(some 37), .mov (.t 6), none⟩,
      ⟨(some 4), .mov (.t 37), none⟩,
      ⟨(some 5), .mov (.c (.int .i64 0)), none⟩] (some [4, 5]) none)
    .ret))))))
def spec_DifferAt_F : MF := ⟨38, [.t 4, .t 5], spec_DifferAt_M⟩
-- loop.example/g01312/impl.DifferAt
def impl_DifferAt_M : MC :=
  (.seq (.reg none [
      ⟨(some 2), .box (.t 0), none⟩,
      ⟨(some 3), .box (.t 1), none⟩,
      ⟨(some 4), .mov (.c (.int .u64 0)), none⟩,
      ⟨(some 5), .mov (.c (.int .i64 0)), none⟩] (some [2, 3]) none)
    (.seq (.seq (.reg (some [(0, 3), (1, 3), (2, 7), (3, 7), (2, 9), (3, 9), (0, 12), (1, 12), (2, 12), (3, 12), (7, 12), (9, 12), (0, 13), (1, 13), (2, 13), (7, 13), (9, 13)]) [
      ⟨(some 7), .load (some 65) (.t 2), none⟩,
      ⟨(some 8), .load (some 65) (.t 3), none⟩,
      ⟨(some 9), .bldS (rl [(1, .int .i8 0), (64, .int .u8 0)]) 2 [(0, 65, (.t 7)), (65, 65, (.t 8))], none⟩,
      ⟨(some 10), .call 76 [(.t 9)], none⟩,
      ⟨(some 11), .un .not (.t 10), none⟩,
      ⟨(some 12), .bld [.bool false, .int .i64 0] [(0, 1, (.t 11)), (1, 1, (.c (.int .i64 1)))], none⟩,
      ⟨(some 13), .fa 0 (.t 2), none⟩,
      ⟨(some 14), .load none (.t 13), none⟩,
      ⟨(some 15), .fa 0 (.t 3), none⟩,
      ⟨(some 16), .load none (.t 15), none⟩,
      ⟨(some 17), .bin .neq (.t 14) (.t 16), none⟩,
      ⟨(some 18), .bld [.bool false, .int .i64 0] [(0, 1, (.t 17)), (1, 1, (.c (.int .i64 4)))], none⟩,
      ⟨(some 19), .bldS [.bool false, .int .i64 0] 2 [(0, 2, (.t 12)), (2, 2, (.t 18))], none⟩,
      ⟨(some 20), .call 75 [(.t 19)], none⟩,
      ⟨(some 6), .mov (.t 20), none⟩] (some [2, 3, 6]) none)
    (.seq (.reg none [
      ⟨(some 21), .mov (.t 6), none⟩,
      ⟨(some 22), .bin .neq (.t 21) (.c (.int .i64 0)), none⟩] (some [2, 3, 6, 22]) none)
    (.cond (.t 22) (.seq (.reg none [
      ⟨(some 23), .mov (.t 6), none⟩,
      ⟨(some 4), .mov (.c (.int .u64 0)), none⟩,
      ⟨(some 5), .mov (.t 23), none⟩] (some [4, 5]) none)
    .ret)
    .skip)))
    (.seq (.reg none [
      ⟨(some 24), .mkf 78 [] [(.t 2), (.t 3)], none⟩,
      ⟨(some 25), .call 77 [(.t 24)], none⟩,
      ⟨(some 4), .mov (.t 25), none⟩,
      ⟨(some 5), .mov (.c (.int .i64 0)), none⟩] (some [4, 5]) none)
    .ret)))
def impl_DifferAt_F : MF := ⟨26, [.t 4, .t 5], impl_DifferAt_M⟩
-- loop.example/g01312/spec.OppositeScheme
def spec_OppositeScheme_L0 : MC :=
  (.seq (.seq (.reg none [
      ⟨(some 14), .mov (.t 5), none⟩,
      ⟨(some 15), .fa 0 (.t 1), none⟩,
      ⟨(some 16), .load none (.t 15), none⟩,
      ⟨(some 17), .conv .i64 (.t 16), none⟩,
      ⟨(some 18), .bin .lss (.t 14) (.t 17), none⟩] (some [1, 2, 4, 5, 18]) none)
    (.cond (.t 18) .skip
    (.exit 0)))
    (.seq (.block 1 (.seq (.reg none [
      ⟨(some 21), .mov (.t 5), none⟩,
      ⟨(some 22), .mov (.t 4), none⟩,
      ⟨(some 23), .mov (.t 5), none⟩,
      ⟨(some 24), .fa 2 (.t 1), none⟩,
      ⟨(some 25), .iaA 6 1 (.t 24) (.t 23), none⟩,
      ⟨(some 26), .load none (.t 25), none⟩,
      ⟨(some 27), .bin .andNot (.t 22) (.t 26), none⟩,
      ⟨(some 28), .fa 2 (.t 1), none⟩,
      ⟨(some 29), .iaA 6 1 (.t 28) (.t 21), none⟩,
      ⟨none, .store 1 (.t 29) (.t 27), none⟩] (some [1, 2, 4, 5]) none)
    (.reg none [
      ⟨(some 30), .mov (.t 5), none⟩,
      ⟨(some 31), .mov (.t 4), none⟩,
      ⟨(some 32), .mov (.t 5), none⟩,
      ⟨(some 33), .fa 8 (.t 1), none⟩,
      ⟨(some 34), .iaA 6 1 (.t 33) (.t 32), none⟩,
      ⟨(some 35), .load none (.t 34), none⟩,
      ⟨(some 36), .bin .andNot (.t 31) (.t 35), none⟩,
      ⟨(some 37), .fa 8 (.t 1), none⟩,
      ⟨(some 38), .iaA 6 1 (.t 37) (.t 30), none⟩,
      ⟨none, .store 1 (.t 38) (.t 36), none⟩] (some [1, 2, 4, 5]) none)))
    (.reg none [
      ⟨(some 19), .mov (.t 5), none⟩,
      ⟨(some 20), .bin .add (.t 19) (.c (.int .i64 1)), none⟩,
      ⟨(some 5), .mov (.t 20), none⟩] (some [1, 2, 4, 5]) none)))
def spec_OppositeScheme_M : MC :=
  (.seq (.reg none [
      ⟨(some 1), .box (.t 0), none⟩,
      ⟨(some 2), .new (rl [(2, .int .i8 0), (12, .int .u8 0)]), none⟩,
      ⟨(some 3), .mov (.c (.int .i64 0)), none⟩] (some [1, 2]) none)
    (.seq (.seq (.reg none [
      ⟨(some 6), .call 72 [(.t 1)], none⟩,
      ⟨(some 7), .un .not (.t 6), none⟩] (some [1, 2, 7]) none)
    (.cond (.t 7) (.seq (.reg none [
      ⟨(some 8), .bld (rl [(2, .int .i8 0), (12, .int .u8 0)]) [], none⟩,
      ⟨none, .store 14 (.t 2) (.t 8), none⟩,
      ⟨(some 3), .mov (.c (.int .i64 1)), none⟩] (some [2, 3]) none)
    .ret)
    .skip))
    (.seq (.reg none [
      ⟨(some 9), .fa 1 (.t 1), none⟩,
      ⟨(some 10), .load none (.t 9), none⟩,
      ⟨(some 11), .conv .u64 (.t 10), none⟩,
      ⟨(some 12), .bin .shl (.c (.int .u8 1)) (.t 11), none⟩,
      ⟨(some 13), .bin .sub (.t 12) (.c (.int .u8 1)), none⟩,
      ⟨(some 4), .mov (.t 13), none⟩] (some [1, 2, 4]) none)
    (.seq (.seq (.reg none [
      ⟨(some 5), .mov (.c (.int .i64 0)), none⟩] (some [1, 2, 4, 5]) none)
    (.block 0 (.loop spec_OppositeScheme_L0)))
    (.seq (.reg none [
      ⟨(some 39), .load (some 14) (.t 1), none⟩,
      ⟨none, .store 14 (.t 2) (.t 39), none⟩,
      ⟨(some 3), .mov (.c (.int .i64 0)), none⟩] (some [2, 3]) none)
    .ret)))))
def spec_OppositeScheme_F : MF := ⟨40, [.c 2 (some 14), .t 3], spec_OppositeScheme_M⟩
-- loop.example/g01312/impl.OppositeScheme
def impl_OppositeScheme_M : MC :=
  (.seq (.reg none [
      ⟨(some 1), .box (.t 0), none⟩,
      ⟨(some 2), .new (rl [(2, .int .i8 0), (12, .int .u8 0)]), none⟩,
      ⟨(some 3), .mov (.c (.int .i64 0)), none⟩] (some [1, 2]) none)
    (.seq (.seq (.reg none [
      ⟨(some 4), .load (some 14) (.t 1), none⟩,
      ⟨(some 5), .call 74 [(.t 4)], none⟩,
      ⟨(some 6), .un .not (.t 5), none⟩] (some [1, 2, 6]) none)
    (.cond (.t 6) (.seq (.reg none [
      ⟨(some 7), .bld (rl [(2, .int .i8 0), (12, .int .u8 0)]) [], none⟩,
      ⟨none, .store 14 (.t 2) (.t 7), none⟩,
      ⟨(some 3), .mov (.c (.int .i64 1)), none⟩] (some [2, 3]) none)
    .ret)
    .skip))
    (.seq (.reg none [
      ⟨(some 8), .load (some 14) (.t 1), none⟩,
      ⟨(some 9), .call 79 [(.t 8)], none⟩,
      ⟨none, .store 14 (.t 2) (.t 9), none⟩,
      ⟨(some 3), .mov (.c (.int .i64 0)), none⟩] (some [2, 3]) none)
    .ret)))
def impl_OppositeScheme_F : MF := ⟨10, [.c 2 (some 14), .t 3], impl_OppositeScheme_M⟩
-- loop.example/g01312/spec.LevelFor
def spec_LevelFor_L0 : MC :=
  (.seq (.seq (.reg none [
      ⟨(some 9), .mov (.t 6), none⟩,
      ⟨(some 10), .bin .leq (.t 9) (.c (.int .i64 8)), none⟩] (some [1, 2, 6, 10]) none)
    (.cond (.t 10) .skip
    (.exit 0)))
    (.seq (.block 1 (.seq (.reg none [
      ⟨(some 13), .mov (.t 6), none⟩,
      ⟨(some 14), .call 80 [(.t 2), (.t 13)], none⟩,
      ⟨(some 15), .mov (.t 1), none⟩,
      ⟨(some 16), .bin .eql (.t 14) (.t 15), none⟩] (some [1, 2, 6, 16]) none)
    (.cond (.t 16) (.seq (.reg none [
      ⟨(some 17), .mov (.t 6), none⟩,
      ⟨(some 4), .mov (.t 17), none⟩,
      ⟨(some 5), .mov (.c (.int .i64 0)), none⟩] (some [4, 5]) none)
    .ret)
    .skip)))
    (.reg none [
      ⟨(some 11), .mov (.t 6), none⟩,
      ⟨(some 12), .bin .add (.t 11) (.c (.int .i64 1)), none⟩,
      ⟨(some 6), .mov (.t 12), none⟩] (some [1, 2, 6]) none)))
def spec_LevelFor_M : MC :=
  (.seq (.reg none [
      ⟨(some 2), .box (.t 0), none⟩,
      ⟨(some 4), .mov (.c (.int .i64 0)), none⟩,
      ⟨(some 5), .mov (.c (.int .i64 0)), none⟩] (some [1, 2]) none)
    (.seq (.seq (.reg none [
      ⟨(some 7), .call 67 [(.t 2)], none⟩,
      ⟨(some 8), .un .not (.t 7), none⟩] (some [1, 2, 8]) none)
    (.cond (.t 8) (.seq (.reg none [
      ⟨(some 4), .mov (.c (.int .i64 0)), none⟩,
      ⟨(some 5), .mov (.c (.int .i64 1)), none⟩] (some [4, 5]) none)
    .ret)
    .skip))
    (.seq (.seq (.reg none [
      ⟨(some 6), .mov (.c (.int .i64 0)), none⟩] (some [1, 2, 6]) none)
    (.block 0 (.loop spec_LevelFor_L0)))
    (.seq (.reg none [
      ⟨(some 4), .mov (.c (.int .i64 0)), none⟩,
      ⟨(some 5), .mov (.c (.int .i64 6)), none⟩] (some [4, 5]) none)
    .ret))))
def spec_LevelFor_F : MF := ⟨18, [.t 4, .t 5], spec_LevelFor_M⟩
-- loop.example/g01312/impl.LevelFor
def impl_LevelFor_L0 : MC :=
  (.seq (.seq (.reg none [
      ⟨(some 10), .mov (.t 6), none⟩,
      ⟨(some 11), .bin .leq (.t 10) (.c (.int .i64 8)), none⟩] (some [1, 2, 6, 11]) none)
    (.cond (.t 11) .skip
    (.exit 0)))
    (.seq (.block 1 (.seq (.reg none [
      ⟨(some 14), .load (some 65) (.t 2), none⟩,
      ⟨(some 15), .mov (.t 6), none⟩,
      ⟨(some 16), .call 81 [(.t 14), (.t 15)], none⟩,
      ⟨(some 17), .mov (.t 1), none⟩,
      ⟨(some 18), .bin .eql (.t 16) (.t 17), none⟩] (some [1, 2, 6, 18]) none)
    (.cond (.t 18) (.seq (.reg none [
      ⟨(some 19), .mov (.t 6), none⟩,
      ⟨(some 4), .mov (.t 19), none⟩,
      ⟨(some 5), .mov (.c (.int .i64 0)), none⟩] (some [4, 5]) none)
    .ret)
    .skip)))
    (.reg none [
      ⟨(some 12), .mov (.t 6), none⟩,
      ⟨(some 13), .bin .add (.t 12) (.c (.int .i64 1)), none⟩,
      ⟨(some 6), .mov (.t 13), none⟩] (some [1, 2, 6]) none)))
def impl_LevelFor_M : MC :=
  (.seq (.reg none [
      ⟨(some 2), .box (.t 0), none⟩,
      ⟨(some 4), .mov (.c (.int .i64 0)), none⟩,
      ⟨(some 5), .mov (.c (.int .i64 0)), none⟩] (some [1, 2]) none)
    (.seq (.seq (.reg none [
      ⟨(some 7), .load (some 65) (.t 2), none⟩,
      ⟨(some 8), .call 70 [(.t 7)], none⟩,
      ⟨(some 9), .un .not (.t 8), none⟩] (some [1, 2, 9]) none)
    (.cond (.t 9) (.seq (.reg none [
      ⟨(some 4), .mov (.c (.int .i64 0)), none⟩,
      ⟨(some 5), .mov (.c (.int .i64 1)), none⟩] (some [4, 5]) none)
    .ret)
    .skip))
    (.seq (.seq (.reg none [
      ⟨(some 6), .mov (.c (.int .i64 0)), none⟩] (some [1, 2, 6]) none)
    (.block 0 (.loop impl_LevelFor_L0)))
    (.seq (.reg none [
      ⟨(some 4), .mov (.c (.int .i64 0)), none⟩,
      ⟨(some 5), .mov (.c (.int .i64 6)), none⟩] (some [4, 5]) none)
    .ret))))
def impl_LevelFor_F : MF := ⟨20, [.t 4, .t 5], impl_LevelFor_M⟩
-- loop.example/g01312/spec.l00In
def spec_l00In_M : MC :=
  (.seq (.reg none [
      ⟨(some 6), .mov (.c (.bool false)), none⟩] (some [0, 1, 2]) none)
    (.seq (.reg none [
      ⟨(some 7), .mov (.t 0), none⟩,
      ⟨(some 8), .mov (.t 1), none⟩,
      ⟨(some 9), .bin .geq (.t 7) (.t 8), none⟩,
      ⟨(some 10), .mov (.t 9), none⟩,
      ⟨(some 11), .mov (.t 0), some (10, true)⟩,
      ⟨(some 12), .mov (.t 2), some (10, true)⟩,
      ⟨(some 13), .bin .leq (.t 11) (.t 12), some (10, true)⟩,
      ⟨(some 14), .pick (.t 10) (.t 13) (.c (.bool false)), none⟩,
      ⟨(some 6), .mov (.t 14), none⟩] (some [6]) none)
    .ret))
def spec_l00In_F : MF := ⟨15, [.t 6], spec_l00In_M⟩
-- loop.example/g01312/impl.within
def impl_within_M : MC :=
  (.seq (.reg none [
      ⟨(some 6), .mov (.c (.bool false)), none⟩] (some [0, 1, 2]) none)
    (.seq (.reg none [
      ⟨(some 7), .mov (.t 0), none⟩,
      ⟨(some 8), .mov (.t 1), none⟩,
      ⟨(some 9), .bin .geq (.t 7) (.t 8), none⟩,
      ⟨(some 10), .mov (.t 9), none⟩,
      ⟨(some 11), .mov (.t 0), some (10, true)⟩,
      ⟨(some 12), .mov (.t 2), some (10, true)⟩,
      ⟨(some 13), .bin .leq (.t 11) (.t 12), some (10, true)⟩,
      ⟨(some 14), .pick (.t 10) (.t 13) (.c (.bool false)), none⟩,
      ⟨(some 6), .mov (.t 14), none⟩] (some [6]) none)
    .ret))
def impl_within_F : MF := ⟨15, [.t 6], impl_within_M⟩
-- loop.example/g01312/impl.made
def impl_made_L0 : MC :=
  (.seq (.reg none [
      ⟨(some 16), .bin .lss (.t 15) (.t 14), none⟩] (some [2, 6, 7, 14, 15, 16]) none)
    (.seq (.cond (.t 16) .skip
    (.exit 0))
    (.seq (.block 1 (.seq (.reg none [
      ⟨(some 17), .mov (.t 15), none⟩,
      ⟨(some 8), .mov (.t 17), none⟩] (some [2, 6, 7, 8, 14, 15]) none)
    (.reg none [
      ⟨(some 19), .mov (.t 8), none⟩,
      ⟨(some 20), .mov (.t 8), none⟩,
      ⟨(some 21), .mov (.t 2), none⟩,
      ⟨(some 22), .mov (.t 8), none⟩,
      ⟨(some 23), .callv (.t 21) [(.t 22)], none⟩,
      ⟨(some 18), .mov (.t 23), none⟩,
      ⟨(some 24), .ext (.t 18) 0, none⟩,
      ⟨(some 25), .ext (.t 18) 1, none⟩,
      ⟨(some 26), .fa 2 (.t 7), none⟩,
      ⟨(some 27), .iaA 6 1 (.t 26) (.t 19), none⟩,
      ⟨none, .store 1 (.t 27) (.t 24), none⟩,
      ⟨(some 28), .fa 8 (.t 7), none⟩,
      ⟨(some 29), .iaA 6 1 (.t 28) (.t 20), none⟩,
      ⟨none, .store 1 (.t 29) (.t 25), none⟩] (some [2, 6, 7, 14, 15]) none)))
    (.reg none [
      ⟨(some 30), .bin .add (.t 15) (.c (.int .i64 1)), none⟩,
      ⟨(some 15), .mov (.t 30), none⟩] (some [2, 6, 7, 14, 15]) none))))
def impl_made_M : MC :=
  (.seq (.reg none [
      ⟨(some 6), .new (rl [(2, .int .i8 0), (12, .int .u8 0)]), none⟩] (some [0, 1, 2, 6]) none)
    (.seq (.reg none [
      ⟨(some 9), .mov (.t 0), none⟩,
      ⟨(some 10), .conv .i8 (.t 9), none⟩,
      ⟨(some 11), .mov (.t 1), none⟩,
      ⟨(some 12), .conv .i8 (.t 11), none⟩,
      ⟨(some 13), .bld (rl [(2, .int .i8 0), (12, .int .u8 0)]) [(0, 1, (.t 10)), (1, 1, (.t 12))], none⟩,
      ⟨(some 7), .new (rl [(2, .int .i8 0), (12, .int .u8 0)]), none⟩,
      ⟨none, .store 14 (.t 7) (.t 13), none⟩] (some [0, 2, 6, 7]) none)
    (.seq (.seq (.reg none [
      ⟨(some 14), .mov (.t 0), none⟩,
      ⟨(some 15), .mov (.c (.int .i64 0)), none⟩] (some [2, 6, 7, 14, 15]) none)
    (.block 0 (.loop impl_made_L0)))
    (.seq (.reg none [
      ⟨(some 31), .load (some 14) (.t 7), none⟩,
      ⟨none, .store 14 (.t 6) (.t 31), none⟩] (some [6]) none)
    .ret))))
def impl_made_F : MF := ⟨32, [.c 6 (some 14)], impl_made_M⟩
-- loop.example/g01312/impl.OneOf$1
def impl_OneOf_1_M : MC :=
  (.seq (.reg none [
      ⟨(some 2), .mov (.c (.int .u8 0)), none⟩,
      ⟨(some 3), .mov (.c (.int .u8 0)), none⟩] (some []) none)
    (.seq (.reg none [
      ⟨(some 2), .mov (.c (.int .u8 0)), none⟩,
      ⟨(some 3), .mov (.c (.int .u8 1)), none⟩] (some [2, 3]) none)
    .ret))
def impl_OneOf_1_F : MF := ⟨4, [.t 2, .t 3], impl_OneOf_1_M⟩
-- loop.example/g01312/laws.eqByteA6
def laws_eqByteA6_L0 : MC :=
  (.seq (.seq (.reg none [
      ⟨(some 6), .mov (.t 5), none⟩,
      ⟨(some 7), .bin .lss (.t 6) (.c (.int .i64 6)), none⟩] (some [2, 3, 5, 7]) none)
    (.cond (.t 7) .skip
    (.exit 0)))
    (.seq (.block 1 (.seq (.reg (some []) [
      ⟨(some 10), .mov (.t 5), none⟩,
      ⟨(some 11), .iaA 6 1 (.t 2) (.t 10), none⟩,
      ⟨(some 12), .load none (.t 11), none⟩,
      ⟨(some 13), .mov (.t 5), none⟩,
      ⟨(some 14), .iaA 6 1 (.t 3) (.t 13), none⟩,
      ⟨(some 15), .load none (.t 14), none⟩,
      ⟨(some 16), .bin .neq (.t 12) (.t 15), none⟩] (some [2, 3, 5, 16]) none)
    (.cond (.t 16) (.seq (.reg none [
      ⟨(some 4), .mov (.c (.bool false)), none⟩] (some [4]) none)
    .ret)
    .skip)))
    (.reg none [
      ⟨(some 8), .mov (.t 5), none⟩,
      ⟨(some 9), .bin .add (.t 8) (.c (.int .i64 1)), none⟩,
      ⟨(some 5), .mov (.t 9), none⟩] (some [2, 3, 5]) none)))
def laws_eqByteA6_M : MC :=
  (.seq (.reg none [
      ⟨(some 2), .box (.t 0), none⟩,
      ⟨(some 3), .box (.t 1), none⟩,
      ⟨(some 4), .mov (.c (.bool false)), none⟩] (some [2, 3]) none)
    (.seq (.seq (.reg none [
      ⟨(some 5), .mov (.c (.int .i64 0)), none⟩] (some [2, 3, 5]) none)
    (.block 0 (.loop laws_eqByteA6_L0)))
    (.seq (.reg none [
      ⟨(some 4), .mov (.c (.bool true)), none⟩] (some [4]) none)
    .ret)))
def laws_eqByteA6_F : MF := ⟨17, [.t 4], laws_eqByteA6_M⟩
-- loop.example/g01312/impl.TwoOf$1
def impl_TwoOf_1_M : MC :=
  (.seq (.reg none [
      ⟨(some 2), .mov (.c (.int .u8 0)), none⟩,
      ⟨(some 3), .mov (.c (.int .u8 0)), none⟩] (some [0]) none)
    (.seq (.reg (some []) [
      ⟨(some 4), .mov (.t 0), none⟩,
      ⟨(some 5), .bin .shl (.c (.int .u8 1)) (.t 4), none⟩,
      ⟨(some 2), .mov (.c (.int .u8 1)), none⟩,
      ⟨(some 3), .mov (.t 5), none⟩] (some [2, 3]) none)
    .ret))
def impl_TwoOf_1_F : MF := ⟨6, [.t 2, .t 3], impl_TwoOf_1_M⟩
-- loop.example/g01312/spec.l01Parts
def spec_l01Parts_M : MC :=
  (.seq (.reg none [
      ⟨(some 2), .mov (.c (.bool false)), none⟩] (some [0]) none)
    (.seq (.reg none [
      ⟨(some 3), .mov (.t 0), none⟩,
      ⟨(some 4), .call 51 [(.t 3), (.c (.int .i64 1)), (.c (.int .i64 8))], none⟩,
      ⟨(some 2), .mov (.t 4), none⟩] (some [2]) none)
    .ret))
def spec_l01Parts_F : MF := ⟨5, [.t 2], spec_l01Parts_M⟩
-- loop.example/g01312/impl.isParts
def impl_isParts_M : MC :=
  (.seq (.reg none [
      ⟨(some 2), .mov (.c (.bool false)), none⟩] (some [0]) none)
    (.seq (.reg none [
      ⟨(some 3), .mov (.t 0), none⟩,
      ⟨(some 4), .call 52 [(.t 3), (.c (.int .i64 1)), (.c (.int .i64 8))], none⟩,
      ⟨(some 2), .mov (.t 4), none⟩] (some [2]) none)
    .ret))
def impl_isParts_F : MF := ⟨5, [.t 2], impl_isParts_M⟩
-- (loop.example/g01312/impl.Layer).each
def impl_Layer_each_L0 : MC :=
  (.seq (.reg none [
      ⟨(some 11), .bin .lss (.t 10) (.c (.int .i64 64)), none⟩] (some [1, 4, 5, 10, 11]) none)
    (.seq (.cond (.t 11) .skip
    (.exit 0))
    (.seq (.block 1 (.seq (.reg none [
      ⟨(some 12), .mov (.t 10), none⟩,
      ⟨(some 6), .mov (.t 12), none⟩] (some [1, 4, 5, 6, 10]) none)
    (.reg none [
      ⟨(some 13), .mov (.t 6), none⟩,
      ⟨(some 14), .mov (.t 1), none⟩,
      ⟨(some 15), .mov (.t 6), none⟩,
      ⟨(some 16), .callv (.t 14) [(.t 15)], none⟩,
      ⟨(some 17), .fa 1 (.t 5), none⟩,
      ⟨(some 18), .iaA 64 1 (.t 17) (.t 13), none⟩,
      ⟨none, .store 1 (.t 18) (.t 16), none⟩] (some [1, 4, 5, 10]) none)))
    (.reg none [
      ⟨(some 19), .bin .add (.t 10) (.c (.int .i64 1)), none⟩,
      ⟨(some 10), .mov (.t 19), none⟩] (some [1, 4, 5, 10]) none))))
def impl_Layer_each_M : MC :=
  (.seq (.reg none [
      ⟨(some 2), .box (.t 0), none⟩,
      ⟨(some 4), .new (rl [(1, .int .i8 0), (64, .int .u8 0)]), none⟩] (some [1, 2, 4]) none)
    (.seq (.reg none [
      ⟨(some 7), .fa 0 (.t 2), none⟩,
      ⟨(some 8), .load none (.t 7), none⟩,
      ⟨(some 9), .bld (rl [(1, .int .i8 0), (64, .int .u8 0)]) [(0, 1, (.t 8))], none⟩,
      ⟨(some 5), .new (rl [(1, .int .i8 0), (64, .int .u8 0)]), none⟩,
      ⟨none, .store 65 (.t 5) (.t 9), none⟩] (some [1, 4, 5]) none)
    (.seq (.seq (.reg none [
      ⟨(some 10), .mov (.c (.int .i64 0)), none⟩] (some [1, 4, 5, 10]) none)
    (.block 0 (.loop impl_Layer_each_L0)))
    (.seq (.reg none [
      ⟨(some 20), .load (some 65) (.t 5), none⟩,
      ⟨none, .store 65 (.t 4) (.t 20), none⟩] (some [4]) none)
    .ret))))
def impl_Layer_each_F : MF := ⟨21, [.c 4 (some 65)], impl_Layer_each_M⟩
-- loop.example/g01312/impl.PlainLayer$1
def impl_PlainLayer_1_M : MC :=
  (.seq (.reg none [
      ⟨(some 3), .mov (.c (.int .u8 0)), none⟩] (some [1]) none)
    (.seq (.reg none [
      ⟨(some 4), .fa 0 (.t 1), none⟩,
      ⟨(some 5), .load none (.t 4), none⟩,
      ⟨(some 6), .call 61 [(.t 5)], none⟩,
      ⟨(some 3), .mov (.t 6), none⟩] (some [3]) none)
    .ret))
def impl_PlainLayer_1_F : MF := ⟨7, [.t 3], impl_PlainLayer_1_M⟩
-- loop.example/g01312/impl.mask
def impl_mask_M : MC :=
  (.seq (.reg none [
      ⟨(some 2), .mov (.c (.int .u8 0)), none⟩] (some [0]) none)
    (.seq (.reg none [
      ⟨(some 3), .mov (.t 0), none⟩,
      ⟨(some 4), .bin .shl (.c (.int .u8 1)) (.t 3), none⟩,
      ⟨(some 5), .bin .sub (.t 4) (.c (.int .u8 1)), none⟩,
      ⟨(some 2), .mov (.t 5), none⟩] (some [2]) none)
    .ret))
def impl_mask_F : MF := ⟨6, [.t 2], impl_mask_M⟩
-- loop.example/g01312/laws.eqByteA64
def laws_eqByteA64_L0 : MC :=
  (.seq (.seq (.reg none [
      ⟨(some 6), .mov (.t 5), none⟩,
      ⟨(some 7), .bin .lss (.t 6) (.c (.int .i64 64)), none⟩] (some [2, 3, 5, 7]) none)
    (.cond (.t 7) .skip
    (.exit 0)))
    (.seq (.block 1 (.seq (.reg (some []) [
      ⟨(some 10), .mov (.t 5), none⟩,
      ⟨(some 11), .iaA 64 1 (.t 2) (.t 10), none⟩,
      ⟨(some 12), .load none (.t 11), none⟩,
      ⟨(some 13), .mov (.t 5), none⟩,
      ⟨(some 14), .iaA 64 1 (.t 3) (.t 13), none⟩,
      ⟨(some 15), .load none (.t 14), none⟩,
      ⟨(some 16), .bin .neq (.t 12) (.t 15), none⟩] (some [2, 3, 5, 16]) none)
    (.cond (.t 16) (.seq (.reg none [
      ⟨(some 4), .mov (.c (.bool false)), none⟩] (some [4]) none)
    .ret)
    .skip)))
    (.reg none [
      ⟨(some 8), .mov (.t 5), none⟩,
      ⟨(some 9), .bin .add (.t 8) (.c (.int .i64 1)), none⟩,
      ⟨(some 5), .mov (.t 9), none⟩] (some [2, 3, 5]) none)))
def laws_eqByteA64_M : MC :=
  (.seq (.reg none [
      ⟨(some 2), .box (.t 0), none⟩,
      ⟨(some 3), .box (.t 1), none⟩,
      ⟨(some 4), .mov (.c (.bool false)), none⟩] (some [2, 3]) none)
    (.seq (.seq (.reg none [
      ⟨(some 5), .mov (.c (.int .i64 0)), none⟩] (some [2, 3, 5]) none)
    (.block 0 (.loop laws_eqByteA64_L0)))
    (.seq (.reg none [
      ⟨(some 4), .mov (.c (.bool true)), none⟩] (some [4]) none)
    .ret)))
def laws_eqByteA64_F : MF := ⟨17, [.t 4], laws_eqByteA64_M⟩
-- loop.example/g01312/impl.ThreeOf$1
def impl_ThreeOf_1_M : MC :=
  (.seq (.reg none [
      ⟨(some 4), .mov (.c (.int .u8 0)), none⟩,
      ⟨(some 5), .mov (.c (.int .u8 0)), none⟩] (some [0, 1, 2]) none)
    (.seq (.reg (some []) [
      ⟨(some 7), .load none (.t 1), none⟩,
      ⟨(some 8), .bin .sub (.t 7) (.c (.int .i64 2)), none⟩,
      ⟨(some 9), .bin .shl (.c (.int .u8 1)) (.t 8), none⟩,
      ⟨(some 10), .bin .sub (.t 9) (.c (.int .u8 1)), none⟩,
      ⟨(some 11), .load none (.t 1), none⟩,
      ⟨(some 12), .bin .sub (.t 11) (.c (.int .i64 2)), none⟩,
      ⟨(some 13), .mov (.t 0), none⟩,
      ⟨(some 14), .bin .add (.t 12) (.t 13), none⟩,
      ⟨(some 15), .bin .shl (.c (.int .u8 1)) (.t 14), none⟩,
      ⟨(some 16), .bin .or (.t 10) (.t 15), none⟩,
      ⟨(some 6), .mov (.t 16), none⟩] (some [2, 6]) none)
    (.seq (.reg none [
      ⟨(some 17), .load none (.t 2), none⟩,
      ⟨(some 18), .conv .i8 (.t 17), none⟩,
      ⟨(some 19), .call 61 [(.t 18)], none⟩,
      ⟨(some 20), .mov (.t 6), none⟩,
      ⟨(some 21), .bin .andNot (.t 19) (.t 20), none⟩,
      ⟨(some 22), .mov (.t 6), none⟩,
      ⟨(some 4), .mov (.t 21), none⟩,
      ⟨(some 5), .mov (.t 22), none⟩] (some [4, 5]) none)
    .ret)))
def impl_ThreeOf_1_F : MF := ⟨23, [.t 4, .t 5], impl_ThreeOf_1_M⟩
-- slices.Equal[[]loop.example/g01312/impl.Layer,loop.example/g01312/impl.Layer]
def slices_Equal___impl_Layer_impl_Layer__L0 : MC :=
  (.seq (.reg none [
      ⟨(some 14), .bin .lss (.t 13) (.t 12), none⟩] (some [0, 1, 12, 13, 14]) none)
    (.seq (.cond (.t 14) .skip
    (.exit 0))
    (.seq (.block 1 (.seq (.reg none [
      ⟨(some 15), .mov (.t 13), none⟩,
      ⟨(some 5), .mov (.t 15), none⟩] (some [0, 1, 5, 12, 13]) none)
    (.seq (.reg (some []) [
      ⟨(some 16), .mov (.t 0), none⟩,
      ⟨(some 17), .mov (.t 5), none⟩,
      ⟨(some 18), .iaS 65 (.t 16) (.t 17), none⟩,
      ⟨(some 19), .load (some 65) (.t 18), none⟩,
      ⟨(some 20), .mov (.t 1), none⟩,
      ⟨(some 21), .mov (.t 5), none⟩,
      ⟨(some 22), .iaS 65 (.t 20) (.t 21), none⟩,
      ⟨(some 23), .load (some 65) (.t 22), none⟩,
      ⟨(some 24), .bin .neq (.t 19) (.t 23), none⟩] (some [0, 1, 12, 13, 24]) none)
    (.cond (.t 24) (.seq (.reg none [
      ⟨(some 4), .mov (.c (.bool false)), none⟩] (some [4]) none)
    .ret)
    .skip))))
    (.reg none [
      ⟨(some 25), .bin .add (.t 13) (.c (.int .i64 1)), none⟩,
      ⟨(some 13), .mov (.t 25), none⟩] (some [0, 1, 12, 13]) none))))
def slices_Equal___impl_Layer_impl_Layer__M : MC :=
  (.seq (.reg none [
      ⟨(some 4), .mov (.c (.bool false)), none⟩] (some [0, 1]) none)
    (.seq (.seq (.reg none [
      ⟨(some 6), .mov (.t 0), none⟩,
      ⟨(some 7), .lenS (.t 6), none⟩,
      ⟨(some 8), .mov (.t 1), none⟩,
      ⟨(some 9), .lenS (.t 8), none⟩,
      ⟨(some 10), .bin .neq (.t 7) (.t 9), none⟩] (some [0, 1, 10]) none)
    (.cond (.t 10) (.seq (.reg none [
      ⟨(some 4), .mov (.c (.bool false)), none⟩] (some [4]) none)
    .ret)
    .skip))
    (.seq (.seq (.reg none [
      ⟨(some 11), .mov (.t 0), none⟩,
      ⟨(some 12), .lenS (.t 11), none⟩,
      ⟨(some 13), .mov (.c (.int .i64 0)), none⟩] (some [0, 1, 12, 13]) none)
    (.block 0 (.loop slices_Equal___impl_Layer_impl_Layer__L0)))
    (.seq (.reg none [
      ⟨(some 4), .mov (.c (.bool true)), none⟩] (some [4]) none)
    .ret))))
def slices_Equal___impl_Layer_impl_Layer__F : MF := ⟨26, [.t 4], slices_Equal___impl_Layer_impl_Layer__M⟩
-- loop.example/g01312/spec.l03Order
def spec_l03Order_L0 : MC :=
  (.seq (.seq (.reg none [
      ⟨(some 13), .mov (.t 7), none⟩,
      ⟨(some 14), .mov (.t 1), none⟩,
      ⟨(some 15), .bin .lss (.t 13) (.t 14), none⟩] (some [0, 1, 6, 7, 15]) none)
    (.cond (.t 15) .skip
    (.exit 0)))
    (.seq (.block 1 (.reg none [
      ⟨(some 18), .mov (.t 6), none⟩,
      ⟨(some 19), .mov (.t 7), none⟩,
      ⟨(some 20), .conv .i8 (.t 19), none⟩,
      ⟨(some 21), .bldS [.int .i8 0] 1 [(0, 1, (.t 20))], none⟩,
      ⟨(some 22), .app [.int .i8 0] 1 false (.t 18) (.t 21), none⟩,
      ⟨(some 6), .mov (.t 22), none⟩] (some [0, 1, 6, 7]) none))
    (.reg none [
      ⟨(some 16), .mov (.t 7), none⟩,
      ⟨(some 17), .bin .add (.t 16) (.c (.int .i64 1)), none⟩,
      ⟨(some 7), .mov (.t 17), none⟩] (some [0, 1, 6, 7]) (some 1))))
def spec_l03Order_L1 : MC :=
  (.seq (.seq (.reg none [
      ⟨(some 25), .mov (.t 8), none⟩,
      ⟨(some 26), .bin .geq (.t 25) (.c (.int .i64 1)), none⟩] (some [0, 6, 8, 26]) none)
    (.cond (.t 26) .skip
    (.exit 2)))
    (.seq (.block 3 (.seq (.reg none [
      ⟨(some 30), .mov (.t 0), none⟩,
      ⟨(some 31), .mov (.t 8), none⟩,
      ⟨(some 32), .bin .add (.t 31) (.c (.int .i64 1)), none⟩,
      ⟨(some 33), .call 82 [(.t 30), (.t 32)], none⟩,
      ⟨(some 29), .mov (.t 33), none⟩,
      ⟨(some 34), .ext (.t 29) 0, none⟩,
      ⟨(some 35), .ext (.t 29) 1, none⟩,
      ⟨(some 9), .mov (.t 34), none⟩,
      ⟨(some 10), .mov (.t 35), none⟩] (some [6, 8, 9, 10]) none)
    (.seq (.reg none [
      ⟨(some 36), .mov (.t 10), none⟩,
      ⟨(some 0), .mov (.t 36), none⟩] (some [0, 6, 8, 9]) none)
    (.seq (.reg none [
      ⟨(some 37), .mov (.t 6), none⟩,
      ⟨(some 38), .mov (.t 9), none⟩,
      ⟨(some 39), .iaS 1 (.t 37) (.t 38), none⟩,
      ⟨(some 40), .load none (.t 39), none⟩,
      ⟨(some 11), .mov (.t 40), none⟩] (some [0, 6, 8, 9, 11]) none)
    (.seq (.reg none [
      ⟨(some 41), .mov (.t 6), none⟩,
      ⟨(some 42), .mov (.t 9), none⟩,
      ⟨(some 43), .mov (.t 6), none⟩,
      ⟨(some 44), .mov (.t 8), none⟩,
      ⟨(some 45), .iaS 1 (.t 43) (.t 44), none⟩,
      ⟨(some 46), .load none (.t 45), none⟩,
      ⟨(some 47), .iaS 1 (.t 41) (.t 42), none⟩,
      ⟨none, .store 1 (.t 47) (.t 46), none⟩] (some [0, 6, 8, 11]) none)
    (.reg none [
      ⟨(some 48), .mov (.t 6), none⟩,
      ⟨(some 49), .mov (.t 8), none⟩,
      ⟨(some 50), .mov (.t 11), none⟩,
      ⟨(some 51), .iaS 1 (.t 48) (.t 49), none⟩,
      ⟨none, .store 1 (.t 51) (.t 50), none⟩] (some [0, 6, 8]) none))))))
    (.reg none [
      ⟨(some 27), .mov (.t 8), none⟩,
      ⟨(some 28), .bin .sub (.t 27) (.c (.int .i64 1)), none⟩,
      ⟨(some 8), .mov (.t 28), none⟩] (some [0, 6, 8]) none)))
def spec_l03Order_M : MC :=
  (.seq (.reg none [
      ⟨(some 4), .mov (.c (.nilsl)), none⟩,
      ⟨(some 5), .mov (.c (.int .u32 0)), none⟩] (some [0, 1]) none)
    (.seq (.reg none [
      ⟨(some 12), .bldS [.int .i8 0] 0 [], none⟩,
      ⟨(some 6), .mov (.t 12), none⟩] (some [0, 1, 6]) none)
    (.seq (.seq (.reg none [
      ⟨(some 7), .mov (.c (.int .i64 0)), none⟩] (some [0, 1, 6, 7]) none)
    (.block 0 (.loop spec_l03Order_L0)))
    (.seq (.seq (.reg none [
      ⟨(some 23), .mov (.t 1), none⟩,
      ⟨(some 24), .bin .sub (.t 23) (.c (.int .i64 1)), none⟩,
      ⟨(some 8), .mov (.t 24), none⟩] (some [0, 6, 8]) none)
    (.block 2 (.loop spec_l03Order_L1)))
    (.seq (.reg none [
      ⟨(some 52), .mov (.t 6), none⟩,
      ⟨(some 53), .mov (.t 0), none⟩,
      ⟨(some 4), .mov (.t 52), none⟩,
      ⟨(some 5), .mov (.t 53), none⟩] (some [4, 5]) none)
    .ret)))))
def spec_l03Order_F : MF := ⟨54, [.t 4, .t 5], spec_l03Order_M⟩
-- loop.example/g01312/impl.drawOrder
def impl_drawOrder_L0 : MC :=
  (.seq (.reg none [
      ⟨(some 12), .bin .lss (.t 11) (.t 10), none⟩] (some [0, 1, 5, 10, 11, 12]) none)
    (.seq (.cond (.t 12) .skip
    (.exit 0))
    (.seq (.block 1 (.seq (.reg none [
      ⟨(some 13), .mov (.t 11), none⟩,
      ⟨(some 6), .mov (.t 13), none⟩] (some [0, 1, 5, 6, 10, 11]) none)
    (.reg none [
      ⟨(some 14), .mov (.t 5), none⟩,
      ⟨(some 15), .mov (.t 6), none⟩,
      ⟨(some 16), .bldS [.int .i8 0] 1 [(0, 1, (.t 15))], none⟩,
      ⟨(some 17), .app [.int .i8 0] 1 false (.t 14) (.t 16), none⟩,
      ⟨(some 5), .mov (.t 17), none⟩] (some [0, 1, 5, 10, 11]) none)))
    (.reg none [
      ⟨(some 18), .bin .add (.t 11) (.c (.int .i8 1)), none⟩,
      ⟨(some 11), .mov (.t 18), none⟩] (some [0, 1, 5, 10, 11]) (some 1)))))
def impl_drawOrder_L1 : MC :=
  (.seq (.seq (.reg none [
      ⟨(some 21), .mov (.t 7), none⟩,
      ⟨(some 22), .bin .geq (.t 21) (.c (.int .i8 1)), none⟩] (some [0, 5, 7, 22]) none)
    (.cond (.t 22) .skip
    (.exit 2)))
    (.seq (.block 3 (.seq (.reg none [
      ⟨(some 25), .mov (.t 0), none⟩,
      ⟨(some 26), .mov (.t 7), none⟩,
      ⟨(some 27), .conv .i64 (.t 26), none⟩,
      ⟨(some 28), .bin .add (.t 27) (.c (.int .i64 1)), none⟩,
      ⟨(some 29), .call 83 [(.t 25), (.t 28)], none⟩,
      ⟨(some 8), .mov (.t 29), none⟩] (some [0, 5, 7, 8]) none)
    (.reg (some []) [
      ⟨(some 30), .mov (.t 5), none⟩,
      ⟨(some 31), .mov (.t 7), none⟩,
      ⟨(some 32), .mov (.t 5), none⟩,
      ⟨(some 33), .mov (.t 8), none⟩,
      ⟨(some 34), .mov (.t 5), none⟩,
      ⟨(some 35), .mov (.t 8), none⟩,
      ⟨(some 36), .iaS 1 (.t 34) (.t 35), none⟩,
      ⟨(some 37), .load none (.t 36), none⟩,
      ⟨(some 38), .mov (.t 5), none⟩,
      ⟨(some 39), .mov (.t 7), none⟩,
      ⟨(some 40), .iaS 1 (.t 38) (.t 39), none⟩,
      ⟨(some 41), .load none (.t 40), none⟩,
      ⟨(some 42), .iaS 1 (.t 30) (.t 31), none⟩,
      ⟨none, .store 1 (.t 42) (.t 37), none⟩,
      ⟨(some 43), .iaS 1 (.t 32) (.t 33), none⟩,
      ⟨none, .store 1 (.t 43) (.t 41), none⟩] (some [0, 5, 7]) none)))
    (.reg none [
      ⟨(some 23), .mov (.t 7), none⟩,
      ⟨(some 24), .bin .sub (.t 23) (.c (.int .i8 1)), none⟩,
      ⟨(some 7), .mov (.t 24), none⟩] (some [0, 5, 7]) none)))
def impl_drawOrder_M : MC :=
  (.seq (.reg none [
      ⟨(some 4), .mov (.c (.nilsl)), none⟩] (some [0, 1]) none)
    (.seq (.reg none [
      ⟨(some 9), .bldS [.int .i8 0] 0 [], none⟩,
      ⟨(some 5), .mov (.t 9), none⟩] (some [0, 1, 5]) none)
    (.seq (.seq (.reg none [
      ⟨(some 10), .mov (.t 1), none⟩,
      ⟨(some 11), .mov (.c (.int .i8 0)), none⟩] (some [0, 1, 5, 10, 11]) none)
    (.block 0 (.loop impl_drawOrder_L0)))
    (.seq (.seq (.reg none [
      ⟨(some 19), .mov (.t 1), none⟩,
      ⟨(some 20), .bin .sub (.t 19) (.c (.int .i8 1)), none⟩,
      ⟨(some 7), .mov (.t 20), none⟩] (some [0, 5, 7]) none)
    (.block 2 (.loop impl_drawOrder_L1)))
    (.seq (.reg none [
      ⟨(some 44), .mov (.t 5), none⟩,
      ⟨(some 4), .mov (.t 44), none⟩] (some [4]) none)
    .ret)))))
def impl_drawOrder_F : MF := ⟨45, [.t 4], impl_drawOrder_M⟩
-- loop.example/g01312/spec.l01Ok
def spec_l01Ok_L0 : MC :=
  (.seq (.seq (.reg none [
      ⟨(some 11), .mov (.t 3), none⟩,
      ⟨(some 12), .bin .lss (.t 11) (.c (.int .i64 64)), none⟩] (some [0, 3, 12]) none)
    (.cond (.t 12) .skip
    (.exit 0)))
    (.seq (.block 1 (.seq (.reg (some []) [
      ⟨(some 15), .mov (.t 0), none⟩,
      ⟨(some 16), .mov (.t 3), none⟩,
      ⟨(some 17), .nilc (.t 15), none⟩,
      ⟨(some 18), .fa 1 (.t 17), none⟩,
      ⟨(some 19), .iaA 64 1 (.t 18) (.t 16), none⟩,
      ⟨(some 20), .load none (.t 19), none⟩,
      ⟨(some 21), .mov (.t 0), none⟩,
      ⟨(some 22), .nilc (.t 21), none⟩,
      ⟨(some 23), .fa 0 (.t 22), none⟩,
      ⟨(some 24), .load none (.t 23), none⟩,
      ⟨(some 25), .conv .u64 (.t 24), none⟩,
      ⟨(some 26), .bin .shr (.t 20) (.t 25), none⟩,
      ⟨(some 27), .bin .neq (.t 26) (.c (.int .u8 0)), none⟩] (some [0, 3, 27]) none)
    (.cond (.t 27) (.seq (.reg none [
      ⟨(some 2), .mov (.c (.bool false)), none⟩] (some [2]) none)
    .ret)
    .skip)))
    (.reg none [
      ⟨(some 13), .mov (.t 3), none⟩,
      ⟨(some 14), .bin .add (.t 13) (.c (.int .i64 1)), none⟩,
      ⟨(some 3), .mov (.t 14), none⟩] (some [0, 3]) none)))
def spec_l01Ok_M : MC :=
  (.seq (.reg none [
      ⟨(some 2), .mov (.c (.bool false)), none⟩] (some [0]) none)
    (.seq (.seq (.reg none [
      ⟨(some 4), .mov (.t 0), none⟩,
      ⟨(some 5), .nilc (.t 4), none⟩,
      ⟨(some 6), .fa 0 (.t 5), none⟩,
      ⟨(some 7), .load none (.t 6), none⟩,
      ⟨(some 8), .conv .i64 (.t 7), none⟩,
      ⟨(some 9), .call 57 [(.t 8)], none⟩,
      ⟨(some 10), .un .not (.t 9), none⟩] (some [0, 10]) none)
    (.cond (.t 10) (.seq (.reg none [
      ⟨(some 2), .mov (.c (.bool false)), none⟩] (some [2]) none)
    .ret)
    .skip))
    (.seq (.seq (.reg none [
      ⟨(some 3), .mov (.c (.int .i64 0)), none⟩] (some [0, 3]) none)
    (.block 0 (.loop spec_l01Ok_L0)))
    (.seq (.reg none [
      ⟨(some 2), .mov (.c (.bool true)), none⟩] (some [2]) none)
    .ret))))
def spec_l01Ok_F : MF := ⟨28, [.t 2], spec_l01Ok_M⟩
-- loop.example/g01312/spec.l01Count
def spec_l01Count_L0 : MC :=
  (.seq (.seq (.reg none [
      ⟨(some 4), .mov (.t 0), none⟩,
      ⟨(some 5), .bin .neq (.t 4) (.c (.int .u64 0)), none⟩] (some [0, 3, 5]) none)
    (.cond (.t 5) .skip
    (.exit 0)))
    (.seq (.block 1 (.reg none [
      ⟨(some 8), .mov (.t 3), none⟩,
      ⟨(some 9), .mov (.t 0), none⟩,
      ⟨(some 10), .bin .and (.t 9) (.c (.int .u64 1)), none⟩,
      ⟨(some 11), .conv .i64 (.t 10), none⟩,
      ⟨(some 12), .bin .add (.t 8) (.t 11), none⟩,
      ⟨(some 3), .mov (.t 12), none⟩] (some [0, 3]) none))
    (.reg none [
      ⟨(some 6), .mov (.t 0), none⟩,
      ⟨(some 7), .bin .shr (.t 6) (.c (.int .u64 1)), none⟩,
      ⟨(some 0), .mov (.t 7), none⟩] (some [0, 3]) none)))
def spec_l01Count_M : MC :=
  (.seq (.reg none [
      ⟨(some 2), .mov (.c (.int .i64 0)), none⟩] (some [0]) none)
    (.seq (.reg none [
      ⟨(some 3), .mov (.c (.int .i64 0)), none⟩] (some [0, 3]) none)
    (.seq (.block 0 (.loop spec_l01Count_L0))
    (.seq (.reg none [
      ⟨(some 13), .mov (.t 3), none⟩,
      ⟨(some 2), .mov (.t 13), none⟩] (some [2]) none)
    .ret))))
def spec_l01Count_F : MF := ⟨14, [.t 2], spec_l01Count_M⟩
-- loop.example/g01312/laws.toByteA64
def laws_toByteA64_L0 : MC :=
  (.seq (.seq (.reg none [
      ⟨(some 5), .mov (.t 4), none⟩,
      ⟨(some 6), .bin .lss (.t 5) (.c (.int .i64 64)), none⟩] (some [1, 2, 3, 4, 6]) none)
    (.cond (.t 6) .skip
    (.exit 0)))
    (.seq (.block 1 (.reg none [
      ⟨(some 9), .mov (.t 4), none⟩,
      ⟨(some 10), .mov (.t 4), none⟩,
      ⟨(some 11), .iaA 64 1 (.t 1) (.t 10), none⟩,
      ⟨(some 12), .load none (.t 11), none⟩,
      ⟨(some 13), .iaA 64 1 (.t 3) (.t 9), none⟩,
      ⟨none, .store 1 (.t 13) (.t 12), none⟩] (some [1, 2, 3, 4]) none))
    (.reg none [
      ⟨(some 7), .mov (.t 4), none⟩,
      ⟨(some 8), .bin .add (.t 7) (.c (.int .i64 1)), none⟩,
      ⟨(some 4), .mov (.t 8), none⟩] (some [1, 2, 3, 4]) none)))
def laws_toByteA64_M : MC :=
  (.seq (.reg none [
      ⟨(some 1), .box (.t 0), none⟩,
      ⟨(some 2), .new (rl [(64, .int .u8 0)]), none⟩] (some [1, 2]) none)
    (.seq (.reg none [
      ⟨(some 3), .new (rl [(64, .int .u8 0)]), none⟩] (some [1, 2, 3]) none)
    (.seq (.seq (.reg none [
      ⟨(some 4), .mov (.c (.int .i64 0)), none⟩] (some [1, 2, 3, 4]) none)
    (.block 0 (.loop laws_toByteA64_L0)))
    (.seq (.reg none [
      ⟨(some 14), .load (some 64) (.t 3), none⟩,
      ⟨none, .store 64 (.t 2) (.t 14), none⟩] (some [2]) none)
    .ret))))
def laws_toByteA64_F : MF := ⟨15, [.c 2 (some 64)], laws_toByteA64_M⟩
-- loop.example/g01312/impl.ValidLayer
def impl_ValidLayer_L0 : MC :=
  (.seq (.reg none [
      ⟨(some 13), .bin .lss (.t 12) (.c (.int .i64 64)), none⟩] (some [1, 11, 12, 13]) none)
    (.seq (.cond (.t 13) .skip
    (.exit 0))
    (.seq (.block 1 (.seq (.reg none [
      ⟨(some 14), .ix 64 1 none (.t 11) (.t 12), none⟩,
      ⟨(some 4), .mov (.t 14), none⟩] (some [1, 4, 11, 12]) none)
    (.seq (.reg none [
      ⟨(some 15), .mov (.t 4), none⟩,
      ⟨(some 16), .fa 0 (.t 1), none⟩,
      ⟨(some 17), .load none (.t 16), none⟩,
      ⟨(some 18), .call 61 [(.t 17)], none⟩,
      ⟨(some 19), .bin .andNot (.t 15) (.t 18), none⟩,
      ⟨(some 20), .bin .neq (.t 19) (.c (.int .u8 0)), none⟩] (some [1, 11, 12, 20]) none)
    (.cond (.t 20) (.seq (.reg none [
      ⟨(some 2), .mov (.c (.bool false)), none⟩] (some [2]) none)
    .ret)
    .skip))))
    (.reg none [
      ⟨(some 21), .bin .add (.t 12) (.c (.int .i64 1)), none⟩,
      ⟨(some 12), .mov (.t 21), none⟩] (some [1, 11, 12]) none))))
def impl_ValidLayer_M : MC :=
  (.seq (.reg none [
      ⟨(some 1), .box (.t 0), none⟩,
      ⟨(some 2), .mov (.c (.bool false)), none⟩] (some [1]) none)
    (.seq (.seq (.reg none [
      ⟨(some 5), .fa 0 (.t 1), none⟩,
      ⟨(some 6), .load none (.t 5), none⟩,
      ⟨(some 7), .conv .i64 (.t 6), none⟩,
      ⟨(some 8), .call 58 [(.t 7)], none⟩,
      ⟨(some 9), .un .not (.t 8), none⟩] (some [1, 9]) none)
    (.cond (.t 9) (.seq (.reg none [
      ⟨(some 2), .mov (.c (.bool false)), none⟩] (some [2]) none)
    .ret)
    .skip))
    (.seq (.seq (.reg none [
      ⟨(some 10), .fa 1 (.t 1), none⟩,
      ⟨(some 11), .load (some 64) (.t 10), none⟩,
      ⟨(some 12), .mov (.c (.int .i64 0)), none⟩] (some [1, 11, 12]) none)
    (.block 0 (.loop impl_ValidLayer_L0)))
    (.seq (.reg none [
      ⟨(some 2), .mov (.c (.bool true)), none⟩] (some [2]) none)
    .ret))))
def impl_ValidLayer_F : MF := ⟨22, [.t 2], impl_ValidLayer_M⟩
-- (loop.example/g01312/impl.Layer).count
def impl_Layer_count_M : MC :=
  (.seq (.reg none [
      ⟨(some 2), .box (.t 0), none⟩,
      ⟨(some 4), .mov (.c (.int .i64 0)), none⟩] (some [1, 2]) none)
    (.seq (.reg none [
      ⟨(some 5), .mov (.t 1), none⟩,
      ⟨(some 6), .fa 1 (.t 2), none⟩,
      ⟨(some 7), .iaA 64 1 (.t 6) (.t 5), none⟩,
      ⟨(some 8), .load none (.t 7), none⟩,
      ⟨(some 9), .call 84 [(.t 8)], none⟩,
      ⟨(some 4), .mov (.t 9), none⟩] (some [4]) none)
    .ret))
def impl_Layer_count_F : MF := ⟨10, [.t 4], impl_Layer_count_M⟩
-- loop.example/g01312/spec.l02Ok
def spec_l02Ok_L0 : MC :=
  (.seq (.seq (.reg none [
      ⟨(some 21), .mov (.t 3), none⟩,
      ⟨(some 22), .bin .lss (.t 21) (.c (.int .i64 6)), none⟩] (some [0, 3, 22]) none)
    (.cond (.t 22) .skip
    (.exit 0)))
    (.seq (.block 1 (.seq (.reg (some []) [
      ⟨(some 25), .mov (.t 0), none⟩,
      ⟨(some 26), .mov (.t 3), none⟩,
      ⟨(some 27), .nilc (.t 25), none⟩,
      ⟨(some 28), .fa 2 (.t 27), none⟩,
      ⟨(some 29), .iaA 6 1 (.t 28) (.t 26), none⟩,
      ⟨(some 30), .load none (.t 29), none⟩,
      ⟨(some 31), .mov (.t 0), none⟩,
      ⟨(some 32), .mov (.t 3), none⟩,
      ⟨(some 33), .nilc (.t 31), none⟩,
      ⟨(some 34), .fa 8 (.t 33), none⟩,
      ⟨(some 35), .iaA 6 1 (.t 34) (.t 32), none⟩,
      ⟨(some 36), .load none (.t 35), none⟩,
      ⟨(some 37), .bin .or (.t 30) (.t 36), none⟩,
      ⟨(some 4), .mov (.t 37), none⟩] (some [0, 3, 4]) none)
    (.seq (.reg none [
      ⟨(some 38), .mov (.t 4), none⟩,
      ⟨(some 39), .mov (.t 0), none⟩,
      ⟨(some 40), .nilc (.t 39), none⟩,
      ⟨(some 41), .fa 1 (.t 40), none⟩,
      ⟨(some 42), .load none (.t 41), none⟩,
      ⟨(some 43), .conv .u64 (.t 42), none⟩,
      ⟨(some 44), .bin .shr (.t 38) (.t 43), none⟩,
      ⟨(some 45), .bin .neq (.t 44) (.c (.int .u8 0)), none⟩,
      ⟨(some 46), .mov (.t 45), none⟩,
      ⟨(some 47), .mov (.t 3), some (46, false)⟩,
      ⟨(some 48), .mov (.t 0), some (46, false)⟩,
      ⟨(some 49), .nilc (.t 48), some (46, false)⟩,
      ⟨(some 50), .fa 0 (.t 49), some (46, false)⟩,
      ⟨(some 51), .load none (.t 50), some (46, false)⟩,
      ⟨(some 52), .conv .i64 (.t 51), some (46, false)⟩,
      ⟨(some 53), .bin .geq (.t 47) (.t 52), some (46, false)⟩,
      ⟨(some 54), .mov (.t 53), some (46, false)⟩,
      ⟨(some 55), .mov (.t 4), some (54, true)⟩,
      ⟨(some 56), .bin .neq (.t 55) (.c (.int .u8 0)), some (54, true)⟩,
      ⟨(some 57), .pick (.t 54) (.t 56) (.c (.bool false)), some (46, false)⟩,
      ⟨(some 58), .pick (.t 46) (.c (.bool true)) (.t 57), none⟩] (some [0, 3, 58]) none)
    (.cond (.t 58) (.seq (.reg none [
      ⟨(some 2), .mov (.c (.bool false)), none⟩] (some [2]) none)
    .ret)
    .skip))))
    (.reg none [
      ⟨(some 23), .mov (.t 3), none⟩,
      ⟨(some 24), .bin .add (.t 23) (.c (.int .i64 1)), none⟩,
      ⟨(some 3), .mov (.t 24), none⟩] (some [0, 3]) none)))
def spec_l02Ok_M : MC :=
  (.seq (.reg none [
      ⟨(some 2), .mov (.c (.bool false)), none⟩] (some [0]) none)
    (.seq (.seq (.reg none [
      ⟨(some 5), .mov (.t 0), none⟩,
      ⟨(some 6), .nilc (.t 5), none⟩,
      ⟨(some 7), .fa 0 (.t 6), none⟩,
      ⟨(some 8), .load none (.t 7), none⟩,
      ⟨(some 9), .conv .i64 (.t 8), none⟩,
      ⟨(some 10), .call 51 [(.t 9), (.c (.int .i64 1)), (.c (.int .i64 6))], none⟩,
      ⟨(some 11), .un .not (.t 10), none⟩,
      ⟨(some 12), .mov (.t 11), none⟩,
      ⟨(some 13), .mov (.t 0), some (12, false)⟩,
      ⟨(some 14), .nilc (.t 13), some (12, false)⟩,
      ⟨(some 15), .fa 1 (.t 14), some (12, false)⟩,
      ⟨(some 16), .load none (.t 15), some (12, false)⟩,
      ⟨(some 17), .conv .i64 (.t 16), some (12, false)⟩,
      ⟨(some 18), .call 57 [(.t 17)], some (12, false)⟩,
      ⟨(some 19), .un .not (.t 18), some (12, false)⟩,
      ⟨(some 20), .pick (.t 12) (.c (.bool true)) (.t 19), none⟩] (some [0, 20]) none)
    (.cond (.t 20) (.seq (.reg none [
      ⟨(some 2), .mov (.c (.bool false)), none⟩] (some [2]) none)
    .ret)
    .skip))
    (.seq (.seq (.reg none [
      ⟨(some 3), .mov (.c (.int .i64 0)), none⟩] (some [0, 3]) none)
    (.block 0 (.loop spec_l02Ok_L0)))
    (.seq (.reg none [
      ⟨(some 2), .mov (.c (.bool true)), none⟩] (some [2]) none)
    .ret))))
def spec_l02Ok_F : MF := ⟨59, [.t 2], spec_l02Ok_M⟩
-- loop.example/g01312/laws.toByteA6
def laws_toByteA6_L0 : MC :=
  (.seq (.seq (.reg none [
      ⟨(some 5), .mov (.t 4), none⟩,
      ⟨(some 6), .bin .lss (.t 5) (.c (.int .i64 6)), none⟩] (some [1, 2, 3, 4, 6]) none)
    (.cond (.t 6) .skip
    (.exit 0)))
    (.seq (.block 1 (.reg none [
      ⟨(some 9), .mov (.t 4), none⟩,
      ⟨(some 10), .mov (.t 4), none⟩,
      ⟨(some 11), .iaA 6 1 (.t 1) (.t 10), none⟩,
      ⟨(some 12), .load none (.t 11), none⟩,
      ⟨(some 13), .iaA 6 1 (.t 3) (.t 9), none⟩,
      ⟨none, .store 1 (.t 13) (.t 12), none⟩] (some [1, 2, 3, 4]) none))
    (.reg none [
      ⟨(some 7), .mov (.t 4), none⟩,
      ⟨(some 8), .bin .add (.t 7) (.c (.int .i64 1)), none⟩,
      ⟨(some 4), .mov (.t 8), none⟩] (some [1, 2, 3, 4]) none)))
def laws_toByteA6_M : MC :=
  (.seq (.reg none [
      ⟨(some 1), .box (.t 0), none⟩,
      ⟨(some 2), .new (rl [(6, .int .u8 0)]), none⟩] (some [1, 2]) none)
    (.seq (.reg none [
      ⟨(some 3), .new (rl [(6, .int .u8 0)]), none⟩] (some [1, 2, 3]) none)
    (.seq (.seq (.reg none [
      ⟨(some 4), .mov (.c (.int .i64 0)), none⟩] (some [1, 2, 3, 4]) none)
    (.block 0 (.loop laws_toByteA6_L0)))
    (.seq (.reg none [
      ⟨(some 14), .load (some 6) (.t 3), none⟩,
      ⟨none, .store 6 (.t 2) (.t 14), none⟩] (some [2]) none)
    .ret))))
def laws_toByteA6_F : MF := ⟨15, [.c 2 (some 6)], laws_toByteA6_M⟩
-- loop.example/g01312/impl.ValidScheme
def impl_ValidScheme_L0 : MC :=
  (.seq (.reg none [
      ⟨(some 18), .bin .lss (.t 17) (.c (.int .i64 6)), none⟩] (some [1, 17, 18]) none)
    (.seq (.cond (.t 18) .skip
    (.exit 0))
    (.seq (.block 1 (.seq (.reg none [
      ⟨(some 19), .mov (.t 17), none⟩,
      ⟨(some 3), .mov (.t 19), none⟩] (some [1, 3, 17]) none)
    (.seq (.reg (some []) [
      ⟨(some 20), .mov (.t 3), none⟩,
      ⟨(some 21), .fa 2 (.t 1), none⟩,
      ⟨(some 22), .iaA 6 1 (.t 21) (.t 20), none⟩,
      ⟨(some 23), .load none (.t 22), none⟩,
      ⟨(some 24), .mov (.t 3), none⟩,
      ⟨(some 25), .fa 8 (.t 1), none⟩,
      ⟨(some 26), .iaA 6 1 (.t 25) (.t 24), none⟩,
      ⟨(some 27), .load none (.t 26), none⟩,
      ⟨(some 28), .bin .or (.t 23) (.t 27), none⟩,
      ⟨(some 4), .mov (.t 28), none⟩] (some [1, 3, 4, 17]) none)
    (.seq (.reg none [
      ⟨(some 29), .mov (.t 4), none⟩,
      ⟨(some 30), .fa 1 (.t 1), none⟩,
      ⟨(some 31), .load none (.t 30), none⟩,
      ⟨(some 32), .call 61 [(.t 31)], none⟩,
      ⟨(some 33), .bin .andNot (.t 29) (.t 32), none⟩,
      ⟨(some 34), .bin .neq (.t 33) (.c (.int .u8 0)), none⟩,
      ⟨(some 35), .mov (.t 34), none⟩,
      ⟨(some 36), .mov (.t 3), some (35, false)⟩,
      ⟨(some 37), .fa 0 (.t 1), some (35, false)⟩,
      ⟨(some 38), .load none (.t 37), some (35, false)⟩,
      ⟨(some 39), .conv .i64 (.t 38), some (35, false)⟩,
      ⟨(some 40), .bin .geq (.t 36) (.t 39), some (35, false)⟩,
      ⟨(some 41), .mov (.t 40), some (35, false)⟩,
      ⟨(some 42), .mov (.t 4), some (41, true)⟩,
      ⟨(some 43), .bin .neq (.t 42) (.c (.int .u8 0)), some (41, true)⟩,
      ⟨(some 44), .pick (.t 41) (.t 43) (.c (.bool false)), some (35, false)⟩,
      ⟨(some 45), .pick (.t 35) (.c (.bool true)) (.t 44), none⟩] (some [1, 17, 45]) none)
    (.cond (.t 45) (.seq (.reg none [
      ⟨(some 2), .mov (.c (.bool false)), none⟩] (some [2]) none)
    .ret)
    .skip)))))
    (.reg none [
      ⟨(some 46), .bin .add (.t 17) (.c (.int .i64 1)), none⟩,
      ⟨(some 17), .mov (.t 46), none⟩] (some [1, 17]) none))))
def impl_ValidScheme_M : MC :=
  (.seq (.reg none [
      ⟨(some 1), .box (.t 0), none⟩,
      ⟨(some 2), .mov (.c (.bool false)), none⟩] (some [1]) none)
    (.seq (.seq (.reg none [
      ⟨(some 5), .fa 0 (.t 1), none⟩,
      ⟨(some 6), .load none (.t 5), none⟩,
      ⟨(some 7), .conv .i64 (.t 6), none⟩,
      ⟨(some 8), .call 52 [(.t 7), (.c (.int .i64 1)), (.c (.int .i64 6))], none⟩,
      ⟨(some 9), .un .not (.t 8), none⟩,
      ⟨(some 10), .mov (.t 9), none⟩,
      ⟨(some 11), .fa 1 (.t 1), some (10, false)⟩,
      ⟨(some 12), .load none (.t 11), some (10, false)⟩,
      ⟨(some 13), .conv .i64 (.t 12), some (10, false)⟩,
      ⟨(some 14), .call 58 [(.t 13)], some (10, false)⟩,
      ⟨(some 15), .un .not (.t 14), some (10, false)⟩,
      ⟨(some 16), .pick (.t 10) (.c (.bool true)) (.t 15), none⟩] (some [1, 16]) none)
    (.cond (.t 16) (.seq (.reg none [
      ⟨(some 2), .mov (.c (.bool false)), none⟩] (some [2]) none)
    .ret)
    .skip))
    (.seq (.seq (.reg none [
      ⟨(some 17), .mov (.c (.int .i64 0)), none⟩] (some [1, 17]) none)
    (.block 0 (.loop impl_ValidScheme_L0)))
    (.seq (.reg none [
      ⟨(some 2), .mov (.c (.bool true)), none⟩] (some [2]) none)
    .ret))))
def impl_ValidScheme_F : MF := ⟨47, [.t 2], impl_ValidScheme_M⟩
-- loop.example/g01312/impl.firstOf
def impl_firstOf_L0 : MC :=
  (.seq (.reg none [
      ⟨(some 8), .bin .lss (.t 7) (.t 6), none⟩] (some [5, 6, 7, 8]) none)
    (.seq (.cond (.t 8) .skip
    (.exit 0))
    (.seq (.block 1 (.seq (.reg none [
      ⟨(some 9), .iaS 2 (.t 5) (.t 7), none⟩,
      ⟨(some 10), .load (some 2) (.t 9), none⟩,
      ⟨(some 4), .new [.bool false, .int .i64 0], none⟩,
      ⟨none, .store 2 (.t 4) (.t 10), none⟩] (some [4, 5, 6, 7]) none)
    (.seq (.reg none [
      ⟨(some 11), .fa 0 (.t 4), none⟩,
      ⟨(some 12), .load none (.t 11), none⟩] (some [4, 5, 6, 7, 12]) none)
    (.cond (.t 12) (.seq (.reg none [
      ⟨(some 13), .fa 1 (.t 4), none⟩,
      ⟨(some 14), .load none (.t 13), none⟩,
      ⟨(some 2), .mov (.t 14), none⟩] (some [2]) none)
    .ret)
    .skip))))
    (.reg none [
      ⟨(some 15), .bin .add (.t 7) (.c (.int .i64 1)), none⟩,
      ⟨(some 7), .mov (.t 15), none⟩] (some [5, 6, 7]) (some 0)))))
def impl_firstOf_M : MC :=
  (.seq (.reg none [
      ⟨(some 2), .mov (.c (.int .i64 0)), none⟩] (some [0]) none)
    (.seq (.seq (.reg none [
      ⟨(some 5), .mov (.t 0), none⟩,
      ⟨(some 6), .lenS (.t 5), none⟩,
      ⟨(some 7), .mov (.c (.int .i64 0)), none⟩] (some [5, 6, 7]) none)
    (.block 0 (.loop impl_firstOf_L0)))
    (.seq (.reg none [
      ⟨(some 2), .mov (.c (.int .i64 0)), none⟩] (some [2]) none)
    .ret)))
def impl_firstOf_F : MF := ⟨16, [.t 2], impl_firstOf_M⟩
-- loop.example/g01312/impl.areLayers
def impl_areLayers_L0 : MC :=
  (.seq (.reg none [
      ⟨(some 8), .bin .lss (.t 7) (.t 6), none⟩] (some [5, 6, 7, 8]) none)
    (.seq (.cond (.t 8) .skip
    (.exit 0))
    (.seq (.block 1 (.seq (.reg none [
      ⟨(some 9), .iaS 65 (.t 5) (.t 7), none⟩,
      ⟨(some 10), .load (some 65) (.t 9), none⟩,
      ⟨(some 4), .new (rl [(1, .int .i8 0), (64, .int .u8 0)]), none⟩,
      ⟨none, .store 65 (.t 4) (.t 10), none⟩] (some [4, 5, 6, 7]) none)
    (.seq (.reg none [
      ⟨(some 11), .load (some 65) (.t 4), none⟩,
      ⟨(some 12), .call 70 [(.t 11)], none⟩,
      ⟨(some 13), .un .not (.t 12), none⟩] (some [5, 6, 7, 13]) none)
    (.cond (.t 13) (.seq (.reg none [
      ⟨(some 2), .mov (.c (.bool false)), none⟩] (some [2]) none)
    .ret)
    .skip))))
    (.reg none [
      ⟨(some 14), .bin .add (.t 7) (.c (.int .i64 1)), none⟩,
      ⟨(some 7), .mov (.t 14), none⟩] (some [5, 6, 7]) (some 0)))))
def impl_areLayers_M : MC :=
  (.seq (.reg none [
      ⟨(some 2), .mov (.c (.bool false)), none⟩] (some [0]) none)
    (.seq (.seq (.reg none [
      ⟨(some 5), .mov (.t 0), none⟩,
      ⟨(some 6), .lenS (.t 5), none⟩,
      ⟨(some 7), .mov (.c (.int .i64 0)), none⟩] (some [5, 6, 7]) none)
    (.block 0 (.loop impl_areLayers_L0)))
    (.seq (.reg none [
      ⟨(some 2), .mov (.c (.bool true)), none⟩] (some [2]) none)
    .ret)))
def impl_areLayers_F : MF := ⟨15, [.t 2], impl_areLayers_M⟩
-- loop.example/g01312/impl.pictureOf
def impl_pictureOf_L0 : MC :=
  (.seq (.reg none [
      ⟨(some 6), .bin .lss (.t 5) (.c (.int .i64 64)), none⟩] (some [0, 3, 5, 6]) none)
    (.seq (.cond (.t 6) .skip
    (.exit 0))
    (.seq (.block 1 (.seq (.reg none [
      ⟨(some 7), .mov (.t 5), none⟩,
      ⟨(some 4), .mov (.t 7), none⟩] (some [0, 3, 4, 5]) none)
    (.seq (.reg none [
      ⟨(some 8), .mov (.t 0), none⟩,
      ⟨(some 9), .mov (.t 4), none⟩,
      ⟨(some 10), .callv (.t 8) [(.t 9)], none⟩] (some [0, 3, 4, 5, 10]) none)
    (.cond (.t 10) (.reg none [
      ⟨(some 11), .mov (.t 3), none⟩,
      ⟨(some 12), .mov (.t 4), none⟩,
      ⟨(some 13), .bin .shl (.c (.int .u64 1)) (.t 12), none⟩,
      ⟨(some 14), .bin .or (.t 11) (.t 13), none⟩,
      ⟨(some 3), .mov (.t 14), none⟩] (some [0, 3, 5]) none)
    .skip))))
    (.reg none [
      ⟨(some 15), .bin .add (.t 5) (.c (.int .i64 1)), none⟩,
      ⟨(some 5), .mov (.t 15), none⟩] (some [0, 3, 5]) none))))
def impl_pictureOf_M : MC :=
  (.seq (.reg none [
      ⟨(some 2), .mov (.c (.int .u64 0)), none⟩] (some [0]) none)
    (.seq (.reg none [
      ⟨(some 3), .mov (.c (.int .u64 0)), none⟩] (some [0, 3]) none)
    (.seq (.seq (.reg none [
      ⟨(some 5), .mov (.c (.int .i64 0)), none⟩] (some [0, 3, 5]) none)
    (.block 0 (.loop impl_pictureOf_L0)))
    (.seq (.reg none [
      ⟨(some 16), .mov (.t 3), none⟩,
      ⟨(some 2), .mov (.t 16), none⟩] (some [2]) none)
    .ret))))
def impl_pictureOf_F : MF := ⟨17, [.t 2], impl_pictureOf_M⟩
-- loop.example/g01312/impl.DifferAt$1
def impl_DifferAt_1_M : MC :=
  (.seq (.reg none [
      ⟨(some 4), .mov (.c (.bool false)), none⟩] (some [0, 1, 2]) none)
    (.seq (.reg (some []) [
      ⟨(some 5), .mov (.t 0), none⟩,
      ⟨(some 6), .fa 1 (.t 1), none⟩,
      ⟨(some 7), .iaA 64 1 (.t 6) (.t 5), none⟩,
      ⟨(some 8), .load none (.t 7), none⟩,
      ⟨(some 9), .mov (.t 0), none⟩,
      ⟨(some 10), .fa 1 (.t 2), none⟩,
      ⟨(some 11), .iaA 64 1 (.t 10) (.t 9), none⟩,
      ⟨(some 12), .load none (.t 11), none⟩,
      ⟨(some 13), .bin .neq (.t 8) (.t 12), none⟩,
      ⟨(some 4), .mov (.t 13), none⟩] (some [4]) none)
    .ret))
def impl_DifferAt_1_F : MF := ⟨14, [.t 4], impl_DifferAt_1_M⟩
-- (loop.example/g01312/impl.Scheme).opposite
def impl_Scheme_opposite_L0 : MC :=
  (.seq (.reg none [
      ⟨(some 8), .bin .lss (.t 7) (.t 6), none⟩] (some [1, 2, 6, 7, 8]) none)
    (.seq (.cond (.t 8) .skip
    (.exit 0))
    (.seq (.block 1 (.seq (.reg none [
      ⟨(some 9), .mov (.t 7), none⟩,
      ⟨(some 3), .mov (.t 9), none⟩] (some [1, 2, 3, 6, 7]) none)
    (.seq (.reg (some [(3, 6)]) [
      ⟨(some 10), .mov (.t 3), none⟩,
      ⟨(some 11), .fa 2 (.t 1), none⟩,
      ⟨(some 12), .iaA 6 1 (.t 11) (.t 10), none⟩,
      ⟨(some 13), .load none (.t 12), none⟩,
      ⟨(some 14), .fa 1 (.t 1), none⟩,
      ⟨(some 15), .load none (.t 14), none⟩,
      ⟨(some 16), .call 61 [(.t 15)], none⟩,
      ⟨(some 17), .bin .xor (.t 13) (.t 16), none⟩,
      ⟨(some 18), .fa 2 (.t 1), none⟩,
      ⟨(some 19), .iaA 6 1 (.t 18) (.t 10), none⟩,
      ⟨none, .store 1 (.t 19) (.t 17), none⟩] (some [1, 2, 3, 6, 7]) none)
    (.reg (some [(3, 6)]) [
      ⟨(some 20), .mov (.t 3), none⟩,
      ⟨(some 21), .fa 8 (.t 1), none⟩,
      ⟨(some 22), .iaA 6 1 (.t 21) (.t 20), none⟩,
      ⟨(some 23), .load none (.t 22), none⟩,
      ⟨(some 24), .fa 1 (.t 1), none⟩,
      ⟨(some 25), .load none (.t 24), none⟩,
      ⟨(some 26), .call 61 [(.t 25)], none⟩,
      ⟨(some 27), .bin .xor (.t 23) (.t 26), none⟩,
      ⟨(some 28), .fa 8 (.t 1), none⟩,
      ⟨(some 29), .iaA 6 1 (.t 28) (.t 20), none⟩,
      ⟨none, .store 1 (.t 29) (.t 27), none⟩] (some [1, 2, 6, 7]) none))))
    (.reg none [
      ⟨(some 30), .bin .add (.t 7) (.c (.int .i64 1)), none⟩,
      ⟨(some 7), .mov (.t 30), none⟩] (some [1, 2, 6, 7]) none))))
def impl_Scheme_opposite_M : MC :=
  (.seq (.reg none [
      ⟨(some 1), .box (.t 0), none⟩,
      ⟨(some 2), .new (rl [(2, .int .i8 0), (12, .int .u8 0)]), none⟩] (some [1, 2]) none)
    (.seq (.seq (.reg none [
      ⟨(some 4), .fa 0 (.t 1), none⟩,
      ⟨(some 5), .load none (.t 4), none⟩,
      ⟨(some 6), .conv .i64 (.t 5), none⟩,
      ⟨(some 7), .mov (.c (.int .i64 0)), none⟩] (some [1, 2, 6, 7]) none)
    (.block 0 (.loop impl_Scheme_opposite_L0)))
    (.seq (.reg none [
      ⟨(some 31), .load (some 14) (.t 1), none⟩,
      ⟨none, .store 14 (.t 2) (.t 31), none⟩] (some [2]) none)
    .ret)))
def impl_Scheme_opposite_F : MF := ⟨32, [.c 2 (some 14)], impl_Scheme_opposite_M⟩
-- loop.example/g01312/spec.l01Shown
def spec_l01Shown_L0 : MC :=
  (.seq (.seq (.reg none [
      ⟨(some 7), .mov (.t 6), none⟩,
      ⟨(some 8), .bin .lss (.t 7) (.c (.int .i64 64)), none⟩] (some [0, 1, 5, 6, 8]) none)
    (.cond (.t 8) .skip
    (.exit 0)))
    (.seq (.block 1 (.seq (.reg none [
      ⟨(some 11), .mov (.t 0), none⟩,
      ⟨(some 12), .mov (.t 6), none⟩,
      ⟨(some 13), .nilc (.t 11), none⟩,
      ⟨(some 14), .fa 1 (.t 13), none⟩,
      ⟨(some 15), .iaA 64 1 (.t 14) (.t 12), none⟩,
      ⟨(some 16), .load none (.t 15), none⟩,
      ⟨(some 17), .conv .u64 (.t 16), none⟩,
      ⟨(some 18), .call 68 [(.t 17)], none⟩,
      ⟨(some 19), .mov (.t 1), none⟩,
      ⟨(some 20), .bin .geq (.t 18) (.t 19), none⟩] (some [0, 1, 5, 6, 20]) none)
    (.cond (.t 20) (.reg none [
      ⟨(some 21), .mov (.t 5), none⟩,
      ⟨(some 22), .mov (.t 6), none⟩,
      ⟨(some 23), .conv .u64 (.t 22), none⟩,
      ⟨(some 24), .bin .shl (.c (.int .u64 1)) (.t 23), none⟩,
      ⟨(some 25), .bin .or (.t 21) (.t 24), none⟩,
      ⟨(some 5), .mov (.t 25), none⟩] (some [0, 1, 5, 6]) none)
    .skip)))
    (.reg none [
      ⟨(some 9), .mov (.t 6), none⟩,
      ⟨(some 10), .bin .add (.t 9) (.c (.int .i64 1)), none⟩,
      ⟨(some 6), .mov (.t 10), none⟩] (some [0, 1, 5, 6]) none)))
def spec_l01Shown_M : MC :=
  (.seq (.reg none [
      ⟨(some 4), .mov (.c (.int .u64 0)), none⟩] (some [0, 1]) none)
    (.seq (.reg none [
      ⟨(some 5), .mov (.c (.int .u64 0)), none⟩] (some [0, 1, 5]) none)
    (.seq (.seq (.reg none [
      ⟨(some 6), .mov (.c (.int .i64 0)), none⟩] (some [0, 1, 5, 6]) none)
    (.block 0 (.loop spec_l01Shown_L0)))
    (.seq (.reg none [
      ⟨(some 26), .mov (.t 5), none⟩,
      ⟨(some 4), .mov (.t 26), none⟩] (some [4]) none)
    .ret))))
def spec_l01Shown_F : MF := ⟨27, [.t 4], spec_l01Shown_M⟩
-- (loop.example/g01312/impl.Layer).shown
def impl_Layer_shown_M : MC :=
  (.seq (.reg none [
      ⟨(some 2), .box (.t 0), none⟩,
      ⟨(some 3), .box (.t 1), none⟩,
      ⟨(some 4), .mov (.c (.int .u64 0)), none⟩] (some [2, 3]) none)
    (.seq (.reg none [
      ⟨(some 5), .mkf 85 [] [(.t 2), (.t 3)], none⟩,
      ⟨(some 6), .call 77 [(.t 5)], none⟩,
      ⟨(some 4), .mov (.t 6), none⟩] (some [4]) none)
    .ret))
def impl_Layer_shown_F : MF := ⟨7, [.t 4], impl_Layer_shown_M⟩
-- loop.example/g01312/spec.l03Number
def spec_l03Number_M : MC :=
  (.seq (.reg none [
      ⟨(some 4), .mov (.c (.int .i64 0)), none⟩,
      ⟨(some 5), .mov (.c (.int .u32 0)), none⟩] (some [0, 1]) none)
    (.seq (.reg none [
      ⟨(some 6), .mov (.t 0), none⟩,
      ⟨(some 7), .bin .mul (.c (.int .u32 1664525)) (.t 6), none⟩,
      ⟨(some 8), .bin .add (.t 7) (.c (.int .u32 1013904223)), none⟩,
      ⟨(some 0), .mov (.t 8), none⟩] (some [0, 1]) none)
    (.seq (.reg none [
      ⟨(some 9), .mov (.t 0), none⟩,
      ⟨(some 10), .bin .shr (.t 9) (.c (.int .u64 16)), none⟩,
      ⟨(some 11), .conv .i64 (.t 10), none⟩,
      ⟨(some 12), .mov (.t 1), none⟩,
      ⟨(some 13), .bin .rem (.t 11) (.t 12), none⟩,
      ⟨(some 14), .mov (.t 0), none⟩,
      ⟨(some 4), .mov (.t 13), none⟩,
      ⟨(some 5), .mov (.t 14), none⟩] (some [4, 5]) none)
    .ret)))
def spec_l03Number_F : MF := ⟨15, [.t 4, .t 5], spec_l03Number_M⟩
-- loop.example/g01312/impl.draw
def impl_draw_M : MC :=
  (.seq (.reg none [
      ⟨(some 4), .mov (.c (.int .i64 0)), none⟩] (some [0, 1]) none)
    (.seq (.reg none [
      ⟨(some 5), .mov (.t 0), none⟩,
      ⟨(some 6), .mov (.t 0), none⟩,
      ⟨(some 7), .nilc (.t 6), none⟩,
      ⟨(some 8), .load none (.t 7), none⟩,
      ⟨(some 9), .bin .mul (.c (.int .u32 1664525)) (.t 8), none⟩,
      ⟨(some 10), .bin .add (.t 9) (.c (.int .u32 1013904223)), none⟩,
      ⟨(some 11), .nilc (.t 5), none⟩,
      ⟨none, .store 1 (.t 11) (.t 10), none⟩] (some [0, 1]) none)
    (.seq (.reg none [
      ⟨(some 12), .mov (.t 0), none⟩,
      ⟨(some 13), .nilc (.t 12), none⟩,
      ⟨(some 14), .load none (.t 13), none⟩,
      ⟨(some 15), .bin .shr (.t 14) (.c (.int .u64 16)), none⟩,
      ⟨(some 16), .conv .i64 (.t 15), none⟩,
      ⟨(some 17), .mov (.t 1), none⟩,
      ⟨(some 18), .bin .rem (.t 16) (.t 17), none⟩,
      ⟨(some 4), .mov (.t 18), none⟩] (some [4]) none)
    .ret)))
def impl_draw_F : MF := ⟨19, [.t 4], impl_draw_M⟩
-- math/bits.OnesCount8
def math_bits_OnesCount8_M : MC :=
  (.seq (.reg none [
      ⟨(some 2), .mov (.c (.int .i64 0)), none⟩] (some [0]) none)
    (.seq (.reg none [
      ⟨(some 3), .mov (.t 0), none⟩,
      ⟨(some 4), .ixS (.c (.str ⟨[0, 1, 1, 2, 1, 2, 2, 3, 1, 2, 2, 3, 2, 3, 3, 4, 1, 2, 2, 3, 2, 3, 3, 4, 2, 3, 3, 4, 3, 4, 4, 5, 1, 2, 2, 3, 2, 3, 3, 4, 2, 3, 3, 4, 3, 4, 4, 5, 2, 3, 3, 4, 3, 4, 4, 5, 3, 4, 4, 5, 4, 5, 5, 6, 1, 2, 2, 3, 2, 3, 3, 4, 2, 3, 3, 4, 3, 4, 4, 5, 2, 3, 3, 4, 3, 4, 4, 5, 3, 4, 4, 5, 4, 5, 5, 6, 2, 3, 3, 4, 3, 4, 4, 5, 3, 4, 4, 5, 4, 5, 5, 6, 3, 4, 4, 5, 4, 5, 5, 6, 4, 5, 5, 6, 5, 6, 6, 7, 1, 2, 2, 3, 2, 3, 3, 4, 2, 3, 3, 4, 3, 4, 4, 5, 2, 3, 3, 4, 3, 4, 4, 5, 3, 4, 4, 5, 4, 5, 5, 6, 2, 3, 3, 4, 3, 4, 4, 5, 3, 4, 4, 5, 4, 5, 5, 6, 3, 4, 4, 5, 4, 5, 5, 6, 4, 5, 5, 6, 5, 6, 6, 7, 2, 3, 3, 4, 3, 4, 4, 5, 3, 4, 4, 5, 4, 5, 5, 6, 3, 4, 4, 5, 4, 5, 5, 6, 4, 5, 5, 6, 5, 6, 6, 7, 3, 4, 4, 5, 4, 5, 5, 6, 4, 5, 5, 6, 5, 6, 6, 7, 4, 5, 5, 6, 5, 6, 6, 7, 5, 6, 6, 7, 6, 7, 7, 8].toArray⟩)) (.t 3), none⟩,
      ⟨(some 5), .conv .i64 (.t 4), none⟩,
      ⟨(some 2), .mov (.t 5), none⟩] (some [2]) none)
    .ret))
def math_bits_OnesCount8_F : MF := ⟨6, [.t 2], math_bits_OnesCount8_M⟩
-- (loop.example/g01312/impl.Layer).shown$1
def impl_Layer_shown_1_M : MC :=
  (.seq (.reg none [
      ⟨(some 4), .mov (.c (.bool false)), none⟩] (some [0, 1, 2]) none)
    (.seq (.reg (some [(2, 3)]) [
      ⟨(some 5), .load (some 65) (.t 1), none⟩,
      ⟨(some 6), .mov (.t 0), none⟩,
      ⟨(some 7), .call 71 [(.t 5), (.t 6)], none⟩,
      ⟨(some 8), .load none (.t 2), none⟩,
      ⟨(some 9), .bin .geq (.t 7) (.t 8), none⟩,
      ⟨(some 4), .mov (.t 9), none⟩] (some [4]) none)
    .ret))
def impl_Layer_shown_1_F : MF := ⟨10, [.t 4], impl_Layer_shown_1_M⟩
-- 86 (runtime.boundsError).Error: no body
-- 87 (runtime.boundsError).RuntimeError: no body
-- 88 (runtime.errorString).Error: no body
-- 89 (runtime.errorString).RuntimeError: no body
-- 90 (runtime.plainError).Error: no body
-- 91 (runtime.plainError).RuntimeError: no body
-- 92 (runtime.errorAddressString).Error: no body
-- 93 (runtime.errorAddressString).RuntimeError: no body
-- 94 (*runtime.TypeAssertionError).Error: no body
-- 95 (*runtime.TypeAssertionError).RuntimeError: no body
-- 96 (*runtime.PanicNilError).Error: no body
-- 97 (*runtime.PanicNilError).RuntimeError: no body
-- 98 (*internal/abi.Type).Align: no body
-- 99 (internal/runtime/maps.unhashableTypeError).Error: no body
-- 100 (internal/runtime/maps.unhashableTypeError).RuntimeError: no body
-- 101 (loop.example/g01312/impl.Scheme).all: no body
-- 102 (loop.example/g01312/impl.Picture).has: no body
-- 103 (internal/abi.Kind).String: no body
theorem laws_FnExactOneOf_ok : OkF Try.prog 3 laws_FnExactOneOf_F Try.f3 (bodyOf Try.f3) := ⟨Try.func3, by kernel_rfl, by kernel_rfl, by kernel_rfl, by kernel_rfl⟩
theorem laws_FnExactTwoOf_ok : OkF Try.prog 4 laws_FnExactTwoOf_F Try.f4 (bodyOf Try.f4) := ⟨Try.func4, by kernel_rfl, by kernel_rfl, by kernel_rfl, by kernel_rfl⟩
theorem laws_FnExactPlainLayer_ok : OkF Try.prog 5 laws_FnExactPlainLayer_F Try.f5 (bodyOf Try.f5) := ⟨Try.func5, by kernel_rfl, by kernel_rfl, by kernel_rfl, by kernel_rfl⟩
theorem laws_FnExactThreeOf_ok : OkF Try.prog 6 laws_FnExactThreeOf_F Try.f6 (bodyOf Try.f6) := ⟨Try.func6, by kernel_rfl, by kernel_rfl, by kernel_rfl, by kernel_rfl⟩
theorem laws_FnExactSameLayers_ok : OkF Try.prog 7 laws_FnExactSameLayers_F Try.f7 (bodyOf Try.f7) := ⟨Try.func7, by kernel_rfl, by kernel_rfl, by kernel_rfl, by kernel_rfl⟩
theorem laws_FnExactNextOrder_ok : OkF Try.prog 8 laws_FnExactNextOrder_F Try.f8 (bodyOf Try.f8) := ⟨Try.func8, by kernel_rfl, by kernel_rfl, by kernel_rfl, by kernel_rfl⟩
theorem laws_FnExactCountsOf_ok : OkF Try.prog 9 laws_FnExactCountsOf_F Try.f9 (bodyOf Try.f9) := ⟨Try.func9, by kernel_rfl, by kernel_rfl, by kernel_rfl, by kernel_rfl⟩
theorem laws_FnExactHistogramOf_ok : OkF Try.prog 10 laws_FnExactHistogramOf_F Try.f10 (bodyOf Try.f10) := ⟨Try.func10, by kernel_rfl, by kernel_rfl, by kernel_rfl, by kernel_rfl⟩
theorem laws_FnExactSwapColours_ok : OkF Try.prog 11 laws_FnExactSwapColours_F Try.f11 (bodyOf Try.f11) := ⟨Try.func11, by kernel_rfl, by kernel_rfl, by kernel_rfl, by kernel_rfl⟩
theorem laws_FnExactDifferAt_ok : OkF Try.prog 12 laws_FnExactDifferAt_F Try.f12 (bodyOf Try.f12) := ⟨Try.func12, by kernel_rfl, by kernel_rfl, by kernel_rfl, by kernel_rfl⟩
theorem laws_FnExactOppositeScheme_ok : OkF Try.prog 13 laws_FnExactOppositeScheme_F Try.f13 (bodyOf Try.f13) := ⟨Try.func13, by kernel_rfl, by kernel_rfl, by kernel_rfl, by kernel_rfl⟩
theorem laws_FnExactLevelFor_ok : OkF Try.prog 14 laws_FnExactLevelFor_F Try.f14 (bodyOf Try.f14) := ⟨Try.func14, by kernel_rfl, by kernel_rfl, by kernel_rfl, by kernel_rfl⟩
theorem spec_OneOf_ok : OkF Try.prog 15 spec_OneOf_F Try.f15 (bodyOf Try.f15) := ⟨Try.func15, by kernel_rfl, by kernel_rfl, by kernel_rfl, by kernel_rfl⟩
theorem impl_OneOf_ok : OkF Try.prog 16 impl_OneOf_F Try.f16 (bodyOf Try.f16) := ⟨Try.func16, by kernel_rfl, by kernel_rfl, by kernel_rfl, by kernel_rfl⟩
theorem laws_eqScheme_ok : OkF Try.prog 17 laws_eqScheme_F Try.f17 (bodyOf Try.f17) := ⟨Try.func17, by kernel_rfl, by kernel_rfl, by kernel_rfl, by kernel_rfl⟩
theorem spec_TwoOf_ok : OkF Try.prog 18 spec_TwoOf_F Try.f18 (bodyOf Try.f18) := ⟨Try.func18, by kernel_rfl, by kernel_rfl, by kernel_rfl, by kernel_rfl⟩
theorem impl_TwoOf_ok : OkF Try.prog 19 impl_TwoOf_F Try.f19 (bodyOf Try.f19) := ⟨Try.func19, by kernel_rfl, by kernel_rfl, by kernel_rfl, by kernel_rfl⟩
theorem spec_PlainLayer_ok : OkF Try.prog 20 spec_PlainLayer_F Try.f20 (bodyOf Try.f20) := ⟨Try.func20, by kernel_rfl, by kernel_rfl, by kernel_rfl, by kernel_rfl⟩
theorem impl_PlainLayer_ok : OkF Try.prog 21 impl_PlainLayer_F Try.f21 (bodyOf Try.f21) := ⟨Try.func21, by kernel_rfl, by kernel_rfl, by kernel_rfl, by kernel_rfl⟩
theorem laws_eqLayer_ok : OkF Try.prog 22 laws_eqLayer_F Try.f22 (bodyOf Try.f22) := ⟨Try.func22, by kernel_rfl, by kernel_rfl, by kernel_rfl, by kernel_rfl⟩
theorem spec_ThreeOf_ok : OkF Try.prog 23 spec_ThreeOf_F Try.f23 (bodyOf Try.f23) := ⟨Try.func23, by kernel_rfl, by kernel_rfl, by kernel_rfl, by kernel_rfl⟩
theorem impl_ThreeOf_ok : OkF Try.prog 24 impl_ThreeOf_F Try.f24 (bodyOf Try.f24) := ⟨Try.func24, by kernel_rfl, by kernel_rfl, by kernel_rfl, by kernel_rfl⟩
theorem laws_szLayerS_ok : OkF Try.prog 25 laws_szLayerS_F Try.f25 (bodyOf Try.f25) := ⟨Try.func25, by kernel_rfl, by kernel_rfl, by kernel_rfl, by kernel_rfl⟩
theorem spec_SameLayers_ok : OkF Try.prog 26 spec_SameLayers_F Try.f26 (bodyOf Try.f26) := ⟨Try.func26, by kernel_rfl, by kernel_rfl, by kernel_rfl, by kernel_rfl⟩
theorem laws_toLayerS_ok : OkF Try.prog 27 laws_toLayerS_F Try.f27 (bodyOf Try.f27) := ⟨Try.func27, by kernel_rfl, by kernel_rfl, by kernel_rfl, by kernel_rfl⟩
theorem impl_SameLayers_ok : OkF Try.prog 28 impl_SameLayers_F Try.f28 (bodyOf Try.f28) := ⟨Try.func28, by kernel_rfl, by kernel_rfl, by kernel_rfl, by kernel_rfl⟩
theorem laws_eqLayerS_ok : OkF Try.prog 29 laws_eqLayerS_F Try.f29 (bodyOf Try.f29) := ⟨Try.func29, by kernel_rfl, by kernel_rfl, by kernel_rfl, by kernel_rfl⟩
theorem spec_NextOrder_ok : OkF Try.prog 30 spec_NextOrder_F Try.f30 (bodyOf Try.f30) := ⟨Try.func30, by kernel_rfl, by kernel_rfl, by kernel_rfl, by kernel_rfl⟩
theorem impl_NextOrder_ok : OkF Try.prog 31 impl_NextOrder_F Try.f31 (bodyOf Try.f31) := ⟨Try.func31, by kernel_rfl, by kernel_rfl, by kernel_rfl, by kernel_rfl⟩
theorem laws_eqInt8S_ok : OkF Try.prog 32 laws_eqInt8S_F Try.f32 (bodyOf Try.f32) := ⟨Try.func32, by kernel_rfl, by kernel_rfl, by kernel_rfl, by kernel_rfl⟩
theorem laws_markInt8S_ok : OkF Try.prog 33 laws_markInt8S_F Try.f33 (bodyOf Try.f33) := ⟨Try.func33, by kernel_rfl, by kernel_rfl, by kernel_rfl, by kernel_rfl⟩
theorem laws_heldInt8S_ok : OkF Try.prog 34 laws_heldInt8S_F Try.f34 (bodyOf Try.f34) := ⟨Try.func34, by kernel_rfl, by kernel_rfl, by kernel_rfl, by kernel_rfl⟩
theorem spec_CountsOf_ok : OkF Try.prog 35 spec_CountsOf_F Try.f35 (bodyOf Try.f35) := ⟨Try.func35, by kernel_rfl, by kernel_rfl, by kernel_rfl, by kernel_rfl⟩
theorem laws_toLayer_ok : OkF Try.prog 36 laws_toLayer_F Try.f36 (bodyOf Try.f36) := ⟨Try.func36, by kernel_rfl, by kernel_rfl, by kernel_rfl, by kernel_rfl⟩
theorem impl_CountsOf_ok : OkF Try.prog 37 impl_CountsOf_F Try.f37 (bodyOf Try.f37) := ⟨Try.func37, by kernel_rfl, by kernel_rfl, by kernel_rfl, by kernel_rfl⟩
theorem laws_eqInt8A64_ok : OkF Try.prog 38 laws_eqInt8A64_F Try.f38 (bodyOf Try.f38) := ⟨Try.func38, by kernel_rfl, by kernel_rfl, by kernel_rfl, by kernel_rfl⟩
theorem spec_HistogramOf_ok : OkF Try.prog 39 spec_HistogramOf_F Try.f39 (bodyOf Try.f39) := ⟨Try.func39, by kernel_rfl, by kernel_rfl, by kernel_rfl, by kernel_rfl⟩
theorem impl_HistogramOf_ok : OkF Try.prog 40 impl_HistogramOf_F Try.f40 (bodyOf Try.f40) := ⟨Try.func40, by kernel_rfl, by kernel_rfl, by kernel_rfl, by kernel_rfl⟩
theorem laws_eqInt64A9_ok : OkF Try.prog 41 laws_eqInt64A9_F Try.f41 (bodyOf Try.f41) := ⟨Try.func41, by kernel_rfl, by kernel_rfl, by kernel_rfl, by kernel_rfl⟩
theorem spec_SwapColours_ok : OkF Try.prog 42 spec_SwapColours_F Try.f42 (bodyOf Try.f42) := ⟨Try.func42, by kernel_rfl, by kernel_rfl, by kernel_rfl, by kernel_rfl⟩
theorem laws_toScheme_ok : OkF Try.prog 43 laws_toScheme_F Try.f43 (bodyOf Try.f43) := ⟨Try.func43, by kernel_rfl, by kernel_rfl, by kernel_rfl, by kernel_rfl⟩
theorem impl_SwapColours_ok : OkF Try.prog 44 impl_SwapColours_F Try.f44 (bodyOf Try.f44) := ⟨Try.func44, by kernel_rfl, by kernel_rfl, by kernel_rfl, by kernel_rfl⟩
theorem spec_DifferAt_ok : OkF Try.prog 45 spec_DifferAt_F Try.f45 (bodyOf Try.f45) := ⟨Try.func45, by kernel_rfl, by kernel_rfl, by kernel_rfl, by kernel_rfl⟩
theorem impl_DifferAt_ok : OkF Try.prog 46 impl_DifferAt_F Try.f46 (bodyOf Try.f46) := ⟨Try.func46, by kernel_rfl, by kernel_rfl, by kernel_rfl, by kernel_rfl⟩
theorem spec_OppositeScheme_ok : OkF Try.prog 47 spec_OppositeScheme_F Try.f47 (bodyOf Try.f47) := ⟨Try.func47, by kernel_rfl, by kernel_rfl, by kernel_rfl, by kernel_rfl⟩
theorem impl_OppositeScheme_ok : OkF Try.prog 48 impl_OppositeScheme_F Try.f48 (bodyOf Try.f48) := ⟨Try.func48, by kernel_rfl, by kernel_rfl, by kernel_rfl, by kernel_rfl⟩
theorem spec_LevelFor_ok : OkF Try.prog 49 spec_LevelFor_F Try.f49 (bodyOf Try.f49) := ⟨Try.func49, by kernel_rfl, by kernel_rfl, by kernel_rfl, by kernel_rfl⟩
theorem impl_LevelFor_ok : OkF Try.prog 50 impl_LevelFor_F Try.f50 (bodyOf Try.f50) := ⟨Try.func50, by kernel_rfl, by kernel_rfl, by kernel_rfl, by kernel_rfl⟩
theorem spec_l00In_ok : OkF Try.prog 51 spec_l00In_F Try.f51 (bodyOf Try.f51) := ⟨Try.func51, by kernel_rfl, by kernel_rfl, by kernel_rfl, by kernel_rfl⟩
theorem impl_within_ok : OkF Try.prog 52 impl_within_F Try.f52 (bodyOf Try.f52) := ⟨Try.func52, by kernel_rfl, by kernel_rfl, by kernel_rfl, by kernel_rfl⟩
theorem impl_made_ok : OkF Try.prog 53 impl_made_F Try.f53 (bodyOf Try.f53) := ⟨Try.func53, by kernel_rfl, by kernel_rfl, by kernel_rfl, by kernel_rfl⟩
theorem impl_OneOf_1_ok : OkF Try.prog 54 impl_OneOf_1_F Try.f54 (bodyOf Try.f54) := ⟨Try.func54, by kernel_rfl, by kernel_rfl, by kernel_rfl, by kernel_rfl⟩
theorem laws_eqByteA6_ok : OkF Try.prog 55 laws_eqByteA6_F Try.f55 (bodyOf Try.f55) := ⟨Try.func55, by kernel_rfl, by kernel_rfl, by kernel_rfl, by kernel_rfl⟩
theorem impl_TwoOf_1_ok : OkF Try.prog 56 impl_TwoOf_1_F Try.f56 (bodyOf Try.f56) := ⟨Try.func56, by kernel_rfl, by kernel_rfl, by kernel_rfl, by kernel_rfl⟩
theorem spec_l01Parts_ok : OkF Try.prog 57 spec_l01Parts_F Try.f57 (bodyOf Try.f57) := ⟨Try.func57, by kernel_rfl, by kernel_rfl, by kernel_rfl, by kernel_rfl⟩
theorem impl_isParts_ok : OkF Try.prog 58 impl_isParts_F Try.f58 (bodyOf Try.f58) := ⟨Try.func58, by kernel_rfl, by kernel_rfl, by kernel_rfl, by kernel_rfl⟩
theorem impl_Layer_each_ok : OkF Try.prog 59 impl_Layer_each_F Try.f59 (bodyOf Try.f59) := ⟨Try.func59, by kernel_rfl, by kernel_rfl, by kernel_rfl, by kernel_rfl⟩
theorem impl_PlainLayer_1_ok : OkF Try.prog 60 impl_PlainLayer_1_F Try.f60 (bodyOf Try.f60) := ⟨Try.func60, by kernel_rfl, by kernel_rfl, by kernel_rfl, by kernel_rfl⟩
theorem impl_mask_ok : OkF Try.prog 61 impl_mask_F Try.f61 (bodyOf Try.f61) := ⟨Try.func61, by kernel_rfl, by kernel_rfl, by kernel_rfl, by kernel_rfl⟩
theorem laws_eqByteA64_ok : OkF Try.prog 62 laws_eqByteA64_F Try.f62 (bodyOf Try.f62) := ⟨Try.func62, by kernel_rfl, by kernel_rfl, by kernel_rfl, by kernel_rfl⟩
theorem impl_ThreeOf_1_ok : OkF Try.prog 63 impl_ThreeOf_1_F Try.f63 (bodyOf Try.f63) := ⟨Try.func63, by kernel_rfl, by kernel_rfl, by kernel_rfl, by kernel_rfl⟩
theorem slices_Equal___impl_Layer_impl_Layer__ok : OkF Try.prog 64 slices_Equal___impl_Layer_impl_Layer__F Try.f64 (bodyOf Try.f64) := ⟨Try.func64, by kernel_rfl, by kernel_rfl, by kernel_rfl, by kernel_rfl⟩
theorem spec_l03Order_ok : OkF Try.prog 65 spec_l03Order_F Try.f65 (bodyOf Try.f65) := ⟨Try.func65, by kernel_rfl, by kernel_rfl, by kernel_rfl, by kernel_rfl⟩
theorem impl_drawOrder_ok : OkF Try.prog 66 impl_drawOrder_F Try.f66 (bodyOf Try.f66) := ⟨Try.func66, by kernel_rfl, by kernel_rfl, by kernel_rfl, by kernel_rfl⟩
theorem spec_l01Ok_ok : OkF Try.prog 67 spec_l01Ok_F Try.f67 (bodyOf Try.f67) := ⟨Try.func67, by kernel_rfl, by kernel_rfl, by kernel_rfl, by kernel_rfl⟩
theorem spec_l01Count_ok : OkF Try.prog 68 spec_l01Count_F Try.f68 (bodyOf Try.f68) := ⟨Try.func68, by kernel_rfl, by kernel_rfl, by kernel_rfl, by kernel_rfl⟩
theorem laws_toByteA64_ok : OkF Try.prog 69 laws_toByteA64_F Try.f69 (bodyOf Try.f69) := ⟨Try.func69, by kernel_rfl, by kernel_rfl, by kernel_rfl, by kernel_rfl⟩
theorem impl_ValidLayer_ok : OkF Try.prog 70 impl_ValidLayer_F Try.f70 (bodyOf Try.f70) := ⟨Try.func70, by kernel_rfl, by kernel_rfl, by kernel_rfl, by kernel_rfl⟩
theorem impl_Layer_count_ok : OkF Try.prog 71 impl_Layer_count_F Try.f71 (bodyOf Try.f71) := ⟨Try.func71, by kernel_rfl, by kernel_rfl, by kernel_rfl, by kernel_rfl⟩
theorem spec_l02Ok_ok : OkF Try.prog 72 spec_l02Ok_F Try.f72 (bodyOf Try.f72) := ⟨Try.func72, by kernel_rfl, by kernel_rfl, by kernel_rfl, by kernel_rfl⟩
theorem laws_toByteA6_ok : OkF Try.prog 73 laws_toByteA6_F Try.f73 (bodyOf Try.f73) := ⟨Try.func73, by kernel_rfl, by kernel_rfl, by kernel_rfl, by kernel_rfl⟩
theorem impl_ValidScheme_ok : OkF Try.prog 74 impl_ValidScheme_F Try.f74 (bodyOf Try.f74) := ⟨Try.func74, by kernel_rfl, by kernel_rfl, by kernel_rfl, by kernel_rfl⟩
theorem impl_firstOf_ok : OkF Try.prog 75 impl_firstOf_F Try.f75 (bodyOf Try.f75) := ⟨Try.func75, by kernel_rfl, by kernel_rfl, by kernel_rfl, by kernel_rfl⟩
theorem impl_areLayers_ok : OkF Try.prog 76 impl_areLayers_F Try.f76 (bodyOf Try.f76) := ⟨Try.func76, by kernel_rfl, by kernel_rfl, by kernel_rfl, by kernel_rfl⟩
theorem impl_pictureOf_ok : OkF Try.prog 77 impl_pictureOf_F Try.f77 (bodyOf Try.f77) := ⟨Try.func77, by kernel_rfl, by kernel_rfl, by kernel_rfl, by kernel_rfl⟩
theorem impl_DifferAt_1_ok : OkF Try.prog 78 impl_DifferAt_1_F Try.f78 (bodyOf Try.f78) := ⟨Try.func78, by kernel_rfl, by kernel_rfl, by kernel_rfl, by kernel_rfl⟩
theorem impl_Scheme_opposite_ok : OkF Try.prog 79 impl_Scheme_opposite_F Try.f79 (bodyOf Try.f79) := ⟨Try.func79, by kernel_rfl, by kernel_rfl, by kernel_rfl, by kernel_rfl⟩
theorem spec_l01Shown_ok : OkF Try.prog 80 spec_l01Shown_F Try.f80 (bodyOf Try.f80) := ⟨Try.func80, by kernel_rfl, by kernel_rfl, by kernel_rfl, by kernel_rfl⟩
theorem impl_Layer_shown_ok : OkF Try.prog 81 impl_Layer_shown_F Try.f81 (bodyOf Try.f81) := ⟨Try.func81, by kernel_rfl, by kernel_rfl, by kernel_rfl, by kernel_rfl⟩
theorem spec_l03Number_ok : OkF Try.prog 82 spec_l03Number_F Try.f82 (bodyOf Try.f82) := ⟨Try.func82, by kernel_rfl, by kernel_rfl, by kernel_rfl, by kernel_rfl⟩
theorem impl_draw_ok : OkF Try.prog 83 impl_draw_F Try.f83 (bodyOf Try.f83) := ⟨Try.func83, by kernel_rfl, by kernel_rfl, by kernel_rfl, by kernel_rfl⟩
theorem math_bits_OnesCount8_ok : OkF Try.prog 84 math_bits_OnesCount8_F Try.f84 (bodyOf Try.f84) := ⟨Try.func84, by kernel_rfl, by kernel_rfl, by kernel_rfl, by kernel_rfl⟩
theorem impl_Layer_shown_1_ok : OkF Try.prog 85 impl_Layer_shown_1_F Try.f85 (bodyOf Try.f85) := ⟨Try.func85, by kernel_rfl, by kernel_rfl, by kernel_rfl, by kernel_rfl⟩
end Go.Proofs.Ytaadiplbjelbnaa
