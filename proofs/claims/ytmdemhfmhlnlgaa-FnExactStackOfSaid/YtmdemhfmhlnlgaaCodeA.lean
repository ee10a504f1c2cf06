/- A part of the proof library: names for blocks of memory, a small form of the code, and rules for walks over it. -/
import Derived.Test.YtmdemhfmhlnlgaaProg
import Derived.Test.YtmdemhfmhlnlgaaAb18
import Derived.KernelRfl
set_option linter.all false
namespace Go.Proofs.Ytmdemhfmhlnlgaa
open Go.Ab
-- loop.example/g01312/laws.FnExactCountBlack
def laws_FnExactCountBlack_M : MC :=
  (.seq (.reg none [
      ⟨(some 2), .mov (.c (.bool false)), none⟩] (some [0]) none)
    (.seq (.reg none [
      ⟨(some 5), .mov (.t 0), none⟩,
      ⟨(some 6), .call 15 [(.t 5)], none⟩,
      ⟨(some 3), .mov (.t 6), none⟩] (some [0, 3]) none)
    (.seq (.reg none [
      ⟨(some 7), .mov (.t 0), none⟩,
      ⟨(some 8), .call 16 [(.t 7)], none⟩,
      ⟨(some 4), .mov (.t 8), none⟩] (some [3, 4]) none)
    (.seq (.seq (.reg none [
      ⟨(some 9), .mov (.t 4), none⟩,
      ⟨(some 10), .mov (.t 3), none⟩,
      ⟨(some 11), .bin .neq (.t 9) (.t 10), none⟩] (some [11]) none)
    (.cond (.t 11) (.seq (.reg none [
      ⟨(some 2), .mov (.c (.bool false)), none⟩] (some [2]) none)
    .ret)
    .skip))
    (.seq (.reg none [
      ⟨(some 2), .mov (.c (.bool true)), none⟩] (some [2]) none)
    .ret)))))
def laws_FnExactCountBlack_F : MF := ⟨12, [.t 2], laws_FnExactCountBlack_M⟩
theorem laws_FnExactCountBlack_ok : OkF Try.prog 3 laws_FnExactCountBlack_F Try.f3 (bodyOf Try.f3) := ⟨Try.func3, by kernel_rfl, by kernel_rfl, by kernel_rfl, by kernel_rfl⟩
-- loop.example/g01312/laws.FnExactSameLayers
def laws_FnExactSameLayers_M : MC :=
  (.seq (.reg none [
      ⟨(some 4), .mov (.c (.bool false)), none⟩] (some [0, 1]) none)
    (.seq (.reg none [
      ⟨(some 5), .mov (.c (.int .i64 1048576)), none⟩] (some [0, 1, 5]) none)
    (.seq (.reg none [
      ⟨(some 10), .mov (.t 0), none⟩,
      ⟨(some 11), .mov (.t 5), none⟩,
      ⟨(some 12), .call 17 [(.t 10), (.t 11)], none⟩,
      ⟨(some 5), .mov (.t 12), none⟩] (some [0, 1, 5]) none)
    (.seq (.seq (.reg none [
      ⟨(some 13), .mov (.t 5), none⟩,
      ⟨(some 14), .bin .lss (.t 13) (.c (.int .i64 0)), none⟩] (some [0, 1, 5, 14]) none)
    (.cond (.t 14) (.seq (.reg none [
      ⟨(some 4), .mov (.c (.bool true)), none⟩] (some [4]) none)
    .ret)
    .skip))
    (.seq (.reg none [
      ⟨(some 15), .mov (.t 1), none⟩,
      ⟨(some 16), .mov (.t 5), none⟩,
      ⟨(some 17), .call 17 [(.t 15), (.t 16)], none⟩,
      ⟨(some 5), .mov (.t 17), none⟩] (some [0, 1, 5]) none)
    (.seq (.seq (.reg none [
      ⟨(some 18), .mov (.t 5), none⟩,
      ⟨(some 19), .bin .lss (.t 18) (.c (.int .i64 0)), none⟩] (some [0, 1, 19]) none)
    (.cond (.t 19) (.seq (.reg none [
      ⟨(some 4), .mov (.c (.bool true)), none⟩] (some [4]) none)
    .ret)
    .skip))
    (.seq (.reg none [
      ⟨(some 20), .mov (.t 0), none⟩,
      ⟨(some 21), .call 19 [(.t 20)], none⟩,
      ⟨(some 22), .mov (.t 1), none⟩,
      ⟨(some 23), .call 19 [(.t 22)], none⟩,
      ⟨(some 24), .call 18 [(.t 21), (.t 23)], none⟩,
      ⟨(some 6), .mov (.t 24), none⟩] (some [0, 1, 6]) none)
    (.seq (.reg none [
      ⟨(some 25), .mov (.t 0), none⟩,
      ⟨(some 26), .call 19 [(.t 25)], none⟩,
      ⟨(some 7), .mov (.t 26), none⟩] (some [0, 1, 6, 7]) none)
    (.seq (.reg none [
      ⟨(some 27), .mov (.t 1), none⟩,
      ⟨(some 28), .call 19 [(.t 27)], none⟩,
      ⟨(some 8), .mov (.t 28), none⟩] (some [0, 1, 6, 7, 8]) none)
    (.seq (.reg none [
      ⟨(some 29), .mov (.t 7), none⟩,
      ⟨(some 30), .mov (.t 8), none⟩,
      ⟨(some 31), .call 20 [(.t 29), (.t 30)], none⟩,
      ⟨(some 9), .mov (.t 31), none⟩] (some [0, 1, 6, 7, 8, 9]) none)
    (.seq (.seq (.reg none [
      ⟨(some 32), .mov (.t 9), none⟩,
      ⟨(some 33), .mov (.t 6), none⟩,
      ⟨(some 34), .beq true (.t 32) (.t 33), none⟩] (some [0, 1, 7, 8, 34]) none)
    (.cond (.t 34) (.seq (.reg none [
      ⟨(some 4), .mov (.c (.bool false)), none⟩] (some [4]) none)
    .ret)
    .skip))
    (.seq (.seq (.reg none [
      ⟨(some 35), .mov (.t 7), none⟩,
      ⟨(some 36), .mov (.t 0), none⟩,
      ⟨(some 37), .call 19 [(.t 36)], none⟩,
      ⟨(some 38), .call 21 [(.t 35), (.t 37)], none⟩,
      ⟨(some 39), .un .not (.t 38), none⟩] (some [1, 8, 39]) none)
    (.cond (.t 39) (.seq (.reg none [
      ⟨(some 4), .mov (.c (.bool false)), none⟩] (some [4]) none)
    .ret)
    .skip))
    (.seq (.seq (.reg none [
      ⟨(some 40), .mov (.t 8), none⟩,
      ⟨(some 41), .mov (.t 1), none⟩,
      ⟨(some 42), .call 19 [(.t 41)], none⟩,
      ⟨(some 43), .call 21 [(.t 40), (.t 42)], none⟩,
      ⟨(some 44), .un .not (.t 43), none⟩] (some [44]) none)
    (.cond (.t 44) (.seq (.reg none [
      ⟨(some 4), .mov (.c (.bool false)), none⟩] (some [4]) none)
    .ret)
    .skip))
    (.seq (.reg none [
      ⟨(some 4), .mov (.c (.bool true)), none⟩] (some [4]) none)
    .ret))))))))))))))
def laws_FnExactSameLayers_F : MF := ⟨45, [.t 4], laws_FnExactSameLayers_M⟩
theorem laws_FnExactSameLayers_ok : OkF Try.prog 4 laws_FnExactSameLayers_F Try.f4 (bodyOf Try.f4) := ⟨Try.func4, by kernel_rfl, by kernel_rfl, by kernel_rfl, by kernel_rfl⟩
-- loop.example/g01312/laws.FnExactNextOrder
def laws_FnExactNextOrder_M : MC :=
  (.seq (.reg none [
      ⟨(some 4), .mov (.c (.bool false)), none⟩] (some [0, 1]) none)
    (.seq (.reg none [
      ⟨(some 17), .mov (.t 0), none⟩,
      ⟨(some 18), .mov (.t 1), none⟩,
      ⟨(some 19), .call 22 [(.t 17), (.t 18)], none⟩,
      ⟨(some 16), .mov (.t 19), none⟩,
      ⟨(some 20), .ext (.t 16) 0, none⟩,
      ⟨(some 21), .ext (.t 16) 1, none⟩,
      ⟨(some 22), .ext (.t 16) 2, none⟩,
      ⟨(some 5), .mov (.t 20), none⟩,
      ⟨(some 6), .mov (.t 21), none⟩,
      ⟨(some 7), .mov (.t 22), none⟩] (some [0, 1, 5, 6, 7]) none)
    (.seq (.reg none [
      ⟨(some 24), .mov (.t 0), none⟩,
      ⟨(some 25), .mov (.t 1), none⟩,
      ⟨(some 26), .call 23 [(.t 24), (.t 25)], none⟩,
      ⟨(some 23), .mov (.t 26), none⟩,
      ⟨(some 27), .ext (.t 23) 0, none⟩,
      ⟨(some 28), .ext (.t 23) 1, none⟩,
      ⟨(some 29), .ext (.t 23) 2, none⟩,
      ⟨(some 8), .mov (.t 27), none⟩,
      ⟨(some 9), .mov (.t 28), none⟩,
      ⟨(some 10), .mov (.t 29), none⟩] (some [0, 1, 5, 6, 7, 8, 9, 10]) none)
    (.seq (.seq (.reg none [
      ⟨(some 30), .mov (.t 8), none⟩,
      ⟨(some 31), .mov (.t 5), none⟩,
      ⟨(some 32), .call 24 [(.t 30), (.t 31)], none⟩,
      ⟨(some 33), .un .not (.t 32), none⟩,
      ⟨(some 34), .mov (.t 33), none⟩,
      ⟨(some 35), .mov (.t 9), some (34, false)⟩,
      ⟨(some 36), .mov (.t 6), some (34, false)⟩,
      ⟨(some 37), .bin .neq (.t 35) (.t 36), some (34, false)⟩,
      ⟨(some 38), .pick (.t 34) (.c (.bool true)) (.t 37), none⟩,
      ⟨(some 39), .mov (.t 38), none⟩,
      ⟨(some 40), .mov (.t 10), some (39, false)⟩,
      ⟨(some 41), .mov (.t 7), some (39, false)⟩,
      ⟨(some 42), .bin .neq (.t 40) (.t 41), some (39, false)⟩,
      ⟨(some 43), .pick (.t 39) (.c (.bool true)) (.t 42), none⟩] (some [0, 1, 5, 6, 7, 8, 43]) none)
    (.cond (.t 43) (.seq (.reg none [
      ⟨(some 4), .mov (.c (.bool false)), none⟩] (some [4]) none)
    .ret)
    .skip))
    (.seq (.reg none [
      ⟨(some 11), .mov (.c (.int .i64 1)), none⟩] (some [0, 1, 5, 6, 7, 8, 11]) none)
    (.seq (.reg none [
      ⟨(some 44), .mov (.t 8), none⟩,
      ⟨(some 45), .mov (.t 11), none⟩,
      ⟨(some 46), .call 25 [(.t 44), (.t 45)], none⟩,
      ⟨(some 11), .mov (.t 46), none⟩] (some [0, 1, 5, 6, 7, 8, 11]) none)
    (.seq (.reg none [
      ⟨(some 12), .mov (.c (.int .i64 1)), none⟩] (some [0, 1, 5, 6, 7, 8, 11, 12]) none)
    (.seq (.reg none [
      ⟨(some 47), .mov (.t 8), none⟩,
      ⟨(some 48), .mov (.t 12), none⟩,
      ⟨(some 49), .call 26 [(.t 47), (.t 48)], none⟩,
      ⟨(some 12), .mov (.t 49), none⟩] (some [0, 1, 5, 6, 7, 8, 11, 12]) none)
    (.seq (.seq (.reg none [
      ⟨(some 50), .mov (.t 12), none⟩,
      ⟨(some 51), .bin .lss (.t 50) (.c (.int .i64 0)), none⟩] (some [0, 1, 5, 6, 7, 8, 11, 12, 51]) none)
    (.cond (.t 51) (.seq (.reg none [
      ⟨(some 4), .mov (.c (.bool false)), none⟩] (some [4]) none)
    .ret)
    .skip))
    (.seq (.seq (.reg none [
      ⟨(some 52), .mov (.t 12), none⟩,
      ⟨(some 53), .mov (.t 11), none⟩,
      ⟨(some 54), .bin .neq (.t 52) (.t 53), none⟩] (some [0, 1, 5, 6, 7, 8, 11, 54]) none)
    (.cond (.t 54) (.seq (.reg none [
      ⟨(some 4), .mov (.c (.bool false)), none⟩] (some [4]) none)
    .ret)
    .skip))
    (.seq (.reg none [
      ⟨(some 56), .mov (.t 0), none⟩,
      ⟨(some 57), .mov (.t 1), none⟩,
      ⟨(some 58), .call 23 [(.t 56), (.t 57)], none⟩,
      ⟨(some 55), .mov (.t 58), none⟩,
      ⟨(some 59), .ext (.t 55) 0, none⟩,
      ⟨(some 60), .ext (.t 55) 1, none⟩,
      ⟨(some 61), .ext (.t 55) 2, none⟩,
      ⟨(some 13), .mov (.t 59), none⟩,
      ⟨(some 14), .mov (.t 60), none⟩,
      ⟨(some 15), .mov (.t 61), none⟩] (some [5, 6, 7, 8, 11, 13, 14, 15]) none)
    (.seq (.seq (.reg none [
      ⟨(some 62), .mov (.t 13), none⟩,
      ⟨(some 63), .mov (.t 5), none⟩,
      ⟨(some 64), .call 24 [(.t 62), (.t 63)], none⟩,
      ⟨(some 65), .un .not (.t 64), none⟩,
      ⟨(some 66), .mov (.t 65), none⟩,
      ⟨(some 67), .mov (.t 14), some (66, false)⟩,
      ⟨(some 68), .mov (.t 6), some (66, false)⟩,
      ⟨(some 69), .bin .neq (.t 67) (.t 68), some (66, false)⟩,
      ⟨(some 70), .pick (.t 66) (.c (.bool true)) (.t 69), none⟩,
      ⟨(some 71), .mov (.t 70), none⟩,
      ⟨(some 72), .mov (.t 15), some (71, false)⟩,
      ⟨(some 73), .mov (.t 7), some (71, false)⟩,
      ⟨(some 74), .bin .neq (.t 72) (.t 73), some (71, false)⟩,
      ⟨(some 75), .pick (.t 71) (.c (.bool true)) (.t 74), none⟩] (some [8, 11, 75]) none)
    (.cond (.t 75) (.seq (.reg none [
      ⟨(some 4), .mov (.c (.bool false)), none⟩] (some [4]) none)
    .ret)
    .skip))
    (.seq (.reg none [
      ⟨(some 12), .mov (.c (.int .i64 1)), none⟩] (some [8, 11, 12]) none)
    (.seq (.reg none [
      ⟨(some 76), .mov (.t 8), none⟩,
      ⟨(some 77), .mov (.t 12), none⟩,
      ⟨(some 78), .call 26 [(.t 76), (.t 77)], none⟩,
      ⟨(some 12), .mov (.t 78), none⟩] (some [11, 12]) none)
    (.seq (.seq (.reg none [
      ⟨(some 79), .mov (.t 12), none⟩,
      ⟨(some 80), .bin .lss (.t 79) (.c (.int .i64 0)), none⟩] (some [11, 12, 80]) none)
    (.cond (.t 80) (.seq (.reg none [
      ⟨(some 4), .mov (.c (.bool false)), none⟩] (some [4]) none)
    .ret)
    .skip))
    (.seq (.seq (.reg none [
      ⟨(some 81), .mov (.t 12), none⟩,
      ⟨(some 82), .mov (.t 11), none⟩,
      ⟨(some 83), .bin .neq (.t 81) (.t 82), none⟩] (some [83]) none)
    (.cond (.t 83) (.seq (.reg none [
      ⟨(some 4), .mov (.c (.bool false)), none⟩] (some [4]) none)
    .ret)
    .skip))
    (.seq (.reg none [
      ⟨(some 4), .mov (.c (.bool true)), none⟩] (some [4]) none)
    .ret)))))))))))))))))
def laws_FnExactNextOrder_F : MF := ⟨84, [.t 4], laws_FnExactNextOrder_M⟩
theorem laws_FnExactNextOrder_ok : OkF Try.prog 5 laws_FnExactNextOrder_F Try.f5 (bodyOf Try.f5) := ⟨Try.func5, by kernel_rfl, by kernel_rfl, by kernel_rfl, by kernel_rfl⟩
-- loop.example/g01312/laws.FnExactAllOf
def laws_FnExactAllOf_M : MC :=
  (.seq (.reg none [
      ⟨(some 2), .mov (.c (.bool false)), none⟩] (some [0]) none)
    (.seq (.reg none [
      ⟨(some 8), .mov (.t 0), none⟩,
      ⟨(some 9), .call 27 [(.t 8)], none⟩,
      ⟨(some 7), .mov (.t 9), none⟩,
      ⟨(some 10), .ext (.t 7) 0, none⟩,
      ⟨(some 11), .ext (.t 7) 1, none⟩,
      ⟨(some 3), .new (rl [(2, .int .i8 0), (12, .int .u8 0)]), none⟩,
      ⟨none, .store 14 (.t 3) (.t 10), none⟩,
      ⟨(some 4), .mov (.t 11), none⟩] (some [0, 3, 4]) none)
    (.seq (.reg none [
      ⟨(some 13), .mov (.t 0), none⟩,
      ⟨(some 14), .call 28 [(.t 13)], none⟩,
      ⟨(some 12), .mov (.t 14), none⟩,
      ⟨(some 15), .ext (.t 12) 0, none⟩,
      ⟨(some 16), .ext (.t 12) 1, none⟩,
      ⟨(some 5), .new (rl [(2, .int .i8 0), (12, .int .u8 0)]), none⟩,
      ⟨none, .store 14 (.t 5) (.t 15), none⟩,
      ⟨(some 6), .mov (.t 16), none⟩] (some [3, 4, 5, 6]) none)
    (.seq (.seq (.reg none [
      ⟨(some 17), .load (some 14) (.t 5), none⟩,
      ⟨(some 18), .load (some 14) (.t 3), none⟩,
      ⟨(some 19), .call 29 [(.t 17), (.t 18)], none⟩,
      ⟨(some 20), .un .not (.t 19), none⟩,
      ⟨(some 21), .mov (.t 20), none⟩,
      ⟨(some 22), .mov (.t 6), some (21, false)⟩,
      ⟨(some 23), .mov (.t 4), some (21, false)⟩,
      ⟨(some 24), .bin .neq (.t 22) (.t 23), some (21, false)⟩,
      ⟨(some 25), .pick (.t 21) (.c (.bool true)) (.t 24), none⟩] (some [25]) none)
    (.cond (.t 25) (.seq (.reg none [
      ⟨(some 2), .mov (.c (.bool false)), none⟩] (some [2]) none)
    .ret)
    .skip))
    (.seq (.reg none [
      ⟨(some 2), .mov (.c (.bool true)), none⟩] (some [2]) none)
    .ret)))))
def laws_FnExactAllOf_F : MF := ⟨26, [.t 2], laws_FnExactAllOf_M⟩
theorem laws_FnExactAllOf_ok : OkF Try.prog 6 laws_FnExactAllOf_F Try.f6 (bodyOf Try.f6) := ⟨Try.func6, by kernel_rfl, by kernel_rfl, by kernel_rfl, by kernel_rfl⟩
-- loop.example/g01312/laws.FnExactReorderShares
def laws_FnExactReorderShares_M : MC :=
  (.seq (.reg none [
      ⟨(some 2), .box (.t 0), none⟩,
      ⟨(some 4), .mov (.c (.bool false)), none⟩] (some [1, 2]) none)
    (.seq (.seq (.reg none [
      ⟨(some 10), .mov (.t 1), none⟩,
      ⟨(some 11), .lenS (.t 10), none⟩,
      ⟨(some 12), .bin .gtr (.t 11) (.c (.int .i64 1048576)), none⟩] (some [1, 2, 12]) none)
    (.cond (.t 12) (.seq (.reg none [
      ⟨(some 4), .mov (.c (.bool true)), none⟩] (some [4]) none)
    .ret)
    .skip))
    (.seq (.reg none [
      ⟨(some 14), .load (some 14) (.t 2), none⟩,
      ⟨(some 15), .call 31 [(.t 14)], none⟩,
      ⟨(some 16), .mov (.t 1), none⟩,
      ⟨(some 17), .call 32 [(.t 16)], none⟩,
      ⟨(some 18), .call 30 [(.t 15), (.t 17)], none⟩,
      ⟨(some 13), .mov (.t 18), none⟩,
      ⟨(some 19), .ext (.t 13) 0, none⟩,
      ⟨(some 20), .ext (.t 13) 1, none⟩,
      ⟨(some 5), .new (rl [(2, .int .i8 0), (12, .int .u8 0)]), none⟩,
      ⟨none, .store 14 (.t 5) (.t 19), none⟩,
      ⟨(some 6), .mov (.t 20), none⟩] (some [1, 2, 5, 6]) none)
    (.seq (.reg none [
      ⟨(some 21), .mov (.t 1), none⟩,
      ⟨(some 22), .call 32 [(.t 21)], none⟩,
      ⟨(some 7), .mov (.t 22), none⟩] (some [1, 2, 5, 6, 7]) none)
    (.seq (.reg none [
      ⟨(some 24), .load (some 14) (.t 2), none⟩,
      ⟨(some 25), .call 31 [(.t 24)], none⟩,
      ⟨(some 26), .mov (.t 7), none⟩,
      ⟨(some 27), .call 33 [(.t 25), (.t 26)], none⟩,
      ⟨(some 23), .mov (.t 27), none⟩,
      ⟨(some 28), .ext (.t 23) 0, none⟩,
      ⟨(some 29), .ext (.t 23) 1, none⟩,
      ⟨(some 8), .new (rl [(2, .int .i8 0), (12, .int .u8 0)]), none⟩,
      ⟨none, .store 14 (.t 8) (.t 28), none⟩,
      ⟨(some 9), .mov (.t 29), none⟩] (some [1, 5, 6, 7, 8, 9]) none)
    (.seq (.seq (.reg none [
      ⟨(some 30), .load (some 14) (.t 8), none⟩,
      ⟨(some 31), .load (some 14) (.t 5), none⟩,
      ⟨(some 32), .call 29 [(.t 30), (.t 31)], none⟩,
      ⟨(some 33), .un .not (.t 32), none⟩,
      ⟨(some 34), .mov (.t 33), none⟩,
      ⟨(some 35), .mov (.t 9), some (34, false)⟩,
      ⟨(some 36), .mov (.t 6), some (34, false)⟩,
      ⟨(some 37), .bin .neq (.t 35) (.t 36), some (34, false)⟩,
      ⟨(some 38), .pick (.t 34) (.c (.bool true)) (.t 37), none⟩] (some [1, 7, 38]) none)
    (.cond (.t 38) (.seq (.reg none [
      ⟨(some 4), .mov (.c (.bool false)), none⟩] (some [4]) none)
    .ret)
    .skip))
    (.seq (.seq (.reg none [
      ⟨(some 39), .mov (.t 7), none⟩,
      ⟨(some 40), .mov (.t 1), none⟩,
      ⟨(some 41), .call 32 [(.t 40)], none⟩,
      ⟨(some 42), .call 24 [(.t 39), (.t 41)], none⟩,
      ⟨(some 43), .un .not (.t 42), none⟩] (some [43]) none)
    (.cond (.t 43) (.seq (.reg none [
      ⟨(some 4), .mov (.c (.bool false)), none⟩] (some [4]) none)
    .ret)
    .skip))
    (.seq (.reg none [
      ⟨(some 4), .mov (.c (.bool true)), none⟩] (some [4]) none)
    .ret))))))))
def laws_FnExactReorderShares_F : MF := ⟨44, [.t 4], laws_FnExactReorderShares_M⟩
theorem laws_FnExactReorderShares_ok : OkF Try.prog 7 laws_FnExactReorderShares_F Try.f7 (bodyOf Try.f7) := ⟨Try.func7, by kernel_rfl, by kernel_rfl, by kernel_rfl, by kernel_rfl⟩
-- loop.example/g01312/laws.FnExactColumnsOf
def laws_FnExactColumnsOf_M : MC :=
  (.seq (.reg none [
      ⟨(some 3), .box (.t 0), none⟩,
      ⟨(some 6), .mov (.c (.bool false)), none⟩] (some [1, 2, 3]) none)
    (.seq (.reg none [
      ⟨(some 12), .load (some 14) (.t 3), none⟩,
      ⟨(some 13), .call 31 [(.t 12)], none⟩,
      ⟨(some 14), .mov (.t 1), none⟩,
      ⟨(some 15), .mov (.t 2), none⟩,
      ⟨(some 16), .call 34 [(.t 13), (.t 14), (.t 15)], none⟩,
      ⟨(some 11), .mov (.t 16), none⟩,
      ⟨(some 17), .ext (.t 11) 0, none⟩,
      ⟨(some 18), .ext (.t 11) 1, none⟩,
      ⟨(some 7), .new (rl [(64, .int .i8 0)]), none⟩,
      ⟨none, .store 64 (.t 7) (.t 17), none⟩,
      ⟨(some 8), .mov (.t 18), none⟩] (some [1, 2, 3, 7, 8]) none)
    (.seq (.reg none [
      ⟨(some 20), .load (some 14) (.t 3), none⟩,
      ⟨(some 21), .call 31 [(.t 20)], none⟩,
      ⟨(some 22), .mov (.t 1), none⟩,
      ⟨(some 23), .mov (.t 2), none⟩,
      ⟨(some 24), .call 35 [(.t 21), (.t 22), (.t 23)], none⟩,
      ⟨(some 19), .mov (.t 24), none⟩,
      ⟨(some 25), .ext (.t 19) 0, none⟩,
      ⟨(some 26), .ext (.t 19) 1, none⟩,
      ⟨(some 9), .new (rl [(64, .int .i8 0)]), none⟩,
      ⟨none, .store 64 (.t 9) (.t 25), none⟩,
      ⟨(some 10), .mov (.t 26), none⟩] (some [7, 8, 9, 10]) none)
    (.seq (.seq (.reg none [
      ⟨(some 27), .load (some 64) (.t 9), none⟩,
      ⟨(some 28), .load (some 64) (.t 7), none⟩,
      ⟨(some 29), .call 36 [(.t 27), (.t 28)], none⟩,
      ⟨(some 30), .un .not (.t 29), none⟩,
      ⟨(some 31), .mov (.t 30), none⟩,
      ⟨(some 32), .mov (.t 10), some (31, false)⟩,
      ⟨(some 33), .mov (.t 8), some (31, false)⟩,
      ⟨(some 34), .bin .neq (.t 32) (.t 33), some (31, false)⟩,
      ⟨(some 35), .pick (.t 31) (.c (.bool true)) (.t 34), none⟩] (some [35]) none)
    (.cond (.t 35) (.seq (.reg none [
      ⟨(some 6), .mov (.c (.bool false)), none⟩] (some [6]) none)
    .ret)
    .skip))
    (.seq (.reg none [
      ⟨(some 6), .mov (.c (.bool true)), none⟩] (some [6]) none)
    .ret)))))
def laws_FnExactColumnsOf_F : MF := ⟨36, [.t 6], laws_FnExactColumnsOf_M⟩
theorem laws_FnExactColumnsOf_ok : OkF Try.prog 8 laws_FnExactColumnsOf_F Try.f8 (bodyOf Try.f8) := ⟨Try.func8, by kernel_rfl, by kernel_rfl, by kernel_rfl, by kernel_rfl⟩
-- loop.example/g01312/laws.FnExactReorderParts
def laws_FnExactReorderParts_M : MC :=
  (.seq (.reg none [
      ⟨(some 2), .box (.t 0), none⟩,
      ⟨(some 4), .mov (.c (.bool false)), none⟩] (some [1, 2]) none)
    (.seq (.seq (.reg none [
      ⟨(some 10), .mov (.t 1), none⟩,
      ⟨(some 11), .lenS (.t 10), none⟩,
      ⟨(some 12), .bin .gtr (.t 11) (.c (.int .i64 1048576)), none⟩] (some [1, 2, 12]) none)
    (.cond (.t 12) (.seq (.reg none [
      ⟨(some 4), .mov (.c (.bool true)), none⟩] (some [4]) none)
    .ret)
    .skip))
    (.seq (.reg none [
      ⟨(some 14), .load (some 65) (.t 2), none⟩,
      ⟨(some 15), .call 38 [(.t 14)], none⟩,
      ⟨(some 16), .mov (.t 1), none⟩,
      ⟨(some 17), .call 32 [(.t 16)], none⟩,
      ⟨(some 18), .call 37 [(.t 15), (.t 17)], none⟩,
      ⟨(some 13), .mov (.t 18), none⟩,
      ⟨(some 19), .ext (.t 13) 0, none⟩,
      ⟨(some 20), .ext (.t 13) 1, none⟩,
      ⟨(some 5), .new (rl [(1, .int .i8 0), (64, .int .u8 0)]), none⟩,
      ⟨none, .store 65 (.t 5) (.t 19), none⟩,
      ⟨(some 6), .mov (.t 20), none⟩] (some [1, 2, 5, 6]) none)
    (.seq (.reg none [
      ⟨(some 21), .mov (.t 1), none⟩,
      ⟨(some 22), .call 32 [(.t 21)], none⟩,
      ⟨(some 7), .mov (.t 22), none⟩] (some [1, 2, 5, 6, 7]) none)
    (.seq (.reg none [
      ⟨(some 24), .load (some 65) (.t 2), none⟩,
      ⟨(some 25), .call 38 [(.t 24)], none⟩,
      ⟨(some 26), .mov (.t 7), none⟩,
      ⟨(some 27), .call 39 [(.t 25), (.t 26)], none⟩,
      ⟨(some 23), .mov (.t 27), none⟩,
      ⟨(some 28), .ext (.t 23) 0, none⟩,
      ⟨(some 29), .ext (.t 23) 1, none⟩,
      ⟨(some 8), .new (rl [(1, .int .i8 0), (64, .int .u8 0)]), none⟩,
      ⟨none, .store 65 (.t 8) (.t 28), none⟩,
      ⟨(some 9), .mov (.t 29), none⟩] (some [1, 5, 6, 7, 8, 9]) none)
    (.seq (.seq (.reg none [
      ⟨(some 30), .load (some 65) (.t 8), none⟩,
      ⟨(some 31), .load (some 65) (.t 5), none⟩,
      ⟨(some 32), .call 40 [(.t 30), (.t 31)], none⟩,
      ⟨(some 33), .un .not (.t 32), none⟩,
      ⟨(some 34), .mov (.t 33), none⟩,
      ⟨(some 35), .mov (.t 9), some (34, false)⟩,
      ⟨(some 36), .mov (.t 6), some (34, false)⟩,
      ⟨(some 37), .bin .neq (.t 35) (.t 36), some (34, false)⟩,
      ⟨(some 38), .pick (.t 34) (.c (.bool true)) (.t 37), none⟩] (some [1, 7, 38]) none)
    (.cond (.t 38) (.seq (.reg none [
      ⟨(some 4), .mov (.c (.bool false)), none⟩] (some [4]) none)
    .ret)
    .skip))
    (.seq (.seq (.reg none [
      ⟨(some 39), .mov (.t 7), none⟩,
      ⟨(some 40), .mov (.t 1), none⟩,
      ⟨(some 41), .call 32 [(.t 40)], none⟩,
      ⟨(some 42), .call 24 [(.t 39), (.t 41)], none⟩,
      ⟨(some 43), .un .not (.t 42), none⟩] (some [43]) none)
    (.cond (.t 43) (.seq (.reg none [
      ⟨(some 4), .mov (.c (.bool false)), none⟩] (some [4]) none)
    .ret)
    .skip))
    (.seq (.reg none [
      ⟨(some 4), .mov (.c (.bool true)), none⟩] (some [4]) none)
    .ret))))))))
def laws_FnExactReorderParts_F : MF := ⟨44, [.t 4], laws_FnExactReorderParts_M⟩
theorem laws_FnExactReorderParts_ok : OkF Try.prog 9 laws_FnExactReorderParts_F Try.f9 (bodyOf Try.f9) := ⟨Try.func9, by kernel_rfl, by kernel_rfl, by kernel_rfl, by kernel_rfl⟩
-- loop.example/g01312/laws.FnExactSeeingSets
def laws_FnExactSeeingSets_M : MC :=
  (.seq (.reg none [
      ⟨(some 1), .box (.t 0), none⟩,
      ⟨(some 2), .mov (.c (.bool false)), none⟩] (some [1]) none)
    (.seq (.reg none [
      ⟨(some 8), .load (some 14) (.t 1), none⟩,
      ⟨(some 9), .call 31 [(.t 8)], none⟩,
      ⟨(some 10), .call 41 [(.t 9)], none⟩,
      ⟨(some 7), .mov (.t 10), none⟩,
      ⟨(some 11), .ext (.t 7) 0, none⟩,
      ⟨(some 12), .ext (.t 7) 1, none⟩,
      ⟨(some 3), .mov (.t 11), none⟩,
      ⟨(some 4), .mov (.t 12), none⟩] (some [1, 3, 4]) none)
    (.seq (.reg none [
      ⟨(some 14), .load (some 14) (.t 1), none⟩,
      ⟨(some 15), .call 31 [(.t 14)], none⟩,
      ⟨(some 16), .call 42 [(.t 15)], none⟩,
      ⟨(some 13), .mov (.t 16), none⟩,
      ⟨(some 17), .ext (.t 13) 0, none⟩,
      ⟨(some 18), .ext (.t 13) 1, none⟩,
      ⟨(some 5), .mov (.t 17), none⟩,
      ⟨(some 6), .mov (.t 18), none⟩] (some [3, 4, 5, 6]) none)
    (.seq (.seq (.reg none [
      ⟨(some 19), .mov (.t 5), none⟩,
      ⟨(some 20), .mov (.t 3), none⟩,
      ⟨(some 21), .bin .neq (.t 19) (.t 20), none⟩,
      ⟨(some 22), .mov (.t 21), none⟩,
      ⟨(some 23), .mov (.t 6), some (22, false)⟩,
      ⟨(some 24), .mov (.t 4), some (22, false)⟩,
      ⟨(some 25), .bin .neq (.t 23) (.t 24), some (22, false)⟩,
      ⟨(some 26), .pick (.t 22) (.c (.bool true)) (.t 25), none⟩] (some [26]) none)
    (.cond (.t 26) (.seq (.reg none [
      ⟨(some 2), .mov (.c (.bool false)), none⟩] (some [2]) none)
    .ret)
    .skip))
    (.seq (.reg none [
      ⟨(some 2), .mov (.c (.bool true)), none⟩] (some [2]) none)
    .ret)))))
def laws_FnExactSeeingSets_F : MF := ⟨27, [.t 2], laws_FnExactSeeingSets_M⟩
theorem laws_FnExactSeeingSets_ok : OkF Try.prog 10 laws_FnExactSeeingSets_F Try.f10 (bodyOf Try.f10) := ⟨Try.func10, by kernel_rfl, by kernel_rfl, by kernel_rfl, by kernel_rfl⟩
-- loop.example/g01312/laws.FnExactStackLayers
def laws_FnExactStackLayers_M : MC :=
  (.seq (.reg none [
      ⟨(some 2), .mov (.c (.bool false)), none⟩] (some [0]) none)
    (.seq (.reg none [
      ⟨(some 3), .mov (.c (.int .i64 1048576)), none⟩] (some [0, 3]) none)
    (.seq (.reg none [
      ⟨(some 9), .mov (.t 0), none⟩,
      ⟨(some 10), .mov (.t 3), none⟩,
      ⟨(some 11), .call 17 [(.t 9), (.t 10)], none⟩,
      ⟨(some 3), .mov (.t 11), none⟩] (some [0, 3]) none)
    (.seq (.seq (.reg none [
      ⟨(some 12), .mov (.t 3), none⟩,
      ⟨(some 13), .bin .lss (.t 12) (.c (.int .i64 0)), none⟩] (some [0, 13]) none)
    (.cond (.t 13) (.seq (.reg none [
      ⟨(some 2), .mov (.c (.bool true)), none⟩] (some [2]) none)
    .ret)
    .skip))
    (.seq (.reg none [
      ⟨(some 15), .mov (.t 0), none⟩,
      ⟨(some 16), .call 19 [(.t 15)], none⟩,
      ⟨(some 17), .call 43 [(.t 16)], none⟩,
      ⟨(some 14), .mov (.t 17), none⟩,
      ⟨(some 18), .ext (.t 14) 0, none⟩,
      ⟨(some 19), .ext (.t 14) 1, none⟩,
      ⟨(some 4), .new (rl [(1, .int .i8 0), (64, .int .u8 0)]), none⟩,
      ⟨none, .store 65 (.t 4) (.t 18), none⟩,
      ⟨(some 5), .mov (.t 19), none⟩] (some [0, 4, 5]) none)
    (.seq (.reg none [
      ⟨(some 20), .mov (.t 0), none⟩,
      ⟨(some 21), .call 19 [(.t 20)], none⟩,
      ⟨(some 6), .mov (.t 21), none⟩] (some [0, 4, 5, 6]) none)
    (.seq (.reg none [
      ⟨(some 23), .mov (.t 6), none⟩,
      ⟨(some 24), .call 44 [(.t 23)], none⟩,
      ⟨(some 22), .mov (.t 24), none⟩,
      ⟨(some 25), .ext (.t 22) 0, none⟩,
      ⟨(some 26), .ext (.t 22) 1, none⟩,
      ⟨(some 7), .new (rl [(1, .int .i8 0), (64, .int .u8 0)]), none⟩,
      ⟨none, .store 65 (.t 7) (.t 25), none⟩,
      ⟨(some 8), .mov (.t 26), none⟩] (some [0, 4, 5, 6, 7, 8]) none)
    (.seq (.seq (.reg none [
      ⟨(some 27), .load (some 65) (.t 7), none⟩,
      ⟨(some 28), .load (some 65) (.t 4), none⟩,
      ⟨(some 29), .call 40 [(.t 27), (.t 28)], none⟩,
      ⟨(some 30), .un .not (.t 29), none⟩,
      ⟨(some 31), .mov (.t 30), none⟩,
      ⟨(some 32), .mov (.t 8), some (31, false)⟩,
      ⟨(some 33), .mov (.t 5), some (31, false)⟩,
      ⟨(some 34), .bin .neq (.t 32) (.t 33), some (31, false)⟩,
      ⟨(some 35), .pick (.t 31) (.c (.bool true)) (.t 34), none⟩] (some [0, 6, 35]) none)
    (.cond (.t 35) (.seq (.reg none [
      ⟨(some 2), .mov (.c (.bool false)), none⟩] (some [2]) none)
    .ret)
    .skip))
    (.seq (.seq (.reg none [
      ⟨(some 36), .mov (.t 6), none⟩,
      ⟨(some 37), .mov (.t 0), none⟩,
      ⟨(some 38), .call 19 [(.t 37)], none⟩,
      ⟨(some 39), .call 21 [(.t 36), (.t 38)], none⟩,
      ⟨(some 40), .un .not (.t 39), none⟩] (some [40]) none)
    (.cond (.t 40) (.seq (.reg none [
      ⟨(some 2), .mov (.c (.bool false)), none⟩] (some [2]) none)
    .ret)
    .skip))
    (.seq (.reg none [
      ⟨(some 2), .mov (.c (.bool true)), none⟩] (some [2]) none)
    .ret))))))))))
def laws_FnExactStackLayers_F : MF := ⟨41, [.t 2], laws_FnExactStackLayers_M⟩
theorem laws_FnExactStackLayers_ok : OkF Try.prog 11 laws_FnExactStackLayers_F Try.f11 (bodyOf Try.f11) := ⟨Try.func11, by kernel_rfl, by kernel_rfl, by kernel_rfl, by kernel_rfl⟩
-- loop.example/g01312/laws.FnExactCellFor
def laws_FnExactCellFor_M : MC :=
  (.seq (.reg none [
      ⟨(some 3), .box (.t 0), none⟩,
      ⟨(some 6), .mov (.c (.bool false)), none⟩] (some [1, 2, 3]) none)
    (.seq (.seq (.reg none [
      ⟨(some 17), .mov (.t 2), none⟩,
      ⟨(some 18), .lenS (.t 17), none⟩,
      ⟨(some 19), .bin .gtr (.t 18) (.c (.int .i64 1048576)), none⟩] (some [1, 2, 3, 19]) none)
    (.cond (.t 19) (.seq (.reg none [
      ⟨(some 6), .mov (.c (.bool true)), none⟩] (some [6]) none)
    .ret)
    .skip))
    (.seq (.reg none [
      ⟨(some 21), .load (some 14) (.t 3), none⟩,
      ⟨(some 22), .call 31 [(.t 21)], none⟩,
      ⟨(some 23), .mov (.t 1), none⟩,
      ⟨(some 24), .mov (.t 2), none⟩,
      ⟨(some 25), .call 32 [(.t 24)], none⟩,
      ⟨(some 26), .call 45 [(.t 22), (.t 23), (.t 25)], none⟩,
      ⟨(some 20), .mov (.t 26), none⟩,
      ⟨(some 27), .ext (.t 20) 0, none⟩,
      ⟨(some 28), .ext (.t 20) 1, none⟩,
      ⟨(some 7), .mov (.t 27), none⟩,
      ⟨(some 8), .mov (.t 28), none⟩] (some [1, 2, 3, 7, 8]) none)
    (.seq (.reg none [
      ⟨(some 29), .mov (.t 2), none⟩,
      ⟨(some 30), .call 32 [(.t 29)], none⟩,
      ⟨(some 9), .mov (.t 30), none⟩] (some [1, 2, 3, 7, 8, 9]) none)
    (.seq (.reg none [
      ⟨(some 32), .load (some 14) (.t 3), none⟩,
      ⟨(some 33), .call 31 [(.t 32)], none⟩,
      ⟨(some 34), .mov (.t 1), none⟩,
      ⟨(some 35), .mov (.t 9), none⟩,
      ⟨(some 36), .call 46 [(.t 33), (.t 34), (.t 35)], none⟩,
      ⟨(some 31), .mov (.t 36), none⟩,
      ⟨(some 37), .ext (.t 31) 0, none⟩,
      ⟨(some 38), .ext (.t 31) 1, none⟩,
      ⟨(some 10), .mov (.t 37), none⟩,
      ⟨(some 11), .mov (.t 38), none⟩] (some [1, 2, 3, 7, 8, 9, 10, 11]) none)
    (.seq (.seq (.reg none [
      ⟨(some 39), .mov (.t 10), none⟩,
      ⟨(some 40), .mov (.t 7), none⟩,
      ⟨(some 41), .call 47 [(.t 39), (.t 40)], none⟩,
      ⟨(some 42), .un .not (.t 41), none⟩,
      ⟨(some 43), .mov (.t 42), none⟩,
      ⟨(some 44), .mov (.t 11), some (43, false)⟩,
      ⟨(some 45), .mov (.t 8), some (43, false)⟩,
      ⟨(some 46), .bin .neq (.t 44) (.t 45), some (43, false)⟩,
      ⟨(some 47), .pick (.t 43) (.c (.bool true)) (.t 46), none⟩] (some [1, 2, 3, 7, 8, 9, 10, 11, 47]) none)
    (.cond (.t 47) (.seq (.reg none [
      ⟨(some 6), .mov (.c (.bool false)), none⟩] (some [6]) none)
    .ret)
    .skip))
    (.seq (.seq (.reg none [
      ⟨(some 48), .mov (.t 9), none⟩,
      ⟨(some 49), .mov (.t 2), none⟩,
      ⟨(some 50), .call 32 [(.t 49)], none⟩,
      ⟨(some 51), .call 24 [(.t 48), (.t 50)], none⟩,
      ⟨(some 52), .un .not (.t 51), none⟩] (some [1, 2, 3, 7, 8, 9, 10, 11, 52]) none)
    (.cond (.t 52) (.seq (.reg none [
      ⟨(some 6), .mov (.c (.bool false)), none⟩] (some [6]) none)
    .ret)
    .skip))
    (.seq (.reg none [
      ⟨(some 12), .mov (.c (.int .i64 1)), none⟩] (some [1, 2, 3, 7, 8, 9, 10, 11, 12]) none)
    (.seq (.reg none [
      ⟨(some 53), .mov (.t 9), none⟩,
      ⟨(some 54), .mov (.t 12), none⟩,
      ⟨(some 55), .call 25 [(.t 53), (.t 54)], none⟩,
      ⟨(some 12), .mov (.t 55), none⟩] (some [1, 2, 3, 7, 8, 10, 11, 12]) none)
    (.seq (.seq (.reg none [
      ⟨(some 56), .mov (.t 12), none⟩,
      ⟨(some 57), .bin .lss (.t 56) (.c (.int .i64 0)), none⟩,
      ⟨(some 58), .mov (.t 57), none⟩,
      ⟨(some 59), .mov (.t 10), some (58, false)⟩,
      ⟨(some 60), .mov (.t 7), some (58, false)⟩,
      ⟨(some 61), .call 47 [(.t 59), (.t 60)], some (58, false)⟩,
      ⟨(some 62), .un .not (.t 61), some (58, false)⟩,
      ⟨(some 63), .pick (.t 58) (.c (.bool true)) (.t 62), none⟩,
      ⟨(some 64), .mov (.t 63), none⟩,
      ⟨(some 65), .mov (.t 11), some (64, false)⟩,
      ⟨(some 66), .mov (.t 8), some (64, false)⟩,
      ⟨(some 67), .bin .neq (.t 65) (.t 66), some (64, false)⟩,
      ⟨(some 68), .pick (.t 64) (.c (.bool true)) (.t 67), none⟩] (some [1, 2, 3, 7, 8, 10, 68]) none)
    (.cond (.t 68) (.seq (.reg none [
      ⟨(some 6), .mov (.c (.bool false)), none⟩] (some [6]) none)
    .ret)
    .skip))
    (.seq (.reg none [
      ⟨(some 13), .mov (.c (.int .i64 1)), none⟩] (some [1, 2, 3, 7, 8, 10, 13]) none)
    (.seq (.reg none [
      ⟨(some 69), .mov (.t 10), none⟩,
      ⟨(some 70), .mov (.t 13), none⟩,
      ⟨(some 71), .call 48 [(.t 69), (.t 70)], none⟩,
      ⟨(some 13), .mov (.t 71), none⟩] (some [1, 2, 3, 7, 8, 10, 13]) none)
    (.seq (.reg none [
      ⟨(some 14), .mov (.c (.int .i64 1)), none⟩] (some [1, 2, 3, 7, 8, 10, 13, 14]) none)
    (.seq (.reg none [
      ⟨(some 72), .mov (.t 10), none⟩,
      ⟨(some 73), .mov (.t 14), none⟩,
      ⟨(some 74), .call 49 [(.t 72), (.t 73)], none⟩,
      ⟨(some 14), .mov (.t 74), none⟩] (some [1, 2, 3, 7, 8, 10, 13, 14]) none)
    (.seq (.seq (.reg none [
      ⟨(some 75), .mov (.t 14), none⟩,
      ⟨(some 76), .bin .lss (.t 75) (.c (.int .i64 0)), none⟩] (some [1, 2, 3, 7, 8, 10, 13, 14, 76]) none)
    (.cond (.t 76) (.seq (.reg none [
      ⟨(some 6), .mov (.c (.bool false)), none⟩] (some [6]) none)
    .ret)
    .skip))
    (.seq (.seq (.reg none [
      ⟨(some 77), .mov (.t 14), none⟩,
      ⟨(some 78), .mov (.t 13), none⟩,
      ⟨(some 79), .bin .neq (.t 77) (.t 78), none⟩] (some [1, 2, 3, 7, 8, 10, 13, 79]) none)
    (.cond (.t 79) (.seq (.reg none [
      ⟨(some 6), .mov (.c (.bool false)), none⟩] (some [6]) none)
    .ret)
    .skip))
    (.seq (.reg none [
      ⟨(some 81), .load (some 14) (.t 3), none⟩,
      ⟨(some 82), .call 31 [(.t 81)], none⟩,
      ⟨(some 83), .mov (.t 1), none⟩,
      ⟨(some 84), .mov (.t 2), none⟩,
      ⟨(some 85), .call 32 [(.t 84)], none⟩,
      ⟨(some 86), .call 46 [(.t 82), (.t 83), (.t 85)], none⟩,
      ⟨(some 80), .mov (.t 86), none⟩,
      ⟨(some 87), .ext (.t 80) 0, none⟩,
      ⟨(some 88), .ext (.t 80) 1, none⟩,
      ⟨(some 15), .mov (.t 87), none⟩,
      ⟨(some 16), .mov (.t 88), none⟩] (some [7, 8, 10, 13, 15, 16]) none)
    (.seq (.seq (.reg none [
      ⟨(some 89), .mov (.t 15), none⟩,
      ⟨(some 90), .mov (.t 7), none⟩,
      ⟨(some 91), .call 47 [(.t 89), (.t 90)], none⟩,
      ⟨(some 92), .un .not (.t 91), none⟩,
      ⟨(some 93), .mov (.t 92), none⟩,
      ⟨(some 94), .mov (.t 16), some (93, false)⟩,
      ⟨(some 95), .mov (.t 8), some (93, false)⟩,
      ⟨(some 96), .bin .neq (.t 94) (.t 95), some (93, false)⟩,
      ⟨(some 97), .pick (.t 93) (.c (.bool true)) (.t 96), none⟩] (some [10, 13, 97]) none)
    (.cond (.t 97) (.seq (.reg none [
      ⟨(some 6), .mov (.c (.bool false)), none⟩] (some [6]) none)
    .ret)
    .skip))
    (.seq (.reg none [
      ⟨(some 14), .mov (.c (.int .i64 1)), none⟩] (some [10, 13, 14]) none)
    (.seq (.reg none [
      ⟨(some 98), .mov (.t 10), none⟩,
      ⟨(some 99), .mov (.t 14), none⟩,
      ⟨(some 100), .call 49 [(.t 98), (.t 99)], none⟩,
      ⟨(some 14), .mov (.t 100), none⟩] (some [13, 14]) none)
    (.seq (.seq (.reg none [
      ⟨(some 101), .mov (.t 14), none⟩,
      ⟨(some 102), .bin .lss (.t 101) (.c (.int .i64 0)), none⟩] (some [13, 14, 102]) none)
    (.cond (.t 102) (.seq (.reg none [
      ⟨(some 6), .mov (.c (.bool false)), none⟩] (some [6]) none)
    .ret)
    .skip))
    (.seq (.seq (.reg none [
      ⟨(some 103), .mov (.t 14), none⟩,
      ⟨(some 104), .mov (.t 13), none⟩,
      ⟨(some 105), .bin .neq (.t 103) (.t 104), none⟩] (some [105]) none)
    (.cond (.t 105) (.seq (.reg none [
      ⟨(some 6), .mov (.c (.bool false)), none⟩] (some [6]) none)
    .ret)
    .skip))
    (.seq (.reg none [
      ⟨(some 6), .mov (.c (.bool true)), none⟩] (some [6]) none)
    .ret)))))))))))))))))))))))
def laws_FnExactCellFor_F : MF := ⟨106, [.t 6], laws_FnExactCellFor_M⟩
theorem laws_FnExactCellFor_ok : OkF Try.prog 12 laws_FnExactCellFor_F Try.f12 (bodyOf Try.f12) := ⟨Try.func12, by kernel_rfl, by kernel_rfl, by kernel_rfl, by kernel_rfl⟩
-- loop.example/g01312/laws.FnExactStackOf
def laws_FnExactStackOf_M : MC :=
  (.seq (.reg none [
      ⟨(some 4), .mov (.c (.bool false)), none⟩] (some [0, 1]) none)
    (.seq (.reg none [
      ⟨(some 5), .mov (.c (.int .i64 1048576)), none⟩] (some [0, 1, 5]) none)
    (.seq (.reg none [
      ⟨(some 11), .mov (.t 0), none⟩,
      ⟨(some 12), .mov (.t 5), none⟩,
      ⟨(some 13), .call 17 [(.t 11), (.t 12)], none⟩,
      ⟨(some 5), .mov (.t 13), none⟩] (some [0, 1, 5]) none)
    (.seq (.seq (.reg none [
      ⟨(some 14), .mov (.t 5), none⟩,
      ⟨(some 15), .bin .lss (.t 14) (.c (.int .i64 0)), none⟩] (some [0, 1, 15]) none)
    (.cond (.t 15) (.seq (.reg none [
      ⟨(some 4), .mov (.c (.bool true)), none⟩] (some [4]) none)
    .ret)
    .skip))
    (.seq (.reg none [
      ⟨(some 17), .mov (.t 0), none⟩,
      ⟨(some 18), .call 19 [(.t 17)], none⟩,
      ⟨(some 19), .mov (.t 1), none⟩,
      ⟨(some 20), .call 50 [(.t 18), (.t 19)], none⟩,
      ⟨(some 16), .mov (.t 20), none⟩,
      ⟨(some 21), .ext (.t 16) 0, none⟩,
      ⟨(some 22), .ext (.t 16) 1, none⟩,
      ⟨(some 6), .new (rl [(1, .int .i8 0), (64, .int .u8 0)]), none⟩,
      ⟨none, .store 65 (.t 6) (.t 21), none⟩,
      ⟨(some 7), .mov (.t 22), none⟩] (some [0, 1, 6, 7]) none)
    (.seq (.reg none [
      ⟨(some 23), .mov (.t 0), none⟩,
      ⟨(some 24), .call 19 [(.t 23)], none⟩,
      ⟨(some 8), .mov (.t 24), none⟩] (some [0, 1, 6, 7, 8]) none)
    (.seq (.reg none [
      ⟨(some 26), .mov (.t 8), none⟩,
      ⟨(some 27), .mov (.t 1), none⟩,
      ⟨(some 28), .call 51 [(.t 26), (.t 27)], none⟩,
      ⟨(some 25), .mov (.t 28), none⟩,
      ⟨(some 29), .ext (.t 25) 0, none⟩,
      ⟨(some 30), .ext (.t 25) 1, none⟩,
      ⟨(some 9), .new (rl [(1, .int .i8 0), (64, .int .u8 0)]), none⟩,
      ⟨none, .store 65 (.t 9) (.t 29), none⟩,
      ⟨(some 10), .mov (.t 30), none⟩] (some [0, 6, 7, 8, 9, 10]) none)
    (.seq (.seq (.reg none [
      ⟨(some 31), .load (some 65) (.t 9), none⟩,
      ⟨(some 32), .load (some 65) (.t 6), none⟩,
      ⟨(some 33), .call 40 [(.t 31), (.t 32)], none⟩,
      ⟨(some 34), .un .not (.t 33), none⟩,
      ⟨(some 35), .mov (.t 34), none⟩,
      ⟨(some 36), .mov (.t 10), some (35, false)⟩,
      ⟨(some 37), .mov (.t 7), some (35, false)⟩,
      ⟨(some 38), .bin .neq (.t 36) (.t 37), some (35, false)⟩,
      ⟨(some 39), .pick (.t 35) (.c (.bool true)) (.t 38), none⟩] (some [0, 8, 39]) none)
    (.cond (.t 39) (.seq (.reg none [
      ⟨(some 4), .mov (.c (.bool false)), none⟩] (some [4]) none)
    .ret)
    .skip))
    (.seq (.seq (.reg none [
      ⟨(some 40), .mov (.t 8), none⟩,
      ⟨(some 41), .mov (.t 0), none⟩,
      ⟨(some 42), .call 19 [(.t 41)], none⟩,
      ⟨(some 43), .call 21 [(.t 40), (.t 42)], none⟩,
      ⟨(some 44), .un .not (.t 43), none⟩] (some [44]) none)
    (.cond (.t 44) (.seq (.reg none [
      ⟨(some 4), .mov (.c (.bool false)), none⟩] (some [4]) none)
    .ret)
    .skip))
    (.seq (.reg none [
      ⟨(some 4), .mov (.c (.bool true)), none⟩] (some [4]) none)
    .ret))))))))))
def laws_FnExactStackOf_F : MF := ⟨45, [.t 4], laws_FnExactStackOf_M⟩
theorem laws_FnExactStackOf_ok : OkF Try.prog 13 laws_FnExactStackOf_F Try.f13 (bodyOf Try.f13) := ⟨Try.func13, by kernel_rfl, by kernel_rfl, by kernel_rfl, by kernel_rfl⟩
-- loop.example/g01312/laws.FnExactLeastSeeing
def laws_FnExactLeastSeeing_M : MC :=
  (.seq (.reg none [
      ⟨(some 1), .box (.t 0), none⟩,
      ⟨(some 2), .mov (.c (.bool false)), none⟩] (some [1]) none)
    (.seq (.reg none [
      ⟨(some 12), .load (some 14) (.t 1), none⟩,
      ⟨(some 13), .call 31 [(.t 12)], none⟩,
      ⟨(some 14), .call 52 [(.t 13)], none⟩,
      ⟨(some 11), .mov (.t 14), none⟩,
      ⟨(some 15), .ext (.t 11) 0, none⟩,
      ⟨(some 16), .ext (.t 11) 1, none⟩,
      ⟨(some 3), .mov (.t 15), none⟩,
      ⟨(some 4), .mov (.t 16), none⟩] (some [1, 3, 4]) none)
    (.seq (.reg none [
      ⟨(some 18), .load (some 14) (.t 1), none⟩,
      ⟨(some 19), .call 31 [(.t 18)], none⟩,
      ⟨(some 20), .call 53 [(.t 19)], none⟩,
      ⟨(some 17), .mov (.t 20), none⟩,
      ⟨(some 21), .ext (.t 17) 0, none⟩,
      ⟨(some 22), .ext (.t 17) 1, none⟩,
      ⟨(some 5), .mov (.t 21), none⟩,
      ⟨(some 6), .mov (.t 22), none⟩] (some [1, 3, 4, 5, 6]) none)
    (.seq (.seq (.reg none [
      ⟨(some 23), .mov (.t 5), none⟩,
      ⟨(some 24), .mov (.t 3), none⟩,
      ⟨(some 25), .call 47 [(.t 23), (.t 24)], none⟩,
      ⟨(some 26), .un .not (.t 25), none⟩,
      ⟨(some 27), .mov (.t 26), none⟩,
      ⟨(some 28), .mov (.t 6), some (27, false)⟩,
      ⟨(some 29), .mov (.t 4), some (27, false)⟩,
      ⟨(some 30), .bin .neq (.t 28) (.t 29), some (27, false)⟩,
      ⟨(some 31), .pick (.t 27) (.c (.bool true)) (.t 30), none⟩] (some [1, 3, 4, 5, 31]) none)
    (.cond (.t 31) (.seq (.reg none [
      ⟨(some 2), .mov (.c (.bool false)), none⟩] (some [2]) none)
    .ret)
    .skip))
    (.seq (.reg none [
      ⟨(some 7), .mov (.c (.int .i64 1)), none⟩] (some [1, 3, 4, 5, 7]) none)
    (.seq (.reg none [
      ⟨(some 32), .mov (.t 5), none⟩,
      ⟨(some 33), .mov (.t 7), none⟩,
      ⟨(some 34), .call 48 [(.t 32), (.t 33)], none⟩,
      ⟨(some 7), .mov (.t 34), none⟩] (some [1, 3, 4, 5, 7]) none)
    (.seq (.reg none [
      ⟨(some 8), .mov (.c (.int .i64 1)), none⟩] (some [1, 3, 4, 5, 7, 8]) none)
    (.seq (.reg none [
      ⟨(some 35), .mov (.t 5), none⟩,
      ⟨(some 36), .mov (.t 8), none⟩,
      ⟨(some 37), .call 49 [(.t 35), (.t 36)], none⟩,
      ⟨(some 8), .mov (.t 37), none⟩] (some [1, 3, 4, 5, 7, 8]) none)
    (.seq (.seq (.reg none [
      ⟨(some 38), .mov (.t 8), none⟩,
      ⟨(some 39), .bin .lss (.t 38) (.c (.int .i64 0)), none⟩] (some [1, 3, 4, 5, 7, 8, 39]) none)
    (.cond (.t 39) (.seq (.reg none [
      ⟨(some 2), .mov (.c (.bool false)), none⟩] (some [2]) none)
    .ret)
    .skip))
    (.seq (.seq (.reg none [
      ⟨(some 40), .mov (.t 8), none⟩,
      ⟨(some 41), .mov (.t 7), none⟩,
      ⟨(some 42), .bin .neq (.t 40) (.t 41), none⟩] (some [1, 3, 4, 5, 7, 42]) none)
    (.cond (.t 42) (.seq (.reg none [
      ⟨(some 2), .mov (.c (.bool false)), none⟩] (some [2]) none)
    .ret)
    .skip))
    (.seq (.reg none [
      ⟨(some 44), .load (some 14) (.t 1), none⟩,
      ⟨(some 45), .call 31 [(.t 44)], none⟩,
      ⟨(some 46), .call 53 [(.t 45)], none⟩,
      ⟨(some 43), .mov (.t 46), none⟩,
      ⟨(some 47), .ext (.t 43) 0, none⟩,
      ⟨(some 48), .ext (.t 43) 1, none⟩,
      ⟨(some 9), .mov (.t 47), none⟩,
      ⟨(some 10), .mov (.t 48), none⟩] (some [3, 4, 5, 7, 9, 10]) none)
    (.seq (.seq (.reg none [
      ⟨(some 49), .mov (.t 9), none⟩,
      ⟨(some 50), .mov (.t 3), none⟩,
      ⟨(some 51), .call 47 [(.t 49), (.t 50)], none⟩,
      ⟨(some 52), .un .not (.t 51), none⟩,
      ⟨(some 53), .mov (.t 52), none⟩,
      ⟨(some 54), .mov (.t 10), some (53, false)⟩,
      ⟨(some 55), .mov (.t 4), some (53, false)⟩,
      ⟨(some 56), .bin .neq (.t 54) (.t 55), some (53, false)⟩,
      ⟨(some 57), .pick (.t 53) (.c (.bool true)) (.t 56), none⟩] (some [5, 7, 57]) none)
    (.cond (.t 57) (.seq (.reg none [
      ⟨(some 2), .mov (.c (.bool false)), none⟩] (some [2]) none)
    .ret)
    .skip))
    (.seq (.reg none [
      ⟨(some 8), .mov (.c (.int .i64 1)), none⟩] (some [5, 7, 8]) none)
    (.seq (.reg none [
      ⟨(some 58), .mov (.t 5), none⟩,
      ⟨(some 59), .mov (.t 8), none⟩,
      ⟨(some 60), .call 49 [(.t 58), (.t 59)], none⟩,
      ⟨(some 8), .mov (.t 60), none⟩] (some [7, 8]) none)
    (.seq (.seq (.reg none [
      ⟨(some 61), .mov (.t 8), none⟩,
      ⟨(some 62), .bin .lss (.t 61) (.c (.int .i64 0)), none⟩] (some [7, 8, 62]) none)
    (.cond (.t 62) (.seq (.reg none [
      ⟨(some 2), .mov (.c (.bool false)), none⟩] (some [2]) none)
    .ret)
    .skip))
    (.seq (.seq (.reg none [
      ⟨(some 63), .mov (.t 8), none⟩,
      ⟨(some 64), .mov (.t 7), none⟩,
      ⟨(some 65), .bin .neq (.t 63) (.t 64), none⟩] (some [65]) none)
    (.cond (.t 65) (.seq (.reg none [
      ⟨(some 2), .mov (.c (.bool false)), none⟩] (some [2]) none)
    .ret)
    .skip))
    (.seq (.reg none [
      ⟨(some 2), .mov (.c (.bool true)), none⟩] (some [2]) none)
    .ret)))))))))))))))))
def laws_FnExactLeastSeeing_F : MF := ⟨66, [.t 2], laws_FnExactLeastSeeing_M⟩
theorem laws_FnExactLeastSeeing_ok : OkF Try.prog 14 laws_FnExactLeastSeeing_F Try.f14 (bodyOf Try.f14) := ⟨Try.func14, by kernel_rfl, by kernel_rfl, by kernel_rfl, by kernel_rfl⟩
-- loop.example/g01312/spec.CountBlack
def spec_CountBlack_M : MC :=
  (.seq (.reg none [
      ⟨(some 2), .mov (.c (.int .i64 0)), none⟩] (some [0]) none)
    (.seq (.reg none [
      ⟨(some 3), .mov (.t 0), none⟩,
      ⟨(some 4), .call 54 [(.t 3)], none⟩,
      ⟨(some 2), .mov (.t 4), none⟩] (some [2]) none)
    .ret))
def spec_CountBlack_F : MF := ⟨5, [.t 2], spec_CountBlack_M⟩
theorem spec_CountBlack_ok : OkF Try.prog 15 spec_CountBlack_F Try.f15 (bodyOf Try.f15) := ⟨Try.func15, by kernel_rfl, by kernel_rfl, by kernel_rfl, by kernel_rfl⟩
-- loop.example/g01312/impl.CountBlack
def impl_CountBlack_M : MC :=
  (.seq (.reg none [
      ⟨(some 2), .mov (.c (.int .i64 0)), none⟩] (some [0]) none)
    (.seq (.reg none [
      ⟨(some 3), .mov (.t 0), none⟩,
      ⟨(some 4), .call 55 [(.t 3)], none⟩,
      ⟨(some 2), .mov (.t 4), none⟩] (some [2]) none)
    .ret))
def impl_CountBlack_F : MF := ⟨5, [.t 2], impl_CountBlack_M⟩
theorem impl_CountBlack_ok : OkF Try.prog 16 impl_CountBlack_F Try.f16 (bodyOf Try.f16) := ⟨Try.func16, by kernel_rfl, by kernel_rfl, by kernel_rfl, by kernel_rfl⟩
-- loop.example/g01312/laws.szLayerS
def laws_szLayerS_M : MC :=
  (.seq (.reg none [
      ⟨(some 4), .mov (.c (.int .i64 0)), none⟩] (some [0, 1]) none)
    (.seq (.reg none [
      ⟨(some 5), .mov (.t 1), none⟩,
      ⟨(some 6), .mov (.t 0), none⟩,
      ⟨(some 7), .lenS (.t 6), none⟩,
      ⟨(some 8), .bin .sub (.t 5) (.t 7), none⟩,
      ⟨(some 1), .mov (.t 8), none⟩] (some [1]) none)
    (.seq (.seq (.reg none [
      ⟨(some 9), .mov (.t 1), none⟩,
      ⟨(some 10), .bin .lss (.t 9) (.c (.int .i64 0)), none⟩] (some [1, 10]) none)
    (.cond (.t 10) (.seq (.reg none [
      ⟨(some 4), .mov (.c (.int .i64 (-1))), none⟩] (some [4]) none)
    .ret)
    .skip))
    (.seq (.reg none [
      ⟨(some 11), .mov (.t 1), none⟩,
      ⟨(some 4), .mov (.t 11), none⟩] (some [4]) none)
    .ret))))
def laws_szLayerS_F : MF := ⟨12, [.t 4], laws_szLayerS_M⟩
theorem laws_szLayerS_ok : OkF Try.prog 17 laws_szLayerS_F Try.f17 (bodyOf Try.f17) := ⟨Try.func17, by kernel_rfl, by kernel_rfl, by kernel_rfl, by kernel_rfl⟩
-- loop.example/g01312/spec.SameLayers
def spec_SameLayers_L0 : MC :=
  (.seq (.seq (.reg none [
      ⟨(some 11), .mov (.t 5), none⟩,
      ⟨(some 12), .mov (.t 0), none⟩,
      ⟨(some 13), .lenS (.t 12), none⟩,
      ⟨(some 14), .bin .lss (.t 11) (.t 13), none⟩] (some [0, 1, 5, 14]) none)
    (.cond (.t 14) .skip
    (.exit 0)))
    (.seq (.block 1 (.seq (.reg (some []) [
      ⟨(some 17), .mov (.t 0), none⟩,
      ⟨(some 18), .mov (.t 5), none⟩,
      ⟨(some 19), .iaS 65 (.t 17) (.t 18), none⟩,
      ⟨(some 20), .load (some 65) (.t 19), none⟩,
      ⟨(some 21), .mov (.t 1), none⟩,
      ⟨(some 22), .mov (.t 5), none⟩,
      ⟨(some 23), .iaS 65 (.t 21) (.t 22), none⟩,
      ⟨(some 24), .load (some 65) (.t 23), none⟩,
      ⟨(some 25), .aeq true (.i8 :: List.replicate 64 .u8) (.t 20) (.t 24), none⟩] (some [0, 1, 5, 25]) none)
    (.cond (.t 25) (.seq (.reg none [
      ⟨(some 4), .mov (.c (.bool false)), none⟩] (some [4]) none)
    .ret)
    .skip)))
    (.reg none [
      ⟨(some 15), .mov (.t 5), none⟩,
      ⟨(some 16), .bin .add (.t 15) (.c (.int .i64 1)), none⟩,
      ⟨(some 5), .mov (.t 16), none⟩] (some [0, 1, 5]) none)))
def spec_SameLayers_M : MC :=
  (.seq (.reg none [
      ⟨(some 4), .mov (.c (.bool false)), none⟩] (some [0, 1]) none)
    (.seq (.seq (.reg none [
      ⟨(some 6), .mov (.t 0), none⟩,
      ⟨(some 7), .lenS (.t 6), none⟩,
      ⟨(some 8), .mov (.t 1), none⟩,
      ⟨(some 9), .lenS (.t 8), none⟩,
      ⟨(some 10), .bin .neq (.t 7) (.t 9), none⟩] (some [0, 1, 10]) none)
    (.cond (.t 10) (.seq (.reg none [
      ⟨(some 4), .mov (.c (.bool false)), none⟩] (some [4]) none)
    .ret)
    .skip))
    (.seq (.seq (.reg none [
      ⟨(some 5), .mov (.c (.int .i64 0)), none⟩] (some [0, 1, 5]) none)
    (.block 0 (.loop spec_SameLayers_L0)))
    (.seq (.reg none [
      ⟨(some 4), .mov (.c (.bool true)), none⟩] (some [4]) none)
    .ret))))
def spec_SameLayers_F : MF := ⟨26, [.t 4], spec_SameLayers_M⟩
theorem spec_SameLayers_ok : OkF Try.prog 18 spec_SameLayers_F Try.f18 (bodyOf Try.f18) := ⟨Try.func18, by kernel_rfl, by kernel_rfl, by kernel_rfl, by kernel_rfl⟩
-- loop.example/g01312/laws.toLayerS
def laws_toLayerS_L0 : MC :=
  (.seq (.seq (.reg none [
      ⟨(some 8), .mov (.t 4), none⟩,
      ⟨(some 9), .mov (.t 0), none⟩,
      ⟨(some 10), .lenS (.t 9), none⟩,
      ⟨(some 11), .bin .lss (.t 8) (.t 10), none⟩] (some [0, 3, 4, 11]) none)
    (.cond (.t 11) .skip
    (.exit 0)))
    (.seq (.block 1 (.reg none [
      ⟨(some 14), .mov (.t 3), none⟩,
      ⟨(some 15), .mov (.t 4), none⟩,
      ⟨(some 16), .mov (.t 0), none⟩,
      ⟨(some 17), .mov (.t 4), none⟩,
      ⟨(some 18), .iaS 65 (.t 16) (.t 17), none⟩,
      ⟨(some 19), .load (some 65) (.t 18), none⟩,
      ⟨(some 20), .call 38 [(.t 19)], none⟩,
      ⟨(some 21), .iaS 65 (.t 14) (.t 15), none⟩,
      ⟨none, .store 65 (.t 21) (.t 20), none⟩] (some [0, 3, 4]) none))
    (.reg none [
      ⟨(some 12), .mov (.t 4), none⟩,
      ⟨(some 13), .bin .add (.t 12) (.c (.int .i64 1)), none⟩,
      ⟨(some 4), .mov (.t 13), none⟩] (some [0, 3, 4]) none)))
def laws_toLayerS_M : MC :=
  (.seq (.reg none [
      ⟨(some 2), .mov (.c (.nilsl)), none⟩] (some [0]) none)
    (.seq (.reg none [
      ⟨(some 5), .mov (.t 0), none⟩,
      ⟨(some 6), .lenS (.t 5), none⟩,
      ⟨(some 7), .mks (rl [(1, .int .i8 0), (64, .int .u8 0)]) 65 (.t 6) (.t 6), none⟩,
      ⟨(some 3), .mov (.t 7), none⟩] (some [0, 3]) none)
    (.seq (.seq (.reg none [
      ⟨(some 4), .mov (.c (.int .i64 0)), none⟩] (some [0, 3, 4]) none)
    (.block 0 (.loop laws_toLayerS_L0)))
    (.seq (.reg none [
      ⟨(some 22), .mov (.t 3), none⟩,
      ⟨(some 2), .mov (.t 22), none⟩] (some [2]) none)
    .ret))))
def laws_toLayerS_F : MF := ⟨23, [.t 2], laws_toLayerS_M⟩
theorem laws_toLayerS_ok : OkF Try.prog 19 laws_toLayerS_F Try.f19 (bodyOf Try.f19) := ⟨Try.func19, by kernel_rfl, by kernel_rfl, by kernel_rfl, by kernel_rfl⟩
-- loop.example/g01312/impl.SameLayers
def impl_SameLayers_M : MC :=
  (.seq (.reg none [
      ⟨(some 4), .mov (.c (.bool false)), none⟩] (some [0, 1]) none)
    (.seq (.reg none [
      ⟨(some 5), .mov (.t 0), none⟩,
      ⟨(some 6), .mov (.t 1), none⟩,
      ⟨(some 7), .call 56 [(.t 5), (.t 6)], none⟩,
      ⟨(some 4), .mov (.t 7), none⟩] (some [4]) none)
    .ret))
def impl_SameLayers_F : MF := ⟨8, [.t 4], impl_SameLayers_M⟩
theorem impl_SameLayers_ok : OkF Try.prog 20 impl_SameLayers_F Try.f20 (bodyOf Try.f20) := ⟨Try.func20, by kernel_rfl, by kernel_rfl, by kernel_rfl, by kernel_rfl⟩
-- loop.example/g01312/laws.eqLayerS
def laws_eqLayerS_L0 : MC :=
  (.seq (.seq (.reg none [
      ⟨(some 11), .mov (.t 5), none⟩,
      ⟨(some 12), .mov (.t 0), none⟩,
      ⟨(some 13), .lenS (.t 12), none⟩,
      ⟨(some 14), .bin .lss (.t 11) (.t 13), none⟩] (some [0, 1, 5, 14]) none)
    (.cond (.t 14) .skip
    (.exit 0)))
    (.seq (.block 1 (.seq (.reg (some []) [
      ⟨(some 17), .mov (.t 0), none⟩,
      ⟨(some 18), .mov (.t 5), none⟩,
      ⟨(some 19), .iaS 65 (.t 17) (.t 18), none⟩,
      ⟨(some 20), .load (some 65) (.t 19), none⟩,
      ⟨(some 21), .mov (.t 1), none⟩,
      ⟨(some 22), .mov (.t 5), none⟩,
      ⟨(some 23), .iaS 65 (.t 21) (.t 22), none⟩,
      ⟨(some 24), .load (some 65) (.t 23), none⟩,
      ⟨(some 25), .call 40 [(.t 20), (.t 24)], none⟩,
      ⟨(some 26), .un .not (.t 25), none⟩] (some [0, 1, 5, 26]) none)
    (.cond (.t 26) (.seq (.reg none [
      ⟨(some 4), .mov (.c (.bool false)), none⟩] (some [4]) none)
    .ret)
    .skip)))
    (.reg none [
      ⟨(some 15), .mov (.t 5), none⟩,
      ⟨(some 16), .bin .add (.t 15) (.c (.int .i64 1)), none⟩,
      ⟨(some 5), .mov (.t 16), none⟩] (some [0, 1, 5]) none)))
def laws_eqLayerS_M : MC :=
  (.seq (.reg none [
      ⟨(some 4), .mov (.c (.bool false)), none⟩] (some [0, 1]) none)
    (.seq (.seq (.reg none [
      ⟨(some 6), .mov (.t 0), none⟩,
      ⟨(some 7), .lenS (.t 6), none⟩,
      ⟨(some 8), .mov (.t 1), none⟩,
      ⟨(some 9), .lenS (.t 8), none⟩,
      ⟨(some 10), .bin .neq (.t 7) (.t 9), none⟩] (some [0, 1, 10]) none)
    (.cond (.t 10) (.seq (.reg none [
      ⟨(some 4), .mov (.c (.bool false)), none⟩] (some [4]) none)
    .ret)
    .skip))
    (.seq (.seq (.reg none [
      ⟨(some 5), .mov (.c (.int .i64 0)), none⟩] (some [0, 1, 5]) none)
    (.block 0 (.loop laws_eqLayerS_L0)))
    (.seq (.reg none [
      ⟨(some 4), .mov (.c (.bool true)), none⟩] (some [4]) none)
    .ret))))
def laws_eqLayerS_F : MF := ⟨27, [.t 4], laws_eqLayerS_M⟩
theorem laws_eqLayerS_ok : OkF Try.prog 21 laws_eqLayerS_F Try.f21 (bodyOf Try.f21) := ⟨Try.func21, by kernel_rfl, by kernel_rfl, by kernel_rfl, by kernel_rfl⟩
-- loop.example/g01312/spec.NextOrder
def spec_NextOrder_M : MC :=
  (.seq (.reg none [
      ⟨(some 4), .mov (.c (.nilsl)), none⟩,
      ⟨(some 5), .mov (.c (.int .u32 0)), none⟩,
      ⟨(some 6), .mov (.c (.int .i64 0)), none⟩] (some [0, 1]) none)
    (.seq (.seq (.reg none [
      ⟨(some 9), .mov (.t 1), none⟩,
      ⟨(some 10), .call 57 [(.t 9)], none⟩,
      ⟨(some 11), .un .not (.t 10), none⟩] (some [0, 1, 11]) none)
    (.cond (.t 11) (.seq (.reg none [
      ⟨(some 12), .bldS [.int .i8 0] 0 [], none⟩,
      ⟨(some 4), .mov (.t 12), none⟩,
      ⟨(some 5), .mov (.c (.int .u32 0)), none⟩,
      ⟨(some 6), .mov (.c (.int .i64 2)), none⟩] (some [4, 5, 6]) none)
    .ret)
    .skip))
    (.seq (.reg none [
      ⟨(some 14), .mov (.t 0), none⟩,
      ⟨(some 15), .mov (.t 1), none⟩,
      ⟨(some 16), .call 58 [(.t 14), (.t 15)], none⟩,
      ⟨(some 13), .mov (.t 16), none⟩,
      ⟨(some 17), .ext (.t 13) 0, none⟩,
      ⟨(some 18), .ext (.t 13) 1, none⟩,
      ⟨(some 7), .mov (.t 17), none⟩,
      ⟨(some 8), .mov (.t 18), none⟩] (some [7, 8]) none)
    (.seq (.reg none [
      ⟨(some 19), .mov (.t 7), none⟩,
      ⟨(some 20), .mov (.t 8), none⟩,
      ⟨(some 4), .mov (.t 19), none⟩,
      ⟨(some 5), .mov (.t 20), none⟩,
      ⟨(some 6), .mov (.c (.int .i64 0)), none⟩] (some [4, 5, 6]) none)
    .ret))))
def spec_NextOrder_F : MF := ⟨21, [.t 4, .t 5, .t 6], spec_NextOrder_M⟩
theorem spec_NextOrder_ok : OkF Try.prog 22 spec_NextOrder_F Try.f22 (bodyOf Try.f22) := ⟨Try.func22, by kernel_rfl, by kernel_rfl, by kernel_rfl, by kernel_rfl⟩
-- loop.example/g01312/impl.NextOrder
def impl_NextOrder_M : MC :=
  (.seq (.reg none [
      ⟨(some 2), .box (.t 0), none⟩,
      ⟨(some 4), .mov (.c (.nilsl)), none⟩,
      ⟨(some 5), .mov (.c (.int .u32 0)), none⟩,
      ⟨(some 6), .mov (.c (.int .i64 0)), none⟩] (some [1, 2]) none)
    (.seq (.seq (.reg none [
      ⟨(some 8), .mov (.t 1), none⟩,
      ⟨(some 9), .call 59 [(.t 8)], none⟩,
      ⟨(some 10), .un .not (.t 9), none⟩] (some [1, 2, 10]) none)
    (.cond (.t 10) (.seq (.reg none [
      ⟨(some 4), .mov (.c (.nilsl)), none⟩,
      ⟨(some 5), .mov (.c (.int .u32 0)), none⟩,
      ⟨(some 6), .mov (.c (.int .i64 2)), none⟩] (some [4, 5, 6]) none)
    .ret)
    .skip))
    (.seq (.reg none [
      ⟨(some 11), .mov (.t 1), none⟩,
      ⟨(some 12), .conv .i8 (.t 11), none⟩,
      ⟨(some 13), .call 60 [(.t 2), (.t 12)], none⟩,
      ⟨(some 7), .mov (.t 13), none⟩] (some [2, 7]) none)
    (.seq (.reg (some []) [
      ⟨(some 14), .mov (.t 7), none⟩,
      ⟨(some 15), .load none (.t 2), none⟩,
      ⟨(some 4), .mov (.t 14), none⟩,
      ⟨(some 5), .mov (.t 15), none⟩,
      ⟨(some 6), .mov (.c (.int .i64 0)), none⟩] (some [4, 5, 6]) none)
    .ret))))
def impl_NextOrder_F : MF := ⟨16, [.t 4, .t 5, .t 6], impl_NextOrder_M⟩
theorem impl_NextOrder_ok : OkF Try.prog 23 impl_NextOrder_F Try.f23 (bodyOf Try.f23) := ⟨Try.func23, by kernel_rfl, by kernel_rfl, by kernel_rfl, by kernel_rfl⟩
-- loop.example/g01312/laws.eqInt8S
def laws_eqInt8S_L0 : MC :=
  (.seq (.seq (.reg none [
      ⟨(some 11), .mov (.t 5), none⟩,
      ⟨(some 12), .mov (.t 0), none⟩,
      ⟨(some 13), .lenS (.t 12), none⟩,
      ⟨(some 14), .bin .lss (.t 11) (.t 13), none⟩] (some [0, 1, 5, 14]) none)
    (.cond (.t 14) .skip
    (.exit 0)))
    (.seq (.block 1 (.seq (.reg (some []) [
      ⟨(some 17), .mov (.t 0), none⟩,
      ⟨(some 18), .mov (.t 5), none⟩,
      ⟨(some 19), .iaS 1 (.t 17) (.t 18), none⟩,
      ⟨(some 20), .load none (.t 19), none⟩,
      ⟨(some 21), .mov (.t 1), none⟩,
      ⟨(some 22), .mov (.t 5), none⟩,
      ⟨(some 23), .iaS 1 (.t 21) (.t 22), none⟩,
      ⟨(some 24), .load none (.t 23), none⟩,
      ⟨(some 25), .bin .neq (.t 20) (.t 24), none⟩] (some [0, 1, 5, 25]) none)
    (.cond (.t 25) (.seq (.reg none [
      ⟨(some 4), .mov (.c (.bool false)), none⟩] (some [4]) none)
    .ret)
    .skip)))
    (.reg none [
      ⟨(some 15), .mov (.t 5), none⟩,
      ⟨(some 16), .bin .add (.t 15) (.c (.int .i64 1)), none⟩,
      ⟨(some 5), .mov (.t 16), none⟩] (some [0, 1, 5]) none)))
def laws_eqInt8S_M : MC :=
  (.seq (.reg none [
      ⟨(some 4), .mov (.c (.bool false)), none⟩] (some [0, 1]) none)
    (.seq (.seq (.reg none [
      ⟨(some 6), .mov (.t 0), none⟩,
      ⟨(some 7), .lenS (.t 6), none⟩,
      ⟨(some 8), .mov (.t 1), none⟩,
      ⟨(some 9), .lenS (.t 8), none⟩,
      ⟨(some 10), .bin .neq (.t 7) (.t 9), none⟩] (some [0, 1, 10]) none)
    (.cond (.t 10) (.seq (.reg none [
      ⟨(some 4), .mov (.c (.bool false)), none⟩] (some [4]) none)
    .ret)
    .skip))
    (.seq (.seq (.reg none [
      ⟨(some 5), .mov (.c (.int .i64 0)), none⟩] (some [0, 1, 5]) none)
    (.block 0 (.loop laws_eqInt8S_L0)))
    (.seq (.reg none [
      ⟨(some 4), .mov (.c (.bool true)), none⟩] (some [4]) none)
    .ret))))
def laws_eqInt8S_F : MF := ⟨26, [.t 4], laws_eqInt8S_M⟩
theorem laws_eqInt8S_ok : OkF Try.prog 24 laws_eqInt8S_F Try.f24 (bodyOf Try.f24) := ⟨Try.func24, by kernel_rfl, by kernel_rfl, by kernel_rfl, by kernel_rfl⟩
-- loop.example/g01312/laws.markInt8S
def laws_markInt8S_L0 : MC :=
  (.seq (.seq (.reg none [
      ⟨(some 6), .mov (.t 5), none⟩,
      ⟨(some 7), .mov (.t 0), none⟩,
      ⟨(some 8), .lenS (.t 7), none⟩,
      ⟨(some 9), .bin .lss (.t 6) (.t 8), none⟩] (some [0, 1, 5, 9]) none)
    (.cond (.t 9) .skip
    (.exit 0)))
    (.seq (.block 1 (.seq (.reg none [
      ⟨(some 12), .mov (.t 0), none⟩,
      ⟨(some 13), .mov (.t 5), none⟩,
      ⟨(some 14), .mov (.t 1), none⟩,
      ⟨(some 15), .conv .i8 (.t 14), none⟩,
      ⟨(some 16), .iaS 1 (.t 12) (.t 13), none⟩,
      ⟨none, .store 1 (.t 16) (.t 15), none⟩] (some [0, 1, 5]) none)
    (.reg none [
      ⟨(some 17), .mov (.t 1), none⟩,
      ⟨(some 18), .bin .add (.t 17) (.c (.int .i64 1)), none⟩,
      ⟨(some 1), .mov (.t 18), none⟩] (some [0, 1, 5]) none)))
    (.reg none [
      ⟨(some 10), .mov (.t 5), none⟩,
      ⟨(some 11), .bin .add (.t 10) (.c (.int .i64 1)), none⟩,
      ⟨(some 5), .mov (.t 11), none⟩] (some [0, 1, 5]) none)))
def laws_markInt8S_M : MC :=
  (.seq (.reg none [
      ⟨(some 4), .mov (.c (.int .i64 0)), none⟩] (some [0, 1]) none)
    (.seq (.seq (.reg none [
      ⟨(some 5), .mov (.c (.int .i64 0)), none⟩] (some [0, 1, 5]) none)
    (.block 0 (.loop laws_markInt8S_L0)))
    (.seq (.reg none [
      ⟨(some 19), .mov (.t 1), none⟩,
      ⟨(some 4), .mov (.t 19), none⟩] (some [4]) none)
    .ret)))
def laws_markInt8S_F : MF := ⟨20, [.t 4], laws_markInt8S_M⟩
theorem laws_markInt8S_ok : OkF Try.prog 25 laws_markInt8S_F Try.f25 (bodyOf Try.f25) := ⟨Try.func25, by kernel_rfl, by kernel_rfl, by kernel_rfl, by kernel_rfl⟩
-- loop.example/g01312/laws.heldInt8S
def laws_heldInt8S_L0 : MC :=
  (.seq (.seq (.reg none [
      ⟨(some 6), .mov (.t 5), none⟩,
      ⟨(some 7), .mov (.t 0), none⟩,
      ⟨(some 8), .lenS (.t 7), none⟩,
      ⟨(some 9), .bin .lss (.t 6) (.t 8), none⟩] (some [0, 1, 5, 9]) none)
    (.cond (.t 9) .skip
    (.exit 0)))
    (.seq (.block 1 (.seq (.seq (.reg none [
      ⟨(some 12), .mov (.t 0), none⟩,
      ⟨(some 13), .mov (.t 5), none⟩,
      ⟨(some 14), .iaS 1 (.t 12) (.t 13), none⟩,
      ⟨(some 15), .load none (.t 14), none⟩,
      ⟨(some 16), .mov (.t 1), none⟩,
      ⟨(some 17), .conv .i8 (.t 16), none⟩,
      ⟨(some 18), .bin .neq (.t 15) (.t 17), none⟩] (some [0, 1, 5, 18]) none)
    (.cond (.t 18) (.seq (.reg none [
      ⟨(some 4), .mov (.c (.int .i64 (-1))), none⟩] (some [4]) none)
    .ret)
    .skip))
    (.reg none [
      ⟨(some 19), .mov (.t 1), none⟩,
      ⟨(some 20), .bin .add (.t 19) (.c (.int .i64 1)), none⟩,
      ⟨(some 1), .mov (.t 20), none⟩] (some [0, 1, 5]) none)))
    (.reg none [
      ⟨(some 10), .mov (.t 5), none⟩,
      ⟨(some 11), .bin .add (.t 10) (.c (.int .i64 1)), none⟩,
      ⟨(some 5), .mov (.t 11), none⟩] (some [0, 1, 5]) none)))
def laws_heldInt8S_M : MC :=
  (.seq (.reg none [
      ⟨(some 4), .mov (.c (.int .i64 0)), none⟩] (some [0, 1]) none)
    (.seq (.seq (.reg none [
      ⟨(some 5), .mov (.c (.int .i64 0)), none⟩] (some [0, 1, 5]) none)
    (.block 0 (.loop laws_heldInt8S_L0)))
    (.seq (.reg none [
      ⟨(some 21), .mov (.t 1), none⟩,
      ⟨(some 4), .mov (.t 21), none⟩] (some [4]) none)
    .ret)))
def laws_heldInt8S_F : MF := ⟨22, [.t 4], laws_heldInt8S_M⟩
theorem laws_heldInt8S_ok : OkF Try.prog 26 laws_heldInt8S_F Try.f26 (bodyOf Try.f26) := ⟨Try.func26, by kernel_rfl, by kernel_rfl, by kernel_rfl, by kernel_rfl⟩
-- loop.example/g01312/spec.AllOf
def spec_AllOf_L0 : MC :=
  (.seq (.seq (.reg none [
      ⟨(some 13), .mov (.t 6), none⟩,
      ⟨(some 14), .mov (.t 0), none⟩,
      ⟨(some 15), .conv .u64 (.t 14), none⟩,
      ⟨(some 16), .bin .shl (.c (.int .i64 1)) (.t 15), none⟩,
      ⟨(some 17), .bin .lss (.t 13) (.t 16), none⟩] (some [0, 2, 4, 5, 6, 17]) none)
    (.cond (.t 17) .skip
    (.exit 0)))
    (.seq (.block 1 (.seq (.reg none [
      ⟨(some 20), .mov (.t 6), none⟩,
      ⟨(some 21), .conv .u64 (.t 20), none⟩,
      ⟨(some 22), .call 54 [(.t 21)], none⟩,
      ⟨(some 23), .bin .rem (.t 22) (.c (.int .i64 2)), none⟩,
      ⟨(some 24), .bin .eql (.t 23) (.c (.int .i64 0)), none⟩] (some [0, 2, 4, 5, 6, 24]) none)
    (.cond (.t 24) (.reg none [
      ⟨(some 25), .mov (.t 4), none⟩,
      ⟨(some 26), .mov (.t 6), none⟩,
      ⟨(some 27), .conv .u8 (.t 26), none⟩,
      ⟨(some 28), .bldS [.int .u8 0] 1 [(0, 1, (.t 27))], none⟩,
      ⟨(some 29), .app [.int .u8 0] 1 false (.t 25) (.t 28), none⟩,
      ⟨(some 4), .mov (.t 29), none⟩] (some [0, 2, 4, 5, 6]) none)
    (.reg none [
      ⟨(some 30), .mov (.t 5), none⟩,
      ⟨(some 31), .mov (.t 6), none⟩,
      ⟨(some 32), .conv .u8 (.t 31), none⟩,
      ⟨(some 33), .bldS [.int .u8 0] 1 [(0, 1, (.t 32))], none⟩,
      ⟨(some 34), .app [.int .u8 0] 1 false (.t 30) (.t 33), none⟩,
      ⟨(some 5), .mov (.t 34), none⟩] (some [0, 2, 4, 5, 6]) none))))
    (.reg none [
      ⟨(some 18), .mov (.t 6), none⟩,
      ⟨(some 19), .bin .add (.t 18) (.c (.int .i64 1)), none⟩,
      ⟨(some 6), .mov (.t 19), none⟩] (some [0, 2, 4, 5, 6]) (some 3))))
def spec_AllOf_M : MC :=
  (.seq (.reg none [
      ⟨(some 2), .new (rl [(2, .int .i8 0), (12, .int .u8 0)]), none⟩,
      ⟨(some 3), .mov (.c (.int .i64 0)), none⟩] (some [0, 2]) none)
    (.seq (.seq (.reg none [
      ⟨(some 7), .mov (.t 0), none⟩,
      ⟨(some 8), .call 61 [(.t 7), (.c (.int .i64 2)), (.c (.int .i64 4))], none⟩,
      ⟨(some 9), .un .not (.t 8), none⟩] (some [0, 2, 9]) none)
    (.cond (.t 9) (.seq (.reg none [
      ⟨(some 10), .bld (rl [(2, .int .i8 0), (12, .int .u8 0)]) [], none⟩,
      ⟨none, .store 14 (.t 2) (.t 10), none⟩,
      ⟨(some 3), .mov (.c (.int .i64 2)), none⟩] (some [2, 3]) none)
    .ret)
    .skip))
    (.seq (.reg none [
      ⟨(some 11), .bldS [.int .u8 0] 0 [], none⟩,
      ⟨(some 4), .mov (.t 11), none⟩] (some [0, 2, 4]) none)
    (.seq (.reg none [
      ⟨(some 12), .bldS [.int .u8 0] 0 [], none⟩,
      ⟨(some 5), .mov (.t 12), none⟩] (some [0, 2, 4, 5]) none)
    (.seq (.seq (.reg none [
      ⟨(some 6), .mov (.c (.int .i64 0)), none⟩] (some [0, 2, 4, 5, 6]) none)
    (.block 0 (.loop spec_AllOf_L0)))
    (.seq (.reg none [
      ⟨(some 35), .mov (.t 0), none⟩,
      ⟨(some 36), .conv .i8 (.t 35), none⟩,
      ⟨(some 37), .mov (.t 4), none⟩,
      ⟨(some 38), .mov (.t 5), none⟩,
      ⟨(some 39), .call 62 [(.t 36), (.t 37), (.t 38)], none⟩,
      ⟨none, .store 14 (.t 2) (.t 39), none⟩,
      ⟨(some 3), .mov (.c (.int .i64 0)), none⟩] (some [2, 3]) none)
    .ret))))))
def spec_AllOf_F : MF := ⟨40, [.c 2 (some 14), .t 3], spec_AllOf_M⟩
theorem spec_AllOf_ok : OkF Try.prog 27 spec_AllOf_F Try.f27 (bodyOf Try.f27) := ⟨Try.func27, by kernel_rfl, by kernel_rfl, by kernel_rfl, by kernel_rfl⟩
-- loop.example/g01312/impl.AllOf
def impl_AllOf_L0 : MC :=
  (.seq (.reg none [
      ⟨(some 22), .bin .lss (.t 21) (.t 20), none⟩] (some [2, 4, 5, 20, 21, 22]) none)
    (.seq (.cond (.t 22) .skip
    (.exit 0))
    (.seq (.block 1 (.seq (.reg none [
      ⟨(some 23), .mov (.t 21), none⟩,
      ⟨(some 6), .mov (.t 23), none⟩] (some [2, 4, 5, 6, 20, 21]) none)
    (.seq (.reg none [
      ⟨(some 24), .mov (.t 6), none⟩,
      ⟨(some 25), .conv .u64 (.t 24), none⟩,
      ⟨(some 26), .call 64 [(.t 25)], none⟩,
      ⟨(some 27), .bin .rem (.t 26) (.c (.int .i64 2)), none⟩,
      ⟨(some 7), .mov (.t 27), none⟩] (some [2, 4, 5, 6, 7, 20, 21]) none)
    (.reg none [
      ⟨(some 28), .mov (.t 7), none⟩,
      ⟨(some 29), .mov (.t 7), none⟩,
      ⟨(some 30), .iaA 2 1 (.t 5) (.t 29), none⟩,
      ⟨(some 31), .load none (.t 30), none⟩,
      ⟨(some 32), .mov (.t 6), none⟩,
      ⟨(some 33), .conv .u8 (.t 32), none⟩,
      ⟨(some 34), .bldS [.int .u8 0] 1 [(0, 1, (.t 33))], none⟩,
      ⟨(some 35), .app [.int .u8 0] 1 false (.t 31) (.t 34), none⟩,
      ⟨(some 36), .iaA 2 1 (.t 5) (.t 28), none⟩,
      ⟨none, .store 1 (.t 36) (.t 35), none⟩] (some [2, 4, 5, 20, 21]) none))))
    (.reg none [
      ⟨(some 37), .bin .add (.t 21) (.c (.int .i64 1)), none⟩,
      ⟨(some 21), .mov (.t 37), none⟩] (some [2, 4, 5, 20, 21]) (some 3)))))
def impl_AllOf_M : MC :=
  (.seq (.reg none [
      ⟨(some 2), .new (rl [(2, .int .i8 0), (12, .int .u8 0)]), none⟩,
      ⟨(some 3), .mov (.c (.int .i64 0)), none⟩] (some [0, 2]) none)
    (.seq (.seq (.reg none [
      ⟨(some 8), .mov (.t 0), none⟩,
      ⟨(some 9), .call 63 [(.t 8), (.c (.int .i64 2)), (.c (.int .i64 4))], none⟩,
      ⟨(some 10), .un .not (.t 9), none⟩] (some [0, 2, 10]) none)
    (.cond (.t 10) (.seq (.reg none [
      ⟨(some 11), .bld (rl [(2, .int .i8 0), (12, .int .u8 0)]) [], none⟩,
      ⟨none, .store 14 (.t 2) (.t 11), none⟩,
      ⟨(some 3), .mov (.c (.int .i64 2)), none⟩] (some [2, 3]) none)
    .ret)
    .skip))
    (.seq (.reg none [
      ⟨(some 12), .mov (.t 0), none⟩,
      ⟨(some 13), .conv .i8 (.t 12), none⟩,
      ⟨(some 14), .mov (.t 0), none⟩,
      ⟨(some 15), .bin .sub (.t 14) (.c (.int .i64 1)), none⟩,
      ⟨(some 16), .bin .shl (.c (.int .i8 1)) (.t 15), none⟩,
      ⟨(some 17), .bld (rl [(2, .int .i8 0), (12, .int .u8 0)]) [(0, 1, (.t 13)), (1, 1, (.t 16))], none⟩,
      ⟨(some 4), .new (rl [(2, .int .i8 0), (12, .int .u8 0)]), none⟩,
      ⟨none, .store 14 (.t 4) (.t 17), none⟩] (some [0, 2, 4]) none)
    (.seq (.reg none [
      ⟨(some 18), .bld [.nilsl, .nilsl] [], none⟩,
      ⟨(some 5), .new [.nilsl, .nilsl], none⟩,
      ⟨none, .store 2 (.t 5) (.t 18), none⟩] (some [0, 2, 4, 5]) none)
    (.seq (.seq (.reg none [
      ⟨(some 19), .mov (.t 0), none⟩,
      ⟨(some 20), .bin .shl (.c (.int .i64 1)) (.t 19), none⟩,
      ⟨(some 21), .mov (.c (.int .i64 0)), none⟩] (some [2, 4, 5, 20, 21]) none)
    (.block 0 (.loop impl_AllOf_L0)))
    (.seq (.reg none [
      ⟨(some 38), .iaA 2 1 (.t 5) (.c (.int .i64 0)), none⟩,
      ⟨(some 39), .load none (.t 38), none⟩,
      ⟨(some 40), .call 65 [(.t 4), (.t 39), (.c (.bool false))], none⟩] (some [2, 4, 5]) none)
    (.seq (.reg none [
      ⟨(some 41), .iaA 2 1 (.t 5) (.c (.int .i64 1)), none⟩,
      ⟨(some 42), .load none (.t 41), none⟩,
      ⟨(some 43), .call 65 [(.t 4), (.t 42), (.c (.bool true))], none⟩] (some [2, 4]) none)
    (.seq (.reg none [
      ⟨(some 44), .load (some 14) (.t 4), none⟩,
      ⟨none, .store 14 (.t 2) (.t 44), none⟩,
      ⟨(some 3), .mov (.c (.int .i64 0)), none⟩] (some [2, 3]) none)
    .ret))))))))
def impl_AllOf_F : MF := ⟨45, [.c 2 (some 14), .t 3], impl_AllOf_M⟩
theorem impl_AllOf_ok : OkF Try.prog 28 impl_AllOf_F Try.f28 (bodyOf Try.f28) := ⟨Try.func28, by kernel_rfl, by kernel_rfl, by kernel_rfl, by kernel_rfl⟩
-- loop.example/g01312/laws.eqScheme
def laws_eqScheme_M : MC :=
  (.seq (.reg none [
      ⟨(some 2), .box (.t 0), none⟩,
      ⟨(some 3), .box (.t 1), none⟩,
      ⟨(some 4), .mov (.c (.bool false)), none⟩] (some [2, 3]) none)
    (.seq (.seq (.reg none [
      ⟨(some 5), .fa 0 (.t 2), none⟩,
      ⟨(some 6), .load none (.t 5), none⟩,
      ⟨(some 7), .fa 0 (.t 3), none⟩,
      ⟨(some 8), .load none (.t 7), none⟩,
      ⟨(some 9), .bin .neq (.t 6) (.t 8), none⟩] (some [2, 3, 9]) none)
    (.cond (.t 9) (.seq (.reg none [
      ⟨(some 4), .mov (.c (.bool false)), none⟩] (some [4]) none)
    .ret)
    .skip))
    (.seq (.seq (.reg none [
      ⟨(some 10), .fa 1 (.t 2), none⟩,
      ⟨(some 11), .load none (.t 10), none⟩,
      ⟨(some 12), .fa 1 (.t 3), none⟩,
      ⟨(some 13), .load none (.t 12), none⟩,
      ⟨(some 14), .bin .neq (.t 11) (.t 13), none⟩] (some [2, 3, 14]) none)
    (.cond (.t 14) (.seq (.reg none [
      ⟨(some 4), .mov (.c (.bool false)), none⟩] (some [4]) none)
    .ret)
    .skip))
    (.seq (.seq (.reg none [
      ⟨(some 15), .fa 2 (.t 2), none⟩,
      ⟨(some 16), .load (some 6) (.t 15), none⟩,
      ⟨(some 17), .fa 2 (.t 3), none⟩,
      ⟨(some 18), .load (some 6) (.t 17), none⟩,
      ⟨(some 19), .call 66 [(.t 16), (.t 18)], none⟩,
      ⟨(some 20), .un .not (.t 19), none⟩] (some [2, 3, 20]) none)
    (.cond (.t 20) (.seq (.reg none [
      ⟨(some 4), .mov (.c (.bool false)), none⟩] (some [4]) none)
    .ret)
    .skip))
    (.seq (.seq (.reg none [
      ⟨(some 21), .fa 8 (.t 2), none⟩,
      ⟨(some 22), .load (some 6) (.t 21), none⟩,
      ⟨(some 23), .fa 8 (.t 3), none⟩,
      ⟨(some 24), .load (some 6) (.t 23), none⟩,
      ⟨(some 25), .call 66 [(.t 22), (.t 24)], none⟩,
      ⟨(some 26), .un .not (.t 25), none⟩] (some [26]) none)
    (.cond (.t 26) (.seq (.reg none [
      ⟨(some 4), .mov (.c (.bool false)), none⟩] (some [4]) none)
    .ret)
    .skip))
    (.seq (.reg none [
      ⟨(some 4), .mov (.c (.bool true)), none⟩] (some [4]) none)
    .ret))))))
def laws_eqScheme_F : MF := ⟨27, [.t 4], laws_eqScheme_M⟩
theorem laws_eqScheme_ok : OkF Try.prog 29 laws_eqScheme_F Try.f29 (bodyOf Try.f29) := ⟨Try.func29, by kernel_rfl, by kernel_rfl, by kernel_rfl, by kernel_rfl⟩
-- loop.example/g01312/spec.ReorderShares
def spec_ReorderShares_L0 : MC :=
  (.seq (.seq (.reg none [
      ⟨(some 23), .mov (.t 7), none⟩,
      ⟨(some 24), .mov (.t 1), none⟩,
      ⟨(some 25), .lenS (.t 24), none⟩,
      ⟨(some 26), .bin .lss (.t 23) (.t 25), none⟩] (some [1, 2, 4, 6, 7, 26]) none)
    (.cond (.t 26) .skip
    (.exit 0)))
    (.seq (.block 1 (.seq (.reg none [
      ⟨(some 29), .mov (.t 7), none⟩,
      ⟨(some 30), .mov (.t 1), none⟩,
      ⟨(some 31), .mov (.t 7), none⟩,
      ⟨(some 32), .iaS 1 (.t 30) (.t 31), none⟩,
      ⟨(some 33), .load none (.t 32), none⟩,
      ⟨(some 34), .fa 2 (.t 2), none⟩,
      ⟨(some 35), .iaA 6 1 (.t 34) (.t 33), none⟩,
      ⟨(some 36), .load none (.t 35), none⟩,
      ⟨(some 37), .fa 2 (.t 6), none⟩,
      ⟨(some 38), .iaA 6 1 (.t 37) (.t 29), none⟩,
      ⟨none, .store 1 (.t 38) (.t 36), none⟩] (some [1, 2, 4, 6, 7]) none)
    (.reg none [
      ⟨(some 39), .mov (.t 7), none⟩,
      ⟨(some 40), .mov (.t 1), none⟩,
      ⟨(some 41), .mov (.t 7), none⟩,
      ⟨(some 42), .iaS 1 (.t 40) (.t 41), none⟩,
      ⟨(some 43), .load none (.t 42), none⟩,
      ⟨(some 44), .fa 8 (.t 2), none⟩,
      ⟨(some 45), .iaA 6 1 (.t 44) (.t 43), none⟩,
      ⟨(some 46), .load none (.t 45), none⟩,
      ⟨(some 47), .fa 8 (.t 6), none⟩,
      ⟨(some 48), .iaA 6 1 (.t 47) (.t 39), none⟩,
      ⟨none, .store 1 (.t 48) (.t 46), none⟩] (some [1, 2, 4, 6, 7]) none)))
    (.reg none [
      ⟨(some 27), .mov (.t 7), none⟩,
      ⟨(some 28), .bin .add (.t 27) (.c (.int .i64 1)), none⟩,
      ⟨(some 7), .mov (.t 28), none⟩] (some [1, 2, 4, 6, 7]) none)))
def spec_ReorderShares_M : MC :=
  (.seq (.reg none [
      ⟨(some 2), .box (.t 0), none⟩,
      ⟨(some 4), .new (rl [(2, .int .i8 0), (12, .int .u8 0)]), none⟩,
      ⟨(some 5), .mov (.c (.int .i64 0)), none⟩] (some [1, 2, 4]) none)
    (.seq (.seq (.reg none [
      ⟨(some 8), .call 67 [(.t 2)], none⟩,
      ⟨(some 9), .un .not (.t 8), none⟩] (some [1, 2, 4, 9]) none)
    (.cond (.t 9) (.seq (.reg none [
      ⟨(some 10), .bld (rl [(2, .int .i8 0), (12, .int .u8 0)]) [], none⟩,
      ⟨none, .store 14 (.t 4) (.t 10), none⟩,
      ⟨(some 5), .mov (.c (.int .i64 1)), none⟩] (some [4, 5]) none)
    .ret)
    .skip))
    (.seq (.seq (.reg none [
      ⟨(some 11), .mov (.t 1), none⟩,
      ⟨(some 12), .fa 0 (.t 2), none⟩,
      ⟨(some 13), .load none (.t 12), none⟩,
      ⟨(some 14), .conv .i64 (.t 13), none⟩,
      ⟨(some 15), .call 68 [(.t 11), (.t 14)], none⟩,
      ⟨(some 16), .un .not (.t 15), none⟩] (some [1, 2, 4, 16]) none)
    (.cond (.t 16) (.seq (.reg none [
      ⟨(some 17), .bld (rl [(2, .int .i8 0), (12, .int .u8 0)]) [], none⟩,
      ⟨none, .store 14 (.t 4) (.t 17), none⟩,
      ⟨(some 5), .mov (.c (.int .i64 2)), none⟩] (some [4, 5]) none)
    .ret)
    .skip))
    (.seq (.reg none [
      ⟨(some 18), .fa 0 (.t 2), none⟩,
      ⟨(some 19), .load none (.t 18), none⟩,
      ⟨(some 20), .fa 1 (.t 2), none⟩,
      ⟨(some 21), .load none (.t 20), none⟩,
      ⟨(some 22), .bld (rl [(2, .int .i8 0), (12, .int .u8 0)]) [(0, 1, (.t 19)), (1, 1, (.t 21))], none⟩,
      ⟨(some 6), .new (rl [(2, .int .i8 0), (12, .int .u8 0)]), none⟩,
      ⟨none, .store 14 (.t 6) (.t 22), none⟩] (some [1, 2, 4, 6]) none)
    (.seq (.seq (.reg none [
      ⟨(some 7), .mov (.c (.int .i64 0)), none⟩] (some [1, 2, 4, 6, 7]) none)
    (.block 0 (.loop spec_ReorderShares_L0)))
    (.seq (.reg none [
      ⟨(some 49), .load (some 14) (.t 6), none⟩,
      ⟨none, .store 14 (.t 4) (.t 49), none⟩,
      ⟨(some 5), .mov (.c (.int .i64 0)), none⟩] (some [4, 5]) none)
    .ret))))))
def spec_ReorderShares_F : MF := ⟨50, [.c 4 (some 14), .t 5], spec_ReorderShares_M⟩
theorem spec_ReorderShares_ok : OkF Try.prog 30 spec_ReorderShares_F Try.f30 (bodyOf Try.f30) := ⟨Try.func30, by kernel_rfl, by kernel_rfl, by kernel_rfl, by kernel_rfl⟩
-- loop.example/g01312/laws.toScheme
def laws_toScheme_M : MC :=
  (.seq (.reg none [
      ⟨(some 1), .box (.t 0), none⟩,
      ⟨(some 2), .new (rl [(2, .int .i8 0), (12, .int .u8 0)]), none⟩] (some [1, 2]) none)
    (.seq (.reg none [
      ⟨(some 3), .new (rl [(2, .int .i8 0), (12, .int .u8 0)]), none⟩] (some [1, 2, 3]) none)
    (.seq (.reg none [
      ⟨(some 4), .fa 0 (.t 1), none⟩,
      ⟨(some 5), .load none (.t 4), none⟩,
      ⟨(some 6), .fa 0 (.t 3), none⟩,
      ⟨none, .store 1 (.t 6) (.t 5), none⟩] (some [1, 2, 3]) none)
    (.seq (.reg none [
      ⟨(some 7), .fa 1 (.t 1), none⟩,
      ⟨(some 8), .load none (.t 7), none⟩,
      ⟨(some 9), .fa 1 (.t 3), none⟩,
      ⟨none, .store 1 (.t 9) (.t 8), none⟩] (some [1, 2, 3]) none)
    (.seq (.reg none [
      ⟨(some 10), .fa 2 (.t 1), none⟩,
      ⟨(some 11), .load (some 6) (.t 10), none⟩,
      ⟨(some 12), .call 69 [(.t 11)], none⟩,
      ⟨(some 13), .fa 2 (.t 3), none⟩,
      ⟨none, .store 6 (.t 13) (.t 12), none⟩] (some [1, 2, 3]) none)
    (.seq (.reg none [
      ⟨(some 14), .fa 8 (.t 1), none⟩,
      ⟨(some 15), .load (some 6) (.t 14), none⟩,
      ⟨(some 16), .call 69 [(.t 15)], none⟩,
      ⟨(some 17), .fa 8 (.t 3), none⟩,
      ⟨none, .store 6 (.t 17) (.t 16), none⟩] (some [2, 3]) none)
    (.seq (.reg none [
      ⟨(some 18), .load (some 14) (.t 3), none⟩,
      ⟨none, .store 14 (.t 2) (.t 18), none⟩] (some [2]) none)
    .ret)))))))
def laws_toScheme_F : MF := ⟨19, [.c 2 (some 14)], laws_toScheme_M⟩
theorem laws_toScheme_ok : OkF Try.prog 31 laws_toScheme_F Try.f31 (bodyOf Try.f31) := ⟨Try.func31, by kernel_rfl, by kernel_rfl, by kernel_rfl, by kernel_rfl⟩
-- loop.example/g01312/laws.toInt8S
def laws_toInt8S_L0 : MC :=
  (.seq (.seq (.reg none [
      ⟨(some 8), .mov (.t 4), none⟩,
      ⟨(some 9), .mov (.t 0), none⟩,
      ⟨(some 10), .lenS (.t 9), none⟩,
      ⟨(some 11), .bin .lss (.t 8) (.t 10), none⟩] (some [0, 3, 4, 11]) none)
    (.cond (.t 11) .skip
    (.exit 0)))
    (.seq (.block 1 (.reg none [
      ⟨(some 14), .mov (.t 3), none⟩,
      ⟨(some 15), .mov (.t 4), none⟩,
      ⟨(some 16), .mov (.t 0), none⟩,
      ⟨(some 17), .mov (.t 4), none⟩,
      ⟨(some 18), .iaS 1 (.t 16) (.t 17), none⟩,
      ⟨(some 19), .load none (.t 18), none⟩,
      ⟨(some 20), .iaS 1 (.t 14) (.t 15), none⟩,
      ⟨none, .store 1 (.t 20) (.t 19), none⟩] (some [0, 3, 4]) none))
    (.reg none [
      ⟨(some 12), .mov (.t 4), none⟩,
      ⟨(some 13), .bin .add (.t 12) (.c (.int .i64 1)), none⟩,
      ⟨(some 4), .mov (.t 13), none⟩] (some [0, 3, 4]) none)))
def laws_toInt8S_M : MC :=
  (.seq (.reg none [
      ⟨(some 2), .mov (.c (.nilsl)), none⟩] (some [0]) none)
    (.seq (.reg none [
      ⟨(some 5), .mov (.t 0), none⟩,
      ⟨(some 6), .lenS (.t 5), none⟩,
      ⟨(some 7), .mks [.int .i8 0] 1 (.t 6) (.t 6), none⟩,
      ⟨(some 3), .mov (.t 7), none⟩] (some [0, 3]) none)
    (.seq (.seq (.reg none [
      ⟨(some 4), .mov (.c (.int .i64 0)), none⟩] (some [0, 3, 4]) none)
    (.block 0 (.loop laws_toInt8S_L0)))
    (.seq (.reg none [
      ⟨(some 21), .mov (.t 3), none⟩,
      ⟨(some 2), .mov (.t 21), none⟩] (some [2]) none)
    .ret))))
def laws_toInt8S_F : MF := ⟨22, [.t 2], laws_toInt8S_M⟩
theorem laws_toInt8S_ok : OkF Try.prog 32 laws_toInt8S_F Try.f32 (bodyOf Try.f32) := ⟨Try.func32, by kernel_rfl, by kernel_rfl, by kernel_rfl, by kernel_rfl⟩
-- loop.example/g01312/impl.ReorderShares
def impl_ReorderShares_L0 : MC :=
  (.seq (.reg none [
      ⟨(some 34), .bin .lss (.t 33) (.t 32), none⟩] (some [2, 4, 7, 31, 32, 33, 34]) none)
    (.seq (.cond (.t 34) .skip
    (.exit 0))
    (.seq (.block 1 (.seq (.reg none [
      ⟨(some 35), .mov (.t 33), none⟩,
      ⟨(some 36), .iaS 1 (.t 31) (.t 33), none⟩,
      ⟨(some 37), .load none (.t 36), none⟩,
      ⟨(some 8), .mov (.t 35), none⟩,
      ⟨(some 9), .mov (.t 37), none⟩] (some [2, 4, 7, 8, 9, 31, 32, 33]) none)
    (.reg (some [(9, 12)]) [
      ⟨(some 38), .mov (.t 8), none⟩,
      ⟨(some 39), .mov (.t 8), none⟩,
      ⟨(some 40), .mov (.t 9), none⟩,
      ⟨(some 41), .fa 2 (.t 2), none⟩,
      ⟨(some 42), .iaA 6 1 (.t 41) (.t 40), none⟩,
      ⟨(some 43), .load none (.t 42), none⟩,
      ⟨(some 44), .mov (.t 9), none⟩,
      ⟨(some 45), .fa 8 (.t 2), none⟩,
      ⟨(some 46), .iaA 6 1 (.t 45) (.t 44), none⟩,
      ⟨(some 47), .load none (.t 46), none⟩,
      ⟨(some 48), .fa 2 (.t 7), none⟩,
      ⟨(some 49), .iaA 6 1 (.t 48) (.t 38), none⟩,
      ⟨none, .store 1 (.t 49) (.t 43), none⟩,
      ⟨(some 50), .fa 8 (.t 7), none⟩,
      ⟨(some 51), .iaA 6 1 (.t 50) (.t 39), none⟩,
      ⟨none, .store 1 (.t 51) (.t 47), none⟩] (some [2, 4, 7, 31, 32, 33]) none)))
    (.reg none [
      ⟨(some 52), .bin .add (.t 33) (.c (.int .i64 1)), none⟩,
      ⟨(some 33), .mov (.t 52), none⟩] (some [2, 4, 7, 31, 32, 33]) none))))
def impl_ReorderShares_M : MC :=
  (.seq (.reg none [
      ⟨(some 2), .box (.t 0), none⟩,
      ⟨(some 4), .new (rl [(2, .int .i8 0), (12, .int .u8 0)]), none⟩,
      ⟨(some 5), .mov (.c (.int .i64 0)), none⟩] (some [1, 2, 4]) none)
    (.seq (.seq (.reg (some [(1, 6), (0, 7), (0, 10), (1, 10), (6, 10), (7, 10), (0, 11), (1, 11), (6, 11)]) [
      ⟨(some 10), .load (some 14) (.t 2), none⟩,
      ⟨(some 11), .call 71 [(.t 10)], none⟩,
      ⟨(some 12), .un .not (.t 11), none⟩,
      ⟨(some 13), .bld [.bool false, .int .i64 0] [(0, 1, (.t 12)), (1, 1, (.c (.int .i64 1)))], none⟩,
      ⟨(some 14), .mov (.t 1), none⟩,
      ⟨(some 15), .fa 0 (.t 2), none⟩,
      ⟨(some 16), .load none (.t 15), none⟩,
      ⟨(some 17), .call 72 [(.t 14), (.t 16)], none⟩,
      ⟨(some 18), .un .not (.t 17), none⟩,
      ⟨(some 19), .bld [.bool false, .int .i64 0] [(0, 1, (.t 18)), (1, 1, (.c (.int .i64 2)))], none⟩,
      ⟨(some 20), .bldS [.bool false, .int .i64 0] 2 [(0, 2, (.t 13)), (2, 2, (.t 19))], none⟩,
      ⟨(some 21), .call 70 [(.t 20)], none⟩,
      ⟨(some 6), .mov (.t 21), none⟩] (some [1, 2, 4, 6]) none)
    (.seq (.reg none [
      ⟨(some 22), .mov (.t 6), none⟩,
      ⟨(some 23), .bin .neq (.t 22) (.c (.int .i64 0)), none⟩] (some [1, 2, 4, 6, 23]) none)
    (.cond (.t 23) (.seq (.reg none [
      ⟨(some 24), .bld (rl [(2, .int .i8 0), (12, .int .u8 0)]) [], none⟩,
      ⟨(some 25), .mov (.t 6), none⟩,
      ⟨none, .store 14 (.t 4) (.t 24), none⟩,
      ⟨(some 5), .mov (.t 25), none⟩] (some [4, 5]) none)
    .ret)
    .skip)))
    (.seq (.reg none [
      ⟨(some 26), .fa 0 (.t 2), none⟩,
      ⟨(some 27), .load none (.t 26), none⟩,
      ⟨(some 28), .fa 1 (.t 2), none⟩,
      ⟨(some 29), .load none (.t 28), none⟩,
      ⟨(some 30), .bld (rl [(2, .int .i8 0), (12, .int .u8 0)]) [(0, 1, (.t 27)), (1, 1, (.t 29))], none⟩,
      ⟨(some 7), .new (rl [(2, .int .i8 0), (12, .int .u8 0)]), none⟩,
      ⟨none, .store 14 (.t 7) (.t 30), none⟩] (some [1, 2, 4, 7]) none)
    (.seq (.seq (.reg none [
      ⟨(some 31), .mov (.t 1), none⟩,
      ⟨(some 32), .lenS (.t 31), none⟩,
      ⟨(some 33), .mov (.c (.int .i64 0)), none⟩] (some [2, 4, 7, 31, 32, 33]) none)
    (.block 0 (.loop impl_ReorderShares_L0)))
    (.seq (.reg none [
      ⟨(some 53), .load (some 14) (.t 7), none⟩,
      ⟨none, .store 14 (.t 4) (.t 53), none⟩,
      ⟨(some 5), .mov (.c (.int .i64 0)), none⟩] (some [4, 5]) none)
    .ret)))))
def impl_ReorderShares_F : MF := ⟨54, [.c 4 (some 14), .t 5], impl_ReorderShares_M⟩
theorem impl_ReorderShares_ok : OkF Try.prog 33 impl_ReorderShares_F Try.f33 (bodyOf Try.f33) := ⟨Try.func33, by kernel_rfl, by kernel_rfl, by kernel_rfl, by kernel_rfl⟩
-- loop.example/g01312/spec.ColumnsOf
def spec_ColumnsOf_M : MC :=
  (.seq (.reg none [
      ⟨(some 3), .box (.t 0), none⟩,
      ⟨(some 6), .new (rl [(64, .int .i8 0)]), none⟩,
      ⟨(some 7), .mov (.c (.int .i64 0)), none⟩] (some [1, 2, 3, 6]) none)
    (.seq (.seq (.reg none [
      ⟨(some 9), .mov (.t 1), none⟩,
      ⟨(some 10), .call 73 [(.t 3), (.t 9)], none⟩,
      ⟨(some 8), .mov (.t 10), none⟩] (some [1, 2, 3, 6, 8]) none)
    (.seq (.reg none [
      ⟨(some 11), .mov (.t 8), none⟩,
      ⟨(some 12), .bin .neq (.t 11) (.c (.int .i64 0)), none⟩] (some [1, 2, 3, 6, 8, 12]) none)
    (.cond (.t 12) (.seq (.reg none [
      ⟨(some 13), .bld (rl [(64, .int .i8 0)]) [], none⟩,
      ⟨(some 14), .mov (.t 8), none⟩,
      ⟨none, .store 64 (.t 6) (.t 13), none⟩,
      ⟨(some 7), .mov (.t 14), none⟩] (some [6, 7]) none)
    .ret)
    .skip)))
    (.seq (.reg none [
      ⟨(some 15), .mov (.t 1), none⟩,
      ⟨(some 16), .mov (.t 2), none⟩,
      ⟨(some 17), .call 74 [(.t 3), (.t 15), (.t 16)], none⟩,
      ⟨none, .store 64 (.t 6) (.t 17), none⟩,
      ⟨(some 7), .mov (.c (.int .i64 0)), none⟩] (some [6, 7]) none)
    .ret)))
def spec_ColumnsOf_F : MF := ⟨18, [.c 6 (some 64), .t 7], spec_ColumnsOf_M⟩
theorem spec_ColumnsOf_ok : OkF Try.prog 34 spec_ColumnsOf_F Try.f34 (bodyOf Try.f34) := ⟨Try.func34, by kernel_rfl, by kernel_rfl, by kernel_rfl, by kernel_rfl⟩
-- loop.example/g01312/impl.ColumnsOf
def impl_ColumnsOf_L0 : MC :=
  (.seq (.reg none [
      ⟨(some 26), .bin .lss (.t 25) (.t 24), none⟩] (some [6, 8, 23, 24, 25, 26]) none)
    (.seq (.cond (.t 26) .skip
    (.exit 0))
    (.seq (.block 1 (.seq (.reg none [
      ⟨(some 27), .iaS 1 (.t 23) (.t 25), none⟩,
      ⟨(some 28), .load none (.t 27), none⟩,
      ⟨(some 11), .mov (.t 28), none⟩] (some [6, 8, 11, 23, 24, 25]) none)
    (.reg none [
      ⟨(some 29), .mov (.t 11), none⟩,
      ⟨(some 30), .iaA 64 1 (.t 8) (.t 29), none⟩,
      ⟨(some 31), .load none (.t 30), none⟩,
      ⟨(some 32), .bin .add (.t 31) (.c (.int .i8 1)), none⟩,
      ⟨(some 33), .iaA 64 1 (.t 8) (.t 29), none⟩,
      ⟨none, .store 1 (.t 33) (.t 32), none⟩] (some [6, 8, 23, 24, 25]) none)))
    (.reg none [
      ⟨(some 34), .bin .add (.t 25) (.c (.int .i64 1)), none⟩,
      ⟨(some 25), .mov (.t 34), none⟩] (some [6, 8, 23, 24, 25]) none))))
def impl_ColumnsOf_M : MC :=
  (.seq (.reg none [
      ⟨(some 3), .box (.t 0), none⟩,
      ⟨(some 6), .new (rl [(64, .int .i8 0)]), none⟩,
      ⟨(some 7), .mov (.c (.int .i64 0)), none⟩] (some [1, 2, 3, 6]) none)
    (.seq (.reg none [
      ⟨(some 12), .bld (rl [(64, .int .i8 0)]) [], none⟩,
      ⟨(some 8), .new (rl [(64, .int .i8 0)]), none⟩,
      ⟨none, .store 64 (.t 8) (.t 12), none⟩] (some [1, 2, 3, 6, 8]) none)
    (.seq (.seq (.reg none [
      ⟨(some 13), .load (some 14) (.t 3), none⟩,
      ⟨(some 14), .mov (.t 1), none⟩,
      ⟨(some 15), .call 75 [(.t 13), (.t 14)], none⟩,
      ⟨(some 9), .mov (.t 15), none⟩] (some [1, 2, 3, 6, 8, 9]) none)
    (.seq (.reg none [
      ⟨(some 16), .mov (.t 9), none⟩,
      ⟨(some 17), .bin .neq (.t 16) (.c (.int .i64 0)), none⟩] (some [1, 2, 3, 6, 8, 9, 17]) none)
    (.cond (.t 17) (.seq (.reg none [
      ⟨(some 18), .load (some 64) (.t 8), none⟩,
      ⟨(some 19), .mov (.t 9), none⟩,
      ⟨none, .store 64 (.t 6) (.t 18), none⟩,
      ⟨(some 7), .mov (.t 19), none⟩] (some [6, 7]) none)
    .ret)
    .skip)))
    (.seq (.seq (.reg none [
      ⟨(some 20), .load (some 14) (.t 3), none⟩,
      ⟨(some 21), .mov (.t 1), none⟩,
      ⟨(some 22), .mov (.t 2), none⟩,
      ⟨(some 23), .call 76 [(.t 20), (.t 21), (.t 22)], none⟩,
      ⟨(some 24), .lenS (.t 23), none⟩,
      ⟨(some 25), .mov (.c (.int .i64 0)), none⟩] (some [6, 8, 23, 24, 25]) none)
    (.block 0 (.loop impl_ColumnsOf_L0)))
    (.seq (.reg none [
      ⟨(some 35), .load (some 64) (.t 8), none⟩,
      ⟨none, .store 64 (.t 6) (.t 35), none⟩,
      ⟨(some 7), .mov (.c (.int .i64 0)), none⟩] (some [6, 7]) none)
    .ret)))))
def impl_ColumnsOf_F : MF := ⟨36, [.c 6 (some 64), .t 7], impl_ColumnsOf_M⟩
theorem impl_ColumnsOf_ok : OkF Try.prog 35 impl_ColumnsOf_F Try.f35 (bodyOf Try.f35) := ⟨Try.func35, by kernel_rfl, by kernel_rfl, by kernel_rfl, by kernel_rfl⟩
-- loop.example/g01312/laws.eqInt8A64
def laws_eqInt8A64_L0 : MC :=
  (.seq (.seq (.reg none [
      ⟨(some 6), .mov (.t 5), none⟩,
      ⟨(some 7), .bin .lss (.t 6) (.c (.int .i64 64)), none⟩] (some [2, 3, 5, 7]) none)
    (.cond (.t 7) .skip
    (.exit 0)))
    (.seq (.block 1 (.seq (.reg (some []) [
      ⟨(some 10), .mov (.t 5), none⟩,
      ⟨(some 11), .iaA 64 1 (.t 2) (.t 10), none⟩,
      ⟨(some 12), .load none (.t 11), none⟩,
      ⟨(some 13), .mov (.t 5), none⟩,
      ⟨(some 14), .iaA 64 1 (.t 3) (.t 13), none⟩,
      ⟨(some 15), .load none (.t 14), none⟩,
      ⟨(some 16), .bin .neq (.t 12) (.t 15), none⟩] (some [2, 3, 5, 16]) none)
    (.cond (.t 16) (.seq (.reg none [
      ⟨(some 4), .mov (.c (.bool false)), none⟩] (some [4]) none)
    .ret)
    .skip)))
    (.reg none [
      ⟨(some 8), .mov (.t 5), none⟩,
      ⟨(some 9), .bin .add (.t 8) (.c (.int .i64 1)), none⟩,
      ⟨(some 5), .mov (.t 9), none⟩] (some [2, 3, 5]) none)))
def laws_eqInt8A64_M : MC :=
  (.seq (.reg none [
      ⟨(some 2), .box (.t 0), none⟩,
      ⟨(some 3), .box (.t 1), none⟩,
      ⟨(some 4), .mov (.c (.bool false)), none⟩] (some [2, 3]) none)
    (.seq (.seq (.reg none [
      ⟨(some 5), .mov (.c (.int .i64 0)), none⟩] (some [2, 3, 5]) none)
    (.block 0 (.loop laws_eqInt8A64_L0)))
    (.seq (.reg none [
      ⟨(some 4), .mov (.c (.bool true)), none⟩] (some [4]) none)
    .ret)))
def laws_eqInt8A64_F : MF := ⟨17, [.t 4], laws_eqInt8A64_M⟩
theorem laws_eqInt8A64_ok : OkF Try.prog 36 laws_eqInt8A64_F Try.f36 (bodyOf Try.f36) := ⟨Try.func36, by kernel_rfl, by kernel_rfl, by kernel_rfl, by kernel_rfl⟩
-- loop.example/g01312/spec.ReorderParts
def spec_ReorderParts_L0 : MC :=
  (.seq (.seq (.reg none [
      ⟨(some 17), .mov (.t 6), none⟩,
      ⟨(some 18), .bin .lss (.t 17) (.c (.int .i64 64)), none⟩] (some [1, 2, 4, 6, 18]) none)
    (.cond (.t 18) .skip
    (.exit 0)))
    (.seq (.block 1 (.reg none [
      ⟨(some 21), .mov (.t 6), none⟩,
      ⟨(some 22), .mov (.t 6), none⟩,
      ⟨(some 23), .fa 1 (.t 2), none⟩,
      ⟨(some 24), .iaA 64 1 (.t 23) (.t 22), none⟩,
      ⟨(some 25), .load none (.t 24), none⟩,
      ⟨(some 26), .mov (.t 1), none⟩,
      ⟨(some 27), .call 78 [(.t 25), (.t 26)], none⟩,
      ⟨(some 28), .fa 1 (.t 2), none⟩,
      ⟨(some 29), .iaA 64 1 (.t 28) (.t 21), none⟩,
      ⟨none, .store 1 (.t 29) (.t 27), none⟩] (some [1, 2, 4, 6]) none))
    (.reg none [
      ⟨(some 19), .mov (.t 6), none⟩,
      ⟨(some 20), .bin .add (.t 19) (.c (.int .i64 1)), none⟩,
      ⟨(some 6), .mov (.t 20), none⟩] (some [1, 2, 4, 6]) none)))
def spec_ReorderParts_M : MC :=
  (.seq (.reg none [
      ⟨(some 2), .box (.t 0), none⟩,
      ⟨(some 4), .new (rl [(1, .int .i8 0), (64, .int .u8 0)]), none⟩,
      ⟨(some 5), .mov (.c (.int .i64 0)), none⟩] (some [1, 2, 4]) none)
    (.seq (.seq (.reg none [
      ⟨(some 7), .call 77 [(.t 2)], none⟩,
      ⟨(some 8), .un .not (.t 7), none⟩] (some [1, 2, 4, 8]) none)
    (.cond (.t 8) (.seq (.reg none [
      ⟨(some 9), .bld (rl [(1, .int .i8 0), (64, .int .u8 0)]) [], none⟩,
      ⟨none, .store 65 (.t 4) (.t 9), none⟩,
      ⟨(some 5), .mov (.c (.int .i64 1)), none⟩] (some [4, 5]) none)
    .ret)
    .skip))
    (.seq (.seq (.reg none [
      ⟨(some 10), .mov (.t 1), none⟩,
      ⟨(some 11), .fa 0 (.t 2), none⟩,
      ⟨(some 12), .load none (.t 11), none⟩,
      ⟨(some 13), .conv .i64 (.t 12), none⟩,
      ⟨(some 14), .call 68 [(.t 10), (.t 13)], none⟩,
      ⟨(some 15), .un .not (.t 14), none⟩] (some [1, 2, 4, 15]) none)
    (.cond (.t 15) (.seq (.reg none [
      ⟨(some 16), .bld (rl [(1, .int .i8 0), (64, .int .u8 0)]) [], none⟩,
      ⟨none, .store 65 (.t 4) (.t 16), none⟩,
      ⟨(some 5), .mov (.c (.int .i64 2)), none⟩] (some [4, 5]) none)
    .ret)
    .skip))
    (.seq (.seq (.reg none [
      ⟨(some 6), .mov (.c (.int .i64 0)), none⟩] (some [1, 2, 4, 6]) none)
    (.block 0 (.loop spec_ReorderParts_L0)))
    (.seq (.reg none [
      ⟨(some 30), .load (some 65) (.t 2), none⟩,
      ⟨none, .store 65 (.t 4) (.t 30), none⟩,
      ⟨(some 5), .mov (.c (.int .i64 0)), none⟩] (some [4, 5]) none)
    .ret)))))
def spec_ReorderParts_F : MF := ⟨31, [.c 4 (some 65), .t 5], spec_ReorderParts_M⟩
theorem spec_ReorderParts_ok : OkF Try.prog 37 spec_ReorderParts_F Try.f37 (bodyOf Try.f37) := ⟨Try.func37, by kernel_rfl, by kernel_rfl, by kernel_rfl, by kernel_rfl⟩
-- loop.example/g01312/laws.toLayer
def laws_toLayer_M : MC :=
  (.seq (.reg none [
      ⟨(some 1), .box (.t 0), none⟩,
      ⟨(some 2), .new (rl [(1, .int .i8 0), (64, .int .u8 0)]), none⟩] (some [1, 2]) none)
    (.seq (.reg none [
      ⟨(some 3), .new (rl [(1, .int .i8 0), (64, .int .u8 0)]), none⟩] (some [1, 2, 3]) none)
    (.seq (.reg none [
      ⟨(some 4), .fa 0 (.t 1), none⟩,
      ⟨(some 5), .load none (.t 4), none⟩,
      ⟨(some 6), .fa 0 (.t 3), none⟩,
      ⟨none, .store 1 (.t 6) (.t 5), none⟩] (some [1, 2, 3]) none)
    (.seq (.reg none [
      ⟨(some 7), .fa 1 (.t 1), none⟩,
      ⟨(some 8), .load (some 64) (.t 7), none⟩,
      ⟨(some 9), .call 79 [(.t 8)], none⟩,
      ⟨(some 10), .fa 1 (.t 3), none⟩,
      ⟨none, .store 64 (.t 10) (.t 9), none⟩] (some [2, 3]) none)
    (.seq (.reg none [
      ⟨(some 11), .load (some 65) (.t 3), none⟩,
      ⟨none, .store 65 (.t 2) (.t 11), none⟩] (some [2]) none)
    .ret)))))
def laws_toLayer_F : MF := ⟨12, [.c 2 (some 65)], laws_toLayer_M⟩
theorem laws_toLayer_ok : OkF Try.prog 38 laws_toLayer_F Try.f38 (bodyOf Try.f38) := ⟨Try.func38, by kernel_rfl, by kernel_rfl, by kernel_rfl, by kernel_rfl⟩
-- loop.example/g01312/impl.ReorderParts
def impl_ReorderParts_M : MC :=
  (.seq (.reg none [
      ⟨(some 2), .box (.t 0), none⟩,
      ⟨(some 3), .box (.t 1), none⟩,
      ⟨(some 4), .new (rl [(1, .int .i8 0), (64, .int .u8 0)]), none⟩,
      ⟨(some 5), .mov (.c (.int .i64 0)), none⟩] (some [2, 3, 4]) none)
    (.seq (.seq (.reg (some [(1, 4), (1, 6), (0, 7), (0, 10), (1, 10), (4, 10), (6, 10), (7, 10), (0, 11), (1, 11), (4, 11), (6, 11)]) [
      ⟨(some 7), .load (some 65) (.t 2), none⟩,
      ⟨(some 8), .call 80 [(.t 7)], none⟩,
      ⟨(some 9), .un .not (.t 8), none⟩,
      ⟨(some 10), .bld [.bool false, .int .i64 0] [(0, 1, (.t 9)), (1, 1, (.c (.int .i64 1)))], none⟩,
      ⟨(some 11), .load none (.t 3), none⟩,
      ⟨(some 12), .fa 0 (.t 2), none⟩,
      ⟨(some 13), .load none (.t 12), none⟩,
      ⟨(some 14), .call 72 [(.t 11), (.t 13)], none⟩,
      ⟨(some 15), .un .not (.t 14), none⟩,
      ⟨(some 16), .bld [.bool false, .int .i64 0] [(0, 1, (.t 15)), (1, 1, (.c (.int .i64 2)))], none⟩,
      ⟨(some 17), .bldS [.bool false, .int .i64 0] 2 [(0, 2, (.t 10)), (2, 2, (.t 16))], none⟩,
      ⟨(some 18), .call 70 [(.t 17)], none⟩,
      ⟨(some 6), .mov (.t 18), none⟩] (some [2, 3, 4, 6]) none)
    (.seq (.reg none [
      ⟨(some 19), .mov (.t 6), none⟩,
      ⟨(some 20), .bin .neq (.t 19) (.c (.int .i64 0)), none⟩] (some [2, 3, 4, 6, 20]) none)
    (.cond (.t 20) (.seq (.reg none [
      ⟨(some 21), .bld (rl [(1, .int .i8 0), (64, .int .u8 0)]) [], none⟩,
      ⟨(some 22), .mov (.t 6), none⟩,
      ⟨none, .store 65 (.t 4) (.t 21), none⟩,
      ⟨(some 5), .mov (.t 22), none⟩] (some [4, 5]) none)
    .ret)
    .skip)))
    (.seq (.reg none [
      ⟨(some 23), .load (some 65) (.t 2), none⟩,
      ⟨(some 24), .mkf 82 [] [(.t 2), (.t 3)], none⟩,
      ⟨(some 25), .call 81 [(.t 23), (.t 24)], none⟩,
      ⟨none, .store 65 (.t 4) (.t 25), none⟩,
      ⟨(some 5), .mov (.c (.int .i64 0)), none⟩] (some [4, 5]) none)
    .ret)))
def impl_ReorderParts_F : MF := ⟨26, [.c 4 (some 65), .t 5], impl_ReorderParts_M⟩
theorem impl_ReorderParts_ok : OkF Try.prog 39 impl_ReorderParts_F Try.f39 (bodyOf Try.f39) := ⟨Try.func39, by kernel_rfl, by kernel_rfl, by kernel_rfl, by kernel_rfl⟩
-- loop.example/g01312/laws.eqLayer
def laws_eqLayer_M : MC :=
  (.seq (.reg none [
      ⟨(some 2), .box (.t 0), none⟩,
      ⟨(some 3), .box (.t 1), none⟩,
      ⟨(some 4), .mov (.c (.bool false)), none⟩] (some [2, 3]) none)
    (.seq (.seq (.reg none [
      ⟨(some 5), .fa 0 (.t 2), none⟩,
      ⟨(some 6), .load none (.t 5), none⟩,
      ⟨(some 7), .fa 0 (.t 3), none⟩,
      ⟨(some 8), .load none (.t 7), none⟩,
      ⟨(some 9), .bin .neq (.t 6) (.t 8), none⟩] (some [2, 3, 9]) none)
    (.cond (.t 9) (.seq (.reg none [
      ⟨(some 4), .mov (.c (.bool false)), none⟩] (some [4]) none)
    .ret)
    .skip))
    (.seq (.seq (.reg none [
      ⟨(some 10), .fa 1 (.t 2), none⟩,
      ⟨(some 11), .load (some 64) (.t 10), none⟩,
      ⟨(some 12), .fa 1 (.t 3), none⟩,
      ⟨(some 13), .load (some 64) (.t 12), none⟩,
      ⟨(some 14), .call 84 [(.t 11), (.t 13)], none⟩,
      ⟨(some 15), .un .not (.t 14), none⟩] (some [15]) none)
    (.cond (.t 15) (.seq (.reg none [
      ⟨(some 4), .mov (.c (.bool false)), none⟩] (some [4]) none)
    .ret)
    .skip))
    (.seq (.reg none [
      ⟨(some 4), .mov (.c (.bool true)), none⟩] (some [4]) none)
    .ret))))
def laws_eqLayer_F : MF := ⟨16, [.t 4], laws_eqLayer_M⟩
theorem laws_eqLayer_ok : OkF Try.prog 40 laws_eqLayer_F Try.f40 (bodyOf Try.f40) := ⟨Try.func40, by kernel_rfl, by kernel_rfl, by kernel_rfl, by kernel_rfl⟩
-- loop.example/g01312/spec.SeeingSets
def spec_SeeingSets_M : MC :=
  (.seq (.reg none [
      ⟨(some 1), .box (.t 0), none⟩,
      ⟨(some 2), .mov (.c (.int .u64 0)), none⟩,
      ⟨(some 3), .mov (.c (.int .i64 0)), none⟩] (some [1]) none)
    (.seq (.seq (.reg none [
      ⟨(some 6), .call 67 [(.t 1)], none⟩,
      ⟨(some 7), .un .not (.t 6), none⟩] (some [1, 7]) none)
    (.cond (.t 7) (.seq (.reg none [
      ⟨(some 2), .mov (.c (.int .u64 0)), none⟩,
      ⟨(some 3), .mov (.c (.int .i64 1)), none⟩] (some [2, 3]) none)
    .ret)
    .skip))
    (.seq (.reg none [
      ⟨(some 9), .call 85 [(.t 1)], none⟩,
      ⟨(some 8), .mov (.t 9), none⟩,
      ⟨(some 10), .ext (.t 8) 0, none⟩,
      ⟨(some 11), .ext (.t 8) 1, none⟩,
      ⟨(some 4), .mov (.t 10), none⟩,
      ⟨(some 5), .mov (.t 11), none⟩] (some [4]) none)
    (.seq (.reg none [
      ⟨(some 12), .mov (.t 4), none⟩,
      ⟨(some 2), .mov (.t 12), none⟩,
      ⟨(some 3), .mov (.c (.int .i64 0)), none⟩] (some [2, 3]) none)
    .ret))))
def spec_SeeingSets_F : MF := ⟨13, [.t 2, .t 3], spec_SeeingSets_M⟩
theorem spec_SeeingSets_ok : OkF Try.prog 41 spec_SeeingSets_F Try.f41 (bodyOf Try.f41) := ⟨Try.func41, by kernel_rfl, by kernel_rfl, by kernel_rfl, by kernel_rfl⟩
-- loop.example/g01312/impl.SeeingSets
def impl_SeeingSets_M : MC :=
  (.seq (.reg none [
      ⟨(some 1), .box (.t 0), none⟩,
      ⟨(some 2), .mov (.c (.int .u64 0)), none⟩,
      ⟨(some 3), .mov (.c (.int .i64 0)), none⟩] (some [1]) none)
    (.seq (.seq (.reg none [
      ⟨(some 4), .load (some 14) (.t 1), none⟩,
      ⟨(some 5), .call 71 [(.t 4)], none⟩,
      ⟨(some 6), .un .not (.t 5), none⟩] (some [1, 6]) none)
    (.cond (.t 6) (.seq (.reg none [
      ⟨(some 2), .mov (.c (.int .u64 0)), none⟩,
      ⟨(some 3), .mov (.c (.int .i64 1)), none⟩] (some [2, 3]) none)
    .ret)
    .skip))
    (.seq (.reg none [
      ⟨(some 7), .load (some 14) (.t 1), none⟩,
      ⟨(some 8), .call 86 [(.t 7)], none⟩,
      ⟨(some 2), .mov (.t 8), none⟩,
      ⟨(some 3), .mov (.c (.int .i64 0)), none⟩] (some [2, 3]) none)
    .ret)))
def impl_SeeingSets_F : MF := ⟨9, [.t 2, .t 3], impl_SeeingSets_M⟩
theorem impl_SeeingSets_ok : OkF Try.prog 42 impl_SeeingSets_F Try.f42 (bodyOf Try.f42) := ⟨Try.func42, by kernel_rfl, by kernel_rfl, by kernel_rfl, by kernel_rfl⟩
-- loop.example/g01312/spec.StackLayers
def spec_StackLayers_L0 : MC :=
  (.seq (.seq (.reg none [
      ⟨(some 14), .mov (.t 4), none⟩,
      ⟨(some 15), .mov (.t 0), none⟩,
      ⟨(some 16), .lenS (.t 15), none⟩,
      ⟨(some 17), .bin .lss (.t 14) (.t 16), none⟩] (some [0, 2, 4, 17]) none)
    (.cond (.t 17) .skip
    (.exit 0)))
    (.seq (.block 1 (.seq (.reg (some []) [
      ⟨(some 20), .mov (.t 0), none⟩,
      ⟨(some 21), .mov (.t 4), none⟩,
      ⟨(some 22), .iaS 65 (.t 20) (.t 21), none⟩,
      ⟨(some 23), .fa 0 (.t 22), none⟩,
      ⟨(some 24), .load none (.t 23), none⟩,
      ⟨(some 25), .mov (.t 0), none⟩,
      ⟨(some 26), .iaS 65 (.t 25) (.c (.int .i64 0)), none⟩,
      ⟨(some 27), .fa 0 (.t 26), none⟩,
      ⟨(some 28), .load none (.t 27), none⟩,
      ⟨(some 29), .bin .neq (.t 24) (.t 28), none⟩] (some [0, 2, 4, 29]) none)
    (.cond (.t 29) (.seq (.reg none [
      ⟨(some 30), .bld (rl [(1, .int .i8 0), (64, .int .u8 0)]) [], none⟩,
      ⟨none, .store 65 (.t 2) (.t 30), none⟩,
      ⟨(some 3), .mov (.c (.int .i64 4)), none⟩] (some [2, 3]) none)
    .ret)
    .skip)))
    (.reg none [
      ⟨(some 18), .mov (.t 4), none⟩,
      ⟨(some 19), .bin .add (.t 18) (.c (.int .i64 1)), none⟩,
      ⟨(some 4), .mov (.t 19), none⟩] (some [0, 2, 4]) none)))
def spec_StackLayers_M : MC :=
  (.seq (.reg none [
      ⟨(some 2), .new (rl [(1, .int .i8 0), (64, .int .u8 0)]), none⟩,
      ⟨(some 3), .mov (.c (.int .i64 0)), none⟩] (some [0, 2]) none)
    (.seq (.seq (.reg none [
      ⟨(some 5), .mov (.t 0), none⟩,
      ⟨(some 6), .call 87 [(.t 5)], none⟩,
      ⟨(some 7), .un .not (.t 6), none⟩] (some [0, 2, 7]) none)
    (.cond (.t 7) (.seq (.reg none [
      ⟨(some 8), .bld (rl [(1, .int .i8 0), (64, .int .u8 0)]) [], none⟩,
      ⟨none, .store 65 (.t 2) (.t 8), none⟩,
      ⟨(some 3), .mov (.c (.int .i64 1)), none⟩] (some [2, 3]) none)
    .ret)
    .skip))
    (.seq (.seq (.reg none [
      ⟨(some 9), .mov (.t 0), none⟩,
      ⟨(some 10), .lenS (.t 9), none⟩,
      ⟨(some 11), .call 61 [(.t 10), (.c (.int .i64 1)), (.c (.int .i64 8))], none⟩,
      ⟨(some 12), .un .not (.t 11), none⟩] (some [0, 2, 12]) none)
    (.cond (.t 12) (.seq (.reg none [
      ⟨(some 13), .bld (rl [(1, .int .i8 0), (64, .int .u8 0)]) [], none⟩,
      ⟨none, .store 65 (.t 2) (.t 13), none⟩,
      ⟨(some 3), .mov (.c (.int .i64 2)), none⟩] (some [2, 3]) none)
    .ret)
    .skip))
    (.seq (.seq (.reg none [
      ⟨(some 4), .mov (.c (.int .i64 0)), none⟩] (some [0, 2, 4]) none)
    (.block 0 (.loop spec_StackLayers_L0)))
    (.seq (.reg none [
      ⟨(some 31), .mov (.t 0), none⟩,
      ⟨(some 32), .call 88 [(.t 31)], none⟩,
      ⟨none, .store 65 (.t 2) (.t 32), none⟩,
      ⟨(some 3), .mov (.c (.int .i64 0)), none⟩] (some [2, 3]) none)
    .ret)))))
def spec_StackLayers_F : MF := ⟨33, [.c 2 (some 65), .t 3], spec_StackLayers_M⟩
theorem spec_StackLayers_ok : OkF Try.prog 43 spec_StackLayers_F Try.f43 (bodyOf Try.f43) := ⟨Try.func43, by kernel_rfl, by kernel_rfl, by kernel_rfl, by kernel_rfl⟩
-- loop.example/g01312/impl.StackLayers
def impl_StackLayers_M : MC :=
  (.seq (.reg none [
      ⟨(some 2), .new (rl [(1, .int .i8 0), (64, .int .u8 0)]), none⟩,
      ⟨(some 3), .mov (.c (.int .i64 0)), none⟩] (some [0, 2]) none)
    (.seq (.seq (.reg none [
      ⟨(some 5), .mov (.t 0), none⟩,
      ⟨(some 6), .call 89 [(.t 5)], none⟩,
      ⟨(some 4), .mov (.t 6), none⟩] (some [0, 2, 4]) none)
    (.seq (.reg none [
      ⟨(some 7), .mov (.t 4), none⟩,
      ⟨(some 8), .bin .neq (.t 7) (.c (.int .i64 0)), none⟩] (some [0, 2, 4, 8]) none)
    (.cond (.t 8) (.seq (.reg none [
      ⟨(some 9), .bld (rl [(1, .int .i8 0), (64, .int .u8 0)]) [], none⟩,
      ⟨(some 10), .mov (.t 4), none⟩,
      ⟨none, .store 65 (.t 2) (.t 9), none⟩,
      ⟨(some 3), .mov (.t 10), none⟩] (some [2, 3]) none)
    .ret)
    .skip)))
    (.seq (.reg none [
      ⟨(some 11), .mov (.t 0), none⟩,
      ⟨(some 12), .call 90 [(.t 11)], none⟩,
      ⟨none, .store 65 (.t 2) (.t 12), none⟩,
      ⟨(some 3), .mov (.c (.int .i64 0)), none⟩] (some [2, 3]) none)
    .ret)))
def impl_StackLayers_F : MF := ⟨13, [.c 2 (some 65), .t 3], impl_StackLayers_M⟩
theorem impl_StackLayers_ok : OkF Try.prog 44 impl_StackLayers_F Try.f44 (bodyOf Try.f44) := ⟨Try.func44, by kernel_rfl, by kernel_rfl, by kernel_rfl, by kernel_rfl⟩
-- loop.example/g01312/spec.CellFor
def spec_CellFor_M : MC :=
  (.seq (.reg none [
      ⟨(some 3), .box (.t 0), none⟩,
      ⟨(some 6), .mov (.c (.nilsl)), none⟩,
      ⟨(some 7), .mov (.c (.int .i64 0)), none⟩] (some [1, 2, 3]) none)
    (.seq (.seq (.reg none [
      ⟨(some 8), .load (some 14) (.t 3), none⟩,
      ⟨(some 9), .call 91 [(.t 8)], none⟩,
      ⟨(some 10), .un .not (.t 9), none⟩] (some [1, 2, 3, 10]) none)
    (.cond (.t 10) (.seq (.reg none [
      ⟨(some 11), .bldS [.int .u8 0] 0 [], none⟩,
      ⟨(some 6), .mov (.t 11), none⟩,
      ⟨(some 7), .mov (.c (.int .i64 1)), none⟩] (some [6, 7]) none)
    .ret)
    .skip))
    (.seq (.seq (.reg none [
      ⟨(some 12), .mov (.t 2), none⟩,
      ⟨(some 13), .fa 1 (.t 3), none⟩,
      ⟨(some 14), .load none (.t 13), none⟩,
      ⟨(some 15), .conv .i64 (.t 14), none⟩,
      ⟨(some 16), .call 68 [(.t 12), (.t 15)], none⟩,
      ⟨(some 17), .un .not (.t 16), none⟩] (some [1, 2, 3, 17]) none)
    (.cond (.t 17) (.seq (.reg none [
      ⟨(some 18), .bldS [.int .u8 0] 0 [], none⟩,
      ⟨(some 6), .mov (.t 18), none⟩,
      ⟨(some 7), .mov (.c (.int .i64 2)), none⟩] (some [6, 7]) none)
    .ret)
    .skip))
    (.seq (.reg none [
      ⟨(some 19), .mov (.t 1), none⟩,
      ⟨(some 20), .mov (.t 2), none⟩,
      ⟨(some 21), .call 92 [(.t 3), (.t 19), (.t 20)], none⟩,
      ⟨(some 6), .mov (.t 21), none⟩,
      ⟨(some 7), .mov (.c (.int .i64 0)), none⟩] (some [6, 7]) none)
    .ret))))
def spec_CellFor_F : MF := ⟨22, [.t 6, .t 7], spec_CellFor_M⟩
theorem spec_CellFor_ok : OkF Try.prog 45 spec_CellFor_F Try.f45 (bodyOf Try.f45) := ⟨Try.func45, by kernel_rfl, by kernel_rfl, by kernel_rfl, by kernel_rfl⟩
-- loop.example/g01312/impl.CellFor
def impl_CellFor_L0 : MC :=
  (.seq (.reg none [
      ⟨(some 36), .bin .lss (.t 35) (.t 34), none⟩] (some [2, 9, 33, 34, 35, 36]) none)
    (.seq (.cond (.t 36) .skip
    (.exit 0))
    (.seq (.block 1 (.seq (.reg none [
      ⟨(some 37), .iaS 1 (.t 33) (.t 35), none⟩,
      ⟨(some 38), .load none (.t 37), none⟩,
      ⟨(some 11), .mov (.t 38), none⟩] (some [2, 9, 11, 33, 34, 35]) none)
    (.reg none [
      ⟨(some 39), .mov (.t 9), none⟩,
      ⟨(some 40), .mov (.t 11), none⟩,
      ⟨(some 41), .mov (.t 2), none⟩,
      ⟨(some 42), .call 83 [(.t 40), (.t 41)], none⟩,
      ⟨(some 43), .bldS [.int .u8 0] 1 [(0, 1, (.t 42))], none⟩,
      ⟨(some 44), .app [.int .u8 0] 1 false (.t 39) (.t 43), none⟩,
      ⟨(some 9), .mov (.t 44), none⟩] (some [2, 9, 33, 34, 35]) none)))
    (.reg none [
      ⟨(some 45), .bin .add (.t 35) (.c (.int .i64 1)), none⟩,
      ⟨(some 35), .mov (.t 45), none⟩] (some [2, 9, 33, 34, 35]) (some 3)))))
def impl_CellFor_M : MC :=
  (.seq (.reg none [
      ⟨(some 3), .box (.t 0), none⟩,
      ⟨(some 6), .mov (.c (.nilsl)), none⟩,
      ⟨(some 7), .mov (.c (.int .i64 0)), none⟩] (some [1, 2, 3]) none)
    (.seq (.seq (.reg (some [(1, 6), (0, 7), (0, 10), (1, 10), (6, 10), (7, 10), (0, 11), (1, 11), (6, 11)]) [
      ⟨(some 12), .load (some 14) (.t 3), none⟩,
      ⟨(some 13), .call 71 [(.t 12)], none⟩,
      ⟨(some 14), .un .not (.t 13), none⟩,
      ⟨(some 15), .bld [.bool false, .int .i64 0] [(0, 1, (.t 14)), (1, 1, (.c (.int .i64 1)))], none⟩,
      ⟨(some 16), .mov (.t 2), none⟩,
      ⟨(some 17), .fa 1 (.t 3), none⟩,
      ⟨(some 18), .load none (.t 17), none⟩,
      ⟨(some 19), .call 72 [(.t 16), (.t 18)], none⟩,
      ⟨(some 20), .un .not (.t 19), none⟩,
      ⟨(some 21), .bld [.bool false, .int .i64 0] [(0, 1, (.t 20)), (1, 1, (.c (.int .i64 2)))], none⟩,
      ⟨(some 22), .bldS [.bool false, .int .i64 0] 2 [(0, 2, (.t 15)), (2, 2, (.t 21))], none⟩,
      ⟨(some 23), .call 70 [(.t 22)], none⟩,
      ⟨(some 8), .mov (.t 23), none⟩] (some [1, 2, 3, 8]) none)
    (.seq (.reg none [
      ⟨(some 24), .mov (.t 8), none⟩,
      ⟨(some 25), .bin .neq (.t 24) (.c (.int .i64 0)), none⟩] (some [1, 2, 3, 8, 25]) none)
    (.cond (.t 25) (.seq (.reg none [
      ⟨(some 26), .mov (.t 8), none⟩,
      ⟨(some 6), .mov (.c (.nilsl)), none⟩,
      ⟨(some 7), .mov (.t 26), none⟩] (some [6, 7]) none)
    .ret)
    .skip)))
    (.seq (.reg none [
      ⟨(some 27), .bldS [.int .u8 0] 0 [], none⟩,
      ⟨(some 9), .mov (.t 27), none⟩] (some [1, 2, 3, 9]) none)
    (.seq (.seq (.reg (some [(1, 4)]) [
      ⟨(some 28), .mov (.t 1), none⟩,
      ⟨(some 29), .call 93 [(.t 3), (.t 28)], none⟩,
      ⟨(some 30), .nilc (.t 29), none⟩,
      ⟨(some 31), .fa 0 (.t 3), none⟩,
      ⟨(some 32), .load none (.t 31), none⟩,
      ⟨(some 33), .slA 6 1 (.t 30) none (some (.t 32)), none⟩,
      ⟨(some 34), .lenS (.t 33), none⟩,
      ⟨(some 35), .mov (.c (.int .i64 0)), none⟩] (some [2, 9, 33, 34, 35]) none)
    (.block 0 (.loop impl_CellFor_L0)))
    (.seq (.reg none [
      ⟨(some 46), .mov (.t 9), none⟩,
      ⟨(some 6), .mov (.t 46), none⟩,
      ⟨(some 7), .mov (.c (.int .i64 0)), none⟩] (some [6, 7]) none)
    .ret)))))
def impl_CellFor_F : MF := ⟨47, [.t 6, .t 7], impl_CellFor_M⟩
theorem impl_CellFor_ok : OkF Try.prog 46 impl_CellFor_F Try.f46 (bodyOf Try.f46) := ⟨Try.func46, by kernel_rfl, by kernel_rfl, by kernel_rfl, by kernel_rfl⟩
-- loop.example/g01312/laws.eqByteS
def laws_eqByteS_L0 : MC :=
  (.seq (.seq (.reg none [
      ⟨(some 11), .mov (.t 5), none⟩,
      ⟨(some 12), .mov (.t 0), none⟩,
      ⟨(some 13), .lenS (.t 12), none⟩,
      ⟨(some 14), .bin .lss (.t 11) (.t 13), none⟩] (some [0, 1, 5, 14]) none)
    (.cond (.t 14) .skip
    (.exit 0)))
    (.seq (.block 1 (.seq (.reg (some []) [
      ⟨(some 17), .mov (.t 0), none⟩,
      ⟨(some 18), .mov (.t 5), none⟩,
      ⟨(some 19), .iaS 1 (.t 17) (.t 18), none⟩,
      ⟨(some 20), .load none (.t 19), none⟩,
      ⟨(some 21), .mov (.t 1), none⟩,
      ⟨(some 22), .mov (.t 5), none⟩,
      ⟨(some 23), .iaS 1 (.t 21) (.t 22), none⟩,
      ⟨(some 24), .load none (.t 23), none⟩,
      ⟨(some 25), .bin .neq (.t 20) (.t 24), none⟩] (some [0, 1, 5, 25]) none)
    (.cond (.t 25) (.seq (.reg none [
      ⟨(some 4), .mov (.c (.bool false)), none⟩] (some [4]) none)
    .ret)
    .skip)))
    (.reg none [
      ⟨(some 15), .mov (.t 5), none⟩,
      ⟨(some 16), .bin .add (.t 15) (.c (.int .i64 1)), none⟩,
      ⟨(some 5), .mov (.t 16), none⟩] (some [0, 1, 5]) none)))
def laws_eqByteS_M : MC :=
  (.seq (.reg none [
      ⟨(some 4), .mov (.c (.bool false)), none⟩] (some [0, 1]) none)
    (.seq (.seq (.reg none [
      ⟨(some 6), .mov (.t 0), none⟩,
      ⟨(some 7), .lenS (.t 6), none⟩,
      ⟨(some 8), .mov (.t 1), none⟩,
      ⟨(some 9), .lenS (.t 8), none⟩,
      ⟨(some 10), .bin .neq (.t 7) (.t 9), none⟩] (some [0, 1, 10]) none)
    (.cond (.t 10) (.seq (.reg none [
      ⟨(some 4), .mov (.c (.bool false)), none⟩] (some [4]) none)
    .ret)
    .skip))
    (.seq (.seq (.reg none [
      ⟨(some 5), .mov (.c (.int .i64 0)), none⟩] (some [0, 1, 5]) none)
    (.block 0 (.loop laws_eqByteS_L0)))
    (.seq (.reg none [
      ⟨(some 4), .mov (.c (.bool true)), none⟩] (some [4]) none)
    .ret))))
def laws_eqByteS_F : MF := ⟨26, [.t 4], laws_eqByteS_M⟩
theorem laws_eqByteS_ok : OkF Try.prog 47 laws_eqByteS_F Try.f47 (bodyOf Try.f47) := ⟨Try.func47, by kernel_rfl, by kernel_rfl, by kernel_rfl, by kernel_rfl⟩
-- loop.example/g01312/laws.markByteS
def laws_markByteS_L0 : MC :=
  (.seq (.seq (.reg none [
      ⟨(some 6), .mov (.t 5), none⟩,
      ⟨(some 7), .mov (.t 0), none⟩,
      ⟨(some 8), .lenS (.t 7), none⟩,
      ⟨(some 9), .bin .lss (.t 6) (.t 8), none⟩] (some [0, 1, 5, 9]) none)
    (.cond (.t 9) .skip
    (.exit 0)))
    (.seq (.block 1 (.seq (.reg none [
      ⟨(some 12), .mov (.t 0), none⟩,
      ⟨(some 13), .mov (.t 5), none⟩,
      ⟨(some 14), .mov (.t 1), none⟩,
      ⟨(some 15), .conv .u8 (.t 14), none⟩,
      ⟨(some 16), .iaS 1 (.t 12) (.t 13), none⟩,
      ⟨none, .store 1 (.t 16) (.t 15), none⟩] (some [0, 1, 5]) none)
    (.reg none [
      ⟨(some 17), .mov (.t 1), none⟩,
      ⟨(some 18), .bin .add (.t 17) (.c (.int .i64 1)), none⟩,
      ⟨(some 1), .mov (.t 18), none⟩] (some [0, 1, 5]) none)))
    (.reg none [
      ⟨(some 10), .mov (.t 5), none⟩,
      ⟨(some 11), .bin .add (.t 10) (.c (.int .i64 1)), none⟩,
      ⟨(some 5), .mov (.t 11), none⟩] (some [0, 1, 5]) none)))
def laws_markByteS_M : MC :=
  (.seq (.reg none [
      ⟨(some 4), .mov (.c (.int .i64 0)), none⟩] (some [0, 1]) none)
    (.seq (.seq (.reg none [
      ⟨(some 5), .mov (.c (.int .i64 0)), none⟩] (some [0, 1, 5]) none)
    (.block 0 (.loop laws_markByteS_L0)))
    (.seq (.reg none [
      ⟨(some 19), .mov (.t 1), none⟩,
      ⟨(some 4), .mov (.t 19), none⟩] (some [4]) none)
    .ret)))
def laws_markByteS_F : MF := ⟨20, [.t 4], laws_markByteS_M⟩
theorem laws_markByteS_ok : OkF Try.prog 48 laws_markByteS_F Try.f48 (bodyOf Try.f48) := ⟨Try.func48, by kernel_rfl, by kernel_rfl, by kernel_rfl, by kernel_rfl⟩
-- loop.example/g01312/laws.heldByteS
def laws_heldByteS_L0 : MC :=
  (.seq (.seq (.reg none [
      ⟨(some 6), .mov (.t 5), none⟩,
      ⟨(some 7), .mov (.t 0), none⟩,
      ⟨(some 8), .lenS (.t 7), none⟩,
      ⟨(some 9), .bin .lss (.t 6) (.t 8), none⟩] (some [0, 1, 5, 9]) none)
    (.cond (.t 9) .skip
    (.exit 0)))
    (.seq (.block 1 (.seq (.seq (.reg none [
      ⟨(some 12), .mov (.t 0), none⟩,
      ⟨(some 13), .mov (.t 5), none⟩,
      ⟨(some 14), .iaS 1 (.t 12) (.t 13), none⟩,
      ⟨(some 15), .load none (.t 14), none⟩,
      ⟨(some 16), .mov (.t 1), none⟩,
      ⟨(some 17), .conv .u8 (.t 16), none⟩,
      ⟨(some 18), .bin .neq (.t 15) (.t 17), none⟩] (some [0, 1, 5, 18]) none)
    (.cond (.t 18) (.seq (.reg none [
      ⟨(some 4), .mov (.c (.int .i64 (-1))), none⟩] (some [4]) none)
    .ret)
    .skip))
    (.reg none [
      ⟨(some 19), .mov (.t 1), none⟩,
      ⟨(some 20), .bin .add (.t 19) (.c (.int .i64 1)), none⟩,
      ⟨(some 1), .mov (.t 20), none⟩] (some [0, 1, 5]) none)))
    (.reg none [
      ⟨(some 10), .mov (.t 5), none⟩,
      ⟨(some 11), .bin .add (.t 10) (.c (.int .i64 1)), none⟩,
      ⟨(some 5), .mov (.t 11), none⟩] (some [0, 1, 5]) none)))
def laws_heldByteS_M : MC :=
  (.seq (.reg none [
      ⟨(some 4), .mov (.c (.int .i64 0)), none⟩] (some [0, 1]) none)
    (.seq (.seq (.reg none [
      ⟨(some 5), .mov (.c (.int .i64 0)), none⟩] (some [0, 1, 5]) none)
    (.block 0 (.loop laws_heldByteS_L0)))
    (.seq (.reg none [
      ⟨(some 21), .mov (.t 1), none⟩,
      ⟨(some 4), .mov (.t 21), none⟩] (some [4]) none)
    .ret)))
def laws_heldByteS_F : MF := ⟨22, [.t 4], laws_heldByteS_M⟩
theorem laws_heldByteS_ok : OkF Try.prog 49 laws_heldByteS_F Try.f49 (bodyOf Try.f49) := ⟨Try.func49, by kernel_rfl, by kernel_rfl, by kernel_rfl, by kernel_rfl⟩
-- loop.example/g01312/spec.StackOf
def spec_StackOf_M : MC :=
  (.seq (.reg none [
      ⟨(some 4), .new (rl [(1, .int .i8 0), (64, .int .u8 0)]), none⟩,
      ⟨(some 5), .mov (.c (.int .i64 0)), none⟩] (some [0, 1, 4]) none)
    (.seq (.reg none [
      ⟨(some 7), .mov (.t 0), none⟩,
      ⟨(some 8), .call 94 [(.t 7)], none⟩,
      ⟨(some 6), .mov (.t 8), none⟩] (some [0, 1, 4, 6]) none)
    (.seq (.seq (.reg none [
      ⟨(some 9), .mov (.t 6), none⟩,
      ⟨(some 10), .bin .eql (.t 9) (.c (.int .i64 0)), none⟩,
      ⟨(some 11), .mov (.t 10), none⟩,
      ⟨(some 12), .mov (.t 1), some (11, true)⟩,
      ⟨(some 13), .bin .eql (.t 12) (.c (.int .u8 0)), some (11, true)⟩,
      ⟨(some 14), .mov (.t 13), some (11, true)⟩,
      ⟨(some 15), .mov (.t 1), some (14, false)⟩,
      ⟨(some 16), .mov (.t 0), some (14, false)⟩,
      ⟨(some 17), .lenS (.t 16), some (14, false)⟩,
      ⟨(some 18), .conv .u64 (.t 17), some (14, false)⟩,
      ⟨(some 19), .bin .shr (.t 15) (.t 18), some (14, false)⟩,
      ⟨(some 20), .bin .neq (.t 19) (.c (.int .u8 0)), some (14, false)⟩,
      ⟨(some 21), .pick (.t 14) (.c (.bool true)) (.t 20), some (11, true)⟩,
      ⟨(some 22), .pick (.t 11) (.t 21) (.c (.bool false)), none⟩] (some [0, 1, 4, 6, 22]) none)
    (.cond (.t 22) (.reg none [
      ⟨(some 6), .mov (.c (.int .i64 2)), none⟩] (some [0, 1, 4, 6]) none)
    .skip))
    (.seq (.seq (.reg none [
      ⟨(some 23), .mov (.t 6), none⟩,
      ⟨(some 24), .bin .neq (.t 23) (.c (.int .i64 0)), none⟩] (some [0, 1, 4, 6, 24]) none)
    (.cond (.t 24) (.seq (.reg none [
      ⟨(some 25), .bld (rl [(1, .int .i8 0), (64, .int .u8 0)]) [], none⟩,
      ⟨(some 26), .mov (.t 6), none⟩,
      ⟨none, .store 65 (.t 4) (.t 25), none⟩,
      ⟨(some 5), .mov (.t 26), none⟩] (some [4, 5]) none)
    .ret)
    .skip))
    (.seq (.reg none [
      ⟨(some 27), .mov (.t 0), none⟩,
      ⟨(some 28), .mov (.t 1), none⟩,
      ⟨(some 29), .call 95 [(.t 27), (.t 28)], none⟩,
      ⟨none, .store 65 (.t 4) (.t 29), none⟩,
      ⟨(some 5), .mov (.c (.int .i64 0)), none⟩] (some [4, 5]) none)
    .ret)))))
def spec_StackOf_F : MF := ⟨30, [.c 4 (some 65), .t 5], spec_StackOf_M⟩
theorem spec_StackOf_ok : OkF Try.prog 50 spec_StackOf_F Try.f50 (bodyOf Try.f50) := ⟨Try.func50, by kernel_rfl, by kernel_rfl, by kernel_rfl, by kernel_rfl⟩
-- loop.example/g01312/impl.StackOf
def impl_StackOf_M : MC :=
  (.seq (.reg none [
      ⟨(some 4), .new (rl [(1, .int .i8 0), (64, .int .u8 0)]), none⟩,
      ⟨(some 5), .mov (.c (.int .i64 0)), none⟩] (some [0, 1, 4]) none)
    (.seq (.seq (.reg none [
      ⟨(some 7), .mov (.t 0), none⟩,
      ⟨(some 8), .call 89 [(.t 7)], none⟩,
      ⟨(some 6), .mov (.t 8), none⟩] (some [0, 1, 4, 6]) none)
    (.seq (.reg none [
      ⟨(some 9), .mov (.t 6), none⟩,
      ⟨(some 10), .bin .neq (.t 9) (.c (.int .i64 0)), none⟩] (some [0, 1, 4, 6, 10]) none)
    (.cond (.t 10) (.seq (.reg none [
      ⟨(some 11), .bld (rl [(1, .int .i8 0), (64, .int .u8 0)]) [], none⟩,
      ⟨(some 12), .mov (.t 6), none⟩,
      ⟨none, .store 65 (.t 4) (.t 11), none⟩,
      ⟨(some 5), .mov (.t 12), none⟩] (some [4, 5]) none)
    .ret)
    .skip)))
    (.seq (.seq (.reg none [
      ⟨(some 13), .mov (.t 1), none⟩,
      ⟨(some 14), .bin .eql (.t 13) (.c (.int .u8 0)), none⟩,
      ⟨(some 15), .mov (.t 14), none⟩,
      ⟨(some 16), .mov (.t 1), some (15, false)⟩,
      ⟨(some 17), .conv .i64 (.t 16), some (15, false)⟩,
      ⟨(some 18), .mov (.t 0), some (15, false)⟩,
      ⟨(some 19), .lenS (.t 18), some (15, false)⟩,
      ⟨(some 20), .bin .shr (.t 17) (.t 19), some (15, false)⟩,
      ⟨(some 21), .bin .neq (.t 20) (.c (.int .i64 0)), some (15, false)⟩,
      ⟨(some 22), .pick (.t 15) (.c (.bool true)) (.t 21), none⟩] (some [0, 1, 4, 22]) none)
    (.cond (.t 22) (.seq (.reg none [
      ⟨(some 23), .bld (rl [(1, .int .i8 0), (64, .int .u8 0)]) [], none⟩,
      ⟨none, .store 65 (.t 4) (.t 23), none⟩,
      ⟨(some 5), .mov (.c (.int .i64 2)), none⟩] (some [4, 5]) none)
    .ret)
    .skip))
    (.seq (.reg none [
      ⟨(some 24), .mov (.t 0), none⟩,
      ⟨(some 25), .mov (.t 1), none⟩,
      ⟨(some 26), .call 96 [(.t 24), (.t 25)], none⟩,
      ⟨none, .store 65 (.t 4) (.t 26), none⟩,
      ⟨(some 5), .mov (.c (.int .i64 0)), none⟩] (some [4, 5]) none)
    .ret))))
def impl_StackOf_F : MF := ⟨27, [.c 4 (some 65), .t 5], impl_StackOf_M⟩
theorem impl_StackOf_ok : OkF Try.prog 51 impl_StackOf_F Try.f51 (bodyOf Try.f51) := ⟨Try.func51, by kernel_rfl, by kernel_rfl, by kernel_rfl, by kernel_rfl⟩
-- loop.example/g01312/spec.LeastSeeing
def spec_LeastSeeing_M : MC :=
  (.seq (.reg none [
      ⟨(some 1), .box (.t 0), none⟩,
      ⟨(some 2), .mov (.c (.nilsl)), none⟩,
      ⟨(some 3), .mov (.c (.int .i64 0)), none⟩] (some [1]) none)
    (.seq (.seq (.reg none [
      ⟨(some 6), .call 67 [(.t 1)], none⟩,
      ⟨(some 7), .un .not (.t 6), none⟩] (some [1, 7]) none)
    (.cond (.t 7) (.seq (.reg none [
      ⟨(some 8), .bldS [.int .u8 0] 0 [], none⟩,
      ⟨(some 2), .mov (.t 8), none⟩,
      ⟨(some 3), .mov (.c (.int .i64 1)), none⟩] (some [2, 3]) none)
    .ret)
    .skip))
    (.seq (.reg none [
      ⟨(some 10), .call 85 [(.t 1)], none⟩,
      ⟨(some 9), .mov (.t 10), none⟩,
      ⟨(some 11), .ext (.t 9) 0, none⟩,
      ⟨(some 12), .ext (.t 9) 1, none⟩,
      ⟨(some 4), .mov (.t 11), none⟩,
      ⟨(some 5), .mov (.t 12), none⟩] (some [4]) none)
    (.seq (.reg none [
      ⟨(some 13), .mov (.t 4), none⟩,
      ⟨(some 14), .call 97 [(.t 13)], none⟩,
      ⟨(some 2), .mov (.t 14), none⟩,
      ⟨(some 3), .mov (.c (.int .i64 0)), none⟩] (some [2, 3]) none)
    .ret))))
def spec_LeastSeeing_F : MF := ⟨15, [.t 2, .t 3], spec_LeastSeeing_M⟩
theorem spec_LeastSeeing_ok : OkF Try.prog 52 spec_LeastSeeing_F Try.f52 (bodyOf Try.f52) := ⟨Try.func52, by kernel_rfl, by kernel_rfl, by kernel_rfl, by kernel_rfl⟩
-- loop.example/g01312/impl.LeastSeeing
def impl_LeastSeeing_M : MC :=
  (.seq (.reg none [
      ⟨(some 1), .box (.t 0), none⟩,
      ⟨(some 2), .mov (.c (.nilsl)), none⟩,
      ⟨(some 3), .mov (.c (.int .i64 0)), none⟩] (some [1]) none)
    (.seq (.seq (.reg none [
      ⟨(some 4), .load (some 14) (.t 1), none⟩,
      ⟨(some 5), .call 71 [(.t 4)], none⟩,
      ⟨(some 6), .un .not (.t 5), none⟩] (some [1, 6]) none)
    (.cond (.t 6) (.seq (.reg none [
      ⟨(some 2), .mov (.c (.nilsl)), none⟩,
      ⟨(some 3), .mov (.c (.int .i64 1)), none⟩] (some [2, 3]) none)
    .ret)
    .skip))
    (.seq (.reg none [
      ⟨(some 7), .load (some 14) (.t 1), none⟩,
      ⟨(some 8), .call 86 [(.t 7)], none⟩,
      ⟨(some 9), .call 98 [(.t 8)], none⟩,
      ⟨(some 2), .mov (.t 9), none⟩,
      ⟨(some 3), .mov (.c (.int .i64 0)), none⟩] (some [2, 3]) none)
    .ret)))
def impl_LeastSeeing_F : MF := ⟨10, [.t 2, .t 3], impl_LeastSeeing_M⟩
theorem impl_LeastSeeing_ok : OkF Try.prog 53 impl_LeastSeeing_F Try.f53 (bodyOf Try.f53) := ⟨Try.func53, by kernel_rfl, by kernel_rfl, by kernel_rfl, by kernel_rfl⟩
-- loop.example/g01312/spec.l01Count
def spec_l01Count_L0 : MC :=
  (.seq (.seq (.reg none [
      ⟨(some 4), .mov (.t 0), none⟩,
      ⟨(some 5), .bin .neq (.t 4) (.c (.int .u64 0)), none⟩] (some [0, 3, 5]) none)
    (.cond (.t 5) .skip
    (.exit 0)))
    (.seq (.block 1 (.reg none [
      ⟨(some 8), .mov (.t 3), none⟩,
      ⟨(some 9), .mov (.t 0), none⟩,
      ⟨(some 10), .bin .and (.t 9) (.c (.int .u64 1)), none⟩,
      ⟨(some 11), .conv .i64 (.t 10), none⟩,
      ⟨(some 12), .bin .add (.t 8) (.t 11), none⟩,
      ⟨(some 3), .mov (.t 12), none⟩] (some [0, 3]) none))
    (.reg none [
      ⟨(some 6), .mov (.t 0), none⟩,
      ⟨(some 7), .bin .shr (.t 6) (.c (.int .u64 1)), none⟩,
      ⟨(some 0), .mov (.t 7), none⟩] (some [0, 3]) none)))
def spec_l01Count_M : MC :=
  (.seq (.reg none [
      ⟨(some 2), .mov (.c (.int .i64 0)), none⟩] (some [0]) none)
    (.seq (.reg none [
      ⟨(some 3), .mov (.c (.int .i64 0)), none⟩] (some [0, 3]) none)
    (.seq (.block 0 (.loop spec_l01Count_L0))
    (.seq (.reg none [
      ⟨(some 13), .mov (.t 3), none⟩,
      ⟨(some 2), .mov (.t 13), none⟩] (some [2]) none)
    .ret))))
def spec_l01Count_F : MF := ⟨14, [.t 2], spec_l01Count_M⟩
theorem spec_l01Count_ok : OkF Try.prog 54 spec_l01Count_F Try.f54 (bodyOf Try.f54) := ⟨Try.func54, by kernel_rfl, by kernel_rfl, by kernel_rfl, by kernel_rfl⟩
-- math/bits.OnesCount64
def math_bits_OnesCount64_M : MC :=
  (.seq (.reg none [
      ⟨(some 2), .mov (.c (.int .i64 0)), none⟩] (some [0]) none)
    (.seq (.reg none [
      ⟨(some 3), .mov (.t 0), none⟩,
      ⟨(some 4), .bin .shr (.t 3) (.c (.int .u64 1)), none⟩,
      ⟨(some 5), .bin .and (.t 4) (.c (.int .u64 6148914691236517205)), none⟩,
      ⟨(some 6), .mov (.t 0), none⟩,
      ⟨(some 7), .bin .and (.t 6) (.c (.int .u64 6148914691236517205)), none⟩,
      ⟨(some 8), .bin .add (.t 5) (.t 7), none⟩,
      ⟨(some 0), .mov (.t 8), none⟩] (some [0]) none)
    (.seq (.reg none [
      ⟨(some 9), .mov (.t 0), none⟩,
      ⟨(some 10), .bin .shr (.t 9) (.c (.int .u64 2)), none⟩,
      ⟨(some 11), .bin .and (.t 10) (.c (.int .u64 3689348814741910323)), none⟩,
      ⟨(some 12), .mov (.t 0), none⟩,
      ⟨(some 13), .bin .and (.t 12) (.c (.int .u64 3689348814741910323)), none⟩,
      ⟨(some 14), .bin .add (.t 11) (.t 13), none⟩,
      ⟨(some 0), .mov (.t 14), none⟩] (some [0]) none)
    (.seq (.reg none [
      ⟨(some 15), .mov (.t 0), none⟩,
      ⟨(some 16), .bin .shr (.t 15) (.c (.int .u64 4)), none⟩,
      ⟨(some 17), .mov (.t 0), none⟩,
      ⟨(some 18), .bin .add (.t 16) (.t 17), none⟩,
      ⟨(some 19), .bin .and (.t 18) (.c (.int .u64 1085102592571150095)), none⟩,
      ⟨(some 0), .mov (.t 19), none⟩] (some [0]) none)
    (.seq (.reg none [
      ⟨(some 20), .mov (.t 0), none⟩,
      ⟨(some 21), .mov (.t 0), none⟩,
      ⟨(some 22), .bin .shr (.t 21) (.c (.int .u64 8)), none⟩,
      ⟨(some 23), .bin .add (.t 20) (.t 22), none⟩,
      ⟨(some 0), .mov (.t 23), none⟩] (some [0]) none)
    (.seq (.reg none [
      ⟨(some 24), .mov (.t 0), none⟩,
      ⟨(some 25), .mov (.t 0), none⟩,
      ⟨(some 26), .bin .shr (.t 25) (.c (.int .u64 16)), none⟩,
      ⟨(some 27), .bin .add (.t 24) (.t 26), none⟩,
      ⟨(some 0), .mov (.t 27), none⟩] (some [0]) none)
    (.seq (.reg none [
      ⟨(some 28), .mov (.t 0), none⟩,
      ⟨(some 29), .mov (.t 0), none⟩,
      ⟨(some 30), .bin .shr (.t 29) (.c (.int .u64 32)), none⟩,
      ⟨(some 31), .bin .add (.t 28) (.t 30), none⟩,
      ⟨(some 0), .mov (.t 31), none⟩] (some [0]) none)
    (.seq (.reg none [
      ⟨(some 32), .mov (.t 0), none⟩,
      ⟨(some 33), .conv .i64 (.t 32), none⟩,
      ⟨(some 34), .bin .and (.t 33) (.c (.int .i64 127)), none⟩,
      ⟨(some 2), .mov (.t 34), none⟩] (some [2]) none)
    .ret))))))))
def math_bits_OnesCount64_F : MF := ⟨35, [.t 2], math_bits_OnesCount64_M⟩
theorem math_bits_OnesCount64_ok : OkF Try.prog 55 math_bits_OnesCount64_F Try.f55 (bodyOf Try.f55) := ⟨Try.func55, by kernel_rfl, by kernel_rfl, by kernel_rfl, by kernel_rfl⟩
-- slices.Equal[[]loop.example/g01312/impl.Layer,loop.example/g01312/impl.Layer]
def slices_Equal___impl_Layer_impl_Layer__L0 : MC :=
  (.seq (.reg none [
      ⟨(some 14), .bin .lss (.t 13) (.t 12), none⟩] (some [0, 1, 12, 13, 14]) none)
    (.seq (.cond (.t 14) .skip
    (.exit 0))
    (.seq (.block 1 (.seq (.reg none [
      ⟨(some 15), .mov (.t 13), none⟩,
      ⟨(some 5), .mov (.t 15), none⟩] (some [0, 1, 5, 12, 13]) none)
    (.seq (.reg (some []) [
      ⟨(some 16), .mov (.t 0), none⟩,
      ⟨(some 17), .mov (.t 5), none⟩,
      ⟨(some 18), .iaS 65 (.t 16) (.t 17), none⟩,
      ⟨(some 19), .load (some 65) (.t 18), none⟩,
      ⟨(some 20), .mov (.t 1), none⟩,
      ⟨(some 21), .mov (.t 5), none⟩,
      ⟨(some 22), .iaS 65 (.t 20) (.t 21), none⟩,
      ⟨(some 23), .load (some 65) (.t 22), none⟩,
      ⟨(some 24), .aeq true (.i8 :: List.replicate 64 .u8) (.t 19) (.t 23), none⟩] (some [0, 1, 12, 13, 24]) none)
    (.cond (.t 24) (.seq (.reg none [
      ⟨(some 4), .mov (.c (.bool false)), none⟩] (some [4]) none)
    .ret)
    .skip))))
    (.reg none [
      ⟨(some 25), .bin .add (.t 13) (.c (.int .i64 1)), none⟩,
      ⟨(some 13), .mov (.t 25), none⟩] (some [0, 1, 12, 13]) none))))
def slices_Equal___impl_Layer_impl_Layer__M : MC :=
  (.seq (.reg none [
      ⟨(some 4), .mov (.c (.bool false)), none⟩] (some [0, 1]) none)
    (.seq (.seq (.reg none [
      ⟨(some 6), .mov (.t 0), none⟩,
      ⟨(some 7), .lenS (.t 6), none⟩,
      ⟨(some 8), .mov (.t 1), none⟩,
      ⟨(some 9), .lenS (.t 8), none⟩,
      ⟨(some 10), .bin .neq (.t 7) (.t 9), none⟩] (some [0, 1, 10]) none)
    (.cond (.t 10) (.seq (.reg none [
      ⟨(some 4), .mov (.c (.bool false)), none⟩] (some [4]) none)
    .ret)
    .skip))
    (.seq (.seq (.reg none [
      ⟨(some 11), .mov (.t 0), none⟩,
      ⟨(some 12), .lenS (.t 11), none⟩,
      ⟨(some 13), .mov (.c (.int .i64 0)), none⟩] (some [0, 1, 12, 13]) none)
    (.block 0 (.loop slices_Equal___impl_Layer_impl_Layer__L0)))
    (.seq (.reg none [
      ⟨(some 4), .mov (.c (.bool true)), none⟩] (some [4]) none)
    .ret))))
def slices_Equal___impl_Layer_impl_Layer__F : MF := ⟨26, [.t 4], slices_Equal___impl_Layer_impl_Layer__M⟩
theorem slices_Equal___impl_Layer_impl_Layer__ok : OkF Try.prog 56 slices_Equal___impl_Layer_impl_Layer__F Try.f56 (bodyOf Try.f56) := ⟨Try.func56, by kernel_rfl, by kernel_rfl, by kernel_rfl, by kernel_rfl⟩
-- loop.example/g01312/spec.l01Parts
def spec_l01Parts_M : MC :=
  (.seq (.reg none [
      ⟨(some 2), .mov (.c (.bool false)), none⟩] (some [0]) none)
    (.seq (.reg none [
      ⟨(some 3), .mov (.t 0), none⟩,
      ⟨(some 4), .call 61 [(.t 3), (.c (.int .i64 1)), (.c (.int .i64 8))], none⟩,
      ⟨(some 2), .mov (.t 4), none⟩] (some [2]) none)
    .ret))
def spec_l01Parts_F : MF := ⟨5, [.t 2], spec_l01Parts_M⟩
theorem spec_l01Parts_ok : OkF Try.prog 57 spec_l01Parts_F Try.f57 (bodyOf Try.f57) := ⟨Try.func57, by kernel_rfl, by kernel_rfl, by kernel_rfl, by kernel_rfl⟩
-- loop.example/g01312/spec.l03Order
def spec_l03Order_L0 : MC :=
  (.seq (.seq (.reg none [
      ⟨(some 13), .mov (.t 7), none⟩,
      ⟨(some 14), .mov (.t 1), none⟩,
      ⟨(some 15), .bin .lss (.t 13) (.t 14), none⟩] (some [0, 1, 6, 7, 15]) none)
    (.cond (.t 15) .skip
    (.exit 0)))
    (.seq (.block 1 (.reg none [
      ⟨(some 18), .mov (.t 6), none⟩,
      ⟨(some 19), .mov (.t 7), none⟩,
      ⟨(some 20), .conv .i8 (.t 19), none⟩,
      ⟨(some 21), .bldS [.int .i8 0] 1 [(0, 1, (.t 20))], none⟩,
      ⟨(some 22), .app [.int .i8 0] 1 false (.t 18) (.t 21), none⟩,
      ⟨(some 6), .mov (.t 22), none⟩] (some [0, 1, 6, 7]) none))
    (.reg none [
      ⟨(some 16), .mov (.t 7), none⟩,
      ⟨(some 17), .bin .add (.t 16) (.c (.int .i64 1)), none⟩,
      ⟨(some 7), .mov (.t 17), none⟩] (some [0, 1, 6, 7]) (some 1))))
def spec_l03Order_L1 : MC :=
  (.seq (.seq (.reg none [
      ⟨(some 25), .mov (.t 8), none⟩,
      ⟨(some 26), .bin .geq (.t 25) (.c (.int .i64 1)), none⟩] (some [0, 6, 8, 26]) none)
    (.cond (.t 26) .skip
    (.exit 2)))
    (.seq (.block 3 (.seq (.reg none [
      ⟨(some 30), .mov (.t 0), none⟩,
      ⟨(some 31), .mov (.t 8), none⟩,
      ⟨(some 32), .bin .add (.t 31) (.c (.int .i64 1)), none⟩,
      ⟨(some 33), .call 99 [(.t 30), (.t 32)], none⟩,
      ⟨(some 29), .mov (.t 33), none⟩,
      ⟨(some 34), .ext (.t 29) 0, none⟩,
      ⟨(some 35), .ext (.t 29) 1, none⟩,
      ⟨(some 9), .mov (.t 34), none⟩,
      ⟨(some 10), .mov (.t 35), none⟩] (some [6, 8, 9, 10]) none)
    (.seq (.reg none [
      ⟨(some 36), .mov (.t 10), none⟩,
      ⟨(some 0), .mov (.t 36), none⟩] (some [0, 6, 8, 9]) none)
    (.seq (.reg none [
      ⟨(some 37), .mov (.t 6), none⟩,
      ⟨(some 38), .mov (.t 9), none⟩,
      ⟨(some 39), .iaS 1 (.t 37) (.t 38), none⟩,
      ⟨(some 40), .load none (.t 39), none⟩,
      ⟨(some 11), .mov (.t 40), none⟩] (some [0, 6, 8, 9, 11]) none)
    (.seq (.reg none [
      ⟨(some 41), .mov (.t 6), none⟩,
      ⟨(some 42), .mov (.t 9), none⟩,
      ⟨(some 43), .mov (.t 6), none⟩,
      ⟨(some 44), .mov (.t 8), none⟩,
      ⟨(some 45), .iaS 1 (.t 43) (.t 44), none⟩,
      ⟨(some 46), .load none (.t 45), none⟩,
      ⟨(some 47), .iaS 1 (.t 41) (.t 42), none⟩,
      ⟨none, .store 1 (.t 47) (.t 46), none⟩] (some [0, 6, 8, 11]) none)
    (.reg none [
      ⟨(some 48), .mov (.t 6), none⟩,
      ⟨(some 49), .mov (.t 8), none⟩,
      ⟨(some 50), .mov (.t 11), none⟩,
      ⟨(some 51), .iaS 1 (.t 48) (.t 49), none⟩,
      ⟨none, .store 1 (.t 51) (.t 50), none⟩] (some [0, 6, 8]) none))))))
    (.reg none [
      ⟨(some 27), .mov (.t 8), none⟩,
      ⟨(some 28), .bin .sub (.t 27) (.c (.int .i64 1)), none⟩,
      ⟨(some 8), .mov (.t 28), none⟩] (some [0, 6, 8]) none)))
def spec_l03Order_M : MC :=
  (.seq (.reg none [
      ⟨(some 4), .mov (.c (.nilsl)), none⟩,
      ⟨(some 5), .mov (.c (.int .u32 0)), none⟩] (some [0, 1]) none)
    (.seq (.reg none [
      ⟨(some 12), .bldS [.int .i8 0] 0 [], none⟩,
      ⟨(some 6), .mov (.t 12), none⟩] (some [0, 1, 6]) none)
    (.seq (.seq (.reg none [
      ⟨(some 7), .mov (.c (.int .i64 0)), none⟩] (some [0, 1, 6, 7]) none)
    (.block 0 (.loop spec_l03Order_L0)))
    (.seq (.seq (.reg none [
      ⟨(some 23), .mov (.t 1), none⟩,
      ⟨(some 24), .bin .sub (.t 23) (.c (.int .i64 1)), none⟩,
      ⟨(some 8), .mov (.t 24), none⟩] (some [0, 6, 8]) none)
    (.block 2 (.loop spec_l03Order_L1)))
    (.seq (.reg none [
      ⟨(some 52), .mov (.t 6), none⟩,
      ⟨(some 53), .mov (.t 0), none⟩,
      ⟨(some 4), .mov (.t 52), none⟩,
      ⟨(some 5), .mov (.t 53), none⟩] (some [4, 5]) none)
    .ret)))))
def spec_l03Order_F : MF := ⟨54, [.t 4, .t 5], spec_l03Order_M⟩
theorem spec_l03Order_ok : OkF Try.prog 58 spec_l03Order_F Try.f58 (bodyOf Try.f58) := ⟨Try.func58, by kernel_rfl, by kernel_rfl, by kernel_rfl, by kernel_rfl⟩
-- loop.example/g01312/impl.isParts
def impl_isParts_M : MC :=
  (.seq (.reg none [
      ⟨(some 2), .mov (.c (.bool false)), none⟩] (some [0]) none)
    (.seq (.reg none [
      ⟨(some 3), .mov (.t 0), none⟩,
      ⟨(some 4), .call 63 [(.t 3), (.c (.int .i64 1)), (.c (.int .i64 8))], none⟩,
      ⟨(some 2), .mov (.t 4), none⟩] (some [2]) none)
    .ret))
def impl_isParts_F : MF := ⟨5, [.t 2], impl_isParts_M⟩
theorem impl_isParts_ok : OkF Try.prog 59 impl_isParts_F Try.f59 (bodyOf Try.f59) := ⟨Try.func59, by kernel_rfl, by kernel_rfl, by kernel_rfl, by kernel_rfl⟩
-- loop.example/g01312/impl.drawOrder
def impl_drawOrder_L0 : MC :=
  (.seq (.reg none [
      ⟨(some 12), .bin .lss (.t 11) (.t 10), none⟩] (some [0, 1, 5, 10, 11, 12]) none)
    (.seq (.cond (.t 12) .skip
    (.exit 0))
    (.seq (.block 1 (.seq (.reg none [
      ⟨(some 13), .mov (.t 11), none⟩,
      ⟨(some 6), .mov (.t 13), none⟩] (some [0, 1, 5, 6, 10, 11]) none)
    (.reg none [
      ⟨(some 14), .mov (.t 5), none⟩,
      ⟨(some 15), .mov (.t 6), none⟩,
      ⟨(some 16), .bldS [.int .i8 0] 1 [(0, 1, (.t 15))], none⟩,
      ⟨(some 17), .app [.int .i8 0] 1 false (.t 14) (.t 16), none⟩,
      ⟨(some 5), .mov (.t 17), none⟩] (some [0, 1, 5, 10, 11]) none)))
    (.reg none [
      ⟨(some 18), .bin .add (.t 11) (.c (.int .i8 1)), none⟩,
      ⟨(some 11), .mov (.t 18), none⟩] (some [0, 1, 5, 10, 11]) (some 1)))))
def impl_drawOrder_L1 : MC :=
  (.seq (.seq (.reg none [
      ⟨(some 21), .mov (.t 7), none⟩,
      ⟨(some 22), .bin .geq (.t 21) (.c (.int .i8 1)), none⟩] (some [0, 5, 7, 22]) none)
    (.cond (.t 22) .skip
    (.exit 2)))
    (.seq (.block 3 (.seq (.reg none [
      ⟨(some 25), .mov (.t 0), none⟩,
      ⟨(some 26), .mov (.t 7), none⟩,
      ⟨(some 27), .conv .i64 (.t 26), none⟩,
      ⟨(some 28), .bin .add (.t 27) (.c (.int .i64 1)), none⟩,
      ⟨(some 29), .call 100 [(.t 25), (.t 28)], none⟩,
      ⟨(some 8), .mov (.t 29), none⟩] (some [0, 5, 7, 8]) none)
    (.reg (some []) [
      ⟨(some 30), .mov (.t 5), none⟩,
      ⟨(some 31), .mov (.t 7), none⟩,
      ⟨(some 32), .mov (.t 5), none⟩,
      ⟨(some 33), .mov (.t 8), none⟩,
      ⟨(some 34), .mov (.t 5), none⟩,
      ⟨(some 35), .mov (.t 8), none⟩,
      ⟨(some 36), .iaS 1 (.t 34) (.t 35), none⟩,
      ⟨(some 37), .load none (.t 36), none⟩,
      ⟨(some 38), .mov (.t 5), none⟩,
      ⟨(some 39), .mov (.t 7), none⟩,
      ⟨(some 40), .iaS 1 (.t 38) (.t 39), none⟩,
      ⟨(some 41), .load none (.t 40), none⟩,
      ⟨(some 42), .iaS 1 (.t 30) (.t 31), none⟩,
      ⟨none, .store 1 (.t 42) (.t 37), none⟩,
      ⟨(some 43), .iaS 1 (.t 32) (.t 33), none⟩,
      ⟨none, .store 1 (.t 43) (.t 41), none⟩] (some [0, 5, 7]) none)))
    (.reg none [
      ⟨(some 23), .mov (.t 7), none⟩,
      ⟨(some 24), .bin .sub (.t 23) (.c (.int .i8 1)), none⟩,
      ⟨(some 7), .mov (.t 24), none⟩] (some [0, 5, 7]) none)))
def impl_drawOrder_M : MC :=
  (.seq (.reg none [
      ⟨(some 4), .mov (.c (.nilsl)), none⟩] (some [0, 1]) none)
    (.seq (.reg none [
      ⟨(some 9), .bldS [.int .i8 0] 0 [], none⟩,
      ⟨(some 5), .mov (.t 9), none⟩] (some [0, 1, 5]) none)
    (.seq (.seq (.reg none [
      ⟨(some 10), .mov (.t 1), none⟩,
      ⟨(some 11), .mov (.c (.int .i8 0)), none⟩] (some [0, 1, 5, 10, 11]) none)
    (.block 0 (.loop impl_drawOrder_L0)))
    (.seq (.seq (.reg none [
      ⟨(some 19), .mov (.t 1), none⟩,
      ⟨(some 20), .bin .sub (.t 19) (.c (.int .i8 1)), none⟩,
      ⟨(some 7), .mov (.t 20), none⟩] (some [0, 5, 7]) none)
    (.block 2 (.loop impl_drawOrder_L1)))
    (.seq (.reg none [
      ⟨(some 44), .mov (.t 5), none⟩,
      ⟨(some 4), .mov (.t 44), none⟩] (some [4]) none)
    .ret)))))
def impl_drawOrder_F : MF := ⟨45, [.t 4], impl_drawOrder_M⟩
theorem impl_drawOrder_ok : OkF Try.prog 60 impl_drawOrder_F Try.f60 (bodyOf Try.f60) := ⟨Try.func60, by kernel_rfl, by kernel_rfl, by kernel_rfl, by kernel_rfl⟩
-- loop.example/g01312/spec.l00In
def spec_l00In_M : MC :=
  (.seq (.reg none [
      ⟨(some 6), .mov (.c (.bool false)), none⟩] (some [0, 1, 2]) none)
    (.seq (.reg none [
      ⟨(some 7), .mov (.t 0), none⟩,
      ⟨(some 8), .mov (.t 1), none⟩,
      ⟨(some 9), .bin .geq (.t 7) (.t 8), none⟩,
      ⟨(some 10), .mov (.t 9), none⟩,
      ⟨(some 11), .mov (.t 0), some (10, true)⟩,
      ⟨(some 12), .mov (.t 2), some (10, true)⟩,
      ⟨(some 13), .bin .leq (.t 11) (.t 12), some (10, true)⟩,
      ⟨(some 14), .pick (.t 10) (.t 13) (.c (.bool false)), none⟩,
      ⟨(some 6), .mov (.t 14), none⟩] (some [6]) none)
    .ret))
def spec_l00In_F : MF := ⟨15, [.t 6], spec_l00In_M⟩
theorem spec_l00In_ok : OkF Try.prog 61 spec_l00In_F Try.f61 (bodyOf Try.f61) := ⟨Try.func61, by kernel_rfl, by kernel_rfl, by kernel_rfl, by kernel_rfl⟩
-- loop.example/g01312/spec.l02From
def spec_l02From_L1 : MC :=
  (.seq (.seq (.reg none [
      ⟨(some 21), .mov (.t 9), none⟩,
      ⟨(some 22), .mov (.t 0), none⟩,
      ⟨(some 23), .conv .i64 (.t 22), none⟩,
      ⟨(some 24), .bin .lss (.t 21) (.t 23), none⟩] (some [0, 1, 2, 6, 7, 8, 9, 24]) none)
    (.cond (.t 24) .skip
    (.exit 2)))
    (.seq (.block 3 (.seq (.reg (some []) [
      ⟨(some 27), .mov (.t 9), none⟩,
      ⟨(some 28), .fa 2 (.t 7), none⟩,
      ⟨(some 29), .iaA 6 1 (.t 28) (.t 27), none⟩,
      ⟨(some 30), .load none (.t 29), none⟩,
      ⟨(some 31), .mov (.t 1), none⟩,
      ⟨(some 32), .mov (.t 8), none⟩,
      ⟨(some 33), .iaS 1 (.t 31) (.t 32), none⟩,
      ⟨(some 34), .load none (.t 33), none⟩,
      ⟨(some 35), .mov (.t 9), none⟩,
      ⟨(some 36), .conv .u64 (.t 35), none⟩,
      ⟨(some 37), .bin .shr (.t 34) (.t 36), none⟩,
      ⟨(some 38), .bin .and (.t 37) (.c (.int .u8 1)), none⟩,
      ⟨(some 39), .mov (.t 8), none⟩,
      ⟨(some 40), .conv .u64 (.t 39), none⟩,
      ⟨(some 41), .bin .shl (.t 38) (.t 40), none⟩,
      ⟨(some 42), .bin .or (.t 30) (.t 41), none⟩,
      ⟨(some 43), .fa 2 (.t 7), none⟩,
      ⟨(some 44), .iaA 6 1 (.t 43) (.t 27), none⟩,
      ⟨none, .store 1 (.t 44) (.t 42), none⟩] (some [0, 1, 2, 6, 7, 8, 9]) none)
    (.reg (some []) [
      ⟨(some 45), .mov (.t 9), none⟩,
      ⟨(some 46), .fa 8 (.t 7), none⟩,
      ⟨(some 47), .iaA 6 1 (.t 46) (.t 45), none⟩,
      ⟨(some 48), .load none (.t 47), none⟩,
      ⟨(some 49), .mov (.t 2), none⟩,
      ⟨(some 50), .mov (.t 8), none⟩,
      ⟨(some 51), .iaS 1 (.t 49) (.t 50), none⟩,
      ⟨(some 52), .load none (.t 51), none⟩,
      ⟨(some 53), .mov (.t 9), none⟩,
      ⟨(some 54), .conv .u64 (.t 53), none⟩,
      ⟨(some 55), .bin .shr (.t 52) (.t 54), none⟩,
      ⟨(some 56), .bin .and (.t 55) (.c (.int .u8 1)), none⟩,
      ⟨(some 57), .mov (.t 8), none⟩,
      ⟨(some 58), .conv .u64 (.t 57), none⟩,
      ⟨(some 59), .bin .shl (.t 56) (.t 58), none⟩,
      ⟨(some 60), .bin .or (.t 48) (.t 59), none⟩,
      ⟨(some 61), .fa 8 (.t 7), none⟩,
      ⟨(some 62), .iaA 6 1 (.t 61) (.t 45), none⟩,
      ⟨none, .store 1 (.t 62) (.t 60), none⟩] (some [0, 1, 2, 6, 7, 8, 9]) none)))
    (.reg none [
      ⟨(some 25), .mov (.t 9), none⟩,
      ⟨(some 26), .bin .add (.t 25) (.c (.int .i64 1)), none⟩,
      ⟨(some 9), .mov (.t 26), none⟩] (some [0, 1, 2, 6, 7, 8, 9]) none)))
def spec_l02From_L0 : MC :=
  (.seq (.seq (.reg none [
      ⟨(some 15), .mov (.t 8), none⟩,
      ⟨(some 16), .mov (.t 1), none⟩,
      ⟨(some 17), .lenS (.t 16), none⟩,
      ⟨(some 18), .bin .lss (.t 15) (.t 17), none⟩] (some [0, 1, 2, 6, 7, 8, 18]) none)
    (.cond (.t 18) .skip
    (.exit 0)))
    (.seq (.block 1 (.seq (.reg none [
      ⟨(some 9), .mov (.c (.int .i64 0)), none⟩] (some [0, 1, 2, 6, 7, 8, 9]) none)
    (.block 2 (.loop spec_l02From_L1))))
    (.reg none [
      ⟨(some 19), .mov (.t 8), none⟩,
      ⟨(some 20), .bin .add (.t 19) (.c (.int .i64 1)), none⟩,
      ⟨(some 8), .mov (.t 20), none⟩] (some [0, 1, 2, 6, 7, 8]) none)))
def spec_l02From_M : MC :=
  (.seq (.reg none [
      ⟨(some 6), .new (rl [(2, .int .i8 0), (12, .int .u8 0)]), none⟩] (some [0, 1, 2, 6]) none)
    (.seq (.reg none [
      ⟨(some 10), .mov (.t 0), none⟩,
      ⟨(some 11), .mov (.t 1), none⟩,
      ⟨(some 12), .lenS (.t 11), none⟩,
      ⟨(some 13), .conv .i8 (.t 12), none⟩,
      ⟨(some 14), .bld (rl [(2, .int .i8 0), (12, .int .u8 0)]) [(0, 1, (.t 10)), (1, 1, (.t 13))], none⟩,
      ⟨(some 7), .new (rl [(2, .int .i8 0), (12, .int .u8 0)]), none⟩,
      ⟨none, .store 14 (.t 7) (.t 14), none⟩] (some [0, 1, 2, 6, 7]) none)
    (.seq (.seq (.reg none [
      ⟨(some 8), .mov (.c (.int .i64 0)), none⟩] (some [0, 1, 2, 6, 7, 8]) none)
    (.block 0 (.loop spec_l02From_L0)))
    (.seq (.reg none [
      ⟨(some 63), .load (some 14) (.t 7), none⟩,
      ⟨none, .store 14 (.t 6) (.t 63), none⟩] (some [6]) none)
    .ret))))
def spec_l02From_F : MF := ⟨64, [.c 6 (some 14)], spec_l02From_M⟩
theorem spec_l02From_ok : OkF Try.prog 62 spec_l02From_F Try.f62 (bodyOf Try.f62) := ⟨Try.func62, by kernel_rfl, by kernel_rfl, by kernel_rfl, by kernel_rfl⟩
-- loop.example/g01312/impl.within
def impl_within_M : MC :=
  (.seq (.reg none [
      ⟨(some 6), .mov (.c (.bool false)), none⟩] (some [0, 1, 2]) none)
    (.seq (.reg none [
      ⟨(some 7), .mov (.t 0), none⟩,
      ⟨(some 8), .mov (.t 1), none⟩,
      ⟨(some 9), .bin .geq (.t 7) (.t 8), none⟩,
      ⟨(some 10), .mov (.t 9), none⟩,
      ⟨(some 11), .mov (.t 0), some (10, true)⟩,
      ⟨(some 12), .mov (.t 2), some (10, true)⟩,
      ⟨(some 13), .bin .leq (.t 11) (.t 12), some (10, true)⟩,
      ⟨(some 14), .pick (.t 10) (.t 13) (.c (.bool false)), none⟩,
      ⟨(some 6), .mov (.t 14), none⟩] (some [6]) none)
    .ret))
def impl_within_F : MF := ⟨15, [.t 6], impl_within_M⟩
theorem impl_within_ok : OkF Try.prog 63 impl_within_F Try.f63 (bodyOf Try.f63) := ⟨Try.func63, by kernel_rfl, by kernel_rfl, by kernel_rfl, by kernel_rfl⟩
-- math/bits.OnesCount
def math_bits_OnesCount_M : MC :=
  (.seq (.reg none [
      ⟨(some 2), .mov (.c (.int .i64 0)), none⟩] (some [0]) none)
    (.seq (.cond (.c (.bool false)) (.seq (.reg none [
      ⟨(some 3), .mov (.t 0), none⟩,
      ⟨(some 4), .conv .u32 (.t 3), none⟩,
      ⟨(some 5), .call 101 [(.t 4)], none⟩,
      ⟨(some 2), .mov (.t 5), none⟩] (some [2]) none)
    .ret)
    .skip)
    (.seq (.reg none [
      ⟨(some 6), .mov (.t 0), none⟩,
      ⟨(some 7), .call 55 [(.t 6)], none⟩,
      ⟨(some 2), .mov (.t 7), none⟩] (some [2]) none)
    .ret)))
def math_bits_OnesCount_F : MF := ⟨8, [.t 2], math_bits_OnesCount_M⟩
theorem math_bits_OnesCount_ok : OkF Try.prog 64 math_bits_OnesCount_F Try.f64 (bodyOf Try.f64) := ⟨Try.func64, by kernel_rfl, by kernel_rfl, by kernel_rfl, by kernel_rfl⟩
-- (*loop.example/g01312/impl.Scheme).rowsOf
def impl_Scheme_rowsOf_L1 : MC :=
  (.seq (.reg none [
      ⟨(some 24), .bin .lss (.t 23) (.c (.int .i64 6)), none⟩] (some [6, 7, 8, 16, 17, 18, 23, 24]) none)
    (.seq (.cond (.t 24) .skip
    (.exit 2))
    (.seq (.block 3 (.seq (.reg none [
      ⟨(some 25), .mov (.t 23), none⟩,
      ⟨(some 9), .mov (.t 25), none⟩] (some [6, 7, 8, 9, 16, 17, 18, 23]) none)
    (.reg (some []) [
      ⟨(some 26), .mov (.t 6), none⟩,
      ⟨(some 27), .mov (.t 9), none⟩,
      ⟨(some 28), .nilc (.t 26), none⟩,
      ⟨(some 29), .iaA 6 1 (.t 28) (.t 27), none⟩,
      ⟨(some 30), .load none (.t 29), none⟩,
      ⟨(some 31), .mov (.t 8), none⟩,
      ⟨(some 32), .mov (.t 9), none⟩,
      ⟨(some 33), .bin .shr (.t 31) (.t 32), none⟩,
      ⟨(some 34), .bin .and (.t 33) (.c (.int .u8 1)), none⟩,
      ⟨(some 35), .mov (.t 7), none⟩,
      ⟨(some 36), .bin .shl (.t 34) (.t 35), none⟩,
      ⟨(some 37), .bin .or (.t 30) (.t 36), none⟩,
      ⟨(some 38), .nilc (.t 26), none⟩,
      ⟨(some 39), .iaA 6 1 (.t 38) (.t 27), none⟩,
      ⟨none, .store 1 (.t 39) (.t 37), none⟩] (some [6, 7, 8, 16, 17, 18, 23]) none)))
    (.reg none [
      ⟨(some 40), .bin .add (.t 23) (.c (.int .i64 1)), none⟩,
      ⟨(some 23), .mov (.t 40), none⟩] (some [6, 7, 8, 16, 17, 18, 23]) none))))
def impl_Scheme_rowsOf_L0 : MC :=
  (.seq (.reg none [
      ⟨(some 19), .bin .lss (.t 18) (.t 17), none⟩] (some [6, 16, 17, 18, 19]) none)
    (.seq (.cond (.t 19) .skip
    (.exit 0))
    (.seq (.block 1 (.seq (.reg none [
      ⟨(some 20), .mov (.t 18), none⟩,
      ⟨(some 21), .iaS 1 (.t 16) (.t 18), none⟩,
      ⟨(some 22), .load none (.t 21), none⟩,
      ⟨(some 7), .mov (.t 20), none⟩,
      ⟨(some 8), .mov (.t 22), none⟩] (some [6, 7, 8, 16, 17, 18]) none)
    (.seq (.reg none [
      ⟨(some 23), .mov (.c (.int .i64 0)), none⟩] (some [6, 7, 8, 16, 17, 18, 23]) none)
    (.block 2 (.loop impl_Scheme_rowsOf_L1)))))
    (.reg none [
      ⟨(some 41), .bin .add (.t 18) (.c (.int .i64 1)), none⟩,
      ⟨(some 18), .mov (.t 41), none⟩] (some [6, 16, 17, 18]) none))))
def impl_Scheme_rowsOf_M : MC :=
  (.seq (.reg none [
      ⟨(some 10), .mov (.t 0), none⟩,
      ⟨(some 11), .mov (.t 2), none⟩,
      ⟨(some 12), .call 93 [(.t 10), (.t 11)], none⟩,
      ⟨(some 6), .mov (.t 12), none⟩] (some [1, 6]) none)
    (.seq (.reg none [
      ⟨(some 13), .mov (.t 6), none⟩,
      ⟨(some 14), .bld (rl [(6, .int .u8 0)]) [], none⟩,
      ⟨(some 15), .nilc (.t 13), none⟩,
      ⟨none, .store 6 (.t 15) (.t 14), none⟩] (some [1, 6]) none)
    (.seq (.reg none [
      ⟨(some 16), .mov (.t 1), none⟩,
      ⟨(some 17), .lenS (.t 16), none⟩,
      ⟨(some 18), .mov (.c (.int .i64 0)), none⟩] (some [6, 16, 17, 18]) none)
    (.block 0 (.loop impl_Scheme_rowsOf_L0)))))
def impl_Scheme_rowsOf_F : MF := ⟨42, [], impl_Scheme_rowsOf_M⟩
theorem impl_Scheme_rowsOf_ok : OkF Try.prog 65 impl_Scheme_rowsOf_F Try.f65 (bodyOf Try.f65) := ⟨Try.func65, by kernel_rfl, by kernel_rfl, by kernel_rfl, by kernel_rfl⟩
-- loop.example/g01312/laws.eqByteA6
def laws_eqByteA6_L0 : MC :=
  (.seq (.seq (.reg none [
      ⟨(some 6), .mov (.t 5), none⟩,
      ⟨(some 7), .bin .lss (.t 6) (.c (.int .i64 6)), none⟩] (some [2, 3, 5, 7]) none)
    (.cond (.t 7) .skip
    (.exit 0)))
    (.seq (.block 1 (.seq (.reg (some []) [
      ⟨(some 10), .mov (.t 5), none⟩,
      ⟨(some 11), .iaA 6 1 (.t 2) (.t 10), none⟩,
      ⟨(some 12), .load none (.t 11), none⟩,
      ⟨(some 13), .mov (.t 5), none⟩,
      ⟨(some 14), .iaA 6 1 (.t 3) (.t 13), none⟩,
      ⟨(some 15), .load none (.t 14), none⟩,
      ⟨(some 16), .bin .neq (.t 12) (.t 15), none⟩] (some [2, 3, 5, 16]) none)
    (.cond (.t 16) (.seq (.reg none [
      ⟨(some 4), .mov (.c (.bool false)), none⟩] (some [4]) none)
    .ret)
    .skip)))
    (.reg none [
      ⟨(some 8), .mov (.t 5), none⟩,
      ⟨(some 9), .bin .add (.t 8) (.c (.int .i64 1)), none⟩,
      ⟨(some 5), .mov (.t 9), none⟩] (some [2, 3, 5]) none)))
def laws_eqByteA6_M : MC :=
  (.seq (.reg none [
      ⟨(some 2), .box (.t 0), none⟩,
      ⟨(some 3), .box (.t 1), none⟩,
      ⟨(some 4), .mov (.c (.bool false)), none⟩] (some [2, 3]) none)
    (.seq (.seq (.reg none [
      ⟨(some 5), .mov (.c (.int .i64 0)), none⟩] (some [2, 3, 5]) none)
    (.block 0 (.loop laws_eqByteA6_L0)))
    (.seq (.reg none [
      ⟨(some 4), .mov (.c (.bool true)), none⟩] (some [4]) none)
    .ret)))
def laws_eqByteA6_F : MF := ⟨17, [.t 4], laws_eqByteA6_M⟩
theorem laws_eqByteA6_ok : OkF Try.prog 66 laws_eqByteA6_F Try.f66 (bodyOf Try.f66) := ⟨Try.func66, by kernel_rfl, by kernel_rfl, by kernel_rfl, by kernel_rfl⟩
-- loop.example/g01312/spec.l02Ok
def spec_l02Ok_L0 : MC :=
  (.seq (.seq (.reg none [
      ⟨(some 21), .mov (.t 3), none⟩,
      ⟨(some 22), .bin .lss (.t 21) (.c (.int .i64 6)), none⟩] (some [0, 3, 22]) none)
    (.cond (.t 22) .skip
    (.exit 0)))
    (.seq (.block 1 (.seq (.reg (some []) [
      ⟨(some 25), .mov (.t 0), none⟩,
      ⟨(some 26), .mov (.t 3), none⟩,
      ⟨(some 27), .nilc (.t 25), none⟩,
      ⟨(some 28), .fa 2 (.t 27), none⟩,
      ⟨(some 29), .iaA 6 1 (.t 28) (.t 26), none⟩,
      ⟨(some 30), .load none (.t 29), none⟩,
      ⟨(some 31), .mov (.t 0), none⟩,
      ⟨(some 32), .mov (.t 3), none⟩,
      ⟨(some 33), .nilc (.t 31), none⟩,
      ⟨(some 34), .fa 8 (.t 33), none⟩,
      ⟨(some 35), .iaA 6 1 (.t 34) (.t 32), none⟩,
      ⟨(some 36), .load none (.t 35), none⟩,
      ⟨(some 37), .bin .or (.t 30) (.t 36), none⟩,
      ⟨(some 4), .mov (.t 37), none⟩] (some [0, 3, 4]) none)
    (.seq (.reg none [
      ⟨(some 38), .mov (.t 4), none⟩,
      ⟨(some 39), .mov (.t 0), none⟩,
      ⟨(some 40), .nilc (.t 39), none⟩,
      ⟨(some 41), .fa 1 (.t 40), none⟩,
      ⟨(some 42), .load none (.t 41), none⟩,
      ⟨(some 43), .conv .u64 (.t 42), none⟩,
      ⟨(some 44), .bin .shr (.t 38) (.t 43), none⟩,
      ⟨(some 45), .bin .neq (.t 44) (.c (.int .u8 0)), none⟩,
      ⟨(some 46), .mov (.t 45), none⟩,
      ⟨(some 47), .mov (.t 3), some (46, false)⟩,
      ⟨(some 48), .mov (.t 0), some (46, false)⟩,
      ⟨(some 49), .nilc (.t 48), some (46, false)⟩,
      ⟨(some 50), .fa 0 (.t 49), some (46, false)⟩,
      ⟨(some 51), .load none (.t 50), some (46, false)⟩,
      ⟨(some 52), .conv .i64 (.t 51), some (46, false)⟩,
      ⟨(some 53), .bin .geq (.t 47) (.t 52), some (46, false)⟩,
      ⟨(some 54), .mov (.t 53), some (46, false)⟩,
      ⟨(some 55), .mov (.t 4), some (54, true)⟩,
      ⟨(some 56), .bin .neq (.t 55) (.c (.int .u8 0)), some (54, true)⟩,
      ⟨(some 57), .pick (.t 54) (.t 56) (.c (.bool false)), some (46, false)⟩,
      ⟨(some 58), .pick (.t 46) (.c (.bool true)) (.t 57), none⟩] (some [0, 3, 58]) none)
    (.cond (.t 58) (.seq (.reg none [
      ⟨(some 2), .mov (.c (.bool false)), none⟩] (some [2]) none)
    .ret)
    .skip))))
    (.reg none [
      ⟨(some 23), .mov (.t 3), none⟩,
      ⟨(some 24), .bin .add (.t 23) (.c (.int .i64 1)), none⟩,
      ⟨(some 3), .mov (.t 24), none⟩] (some [0, 3]) none)))
def spec_l02Ok_M : MC :=
  (.seq (.reg none [
      ⟨(some 2), .mov (.c (.bool false)), none⟩] (some [0]) none)
    (.seq (.seq (.reg none [
      ⟨(some 5), .mov (.t 0), none⟩,
      ⟨(some 6), .nilc (.t 5), none⟩,
      ⟨(some 7), .fa 0 (.t 6), none⟩,
      ⟨(some 8), .load none (.t 7), none⟩,
      ⟨(some 9), .conv .i64 (.t 8), none⟩,
      ⟨(some 10), .call 61 [(.t 9), (.c (.int .i64 1)), (.c (.int .i64 6))], none⟩,
      ⟨(some 11), .un .not (.t 10), none⟩,
      ⟨(some 12), .mov (.t 11), none⟩,
      ⟨(some 13), .mov (.t 0), some (12, false)⟩,
      ⟨(some 14), .nilc (.t 13), some (12, false)⟩,
      ⟨(some 15), .fa 1 (.t 14), some (12, false)⟩,
      ⟨(some 16), .load none (.t 15), some (12, false)⟩,
      ⟨(some 17), .conv .i64 (.t 16), some (12, false)⟩,
      ⟨(some 18), .call 57 [(.t 17)], some (12, false)⟩,
      ⟨(some 19), .un .not (.t 18), some (12, false)⟩,
      ⟨(some 20), .pick (.t 12) (.c (.bool true)) (.t 19), none⟩] (some [0, 20]) none)
    (.cond (.t 20) (.seq (.reg none [
      ⟨(some 2), .mov (.c (.bool false)), none⟩] (some [2]) none)
    .ret)
    .skip))
    (.seq (.seq (.reg none [
      ⟨(some 3), .mov (.c (.int .i64 0)), none⟩] (some [0, 3]) none)
    (.block 0 (.loop spec_l02Ok_L0)))
    (.seq (.reg none [
      ⟨(some 2), .mov (.c (.bool true)), none⟩] (some [2]) none)
    .ret))))
def spec_l02Ok_F : MF := ⟨59, [.t 2], spec_l02Ok_M⟩
theorem spec_l02Ok_ok : OkF Try.prog 67 spec_l02Ok_F Try.f67 (bodyOf Try.f67) := ⟨Try.func67, by kernel_rfl, by kernel_rfl, by kernel_rfl, by kernel_rfl⟩
-- loop.example/g01312/spec.l01Order
def spec_l01Order_L0 : MC :=
  (.seq (.seq (.reg none [
      ⟨(some 7), .mov (.t 6), none⟩,
      ⟨(some 8), .mov (.t 0), none⟩,
      ⟨(some 9), .lenS (.t 8), none⟩,
      ⟨(some 10), .bin .lss (.t 7) (.t 9), none⟩] (some [0, 1, 5, 6, 10]) none)
    (.cond (.t 10) .skip
    (.exit 0)))
    (.seq (.block 1 (.seq (.seq (.reg none [
      ⟨(some 13), .mov (.t 0), none⟩,
      ⟨(some 14), .mov (.t 6), none⟩,
      ⟨(some 15), .iaS 1 (.t 13) (.t 14), none⟩,
      ⟨(some 16), .load none (.t 15), none⟩,
      ⟨(some 17), .conv .i64 (.t 16), none⟩,
      ⟨(some 18), .mov (.t 1), none⟩,
      ⟨(some 19), .bin .sub (.t 18) (.c (.int .i64 1)), none⟩,
      ⟨(some 20), .call 61 [(.t 17), (.c (.int .i64 0)), (.t 19)], none⟩,
      ⟨(some 21), .un .not (.t 20), none⟩,
      ⟨(some 22), .mov (.t 21), none⟩,
      ⟨(some 23), .mov (.t 5), some (22, false)⟩,
      ⟨(some 24), .mov (.t 0), some (22, false)⟩,
      ⟨(some 25), .mov (.t 6), some (22, false)⟩,
      ⟨(some 26), .iaS 1 (.t 24) (.t 25), some (22, false)⟩,
      ⟨(some 27), .load none (.t 26), some (22, false)⟩,
      ⟨(some 28), .conv .u64 (.t 27), some (22, false)⟩,
      ⟨(some 29), .bin .shr (.t 23) (.t 28), some (22, false)⟩,
      ⟨(some 30), .bin .and (.t 29) (.c (.int .u64 1)), some (22, false)⟩,
      ⟨(some 31), .bin .eql (.t 30) (.c (.int .u64 1)), some (22, false)⟩,
      ⟨(some 32), .pick (.t 22) (.c (.bool true)) (.t 31), none⟩] (some [0, 1, 5, 6, 32]) none)
    (.cond (.t 32) (.seq (.reg none [
      ⟨(some 4), .mov (.c (.bool false)), none⟩] (some [4]) none)
    .ret)
    .skip))
    (.reg none [
      ⟨(some 33), .mov (.t 5), none⟩,
      ⟨(some 34), .mov (.t 0), none⟩,
      ⟨(some 35), .mov (.t 6), none⟩,
      ⟨(some 36), .iaS 1 (.t 34) (.t 35), none⟩,
      ⟨(some 37), .load none (.t 36), none⟩,
      ⟨(some 38), .conv .u64 (.t 37), none⟩,
      ⟨(some 39), .bin .shl (.c (.int .u64 1)) (.t 38), none⟩,
      ⟨(some 40), .bin .or (.t 33) (.t 39), none⟩,
      ⟨(some 5), .mov (.t 40), none⟩] (some [0, 1, 5, 6]) none)))
    (.reg none [
      ⟨(some 11), .mov (.t 6), none⟩,
      ⟨(some 12), .bin .add (.t 11) (.c (.int .i64 1)), none⟩,
      ⟨(some 6), .mov (.t 12), none⟩] (some [0, 1, 5, 6]) none)))
def spec_l01Order_M : MC :=
  (.seq (.reg none [
      ⟨(some 4), .mov (.c (.bool false)), none⟩] (some [0, 1]) none)
    (.seq (.reg none [
      ⟨(some 5), .mov (.c (.int .u64 0)), none⟩] (some [0, 1, 5]) none)
    (.seq (.seq (.reg none [
      ⟨(some 6), .mov (.c (.int .i64 0)), none⟩] (some [0, 1, 5, 6]) none)
    (.block 0 (.loop spec_l01Order_L0)))
    (.seq (.reg none [
      ⟨(some 41), .mov (.t 0), none⟩,
      ⟨(some 42), .lenS (.t 41), none⟩,
      ⟨(some 43), .mov (.t 1), none⟩,
      ⟨(some 44), .bin .eql (.t 42) (.t 43), none⟩,
      ⟨(some 4), .mov (.t 44), none⟩] (some [4]) none)
    .ret))))
def spec_l01Order_F : MF := ⟨45, [.t 4], spec_l01Order_M⟩
theorem spec_l01Order_ok : OkF Try.prog 68 spec_l01Order_F Try.f68 (bodyOf Try.f68) := ⟨Try.func68, by kernel_rfl, by kernel_rfl, by kernel_rfl, by kernel_rfl⟩
-- loop.example/g01312/laws.toByteA6
def laws_toByteA6_L0 : MC :=
  (.seq (.seq (.reg none [
      ⟨(some 5), .mov (.t 4), none⟩,
      ⟨(some 6), .bin .lss (.t 5) (.c (.int .i64 6)), none⟩] (some [1, 2, 3, 4, 6]) none)
    (.cond (.t 6) .skip
    (.exit 0)))
    (.seq (.block 1 (.reg none [
      ⟨(some 9), .mov (.t 4), none⟩,
      ⟨(some 10), .mov (.t 4), none⟩,
      ⟨(some 11), .iaA 6 1 (.t 1) (.t 10), none⟩,
      ⟨(some 12), .load none (.t 11), none⟩,
      ⟨(some 13), .iaA 6 1 (.t 3) (.t 9), none⟩,
      ⟨none, .store 1 (.t 13) (.t 12), none⟩] (some [1, 2, 3, 4]) none))
    (.reg none [
      ⟨(some 7), .mov (.t 4), none⟩,
      ⟨(some 8), .bin .add (.t 7) (.c (.int .i64 1)), none⟩,
      ⟨(some 4), .mov (.t 8), none⟩] (some [1, 2, 3, 4]) none)))
def laws_toByteA6_M : MC :=
  (.seq (.reg none [
      ⟨(some 1), .box (.t 0), none⟩,
      ⟨(some 2), .new (rl [(6, .int .u8 0)]), none⟩] (some [1, 2]) none)
    (.seq (.reg none [
      ⟨(some 3), .new (rl [(6, .int .u8 0)]), none⟩] (some [1, 2, 3]) none)
    (.seq (.seq (.reg none [
      ⟨(some 4), .mov (.c (.int .i64 0)), none⟩] (some [1, 2, 3, 4]) none)
    (.block 0 (.loop laws_toByteA6_L0)))
    (.seq (.reg none [
      ⟨(some 14), .load (some 6) (.t 3), none⟩,
      ⟨none, .store 6 (.t 2) (.t 14), none⟩] (some [2]) none)
    .ret))))
def laws_toByteA6_F : MF := ⟨15, [.c 2 (some 6)], laws_toByteA6_M⟩
theorem laws_toByteA6_ok : OkF Try.prog 69 laws_toByteA6_F Try.f69 (bodyOf Try.f69) := ⟨Try.func69, by kernel_rfl, by kernel_rfl, by kernel_rfl, by kernel_rfl⟩
-- loop.example/g01312/impl.firstOf
def impl_firstOf_L0 : MC :=
  (.seq (.reg none [
      ⟨(some 8), .bin .lss (.t 7) (.t 6), none⟩] (some [5, 6, 7, 8]) none)
    (.seq (.cond (.t 8) .skip
    (.exit 0))
    (.seq (.block 1 (.seq (.reg none [
      ⟨(some 9), .iaS 2 (.t 5) (.t 7), none⟩,
      ⟨(some 10), .load (some 2) (.t 9), none⟩,
      ⟨(some 4), .new [.bool false, .int .i64 0], none⟩,
      ⟨none, .store 2 (.t 4) (.t 10), none⟩] (some [4, 5, 6, 7]) none)
    (.seq (.reg none [
      ⟨(some 11), .fa 0 (.t 4), none⟩,
      ⟨(some 12), .load none (.t 11), none⟩] (some [4, 5, 6, 7, 12]) none)
    (.cond (.t 12) (.seq (.reg none [
      ⟨(some 13), .fa 1 (.t 4), none⟩,
      ⟨(some 14), .load none (.t 13), none⟩,
      ⟨(some 2), .mov (.t 14), none⟩] (some [2]) none)
    .ret)
    .skip))))
    (.reg none [
      ⟨(some 15), .bin .add (.t 7) (.c (.int .i64 1)), none⟩,
      ⟨(some 7), .mov (.t 15), none⟩] (some [5, 6, 7]) (some 0)))))
def impl_firstOf_M : MC :=
  (.seq (.reg none [
      ⟨(some 2), .mov (.c (.int .i64 0)), none⟩] (some [0]) none)
    (.seq (.seq (.reg none [
      ⟨(some 5), .mov (.t 0), none⟩,
      ⟨(some 6), .lenS (.t 5), none⟩,
      ⟨(some 7), .mov (.c (.int .i64 0)), none⟩] (some [5, 6, 7]) none)
    (.block 0 (.loop impl_firstOf_L0)))
    (.seq (.reg none [
      ⟨(some 2), .mov (.c (.int .i64 0)), none⟩] (some [2]) none)
    .ret)))
def impl_firstOf_F : MF := ⟨16, [.t 2], impl_firstOf_M⟩
theorem impl_firstOf_ok : OkF Try.prog 70 impl_firstOf_F Try.f70 (bodyOf Try.f70) := ⟨Try.func70, by kernel_rfl, by kernel_rfl, by kernel_rfl, by kernel_rfl⟩
-- loop.example/g01312/impl.ValidScheme
def impl_ValidScheme_L0 : MC :=
  (.seq (.reg none [
      ⟨(some 18), .bin .lss (.t 17) (.c (.int .i64 6)), none⟩] (some [1, 17, 18]) none)
    (.seq (.cond (.t 18) .skip
    (.exit 0))
    (.seq (.block 1 (.seq (.reg none [
      ⟨(some 19), .mov (.t 17), none⟩,
      ⟨(some 3), .mov (.t 19), none⟩] (some [1, 3, 17]) none)
    (.seq (.reg (some []) [
      ⟨(some 20), .mov (.t 3), none⟩,
      ⟨(some 21), .fa 2 (.t 1), none⟩,
      ⟨(some 22), .iaA 6 1 (.t 21) (.t 20), none⟩,
      ⟨(some 23), .load none (.t 22), none⟩,
      ⟨(some 24), .mov (.t 3), none⟩,
      ⟨(some 25), .fa 8 (.t 1), none⟩,
      ⟨(some 26), .iaA 6 1 (.t 25) (.t 24), none⟩,
      ⟨(some 27), .load none (.t 26), none⟩,
      ⟨(some 28), .bin .or (.t 23) (.t 27), none⟩,
      ⟨(some 4), .mov (.t 28), none⟩] (some [1, 3, 4, 17]) none)
    (.seq (.reg none [
      ⟨(some 29), .mov (.t 4), none⟩,
      ⟨(some 30), .fa 1 (.t 1), none⟩,
      ⟨(some 31), .load none (.t 30), none⟩,
      ⟨(some 32), .call 102 [(.t 31)], none⟩,
      ⟨(some 33), .bin .andNot (.t 29) (.t 32), none⟩,
      ⟨(some 34), .bin .neq (.t 33) (.c (.int .u8 0)), none⟩,
      ⟨(some 35), .mov (.t 34), none⟩,
      ⟨(some 36), .mov (.t 3), some (35, false)⟩,
      ⟨(some 37), .fa 0 (.t 1), some (35, false)⟩,
      ⟨(some 38), .load none (.t 37), some (35, false)⟩,
      ⟨(some 39), .conv .i64 (.t 38), some (35, false)⟩,
      ⟨(some 40), .bin .geq (.t 36) (.t 39), some (35, false)⟩,
      ⟨(some 41), .mov (.t 40), some (35, false)⟩,
      ⟨(some 42), .mov (.t 4), some (41, true)⟩,
      ⟨(some 43), .bin .neq (.t 42) (.c (.int .u8 0)), some (41, true)⟩,
      ⟨(some 44), .pick (.t 41) (.t 43) (.c (.bool false)), some (35, false)⟩,
      ⟨(some 45), .pick (.t 35) (.c (.bool true)) (.t 44), none⟩] (some [1, 17, 45]) none)
    (.cond (.t 45) (.seq (.reg none [
      ⟨(some 2), .mov (.c (.bool false)), none⟩] (some [2]) none)
    .ret)
    .skip)))))
    (.reg none [
      ⟨(some 46), .bin .add (.t 17) (.c (.int .i64 1)), none⟩,
      ⟨(some 17), .mov (.t 46), none⟩] (some [1, 17]) none))))
def impl_ValidScheme_M : MC :=
  (.seq (.reg none [
      ⟨(some 1), .box (.t 0), none⟩,
      ⟨(some 2), .mov (.c (.bool false)), none⟩] (some [1]) none)
    (.seq (.seq (.reg none [
      ⟨(some 5), .fa 0 (.t 1), none⟩,
      ⟨(some 6), .load none (.t 5), none⟩,
      ⟨(some 7), .conv .i64 (.t 6), none⟩,
      ⟨(some 8), .call 63 [(.t 7), (.c (.int .i64 1)), (.c (.int .i64 6))], none⟩,
      ⟨(some 9), .un .not (.t 8), none⟩,
      ⟨(some 10), .mov (.t 9), none⟩,
      ⟨(some 11), .fa 1 (.t 1), some (10, false)⟩,
      ⟨(some 12), .load none (.t 11), some (10, false)⟩,
      ⟨(some 13), .conv .i64 (.t 12), some (10, false)⟩,
      ⟨(some 14), .call 59 [(.t 13)], some (10, false)⟩,
      ⟨(some 15), .un .not (.t 14), some (10, false)⟩,
      ⟨(some 16), .pick (.t 10) (.c (.bool true)) (.t 15), none⟩] (some [1, 16]) none)
    (.cond (.t 16) (.seq (.reg none [
      ⟨(some 2), .mov (.c (.bool false)), none⟩] (some [2]) none)
    .ret)
    .skip))
    (.seq (.seq (.reg none [
      ⟨(some 17), .mov (.c (.int .i64 0)), none⟩] (some [1, 17]) none)
    (.block 0 (.loop impl_ValidScheme_L0)))
    (.seq (.reg none [
      ⟨(some 2), .mov (.c (.bool true)), none⟩] (some [2]) none)
    .ret))))
def impl_ValidScheme_F : MF := ⟨47, [.t 2], impl_ValidScheme_M⟩
theorem impl_ValidScheme_ok : OkF Try.prog 71 impl_ValidScheme_F Try.f71 (bodyOf Try.f71) := ⟨Try.func71, by kernel_rfl, by kernel_rfl, by kernel_rfl, by kernel_rfl⟩
-- loop.example/g01312/impl.isOrder
def impl_isOrder_L0 : MC :=
  (.seq (.reg none [
      ⟨(some 11), .bin .lss (.t 10) (.t 9), none⟩] (some [0, 1, 5, 8, 9, 10, 11]) none)
    (.seq (.cond (.t 11) .skip
    (.exit 0))
    (.seq (.block 1 (.seq (.reg none [
      ⟨(some 12), .iaS 1 (.t 8) (.t 10), none⟩,
      ⟨(some 13), .load none (.t 12), none⟩,
      ⟨(some 7), .mov (.t 13), none⟩] (some [0, 1, 5, 7, 8, 9, 10]) none)
    (.seq (.seq (.reg none [
      ⟨(some 14), .mov (.t 7), none⟩,
      ⟨(some 15), .bin .lss (.t 14) (.c (.int .i8 0)), none⟩,
      ⟨(some 16), .mov (.t 15), none⟩,
      ⟨(some 17), .mov (.t 7), some (16, false)⟩,
      ⟨(some 18), .mov (.t 1), some (16, false)⟩,
      ⟨(some 19), .bin .geq (.t 17) (.t 18), some (16, false)⟩,
      ⟨(some 20), .pick (.t 16) (.c (.bool true)) (.t 19), none⟩,
      ⟨(some 21), .mov (.t 20), none⟩,
      ⟨(some 22), .mov (.t 5), some (21, false)⟩,
      ⟨(some 23), .mov (.t 7), some (21, false)⟩,
      ⟨(some 24), .bin .shr (.t 22) (.t 23), some (21, false)⟩,
      ⟨(some 25), .bin .and (.t 24) (.c (.int .u64 1)), some (21, false)⟩,
      ⟨(some 26), .bin .eql (.t 25) (.c (.int .u64 1)), some (21, false)⟩,
      ⟨(some 27), .pick (.t 21) (.c (.bool true)) (.t 26), none⟩] (some [0, 1, 5, 7, 8, 9, 10, 27]) none)
    (.cond (.t 27) (.seq (.reg none [
      ⟨(some 4), .mov (.c (.bool false)), none⟩] (some [4]) none)
    .ret)
    .skip))
    (.reg none [
      ⟨(some 28), .mov (.t 5), none⟩,
      ⟨(some 29), .mov (.t 7), none⟩,
      ⟨(some 30), .bin .shl (.c (.int .u64 1)) (.t 29), none⟩,
      ⟨(some 31), .bin .or (.t 28) (.t 30), none⟩,
      ⟨(some 5), .mov (.t 31), none⟩] (some [0, 1, 5, 8, 9, 10]) none))))
    (.reg none [
      ⟨(some 32), .bin .add (.t 10) (.c (.int .i64 1)), none⟩,
      ⟨(some 10), .mov (.t 32), none⟩] (some [0, 1, 5, 8, 9, 10]) none))))
def impl_isOrder_M : MC :=
  (.seq (.reg none [
      ⟨(some 4), .mov (.c (.bool false)), none⟩] (some [0, 1]) none)
    (.seq (.reg none [
      ⟨(some 5), .mov (.c (.int .u64 0)), none⟩] (some [0, 1, 5]) none)
    (.seq (.seq (.reg none [
      ⟨(some 8), .mov (.t 0), none⟩,
      ⟨(some 9), .lenS (.t 8), none⟩,
      ⟨(some 10), .mov (.c (.int .i64 0)), none⟩] (some [0, 1, 5, 8, 9, 10]) none)
    (.block 0 (.loop impl_isOrder_L0)))
    (.seq (.reg none [
      ⟨(some 33), .mov (.t 0), none⟩,
      ⟨(some 34), .lenS (.t 33), none⟩,
      ⟨(some 35), .mov (.t 1), none⟩,
      ⟨(some 36), .conv .i64 (.t 35), none⟩,
      ⟨(some 37), .bin .eql (.t 34) (.t 36), none⟩,
      ⟨(some 4), .mov (.t 37), none⟩] (some [4]) none)
    .ret))))
def impl_isOrder_F : MF := ⟨38, [.t 4], impl_isOrder_M⟩
theorem impl_isOrder_ok : OkF Try.prog 72 impl_isOrder_F Try.f72 (bodyOf Try.f72) := ⟨Try.func72, by kernel_rfl, by kernel_rfl, by kernel_rfl, by kernel_rfl⟩
-- loop.example/g01312/spec.l02Asked
def spec_l02Asked_M : MC :=
  (.seq (.reg none [
      ⟨(some 4), .mov (.c (.int .i64 0)), none⟩] (some [0, 1]) none)
    (.seq (.seq (.reg none [
      ⟨(some 5), .mov (.t 0), none⟩,
      ⟨(some 6), .call 67 [(.t 5)], none⟩,
      ⟨(some 7), .un .not (.t 6), none⟩] (some [0, 1, 7]) none)
    (.cond (.t 7) (.seq (.reg none [
      ⟨(some 4), .mov (.c (.int .i64 1)), none⟩] (some [4]) none)
    .ret)
    .skip))
    (.seq (.seq (.reg none [
      ⟨(some 8), .mov (.t 1), none⟩,
      ⟨(some 9), .mov (.t 0), none⟩,
      ⟨(some 10), .nilc (.t 9), none⟩,
      ⟨(some 11), .fa 0 (.t 10), none⟩,
      ⟨(some 12), .load none (.t 11), none⟩,
      ⟨(some 13), .conv .u64 (.t 12), none⟩,
      ⟨(some 14), .bin .shr (.t 8) (.t 13), none⟩,
      ⟨(some 15), .bin .neq (.t 14) (.c (.int .u8 0)), none⟩] (some [15]) none)
    (.cond (.t 15) (.seq (.reg none [
      ⟨(some 4), .mov (.c (.int .i64 2)), none⟩] (some [4]) none)
    .ret)
    .skip))
    (.seq (.reg none [
      ⟨(some 4), .mov (.c (.int .i64 0)), none⟩] (some [4]) none)
    .ret))))
def spec_l02Asked_F : MF := ⟨16, [.t 4], spec_l02Asked_M⟩
theorem spec_l02Asked_ok : OkF Try.prog 73 spec_l02Asked_F Try.f73 (bodyOf Try.f73) := ⟨Try.func73, by kernel_rfl, by kernel_rfl, by kernel_rfl, by kernel_rfl⟩
-- loop.example/g01312/spec.l02Columns
def spec_l02Columns_L0 : MC :=
  (.seq (.seq (.reg none [
      ⟨(some 10), .mov (.t 8), none⟩,
      ⟨(some 11), .mov (.t 0), none⟩,
      ⟨(some 12), .nilc (.t 11), none⟩,
      ⟨(some 13), .fa 1 (.t 12), none⟩,
      ⟨(some 14), .load none (.t 13), none⟩,
      ⟨(some 15), .conv .i64 (.t 14), none⟩,
      ⟨(some 16), .bin .lss (.t 10) (.t 15), none⟩] (some [0, 1, 2, 6, 7, 8, 16]) none)
    (.cond (.t 16) .skip
    (.exit 0)))
    (.seq (.block 1 (.reg none [
      ⟨(some 19), .mov (.t 0), none⟩,
      ⟨(some 20), .mov (.t 1), none⟩,
      ⟨(some 21), .mov (.t 2), none⟩,
      ⟨(some 22), .mov (.t 8), none⟩,
      ⟨(some 23), .call 103 [(.t 19), (.t 20), (.t 21), (.t 22)], none⟩,
      ⟨(some 24), .iaA 64 1 (.t 7) (.t 23), none⟩,
      ⟨(some 25), .load none (.t 24), none⟩,
      ⟨(some 26), .bin .add (.t 25) (.c (.int .i8 1)), none⟩,
      ⟨(some 27), .iaA 64 1 (.t 7) (.t 23), none⟩,
      ⟨none, .store 1 (.t 27) (.t 26), none⟩] (some [0, 1, 2, 6, 7, 8]) none))
    (.reg none [
      ⟨(some 17), .mov (.t 8), none⟩,
      ⟨(some 18), .bin .add (.t 17) (.c (.int .i64 1)), none⟩,
      ⟨(some 8), .mov (.t 18), none⟩] (some [0, 1, 2, 6, 7, 8]) none)))
def spec_l02Columns_M : MC :=
  (.seq (.reg none [
      ⟨(some 6), .new (rl [(64, .int .i8 0)]), none⟩] (some [0, 1, 2, 6]) none)
    (.seq (.reg none [
      ⟨(some 9), .bld (rl [(64, .int .i8 0)]) [], none⟩,
      ⟨(some 7), .new (rl [(64, .int .i8 0)]), none⟩,
      ⟨none, .store 64 (.t 7) (.t 9), none⟩] (some [0, 1, 2, 6, 7]) none)
    (.seq (.seq (.reg none [
      ⟨(some 8), .mov (.c (.int .i64 0)), none⟩] (some [0, 1, 2, 6, 7, 8]) none)
    (.block 0 (.loop spec_l02Columns_L0)))
    (.seq (.reg none [
      ⟨(some 28), .load (some 64) (.t 7), none⟩,
      ⟨none, .store 64 (.t 6) (.t 28), none⟩] (some [6]) none)
    .ret))))
def spec_l02Columns_F : MF := ⟨29, [.c 6 (some 64)], spec_l02Columns_M⟩
theorem spec_l02Columns_ok : OkF Try.prog 74 spec_l02Columns_F Try.f74 (bodyOf Try.f74) := ⟨Try.func74, by kernel_rfl, by kernel_rfl, by kernel_rfl, by kernel_rfl⟩
-- loop.example/g01312/impl.setCode
def impl_setCode_M : MC :=
  (.seq (.reg none [
      ⟨(some 2), .box (.t 0), none⟩,
      ⟨(some 4), .mov (.c (.int .i64 0)), none⟩] (some [1, 2]) none)
    (.seq (.reg (some [(1, 4), (0, 6), (0, 9), (1, 9), (4, 9), (6, 9), (0, 10), (1, 10), (4, 10)]) [
      ⟨(some 5), .load (some 14) (.t 2), none⟩,
      ⟨(some 6), .call 71 [(.t 5)], none⟩,
      ⟨(some 7), .un .not (.t 6), none⟩,
      ⟨(some 8), .bld [.bool false, .int .i64 0] [(0, 1, (.t 7)), (1, 1, (.c (.int .i64 1)))], none⟩,
      ⟨(some 9), .load (some 14) (.t 2), none⟩,
      ⟨(some 10), .mov (.t 1), none⟩,
      ⟨(some 11), .call 104 [(.t 9), (.t 10)], none⟩,
      ⟨(some 12), .un .not (.t 11), none⟩,
      ⟨(some 13), .bld [.bool false, .int .i64 0] [(0, 1, (.t 12)), (1, 1, (.c (.int .i64 2)))], none⟩,
      ⟨(some 14), .bldS [.bool false, .int .i64 0] 2 [(0, 2, (.t 8)), (2, 2, (.t 13))], none⟩,
      ⟨(some 15), .call 70 [(.t 14)], none⟩,
      ⟨(some 4), .mov (.t 15), none⟩] (some [4]) none)
    .ret))
def impl_setCode_F : MF := ⟨16, [.t 4], impl_setCode_M⟩
theorem impl_setCode_ok : OkF Try.prog 75 impl_setCode_F Try.f75 (bodyOf Try.f75) := ⟨Try.func75, by kernel_rfl, by kernel_rfl, by kernel_rfl, by kernel_rfl⟩
-- (loop.example/g01312/impl.Scheme).columns
def impl_Scheme_columns_M : MC :=
  (.seq (.reg none [
      ⟨(some 3), .box (.t 0), none⟩,
      ⟨(some 6), .mov (.c (.nilsl)), none⟩] (some [1, 2, 3]) none)
    (.seq (.reg (some [(1, 5)]) [
      ⟨(some 7), .mov (.t 2), none⟩,
      ⟨(some 8), .call 93 [(.t 3), (.t 7)], none⟩,
      ⟨(some 9), .nilc (.t 8), none⟩,
      ⟨(some 10), .slA 6 1 (.t 9) none none, none⟩,
      ⟨(some 11), .fa 1 (.t 3), none⟩,
      ⟨(some 12), .load none (.t 11), none⟩,
      ⟨(some 13), .mov (.t 1), none⟩,
      ⟨(some 14), .call 105 [(.t 10), (.t 12), (.t 13)], none⟩,
      ⟨(some 6), .mov (.t 14), none⟩] (some [6]) none)
    .ret))
def impl_Scheme_columns_F : MF := ⟨15, [.t 6], impl_Scheme_columns_M⟩
theorem impl_Scheme_columns_ok : OkF Try.prog 76 impl_Scheme_columns_F Try.f76 (bodyOf Try.f76) := ⟨Try.func76, by kernel_rfl, by kernel_rfl, by kernel_rfl, by kernel_rfl⟩
-- loop.example/g01312/spec.l01Ok
def spec_l01Ok_L0 : MC :=
  (.seq (.seq (.reg none [
      ⟨(some 11), .mov (.t 3), none⟩,
      ⟨(some 12), .bin .lss (.t 11) (.c (.int .i64 64)), none⟩] (some [0, 3, 12]) none)
    (.cond (.t 12) .skip
    (.exit 0)))
    (.seq (.block 1 (.seq (.reg (some []) [
      ⟨(some 15), .mov (.t 0), none⟩,
      ⟨(some 16), .mov (.t 3), none⟩,
      ⟨(some 17), .nilc (.t 15), none⟩,
      ⟨(some 18), .fa 1 (.t 17), none⟩,
      ⟨(some 19), .iaA 64 1 (.t 18) (.t 16), none⟩,
      ⟨(some 20), .load none (.t 19), none⟩,
      ⟨(some 21), .mov (.t 0), none⟩,
      ⟨(some 22), .nilc (.t 21), none⟩,
      ⟨(some 23), .fa 0 (.t 22), none⟩,
      ⟨(some 24), .load none (.t 23), none⟩,
      ⟨(some 25), .conv .u64 (.t 24), none⟩,
      ⟨(some 26), .bin .shr (.t 20) (.t 25), none⟩,
      ⟨(some 27), .bin .neq (.t 26) (.c (.int .u8 0)), none⟩] (some [0, 3, 27]) none)
    (.cond (.t 27) (.seq (.reg none [
      ⟨(some 2), .mov (.c (.bool false)), none⟩] (some [2]) none)
    .ret)
    .skip)))
    (.reg none [
      ⟨(some 13), .mov (.t 3), none⟩,
      ⟨(some 14), .bin .add (.t 13) (.c (.int .i64 1)), none⟩,
      ⟨(some 3), .mov (.t 14), none⟩] (some [0, 3]) none)))
def spec_l01Ok_M : MC :=
  (.seq (.reg none [
      ⟨(some 2), .mov (.c (.bool false)), none⟩] (some [0]) none)
    (.seq (.seq (.reg none [
      ⟨(some 4), .mov (.t 0), none⟩,
      ⟨(some 5), .nilc (.t 4), none⟩,
      ⟨(some 6), .fa 0 (.t 5), none⟩,
      ⟨(some 7), .load none (.t 6), none⟩,
      ⟨(some 8), .conv .i64 (.t 7), none⟩,
      ⟨(some 9), .call 57 [(.t 8)], none⟩,
      ⟨(some 10), .un .not (.t 9), none⟩] (some [0, 10]) none)
    (.cond (.t 10) (.seq (.reg none [
      ⟨(some 2), .mov (.c (.bool false)), none⟩] (some [2]) none)
    .ret)
    .skip))
    (.seq (.seq (.reg none [
      ⟨(some 3), .mov (.c (.int .i64 0)), none⟩] (some [0, 3]) none)
    (.block 0 (.loop spec_l01Ok_L0)))
    (.seq (.reg none [
      ⟨(some 2), .mov (.c (.bool true)), none⟩] (some [2]) none)
    .ret))))
def spec_l01Ok_F : MF := ⟨28, [.t 2], spec_l01Ok_M⟩
theorem spec_l01Ok_ok : OkF Try.prog 77 spec_l01Ok_F Try.f77 (bodyOf Try.f77) := ⟨Try.func77, by kernel_rfl, by kernel_rfl, by kernel_rfl, by kernel_rfl⟩
-- loop.example/g01312/spec.l01Reordered
def spec_l01Reordered_L0 : MC :=
  (.seq (.seq (.reg none [
      ⟨(some 7), .mov (.t 6), none⟩,
      ⟨(some 8), .mov (.t 1), none⟩,
      ⟨(some 9), .lenS (.t 8), none⟩,
      ⟨(some 10), .bin .lss (.t 7) (.t 9), none⟩] (some [0, 1, 5, 6, 10]) none)
    (.cond (.t 10) .skip
    (.exit 0)))
    (.seq (.block 1 (.reg none [
      ⟨(some 13), .mov (.t 5), none⟩,
      ⟨(some 14), .mov (.t 0), none⟩,
      ⟨(some 15), .mov (.t 1), none⟩,
      ⟨(some 16), .mov (.t 6), none⟩,
      ⟨(some 17), .iaS 1 (.t 15) (.t 16), none⟩,
      ⟨(some 18), .load none (.t 17), none⟩,
      ⟨(some 19), .conv .u64 (.t 18), none⟩,
      ⟨(some 20), .bin .shr (.t 14) (.t 19), none⟩,
      ⟨(some 21), .bin .and (.t 20) (.c (.int .u8 1)), none⟩,
      ⟨(some 22), .mov (.t 6), none⟩,
      ⟨(some 23), .conv .u64 (.t 22), none⟩,
      ⟨(some 24), .bin .shl (.t 21) (.t 23), none⟩,
      ⟨(some 25), .bin .or (.t 13) (.t 24), none⟩,
      ⟨(some 5), .mov (.t 25), none⟩] (some [0, 1, 5, 6]) none))
    (.reg none [
      ⟨(some 11), .mov (.t 6), none⟩,
      ⟨(some 12), .bin .add (.t 11) (.c (.int .i64 1)), none⟩,
      ⟨(some 6), .mov (.t 12), none⟩] (some [0, 1, 5, 6]) none)))
def spec_l01Reordered_M : MC :=
  (.seq (.reg none [
      ⟨(some 4), .mov (.c (.int .u8 0)), none⟩] (some [0, 1]) none)
    (.seq (.reg none [
      ⟨(some 5), .mov (.c (.int .u8 0)), none⟩] (some [0, 1, 5]) none)
    (.seq (.seq (.reg none [
      ⟨(some 6), .mov (.c (.int .i64 0)), none⟩] (some [0, 1, 5, 6]) none)
    (.block 0 (.loop spec_l01Reordered_L0)))
    (.seq (.reg none [
      ⟨(some 26), .mov (.t 5), none⟩,
      ⟨(some 4), .mov (.t 26), none⟩] (some [4]) none)
    .ret))))
def spec_l01Reordered_F : MF := ⟨27, [.t 4], spec_l01Reordered_M⟩
theorem spec_l01Reordered_ok : OkF Try.prog 78 spec_l01Reordered_F Try.f78 (bodyOf Try.f78) := ⟨Try.func78, by kernel_rfl, by kernel_rfl, by kernel_rfl, by kernel_rfl⟩
-- loop.example/g01312/laws.toByteA64
def laws_toByteA64_L0 : MC :=
  (.seq (.seq (.reg none [
      ⟨(some 5), .mov (.t 4), none⟩,
      ⟨(some 6), .bin .lss (.t 5) (.c (.int .i64 64)), none⟩] (some [1, 2, 3, 4, 6]) none)
    (.cond (.t 6) .skip
    (.exit 0)))
    (.seq (.block 1 (.reg none [
      ⟨(some 9), .mov (.t 4), none⟩,
      ⟨(some 10), .mov (.t 4), none⟩,
      ⟨(some 11), .iaA 64 1 (.t 1) (.t 10), none⟩,
      ⟨(some 12), .load none (.t 11), none⟩,
      ⟨(some 13), .iaA 64 1 (.t 3) (.t 9), none⟩,
      ⟨none, .store 1 (.t 13) (.t 12), none⟩] (some [1, 2, 3, 4]) none))
    (.reg none [
      ⟨(some 7), .mov (.t 4), none⟩,
      ⟨(some 8), .bin .add (.t 7) (.c (.int .i64 1)), none⟩,
      ⟨(some 4), .mov (.t 8), none⟩] (some [1, 2, 3, 4]) none)))
def laws_toByteA64_M : MC :=
  (.seq (.reg none [
      ⟨(some 1), .box (.t 0), none⟩,
      ⟨(some 2), .new (rl [(64, .int .u8 0)]), none⟩] (some [1, 2]) none)
    (.seq (.reg none [
      ⟨(some 3), .new (rl [(64, .int .u8 0)]), none⟩] (some [1, 2, 3]) none)
    (.seq (.seq (.reg none [
      ⟨(some 4), .mov (.c (.int .i64 0)), none⟩] (some [1, 2, 3, 4]) none)
    (.block 0 (.loop laws_toByteA64_L0)))
    (.seq (.reg none [
      ⟨(some 14), .load (some 64) (.t 3), none⟩,
      ⟨none, .store 64 (.t 2) (.t 14), none⟩] (some [2]) none)
    .ret))))
def laws_toByteA64_F : MF := ⟨15, [.c 2 (some 64)], laws_toByteA64_M⟩
theorem laws_toByteA64_ok : OkF Try.prog 79 laws_toByteA64_F Try.f79 (bodyOf Try.f79) := ⟨Try.func79, by kernel_rfl, by kernel_rfl, by kernel_rfl, by kernel_rfl⟩
-- loop.example/g01312/impl.ValidLayer
def impl_ValidLayer_L0 : MC :=
  (.seq (.reg none [
      ⟨(some 13), .bin .lss (.t 12) (.c (.int .i64 64)), none⟩] (some [1, 11, 12, 13]) none)
    (.seq (.cond (.t 13) .skip
    (.exit 0))
    (.seq (.block 1 (.seq (.reg none [
      ⟨(some 14), .ix 64 1 none (.t 11) (.t 12), none⟩,
      ⟨(some 4), .mov (.t 14), none⟩] (some [1, 4, 11, 12]) none)
    (.seq (.reg none [
      ⟨(some 15), .mov (.t 4), none⟩,
      ⟨(some 16), .fa 0 (.t 1), none⟩,
      ⟨(some 17), .load none (.t 16), none⟩,
      ⟨(some 18), .call 102 [(.t 17)], none⟩,
      ⟨(some 19), .bin .andNot (.t 15) (.t 18), none⟩,
      ⟨(some 20), .bin .neq (.t 19) (.c (.int .u8 0)), none⟩] (some [1, 11, 12, 20]) none)
    (.cond (.t 20) (.seq (.reg none [
      ⟨(some 2), .mov (.c (.bool false)), none⟩] (some [2]) none)
    .ret)
    .skip))))
    (.reg none [
      ⟨(some 21), .bin .add (.t 12) (.c (.int .i64 1)), none⟩,
      ⟨(some 12), .mov (.t 21), none⟩] (some [1, 11, 12]) none))))
def impl_ValidLayer_M : MC :=
  (.seq (.reg none [
      ⟨(some 1), .box (.t 0), none⟩,
      ⟨(some 2), .mov (.c (.bool false)), none⟩] (some [1]) none)
    (.seq (.seq (.reg none [
      ⟨(some 5), .fa 0 (.t 1), none⟩,
      ⟨(some 6), .load none (.t 5), none⟩,
      ⟨(some 7), .conv .i64 (.t 6), none⟩,
      ⟨(some 8), .call 59 [(.t 7)], none⟩,
      ⟨(some 9), .un .not (.t 8), none⟩] (some [1, 9]) none)
    (.cond (.t 9) (.seq (.reg none [
      ⟨(some 2), .mov (.c (.bool false)), none⟩] (some [2]) none)
    .ret)
    .skip))
    (.seq (.seq (.reg none [
      ⟨(some 10), .fa 1 (.t 1), none⟩,
      ⟨(some 11), .load (some 64) (.t 10), none⟩,
      ⟨(some 12), .mov (.c (.int .i64 0)), none⟩] (some [1, 11, 12]) none)
    (.block 0 (.loop impl_ValidLayer_L0)))
    (.seq (.reg none [
      ⟨(some 2), .mov (.c (.bool true)), none⟩] (some [2]) none)
    .ret))))
def impl_ValidLayer_F : MF := ⟨22, [.t 2], impl_ValidLayer_M⟩
theorem impl_ValidLayer_ok : OkF Try.prog 80 impl_ValidLayer_F Try.f80 (bodyOf Try.f80) := ⟨Try.func80, by kernel_rfl, by kernel_rfl, by kernel_rfl, by kernel_rfl⟩
-- (loop.example/g01312/impl.Layer).each
def impl_Layer_each_L0 : MC :=
  (.seq (.reg none [
      ⟨(some 11), .bin .lss (.t 10) (.c (.int .i64 64)), none⟩] (some [1, 4, 5, 10, 11]) none)
    (.seq (.cond (.t 11) .skip
    (.exit 0))
    (.seq (.block 1 (.seq (.reg none [
      ⟨(some 12), .mov (.t 10), none⟩,
      ⟨(some 6), .mov (.t 12), none⟩] (some [1, 4, 5, 6, 10]) none)
    (.reg none [
      ⟨(some 13), .mov (.t 6), none⟩,
      ⟨(some 14), .mov (.t 1), none⟩,
      ⟨(some 15), .mov (.t 6), none⟩,
      ⟨(some 16), .callv (.t 14) [(.t 15)], none⟩,
      ⟨(some 17), .fa 1 (.t 5), none⟩,
      ⟨(some 18), .iaA 64 1 (.t 17) (.t 13), none⟩,
      ⟨none, .store 1 (.t 18) (.t 16), none⟩] (some [1, 4, 5, 10]) none)))
    (.reg none [
      ⟨(some 19), .bin .add (.t 10) (.c (.int .i64 1)), none⟩,
      ⟨(some 10), .mov (.t 19), none⟩] (some [1, 4, 5, 10]) none))))
def impl_Layer_each_M : MC :=
  (.seq (.reg none [
      ⟨(some 2), .box (.t 0), none⟩,
      ⟨(some 4), .new (rl [(1, .int .i8 0), (64, .int .u8 0)]), none⟩] (some [1, 2, 4]) none)
    (.seq (.reg none [
      ⟨(some 7), .fa 0 (.t 2), none⟩,
      ⟨(some 8), .load none (.t 7), none⟩,
      ⟨(some 9), .bld (rl [(1, .int .i8 0), (64, .int .u8 0)]) [(0, 1, (.t 8))], none⟩,
      ⟨(some 5), .new (rl [(1, .int .i8 0), (64, .int .u8 0)]), none⟩,
      ⟨none, .store 65 (.t 5) (.t 9), none⟩] (some [1, 4, 5]) none)
    (.seq (.seq (.reg none [
      ⟨(some 10), .mov (.c (.int .i64 0)), none⟩] (some [1, 4, 5, 10]) none)
    (.block 0 (.loop impl_Layer_each_L0)))
    (.seq (.reg none [
      ⟨(some 20), .load (some 65) (.t 5), none⟩,
      ⟨none, .store 65 (.t 4) (.t 20), none⟩] (some [4]) none)
    .ret))))
def impl_Layer_each_F : MF := ⟨21, [.c 4 (some 65)], impl_Layer_each_M⟩
theorem impl_Layer_each_ok : OkF Try.prog 81 impl_Layer_each_F Try.f81 (bodyOf Try.f81) := ⟨Try.func81, by kernel_rfl, by kernel_rfl, by kernel_rfl, by kernel_rfl⟩
-- loop.example/g01312/impl.ReorderParts$1
def impl_ReorderParts_1_M : MC :=
  (.seq (.reg none [
      ⟨(some 4), .mov (.c (.int .u8 0)), none⟩] (some [0, 1, 2]) none)
    (.seq (.reg (some []) [
      ⟨(some 5), .mov (.t 0), none⟩,
      ⟨(some 6), .fa 1 (.t 1), none⟩,
      ⟨(some 7), .iaA 64 1 (.t 6) (.t 5), none⟩,
      ⟨(some 8), .load none (.t 7), none⟩,
      ⟨(some 9), .load none (.t 2), none⟩,
      ⟨(some 10), .call 83 [(.t 8), (.t 9)], none⟩,
      ⟨(some 4), .mov (.t 10), none⟩] (some [4]) none)
    .ret))
def impl_ReorderParts_1_F : MF := ⟨11, [.t 4], impl_ReorderParts_1_M⟩
theorem impl_ReorderParts_1_ok : OkF Try.prog 82 impl_ReorderParts_1_F Try.f82 (bodyOf Try.f82) := ⟨Try.func82, by kernel_rfl, by kernel_rfl, by kernel_rfl, by kernel_rfl⟩
-- loop.example/g01312/impl.reorder
def impl_reorder_L0 : MC :=
  (.seq (.reg none [
      ⟨(some 11), .bin .lss (.t 10) (.t 9), none⟩] (some [0, 5, 8, 9, 10, 11]) none)
    (.seq (.cond (.t 11) .skip
    (.exit 0))
    (.seq (.block 1 (.seq (.reg none [
      ⟨(some 12), .mov (.t 10), none⟩,
      ⟨(some 13), .iaS 1 (.t 8) (.t 10), none⟩,
      ⟨(some 14), .load none (.t 13), none⟩,
      ⟨(some 6), .mov (.t 12), none⟩,
      ⟨(some 7), .mov (.t 14), none⟩] (some [0, 5, 6, 7, 8, 9, 10]) none)
    (.reg none [
      ⟨(some 15), .mov (.t 5), none⟩,
      ⟨(some 16), .mov (.t 0), none⟩,
      ⟨(some 17), .mov (.t 7), none⟩,
      ⟨(some 18), .bin .shr (.t 16) (.t 17), none⟩,
      ⟨(some 19), .bin .and (.t 18) (.c (.int .u8 1)), none⟩,
      ⟨(some 20), .mov (.t 6), none⟩,
      ⟨(some 21), .bin .shl (.t 19) (.t 20), none⟩,
      ⟨(some 22), .bin .or (.t 15) (.t 21), none⟩,
      ⟨(some 5), .mov (.t 22), none⟩] (some [0, 5, 8, 9, 10]) none)))
    (.reg none [
      ⟨(some 23), .bin .add (.t 10) (.c (.int .i64 1)), none⟩,
      ⟨(some 10), .mov (.t 23), none⟩] (some [0, 5, 8, 9, 10]) none))))
def impl_reorder_M : MC :=
  (.seq (.reg none [
      ⟨(some 4), .mov (.c (.int .u8 0)), none⟩] (some [0, 1]) none)
    (.seq (.reg none [
      ⟨(some 5), .mov (.c (.int .u8 0)), none⟩] (some [0, 1, 5]) none)
    (.seq (.seq (.reg none [
      ⟨(some 8), .mov (.t 1), none⟩,
      ⟨(some 9), .lenS (.t 8), none⟩,
      ⟨(some 10), .mov (.c (.int .i64 0)), none⟩] (some [0, 5, 8, 9, 10]) none)
    (.block 0 (.loop impl_reorder_L0)))
    (.seq (.reg none [
      ⟨(some 24), .mov (.t 5), none⟩,
      ⟨(some 4), .mov (.t 24), none⟩] (some [4]) none)
    .ret))))
def impl_reorder_F : MF := ⟨25, [.t 4], impl_reorder_M⟩
theorem impl_reorder_ok : OkF Try.prog 83 impl_reorder_F Try.f83 (bodyOf Try.f83) := ⟨Try.func83, by kernel_rfl, by kernel_rfl, by kernel_rfl, by kernel_rfl⟩
-- loop.example/g01312/laws.eqByteA64
def laws_eqByteA64_L0 : MC :=
  (.seq (.seq (.reg none [
      ⟨(some 6), .mov (.t 5), none⟩,
      ⟨(some 7), .bin .lss (.t 6) (.c (.int .i64 64)), none⟩] (some [2, 3, 5, 7]) none)
    (.cond (.t 7) .skip
    (.exit 0)))
    (.seq (.block 1 (.seq (.reg (some []) [
      ⟨(some 10), .mov (.t 5), none⟩,
      ⟨(some 11), .iaA 64 1 (.t 2) (.t 10), none⟩,
      ⟨(some 12), .load none (.t 11), none⟩,
      ⟨(some 13), .mov (.t 5), none⟩,
      ⟨(some 14), .iaA 64 1 (.t 3) (.t 13), none⟩,
      ⟨(some 15), .load none (.t 14), none⟩,
      ⟨(some 16), .bin .neq (.t 12) (.t 15), none⟩] (some [2, 3, 5, 16]) none)
    (.cond (.t 16) (.seq (.reg none [
      ⟨(some 4), .mov (.c (.bool false)), none⟩] (some [4]) none)
    .ret)
    .skip)))
    (.reg none [
      ⟨(some 8), .mov (.t 5), none⟩,
      ⟨(some 9), .bin .add (.t 8) (.c (.int .i64 1)), none⟩,
      ⟨(some 5), .mov (.t 9), none⟩] (some [2, 3, 5]) none)))
def laws_eqByteA64_M : MC :=
  (.seq (.reg none [
      ⟨(some 2), .box (.t 0), none⟩,
      ⟨(some 3), .box (.t 1), none⟩,
      ⟨(some 4), .mov (.c (.bool false)), none⟩] (some [2, 3]) none)
    (.seq (.seq (.reg none [
      ⟨(some 5), .mov (.c (.int .i64 0)), none⟩] (some [2, 3, 5]) none)
    (.block 0 (.loop laws_eqByteA64_L0)))
    (.seq (.reg none [
      ⟨(some 4), .mov (.c (.bool true)), none⟩] (some [4]) none)
    .ret)))
def laws_eqByteA64_F : MF := ⟨17, [.t 4], laws_eqByteA64_M⟩
theorem laws_eqByteA64_ok : OkF Try.prog 84 laws_eqByteA64_F Try.f84 (bodyOf Try.f84) := ⟨Try.func84, by kernel_rfl, by kernel_rfl, by kernel_rfl, by kernel_rfl⟩
-- loop.example/g01312/spec.l02Sets
def spec_l02Sets_L0 : MC :=
  (.seq (.seq (.reg none [
      ⟨(some 7), .mov (.t 6), none⟩,
      ⟨(some 8), .mov (.t 0), none⟩,
      ⟨(some 9), .nilc (.t 8), none⟩,
      ⟨(some 10), .fa 0 (.t 9), none⟩,
      ⟨(some 11), .load none (.t 10), none⟩,
      ⟨(some 12), .conv .u64 (.t 11), none⟩,
      ⟨(some 13), .bin .shl (.c (.int .i64 1)) (.t 12), none⟩,
      ⟨(some 14), .bin .lss (.t 7) (.t 13), none⟩] (some [0, 4, 5, 6, 14]) none)
    (.cond (.t 14) .skip
    (.exit 0)))
    (.seq (.block 1 (.seq (.seq (.reg none [
      ⟨(some 17), .mov (.t 0), none⟩,
      ⟨(some 18), .mov (.t 6), none⟩,
      ⟨(some 19), .conv .u8 (.t 18), none⟩,
      ⟨(some 20), .call 106 [(.t 17), (.t 19)], none⟩,
      ⟨(some 21), .bin .gtr (.t 20) (.c (.int .i64 0)), none⟩] (some [0, 4, 5, 6, 21]) none)
    (.cond (.t 21) (.reg none [
      ⟨(some 22), .mov (.t 4), none⟩,
      ⟨(some 23), .mov (.t 6), none⟩,
      ⟨(some 24), .conv .u64 (.t 23), none⟩,
      ⟨(some 25), .bin .shl (.c (.int .u64 1)) (.t 24), none⟩,
      ⟨(some 26), .bin .or (.t 22) (.t 25), none⟩,
      ⟨(some 4), .mov (.t 26), none⟩] (some [0, 4, 5, 6]) none)
    .skip))
    (.seq (.reg none [
      ⟨(some 27), .mov (.t 0), none⟩,
      ⟨(some 28), .mov (.t 6), none⟩,
      ⟨(some 29), .conv .u8 (.t 28), none⟩,
      ⟨(some 30), .call 107 [(.t 27), (.t 29)], none⟩] (some [0, 4, 5, 6, 30]) none)
    (.cond (.t 30) (.reg none [
      ⟨(some 31), .mov (.t 5), none⟩,
      ⟨(some 32), .mov (.t 6), none⟩,
      ⟨(some 33), .conv .u64 (.t 32), none⟩,
      ⟨(some 34), .bin .shl (.c (.int .u64 1)) (.t 33), none⟩,
      ⟨(some 35), .bin .or (.t 31) (.t 34), none⟩,
      ⟨(some 5), .mov (.t 35), none⟩] (some [0, 4, 5, 6]) none)
    .skip))))
    (.reg none [
      ⟨(some 15), .mov (.t 6), none⟩,
      ⟨(some 16), .bin .add (.t 15) (.c (.int .i64 1)), none⟩,
      ⟨(some 6), .mov (.t 16), none⟩] (some [0, 4, 5, 6]) none)))
def spec_l02Sets_M : MC :=
  (.seq (.reg none [
      ⟨(some 2), .mov (.c (.int .u64 0)), none⟩,
      ⟨(some 3), .mov (.c (.int .u64 0)), none⟩] (some [0]) none)
    (.seq (.reg none [
      ⟨(some 4), .mov (.c (.int .u64 0)), none⟩] (some [0, 4]) none)
    (.seq (.reg none [
      ⟨(some 5), .mov (.c (.int .u64 0)), none⟩] (some [0, 4, 5]) none)
    (.seq (.seq (.reg none [
      ⟨(some 6), .mov (.c (.int .i64 0)), none⟩] (some [0, 4, 5, 6]) none)
    (.block 0 (.loop spec_l02Sets_L0)))
    (.seq (.reg none [
      ⟨(some 36), .mov (.t 4), none⟩,
      ⟨(some 37), .mov (.t 5), none⟩,
      ⟨(some 2), .mov (.t 36), none⟩,
      ⟨(some 3), .mov (.t 37), none⟩] (some [2, 3]) none)
    .ret)))))
def spec_l02Sets_F : MF := ⟨38, [.t 2, .t 3], spec_l02Sets_M⟩
theorem spec_l02Sets_ok : OkF Try.prog 85 spec_l02Sets_F Try.f85 (bodyOf Try.f85) := ⟨Try.func85, by kernel_rfl, by kernel_rfl, by kernel_rfl, by kernel_rfl⟩
-- (loop.example/g01312/impl.Scheme).seeing
def impl_Scheme_seeing_M : MC :=
  (.seq (.reg none [
      ⟨(some 1), .box (.t 0), none⟩,
      ⟨(some 2), .mov (.c (.int .u64 0)), none⟩] (some [1]) none)
    (.seq (.reg none [
      ⟨(some 3), .load (some 14) (.t 1), none⟩,
      ⟨(some 4), .load (some 14) (.t 1), none⟩,
      ⟨(some 5), .mkf 109 [(.t 4)] [], none⟩,
      ⟨(some 6), .call 108 [(.t 3), (.t 5)], none⟩,
      ⟨(some 2), .mov (.t 6), none⟩] (some [2]) none)
    .ret))
def impl_Scheme_seeing_F : MF := ⟨7, [.t 2], impl_Scheme_seeing_M⟩
theorem impl_Scheme_seeing_ok : OkF Try.prog 86 impl_Scheme_seeing_F Try.f86 (bodyOf Try.f86) := ⟨Try.func86, by kernel_rfl, by kernel_rfl, by kernel_rfl, by kernel_rfl⟩
-- loop.example/g01312/spec.l01All
def spec_l01All_L0 : MC :=
  (.seq (.seq (.reg none [
      ⟨(some 4), .mov (.t 3), none⟩,
      ⟨(some 5), .mov (.t 0), none⟩,
      ⟨(some 6), .lenS (.t 5), none⟩,
      ⟨(some 7), .bin .lss (.t 4) (.t 6), none⟩] (some [0, 3, 7]) none)
    (.cond (.t 7) .skip
    (.exit 0)))
    (.seq (.block 1 (.seq (.reg none [
      ⟨(some 10), .mov (.t 0), none⟩,
      ⟨(some 11), .mov (.t 3), none⟩,
      ⟨(some 12), .iaS 65 (.t 10) (.t 11), none⟩,
      ⟨(some 13), .call 77 [(.t 12)], none⟩,
      ⟨(some 14), .un .not (.t 13), none⟩] (some [0, 3, 14]) none)
    (.cond (.t 14) (.seq (.reg none [
      ⟨(some 2), .mov (.c (.bool false)), none⟩] (some [2]) none)
    .ret)
    .skip)))
    (.reg none [
      ⟨(some 8), .mov (.t 3), none⟩,
      ⟨(some 9), .bin .add (.t 8) (.c (.int .i64 1)), none⟩,
      ⟨(some 3), .mov (.t 9), none⟩] (some [0, 3]) none)))
def spec_l01All_M : MC :=
  (.seq (.reg none [
      ⟨(some 2), .mov (.c (.bool false)), none⟩] (some [0]) none)
    (.seq (.seq (.reg none [
      ⟨(some 3), .mov (.c (.int .i64 0)), none⟩] (some [0, 3]) none)
    (.block 0 (.loop spec_l01All_L0)))
    (.seq (.reg none [
      ⟨(some 2), .mov (.c (.bool true)), none⟩] (some [2]) none)
    .ret)))
def spec_l01All_F : MF := ⟨15, [.t 2], spec_l01All_M⟩
theorem spec_l01All_ok : OkF Try.prog 87 spec_l01All_F Try.f87 (bodyOf Try.f87) := ⟨Try.func87, by kernel_rfl, by kernel_rfl, by kernel_rfl, by kernel_rfl⟩
-- loop.example/g01312/spec.l01Stack
def spec_l01Stack_L1 : MC :=
  (.seq (.seq (.reg none [
      ⟨(some 15), .mov (.t 5), none⟩,
      ⟨(some 16), .bin .lss (.t 15) (.c (.int .i64 64)), none⟩] (some [0, 2, 3, 4, 5, 16]) none)
    (.cond (.t 16) .skip
    (.exit 2)))
    (.seq (.block 3 (.reg (some []) [
      ⟨(some 19), .mov (.t 5), none⟩,
      ⟨(some 20), .fa 1 (.t 3), none⟩,
      ⟨(some 21), .iaA 64 1 (.t 20) (.t 19), none⟩,
      ⟨(some 22), .load none (.t 21), none⟩,
      ⟨(some 23), .mov (.t 0), none⟩,
      ⟨(some 24), .mov (.t 4), none⟩,
      ⟨(some 25), .mov (.t 5), none⟩,
      ⟨(some 26), .iaS 65 (.t 23) (.t 24), none⟩,
      ⟨(some 27), .fa 1 (.t 26), none⟩,
      ⟨(some 28), .iaA 64 1 (.t 27) (.t 25), none⟩,
      ⟨(some 29), .load none (.t 28), none⟩,
      ⟨(some 30), .bin .or (.t 22) (.t 29), none⟩,
      ⟨(some 31), .fa 1 (.t 3), none⟩,
      ⟨(some 32), .iaA 64 1 (.t 31) (.t 19), none⟩,
      ⟨none, .store 1 (.t 32) (.t 30), none⟩] (some [0, 2, 3, 4, 5]) none))
    (.reg none [
      ⟨(some 17), .mov (.t 5), none⟩,
      ⟨(some 18), .bin .add (.t 17) (.c (.int .i64 1)), none⟩,
      ⟨(some 5), .mov (.t 18), none⟩] (some [0, 2, 3, 4, 5]) none)))
def spec_l01Stack_L0 : MC :=
  (.seq (.seq (.reg none [
      ⟨(some 9), .mov (.t 4), none⟩,
      ⟨(some 10), .mov (.t 0), none⟩,
      ⟨(some 11), .lenS (.t 10), none⟩,
      ⟨(some 12), .bin .lss (.t 9) (.t 11), none⟩] (some [0, 2, 3, 4, 12]) none)
    (.cond (.t 12) .skip
    (.exit 0)))
    (.seq (.block 1 (.seq (.reg none [
      ⟨(some 5), .mov (.c (.int .i64 0)), none⟩] (some [0, 2, 3, 4, 5]) none)
    (.block 2 (.loop spec_l01Stack_L1))))
    (.reg none [
      ⟨(some 13), .mov (.t 4), none⟩,
      ⟨(some 14), .bin .add (.t 13) (.c (.int .i64 1)), none⟩,
      ⟨(some 4), .mov (.t 14), none⟩] (some [0, 2, 3, 4]) none)))
def spec_l01Stack_M : MC :=
  (.seq (.reg none [
      ⟨(some 2), .new (rl [(1, .int .i8 0), (64, .int .u8 0)]), none⟩] (some [0, 2]) none)
    (.seq (.reg none [
      ⟨(some 6), .mov (.t 0), none⟩,
      ⟨(some 7), .iaS 65 (.t 6) (.c (.int .i64 0)), none⟩,
      ⟨(some 8), .load (some 65) (.t 7), none⟩,
      ⟨(some 3), .new (rl [(1, .int .i8 0), (64, .int .u8 0)]), none⟩,
      ⟨none, .store 65 (.t 3) (.t 8), none⟩] (some [0, 2, 3]) none)
    (.seq (.seq (.reg none [
      ⟨(some 4), .mov (.c (.int .i64 1)), none⟩] (some [0, 2, 3, 4]) none)
    (.block 0 (.loop spec_l01Stack_L0)))
    (.seq (.reg none [
      ⟨(some 33), .load (some 65) (.t 3), none⟩,
      ⟨none, .store 65 (.t 2) (.t 33), none⟩] (some [2]) none)
    .ret))))
def spec_l01Stack_F : MF := ⟨34, [.c 2 (some 65)], spec_l01Stack_M⟩
theorem spec_l01Stack_ok : OkF Try.prog 88 spec_l01Stack_F Try.f88 (bodyOf Try.f88) := ⟨Try.func88, by kernel_rfl, by kernel_rfl, by kernel_rfl, by kernel_rfl⟩
-- loop.example/g01312/impl.layersCode
def impl_layersCode_M : MC :=
  (.seq (.reg none [
      ⟨(some 2), .mov (.c (.int .i64 0)), none⟩] (some [0]) none)
    (.seq (.reg none [
      ⟨(some 3), .mov (.t 0), none⟩,
      ⟨(some 4), .call 110 [(.t 3)], none⟩,
      ⟨(some 5), .un .not (.t 4), none⟩,
      ⟨(some 6), .bld [.bool false, .int .i64 0] [(0, 1, (.t 5)), (1, 1, (.c (.int .i64 1)))], none⟩,
      ⟨(some 7), .mov (.t 0), none⟩,
      ⟨(some 8), .lenS (.t 7), none⟩,
      ⟨(some 9), .call 63 [(.t 8), (.c (.int .i64 1)), (.c (.int .i64 8))], none⟩,
      ⟨(some 10), .un .not (.t 9), none⟩,
      ⟨(some 11), .bld [.bool false, .int .i64 0] [(0, 1, (.t 10)), (1, 1, (.c (.int .i64 2)))], none⟩,
      ⟨(some 12), .mov (.t 0), none⟩,
      ⟨(some 13), .lenS (.t 12), none⟩,
      ⟨(some 14), .bin .gtr (.t 13) (.c (.int .i64 0)), none⟩,
      ⟨(some 15), .mov (.t 14), none⟩,
      ⟨(some 16), .mov (.t 0), some (15, true)⟩,
      ⟨(some 17), .mov (.t 0), some (15, true)⟩,
      ⟨(some 18), .iaS 65 (.t 17) (.c (.int .i64 0)), some (15, true)⟩,
      ⟨(some 19), .fa 0 (.t 18), some (15, true)⟩,
      ⟨(some 20), .load none (.t 19), some (15, true)⟩,
      ⟨(some 21), .call 111 [(.t 16), (.t 20)], some (15, true)⟩,
      ⟨(some 22), .un .not (.t 21), some (15, true)⟩,
      ⟨(some 23), .pick (.t 15) (.t 22) (.c (.bool false)), none⟩,
      ⟨(some 24), .bld [.bool false, .int .i64 0] [(0, 1, (.t 23)), (1, 1, (.c (.int .i64 4)))], none⟩,
      ⟨(some 25), .bldS [.bool false, .int .i64 0] 3 [(0, 2, (.t 6)), (2, 2, (.t 11)), (4, 2, (.t 24))], none⟩,
      ⟨(some 26), .call 70 [(.t 25)], none⟩,
      ⟨(some 2), .mov (.t 26), none⟩] (some [2]) none)
    .ret))
def impl_layersCode_F : MF := ⟨27, [.t 2], impl_layersCode_M⟩
theorem impl_layersCode_ok : OkF Try.prog 89 impl_layersCode_F Try.f89 (bodyOf Try.f89) := ⟨Try.func89, by kernel_rfl, by kernel_rfl, by kernel_rfl, by kernel_rfl⟩
-- loop.example/g01312/impl.stack
def impl_stack_M : MC :=
  (.seq (.reg none [
      ⟨(some 1), .box (.t 0), none⟩,
      ⟨(some 2), .new (rl [(1, .int .i8 0), (64, .int .u8 0)]), none⟩] (some [1, 2]) none)
    (.seq (.reg none [
      ⟨(some 3), .load none (.t 1), none⟩,
      ⟨(some 4), .iaS 65 (.t 3) (.c (.int .i64 0)), none⟩,
      ⟨(some 5), .load (some 65) (.t 4), none⟩,
      ⟨(some 6), .mkf 112 [] [(.t 1)], none⟩,
      ⟨(some 7), .call 81 [(.t 5), (.t 6)], none⟩,
      ⟨none, .store 65 (.t 2) (.t 7), none⟩] (some [2]) none)
    .ret))
def impl_stack_F : MF := ⟨8, [.c 2 (some 65)], impl_stack_M⟩
theorem impl_stack_ok : OkF Try.prog 90 impl_stack_F Try.f90 (bodyOf Try.f90) := ⟨Try.func90, by kernel_rfl, by kernel_rfl, by kernel_rfl, by kernel_rfl⟩
-- loop.example/g01312/spec.ValidScheme
def spec_ValidScheme_M : MC :=
  (.seq (.reg none [
      ⟨(some 1), .box (.t 0), none⟩,
      ⟨(some 2), .mov (.c (.bool false)), none⟩] (some [1]) none)
    (.seq (.reg none [
      ⟨(some 3), .call 67 [(.t 1)], none⟩,
      ⟨(some 2), .mov (.t 3), none⟩] (some [2]) none)
    .ret))
def spec_ValidScheme_F : MF := ⟨4, [.t 2], spec_ValidScheme_M⟩
theorem spec_ValidScheme_ok : OkF Try.prog 91 spec_ValidScheme_F Try.f91 (bodyOf Try.f91) := ⟨Try.func91, by kernel_rfl, by kernel_rfl, by kernel_rfl, by kernel_rfl⟩
-- loop.example/g01312/spec.l03Cell
def spec_l03Cell_L0 : MC :=
  (.seq (.seq (.reg none [
      ⟨(some 11), .mov (.t 8), none⟩,
      ⟨(some 12), .mov (.t 0), none⟩,
      ⟨(some 13), .nilc (.t 12), none⟩,
      ⟨(some 14), .fa 0 (.t 13), none⟩,
      ⟨(some 15), .load none (.t 14), none⟩,
      ⟨(some 16), .conv .i64 (.t 15), none⟩,
      ⟨(some 17), .bin .lss (.t 11) (.t 16), none⟩] (some [0, 1, 2, 7, 8, 17]) none)
    (.cond (.t 17) .skip
    (.exit 0)))
    (.seq (.block 1 (.seq (.reg none [
      ⟨(some 20), .mov (.t 0), none⟩,
      ⟨(some 21), .mov (.t 8), none⟩,
      ⟨(some 22), .nilc (.t 20), none⟩,
      ⟨(some 23), .fa 2 (.t 22), none⟩,
      ⟨(some 24), .iaA 6 1 (.t 23) (.t 21), none⟩,
      ⟨(some 25), .load none (.t 24), none⟩,
      ⟨(some 9), .mov (.t 25), none⟩] (some [0, 1, 2, 7, 8, 9]) none)
    (.seq (.seq (.reg none [
      ⟨(some 26), .mov (.t 1), none⟩] (some [0, 1, 2, 7, 8, 9, 26]) none)
    (.cond (.t 26) (.reg none [
      ⟨(some 27), .mov (.t 0), none⟩,
      ⟨(some 28), .mov (.t 8), none⟩,
      ⟨(some 29), .nilc (.t 27), none⟩,
      ⟨(some 30), .fa 8 (.t 29), none⟩,
      ⟨(some 31), .iaA 6 1 (.t 30) (.t 28), none⟩,
      ⟨(some 32), .load none (.t 31), none⟩,
      ⟨(some 9), .mov (.t 32), none⟩] (some [0, 1, 2, 7, 8, 9]) none)
    .skip))
    (.reg none [
      ⟨(some 33), .mov (.t 7), none⟩,
      ⟨(some 34), .mov (.t 9), none⟩,
      ⟨(some 35), .mov (.t 2), none⟩,
      ⟨(some 36), .call 78 [(.t 34), (.t 35)], none⟩,
      ⟨(some 37), .bldS [.int .u8 0] 1 [(0, 1, (.t 36))], none⟩,
      ⟨(some 38), .app [.int .u8 0] 1 false (.t 33) (.t 37), none⟩,
      ⟨(some 7), .mov (.t 38), none⟩] (some [0, 1, 2, 7, 8]) none))))
    (.reg none [
      ⟨(some 18), .mov (.t 8), none⟩,
      ⟨(some 19), .bin .add (.t 18) (.c (.int .i64 1)), none⟩,
      ⟨(some 8), .mov (.t 19), none⟩] (some [0, 1, 2, 7, 8]) (some 1))))
def spec_l03Cell_M : MC :=
  (.seq (.reg none [
      ⟨(some 6), .mov (.c (.nilsl)), none⟩] (some [0, 1, 2]) none)
    (.seq (.reg none [
      ⟨(some 10), .bldS [.int .u8 0] 0 [], none⟩,
      ⟨(some 7), .mov (.t 10), none⟩] (some [0, 1, 2, 7]) none)
    (.seq (.seq (.reg none [
      ⟨(some 8), .mov (.c (.int .i64 0)), none⟩] (some [0, 1, 2, 7, 8]) none)
    (.block 0 (.loop spec_l03Cell_L0)))
    (.seq (.reg none [
      ⟨(some 39), .mov (.t 7), none⟩,
      ⟨(some 6), .mov (.t 39), none⟩] (some [6]) none)
    .ret))))
def spec_l03Cell_F : MF := ⟨40, [.t 6], spec_l03Cell_M⟩
theorem spec_l03Cell_ok : OkF Try.prog 92 spec_l03Cell_F Try.f92 (bodyOf Try.f92) := ⟨Try.func92, by kernel_rfl, by kernel_rfl, by kernel_rfl, by kernel_rfl⟩
-- (*loop.example/g01312/impl.Scheme).rows
def impl_Scheme_rows_M : MC :=
  (.seq (.reg none [
      ⟨(some 4), .mov (.c (.nilptr)), none⟩] (some [0, 1]) none)
    (.seq (.seq (.reg none [
      ⟨(some 5), .mov (.t 1), none⟩] (some [0, 5]) none)
    (.cond (.t 5) (.seq (.reg none [
      ⟨(some 6), .mov (.t 0), none⟩,
      ⟨(some 7), .nilc (.t 6), none⟩,
      ⟨(some 8), .fa 8 (.t 7), none⟩,
      ⟨(some 4), .mov (.t 8), none⟩] (some [4]) none)
    .ret)
    .skip))
    (.seq (.reg none [
      ⟨(some 9), .mov (.t 0), none⟩,
      ⟨(some 10), .nilc (.t 9), none⟩,
      ⟨(some 11), .fa 2 (.t 10), none⟩,
      ⟨(some 4), .mov (.t 11), none⟩] (some [4]) none)
    .ret)))
def impl_Scheme_rows_F : MF := ⟨12, [.t 4], impl_Scheme_rows_M⟩
theorem impl_Scheme_rows_ok : OkF Try.prog 93 impl_Scheme_rows_F Try.f93 (bodyOf Try.f93) := ⟨Try.func93, by kernel_rfl, by kernel_rfl, by kernel_rfl, by kernel_rfl⟩
-- loop.example/g01312/spec.l03Layers
def spec_l03Layers_L0 : MC :=
  (.seq (.seq (.reg none [
      ⟨(some 11), .mov (.t 3), none⟩,
      ⟨(some 12), .mov (.t 0), none⟩,
      ⟨(some 13), .lenS (.t 12), none⟩,
      ⟨(some 14), .bin .lss (.t 11) (.t 13), none⟩] (some [0, 3, 14]) none)
    (.cond (.t 14) .skip
    (.exit 0)))
    (.seq (.block 1 (.seq (.reg (some []) [
      ⟨(some 17), .mov (.t 0), none⟩,
      ⟨(some 18), .mov (.t 3), none⟩,
      ⟨(some 19), .iaS 65 (.t 17) (.t 18), none⟩,
      ⟨(some 20), .fa 0 (.t 19), none⟩,
      ⟨(some 21), .load none (.t 20), none⟩,
      ⟨(some 22), .mov (.t 0), none⟩,
      ⟨(some 23), .iaS 65 (.t 22) (.c (.int .i64 0)), none⟩,
      ⟨(some 24), .fa 0 (.t 23), none⟩,
      ⟨(some 25), .load none (.t 24), none⟩,
      ⟨(some 26), .bin .neq (.t 21) (.t 25), none⟩] (some [0, 3, 26]) none)
    (.cond (.t 26) (.seq (.reg none [
      ⟨(some 2), .mov (.c (.int .i64 4)), none⟩] (some [2]) none)
    .ret)
    .skip)))
    (.reg none [
      ⟨(some 15), .mov (.t 3), none⟩,
      ⟨(some 16), .bin .add (.t 15) (.c (.int .i64 1)), none⟩,
      ⟨(some 3), .mov (.t 16), none⟩] (some [0, 3]) none)))
def spec_l03Layers_M : MC :=
  (.seq (.reg none [
      ⟨(some 2), .mov (.c (.int .i64 0)), none⟩] (some [0]) none)
    (.seq (.seq (.reg none [
      ⟨(some 4), .mov (.t 0), none⟩,
      ⟨(some 5), .call 87 [(.t 4)], none⟩,
      ⟨(some 6), .un .not (.t 5), none⟩] (some [0, 6]) none)
    (.cond (.t 6) (.seq (.reg none [
      ⟨(some 2), .mov (.c (.int .i64 1)), none⟩] (some [2]) none)
    .ret)
    .skip))
    (.seq (.seq (.reg none [
      ⟨(some 7), .mov (.t 0), none⟩,
      ⟨(some 8), .lenS (.t 7), none⟩,
      ⟨(some 9), .call 61 [(.t 8), (.c (.int .i64 1)), (.c (.int .i64 8))], none⟩,
      ⟨(some 10), .un .not (.t 9), none⟩] (some [0, 10]) none)
    (.cond (.t 10) (.seq (.reg none [
      ⟨(some 2), .mov (.c (.int .i64 2)), none⟩] (some [2]) none)
    .ret)
    .skip))
    (.seq (.seq (.reg none [
      ⟨(some 3), .mov (.c (.int .i64 0)), none⟩] (some [0, 3]) none)
    (.block 0 (.loop spec_l03Layers_L0)))
    (.seq (.reg none [
      ⟨(some 2), .mov (.c (.int .i64 0)), none⟩] (some [2]) none)
    .ret)))))
def spec_l03Layers_F : MF := ⟨27, [.t 2], spec_l03Layers_M⟩
theorem spec_l03Layers_ok : OkF Try.prog 94 spec_l03Layers_F Try.f94 (bodyOf Try.f94) := ⟨Try.func94, by kernel_rfl, by kernel_rfl, by kernel_rfl, by kernel_rfl⟩
-- loop.example/g01312/spec.l03Stack
def spec_l03Stack_L0 : MC :=
  (.seq (.seq (.reg none [
      ⟨(some 8), .mov (.t 6), none⟩,
      ⟨(some 9), .mov (.t 0), none⟩,
      ⟨(some 10), .lenS (.t 9), none⟩,
      ⟨(some 11), .bin .lss (.t 8) (.t 10), none⟩] (some [0, 1, 4, 5, 6, 11]) none)
    (.cond (.t 11) .skip
    (.exit 0)))
    (.seq (.block 1 (.seq (.reg none [
      ⟨(some 14), .mov (.t 1), none⟩,
      ⟨(some 15), .mov (.t 6), none⟩,
      ⟨(some 16), .conv .u64 (.t 15), none⟩,
      ⟨(some 17), .bin .shr (.t 14) (.t 16), none⟩,
      ⟨(some 18), .bin .and (.t 17) (.c (.int .u8 1)), none⟩,
      ⟨(some 19), .bin .eql (.t 18) (.c (.int .u8 1)), none⟩] (some [0, 1, 4, 5, 6, 19]) none)
    (.cond (.t 19) (.reg none [
      ⟨(some 20), .mov (.t 5), none⟩,
      ⟨(some 21), .mov (.t 0), none⟩,
      ⟨(some 22), .mov (.t 6), none⟩,
      ⟨(some 23), .iaS 65 (.t 21) (.t 22), none⟩,
      ⟨(some 24), .load (some 65) (.t 23), none⟩,
      ⟨(some 25), .bldS (rl [(1, .int .i8 0), (64, .int .u8 0)]) 1 [(0, 65, (.t 24))], none⟩,
      ⟨(some 26), .app (rl [(1, .int .i8 0), (64, .int .u8 0)]) 65 false (.t 20) (.t 25), none⟩,
      ⟨(some 5), .mov (.t 26), none⟩] (some [0, 1, 4, 5, 6]) none)
    .skip)))
    (.reg none [
      ⟨(some 12), .mov (.t 6), none⟩,
      ⟨(some 13), .bin .add (.t 12) (.c (.int .i64 1)), none⟩,
      ⟨(some 6), .mov (.t 13), none⟩] (some [0, 1, 4, 5, 6]) none)))
def spec_l03Stack_M : MC :=
  (.seq (.reg none [
      ⟨(some 4), .new (rl [(1, .int .i8 0), (64, .int .u8 0)]), none⟩] (some [0, 1, 4]) none)
    (.seq (.reg none [
      ⟨(some 7), .bldS (rl [(1, .int .i8 0), (64, .int .u8 0)]) 0 [], none⟩,
      ⟨(some 5), .mov (.t 7), none⟩] (some [0, 1, 4, 5]) none)
    (.seq (.seq (.reg none [
      ⟨(some 6), .mov (.c (.int .i64 0)), none⟩] (some [0, 1, 4, 5, 6]) none)
    (.block 0 (.loop spec_l03Stack_L0)))
    (.seq (.reg none [
      ⟨(some 27), .mov (.t 5), none⟩,
      ⟨(some 28), .call 88 [(.t 27)], none⟩,
      ⟨none, .store 65 (.t 4) (.t 28), none⟩] (some [4]) none)
    .ret))))
def spec_l03Stack_F : MF := ⟨29, [.c 4 (some 65)], spec_l03Stack_M⟩
theorem spec_l03Stack_ok : OkF Try.prog 95 spec_l03Stack_F Try.f95 (bodyOf Try.f95) := ⟨Try.func95, by kernel_rfl, by kernel_rfl, by kernel_rfl, by kernel_rfl⟩
-- loop.example/g01312/impl.stackOf
def impl_stackOf_L0 : MC :=
  (.seq (.reg none [
      ⟨(some 12), .bin .lss (.t 11) (.t 10), none⟩] (some [1, 4, 5, 9, 10, 11, 12]) none)
    (.seq (.cond (.t 12) .skip
    (.exit 0))
    (.seq (.block 1 (.seq (.reg none [
      ⟨(some 13), .mov (.t 11), none⟩,
      ⟨(some 14), .iaS 65 (.t 9) (.t 11), none⟩,
      ⟨(some 15), .load (some 65) (.t 14), none⟩,
      ⟨(some 7), .new (rl [(1, .int .i8 0), (64, .int .u8 0)]), none⟩,
      ⟨(some 6), .mov (.t 13), none⟩,
      ⟨none, .store 65 (.t 7) (.t 15), none⟩] (some [1, 4, 5, 6, 7, 9, 10, 11]) none)
    (.seq (.reg none [
      ⟨(some 16), .mov (.t 1), none⟩,
      ⟨(some 17), .mov (.t 6), none⟩,
      ⟨(some 18), .bin .shr (.t 16) (.t 17), none⟩,
      ⟨(some 19), .bin .and (.t 18) (.c (.int .u8 1)), none⟩,
      ⟨(some 20), .bin .eql (.t 19) (.c (.int .u8 1)), none⟩] (some [1, 4, 5, 7, 9, 10, 11, 20]) none)
    (.cond (.t 20) (.reg none [
      ⟨(some 21), .mov (.t 5), none⟩,
      ⟨(some 22), .load (some 65) (.t 7), none⟩,
      ⟨(some 23), .bldS (rl [(1, .int .i8 0), (64, .int .u8 0)]) 1 [(0, 65, (.t 22))], none⟩,
      ⟨(some 24), .app (rl [(1, .int .i8 0), (64, .int .u8 0)]) 65 false (.t 21) (.t 23), none⟩,
      ⟨(some 5), .mov (.t 24), none⟩] (some [1, 4, 5, 9, 10, 11]) none)
    .skip))))
    (.reg none [
      ⟨(some 25), .bin .add (.t 11) (.c (.int .i64 1)), none⟩,
      ⟨(some 11), .mov (.t 25), none⟩] (some [1, 4, 5, 9, 10, 11]) (some 2)))))
def impl_stackOf_M : MC :=
  (.seq (.reg none [
      ⟨(some 4), .new (rl [(1, .int .i8 0), (64, .int .u8 0)]), none⟩] (some [0, 1, 4]) none)
    (.seq (.reg none [
      ⟨(some 8), .bldS (rl [(1, .int .i8 0), (64, .int .u8 0)]) 0 [], none⟩,
      ⟨(some 5), .mov (.t 8), none⟩] (some [0, 1, 4, 5]) none)
    (.seq (.seq (.reg none [
      ⟨(some 9), .mov (.t 0), none⟩,
      ⟨(some 10), .lenS (.t 9), none⟩,
      ⟨(some 11), .mov (.c (.int .i64 0)), none⟩] (some [1, 4, 5, 9, 10, 11]) none)
    (.block 0 (.loop impl_stackOf_L0)))
    (.seq (.reg none [
      ⟨(some 26), .mov (.t 5), none⟩,
      ⟨(some 27), .call 90 [(.t 26)], none⟩,
      ⟨none, .store 65 (.t 4) (.t 27), none⟩] (some [4]) none)
    .ret))))
def impl_stackOf_F : MF := ⟨28, [.c 4 (some 65)], impl_stackOf_M⟩
theorem impl_stackOf_ok : OkF Try.prog 96 impl_stackOf_F Try.f96 (bodyOf Try.f96) := ⟨Try.func96, by kernel_rfl, by kernel_rfl, by kernel_rfl, by kernel_rfl⟩
-- loop.example/g01312/spec.l02Least
def spec_l02Least_L1 : MC :=
  (.seq (.seq (.reg none [
      ⟨(some 18), .mov (.t 6), none⟩,
      ⟨(some 19), .mov (.t 4), none⟩,
      ⟨(some 20), .bin .lss (.t 18) (.t 19), none⟩] (some [0, 3, 4, 5, 6, 20]) none)
    (.cond (.t 20) .skip
    (.exit 2)))
    (.seq (.block 3 (.seq (.reg none [
      ⟨(some 23), .mov (.t 6), none⟩,
      ⟨(some 24), .mov (.t 4), none⟩,
      ⟨(some 25), .bin .andNot (.t 23) (.t 24), none⟩,
      ⟨(some 26), .bin .eql (.t 25) (.c (.int .i64 0)), none⟩,
      ⟨(some 27), .mov (.t 26), none⟩,
      ⟨(some 28), .mov (.t 0), some (27, true)⟩,
      ⟨(some 29), .mov (.t 6), some (27, true)⟩,
      ⟨(some 30), .conv .u64 (.t 29), some (27, true)⟩,
      ⟨(some 31), .bin .shr (.t 28) (.t 30), some (27, true)⟩,
      ⟨(some 32), .bin .and (.t 31) (.c (.int .u64 1)), some (27, true)⟩,
      ⟨(some 33), .bin .eql (.t 32) (.c (.int .u64 1)), some (27, true)⟩,
      ⟨(some 34), .pick (.t 27) (.t 33) (.c (.bool false)), none⟩] (some [0, 3, 4, 5, 6, 34]) none)
    (.cond (.t 34) (.reg none [
      ⟨(some 5), .mov (.c (.bool false)), none⟩] (some [0, 3, 4, 5, 6]) none)
    .skip)))
    (.reg none [
      ⟨(some 21), .mov (.t 6), none⟩,
      ⟨(some 22), .bin .add (.t 21) (.c (.int .i64 1)), none⟩,
      ⟨(some 6), .mov (.t 22), none⟩] (some [0, 3, 4, 5, 6]) none)))
def spec_l02Least_L0 : MC :=
  (.seq (.seq (.reg none [
      ⟨(some 8), .mov (.t 4), none⟩,
      ⟨(some 9), .bin .lss (.t 8) (.c (.int .i64 64)), none⟩] (some [0, 3, 4, 9]) none)
    (.cond (.t 9) .skip
    (.exit 0)))
    (.seq (.block 1 (.seq (.seq (.reg none [
      ⟨(some 12), .mov (.t 0), none⟩,
      ⟨(some 13), .mov (.t 4), none⟩,
      ⟨(some 14), .conv .u64 (.t 13), none⟩,
      ⟨(some 15), .bin .shr (.t 12) (.t 14), none⟩,
      ⟨(some 16), .bin .and (.t 15) (.c (.int .u64 1)), none⟩,
      ⟨(some 17), .bin .eql (.t 16) (.c (.int .u64 0)), none⟩] (some [0, 3, 4, 17]) none)
    (.cond (.t 17) (.exit 1)
    .skip))
    (.seq (.reg none [
      ⟨(some 5), .mov (.c (.bool true)), none⟩] (some [0, 3, 4, 5]) none)
    (.seq (.seq (.reg none [
      ⟨(some 6), .mov (.c (.int .i64 0)), none⟩] (some [0, 3, 4, 5, 6]) none)
    (.block 2 (.loop spec_l02Least_L1)))
    (.seq (.reg none [
      ⟨(some 35), .mov (.t 5), none⟩] (some [0, 3, 4, 35]) none)
    (.cond (.t 35) (.reg none [
      ⟨(some 36), .mov (.t 3), none⟩,
      ⟨(some 37), .mov (.t 4), none⟩,
      ⟨(some 38), .conv .u8 (.t 37), none⟩,
      ⟨(some 39), .bldS [.int .u8 0] 1 [(0, 1, (.t 38))], none⟩,
      ⟨(some 40), .app [.int .u8 0] 1 false (.t 36) (.t 39), none⟩,
      ⟨(some 3), .mov (.t 40), none⟩] (some [0, 3, 4]) none)
    .skip))))))
    (.reg none [
      ⟨(some 10), .mov (.t 4), none⟩,
      ⟨(some 11), .bin .add (.t 10) (.c (.int .i64 1)), none⟩,
      ⟨(some 4), .mov (.t 11), none⟩] (some [0, 3, 4]) none)))
def spec_l02Least_M : MC :=
  (.seq (.reg none [
      ⟨(some 2), .mov (.c (.nilsl)), none⟩] (some [0]) none)
    (.seq (.reg none [
      ⟨(some 7), .bldS [.int .u8 0] 0 [], none⟩,
      ⟨(some 3), .mov (.t 7), none⟩] (some [0, 3]) none)
    (.seq (.seq (.reg none [
      ⟨(some 4), .mov (.c (.int .i64 0)), none⟩] (some [0, 3, 4]) none)
    (.block 0 (.loop spec_l02Least_L0)))
    (.seq (.reg none [
      ⟨(some 41), .mov (.t 3), none⟩,
      ⟨(some 2), .mov (.t 41), none⟩] (some [2]) none)
    .ret))))
def spec_l02Least_F : MF := ⟨42, [.t 2], spec_l02Least_M⟩
theorem spec_l02Least_ok : OkF Try.prog 97 spec_l02Least_F Try.f97 (bodyOf Try.f97) := ⟨Try.func97, by kernel_rfl, by kernel_rfl, by kernel_rfl, by kernel_rfl⟩
-- loop.example/g01312/impl.leastSets
def impl_leastSets_L1 : MC :=
  (.seq (.reg none [
      ⟨(some 18), .bin .lss (.t 17) (.t 16), none⟩] (some [0, 3, 4, 5, 8, 16, 17, 18]) none)
    (.seq (.cond (.t 18) .skip
    (.exit 2))
    (.seq (.block 3 (.seq (.reg none [
      ⟨(some 19), .mov (.t 17), none⟩,
      ⟨(some 6), .mov (.t 19), none⟩] (some [0, 3, 4, 5, 6, 8, 16, 17]) none)
    (.seq (.reg none [
      ⟨(some 20), .mov (.t 6), none⟩,
      ⟨(some 21), .mov (.t 4), none⟩,
      ⟨(some 22), .bin .andNot (.t 20) (.t 21), none⟩,
      ⟨(some 23), .bin .eql (.t 22) (.c (.int .i64 0)), none⟩,
      ⟨(some 24), .mov (.t 23), none⟩,
      ⟨(some 25), .mov (.t 0), some (24, true)⟩,
      ⟨(some 26), .mov (.t 6), some (24, true)⟩,
      ⟨(some 27), .bin .shr (.t 25) (.t 26), some (24, true)⟩,
      ⟨(some 28), .bin .and (.t 27) (.c (.int .u64 1)), some (24, true)⟩,
      ⟨(some 29), .bin .eql (.t 28) (.c (.int .u64 1)), some (24, true)⟩,
      ⟨(some 30), .pick (.t 24) (.t 29) (.c (.bool false)), none⟩] (some [0, 3, 4, 5, 8, 16, 17, 30]) none)
    (.cond (.t 30) (.reg none [
      ⟨(some 5), .mov (.c (.bool false)), none⟩] (some [0, 3, 4, 5, 8, 16, 17]) none)
    .skip))))
    (.reg none [
      ⟨(some 31), .bin .add (.t 17) (.c (.int .i64 1)), none⟩,
      ⟨(some 17), .mov (.t 31), none⟩] (some [0, 3, 4, 5, 8, 16, 17]) none))))
def impl_leastSets_L0 : MC :=
  (.seq (.reg none [
      ⟨(some 9), .bin .lss (.t 8) (.c (.int .i64 64)), none⟩] (some [0, 3, 8, 9]) none)
    (.seq (.cond (.t 9) .skip
    (.exit 0))
    (.seq (.block 1 (.seq (.reg none [
      ⟨(some 10), .mov (.t 8), none⟩,
      ⟨(some 4), .mov (.t 10), none⟩] (some [0, 3, 4, 8]) none)
    (.seq (.seq (.reg none [
      ⟨(some 11), .mov (.t 0), none⟩,
      ⟨(some 12), .mov (.t 4), none⟩,
      ⟨(some 13), .bin .shr (.t 11) (.t 12), none⟩,
      ⟨(some 14), .bin .and (.t 13) (.c (.int .u64 1)), none⟩,
      ⟨(some 15), .bin .eql (.t 14) (.c (.int .u64 0)), none⟩] (some [0, 3, 4, 8, 15]) none)
    (.cond (.t 15) (.exit 1)
    .skip))
    (.seq (.reg none [
      ⟨(some 5), .mov (.c (.bool true)), none⟩] (some [0, 3, 4, 5, 8]) none)
    (.seq (.seq (.reg none [
      ⟨(some 16), .mov (.t 4), none⟩,
      ⟨(some 17), .mov (.c (.int .i64 0)), none⟩] (some [0, 3, 4, 5, 8, 16, 17]) none)
    (.block 2 (.loop impl_leastSets_L1)))
    (.seq (.reg none [
      ⟨(some 32), .mov (.t 5), none⟩] (some [0, 3, 4, 8, 32]) none)
    (.cond (.t 32) (.reg none [
      ⟨(some 33), .mov (.t 3), none⟩,
      ⟨(some 34), .mov (.t 4), none⟩,
      ⟨(some 35), .conv .u8 (.t 34), none⟩,
      ⟨(some 36), .bldS [.int .u8 0] 1 [(0, 1, (.t 35))], none⟩,
      ⟨(some 37), .app [.int .u8 0] 1 false (.t 33) (.t 36), none⟩,
      ⟨(some 3), .mov (.t 37), none⟩] (some [0, 3, 8]) none)
    .skip)))))))
    (.reg none [
      ⟨(some 38), .bin .add (.t 8) (.c (.int .i64 1)), none⟩,
      ⟨(some 8), .mov (.t 38), none⟩] (some [0, 3, 8]) none))))
def impl_leastSets_M : MC :=
  (.seq (.reg none [
      ⟨(some 2), .mov (.c (.nilsl)), none⟩] (some [0]) none)
    (.seq (.reg none [
      ⟨(some 7), .bldS [.int .u8 0] 0 [], none⟩,
      ⟨(some 3), .mov (.t 7), none⟩] (some [0, 3]) none)
    (.seq (.seq (.reg none [
      ⟨(some 8), .mov (.c (.int .i64 0)), none⟩] (some [0, 3, 8]) none)
    (.block 0 (.loop impl_leastSets_L0)))
    (.seq (.reg none [
      ⟨(some 39), .mov (.t 3), none⟩,
      ⟨(some 2), .mov (.t 39), none⟩] (some [2]) none)
    .ret))))
def impl_leastSets_F : MF := ⟨40, [.t 2], impl_leastSets_M⟩
theorem impl_leastSets_ok : OkF Try.prog 98 impl_leastSets_F Try.f98 (bodyOf Try.f98) := ⟨Try.func98, by kernel_rfl, by kernel_rfl, by kernel_rfl, by kernel_rfl⟩
-- loop.example/g01312/spec.l03Number
def spec_l03Number_M : MC :=
  (.seq (.reg none [
      ⟨(some 4), .mov (.c (.int .i64 0)), none⟩,
      ⟨(some 5), .mov (.c (.int .u32 0)), none⟩] (some [0, 1]) none)
    (.seq (.reg none [
      ⟨(some 6), .mov (.t 0), none⟩,
      ⟨(some 7), .bin .mul (.c (.int .u32 1664525)) (.t 6), none⟩,
      ⟨(some 8), .bin .add (.t 7) (.c (.int .u32 1013904223)), none⟩,
      ⟨(some 0), .mov (.t 8), none⟩] (some [0, 1]) none)
    (.seq (.reg none [
      ⟨(some 9), .mov (.t 0), none⟩,
      ⟨(some 10), .bin .shr (.t 9) (.c (.int .u64 16)), none⟩,
      ⟨(some 11), .conv .i64 (.t 10), none⟩,
      ⟨(some 12), .mov (.t 1), none⟩,
      ⟨(some 13), .bin .rem (.t 11) (.t 12), none⟩,
      ⟨(some 14), .mov (.t 0), none⟩,
      ⟨(some 4), .mov (.t 13), none⟩,
      ⟨(some 5), .mov (.t 14), none⟩] (some [4, 5]) none)
    .ret)))
def spec_l03Number_F : MF := ⟨15, [.t 4, .t 5], spec_l03Number_M⟩
theorem spec_l03Number_ok : OkF Try.prog 99 spec_l03Number_F Try.f99 (bodyOf Try.f99) := ⟨Try.func99, by kernel_rfl, by kernel_rfl, by kernel_rfl, by kernel_rfl⟩
-- loop.example/g01312/impl.draw
def impl_draw_M : MC :=
  (.seq (.reg none [
      ⟨(some 4), .mov (.c (.int .i64 0)), none⟩] (some [0, 1]) none)
    (.seq (.reg none [
      ⟨(some 5), .mov (.t 0), none⟩,
      ⟨(some 6), .mov (.t 0), none⟩,
      ⟨(some 7), .nilc (.t 6), none⟩,
      ⟨(some 8), .load none (.t 7), none⟩,
      ⟨(some 9), .bin .mul (.c (.int .u32 1664525)) (.t 8), none⟩,
      ⟨(some 10), .bin .add (.t 9) (.c (.int .u32 1013904223)), none⟩,
      ⟨(some 11), .nilc (.t 5), none⟩,
      ⟨none, .store 1 (.t 11) (.t 10), none⟩] (some [0, 1]) none)
    (.seq (.reg none [
      ⟨(some 12), .mov (.t 0), none⟩,
      ⟨(some 13), .nilc (.t 12), none⟩,
      ⟨(some 14), .load none (.t 13), none⟩,
      ⟨(some 15), .bin .shr (.t 14) (.c (.int .u64 16)), none⟩,
      ⟨(some 16), .conv .i64 (.t 15), none⟩,
      ⟨(some 17), .mov (.t 1), none⟩,
      ⟨(some 18), .bin .rem (.t 16) (.t 17), none⟩,
      ⟨(some 4), .mov (.t 18), none⟩] (some [4]) none)
    .ret)))
def impl_draw_F : MF := ⟨19, [.t 4], impl_draw_M⟩
theorem impl_draw_ok : OkF Try.prog 100 impl_draw_F Try.f100 (bodyOf Try.f100) := ⟨Try.func100, by kernel_rfl, by kernel_rfl, by kernel_rfl, by kernel_rfl⟩
-- math/bits.OnesCount32
def math_bits_OnesCount32_M : MC :=
  (.seq (.reg none [
      ⟨(some 2), .mov (.c (.int .i64 0)), none⟩] (some [0]) none)
    (.seq (.reg (some []) [
      ⟨(some 3), .mov (.t 0), none⟩,
      ⟨(some 4), .bin .shr (.t 3) (.c (.int .u64 24)), none⟩,
      ⟨(some 5), .ixS (.c (.str ⟨[0, 1, 1, 2, 1, 2, 2, 3, 1, 2, 2, 3, 2, 3, 3, 4, 1, 2, 2, 3, 2, 3, 3, 4, 2, 3, 3, 4, 3, 4, 4, 5, 1, 2, 2, 3, 2, 3, 3, 4, 2, 3, 3, 4, 3, 4, 4, 5, 2, 3, 3, 4, 3, 4, 4, 5, 3, 4, 4, 5, 4, 5, 5, 6, 1, 2, 2, 3, 2, 3, 3, 4, 2, 3, 3, 4, 3, 4, 4, 5, 2, 3, 3, 4, 3, 4, 4, 5, 3, 4, 4, 5, 4, 5, 5, 6, 2, 3, 3, 4, 3, 4, 4, 5, 3, 4, 4, 5, 4, 5, 5, 6, 3, 4, 4, 5, 4, 5, 5, 6, 4, 5, 5, 6, 5, 6, 6, 7, 1, 2, 2, 3, 2, 3, 3, 4, 2, 3, 3, 4, 3, 4, 4, 5, 2, 3, 3, 4, 3, 4, 4, 5, 3, 4, 4, 5, 4, 5, 5, 6, 2, 3, 3, 4, 3, 4, 4, 5, 3, 4, 4, 5, 4, 5, 5, 6, 3, 4, 4, 5, 4, 5, 5, 6, 4, 5, 5, 6, 5, 6, 6, 7, 2, 3, 3, 4, 3, 4, 4, 5, 3, 4, 4, 5, 4, 5, 5, 6, 3, 4, 4, 5, 4, 5, 5, 6, 4, 5, 5, 6, 5, 6, 6, 7, 3, 4, 4, 5, 4, 5, 5, 6, 4, 5, 5, 6, 5, 6, 6, 7, 4, 5, 5, 6, 5, 6, 6, 7, 5, 6, 6, 7, 6, 7, 7, 8].toArray⟩)) (.t 4), none⟩,
      ⟨(some 6), .mov (.t 0), none⟩,
      ⟨(some 7), .bin .shr (.t 6) (.c (.int .u64 16)), none⟩,
      ⟨(some 8), .bin .and (.t 7) (.c (.int .u32 255)), none⟩,
      ⟨(some 9), .ixS (.c (.str ⟨[0, 1, 1, 2, 1, 2, 2, 3, 1, 2, 2, 3, 2, 3, 3, 4, 1, 2, 2, 3, 2, 3, 3, 4, 2, 3, 3, 4, 3, 4, 4, 5, 1, 2, 2, 3, 2, 3, 3, 4, 2, 3, 3, 4, 3, 4, 4, 5, 2, 3, 3, 4, 3, 4, 4, 5, 3, 4, 4, 5, 4, 5, 5, 6, 1, 2, 2, 3, 2, 3, 3, 4, 2, 3, 3, 4, 3, 4, 4, 5, 2, 3, 3, 4, 3, 4, 4, 5, 3, 4, 4, 5, 4, 5, 5, 6, 2, 3, 3, 4, 3, 4, 4, 5, 3, 4, 4, 5, 4, 5, 5, 6, 3, 4, 4, 5, 4, 5, 5, 6, 4, 5, 5, 6, 5, 6, 6, 7, 1, 2, 2, 3, 2, 3, 3, 4, 2, 3, 3, 4, 3, 4, 4, 5, 2, 3, 3, 4, 3, 4, 4, 5, 3, 4, 4, 5, 4, 5, 5, 6, 2, 3, 3, 4, 3, 4, 4, 5, 3, 4, 4, 5, 4, 5, 5, 6, 3, 4, 4, 5, 4, 5, 5, 6, 4, 5, 5, 6, 5, 6, 6, 7, 2, 3, 3, 4, 3, 4, 4, 5, 3, 4, 4, 5, 4, 5, 5, 6, 3, 4, 4, 5, 4, 5, 5, 6, 4, 5, 5, 6, 5, 6, 6, 7, 3, 4, 4, 5, 4, 5, 5, 6, 4, 5, 5, 6, 5, 6, 6, 7, 4, 5, 5, 6, 5, 6, 6, 7, 5, 6, 6, 7, 6, 7, 7, 8].toArray⟩)) (.t 8), none⟩,
      ⟨(some 10), .bin .add (.t 5) (.t 9), none⟩,
      ⟨(some 11), .mov (.t 0), none⟩,
      ⟨(some 12), .bin .shr (.t 11) (.c (.int .u64 8)), none⟩,
      ⟨(some 13), .bin .and (.t 12) (.c (.int .u32 255)), none⟩,
      ⟨(some 14), .ixS (.c (.str ⟨[0, 1, 1, 2, 1, 2, 2, 3, 1, 2, 2, 3, 2, 3, 3, 4, 1, 2, 2, 3, 2, 3, 3, 4, 2, 3, 3, 4, 3, 4, 4, 5, 1, 2, 2, 3, 2, 3, 3, 4, 2, 3, 3, 4, 3, 4, 4, 5, 2, 3, 3, 4, 3, 4, 4, 5, 3, 4, 4, 5, 4, 5, 5, 6, 1, 2, 2, 3, 2, 3, 3, 4, 2, 3, 3, 4, 3, 4, 4, 5, 2, 3, 3, 4, 3, 4, 4, 5, 3, 4, 4, 5, 4, 5, 5, 6, 2, 3, 3, 4, 3, 4, 4, 5, 3, 4, 4, 5, 4, 5, 5, 6, 3, 4, 4, 5, 4, 5, 5, 6, 4, 5, 5, 6, 5, 6, 6, 7, 1, 2, 2, 3, 2, 3, 3, 4, 2, 3, 3, 4, 3, 4, 4, 5, 2, 3, 3, 4, 3, 4, 4, 5, 3, 4, 4, 5, 4, 5, 5, 6, 2, 3, 3, 4, 3, 4, 4, 5, 3, 4, 4, 5, 4, 5, 5, 6, 3, 4, 4, 5, 4, 5, 5, 6, 4, 5, 5, 6, 5, 6, 6, 7, 2, 3, 3, 4, 3, 4, 4, 5, 3, 4, 4, 5, 4, 5, 5, 6, 3, 4, 4, 5, 4, 5, 5, 6, 4, 5, 5, 6, 5, 6, 6, 7, 3, 4, 4, 5, 4, 5, 5, 6, 4, 5, 5, 6, 5, 6, 6, 7, 4, 5, 5, 6, 5, 6, 6, 7, 5, 6, 6, 7, 6, 7, 7, 8].toArray⟩)) (.t 13), none⟩,
      ⟨(some 15), .bin .add (.t 10) (.t 14), none⟩,
      ⟨(some 16), .mov (.t 0), none⟩,
      ⟨(some 17), .bin .and (.t 16) (.c (.int .u32 255)), none⟩,
      ⟨(some 18), .ixS (.c (.str ⟨[0, 1, 1, 2, 1, 2, 2, 3, 1, 2, 2, 3, 2, 3, 3, 4, 1, 2, 2, 3, 2, 3, 3, 4, 2, 3, 3, 4, 3, 4, 4, 5, 1, 2, 2, 3, 2, 3, 3, 4, 2, 3, 3, 4, 3, 4, 4, 5, 2, 3, 3, 4, 3, 4, 4, 5, 3, 4, 4, 5, 4, 5, 5, 6, 1, 2, 2, 3, 2, 3, 3, 4, 2, 3, 3, 4, 3, 4, 4, 5, 2, 3, 3, 4, 3, 4, 4, 5, 3, 4, 4, 5, 4, 5, 5, 6, 2, 3, 3, 4, 3, 4, 4, 5, 3, 4, 4, 5, 4, 5, 5, 6, 3, 4, 4, 5, 4, 5, 5, 6, 4, 5, 5, 6, 5, 6, 6, 7, 1, 2, 2, 3, 2, 3, 3, 4, 2, 3, 3, 4, 3, 4, 4, 5, 2, 3, 3, 4, 3, 4, 4, 5, 3, 4, 4, 5, 4, 5, 5, 6, 2, 3, 3, 4, 3, 4, 4, 5, 3, 4, 4, 5, 4, 5, 5, 6, 3, 4, 4, 5, 4, 5, 5, 6, 4, 5, 5, 6, 5, 6, 6, 7, 2, 3, 3, 4, 3, 4, 4, 5, 3, 4, 4, 5, 4, 5, 5, 6, 3, 4, 4, 5, 4, 5, 5, 6, 4, 5, 5, 6, 5, 6, 6, 7, 3, 4, 4, 5, 4, 5, 5, 6, 4, 5, 5, 6, 5, 6, 6, 7, 4, 5, 5, 6, 5, 6, 6, 7, 5, 6, 6, 7, 6, 7, 7, 8].toArray⟩)) (.t 17), none⟩,
      ⟨(some 19), .bin .add (.t 15) (.t 18), none⟩,
      ⟨(some 20), .conv .i64 (.t 19), none⟩,
      ⟨(some 2), .mov (.t 20), none⟩] (some [2]) none)
    .ret))
def math_bits_OnesCount32_F : MF := ⟨21, [.t 2], math_bits_OnesCount32_M⟩
theorem math_bits_OnesCount32_ok : OkF Try.prog 101 math_bits_OnesCount32_F Try.f101 (bodyOf Try.f101) := ⟨Try.func101, by kernel_rfl, by kernel_rfl, by kernel_rfl, by kernel_rfl⟩
-- loop.example/g01312/impl.mask
def impl_mask_M : MC :=
  (.seq (.reg none [
      ⟨(some 2), .mov (.c (.int .u8 0)), none⟩] (some [0]) none)
    (.seq (.reg none [
      ⟨(some 3), .mov (.t 0), none⟩,
      ⟨(some 4), .bin .shl (.c (.int .u8 1)) (.t 3), none⟩,
      ⟨(some 5), .bin .sub (.t 4) (.c (.int .u8 1)), none⟩,
      ⟨(some 2), .mov (.t 5), none⟩] (some [2]) none)
    .ret))
def impl_mask_F : MF := ⟨6, [.t 2], impl_mask_M⟩
theorem impl_mask_ok : OkF Try.prog 102 impl_mask_F Try.f102 (bodyOf Try.f102) := ⟨Try.func102, by kernel_rfl, by kernel_rfl, by kernel_rfl, by kernel_rfl⟩
-- loop.example/g01312/spec.l02Column
def spec_l02Column_L0 : MC :=
  (.seq (.seq (.reg none [
      ⟨(some 15), .mov (.t 11), none⟩,
      ⟨(some 16), .bin .lss (.t 15) (.c (.int .i64 6)), none⟩] (some [1, 3, 9, 10, 11, 16]) none)
    (.cond (.t 16) .skip
    (.exit 0)))
    (.seq (.block 1 (.reg none [
      ⟨(some 19), .mov (.t 10), none⟩,
      ⟨(some 20), .mov (.t 11), none⟩,
      ⟨(some 21), .iaA 6 1 (.t 9) (.t 20), none⟩,
      ⟨(some 22), .load none (.t 21), none⟩,
      ⟨(some 23), .mov (.t 3), none⟩,
      ⟨(some 24), .conv .u64 (.t 23), none⟩,
      ⟨(some 25), .bin .shr (.t 22) (.t 24), none⟩,
      ⟨(some 26), .bin .and (.t 25) (.c (.int .u8 1)), none⟩,
      ⟨(some 27), .mov (.t 11), none⟩,
      ⟨(some 28), .conv .u64 (.t 27), none⟩,
      ⟨(some 29), .bin .shl (.t 26) (.t 28), none⟩,
      ⟨(some 30), .bin .or (.t 19) (.t 29), none⟩,
      ⟨(some 10), .mov (.t 30), none⟩] (some [1, 3, 9, 10, 11]) none))
    (.reg none [
      ⟨(some 17), .mov (.t 11), none⟩,
      ⟨(some 18), .bin .add (.t 17) (.c (.int .i64 1)), none⟩,
      ⟨(some 11), .mov (.t 18), none⟩] (some [1, 3, 9, 10, 11]) none)))
def spec_l02Column_M : MC :=
  (.seq (.reg none [
      ⟨(some 8), .mov (.c (.int .u8 0)), none⟩] (some [0, 1, 2, 3]) none)
    (.seq (.reg none [
      ⟨(some 12), .mov (.t 0), none⟩,
      ⟨(some 13), .mov (.t 2), none⟩,
      ⟨(some 14), .call 113 [(.t 12), (.t 13)], none⟩,
      ⟨(some 9), .new (rl [(6, .int .u8 0)]), none⟩,
      ⟨none, .store 6 (.t 9) (.t 14), none⟩] (some [1, 3, 9]) none)
    (.seq (.reg none [
      ⟨(some 10), .mov (.c (.int .u8 0)), none⟩] (some [1, 3, 9, 10]) none)
    (.seq (.seq (.reg none [
      ⟨(some 11), .mov (.c (.int .i64 0)), none⟩] (some [1, 3, 9, 10, 11]) none)
    (.block 0 (.loop spec_l02Column_L0)))
    (.seq (.reg none [
      ⟨(some 31), .mov (.t 10), none⟩,
      ⟨(some 32), .mov (.t 1), none⟩,
      ⟨(some 33), .bin .and (.t 31) (.t 32), none⟩,
      ⟨(some 8), .mov (.t 33), none⟩] (some [8]) none)
    .ret)))))
def spec_l02Column_F : MF := ⟨34, [.t 8], spec_l02Column_M⟩
theorem spec_l02Column_ok : OkF Try.prog 103 spec_l02Column_F Try.f103 (bodyOf Try.f103) := ⟨Try.func103, by kernel_rfl, by kernel_rfl, by kernel_rfl, by kernel_rfl⟩
-- (loop.example/g01312/impl.Scheme).isSet
def impl_Scheme_isSet_M : MC :=
  (.seq (.reg none [
      ⟨(some 2), .box (.t 0), none⟩,
      ⟨(some 4), .mov (.c (.bool false)), none⟩] (some [1, 2]) none)
    (.seq (.reg none [
      ⟨(some 5), .fa 0 (.t 2), none⟩,
      ⟨(some 6), .load none (.t 5), none⟩,
      ⟨(some 7), .bin .geq (.t 6) (.c (.int .i8 0)), none⟩,
      ⟨(some 8), .mov (.t 7), none⟩,
      ⟨(some 9), .mov (.t 1), some (8, true)⟩,
      ⟨(some 10), .load (some 14) (.t 2), some (8, true)⟩,
      ⟨(some 11), .call 114 [(.t 10)], some (8, true)⟩,
      ⟨(some 12), .bin .andNot (.t 9) (.t 11), some (8, true)⟩,
      ⟨(some 13), .bin .eql (.t 12) (.c (.int .u8 0)), some (8, true)⟩,
      ⟨(some 14), .pick (.t 8) (.t 13) (.c (.bool false)), none⟩,
      ⟨(some 4), .mov (.t 14), none⟩] (some [4]) none)
    .ret))
def impl_Scheme_isSet_F : MF := ⟨15, [.t 4], impl_Scheme_isSet_M⟩
theorem impl_Scheme_isSet_ok : OkF Try.prog 104 impl_Scheme_isSet_F Try.f104 (bodyOf Try.f104) := ⟨Try.func104, by kernel_rfl, by kernel_rfl, by kernel_rfl, by kernel_rfl⟩
-- loop.example/g01312/impl.columnsOf
def impl_columnsOf_L1 : MC :=
  (.seq (.reg none [
      ⟨(some 28), .bin .lss (.t 27) (.t 26), none⟩] (some [2, 7, 8, 9, 13, 14, 15, 26, 27, 28]) none)
    (.seq (.cond (.t 28) .skip
    (.exit 2))
    (.seq (.block 3 (.seq (.reg none [
      ⟨(some 29), .mov (.t 27), none⟩,
      ⟨(some 10), .mov (.t 29), none⟩] (some [2, 7, 8, 9, 10, 13, 14, 15, 26, 27]) none)
    (.reg (some []) [
      ⟨(some 30), .mov (.t 7), none⟩,
      ⟨(some 31), .mov (.t 10), none⟩,
      ⟨(some 32), .iaS 1 (.t 30) (.t 31), none⟩,
      ⟨(some 33), .load none (.t 32), none⟩,
      ⟨(some 34), .mov (.t 9), none⟩,
      ⟨(some 35), .mov (.t 10), none⟩,
      ⟨(some 36), .bin .shr (.t 34) (.t 35), none⟩,
      ⟨(some 37), .bin .and (.t 36) (.c (.int .u8 1)), none⟩,
      ⟨(some 38), .mov (.t 8), none⟩,
      ⟨(some 39), .bin .shl (.t 37) (.t 38), none⟩,
      ⟨(some 40), .bin .or (.t 33) (.t 39), none⟩,
      ⟨(some 41), .iaS 1 (.t 30) (.t 31), none⟩,
      ⟨none, .store 1 (.t 41) (.t 40), none⟩] (some [2, 7, 8, 9, 13, 14, 15, 26, 27]) none)))
    (.reg none [
      ⟨(some 42), .bin .add (.t 27) (.c (.int .i64 1)), none⟩,
      ⟨(some 27), .mov (.t 42), none⟩] (some [2, 7, 8, 9, 13, 14, 15, 26, 27]) none))))
def impl_columnsOf_L0 : MC :=
  (.seq (.reg none [
      ⟨(some 16), .bin .lss (.t 15) (.t 14), none⟩] (some [2, 7, 13, 14, 15, 16]) none)
    (.seq (.cond (.t 16) .skip
    (.exit 0))
    (.seq (.block 1 (.seq (.reg none [
      ⟨(some 17), .mov (.t 15), none⟩,
      ⟨(some 18), .iaS 1 (.t 13) (.t 15), none⟩,
      ⟨(some 19), .load none (.t 18), none⟩,
      ⟨(some 8), .mov (.t 17), none⟩,
      ⟨(some 9), .mov (.t 19), none⟩] (some [2, 7, 8, 9, 13, 14, 15]) none)
    (.seq (.seq (.reg none [
      ⟨(some 20), .mov (.t 2), none⟩,
      ⟨(some 21), .mov (.t 8), none⟩,
      ⟨(some 22), .bin .shr (.t 20) (.t 21), none⟩,
      ⟨(some 23), .bin .and (.t 22) (.c (.int .u8 1)), none⟩,
      ⟨(some 24), .bin .eql (.t 23) (.c (.int .u8 0)), none⟩] (some [2, 7, 8, 9, 13, 14, 15, 24]) none)
    (.cond (.t 24) (.exit 1)
    .skip))
    (.seq (.reg none [
      ⟨(some 25), .mov (.t 7), none⟩,
      ⟨(some 26), .lenS (.t 25), none⟩,
      ⟨(some 27), .mov (.c (.int .i64 0)), none⟩] (some [2, 7, 8, 9, 13, 14, 15, 26, 27]) none)
    (.block 2 (.loop impl_columnsOf_L1))))))
    (.reg none [
      ⟨(some 43), .bin .add (.t 15) (.c (.int .i64 1)), none⟩,
      ⟨(some 15), .mov (.t 43), none⟩] (some [2, 7, 13, 14, 15]) none))))
def impl_columnsOf_M : MC :=
  (.seq (.reg none [
      ⟨(some 6), .mov (.c (.nilsl)), none⟩] (some [0, 1, 2]) none)
    (.seq (.reg none [
      ⟨(some 11), .mov (.t 1), none⟩,
      ⟨(some 12), .mks [.int .u8 0] 1 (.t 11) (.t 11), none⟩,
      ⟨(some 7), .mov (.t 12), none⟩] (some [0, 2, 7]) none)
    (.seq (.seq (.reg none [
      ⟨(some 13), .mov (.t 0), none⟩,
      ⟨(some 14), .lenS (.t 13), none⟩,
      ⟨(some 15), .mov (.c (.int .i64 0)), none⟩] (some [2, 7, 13, 14, 15]) none)
    (.block 0 (.loop impl_columnsOf_L0)))
    (.seq (.reg none [
      ⟨(some 44), .mov (.t 7), none⟩,
      ⟨(some 6), .mov (.t 44), none⟩] (some [6]) none)
    .ret))))
def impl_columnsOf_F : MF := ⟨45, [.t 6], impl_columnsOf_M⟩
theorem impl_columnsOf_ok : OkF Try.prog 105 impl_columnsOf_F Try.f105 (bodyOf Try.f105) := ⟨Try.func105, by kernel_rfl, by kernel_rfl, by kernel_rfl, by kernel_rfl⟩
-- loop.example/g01312/spec.l02Gap
def spec_l02Gap_M : MC :=
  (.seq (.reg none [
      ⟨(some 4), .mov (.c (.int .i64 0)), none⟩] (some [0, 1]) none)
    (.seq (.reg none [
      ⟨(some 5), .mov (.t 0), none⟩,
      ⟨(some 6), .mov (.t 1), none⟩,
      ⟨(some 7), .call 115 [(.t 5), (.t 6), (.c (.bool true))], none⟩,
      ⟨(some 8), .mov (.t 0), none⟩,
      ⟨(some 9), .mov (.t 1), none⟩,
      ⟨(some 10), .call 115 [(.t 8), (.t 9), (.c (.bool false))], none⟩,
      ⟨(some 11), .bin .sub (.t 7) (.t 10), none⟩,
      ⟨(some 4), .mov (.t 11), none⟩] (some [4]) none)
    .ret))
def spec_l02Gap_F : MF := ⟨12, [.t 4], spec_l02Gap_M⟩
theorem spec_l02Gap_ok : OkF Try.prog 106 spec_l02Gap_F Try.f106 (bodyOf Try.f106) := ⟨Try.func106, by kernel_rfl, by kernel_rfl, by kernel_rfl, by kernel_rfl⟩
-- loop.example/g01312/spec.l02Blind
def spec_l02Blind_M : MC :=
  (.seq (.reg none [
      ⟨(some 4), .mov (.c (.bool false)), none⟩] (some [0, 1]) none)
    (.seq (.reg none [
      ⟨(some 5), .mov (.t 0), none⟩,
      ⟨(some 6), .mov (.t 1), none⟩,
      ⟨(some 7), .call 74 [(.t 5), (.t 6), (.c (.bool true))], none⟩,
      ⟨(some 8), .mov (.t 0), none⟩,
      ⟨(some 9), .mov (.t 1), none⟩,
      ⟨(some 10), .call 74 [(.t 8), (.t 9), (.c (.bool false))], none⟩,
      ⟨(some 11), .aeq false (List.replicate 64 .i8) (.t 7) (.t 10), none⟩,
      ⟨(some 4), .mov (.t 11), none⟩] (some [4]) none)
    .ret))
def spec_l02Blind_F : MF := ⟨12, [.t 4], spec_l02Blind_M⟩
theorem spec_l02Blind_ok : OkF Try.prog 107 spec_l02Blind_F Try.f107 (bodyOf Try.f107) := ⟨Try.func107, by kernel_rfl, by kernel_rfl, by kernel_rfl, by kernel_rfl⟩
-- (loop.example/g01312/impl.Scheme).sets
def impl_Scheme_sets_L0 : MC :=
  (.seq (.reg none [
      ⟨(some 11), .bin .lss (.t 10) (.t 9), none⟩] (some [1, 5, 9, 10, 11]) none)
    (.seq (.cond (.t 11) .skip
    (.exit 0))
    (.seq (.block 1 (.seq (.reg none [
      ⟨(some 12), .mov (.t 10), none⟩,
      ⟨(some 6), .mov (.t 12), none⟩] (some [1, 5, 6, 9, 10]) none)
    (.seq (.reg none [
      ⟨(some 13), .mov (.t 1), none⟩,
      ⟨(some 14), .mov (.t 6), none⟩,
      ⟨(some 15), .conv .u8 (.t 14), none⟩,
      ⟨(some 16), .callv (.t 13) [(.t 15)], none⟩] (some [1, 5, 6, 9, 10, 16]) none)
    (.cond (.t 16) (.reg none [
      ⟨(some 17), .mov (.t 5), none⟩,
      ⟨(some 18), .mov (.t 6), none⟩,
      ⟨(some 19), .bin .shl (.c (.int .u64 1)) (.t 18), none⟩,
      ⟨(some 20), .bin .or (.t 17) (.t 19), none⟩,
      ⟨(some 5), .mov (.t 20), none⟩] (some [1, 5, 9, 10]) none)
    .skip))))
    (.reg none [
      ⟨(some 21), .bin .add (.t 10) (.c (.int .i64 1)), none⟩,
      ⟨(some 10), .mov (.t 21), none⟩] (some [1, 5, 9, 10]) none))))
def impl_Scheme_sets_M : MC :=
  (.seq (.reg none [
      ⟨(some 2), .box (.t 0), none⟩,
      ⟨(some 4), .mov (.c (.int .u64 0)), none⟩] (some [1, 2]) none)
    (.seq (.reg none [
      ⟨(some 5), .mov (.c (.int .u64 0)), none⟩] (some [1, 2, 5]) none)
    (.seq (.seq (.reg none [
      ⟨(some 7), .fa 0 (.t 2), none⟩,
      ⟨(some 8), .load none (.t 7), none⟩,
      ⟨(some 9), .bin .shl (.c (.int .i64 1)) (.t 8), none⟩,
      ⟨(some 10), .mov (.c (.int .i64 0)), none⟩] (some [1, 5, 9, 10]) none)
    (.block 0 (.loop impl_Scheme_sets_L0)))
    (.seq (.reg none [
      ⟨(some 22), .mov (.t 5), none⟩,
      ⟨(some 4), .mov (.t 22), none⟩] (some [4]) none)
    .ret))))
def impl_Scheme_sets_F : MF := ⟨23, [.t 4], impl_Scheme_sets_M⟩
theorem impl_Scheme_sets_ok : OkF Try.prog 108 impl_Scheme_sets_F Try.f108 (bodyOf Try.f108) := ⟨Try.func108, by kernel_rfl, by kernel_rfl, by kernel_rfl, by kernel_rfl⟩
-- (loop.example/g01312/impl.Scheme).sees
def impl_Scheme_sees_M : MC :=
  (.seq (.reg none [
      ⟨(some 2), .box (.t 0), none⟩,
      ⟨(some 4), .mov (.c (.bool false)), none⟩] (some [1, 2]) none)
    (.seq (.reg none [
      ⟨(some 5), .load (some 14) (.t 2), none⟩,
      ⟨(some 6), .mov (.t 1), none⟩,
      ⟨(some 7), .call 116 [(.t 5), (.t 6)], none⟩,
      ⟨(some 8), .bin .gtr (.t 7) (.c (.int .i64 0)), none⟩,
      ⟨(some 4), .mov (.t 8), none⟩] (some [4]) none)
    .ret))
def impl_Scheme_sees_F : MF := ⟨9, [.t 4], impl_Scheme_sees_M⟩
theorem impl_Scheme_sees_ok : OkF Try.prog 109 impl_Scheme_sees_F Try.f109 (bodyOf Try.f109) := ⟨Try.func109, by kernel_rfl, by kernel_rfl, by kernel_rfl, by kernel_rfl⟩
end Go.Proofs.Ytmdemhfmhlnlgaa
