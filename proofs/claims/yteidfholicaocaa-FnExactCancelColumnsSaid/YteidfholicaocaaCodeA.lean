/- A part of the proof library: names for blocks of memory, a small form of the code, and rules for walks over it. -/
import Derived.Test.YteidfholicaocaaProg
import Derived.Test.YteidfholicaocaaAb18
import Derived.KernelRfl
set_option linter.all false
namespace Go.Proofs.Yteidfholicaocaa
open Go.Ab
-- loop.example/g01312/laws.FnExactTurnShared
def laws_FnExactTurnShared_M : MC :=
  (.seq (.reg none [
      ⟨(some 2), .mov (.c (.bool false)), none⟩] (some [0]) none)
    (.seq (.reg none [
      ⟨(some 3), .mov (.c (.int .i64 1048576)), none⟩] (some [0, 3]) none)
    (.seq (.reg none [
      ⟨(some 14), .mov (.t 0), none⟩,
      ⟨(some 15), .mov (.t 3), none⟩,
      ⟨(some 16), .call 14 [(.t 14), (.t 15)], none⟩,
      ⟨(some 3), .mov (.t 16), none⟩] (some [0, 3]) none)
    (.seq (.seq (.reg none [
      ⟨(some 17), .mov (.t 3), none⟩,
      ⟨(some 18), .bin .lss (.t 17) (.c (.int .i64 0)), none⟩] (some [0, 18]) none)
    (.cond (.t 18) (.seq (.reg none [
      ⟨(some 2), .mov (.c (.bool true)), none⟩] (some [2]) none)
    .ret)
    .skip))
    (.seq (.reg none [
      ⟨(some 20), .mov (.t 0), none⟩,
      ⟨(some 21), .call 16 [(.t 20)], none⟩,
      ⟨(some 22), .call 15 [(.t 21)], none⟩,
      ⟨(some 19), .mov (.t 22), none⟩,
      ⟨(some 23), .ext (.t 19) 0, none⟩,
      ⟨(some 24), .ext (.t 19) 1, none⟩,
      ⟨(some 4), .mov (.t 23), none⟩,
      ⟨(some 5), .mov (.t 24), none⟩] (some [0, 4, 5]) none)
    (.seq (.reg none [
      ⟨(some 25), .mov (.t 0), none⟩,
      ⟨(some 26), .call 16 [(.t 25)], none⟩,
      ⟨(some 6), .mov (.t 26), none⟩] (some [0, 4, 5, 6]) none)
    (.seq (.reg none [
      ⟨(some 28), .mov (.t 6), none⟩,
      ⟨(some 29), .call 17 [(.t 28)], none⟩,
      ⟨(some 27), .mov (.t 29), none⟩,
      ⟨(some 30), .ext (.t 27) 0, none⟩,
      ⟨(some 31), .ext (.t 27) 1, none⟩,
      ⟨(some 7), .mov (.t 30), none⟩,
      ⟨(some 8), .mov (.t 31), none⟩] (some [0, 4, 5, 6, 7, 8]) none)
    (.seq (.seq (.reg none [
      ⟨(some 32), .mov (.t 7), none⟩,
      ⟨(some 33), .mov (.t 4), none⟩,
      ⟨(some 34), .call 18 [(.t 32), (.t 33)], none⟩,
      ⟨(some 35), .un .not (.t 34), none⟩,
      ⟨(some 36), .mov (.t 35), none⟩,
      ⟨(some 37), .mov (.t 8), some (36, false)⟩,
      ⟨(some 38), .mov (.t 5), some (36, false)⟩,
      ⟨(some 39), .bin .neq (.t 37) (.t 38), some (36, false)⟩,
      ⟨(some 40), .pick (.t 36) (.c (.bool true)) (.t 39), none⟩] (some [0, 4, 5, 6, 7, 8, 40]) none)
    (.cond (.t 40) (.seq (.reg none [
      ⟨(some 2), .mov (.c (.bool false)), none⟩] (some [2]) none)
    .ret)
    .skip))
    (.seq (.seq (.reg none [
      ⟨(some 41), .mov (.t 6), none⟩,
      ⟨(some 42), .mov (.t 0), none⟩,
      ⟨(some 43), .call 16 [(.t 42)], none⟩,
      ⟨(some 44), .call 18 [(.t 41), (.t 43)], none⟩,
      ⟨(some 45), .un .not (.t 44), none⟩] (some [0, 4, 5, 6, 7, 8, 45]) none)
    (.cond (.t 45) (.seq (.reg none [
      ⟨(some 2), .mov (.c (.bool false)), none⟩] (some [2]) none)
    .ret)
    .skip))
    (.seq (.reg none [
      ⟨(some 9), .mov (.c (.int .i64 1)), none⟩] (some [0, 4, 5, 6, 7, 8, 9]) none)
    (.seq (.reg none [
      ⟨(some 46), .mov (.t 6), none⟩,
      ⟨(some 47), .mov (.t 9), none⟩,
      ⟨(some 48), .call 19 [(.t 46), (.t 47)], none⟩,
      ⟨(some 9), .mov (.t 48), none⟩] (some [0, 4, 5, 7, 8, 9]) none)
    (.seq (.seq (.reg none [
      ⟨(some 49), .mov (.t 9), none⟩,
      ⟨(some 50), .bin .lss (.t 49) (.c (.int .i64 0)), none⟩,
      ⟨(some 51), .mov (.t 50), none⟩,
      ⟨(some 52), .mov (.t 7), some (51, false)⟩,
      ⟨(some 53), .mov (.t 4), some (51, false)⟩,
      ⟨(some 54), .call 18 [(.t 52), (.t 53)], some (51, false)⟩,
      ⟨(some 55), .un .not (.t 54), some (51, false)⟩,
      ⟨(some 56), .pick (.t 51) (.c (.bool true)) (.t 55), none⟩,
      ⟨(some 57), .mov (.t 56), none⟩,
      ⟨(some 58), .mov (.t 8), some (57, false)⟩,
      ⟨(some 59), .mov (.t 5), some (57, false)⟩,
      ⟨(some 60), .bin .neq (.t 58) (.t 59), some (57, false)⟩,
      ⟨(some 61), .pick (.t 57) (.c (.bool true)) (.t 60), none⟩] (some [0, 4, 5, 7, 61]) none)
    (.cond (.t 61) (.seq (.reg none [
      ⟨(some 2), .mov (.c (.bool false)), none⟩] (some [2]) none)
    .ret)
    .skip))
    (.seq (.reg none [
      ⟨(some 10), .mov (.c (.int .i64 1)), none⟩] (some [0, 4, 5, 7, 10]) none)
    (.seq (.reg none [
      ⟨(some 62), .mov (.t 7), none⟩,
      ⟨(some 63), .mov (.t 10), none⟩,
      ⟨(some 64), .call 19 [(.t 62), (.t 63)], none⟩,
      ⟨(some 10), .mov (.t 64), none⟩] (some [0, 4, 5, 7, 10]) none)
    (.seq (.reg none [
      ⟨(some 11), .mov (.c (.int .i64 1)), none⟩] (some [0, 4, 5, 7, 10, 11]) none)
    (.seq (.reg none [
      ⟨(some 65), .mov (.t 7), none⟩,
      ⟨(some 66), .mov (.t 11), none⟩,
      ⟨(some 67), .call 20 [(.t 65), (.t 66)], none⟩,
      ⟨(some 11), .mov (.t 67), none⟩] (some [0, 4, 5, 7, 10, 11]) none)
    (.seq (.seq (.reg none [
      ⟨(some 68), .mov (.t 11), none⟩,
      ⟨(some 69), .bin .lss (.t 68) (.c (.int .i64 0)), none⟩] (some [0, 4, 5, 7, 10, 11, 69]) none)
    (.cond (.t 69) (.seq (.reg none [
      ⟨(some 2), .mov (.c (.bool false)), none⟩] (some [2]) none)
    .ret)
    .skip))
    (.seq (.seq (.reg none [
      ⟨(some 70), .mov (.t 11), none⟩,
      ⟨(some 71), .mov (.t 10), none⟩,
      ⟨(some 72), .bin .neq (.t 70) (.t 71), none⟩] (some [0, 4, 5, 7, 10, 72]) none)
    (.cond (.t 72) (.seq (.reg none [
      ⟨(some 2), .mov (.c (.bool false)), none⟩] (some [2]) none)
    .ret)
    .skip))
    (.seq (.reg none [
      ⟨(some 74), .mov (.t 0), none⟩,
      ⟨(some 75), .call 16 [(.t 74)], none⟩,
      ⟨(some 76), .call 17 [(.t 75)], none⟩,
      ⟨(some 73), .mov (.t 76), none⟩,
      ⟨(some 77), .ext (.t 73) 0, none⟩,
      ⟨(some 78), .ext (.t 73) 1, none⟩,
      ⟨(some 12), .mov (.t 77), none⟩,
      ⟨(some 13), .mov (.t 78), none⟩] (some [4, 5, 7, 10, 12, 13]) none)
    (.seq (.seq (.reg none [
      ⟨(some 79), .mov (.t 12), none⟩,
      ⟨(some 80), .mov (.t 4), none⟩,
      ⟨(some 81), .call 18 [(.t 79), (.t 80)], none⟩,
      ⟨(some 82), .un .not (.t 81), none⟩,
      ⟨(some 83), .mov (.t 82), none⟩,
      ⟨(some 84), .mov (.t 13), some (83, false)⟩,
      ⟨(some 85), .mov (.t 5), some (83, false)⟩,
      ⟨(some 86), .bin .neq (.t 84) (.t 85), some (83, false)⟩,
      ⟨(some 87), .pick (.t 83) (.c (.bool true)) (.t 86), none⟩] (some [7, 10, 87]) none)
    (.cond (.t 87) (.seq (.reg none [
      ⟨(some 2), .mov (.c (.bool false)), none⟩] (some [2]) none)
    .ret)
    .skip))
    (.seq (.reg none [
      ⟨(some 11), .mov (.c (.int .i64 1)), none⟩] (some [7, 10, 11]) none)
    (.seq (.reg none [
      ⟨(some 88), .mov (.t 7), none⟩,
      ⟨(some 89), .mov (.t 11), none⟩,
      ⟨(some 90), .call 20 [(.t 88), (.t 89)], none⟩,
      ⟨(some 11), .mov (.t 90), none⟩] (some [10, 11]) none)
    (.seq (.seq (.reg none [
      ⟨(some 91), .mov (.t 11), none⟩,
      ⟨(some 92), .bin .lss (.t 91) (.c (.int .i64 0)), none⟩] (some [10, 11, 92]) none)
    (.cond (.t 92) (.seq (.reg none [
      ⟨(some 2), .mov (.c (.bool false)), none⟩] (some [2]) none)
    .ret)
    .skip))
    (.seq (.seq (.reg none [
      ⟨(some 93), .mov (.t 11), none⟩,
      ⟨(some 94), .mov (.t 10), none⟩,
      ⟨(some 95), .bin .neq (.t 93) (.t 94), none⟩] (some [95]) none)
    (.cond (.t 95) (.seq (.reg none [
      ⟨(some 2), .mov (.c (.bool false)), none⟩] (some [2]) none)
    .ret)
    .skip))
    (.seq (.reg none [
      ⟨(some 2), .mov (.c (.bool true)), none⟩] (some [2]) none)
    .ret)))))))))))))))))))))))))
def laws_FnExactTurnShared_F : MF := ⟨96, [.t 2], laws_FnExactTurnShared_M⟩
theorem laws_FnExactTurnShared_ok : OkF Try.prog 3 laws_FnExactTurnShared_F Try.f3 (bodyOf Try.f3) := ⟨Try.func3, by kernel_rfl, by kernel_rfl, by kernel_rfl, by kernel_rfl⟩
-- loop.example/g01312/laws.FnExactJoinShared
def laws_FnExactJoinShared_M : MC :=
  (.seq (.reg none [
      ⟨(some 4), .mov (.c (.bool false)), none⟩] (some [0, 1]) none)
    (.seq (.reg none [
      ⟨(some 5), .mov (.c (.int .i64 1048576)), none⟩] (some [0, 1, 5]) none)
    (.seq (.reg none [
      ⟨(some 17), .mov (.t 0), none⟩,
      ⟨(some 18), .mov (.t 5), none⟩,
      ⟨(some 19), .call 14 [(.t 17), (.t 18)], none⟩,
      ⟨(some 5), .mov (.t 19), none⟩] (some [0, 1, 5]) none)
    (.seq (.seq (.reg none [
      ⟨(some 20), .mov (.t 5), none⟩,
      ⟨(some 21), .bin .lss (.t 20) (.c (.int .i64 0)), none⟩] (some [0, 1, 5, 21]) none)
    (.cond (.t 21) (.seq (.reg none [
      ⟨(some 4), .mov (.c (.bool true)), none⟩] (some [4]) none)
    .ret)
    .skip))
    (.seq (.reg none [
      ⟨(some 22), .mov (.t 1), none⟩,
      ⟨(some 23), .mov (.t 5), none⟩,
      ⟨(some 24), .call 14 [(.t 22), (.t 23)], none⟩,
      ⟨(some 5), .mov (.t 24), none⟩] (some [0, 1, 5]) none)
    (.seq (.seq (.reg none [
      ⟨(some 25), .mov (.t 5), none⟩,
      ⟨(some 26), .bin .lss (.t 25) (.c (.int .i64 0)), none⟩] (some [0, 1, 26]) none)
    (.cond (.t 26) (.seq (.reg none [
      ⟨(some 4), .mov (.c (.bool true)), none⟩] (some [4]) none)
    .ret)
    .skip))
    (.seq (.reg none [
      ⟨(some 28), .mov (.t 0), none⟩,
      ⟨(some 29), .call 16 [(.t 28)], none⟩,
      ⟨(some 30), .mov (.t 1), none⟩,
      ⟨(some 31), .call 16 [(.t 30)], none⟩,
      ⟨(some 32), .call 21 [(.t 29), (.t 31)], none⟩,
      ⟨(some 27), .mov (.t 32), none⟩,
      ⟨(some 33), .ext (.t 27) 0, none⟩,
      ⟨(some 34), .ext (.t 27) 1, none⟩,
      ⟨(some 6), .mov (.t 33), none⟩,
      ⟨(some 7), .mov (.t 34), none⟩] (some [0, 1, 6, 7]) none)
    (.seq (.reg none [
      ⟨(some 35), .mov (.t 0), none⟩,
      ⟨(some 36), .call 16 [(.t 35)], none⟩,
      ⟨(some 8), .mov (.t 36), none⟩] (some [0, 1, 6, 7, 8]) none)
    (.seq (.reg none [
      ⟨(some 37), .mov (.t 1), none⟩,
      ⟨(some 38), .call 16 [(.t 37)], none⟩,
      ⟨(some 9), .mov (.t 38), none⟩] (some [0, 1, 6, 7, 8, 9]) none)
    (.seq (.reg none [
      ⟨(some 40), .mov (.t 8), none⟩,
      ⟨(some 41), .mov (.t 9), none⟩,
      ⟨(some 42), .call 22 [(.t 40), (.t 41)], none⟩,
      ⟨(some 39), .mov (.t 42), none⟩,
      ⟨(some 43), .ext (.t 39) 0, none⟩,
      ⟨(some 44), .ext (.t 39) 1, none⟩,
      ⟨(some 10), .mov (.t 43), none⟩,
      ⟨(some 11), .mov (.t 44), none⟩] (some [0, 1, 6, 7, 8, 9, 10, 11]) none)
    (.seq (.seq (.reg none [
      ⟨(some 45), .mov (.t 10), none⟩,
      ⟨(some 46), .mov (.t 6), none⟩,
      ⟨(some 47), .call 18 [(.t 45), (.t 46)], none⟩,
      ⟨(some 48), .un .not (.t 47), none⟩,
      ⟨(some 49), .mov (.t 48), none⟩,
      ⟨(some 50), .mov (.t 11), some (49, false)⟩,
      ⟨(some 51), .mov (.t 7), some (49, false)⟩,
      ⟨(some 52), .bin .neq (.t 50) (.t 51), some (49, false)⟩,
      ⟨(some 53), .pick (.t 49) (.c (.bool true)) (.t 52), none⟩] (some [0, 1, 6, 7, 8, 9, 10, 11, 53]) none)
    (.cond (.t 53) (.seq (.reg none [
      ⟨(some 4), .mov (.c (.bool false)), none⟩] (some [4]) none)
    .ret)
    .skip))
    (.seq (.seq (.reg none [
      ⟨(some 54), .mov (.t 8), none⟩,
      ⟨(some 55), .mov (.t 0), none⟩,
      ⟨(some 56), .call 16 [(.t 55)], none⟩,
      ⟨(some 57), .call 18 [(.t 54), (.t 56)], none⟩,
      ⟨(some 58), .un .not (.t 57), none⟩] (some [0, 1, 6, 7, 8, 9, 10, 11, 58]) none)
    (.cond (.t 58) (.seq (.reg none [
      ⟨(some 4), .mov (.c (.bool false)), none⟩] (some [4]) none)
    .ret)
    .skip))
    (.seq (.seq (.reg none [
      ⟨(some 59), .mov (.t 9), none⟩,
      ⟨(some 60), .mov (.t 1), none⟩,
      ⟨(some 61), .call 16 [(.t 60)], none⟩,
      ⟨(some 62), .call 18 [(.t 59), (.t 61)], none⟩,
      ⟨(some 63), .un .not (.t 62), none⟩] (some [0, 1, 6, 7, 8, 9, 10, 11, 63]) none)
    (.cond (.t 63) (.seq (.reg none [
      ⟨(some 4), .mov (.c (.bool false)), none⟩] (some [4]) none)
    .ret)
    .skip))
    (.seq (.reg none [
      ⟨(some 12), .mov (.c (.int .i64 1)), none⟩] (some [0, 1, 6, 7, 8, 9, 10, 11, 12]) none)
    (.seq (.reg none [
      ⟨(some 64), .mov (.t 8), none⟩,
      ⟨(some 65), .mov (.t 12), none⟩,
      ⟨(some 66), .call 19 [(.t 64), (.t 65)], none⟩,
      ⟨(some 12), .mov (.t 66), none⟩] (some [0, 1, 6, 7, 9, 10, 11, 12]) none)
    (.seq (.reg none [
      ⟨(some 67), .mov (.t 9), none⟩,
      ⟨(some 68), .mov (.t 12), none⟩,
      ⟨(some 69), .call 19 [(.t 67), (.t 68)], none⟩,
      ⟨(some 12), .mov (.t 69), none⟩] (some [0, 1, 6, 7, 10, 11, 12]) none)
    (.seq (.seq (.reg none [
      ⟨(some 70), .mov (.t 12), none⟩,
      ⟨(some 71), .bin .lss (.t 70) (.c (.int .i64 0)), none⟩,
      ⟨(some 72), .mov (.t 71), none⟩,
      ⟨(some 73), .mov (.t 10), some (72, false)⟩,
      ⟨(some 74), .mov (.t 6), some (72, false)⟩,
      ⟨(some 75), .call 18 [(.t 73), (.t 74)], some (72, false)⟩,
      ⟨(some 76), .un .not (.t 75), some (72, false)⟩,
      ⟨(some 77), .pick (.t 72) (.c (.bool true)) (.t 76), none⟩,
      ⟨(some 78), .mov (.t 77), none⟩,
      ⟨(some 79), .mov (.t 11), some (78, false)⟩,
      ⟨(some 80), .mov (.t 7), some (78, false)⟩,
      ⟨(some 81), .bin .neq (.t 79) (.t 80), some (78, false)⟩,
      ⟨(some 82), .pick (.t 78) (.c (.bool true)) (.t 81), none⟩] (some [0, 1, 6, 7, 10, 82]) none)
    (.cond (.t 82) (.seq (.reg none [
      ⟨(some 4), .mov (.c (.bool false)), none⟩] (some [4]) none)
    .ret)
    .skip))
    (.seq (.reg none [
      ⟨(some 13), .mov (.c (.int .i64 1)), none⟩] (some [0, 1, 6, 7, 10, 13]) none)
    (.seq (.reg none [
      ⟨(some 83), .mov (.t 10), none⟩,
      ⟨(some 84), .mov (.t 13), none⟩,
      ⟨(some 85), .call 19 [(.t 83), (.t 84)], none⟩,
      ⟨(some 13), .mov (.t 85), none⟩] (some [0, 1, 6, 7, 10, 13]) none)
    (.seq (.reg none [
      ⟨(some 14), .mov (.c (.int .i64 1)), none⟩] (some [0, 1, 6, 7, 10, 13, 14]) none)
    (.seq (.reg none [
      ⟨(some 86), .mov (.t 10), none⟩,
      ⟨(some 87), .mov (.t 14), none⟩,
      ⟨(some 88), .call 20 [(.t 86), (.t 87)], none⟩,
      ⟨(some 14), .mov (.t 88), none⟩] (some [0, 1, 6, 7, 10, 13, 14]) none)
    (.seq (.seq (.reg none [
      ⟨(some 89), .mov (.t 14), none⟩,
      ⟨(some 90), .bin .lss (.t 89) (.c (.int .i64 0)), none⟩] (some [0, 1, 6, 7, 10, 13, 14, 90]) none)
    (.cond (.t 90) (.seq (.reg none [
      ⟨(some 4), .mov (.c (.bool false)), none⟩] (some [4]) none)
    .ret)
    .skip))
    (.seq (.seq (.reg none [
      ⟨(some 91), .mov (.t 14), none⟩,
      ⟨(some 92), .mov (.t 13), none⟩,
      ⟨(some 93), .bin .neq (.t 91) (.t 92), none⟩] (some [0, 1, 6, 7, 10, 13, 93]) none)
    (.cond (.t 93) (.seq (.reg none [
      ⟨(some 4), .mov (.c (.bool false)), none⟩] (some [4]) none)
    .ret)
    .skip))
    (.seq (.reg none [
      ⟨(some 95), .mov (.t 0), none⟩,
      ⟨(some 96), .call 16 [(.t 95)], none⟩,
      ⟨(some 97), .mov (.t 1), none⟩,
      ⟨(some 98), .call 16 [(.t 97)], none⟩,
      ⟨(some 99), .call 22 [(.t 96), (.t 98)], none⟩,
      ⟨(some 94), .mov (.t 99), none⟩,
      ⟨(some 100), .ext (.t 94) 0, none⟩,
      ⟨(some 101), .ext (.t 94) 1, none⟩,
      ⟨(some 15), .mov (.t 100), none⟩,
      ⟨(some 16), .mov (.t 101), none⟩] (some [6, 7, 10, 13, 15, 16]) none)
    (.seq (.seq (.reg none [
      ⟨(some 102), .mov (.t 15), none⟩,
      ⟨(some 103), .mov (.t 6), none⟩,
      ⟨(some 104), .call 18 [(.t 102), (.t 103)], none⟩,
      ⟨(some 105), .un .not (.t 104), none⟩,
      ⟨(some 106), .mov (.t 105), none⟩,
      ⟨(some 107), .mov (.t 16), some (106, false)⟩,
      ⟨(some 108), .mov (.t 7), some (106, false)⟩,
      ⟨(some 109), .bin .neq (.t 107) (.t 108), some (106, false)⟩,
      ⟨(some 110), .pick (.t 106) (.c (.bool true)) (.t 109), none⟩] (some [10, 13, 110]) none)
    (.cond (.t 110) (.seq (.reg none [
      ⟨(some 4), .mov (.c (.bool false)), none⟩] (some [4]) none)
    .ret)
    .skip))
    (.seq (.reg none [
      ⟨(some 14), .mov (.c (.int .i64 1)), none⟩] (some [10, 13, 14]) none)
    (.seq (.reg none [
      ⟨(some 111), .mov (.t 10), none⟩,
      ⟨(some 112), .mov (.t 14), none⟩,
      ⟨(some 113), .call 20 [(.t 111), (.t 112)], none⟩,
      ⟨(some 14), .mov (.t 113), none⟩] (some [13, 14]) none)
    (.seq (.seq (.reg none [
      ⟨(some 114), .mov (.t 14), none⟩,
      ⟨(some 115), .bin .lss (.t 114) (.c (.int .i64 0)), none⟩] (some [13, 14, 115]) none)
    (.cond (.t 115) (.seq (.reg none [
      ⟨(some 4), .mov (.c (.bool false)), none⟩] (some [4]) none)
    .ret)
    .skip))
    (.seq (.seq (.reg none [
      ⟨(some 116), .mov (.t 14), none⟩,
      ⟨(some 117), .mov (.t 13), none⟩,
      ⟨(some 118), .bin .neq (.t 116) (.t 117), none⟩] (some [118]) none)
    (.cond (.t 118) (.seq (.reg none [
      ⟨(some 4), .mov (.c (.bool false)), none⟩] (some [4]) none)
    .ret)
    .skip))
    (.seq (.reg none [
      ⟨(some 4), .mov (.c (.bool true)), none⟩] (some [4]) none)
    .ret))))))))))))))))))))))))))))))
def laws_FnExactJoinShared_F : MF := ⟨119, [.t 4], laws_FnExactJoinShared_M⟩
theorem laws_FnExactJoinShared_ok : OkF Try.prog 4 laws_FnExactJoinShared_F Try.f4 (bodyOf Try.f4) := ⟨Try.func4, by kernel_rfl, by kernel_rfl, by kernel_rfl, by kernel_rfl⟩
-- loop.example/g01312/laws.FnExactRenewLayers
def laws_FnExactRenewLayers_M : MC :=
  (.seq (.reg none [
      ⟨(some 3), .box (.t 0), none⟩,
      ⟨(some 6), .mov (.c (.bool false)), none⟩] (some [1, 2, 3]) none)
    (.seq (.reg none [
      ⟨(some 7), .mov (.c (.int .i64 1048576)), none⟩] (some [1, 2, 3, 7]) none)
    (.seq (.reg none [
      ⟨(some 21), .mov (.t 1), none⟩,
      ⟨(some 22), .mov (.t 7), none⟩,
      ⟨(some 23), .call 14 [(.t 21), (.t 22)], none⟩,
      ⟨(some 7), .mov (.t 23), none⟩] (some [1, 2, 3, 7]) none)
    (.seq (.seq (.reg none [
      ⟨(some 24), .mov (.t 7), none⟩,
      ⟨(some 25), .bin .lss (.t 24) (.c (.int .i64 0)), none⟩] (some [1, 2, 3, 25]) none)
    (.cond (.t 25) (.seq (.reg none [
      ⟨(some 6), .mov (.c (.bool true)), none⟩] (some [6]) none)
    .ret)
    .skip))
    (.seq (.reg none [
      ⟨(some 27), .load (some 14) (.t 3), none⟩,
      ⟨(some 28), .call 24 [(.t 27)], none⟩,
      ⟨(some 29), .mov (.t 1), none⟩,
      ⟨(some 30), .call 16 [(.t 29)], none⟩,
      ⟨(some 31), .mov (.t 2), none⟩,
      ⟨(some 32), .call 23 [(.t 28), (.t 30), (.t 31)], none⟩,
      ⟨(some 26), .mov (.t 32), none⟩,
      ⟨(some 33), .ext (.t 26) 0, none⟩,
      ⟨(some 34), .ext (.t 26) 1, none⟩,
      ⟨(some 35), .ext (.t 26) 2, none⟩,
      ⟨(some 8), .mov (.t 33), none⟩,
      ⟨(some 9), .mov (.t 34), none⟩,
      ⟨(some 10), .mov (.t 35), none⟩] (some [1, 2, 3, 8, 9, 10]) none)
    (.seq (.reg none [
      ⟨(some 36), .mov (.t 1), none⟩,
      ⟨(some 37), .call 16 [(.t 36)], none⟩,
      ⟨(some 11), .mov (.t 37), none⟩] (some [1, 2, 3, 8, 9, 10, 11]) none)
    (.seq (.reg none [
      ⟨(some 39), .load (some 14) (.t 3), none⟩,
      ⟨(some 40), .call 24 [(.t 39)], none⟩,
      ⟨(some 41), .mov (.t 11), none⟩,
      ⟨(some 42), .mov (.t 2), none⟩,
      ⟨(some 43), .call 25 [(.t 40), (.t 41), (.t 42)], none⟩,
      ⟨(some 38), .mov (.t 43), none⟩,
      ⟨(some 44), .ext (.t 38) 0, none⟩,
      ⟨(some 45), .ext (.t 38) 1, none⟩,
      ⟨(some 46), .ext (.t 38) 2, none⟩,
      ⟨(some 12), .mov (.t 44), none⟩,
      ⟨(some 13), .mov (.t 45), none⟩,
      ⟨(some 14), .mov (.t 46), none⟩] (some [1, 2, 3, 8, 9, 10, 11, 12, 13, 14]) none)
    (.seq (.seq (.reg none [
      ⟨(some 47), .mov (.t 12), none⟩,
      ⟨(some 48), .mov (.t 8), none⟩,
      ⟨(some 49), .call 18 [(.t 47), (.t 48)], none⟩,
      ⟨(some 50), .un .not (.t 49), none⟩,
      ⟨(some 51), .mov (.t 50), none⟩,
      ⟨(some 52), .mov (.t 13), some (51, false)⟩,
      ⟨(some 53), .mov (.t 9), some (51, false)⟩,
      ⟨(some 54), .bin .neq (.t 52) (.t 53), some (51, false)⟩,
      ⟨(some 55), .pick (.t 51) (.c (.bool true)) (.t 54), none⟩,
      ⟨(some 56), .mov (.t 55), none⟩,
      ⟨(some 57), .mov (.t 14), some (56, false)⟩,
      ⟨(some 58), .mov (.t 10), some (56, false)⟩,
      ⟨(some 59), .bin .neq (.t 57) (.t 58), some (56, false)⟩,
      ⟨(some 60), .pick (.t 56) (.c (.bool true)) (.t 59), none⟩] (some [1, 2, 3, 8, 9, 10, 11, 12, 13, 14, 60]) none)
    (.cond (.t 60) (.seq (.reg none [
      ⟨(some 6), .mov (.c (.bool false)), none⟩] (some [6]) none)
    .ret)
    .skip))
    (.seq (.seq (.reg none [
      ⟨(some 61), .mov (.t 11), none⟩,
      ⟨(some 62), .mov (.t 1), none⟩,
      ⟨(some 63), .call 16 [(.t 62)], none⟩,
      ⟨(some 64), .call 18 [(.t 61), (.t 63)], none⟩,
      ⟨(some 65), .un .not (.t 64), none⟩] (some [1, 2, 3, 8, 9, 10, 11, 12, 13, 14, 65]) none)
    (.cond (.t 65) (.seq (.reg none [
      ⟨(some 6), .mov (.c (.bool false)), none⟩] (some [6]) none)
    .ret)
    .skip))
    (.seq (.reg none [
      ⟨(some 15), .mov (.c (.int .i64 1)), none⟩] (some [1, 2, 3, 8, 9, 10, 11, 12, 13, 14, 15]) none)
    (.seq (.reg none [
      ⟨(some 66), .mov (.t 11), none⟩,
      ⟨(some 67), .mov (.t 15), none⟩,
      ⟨(some 68), .call 19 [(.t 66), (.t 67)], none⟩,
      ⟨(some 15), .mov (.t 68), none⟩] (some [1, 2, 3, 8, 9, 10, 12, 13, 14, 15]) none)
    (.seq (.seq (.reg none [
      ⟨(some 69), .mov (.t 15), none⟩,
      ⟨(some 70), .bin .lss (.t 69) (.c (.int .i64 0)), none⟩,
      ⟨(some 71), .mov (.t 70), none⟩,
      ⟨(some 72), .mov (.t 12), some (71, false)⟩,
      ⟨(some 73), .mov (.t 8), some (71, false)⟩,
      ⟨(some 74), .call 18 [(.t 72), (.t 73)], some (71, false)⟩,
      ⟨(some 75), .un .not (.t 74), some (71, false)⟩,
      ⟨(some 76), .pick (.t 71) (.c (.bool true)) (.t 75), none⟩,
      ⟨(some 77), .mov (.t 76), none⟩,
      ⟨(some 78), .mov (.t 13), some (77, false)⟩,
      ⟨(some 79), .mov (.t 9), some (77, false)⟩,
      ⟨(some 80), .bin .neq (.t 78) (.t 79), some (77, false)⟩,
      ⟨(some 81), .pick (.t 77) (.c (.bool true)) (.t 80), none⟩,
      ⟨(some 82), .mov (.t 81), none⟩,
      ⟨(some 83), .mov (.t 14), some (82, false)⟩,
      ⟨(some 84), .mov (.t 10), some (82, false)⟩,
      ⟨(some 85), .bin .neq (.t 83) (.t 84), some (82, false)⟩,
      ⟨(some 86), .pick (.t 82) (.c (.bool true)) (.t 85), none⟩] (some [1, 2, 3, 8, 9, 10, 12, 86]) none)
    (.cond (.t 86) (.seq (.reg none [
      ⟨(some 6), .mov (.c (.bool false)), none⟩] (some [6]) none)
    .ret)
    .skip))
    (.seq (.reg none [
      ⟨(some 16), .mov (.c (.int .i64 1)), none⟩] (some [1, 2, 3, 8, 9, 10, 12, 16]) none)
    (.seq (.reg none [
      ⟨(some 87), .mov (.t 12), none⟩,
      ⟨(some 88), .mov (.t 16), none⟩,
      ⟨(some 89), .call 19 [(.t 87), (.t 88)], none⟩,
      ⟨(some 16), .mov (.t 89), none⟩] (some [1, 2, 3, 8, 9, 10, 12, 16]) none)
    (.seq (.reg none [
      ⟨(some 17), .mov (.c (.int .i64 1)), none⟩] (some [1, 2, 3, 8, 9, 10, 12, 16, 17]) none)
    (.seq (.reg none [
      ⟨(some 90), .mov (.t 12), none⟩,
      ⟨(some 91), .mov (.t 17), none⟩,
      ⟨(some 92), .call 20 [(.t 90), (.t 91)], none⟩,
      ⟨(some 17), .mov (.t 92), none⟩] (some [1, 2, 3, 8, 9, 10, 12, 16, 17]) none)
    (.seq (.seq (.reg none [
      ⟨(some 93), .mov (.t 17), none⟩,
      ⟨(some 94), .bin .lss (.t 93) (.c (.int .i64 0)), none⟩] (some [1, 2, 3, 8, 9, 10, 12, 16, 17, 94]) none)
    (.cond (.t 94) (.seq (.reg none [
      ⟨(some 6), .mov (.c (.bool false)), none⟩] (some [6]) none)
    .ret)
    .skip))
    (.seq (.seq (.reg none [
      ⟨(some 95), .mov (.t 17), none⟩,
      ⟨(some 96), .mov (.t 16), none⟩,
      ⟨(some 97), .bin .neq (.t 95) (.t 96), none⟩] (some [1, 2, 3, 8, 9, 10, 12, 16, 97]) none)
    (.cond (.t 97) (.seq (.reg none [
      ⟨(some 6), .mov (.c (.bool false)), none⟩] (some [6]) none)
    .ret)
    .skip))
    (.seq (.reg none [
      ⟨(some 99), .load (some 14) (.t 3), none⟩,
      ⟨(some 100), .call 24 [(.t 99)], none⟩,
      ⟨(some 101), .mov (.t 1), none⟩,
      ⟨(some 102), .call 16 [(.t 101)], none⟩,
      ⟨(some 103), .mov (.t 2), none⟩,
      ⟨(some 104), .call 25 [(.t 100), (.t 102), (.t 103)], none⟩,
      ⟨(some 98), .mov (.t 104), none⟩,
      ⟨(some 105), .ext (.t 98) 0, none⟩,
      ⟨(some 106), .ext (.t 98) 1, none⟩,
      ⟨(some 107), .ext (.t 98) 2, none⟩,
      ⟨(some 18), .mov (.t 105), none⟩,
      ⟨(some 19), .mov (.t 106), none⟩,
      ⟨(some 20), .mov (.t 107), none⟩] (some [8, 9, 10, 12, 16, 18, 19, 20]) none)
    (.seq (.seq (.reg none [
      ⟨(some 108), .mov (.t 18), none⟩,
      ⟨(some 109), .mov (.t 8), none⟩,
      ⟨(some 110), .call 18 [(.t 108), (.t 109)], none⟩,
      ⟨(some 111), .un .not (.t 110), none⟩,
      ⟨(some 112), .mov (.t 111), none⟩,
      ⟨(some 113), .mov (.t 19), some (112, false)⟩,
      ⟨(some 114), .mov (.t 9), some (112, false)⟩,
      ⟨(some 115), .bin .neq (.t 113) (.t 114), some (112, false)⟩,
      ⟨(some 116), .pick (.t 112) (.c (.bool true)) (.t 115), none⟩,
      ⟨(some 117), .mov (.t 116), none⟩,
      ⟨(some 118), .mov (.t 20), some (117, false)⟩,
      ⟨(some 119), .mov (.t 10), some (117, false)⟩,
      ⟨(some 120), .bin .neq (.t 118) (.t 119), some (117, false)⟩,
      ⟨(some 121), .pick (.t 117) (.c (.bool true)) (.t 120), none⟩] (some [12, 16, 121]) none)
    (.cond (.t 121) (.seq (.reg none [
      ⟨(some 6), .mov (.c (.bool false)), none⟩] (some [6]) none)
    .ret)
    .skip))
    (.seq (.reg none [
      ⟨(some 17), .mov (.c (.int .i64 1)), none⟩] (some [12, 16, 17]) none)
    (.seq (.reg none [
      ⟨(some 122), .mov (.t 12), none⟩,
      ⟨(some 123), .mov (.t 17), none⟩,
      ⟨(some 124), .call 20 [(.t 122), (.t 123)], none⟩,
      ⟨(some 17), .mov (.t 124), none⟩] (some [16, 17]) none)
    (.seq (.seq (.reg none [
      ⟨(some 125), .mov (.t 17), none⟩,
      ⟨(some 126), .bin .lss (.t 125) (.c (.int .i64 0)), none⟩] (some [16, 17, 126]) none)
    (.cond (.t 126) (.seq (.reg none [
      ⟨(some 6), .mov (.c (.bool false)), none⟩] (some [6]) none)
    .ret)
    .skip))
    (.seq (.seq (.reg none [
      ⟨(some 127), .mov (.t 17), none⟩,
      ⟨(some 128), .mov (.t 16), none⟩,
      ⟨(some 129), .bin .neq (.t 127) (.t 128), none⟩] (some [129]) none)
    (.cond (.t 129) (.seq (.reg none [
      ⟨(some 6), .mov (.c (.bool false)), none⟩] (some [6]) none)
    .ret)
    .skip))
    (.seq (.reg none [
      ⟨(some 6), .mov (.c (.bool true)), none⟩] (some [6]) none)
    .ret)))))))))))))))))))))))))
def laws_FnExactRenewLayers_F : MF := ⟨130, [.t 6], laws_FnExactRenewLayers_M⟩
theorem laws_FnExactRenewLayers_ok : OkF Try.prog 5 laws_FnExactRenewLayers_F Try.f5 (bodyOf Try.f5) := ⟨Try.func5, by kernel_rfl, by kernel_rfl, by kernel_rfl, by kernel_rfl⟩
-- loop.example/g01312/laws.FnExactReadWith
def laws_FnExactReadWith_M : MC :=
  (.seq (.reg none [
      ⟨(some 3), .box (.t 0), none⟩,
      ⟨(some 6), .mov (.c (.bool false)), none⟩] (some [1, 2, 3]) none)
    (.seq (.reg none [
      ⟨(some 7), .mov (.c (.int .i64 1048576)), none⟩] (some [1, 2, 3, 7]) none)
    (.seq (.reg none [
      ⟨(some 13), .mov (.t 1), none⟩,
      ⟨(some 14), .mov (.t 7), none⟩,
      ⟨(some 15), .call 14 [(.t 13), (.t 14)], none⟩,
      ⟨(some 7), .mov (.t 15), none⟩] (some [1, 2, 3, 7]) none)
    (.seq (.seq (.reg none [
      ⟨(some 16), .mov (.t 7), none⟩,
      ⟨(some 17), .bin .lss (.t 16) (.c (.int .i64 0)), none⟩] (some [1, 2, 3, 17]) none)
    (.cond (.t 17) (.seq (.reg none [
      ⟨(some 6), .mov (.c (.bool true)), none⟩] (some [6]) none)
    .ret)
    .skip))
    (.seq (.reg none [
      ⟨(some 19), .load (some 14) (.t 3), none⟩,
      ⟨(some 20), .call 24 [(.t 19)], none⟩,
      ⟨(some 21), .mov (.t 1), none⟩,
      ⟨(some 22), .call 16 [(.t 21)], none⟩,
      ⟨(some 23), .mov (.t 2), none⟩,
      ⟨(some 24), .call 26 [(.t 20), (.t 22), (.t 23)], none⟩,
      ⟨(some 18), .mov (.t 24), none⟩,
      ⟨(some 25), .ext (.t 18) 0, none⟩,
      ⟨(some 26), .ext (.t 18) 1, none⟩,
      ⟨(some 8), .mov (.t 25), none⟩,
      ⟨(some 9), .mov (.t 26), none⟩] (some [1, 2, 3, 8, 9]) none)
    (.seq (.reg none [
      ⟨(some 27), .mov (.t 1), none⟩,
      ⟨(some 28), .call 16 [(.t 27)], none⟩,
      ⟨(some 10), .mov (.t 28), none⟩] (some [1, 2, 3, 8, 9, 10]) none)
    (.seq (.reg none [
      ⟨(some 30), .load (some 14) (.t 3), none⟩,
      ⟨(some 31), .call 24 [(.t 30)], none⟩,
      ⟨(some 32), .mov (.t 10), none⟩,
      ⟨(some 33), .mov (.t 2), none⟩,
      ⟨(some 34), .call 27 [(.t 31), (.t 32), (.t 33)], none⟩,
      ⟨(some 29), .mov (.t 34), none⟩,
      ⟨(some 35), .ext (.t 29) 0, none⟩,
      ⟨(some 36), .ext (.t 29) 1, none⟩,
      ⟨(some 11), .mov (.t 35), none⟩,
      ⟨(some 12), .mov (.t 36), none⟩] (some [1, 8, 9, 10, 11, 12]) none)
    (.seq (.seq (.reg none [
      ⟨(some 37), .mov (.t 11), none⟩,
      ⟨(some 38), .mov (.t 8), none⟩,
      ⟨(some 39), .bin .neq (.t 37) (.t 38), none⟩,
      ⟨(some 40), .mov (.t 39), none⟩,
      ⟨(some 41), .mov (.t 12), some (40, false)⟩,
      ⟨(some 42), .mov (.t 9), some (40, false)⟩,
      ⟨(some 43), .bin .neq (.t 41) (.t 42), some (40, false)⟩,
      ⟨(some 44), .pick (.t 40) (.c (.bool true)) (.t 43), none⟩] (some [1, 10, 44]) none)
    (.cond (.t 44) (.seq (.reg none [
      ⟨(some 6), .mov (.c (.bool false)), none⟩] (some [6]) none)
    .ret)
    .skip))
    (.seq (.seq (.reg none [
      ⟨(some 45), .mov (.t 10), none⟩,
      ⟨(some 46), .mov (.t 1), none⟩,
      ⟨(some 47), .call 16 [(.t 46)], none⟩,
      ⟨(some 48), .call 18 [(.t 45), (.t 47)], none⟩,
      ⟨(some 49), .un .not (.t 48), none⟩] (some [49]) none)
    (.cond (.t 49) (.seq (.reg none [
      ⟨(some 6), .mov (.c (.bool false)), none⟩] (some [6]) none)
    .ret)
    .skip))
    (.seq (.reg none [
      ⟨(some 6), .mov (.c (.bool true)), none⟩] (some [6]) none)
    .ret))))))))))
def laws_FnExactReadWith_F : MF := ⟨50, [.t 6], laws_FnExactReadWith_M⟩
theorem laws_FnExactReadWith_ok : OkF Try.prog 6 laws_FnExactReadWith_F Try.f6 (bodyOf Try.f6) := ⟨Try.func6, by kernel_rfl, by kernel_rfl, by kernel_rfl, by kernel_rfl⟩
-- loop.example/g01312/laws.FnExactAlikeSchemes
def laws_FnExactAlikeSchemes_M : MC :=
  (.seq (.reg none [
      ⟨(some 2), .box (.t 0), none⟩,
      ⟨(some 3), .box (.t 1), none⟩,
      ⟨(some 4), .mov (.c (.bool false)), none⟩] (some [2, 3]) none)
    (.seq (.reg (some [(1, 2), (0, 3), (0, 4), (2, 4)]) [
      ⟨(some 10), .load (some 14) (.t 2), none⟩,
      ⟨(some 11), .call 24 [(.t 10)], none⟩,
      ⟨(some 12), .load (some 14) (.t 3), none⟩,
      ⟨(some 13), .call 24 [(.t 12)], none⟩,
      ⟨(some 14), .call 28 [(.t 11), (.t 13)], none⟩,
      ⟨(some 9), .mov (.t 14), none⟩,
      ⟨(some 15), .ext (.t 9) 0, none⟩,
      ⟨(some 16), .ext (.t 9) 1, none⟩,
      ⟨(some 5), .mov (.t 15), none⟩,
      ⟨(some 6), .mov (.t 16), none⟩] (some [2, 3, 5, 6]) none)
    (.seq (.reg (some [(1, 2), (0, 3), (0, 4), (2, 4)]) [
      ⟨(some 18), .load (some 14) (.t 2), none⟩,
      ⟨(some 19), .call 24 [(.t 18)], none⟩,
      ⟨(some 20), .load (some 14) (.t 3), none⟩,
      ⟨(some 21), .call 24 [(.t 20)], none⟩,
      ⟨(some 22), .call 29 [(.t 19), (.t 21)], none⟩,
      ⟨(some 17), .mov (.t 22), none⟩,
      ⟨(some 23), .ext (.t 17) 0, none⟩,
      ⟨(some 24), .ext (.t 17) 1, none⟩,
      ⟨(some 7), .mov (.t 23), none⟩,
      ⟨(some 8), .mov (.t 24), none⟩] (some [5, 6, 7, 8]) none)
    (.seq (.seq (.reg none [
      ⟨(some 25), .mov (.t 7), none⟩,
      ⟨(some 26), .mov (.t 5), none⟩,
      ⟨(some 27), .beq true (.t 25) (.t 26), none⟩,
      ⟨(some 28), .mov (.t 27), none⟩,
      ⟨(some 29), .mov (.t 8), some (28, false)⟩,
      ⟨(some 30), .mov (.t 6), some (28, false)⟩,
      ⟨(some 31), .bin .neq (.t 29) (.t 30), some (28, false)⟩,
      ⟨(some 32), .pick (.t 28) (.c (.bool true)) (.t 31), none⟩] (some [32]) none)
    (.cond (.t 32) (.seq (.reg none [
      ⟨(some 4), .mov (.c (.bool false)), none⟩] (some [4]) none)
    .ret)
    .skip))
    (.seq (.reg none [
      ⟨(some 4), .mov (.c (.bool true)), none⟩] (some [4]) none)
    .ret)))))
def laws_FnExactAlikeSchemes_F : MF := ⟨33, [.t 4], laws_FnExactAlikeSchemes_M⟩
theorem laws_FnExactAlikeSchemes_ok : OkF Try.prog 7 laws_FnExactAlikeSchemes_F Try.f7 (bodyOf Try.f7) := ⟨Try.func7, by kernel_rfl, by kernel_rfl, by kernel_rfl, by kernel_rfl⟩
-- loop.example/g01312/laws.FnExactLearnsNothing
def laws_FnExactLearnsNothing_M : MC :=
  (.seq (.reg none [
      ⟨(some 2), .box (.t 0), none⟩,
      ⟨(some 4), .mov (.c (.bool false)), none⟩] (some [1, 2]) none)
    (.seq (.reg none [
      ⟨(some 10), .load (some 14) (.t 2), none⟩,
      ⟨(some 11), .call 24 [(.t 10)], none⟩,
      ⟨(some 12), .mov (.t 1), none⟩,
      ⟨(some 13), .call 30 [(.t 11), (.t 12)], none⟩,
      ⟨(some 9), .mov (.t 13), none⟩,
      ⟨(some 14), .ext (.t 9) 0, none⟩,
      ⟨(some 15), .ext (.t 9) 1, none⟩,
      ⟨(some 5), .mov (.t 14), none⟩,
      ⟨(some 6), .mov (.t 15), none⟩] (some [1, 2, 5, 6]) none)
    (.seq (.reg none [
      ⟨(some 17), .load (some 14) (.t 2), none⟩,
      ⟨(some 18), .call 24 [(.t 17)], none⟩,
      ⟨(some 19), .mov (.t 1), none⟩,
      ⟨(some 20), .call 31 [(.t 18), (.t 19)], none⟩,
      ⟨(some 16), .mov (.t 20), none⟩,
      ⟨(some 21), .ext (.t 16) 0, none⟩,
      ⟨(some 22), .ext (.t 16) 1, none⟩,
      ⟨(some 7), .mov (.t 21), none⟩,
      ⟨(some 8), .mov (.t 22), none⟩] (some [5, 6, 7, 8]) none)
    (.seq (.seq (.reg none [
      ⟨(some 23), .mov (.t 7), none⟩,
      ⟨(some 24), .mov (.t 5), none⟩,
      ⟨(some 25), .beq true (.t 23) (.t 24), none⟩,
      ⟨(some 26), .mov (.t 25), none⟩,
      ⟨(some 27), .mov (.t 8), some (26, false)⟩,
      ⟨(some 28), .mov (.t 6), some (26, false)⟩,
      ⟨(some 29), .bin .neq (.t 27) (.t 28), some (26, false)⟩,
      ⟨(some 30), .pick (.t 26) (.c (.bool true)) (.t 29), none⟩] (some [30]) none)
    (.cond (.t 30) (.seq (.reg none [
      ⟨(some 4), .mov (.c (.bool false)), none⟩] (some [4]) none)
    .ret)
    .skip))
    (.seq (.reg none [
      ⟨(some 4), .mov (.c (.bool true)), none⟩] (some [4]) none)
    .ret)))))
def laws_FnExactLearnsNothing_F : MF := ⟨31, [.t 4], laws_FnExactLearnsNothing_M⟩
theorem laws_FnExactLearnsNothing_ok : OkF Try.prog 8 laws_FnExactLearnsNothing_F Try.f8 (bodyOf Try.f8) := ⟨Try.func8, by kernel_rfl, by kernel_rfl, by kernel_rfl, by kernel_rfl⟩
-- loop.example/g01312/laws.FnExactSortScheme
def laws_FnExactSortScheme_M : MC :=
  (.seq (.reg none [
      ⟨(some 1), .box (.t 0), none⟩,
      ⟨(some 2), .mov (.c (.bool false)), none⟩] (some [1]) none)
    (.seq (.reg none [
      ⟨(some 8), .load (some 14) (.t 1), none⟩,
      ⟨(some 9), .call 24 [(.t 8)], none⟩,
      ⟨(some 10), .call 32 [(.t 9)], none⟩,
      ⟨(some 7), .mov (.t 10), none⟩,
      ⟨(some 11), .ext (.t 7) 0, none⟩,
      ⟨(some 12), .ext (.t 7) 1, none⟩,
      ⟨(some 3), .new (rl [(2, .int .i8 0), (12, .int .u8 0)]), none⟩,
      ⟨none, .store 14 (.t 3) (.t 11), none⟩,
      ⟨(some 4), .mov (.t 12), none⟩] (some [1, 3, 4]) none)
    (.seq (.reg none [
      ⟨(some 14), .load (some 14) (.t 1), none⟩,
      ⟨(some 15), .call 24 [(.t 14)], none⟩,
      ⟨(some 16), .call 33 [(.t 15)], none⟩,
      ⟨(some 13), .mov (.t 16), none⟩,
      ⟨(some 17), .ext (.t 13) 0, none⟩,
      ⟨(some 18), .ext (.t 13) 1, none⟩,
      ⟨(some 5), .new (rl [(2, .int .i8 0), (12, .int .u8 0)]), none⟩,
      ⟨none, .store 14 (.t 5) (.t 17), none⟩,
      ⟨(some 6), .mov (.t 18), none⟩] (some [3, 4, 5, 6]) none)
    (.seq (.seq (.reg none [
      ⟨(some 19), .load (some 14) (.t 5), none⟩,
      ⟨(some 20), .load (some 14) (.t 3), none⟩,
      ⟨(some 21), .call 34 [(.t 19), (.t 20)], none⟩,
      ⟨(some 22), .un .not (.t 21), none⟩,
      ⟨(some 23), .mov (.t 22), none⟩,
      ⟨(some 24), .mov (.t 6), some (23, false)⟩,
      ⟨(some 25), .mov (.t 4), some (23, false)⟩,
      ⟨(some 26), .bin .neq (.t 24) (.t 25), some (23, false)⟩,
      ⟨(some 27), .pick (.t 23) (.c (.bool true)) (.t 26), none⟩] (some [27]) none)
    (.cond (.t 27) (.seq (.reg none [
      ⟨(some 2), .mov (.c (.bool false)), none⟩] (some [2]) none)
    .ret)
    .skip))
    (.seq (.reg none [
      ⟨(some 2), .mov (.c (.bool true)), none⟩] (some [2]) none)
    .ret)))))
def laws_FnExactSortScheme_F : MF := ⟨28, [.t 2], laws_FnExactSortScheme_M⟩
theorem laws_FnExactSortScheme_ok : OkF Try.prog 9 laws_FnExactSortScheme_F Try.f9 (bodyOf Try.f9) := ⟨Try.func9, by kernel_rfl, by kernel_rfl, by kernel_rfl, by kernel_rfl⟩
-- loop.example/g01312/laws.FnExactBlindSets
def laws_FnExactBlindSets_M : MC :=
  (.seq (.reg none [
      ⟨(some 1), .box (.t 0), none⟩,
      ⟨(some 2), .mov (.c (.bool false)), none⟩] (some [1]) none)
    (.seq (.reg none [
      ⟨(some 8), .load (some 14) (.t 1), none⟩,
      ⟨(some 9), .call 24 [(.t 8)], none⟩,
      ⟨(some 10), .call 35 [(.t 9)], none⟩,
      ⟨(some 7), .mov (.t 10), none⟩,
      ⟨(some 11), .ext (.t 7) 0, none⟩,
      ⟨(some 12), .ext (.t 7) 1, none⟩,
      ⟨(some 3), .mov (.t 11), none⟩,
      ⟨(some 4), .mov (.t 12), none⟩] (some [1, 3, 4]) none)
    (.seq (.reg none [
      ⟨(some 14), .load (some 14) (.t 1), none⟩,
      ⟨(some 15), .call 24 [(.t 14)], none⟩,
      ⟨(some 16), .call 36 [(.t 15)], none⟩,
      ⟨(some 13), .mov (.t 16), none⟩,
      ⟨(some 17), .ext (.t 13) 0, none⟩,
      ⟨(some 18), .ext (.t 13) 1, none⟩,
      ⟨(some 5), .mov (.t 17), none⟩,
      ⟨(some 6), .mov (.t 18), none⟩] (some [3, 4, 5, 6]) none)
    (.seq (.seq (.reg none [
      ⟨(some 19), .mov (.t 5), none⟩,
      ⟨(some 20), .mov (.t 3), none⟩,
      ⟨(some 21), .bin .neq (.t 19) (.t 20), none⟩,
      ⟨(some 22), .mov (.t 21), none⟩,
      ⟨(some 23), .mov (.t 6), some (22, false)⟩,
      ⟨(some 24), .mov (.t 4), some (22, false)⟩,
      ⟨(some 25), .bin .neq (.t 23) (.t 24), some (22, false)⟩,
      ⟨(some 26), .pick (.t 22) (.c (.bool true)) (.t 25), none⟩] (some [26]) none)
    (.cond (.t 26) (.seq (.reg none [
      ⟨(some 2), .mov (.c (.bool false)), none⟩] (some [2]) none)
    .ret)
    .skip))
    (.seq (.reg none [
      ⟨(some 2), .mov (.c (.bool true)), none⟩] (some [2]) none)
    .ret)))))
def laws_FnExactBlindSets_F : MF := ⟨27, [.t 2], laws_FnExactBlindSets_M⟩
theorem laws_FnExactBlindSets_ok : OkF Try.prog 10 laws_FnExactBlindSets_F Try.f10 (bodyOf Try.f10) := ⟨Try.func10, by kernel_rfl, by kernel_rfl, by kernel_rfl, by kernel_rfl⟩
-- loop.example/g01312/laws.FnExactIsSound
def laws_FnExactIsSound_M : MC :=
  (.seq (.reg none [
      ⟨(some 1), .box (.t 0), none⟩,
      ⟨(some 2), .mov (.c (.bool false)), none⟩] (some [1]) none)
    (.seq (.reg none [
      ⟨(some 8), .load (some 14) (.t 1), none⟩,
      ⟨(some 9), .call 24 [(.t 8)], none⟩,
      ⟨(some 10), .call 37 [(.t 9)], none⟩,
      ⟨(some 7), .mov (.t 10), none⟩,
      ⟨(some 11), .ext (.t 7) 0, none⟩,
      ⟨(some 12), .ext (.t 7) 1, none⟩,
      ⟨(some 3), .mov (.t 11), none⟩,
      ⟨(some 4), .mov (.t 12), none⟩] (some [1, 3, 4]) none)
    (.seq (.reg none [
      ⟨(some 14), .load (some 14) (.t 1), none⟩,
      ⟨(some 15), .call 24 [(.t 14)], none⟩,
      ⟨(some 16), .call 38 [(.t 15)], none⟩,
      ⟨(some 13), .mov (.t 16), none⟩,
      ⟨(some 17), .ext (.t 13) 0, none⟩,
      ⟨(some 18), .ext (.t 13) 1, none⟩,
      ⟨(some 5), .mov (.t 17), none⟩,
      ⟨(some 6), .mov (.t 18), none⟩] (some [3, 4, 5, 6]) none)
    (.seq (.seq (.reg none [
      ⟨(some 19), .mov (.t 5), none⟩,
      ⟨(some 20), .mov (.t 3), none⟩,
      ⟨(some 21), .beq true (.t 19) (.t 20), none⟩,
      ⟨(some 22), .mov (.t 21), none⟩,
      ⟨(some 23), .mov (.t 6), some (22, false)⟩,
      ⟨(some 24), .mov (.t 4), some (22, false)⟩,
      ⟨(some 25), .bin .neq (.t 23) (.t 24), some (22, false)⟩,
      ⟨(some 26), .pick (.t 22) (.c (.bool true)) (.t 25), none⟩] (some [26]) none)
    (.cond (.t 26) (.seq (.reg none [
      ⟨(some 2), .mov (.c (.bool false)), none⟩] (some [2]) none)
    .ret)
    .skip))
    (.seq (.reg none [
      ⟨(some 2), .mov (.c (.bool true)), none⟩] (some [2]) none)
    .ret)))))
def laws_FnExactIsSound_F : MF := ⟨27, [.t 2], laws_FnExactIsSound_M⟩
theorem laws_FnExactIsSound_ok : OkF Try.prog 11 laws_FnExactIsSound_F Try.f11 (bodyOf Try.f11) := ⟨Try.func11, by kernel_rfl, by kernel_rfl, by kernel_rfl, by kernel_rfl⟩
-- loop.example/g01312/laws.FnExactCancelColumns
def laws_FnExactCancelColumns_M : MC :=
  (.seq (.reg none [
      ⟨(some 1), .box (.t 0), none⟩,
      ⟨(some 2), .mov (.c (.bool false)), none⟩] (some [1]) none)
    (.seq (.reg none [
      ⟨(some 8), .load (some 14) (.t 1), none⟩,
      ⟨(some 9), .call 24 [(.t 8)], none⟩,
      ⟨(some 10), .call 39 [(.t 9)], none⟩,
      ⟨(some 7), .mov (.t 10), none⟩,
      ⟨(some 11), .ext (.t 7) 0, none⟩,
      ⟨(some 12), .ext (.t 7) 1, none⟩,
      ⟨(some 3), .new (rl [(2, .int .i8 0), (12, .int .u8 0)]), none⟩,
      ⟨none, .store 14 (.t 3) (.t 11), none⟩,
      ⟨(some 4), .mov (.t 12), none⟩] (some [1, 3, 4]) none)
    (.seq (.reg none [
      ⟨(some 14), .load (some 14) (.t 1), none⟩,
      ⟨(some 15), .call 24 [(.t 14)], none⟩,
      ⟨(some 16), .call 40 [(.t 15)], none⟩,
      ⟨(some 13), .mov (.t 16), none⟩,
      ⟨(some 17), .ext (.t 13) 0, none⟩,
      ⟨(some 18), .ext (.t 13) 1, none⟩,
      ⟨(some 5), .new (rl [(2, .int .i8 0), (12, .int .u8 0)]), none⟩,
      ⟨none, .store 14 (.t 5) (.t 17), none⟩,
      ⟨(some 6), .mov (.t 18), none⟩] (some [3, 4, 5, 6]) none)
    (.seq (.seq (.reg none [
      ⟨(some 19), .load (some 14) (.t 5), none⟩,
      ⟨(some 20), .load (some 14) (.t 3), none⟩,
      ⟨(some 21), .call 34 [(.t 19), (.t 20)], none⟩,
      ⟨(some 22), .un .not (.t 21), none⟩,
      ⟨(some 23), .mov (.t 22), none⟩,
      ⟨(some 24), .mov (.t 6), some (23, false)⟩,
      ⟨(some 25), .mov (.t 4), some (23, false)⟩,
      ⟨(some 26), .bin .neq (.t 24) (.t 25), some (23, false)⟩,
      ⟨(some 27), .pick (.t 23) (.c (.bool true)) (.t 26), none⟩] (some [27]) none)
    (.cond (.t 27) (.seq (.reg none [
      ⟨(some 2), .mov (.c (.bool false)), none⟩] (some [2]) none)
    .ret)
    .skip))
    (.seq (.reg none [
      ⟨(some 2), .mov (.c (.bool true)), none⟩] (some [2]) none)
    .ret)))))
def laws_FnExactCancelColumns_F : MF := ⟨28, [.t 2], laws_FnExactCancelColumns_M⟩
theorem laws_FnExactCancelColumns_ok : OkF Try.prog 12 laws_FnExactCancelColumns_F Try.f12 (bodyOf Try.f12) := ⟨Try.func12, by kernel_rfl, by kernel_rfl, by kernel_rfl, by kernel_rfl⟩
-- loop.example/g01312/laws.FnExactColumnsAt
def laws_FnExactColumnsAt_M : MC :=
  (.seq (.reg none [
      ⟨(some 4), .mov (.c (.bool false)), none⟩] (some [0, 1]) none)
    (.seq (.reg none [
      ⟨(some 5), .mov (.c (.int .i64 1048576)), none⟩] (some [0, 1, 5]) none)
    (.seq (.reg none [
      ⟨(some 16), .mov (.t 0), none⟩,
      ⟨(some 17), .mov (.t 5), none⟩,
      ⟨(some 18), .call 14 [(.t 16), (.t 17)], none⟩,
      ⟨(some 5), .mov (.t 18), none⟩] (some [0, 1, 5]) none)
    (.seq (.seq (.reg none [
      ⟨(some 19), .mov (.t 5), none⟩,
      ⟨(some 20), .bin .lss (.t 19) (.c (.int .i64 0)), none⟩] (some [0, 1, 20]) none)
    (.cond (.t 20) (.seq (.reg none [
      ⟨(some 4), .mov (.c (.bool true)), none⟩] (some [4]) none)
    .ret)
    .skip))
    (.seq (.reg none [
      ⟨(some 22), .mov (.t 0), none⟩,
      ⟨(some 23), .call 16 [(.t 22)], none⟩,
      ⟨(some 24), .mov (.t 1), none⟩,
      ⟨(some 25), .call 41 [(.t 23), (.t 24)], none⟩,
      ⟨(some 21), .mov (.t 25), none⟩,
      ⟨(some 26), .ext (.t 21) 0, none⟩,
      ⟨(some 27), .ext (.t 21) 1, none⟩,
      ⟨(some 6), .mov (.t 26), none⟩,
      ⟨(some 7), .mov (.t 27), none⟩] (some [0, 1, 6, 7]) none)
    (.seq (.reg none [
      ⟨(some 28), .mov (.t 0), none⟩,
      ⟨(some 29), .call 16 [(.t 28)], none⟩,
      ⟨(some 8), .mov (.t 29), none⟩] (some [0, 1, 6, 7, 8]) none)
    (.seq (.reg none [
      ⟨(some 31), .mov (.t 8), none⟩,
      ⟨(some 32), .mov (.t 1), none⟩,
      ⟨(some 33), .call 42 [(.t 31), (.t 32)], none⟩,
      ⟨(some 30), .mov (.t 33), none⟩,
      ⟨(some 34), .ext (.t 30) 0, none⟩,
      ⟨(some 35), .ext (.t 30) 1, none⟩,
      ⟨(some 9), .mov (.t 34), none⟩,
      ⟨(some 10), .mov (.t 35), none⟩] (some [0, 1, 6, 7, 8, 9, 10]) none)
    (.seq (.seq (.reg none [
      ⟨(some 36), .mov (.t 9), none⟩,
      ⟨(some 37), .mov (.t 6), none⟩,
      ⟨(some 38), .call 43 [(.t 36), (.t 37)], none⟩,
      ⟨(some 39), .un .not (.t 38), none⟩,
      ⟨(some 40), .mov (.t 39), none⟩,
      ⟨(some 41), .mov (.t 10), some (40, false)⟩,
      ⟨(some 42), .mov (.t 7), some (40, false)⟩,
      ⟨(some 43), .bin .neq (.t 41) (.t 42), some (40, false)⟩,
      ⟨(some 44), .pick (.t 40) (.c (.bool true)) (.t 43), none⟩] (some [0, 1, 6, 7, 8, 9, 10, 44]) none)
    (.cond (.t 44) (.seq (.reg none [
      ⟨(some 4), .mov (.c (.bool false)), none⟩] (some [4]) none)
    .ret)
    .skip))
    (.seq (.seq (.reg none [
      ⟨(some 45), .mov (.t 8), none⟩,
      ⟨(some 46), .mov (.t 0), none⟩,
      ⟨(some 47), .call 16 [(.t 46)], none⟩,
      ⟨(some 48), .call 18 [(.t 45), (.t 47)], none⟩,
      ⟨(some 49), .un .not (.t 48), none⟩] (some [0, 1, 6, 7, 8, 9, 10, 49]) none)
    (.cond (.t 49) (.seq (.reg none [
      ⟨(some 4), .mov (.c (.bool false)), none⟩] (some [4]) none)
    .ret)
    .skip))
    (.seq (.reg none [
      ⟨(some 11), .mov (.c (.int .i64 1)), none⟩] (some [0, 1, 6, 7, 8, 9, 10, 11]) none)
    (.seq (.reg none [
      ⟨(some 50), .mov (.t 8), none⟩,
      ⟨(some 51), .mov (.t 11), none⟩,
      ⟨(some 52), .call 19 [(.t 50), (.t 51)], none⟩,
      ⟨(some 11), .mov (.t 52), none⟩] (some [0, 1, 6, 7, 9, 10, 11]) none)
    (.seq (.seq (.reg none [
      ⟨(some 53), .mov (.t 11), none⟩,
      ⟨(some 54), .bin .lss (.t 53) (.c (.int .i64 0)), none⟩,
      ⟨(some 55), .mov (.t 54), none⟩,
      ⟨(some 56), .mov (.t 9), some (55, false)⟩,
      ⟨(some 57), .mov (.t 6), some (55, false)⟩,
      ⟨(some 58), .call 43 [(.t 56), (.t 57)], some (55, false)⟩,
      ⟨(some 59), .un .not (.t 58), some (55, false)⟩,
      ⟨(some 60), .pick (.t 55) (.c (.bool true)) (.t 59), none⟩,
      ⟨(some 61), .mov (.t 60), none⟩,
      ⟨(some 62), .mov (.t 10), some (61, false)⟩,
      ⟨(some 63), .mov (.t 7), some (61, false)⟩,
      ⟨(some 64), .bin .neq (.t 62) (.t 63), some (61, false)⟩,
      ⟨(some 65), .pick (.t 61) (.c (.bool true)) (.t 64), none⟩] (some [0, 1, 6, 7, 9, 65]) none)
    (.cond (.t 65) (.seq (.reg none [
      ⟨(some 4), .mov (.c (.bool false)), none⟩] (some [4]) none)
    .ret)
    .skip))
    (.seq (.reg none [
      ⟨(some 12), .mov (.c (.int .i64 1)), none⟩] (some [0, 1, 6, 7, 9, 12]) none)
    (.seq (.reg none [
      ⟨(some 66), .mov (.t 9), none⟩,
      ⟨(some 67), .mov (.t 12), none⟩,
      ⟨(some 68), .call 44 [(.t 66), (.t 67)], none⟩,
      ⟨(some 12), .mov (.t 68), none⟩] (some [0, 1, 6, 7, 9, 12]) none)
    (.seq (.reg none [
      ⟨(some 13), .mov (.c (.int .i64 1)), none⟩] (some [0, 1, 6, 7, 9, 12, 13]) none)
    (.seq (.reg none [
      ⟨(some 69), .mov (.t 9), none⟩,
      ⟨(some 70), .mov (.t 13), none⟩,
      ⟨(some 71), .call 45 [(.t 69), (.t 70)], none⟩,
      ⟨(some 13), .mov (.t 71), none⟩] (some [0, 1, 6, 7, 9, 12, 13]) none)
    (.seq (.seq (.reg none [
      ⟨(some 72), .mov (.t 13), none⟩,
      ⟨(some 73), .bin .lss (.t 72) (.c (.int .i64 0)), none⟩] (some [0, 1, 6, 7, 9, 12, 13, 73]) none)
    (.cond (.t 73) (.seq (.reg none [
      ⟨(some 4), .mov (.c (.bool false)), none⟩] (some [4]) none)
    .ret)
    .skip))
    (.seq (.seq (.reg none [
      ⟨(some 74), .mov (.t 13), none⟩,
      ⟨(some 75), .mov (.t 12), none⟩,
      ⟨(some 76), .bin .neq (.t 74) (.t 75), none⟩] (some [0, 1, 6, 7, 9, 12, 76]) none)
    (.cond (.t 76) (.seq (.reg none [
      ⟨(some 4), .mov (.c (.bool false)), none⟩] (some [4]) none)
    .ret)
    .skip))
    (.seq (.reg none [
      ⟨(some 78), .mov (.t 0), none⟩,
      ⟨(some 79), .call 16 [(.t 78)], none⟩,
      ⟨(some 80), .mov (.t 1), none⟩,
      ⟨(some 81), .call 42 [(.t 79), (.t 80)], none⟩,
      ⟨(some 77), .mov (.t 81), none⟩,
      ⟨(some 82), .ext (.t 77) 0, none⟩,
      ⟨(some 83), .ext (.t 77) 1, none⟩,
      ⟨(some 14), .mov (.t 82), none⟩,
      ⟨(some 15), .mov (.t 83), none⟩] (some [6, 7, 9, 12, 14, 15]) none)
    (.seq (.seq (.reg none [
      ⟨(some 84), .mov (.t 14), none⟩,
      ⟨(some 85), .mov (.t 6), none⟩,
      ⟨(some 86), .call 43 [(.t 84), (.t 85)], none⟩,
      ⟨(some 87), .un .not (.t 86), none⟩,
      ⟨(some 88), .mov (.t 87), none⟩,
      ⟨(some 89), .mov (.t 15), some (88, false)⟩,
      ⟨(some 90), .mov (.t 7), some (88, false)⟩,
      ⟨(some 91), .bin .neq (.t 89) (.t 90), some (88, false)⟩,
      ⟨(some 92), .pick (.t 88) (.c (.bool true)) (.t 91), none⟩] (some [9, 12, 92]) none)
    (.cond (.t 92) (.seq (.reg none [
      ⟨(some 4), .mov (.c (.bool false)), none⟩] (some [4]) none)
    .ret)
    .skip))
    (.seq (.reg none [
      ⟨(some 13), .mov (.c (.int .i64 1)), none⟩] (some [9, 12, 13]) none)
    (.seq (.reg none [
      ⟨(some 93), .mov (.t 9), none⟩,
      ⟨(some 94), .mov (.t 13), none⟩,
      ⟨(some 95), .call 45 [(.t 93), (.t 94)], none⟩,
      ⟨(some 13), .mov (.t 95), none⟩] (some [12, 13]) none)
    (.seq (.seq (.reg none [
      ⟨(some 96), .mov (.t 13), none⟩,
      ⟨(some 97), .bin .lss (.t 96) (.c (.int .i64 0)), none⟩] (some [12, 13, 97]) none)
    (.cond (.t 97) (.seq (.reg none [
      ⟨(some 4), .mov (.c (.bool false)), none⟩] (some [4]) none)
    .ret)
    .skip))
    (.seq (.seq (.reg none [
      ⟨(some 98), .mov (.t 13), none⟩,
      ⟨(some 99), .mov (.t 12), none⟩,
      ⟨(some 100), .bin .neq (.t 98) (.t 99), none⟩] (some [100]) none)
    (.cond (.t 100) (.seq (.reg none [
      ⟨(some 4), .mov (.c (.bool false)), none⟩] (some [4]) none)
    .ret)
    .skip))
    (.seq (.reg none [
      ⟨(some 4), .mov (.c (.bool true)), none⟩] (some [4]) none)
    .ret)))))))))))))))))))))))))
def laws_FnExactColumnsAt_F : MF := ⟨101, [.t 4], laws_FnExactColumnsAt_M⟩
theorem laws_FnExactColumnsAt_ok : OkF Try.prog 13 laws_FnExactColumnsAt_F Try.f13 (bodyOf Try.f13) := ⟨Try.func13, by kernel_rfl, by kernel_rfl, by kernel_rfl, by kernel_rfl⟩
-- loop.example/g01312/laws.szLayerS
def laws_szLayerS_M : MC :=
  (.seq (.reg none [
      ⟨(some 4), .mov (.c (.int .i64 0)), none⟩] (some [0, 1]) none)
    (.seq (.reg none [
      ⟨(some 5), .mov (.t 1), none⟩,
      ⟨(some 6), .mov (.t 0), none⟩,
      ⟨(some 7), .lenS (.t 6), none⟩,
      ⟨(some 8), .bin .sub (.t 5) (.t 7), none⟩,
      ⟨(some 1), .mov (.t 8), none⟩] (some [1]) none)
    (.seq (.seq (.reg none [
      ⟨(some 9), .mov (.t 1), none⟩,
      ⟨(some 10), .bin .lss (.t 9) (.c (.int .i64 0)), none⟩] (some [1, 10]) none)
    (.cond (.t 10) (.seq (.reg none [
      ⟨(some 4), .mov (.c (.int .i64 (-1))), none⟩] (some [4]) none)
    .ret)
    .skip))
    (.seq (.reg none [
      ⟨(some 11), .mov (.t 1), none⟩,
      ⟨(some 4), .mov (.t 11), none⟩] (some [4]) none)
    .ret))))
def laws_szLayerS_F : MF := ⟨12, [.t 4], laws_szLayerS_M⟩
theorem laws_szLayerS_ok : OkF Try.prog 14 laws_szLayerS_F Try.f14 (bodyOf Try.f14) := ⟨Try.func14, by kernel_rfl, by kernel_rfl, by kernel_rfl, by kernel_rfl⟩
-- loop.example/g01312/spec.TurnShared
def spec_TurnShared_L0 : MC :=
  (.seq (.seq (.reg none [
      ⟨(some 14), .mov (.t 6), none⟩,
      ⟨(some 15), .mov (.t 0), none⟩,
      ⟨(some 16), .lenS (.t 15), none⟩,
      ⟨(some 17), .bin .lss (.t 14) (.t 16), none⟩] (some [0, 5, 6, 17]) none)
    (.cond (.t 17) .skip
    (.exit 0)))
    (.seq (.block 1 (.reg none [
      ⟨(some 20), .mov (.t 5), none⟩,
      ⟨(some 21), .mov (.t 0), none⟩,
      ⟨(some 22), .mov (.t 6), none⟩,
      ⟨(some 23), .iaS 65 (.t 21) (.t 22), none⟩,
      ⟨(some 24), .call 47 [(.t 23), (.c (.int .i64 0)), (.c (.int .i64 0)), (.c (.int .i64 0))], none⟩,
      ⟨(some 25), .bldS (rl [(1, .int .i8 0), (64, .int .u8 0)]) 1 [(0, 65, (.t 24))], none⟩,
      ⟨(some 26), .app (rl [(1, .int .i8 0), (64, .int .u8 0)]) 65 false (.t 20) (.t 25), none⟩,
      ⟨(some 5), .mov (.t 26), none⟩] (some [0, 5, 6]) none))
    (.reg none [
      ⟨(some 18), .mov (.t 6), none⟩,
      ⟨(some 19), .bin .add (.t 18) (.c (.int .i64 1)), none⟩,
      ⟨(some 6), .mov (.t 19), none⟩] (some [0, 5, 6]) (some 1))))
def spec_TurnShared_M : MC :=
  (.seq (.reg none [
      ⟨(some 2), .mov (.c (.nilsl)), none⟩,
      ⟨(some 3), .mov (.c (.int .i64 0)), none⟩] (some [0]) none)
    (.seq (.seq (.reg none [
      ⟨(some 7), .mov (.t 0), none⟩,
      ⟨(some 8), .call 46 [(.t 7)], none⟩,
      ⟨(some 4), .mov (.t 8), none⟩] (some [0, 4]) none)
    (.seq (.reg none [
      ⟨(some 9), .mov (.t 4), none⟩,
      ⟨(some 10), .bin .neq (.t 9) (.c (.int .i64 0)), none⟩] (some [0, 4, 10]) none)
    (.cond (.t 10) (.seq (.reg none [
      ⟨(some 11), .bldS (rl [(1, .int .i8 0), (64, .int .u8 0)]) 0 [], none⟩,
      ⟨(some 12), .mov (.t 4), none⟩,
      ⟨(some 2), .mov (.t 11), none⟩,
      ⟨(some 3), .mov (.t 12), none⟩] (some [2, 3]) none)
    .ret)
    .skip)))
    (.seq (.reg none [
      ⟨(some 13), .bldS (rl [(1, .int .i8 0), (64, .int .u8 0)]) 0 [], none⟩,
      ⟨(some 5), .mov (.t 13), none⟩] (some [0, 5]) none)
    (.seq (.seq (.reg none [
      ⟨(some 6), .mov (.c (.int .i64 0)), none⟩] (some [0, 5, 6]) none)
    (.block 0 (.loop spec_TurnShared_L0)))
    (.seq (.reg none [
      ⟨(some 27), .mov (.t 5), none⟩,
      ⟨(some 2), .mov (.t 27), none⟩,
      ⟨(some 3), .mov (.c (.int .i64 0)), none⟩] (some [2, 3]) none)
    .ret)))))
def spec_TurnShared_F : MF := ⟨28, [.t 2, .t 3], spec_TurnShared_M⟩
theorem spec_TurnShared_ok : OkF Try.prog 15 spec_TurnShared_F Try.f15 (bodyOf Try.f15) := ⟨Try.func15, by kernel_rfl, by kernel_rfl, by kernel_rfl, by kernel_rfl⟩
-- loop.example/g01312/laws.toLayerS
def laws_toLayerS_L0 : MC :=
  (.seq (.seq (.reg none [
      ⟨(some 8), .mov (.t 4), none⟩,
      ⟨(some 9), .mov (.t 0), none⟩,
      ⟨(some 10), .lenS (.t 9), none⟩,
      ⟨(some 11), .bin .lss (.t 8) (.t 10), none⟩] (some [0, 3, 4, 11]) none)
    (.cond (.t 11) .skip
    (.exit 0)))
    (.seq (.block 1 (.reg none [
      ⟨(some 14), .mov (.t 3), none⟩,
      ⟨(some 15), .mov (.t 4), none⟩,
      ⟨(some 16), .mov (.t 0), none⟩,
      ⟨(some 17), .mov (.t 4), none⟩,
      ⟨(some 18), .iaS 65 (.t 16) (.t 17), none⟩,
      ⟨(some 19), .load (some 65) (.t 18), none⟩,
      ⟨(some 20), .call 48 [(.t 19)], none⟩,
      ⟨(some 21), .iaS 65 (.t 14) (.t 15), none⟩,
      ⟨none, .store 65 (.t 21) (.t 20), none⟩] (some [0, 3, 4]) none))
    (.reg none [
      ⟨(some 12), .mov (.t 4), none⟩,
      ⟨(some 13), .bin .add (.t 12) (.c (.int .i64 1)), none⟩,
      ⟨(some 4), .mov (.t 13), none⟩] (some [0, 3, 4]) none)))
def laws_toLayerS_M : MC :=
  (.seq (.reg none [
      ⟨(some 2), .mov (.c (.nilsl)), none⟩] (some [0]) none)
    (.seq (.reg none [
      ⟨(some 5), .mov (.t 0), none⟩,
      ⟨(some 6), .lenS (.t 5), none⟩,
      ⟨(some 7), .mks (rl [(1, .int .i8 0), (64, .int .u8 0)]) 65 (.t 6) (.t 6), none⟩,
      ⟨(some 3), .mov (.t 7), none⟩] (some [0, 3]) none)
    (.seq (.seq (.reg none [
      ⟨(some 4), .mov (.c (.int .i64 0)), none⟩] (some [0, 3, 4]) none)
    (.block 0 (.loop laws_toLayerS_L0)))
    (.seq (.reg none [
      ⟨(some 22), .mov (.t 3), none⟩,
      ⟨(some 2), .mov (.t 22), none⟩] (some [2]) none)
    .ret))))
def laws_toLayerS_F : MF := ⟨23, [.t 2], laws_toLayerS_M⟩
theorem laws_toLayerS_ok : OkF Try.prog 16 laws_toLayerS_F Try.f16 (bodyOf Try.f16) := ⟨Try.func16, by kernel_rfl, by kernel_rfl, by kernel_rfl, by kernel_rfl⟩
-- loop.example/g01312/impl.TurnShared
def impl_TurnShared_L0 : MC :=
  (.seq (.reg none [
      ⟨(some 19), .bin .lss (.t 18) (.t 17), none⟩] (some [5, 16, 17, 18, 19]) none)
    (.seq (.cond (.t 19) .skip
    (.exit 0))
    (.seq (.block 1 (.seq (.reg none [
      ⟨(some 20), .iaS 65 (.t 16) (.t 18), none⟩,
      ⟨(some 21), .load (some 65) (.t 20), none⟩,
      ⟨(some 7), .new (rl [(1, .int .i8 0), (64, .int .u8 0)]), none⟩,
      ⟨none, .store 65 (.t 7) (.t 21), none⟩] (some [5, 7, 16, 17, 18]) none)
    (.seq (.reg none [
      ⟨(some 23), .load (some 65) (.t 7), none⟩,
      ⟨(some 24), .call 50 [(.t 23)], none⟩,
      ⟨(some 22), .mov (.t 24), none⟩,
      ⟨(some 25), .ext (.t 22) 0, none⟩,
      ⟨(some 26), .ext (.t 22) 1, none⟩,
      ⟨(some 8), .new (rl [(1, .int .i8 0), (64, .int .u8 0)]), none⟩,
      ⟨none, .store 65 (.t 8) (.t 25), none⟩,
      ⟨(some 9), .mov (.t 26), none⟩] (some [5, 8, 16, 17, 18]) none)
    (.reg none [
      ⟨(some 27), .mov (.t 5), none⟩,
      ⟨(some 28), .load (some 65) (.t 8), none⟩,
      ⟨(some 29), .bldS (rl [(1, .int .i8 0), (64, .int .u8 0)]) 1 [(0, 65, (.t 28))], none⟩,
      ⟨(some 30), .app (rl [(1, .int .i8 0), (64, .int .u8 0)]) 65 false (.t 27) (.t 29), none⟩,
      ⟨(some 5), .mov (.t 30), none⟩] (some [5, 16, 17, 18]) none))))
    (.reg none [
      ⟨(some 31), .bin .add (.t 18) (.c (.int .i64 1)), none⟩,
      ⟨(some 18), .mov (.t 31), none⟩] (some [5, 16, 17, 18]) (some 1)))))
def impl_TurnShared_M : MC :=
  (.seq (.reg none [
      ⟨(some 2), .mov (.c (.nilsl)), none⟩,
      ⟨(some 3), .mov (.c (.int .i64 0)), none⟩] (some [0]) none)
    (.seq (.seq (.reg none [
      ⟨(some 10), .mov (.t 0), none⟩,
      ⟨(some 11), .call 49 [(.t 10)], none⟩,
      ⟨(some 4), .mov (.t 11), none⟩] (some [0, 4]) none)
    (.seq (.reg none [
      ⟨(some 12), .mov (.t 4), none⟩,
      ⟨(some 13), .bin .neq (.t 12) (.c (.int .i64 0)), none⟩] (some [0, 4, 13]) none)
    (.cond (.t 13) (.seq (.reg none [
      ⟨(some 14), .mov (.t 4), none⟩,
      ⟨(some 2), .mov (.c (.nilsl)), none⟩,
      ⟨(some 3), .mov (.t 14), none⟩] (some [2, 3]) none)
    .ret)
    .skip)))
    (.seq (.reg none [
      ⟨(some 15), .bldS (rl [(1, .int .i8 0), (64, .int .u8 0)]) 0 [], none⟩,
      ⟨(some 5), .mov (.t 15), none⟩] (some [0, 5]) none)
    (.seq (.seq (.reg none [
      ⟨(some 16), .mov (.t 0), none⟩,
      ⟨(some 17), .lenS (.t 16), none⟩,
      ⟨(some 18), .mov (.c (.int .i64 0)), none⟩] (some [5, 16, 17, 18]) none)
    (.block 0 (.loop impl_TurnShared_L0)))
    (.seq (.reg none [
      ⟨(some 32), .mov (.t 5), none⟩,
      ⟨(some 2), .mov (.t 32), none⟩,
      ⟨(some 3), .mov (.c (.int .i64 0)), none⟩] (some [2, 3]) none)
    .ret)))))
def impl_TurnShared_F : MF := ⟨33, [.t 2, .t 3], impl_TurnShared_M⟩
theorem impl_TurnShared_ok : OkF Try.prog 17 impl_TurnShared_F Try.f17 (bodyOf Try.f17) := ⟨Try.func17, by kernel_rfl, by kernel_rfl, by kernel_rfl, by kernel_rfl⟩
-- loop.example/g01312/laws.eqLayerS
def laws_eqLayerS_L0 : MC :=
  (.seq (.seq (.reg none [
      ⟨(some 11), .mov (.t 5), none⟩,
      ⟨(some 12), .mov (.t 0), none⟩,
      ⟨(some 13), .lenS (.t 12), none⟩,
      ⟨(some 14), .bin .lss (.t 11) (.t 13), none⟩] (some [0, 1, 5, 14]) none)
    (.cond (.t 14) .skip
    (.exit 0)))
    (.seq (.block 1 (.seq (.reg (some []) [
      ⟨(some 17), .mov (.t 0), none⟩,
      ⟨(some 18), .mov (.t 5), none⟩,
      ⟨(some 19), .iaS 65 (.t 17) (.t 18), none⟩,
      ⟨(some 20), .load (some 65) (.t 19), none⟩,
      ⟨(some 21), .mov (.t 1), none⟩,
      ⟨(some 22), .mov (.t 5), none⟩,
      ⟨(some 23), .iaS 65 (.t 21) (.t 22), none⟩,
      ⟨(some 24), .load (some 65) (.t 23), none⟩,
      ⟨(some 25), .call 51 [(.t 20), (.t 24)], none⟩,
      ⟨(some 26), .un .not (.t 25), none⟩] (some [0, 1, 5, 26]) none)
    (.cond (.t 26) (.seq (.reg none [
      ⟨(some 4), .mov (.c (.bool false)), none⟩] (some [4]) none)
    .ret)
    .skip)))
    (.reg none [
      ⟨(some 15), .mov (.t 5), none⟩,
      ⟨(some 16), .bin .add (.t 15) (.c (.int .i64 1)), none⟩,
      ⟨(some 5), .mov (.t 16), none⟩] (some [0, 1, 5]) none)))
def laws_eqLayerS_M : MC :=
  (.seq (.reg none [
      ⟨(some 4), .mov (.c (.bool false)), none⟩] (some [0, 1]) none)
    (.seq (.seq (.reg none [
      ⟨(some 6), .mov (.t 0), none⟩,
      ⟨(some 7), .lenS (.t 6), none⟩,
      ⟨(some 8), .mov (.t 1), none⟩,
      ⟨(some 9), .lenS (.t 8), none⟩,
      ⟨(some 10), .bin .neq (.t 7) (.t 9), none⟩] (some [0, 1, 10]) none)
    (.cond (.t 10) (.seq (.reg none [
      ⟨(some 4), .mov (.c (.bool false)), none⟩] (some [4]) none)
    .ret)
    .skip))
    (.seq (.seq (.reg none [
      ⟨(some 5), .mov (.c (.int .i64 0)), none⟩] (some [0, 1, 5]) none)
    (.block 0 (.loop laws_eqLayerS_L0)))
    (.seq (.reg none [
      ⟨(some 4), .mov (.c (.bool true)), none⟩] (some [4]) none)
    .ret))))
def laws_eqLayerS_F : MF := ⟨27, [.t 4], laws_eqLayerS_M⟩
theorem laws_eqLayerS_ok : OkF Try.prog 18 laws_eqLayerS_F Try.f18 (bodyOf Try.f18) := ⟨Try.func18, by kernel_rfl, by kernel_rfl, by kernel_rfl, by kernel_rfl⟩
-- loop.example/g01312/laws.markLayerS
def laws_markLayerS_L1 : MC :=
  (.seq (.seq (.reg none [
      ⟨(some 21), .mov (.t 6), none⟩,
      ⟨(some 22), .bin .lss (.t 21) (.c (.int .i64 64)), none⟩] (some [0, 1, 5, 6, 22]) none)
    (.cond (.t 22) .skip
    (.exit 2)))
    (.seq (.block 3 (.seq (.reg none [
      ⟨(some 25), .mov (.t 0), none⟩,
      ⟨(some 26), .mov (.t 5), none⟩,
      ⟨(some 27), .mov (.t 6), none⟩,
      ⟨(some 28), .mov (.t 1), none⟩,
      ⟨(some 29), .conv .u8 (.t 28), none⟩,
      ⟨(some 30), .iaS 65 (.t 25) (.t 26), none⟩,
      ⟨(some 31), .fa 1 (.t 30), none⟩,
      ⟨(some 32), .iaA 64 1 (.t 31) (.t 27), none⟩,
      ⟨none, .store 1 (.t 32) (.t 29), none⟩] (some [0, 1, 5, 6]) none)
    (.reg none [
      ⟨(some 33), .mov (.t 1), none⟩,
      ⟨(some 34), .bin .add (.t 33) (.c (.int .i64 1)), none⟩,
      ⟨(some 1), .mov (.t 34), none⟩] (some [0, 1, 5, 6]) none)))
    (.reg none [
      ⟨(some 23), .mov (.t 6), none⟩,
      ⟨(some 24), .bin .add (.t 23) (.c (.int .i64 1)), none⟩,
      ⟨(some 6), .mov (.t 24), none⟩] (some [0, 1, 5, 6]) none)))
def laws_markLayerS_L0 : MC :=
  (.seq (.seq (.reg none [
      ⟨(some 7), .mov (.t 5), none⟩,
      ⟨(some 8), .mov (.t 0), none⟩,
      ⟨(some 9), .lenS (.t 8), none⟩,
      ⟨(some 10), .bin .lss (.t 7) (.t 9), none⟩] (some [0, 1, 5, 10]) none)
    (.cond (.t 10) .skip
    (.exit 0)))
    (.seq (.block 1 (.seq (.reg none [
      ⟨(some 13), .mov (.t 0), none⟩,
      ⟨(some 14), .mov (.t 5), none⟩,
      ⟨(some 15), .mov (.t 1), none⟩,
      ⟨(some 16), .conv .i8 (.t 15), none⟩,
      ⟨(some 17), .iaS 65 (.t 13) (.t 14), none⟩,
      ⟨(some 18), .fa 0 (.t 17), none⟩,
      ⟨none, .store 1 (.t 18) (.t 16), none⟩] (some [0, 1, 5]) none)
    (.seq (.reg none [
      ⟨(some 19), .mov (.t 1), none⟩,
      ⟨(some 20), .bin .add (.t 19) (.c (.int .i64 1)), none⟩,
      ⟨(some 1), .mov (.t 20), none⟩] (some [0, 1, 5]) none)
    (.seq (.reg none [
      ⟨(some 6), .mov (.c (.int .i64 0)), none⟩] (some [0, 1, 5, 6]) none)
    (.block 2 (.loop laws_markLayerS_L1))))))
    (.reg none [
      ⟨(some 11), .mov (.t 5), none⟩,
      ⟨(some 12), .bin .add (.t 11) (.c (.int .i64 1)), none⟩,
      ⟨(some 5), .mov (.t 12), none⟩] (some [0, 1, 5]) none)))
def laws_markLayerS_M : MC :=
  (.seq (.reg none [
      ⟨(some 4), .mov (.c (.int .i64 0)), none⟩] (some [0, 1]) none)
    (.seq (.seq (.reg none [
      ⟨(some 5), .mov (.c (.int .i64 0)), none⟩] (some [0, 1, 5]) none)
    (.block 0 (.loop laws_markLayerS_L0)))
    (.seq (.reg none [
      ⟨(some 35), .mov (.t 1), none⟩,
      ⟨(some 4), .mov (.t 35), none⟩] (some [4]) none)
    .ret)))
def laws_markLayerS_F : MF := ⟨36, [.t 4], laws_markLayerS_M⟩
theorem laws_markLayerS_ok : OkF Try.prog 19 laws_markLayerS_F Try.f19 (bodyOf Try.f19) := ⟨Try.func19, by kernel_rfl, by kernel_rfl, by kernel_rfl, by kernel_rfl⟩
-- loop.example/g01312/laws.heldLayerS
def laws_heldLayerS_L1 : MC :=
  (.seq (.seq (.reg none [
      ⟨(some 23), .mov (.t 6), none⟩,
      ⟨(some 24), .bin .lss (.t 23) (.c (.int .i64 64)), none⟩] (some [0, 1, 5, 6, 24]) none)
    (.cond (.t 24) .skip
    (.exit 2)))
    (.seq (.block 3 (.seq (.seq (.reg none [
      ⟨(some 27), .mov (.t 0), none⟩,
      ⟨(some 28), .mov (.t 5), none⟩,
      ⟨(some 29), .mov (.t 6), none⟩,
      ⟨(some 30), .iaS 65 (.t 27) (.t 28), none⟩,
      ⟨(some 31), .fa 1 (.t 30), none⟩,
      ⟨(some 32), .iaA 64 1 (.t 31) (.t 29), none⟩,
      ⟨(some 33), .load none (.t 32), none⟩,
      ⟨(some 34), .mov (.t 1), none⟩,
      ⟨(some 35), .conv .u8 (.t 34), none⟩,
      ⟨(some 36), .bin .neq (.t 33) (.t 35), none⟩] (some [0, 1, 5, 6, 36]) none)
    (.cond (.t 36) (.seq (.reg none [
      ⟨(some 4), .mov (.c (.int .i64 (-1))), none⟩] (some [4]) none)
    .ret)
    .skip))
    (.reg none [
      ⟨(some 37), .mov (.t 1), none⟩,
      ⟨(some 38), .bin .add (.t 37) (.c (.int .i64 1)), none⟩,
      ⟨(some 1), .mov (.t 38), none⟩] (some [0, 1, 5, 6]) none)))
    (.reg none [
      ⟨(some 25), .mov (.t 6), none⟩,
      ⟨(some 26), .bin .add (.t 25) (.c (.int .i64 1)), none⟩,
      ⟨(some 6), .mov (.t 26), none⟩] (some [0, 1, 5, 6]) none)))
def laws_heldLayerS_L0 : MC :=
  (.seq (.seq (.reg none [
      ⟨(some 7), .mov (.t 5), none⟩,
      ⟨(some 8), .mov (.t 0), none⟩,
      ⟨(some 9), .lenS (.t 8), none⟩,
      ⟨(some 10), .bin .lss (.t 7) (.t 9), none⟩] (some [0, 1, 5, 10]) none)
    (.cond (.t 10) .skip
    (.exit 0)))
    (.seq (.block 1 (.seq (.seq (.reg none [
      ⟨(some 13), .mov (.t 0), none⟩,
      ⟨(some 14), .mov (.t 5), none⟩,
      ⟨(some 15), .iaS 65 (.t 13) (.t 14), none⟩,
      ⟨(some 16), .fa 0 (.t 15), none⟩,
      ⟨(some 17), .load none (.t 16), none⟩,
      ⟨(some 18), .mov (.t 1), none⟩,
      ⟨(some 19), .conv .i8 (.t 18), none⟩,
      ⟨(some 20), .bin .neq (.t 17) (.t 19), none⟩] (some [0, 1, 5, 20]) none)
    (.cond (.t 20) (.seq (.reg none [
      ⟨(some 4), .mov (.c (.int .i64 (-1))), none⟩] (some [4]) none)
    .ret)
    .skip))
    (.seq (.reg none [
      ⟨(some 21), .mov (.t 1), none⟩,
      ⟨(some 22), .bin .add (.t 21) (.c (.int .i64 1)), none⟩,
      ⟨(some 1), .mov (.t 22), none⟩] (some [0, 1, 5]) none)
    (.seq (.reg none [
      ⟨(some 6), .mov (.c (.int .i64 0)), none⟩] (some [0, 1, 5, 6]) none)
    (.block 2 (.loop laws_heldLayerS_L1))))))
    (.reg none [
      ⟨(some 11), .mov (.t 5), none⟩,
      ⟨(some 12), .bin .add (.t 11) (.c (.int .i64 1)), none⟩,
      ⟨(some 5), .mov (.t 12), none⟩] (some [0, 1, 5]) none)))
def laws_heldLayerS_M : MC :=
  (.seq (.reg none [
      ⟨(some 4), .mov (.c (.int .i64 0)), none⟩] (some [0, 1]) none)
    (.seq (.seq (.reg none [
      ⟨(some 5), .mov (.c (.int .i64 0)), none⟩] (some [0, 1, 5]) none)
    (.block 0 (.loop laws_heldLayerS_L0)))
    (.seq (.reg none [
      ⟨(some 39), .mov (.t 1), none⟩,
      ⟨(some 4), .mov (.t 39), none⟩] (some [4]) none)
    .ret)))
def laws_heldLayerS_F : MF := ⟨40, [.t 4], laws_heldLayerS_M⟩
theorem laws_heldLayerS_ok : OkF Try.prog 20 laws_heldLayerS_F Try.f20 (bodyOf Try.f20) := ⟨Try.func20, by kernel_rfl, by kernel_rfl, by kernel_rfl, by kernel_rfl⟩
-- loop.example/g01312/spec.JoinShared
def spec_JoinShared_L0 : MC :=
  (.seq (.seq (.reg none [
      ⟨(some 40), .mov (.t 9), none⟩,
      ⟨(some 41), .mov (.t 0), none⟩,
      ⟨(some 42), .lenS (.t 41), none⟩,
      ⟨(some 43), .bin .lss (.t 40) (.t 42), none⟩] (some [0, 1, 8, 9, 43]) none)
    (.cond (.t 43) .skip
    (.exit 0)))
    (.seq (.block 1 (.seq (.reg (some [(3, 12), (7, 12), (8, 12)]) [
      ⟨(some 47), .mov (.t 0), none⟩,
      ⟨(some 48), .mov (.t 9), none⟩,
      ⟨(some 49), .iaS 65 (.t 47) (.t 48), none⟩,
      ⟨(some 50), .load (some 65) (.t 49), none⟩,
      ⟨(some 51), .mov (.t 1), none⟩,
      ⟨(some 52), .mov (.t 9), none⟩,
      ⟨(some 53), .iaS 65 (.t 51) (.t 52), none⟩,
      ⟨(some 54), .load (some 65) (.t 53), none⟩,
      ⟨(some 55), .call 53 [(.t 50), (.t 54)], none⟩,
      ⟨(some 46), .mov (.t 55), none⟩,
      ⟨(some 56), .ext (.t 46) 0, none⟩,
      ⟨(some 57), .ext (.t 46) 1, none⟩,
      ⟨(some 10), .new (rl [(1, .int .i8 0), (64, .int .u8 0)]), none⟩,
      ⟨none, .store 65 (.t 10) (.t 56), none⟩,
      ⟨(some 11), .mov (.t 57), none⟩] (some [0, 1, 8, 9, 10, 11]) none)
    (.seq (.seq (.reg none [
      ⟨(some 58), .mov (.t 11), none⟩,
      ⟨(some 59), .bin .neq (.t 58) (.c (.int .i64 0)), none⟩] (some [0, 1, 8, 9, 10, 11, 59]) none)
    (.cond (.t 59) (.seq (.reg none [
      ⟨(some 60), .bldS (rl [(1, .int .i8 0), (64, .int .u8 0)]) 0 [], none⟩,
      ⟨(some 61), .mov (.t 11), none⟩,
      ⟨(some 4), .mov (.t 60), none⟩,
      ⟨(some 5), .mov (.t 61), none⟩] (some [4, 5]) none)
    .ret)
    .skip))
    (.reg none [
      ⟨(some 62), .mov (.t 8), none⟩,
      ⟨(some 63), .load (some 65) (.t 10), none⟩,
      ⟨(some 64), .bldS (rl [(1, .int .i8 0), (64, .int .u8 0)]) 1 [(0, 65, (.t 63))], none⟩,
      ⟨(some 65), .app (rl [(1, .int .i8 0), (64, .int .u8 0)]) 65 false (.t 62) (.t 64), none⟩,
      ⟨(some 8), .mov (.t 65), none⟩] (some [0, 1, 8, 9]) none))))
    (.reg none [
      ⟨(some 44), .mov (.t 9), none⟩,
      ⟨(some 45), .bin .add (.t 44) (.c (.int .i64 1)), none⟩,
      ⟨(some 9), .mov (.t 45), none⟩] (some [0, 1, 8, 9]) (some 1))))
def spec_JoinShared_M : MC :=
  (.seq (.reg none [
      ⟨(some 4), .mov (.c (.nilsl)), none⟩,
      ⟨(some 5), .mov (.c (.int .i64 0)), none⟩] (some [0, 1]) none)
    (.seq (.seq (.reg none [
      ⟨(some 12), .mov (.t 0), none⟩,
      ⟨(some 13), .call 52 [(.t 12)], none⟩,
      ⟨(some 14), .un .not (.t 13), none⟩,
      ⟨(some 15), .mov (.t 14), none⟩,
      ⟨(some 16), .mov (.t 1), some (15, false)⟩,
      ⟨(some 17), .call 52 [(.t 16)], some (15, false)⟩,
      ⟨(some 18), .un .not (.t 17), some (15, false)⟩,
      ⟨(some 19), .pick (.t 15) (.c (.bool true)) (.t 18), none⟩] (some [0, 1, 19]) none)
    (.cond (.t 19) (.seq (.reg none [
      ⟨(some 20), .bldS (rl [(1, .int .i8 0), (64, .int .u8 0)]) 0 [], none⟩,
      ⟨(some 4), .mov (.t 20), none⟩,
      ⟨(some 5), .mov (.c (.int .i64 1)), none⟩] (some [4, 5]) none)
    .ret)
    .skip))
    (.seq (.seq (.reg none [
      ⟨(some 21), .mov (.t 0), none⟩,
      ⟨(some 22), .call 46 [(.t 21)], none⟩,
      ⟨(some 6), .mov (.t 22), none⟩] (some [0, 1, 6]) none)
    (.seq (.reg none [
      ⟨(some 23), .mov (.t 6), none⟩,
      ⟨(some 24), .bin .neq (.t 23) (.c (.int .i64 0)), none⟩] (some [0, 1, 6, 24]) none)
    (.cond (.t 24) (.seq (.reg none [
      ⟨(some 25), .bldS (rl [(1, .int .i8 0), (64, .int .u8 0)]) 0 [], none⟩,
      ⟨(some 26), .mov (.t 6), none⟩,
      ⟨(some 4), .mov (.t 25), none⟩,
      ⟨(some 5), .mov (.t 26), none⟩] (some [4, 5]) none)
    .ret)
    .skip)))
    (.seq (.seq (.reg none [
      ⟨(some 27), .mov (.t 1), none⟩,
      ⟨(some 28), .call 46 [(.t 27)], none⟩,
      ⟨(some 7), .mov (.t 28), none⟩] (some [0, 1, 7]) none)
    (.seq (.reg none [
      ⟨(some 29), .mov (.t 7), none⟩,
      ⟨(some 30), .bin .neq (.t 29) (.c (.int .i64 0)), none⟩] (some [0, 1, 7, 30]) none)
    (.cond (.t 30) (.seq (.reg none [
      ⟨(some 31), .bldS (rl [(1, .int .i8 0), (64, .int .u8 0)]) 0 [], none⟩,
      ⟨(some 32), .mov (.t 7), none⟩,
      ⟨(some 4), .mov (.t 31), none⟩,
      ⟨(some 5), .mov (.t 32), none⟩] (some [4, 5]) none)
    .ret)
    .skip)))
    (.seq (.seq (.reg none [
      ⟨(some 33), .mov (.t 0), none⟩,
      ⟨(some 34), .lenS (.t 33), none⟩,
      ⟨(some 35), .mov (.t 1), none⟩,
      ⟨(some 36), .lenS (.t 35), none⟩,
      ⟨(some 37), .bin .neq (.t 34) (.t 36), none⟩] (some [0, 1, 37]) none)
    (.cond (.t 37) (.seq (.reg none [
      ⟨(some 38), .bldS (rl [(1, .int .i8 0), (64, .int .u8 0)]) 0 [], none⟩,
      ⟨(some 4), .mov (.t 38), none⟩,
      ⟨(some 5), .mov (.c (.int .i64 4)), none⟩] (some [4, 5]) none)
    .ret)
    .skip))
    (.seq (.reg none [
      ⟨(some 39), .bldS (rl [(1, .int .i8 0), (64, .int .u8 0)]) 0 [], none⟩,
      ⟨(some 8), .mov (.t 39), none⟩] (some [0, 1, 8]) none)
    (.seq (.seq (.reg none [
      ⟨(some 9), .mov (.c (.int .i64 0)), none⟩] (some [0, 1, 8, 9]) none)
    (.block 0 (.loop spec_JoinShared_L0)))
    (.seq (.reg none [
      ⟨(some 66), .mov (.t 8), none⟩,
      ⟨(some 4), .mov (.t 66), none⟩,
      ⟨(some 5), .mov (.c (.int .i64 0)), none⟩] (some [4, 5]) none)
    .ret))))))))
def spec_JoinShared_F : MF := ⟨67, [.t 4, .t 5], spec_JoinShared_M⟩
theorem spec_JoinShared_ok : OkF Try.prog 21 spec_JoinShared_F Try.f21 (bodyOf Try.f21) := ⟨Try.func21, by kernel_rfl, by kernel_rfl, by kernel_rfl, by kernel_rfl⟩
-- loop.example/g01312/impl.JoinShared
def impl_JoinShared_L0 : MC :=
  (.seq (.reg none [
      ⟨(some 57), .bin .lss (.t 56) (.t 55), none⟩] (some [1, 9, 54, 55, 56, 57]) none)
    (.seq (.cond (.t 57) .skip
    (.exit 0))
    (.seq (.block 1 (.seq (.reg none [
      ⟨(some 58), .mov (.t 56), none⟩,
      ⟨(some 59), .iaS 65 (.t 54) (.t 56), none⟩,
      ⟨(some 60), .load (some 65) (.t 59), none⟩,
      ⟨(some 11), .new (rl [(1, .int .i8 0), (64, .int .u8 0)]), none⟩,
      ⟨(some 10), .mov (.t 58), none⟩,
      ⟨none, .store 65 (.t 11) (.t 60), none⟩] (some [1, 9, 10, 11, 54, 55, 56]) none)
    (.regT 8 [(1, 7), (5, 7)] [
      ⟨(some 61), .mov (.t 9), none⟩,
      ⟨(some 62), .load (some 65) (.t 11), none⟩,
      ⟨(some 63), .mov (.t 1), none⟩,
      ⟨(some 64), .mov (.t 10), none⟩,
      ⟨(some 65), .iaS 65 (.t 63) (.t 64), none⟩,
      ⟨(some 66), .load (some 65) (.t 65), none⟩,
      ⟨(some 67), .call 56 [(.t 62), (.t 66)], none⟩,
      ⟨(some 68), .bldS (rl [(1, .int .i8 0), (64, .int .u8 0)]) 1 [(0, 65, (.t 67))], none⟩] [
      ⟨(some 69), .app (rl [(1, .int .i8 0), (64, .int .u8 0)]) 65 false (.t 61) (.t 68), none⟩,
      ⟨(some 9), .mov (.t 69), none⟩] (some [1, 9, 54, 55, 56]) none)))
    (.reg none [
      ⟨(some 70), .bin .add (.t 56) (.c (.int .i64 1)), none⟩,
      ⟨(some 56), .mov (.t 70), none⟩] (some [1, 9, 54, 55, 56]) (some 2)))))
def impl_JoinShared_M : MC :=
  (.seq (.reg none [
      ⟨(some 4), .mov (.c (.nilsl)), none⟩,
      ⟨(some 5), .mov (.c (.int .i64 0)), none⟩] (some [0, 1]) none)
    (.seq (.seq (.reg none [
      ⟨(some 12), .mov (.t 0), none⟩,
      ⟨(some 13), .call 54 [(.t 12)], none⟩,
      ⟨(some 14), .un .not (.t 13), none⟩,
      ⟨(some 15), .mov (.t 14), none⟩,
      ⟨(some 16), .mov (.t 1), some (15, false)⟩,
      ⟨(some 17), .call 54 [(.t 16)], some (15, false)⟩,
      ⟨(some 18), .un .not (.t 17), some (15, false)⟩,
      ⟨(some 19), .pick (.t 15) (.c (.bool true)) (.t 18), none⟩] (some [0, 1, 19]) none)
    (.cond (.t 19) (.seq (.reg none [
      ⟨(some 4), .mov (.c (.nilsl)), none⟩,
      ⟨(some 5), .mov (.c (.int .i64 1)), none⟩] (some [4, 5]) none)
    .ret)
    .skip))
    (.seq (.reg none [
      ⟨(some 20), .mov (.t 0), none⟩,
      ⟨(some 21), .call 49 [(.t 20)], none⟩,
      ⟨(some 22), .mov (.t 1), none⟩,
      ⟨(some 23), .call 49 [(.t 22)], none⟩,
      ⟨(some 6), .mov (.t 21), none⟩,
      ⟨(some 7), .mov (.t 23), none⟩] (some [0, 1, 6, 7]) none)
    (.seq (.seq (.reg none [
      ⟨(some 24), .mov (.t 6), none⟩,
      ⟨(some 25), .bin .neq (.t 24) (.c (.int .i64 0)), none⟩,
      ⟨(some 26), .mov (.t 6), none⟩,
      ⟨(some 27), .bld [.bool false, .int .i64 0] [(0, 1, (.t 25)), (1, 1, (.t 26))], none⟩,
      ⟨(some 28), .mov (.t 7), none⟩,
      ⟨(some 29), .bin .neq (.t 28) (.c (.int .i64 0)), none⟩,
      ⟨(some 30), .mov (.t 7), none⟩,
      ⟨(some 31), .bld [.bool false, .int .i64 0] [(0, 1, (.t 29)), (1, 1, (.t 30))], none⟩,
      ⟨(some 32), .mov (.t 0), none⟩,
      ⟨(some 33), .lenS (.t 32), none⟩,
      ⟨(some 34), .mov (.t 1), none⟩,
      ⟨(some 35), .lenS (.t 34), none⟩,
      ⟨(some 36), .bin .neq (.t 33) (.t 35), none⟩,
      ⟨(some 37), .bld [.bool false, .int .i64 0] [(0, 1, (.t 36)), (1, 1, (.c (.int .i64 4)))], none⟩,
      ⟨(some 38), .bldS [.bool false, .int .i64 0] 3 [(0, 2, (.t 27)), (2, 2, (.t 31)), (4, 2, (.t 37))], none⟩,
      ⟨(some 39), .call 55 [(.t 38)], none⟩,
      ⟨(some 8), .mov (.t 39), none⟩] (some [0, 1, 8]) none)
    (.seq (.reg none [
      ⟨(some 40), .mov (.t 8), none⟩,
      ⟨(some 41), .bin .neq (.t 40) (.c (.int .i64 0)), none⟩] (some [0, 1, 8, 41]) none)
    (.cond (.t 41) (.seq (.reg none [
      ⟨(some 42), .mov (.t 8), none⟩,
      ⟨(some 4), .mov (.c (.nilsl)), none⟩,
      ⟨(some 5), .mov (.t 42), none⟩] (some [4, 5]) none)
    .ret)
    .skip)))
    (.seq (.seq (.reg (some []) [
      ⟨(some 43), .mov (.t 0), none⟩,
      ⟨(some 44), .iaS 65 (.t 43) (.c (.int .i64 0)), none⟩,
      ⟨(some 45), .fa 0 (.t 44), none⟩,
      ⟨(some 46), .load none (.t 45), none⟩,
      ⟨(some 47), .mov (.t 1), none⟩,
      ⟨(some 48), .iaS 65 (.t 47) (.c (.int .i64 0)), none⟩,
      ⟨(some 49), .fa 0 (.t 48), none⟩,
      ⟨(some 50), .load none (.t 49), none⟩,
      ⟨(some 51), .bin .add (.t 46) (.t 50), none⟩,
      ⟨(some 52), .bin .gtr (.t 51) (.c (.int .i8 8)), none⟩] (some [0, 1, 52]) none)
    (.cond (.t 52) (.seq (.reg none [
      ⟨(some 4), .mov (.c (.nilsl)), none⟩,
      ⟨(some 5), .mov (.c (.int .i64 3)), none⟩] (some [4, 5]) none)
    .ret)
    .skip))
    (.seq (.reg none [
      ⟨(some 53), .bldS (rl [(1, .int .i8 0), (64, .int .u8 0)]) 0 [], none⟩,
      ⟨(some 9), .mov (.t 53), none⟩] (some [0, 1, 9]) none)
    (.seq (.seq (.reg none [
      ⟨(some 54), .mov (.t 0), none⟩,
      ⟨(some 55), .lenS (.t 54), none⟩,
      ⟨(some 56), .mov (.c (.int .i64 0)), none⟩] (some [1, 9, 54, 55, 56]) none)
    (.block 0 (.loop impl_JoinShared_L0)))
    (.seq (.reg none [
      ⟨(some 71), .mov (.t 9), none⟩,
      ⟨(some 4), .mov (.t 71), none⟩,
      ⟨(some 5), .mov (.c (.int .i64 0)), none⟩] (some [4, 5]) none)
    .ret))))))))
def impl_JoinShared_F : MF := ⟨72, [.t 4, .t 5], impl_JoinShared_M⟩
theorem impl_JoinShared_ok : OkF Try.prog 22 impl_JoinShared_F Try.f22 (bodyOf Try.f22) := ⟨Try.func22, by kernel_rfl, by kernel_rfl, by kernel_rfl, by kernel_rfl⟩
-- loop.example/g01312/spec.RenewLayers
def spec_RenewLayers_L1 : MC :=
  (.seq (.seq (.reg none [
      ⟨(some 37), .mov (.t 14), none⟩,
      ⟨(some 38), .mov (.t 10), none⟩,
      ⟨(some 39), .lenS (.t 38), none⟩,
      ⟨(some 40), .bin .lss (.t 37) (.t 39), none⟩] (some [2, 3, 10, 11, 12, 14, 40]) none)
    (.cond (.t 40) .skip
    (.exit 2)))
    (.seq (.block 3 (.reg (some []) [
      ⟨(some 43), .mov (.t 10), none⟩,
      ⟨(some 44), .mov (.t 14), none⟩,
      ⟨(some 45), .mov (.t 11), none⟩,
      ⟨(some 46), .mov (.t 10), none⟩,
      ⟨(some 47), .mov (.t 14), none⟩,
      ⟨(some 48), .mov (.t 11), none⟩,
      ⟨(some 49), .iaS 65 (.t 46) (.t 47), none⟩,
      ⟨(some 50), .fa 1 (.t 49), none⟩,
      ⟨(some 51), .iaA 64 1 (.t 50) (.t 48), none⟩,
      ⟨(some 52), .load none (.t 51), none⟩,
      ⟨(some 53), .mov (.t 12), none⟩,
      ⟨(some 54), .call 59 [(.t 52), (.t 53)], none⟩,
      ⟨(some 55), .iaS 65 (.t 43) (.t 44), none⟩,
      ⟨(some 56), .fa 1 (.t 55), none⟩,
      ⟨(some 57), .iaA 64 1 (.t 56) (.t 45), none⟩,
      ⟨none, .store 1 (.t 57) (.t 54), none⟩] (some [2, 3, 10, 11, 12, 14]) none))
    (.reg none [
      ⟨(some 41), .mov (.t 14), none⟩,
      ⟨(some 42), .bin .add (.t 41) (.c (.int .i64 1)), none⟩,
      ⟨(some 14), .mov (.t 42), none⟩] (some [2, 3, 10, 11, 12, 14]) none)))
def spec_RenewLayers_L0 : MC :=
  (.seq (.seq (.reg none [
      ⟨(some 24), .mov (.t 11), none⟩,
      ⟨(some 25), .bin .lss (.t 24) (.c (.int .i64 64)), none⟩] (some [2, 3, 10, 11, 25]) none)
    (.cond (.t 25) .skip
    (.exit 0)))
    (.seq (.block 1 (.seq (.reg none [
      ⟨(some 29), .mov (.t 2), none⟩,
      ⟨(some 30), .fa 1 (.t 3), none⟩,
      ⟨(some 31), .load none (.t 30), none⟩,
      ⟨(some 32), .conv .i64 (.t 31), none⟩,
      ⟨(some 33), .call 58 [(.t 29), (.t 32)], none⟩,
      ⟨(some 28), .mov (.t 33), none⟩,
      ⟨(some 34), .ext (.t 28) 0, none⟩,
      ⟨(some 35), .ext (.t 28) 1, none⟩,
      ⟨(some 12), .mov (.t 34), none⟩,
      ⟨(some 13), .mov (.t 35), none⟩] (some [3, 10, 11, 12, 13]) none)
    (.seq (.reg none [
      ⟨(some 36), .mov (.t 13), none⟩,
      ⟨(some 2), .mov (.t 36), none⟩] (some [2, 3, 10, 11, 12]) none)
    (.seq (.reg none [
      ⟨(some 14), .mov (.c (.int .i64 0)), none⟩] (some [2, 3, 10, 11, 12, 14]) none)
    (.block 2 (.loop spec_RenewLayers_L1))))))
    (.reg none [
      ⟨(some 26), .mov (.t 11), none⟩,
      ⟨(some 27), .bin .add (.t 26) (.c (.int .i64 1)), none⟩,
      ⟨(some 11), .mov (.t 27), none⟩] (some [2, 3, 10, 11]) (some 2))))
def spec_RenewLayers_M : MC :=
  (.seq (.reg none [
      ⟨(some 3), .box (.t 0), none⟩,
      ⟨(some 6), .mov (.c (.nilsl)), none⟩,
      ⟨(some 7), .mov (.c (.int .u32 0)), none⟩,
      ⟨(some 8), .mov (.c (.int .i64 0)), none⟩] (some [1, 2, 3]) none)
    (.seq (.seq (.reg none [
      ⟨(some 15), .mov (.t 1), none⟩,
      ⟨(some 16), .call 57 [(.t 3), (.t 15)], none⟩,
      ⟨(some 9), .mov (.t 16), none⟩] (some [1, 2, 3, 9]) none)
    (.seq (.reg none [
      ⟨(some 17), .mov (.t 9), none⟩,
      ⟨(some 18), .bin .neq (.t 17) (.c (.int .i64 0)), none⟩] (some [1, 2, 3, 9, 18]) none)
    (.cond (.t 18) (.seq (.reg none [
      ⟨(some 19), .bldS (rl [(1, .int .i8 0), (64, .int .u8 0)]) 0 [], none⟩,
      ⟨(some 20), .mov (.t 9), none⟩,
      ⟨(some 6), .mov (.t 19), none⟩,
      ⟨(some 7), .mov (.c (.int .u32 0)), none⟩,
      ⟨(some 8), .mov (.t 20), none⟩] (some [6, 7, 8]) none)
    .ret)
    .skip)))
    (.seq (.reg none [
      ⟨(some 21), .bldS (rl [(1, .int .i8 0), (64, .int .u8 0)]) 0 [], none⟩,
      ⟨(some 22), .mov (.t 1), none⟩,
      ⟨(some 23), .app (rl [(1, .int .i8 0), (64, .int .u8 0)]) 65 false (.t 21) (.t 22), none⟩,
      ⟨(some 10), .mov (.t 23), none⟩] (some [2, 3, 10]) none)
    (.seq (.seq (.reg none [
      ⟨(some 11), .mov (.c (.int .i64 0)), none⟩] (some [2, 3, 10, 11]) none)
    (.block 0 (.loop spec_RenewLayers_L0)))
    (.seq (.reg none [
      ⟨(some 58), .mov (.t 10), none⟩,
      ⟨(some 59), .mov (.t 2), none⟩,
      ⟨(some 6), .mov (.t 58), none⟩,
      ⟨(some 7), .mov (.t 59), none⟩,
      ⟨(some 8), .mov (.c (.int .i64 0)), none⟩] (some [6, 7, 8]) none)
    .ret)))))
def spec_RenewLayers_F : MF := ⟨60, [.t 6, .t 7, .t 8], spec_RenewLayers_M⟩
theorem spec_RenewLayers_ok : OkF Try.prog 23 spec_RenewLayers_F Try.f23 (bodyOf Try.f23) := ⟨Try.func23, by kernel_rfl, by kernel_rfl, by kernel_rfl, by kernel_rfl⟩
-- loop.example/g01312/laws.toScheme
def laws_toScheme_M : MC :=
  (.seq (.reg none [
      ⟨(some 1), .box (.t 0), none⟩,
      ⟨(some 2), .new (rl [(2, .int .i8 0), (12, .int .u8 0)]), none⟩] (some [1, 2]) none)
    (.seq (.reg none [
      ⟨(some 3), .new (rl [(2, .int .i8 0), (12, .int .u8 0)]), none⟩] (some [1, 2, 3]) none)
    (.seq (.reg none [
      ⟨(some 4), .fa 0 (.t 1), none⟩,
      ⟨(some 5), .load none (.t 4), none⟩,
      ⟨(some 6), .fa 0 (.t 3), none⟩,
      ⟨none, .store 1 (.t 6) (.t 5), none⟩] (some [1, 2, 3]) none)
    (.seq (.reg none [
      ⟨(some 7), .fa 1 (.t 1), none⟩,
      ⟨(some 8), .load none (.t 7), none⟩,
      ⟨(some 9), .fa 1 (.t 3), none⟩,
      ⟨none, .store 1 (.t 9) (.t 8), none⟩] (some [1, 2, 3]) none)
    (.seq (.reg none [
      ⟨(some 10), .fa 2 (.t 1), none⟩,
      ⟨(some 11), .load (some 6) (.t 10), none⟩,
      ⟨(some 12), .call 60 [(.t 11)], none⟩,
      ⟨(some 13), .fa 2 (.t 3), none⟩,
      ⟨none, .store 6 (.t 13) (.t 12), none⟩] (some [1, 2, 3]) none)
    (.seq (.reg none [
      ⟨(some 14), .fa 8 (.t 1), none⟩,
      ⟨(some 15), .load (some 6) (.t 14), none⟩,
      ⟨(some 16), .call 60 [(.t 15)], none⟩,
      ⟨(some 17), .fa 8 (.t 3), none⟩,
      ⟨none, .store 6 (.t 17) (.t 16), none⟩] (some [2, 3]) none)
    (.seq (.reg none [
      ⟨(some 18), .load (some 14) (.t 3), none⟩,
      ⟨none, .store 14 (.t 2) (.t 18), none⟩] (some [2]) none)
    .ret)))))))
def laws_toScheme_F : MF := ⟨19, [.c 2 (some 14)], laws_toScheme_M⟩
theorem laws_toScheme_ok : OkF Try.prog 24 laws_toScheme_F Try.f24 (bodyOf Try.f24) := ⟨Try.func24, by kernel_rfl, by kernel_rfl, by kernel_rfl, by kernel_rfl⟩
-- loop.example/g01312/impl.RenewLayers
def impl_RenewLayers_L1 : MC :=
  (.seq (.reg none [
      ⟨(some 31), .bin .lss (.t 30) (.t 29), none⟩] (some [1, 3, 5, 10, 11, 12, 22, 29, 30, 31]) none)
    (.seq (.cond (.t 31) .skip
    (.exit 2))
    (.seq (.block 3 (.seq (.reg none [
      ⟨(some 32), .mov (.t 30), none⟩,
      ⟨(some 13), .mov (.t 32), none⟩] (some [1, 3, 5, 10, 11, 12, 13, 22, 29, 30]) none)
    (.reg (some []) [
      ⟨(some 33), .mov (.t 10), none⟩,
      ⟨(some 34), .mov (.t 13), none⟩,
      ⟨(some 35), .mov (.t 11), none⟩,
      ⟨(some 36), .mov (.t 1), none⟩,
      ⟨(some 37), .mov (.t 13), none⟩,
      ⟨(some 38), .mov (.t 11), none⟩,
      ⟨(some 39), .iaS 65 (.t 36) (.t 37), none⟩,
      ⟨(some 40), .fa 1 (.t 39), none⟩,
      ⟨(some 41), .iaA 64 1 (.t 40) (.t 38), none⟩,
      ⟨(some 42), .load none (.t 41), none⟩,
      ⟨(some 43), .mov (.t 12), none⟩,
      ⟨(some 44), .call 64 [(.t 42), (.t 43)], none⟩,
      ⟨(some 45), .iaS 65 (.t 33) (.t 34), none⟩,
      ⟨(some 46), .fa 1 (.t 45), none⟩,
      ⟨(some 47), .iaA 64 1 (.t 46) (.t 35), none⟩,
      ⟨none, .store 1 (.t 47) (.t 44), none⟩] (some [1, 3, 5, 10, 11, 12, 22, 29, 30]) none)))
    (.reg none [
      ⟨(some 48), .bin .add (.t 30) (.c (.int .i64 1)), none⟩,
      ⟨(some 30), .mov (.t 48), none⟩] (some [1, 3, 5, 10, 11, 12, 22, 29, 30]) none))))
def impl_RenewLayers_L0 : MC :=
  (.seq (.reg none [
      ⟨(some 23), .bin .lss (.t 22) (.c (.int .i64 64)), none⟩] (some [1, 3, 5, 10, 22, 23]) none)
    (.seq (.cond (.t 23) .skip
    (.exit 0))
    (.seq (.block 1 (.seq (.reg none [
      ⟨(some 24), .mov (.t 22), none⟩,
      ⟨(some 11), .mov (.t 24), none⟩] (some [1, 3, 5, 10, 11, 22]) none)
    (.seq (.reg none [
      ⟨(some 25), .fa 1 (.t 3), none⟩,
      ⟨(some 26), .load none (.t 25), none⟩,
      ⟨(some 27), .call 63 [(.t 5), (.t 26)], none⟩,
      ⟨(some 12), .mov (.t 27), none⟩] (some [1, 3, 5, 10, 11, 12, 22]) none)
    (.seq (.reg none [
      ⟨(some 28), .mov (.t 10), none⟩,
      ⟨(some 29), .lenS (.t 28), none⟩,
      ⟨(some 30), .mov (.c (.int .i64 0)), none⟩] (some [1, 3, 5, 10, 11, 12, 22, 29, 30]) none)
    (.block 2 (.loop impl_RenewLayers_L1))))))
    (.reg none [
      ⟨(some 49), .bin .add (.t 22) (.c (.int .i64 1)), none⟩,
      ⟨(some 22), .mov (.t 49), none⟩] (some [1, 3, 5, 10, 22]) (some 3)))))
def impl_RenewLayers_M : MC :=
  (.seq (.reg none [
      ⟨(some 3), .box (.t 0), none⟩,
      ⟨(some 5), .box (.t 2), none⟩,
      ⟨(some 6), .mov (.c (.nilsl)), none⟩,
      ⟨(some 7), .mov (.c (.int .u32 0)), none⟩,
      ⟨(some 8), .mov (.c (.int .i64 0)), none⟩] (some [1, 3, 5]) none)
    (.seq (.seq (.reg none [
      ⟨(some 14), .load (some 14) (.t 3), none⟩,
      ⟨(some 15), .mov (.t 1), none⟩,
      ⟨(some 16), .call 61 [(.t 14), (.t 15)], none⟩,
      ⟨(some 9), .mov (.t 16), none⟩] (some [1, 3, 5, 9]) none)
    (.seq (.reg none [
      ⟨(some 17), .mov (.t 9), none⟩,
      ⟨(some 18), .bin .neq (.t 17) (.c (.int .i64 0)), none⟩] (some [1, 3, 5, 9, 18]) none)
    (.cond (.t 18) (.seq (.reg none [
      ⟨(some 19), .mov (.t 9), none⟩,
      ⟨(some 6), .mov (.c (.nilsl)), none⟩,
      ⟨(some 7), .mov (.c (.int .u32 0)), none⟩,
      ⟨(some 8), .mov (.t 19), none⟩] (some [6, 7, 8]) none)
    .ret)
    .skip)))
    (.seq (.reg none [
      ⟨(some 20), .mov (.t 1), none⟩,
      ⟨(some 21), .call 62 [(.t 20)], none⟩,
      ⟨(some 10), .mov (.t 21), none⟩] (some [1, 3, 5, 10]) none)
    (.seq (.seq (.reg none [
      ⟨(some 22), .mov (.c (.int .i64 0)), none⟩] (some [1, 3, 5, 10, 22]) none)
    (.block 0 (.loop impl_RenewLayers_L0)))
    (.seq (.reg (some []) [
      ⟨(some 50), .mov (.t 10), none⟩,
      ⟨(some 51), .load none (.t 5), none⟩,
      ⟨(some 6), .mov (.t 50), none⟩,
      ⟨(some 7), .mov (.t 51), none⟩,
      ⟨(some 8), .mov (.c (.int .i64 0)), none⟩] (some [6, 7, 8]) none)
    .ret)))))
def impl_RenewLayers_F : MF := ⟨52, [.t 6, .t 7, .t 8], impl_RenewLayers_M⟩
theorem impl_RenewLayers_ok : OkF Try.prog 25 impl_RenewLayers_F Try.f25 (bodyOf Try.f25) := ⟨Try.func25, by kernel_rfl, by kernel_rfl, by kernel_rfl, by kernel_rfl⟩
-- loop.example/g01312/spec.ReadWith
def spec_ReadWith_M : MC :=
  (.seq (.reg none [
      ⟨(some 3), .box (.t 0), none⟩,
      ⟨(some 6), .mov (.c (.int .u64 0)), none⟩,
      ⟨(some 7), .mov (.c (.int .i64 0)), none⟩] (some [1, 2, 3]) none)
    (.seq (.reg none [
      ⟨(some 12), .mov (.t 1), none⟩,
      ⟨(some 13), .call 57 [(.t 3), (.t 12)], none⟩,
      ⟨(some 8), .mov (.t 13), none⟩] (some [1, 2, 3, 8]) none)
    (.seq (.seq (.reg none [
      ⟨(some 14), .mov (.t 8), none⟩,
      ⟨(some 15), .bin .eql (.t 14) (.c (.int .i64 0)), none⟩,
      ⟨(some 16), .mov (.t 15), none⟩,
      ⟨(some 17), .mov (.t 2), some (16, true)⟩,
      ⟨(some 18), .call 65 [(.t 3), (.t 17)], some (16, true)⟩,
      ⟨(some 19), .un .not (.t 18), some (16, true)⟩,
      ⟨(some 20), .pick (.t 16) (.t 19) (.c (.bool false)), none⟩] (some [1, 2, 3, 8, 20]) none)
    (.cond (.t 20) (.reg none [
      ⟨(some 8), .mov (.c (.int .i64 2)), none⟩] (some [1, 2, 3, 8]) none)
    .skip))
    (.seq (.seq (.reg none [
      ⟨(some 21), .mov (.t 8), none⟩,
      ⟨(some 22), .bin .neq (.t 21) (.c (.int .i64 0)), none⟩] (some [1, 2, 3, 8, 22]) none)
    (.cond (.t 22) (.seq (.reg none [
      ⟨(some 23), .mov (.t 8), none⟩,
      ⟨(some 6), .mov (.c (.int .u64 0)), none⟩,
      ⟨(some 7), .mov (.t 23), none⟩] (some [6, 7]) none)
    .ret)
    .skip))
    (.seq (.reg none [
      ⟨(some 25), .mov (.t 2), none⟩,
      ⟨(some 26), .call 66 [(.t 3), (.t 25)], none⟩,
      ⟨(some 24), .mov (.t 26), none⟩,
      ⟨(some 27), .ext (.t 24) 0, none⟩,
      ⟨(some 28), .ext (.t 24) 1, none⟩,
      ⟨(some 9), .mov (.t 27), none⟩,
      ⟨(some 10), .mov (.t 28), none⟩] (some [1, 2, 9, 10]) none)
    (.seq (.seq (.reg none [
      ⟨(some 29), .mov (.t 10), none⟩,
      ⟨(some 30), .mov (.t 9), none⟩,
      ⟨(some 31), .bin .leq (.t 29) (.t 30), none⟩] (some [1, 2, 10, 31]) none)
    (.cond (.t 31) (.seq (.reg none [
      ⟨(some 6), .mov (.c (.int .u64 0)), none⟩,
      ⟨(some 7), .mov (.c (.int .i64 8)), none⟩] (some [6, 7]) none)
    .ret)
    .skip))
    (.seq (.reg none [
      ⟨(some 32), .mov (.t 1), none⟩,
      ⟨(some 33), .mov (.t 2), none⟩,
      ⟨(some 34), .call 67 [(.t 32), (.t 33)], none⟩,
      ⟨(some 11), .new (rl [(1, .int .i8 0), (64, .int .u8 0)]), none⟩,
      ⟨none, .store 65 (.t 11) (.t 34), none⟩] (some [10, 11]) none)
    (.seq (.reg none [
      ⟨(some 35), .mov (.t 10), none⟩,
      ⟨(some 36), .call 68 [(.t 11), (.t 35)], none⟩,
      ⟨(some 6), .mov (.t 36), none⟩,
      ⟨(some 7), .mov (.c (.int .i64 0)), none⟩] (some [6, 7]) none)
    .ret))))))))
def spec_ReadWith_F : MF := ⟨37, [.t 6, .t 7], spec_ReadWith_M⟩
theorem spec_ReadWith_ok : OkF Try.prog 26 spec_ReadWith_F Try.f26 (bodyOf Try.f26) := ⟨Try.func26, by kernel_rfl, by kernel_rfl, by kernel_rfl, by kernel_rfl⟩
-- loop.example/g01312/impl.ReadWith
def impl_ReadWith_M : MC :=
  (.seq (.reg none [
      ⟨(some 3), .box (.t 0), none⟩,
      ⟨(some 6), .mov (.c (.int .u64 0)), none⟩,
      ⟨(some 7), .mov (.c (.int .i64 0)), none⟩] (some [1, 2, 3]) none)
    (.seq (.seq (.reg none [
      ⟨(some 12), .load (some 14) (.t 3), none⟩,
      ⟨(some 13), .mov (.t 1), none⟩,
      ⟨(some 14), .call 61 [(.t 12), (.t 13)], none⟩,
      ⟨(some 8), .mov (.t 14), none⟩] (some [1, 2, 3, 8]) none)
    (.seq (.reg none [
      ⟨(some 15), .mov (.t 8), none⟩,
      ⟨(some 16), .bin .neq (.t 15) (.c (.int .i64 0)), none⟩] (some [1, 2, 3, 8, 16]) none)
    (.cond (.t 16) (.seq (.reg none [
      ⟨(some 17), .mov (.t 8), none⟩,
      ⟨(some 6), .mov (.c (.int .u64 0)), none⟩,
      ⟨(some 7), .mov (.t 17), none⟩] (some [6, 7]) none)
    .ret)
    .skip)))
    (.seq (.reg none [
      ⟨(some 19), .load (some 14) (.t 3), none⟩,
      ⟨(some 20), .mov (.t 2), none⟩,
      ⟨(some 21), .call 69 [(.t 19), (.t 20)], none⟩,
      ⟨(some 18), .mov (.t 21), none⟩,
      ⟨(some 22), .ext (.t 18) 0, none⟩,
      ⟨(some 23), .ext (.t 18) 1, none⟩,
      ⟨(some 24), .ext (.t 18) 2, none⟩,
      ⟨(some 9), .mov (.t 22), none⟩,
      ⟨(some 10), .mov (.t 23), none⟩,
      ⟨(some 11), .mov (.t 24), none⟩] (some [1, 2, 9, 10, 11]) none)
    (.seq (.seq (.reg none [
      ⟨(some 25), .mov (.t 11), none⟩,
      ⟨(some 26), .bin .neq (.t 25) (.c (.int .i64 0)), none⟩,
      ⟨(some 27), .mov (.t 11), none⟩,
      ⟨(some 28), .bld [.bool false, .int .i64 0] [(0, 1, (.t 26)), (1, 1, (.t 27))], none⟩,
      ⟨(some 29), .mov (.t 9), none⟩,
      ⟨(some 30), .un .not (.t 29), none⟩,
      ⟨(some 31), .bld [.bool false, .int .i64 0] [(0, 1, (.t 30)), (1, 1, (.c (.int .i64 8)))], none⟩,
      ⟨(some 32), .bldS [.bool false, .int .i64 0] 2 [(0, 2, (.t 28)), (2, 2, (.t 31))], none⟩,
      ⟨(some 33), .call 55 [(.t 32)], none⟩,
      ⟨(some 11), .mov (.t 33), none⟩] (some [1, 2, 10, 11]) none)
    (.seq (.reg none [
      ⟨(some 34), .mov (.t 11), none⟩,
      ⟨(some 35), .bin .neq (.t 34) (.c (.int .i64 0)), none⟩] (some [1, 2, 10, 11, 35]) none)
    (.cond (.t 35) (.seq (.reg none [
      ⟨(some 36), .mov (.t 11), none⟩,
      ⟨(some 6), .mov (.c (.int .u64 0)), none⟩,
      ⟨(some 7), .mov (.t 36), none⟩] (some [6, 7]) none)
    .ret)
    .skip)))
    (.seq (.reg none [
      ⟨(some 37), .mov (.t 1), none⟩,
      ⟨(some 38), .mov (.t 2), none⟩,
      ⟨(some 39), .call 70 [(.t 37), (.t 38)], none⟩,
      ⟨(some 40), .mov (.t 10), none⟩,
      ⟨(some 41), .call 71 [(.t 39), (.t 40)], none⟩,
      ⟨(some 6), .mov (.t 41), none⟩,
      ⟨(some 7), .mov (.c (.int .i64 0)), none⟩] (some [6, 7]) none)
    .ret)))))
def impl_ReadWith_F : MF := ⟨42, [.t 6, .t 7], impl_ReadWith_M⟩
theorem impl_ReadWith_ok : OkF Try.prog 27 impl_ReadWith_F Try.f27 (bodyOf Try.f27) := ⟨Try.func27, by kernel_rfl, by kernel_rfl, by kernel_rfl, by kernel_rfl⟩
-- loop.example/g01312/spec.AlikeSchemes
def spec_AlikeSchemes_M : MC :=
  (.seq (.reg none [
      ⟨(some 2), .box (.t 0), none⟩,
      ⟨(some 3), .box (.t 1), none⟩,
      ⟨(some 4), .mov (.c (.bool false)), none⟩,
      ⟨(some 5), .mov (.c (.int .i64 0)), none⟩] (some [2, 3]) none)
    (.seq (.seq (.reg none [
      ⟨(some 6), .call 72 [(.t 2)], none⟩,
      ⟨(some 7), .un .not (.t 6), none⟩,
      ⟨(some 8), .mov (.t 7), none⟩,
      ⟨(some 9), .call 72 [(.t 3)], some (8, false)⟩,
      ⟨(some 10), .un .not (.t 9), some (8, false)⟩,
      ⟨(some 11), .pick (.t 8) (.c (.bool true)) (.t 10), none⟩] (some [2, 3, 11]) none)
    (.cond (.t 11) (.seq (.reg none [
      ⟨(some 4), .mov (.c (.bool false)), none⟩,
      ⟨(some 5), .mov (.c (.int .i64 1)), none⟩] (some [4, 5]) none)
    .ret)
    .skip))
    (.seq (.reg none [
      ⟨(some 12), .call 73 [(.t 2)], none⟩,
      ⟨(some 13), .call 73 [(.t 3)], none⟩,
      ⟨(some 14), .aeq false (.i8 :: .i8 :: List.replicate 12 .u8) (.t 12) (.t 13), none⟩,
      ⟨(some 4), .mov (.t 14), none⟩,
      ⟨(some 5), .mov (.c (.int .i64 0)), none⟩] (some [4, 5]) none)
    .ret)))
def spec_AlikeSchemes_F : MF := ⟨15, [.t 4, .t 5], spec_AlikeSchemes_M⟩
theorem spec_AlikeSchemes_ok : OkF Try.prog 28 spec_AlikeSchemes_F Try.f28 (bodyOf Try.f28) := ⟨Try.func28, by kernel_rfl, by kernel_rfl, by kernel_rfl, by kernel_rfl⟩
-- loop.example/g01312/impl.AlikeSchemes
def impl_AlikeSchemes_M : MC :=
  (.seq (.reg none [
      ⟨(some 2), .box (.t 0), none⟩,
      ⟨(some 3), .box (.t 1), none⟩,
      ⟨(some 4), .mov (.c (.bool false)), none⟩,
      ⟨(some 5), .mov (.c (.int .i64 0)), none⟩] (some [2, 3]) none)
    (.seq (.seq (.reg none [
      ⟨(some 6), .load (some 14) (.t 2), none⟩,
      ⟨(some 7), .call 74 [(.t 6)], none⟩,
      ⟨(some 8), .un .not (.t 7), none⟩,
      ⟨(some 9), .mov (.t 8), none⟩,
      ⟨(some 10), .load (some 14) (.t 3), some (9, false)⟩,
      ⟨(some 11), .call 74 [(.t 10)], some (9, false)⟩,
      ⟨(some 12), .un .not (.t 11), some (9, false)⟩,
      ⟨(some 13), .pick (.t 9) (.c (.bool true)) (.t 12), none⟩] (some [2, 3, 13]) none)
    (.cond (.t 13) (.seq (.reg none [
      ⟨(some 4), .mov (.c (.bool false)), none⟩,
      ⟨(some 5), .mov (.c (.int .i64 1)), none⟩] (some [4, 5]) none)
    .ret)
    .skip))
    (.seq (.reg (some [(1, 2), (0, 3)]) [
      ⟨(some 14), .load (some 14) (.t 2), none⟩,
      ⟨(some 15), .call 75 [(.t 14)], none⟩,
      ⟨(some 16), .load (some 14) (.t 3), none⟩,
      ⟨(some 17), .call 75 [(.t 16)], none⟩,
      ⟨(some 18), .aeq false (.i8 :: .i8 :: List.replicate 12 .u8) (.t 15) (.t 17), none⟩,
      ⟨(some 4), .mov (.t 18), none⟩,
      ⟨(some 5), .mov (.c (.int .i64 0)), none⟩] (some [4, 5]) none)
    .ret)))
def impl_AlikeSchemes_F : MF := ⟨19, [.t 4, .t 5], impl_AlikeSchemes_M⟩
theorem impl_AlikeSchemes_ok : OkF Try.prog 29 impl_AlikeSchemes_F Try.f29 (bodyOf Try.f29) := ⟨Try.func29, by kernel_rfl, by kernel_rfl, by kernel_rfl, by kernel_rfl⟩
-- loop.example/g01312/spec.LearnsNothing
def spec_LearnsNothing_M : MC :=
  (.seq (.reg none [
      ⟨(some 2), .box (.t 0), none⟩,
      ⟨(some 4), .mov (.c (.bool false)), none⟩,
      ⟨(some 5), .mov (.c (.int .i64 0)), none⟩] (some [1, 2]) none)
    (.seq (.seq (.reg none [
      ⟨(some 7), .mov (.t 1), none⟩,
      ⟨(some 8), .call 76 [(.t 2), (.t 7)], none⟩,
      ⟨(some 6), .mov (.t 8), none⟩] (some [1, 2, 6]) none)
    (.seq (.reg none [
      ⟨(some 9), .mov (.t 6), none⟩,
      ⟨(some 10), .bin .neq (.t 9) (.c (.int .i64 0)), none⟩] (some [1, 2, 6, 10]) none)
    (.cond (.t 10) (.seq (.reg none [
      ⟨(some 11), .mov (.t 6), none⟩,
      ⟨(some 4), .mov (.c (.bool false)), none⟩,
      ⟨(some 5), .mov (.t 11), none⟩] (some [4, 5]) none)
    .ret)
    .skip)))
    (.seq (.reg none [
      ⟨(some 12), .mov (.t 1), none⟩,
      ⟨(some 13), .call 77 [(.t 2), (.t 12)], none⟩,
      ⟨(some 4), .mov (.t 13), none⟩,
      ⟨(some 5), .mov (.c (.int .i64 0)), none⟩] (some [4, 5]) none)
    .ret)))
def spec_LearnsNothing_F : MF := ⟨14, [.t 4, .t 5], spec_LearnsNothing_M⟩
theorem spec_LearnsNothing_ok : OkF Try.prog 30 spec_LearnsNothing_F Try.f30 (bodyOf Try.f30) := ⟨Try.func30, by kernel_rfl, by kernel_rfl, by kernel_rfl, by kernel_rfl⟩
-- loop.example/g01312/impl.LearnsNothing
def impl_LearnsNothing_M : MC :=
  (.seq (.reg none [
      ⟨(some 2), .box (.t 0), none⟩,
      ⟨(some 4), .mov (.c (.bool false)), none⟩,
      ⟨(some 5), .mov (.c (.int .i64 0)), none⟩] (some [1, 2]) none)
    (.seq (.seq (.reg none [
      ⟨(some 7), .load (some 14) (.t 2), none⟩,
      ⟨(some 8), .mov (.t 1), none⟩,
      ⟨(some 9), .call 78 [(.t 7), (.t 8)], none⟩,
      ⟨(some 6), .mov (.t 9), none⟩] (some [1, 2, 6]) none)
    (.seq (.reg none [
      ⟨(some 10), .mov (.t 6), none⟩,
      ⟨(some 11), .bin .neq (.t 10) (.c (.int .i64 0)), none⟩] (some [1, 2, 6, 11]) none)
    (.cond (.t 11) (.seq (.reg none [
      ⟨(some 12), .mov (.t 6), none⟩,
      ⟨(some 4), .mov (.c (.bool false)), none⟩,
      ⟨(some 5), .mov (.t 12), none⟩] (some [4, 5]) none)
    .ret)
    .skip)))
    (.seq (.reg none [
      ⟨(some 13), .load (some 14) (.t 2), none⟩,
      ⟨(some 14), .mov (.t 1), none⟩,
      ⟨(some 15), .call 79 [(.t 13), (.t 14)], none⟩,
      ⟨(some 4), .mov (.t 15), none⟩,
      ⟨(some 5), .mov (.c (.int .i64 0)), none⟩] (some [4, 5]) none)
    .ret)))
def impl_LearnsNothing_F : MF := ⟨16, [.t 4, .t 5], impl_LearnsNothing_M⟩
theorem impl_LearnsNothing_ok : OkF Try.prog 31 impl_LearnsNothing_F Try.f31 (bodyOf Try.f31) := ⟨Try.func31, by kernel_rfl, by kernel_rfl, by kernel_rfl, by kernel_rfl⟩
-- loop.example/g01312/spec.SortScheme
def spec_SortScheme_M : MC :=
  (.seq (.reg none [
      ⟨(some 1), .box (.t 0), none⟩,
      ⟨(some 2), .new (rl [(2, .int .i8 0), (12, .int .u8 0)]), none⟩,
      ⟨(some 3), .mov (.c (.int .i64 0)), none⟩] (some [1, 2]) none)
    (.seq (.seq (.reg none [
      ⟨(some 4), .call 72 [(.t 1)], none⟩,
      ⟨(some 5), .un .not (.t 4), none⟩] (some [1, 2, 5]) none)
    (.cond (.t 5) (.seq (.reg none [
      ⟨(some 6), .bld (rl [(2, .int .i8 0), (12, .int .u8 0)]) [], none⟩,
      ⟨none, .store 14 (.t 2) (.t 6), none⟩,
      ⟨(some 3), .mov (.c (.int .i64 1)), none⟩] (some [2, 3]) none)
    .ret)
    .skip))
    (.seq (.reg none [
      ⟨(some 7), .call 73 [(.t 1)], none⟩,
      ⟨none, .store 14 (.t 2) (.t 7), none⟩,
      ⟨(some 3), .mov (.c (.int .i64 0)), none⟩] (some [2, 3]) none)
    .ret)))
def spec_SortScheme_F : MF := ⟨8, [.c 2 (some 14), .t 3], spec_SortScheme_M⟩
theorem spec_SortScheme_ok : OkF Try.prog 32 spec_SortScheme_F Try.f32 (bodyOf Try.f32) := ⟨Try.func32, by kernel_rfl, by kernel_rfl, by kernel_rfl, by kernel_rfl⟩
-- loop.example/g01312/impl.SortScheme
def impl_SortScheme_M : MC :=
  (.seq (.reg none [
      ⟨(some 1), .box (.t 0), none⟩,
      ⟨(some 2), .new (rl [(2, .int .i8 0), (12, .int .u8 0)]), none⟩,
      ⟨(some 3), .mov (.c (.int .i64 0)), none⟩] (some [1, 2]) none)
    (.seq (.seq (.reg none [
      ⟨(some 4), .load (some 14) (.t 1), none⟩,
      ⟨(some 5), .call 74 [(.t 4)], none⟩,
      ⟨(some 6), .un .not (.t 5), none⟩] (some [1, 2, 6]) none)
    (.cond (.t 6) (.seq (.reg none [
      ⟨(some 7), .bld (rl [(2, .int .i8 0), (12, .int .u8 0)]) [], none⟩,
      ⟨none, .store 14 (.t 2) (.t 7), none⟩,
      ⟨(some 3), .mov (.c (.int .i64 1)), none⟩] (some [2, 3]) none)
    .ret)
    .skip))
    (.seq (.reg none [
      ⟨(some 8), .load (some 14) (.t 1), none⟩,
      ⟨(some 9), .call 75 [(.t 8)], none⟩,
      ⟨none, .store 14 (.t 2) (.t 9), none⟩,
      ⟨(some 3), .mov (.c (.int .i64 0)), none⟩] (some [2, 3]) none)
    .ret)))
def impl_SortScheme_F : MF := ⟨10, [.c 2 (some 14), .t 3], impl_SortScheme_M⟩
theorem impl_SortScheme_ok : OkF Try.prog 33 impl_SortScheme_F Try.f33 (bodyOf Try.f33) := ⟨Try.func33, by kernel_rfl, by kernel_rfl, by kernel_rfl, by kernel_rfl⟩
-- loop.example/g01312/laws.eqScheme
def laws_eqScheme_M : MC :=
  (.seq (.reg none [
      ⟨(some 2), .box (.t 0), none⟩,
      ⟨(some 3), .box (.t 1), none⟩,
      ⟨(some 4), .mov (.c (.bool false)), none⟩] (some [2, 3]) none)
    (.seq (.seq (.reg none [
      ⟨(some 5), .fa 0 (.t 2), none⟩,
      ⟨(some 6), .load none (.t 5), none⟩,
      ⟨(some 7), .fa 0 (.t 3), none⟩,
      ⟨(some 8), .load none (.t 7), none⟩,
      ⟨(some 9), .bin .neq (.t 6) (.t 8), none⟩] (some [2, 3, 9]) none)
    (.cond (.t 9) (.seq (.reg none [
      ⟨(some 4), .mov (.c (.bool false)), none⟩] (some [4]) none)
    .ret)
    .skip))
    (.seq (.seq (.reg none [
      ⟨(some 10), .fa 1 (.t 2), none⟩,
      ⟨(some 11), .load none (.t 10), none⟩,
      ⟨(some 12), .fa 1 (.t 3), none⟩,
      ⟨(some 13), .load none (.t 12), none⟩,
      ⟨(some 14), .bin .neq (.t 11) (.t 13), none⟩] (some [2, 3, 14]) none)
    (.cond (.t 14) (.seq (.reg none [
      ⟨(some 4), .mov (.c (.bool false)), none⟩] (some [4]) none)
    .ret)
    .skip))
    (.seq (.seq (.reg none [
      ⟨(some 15), .fa 2 (.t 2), none⟩,
      ⟨(some 16), .load (some 6) (.t 15), none⟩,
      ⟨(some 17), .fa 2 (.t 3), none⟩,
      ⟨(some 18), .load (some 6) (.t 17), none⟩,
      ⟨(some 19), .call 80 [(.t 16), (.t 18)], none⟩,
      ⟨(some 20), .un .not (.t 19), none⟩] (some [2, 3, 20]) none)
    (.cond (.t 20) (.seq (.reg none [
      ⟨(some 4), .mov (.c (.bool false)), none⟩] (some [4]) none)
    .ret)
    .skip))
    (.seq (.seq (.reg none [
      ⟨(some 21), .fa 8 (.t 2), none⟩,
      ⟨(some 22), .load (some 6) (.t 21), none⟩,
      ⟨(some 23), .fa 8 (.t 3), none⟩,
      ⟨(some 24), .load (some 6) (.t 23), none⟩,
      ⟨(some 25), .call 80 [(.t 22), (.t 24)], none⟩,
      ⟨(some 26), .un .not (.t 25), none⟩] (some [26]) none)
    (.cond (.t 26) (.seq (.reg none [
      ⟨(some 4), .mov (.c (.bool false)), none⟩] (some [4]) none)
    .ret)
    .skip))
    (.seq (.reg none [
      ⟨(some 4), .mov (.c (.bool true)), none⟩] (some [4]) none)
    .ret))))))
def laws_eqScheme_F : MF := ⟨27, [.t 4], laws_eqScheme_M⟩
theorem laws_eqScheme_ok : OkF Try.prog 34 laws_eqScheme_F Try.f34 (bodyOf Try.f34) := ⟨Try.func34, by kernel_rfl, by kernel_rfl, by kernel_rfl, by kernel_rfl⟩
-- loop.example/g01312/spec.BlindSets
def spec_BlindSets_M : MC :=
  (.seq (.reg none [
      ⟨(some 1), .box (.t 0), none⟩,
      ⟨(some 2), .mov (.c (.int .u64 0)), none⟩,
      ⟨(some 3), .mov (.c (.int .i64 0)), none⟩] (some [1]) none)
    (.seq (.seq (.reg none [
      ⟨(some 6), .call 72 [(.t 1)], none⟩,
      ⟨(some 7), .un .not (.t 6), none⟩] (some [1, 7]) none)
    (.cond (.t 7) (.seq (.reg none [
      ⟨(some 2), .mov (.c (.int .u64 0)), none⟩,
      ⟨(some 3), .mov (.c (.int .i64 1)), none⟩] (some [2, 3]) none)
    .ret)
    .skip))
    (.seq (.reg none [
      ⟨(some 9), .call 81 [(.t 1)], none⟩,
      ⟨(some 8), .mov (.t 9), none⟩,
      ⟨(some 10), .ext (.t 8) 0, none⟩,
      ⟨(some 11), .ext (.t 8) 1, none⟩,
      ⟨(some 4), .mov (.t 10), none⟩,
      ⟨(some 5), .mov (.t 11), none⟩] (some [5]) none)
    (.seq (.reg none [
      ⟨(some 12), .mov (.t 5), none⟩,
      ⟨(some 2), .mov (.t 12), none⟩,
      ⟨(some 3), .mov (.c (.int .i64 0)), none⟩] (some [2, 3]) none)
    .ret))))
def spec_BlindSets_F : MF := ⟨13, [.t 2, .t 3], spec_BlindSets_M⟩
theorem spec_BlindSets_ok : OkF Try.prog 35 spec_BlindSets_F Try.f35 (bodyOf Try.f35) := ⟨Try.func35, by kernel_rfl, by kernel_rfl, by kernel_rfl, by kernel_rfl⟩
-- loop.example/g01312/impl.BlindSets
def impl_BlindSets_M : MC :=
  (.seq (.reg none [
      ⟨(some 1), .box (.t 0), none⟩,
      ⟨(some 2), .mov (.c (.int .u64 0)), none⟩,
      ⟨(some 3), .mov (.c (.int .i64 0)), none⟩] (some [1]) none)
    (.seq (.seq (.reg none [
      ⟨(some 4), .load (some 14) (.t 1), none⟩,
      ⟨(some 5), .call 74 [(.t 4)], none⟩,
      ⟨(some 6), .un .not (.t 5), none⟩] (some [1, 6]) none)
    (.cond (.t 6) (.seq (.reg none [
      ⟨(some 2), .mov (.c (.int .u64 0)), none⟩,
      ⟨(some 3), .mov (.c (.int .i64 1)), none⟩] (some [2, 3]) none)
    .ret)
    .skip))
    (.seq (.reg none [
      ⟨(some 7), .load (some 14) (.t 1), none⟩,
      ⟨(some 8), .call 82 [(.t 7)], none⟩,
      ⟨(some 2), .mov (.t 8), none⟩,
      ⟨(some 3), .mov (.c (.int .i64 0)), none⟩] (some [2, 3]) none)
    .ret)))
def impl_BlindSets_F : MF := ⟨9, [.t 2, .t 3], impl_BlindSets_M⟩
theorem impl_BlindSets_ok : OkF Try.prog 36 impl_BlindSets_F Try.f36 (bodyOf Try.f36) := ⟨Try.func36, by kernel_rfl, by kernel_rfl, by kernel_rfl, by kernel_rfl⟩
-- loop.example/g01312/spec.IsSound
def spec_IsSound_M : MC :=
  (.seq (.reg none [
      ⟨(some 1), .box (.t 0), none⟩,
      ⟨(some 2), .mov (.c (.bool false)), none⟩,
      ⟨(some 3), .mov (.c (.int .i64 0)), none⟩] (some [1]) none)
    (.seq (.seq (.reg none [
      ⟨(some 6), .call 72 [(.t 1)], none⟩,
      ⟨(some 7), .un .not (.t 6), none⟩] (some [1, 7]) none)
    (.cond (.t 7) (.seq (.reg none [
      ⟨(some 2), .mov (.c (.bool false)), none⟩,
      ⟨(some 3), .mov (.c (.int .i64 1)), none⟩] (some [2, 3]) none)
    .ret)
    .skip))
    (.seq (.reg none [
      ⟨(some 9), .call 81 [(.t 1)], none⟩,
      ⟨(some 8), .mov (.t 9), none⟩,
      ⟨(some 10), .ext (.t 8) 0, none⟩,
      ⟨(some 11), .ext (.t 8) 1, none⟩,
      ⟨(some 4), .mov (.t 10), none⟩,
      ⟨(some 5), .mov (.t 11), none⟩] (some [1, 4, 5]) none)
    (.seq (.reg none [
      ⟨(some 12), .mov (.t 4), none⟩,
      ⟨(some 13), .mov (.t 5), none⟩,
      ⟨(some 14), .bin .or (.t 12) (.t 13), none⟩,
      ⟨(some 15), .fa 0 (.t 1), none⟩,
      ⟨(some 16), .load none (.t 15), none⟩,
      ⟨(some 17), .call 83 [(.t 16)], none⟩,
      ⟨(some 18), .bin .eql (.t 14) (.t 17), none⟩,
      ⟨(some 2), .mov (.t 18), none⟩,
      ⟨(some 3), .mov (.c (.int .i64 0)), none⟩] (some [2, 3]) none)
    .ret))))
def spec_IsSound_F : MF := ⟨19, [.t 2, .t 3], spec_IsSound_M⟩
theorem spec_IsSound_ok : OkF Try.prog 37 spec_IsSound_F Try.f37 (bodyOf Try.f37) := ⟨Try.func37, by kernel_rfl, by kernel_rfl, by kernel_rfl, by kernel_rfl⟩
-- loop.example/g01312/impl.IsSound
def impl_IsSound_M : MC :=
  (.seq (.reg none [
      ⟨(some 1), .box (.t 0), none⟩,
      ⟨(some 2), .mov (.c (.bool false)), none⟩,
      ⟨(some 3), .mov (.c (.int .i64 0)), none⟩] (some [1]) none)
    (.seq (.seq (.reg none [
      ⟨(some 4), .load (some 14) (.t 1), none⟩,
      ⟨(some 5), .call 74 [(.t 4)], none⟩,
      ⟨(some 6), .un .not (.t 5), none⟩] (some [1, 6]) none)
    (.cond (.t 6) (.seq (.reg none [
      ⟨(some 2), .mov (.c (.bool false)), none⟩,
      ⟨(some 3), .mov (.c (.int .i64 1)), none⟩] (some [2, 3]) none)
    .ret)
    .skip))
    (.seq (.reg none [
      ⟨(some 7), .load (some 14) (.t 1), none⟩,
      ⟨(some 8), .call 84 [(.t 7)], none⟩,
      ⟨(some 2), .mov (.t 8), none⟩,
      ⟨(some 3), .mov (.c (.int .i64 0)), none⟩] (some [2, 3]) none)
    .ret)))
def impl_IsSound_F : MF := ⟨9, [.t 2, .t 3], impl_IsSound_M⟩
theorem impl_IsSound_ok : OkF Try.prog 38 impl_IsSound_F Try.f38 (bodyOf Try.f38) := ⟨Try.func38, by kernel_rfl, by kernel_rfl, by kernel_rfl, by kernel_rfl⟩
-- loop.example/g01312/spec.CancelColumns
def spec_CancelColumns_L0 : MC :=
  (.seq (.seq (.reg none [
      ⟨(some 14), .mov (.t 6), none⟩,
      ⟨(some 15), .bin .lss (.t 14) (.c (.int .i64 64)), none⟩] (some [1, 2, 4, 5, 6, 15]) none)
    (.cond (.t 15) .skip
    (.exit 0)))
    (.seq (.block 1 (.seq (.reg (some [(2, 8), (6, 8)]) [
      ⟨(some 18), .mov (.t 6), none⟩,
      ⟨(some 19), .iaA 64 1 (.t 4) (.t 18), none⟩,
      ⟨(some 20), .load none (.t 19), none⟩,
      ⟨(some 21), .conv .i64 (.t 20), none⟩,
      ⟨(some 22), .mov (.t 6), none⟩,
      ⟨(some 23), .iaA 64 1 (.t 5) (.t 22), none⟩,
      ⟨(some 24), .load none (.t 23), none⟩,
      ⟨(some 25), .conv .i64 (.t 24), none⟩,
      ⟨(some 26), .call 86 [(.t 21), (.t 25)], none⟩,
      ⟨(some 27), .conv .i8 (.t 26), none⟩,
      ⟨(some 7), .mov (.t 27), none⟩] (some [1, 2, 4, 5, 6, 7]) none)
    (.seq (.reg none [
      ⟨(some 28), .mov (.t 6), none⟩,
      ⟨(some 29), .iaA 64 1 (.t 4) (.t 28), none⟩,
      ⟨(some 30), .load none (.t 29), none⟩,
      ⟨(some 31), .mov (.t 7), none⟩,
      ⟨(some 32), .bin .sub (.t 30) (.t 31), none⟩,
      ⟨(some 33), .iaA 64 1 (.t 4) (.t 28), none⟩,
      ⟨none, .store 1 (.t 33) (.t 32), none⟩] (some [1, 2, 4, 5, 6, 7]) none)
    (.reg none [
      ⟨(some 34), .mov (.t 6), none⟩,
      ⟨(some 35), .iaA 64 1 (.t 5) (.t 34), none⟩,
      ⟨(some 36), .load none (.t 35), none⟩,
      ⟨(some 37), .mov (.t 7), none⟩,
      ⟨(some 38), .bin .sub (.t 36) (.t 37), none⟩,
      ⟨(some 39), .iaA 64 1 (.t 5) (.t 34), none⟩,
      ⟨none, .store 1 (.t 39) (.t 38), none⟩] (some [1, 2, 4, 5, 6]) none))))
    (.reg none [
      ⟨(some 16), .mov (.t 6), none⟩,
      ⟨(some 17), .bin .add (.t 16) (.c (.int .i64 1)), none⟩,
      ⟨(some 6), .mov (.t 17), none⟩] (some [1, 2, 4, 5, 6]) none)))
def spec_CancelColumns_M : MC :=
  (.seq (.reg none [
      ⟨(some 1), .box (.t 0), none⟩,
      ⟨(some 2), .new (rl [(2, .int .i8 0), (12, .int .u8 0)]), none⟩,
      ⟨(some 3), .mov (.c (.int .i64 0)), none⟩] (some [1, 2]) none)
    (.seq (.seq (.reg none [
      ⟨(some 9), .call 72 [(.t 1)], none⟩,
      ⟨(some 10), .un .not (.t 9), none⟩] (some [1, 2, 10]) none)
    (.cond (.t 10) (.seq (.reg none [
      ⟨(some 11), .bld (rl [(2, .int .i8 0), (12, .int .u8 0)]) [], none⟩,
      ⟨none, .store 14 (.t 2) (.t 11), none⟩,
      ⟨(some 3), .mov (.c (.int .i64 1)), none⟩] (some [2, 3]) none)
    .ret)
    .skip))
    (.seq (.reg none [
      ⟨(some 12), .call 85 [(.t 1), (.c (.int .u8 63)), (.c (.bool false))], none⟩,
      ⟨(some 4), .new (rl [(64, .int .i8 0)]), none⟩,
      ⟨none, .store 64 (.t 4) (.t 12), none⟩] (some [1, 2, 4]) none)
    (.seq (.reg none [
      ⟨(some 13), .call 85 [(.t 1), (.c (.int .u8 63)), (.c (.bool true))], none⟩,
      ⟨(some 5), .new (rl [(64, .int .i8 0)]), none⟩,
      ⟨none, .store 64 (.t 5) (.t 13), none⟩] (some [1, 2, 4, 5]) none)
    (.seq (.seq (.reg none [
      ⟨(some 6), .mov (.c (.int .i64 0)), none⟩] (some [1, 2, 4, 5, 6]) none)
    (.block 0 (.loop spec_CancelColumns_L0)))
    (.seq (.reg none [
      ⟨(some 40), .load (some 64) (.t 4), none⟩,
      ⟨(some 41), .call 87 [(.t 40)], none⟩,
      ⟨(some 8), .mov (.t 41), none⟩] (some [1, 2, 5, 8]) none)
    (.seq (.seq (.reg none [
      ⟨(some 42), .mov (.t 8), none⟩,
      ⟨(some 43), .lenS (.t 42), none⟩,
      ⟨(some 44), .bin .eql (.t 43) (.c (.int .i64 0)), none⟩] (some [1, 2, 5, 8, 44]) none)
    (.cond (.t 44) (.seq (.reg none [
      ⟨(some 45), .bld (rl [(2, .int .i8 0), (12, .int .u8 0)]) [], none⟩,
      ⟨none, .store 14 (.t 2) (.t 45), none⟩,
      ⟨(some 3), .mov (.c (.int .i64 4)), none⟩] (some [2, 3]) none)
    .ret)
    .skip))
    (.seq (.reg (some [(1, 4), (3, 5)]) [
      ⟨(some 46), .fa 0 (.t 1), none⟩,
      ⟨(some 47), .load none (.t 46), none⟩,
      ⟨(some 48), .mov (.t 8), none⟩,
      ⟨(some 49), .load (some 64) (.t 5), none⟩,
      ⟨(some 50), .call 87 [(.t 49)], none⟩,
      ⟨(some 51), .call 88 [(.t 47), (.t 48), (.t 50)], none⟩,
      ⟨none, .store 14 (.t 2) (.t 51), none⟩,
      ⟨(some 3), .mov (.c (.int .i64 0)), none⟩] (some [2, 3]) none)
    .ret))))))))
def spec_CancelColumns_F : MF := ⟨52, [.c 2 (some 14), .t 3], spec_CancelColumns_M⟩
theorem spec_CancelColumns_ok : OkF Try.prog 39 spec_CancelColumns_F Try.f39 (bodyOf Try.f39) := ⟨Try.func39, by kernel_rfl, by kernel_rfl, by kernel_rfl, by kernel_rfl⟩
-- loop.example/g01312/impl.CancelColumns
def impl_CancelColumns_M : MC :=
  (.seq (.reg none [
      ⟨(some 1), .box (.t 0), none⟩,
      ⟨(some 2), .new (rl [(2, .int .i8 0), (12, .int .u8 0)]), none⟩,
      ⟨(some 3), .mov (.c (.int .i64 0)), none⟩] (some [1, 2]) none)
    (.seq (.seq (.reg none [
      ⟨(some 8), .load (some 14) (.t 1), none⟩,
      ⟨(some 9), .call 74 [(.t 8)], none⟩,
      ⟨(some 10), .un .not (.t 9), none⟩] (some [1, 2, 10]) none)
    (.cond (.t 10) (.seq (.reg none [
      ⟨(some 11), .bld (rl [(2, .int .i8 0), (12, .int .u8 0)]) [], none⟩,
      ⟨none, .store 14 (.t 2) (.t 11), none⟩,
      ⟨(some 3), .mov (.c (.int .i64 1)), none⟩] (some [2, 3]) none)
    .ret)
    .skip))
    (.seq (.reg (some [(0, 2), (1, 3), (2, 4), (3, 4), (2, 5), (3, 5), (0, 6), (1, 6), (2, 6), (4, 6), (0, 7), (1, 7), (2, 7), (3, 7), (5, 7)]) [
      ⟨(some 12), .load (some 14) (.t 1), none⟩,
      ⟨(some 13), .load (some 14) (.t 1), none⟩,
      ⟨(some 14), .call 90 [(.t 13)], none⟩,
      ⟨(some 15), .call 89 [(.t 12), (.t 14), (.c (.bool false))], none⟩,
      ⟨(some 16), .load (some 14) (.t 1), none⟩,
      ⟨(some 17), .load (some 14) (.t 1), none⟩,
      ⟨(some 18), .call 90 [(.t 17)], none⟩,
      ⟨(some 19), .call 89 [(.t 16), (.t 18), (.c (.bool true))], none⟩,
      ⟨(some 4), .mov (.t 15), none⟩,
      ⟨(some 5), .mov (.t 19), none⟩] (some [1, 2, 4, 5]) none)
    (.seq (.reg none [
      ⟨(some 20), .mov (.t 4), none⟩,
      ⟨(some 21), .mov (.t 5), none⟩,
      ⟨(some 22), .call 91 [(.t 20), (.t 21)], none⟩,
      ⟨(some 23), .mov (.t 5), none⟩,
      ⟨(some 24), .mov (.t 4), none⟩,
      ⟨(some 25), .call 91 [(.t 23), (.t 24)], none⟩,
      ⟨(some 6), .mov (.t 22), none⟩,
      ⟨(some 7), .mov (.t 25), none⟩] (some [1, 2, 6, 7]) none)
    (.seq (.seq (.reg none [
      ⟨(some 26), .mov (.t 6), none⟩,
      ⟨(some 27), .lenS (.t 26), none⟩,
      ⟨(some 28), .bin .eql (.t 27) (.c (.int .i64 0)), none⟩] (some [1, 2, 6, 7, 28]) none)
    (.cond (.t 28) (.seq (.reg none [
      ⟨(some 29), .bld (rl [(2, .int .i8 0), (12, .int .u8 0)]) [], none⟩,
      ⟨none, .store 14 (.t 2) (.t 29), none⟩,
      ⟨(some 3), .mov (.c (.int .i64 4)), none⟩] (some [2, 3]) none)
    .ret)
    .skip))
    (.seq (.reg none [
      ⟨(some 30), .mov (.t 6), none⟩,
      ⟨(some 31), .lenS (.t 30), none⟩,
      ⟨(some 32), .conv .i8 (.t 31), none⟩,
      ⟨(some 33), .fa 1 (.t 1), none⟩,
      ⟨none, .store 1 (.t 33) (.t 32), none⟩] (some [1, 2, 6, 7]) none)
    (.seq (.reg none [
      ⟨(some 34), .mov (.t 6), none⟩,
      ⟨(some 35), .call 92 [(.t 1), (.t 34), (.c (.bool false))], none⟩] (some [1, 2, 7]) none)
    (.seq (.reg none [
      ⟨(some 36), .mov (.t 7), none⟩,
      ⟨(some 37), .call 92 [(.t 1), (.t 36), (.c (.bool true))], none⟩] (some [1, 2]) none)
    (.seq (.reg none [
      ⟨(some 38), .load (some 14) (.t 1), none⟩,
      ⟨none, .store 14 (.t 2) (.t 38), none⟩,
      ⟨(some 3), .mov (.c (.int .i64 0)), none⟩] (some [2, 3]) none)
    .ret)))))))))
def impl_CancelColumns_F : MF := ⟨39, [.c 2 (some 14), .t 3], impl_CancelColumns_M⟩
theorem impl_CancelColumns_ok : OkF Try.prog 40 impl_CancelColumns_F Try.f40 (bodyOf Try.f40) := ⟨Try.func40, by kernel_rfl, by kernel_rfl, by kernel_rfl, by kernel_rfl⟩
-- loop.example/g01312/spec.ColumnsAt
def spec_ColumnsAt_M : MC :=
  (.seq (.reg none [
      ⟨(some 4), .mov (.c (.nilsl)), none⟩,
      ⟨(some 5), .mov (.c (.int .i64 0)), none⟩] (some [0, 1]) none)
    (.seq (.reg none [
      ⟨(some 7), .mov (.t 0), none⟩,
      ⟨(some 8), .call 46 [(.t 7)], none⟩,
      ⟨(some 6), .mov (.t 8), none⟩] (some [0, 1, 6]) none)
    (.seq (.seq (.reg none [
      ⟨(some 9), .mov (.t 6), none⟩,
      ⟨(some 10), .bin .eql (.t 9) (.c (.int .i64 0)), none⟩,
      ⟨(some 11), .mov (.t 10), none⟩,
      ⟨(some 12), .mov (.t 1), some (11, true)⟩,
      ⟨(some 13), .call 93 [(.t 12), (.c (.int .i64 0)), (.c (.int .i64 63))], some (11, true)⟩,
      ⟨(some 14), .un .not (.t 13), some (11, true)⟩,
      ⟨(some 15), .pick (.t 11) (.t 14) (.c (.bool false)), none⟩] (some [0, 1, 6, 15]) none)
    (.cond (.t 15) (.reg none [
      ⟨(some 6), .mov (.c (.int .i64 2)), none⟩] (some [0, 1, 6]) none)
    .skip))
    (.seq (.seq (.reg none [
      ⟨(some 16), .mov (.t 6), none⟩,
      ⟨(some 17), .bin .neq (.t 16) (.c (.int .i64 0)), none⟩] (some [0, 1, 6, 17]) none)
    (.cond (.t 17) (.seq (.reg none [
      ⟨(some 18), .bldS [.int .u8 0] 0 [], none⟩,
      ⟨(some 19), .mov (.t 6), none⟩,
      ⟨(some 4), .mov (.t 18), none⟩,
      ⟨(some 5), .mov (.t 19), none⟩] (some [4, 5]) none)
    .ret)
    .skip))
    (.seq (.reg (some [(2, 6), (6, 8)]) [
      ⟨(some 20), .mov (.t 0), none⟩,
      ⟨(some 21), .mov (.t 1), none⟩,
      ⟨(some 22), .call 95 [(.t 20), (.t 21)], none⟩,
      ⟨(some 23), .mov (.t 0), none⟩,
      ⟨(some 24), .iaS 65 (.t 23) (.c (.int .i64 0)), none⟩,
      ⟨(some 25), .fa 0 (.t 24), none⟩,
      ⟨(some 26), .load none (.t 25), none⟩,
      ⟨(some 27), .conv .i64 (.t 26), none⟩,
      ⟨(some 28), .call 94 [(.t 22), (.t 27)], none⟩,
      ⟨(some 4), .mov (.t 28), none⟩,
      ⟨(some 5), .mov (.c (.int .i64 0)), none⟩] (some [4, 5]) none)
    .ret)))))
def spec_ColumnsAt_F : MF := ⟨29, [.t 4, .t 5], spec_ColumnsAt_M⟩
theorem spec_ColumnsAt_ok : OkF Try.prog 41 spec_ColumnsAt_F Try.f41 (bodyOf Try.f41) := ⟨Try.func41, by kernel_rfl, by kernel_rfl, by kernel_rfl, by kernel_rfl⟩
-- loop.example/g01312/impl.ColumnsAt
def impl_ColumnsAt_M : MC :=
  (.seq (.reg none [
      ⟨(some 4), .mov (.c (.nilsl)), none⟩,
      ⟨(some 5), .mov (.c (.int .i64 0)), none⟩] (some [0, 1]) none)
    (.seq (.seq (.reg none [
      ⟨(some 7), .mov (.t 0), none⟩,
      ⟨(some 8), .call 49 [(.t 7)], none⟩,
      ⟨(some 6), .mov (.t 8), none⟩] (some [0, 1, 6]) none)
    (.seq (.reg none [
      ⟨(some 9), .mov (.t 6), none⟩,
      ⟨(some 10), .bin .neq (.t 9) (.c (.int .i64 0)), none⟩] (some [0, 1, 6, 10]) none)
    (.cond (.t 10) (.seq (.reg none [
      ⟨(some 11), .mov (.t 6), none⟩,
      ⟨(some 4), .mov (.c (.nilsl)), none⟩,
      ⟨(some 5), .mov (.t 11), none⟩] (some [4, 5]) none)
    .ret)
    .skip)))
    (.seq (.seq (.reg none [
      ⟨(some 12), .mov (.t 1), none⟩,
      ⟨(some 13), .call 96 [(.t 12), (.c (.int .i64 0)), (.c (.int .i64 63))], none⟩,
      ⟨(some 14), .un .not (.t 13), none⟩] (some [0, 1, 14]) none)
    (.cond (.t 14) (.seq (.reg none [
      ⟨(some 4), .mov (.c (.nilsl)), none⟩,
      ⟨(some 5), .mov (.c (.int .i64 2)), none⟩] (some [4, 5]) none)
    .ret)
    .skip))
    (.seq (.reg none [
      ⟨(some 15), .mov (.t 0), none⟩,
      ⟨(some 16), .mov (.t 1), none⟩,
      ⟨(some 17), .call 97 [(.t 15), (.t 16)], none⟩,
      ⟨(some 4), .mov (.t 17), none⟩,
      ⟨(some 5), .mov (.c (.int .i64 0)), none⟩] (some [4, 5]) none)
    .ret))))
def impl_ColumnsAt_F : MF := ⟨18, [.t 4, .t 5], impl_ColumnsAt_M⟩
theorem impl_ColumnsAt_ok : OkF Try.prog 42 impl_ColumnsAt_F Try.f42 (bodyOf Try.f42) := ⟨Try.func42, by kernel_rfl, by kernel_rfl, by kernel_rfl, by kernel_rfl⟩
-- loop.example/g01312/laws.eqByteS
def laws_eqByteS_L0 : MC :=
  (.seq (.seq (.reg none [
      ⟨(some 11), .mov (.t 5), none⟩,
      ⟨(some 12), .mov (.t 0), none⟩,
      ⟨(some 13), .lenS (.t 12), none⟩,
      ⟨(some 14), .bin .lss (.t 11) (.t 13), none⟩] (some [0, 1, 5, 14]) none)
    (.cond (.t 14) .skip
    (.exit 0)))
    (.seq (.block 1 (.seq (.reg (some []) [
      ⟨(some 17), .mov (.t 0), none⟩,
      ⟨(some 18), .mov (.t 5), none⟩,
      ⟨(some 19), .iaS 1 (.t 17) (.t 18), none⟩,
      ⟨(some 20), .load none (.t 19), none⟩,
      ⟨(some 21), .mov (.t 1), none⟩,
      ⟨(some 22), .mov (.t 5), none⟩,
      ⟨(some 23), .iaS 1 (.t 21) (.t 22), none⟩,
      ⟨(some 24), .load none (.t 23), none⟩,
      ⟨(some 25), .bin .neq (.t 20) (.t 24), none⟩] (some [0, 1, 5, 25]) none)
    (.cond (.t 25) (.seq (.reg none [
      ⟨(some 4), .mov (.c (.bool false)), none⟩] (some [4]) none)
    .ret)
    .skip)))
    (.reg none [
      ⟨(some 15), .mov (.t 5), none⟩,
      ⟨(some 16), .bin .add (.t 15) (.c (.int .i64 1)), none⟩,
      ⟨(some 5), .mov (.t 16), none⟩] (some [0, 1, 5]) none)))
def laws_eqByteS_M : MC :=
  (.seq (.reg none [
      ⟨(some 4), .mov (.c (.bool false)), none⟩] (some [0, 1]) none)
    (.seq (.seq (.reg none [
      ⟨(some 6), .mov (.t 0), none⟩,
      ⟨(some 7), .lenS (.t 6), none⟩,
      ⟨(some 8), .mov (.t 1), none⟩,
      ⟨(some 9), .lenS (.t 8), none⟩,
      ⟨(some 10), .bin .neq (.t 7) (.t 9), none⟩] (some [0, 1, 10]) none)
    (.cond (.t 10) (.seq (.reg none [
      ⟨(some 4), .mov (.c (.bool false)), none⟩] (some [4]) none)
    .ret)
    .skip))
    (.seq (.seq (.reg none [
      ⟨(some 5), .mov (.c (.int .i64 0)), none⟩] (some [0, 1, 5]) none)
    (.block 0 (.loop laws_eqByteS_L0)))
    (.seq (.reg none [
      ⟨(some 4), .mov (.c (.bool true)), none⟩] (some [4]) none)
    .ret))))
def laws_eqByteS_F : MF := ⟨26, [.t 4], laws_eqByteS_M⟩
theorem laws_eqByteS_ok : OkF Try.prog 43 laws_eqByteS_F Try.f43 (bodyOf Try.f43) := ⟨Try.func43, by kernel_rfl, by kernel_rfl, by kernel_rfl, by kernel_rfl⟩
-- loop.example/g01312/laws.markByteS
def laws_markByteS_L0 : MC :=
  (.seq (.seq (.reg none [
      ⟨(some 6), .mov (.t 5), none⟩,
      ⟨(some 7), .mov (.t 0), none⟩,
      ⟨(some 8), .lenS (.t 7), none⟩,
      ⟨(some 9), .bin .lss (.t 6) (.t 8), none⟩] (some [0, 1, 5, 9]) none)
    (.cond (.t 9) .skip
    (.exit 0)))
    (.seq (.block 1 (.seq (.reg none [
      ⟨(some 12), .mov (.t 0), none⟩,
      ⟨(some 13), .mov (.t 5), none⟩,
      ⟨(some 14), .mov (.t 1), none⟩,
      ⟨(some 15), .conv .u8 (.t 14), none⟩,
      ⟨(some 16), .iaS 1 (.t 12) (.t 13), none⟩,
      ⟨none, .store 1 (.t 16) (.t 15), none⟩] (some [0, 1, 5]) none)
    (.reg none [
      ⟨(some 17), .mov (.t 1), none⟩,
      ⟨(some 18), .bin .add (.t 17) (.c (.int .i64 1)), none⟩,
      ⟨(some 1), .mov (.t 18), none⟩] (some [0, 1, 5]) none)))
    (.reg none [
      ⟨(some 10), .mov (.t 5), none⟩,
      ⟨(some 11), .bin .add (.t 10) (.c (.int .i64 1)), none⟩,
      ⟨(some 5), .mov (.t 11), none⟩] (some [0, 1, 5]) none)))
def laws_markByteS_M : MC :=
  (.seq (.reg none [
      ⟨(some 4), .mov (.c (.int .i64 0)), none⟩] (some [0, 1]) none)
    (.seq (.seq (.reg none [
      ⟨(some 5), .mov (.c (.int .i64 0)), none⟩] (some [0, 1, 5]) none)
    (.block 0 (.loop laws_markByteS_L0)))
    (.seq (.reg none [
      ⟨(some 19), .mov (.t 1), none⟩,
      ⟨(some 4), .mov (.t 19), none⟩] (some [4]) none)
    .ret)))
def laws_markByteS_F : MF := ⟨20, [.t 4], laws_markByteS_M⟩
theorem laws_markByteS_ok : OkF Try.prog 44 laws_markByteS_F Try.f44 (bodyOf Try.f44) := ⟨Try.func44, by kernel_rfl, by kernel_rfl, by kernel_rfl, by kernel_rfl⟩
-- loop.example/g01312/laws.heldByteS
def laws_heldByteS_L0 : MC :=
  (.seq (.seq (.reg none [
      ⟨(some 6), .mov (.t 5), none⟩,
      ⟨(some 7), .mov (.t 0), none⟩,
      ⟨(some 8), .lenS (.t 7), none⟩,
      ⟨(some 9), .bin .lss (.t 6) (.t 8), none⟩] (some [0, 1, 5, 9]) none)
    (.cond (.t 9) .skip
    (.exit 0)))
    (.seq (.block 1 (.seq (.seq (.reg none [
      ⟨(some 12), .mov (.t 0), none⟩,
      ⟨(some 13), .mov (.t 5), none⟩,
      ⟨(some 14), .iaS 1 (.t 12) (.t 13), none⟩,
      ⟨(some 15), .load none (.t 14), none⟩,
      ⟨(some 16), .mov (.t 1), none⟩,
      ⟨(some 17), .conv .u8 (.t 16), none⟩,
      ⟨(some 18), .bin .neq (.t 15) (.t 17), none⟩] (some [0, 1, 5, 18]) none)
    (.cond (.t 18) (.seq (.reg none [
      ⟨(some 4), .mov (.c (.int .i64 (-1))), none⟩] (some [4]) none)
    .ret)
    .skip))
    (.reg none [
      ⟨(some 19), .mov (.t 1), none⟩,
      ⟨(some 20), .bin .add (.t 19) (.c (.int .i64 1)), none⟩,
      ⟨(some 1), .mov (.t 20), none⟩] (some [0, 1, 5]) none)))
    (.reg none [
      ⟨(some 10), .mov (.t 5), none⟩,
      ⟨(some 11), .bin .add (.t 10) (.c (.int .i64 1)), none⟩,
      ⟨(some 5), .mov (.t 11), none⟩] (some [0, 1, 5]) none)))
def laws_heldByteS_M : MC :=
  (.seq (.reg none [
      ⟨(some 4), .mov (.c (.int .i64 0)), none⟩] (some [0, 1]) none)
    (.seq (.seq (.reg none [
      ⟨(some 5), .mov (.c (.int .i64 0)), none⟩] (some [0, 1, 5]) none)
    (.block 0 (.loop laws_heldByteS_L0)))
    (.seq (.reg none [
      ⟨(some 21), .mov (.t 1), none⟩,
      ⟨(some 4), .mov (.t 21), none⟩] (some [4]) none)
    .ret)))
def laws_heldByteS_F : MF := ⟨22, [.t 4], laws_heldByteS_M⟩
theorem laws_heldByteS_ok : OkF Try.prog 45 laws_heldByteS_F Try.f45 (bodyOf Try.f45) := ⟨Try.func45, by kernel_rfl, by kernel_rfl, by kernel_rfl, by kernel_rfl⟩
-- loop.example/g01312/spec.l03Layers
def spec_l03Layers_L0 : MC :=
  (.seq (.seq (.reg none [
      ⟨(some 11), .mov (.t 3), none⟩,
      ⟨(some 12), .mov (.t 0), none⟩,
      ⟨(some 13), .lenS (.t 12), none⟩,
      ⟨(some 14), .bin .lss (.t 11) (.t 13), none⟩] (some [0, 3, 14]) none)
    (.cond (.t 14) .skip
    (.exit 0)))
    (.seq (.block 1 (.seq (.reg (some []) [
      ⟨(some 17), .mov (.t 0), none⟩,
      ⟨(some 18), .mov (.t 3), none⟩,
      ⟨(some 19), .iaS 65 (.t 17) (.t 18), none⟩,
      ⟨(some 20), .fa 0 (.t 19), none⟩,
      ⟨(some 21), .load none (.t 20), none⟩,
      ⟨(some 22), .mov (.t 0), none⟩,
      ⟨(some 23), .iaS 65 (.t 22) (.c (.int .i64 0)), none⟩,
      ⟨(some 24), .fa 0 (.t 23), none⟩,
      ⟨(some 25), .load none (.t 24), none⟩,
      ⟨(some 26), .bin .neq (.t 21) (.t 25), none⟩] (some [0, 3, 26]) none)
    (.cond (.t 26) (.seq (.reg none [
      ⟨(some 2), .mov (.c (.int .i64 4)), none⟩] (some [2]) none)
    .ret)
    .skip)))
    (.reg none [
      ⟨(some 15), .mov (.t 3), none⟩,
      ⟨(some 16), .bin .add (.t 15) (.c (.int .i64 1)), none⟩,
      ⟨(some 3), .mov (.t 16), none⟩] (some [0, 3]) none)))
def spec_l03Layers_M : MC :=
  (.seq (.reg none [
      ⟨(some 2), .mov (.c (.int .i64 0)), none⟩] (some [0]) none)
    (.seq (.seq (.reg none [
      ⟨(some 4), .mov (.t 0), none⟩,
      ⟨(some 5), .call 52 [(.t 4)], none⟩,
      ⟨(some 6), .un .not (.t 5), none⟩] (some [0, 6]) none)
    (.cond (.t 6) (.seq (.reg none [
      ⟨(some 2), .mov (.c (.int .i64 1)), none⟩] (some [2]) none)
    .ret)
    .skip))
    (.seq (.seq (.reg none [
      ⟨(some 7), .mov (.t 0), none⟩,
      ⟨(some 8), .lenS (.t 7), none⟩,
      ⟨(some 9), .call 93 [(.t 8), (.c (.int .i64 1)), (.c (.int .i64 8))], none⟩,
      ⟨(some 10), .un .not (.t 9), none⟩] (some [0, 10]) none)
    (.cond (.t 10) (.seq (.reg none [
      ⟨(some 2), .mov (.c (.int .i64 2)), none⟩] (some [2]) none)
    .ret)
    .skip))
    (.seq (.seq (.reg none [
      ⟨(some 3), .mov (.c (.int .i64 0)), none⟩] (some [0, 3]) none)
    (.block 0 (.loop spec_l03Layers_L0)))
    (.seq (.reg none [
      ⟨(some 2), .mov (.c (.int .i64 0)), none⟩] (some [2]) none)
    .ret)))))
def spec_l03Layers_F : MF := ⟨27, [.t 2], spec_l03Layers_M⟩
theorem spec_l03Layers_ok : OkF Try.prog 46 spec_l03Layers_F Try.f46 (bodyOf Try.f46) := ⟨Try.func46, by kernel_rfl, by kernel_rfl, by kernel_rfl, by kernel_rfl⟩
-- loop.example/g01312/spec.l01Carried
def spec_l01Carried_L0 : MC :=
  (.seq (.seq (.reg none [
      ⟨(some 17), .mov (.t 10), none⟩,
      ⟨(some 18), .bin .lss (.t 17) (.c (.int .i64 64)), none⟩] (some [0, 1, 2, 3, 8, 9, 10, 18]) none)
    (.cond (.t 18) .skip
    (.exit 0)))
    (.seq (.block 1 (.seq (.reg none [
      ⟨(some 21), .mov (.t 10), none⟩,
      ⟨(some 22), .mov (.t 1), none⟩,
      ⟨(some 23), .mov (.t 2), none⟩,
      ⟨(some 24), .mov (.t 3), none⟩,
      ⟨(some 25), .call 98 [(.t 21), (.t 22), (.t 23), (.t 24)], none⟩,
      ⟨(some 11), .mov (.t 25), none⟩] (some [0, 1, 2, 3, 8, 9, 10, 11]) none)
    (.seq (.reg none [
      ⟨(some 26), .mov (.t 11), none⟩,
      ⟨(some 27), .bin .geq (.t 26) (.c (.int .i64 0)), none⟩] (some [0, 1, 2, 3, 8, 9, 10, 11, 27]) none)
    (.cond (.t 27) (.reg none [
      ⟨(some 28), .mov (.t 10), none⟩,
      ⟨(some 29), .mov (.t 0), none⟩,
      ⟨(some 30), .mov (.t 11), none⟩,
      ⟨(some 31), .nilc (.t 29), none⟩,
      ⟨(some 32), .fa 1 (.t 31), none⟩,
      ⟨(some 33), .iaA 64 1 (.t 32) (.t 30), none⟩,
      ⟨(some 34), .load none (.t 33), none⟩,
      ⟨(some 35), .fa 1 (.t 9), none⟩,
      ⟨(some 36), .iaA 64 1 (.t 35) (.t 28), none⟩,
      ⟨none, .store 1 (.t 36) (.t 34), none⟩] (some [0, 1, 2, 3, 8, 9, 10]) none)
    .skip))))
    (.reg none [
      ⟨(some 19), .mov (.t 10), none⟩,
      ⟨(some 20), .bin .add (.t 19) (.c (.int .i64 1)), none⟩,
      ⟨(some 10), .mov (.t 20), none⟩] (some [0, 1, 2, 3, 8, 9, 10]) none)))
def spec_l01Carried_M : MC :=
  (.seq (.reg none [
      ⟨(some 8), .new (rl [(1, .int .i8 0), (64, .int .u8 0)]), none⟩] (some [0, 1, 2, 3, 8]) none)
    (.seq (.reg none [
      ⟨(some 12), .mov (.t 0), none⟩,
      ⟨(some 13), .nilc (.t 12), none⟩,
      ⟨(some 14), .fa 0 (.t 13), none⟩,
      ⟨(some 15), .load none (.t 14), none⟩,
      ⟨(some 16), .bld (rl [(1, .int .i8 0), (64, .int .u8 0)]) [(0, 1, (.t 15))], none⟩,
      ⟨(some 9), .new (rl [(1, .int .i8 0), (64, .int .u8 0)]), none⟩,
      ⟨none, .store 65 (.t 9) (.t 16), none⟩] (some [0, 1, 2, 3, 8, 9]) none)
    (.seq (.seq (.reg none [
      ⟨(some 10), .mov (.c (.int .i64 0)), none⟩] (some [0, 1, 2, 3, 8, 9, 10]) none)
    (.block 0 (.loop spec_l01Carried_L0)))
    (.seq (.reg none [
      ⟨(some 37), .load (some 65) (.t 9), none⟩,
      ⟨none, .store 65 (.t 8) (.t 37), none⟩] (some [8]) none)
    .ret))))
def spec_l01Carried_F : MF := ⟨38, [.c 8 (some 65)], spec_l01Carried_M⟩
theorem spec_l01Carried_ok : OkF Try.prog 47 spec_l01Carried_F Try.f47 (bodyOf Try.f47) := ⟨Try.func47, by kernel_rfl, by kernel_rfl, by kernel_rfl, by kernel_rfl⟩
-- loop.example/g01312/laws.toLayer
def laws_toLayer_M : MC :=
  (.seq (.reg none [
      ⟨(some 1), .box (.t 0), none⟩,
      ⟨(some 2), .new (rl [(1, .int .i8 0), (64, .int .u8 0)]), none⟩] (some [1, 2]) none)
    (.seq (.reg none [
      ⟨(some 3), .new (rl [(1, .int .i8 0), (64, .int .u8 0)]), none⟩] (some [1, 2, 3]) none)
    (.seq (.reg none [
      ⟨(some 4), .fa 0 (.t 1), none⟩,
      ⟨(some 5), .load none (.t 4), none⟩,
      ⟨(some 6), .fa 0 (.t 3), none⟩,
      ⟨none, .store 1 (.t 6) (.t 5), none⟩] (some [1, 2, 3]) none)
    (.seq (.reg none [
      ⟨(some 7), .fa 1 (.t 1), none⟩,
      ⟨(some 8), .load (some 64) (.t 7), none⟩,
      ⟨(some 9), .call 99 [(.t 8)], none⟩,
      ⟨(some 10), .fa 1 (.t 3), none⟩,
      ⟨none, .store 64 (.t 10) (.t 9), none⟩] (some [2, 3]) none)
    (.seq (.reg none [
      ⟨(some 11), .load (some 65) (.t 3), none⟩,
      ⟨none, .store 65 (.t 2) (.t 11), none⟩] (some [2]) none)
    .ret)))))
def laws_toLayer_F : MF := ⟨12, [.c 2 (some 65)], laws_toLayer_M⟩
theorem laws_toLayer_ok : OkF Try.prog 48 laws_toLayer_F Try.f48 (bodyOf Try.f48) := ⟨Try.func48, by kernel_rfl, by kernel_rfl, by kernel_rfl, by kernel_rfl⟩
-- loop.example/g01312/impl.layersCode
def impl_layersCode_M : MC :=
  (.seq (.reg none [
      ⟨(some 2), .mov (.c (.int .i64 0)), none⟩] (some [0]) none)
    (.seq (.reg none [
      ⟨(some 3), .mov (.t 0), none⟩,
      ⟨(some 4), .call 54 [(.t 3)], none⟩,
      ⟨(some 5), .un .not (.t 4), none⟩,
      ⟨(some 6), .bld [.bool false, .int .i64 0] [(0, 1, (.t 5)), (1, 1, (.c (.int .i64 1)))], none⟩,
      ⟨(some 7), .mov (.t 0), none⟩,
      ⟨(some 8), .lenS (.t 7), none⟩,
      ⟨(some 9), .call 96 [(.t 8), (.c (.int .i64 1)), (.c (.int .i64 8))], none⟩,
      ⟨(some 10), .un .not (.t 9), none⟩,
      ⟨(some 11), .bld [.bool false, .int .i64 0] [(0, 1, (.t 10)), (1, 1, (.c (.int .i64 2)))], none⟩,
      ⟨(some 12), .mov (.t 0), none⟩,
      ⟨(some 13), .lenS (.t 12), none⟩,
      ⟨(some 14), .bin .gtr (.t 13) (.c (.int .i64 0)), none⟩,
      ⟨(some 15), .mov (.t 14), none⟩,
      ⟨(some 16), .mov (.t 0), some (15, true)⟩,
      ⟨(some 17), .mov (.t 0), some (15, true)⟩,
      ⟨(some 18), .iaS 65 (.t 17) (.c (.int .i64 0)), some (15, true)⟩,
      ⟨(some 19), .fa 0 (.t 18), some (15, true)⟩,
      ⟨(some 20), .load none (.t 19), some (15, true)⟩,
      ⟨(some 21), .call 100 [(.t 16), (.t 20)], some (15, true)⟩,
      ⟨(some 22), .un .not (.t 21), some (15, true)⟩,
      ⟨(some 23), .pick (.t 15) (.t 22) (.c (.bool false)), none⟩,
      ⟨(some 24), .bld [.bool false, .int .i64 0] [(0, 1, (.t 23)), (1, 1, (.c (.int .i64 4)))], none⟩,
      ⟨(some 25), .bldS [.bool false, .int .i64 0] 3 [(0, 2, (.t 6)), (2, 2, (.t 11)), (4, 2, (.t 24))], none⟩,
      ⟨(some 26), .call 55 [(.t 25)], none⟩,
      ⟨(some 2), .mov (.t 26), none⟩] (some [2]) none)
    .ret))
def impl_layersCode_F : MF := ⟨27, [.t 2], impl_layersCode_M⟩
theorem impl_layersCode_ok : OkF Try.prog 49 impl_layersCode_F Try.f49 (bodyOf Try.f49) := ⟨Try.func49, by kernel_rfl, by kernel_rfl, by kernel_rfl, by kernel_rfl⟩
-- loop.example/g01312/impl.TurnLayer
def impl_TurnLayer_M : MC :=
  (.seq (.reg none [
      ⟨(some 1), .box (.t 0), none⟩,
      ⟨(some 2), .new (rl [(1, .int .i8 0), (64, .int .u8 0)]), none⟩,
      ⟨(some 3), .mov (.c (.int .i64 0)), none⟩] (some [1, 2]) none)
    (.seq (.reg none [
      ⟨(some 4), .load (some 65) (.t 1), none⟩,
      ⟨(some 5), .mkf 102 [] [(.t 1)], none⟩,
      ⟨(some 6), .call 101 [(.t 4), (.t 5)], none⟩,
      ⟨(some 7), .ext (.t 6) 0, none⟩,
      ⟨(some 8), .ext (.t 6) 1, none⟩,
      ⟨none, .store 65 (.t 2) (.t 7), none⟩,
      ⟨(some 3), .mov (.t 8), none⟩] (some [2, 3]) none)
    .ret))
def impl_TurnLayer_F : MF := ⟨9, [.c 2 (some 65), .t 3], impl_TurnLayer_M⟩
theorem impl_TurnLayer_ok : OkF Try.prog 50 impl_TurnLayer_F Try.f50 (bodyOf Try.f50) := ⟨Try.func50, by kernel_rfl, by kernel_rfl, by kernel_rfl, by kernel_rfl⟩
-- loop.example/g01312/laws.eqLayer
def laws_eqLayer_M : MC :=
  (.seq (.reg none [
      ⟨(some 2), .box (.t 0), none⟩,
      ⟨(some 3), .box (.t 1), none⟩,
      ⟨(some 4), .mov (.c (.bool false)), none⟩] (some [2, 3]) none)
    (.seq (.seq (.reg none [
      ⟨(some 5), .fa 0 (.t 2), none⟩,
      ⟨(some 6), .load none (.t 5), none⟩,
      ⟨(some 7), .fa 0 (.t 3), none⟩,
      ⟨(some 8), .load none (.t 7), none⟩,
      ⟨(some 9), .bin .neq (.t 6) (.t 8), none⟩] (some [2, 3, 9]) none)
    (.cond (.t 9) (.seq (.reg none [
      ⟨(some 4), .mov (.c (.bool false)), none⟩] (some [4]) none)
    .ret)
    .skip))
    (.seq (.seq (.reg none [
      ⟨(some 10), .fa 1 (.t 2), none⟩,
      ⟨(some 11), .load (some 64) (.t 10), none⟩,
      ⟨(some 12), .fa 1 (.t 3), none⟩,
      ⟨(some 13), .load (some 64) (.t 12), none⟩,
      ⟨(some 14), .call 104 [(.t 11), (.t 13)], none⟩,
      ⟨(some 15), .un .not (.t 14), none⟩] (some [15]) none)
    (.cond (.t 15) (.seq (.reg none [
      ⟨(some 4), .mov (.c (.bool false)), none⟩] (some [4]) none)
    .ret)
    .skip))
    (.seq (.reg none [
      ⟨(some 4), .mov (.c (.bool true)), none⟩] (some [4]) none)
    .ret))))
def laws_eqLayer_F : MF := ⟨16, [.t 4], laws_eqLayer_M⟩
theorem laws_eqLayer_ok : OkF Try.prog 51 laws_eqLayer_F Try.f51 (bodyOf Try.f51) := ⟨Try.func51, by kernel_rfl, by kernel_rfl, by kernel_rfl, by kernel_rfl⟩
-- loop.example/g01312/spec.l01All
def spec_l01All_L0 : MC :=
  (.seq (.seq (.reg none [
      ⟨(some 4), .mov (.t 3), none⟩,
      ⟨(some 5), .mov (.t 0), none⟩,
      ⟨(some 6), .lenS (.t 5), none⟩,
      ⟨(some 7), .bin .lss (.t 4) (.t 6), none⟩] (some [0, 3, 7]) none)
    (.cond (.t 7) .skip
    (.exit 0)))
    (.seq (.block 1 (.seq (.reg none [
      ⟨(some 10), .mov (.t 0), none⟩,
      ⟨(some 11), .mov (.t 3), none⟩,
      ⟨(some 12), .iaS 65 (.t 10) (.t 11), none⟩,
      ⟨(some 13), .call 105 [(.t 12)], none⟩,
      ⟨(some 14), .un .not (.t 13), none⟩] (some [0, 3, 14]) none)
    (.cond (.t 14) (.seq (.reg none [
      ⟨(some 2), .mov (.c (.bool false)), none⟩] (some [2]) none)
    .ret)
    .skip)))
    (.reg none [
      ⟨(some 8), .mov (.t 3), none⟩,
      ⟨(some 9), .bin .add (.t 8) (.c (.int .i64 1)), none⟩,
      ⟨(some 3), .mov (.t 9), none⟩] (some [0, 3]) none)))
def spec_l01All_M : MC :=
  (.seq (.reg none [
      ⟨(some 2), .mov (.c (.bool false)), none⟩] (some [0]) none)
    (.seq (.seq (.reg none [
      ⟨(some 3), .mov (.c (.int .i64 0)), none⟩] (some [0, 3]) none)
    (.block 0 (.loop spec_l01All_L0)))
    (.seq (.reg none [
      ⟨(some 2), .mov (.c (.bool true)), none⟩] (some [2]) none)
    .ret)))
def spec_l01All_F : MF := ⟨15, [.t 2], spec_l01All_M⟩
theorem spec_l01All_ok : OkF Try.prog 52 spec_l01All_F Try.f52 (bodyOf Try.f52) := ⟨Try.func52, by kernel_rfl, by kernel_rfl, by kernel_rfl, by kernel_rfl⟩
-- loop.example/g01312/spec.JoinParts
def spec_JoinParts_L0 : MC :=
  (.seq (.seq (.reg none [
      ⟨(some 30), .mov (.t 7), none⟩,
      ⟨(some 31), .bin .lss (.t 30) (.c (.int .i64 64)), none⟩] (some [2, 3, 4, 6, 7, 31]) none)
    (.cond (.t 31) .skip
    (.exit 0)))
    (.seq (.block 1 (.reg (some []) [
      ⟨(some 34), .mov (.t 7), none⟩,
      ⟨(some 35), .mov (.t 7), none⟩,
      ⟨(some 36), .fa 1 (.t 2), none⟩,
      ⟨(some 37), .iaA 64 1 (.t 36) (.t 35), none⟩,
      ⟨(some 38), .load none (.t 37), none⟩,
      ⟨(some 39), .mov (.t 7), none⟩,
      ⟨(some 40), .fa 1 (.t 3), none⟩,
      ⟨(some 41), .iaA 64 1 (.t 40) (.t 39), none⟩,
      ⟨(some 42), .load none (.t 41), none⟩,
      ⟨(some 43), .fa 0 (.t 2), none⟩,
      ⟨(some 44), .load none (.t 43), none⟩,
      ⟨(some 45), .conv .u64 (.t 44), none⟩,
      ⟨(some 46), .bin .shl (.t 42) (.t 45), none⟩,
      ⟨(some 47), .bin .or (.t 38) (.t 46), none⟩,
      ⟨(some 48), .fa 1 (.t 6), none⟩,
      ⟨(some 49), .iaA 64 1 (.t 48) (.t 34), none⟩,
      ⟨none, .store 1 (.t 49) (.t 47), none⟩] (some [2, 3, 4, 6, 7]) none))
    (.reg none [
      ⟨(some 32), .mov (.t 7), none⟩,
      ⟨(some 33), .bin .add (.t 32) (.c (.int .i64 1)), none⟩,
      ⟨(some 7), .mov (.t 33), none⟩] (some [2, 3, 4, 6, 7]) none)))
def spec_JoinParts_M : MC :=
  (.seq (.reg none [
      ⟨(some 2), .box (.t 0), none⟩,
      ⟨(some 3), .box (.t 1), none⟩,
      ⟨(some 4), .new (rl [(1, .int .i8 0), (64, .int .u8 0)]), none⟩,
      ⟨(some 5), .mov (.c (.int .i64 0)), none⟩] (some [2, 3, 4]) none)
    (.seq (.seq (.reg none [
      ⟨(some 8), .call 105 [(.t 2)], none⟩,
      ⟨(some 9), .un .not (.t 8), none⟩,
      ⟨(some 10), .mov (.t 9), none⟩,
      ⟨(some 11), .call 105 [(.t 3)], some (10, false)⟩,
      ⟨(some 12), .un .not (.t 11), some (10, false)⟩,
      ⟨(some 13), .pick (.t 10) (.c (.bool true)) (.t 12), none⟩] (some [2, 3, 4, 13]) none)
    (.cond (.t 13) (.seq (.reg none [
      ⟨(some 14), .bld (rl [(1, .int .i8 0), (64, .int .u8 0)]) [], none⟩,
      ⟨none, .store 65 (.t 4) (.t 14), none⟩,
      ⟨(some 5), .mov (.c (.int .i64 1)), none⟩] (some [4, 5]) none)
    .ret)
    .skip))
    (.seq (.seq (.reg none [
      ⟨(some 15), .fa 0 (.t 2), none⟩,
      ⟨(some 16), .load none (.t 15), none⟩,
      ⟨(some 17), .conv .i64 (.t 16), none⟩,
      ⟨(some 18), .fa 0 (.t 3), none⟩,
      ⟨(some 19), .load none (.t 18), none⟩,
      ⟨(some 20), .conv .i64 (.t 19), none⟩,
      ⟨(some 21), .bin .add (.t 17) (.t 20), none⟩,
      ⟨(some 22), .bin .gtr (.t 21) (.c (.int .i64 8)), none⟩] (some [2, 3, 4, 22]) none)
    (.cond (.t 22) (.seq (.reg none [
      ⟨(some 23), .bld (rl [(1, .int .i8 0), (64, .int .u8 0)]) [], none⟩,
      ⟨none, .store 65 (.t 4) (.t 23), none⟩,
      ⟨(some 5), .mov (.c (.int .i64 3)), none⟩] (some [4, 5]) none)
    .ret)
    .skip))
    (.seq (.reg none [
      ⟨(some 24), .fa 0 (.t 2), none⟩,
      ⟨(some 25), .load none (.t 24), none⟩,
      ⟨(some 26), .fa 0 (.t 3), none⟩,
      ⟨(some 27), .load none (.t 26), none⟩,
      ⟨(some 28), .bin .add (.t 25) (.t 27), none⟩,
      ⟨(some 29), .bld (rl [(1, .int .i8 0), (64, .int .u8 0)]) [(0, 1, (.t 28))], none⟩,
      ⟨(some 6), .new (rl [(1, .int .i8 0), (64, .int .u8 0)]), none⟩,
      ⟨none, .store 65 (.t 6) (.t 29), none⟩] (some [2, 3, 4, 6]) none)
    (.seq (.seq (.reg none [
      ⟨(some 7), .mov (.c (.int .i64 0)), none⟩] (some [2, 3, 4, 6, 7]) none)
    (.block 0 (.loop spec_JoinParts_L0)))
    (.seq (.reg none [
      ⟨(some 50), .load (some 65) (.t 6), none⟩,
      ⟨none, .store 65 (.t 4) (.t 50), none⟩,
      ⟨(some 5), .mov (.c (.int .i64 0)), none⟩] (some [4, 5]) none)
    .ret))))))
def spec_JoinParts_F : MF := ⟨51, [.c 4 (some 65), .t 5], spec_JoinParts_M⟩
theorem spec_JoinParts_ok : OkF Try.prog 53 spec_JoinParts_F Try.f53 (bodyOf Try.f53) := ⟨Try.func53, by kernel_rfl, by kernel_rfl, by kernel_rfl, by kernel_rfl⟩
-- loop.example/g01312/impl.areLayers
def impl_areLayers_L0 : MC :=
  (.seq (.reg none [
      ⟨(some 8), .bin .lss (.t 7) (.t 6), none⟩] (some [5, 6, 7, 8]) none)
    (.seq (.cond (.t 8) .skip
    (.exit 0))
    (.seq (.block 1 (.seq (.reg none [
      ⟨(some 9), .iaS 65 (.t 5) (.t 7), none⟩,
      ⟨(some 10), .load (some 65) (.t 9), none⟩,
      ⟨(some 4), .new (rl [(1, .int .i8 0), (64, .int .u8 0)]), none⟩,
      ⟨none, .store 65 (.t 4) (.t 10), none⟩] (some [4, 5, 6, 7]) none)
    (.seq (.reg none [
      ⟨(some 11), .load (some 65) (.t 4), none⟩,
      ⟨(some 12), .call 106 [(.t 11)], none⟩,
      ⟨(some 13), .un .not (.t 12), none⟩] (some [5, 6, 7, 13]) none)
    (.cond (.t 13) (.seq (.reg none [
      ⟨(some 2), .mov (.c (.bool false)), none⟩] (some [2]) none)
    .ret)
    .skip))))
    (.reg none [
      ⟨(some 14), .bin .add (.t 7) (.c (.int .i64 1)), none⟩,
      ⟨(some 7), .mov (.t 14), none⟩] (some [5, 6, 7]) (some 0)))))
def impl_areLayers_M : MC :=
  (.seq (.reg none [
      ⟨(some 2), .mov (.c (.bool false)), none⟩] (some [0]) none)
    (.seq (.seq (.reg none [
      ⟨(some 5), .mov (.t 0), none⟩,
      ⟨(some 6), .lenS (.t 5), none⟩,
      ⟨(some 7), .mov (.c (.int .i64 0)), none⟩] (some [5, 6, 7]) none)
    (.block 0 (.loop impl_areLayers_L0)))
    (.seq (.reg none [
      ⟨(some 2), .mov (.c (.bool true)), none⟩] (some [2]) none)
    .ret)))
def impl_areLayers_F : MF := ⟨15, [.t 2], impl_areLayers_M⟩
theorem impl_areLayers_ok : OkF Try.prog 54 impl_areLayers_F Try.f54 (bodyOf Try.f54) := ⟨Try.func54, by kernel_rfl, by kernel_rfl, by kernel_rfl, by kernel_rfl⟩
-- loop.example/g01312/impl.firstOf
def impl_firstOf_L0 : MC :=
  (.seq (.reg none [
      ⟨(some 8), .bin .lss (.t 7) (.t 6), none⟩] (some [5, 6, 7, 8]) none)
    (.seq (.cond (.t 8) .skip
    (.exit 0))
    (.seq (.block 1 (.seq (.reg none [
      ⟨(some 9), .iaS 2 (.t 5) (.t 7), none⟩,
      ⟨(some 10), .load (some 2) (.t 9), none⟩,
      ⟨(some 4), .new [.bool false, .int .i64 0], none⟩,
      ⟨none, .store 2 (.t 4) (.t 10), none⟩] (some [4, 5, 6, 7]) none)
    (.seq (.reg none [
      ⟨(some 11), .fa 0 (.t 4), none⟩,
      ⟨(some 12), .load none (.t 11), none⟩] (some [4, 5, 6, 7, 12]) none)
    (.cond (.t 12) (.seq (.reg none [
      ⟨(some 13), .fa 1 (.t 4), none⟩,
      ⟨(some 14), .load none (.t 13), none⟩,
      ⟨(some 2), .mov (.t 14), none⟩] (some [2]) none)
    .ret)
    .skip))))
    (.reg none [
      ⟨(some 15), .bin .add (.t 7) (.c (.int .i64 1)), none⟩,
      ⟨(some 7), .mov (.t 15), none⟩] (some [5, 6, 7]) (some 0)))))
def impl_firstOf_M : MC :=
  (.seq (.reg none [
      ⟨(some 2), .mov (.c (.int .i64 0)), none⟩] (some [0]) none)
    (.seq (.seq (.reg none [
      ⟨(some 5), .mov (.t 0), none⟩,
      ⟨(some 6), .lenS (.t 5), none⟩,
      ⟨(some 7), .mov (.c (.int .i64 0)), none⟩] (some [5, 6, 7]) none)
    (.block 0 (.loop impl_firstOf_L0)))
    (.seq (.reg none [
      ⟨(some 2), .mov (.c (.int .i64 0)), none⟩] (some [2]) none)
    .ret)))
def impl_firstOf_F : MF := ⟨16, [.t 2], impl_firstOf_M⟩
theorem impl_firstOf_ok : OkF Try.prog 55 impl_firstOf_F Try.f55 (bodyOf Try.f55) := ⟨Try.func55, by kernel_rfl, by kernel_rfl, by kernel_rfl, by kernel_rfl⟩
-- loop.example/g01312/impl.joined
def impl_joined_M : MC :=
  (.seq (.reg none [
      ⟨(some 2), .box (.t 0), none⟩,
      ⟨(some 3), .box (.t 1), none⟩,
      ⟨(some 4), .new (rl [(1, .int .i8 0), (64, .int .u8 0)]), none⟩] (some [2, 3, 4]) none)
    (.seq (.reg none [
      ⟨(some 6), .load (some 65) (.t 2), none⟩,
      ⟨(some 7), .mkf 108 [] [(.t 2), (.t 3)], none⟩,
      ⟨(some 8), .call 107 [(.t 6), (.t 7)], none⟩,
      ⟨(some 5), .new (rl [(1, .int .i8 0), (64, .int .u8 0)]), none⟩,
      ⟨none, .store 65 (.t 5) (.t 8), none⟩] (some [2, 3, 4, 5]) none)
    (.seq (.reg none [
      ⟨(some 9), .fa 0 (.t 2), none⟩,
      ⟨(some 10), .load none (.t 9), none⟩,
      ⟨(some 11), .fa 0 (.t 3), none⟩,
      ⟨(some 12), .load none (.t 11), none⟩,
      ⟨(some 13), .bin .add (.t 10) (.t 12), none⟩,
      ⟨(some 14), .fa 0 (.t 5), none⟩,
      ⟨none, .store 1 (.t 14) (.t 13), none⟩] (some [4, 5]) none)
    (.seq (.reg none [
      ⟨(some 15), .load (some 65) (.t 5), none⟩,
      ⟨none, .store 65 (.t 4) (.t 15), none⟩] (some [4]) none)
    .ret))))
def impl_joined_F : MF := ⟨16, [.c 4 (some 65)], impl_joined_M⟩
theorem impl_joined_ok : OkF Try.prog 56 impl_joined_F Try.f56 (bodyOf Try.f56) := ⟨Try.func56, by kernel_rfl, by kernel_rfl, by kernel_rfl, by kernel_rfl⟩
-- loop.example/g01312/spec.l03Both
def spec_l03Both_L0 : MC :=
  (.seq (.seq (.reg none [
      ⟨(some 24), .mov (.t 5), none⟩,
      ⟨(some 25), .mov (.t 1), none⟩,
      ⟨(some 26), .lenS (.t 25), none⟩,
      ⟨(some 27), .bin .lss (.t 24) (.t 26), none⟩] (some [0, 1, 5, 27]) none)
    (.cond (.t 27) .skip
    (.exit 0)))
    (.seq (.block 1 (.seq (.reg (some []) [
      ⟨(some 30), .mov (.t 1), none⟩,
      ⟨(some 31), .mov (.t 5), none⟩,
      ⟨(some 32), .iaS 65 (.t 30) (.t 31), none⟩,
      ⟨(some 33), .fa 0 (.t 32), none⟩,
      ⟨(some 34), .load none (.t 33), none⟩,
      ⟨(some 35), .mov (.t 0), none⟩,
      ⟨(some 36), .nilc (.t 35), none⟩,
      ⟨(some 37), .fa 1 (.t 36), none⟩,
      ⟨(some 38), .load none (.t 37), none⟩,
      ⟨(some 39), .bin .neq (.t 34) (.t 38), none⟩] (some [0, 1, 5, 39]) none)
    (.cond (.t 39) (.seq (.reg none [
      ⟨(some 4), .mov (.c (.int .i64 4)), none⟩] (some [4]) none)
    .ret)
    .skip)))
    (.reg none [
      ⟨(some 28), .mov (.t 5), none⟩,
      ⟨(some 29), .bin .add (.t 28) (.c (.int .i64 1)), none⟩,
      ⟨(some 5), .mov (.t 29), none⟩] (some [0, 1, 5]) none)))
def spec_l03Both_M : MC :=
  (.seq (.reg none [
      ⟨(some 4), .mov (.c (.int .i64 0)), none⟩] (some [0, 1]) none)
    (.seq (.seq (.reg none [
      ⟨(some 6), .mov (.t 0), none⟩,
      ⟨(some 7), .nilc (.t 6), none⟩,
      ⟨(some 8), .load (some 14) (.t 7), none⟩,
      ⟨(some 9), .call 109 [(.t 8)], none⟩,
      ⟨(some 10), .un .not (.t 9), none⟩,
      ⟨(some 11), .mov (.t 10), none⟩,
      ⟨(some 12), .mov (.t 1), some (11, false)⟩,
      ⟨(some 13), .call 52 [(.t 12)], some (11, false)⟩,
      ⟨(some 14), .un .not (.t 13), some (11, false)⟩,
      ⟨(some 15), .pick (.t 11) (.c (.bool true)) (.t 14), none⟩] (some [0, 1, 15]) none)
    (.cond (.t 15) (.seq (.reg none [
      ⟨(some 4), .mov (.c (.int .i64 1)), none⟩] (some [4]) none)
    .ret)
    .skip))
    (.seq (.seq (.reg none [
      ⟨(some 16), .mov (.t 1), none⟩,
      ⟨(some 17), .lenS (.t 16), none⟩,
      ⟨(some 18), .mov (.t 0), none⟩,
      ⟨(some 19), .nilc (.t 18), none⟩,
      ⟨(some 20), .fa 0 (.t 19), none⟩,
      ⟨(some 21), .load none (.t 20), none⟩,
      ⟨(some 22), .conv .i64 (.t 21), none⟩,
      ⟨(some 23), .bin .neq (.t 17) (.t 22), none⟩] (some [0, 1, 23]) none)
    (.cond (.t 23) (.seq (.reg none [
      ⟨(some 4), .mov (.c (.int .i64 4)), none⟩] (some [4]) none)
    .ret)
    .skip))
    (.seq (.seq (.reg none [
      ⟨(some 5), .mov (.c (.int .i64 0)), none⟩] (some [0, 1, 5]) none)
    (.block 0 (.loop spec_l03Both_L0)))
    (.seq (.reg none [
      ⟨(some 4), .mov (.c (.int .i64 0)), none⟩] (some [4]) none)
    .ret)))))
def spec_l03Both_F : MF := ⟨40, [.t 4], spec_l03Both_M⟩
theorem spec_l03Both_ok : OkF Try.prog 57 spec_l03Both_F Try.f57 (bodyOf Try.f57) := ⟨Try.func57, by kernel_rfl, by kernel_rfl, by kernel_rfl, by kernel_rfl⟩
-- loop.example/g01312/spec.l03Order
def spec_l03Order_L0 : MC :=
  (.seq (.seq (.reg none [
      ⟨(some 13), .mov (.t 7), none⟩,
      ⟨(some 14), .mov (.t 1), none⟩,
      ⟨(some 15), .bin .lss (.t 13) (.t 14), none⟩] (some [0, 1, 6, 7, 15]) none)
    (.cond (.t 15) .skip
    (.exit 0)))
    (.seq (.block 1 (.reg none [
      ⟨(some 18), .mov (.t 6), none⟩,
      ⟨(some 19), .mov (.t 7), none⟩,
      ⟨(some 20), .conv .i8 (.t 19), none⟩,
      ⟨(some 21), .bldS [.int .i8 0] 1 [(0, 1, (.t 20))], none⟩,
      ⟨(some 22), .app [.int .i8 0] 1 false (.t 18) (.t 21), none⟩,
      ⟨(some 6), .mov (.t 22), none⟩] (some [0, 1, 6, 7]) none))
    (.reg none [
      ⟨(some 16), .mov (.t 7), none⟩,
      ⟨(some 17), .bin .add (.t 16) (.c (.int .i64 1)), none⟩,
      ⟨(some 7), .mov (.t 17), none⟩] (some [0, 1, 6, 7]) (some 1))))
def spec_l03Order_L1 : MC :=
  (.seq (.seq (.reg none [
      ⟨(some 25), .mov (.t 8), none⟩,
      ⟨(some 26), .bin .geq (.t 25) (.c (.int .i64 1)), none⟩] (some [0, 6, 8, 26]) none)
    (.cond (.t 26) .skip
    (.exit 2)))
    (.seq (.block 3 (.seq (.reg none [
      ⟨(some 30), .mov (.t 0), none⟩,
      ⟨(some 31), .mov (.t 8), none⟩,
      ⟨(some 32), .bin .add (.t 31) (.c (.int .i64 1)), none⟩,
      ⟨(some 33), .call 110 [(.t 30), (.t 32)], none⟩,
      ⟨(some 29), .mov (.t 33), none⟩,
      ⟨(some 34), .ext (.t 29) 0, none⟩,
      ⟨(some 35), .ext (.t 29) 1, none⟩,
      ⟨(some 9), .mov (.t 34), none⟩,
      ⟨(some 10), .mov (.t 35), none⟩] (some [6, 8, 9, 10]) none)
    (.seq (.reg none [
      ⟨(some 36), .mov (.t 10), none⟩,
      ⟨(some 0), .mov (.t 36), none⟩] (some [0, 6, 8, 9]) none)
    (.seq (.reg none [
      ⟨(some 37), .mov (.t 6), none⟩,
      ⟨(some 38), .mov (.t 9), none⟩,
      ⟨(some 39), .iaS 1 (.t 37) (.t 38), none⟩,
      ⟨(some 40), .load none (.t 39), none⟩,
      ⟨(some 11), .mov (.t 40), none⟩] (some [0, 6, 8, 9, 11]) none)
    (.seq (.reg none [
      ⟨(some 41), .mov (.t 6), none⟩,
      ⟨(some 42), .mov (.t 9), none⟩,
      ⟨(some 43), .mov (.t 6), none⟩,
      ⟨(some 44), .mov (.t 8), none⟩,
      ⟨(some 45), .iaS 1 (.t 43) (.t 44), none⟩,
      ⟨(some 46), .load none (.t 45), none⟩,
      ⟨(some 47), .iaS 1 (.t 41) (.t 42), none⟩,
      ⟨none, .store 1 (.t 47) (.t 46), none⟩] (some [0, 6, 8, 11]) none)
    (.reg none [
      ⟨(some 48), .mov (.t 6), none⟩,
      ⟨(some 49), .mov (.t 8), none⟩,
      ⟨(some 50), .mov (.t 11), none⟩,
      ⟨(some 51), .iaS 1 (.t 48) (.t 49), none⟩,
      ⟨none, .store 1 (.t 51) (.t 50), none⟩] (some [0, 6, 8]) none))))))
    (.reg none [
      ⟨(some 27), .mov (.t 8), none⟩,
      ⟨(some 28), .bin .sub (.t 27) (.c (.int .i64 1)), none⟩,
      ⟨(some 8), .mov (.t 28), none⟩] (some [0, 6, 8]) none)))
def spec_l03Order_M : MC :=
  (.seq (.reg none [
      ⟨(some 4), .mov (.c (.nilsl)), none⟩,
      ⟨(some 5), .mov (.c (.int .u32 0)), none⟩] (some [0, 1]) none)
    (.seq (.reg none [
      ⟨(some 12), .bldS [.int .i8 0] 0 [], none⟩,
      ⟨(some 6), .mov (.t 12), none⟩] (some [0, 1, 6]) none)
    (.seq (.seq (.reg none [
      ⟨(some 7), .mov (.c (.int .i64 0)), none⟩] (some [0, 1, 6, 7]) none)
    (.block 0 (.loop spec_l03Order_L0)))
    (.seq (.seq (.reg none [
      ⟨(some 23), .mov (.t 1), none⟩,
      ⟨(some 24), .bin .sub (.t 23) (.c (.int .i64 1)), none⟩,
      ⟨(some 8), .mov (.t 24), none⟩] (some [0, 6, 8]) none)
    (.block 2 (.loop spec_l03Order_L1)))
    (.seq (.reg none [
      ⟨(some 52), .mov (.t 6), none⟩,
      ⟨(some 53), .mov (.t 0), none⟩,
      ⟨(some 4), .mov (.t 52), none⟩,
      ⟨(some 5), .mov (.t 53), none⟩] (some [4, 5]) none)
    .ret)))))
def spec_l03Order_F : MF := ⟨54, [.t 4, .t 5], spec_l03Order_M⟩
theorem spec_l03Order_ok : OkF Try.prog 58 spec_l03Order_F Try.f58 (bodyOf Try.f58) := ⟨Try.func58, by kernel_rfl, by kernel_rfl, by kernel_rfl, by kernel_rfl⟩
-- loop.example/g01312/spec.l01Reordered
def spec_l01Reordered_L0 : MC :=
  (.seq (.seq (.reg none [
      ⟨(some 7), .mov (.t 6), none⟩,
      ⟨(some 8), .mov (.t 1), none⟩,
      ⟨(some 9), .lenS (.t 8), none⟩,
      ⟨(some 10), .bin .lss (.t 7) (.t 9), none⟩] (some [0, 1, 5, 6, 10]) none)
    (.cond (.t 10) .skip
    (.exit 0)))
    (.seq (.block 1 (.reg none [
      ⟨(some 13), .mov (.t 5), none⟩,
      ⟨(some 14), .mov (.t 0), none⟩,
      ⟨(some 15), .mov (.t 1), none⟩,
      ⟨(some 16), .mov (.t 6), none⟩,
      ⟨(some 17), .iaS 1 (.t 15) (.t 16), none⟩,
      ⟨(some 18), .load none (.t 17), none⟩,
      ⟨(some 19), .conv .u64 (.t 18), none⟩,
      ⟨(some 20), .bin .shr (.t 14) (.t 19), none⟩,
      ⟨(some 21), .bin .and (.t 20) (.c (.int .u8 1)), none⟩,
      ⟨(some 22), .mov (.t 6), none⟩,
      ⟨(some 23), .conv .u64 (.t 22), none⟩,
      ⟨(some 24), .bin .shl (.t 21) (.t 23), none⟩,
      ⟨(some 25), .bin .or (.t 13) (.t 24), none⟩,
      ⟨(some 5), .mov (.t 25), none⟩] (some [0, 1, 5, 6]) none))
    (.reg none [
      ⟨(some 11), .mov (.t 6), none⟩,
      ⟨(some 12), .bin .add (.t 11) (.c (.int .i64 1)), none⟩,
      ⟨(some 6), .mov (.t 12), none⟩] (some [0, 1, 5, 6]) none)))
def spec_l01Reordered_M : MC :=
  (.seq (.reg none [
      ⟨(some 4), .mov (.c (.int .u8 0)), none⟩] (some [0, 1]) none)
    (.seq (.reg none [
      ⟨(some 5), .mov (.c (.int .u8 0)), none⟩] (some [0, 1, 5]) none)
    (.seq (.seq (.reg none [
      ⟨(some 6), .mov (.c (.int .i64 0)), none⟩] (some [0, 1, 5, 6]) none)
    (.block 0 (.loop spec_l01Reordered_L0)))
    (.seq (.reg none [
      ⟨(some 26), .mov (.t 5), none⟩,
      ⟨(some 4), .mov (.t 26), none⟩] (some [4]) none)
    .ret))))
def spec_l01Reordered_F : MF := ⟨27, [.t 4], spec_l01Reordered_M⟩
theorem spec_l01Reordered_ok : OkF Try.prog 59 spec_l01Reordered_F Try.f59 (bodyOf Try.f59) := ⟨Try.func59, by kernel_rfl, by kernel_rfl, by kernel_rfl, by kernel_rfl⟩
-- loop.example/g01312/laws.toByteA6
def laws_toByteA6_L0 : MC :=
  (.seq (.seq (.reg none [
      ⟨(some 5), .mov (.t 4), none⟩,
      ⟨(some 6), .bin .lss (.t 5) (.c (.int .i64 6)), none⟩] (some [1, 2, 3, 4, 6]) none)
    (.cond (.t 6) .skip
    (.exit 0)))
    (.seq (.block 1 (.reg none [
      ⟨(some 9), .mov (.t 4), none⟩,
      ⟨(some 10), .mov (.t 4), none⟩,
      ⟨(some 11), .iaA 6 1 (.t 1) (.t 10), none⟩,
      ⟨(some 12), .load none (.t 11), none⟩,
      ⟨(some 13), .iaA 6 1 (.t 3) (.t 9), none⟩,
      ⟨none, .store 1 (.t 13) (.t 12), none⟩] (some [1, 2, 3, 4]) none))
    (.reg none [
      ⟨(some 7), .mov (.t 4), none⟩,
      ⟨(some 8), .bin .add (.t 7) (.c (.int .i64 1)), none⟩,
      ⟨(some 4), .mov (.t 8), none⟩] (some [1, 2, 3, 4]) none)))
def laws_toByteA6_M : MC :=
  (.seq (.reg none [
      ⟨(some 1), .box (.t 0), none⟩,
      ⟨(some 2), .new (rl [(6, .int .u8 0)]), none⟩] (some [1, 2]) none)
    (.seq (.reg none [
      ⟨(some 3), .new (rl [(6, .int .u8 0)]), none⟩] (some [1, 2, 3]) none)
    (.seq (.seq (.reg none [
      ⟨(some 4), .mov (.c (.int .i64 0)), none⟩] (some [1, 2, 3, 4]) none)
    (.block 0 (.loop laws_toByteA6_L0)))
    (.seq (.reg none [
      ⟨(some 14), .load (some 6) (.t 3), none⟩,
      ⟨none, .store 6 (.t 2) (.t 14), none⟩] (some [2]) none)
    .ret))))
def laws_toByteA6_F : MF := ⟨15, [.c 2 (some 6)], laws_toByteA6_M⟩
theorem laws_toByteA6_ok : OkF Try.prog 60 laws_toByteA6_F Try.f60 (bodyOf Try.f60) := ⟨Try.func60, by kernel_rfl, by kernel_rfl, by kernel_rfl, by kernel_rfl⟩
-- loop.example/g01312/impl.sharedCode
def impl_sharedCode_M : MC :=
  (.seq (.reg none [
      ⟨(some 2), .box (.t 0), none⟩,
      ⟨(some 4), .mov (.c (.int .i64 0)), none⟩] (some [1, 2]) none)
    (.seq (.reg (some [(0, 5), (1, 5), (1, 12), (5, 12), (1, 18), (5, 18), (0, 19), (1, 19), (5, 19), (12, 19), (0, 23), (1, 23), (5, 23), (12, 23), (18, 23), (19, 23), (0, 24), (1, 24), (5, 24), (12, 24), (18, 24)]) [
      ⟨(some 5), .load (some 14) (.t 2), none⟩,
      ⟨(some 6), .call 74 [(.t 5)], none⟩,
      ⟨(some 7), .un .not (.t 6), none⟩,
      ⟨(some 8), .mov (.t 7), none⟩,
      ⟨(some 9), .mov (.t 1), some (8, false)⟩,
      ⟨(some 10), .call 54 [(.t 9)], some (8, false)⟩,
      ⟨(some 11), .un .not (.t 10), some (8, false)⟩,
      ⟨(some 12), .pick (.t 8) (.c (.bool true)) (.t 11), none⟩,
      ⟨(some 13), .bld [.bool false, .int .i64 0] [(0, 1, (.t 12)), (1, 1, (.c (.int .i64 1)))], none⟩,
      ⟨(some 14), .mov (.t 1), none⟩,
      ⟨(some 15), .lenS (.t 14), none⟩,
      ⟨(some 16), .fa 0 (.t 2), none⟩,
      ⟨(some 17), .load none (.t 16), none⟩,
      ⟨(some 18), .conv .i64 (.t 17), none⟩,
      ⟨(some 19), .bin .neq (.t 15) (.t 18), none⟩,
      ⟨(some 20), .mov (.t 19), none⟩,
      ⟨(some 21), .mov (.t 1), some (20, false)⟩,
      ⟨(some 22), .fa 1 (.t 2), some (20, false)⟩,
      ⟨(some 23), .load none (.t 22), some (20, false)⟩,
      ⟨(some 24), .call 100 [(.t 21), (.t 23)], some (20, false)⟩,
      ⟨(some 25), .un .not (.t 24), some (20, false)⟩,
      ⟨(some 26), .pick (.t 20) (.c (.bool true)) (.t 25), none⟩,
      ⟨(some 27), .bld [.bool false, .int .i64 0] [(0, 1, (.t 26)), (1, 1, (.c (.int .i64 4)))], none⟩,
      ⟨(some 28), .bldS [.bool false, .int .i64 0] 2 [(0, 2, (.t 13)), (2, 2, (.t 27))], none⟩,
      ⟨(some 29), .call 55 [(.t 28)], none⟩,
      ⟨(some 4), .mov (.t 29), none⟩] (some [4]) none)
    .ret))
def impl_sharedCode_F : MF := ⟨30, [.t 4], impl_sharedCode_M⟩
theorem impl_sharedCode_ok : OkF Try.prog 61 impl_sharedCode_F Try.f61 (bodyOf Try.f61) := ⟨Try.func61, by kernel_rfl, by kernel_rfl, by kernel_rfl, by kernel_rfl⟩
-- slices.Clone[[]loop.example/g01312/impl.Layer,loop.example/g01312/impl.Layer]
def slices_Clone___impl_Layer_impl_Layer__M : MC :=
  (.seq (.reg none [
      ⟨(some 2), .mov (.c (.nilsl)), none⟩] (some [0]) none)
    (.seq (.seq (.reg none [
      ⟨(some 3), .mov (.t 0), none⟩,
      ⟨(some 4), .nlq false (.t 3), none⟩] (some [0, 4]) none)
    (.cond (.t 4) (.seq (.reg none [
      ⟨(some 2), .mov (.c (.nilsl)), none⟩] (some [2]) none)
    .ret)
    .skip))
    (.seq (.reg none [
      ⟨(some 5), .bldS (rl [(1, .int .i8 0), (64, .int .u8 0)]) 0 [], none⟩,
      ⟨(some 6), .mov (.t 0), none⟩,
      ⟨(some 7), .app (rl [(1, .int .i8 0), (64, .int .u8 0)]) 65 false (.t 5) (.t 6), none⟩,
      ⟨(some 2), .mov (.t 7), none⟩] (some [2]) none)
    .ret)))
def slices_Clone___impl_Layer_impl_Layer__F : MF := ⟨8, [.t 2], slices_Clone___impl_Layer_impl_Layer__M⟩
theorem slices_Clone___impl_Layer_impl_Layer__ok : OkF Try.prog 62 slices_Clone___impl_Layer_impl_Layer__F Try.f62 (bodyOf Try.f62) := ⟨Try.func62, by kernel_rfl, by kernel_rfl, by kernel_rfl, by kernel_rfl⟩
-- loop.example/g01312/impl.drawOrder
def impl_drawOrder_L0 : MC :=
  (.seq (.reg none [
      ⟨(some 12), .bin .lss (.t 11) (.t 10), none⟩] (some [0, 1, 5, 10, 11, 12]) none)
    (.seq (.cond (.t 12) .skip
    (.exit 0))
    (.seq (.block 1 (.seq (.reg none [
      ⟨(some 13), .mov (.t 11), none⟩,
      ⟨(some 6), .mov (.t 13), none⟩] (some [0, 1, 5, 6, 10, 11]) none)
    (.reg none [
      ⟨(some 14), .mov (.t 5), none⟩,
      ⟨(some 15), .mov (.t 6), none⟩,
      ⟨(some 16), .bldS [.int .i8 0] 1 [(0, 1, (.t 15))], none⟩,
      ⟨(some 17), .app [.int .i8 0] 1 false (.t 14) (.t 16), none⟩,
      ⟨(some 5), .mov (.t 17), none⟩] (some [0, 1, 5, 10, 11]) none)))
    (.reg none [
      ⟨(some 18), .bin .add (.t 11) (.c (.int .i8 1)), none⟩,
      ⟨(some 11), .mov (.t 18), none⟩] (some [0, 1, 5, 10, 11]) (some 1)))))
def impl_drawOrder_L1 : MC :=
  (.seq (.seq (.reg none [
      ⟨(some 21), .mov (.t 7), none⟩,
      ⟨(some 22), .bin .geq (.t 21) (.c (.int .i8 1)), none⟩] (some [0, 5, 7, 22]) none)
    (.cond (.t 22) .skip
    (.exit 2)))
    (.seq (.block 3 (.seq (.reg none [
      ⟨(some 25), .mov (.t 0), none⟩,
      ⟨(some 26), .mov (.t 7), none⟩,
      ⟨(some 27), .conv .i64 (.t 26), none⟩,
      ⟨(some 28), .bin .add (.t 27) (.c (.int .i64 1)), none⟩,
      ⟨(some 29), .call 111 [(.t 25), (.t 28)], none⟩,
      ⟨(some 8), .mov (.t 29), none⟩] (some [0, 5, 7, 8]) none)
    (.reg (some []) [
      ⟨(some 30), .mov (.t 5), none⟩,
      ⟨(some 31), .mov (.t 7), none⟩,
      ⟨(some 32), .mov (.t 5), none⟩,
      ⟨(some 33), .mov (.t 8), none⟩,
      ⟨(some 34), .mov (.t 5), none⟩,
      ⟨(some 35), .mov (.t 8), none⟩,
      ⟨(some 36), .iaS 1 (.t 34) (.t 35), none⟩,
      ⟨(some 37), .load none (.t 36), none⟩,
      ⟨(some 38), .mov (.t 5), none⟩,
      ⟨(some 39), .mov (.t 7), none⟩,
      ⟨(some 40), .iaS 1 (.t 38) (.t 39), none⟩,
      ⟨(some 41), .load none (.t 40), none⟩,
      ⟨(some 42), .iaS 1 (.t 30) (.t 31), none⟩,
      ⟨none, .store 1 (.t 42) (.t 37), none⟩,
      ⟨(some 43), .iaS 1 (.t 32) (.t 33), none⟩,
      ⟨none, .store 1 (.t 43) (.t 41), none⟩] (some [0, 5, 7]) none)))
    (.reg none [
      ⟨(some 23), .mov (.t 7), none⟩,
      ⟨(some 24), .bin .sub (.t 23) (.c (.int .i8 1)), none⟩,
      ⟨(some 7), .mov (.t 24), none⟩] (some [0, 5, 7]) none)))
def impl_drawOrder_M : MC :=
  (.seq (.reg none [
      ⟨(some 4), .mov (.c (.nilsl)), none⟩] (some [0, 1]) none)
    (.seq (.reg none [
      ⟨(some 9), .bldS [.int .i8 0] 0 [], none⟩,
      ⟨(some 5), .mov (.t 9), none⟩] (some [0, 1, 5]) none)
    (.seq (.seq (.reg none [
      ⟨(some 10), .mov (.t 1), none⟩,
      ⟨(some 11), .mov (.c (.int .i8 0)), none⟩] (some [0, 1, 5, 10, 11]) none)
    (.block 0 (.loop impl_drawOrder_L0)))
    (.seq (.seq (.reg none [
      ⟨(some 19), .mov (.t 1), none⟩,
      ⟨(some 20), .bin .sub (.t 19) (.c (.int .i8 1)), none⟩,
      ⟨(some 7), .mov (.t 20), none⟩] (some [0, 5, 7]) none)
    (.block 2 (.loop impl_drawOrder_L1)))
    (.seq (.reg none [
      ⟨(some 44), .mov (.t 5), none⟩,
      ⟨(some 4), .mov (.t 44), none⟩] (some [4]) none)
    .ret)))))
def impl_drawOrder_F : MF := ⟨45, [.t 4], impl_drawOrder_M⟩
theorem impl_drawOrder_ok : OkF Try.prog 63 impl_drawOrder_F Try.f63 (bodyOf Try.f63) := ⟨Try.func63, by kernel_rfl, by kernel_rfl, by kernel_rfl, by kernel_rfl⟩
-- loop.example/g01312/impl.reorder
def impl_reorder_L0 : MC :=
  (.seq (.reg none [
      ⟨(some 11), .bin .lss (.t 10) (.t 9), none⟩] (some [0, 5, 8, 9, 10, 11]) none)
    (.seq (.cond (.t 11) .skip
    (.exit 0))
    (.seq (.block 1 (.seq (.reg none [
      ⟨(some 12), .mov (.t 10), none⟩,
      ⟨(some 13), .iaS 1 (.t 8) (.t 10), none⟩,
      ⟨(some 14), .load none (.t 13), none⟩,
      ⟨(some 6), .mov (.t 12), none⟩,
      ⟨(some 7), .mov (.t 14), none⟩] (some [0, 5, 6, 7, 8, 9, 10]) none)
    (.reg none [
      ⟨(some 15), .mov (.t 5), none⟩,
      ⟨(some 16), .mov (.t 0), none⟩,
      ⟨(some 17), .mov (.t 7), none⟩,
      ⟨(some 18), .bin .shr (.t 16) (.t 17), none⟩,
      ⟨(some 19), .bin .and (.t 18) (.c (.int .u8 1)), none⟩,
      ⟨(some 20), .mov (.t 6), none⟩,
      ⟨(some 21), .bin .shl (.t 19) (.t 20), none⟩,
      ⟨(some 22), .bin .or (.t 15) (.t 21), none⟩,
      ⟨(some 5), .mov (.t 22), none⟩] (some [0, 5, 8, 9, 10]) none)))
    (.reg none [
      ⟨(some 23), .bin .add (.t 10) (.c (.int .i64 1)), none⟩,
      ⟨(some 10), .mov (.t 23), none⟩] (some [0, 5, 8, 9, 10]) none))))
def impl_reorder_M : MC :=
  (.seq (.reg none [
      ⟨(some 4), .mov (.c (.int .u8 0)), none⟩] (some [0, 1]) none)
    (.seq (.reg none [
      ⟨(some 5), .mov (.c (.int .u8 0)), none⟩] (some [0, 1, 5]) none)
    (.seq (.seq (.reg none [
      ⟨(some 8), .mov (.t 1), none⟩,
      ⟨(some 9), .lenS (.t 8), none⟩,
      ⟨(some 10), .mov (.c (.int .i64 0)), none⟩] (some [0, 5, 8, 9, 10]) none)
    (.block 0 (.loop impl_reorder_L0)))
    (.seq (.reg none [
      ⟨(some 24), .mov (.t 5), none⟩,
      ⟨(some 4), .mov (.t 24), none⟩] (some [4]) none)
    .ret))))
def impl_reorder_F : MF := ⟨25, [.t 4], impl_reorder_M⟩
theorem impl_reorder_ok : OkF Try.prog 64 impl_reorder_F Try.f64 (bodyOf Try.f64) := ⟨Try.func64, by kernel_rfl, by kernel_rfl, by kernel_rfl, by kernel_rfl⟩
-- loop.example/g01312/spec.l03Set
def spec_l03Set_M : MC :=
  (.seq (.reg none [
      ⟨(some 4), .mov (.c (.bool false)), none⟩] (some [0, 1]) none)
    (.seq (.reg none [
      ⟨(some 5), .mov (.t 1), none⟩,
      ⟨(some 6), .bin .neq (.t 5) (.c (.int .u8 0)), none⟩,
      ⟨(some 7), .mov (.t 6), none⟩,
      ⟨(some 8), .mov (.t 1), some (7, true)⟩,
      ⟨(some 9), .mov (.t 0), some (7, true)⟩,
      ⟨(some 10), .nilc (.t 9), some (7, true)⟩,
      ⟨(some 11), .fa 0 (.t 10), some (7, true)⟩,
      ⟨(some 12), .load none (.t 11), some (7, true)⟩,
      ⟨(some 13), .conv .u64 (.t 12), some (7, true)⟩,
      ⟨(some 14), .bin .shr (.t 8) (.t 13), some (7, true)⟩,
      ⟨(some 15), .bin .eql (.t 14) (.c (.int .u8 0)), some (7, true)⟩,
      ⟨(some 16), .pick (.t 7) (.t 15) (.c (.bool false)), none⟩,
      ⟨(some 4), .mov (.t 16), none⟩] (some [4]) none)
    .ret))
def spec_l03Set_F : MF := ⟨17, [.t 4], spec_l03Set_M⟩
theorem spec_l03Set_ok : OkF Try.prog 65 spec_l03Set_F Try.f65 (bodyOf Try.f65) := ⟨Try.func65, by kernel_rfl, by kernel_rfl, by kernel_rfl, by kernel_rfl⟩
-- loop.example/g01312/spec.l03Sees
def spec_l03Sees_L0 : MC :=
  (.seq (.seq (.reg none [
      ⟨(some 9), .mov (.t 8), none⟩,
      ⟨(some 10), .mov (.t 0), none⟩,
      ⟨(some 11), .nilc (.t 10), none⟩,
      ⟨(some 12), .fa 0 (.t 11), none⟩,
      ⟨(some 13), .load none (.t 12), none⟩,
      ⟨(some 14), .conv .i64 (.t 13), none⟩,
      ⟨(some 15), .bin .lss (.t 9) (.t 14), none⟩] (some [0, 1, 6, 7, 8, 15]) none)
    (.cond (.t 15) .skip
    (.exit 0)))
    (.seq (.block 1 (.seq (.reg none [
      ⟨(some 18), .mov (.t 1), none⟩,
      ⟨(some 19), .mov (.t 8), none⟩,
      ⟨(some 20), .conv .u64 (.t 19), none⟩,
      ⟨(some 21), .bin .shr (.t 18) (.t 20), none⟩,
      ⟨(some 22), .bin .and (.t 21) (.c (.int .u8 1)), none⟩,
      ⟨(some 23), .bin .eql (.t 22) (.c (.int .u8 1)), none⟩] (some [0, 1, 6, 7, 8, 23]) none)
    (.cond (.t 23) (.seq (.reg none [
      ⟨(some 24), .mov (.t 6), none⟩,
      ⟨(some 25), .mov (.t 0), none⟩,
      ⟨(some 26), .mov (.t 8), none⟩,
      ⟨(some 27), .nilc (.t 25), none⟩,
      ⟨(some 28), .fa 2 (.t 27), none⟩,
      ⟨(some 29), .iaA 6 1 (.t 28) (.t 26), none⟩,
      ⟨(some 30), .load none (.t 29), none⟩,
      ⟨(some 31), .bin .or (.t 24) (.t 30), none⟩,
      ⟨(some 6), .mov (.t 31), none⟩] (some [0, 1, 6, 7, 8]) none)
    (.reg none [
      ⟨(some 32), .mov (.t 7), none⟩,
      ⟨(some 33), .mov (.t 0), none⟩,
      ⟨(some 34), .mov (.t 8), none⟩,
      ⟨(some 35), .nilc (.t 33), none⟩,
      ⟨(some 36), .fa 8 (.t 35), none⟩,
      ⟨(some 37), .iaA 6 1 (.t 36) (.t 34), none⟩,
      ⟨(some 38), .load none (.t 37), none⟩,
      ⟨(some 39), .bin .or (.t 32) (.t 38), none⟩,
      ⟨(some 7), .mov (.t 39), none⟩] (some [0, 1, 6, 7, 8]) none))
    .skip)))
    (.reg none [
      ⟨(some 16), .mov (.t 8), none⟩,
      ⟨(some 17), .bin .add (.t 16) (.c (.int .i64 1)), none⟩,
      ⟨(some 8), .mov (.t 17), none⟩] (some [0, 1, 6, 7, 8]) none)))
def spec_l03Sees_M : MC :=
  (.seq (.reg none [
      ⟨(some 4), .mov (.c (.int .i64 0)), none⟩,
      ⟨(some 5), .mov (.c (.int .i64 0)), none⟩] (some [0, 1]) none)
    (.seq (.reg none [
      ⟨(some 6), .mov (.c (.int .u8 0)), none⟩] (some [0, 1, 6]) none)
    (.seq (.reg none [
      ⟨(some 7), .mov (.c (.int .u8 0)), none⟩] (some [0, 1, 6, 7]) none)
    (.seq (.seq (.reg none [
      ⟨(some 8), .mov (.c (.int .i64 0)), none⟩] (some [0, 1, 6, 7, 8]) none)
    (.block 0 (.loop spec_l03Sees_L0)))
    (.seq (.reg none [
      ⟨(some 40), .mov (.t 6), none⟩,
      ⟨(some 41), .conv .u64 (.t 40), none⟩,
      ⟨(some 42), .call 112 [(.t 41)], none⟩,
      ⟨(some 43), .mov (.t 7), none⟩,
      ⟨(some 44), .conv .u64 (.t 43), none⟩,
      ⟨(some 45), .call 112 [(.t 44)], none⟩,
      ⟨(some 4), .mov (.t 42), none⟩,
      ⟨(some 5), .mov (.t 45), none⟩] (some [4, 5]) none)
    .ret)))))
def spec_l03Sees_F : MF := ⟨46, [.t 4, .t 5], spec_l03Sees_M⟩
theorem spec_l03Sees_ok : OkF Try.prog 66 spec_l03Sees_F Try.f66 (bodyOf Try.f66) := ⟨Try.func66, by kernel_rfl, by kernel_rfl, by kernel_rfl, by kernel_rfl⟩
-- loop.example/g01312/spec.l03Stack
def spec_l03Stack_L0 : MC :=
  (.seq (.seq (.reg none [
      ⟨(some 8), .mov (.t 6), none⟩,
      ⟨(some 9), .mov (.t 0), none⟩,
      ⟨(some 10), .lenS (.t 9), none⟩,
      ⟨(some 11), .bin .lss (.t 8) (.t 10), none⟩] (some [0, 1, 4, 5, 6, 11]) none)
    (.cond (.t 11) .skip
    (.exit 0)))
    (.seq (.block 1 (.seq (.reg none [
      ⟨(some 14), .mov (.t 1), none⟩,
      ⟨(some 15), .mov (.t 6), none⟩,
      ⟨(some 16), .conv .u64 (.t 15), none⟩,
      ⟨(some 17), .bin .shr (.t 14) (.t 16), none⟩,
      ⟨(some 18), .bin .and (.t 17) (.c (.int .u8 1)), none⟩,
      ⟨(some 19), .bin .eql (.t 18) (.c (.int .u8 1)), none⟩] (some [0, 1, 4, 5, 6, 19]) none)
    (.cond (.t 19) (.reg none [
      ⟨(some 20), .mov (.t 5), none⟩,
      ⟨(some 21), .mov (.t 0), none⟩,
      ⟨(some 22), .mov (.t 6), none⟩,
      ⟨(some 23), .iaS 65 (.t 21) (.t 22), none⟩,
      ⟨(some 24), .load (some 65) (.t 23), none⟩,
      ⟨(some 25), .bldS (rl [(1, .int .i8 0), (64, .int .u8 0)]) 1 [(0, 65, (.t 24))], none⟩,
      ⟨(some 26), .app (rl [(1, .int .i8 0), (64, .int .u8 0)]) 65 false (.t 20) (.t 25), none⟩,
      ⟨(some 5), .mov (.t 26), none⟩] (some [0, 1, 4, 5, 6]) none)
    .skip)))
    (.reg none [
      ⟨(some 12), .mov (.t 6), none⟩,
      ⟨(some 13), .bin .add (.t 12) (.c (.int .i64 1)), none⟩,
      ⟨(some 6), .mov (.t 13), none⟩] (some [0, 1, 4, 5, 6]) none)))
def spec_l03Stack_M : MC :=
  (.seq (.reg none [
      ⟨(some 4), .new (rl [(1, .int .i8 0), (64, .int .u8 0)]), none⟩] (some [0, 1, 4]) none)
    (.seq (.reg none [
      ⟨(some 7), .bldS (rl [(1, .int .i8 0), (64, .int .u8 0)]) 0 [], none⟩,
      ⟨(some 5), .mov (.t 7), none⟩] (some [0, 1, 4, 5]) none)
    (.seq (.seq (.reg none [
      ⟨(some 6), .mov (.c (.int .i64 0)), none⟩] (some [0, 1, 4, 5, 6]) none)
    (.block 0 (.loop spec_l03Stack_L0)))
    (.seq (.reg none [
      ⟨(some 27), .mov (.t 5), none⟩,
      ⟨(some 28), .call 113 [(.t 27)], none⟩,
      ⟨none, .store 65 (.t 4) (.t 28), none⟩] (some [4]) none)
    .ret))))
def spec_l03Stack_F : MF := ⟨29, [.c 4 (some 65)], spec_l03Stack_M⟩
theorem spec_l03Stack_ok : OkF Try.prog 67 spec_l03Stack_F Try.f67 (bodyOf Try.f67) := ⟨Try.func67, by kernel_rfl, by kernel_rfl, by kernel_rfl, by kernel_rfl⟩
-- loop.example/g01312/spec.l01Shown
def spec_l01Shown_L0 : MC :=
  (.seq (.seq (.reg none [
      ⟨(some 7), .mov (.t 6), none⟩,
      ⟨(some 8), .bin .lss (.t 7) (.c (.int .i64 64)), none⟩] (some [0, 1, 5, 6, 8]) none)
    (.cond (.t 8) .skip
    (.exit 0)))
    (.seq (.block 1 (.seq (.reg none [
      ⟨(some 11), .mov (.t 0), none⟩,
      ⟨(some 12), .mov (.t 6), none⟩,
      ⟨(some 13), .nilc (.t 11), none⟩,
      ⟨(some 14), .fa 1 (.t 13), none⟩,
      ⟨(some 15), .iaA 64 1 (.t 14) (.t 12), none⟩,
      ⟨(some 16), .load none (.t 15), none⟩,
      ⟨(some 17), .conv .u64 (.t 16), none⟩,
      ⟨(some 18), .call 112 [(.t 17)], none⟩,
      ⟨(some 19), .mov (.t 1), none⟩,
      ⟨(some 20), .bin .geq (.t 18) (.t 19), none⟩] (some [0, 1, 5, 6, 20]) none)
    (.cond (.t 20) (.reg none [
      ⟨(some 21), .mov (.t 5), none⟩,
      ⟨(some 22), .mov (.t 6), none⟩,
      ⟨(some 23), .conv .u64 (.t 22), none⟩,
      ⟨(some 24), .bin .shl (.c (.int .u64 1)) (.t 23), none⟩,
      ⟨(some 25), .bin .or (.t 21) (.t 24), none⟩,
      ⟨(some 5), .mov (.t 25), none⟩] (some [0, 1, 5, 6]) none)
    .skip)))
    (.reg none [
      ⟨(some 9), .mov (.t 6), none⟩,
      ⟨(some 10), .bin .add (.t 9) (.c (.int .i64 1)), none⟩,
      ⟨(some 6), .mov (.t 10), none⟩] (some [0, 1, 5, 6]) none)))
def spec_l01Shown_M : MC :=
  (.seq (.reg none [
      ⟨(some 4), .mov (.c (.int .u64 0)), none⟩] (some [0, 1]) none)
    (.seq (.reg none [
      ⟨(some 5), .mov (.c (.int .u64 0)), none⟩] (some [0, 1, 5]) none)
    (.seq (.seq (.reg none [
      ⟨(some 6), .mov (.c (.int .i64 0)), none⟩] (some [0, 1, 5, 6]) none)
    (.block 0 (.loop spec_l01Shown_L0)))
    (.seq (.reg none [
      ⟨(some 26), .mov (.t 5), none⟩,
      ⟨(some 4), .mov (.t 26), none⟩] (some [4]) none)
    .ret))))
def spec_l01Shown_F : MF := ⟨27, [.t 4], spec_l01Shown_M⟩
theorem spec_l01Shown_ok : OkF Try.prog 68 spec_l01Shown_F Try.f68 (bodyOf Try.f68) := ⟨Try.func68, by kernel_rfl, by kernel_rfl, by kernel_rfl, by kernel_rfl⟩
-- loop.example/g01312/impl.SeesWith
def impl_SeesWith_M : MC :=
  (.seq (.reg none [
      ⟨(some 2), .box (.t 0), none⟩,
      ⟨(some 4), .mov (.c (.bool false)), none⟩,
      ⟨(some 5), .mov (.c (.int .i64 0)), none⟩,
      ⟨(some 6), .mov (.c (.int .i64 0)), none⟩] (some [1, 2]) none)
    (.seq (.seq (.reg none [
      ⟨(some 8), .load (some 14) (.t 2), none⟩,
      ⟨(some 9), .call 74 [(.t 8)], none⟩,
      ⟨(some 10), .un .not (.t 9), none⟩,
      ⟨(some 11), .bld [.bool false, .int .i64 0] [(0, 1, (.t 10)), (1, 1, (.c (.int .i64 1)))], none⟩,
      ⟨(some 12), .mov (.t 1), none⟩,
      ⟨(some 13), .bin .eql (.t 12) (.c (.int .u8 0)), none⟩,
      ⟨(some 14), .mov (.t 13), none⟩,
      ⟨(some 15), .load (some 14) (.t 2), some (14, false)⟩,
      ⟨(some 16), .mov (.t 1), some (14, false)⟩,
      ⟨(some 17), .call 114 [(.t 15), (.t 16)], some (14, false)⟩,
      ⟨(some 18), .un .not (.t 17), some (14, false)⟩,
      ⟨(some 19), .pick (.t 14) (.c (.bool true)) (.t 18), none⟩,
      ⟨(some 20), .bld [.bool false, .int .i64 0] [(0, 1, (.t 19)), (1, 1, (.c (.int .i64 2)))], none⟩,
      ⟨(some 21), .bldS [.bool false, .int .i64 0] 2 [(0, 2, (.t 11)), (2, 2, (.t 20))], none⟩,
      ⟨(some 22), .call 55 [(.t 21)], none⟩,
      ⟨(some 7), .mov (.t 22), none⟩] (some [1, 2, 7]) none)
    (.seq (.reg none [
      ⟨(some 23), .mov (.t 7), none⟩,
      ⟨(some 24), .bin .neq (.t 23) (.c (.int .i64 0)), none⟩] (some [1, 2, 7, 24]) none)
    (.cond (.t 24) (.seq (.reg none [
      ⟨(some 25), .mov (.t 7), none⟩,
      ⟨(some 4), .mov (.c (.bool false)), none⟩,
      ⟨(some 5), .mov (.c (.int .i64 0)), none⟩,
      ⟨(some 6), .mov (.t 25), none⟩] (some [4, 5, 6]) none)
    .ret)
    .skip)))
    (.seq (.seq (.reg none [
      ⟨(some 26), .load (some 14) (.t 2), none⟩,
      ⟨(some 27), .mov (.t 1), none⟩,
      ⟨(some 28), .call 115 [(.t 26), (.t 27)], none⟩,
      ⟨(some 29), .un .not (.t 28), none⟩] (some [1, 2, 29]) none)
    (.cond (.t 29) (.seq (.reg none [
      ⟨(some 4), .mov (.c (.bool false)), none⟩,
      ⟨(some 5), .mov (.c (.int .i64 0)), none⟩,
      ⟨(some 6), .mov (.c (.int .i64 0)), none⟩] (some [4, 5, 6]) none)
    .ret)
    .skip))
    (.seq (.reg none [
      ⟨(some 30), .load (some 14) (.t 2), none⟩,
      ⟨(some 31), .mov (.t 1), none⟩,
      ⟨(some 32), .call 116 [(.t 30), (.t 31), (.c (.bool true))], none⟩,
      ⟨(some 4), .mov (.c (.bool true)), none⟩,
      ⟨(some 5), .mov (.t 32), none⟩,
      ⟨(some 6), .mov (.c (.int .i64 0)), none⟩] (some [4, 5, 6]) none)
    .ret))))
def impl_SeesWith_F : MF := ⟨33, [.t 4, .t 5, .t 6], impl_SeesWith_M⟩
theorem impl_SeesWith_ok : OkF Try.prog 69 impl_SeesWith_F Try.f69 (bodyOf Try.f69) := ⟨Try.func69, by kernel_rfl, by kernel_rfl, by kernel_rfl, by kernel_rfl⟩
-- loop.example/g01312/impl.stackOf
def impl_stackOf_L0 : MC :=
  (.seq (.reg none [
      ⟨(some 12), .bin .lss (.t 11) (.t 10), none⟩] (some [1, 4, 5, 9, 10, 11, 12]) none)
    (.seq (.cond (.t 12) .skip
    (.exit 0))
    (.seq (.block 1 (.seq (.reg none [
      ⟨(some 13), .mov (.t 11), none⟩,
      ⟨(some 14), .iaS 65 (.t 9) (.t 11), none⟩,
      ⟨(some 15), .load (some 65) (.t 14), none⟩,
      ⟨(some 7), .new (rl [(1, .int .i8 0), (64, .int .u8 0)]), none⟩,
      ⟨(some 6), .mov (.t 13), none⟩,
      ⟨none, .store 65 (.t 7) (.t 15), none⟩] (some [1, 4, 5, 6, 7, 9, 10, 11]) none)
    (.seq (.reg none [
      ⟨(some 16), .mov (.t 1), none⟩,
      ⟨(some 17), .mov (.t 6), none⟩,
      ⟨(some 18), .bin .shr (.t 16) (.t 17), none⟩,
      ⟨(some 19), .bin .and (.t 18) (.c (.int .u8 1)), none⟩,
      ⟨(some 20), .bin .eql (.t 19) (.c (.int .u8 1)), none⟩] (some [1, 4, 5, 7, 9, 10, 11, 20]) none)
    (.cond (.t 20) (.reg none [
      ⟨(some 21), .mov (.t 5), none⟩,
      ⟨(some 22), .load (some 65) (.t 7), none⟩,
      ⟨(some 23), .bldS (rl [(1, .int .i8 0), (64, .int .u8 0)]) 1 [(0, 65, (.t 22))], none⟩,
      ⟨(some 24), .app (rl [(1, .int .i8 0), (64, .int .u8 0)]) 65 false (.t 21) (.t 23), none⟩,
      ⟨(some 5), .mov (.t 24), none⟩] (some [1, 4, 5, 9, 10, 11]) none)
    .skip))))
    (.reg none [
      ⟨(some 25), .bin .add (.t 11) (.c (.int .i64 1)), none⟩,
      ⟨(some 11), .mov (.t 25), none⟩] (some [1, 4, 5, 9, 10, 11]) (some 2)))))
def impl_stackOf_M : MC :=
  (.seq (.reg none [
      ⟨(some 4), .new (rl [(1, .int .i8 0), (64, .int .u8 0)]), none⟩] (some [0, 1, 4]) none)
    (.seq (.reg none [
      ⟨(some 8), .bldS (rl [(1, .int .i8 0), (64, .int .u8 0)]) 0 [], none⟩,
      ⟨(some 5), .mov (.t 8), none⟩] (some [0, 1, 4, 5]) none)
    (.seq (.seq (.reg none [
      ⟨(some 9), .mov (.t 0), none⟩,
      ⟨(some 10), .lenS (.t 9), none⟩,
      ⟨(some 11), .mov (.c (.int .i64 0)), none⟩] (some [1, 4, 5, 9, 10, 11]) none)
    (.block 0 (.loop impl_stackOf_L0)))
    (.seq (.reg none [
      ⟨(some 26), .mov (.t 5), none⟩,
      ⟨(some 27), .call 117 [(.t 26)], none⟩,
      ⟨none, .store 65 (.t 4) (.t 27), none⟩] (some [4]) none)
    .ret))))
def impl_stackOf_F : MF := ⟨28, [.c 4 (some 65)], impl_stackOf_M⟩
theorem impl_stackOf_ok : OkF Try.prog 70 impl_stackOf_F Try.f70 (bodyOf Try.f70) := ⟨Try.func70, by kernel_rfl, by kernel_rfl, by kernel_rfl, by kernel_rfl⟩
-- (loop.example/g01312/impl.Layer).shown
def impl_Layer_shown_M : MC :=
  (.seq (.reg none [
      ⟨(some 2), .box (.t 0), none⟩,
      ⟨(some 3), .box (.t 1), none⟩,
      ⟨(some 4), .mov (.c (.int .u64 0)), none⟩] (some [2, 3]) none)
    (.seq (.reg none [
      ⟨(some 5), .mkf 119 [] [(.t 2), (.t 3)], none⟩,
      ⟨(some 6), .call 118 [(.t 5)], none⟩,
      ⟨(some 4), .mov (.t 6), none⟩] (some [4]) none)
    .ret))
def impl_Layer_shown_F : MF := ⟨7, [.t 4], impl_Layer_shown_M⟩
theorem impl_Layer_shown_ok : OkF Try.prog 71 impl_Layer_shown_F Try.f71 (bodyOf Try.f71) := ⟨Try.func71, by kernel_rfl, by kernel_rfl, by kernel_rfl, by kernel_rfl⟩
-- loop.example/g01312/spec.l02Ok
def spec_l02Ok_L0 : MC :=
  (.seq (.seq (.reg none [
      ⟨(some 21), .mov (.t 3), none⟩,
      ⟨(some 22), .bin .lss (.t 21) (.c (.int .i64 6)), none⟩] (some [0, 3, 22]) none)
    (.cond (.t 22) .skip
    (.exit 0)))
    (.seq (.block 1 (.seq (.reg (some []) [
      ⟨(some 25), .mov (.t 0), none⟩,
      ⟨(some 26), .mov (.t 3), none⟩,
      ⟨(some 27), .nilc (.t 25), none⟩,
      ⟨(some 28), .fa 2 (.t 27), none⟩,
      ⟨(some 29), .iaA 6 1 (.t 28) (.t 26), none⟩,
      ⟨(some 30), .load none (.t 29), none⟩,
      ⟨(some 31), .mov (.t 0), none⟩,
      ⟨(some 32), .mov (.t 3), none⟩,
      ⟨(some 33), .nilc (.t 31), none⟩,
      ⟨(some 34), .fa 8 (.t 33), none⟩,
      ⟨(some 35), .iaA 6 1 (.t 34) (.t 32), none⟩,
      ⟨(some 36), .load none (.t 35), none⟩,
      ⟨(some 37), .bin .or (.t 30) (.t 36), none⟩,
      ⟨(some 4), .mov (.t 37), none⟩] (some [0, 3, 4]) none)
    (.seq (.reg none [
      ⟨(some 38), .mov (.t 4), none⟩,
      ⟨(some 39), .mov (.t 0), none⟩,
      ⟨(some 40), .nilc (.t 39), none⟩,
      ⟨(some 41), .fa 1 (.t 40), none⟩,
      ⟨(some 42), .load none (.t 41), none⟩,
      ⟨(some 43), .conv .u64 (.t 42), none⟩,
      ⟨(some 44), .bin .shr (.t 38) (.t 43), none⟩,
      ⟨(some 45), .bin .neq (.t 44) (.c (.int .u8 0)), none⟩,
      ⟨(some 46), .mov (.t 45), none⟩,
      ⟨(some 47), .mov (.t 3), some (46, false)⟩,
      ⟨(some 48), .mov (.t 0), some (46, false)⟩,
      ⟨(some 49), .nilc (.t 48), some (46, false)⟩,
      ⟨(some 50), .fa 0 (.t 49), some (46, false)⟩,
      ⟨(some 51), .load none (.t 50), some (46, false)⟩,
      ⟨(some 52), .conv .i64 (.t 51), some (46, false)⟩,
      ⟨(some 53), .bin .geq (.t 47) (.t 52), some (46, false)⟩,
      ⟨(some 54), .mov (.t 53), some (46, false)⟩,
      ⟨(some 55), .mov (.t 4), some (54, true)⟩,
      ⟨(some 56), .bin .neq (.t 55) (.c (.int .u8 0)), some (54, true)⟩,
      ⟨(some 57), .pick (.t 54) (.t 56) (.c (.bool false)), some (46, false)⟩,
      ⟨(some 58), .pick (.t 46) (.c (.bool true)) (.t 57), none⟩] (some [0, 3, 58]) none)
    (.cond (.t 58) (.seq (.reg none [
      ⟨(some 2), .mov (.c (.bool false)), none⟩] (some [2]) none)
    .ret)
    .skip))))
    (.reg none [
      ⟨(some 23), .mov (.t 3), none⟩,
      ⟨(some 24), .bin .add (.t 23) (.c (.int .i64 1)), none⟩,
      ⟨(some 3), .mov (.t 24), none⟩] (some [0, 3]) none)))
def spec_l02Ok_M : MC :=
  (.seq (.reg none [
      ⟨(some 2), .mov (.c (.bool false)), none⟩] (some [0]) none)
    (.seq (.seq (.reg none [
      ⟨(some 5), .mov (.t 0), none⟩,
      ⟨(some 6), .nilc (.t 5), none⟩,
      ⟨(some 7), .fa 0 (.t 6), none⟩,
      ⟨(some 8), .load none (.t 7), none⟩,
      ⟨(some 9), .conv .i64 (.t 8), none⟩,
      ⟨(some 10), .call 93 [(.t 9), (.c (.int .i64 1)), (.c (.int .i64 6))], none⟩,
      ⟨(some 11), .un .not (.t 10), none⟩,
      ⟨(some 12), .mov (.t 11), none⟩,
      ⟨(some 13), .mov (.t 0), some (12, false)⟩,
      ⟨(some 14), .nilc (.t 13), some (12, false)⟩,
      ⟨(some 15), .fa 1 (.t 14), some (12, false)⟩,
      ⟨(some 16), .load none (.t 15), some (12, false)⟩,
      ⟨(some 17), .conv .i64 (.t 16), some (12, false)⟩,
      ⟨(some 18), .call 121 [(.t 17)], some (12, false)⟩,
      ⟨(some 19), .un .not (.t 18), some (12, false)⟩,
      ⟨(some 20), .pick (.t 12) (.c (.bool true)) (.t 19), none⟩] (some [0, 20]) none)
    (.cond (.t 20) (.seq (.reg none [
      ⟨(some 2), .mov (.c (.bool false)), none⟩] (some [2]) none)
    .ret)
    .skip))
    (.seq (.seq (.reg none [
      ⟨(some 3), .mov (.c (.int .i64 0)), none⟩] (some [0, 3]) none)
    (.block 0 (.loop spec_l02Ok_L0)))
    (.seq (.reg none [
      ⟨(some 2), .mov (.c (.bool true)), none⟩] (some [2]) none)
    .ret))))
def spec_l02Ok_F : MF := ⟨59, [.t 2], spec_l02Ok_M⟩
theorem spec_l02Ok_ok : OkF Try.prog 72 spec_l02Ok_F Try.f72 (bodyOf Try.f72) := ⟨Try.func72, by kernel_rfl, by kernel_rfl, by kernel_rfl, by kernel_rfl⟩
-- loop.example/g01312/spec.l02Sort
def spec_l02Sort_M : MC :=
  (.seq (.reg none [
      ⟨(some 2), .new (rl [(2, .int .i8 0), (12, .int .u8 0)]), none⟩] (some [0, 2]) none)
    (.seq (.reg (some [(3, 5), (3, 6), (3, 8), (5, 8), (3, 9), (5, 9), (6, 9), (5, 10), (8, 10)]) [
      ⟨(some 3), .mov (.t 0), none⟩,
      ⟨(some 4), .nilc (.t 3), none⟩,
      ⟨(some 5), .fa 0 (.t 4), none⟩,
      ⟨(some 6), .load none (.t 5), none⟩,
      ⟨(some 7), .mov (.t 0), none⟩,
      ⟨(some 8), .call 85 [(.t 7), (.c (.int .u8 63)), (.c (.bool false))], none⟩,
      ⟨(some 9), .call 87 [(.t 8)], none⟩,
      ⟨(some 10), .mov (.t 0), none⟩,
      ⟨(some 11), .call 85 [(.t 10), (.c (.int .u8 63)), (.c (.bool true))], none⟩,
      ⟨(some 12), .call 87 [(.t 11)], none⟩,
      ⟨(some 13), .call 88 [(.t 6), (.t 9), (.t 12)], none⟩,
      ⟨none, .store 14 (.t 2) (.t 13), none⟩] (some [2]) none)
    .ret))
def spec_l02Sort_F : MF := ⟨14, [.c 2 (some 14)], spec_l02Sort_M⟩
theorem spec_l02Sort_ok : OkF Try.prog 73 spec_l02Sort_F Try.f73 (bodyOf Try.f73) := ⟨Try.func73, by kernel_rfl, by kernel_rfl, by kernel_rfl, by kernel_rfl⟩
-- loop.example/g01312/impl.ValidScheme
def impl_ValidScheme_L0 : MC :=
  (.seq (.reg none [
      ⟨(some 18), .bin .lss (.t 17) (.c (.int .i64 6)), none⟩] (some [1, 17, 18]) none)
    (.seq (.cond (.t 18) .skip
    (.exit 0))
    (.seq (.block 1 (.seq (.reg none [
      ⟨(some 19), .mov (.t 17), none⟩,
      ⟨(some 3), .mov (.t 19), none⟩] (some [1, 3, 17]) none)
    (.seq (.reg (some []) [
      ⟨(some 20), .mov (.t 3), none⟩,
      ⟨(some 21), .fa 2 (.t 1), none⟩,
      ⟨(some 22), .iaA 6 1 (.t 21) (.t 20), none⟩,
      ⟨(some 23), .load none (.t 22), none⟩,
      ⟨(some 24), .mov (.t 3), none⟩,
      ⟨(some 25), .fa 8 (.t 1), none⟩,
      ⟨(some 26), .iaA 6 1 (.t 25) (.t 24), none⟩,
      ⟨(some 27), .load none (.t 26), none⟩,
      ⟨(some 28), .bin .or (.t 23) (.t 27), none⟩,
      ⟨(some 4), .mov (.t 28), none⟩] (some [1, 3, 4, 17]) none)
    (.seq (.reg none [
      ⟨(some 29), .mov (.t 4), none⟩,
      ⟨(some 30), .fa 1 (.t 1), none⟩,
      ⟨(some 31), .load none (.t 30), none⟩,
      ⟨(some 32), .call 123 [(.t 31)], none⟩,
      ⟨(some 33), .bin .andNot (.t 29) (.t 32), none⟩,
      ⟨(some 34), .bin .neq (.t 33) (.c (.int .u8 0)), none⟩,
      ⟨(some 35), .mov (.t 34), none⟩,
      ⟨(some 36), .mov (.t 3), some (35, false)⟩,
      ⟨(some 37), .fa 0 (.t 1), some (35, false)⟩,
      ⟨(some 38), .load none (.t 37), some (35, false)⟩,
      ⟨(some 39), .conv .i64 (.t 38), some (35, false)⟩,
      ⟨(some 40), .bin .geq (.t 36) (.t 39), some (35, false)⟩,
      ⟨(some 41), .mov (.t 40), some (35, false)⟩,
      ⟨(some 42), .mov (.t 4), some (41, true)⟩,
      ⟨(some 43), .bin .neq (.t 42) (.c (.int .u8 0)), some (41, true)⟩,
      ⟨(some 44), .pick (.t 41) (.t 43) (.c (.bool false)), some (35, false)⟩,
      ⟨(some 45), .pick (.t 35) (.c (.bool true)) (.t 44), none⟩] (some [1, 17, 45]) none)
    (.cond (.t 45) (.seq (.reg none [
      ⟨(some 2), .mov (.c (.bool false)), none⟩] (some [2]) none)
    .ret)
    .skip)))))
    (.reg none [
      ⟨(some 46), .bin .add (.t 17) (.c (.int .i64 1)), none⟩,
      ⟨(some 17), .mov (.t 46), none⟩] (some [1, 17]) none))))
def impl_ValidScheme_M : MC :=
  (.seq (.reg none [
      ⟨(some 1), .box (.t 0), none⟩,
      ⟨(some 2), .mov (.c (.bool false)), none⟩] (some [1]) none)
    (.seq (.seq (.reg none [
      ⟨(some 5), .fa 0 (.t 1), none⟩,
      ⟨(some 6), .load none (.t 5), none⟩,
      ⟨(some 7), .conv .i64 (.t 6), none⟩,
      ⟨(some 8), .call 96 [(.t 7), (.c (.int .i64 1)), (.c (.int .i64 6))], none⟩,
      ⟨(some 9), .un .not (.t 8), none⟩,
      ⟨(some 10), .mov (.t 9), none⟩,
      ⟨(some 11), .fa 1 (.t 1), some (10, false)⟩,
      ⟨(some 12), .load none (.t 11), some (10, false)⟩,
      ⟨(some 13), .conv .i64 (.t 12), some (10, false)⟩,
      ⟨(some 14), .call 122 [(.t 13)], some (10, false)⟩,
      ⟨(some 15), .un .not (.t 14), some (10, false)⟩,
      ⟨(some 16), .pick (.t 10) (.c (.bool true)) (.t 15), none⟩] (some [1, 16]) none)
    (.cond (.t 16) (.seq (.reg none [
      ⟨(some 2), .mov (.c (.bool false)), none⟩] (some [2]) none)
    .ret)
    .skip))
    (.seq (.seq (.reg none [
      ⟨(some 17), .mov (.c (.int .i64 0)), none⟩] (some [1, 17]) none)
    (.block 0 (.loop impl_ValidScheme_L0)))
    (.seq (.reg none [
      ⟨(some 2), .mov (.c (.bool true)), none⟩] (some [2]) none)
    .ret))))
def impl_ValidScheme_F : MF := ⟨47, [.t 2], impl_ValidScheme_M⟩
theorem impl_ValidScheme_ok : OkF Try.prog 74 impl_ValidScheme_F Try.f74 (bodyOf Try.f74) := ⟨Try.func74, by kernel_rfl, by kernel_rfl, by kernel_rfl, by kernel_rfl⟩
-- (loop.example/g01312/impl.Scheme).sorted
def impl_Scheme_sorted_M : MC :=
  (.seq (.reg none [
      ⟨(some 1), .box (.t 0), none⟩,
      ⟨(some 2), .new (rl [(2, .int .i8 0), (12, .int .u8 0)]), none⟩] (some [1, 2]) none)
    (.seq (.reg (some [(0, 2), (1, 3), (2, 4), (3, 4), (2, 5), (3, 5), (0, 6), (1, 6), (2, 6), (4, 6), (0, 7), (1, 7), (2, 7), (3, 7), (5, 7)]) [
      ⟨(some 5), .load (some 14) (.t 1), none⟩,
      ⟨(some 6), .load (some 14) (.t 1), none⟩,
      ⟨(some 7), .call 90 [(.t 6)], none⟩,
      ⟨(some 8), .call 89 [(.t 5), (.t 7), (.c (.bool false))], none⟩,
      ⟨(some 9), .load (some 14) (.t 1), none⟩,
      ⟨(some 10), .load (some 14) (.t 1), none⟩,
      ⟨(some 11), .call 90 [(.t 10)], none⟩,
      ⟨(some 12), .call 89 [(.t 9), (.t 11), (.c (.bool true))], none⟩,
      ⟨(some 3), .mov (.t 8), none⟩,
      ⟨(some 4), .mov (.t 12), none⟩] (some [1, 2, 3, 4]) none)
    (.seq (.reg none [
      ⟨(some 13), .mov (.t 3), none⟩,
      ⟨(some 14), .call 92 [(.t 1), (.t 13), (.c (.bool false))], none⟩] (some [1, 2, 4]) none)
    (.seq (.reg none [
      ⟨(some 15), .mov (.t 4), none⟩,
      ⟨(some 16), .call 92 [(.t 1), (.t 15), (.c (.bool true))], none⟩] (some [1, 2]) none)
    (.seq (.reg none [
      ⟨(some 17), .load (some 14) (.t 1), none⟩,
      ⟨none, .store 14 (.t 2) (.t 17), none⟩] (some [2]) none)
    .ret)))))
def impl_Scheme_sorted_F : MF := ⟨18, [.c 2 (some 14)], impl_Scheme_sorted_M⟩
theorem impl_Scheme_sorted_ok : OkF Try.prog 75 impl_Scheme_sorted_F Try.f75 (bodyOf Try.f75) := ⟨Try.func75, by kernel_rfl, by kernel_rfl, by kernel_rfl, by kernel_rfl⟩
-- loop.example/g01312/spec.l02Asked
def spec_l02Asked_M : MC :=
  (.seq (.reg none [
      ⟨(some 4), .mov (.c (.int .i64 0)), none⟩] (some [0, 1]) none)
    (.seq (.seq (.reg none [
      ⟨(some 5), .mov (.t 0), none⟩,
      ⟨(some 6), .call 72 [(.t 5)], none⟩,
      ⟨(some 7), .un .not (.t 6), none⟩] (some [0, 1, 7]) none)
    (.cond (.t 7) (.seq (.reg none [
      ⟨(some 4), .mov (.c (.int .i64 1)), none⟩] (some [4]) none)
    .ret)
    .skip))
    (.seq (.seq (.reg none [
      ⟨(some 8), .mov (.t 1), none⟩,
      ⟨(some 9), .mov (.t 0), none⟩,
      ⟨(some 10), .nilc (.t 9), none⟩,
      ⟨(some 11), .fa 0 (.t 10), none⟩,
      ⟨(some 12), .load none (.t 11), none⟩,
      ⟨(some 13), .conv .u64 (.t 12), none⟩,
      ⟨(some 14), .bin .shr (.t 8) (.t 13), none⟩,
      ⟨(some 15), .bin .neq (.t 14) (.c (.int .u8 0)), none⟩] (some [15]) none)
    (.cond (.t 15) (.seq (.reg none [
      ⟨(some 4), .mov (.c (.int .i64 2)), none⟩] (some [4]) none)
    .ret)
    .skip))
    (.seq (.reg none [
      ⟨(some 4), .mov (.c (.int .i64 0)), none⟩] (some [4]) none)
    .ret))))
def spec_l02Asked_F : MF := ⟨16, [.t 4], spec_l02Asked_M⟩
theorem spec_l02Asked_ok : OkF Try.prog 76 spec_l02Asked_F Try.f76 (bodyOf Try.f76) := ⟨Try.func76, by kernel_rfl, by kernel_rfl, by kernel_rfl, by kernel_rfl⟩
-- loop.example/g01312/spec.l02Blind
def spec_l02Blind_M : MC :=
  (.seq (.reg none [
      ⟨(some 4), .mov (.c (.bool false)), none⟩] (some [0, 1]) none)
    (.seq (.reg none [
      ⟨(some 5), .mov (.t 0), none⟩,
      ⟨(some 6), .mov (.t 1), none⟩,
      ⟨(some 7), .call 85 [(.t 5), (.t 6), (.c (.bool true))], none⟩,
      ⟨(some 8), .mov (.t 0), none⟩,
      ⟨(some 9), .mov (.t 1), none⟩,
      ⟨(some 10), .call 85 [(.t 8), (.t 9), (.c (.bool false))], none⟩,
      ⟨(some 11), .aeq false (List.replicate 64 .i8) (.t 7) (.t 10), none⟩,
      ⟨(some 4), .mov (.t 11), none⟩] (some [4]) none)
    .ret))
def spec_l02Blind_F : MF := ⟨12, [.t 4], spec_l02Blind_M⟩
theorem spec_l02Blind_ok : OkF Try.prog 77 spec_l02Blind_F Try.f77 (bodyOf Try.f77) := ⟨Try.func77, by kernel_rfl, by kernel_rfl, by kernel_rfl, by kernel_rfl⟩
-- loop.example/g01312/impl.setCode
def impl_setCode_M : MC :=
  (.seq (.reg none [
      ⟨(some 2), .box (.t 0), none⟩,
      ⟨(some 4), .mov (.c (.int .i64 0)), none⟩] (some [1, 2]) none)
    (.seq (.reg (some [(1, 4), (0, 6), (0, 9), (1, 9), (4, 9), (6, 9), (0, 10), (1, 10), (4, 10)]) [
      ⟨(some 5), .load (some 14) (.t 2), none⟩,
      ⟨(some 6), .call 74 [(.t 5)], none⟩,
      ⟨(some 7), .un .not (.t 6), none⟩,
      ⟨(some 8), .bld [.bool false, .int .i64 0] [(0, 1, (.t 7)), (1, 1, (.c (.int .i64 1)))], none⟩,
      ⟨(some 9), .load (some 14) (.t 2), none⟩,
      ⟨(some 10), .mov (.t 1), none⟩,
      ⟨(some 11), .call 114 [(.t 9), (.t 10)], none⟩,
      ⟨(some 12), .un .not (.t 11), none⟩,
      ⟨(some 13), .bld [.bool false, .int .i64 0] [(0, 1, (.t 12)), (1, 1, (.c (.int .i64 2)))], none⟩,
      ⟨(some 14), .bldS [.bool false, .int .i64 0] 2 [(0, 2, (.t 8)), (2, 2, (.t 13))], none⟩,
      ⟨(some 15), .call 55 [(.t 14)], none⟩,
      ⟨(some 4), .mov (.t 15), none⟩] (some [4]) none)
    .ret))
def impl_setCode_F : MF := ⟨16, [.t 4], impl_setCode_M⟩
theorem impl_setCode_ok : OkF Try.prog 78 impl_setCode_F Try.f78 (bodyOf Try.f78) := ⟨Try.func78, by kernel_rfl, by kernel_rfl, by kernel_rfl, by kernel_rfl⟩
-- (loop.example/g01312/impl.Scheme).learnsNothing
def impl_Scheme_learnsNothing_M : MC :=
  (.seq (.reg none [
      ⟨(some 2), .box (.t 0), none⟩,
      ⟨(some 4), .mov (.c (.bool false)), none⟩] (some [1, 2]) none)
    (.seq (.reg (some [(2, 3), (0, 5), (0, 6), (3, 6)]) [
      ⟨(some 5), .load (some 14) (.t 2), none⟩,
      ⟨(some 6), .mov (.t 1), none⟩,
      ⟨(some 7), .call 89 [(.t 5), (.t 6), (.c (.bool false))], none⟩,
      ⟨(some 8), .load (some 14) (.t 2), none⟩,
      ⟨(some 9), .mov (.t 1), none⟩,
      ⟨(some 10), .call 89 [(.t 8), (.t 9), (.c (.bool true))], none⟩,
      ⟨(some 11), .call 124 [(.t 7), (.t 10)], none⟩,
      ⟨(some 4), .mov (.t 11), none⟩] (some [4]) none)
    .ret))
def impl_Scheme_learnsNothing_F : MF := ⟨12, [.t 4], impl_Scheme_learnsNothing_M⟩
theorem impl_Scheme_learnsNothing_ok : OkF Try.prog 79 impl_Scheme_learnsNothing_F Try.f79 (bodyOf Try.f79) := ⟨Try.func79, by kernel_rfl, by kernel_rfl, by kernel_rfl, by kernel_rfl⟩
-- loop.example/g01312/laws.eqByteA6
def laws_eqByteA6_L0 : MC :=
  (.seq (.seq (.reg none [
      ⟨(some 6), .mov (.t 5), none⟩,
      ⟨(some 7), .bin .lss (.t 6) (.c (.int .i64 6)), none⟩] (some [2, 3, 5, 7]) none)
    (.cond (.t 7) .skip
    (.exit 0)))
    (.seq (.block 1 (.seq (.reg (some []) [
      ⟨(some 10), .mov (.t 5), none⟩,
      ⟨(some 11), .iaA 6 1 (.t 2) (.t 10), none⟩,
      ⟨(some 12), .load none (.t 11), none⟩,
      ⟨(some 13), .mov (.t 5), none⟩,
      ⟨(some 14), .iaA 6 1 (.t 3) (.t 13), none⟩,
      ⟨(some 15), .load none (.t 14), none⟩,
      ⟨(some 16), .bin .neq (.t 12) (.t 15), none⟩] (some [2, 3, 5, 16]) none)
    (.cond (.t 16) (.seq (.reg none [
      ⟨(some 4), .mov (.c (.bool false)), none⟩] (some [4]) none)
    .ret)
    .skip)))
    (.reg none [
      ⟨(some 8), .mov (.t 5), none⟩,
      ⟨(some 9), .bin .add (.t 8) (.c (.int .i64 1)), none⟩,
      ⟨(some 5), .mov (.t 9), none⟩] (some [2, 3, 5]) none)))
def laws_eqByteA6_M : MC :=
  (.seq (.reg none [
      ⟨(some 2), .box (.t 0), none⟩,
      ⟨(some 3), .box (.t 1), none⟩,
      ⟨(some 4), .mov (.c (.bool false)), none⟩] (some [2, 3]) none)
    (.seq (.seq (.reg none [
      ⟨(some 5), .mov (.c (.int .i64 0)), none⟩] (some [2, 3, 5]) none)
    (.block 0 (.loop laws_eqByteA6_L0)))
    (.seq (.reg none [
      ⟨(some 4), .mov (.c (.bool true)), none⟩] (some [4]) none)
    .ret)))
def laws_eqByteA6_F : MF := ⟨17, [.t 4], laws_eqByteA6_M⟩
theorem laws_eqByteA6_ok : OkF Try.prog 80 laws_eqByteA6_F Try.f80 (bodyOf Try.f80) := ⟨Try.func80, by kernel_rfl, by kernel_rfl, by kernel_rfl, by kernel_rfl⟩
-- loop.example/g01312/spec.l02Sets
def spec_l02Sets_L0 : MC :=
  (.seq (.seq (.reg none [
      ⟨(some 7), .mov (.t 6), none⟩,
      ⟨(some 8), .mov (.t 0), none⟩,
      ⟨(some 9), .nilc (.t 8), none⟩,
      ⟨(some 10), .fa 0 (.t 9), none⟩,
      ⟨(some 11), .load none (.t 10), none⟩,
      ⟨(some 12), .conv .u64 (.t 11), none⟩,
      ⟨(some 13), .bin .shl (.c (.int .i64 1)) (.t 12), none⟩,
      ⟨(some 14), .bin .lss (.t 7) (.t 13), none⟩] (some [0, 4, 5, 6, 14]) none)
    (.cond (.t 14) .skip
    (.exit 0)))
    (.seq (.block 1 (.seq (.seq (.reg none [
      ⟨(some 17), .mov (.t 0), none⟩,
      ⟨(some 18), .mov (.t 6), none⟩,
      ⟨(some 19), .conv .u8 (.t 18), none⟩,
      ⟨(some 20), .call 125 [(.t 17), (.t 19)], none⟩,
      ⟨(some 21), .bin .gtr (.t 20) (.c (.int .i64 0)), none⟩] (some [0, 4, 5, 6, 21]) none)
    (.cond (.t 21) (.reg none [
      ⟨(some 22), .mov (.t 4), none⟩,
      ⟨(some 23), .mov (.t 6), none⟩,
      ⟨(some 24), .conv .u64 (.t 23), none⟩,
      ⟨(some 25), .bin .shl (.c (.int .u64 1)) (.t 24), none⟩,
      ⟨(some 26), .bin .or (.t 22) (.t 25), none⟩,
      ⟨(some 4), .mov (.t 26), none⟩] (some [0, 4, 5, 6]) none)
    .skip))
    (.seq (.reg none [
      ⟨(some 27), .mov (.t 0), none⟩,
      ⟨(some 28), .mov (.t 6), none⟩,
      ⟨(some 29), .conv .u8 (.t 28), none⟩,
      ⟨(some 30), .call 77 [(.t 27), (.t 29)], none⟩] (some [0, 4, 5, 6, 30]) none)
    (.cond (.t 30) (.reg none [
      ⟨(some 31), .mov (.t 5), none⟩,
      ⟨(some 32), .mov (.t 6), none⟩,
      ⟨(some 33), .conv .u64 (.t 32), none⟩,
      ⟨(some 34), .bin .shl (.c (.int .u64 1)) (.t 33), none⟩,
      ⟨(some 35), .bin .or (.t 31) (.t 34), none⟩,
      ⟨(some 5), .mov (.t 35), none⟩] (some [0, 4, 5, 6]) none)
    .skip))))
    (.reg none [
      ⟨(some 15), .mov (.t 6), none⟩,
      ⟨(some 16), .bin .add (.t 15) (.c (.int .i64 1)), none⟩,
      ⟨(some 6), .mov (.t 16), none⟩] (some [0, 4, 5, 6]) none)))
def spec_l02Sets_M : MC :=
  (.seq (.reg none [
      ⟨(some 2), .mov (.c (.int .u64 0)), none⟩,
      ⟨(some 3), .mov (.c (.int .u64 0)), none⟩] (some [0]) none)
    (.seq (.reg none [
      ⟨(some 4), .mov (.c (.int .u64 0)), none⟩] (some [0, 4]) none)
    (.seq (.reg none [
      ⟨(some 5), .mov (.c (.int .u64 0)), none⟩] (some [0, 4, 5]) none)
    (.seq (.seq (.reg none [
      ⟨(some 6), .mov (.c (.int .i64 0)), none⟩] (some [0, 4, 5, 6]) none)
    (.block 0 (.loop spec_l02Sets_L0)))
    (.seq (.reg none [
      ⟨(some 36), .mov (.t 4), none⟩,
      ⟨(some 37), .mov (.t 5), none⟩,
      ⟨(some 2), .mov (.t 36), none⟩,
      ⟨(some 3), .mov (.t 37), none⟩] (some [2, 3]) none)
    .ret)))))
def spec_l02Sets_F : MF := ⟨38, [.t 2, .t 3], spec_l02Sets_M⟩
theorem spec_l02Sets_ok : OkF Try.prog 81 spec_l02Sets_F Try.f81 (bodyOf Try.f81) := ⟨Try.func81, by kernel_rfl, by kernel_rfl, by kernel_rfl, by kernel_rfl⟩
-- (loop.example/g01312/impl.Scheme).blind
def impl_Scheme_blind_M : MC :=
  (.seq (.reg none [
      ⟨(some 1), .box (.t 0), none⟩,
      ⟨(some 2), .mov (.c (.int .u64 0)), none⟩] (some [1]) none)
    (.seq (.reg none [
      ⟨(some 3), .load (some 14) (.t 1), none⟩,
      ⟨(some 4), .load (some 14) (.t 1), none⟩,
      ⟨(some 5), .mkf 79 [(.t 4)] [], none⟩,
      ⟨(some 6), .call 126 [(.t 3), (.t 5)], none⟩,
      ⟨(some 2), .mov (.t 6), none⟩] (some [2]) none)
    .ret))
def impl_Scheme_blind_F : MF := ⟨7, [.t 2], impl_Scheme_blind_M⟩
theorem impl_Scheme_blind_ok : OkF Try.prog 82 impl_Scheme_blind_F Try.f82 (bodyOf Try.f82) := ⟨Try.func82, by kernel_rfl, by kernel_rfl, by kernel_rfl, by kernel_rfl⟩
-- loop.example/g01312/spec.l02Whole
def spec_l02Whole_M : MC :=
  (.seq (.reg none [
      ⟨(some 2), .mov (.c (.int .u64 0)), none⟩] (some [0]) none)
    (.seq (.seq (.reg none [
      ⟨(some 3), .mov (.t 0), none⟩,
      ⟨(some 4), .bin .eql (.t 3) (.c (.int .i8 6)), none⟩] (some [0, 4]) none)
    (.cond (.t 4) (.seq (.reg none [
      ⟨(some 2), .mov (.c (.int .u64 18446744073709551615)), none⟩] (some [2]) none)
    .ret)
    .skip))
    (.seq (.reg none [
      ⟨(some 5), .mov (.t 0), none⟩,
      ⟨(some 6), .conv .u64 (.t 5), none⟩,
      ⟨(some 7), .bin .shl (.c (.int .u64 1)) (.t 6), none⟩,
      ⟨(some 8), .bin .shl (.c (.int .u64 1)) (.t 7), none⟩,
      ⟨(some 9), .bin .sub (.t 8) (.c (.int .u64 1)), none⟩,
      ⟨(some 2), .mov (.t 9), none⟩] (some [2]) none)
    .ret)))
def spec_l02Whole_F : MF := ⟨10, [.t 2], spec_l02Whole_M⟩
theorem spec_l02Whole_ok : OkF Try.prog 83 spec_l02Whole_F Try.f83 (bodyOf Try.f83) := ⟨Try.func83, by kernel_rfl, by kernel_rfl, by kernel_rfl, by kernel_rfl⟩
-- (loop.example/g01312/impl.Scheme).isSound
def impl_Scheme_isSound_M : MC :=
  (.seq (.reg none [
      ⟨(some 1), .box (.t 0), none⟩,
      ⟨(some 2), .mov (.c (.bool false)), none⟩] (some [1]) none)
    (.seq (.reg (some [(1, 2), (0, 3), (1, 5), (3, 5), (0, 6), (1, 6), (2, 6)]) [
      ⟨(some 3), .load (some 14) (.t 1), none⟩,
      ⟨(some 4), .call 127 [(.t 3)], none⟩,
      ⟨(some 5), .load (some 14) (.t 1), none⟩,
      ⟨(some 6), .call 82 [(.t 5)], none⟩,
      ⟨(some 7), .bin .or (.t 4) (.t 6), none⟩,
      ⟨(some 8), .load (some 14) (.t 1), none⟩,
      ⟨(some 9), .call 126 [(.t 8), (.c (.fn 128 [] []))], none⟩,
      ⟨(some 10), .bin .eql (.t 7) (.t 9), none⟩,
      ⟨(some 2), .mov (.t 10), none⟩] (some [2]) none)
    .ret))
def impl_Scheme_isSound_F : MF := ⟨11, [.t 2], impl_Scheme_isSound_M⟩
theorem impl_Scheme_isSound_ok : OkF Try.prog 84 impl_Scheme_isSound_F Try.f84 (bodyOf Try.f84) := ⟨Try.func84, by kernel_rfl, by kernel_rfl, by kernel_rfl, by kernel_rfl⟩
-- loop.example/g01312/spec.l02Columns
def spec_l02Columns_L0 : MC :=
  (.seq (.seq (.reg none [
      ⟨(some 10), .mov (.t 8), none⟩,
      ⟨(some 11), .mov (.t 0), none⟩,
      ⟨(some 12), .nilc (.t 11), none⟩,
      ⟨(some 13), .fa 1 (.t 12), none⟩,
      ⟨(some 14), .load none (.t 13), none⟩,
      ⟨(some 15), .conv .i64 (.t 14), none⟩,
      ⟨(some 16), .bin .lss (.t 10) (.t 15), none⟩] (some [0, 1, 2, 6, 7, 8, 16]) none)
    (.cond (.t 16) .skip
    (.exit 0)))
    (.seq (.block 1 (.reg none [
      ⟨(some 19), .mov (.t 0), none⟩,
      ⟨(some 20), .mov (.t 1), none⟩,
      ⟨(some 21), .mov (.t 2), none⟩,
      ⟨(some 22), .mov (.t 8), none⟩,
      ⟨(some 23), .call 129 [(.t 19), (.t 20), (.t 21), (.t 22)], none⟩,
      ⟨(some 24), .iaA 64 1 (.t 7) (.t 23), none⟩,
      ⟨(some 25), .load none (.t 24), none⟩,
      ⟨(some 26), .bin .add (.t 25) (.c (.int .i8 1)), none⟩,
      ⟨(some 27), .iaA 64 1 (.t 7) (.t 23), none⟩,
      ⟨none, .store 1 (.t 27) (.t 26), none⟩] (some [0, 1, 2, 6, 7, 8]) none))
    (.reg none [
      ⟨(some 17), .mov (.t 8), none⟩,
      ⟨(some 18), .bin .add (.t 17) (.c (.int .i64 1)), none⟩,
      ⟨(some 8), .mov (.t 18), none⟩] (some [0, 1, 2, 6, 7, 8]) none)))
def spec_l02Columns_M : MC :=
  (.seq (.reg none [
      ⟨(some 6), .new (rl [(64, .int .i8 0)]), none⟩] (some [0, 1, 2, 6]) none)
    (.seq (.reg none [
      ⟨(some 9), .bld (rl [(64, .int .i8 0)]) [], none⟩,
      ⟨(some 7), .new (rl [(64, .int .i8 0)]), none⟩,
      ⟨none, .store 64 (.t 7) (.t 9), none⟩] (some [0, 1, 2, 6, 7]) none)
    (.seq (.seq (.reg none [
      ⟨(some 8), .mov (.c (.int .i64 0)), none⟩] (some [0, 1, 2, 6, 7, 8]) none)
    (.block 0 (.loop spec_l02Columns_L0)))
    (.seq (.reg none [
      ⟨(some 28), .load (some 64) (.t 7), none⟩,
      ⟨none, .store 64 (.t 6) (.t 28), none⟩] (some [6]) none)
    .ret))))
def spec_l02Columns_F : MF := ⟨29, [.c 6 (some 64)], spec_l02Columns_M⟩
theorem spec_l02Columns_ok : OkF Try.prog 85 spec_l02Columns_F Try.f85 (bodyOf Try.f85) := ⟨Try.func85, by kernel_rfl, by kernel_rfl, by kernel_rfl, by kernel_rfl⟩
-- loop.example/g01312/spec.l00Min
def spec_l00Min_M : MC :=
  (.seq (.reg none [
      ⟨(some 4), .mov (.c (.int .i64 0)), none⟩] (some [0, 1]) none)
    (.seq (.seq (.reg none [
      ⟨(some 5), .mov (.t 0), none⟩,
      ⟨(some 6), .mov (.t 1), none⟩,
      ⟨(some 7), .bin .lss (.t 5) (.t 6), none⟩] (some [0, 1, 7]) none)
    (.cond (.t 7) (.seq (.reg none [
      ⟨(some 8), .mov (.t 0), none⟩,
      ⟨(some 4), .mov (.t 8), none⟩] (some [4]) none)
    .ret)
    .skip))
    (.seq (.reg none [
      ⟨(some 9), .mov (.t 1), none⟩,
      ⟨(some 4), .mov (.t 9), none⟩] (some [4]) none)
    .ret)))
def spec_l00Min_F : MF := ⟨10, [.t 4], spec_l00Min_M⟩
theorem spec_l00Min_ok : OkF Try.prog 86 spec_l00Min_F Try.f86 (bodyOf Try.f86) := ⟨Try.func86, by kernel_rfl, by kernel_rfl, by kernel_rfl, by kernel_rfl⟩
-- loop.example/g01312/spec.l02Listed
def spec_l02Listed_L1 : MC :=
  (.seq (.seq (.reg none [
      ⟨(some 11), .mov (.t 5), none⟩,
      ⟨(some 12), .mov (.t 4), none⟩,
      ⟨(some 13), .iaA 64 1 (.t 1) (.t 12), none⟩,
      ⟨(some 14), .load none (.t 13), none⟩,
      ⟨(some 15), .bin .lss (.t 11) (.t 14), none⟩] (some [1, 3, 4, 5, 15]) none)
    (.cond (.t 15) .skip
    (.exit 2)))
    (.seq (.block 3 (.reg none [
      ⟨(some 18), .mov (.t 3), none⟩,
      ⟨(some 19), .mov (.t 4), none⟩,
      ⟨(some 20), .conv .u8 (.t 19), none⟩,
      ⟨(some 21), .bldS [.int .u8 0] 1 [(0, 1, (.t 20))], none⟩,
      ⟨(some 22), .app [.int .u8 0] 1 false (.t 18) (.t 21), none⟩,
      ⟨(some 3), .mov (.t 22), none⟩] (some [1, 3, 4, 5]) none))
    (.reg none [
      ⟨(some 16), .mov (.t 5), none⟩,
      ⟨(some 17), .bin .add (.t 16) (.c (.int .i8 1)), none⟩,
      ⟨(some 5), .mov (.t 17), none⟩] (some [1, 3, 4, 5]) (some 2))))
def spec_l02Listed_L0 : MC :=
  (.seq (.seq (.reg none [
      ⟨(some 7), .mov (.t 4), none⟩,
      ⟨(some 8), .bin .lss (.t 7) (.c (.int .i64 64)), none⟩] (some [1, 3, 4, 8]) none)
    (.cond (.t 8) .skip
    (.exit 0)))
    (.seq (.block 1 (.seq (.reg none [
      ⟨(some 5), .mov (.c (.int .i8 0)), none⟩] (some [1, 3, 4, 5]) none)
    (.block 2 (.loop spec_l02Listed_L1))))
    (.reg none [
      ⟨(some 9), .mov (.t 4), none⟩,
      ⟨(some 10), .bin .add (.t 9) (.c (.int .i64 1)), none⟩,
      ⟨(some 4), .mov (.t 10), none⟩] (some [1, 3, 4]) none)))
def spec_l02Listed_M : MC :=
  (.seq (.reg none [
      ⟨(some 1), .box (.t 0), none⟩,
      ⟨(some 2), .mov (.c (.nilsl)), none⟩] (some [1]) none)
    (.seq (.reg none [
      ⟨(some 6), .bldS [.int .u8 0] 0 [], none⟩,
      ⟨(some 3), .mov (.t 6), none⟩] (some [1, 3]) none)
    (.seq (.seq (.reg none [
      ⟨(some 4), .mov (.c (.int .i64 0)), none⟩] (some [1, 3, 4]) none)
    (.block 0 (.loop spec_l02Listed_L0)))
    (.seq (.reg none [
      ⟨(some 23), .mov (.t 3), none⟩,
      ⟨(some 2), .mov (.t 23), none⟩] (some [2]) none)
    .ret))))
def spec_l02Listed_F : MF := ⟨24, [.t 2], spec_l02Listed_M⟩
theorem spec_l02Listed_ok : OkF Try.prog 87 spec_l02Listed_F Try.f87 (bodyOf Try.f87) := ⟨Try.func87, by kernel_rfl, by kernel_rfl, by kernel_rfl, by kernel_rfl⟩
-- loop.example/g01312/spec.l02From
def spec_l02From_L1 : MC :=
  (.seq (.seq (.reg none [
      ⟨(some 21), .mov (.t 9), none⟩,
      ⟨(some 22), .mov (.t 0), none⟩,
      ⟨(some 23), .conv .i64 (.t 22), none⟩,
      ⟨(some 24), .bin .lss (.t 21) (.t 23), none⟩] (some [0, 1, 2, 6, 7, 8, 9, 24]) none)
    (.cond (.t 24) .skip
    (.exit 2)))
    (.seq (.block 3 (.seq (.reg (some []) [
      ⟨(some 27), .mov (.t 9), none⟩,
      ⟨(some 28), .fa 2 (.t 7), none⟩,
      ⟨(some 29), .iaA 6 1 (.t 28) (.t 27), none⟩,
      ⟨(some 30), .load none (.t 29), none⟩,
      ⟨(some 31), .mov (.t 1), none⟩,
      ⟨(some 32), .mov (.t 8), none⟩,
      ⟨(some 33), .iaS 1 (.t 31) (.t 32), none⟩,
      ⟨(some 34), .load none (.t 33), none⟩,
      ⟨(some 35), .mov (.t 9), none⟩,
      ⟨(some 36), .conv .u64 (.t 35), none⟩,
      ⟨(some 37), .bin .shr (.t 34) (.t 36), none⟩,
      ⟨(some 38), .bin .and (.t 37) (.c (.int .u8 1)), none⟩,
      ⟨(some 39), .mov (.t 8), none⟩,
      ⟨(some 40), .conv .u64 (.t 39), none⟩,
      ⟨(some 41), .bin .shl (.t 38) (.t 40), none⟩,
      ⟨(some 42), .bin .or (.t 30) (.t 41), none⟩,
      ⟨(some 43), .fa 2 (.t 7), none⟩,
      ⟨(some 44), .iaA 6 1 (.t 43) (.t 27), none⟩,
      ⟨none, .store 1 (.t 44) (.t 42), none⟩] (some [0, 1, 2, 6, 7, 8, 9]) none)
    (.reg (some []) [
      ⟨(some 45), .mov (.t 9), none⟩,
      ⟨(some 46), .fa 8 (.t 7), none⟩,
      ⟨(some 47), .iaA 6 1 (.t 46) (.t 45), none⟩,
      ⟨(some 48), .load none (.t 47), none⟩,
      ⟨(some 49), .mov (.t 2), none⟩,
      ⟨(some 50), .mov (.t 8), none⟩,
      ⟨(some 51), .iaS 1 (.t 49) (.t 50), none⟩,
      ⟨(some 52), .load none (.t 51), none⟩,
      ⟨(some 53), .mov (.t 9), none⟩,
      ⟨(some 54), .conv .u64 (.t 53), none⟩,
      ⟨(some 55), .bin .shr (.t 52) (.t 54), none⟩,
      ⟨(some 56), .bin .and (.t 55) (.c (.int .u8 1)), none⟩,
      ⟨(some 57), .mov (.t 8), none⟩,
      ⟨(some 58), .conv .u64 (.t 57), none⟩,
      ⟨(some 59), .bin .shl (.t 56) (.t 58), none⟩,
      ⟨(some 60), .bin .or (.t 48) (.t 59), none⟩,
      ⟨(some 61), .fa 8 (.t 7), none⟩,
      ⟨(some 62), .iaA 6 1 (.t 61) (.t 45), none⟩,
      ⟨none, .store 1 (.t 62) (.t 60), none⟩] (some [0, 1, 2, 6, 7, 8, 9]) none)))
    (.reg none [
      ⟨(some 25), .mov (.t 9), none⟩,
      ⟨(some 26), .bin .add (.t 25) (.c (.int .i64 1)), none⟩,
      ⟨(some 9), .mov (.t 26), none⟩] (some [0, 1, 2, 6, 7, 8, 9]) none)))
def spec_l02From_L0 : MC :=
  (.seq (.seq (.reg none [
      ⟨(some 15), .mov (.t 8), none⟩,
      ⟨(some 16), .mov (.t 1), none⟩,
      ⟨(some 17), .lenS (.t 16), none⟩,
      ⟨(some 18), .bin .lss (.t 15) (.t 17), none⟩] (some [0, 1, 2, 6, 7, 8, 18]) none)
    (.cond (.t 18) .skip
    (.exit 0)))
    (.seq (.block 1 (.seq (.reg none [
      ⟨(some 9), .mov (.c (.int .i64 0)), none⟩] (some [0, 1, 2, 6, 7, 8, 9]) none)
    (.block 2 (.loop spec_l02From_L1))))
    (.reg none [
      ⟨(some 19), .mov (.t 8), none⟩,
      ⟨(some 20), .bin .add (.t 19) (.c (.int .i64 1)), none⟩,
      ⟨(some 8), .mov (.t 20), none⟩] (some [0, 1, 2, 6, 7, 8]) none)))
def spec_l02From_M : MC :=
  (.seq (.reg none [
      ⟨(some 6), .new (rl [(2, .int .i8 0), (12, .int .u8 0)]), none⟩] (some [0, 1, 2, 6]) none)
    (.seq (.reg none [
      ⟨(some 10), .mov (.t 0), none⟩,
      ⟨(some 11), .mov (.t 1), none⟩,
      ⟨(some 12), .lenS (.t 11), none⟩,
      ⟨(some 13), .conv .i8 (.t 12), none⟩,
      ⟨(some 14), .bld (rl [(2, .int .i8 0), (12, .int .u8 0)]) [(0, 1, (.t 10)), (1, 1, (.t 13))], none⟩,
      ⟨(some 7), .new (rl [(2, .int .i8 0), (12, .int .u8 0)]), none⟩,
      ⟨none, .store 14 (.t 7) (.t 14), none⟩] (some [0, 1, 2, 6, 7]) none)
    (.seq (.seq (.reg none [
      ⟨(some 8), .mov (.c (.int .i64 0)), none⟩] (some [0, 1, 2, 6, 7, 8]) none)
    (.block 0 (.loop spec_l02From_L0)))
    (.seq (.reg none [
      ⟨(some 63), .load (some 14) (.t 7), none⟩,
      ⟨none, .store 14 (.t 6) (.t 63), none⟩] (some [6]) none)
    .ret))))
def spec_l02From_F : MF := ⟨64, [.c 6 (some 14)], spec_l02From_M⟩
theorem spec_l02From_ok : OkF Try.prog 88 spec_l02From_F Try.f88 (bodyOf Try.f88) := ⟨Try.func88, by kernel_rfl, by kernel_rfl, by kernel_rfl, by kernel_rfl⟩
-- (loop.example/g01312/impl.Scheme).sortedColumns
def impl_Scheme_sortedColumns_M : MC :=
  (.seq (.reg none [
      ⟨(some 3), .box (.t 0), none⟩,
      ⟨(some 6), .mov (.c (.nilsl)), none⟩] (some [1, 2, 3]) none)
    (.seq (.reg none [
      ⟨(some 7), .load (some 14) (.t 3), none⟩,
      ⟨(some 8), .mov (.t 1), none⟩,
      ⟨(some 9), .mov (.t 2), none⟩,
      ⟨(some 10), .call 132 [(.t 7), (.t 8), (.t 9)], none⟩,
      ⟨(some 11), .call 131 [(.t 10)], none⟩,
      ⟨(some 12), .call 130 [(.t 11)], none⟩,
      ⟨(some 6), .mov (.t 12), none⟩] (some [6]) none)
    .ret))
def impl_Scheme_sortedColumns_F : MF := ⟨13, [.t 6], impl_Scheme_sortedColumns_M⟩
theorem impl_Scheme_sortedColumns_ok : OkF Try.prog 89 impl_Scheme_sortedColumns_F Try.f89 (bodyOf Try.f89) := ⟨Try.func89, by kernel_rfl, by kernel_rfl, by kernel_rfl, by kernel_rfl⟩
-- (loop.example/g01312/impl.Scheme).all
def impl_Scheme_all_M : MC :=
  (.seq (.reg none [
      ⟨(some 1), .box (.t 0), none⟩,
      ⟨(some 2), .mov (.c (.int .u8 0)), none⟩] (some [1]) none)
    (.seq (.reg none [
      ⟨(some 3), .fa 0 (.t 1), none⟩,
      ⟨(some 4), .load none (.t 3), none⟩,
      ⟨(some 5), .bin .shl (.c (.int .u8 1)) (.t 4), none⟩,
      ⟨(some 6), .bin .sub (.t 5) (.c (.int .u8 1)), none⟩,
      ⟨(some 2), .mov (.t 6), none⟩] (some [2]) none)
    .ret))
def impl_Scheme_all_F : MF := ⟨7, [.t 2], impl_Scheme_all_M⟩
theorem impl_Scheme_all_ok : OkF Try.prog 90 impl_Scheme_all_F Try.f90 (bodyOf Try.f90) := ⟨Try.func90, by kernel_rfl, by kernel_rfl, by kernel_rfl, by kernel_rfl⟩
-- loop.example/g01312/impl.lessColumns
def impl_lessColumns_L0 : MC :=
  (.seq (.reg none [
      ⟨(some 15), .bin .lss (.t 14) (.t 13), none⟩] (some [1, 5, 12, 13, 14, 15]) none)
    (.seq (.cond (.t 15) .skip
    (.exit 0))
    (.seq (.block 1 (.seq (.reg none [
      ⟨(some 16), .iaS 1 (.t 12) (.t 14), none⟩,
      ⟨(some 17), .load none (.t 16), none⟩,
      ⟨(some 7), .mov (.t 17), none⟩] (some [1, 5, 7, 12, 13, 14]) none)
    (.seq (.reg none [
      ⟨(some 18), .mov (.t 1), none⟩,
      ⟨(some 19), .mov (.t 7), none⟩,
      ⟨(some 20), .call 134 [(.t 18), (.t 19)], none⟩,
      ⟨(some 8), .mov (.t 20), none⟩] (some [1, 5, 7, 8, 12, 13, 14]) none)
    (.seq (.reg none [
      ⟨(some 21), .mov (.t 8), none⟩,
      ⟨(some 22), .bin .geq (.t 21) (.c (.int .i64 0)), none⟩] (some [1, 5, 7, 8, 12, 13, 14, 22]) none)
    (.cond (.t 22) (.reg none [
      ⟨(some 23), .mov (.t 1), none⟩,
      ⟨(some 24), .mov (.t 8), none⟩,
      ⟨(some 25), .mov (.t 8), none⟩,
      ⟨(some 26), .bin .add (.t 25) (.c (.int .i64 1)), none⟩,
      ⟨(some 27), .call 135 [(.t 23), (.t 24), (.t 26)], none⟩,
      ⟨(some 1), .mov (.t 27), none⟩] (some [1, 5, 12, 13, 14]) none)
    (.reg none [
      ⟨(some 28), .mov (.t 5), none⟩,
      ⟨(some 29), .mov (.t 7), none⟩,
      ⟨(some 30), .bldS [.int .u8 0] 1 [(0, 1, (.t 29))], none⟩,
      ⟨(some 31), .app [.int .u8 0] 1 false (.t 28) (.t 30), none⟩,
      ⟨(some 5), .mov (.t 31), none⟩] (some [1, 5, 12, 13, 14]) none))))))
    (.reg none [
      ⟨(some 32), .bin .add (.t 14) (.c (.int .i64 1)), none⟩,
      ⟨(some 14), .mov (.t 32), none⟩] (some [1, 5, 12, 13, 14]) (some 2)))))
def impl_lessColumns_M : MC :=
  (.seq (.reg none [
      ⟨(some 4), .mov (.c (.nilsl)), none⟩] (some [0, 1]) none)
    (.seq (.reg none [
      ⟨(some 9), .mov (.t 1), none⟩,
      ⟨(some 10), .call 133 [(.t 9)], none⟩,
      ⟨(some 1), .mov (.t 10), none⟩] (some [0, 1]) none)
    (.seq (.reg none [
      ⟨(some 11), .bldS [.int .u8 0] 0 [], none⟩,
      ⟨(some 5), .mov (.t 11), none⟩] (some [0, 1, 5]) none)
    (.seq (.seq (.reg none [
      ⟨(some 12), .mov (.t 0), none⟩,
      ⟨(some 13), .lenS (.t 12), none⟩,
      ⟨(some 14), .mov (.c (.int .i64 0)), none⟩] (some [1, 5, 12, 13, 14]) none)
    (.block 0 (.loop impl_lessColumns_L0)))
    (.seq (.reg none [
      ⟨(some 33), .mov (.t 5), none⟩,
      ⟨(some 4), .mov (.t 33), none⟩] (some [4]) none)
    .ret)))))
def impl_lessColumns_F : MF := ⟨34, [.t 4], impl_lessColumns_M⟩
theorem impl_lessColumns_ok : OkF Try.prog 91 impl_lessColumns_F Try.f91 (bodyOf Try.f91) := ⟨Try.func91, by kernel_rfl, by kernel_rfl, by kernel_rfl, by kernel_rfl⟩
-- (*loop.example/g01312/impl.Scheme).rowsOf
def impl_Scheme_rowsOf_L1 : MC :=
  (.seq (.reg none [
      ⟨(some 24), .bin .lss (.t 23) (.c (.int .i64 6)), none⟩] (some [6, 7, 8, 16, 17, 18, 23, 24]) none)
    (.seq (.cond (.t 24) .skip
    (.exit 2))
    (.seq (.block 3 (.seq (.reg none [
      ⟨(some 25), .mov (.t 23), none⟩,
      ⟨(some 9), .mov (.t 25), none⟩] (some [6, 7, 8, 9, 16, 17, 18, 23]) none)
    (.reg (some []) [
      ⟨(some 26), .mov (.t 6), none⟩,
      ⟨(some 27), .mov (.t 9), none⟩,
      ⟨(some 28), .nilc (.t 26), none⟩,
      ⟨(some 29), .iaA 6 1 (.t 28) (.t 27), none⟩,
      ⟨(some 30), .load none (.t 29), none⟩,
      ⟨(some 31), .mov (.t 8), none⟩,
      ⟨(some 32), .mov (.t 9), none⟩,
      ⟨(some 33), .bin .shr (.t 31) (.t 32), none⟩,
      ⟨(some 34), .bin .and (.t 33) (.c (.int .u8 1)), none⟩,
      ⟨(some 35), .mov (.t 7), none⟩,
      ⟨(some 36), .bin .shl (.t 34) (.t 35), none⟩,
      ⟨(some 37), .bin .or (.t 30) (.t 36), none⟩,
      ⟨(some 38), .nilc (.t 26), none⟩,
      ⟨(some 39), .iaA 6 1 (.t 38) (.t 27), none⟩,
      ⟨none, .store 1 (.t 39) (.t 37), none⟩] (some [6, 7, 8, 16, 17, 18, 23]) none)))
    (.reg none [
      ⟨(some 40), .bin .add (.t 23) (.c (.int .i64 1)), none⟩,
      ⟨(some 23), .mov (.t 40), none⟩] (some [6, 7, 8, 16, 17, 18, 23]) none))))
def impl_Scheme_rowsOf_L0 : MC :=
  (.seq (.reg none [
      ⟨(some 19), .bin .lss (.t 18) (.t 17), none⟩] (some [6, 16, 17, 18, 19]) none)
    (.seq (.cond (.t 19) .skip
    (.exit 0))
    (.seq (.block 1 (.seq (.reg none [
      ⟨(some 20), .mov (.t 18), none⟩,
      ⟨(some 21), .iaS 1 (.t 16) (.t 18), none⟩,
      ⟨(some 22), .load none (.t 21), none⟩,
      ⟨(some 7), .mov (.t 20), none⟩,
      ⟨(some 8), .mov (.t 22), none⟩] (some [6, 7, 8, 16, 17, 18]) none)
    (.seq (.reg none [
      ⟨(some 23), .mov (.c (.int .i64 0)), none⟩] (some [6, 7, 8, 16, 17, 18, 23]) none)
    (.block 2 (.loop impl_Scheme_rowsOf_L1)))))
    (.reg none [
      ⟨(some 41), .bin .add (.t 18) (.c (.int .i64 1)), none⟩,
      ⟨(some 18), .mov (.t 41), none⟩] (some [6, 16, 17, 18]) none))))
def impl_Scheme_rowsOf_M : MC :=
  (.seq (.reg none [
      ⟨(some 10), .mov (.t 0), none⟩,
      ⟨(some 11), .mov (.t 2), none⟩,
      ⟨(some 12), .call 136 [(.t 10), (.t 11)], none⟩,
      ⟨(some 6), .mov (.t 12), none⟩] (some [1, 6]) none)
    (.seq (.reg none [
      ⟨(some 13), .mov (.t 6), none⟩,
      ⟨(some 14), .bld (rl [(6, .int .u8 0)]) [], none⟩,
      ⟨(some 15), .nilc (.t 13), none⟩,
      ⟨none, .store 6 (.t 15) (.t 14), none⟩] (some [1, 6]) none)
    (.seq (.reg none [
      ⟨(some 16), .mov (.t 1), none⟩,
      ⟨(some 17), .lenS (.t 16), none⟩,
      ⟨(some 18), .mov (.c (.int .i64 0)), none⟩] (some [6, 16, 17, 18]) none)
    (.block 0 (.loop impl_Scheme_rowsOf_L0)))))
def impl_Scheme_rowsOf_F : MF := ⟨42, [], impl_Scheme_rowsOf_M⟩
theorem impl_Scheme_rowsOf_ok : OkF Try.prog 92 impl_Scheme_rowsOf_F Try.f92 (bodyOf Try.f92) := ⟨Try.func92, by kernel_rfl, by kernel_rfl, by kernel_rfl, by kernel_rfl⟩
-- loop.example/g01312/spec.l00In
def spec_l00In_M : MC :=
  (.seq (.reg none [
      ⟨(some 6), .mov (.c (.bool false)), none⟩] (some [0, 1, 2]) none)
    (.seq (.reg none [
      ⟨(some 7), .mov (.t 0), none⟩,
      ⟨(some 8), .mov (.t 1), none⟩,
      ⟨(some 9), .bin .geq (.t 7) (.t 8), none⟩,
      ⟨(some 10), .mov (.t 9), none⟩,
      ⟨(some 11), .mov (.t 0), some (10, true)⟩,
      ⟨(some 12), .mov (.t 2), some (10, true)⟩,
      ⟨(some 13), .bin .leq (.t 11) (.t 12), some (10, true)⟩,
      ⟨(some 14), .pick (.t 10) (.t 13) (.c (.bool false)), none⟩,
      ⟨(some 6), .mov (.t 14), none⟩] (some [6]) none)
    .ret))
def spec_l00In_F : MF := ⟨15, [.t 6], spec_l00In_M⟩
theorem spec_l00In_ok : OkF Try.prog 93 spec_l00In_F Try.f93 (bodyOf Try.f93) := ⟨Try.func93, by kernel_rfl, by kernel_rfl, by kernel_rfl, by kernel_rfl⟩
-- loop.example/g01312/spec.l03Columns
def spec_l03Columns_L1 : MC :=
  (.seq (.seq (.reg none [
      ⟨(some 15), .mov (.t 8), none⟩,
      ⟨(some 16), .mov (.t 0), none⟩,
      ⟨(some 17), .lenS (.t 16), none⟩,
      ⟨(some 18), .bin .lss (.t 15) (.t 17), none⟩] (some [0, 1, 5, 6, 7, 8, 18]) none)
    (.cond (.t 18) .skip
    (.exit 2)))
    (.seq (.block 3 (.reg none [
      ⟨(some 21), .mov (.t 7), none⟩,
      ⟨(some 22), .mov (.t 0), none⟩,
      ⟨(some 23), .mov (.t 8), none⟩,
      ⟨(some 24), .iaS 1 (.t 22) (.t 23), none⟩,
      ⟨(some 25), .load none (.t 24), none⟩,
      ⟨(some 26), .mov (.t 6), none⟩,
      ⟨(some 27), .conv .u64 (.t 26), none⟩,
      ⟨(some 28), .bin .shr (.t 25) (.t 27), none⟩,
      ⟨(some 29), .bin .and (.t 28) (.c (.int .u8 1)), none⟩,
      ⟨(some 30), .mov (.t 8), none⟩,
      ⟨(some 31), .conv .u64 (.t 30), none⟩,
      ⟨(some 32), .bin .shl (.t 29) (.t 31), none⟩,
      ⟨(some 33), .bin .or (.t 21) (.t 32), none⟩,
      ⟨(some 7), .mov (.t 33), none⟩] (some [0, 1, 5, 6, 7, 8]) none))
    (.reg none [
      ⟨(some 19), .mov (.t 8), none⟩,
      ⟨(some 20), .bin .add (.t 19) (.c (.int .i64 1)), none⟩,
      ⟨(some 8), .mov (.t 20), none⟩] (some [0, 1, 5, 6, 7, 8]) none)))
def spec_l03Columns_L0 : MC :=
  (.seq (.seq (.reg none [
      ⟨(some 10), .mov (.t 6), none⟩,
      ⟨(some 11), .mov (.t 1), none⟩,
      ⟨(some 12), .bin .lss (.t 10) (.t 11), none⟩] (some [0, 1, 5, 6, 12]) none)
    (.cond (.t 12) .skip
    (.exit 0)))
    (.seq (.block 1 (.seq (.reg none [
      ⟨(some 7), .mov (.c (.int .u8 0)), none⟩] (some [0, 1, 5, 6, 7]) none)
    (.seq (.seq (.reg none [
      ⟨(some 8), .mov (.c (.int .i64 0)), none⟩] (some [0, 1, 5, 6, 7, 8]) none)
    (.block 2 (.loop spec_l03Columns_L1)))
    (.reg none [
      ⟨(some 34), .mov (.t 5), none⟩,
      ⟨(some 35), .mov (.t 7), none⟩,
      ⟨(some 36), .bldS [.int .u8 0] 1 [(0, 1, (.t 35))], none⟩,
      ⟨(some 37), .app [.int .u8 0] 1 false (.t 34) (.t 36), none⟩,
      ⟨(some 5), .mov (.t 37), none⟩] (some [0, 1, 5, 6]) none))))
    (.reg none [
      ⟨(some 13), .mov (.t 6), none⟩,
      ⟨(some 14), .bin .add (.t 13) (.c (.int .i64 1)), none⟩,
      ⟨(some 6), .mov (.t 14), none⟩] (some [0, 1, 5, 6]) (some 1))))
def spec_l03Columns_M : MC :=
  (.seq (.reg none [
      ⟨(some 4), .mov (.c (.nilsl)), none⟩] (some [0, 1]) none)
    (.seq (.reg none [
      ⟨(some 9), .bldS [.int .u8 0] 0 [], none⟩,
      ⟨(some 5), .mov (.t 9), none⟩] (some [0, 1, 5]) none)
    (.seq (.seq (.reg none [
      ⟨(some 6), .mov (.c (.int .i64 0)), none⟩] (some [0, 1, 5, 6]) none)
    (.block 0 (.loop spec_l03Columns_L0)))
    (.seq (.reg none [
      ⟨(some 38), .mov (.t 5), none⟩,
      ⟨(some 39), .call 137 [(.t 38)], none⟩,
      ⟨(some 4), .mov (.t 39), none⟩] (some [4]) none)
    .ret))))
def spec_l03Columns_F : MF := ⟨40, [.t 4], spec_l03Columns_M⟩
theorem spec_l03Columns_ok : OkF Try.prog 94 spec_l03Columns_F Try.f94 (bodyOf Try.f94) := ⟨Try.func94, by kernel_rfl, by kernel_rfl, by kernel_rfl, by kernel_rfl⟩
-- loop.example/g01312/spec.l03Rows
def spec_l03Rows_L0 : MC :=
  (.seq (.seq (.reg none [
      ⟨(some 8), .mov (.t 6), none⟩,
      ⟨(some 9), .mov (.t 0), none⟩,
      ⟨(some 10), .lenS (.t 9), none⟩,
      ⟨(some 11), .bin .lss (.t 8) (.t 10), none⟩] (some [0, 1, 5, 6, 11]) none)
    (.cond (.t 11) .skip
    (.exit 0)))
    (.seq (.block 1 (.reg none [
      ⟨(some 14), .mov (.t 5), none⟩,
      ⟨(some 15), .mov (.t 0), none⟩,
      ⟨(some 16), .mov (.t 6), none⟩,
      ⟨(some 17), .mov (.t 1), none⟩,
      ⟨(some 18), .iaS 65 (.t 15) (.t 16), none⟩,
      ⟨(some 19), .fa 1 (.t 18), none⟩,
      ⟨(some 20), .iaA 64 1 (.t 19) (.t 17), none⟩,
      ⟨(some 21), .load none (.t 20), none⟩,
      ⟨(some 22), .bldS [.int .u8 0] 1 [(0, 1, (.t 21))], none⟩,
      ⟨(some 23), .app [.int .u8 0] 1 false (.t 14) (.t 22), none⟩,
      ⟨(some 5), .mov (.t 23), none⟩] (some [0, 1, 5, 6]) none))
    (.reg none [
      ⟨(some 12), .mov (.t 6), none⟩,
      ⟨(some 13), .bin .add (.t 12) (.c (.int .i64 1)), none⟩,
      ⟨(some 6), .mov (.t 13), none⟩] (some [0, 1, 5, 6]) (some 1))))
def spec_l03Rows_M : MC :=
  (.seq (.reg none [
      ⟨(some 4), .mov (.c (.nilsl)), none⟩] (some [0, 1]) none)
    (.seq (.reg none [
      ⟨(some 7), .bldS [.int .u8 0] 0 [], none⟩,
      ⟨(some 5), .mov (.t 7), none⟩] (some [0, 1, 5]) none)
    (.seq (.seq (.reg none [
      ⟨(some 6), .mov (.c (.int .i64 0)), none⟩] (some [0, 1, 5, 6]) none)
    (.block 0 (.loop spec_l03Rows_L0)))
    (.seq (.reg none [
      ⟨(some 24), .mov (.t 5), none⟩,
      ⟨(some 4), .mov (.t 24), none⟩] (some [4]) none)
    .ret))))
def spec_l03Rows_F : MF := ⟨25, [.t 4], spec_l03Rows_M⟩
theorem spec_l03Rows_ok : OkF Try.prog 95 spec_l03Rows_F Try.f95 (bodyOf Try.f95) := ⟨Try.func95, by kernel_rfl, by kernel_rfl, by kernel_rfl, by kernel_rfl⟩
-- loop.example/g01312/impl.within
def impl_within_M : MC :=
  (.seq (.reg none [
      ⟨(some 6), .mov (.c (.bool false)), none⟩] (some [0, 1, 2]) none)
    (.seq (.reg none [
      ⟨(some 7), .mov (.t 0), none⟩,
      ⟨(some 8), .mov (.t 1), none⟩,
      ⟨(some 9), .bin .geq (.t 7) (.t 8), none⟩,
      ⟨(some 10), .mov (.t 9), none⟩,
      ⟨(some 11), .mov (.t 0), some (10, true)⟩,
      ⟨(some 12), .mov (.t 2), some (10, true)⟩,
      ⟨(some 13), .bin .leq (.t 11) (.t 12), some (10, true)⟩,
      ⟨(some 14), .pick (.t 10) (.t 13) (.c (.bool false)), none⟩,
      ⟨(some 6), .mov (.t 14), none⟩] (some [6]) none)
    .ret))
def impl_within_F : MF := ⟨15, [.t 6], impl_within_M⟩
theorem impl_within_ok : OkF Try.prog 96 impl_within_F Try.f96 (bodyOf Try.f96) := ⟨Try.func96, by kernel_rfl, by kernel_rfl, by kernel_rfl, by kernel_rfl⟩
-- loop.example/g01312/impl.columnsAt
def impl_columnsAt_L0 : MC :=
  (.seq (.reg none [
      ⟨(some 12), .bin .lss (.t 11) (.t 10), none⟩] (some [0, 1, 5, 9, 10, 11, 12]) none)
    (.seq (.cond (.t 12) .skip
    (.exit 0))
    (.seq (.block 1 (.seq (.reg none [
      ⟨(some 13), .iaS 65 (.t 9) (.t 11), none⟩,
      ⟨(some 14), .load (some 65) (.t 13), none⟩,
      ⟨(some 7), .new (rl [(1, .int .i8 0), (64, .int .u8 0)]), none⟩,
      ⟨none, .store 65 (.t 7) (.t 14), none⟩] (some [0, 1, 5, 7, 9, 10, 11]) none)
    (.reg none [
      ⟨(some 15), .mov (.t 5), none⟩,
      ⟨(some 16), .mov (.t 1), none⟩,
      ⟨(some 17), .fa 1 (.t 7), none⟩,
      ⟨(some 18), .iaA 64 1 (.t 17) (.t 16), none⟩,
      ⟨(some 19), .load none (.t 18), none⟩,
      ⟨(some 20), .bldS [.int .u8 0] 1 [(0, 1, (.t 19))], none⟩,
      ⟨(some 21), .app [.int .u8 0] 1 false (.t 15) (.t 20), none⟩,
      ⟨(some 5), .mov (.t 21), none⟩] (some [0, 1, 5, 9, 10, 11]) none)))
    (.reg none [
      ⟨(some 22), .bin .add (.t 11) (.c (.int .i64 1)), none⟩,
      ⟨(some 11), .mov (.t 22), none⟩] (some [0, 1, 5, 9, 10, 11]) (some 1)))))
def impl_columnsAt_M : MC :=
  (.seq (.reg none [
      ⟨(some 4), .mov (.c (.nilsl)), none⟩] (some [0, 1]) none)
    (.seq (.reg none [
      ⟨(some 8), .bldS [.int .u8 0] 0 [], none⟩,
      ⟨(some 5), .mov (.t 8), none⟩] (some [0, 1, 5]) none)
    (.seq (.seq (.reg none [
      ⟨(some 9), .mov (.t 0), none⟩,
      ⟨(some 10), .lenS (.t 9), none⟩,
      ⟨(some 11), .mov (.c (.int .i64 0)), none⟩] (some [0, 1, 5, 9, 10, 11]) none)
    (.block 0 (.loop impl_columnsAt_L0)))
    (.seq (.reg none [
      ⟨(some 23), .mov (.t 5), none⟩,
      ⟨(some 24), .mov (.t 0), none⟩,
      ⟨(some 25), .iaS 65 (.t 24) (.c (.int .i64 0)), none⟩,
      ⟨(some 26), .fa 0 (.t 25), none⟩,
      ⟨(some 27), .load none (.t 26), none⟩,
      ⟨(some 28), .call 138 [(.t 23), (.t 27), (.c (.int .u8 255))], none⟩,
      ⟨(some 29), .call 131 [(.t 28)], none⟩,
      ⟨(some 30), .call 130 [(.t 29)], none⟩,
      ⟨(some 4), .mov (.t 30), none⟩] (some [4]) none)
    .ret))))
def impl_columnsAt_F : MF := ⟨31, [.t 4], impl_columnsAt_M⟩
theorem impl_columnsAt_ok : OkF Try.prog 97 impl_columnsAt_F Try.f97 (bodyOf Try.f97) := ⟨Try.func97, by kernel_rfl, by kernel_rfl, by kernel_rfl, by kernel_rfl⟩
end Go.Proofs.Yteidfholicaocaa
