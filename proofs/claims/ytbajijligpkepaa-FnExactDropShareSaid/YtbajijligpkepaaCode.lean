/- A part of the proof library: names for blocks of memory, a small form of the code, and rules for walks over it. -/
import Derived.Test.YtbajijligpkepaaProg
import Derived.Test.YtbajijligpkepaaAb18
import Derived.KernelRfl
set_option linter.all false
namespace Go.Proofs.Ytbajijligpkepaa
open Go.Ab
-- loop.example/g01312/laws.FnExactShownAt
def laws_FnExactShownAt_M : MC :=
  (.seq (.reg none [
      ⟨(some 2), .box (.t 0), none⟩,
      ⟨(some 4), .mov (.c (.bool false)), none⟩] (some [1, 2]) none)
    (.seq (.reg none [
      ⟨(some 10), .load (some 65) (.t 2), none⟩,
      ⟨(some 11), .call 16 [(.t 10)], none⟩,
      ⟨(some 12), .mov (.t 1), none⟩,
      ⟨(some 13), .call 15 [(.t 11), (.t 12)], none⟩,
      ⟨(some 9), .mov (.t 13), none⟩,
      ⟨(some 14), .ext (.t 9) 0, none⟩,
      ⟨(some 15), .ext (.t 9) 1, none⟩,
      ⟨(some 5), .mov (.t 14), none⟩,
      ⟨(some 6), .mov (.t 15), none⟩] (some [1, 2, 5, 6]) none)
    (.seq (.reg none [
      ⟨(some 17), .load (some 65) (.t 2), none⟩,
      ⟨(some 18), .call 16 [(.t 17)], none⟩,
      ⟨(some 19), .mov (.t 1), none⟩,
      ⟨(some 20), .call 17 [(.t 18), (.t 19)], none⟩,
      ⟨(some 16), .mov (.t 20), none⟩,
      ⟨(some 21), .ext (.t 16) 0, none⟩,
      ⟨(some 22), .ext (.t 16) 1, none⟩,
      ⟨(some 7), .mov (.t 21), none⟩,
      ⟨(some 8), .mov (.t 22), none⟩] (some [5, 6, 7, 8]) none)
    (.seq (.seq (.reg none [
      ⟨(some 23), .mov (.t 7), none⟩,
      ⟨(some 24), .mov (.t 5), none⟩,
      ⟨(some 25), .bin .neq (.t 23) (.t 24), none⟩,
      ⟨(some 26), .mov (.t 25), none⟩,
      ⟨(some 27), .mov (.t 8), some (26, false)⟩,
      ⟨(some 28), .mov (.t 6), some (26, false)⟩,
      ⟨(some 29), .bin .neq (.t 27) (.t 28), some (26, false)⟩,
      ⟨(some 30), .pick (.t 26) (.c (.bool true)) (.t 29), none⟩] (some [30]) none)
    (.cond (.t 30) (.seq (.reg none [
      ⟨(some 4), .mov (.c (.bool false)), none⟩] (some [4]) none)
    .ret)
    .skip))
    (.seq (.reg none [
      ⟨(some 4), .mov (.c (.bool true)), none⟩] (some [4]) none)
    .ret)))))
def laws_FnExactShownAt_F : MF := ⟨31, [.t 4], laws_FnExactShownAt_M⟩
-- loop.example/g01312/laws.FnExactJoinSchemes
def laws_FnExactJoinSchemes_M : MC :=
  (.seq (.reg none [
      ⟨(some 2), .box (.t 0), none⟩,
      ⟨(some 3), .box (.t 1), none⟩,
      ⟨(some 4), .mov (.c (.bool false)), none⟩] (some [2, 3]) none)
    (.seq (.reg (some [(1, 2), (0, 3), (0, 4), (2, 4), (0, 8), (1, 8), (2, 8), (3, 8), (4, 8)]) [
      ⟨(some 10), .load (some 14) (.t 2), none⟩,
      ⟨(some 11), .call 19 [(.t 10)], none⟩,
      ⟨(some 12), .load (some 14) (.t 3), none⟩,
      ⟨(some 13), .call 19 [(.t 12)], none⟩,
      ⟨(some 14), .call 18 [(.t 11), (.t 13)], none⟩,
      ⟨(some 9), .mov (.t 14), none⟩,
      ⟨(some 15), .ext (.t 9) 0, none⟩,
      ⟨(some 16), .ext (.t 9) 1, none⟩,
      ⟨(some 5), .new (rl [(2, .int .i8 0), (12, .int .u8 0)]), none⟩,
      ⟨none, .store 14 (.t 5) (.t 15), none⟩,
      ⟨(some 6), .mov (.t 16), none⟩] (some [2, 3, 5, 6]) none)
    (.seq (.reg (some [(1, 2), (0, 3), (0, 4), (2, 4), (0, 8), (1, 8), (2, 8), (3, 8), (4, 8)]) [
      ⟨(some 18), .load (some 14) (.t 2), none⟩,
      ⟨(some 19), .call 19 [(.t 18)], none⟩,
      ⟨(some 20), .load (some 14) (.t 3), none⟩,
      ⟨(some 21), .call 19 [(.t 20)], none⟩,
      ⟨(some 22), .call 20 [(.t 19), (.t 21)], none⟩,
      ⟨(some 17), .mov (.t 22), none⟩,
      ⟨(some 23), .ext (.t 17) 0, none⟩,
      ⟨(some 24), .ext (.t 17) 1, none⟩,
      ⟨(some 7), .new (rl [(2, .int .i8 0), (12, .int .u8 0)]), none⟩,
      ⟨none, .store 14 (.t 7) (.t 23), none⟩,
      ⟨(some 8), .mov (.t 24), none⟩] (some [5, 6, 7, 8]) none)
    (.seq (.seq (.reg none [
      ⟨(some 25), .load (some 14) (.t 7), none⟩,
      ⟨(some 26), .load (some 14) (.t 5), none⟩,
      ⟨(some 27), .call 21 [(.t 25), (.t 26)], none⟩,
      ⟨(some 28), .un .not (.t 27), none⟩,
      ⟨(some 29), .mov (.t 28), none⟩,
      ⟨(some 30), .mov (.t 8), some (29, false)⟩,
      ⟨(some 31), .mov (.t 6), some (29, false)⟩,
      ⟨(some 32), .bin .neq (.t 30) (.t 31), some (29, false)⟩,
      ⟨(some 33), .pick (.t 29) (.c (.bool true)) (.t 32), none⟩] (some [33]) none)
    (.cond (.t 33) (.seq (.reg none [
      ⟨(some 4), .mov (.c (.bool false)), none⟩] (some [4]) none)
    .ret)
    .skip))
    (.seq (.reg none [
      ⟨(some 4), .mov (.c (.bool true)), none⟩] (some [4]) none)
    .ret)))))
def laws_FnExactJoinSchemes_F : MF := ⟨34, [.t 4], laws_FnExactJoinSchemes_M⟩
-- loop.example/g01312/laws.FnExactJoinParts
def laws_FnExactJoinParts_M : MC :=
  (.seq (.reg none [
      ⟨(some 2), .box (.t 0), none⟩,
      ⟨(some 3), .box (.t 1), none⟩,
      ⟨(some 4), .mov (.c (.bool false)), none⟩] (some [2, 3]) none)
    (.seq (.reg (some [(1, 2), (0, 3), (0, 4), (2, 4), (0, 8), (1, 8), (2, 8), (3, 8), (4, 8)]) [
      ⟨(some 10), .load (some 65) (.t 2), none⟩,
      ⟨(some 11), .call 16 [(.t 10)], none⟩,
      ⟨(some 12), .load (some 65) (.t 3), none⟩,
      ⟨(some 13), .call 16 [(.t 12)], none⟩,
      ⟨(some 14), .call 22 [(.t 11), (.t 13)], none⟩,
      ⟨(some 9), .mov (.t 14), none⟩,
      ⟨(some 15), .ext (.t 9) 0, none⟩,
      ⟨(some 16), .ext (.t 9) 1, none⟩,
      ⟨(some 5), .new (rl [(1, .int .i8 0), (64, .int .u8 0)]), none⟩,
      ⟨none, .store 65 (.t 5) (.t 15), none⟩,
      ⟨(some 6), .mov (.t 16), none⟩] (some [2, 3, 5, 6]) none)
    (.seq (.reg (some [(1, 2), (0, 3), (0, 4), (2, 4), (0, 8), (1, 8), (2, 8), (3, 8), (4, 8)]) [
      ⟨(some 18), .load (some 65) (.t 2), none⟩,
      ⟨(some 19), .call 16 [(.t 18)], none⟩,
      ⟨(some 20), .load (some 65) (.t 3), none⟩,
      ⟨(some 21), .call 16 [(.t 20)], none⟩,
      ⟨(some 22), .call 23 [(.t 19), (.t 21)], none⟩,
      ⟨(some 17), .mov (.t 22), none⟩,
      ⟨(some 23), .ext (.t 17) 0, none⟩,
      ⟨(some 24), .ext (.t 17) 1, none⟩,
      ⟨(some 7), .new (rl [(1, .int .i8 0), (64, .int .u8 0)]), none⟩,
      ⟨none, .store 65 (.t 7) (.t 23), none⟩,
      ⟨(some 8), .mov (.t 24), none⟩] (some [5, 6, 7, 8]) none)
    (.seq (.seq (.reg none [
      ⟨(some 25), .load (some 65) (.t 7), none⟩,
      ⟨(some 26), .load (some 65) (.t 5), none⟩,
      ⟨(some 27), .call 24 [(.t 25), (.t 26)], none⟩,
      ⟨(some 28), .un .not (.t 27), none⟩,
      ⟨(some 29), .mov (.t 28), none⟩,
      ⟨(some 30), .mov (.t 8), some (29, false)⟩,
      ⟨(some 31), .mov (.t 6), some (29, false)⟩,
      ⟨(some 32), .bin .neq (.t 30) (.t 31), some (29, false)⟩,
      ⟨(some 33), .pick (.t 29) (.c (.bool true)) (.t 32), none⟩] (some [33]) none)
    (.cond (.t 33) (.seq (.reg none [
      ⟨(some 4), .mov (.c (.bool false)), none⟩] (some [4]) none)
    .ret)
    .skip))
    (.seq (.reg none [
      ⟨(some 4), .mov (.c (.bool true)), none⟩] (some [4]) none)
    .ret)))))
def laws_FnExactJoinParts_F : MF := ⟨34, [.t 4], laws_FnExactJoinParts_M⟩
-- loop.example/g01312/laws.FnExactMirrorLayer
def laws_FnExactMirrorLayer_M : MC :=
  (.seq (.reg none [
      ⟨(some 1), .box (.t 0), none⟩,
      ⟨(some 2), .mov (.c (.bool false)), none⟩] (some [1]) none)
    (.seq (.reg none [
      ⟨(some 8), .load (some 65) (.t 1), none⟩,
      ⟨(some 9), .call 16 [(.t 8)], none⟩,
      ⟨(some 10), .call 25 [(.t 9)], none⟩,
      ⟨(some 7), .mov (.t 10), none⟩,
      ⟨(some 11), .ext (.t 7) 0, none⟩,
      ⟨(some 12), .ext (.t 7) 1, none⟩,
      ⟨(some 3), .new (rl [(1, .int .i8 0), (64, .int .u8 0)]), none⟩,
      ⟨none, .store 65 (.t 3) (.t 11), none⟩,
      ⟨(some 4), .mov (.t 12), none⟩] (some [1, 3, 4]) none)
    (.seq (.reg none [
      ⟨(some 14), .load (some 65) (.t 1), none⟩,
      ⟨(some 15), .call 16 [(.t 14)], none⟩,
      ⟨(some 16), .call 26 [(.t 15)], none⟩,
      ⟨(some 13), .mov (.t 16), none⟩,
      ⟨(some 17), .ext (.t 13) 0, none⟩,
      ⟨(some 18), .ext (.t 13) 1, none⟩,
      ⟨(some 5), .new (rl [(1, .int .i8 0), (64, .int .u8 0)]), none⟩,
      ⟨none, .store 65 (.t 5) (.t 17), none⟩,
      ⟨(some 6), .mov (.t 18), none⟩] (some [3, 4, 5, 6]) none)
    (.seq (.seq (.reg none [
      ⟨(some 19), .load (some 65) (.t 5), none⟩,
      ⟨(some 20), .load (some 65) (.t 3), none⟩,
      ⟨(some 21), .call 24 [(.t 19), (.t 20)], none⟩,
      ⟨(some 22), .un .not (.t 21), none⟩,
      ⟨(some 23), .mov (.t 22), none⟩,
      ⟨(some 24), .mov (.t 6), some (23, false)⟩,
      ⟨(some 25), .mov (.t 4), some (23, false)⟩,
      ⟨(some 26), .bin .neq (.t 24) (.t 25), some (23, false)⟩,
      ⟨(some 27), .pick (.t 23) (.c (.bool true)) (.t 26), none⟩] (some [27]) none)
    (.cond (.t 27) (.seq (.reg none [
      ⟨(some 2), .mov (.c (.bool false)), none⟩] (some [2]) none)
    .ret)
    .skip))
    (.seq (.reg none [
      ⟨(some 2), .mov (.c (.bool true)), none⟩] (some [2]) none)
    .ret)))))
def laws_FnExactMirrorLayer_F : MF := ⟨28, [.t 2], laws_FnExactMirrorLayer_M⟩
-- loop.example/g01312/laws.FnExactTurnLayer
def laws_FnExactTurnLayer_M : MC :=
  (.seq (.reg none [
      ⟨(some 1), .box (.t 0), none⟩,
      ⟨(some 2), .mov (.c (.bool false)), none⟩] (some [1]) none)
    (.seq (.reg none [
      ⟨(some 8), .load (some 65) (.t 1), none⟩,
      ⟨(some 9), .call 16 [(.t 8)], none⟩,
      ⟨(some 10), .call 27 [(.t 9)], none⟩,
      ⟨(some 7), .mov (.t 10), none⟩,
      ⟨(some 11), .ext (.t 7) 0, none⟩,
      ⟨(some 12), .ext (.t 7) 1, none⟩,
      ⟨(some 3), .new (rl [(1, .int .i8 0), (64, .int .u8 0)]), none⟩,
      ⟨none, .store 65 (.t 3) (.t 11), none⟩,
      ⟨(some 4), .mov (.t 12), none⟩] (some [1, 3, 4]) none)
    (.seq (.reg none [
      ⟨(some 14), .load (some 65) (.t 1), none⟩,
      ⟨(some 15), .call 16 [(.t 14)], none⟩,
      ⟨(some 16), .call 28 [(.t 15)], none⟩,
      ⟨(some 13), .mov (.t 16), none⟩,
      ⟨(some 17), .ext (.t 13) 0, none⟩,
      ⟨(some 18), .ext (.t 13) 1, none⟩,
      ⟨(some 5), .new (rl [(1, .int .i8 0), (64, .int .u8 0)]), none⟩,
      ⟨none, .store 65 (.t 5) (.t 17), none⟩,
      ⟨(some 6), .mov (.t 18), none⟩] (some [3, 4, 5, 6]) none)
    (.seq (.seq (.reg none [
      ⟨(some 19), .load (some 65) (.t 5), none⟩,
      ⟨(some 20), .load (some 65) (.t 3), none⟩,
      ⟨(some 21), .call 24 [(.t 19), (.t 20)], none⟩,
      ⟨(some 22), .un .not (.t 21), none⟩,
      ⟨(some 23), .mov (.t 22), none⟩,
      ⟨(some 24), .mov (.t 6), some (23, false)⟩,
      ⟨(some 25), .mov (.t 4), some (23, false)⟩,
      ⟨(some 26), .bin .neq (.t 24) (.t 25), some (23, false)⟩,
      ⟨(some 27), .pick (.t 23) (.c (.bool true)) (.t 26), none⟩] (some [27]) none)
    (.cond (.t 27) (.seq (.reg none [
      ⟨(some 2), .mov (.c (.bool false)), none⟩] (some [2]) none)
    .ret)
    .skip))
    (.seq (.reg none [
      ⟨(some 2), .mov (.c (.bool true)), none⟩] (some [2]) none)
    .ret)))))
def laws_FnExactTurnLayer_F : MF := ⟨28, [.t 2], laws_FnExactTurnLayer_M⟩
-- loop.example/g01312/laws.FnExactDropShare
def laws_FnExactDropShare_M : MC :=
  (.seq (.reg none [
      ⟨(some 2), .box (.t 0), none⟩,
      ⟨(some 4), .mov (.c (.bool false)), none⟩] (some [1, 2]) none)
    (.seq (.reg none [
      ⟨(some 10), .load (some 14) (.t 2), none⟩,
      ⟨(some 11), .call 19 [(.t 10)], none⟩,
      ⟨(some 12), .mov (.t 1), none⟩,
      ⟨(some 13), .call 29 [(.t 11), (.t 12)], none⟩,
      ⟨(some 9), .mov (.t 13), none⟩,
      ⟨(some 14), .ext (.t 9) 0, none⟩,
      ⟨(some 15), .ext (.t 9) 1, none⟩,
      ⟨(some 5), .new (rl [(2, .int .i8 0), (12, .int .u8 0)]), none⟩,
      ⟨none, .store 14 (.t 5) (.t 14), none⟩,
      ⟨(some 6), .mov (.t 15), none⟩] (some [1, 2, 5, 6]) none)
    (.seq (.reg none [
      ⟨(some 17), .load (some 14) (.t 2), none⟩,
      ⟨(some 18), .call 19 [(.t 17)], none⟩,
      ⟨(some 19), .mov (.t 1), none⟩,
      ⟨(some 20), .call 30 [(.t 18), (.t 19)], none⟩,
      ⟨(some 16), .mov (.t 20), none⟩,
      ⟨(some 21), .ext (.t 16) 0, none⟩,
      ⟨(some 22), .ext (.t 16) 1, none⟩,
      ⟨(some 7), .new (rl [(2, .int .i8 0), (12, .int .u8 0)]), none⟩,
      ⟨none, .store 14 (.t 7) (.t 21), none⟩,
      ⟨(some 8), .mov (.t 22), none⟩] (some [5, 6, 7, 8]) none)
    (.seq (.seq (.reg none [
      ⟨(some 23), .load (some 14) (.t 7), none⟩,
      ⟨(some 24), .load (some 14) (.t 5), none⟩,
      ⟨(some 25), .call 21 [(.t 23), (.t 24)], none⟩,
      ⟨(some 26), .un .not (.t 25), none⟩,
      ⟨(some 27), .mov (.t 26), none⟩,
      ⟨(some 28), .mov (.t 8), some (27, false)⟩,
      ⟨(some 29), .mov (.t 6), some (27, false)⟩,
      ⟨(some 30), .bin .neq (.t 28) (.t 29), some (27, false)⟩,
      ⟨(some 31), .pick (.t 27) (.c (.bool true)) (.t 30), none⟩] (some [31]) none)
    (.cond (.t 31) (.seq (.reg none [
      ⟨(some 4), .mov (.c (.bool false)), none⟩] (some [4]) none)
    .ret)
    .skip))
    (.seq (.reg none [
      ⟨(some 4), .mov (.c (.bool true)), none⟩] (some [4]) none)
    .ret)))))
def laws_FnExactDropShare_F : MF := ⟨32, [.t 4], laws_FnExactDropShare_M⟩
-- loop.example/g01312/laws.FnExactSeesWith
def laws_FnExactSeesWith_M : MC :=
  (.seq (.reg none [
      ⟨(some 2), .box (.t 0), none⟩,
      ⟨(some 4), .mov (.c (.bool false)), none⟩] (some [1, 2]) none)
    (.seq (.reg none [
      ⟨(some 12), .load (some 14) (.t 2), none⟩,
      ⟨(some 13), .call 19 [(.t 12)], none⟩,
      ⟨(some 14), .mov (.t 1), none⟩,
      ⟨(some 15), .call 31 [(.t 13), (.t 14)], none⟩,
      ⟨(some 11), .mov (.t 15), none⟩,
      ⟨(some 16), .ext (.t 11) 0, none⟩,
      ⟨(some 17), .ext (.t 11) 1, none⟩,
      ⟨(some 18), .ext (.t 11) 2, none⟩,
      ⟨(some 5), .mov (.t 16), none⟩,
      ⟨(some 6), .mov (.t 17), none⟩,
      ⟨(some 7), .mov (.t 18), none⟩] (some [1, 2, 5, 6, 7]) none)
    (.seq (.reg none [
      ⟨(some 20), .load (some 14) (.t 2), none⟩,
      ⟨(some 21), .call 19 [(.t 20)], none⟩,
      ⟨(some 22), .mov (.t 1), none⟩,
      ⟨(some 23), .call 32 [(.t 21), (.t 22)], none⟩,
      ⟨(some 19), .mov (.t 23), none⟩,
      ⟨(some 24), .ext (.t 19) 0, none⟩,
      ⟨(some 25), .ext (.t 19) 1, none⟩,
      ⟨(some 26), .ext (.t 19) 2, none⟩,
      ⟨(some 8), .mov (.t 24), none⟩,
      ⟨(some 9), .mov (.t 25), none⟩,
      ⟨(some 10), .mov (.t 26), none⟩] (some [5, 6, 7, 8, 9, 10]) none)
    (.seq (.seq (.reg none [
      ⟨(some 27), .mov (.t 8), none⟩,
      ⟨(some 28), .mov (.t 5), none⟩,
      ⟨(some 29), .beq true (.t 27) (.t 28), none⟩,
      ⟨(some 30), .mov (.t 29), none⟩,
      ⟨(some 31), .mov (.t 9), some (30, false)⟩,
      ⟨(some 32), .mov (.t 6), some (30, false)⟩,
      ⟨(some 33), .bin .neq (.t 31) (.t 32), some (30, false)⟩,
      ⟨(some 34), .pick (.t 30) (.c (.bool true)) (.t 33), none⟩,
      ⟨(some 35), .mov (.t 34), none⟩,
      ⟨(some 36), .mov (.t 10), some (35, false)⟩,
      ⟨(some 37), .mov (.t 7), some (35, false)⟩,
      ⟨(some 38), .bin .neq (.t 36) (.t 37), some (35, false)⟩,
      ⟨(some 39), .pick (.t 35) (.c (.bool true)) (.t 38), none⟩] (some [39]) none)
    (.cond (.t 39) (.seq (.reg none [
      ⟨(some 4), .mov (.c (.bool false)), none⟩] (some [4]) none)
    .ret)
    .skip))
    (.seq (.reg none [
      ⟨(some 4), .mov (.c (.bool true)), none⟩] (some [4]) none)
    .ret)))))
def laws_FnExactSeesWith_F : MF := ⟨40, [.t 4], laws_FnExactSeesWith_M⟩
-- loop.example/g01312/laws.FnExactWeightOf
def laws_FnExactWeightOf_M : MC :=
  (.seq (.reg none [
      ⟨(some 3), .box (.t 0), none⟩,
      ⟨(some 6), .mov (.c (.bool false)), none⟩] (some [1, 2, 3]) none)
    (.seq (.reg none [
      ⟨(some 12), .load (some 14) (.t 3), none⟩,
      ⟨(some 13), .call 19 [(.t 12)], none⟩,
      ⟨(some 14), .mov (.t 1), none⟩,
      ⟨(some 15), .mov (.t 2), none⟩,
      ⟨(some 16), .call 33 [(.t 13), (.t 14), (.t 15)], none⟩,
      ⟨(some 11), .mov (.t 16), none⟩,
      ⟨(some 17), .ext (.t 11) 0, none⟩,
      ⟨(some 18), .ext (.t 11) 1, none⟩,
      ⟨(some 7), .mov (.t 17), none⟩,
      ⟨(some 8), .mov (.t 18), none⟩] (some [1, 2, 3, 7, 8]) none)
    (.seq (.reg none [
      ⟨(some 20), .load (some 14) (.t 3), none⟩,
      ⟨(some 21), .call 19 [(.t 20)], none⟩,
      ⟨(some 22), .mov (.t 1), none⟩,
      ⟨(some 23), .mov (.t 2), none⟩,
      ⟨(some 24), .call 34 [(.t 21), (.t 22), (.t 23)], none⟩,
      ⟨(some 19), .mov (.t 24), none⟩,
      ⟨(some 25), .ext (.t 19) 0, none⟩,
      ⟨(some 26), .ext (.t 19) 1, none⟩,
      ⟨(some 9), .mov (.t 25), none⟩,
      ⟨(some 10), .mov (.t 26), none⟩] (some [7, 8, 9, 10]) none)
    (.seq (.seq (.reg none [
      ⟨(some 27), .mov (.t 9), none⟩,
      ⟨(some 28), .mov (.t 7), none⟩,
      ⟨(some 29), .bin .neq (.t 27) (.t 28), none⟩,
      ⟨(some 30), .mov (.t 29), none⟩,
      ⟨(some 31), .mov (.t 10), some (30, false)⟩,
      ⟨(some 32), .mov (.t 8), some (30, false)⟩,
      ⟨(some 33), .bin .neq (.t 31) (.t 32), some (30, false)⟩,
      ⟨(some 34), .pick (.t 30) (.c (.bool true)) (.t 33), none⟩] (some [34]) none)
    (.cond (.t 34) (.seq (.reg none [
      ⟨(some 6), .mov (.c (.bool false)), none⟩] (some [6]) none)
    .ret)
    .skip))
    (.seq (.reg none [
      ⟨(some 6), .mov (.c (.bool true)), none⟩] (some [6]) none)
    .ret)))))
def laws_FnExactWeightOf_F : MF := ⟨35, [.t 6], laws_FnExactWeightOf_M⟩
-- loop.example/g01312/laws.FnExactGapOf
def laws_FnExactGapOf_M : MC :=
  (.seq (.reg none [
      ⟨(some 2), .box (.t 0), none⟩,
      ⟨(some 4), .mov (.c (.bool false)), none⟩] (some [1, 2]) none)
    (.seq (.reg none [
      ⟨(some 10), .load (some 14) (.t 2), none⟩,
      ⟨(some 11), .call 19 [(.t 10)], none⟩,
      ⟨(some 12), .mov (.t 1), none⟩,
      ⟨(some 13), .call 35 [(.t 11), (.t 12)], none⟩,
      ⟨(some 9), .mov (.t 13), none⟩,
      ⟨(some 14), .ext (.t 9) 0, none⟩,
      ⟨(some 15), .ext (.t 9) 1, none⟩,
      ⟨(some 5), .mov (.t 14), none⟩,
      ⟨(some 6), .mov (.t 15), none⟩] (some [1, 2, 5, 6]) none)
    (.seq (.reg none [
      ⟨(some 17), .load (some 14) (.t 2), none⟩,
      ⟨(some 18), .call 19 [(.t 17)], none⟩,
      ⟨(some 19), .mov (.t 1), none⟩,
      ⟨(some 20), .call 36 [(.t 18), (.t 19)], none⟩,
      ⟨(some 16), .mov (.t 20), none⟩,
      ⟨(some 21), .ext (.t 16) 0, none⟩,
      ⟨(some 22), .ext (.t 16) 1, none⟩,
      ⟨(some 7), .mov (.t 21), none⟩,
      ⟨(some 8), .mov (.t 22), none⟩] (some [5, 6, 7, 8]) none)
    (.seq (.seq (.reg none [
      ⟨(some 23), .mov (.t 7), none⟩,
      ⟨(some 24), .mov (.t 5), none⟩,
      ⟨(some 25), .bin .neq (.t 23) (.t 24), none⟩,
      ⟨(some 26), .mov (.t 25), none⟩,
      ⟨(some 27), .mov (.t 8), some (26, false)⟩,
      ⟨(some 28), .mov (.t 6), some (26, false)⟩,
      ⟨(some 29), .bin .neq (.t 27) (.t 28), some (26, false)⟩,
      ⟨(some 30), .pick (.t 26) (.c (.bool true)) (.t 29), none⟩] (some [30]) none)
    (.cond (.t 30) (.seq (.reg none [
      ⟨(some 4), .mov (.c (.bool false)), none⟩] (some [4]) none)
    .ret)
    .skip))
    (.seq (.reg none [
      ⟨(some 4), .mov (.c (.bool true)), none⟩] (some [4]) none)
    .ret)))))
def laws_FnExactGapOf_F : MF := ⟨31, [.t 4], laws_FnExactGapOf_M⟩
-- loop.example/g01312/laws.FnExactAllOf
def laws_FnExactAllOf_M : MC :=
  (.seq (.reg none [
      ⟨(some 2), .mov (.c (.bool false)), none⟩] (some [0]) none)
    (.seq (.reg none [
      ⟨(some 8), .mov (.t 0), none⟩,
      ⟨(some 9), .call 37 [(.t 8)], none⟩,
      ⟨(some 7), .mov (.t 9), none⟩,
      ⟨(some 10), .ext (.t 7) 0, none⟩,
      ⟨(some 11), .ext (.t 7) 1, none⟩,
      ⟨(some 3), .new (rl [(2, .int .i8 0), (12, .int .u8 0)]), none⟩,
      ⟨none, .store 14 (.t 3) (.t 10), none⟩,
      ⟨(some 4), .mov (.t 11), none⟩] (some [0, 3, 4]) none)
    (.seq (.reg none [
      ⟨(some 13), .mov (.t 0), none⟩,
      ⟨(some 14), .call 38 [(.t 13)], none⟩,
      ⟨(some 12), .mov (.t 14), none⟩,
      ⟨(some 15), .ext (.t 12) 0, none⟩,
      ⟨(some 16), .ext (.t 12) 1, none⟩,
      ⟨(some 5), .new (rl [(2, .int .i8 0), (12, .int .u8 0)]), none⟩,
      ⟨none, .store 14 (.t 5) (.t 15), none⟩,
      ⟨(some 6), .mov (.t 16), none⟩] (some [3, 4, 5, 6]) none)
    (.seq (.seq (.reg none [
      ⟨(some 17), .load (some 14) (.t 5), none⟩,
      ⟨(some 18), .load (some 14) (.t 3), none⟩,
      ⟨(some 19), .call 21 [(.t 17), (.t 18)], none⟩,
      ⟨(some 20), .un .not (.t 19), none⟩,
      ⟨(some 21), .mov (.t 20), none⟩,
      ⟨(some 22), .mov (.t 6), some (21, false)⟩,
      ⟨(some 23), .mov (.t 4), some (21, false)⟩,
      ⟨(some 24), .bin .neq (.t 22) (.t 23), some (21, false)⟩,
      ⟨(some 25), .pick (.t 21) (.c (.bool true)) (.t 24), none⟩] (some [25]) none)
    (.cond (.t 25) (.seq (.reg none [
      ⟨(some 2), .mov (.c (.bool false)), none⟩] (some [2]) none)
    .ret)
    .skip))
    (.seq (.reg none [
      ⟨(some 2), .mov (.c (.bool true)), none⟩] (some [2]) none)
    .ret)))))
def laws_FnExactAllOf_F : MF := ⟨26, [.t 2], laws_FnExactAllOf_M⟩
-- loop.example/g01312/laws.FnExactShiftLayer
def laws_FnExactShiftLayer_M : MC :=
  (.seq (.reg none [
      ⟨(some 3), .box (.t 0), none⟩,
      ⟨(some 6), .mov (.c (.bool false)), none⟩] (some [1, 2, 3]) none)
    (.seq (.reg none [
      ⟨(some 12), .load (some 65) (.t 3), none⟩,
      ⟨(some 13), .call 16 [(.t 12)], none⟩,
      ⟨(some 14), .mov (.t 1), none⟩,
      ⟨(some 15), .mov (.t 2), none⟩,
      ⟨(some 16), .call 39 [(.t 13), (.t 14), (.t 15)], none⟩,
      ⟨(some 11), .mov (.t 16), none⟩,
      ⟨(some 17), .ext (.t 11) 0, none⟩,
      ⟨(some 18), .ext (.t 11) 1, none⟩,
      ⟨(some 7), .new (rl [(1, .int .i8 0), (64, .int .u8 0)]), none⟩,
      ⟨none, .store 65 (.t 7) (.t 17), none⟩,
      ⟨(some 8), .mov (.t 18), none⟩] (some [1, 2, 3, 7, 8]) none)
    (.seq (.reg none [
      ⟨(some 20), .load (some 65) (.t 3), none⟩,
      ⟨(some 21), .call 16 [(.t 20)], none⟩,
      ⟨(some 22), .mov (.t 1), none⟩,
      ⟨(some 23), .mov (.t 2), none⟩,
      ⟨(some 24), .call 40 [(.t 21), (.t 22), (.t 23)], none⟩,
      ⟨(some 19), .mov (.t 24), none⟩,
      ⟨(some 25), .ext (.t 19) 0, none⟩,
      ⟨(some 26), .ext (.t 19) 1, none⟩,
      ⟨(some 9), .new (rl [(1, .int .i8 0), (64, .int .u8 0)]), none⟩,
      ⟨none, .store 65 (.t 9) (.t 25), none⟩,
      ⟨(some 10), .mov (.t 26), none⟩] (some [7, 8, 9, 10]) none)
    (.seq (.seq (.reg none [
      ⟨(some 27), .load (some 65) (.t 9), none⟩,
      ⟨(some 28), .load (some 65) (.t 7), none⟩,
      ⟨(some 29), .call 24 [(.t 27), (.t 28)], none⟩,
      ⟨(some 30), .un .not (.t 29), none⟩,
      ⟨(some 31), .mov (.t 30), none⟩,
      ⟨(some 32), .mov (.t 10), some (31, false)⟩,
      ⟨(some 33), .mov (.t 8), some (31, false)⟩,
      ⟨(some 34), .bin .neq (.t 32) (.t 33), some (31, false)⟩,
      ⟨(some 35), .pick (.t 31) (.c (.bool true)) (.t 34), none⟩] (some [35]) none)
    (.cond (.t 35) (.seq (.reg none [
      ⟨(some 6), .mov (.c (.bool false)), none⟩] (some [6]) none)
    .ret)
    .skip))
    (.seq (.reg none [
      ⟨(some 6), .mov (.c (.bool true)), none⟩] (some [6]) none)
    .ret)))))
def laws_FnExactShiftLayer_F : MF := ⟨36, [.t 6], laws_FnExactShiftLayer_M⟩
-- loop.example/g01312/laws.FnExactReorderShares
def laws_FnExactReorderShares_M : MC :=
  (.seq (.reg none [
      ⟨(some 2), .box (.t 0), none⟩,
      ⟨(some 4), .mov (.c (.bool false)), none⟩] (some [1, 2]) none)
    (.seq (.seq (.reg none [
      ⟨(some 10), .mov (.t 1), none⟩,
      ⟨(some 11), .lenS (.t 10), none⟩,
      ⟨(some 12), .bin .gtr (.t 11) (.c (.int .i64 1048576)), none⟩] (some [1, 2, 12]) none)
    (.cond (.t 12) (.seq (.reg none [
      ⟨(some 4), .mov (.c (.bool true)), none⟩] (some [4]) none)
    .ret)
    .skip))
    (.seq (.reg none [
      ⟨(some 14), .load (some 14) (.t 2), none⟩,
      ⟨(some 15), .call 19 [(.t 14)], none⟩,
      ⟨(some 16), .mov (.t 1), none⟩,
      ⟨(some 17), .call 42 [(.t 16)], none⟩,
      ⟨(some 18), .call 41 [(.t 15), (.t 17)], none⟩,
      ⟨(some 13), .mov (.t 18), none⟩,
      ⟨(some 19), .ext (.t 13) 0, none⟩,
      ⟨(some 20), .ext (.t 13) 1, none⟩,
      ⟨(some 5), .new (rl [(2, .int .i8 0), (12, .int .u8 0)]), none⟩,
      ⟨none, .store 14 (.t 5) (.t 19), none⟩,
      ⟨(some 6), .mov (.t 20), none⟩] (some [1, 2, 5, 6]) none)
    (.seq (.reg none [
      ⟨(some 21), .mov (.t 1), none⟩,
      ⟨(some 22), .call 42 [(.t 21)], none⟩,
      ⟨(some 7), .mov (.t 22), none⟩] (some [1, 2, 5, 6, 7]) none)
    (.seq (.reg none [
      ⟨(some 24), .load (some 14) (.t 2), none⟩,
      ⟨(some 25), .call 19 [(.t 24)], none⟩,
      ⟨(some 26), .mov (.t 7), none⟩,
      ⟨(some 27), .call 43 [(.t 25), (.t 26)], none⟩,
      ⟨(some 23), .mov (.t 27), none⟩,
      ⟨(some 28), .ext (.t 23) 0, none⟩,
      ⟨(some 29), .ext (.t 23) 1, none⟩,
      ⟨(some 8), .new (rl [(2, .int .i8 0), (12, .int .u8 0)]), none⟩,
      ⟨none, .store 14 (.t 8) (.t 28), none⟩,
      ⟨(some 9), .mov (.t 29), none⟩] (some [1, 5, 6, 7, 8, 9]) none)
    (.seq (.seq (.reg none [
      ⟨(some 30), .load (some 14) (.t 8), none⟩,
      ⟨(some 31), .load (some 14) (.t 5), none⟩,
      ⟨(some 32), .call 21 [(.t 30), (.t 31)], none⟩,
      ⟨(some 33), .un .not (.t 32), none⟩,
      ⟨(some 34), .mov (.t 33), none⟩,
      ⟨(some 35), .mov (.t 9), some (34, false)⟩,
      ⟨(some 36), .mov (.t 6), some (34, false)⟩,
      ⟨(some 37), .bin .neq (.t 35) (.t 36), some (34, false)⟩,
      ⟨(some 38), .pick (.t 34) (.c (.bool true)) (.t 37), none⟩] (some [1, 7, 38]) none)
    (.cond (.t 38) (.seq (.reg none [
      ⟨(some 4), .mov (.c (.bool false)), none⟩] (some [4]) none)
    .ret)
    .skip))
    (.seq (.seq (.reg none [
      ⟨(some 39), .mov (.t 7), none⟩,
      ⟨(some 40), .mov (.t 1), none⟩,
      ⟨(some 41), .call 42 [(.t 40)], none⟩,
      ⟨(some 42), .call 44 [(.t 39), (.t 41)], none⟩,
      ⟨(some 43), .un .not (.t 42), none⟩] (some [43]) none)
    (.cond (.t 43) (.seq (.reg none [
      ⟨(some 4), .mov (.c (.bool false)), none⟩] (some [4]) none)
    .ret)
    .skip))
    (.seq (.reg none [
      ⟨(some 4), .mov (.c (.bool true)), none⟩] (some [4]) none)
    .ret))))))))
def laws_FnExactReorderShares_F : MF := ⟨44, [.t 4], laws_FnExactReorderShares_M⟩
-- loop.example/g01312/spec.ShownAt
def spec_ShownAt_M : MC :=
  (.seq (.reg none [
      ⟨(some 2), .box (.t 0), none⟩,
      ⟨(some 4), .mov (.c (.int .u64 0)), none⟩,
      ⟨(some 5), .mov (.c (.int .i64 0)), none⟩] (some [1, 2]) none)
    (.seq (.seq (.reg none [
      ⟨(some 6), .call 45 [(.t 2)], none⟩,
      ⟨(some 7), .un .not (.t 6), none⟩] (some [1, 2, 7]) none)
    (.cond (.t 7) (.seq (.reg none [
      ⟨(some 4), .mov (.c (.int .u64 0)), none⟩,
      ⟨(some 5), .mov (.c (.int .i64 1)), none⟩] (some [4, 5]) none)
    .ret)
    .skip))
    (.seq (.seq (.reg none [
      ⟨(some 8), .mov (.t 1), none⟩,
      ⟨(some 9), .call 46 [(.t 8), (.c (.int .i64 0)), (.c (.int .i64 8))], none⟩,
      ⟨(some 10), .un .not (.t 9), none⟩] (some [1, 2, 10]) none)
    (.cond (.t 10) (.seq (.reg none [
      ⟨(some 4), .mov (.c (.int .u64 0)), none⟩,
      ⟨(some 5), .mov (.c (.int .i64 2)), none⟩] (some [4, 5]) none)
    .ret)
    .skip))
    (.seq (.reg none [
      ⟨(some 11), .mov (.t 1), none⟩,
      ⟨(some 12), .call 47 [(.t 2), (.t 11)], none⟩,
      ⟨(some 4), .mov (.t 12), none⟩,
      ⟨(some 5), .mov (.c (.int .i64 0)), none⟩] (some [4, 5]) none)
    .ret))))
def spec_ShownAt_F : MF := ⟨13, [.t 4, .t 5], spec_ShownAt_M⟩
-- loop.example/g01312/laws.toLayer
def laws_toLayer_M : MC :=
  (.seq (.reg none [
      ⟨(some 1), .box (.t 0), none⟩,
      ⟨(some 2), .new (rl [(1, .int .i8 0), (64, .int .u8 0)]), none⟩] (some [1, 2]) none)
    (.seq (.reg none [
      ⟨(some 3), .new (rl [(1, .int .i8 0), (64, .int .u8 0)]), none⟩] (some [1, 2, 3]) none)
    (.seq (.reg none [
      ⟨(some 4), .fa 0 (.t 1), none⟩,
      ⟨(some 5), .load none (.t 4), none⟩,
      ⟨(some 6), .fa 0 (.t 3), none⟩,
      ⟨none, .store 1 (.t 6) (.t 5), none⟩] (some [1, 2, 3]) none)
    (.seq (.reg none [
      ⟨(some 7), .fa 1 (.t 1), none⟩,
      ⟨(some 8), .load (some 64) (.t 7), none⟩,
      ⟨(some 9), .call 48 [(.t 8)], none⟩,
      ⟨(some 10), .fa 1 (.t 3), none⟩,
      ⟨none, .store 64 (.t 10) (.t 9), none⟩] (some [2, 3]) none)
    (.seq (.reg none [
      ⟨(some 11), .load (some 65) (.t 3), none⟩,
      ⟨none, .store 65 (.t 2) (.t 11), none⟩] (some [2]) none)
    .ret)))))
def laws_toLayer_F : MF := ⟨12, [.c 2 (some 65)], laws_toLayer_M⟩
-- loop.example/g01312/impl.ShownAt
def impl_ShownAt_M : MC :=
  (.seq (.reg none [
      ⟨(some 2), .box (.t 0), none⟩,
      ⟨(some 4), .mov (.c (.int .u64 0)), none⟩,
      ⟨(some 5), .mov (.c (.int .i64 0)), none⟩] (some [1, 2]) none)
    (.seq (.seq (.reg none [
      ⟨(some 7), .load (some 65) (.t 2), none⟩,
      ⟨(some 8), .call 50 [(.t 7)], none⟩,
      ⟨(some 9), .un .not (.t 8), none⟩,
      ⟨(some 10), .bld [.bool false, .int .i64 0] [(0, 1, (.t 9)), (1, 1, (.c (.int .i64 1)))], none⟩,
      ⟨(some 11), .mov (.t 1), none⟩,
      ⟨(some 12), .call 51 [(.t 11), (.c (.int .i64 0)), (.c (.int .i64 8))], none⟩,
      ⟨(some 13), .un .not (.t 12), none⟩,
      ⟨(some 14), .bld [.bool false, .int .i64 0] [(0, 1, (.t 13)), (1, 1, (.c (.int .i64 2)))], none⟩,
      ⟨(some 15), .bldS [.bool false, .int .i64 0] 2 [(0, 2, (.t 10)), (2, 2, (.t 14))], none⟩,
      ⟨(some 16), .call 49 [(.t 15)], none⟩,
      ⟨(some 6), .mov (.t 16), none⟩] (some [1, 2, 6]) none)
    (.seq (.reg none [
      ⟨(some 17), .mov (.t 6), none⟩,
      ⟨(some 18), .bin .neq (.t 17) (.c (.int .i64 0)), none⟩] (some [1, 2, 6, 18]) none)
    (.cond (.t 18) (.seq (.reg none [
      ⟨(some 19), .mov (.t 6), none⟩,
      ⟨(some 4), .mov (.c (.int .u64 0)), none⟩,
      ⟨(some 5), .mov (.t 19), none⟩] (some [4, 5]) none)
    .ret)
    .skip)))
    (.seq (.reg none [
      ⟨(some 20), .load (some 65) (.t 2), none⟩,
      ⟨(some 21), .mov (.t 1), none⟩,
      ⟨(some 22), .call 52 [(.t 20), (.t 21)], none⟩,
      ⟨(some 4), .mov (.t 22), none⟩,
      ⟨(some 5), .mov (.c (.int .i64 0)), none⟩] (some [4, 5]) none)
    .ret)))
def impl_ShownAt_F : MF := ⟨23, [.t 4, .t 5], impl_ShownAt_M⟩
-- loop.example/g01312/spec.JoinSchemes
def spec_JoinSchemes_L0 : MC :=
  (.seq (.seq (.reg none [
      ⟨(some 36), .mov (.t 7), none⟩,
      ⟨(some 37), .bin .lss (.t 36) (.c (.int .i64 6)), none⟩] (some [2, 3, 4, 6, 7, 37]) none)
    (.cond (.t 37) .skip
    (.exit 0)))
    (.seq (.block 1 (.seq (.reg (some []) [
      ⟨(some 40), .mov (.t 7), none⟩,
      ⟨(some 41), .mov (.t 7), none⟩,
      ⟨(some 42), .fa 2 (.t 2), none⟩,
      ⟨(some 43), .iaA 6 1 (.t 42) (.t 41), none⟩,
      ⟨(some 44), .load none (.t 43), none⟩,
      ⟨(some 45), .mov (.t 7), none⟩,
      ⟨(some 46), .fa 2 (.t 3), none⟩,
      ⟨(some 47), .iaA 6 1 (.t 46) (.t 45), none⟩,
      ⟨(some 48), .load none (.t 47), none⟩,
      ⟨(some 49), .fa 1 (.t 2), none⟩,
      ⟨(some 50), .load none (.t 49), none⟩,
      ⟨(some 51), .conv .u64 (.t 50), none⟩,
      ⟨(some 52), .bin .shl (.t 48) (.t 51), none⟩,
      ⟨(some 53), .bin .or (.t 44) (.t 52), none⟩,
      ⟨(some 54), .fa 2 (.t 6), none⟩,
      ⟨(some 55), .iaA 6 1 (.t 54) (.t 40), none⟩,
      ⟨none, .store 1 (.t 55) (.t 53), none⟩] (some [2, 3, 4, 6, 7]) none)
    (.reg (some []) [
      ⟨(some 56), .mov (.t 7), none⟩,
      ⟨(some 57), .mov (.t 7), none⟩,
      ⟨(some 58), .fa 8 (.t 2), none⟩,
      ⟨(some 59), .iaA 6 1 (.t 58) (.t 57), none⟩,
      ⟨(some 60), .load none (.t 59), none⟩,
      ⟨(some 61), .mov (.t 7), none⟩,
      ⟨(some 62), .fa 8 (.t 3), none⟩,
      ⟨(some 63), .iaA 6 1 (.t 62) (.t 61), none⟩,
      ⟨(some 64), .load none (.t 63), none⟩,
      ⟨(some 65), .fa 1 (.t 2), none⟩,
      ⟨(some 66), .load none (.t 65), none⟩,
      ⟨(some 67), .conv .u64 (.t 66), none⟩,
      ⟨(some 68), .bin .shl (.t 64) (.t 67), none⟩,
      ⟨(some 69), .bin .or (.t 60) (.t 68), none⟩,
      ⟨(some 70), .fa 8 (.t 6), none⟩,
      ⟨(some 71), .iaA 6 1 (.t 70) (.t 56), none⟩,
      ⟨none, .store 1 (.t 71) (.t 69), none⟩] (some [2, 3, 4, 6, 7]) none)))
    (.reg none [
      ⟨(some 38), .mov (.t 7), none⟩,
      ⟨(some 39), .bin .add (.t 38) (.c (.int .i64 1)), none⟩,
      ⟨(some 7), .mov (.t 39), none⟩] (some [2, 3, 4, 6, 7]) none)))
def spec_JoinSchemes_M : MC :=
  (.seq (.reg none [
      ⟨(some 2), .box (.t 0), none⟩,
      ⟨(some 3), .box (.t 1), none⟩,
      ⟨(some 4), .new (rl [(2, .int .i8 0), (12, .int .u8 0)]), none⟩,
      ⟨(some 5), .mov (.c (.int .i64 0)), none⟩] (some [2, 3, 4]) none)
    (.seq (.seq (.reg none [
      ⟨(some 8), .call 53 [(.t 2)], none⟩,
      ⟨(some 9), .un .not (.t 8), none⟩,
      ⟨(some 10), .mov (.t 9), none⟩,
      ⟨(some 11), .call 53 [(.t 3)], some (10, false)⟩,
      ⟨(some 12), .un .not (.t 11), some (10, false)⟩,
      ⟨(some 13), .pick (.t 10) (.c (.bool true)) (.t 12), none⟩] (some [2, 3, 4, 13]) none)
    (.cond (.t 13) (.seq (.reg none [
      ⟨(some 14), .bld (rl [(2, .int .i8 0), (12, .int .u8 0)]) [], none⟩,
      ⟨none, .store 14 (.t 4) (.t 14), none⟩,
      ⟨(some 5), .mov (.c (.int .i64 1)), none⟩] (some [4, 5]) none)
    .ret)
    .skip))
    (.seq (.seq (.reg none [
      ⟨(some 15), .fa 0 (.t 2), none⟩,
      ⟨(some 16), .load none (.t 15), none⟩,
      ⟨(some 17), .fa 0 (.t 3), none⟩,
      ⟨(some 18), .load none (.t 17), none⟩,
      ⟨(some 19), .bin .neq (.t 16) (.t 18), none⟩] (some [2, 3, 4, 19]) none)
    (.cond (.t 19) (.seq (.reg none [
      ⟨(some 20), .bld (rl [(2, .int .i8 0), (12, .int .u8 0)]) [], none⟩,
      ⟨none, .store 14 (.t 4) (.t 20), none⟩,
      ⟨(some 5), .mov (.c (.int .i64 4)), none⟩] (some [4, 5]) none)
    .ret)
    .skip))
    (.seq (.seq (.reg none [
      ⟨(some 21), .fa 1 (.t 2), none⟩,
      ⟨(some 22), .load none (.t 21), none⟩,
      ⟨(some 23), .fa 1 (.t 3), none⟩,
      ⟨(some 24), .load none (.t 23), none⟩,
      ⟨(some 25), .bin .add (.t 22) (.t 24), none⟩,
      ⟨(some 26), .bin .gtr (.t 25) (.c (.int .i8 8)), none⟩] (some [2, 3, 4, 26]) none)
    (.cond (.t 26) (.seq (.reg none [
      ⟨(some 27), .bld (rl [(2, .int .i8 0), (12, .int .u8 0)]) [], none⟩,
      ⟨none, .store 14 (.t 4) (.t 27), none⟩,
      ⟨(some 5), .mov (.c (.int .i64 3)), none⟩] (some [4, 5]) none)
    .ret)
    .skip))
    (.seq (.reg none [
      ⟨(some 28), .fa 0 (.t 2), none⟩,
      ⟨(some 29), .load none (.t 28), none⟩,
      ⟨(some 30), .fa 1 (.t 2), none⟩,
      ⟨(some 31), .load none (.t 30), none⟩,
      ⟨(some 32), .fa 1 (.t 3), none⟩,
      ⟨(some 33), .load none (.t 32), none⟩,
      ⟨(some 34), .bin .add (.t 31) (.t 33), none⟩,
      ⟨(some 35), .bld (rl [(2, .int .i8 0), (12, .int .u8 0)]) [(0, 1, (.t 29)), (1, 1, (.t 34))], none⟩,
      ⟨(some 6), .new (rl [(2, .int .i8 0), (12, .int .u8 0)]), none⟩,
      ⟨none, .store 14 (.t 6) (.t 35), none⟩] (some [2, 3, 4, 6]) none)
    (.seq (.seq (.reg none [
      ⟨(some 7), .mov (.c (.int .i64 0)), none⟩] (some [2, 3, 4, 6, 7]) none)
    (.block 0 (.loop spec_JoinSchemes_L0)))
    (.seq (.reg none [
      ⟨(some 72), .load (some 14) (.t 6), none⟩,
      ⟨none, .store 14 (.t 4) (.t 72), none⟩,
      ⟨(some 5), .mov (.c (.int .i64 0)), none⟩] (some [4, 5]) none)
    .ret)))))))
def spec_JoinSchemes_F : MF := ⟨73, [.c 4 (some 14), .t 5], spec_JoinSchemes_M⟩
-- loop.example/g01312/laws.toScheme
def laws_toScheme_M : MC :=
  (.seq (.reg none [
      ⟨(some 1), .box (.t 0), none⟩,
      ⟨(some 2), .new (rl [(2, .int .i8 0), (12, .int .u8 0)]), none⟩] (some [1, 2]) none)
    (.seq (.reg none [
      ⟨(some 3), .new (rl [(2, .int .i8 0), (12, .int .u8 0)]), none⟩] (some [1, 2, 3]) none)
    (.seq (.reg none [
      ⟨(some 4), .fa 0 (.t 1), none⟩,
      ⟨(some 5), .load none (.t 4), none⟩,
      ⟨(some 6), .fa 0 (.t 3), none⟩,
      ⟨none, .store 1 (.t 6) (.t 5), none⟩] (some [1, 2, 3]) none)
    (.seq (.reg none [
      ⟨(some 7), .fa 1 (.t 1), none⟩,
      ⟨(some 8), .load none (.t 7), none⟩,
      ⟨(some 9), .fa 1 (.t 3), none⟩,
      ⟨none, .store 1 (.t 9) (.t 8), none⟩] (some [1, 2, 3]) none)
    (.seq (.reg none [
      ⟨(some 10), .fa 2 (.t 1), none⟩,
      ⟨(some 11), .load (some 6) (.t 10), none⟩,
      ⟨(some 12), .call 54 [(.t 11)], none⟩,
      ⟨(some 13), .fa 2 (.t 3), none⟩,
      ⟨none, .store 6 (.t 13) (.t 12), none⟩] (some [1, 2, 3]) none)
    (.seq (.reg none [
      ⟨(some 14), .fa 8 (.t 1), none⟩,
      ⟨(some 15), .load (some 6) (.t 14), none⟩,
      ⟨(some 16), .call 54 [(.t 15)], none⟩,
      ⟨(some 17), .fa 8 (.t 3), none⟩,
      ⟨none, .store 6 (.t 17) (.t 16), none⟩] (some [2, 3]) none)
    (.seq (.reg none [
      ⟨(some 18), .load (some 14) (.t 3), none⟩,
      ⟨none, .store 14 (.t 2) (.t 18), none⟩] (some [2]) none)
    .ret)))))))
def laws_toScheme_F : MF := ⟨19, [.c 2 (some 14)], laws_toScheme_M⟩
-- loop.example/g01312/impl.JoinSchemes
def impl_JoinSchemes_L0 : MC :=
  (.seq (.reg none [
      ⟨(some 46), .bin .lss (.t 45) (.c (.int .i64 6)), none⟩] (some [2, 3, 4, 7, 45, 46]) none)
    (.seq (.cond (.t 46) .skip
    (.exit 0))
    (.seq (.block 1 (.seq (.reg none [
      ⟨(some 47), .mov (.t 45), none⟩,
      ⟨(some 8), .mov (.t 47), none⟩] (some [2, 3, 4, 7, 8, 45]) none)
    (.reg (some [(17, 28), (21, 28), (23, 28)]) [
      ⟨(some 48), .mov (.t 8), none⟩,
      ⟨(some 49), .mov (.t 8), none⟩,
      ⟨(some 50), .mov (.t 8), none⟩,
      ⟨(some 51), .fa 2 (.t 2), none⟩,
      ⟨(some 52), .iaA 6 1 (.t 51) (.t 50), none⟩,
      ⟨(some 53), .load none (.t 52), none⟩,
      ⟨(some 54), .mov (.t 8), none⟩,
      ⟨(some 55), .fa 2 (.t 3), none⟩,
      ⟨(some 56), .iaA 6 1 (.t 55) (.t 54), none⟩,
      ⟨(some 57), .load none (.t 56), none⟩,
      ⟨(some 58), .fa 1 (.t 2), none⟩,
      ⟨(some 59), .load none (.t 58), none⟩,
      ⟨(some 60), .bin .shl (.t 57) (.t 59), none⟩,
      ⟨(some 61), .bin .or (.t 53) (.t 60), none⟩,
      ⟨(some 62), .mov (.t 8), none⟩,
      ⟨(some 63), .fa 8 (.t 2), none⟩,
      ⟨(some 64), .iaA 6 1 (.t 63) (.t 62), none⟩,
      ⟨(some 65), .load none (.t 64), none⟩,
      ⟨(some 66), .mov (.t 8), none⟩,
      ⟨(some 67), .fa 8 (.t 3), none⟩,
      ⟨(some 68), .iaA 6 1 (.t 67) (.t 66), none⟩,
      ⟨(some 69), .load none (.t 68), none⟩,
      ⟨(some 70), .fa 1 (.t 2), none⟩,
      ⟨(some 71), .load none (.t 70), none⟩,
      ⟨(some 72), .bin .shl (.t 69) (.t 71), none⟩,
      ⟨(some 73), .bin .or (.t 65) (.t 72), none⟩,
      ⟨(some 74), .fa 2 (.t 7), none⟩,
      ⟨(some 75), .iaA 6 1 (.t 74) (.t 48), none⟩,
      ⟨none, .store 1 (.t 75) (.t 61), none⟩,
      ⟨(some 76), .fa 8 (.t 7), none⟩,
      ⟨(some 77), .iaA 6 1 (.t 76) (.t 49), none⟩,
      ⟨none, .store 1 (.t 77) (.t 73), none⟩] (some [2, 3, 4, 7, 45]) none)))
    (.reg none [
      ⟨(some 78), .bin .add (.t 45) (.c (.int .i64 1)), none⟩,
      ⟨(some 45), .mov (.t 78), none⟩] (some [2, 3, 4, 7, 45]) none))))
def impl_JoinSchemes_M : MC :=
  (.seq (.reg none [
      ⟨(some 2), .box (.t 0), none⟩,
      ⟨(some 3), .box (.t 1), none⟩,
      ⟨(some 4), .new (rl [(2, .int .i8 0), (12, .int .u8 0)]), none⟩,
      ⟨(some 5), .mov (.c (.int .i64 0)), none⟩] (some [2, 3, 4]) none)
    (.seq (.seq (.reg (some [(1, 4), (0, 5), (1, 5), (1, 10), (5, 10), (1, 12), (5, 12), (1, 16), (5, 16), (1, 18), (5, 18), (0, 22), (1, 22), (4, 22), (5, 22), (10, 22), (12, 22), (16, 22), (18, 22), (0, 23), (1, 23), (4, 23), (10, 23), (12, 23), (16, 23), (18, 23)]) [
      ⟨(some 9), .load (some 14) (.t 2), none⟩,
      ⟨(some 10), .call 55 [(.t 9)], none⟩,
      ⟨(some 11), .un .not (.t 10), none⟩,
      ⟨(some 12), .mov (.t 11), none⟩,
      ⟨(some 13), .load (some 14) (.t 3), some (12, false)⟩,
      ⟨(some 14), .call 55 [(.t 13)], some (12, false)⟩,
      ⟨(some 15), .un .not (.t 14), some (12, false)⟩,
      ⟨(some 16), .pick (.t 12) (.c (.bool true)) (.t 15), none⟩,
      ⟨(some 17), .bld [.bool false, .int .i64 0] [(0, 1, (.t 16)), (1, 1, (.c (.int .i64 1)))], none⟩,
      ⟨(some 18), .fa 0 (.t 2), none⟩,
      ⟨(some 19), .load none (.t 18), none⟩,
      ⟨(some 20), .fa 0 (.t 3), none⟩,
      ⟨(some 21), .load none (.t 20), none⟩,
      ⟨(some 22), .bin .neq (.t 19) (.t 21), none⟩,
      ⟨(some 23), .bld [.bool false, .int .i64 0] [(0, 1, (.t 22)), (1, 1, (.c (.int .i64 4)))], none⟩,
      ⟨(some 24), .fa 1 (.t 2), none⟩,
      ⟨(some 25), .load none (.t 24), none⟩,
      ⟨(some 26), .fa 1 (.t 3), none⟩,
      ⟨(some 27), .load none (.t 26), none⟩,
      ⟨(some 28), .bin .add (.t 25) (.t 27), none⟩,
      ⟨(some 29), .bin .gtr (.t 28) (.c (.int .i8 8)), none⟩,
      ⟨(some 30), .bld [.bool false, .int .i64 0] [(0, 1, (.t 29)), (1, 1, (.c (.int .i64 3)))], none⟩,
      ⟨(some 31), .bldS [.bool false, .int .i64 0] 3 [(0, 2, (.t 17)), (2, 2, (.t 23)), (4, 2, (.t 30))], none⟩,
      ⟨(some 32), .call 49 [(.t 31)], none⟩,
      ⟨(some 6), .mov (.t 32), none⟩] (some [2, 3, 4, 6]) none)
    (.seq (.reg none [
      ⟨(some 33), .mov (.t 6), none⟩,
      ⟨(some 34), .bin .neq (.t 33) (.c (.int .i64 0)), none⟩] (some [2, 3, 4, 6, 34]) none)
    (.cond (.t 34) (.seq (.reg none [
      ⟨(some 35), .bld (rl [(2, .int .i8 0), (12, .int .u8 0)]) [], none⟩,
      ⟨(some 36), .mov (.t 6), none⟩,
      ⟨none, .store 14 (.t 4) (.t 35), none⟩,
      ⟨(some 5), .mov (.t 36), none⟩] (some [4, 5]) none)
    .ret)
    .skip)))
    (.seq (.reg none [
      ⟨(some 37), .fa 0 (.t 2), none⟩,
      ⟨(some 38), .load none (.t 37), none⟩,
      ⟨(some 39), .fa 1 (.t 2), none⟩,
      ⟨(some 40), .load none (.t 39), none⟩,
      ⟨(some 41), .fa 1 (.t 3), none⟩,
      ⟨(some 42), .load none (.t 41), none⟩,
      ⟨(some 43), .bin .add (.t 40) (.t 42), none⟩,
      ⟨(some 44), .bld (rl [(2, .int .i8 0), (12, .int .u8 0)]) [(0, 1, (.t 38)), (1, 1, (.t 43))], none⟩,
      ⟨(some 7), .new (rl [(2, .int .i8 0), (12, .int .u8 0)]), none⟩,
      ⟨none, .store 14 (.t 7) (.t 44), none⟩] (some [2, 3, 4, 7]) none)
    (.seq (.seq (.reg none [
      ⟨(some 45), .mov (.c (.int .i64 0)), none⟩] (some [2, 3, 4, 7, 45]) none)
    (.block 0 (.loop impl_JoinSchemes_L0)))
    (.seq (.reg none [
      ⟨(some 79), .load (some 14) (.t 7), none⟩,
      ⟨none, .store 14 (.t 4) (.t 79), none⟩,
      ⟨(some 5), .mov (.c (.int .i64 0)), none⟩] (some [4, 5]) none)
    .ret)))))
def impl_JoinSchemes_F : MF := ⟨80, [.c 4 (some 14), .t 5], impl_JoinSchemes_M⟩
-- loop.example/g01312/laws.eqScheme
def laws_eqScheme_M : MC :=
  (.seq (.reg none [
      ⟨(some 2), .box (.t 0), none⟩,
      ⟨(some 3), .box (.t 1), none⟩,
      ⟨(some 4), .mov (.c (.bool false)), none⟩] (some [2, 3]) none)
    (.seq (.seq (.reg none [
      ⟨(some 5), .fa 0 (.t 2), none⟩,
      ⟨(some 6), .load none (.t 5), none⟩,
      ⟨(some 7), .fa 0 (.t 3), none⟩,
      ⟨(some 8), .load none (.t 7), none⟩,
      ⟨(some 9), .bin .neq (.t 6) (.t 8), none⟩] (some [2, 3, 9]) none)
    (.cond (.t 9) (.seq (.reg none [
      ⟨(some 4), .mov (.c (.bool false)), none⟩] (some [4]) none)
    .ret)
    .skip))
    (.seq (.seq (.reg none [
      ⟨(some 10), .fa 1 (.t 2), none⟩,
      ⟨(some 11), .load none (.t 10), none⟩,
      ⟨(some 12), .fa 1 (.t 3), none⟩,
      ⟨(some 13), .load none (.t 12), none⟩,
      ⟨(some 14), .bin .neq (.t 11) (.t 13), none⟩] (some [2, 3, 14]) none)
    (.cond (.t 14) (.seq (.reg none [
      ⟨(some 4), .mov (.c (.bool false)), none⟩] (some [4]) none)
    .ret)
    .skip))
    (.seq (.seq (.reg none [
      ⟨(some 15), .fa 2 (.t 2), none⟩,
      ⟨(some 16), .load (some 6) (.t 15), none⟩,
      ⟨(some 17), .fa 2 (.t 3), none⟩,
      ⟨(some 18), .load (some 6) (.t 17), none⟩,
      ⟨(some 19), .call 56 [(.t 16), (.t 18)], none⟩,
      ⟨(some 20), .un .not (.t 19), none⟩] (some [2, 3, 20]) none)
    (.cond (.t 20) (.seq (.reg none [
      ⟨(some 4), .mov (.c (.bool false)), none⟩] (some [4]) none)
    .ret)
    .skip))
    (.seq (.seq (.reg none [
      ⟨(some 21), .fa 8 (.t 2), none⟩,
      ⟨(some 22), .load (some 6) (.t 21), none⟩,
      ⟨(some 23), .fa 8 (.t 3), none⟩,
      ⟨(some 24), .load (some 6) (.t 23), none⟩,
      ⟨(some 25), .call 56 [(.t 22), (.t 24)], none⟩,
      ⟨(some 26), .un .not (.t 25), none⟩] (some [26]) none)
    (.cond (.t 26) (.seq (.reg none [
      ⟨(some 4), .mov (.c (.bool false)), none⟩] (some [4]) none)
    .ret)
    .skip))
    (.seq (.reg none [
      ⟨(some 4), .mov (.c (.bool true)), none⟩] (some [4]) none)
    .ret))))))
def laws_eqScheme_F : MF := ⟨27, [.t 4], laws_eqScheme_M⟩
-- loop.example/g01312/spec.JoinParts
def spec_JoinParts_L0 : MC :=
  (.seq (.seq (.reg none [
      ⟨(some 30), .mov (.t 7), none⟩,
      ⟨(some 31), .bin .lss (.t 30) (.c (.int .i64 64)), none⟩] (some [2, 3, 4, 6, 7, 31]) none)
    (.cond (.t 31) .skip
    (.exit 0)))
    (.seq (.block 1 (.reg (some []) [
      ⟨(some 34), .mov (.t 7), none⟩,
      ⟨(some 35), .mov (.t 7), none⟩,
      ⟨(some 36), .fa 1 (.t 2), none⟩,
      ⟨(some 37), .iaA 64 1 (.t 36) (.t 35), none⟩,
      ⟨(some 38), .load none (.t 37), none⟩,
      ⟨(some 39), .mov (.t 7), none⟩,
      ⟨(some 40), .fa 1 (.t 3), none⟩,
      ⟨(some 41), .iaA 64 1 (.t 40) (.t 39), none⟩,
      ⟨(some 42), .load none (.t 41), none⟩,
      ⟨(some 43), .fa 0 (.t 2), none⟩,
      ⟨(some 44), .load none (.t 43), none⟩,
      ⟨(some 45), .conv .u64 (.t 44), none⟩,
      ⟨(some 46), .bin .shl (.t 42) (.t 45), none⟩,
      ⟨(some 47), .bin .or (.t 38) (.t 46), none⟩,
      ⟨(some 48), .fa 1 (.t 6), none⟩,
      ⟨(some 49), .iaA 64 1 (.t 48) (.t 34), none⟩,
      ⟨none, .store 1 (.t 49) (.t 47), none⟩] (some [2, 3, 4, 6, 7]) none))
    (.reg none [
      ⟨(some 32), .mov (.t 7), none⟩,
      ⟨(some 33), .bin .add (.t 32) (.c (.int .i64 1)), none⟩,
      ⟨(some 7), .mov (.t 33), none⟩] (some [2, 3, 4, 6, 7]) none)))
def spec_JoinParts_M : MC :=
  (.seq (.reg none [
      ⟨(some 2), .box (.t 0), none⟩,
      ⟨(some 3), .box (.t 1), none⟩,
      ⟨(some 4), .new (rl [(1, .int .i8 0), (64, .int .u8 0)]), none⟩,
      ⟨(some 5), .mov (.c (.int .i64 0)), none⟩] (some [2, 3, 4]) none)
    (.seq (.seq (.reg none [
      ⟨(some 8), .call 45 [(.t 2)], none⟩,
      ⟨(some 9), .un .not (.t 8), none⟩,
      ⟨(some 10), .mov (.t 9), none⟩,
      ⟨(some 11), .call 45 [(.t 3)], some (10, false)⟩,
      ⟨(some 12), .un .not (.t 11), some (10, false)⟩,
      ⟨(some 13), .pick (.t 10) (.c (.bool true)) (.t 12), none⟩] (some [2, 3, 4, 13]) none)
    (.cond (.t 13) (.seq (.reg none [
      ⟨(some 14), .bld (rl [(1, .int .i8 0), (64, .int .u8 0)]) [], none⟩,
      ⟨none, .store 65 (.t 4) (.t 14), none⟩,
      ⟨(some 5), .mov (.c (.int .i64 1)), none⟩] (some [4, 5]) none)
    .ret)
    .skip))
    (.seq (.seq (.reg none [
      ⟨(some 15), .fa 0 (.t 2), none⟩,
      ⟨(some 16), .load none (.t 15), none⟩,
      ⟨(some 17), .conv .i64 (.t 16), none⟩,
      ⟨(some 18), .fa 0 (.t 3), none⟩,
      ⟨(some 19), .load none (.t 18), none⟩,
      ⟨(some 20), .conv .i64 (.t 19), none⟩,
      ⟨(some 21), .bin .add (.t 17) (.t 20), none⟩,
      ⟨(some 22), .bin .gtr (.t 21) (.c (.int .i64 8)), none⟩] (some [2, 3, 4, 22]) none)
    (.cond (.t 22) (.seq (.reg none [
      ⟨(some 23), .bld (rl [(1, .int .i8 0), (64, .int .u8 0)]) [], none⟩,
      ⟨none, .store 65 (.t 4) (.t 23), none⟩,
      ⟨(some 5), .mov (.c (.int .i64 3)), none⟩] (some [4, 5]) none)
    .ret)
    .skip))
    (.seq (.reg none [
      ⟨(some 24), .fa 0 (.t 2), none⟩,
      ⟨(some 25), .load none (.t 24), none⟩,
      ⟨(some 26), .fa 0 (.t 3), none⟩,
      ⟨(some 27), .load none (.t 26), none⟩,
      ⟨(some 28), .bin .add (.t 25) (.t 27), none⟩,
      ⟨(some 29), .bld (rl [(1, .int .i8 0), (64, .int .u8 0)]) [(0, 1, (.t 28))], none⟩,
      ⟨(some 6), .new (rl [(1, .int .i8 0), (64, .int .u8 0)]), none⟩,
      ⟨none, .store 65 (.t 6) (.t 29), none⟩] (some [2, 3, 4, 6]) none)
    (.seq (.seq (.reg none [
      ⟨(some 7), .mov (.c (.int .i64 0)), none⟩] (some [2, 3, 4, 6, 7]) none)
    (.block 0 (.loop spec_JoinParts_L0)))
    (.seq (.reg none [
      ⟨(some 50), .load (some 65) (.t 6), none⟩,
      ⟨none, .store 65 (.t 4) (.t 50), none⟩,
      ⟨(some 5), .mov (.c (.int .i64 0)), none⟩] (some [4, 5]) none)
    .ret))))))
def spec_JoinParts_F : MF := ⟨51, [.c 4 (some 65), .t 5], spec_JoinParts_M⟩
-- loop.example/g01312/impl.JoinParts
def impl_JoinParts_M : MC :=
  (.seq (.reg none [
      ⟨(some 2), .box (.t 0), none⟩,
      ⟨(some 3), .box (.t 1), none⟩,
      ⟨(some 4), .new (rl [(1, .int .i8 0), (64, .int .u8 0)]), none⟩,
      ⟨(some 5), .mov (.c (.int .i64 0)), none⟩] (some [2, 3, 4]) none)
    (.seq (.seq (.reg (some [(0, 3), (1, 3), (2, 7), (3, 7), (2, 9), (3, 9), (0, 13), (1, 13), (2, 13), (3, 13), (7, 13), (9, 13), (0, 14), (1, 14), (2, 14), (7, 14), (9, 14)]) [
      ⟨(some 7), .load (some 65) (.t 2), none⟩,
      ⟨(some 8), .load (some 65) (.t 3), none⟩,
      ⟨(some 9), .bldS (rl [(1, .int .i8 0), (64, .int .u8 0)]) 2 [(0, 65, (.t 7)), (65, 65, (.t 8))], none⟩,
      ⟨(some 10), .call 57 [(.t 9)], none⟩,
      ⟨(some 11), .un .not (.t 10), none⟩,
      ⟨(some 12), .bld [.bool false, .int .i64 0] [(0, 1, (.t 11)), (1, 1, (.c (.int .i64 1)))], none⟩,
      ⟨(some 13), .fa 0 (.t 2), none⟩,
      ⟨(some 14), .load none (.t 13), none⟩,
      ⟨(some 15), .fa 0 (.t 3), none⟩,
      ⟨(some 16), .load none (.t 15), none⟩,
      ⟨(some 17), .bin .add (.t 14) (.t 16), none⟩,
      ⟨(some 18), .bin .gtr (.t 17) (.c (.int .i8 8)), none⟩,
      ⟨(some 19), .bld [.bool false, .int .i64 0] [(0, 1, (.t 18)), (1, 1, (.c (.int .i64 3)))], none⟩,
      ⟨(some 20), .bldS [.bool false, .int .i64 0] 2 [(0, 2, (.t 12)), (2, 2, (.t 19))], none⟩,
      ⟨(some 21), .call 49 [(.t 20)], none⟩,
      ⟨(some 6), .mov (.t 21), none⟩] (some [2, 3, 4, 6]) none)
    (.seq (.reg none [
      ⟨(some 22), .mov (.t 6), none⟩,
      ⟨(some 23), .bin .neq (.t 22) (.c (.int .i64 0)), none⟩] (some [2, 3, 4, 6, 23]) none)
    (.cond (.t 23) (.seq (.reg none [
      ⟨(some 24), .bld (rl [(1, .int .i8 0), (64, .int .u8 0)]) [], none⟩,
      ⟨(some 25), .mov (.t 6), none⟩,
      ⟨none, .store 65 (.t 4) (.t 24), none⟩,
      ⟨(some 5), .mov (.t 25), none⟩] (some [4, 5]) none)
    .ret)
    .skip)))
    (.seq (.reg none [
      ⟨(some 26), .load (some 65) (.t 2), none⟩,
      ⟨(some 27), .load (some 65) (.t 3), none⟩,
      ⟨(some 28), .call 58 [(.t 26), (.t 27)], none⟩,
      ⟨none, .store 65 (.t 4) (.t 28), none⟩,
      ⟨(some 5), .mov (.c (.int .i64 0)), none⟩] (some [4, 5]) none)
    .ret)))
def impl_JoinParts_F : MF := ⟨29, [.c 4 (some 65), .t 5], impl_JoinParts_M⟩
-- loop.example/g01312/laws.eqLayer
def laws_eqLayer_M : MC :=
  (.seq (.reg none [
      ⟨(some 2), .box (.t 0), none⟩,
      ⟨(some 3), .box (.t 1), none⟩,
      ⟨(some 4), .mov (.c (.bool false)), none⟩] (some [2, 3]) none)
    (.seq (.seq (.reg none [
      ⟨(some 5), .fa 0 (.t 2), none⟩,
      ⟨(some 6), .load none (.t 5), none⟩,
      ⟨(some 7), .fa 0 (.t 3), none⟩,
      ⟨(some 8), .load none (.t 7), none⟩,
      ⟨(some 9), .bin .neq (.t 6) (.t 8), none⟩] (some [2, 3, 9]) none)
    (.cond (.t 9) (.seq (.reg none [
      ⟨(some 4), .mov (.c (.bool false)), none⟩] (some [4]) none)
    .ret)
    .skip))
    (.seq (.seq (.reg none [
      ⟨(some 10), .fa 1 (.t 2), none⟩,
      ⟨(some 11), .load (some 64) (.t 10), none⟩,
      ⟨(some 12), .fa 1 (.t 3), none⟩,
      ⟨(some 13), .load (some 64) (.t 12), none⟩,
      ⟨(some 14), .call 59 [(.t 11), (.t 13)], none⟩,
      ⟨(some 15), .un .not (.t 14), none⟩] (some [15]) none)
    (.cond (.t 15) (.seq (.reg none [
      ⟨(some 4), .mov (.c (.bool false)), none⟩] (some [4]) none)
    .ret)
    .skip))
    (.seq (.reg none [
      ⟨(some 4), .mov (.c (.bool true)), none⟩] (some [4]) none)
    .ret))))
def laws_eqLayer_F : MF := ⟨16, [.t 4], laws_eqLayer_M⟩
-- loop.example/g01312/spec.MirrorLayer
def spec_MirrorLayer_M : MC :=
  (.seq (.reg none [
      ⟨(some 1), .box (.t 0), none⟩,
      ⟨(some 2), .new (rl [(1, .int .i8 0), (64, .int .u8 0)]), none⟩,
      ⟨(some 3), .mov (.c (.int .i64 0)), none⟩] (some [1, 2]) none)
    (.seq (.seq (.reg none [
      ⟨(some 4), .call 45 [(.t 1)], none⟩,
      ⟨(some 5), .un .not (.t 4), none⟩] (some [1, 2, 5]) none)
    (.cond (.t 5) (.seq (.reg none [
      ⟨(some 6), .bld (rl [(1, .int .i8 0), (64, .int .u8 0)]) [], none⟩,
      ⟨none, .store 65 (.t 2) (.t 6), none⟩,
      ⟨(some 3), .mov (.c (.int .i64 1)), none⟩] (some [2, 3]) none)
    .ret)
    .skip))
    (.seq (.reg none [
      ⟨(some 7), .call 60 [(.t 1), (.c (.int .i64 1)), (.c (.int .i64 0)), (.c (.int .i64 0))], none⟩,
      ⟨none, .store 65 (.t 2) (.t 7), none⟩,
      ⟨(some 3), .mov (.c (.int .i64 0)), none⟩] (some [2, 3]) none)
    .ret)))
def spec_MirrorLayer_F : MF := ⟨8, [.c 2 (some 65), .t 3], spec_MirrorLayer_M⟩
-- loop.example/g01312/impl.MirrorLayer
def impl_MirrorLayer_M : MC :=
  (.seq (.reg none [
      ⟨(some 1), .box (.t 0), none⟩,
      ⟨(some 2), .new (rl [(1, .int .i8 0), (64, .int .u8 0)]), none⟩,
      ⟨(some 3), .mov (.c (.int .i64 0)), none⟩] (some [1, 2]) none)
    (.seq (.reg none [
      ⟨(some 4), .load (some 65) (.t 1), none⟩,
      ⟨(some 5), .mkf 62 [] [(.t 1)], none⟩,
      ⟨(some 6), .call 61 [(.t 4), (.t 5)], none⟩,
      ⟨(some 7), .ext (.t 6) 0, none⟩,
      ⟨(some 8), .ext (.t 6) 1, none⟩,
      ⟨none, .store 65 (.t 2) (.t 7), none⟩,
      ⟨(some 3), .mov (.t 8), none⟩] (some [2, 3]) none)
    .ret))
def impl_MirrorLayer_F : MF := ⟨9, [.c 2 (some 65), .t 3], impl_MirrorLayer_M⟩
-- loop.example/g01312/spec.TurnLayer
def spec_TurnLayer_M : MC :=
  (.seq (.reg none [
      ⟨(some 1), .box (.t 0), none⟩,
      ⟨(some 2), .new (rl [(1, .int .i8 0), (64, .int .u8 0)]), none⟩,
      ⟨(some 3), .mov (.c (.int .i64 0)), none⟩] (some [1, 2]) none)
    (.seq (.seq (.reg none [
      ⟨(some 4), .call 45 [(.t 1)], none⟩,
      ⟨(some 5), .un .not (.t 4), none⟩] (some [1, 2, 5]) none)
    (.cond (.t 5) (.seq (.reg none [
      ⟨(some 6), .bld (rl [(1, .int .i8 0), (64, .int .u8 0)]) [], none⟩,
      ⟨none, .store 65 (.t 2) (.t 6), none⟩,
      ⟨(some 3), .mov (.c (.int .i64 1)), none⟩] (some [2, 3]) none)
    .ret)
    .skip))
    (.seq (.reg none [
      ⟨(some 7), .call 60 [(.t 1), (.c (.int .i64 0)), (.c (.int .i64 0)), (.c (.int .i64 0))], none⟩,
      ⟨none, .store 65 (.t 2) (.t 7), none⟩,
      ⟨(some 3), .mov (.c (.int .i64 0)), none⟩] (some [2, 3]) none)
    .ret)))
def spec_TurnLayer_F : MF := ⟨8, [.c 2 (some 65), .t 3], spec_TurnLayer_M⟩
-- loop.example/g01312/impl.TurnLayer
def impl_TurnLayer_M : MC :=
  (.seq (.reg none [
      ⟨(some 1), .box (.t 0), none⟩,
      ⟨(some 2), .new (rl [(1, .int .i8 0), (64, .int .u8 0)]), none⟩,
      ⟨(some 3), .mov (.c (.int .i64 0)), none⟩] (some [1, 2]) none)
    (.seq (.reg none [
      ⟨(some 4), .load (some 65) (.t 1), none⟩,
      ⟨(some 5), .mkf 64 [] [(.t 1)], none⟩,
      ⟨(some 6), .call 61 [(.t 4), (.t 5)], none⟩,
      ⟨(some 7), .ext (.t 6) 0, none⟩,
      ⟨(some 8), .ext (.t 6) 1, none⟩,
      ⟨none, .store 65 (.t 2) (.t 7), none⟩,
      ⟨(some 3), .mov (.t 8), none⟩] (some [2, 3]) none)
    .ret))
def impl_TurnLayer_F : MF := ⟨9, [.c 2 (some 65), .t 3], impl_TurnLayer_M⟩
-- loop.example/g01312/spec.DropShare
def spec_DropShare_L0 : MC :=
  (.seq (.seq (.reg none [
      ⟨(some 30), .mov (.t 8), none⟩,
      ⟨(some 31), .fa 0 (.t 2), none⟩,
      ⟨(some 32), .load none (.t 31), none⟩,
      ⟨(some 33), .conv .i64 (.t 32), none⟩,
      ⟨(some 34), .bin .lss (.t 30) (.t 33), none⟩] (some [1, 2, 4, 6, 7, 8, 34]) none)
    (.cond (.t 34) .skip
    (.exit 0)))
    (.seq (.block 1 (.seq (.reg none [
      ⟨(some 37), .mov (.t 8), none⟩,
      ⟨(some 38), .mov (.t 1), none⟩,
      ⟨(some 39), .bin .neq (.t 37) (.t 38), none⟩] (some [1, 2, 4, 6, 7, 8, 39]) none)
    (.cond (.t 39) (.seq (.reg none [
      ⟨(some 40), .mov (.t 7), none⟩,
      ⟨(some 41), .mov (.t 8), none⟩,
      ⟨(some 42), .fa 2 (.t 2), none⟩,
      ⟨(some 43), .iaA 6 1 (.t 42) (.t 41), none⟩,
      ⟨(some 44), .load none (.t 43), none⟩,
      ⟨(some 45), .fa 2 (.t 6), none⟩,
      ⟨(some 46), .iaA 6 1 (.t 45) (.t 40), none⟩,
      ⟨none, .store 1 (.t 46) (.t 44), none⟩] (some [1, 2, 4, 6, 7, 8]) none)
    (.seq (.reg none [
      ⟨(some 47), .mov (.t 7), none⟩,
      ⟨(some 48), .mov (.t 8), none⟩,
      ⟨(some 49), .fa 8 (.t 2), none⟩,
      ⟨(some 50), .iaA 6 1 (.t 49) (.t 48), none⟩,
      ⟨(some 51), .load none (.t 50), none⟩,
      ⟨(some 52), .fa 8 (.t 6), none⟩,
      ⟨(some 53), .iaA 6 1 (.t 52) (.t 47), none⟩,
      ⟨none, .store 1 (.t 53) (.t 51), none⟩] (some [1, 2, 4, 6, 7, 8]) none)
    (.reg none [
      ⟨(some 54), .mov (.t 7), none⟩,
      ⟨(some 55), .bin .add (.t 54) (.c (.int .i64 1)), none⟩,
      ⟨(some 7), .mov (.t 55), none⟩] (some [1, 2, 4, 6, 7, 8]) none)))
    .skip)))
    (.reg none [
      ⟨(some 35), .mov (.t 8), none⟩,
      ⟨(some 36), .bin .add (.t 35) (.c (.int .i64 1)), none⟩,
      ⟨(some 8), .mov (.t 36), none⟩] (some [1, 2, 4, 6, 7, 8]) none)))
def spec_DropShare_M : MC :=
  (.seq (.reg none [
      ⟨(some 2), .box (.t 0), none⟩,
      ⟨(some 4), .new (rl [(2, .int .i8 0), (12, .int .u8 0)]), none⟩,
      ⟨(some 5), .mov (.c (.int .i64 0)), none⟩] (some [1, 2, 4]) none)
    (.seq (.seq (.reg none [
      ⟨(some 9), .call 53 [(.t 2)], none⟩,
      ⟨(some 10), .un .not (.t 9), none⟩] (some [1, 2, 4, 10]) none)
    (.cond (.t 10) (.seq (.reg none [
      ⟨(some 11), .bld (rl [(2, .int .i8 0), (12, .int .u8 0)]) [], none⟩,
      ⟨none, .store 14 (.t 4) (.t 11), none⟩,
      ⟨(some 5), .mov (.c (.int .i64 1)), none⟩] (some [4, 5]) none)
    .ret)
    .skip))
    (.seq (.seq (.reg none [
      ⟨(some 12), .mov (.t 1), none⟩,
      ⟨(some 13), .fa 0 (.t 2), none⟩,
      ⟨(some 14), .load none (.t 13), none⟩,
      ⟨(some 15), .conv .i64 (.t 14), none⟩,
      ⟨(some 16), .bin .sub (.t 15) (.c (.int .i64 1)), none⟩,
      ⟨(some 17), .call 46 [(.t 12), (.c (.int .i64 0)), (.t 16)], none⟩,
      ⟨(some 18), .un .not (.t 17), none⟩] (some [1, 2, 4, 18]) none)
    (.cond (.t 18) (.seq (.reg none [
      ⟨(some 19), .bld (rl [(2, .int .i8 0), (12, .int .u8 0)]) [], none⟩,
      ⟨none, .store 14 (.t 4) (.t 19), none⟩,
      ⟨(some 5), .mov (.c (.int .i64 2)), none⟩] (some [4, 5]) none)
    .ret)
    .skip))
    (.seq (.seq (.reg none [
      ⟨(some 20), .fa 0 (.t 2), none⟩,
      ⟨(some 21), .load none (.t 20), none⟩,
      ⟨(some 22), .bin .eql (.t 21) (.c (.int .i8 1)), none⟩] (some [1, 2, 4, 22]) none)
    (.cond (.t 22) (.seq (.reg none [
      ⟨(some 23), .bld (rl [(2, .int .i8 0), (12, .int .u8 0)]) [], none⟩,
      ⟨none, .store 14 (.t 4) (.t 23), none⟩,
      ⟨(some 5), .mov (.c (.int .i64 4)), none⟩] (some [4, 5]) none)
    .ret)
    .skip))
    (.seq (.reg none [
      ⟨(some 24), .fa 0 (.t 2), none⟩,
      ⟨(some 25), .load none (.t 24), none⟩,
      ⟨(some 26), .bin .sub (.t 25) (.c (.int .i8 1)), none⟩,
      ⟨(some 27), .fa 1 (.t 2), none⟩,
      ⟨(some 28), .load none (.t 27), none⟩,
      ⟨(some 29), .bld (rl [(2, .int .i8 0), (12, .int .u8 0)]) [(0, 1, (.t 26)), (1, 1, (.t 28))], none⟩,
      ⟨(some 6), .new (rl [(2, .int .i8 0), (12, .int .u8 0)]), none⟩,
      ⟨none, .store 14 (.t 6) (.t 29), none⟩] (some [1, 2, 4, 6]) none)
    (.seq (.reg none [
      ⟨(some 7), .mov (.c (.int .i64 0)), none⟩] (some [1, 2, 4, 6, 7]) none)
    (.seq (.seq (.reg none [
      ⟨(some 8), .mov (.c (.int .i64 0)), none⟩] (some [1, 2, 4, 6, 7, 8]) none)
    (.block 0 (.loop spec_DropShare_L0)))
    (.seq (.reg none [
      ⟨(some 56), .load (some 14) (.t 6), none⟩,
      ⟨none, .store 14 (.t 4) (.t 56), none⟩,
      ⟨(some 5), .mov (.c (.int .i64 0)), none⟩] (some [4, 5]) none)
    .ret))))))))
def spec_DropShare_F : MF := ⟨57, [.c 4 (some 14), .t 5], spec_DropShare_M⟩
-- loop.example/g01312/impl.DropShare
def impl_DropShare_L0 : MC :=
  (.seq (.reg none [
      ⟨(some 42), .bin .lss (.t 41) (.t 40), none⟩] (some [1, 2, 4, 7, 40, 41, 42]) none)
    (.seq (.cond (.t 42) .skip
    (.exit 0))
    (.seq (.block 1 (.seq (.reg none [
      ⟨(some 43), .mov (.t 41), none⟩,
      ⟨(some 8), .mov (.t 43), none⟩] (some [1, 2, 4, 7, 8, 40, 41]) none)
    (.seq (.reg none [
      ⟨(some 44), .mov (.t 8), none⟩,
      ⟨(some 9), .mov (.t 44), none⟩] (some [1, 2, 4, 7, 8, 9, 40, 41]) none)
    (.seq (.seq (.reg none [
      ⟨(some 45), .mov (.t 8), none⟩,
      ⟨(some 46), .mov (.t 1), none⟩,
      ⟨(some 47), .bin .geq (.t 45) (.t 46), none⟩] (some [1, 2, 4, 7, 8, 9, 40, 41, 47]) none)
    (.cond (.t 47) (.reg none [
      ⟨(some 48), .mov (.t 9), none⟩,
      ⟨(some 49), .bin .add (.t 48) (.c (.int .i64 1)), none⟩,
      ⟨(some 9), .mov (.t 49), none⟩] (some [1, 2, 4, 7, 8, 9, 40, 41]) none)
    .skip))
    (.reg (some [(9, 12)]) [
      ⟨(some 50), .mov (.t 8), none⟩,
      ⟨(some 51), .mov (.t 8), none⟩,
      ⟨(some 52), .mov (.t 9), none⟩,
      ⟨(some 53), .fa 2 (.t 2), none⟩,
      ⟨(some 54), .iaA 6 1 (.t 53) (.t 52), none⟩,
      ⟨(some 55), .load none (.t 54), none⟩,
      ⟨(some 56), .mov (.t 9), none⟩,
      ⟨(some 57), .fa 8 (.t 2), none⟩,
      ⟨(some 58), .iaA 6 1 (.t 57) (.t 56), none⟩,
      ⟨(some 59), .load none (.t 58), none⟩,
      ⟨(some 60), .fa 2 (.t 7), none⟩,
      ⟨(some 61), .iaA 6 1 (.t 60) (.t 50), none⟩,
      ⟨none, .store 1 (.t 61) (.t 55), none⟩,
      ⟨(some 62), .fa 8 (.t 7), none⟩,
      ⟨(some 63), .iaA 6 1 (.t 62) (.t 51), none⟩,
      ⟨none, .store 1 (.t 63) (.t 59), none⟩] (some [1, 2, 4, 7, 40, 41]) none)))))
    (.reg none [
      ⟨(some 64), .bin .add (.t 41) (.c (.int .i64 1)), none⟩,
      ⟨(some 41), .mov (.t 64), none⟩] (some [1, 2, 4, 7, 40, 41]) none))))
def impl_DropShare_M : MC :=
  (.seq (.reg none [
      ⟨(some 2), .box (.t 0), none⟩,
      ⟨(some 4), .new (rl [(2, .int .i8 0), (12, .int .u8 0)]), none⟩,
      ⟨(some 5), .mov (.c (.int .i64 0)), none⟩] (some [1, 2, 4]) none)
    (.seq (.seq (.reg (some [(1, 6), (0, 9), (6, 9), (1, 13), (9, 13), (0, 16), (1, 16), (6, 16), (9, 16), (13, 16), (0, 17), (1, 17), (6, 17), (13, 17)]) [
      ⟨(some 10), .load (some 14) (.t 2), none⟩,
      ⟨(some 11), .call 55 [(.t 10)], none⟩,
      ⟨(some 12), .un .not (.t 11), none⟩,
      ⟨(some 13), .bld [.bool false, .int .i64 0] [(0, 1, (.t 12)), (1, 1, (.c (.int .i64 1)))], none⟩,
      ⟨(some 14), .mov (.t 1), none⟩,
      ⟨(some 15), .fa 0 (.t 2), none⟩,
      ⟨(some 16), .load none (.t 15), none⟩,
      ⟨(some 17), .conv .i64 (.t 16), none⟩,
      ⟨(some 18), .bin .sub (.t 17) (.c (.int .i64 1)), none⟩,
      ⟨(some 19), .call 51 [(.t 14), (.c (.int .i64 0)), (.t 18)], none⟩,
      ⟨(some 20), .un .not (.t 19), none⟩,
      ⟨(some 21), .bld [.bool false, .int .i64 0] [(0, 1, (.t 20)), (1, 1, (.c (.int .i64 2)))], none⟩,
      ⟨(some 22), .fa 0 (.t 2), none⟩,
      ⟨(some 23), .load none (.t 22), none⟩,
      ⟨(some 24), .bin .eql (.t 23) (.c (.int .i8 1)), none⟩,
      ⟨(some 25), .bld [.bool false, .int .i64 0] [(0, 1, (.t 24)), (1, 1, (.c (.int .i64 4)))], none⟩,
      ⟨(some 26), .bldS [.bool false, .int .i64 0] 3 [(0, 2, (.t 13)), (2, 2, (.t 21)), (4, 2, (.t 25))], none⟩,
      ⟨(some 27), .call 49 [(.t 26)], none⟩,
      ⟨(some 6), .mov (.t 27), none⟩] (some [1, 2, 4, 6]) none)
    (.seq (.reg none [
      ⟨(some 28), .mov (.t 6), none⟩,
      ⟨(some 29), .bin .neq (.t 28) (.c (.int .i64 0)), none⟩] (some [1, 2, 4, 6, 29]) none)
    (.cond (.t 29) (.seq (.reg none [
      ⟨(some 30), .bld (rl [(2, .int .i8 0), (12, .int .u8 0)]) [], none⟩,
      ⟨(some 31), .mov (.t 6), none⟩,
      ⟨none, .store 14 (.t 4) (.t 30), none⟩,
      ⟨(some 5), .mov (.t 31), none⟩] (some [4, 5]) none)
    .ret)
    .skip)))
    (.seq (.reg none [
      ⟨(some 32), .fa 0 (.t 2), none⟩,
      ⟨(some 33), .load none (.t 32), none⟩,
      ⟨(some 34), .bin .sub (.t 33) (.c (.int .i8 1)), none⟩,
      ⟨(some 35), .fa 1 (.t 2), none⟩,
      ⟨(some 36), .load none (.t 35), none⟩,
      ⟨(some 37), .bld (rl [(2, .int .i8 0), (12, .int .u8 0)]) [(0, 1, (.t 34)), (1, 1, (.t 36))], none⟩,
      ⟨(some 7), .new (rl [(2, .int .i8 0), (12, .int .u8 0)]), none⟩,
      ⟨none, .store 14 (.t 7) (.t 37), none⟩] (some [1, 2, 4, 7]) none)
    (.seq (.seq (.reg none [
      ⟨(some 38), .fa 0 (.t 7), none⟩,
      ⟨(some 39), .load none (.t 38), none⟩,
      ⟨(some 40), .conv .i64 (.t 39), none⟩,
      ⟨(some 41), .mov (.c (.int .i64 0)), none⟩] (some [1, 2, 4, 7, 40, 41]) none)
    (.block 0 (.loop impl_DropShare_L0)))
    (.seq (.reg none [
      ⟨(some 65), .load (some 14) (.t 7), none⟩,
      ⟨none, .store 14 (.t 4) (.t 65), none⟩,
      ⟨(some 5), .mov (.c (.int .i64 0)), none⟩] (some [4, 5]) none)
    .ret)))))
def impl_DropShare_F : MF := ⟨66, [.c 4 (some 14), .t 5], impl_DropShare_M⟩
-- loop.example/g01312/spec.SeesWith
def spec_SeesWith_M : MC :=
  (.seq (.reg none [
      ⟨(some 2), .box (.t 0), none⟩,
      ⟨(some 4), .mov (.c (.bool false)), none⟩,
      ⟨(some 5), .mov (.c (.int .i64 0)), none⟩,
      ⟨(some 6), .mov (.c (.int .i64 0)), none⟩] (some [1, 2]) none)
    (.seq (.seq (.reg none [
      ⟨(some 9), .load (some 14) (.t 2), none⟩,
      ⟨(some 10), .call 66 [(.t 9)], none⟩,
      ⟨(some 11), .un .not (.t 10), none⟩] (some [1, 2, 11]) none)
    (.cond (.t 11) (.seq (.reg none [
      ⟨(some 4), .mov (.c (.bool false)), none⟩,
      ⟨(some 5), .mov (.c (.int .i64 0)), none⟩,
      ⟨(some 6), .mov (.c (.int .i64 1)), none⟩] (some [4, 5, 6]) none)
    .ret)
    .skip))
    (.seq (.seq (.reg none [
      ⟨(some 12), .mov (.t 1), none⟩,
      ⟨(some 13), .call 67 [(.t 2), (.t 12)], none⟩,
      ⟨(some 14), .un .not (.t 13), none⟩] (some [1, 2, 14]) none)
    (.cond (.t 14) (.seq (.reg none [
      ⟨(some 4), .mov (.c (.bool false)), none⟩,
      ⟨(some 5), .mov (.c (.int .i64 0)), none⟩,
      ⟨(some 6), .mov (.c (.int .i64 2)), none⟩] (some [4, 5, 6]) none)
    .ret)
    .skip))
    (.seq (.reg none [
      ⟨(some 16), .mov (.t 1), none⟩,
      ⟨(some 17), .call 68 [(.t 2), (.t 16)], none⟩,
      ⟨(some 15), .mov (.t 17), none⟩,
      ⟨(some 18), .ext (.t 15) 0, none⟩,
      ⟨(some 19), .ext (.t 15) 1, none⟩,
      ⟨(some 7), .mov (.t 18), none⟩,
      ⟨(some 8), .mov (.t 19), none⟩] (some [7, 8]) none)
    (.seq (.seq (.reg none [
      ⟨(some 20), .mov (.t 8), none⟩,
      ⟨(some 21), .mov (.t 7), none⟩,
      ⟨(some 22), .bin .leq (.t 20) (.t 21), none⟩] (some [8, 22]) none)
    (.cond (.t 22) (.seq (.reg none [
      ⟨(some 4), .mov (.c (.bool false)), none⟩,
      ⟨(some 5), .mov (.c (.int .i64 0)), none⟩,
      ⟨(some 6), .mov (.c (.int .i64 0)), none⟩] (some [4, 5, 6]) none)
    .ret)
    .skip))
    (.seq (.reg none [
      ⟨(some 23), .mov (.t 8), none⟩,
      ⟨(some 4), .mov (.c (.bool true)), none⟩,
      ⟨(some 5), .mov (.t 23), none⟩,
      ⟨(some 6), .mov (.c (.int .i64 0)), none⟩] (some [4, 5, 6]) none)
    .ret))))))
def spec_SeesWith_F : MF := ⟨24, [.t 4, .t 5, .t 6], spec_SeesWith_M⟩
-- loop.example/g01312/impl.SeesWith
def impl_SeesWith_M : MC :=
  (.seq (.reg none [
      ⟨(some 2), .box (.t 0), none⟩,
      ⟨(some 4), .mov (.c (.bool false)), none⟩,
      ⟨(some 5), .mov (.c (.int .i64 0)), none⟩,
      ⟨(some 6), .mov (.c (.int .i64 0)), none⟩] (some [1, 2]) none)
    (.seq (.seq (.reg none [
      ⟨(some 8), .load (some 14) (.t 2), none⟩,
      ⟨(some 9), .call 55 [(.t 8)], none⟩,
      ⟨(some 10), .un .not (.t 9), none⟩,
      ⟨(some 11), .bld [.bool false, .int .i64 0] [(0, 1, (.t 10)), (1, 1, (.c (.int .i64 1)))], none⟩,
      ⟨(some 12), .mov (.t 1), none⟩,
      ⟨(some 13), .bin .eql (.t 12) (.c (.int .u8 0)), none⟩,
      ⟨(some 14), .mov (.t 13), none⟩,
      ⟨(some 15), .load (some 14) (.t 2), some (14, false)⟩,
      ⟨(some 16), .mov (.t 1), some (14, false)⟩,
      ⟨(some 17), .call 69 [(.t 15), (.t 16)], some (14, false)⟩,
      ⟨(some 18), .un .not (.t 17), some (14, false)⟩,
      ⟨(some 19), .pick (.t 14) (.c (.bool true)) (.t 18), none⟩,
      ⟨(some 20), .bld [.bool false, .int .i64 0] [(0, 1, (.t 19)), (1, 1, (.c (.int .i64 2)))], none⟩,
      ⟨(some 21), .bldS [.bool false, .int .i64 0] 2 [(0, 2, (.t 11)), (2, 2, (.t 20))], none⟩,
      ⟨(some 22), .call 49 [(.t 21)], none⟩,
      ⟨(some 7), .mov (.t 22), none⟩] (some [1, 2, 7]) none)
    (.seq (.reg none [
      ⟨(some 23), .mov (.t 7), none⟩,
      ⟨(some 24), .bin .neq (.t 23) (.c (.int .i64 0)), none⟩] (some [1, 2, 7, 24]) none)
    (.cond (.t 24) (.seq (.reg none [
      ⟨(some 25), .mov (.t 7), none⟩,
      ⟨(some 4), .mov (.c (.bool false)), none⟩,
      ⟨(some 5), .mov (.c (.int .i64 0)), none⟩,
      ⟨(some 6), .mov (.t 25), none⟩] (some [4, 5, 6]) none)
    .ret)
    .skip)))
    (.seq (.seq (.reg none [
      ⟨(some 26), .load (some 14) (.t 2), none⟩,
      ⟨(some 27), .mov (.t 1), none⟩,
      ⟨(some 28), .call 70 [(.t 26), (.t 27)], none⟩,
      ⟨(some 29), .un .not (.t 28), none⟩] (some [1, 2, 29]) none)
    (.cond (.t 29) (.seq (.reg none [
      ⟨(some 4), .mov (.c (.bool false)), none⟩,
      ⟨(some 5), .mov (.c (.int .i64 0)), none⟩,
      ⟨(some 6), .mov (.c (.int .i64 0)), none⟩] (some [4, 5, 6]) none)
    .ret)
    .skip))
    (.seq (.reg none [
      ⟨(some 30), .load (some 14) (.t 2), none⟩,
      ⟨(some 31), .mov (.t 1), none⟩,
      ⟨(some 32), .call 71 [(.t 30), (.t 31), (.c (.bool true))], none⟩,
      ⟨(some 4), .mov (.c (.bool true)), none⟩,
      ⟨(some 5), .mov (.t 32), none⟩,
      ⟨(some 6), .mov (.c (.int .i64 0)), none⟩] (some [4, 5, 6]) none)
    .ret))))
def impl_SeesWith_F : MF := ⟨33, [.t 4, .t 5, .t 6], impl_SeesWith_M⟩
-- loop.example/g01312/spec.WeightOf
def spec_WeightOf_M : MC :=
  (.seq (.reg none [
      ⟨(some 3), .box (.t 0), none⟩,
      ⟨(some 6), .mov (.c (.int .i64 0)), none⟩,
      ⟨(some 7), .mov (.c (.int .i64 0)), none⟩] (some [1, 2, 3]) none)
    (.seq (.seq (.reg none [
      ⟨(some 9), .mov (.t 1), none⟩,
      ⟨(some 10), .call 72 [(.t 3), (.t 9)], none⟩,
      ⟨(some 8), .mov (.t 10), none⟩] (some [1, 2, 3, 8]) none)
    (.seq (.reg none [
      ⟨(some 11), .mov (.t 8), none⟩,
      ⟨(some 12), .bin .neq (.t 11) (.c (.int .i64 0)), none⟩] (some [1, 2, 3, 8, 12]) none)
    (.cond (.t 12) (.seq (.reg none [
      ⟨(some 13), .mov (.t 8), none⟩,
      ⟨(some 6), .mov (.c (.int .i64 0)), none⟩,
      ⟨(some 7), .mov (.t 13), none⟩] (some [6, 7]) none)
    .ret)
    .skip)))
    (.seq (.reg none [
      ⟨(some 14), .mov (.t 1), none⟩,
      ⟨(some 15), .mov (.t 2), none⟩,
      ⟨(some 16), .call 73 [(.t 3), (.t 14), (.t 15)], none⟩,
      ⟨(some 6), .mov (.t 16), none⟩,
      ⟨(some 7), .mov (.c (.int .i64 0)), none⟩] (some [6, 7]) none)
    .ret)))
def spec_WeightOf_F : MF := ⟨17, [.t 6, .t 7], spec_WeightOf_M⟩
-- loop.example/g01312/impl.WeightOf
def impl_WeightOf_M : MC :=
  (.seq (.reg none [
      ⟨(some 3), .box (.t 0), none⟩,
      ⟨(some 6), .mov (.c (.int .i64 0)), none⟩,
      ⟨(some 7), .mov (.c (.int .i64 0)), none⟩] (some [1, 2, 3]) none)
    (.seq (.seq (.reg none [
      ⟨(some 9), .load (some 14) (.t 3), none⟩,
      ⟨(some 10), .mov (.t 1), none⟩,
      ⟨(some 11), .call 74 [(.t 9), (.t 10)], none⟩,
      ⟨(some 8), .mov (.t 11), none⟩] (some [1, 2, 3, 8]) none)
    (.seq (.reg none [
      ⟨(some 12), .mov (.t 8), none⟩,
      ⟨(some 13), .bin .neq (.t 12) (.c (.int .i64 0)), none⟩] (some [1, 2, 3, 8, 13]) none)
    (.cond (.t 13) (.seq (.reg none [
      ⟨(some 14), .mov (.t 8), none⟩,
      ⟨(some 6), .mov (.c (.int .i64 0)), none⟩,
      ⟨(some 7), .mov (.t 14), none⟩] (some [6, 7]) none)
    .ret)
    .skip)))
    (.seq (.reg none [
      ⟨(some 15), .load (some 14) (.t 3), none⟩,
      ⟨(some 16), .mov (.t 1), none⟩,
      ⟨(some 17), .mov (.t 2), none⟩,
      ⟨(some 18), .call 71 [(.t 15), (.t 16), (.t 17)], none⟩,
      ⟨(some 6), .mov (.t 18), none⟩,
      ⟨(some 7), .mov (.c (.int .i64 0)), none⟩] (some [6, 7]) none)
    .ret)))
def impl_WeightOf_F : MF := ⟨19, [.t 6, .t 7], impl_WeightOf_M⟩
-- loop.example/g01312/spec.GapOf
def spec_GapOf_M : MC :=
  (.seq (.reg none [
      ⟨(some 2), .box (.t 0), none⟩,
      ⟨(some 4), .mov (.c (.int .i64 0)), none⟩,
      ⟨(some 5), .mov (.c (.int .i64 0)), none⟩] (some [1, 2]) none)
    (.seq (.seq (.reg none [
      ⟨(some 7), .mov (.t 1), none⟩,
      ⟨(some 8), .call 72 [(.t 2), (.t 7)], none⟩,
      ⟨(some 6), .mov (.t 8), none⟩] (some [1, 2, 6]) none)
    (.seq (.reg none [
      ⟨(some 9), .mov (.t 6), none⟩,
      ⟨(some 10), .bin .neq (.t 9) (.c (.int .i64 0)), none⟩] (some [1, 2, 6, 10]) none)
    (.cond (.t 10) (.seq (.reg none [
      ⟨(some 11), .mov (.t 6), none⟩,
      ⟨(some 4), .mov (.c (.int .i64 0)), none⟩,
      ⟨(some 5), .mov (.t 11), none⟩] (some [4, 5]) none)
    .ret)
    .skip)))
    (.seq (.reg none [
      ⟨(some 12), .mov (.t 1), none⟩,
      ⟨(some 13), .call 75 [(.t 2), (.t 12)], none⟩,
      ⟨(some 4), .mov (.t 13), none⟩,
      ⟨(some 5), .mov (.c (.int .i64 0)), none⟩] (some [4, 5]) none)
    .ret)))
def spec_GapOf_F : MF := ⟨14, [.t 4, .t 5], spec_GapOf_M⟩
-- loop.example/g01312/impl.GapOf
def impl_GapOf_M : MC :=
  (.seq (.reg none [
      ⟨(some 2), .box (.t 0), none⟩,
      ⟨(some 4), .mov (.c (.int .i64 0)), none⟩,
      ⟨(some 5), .mov (.c (.int .i64 0)), none⟩] (some [1, 2]) none)
    (.seq (.seq (.reg none [
      ⟨(some 7), .load (some 14) (.t 2), none⟩,
      ⟨(some 8), .mov (.t 1), none⟩,
      ⟨(some 9), .call 74 [(.t 7), (.t 8)], none⟩,
      ⟨(some 6), .mov (.t 9), none⟩] (some [1, 2, 6]) none)
    (.seq (.reg none [
      ⟨(some 10), .mov (.t 6), none⟩,
      ⟨(some 11), .bin .neq (.t 10) (.c (.int .i64 0)), none⟩] (some [1, 2, 6, 11]) none)
    (.cond (.t 11) (.seq (.reg none [
      ⟨(some 12), .mov (.t 6), none⟩,
      ⟨(some 4), .mov (.c (.int .i64 0)), none⟩,
      ⟨(some 5), .mov (.t 12), none⟩] (some [4, 5]) none)
    .ret)
    .skip)))
    (.seq (.reg none [
      ⟨(some 13), .load (some 14) (.t 2), none⟩,
      ⟨(some 14), .mov (.t 1), none⟩,
      ⟨(some 15), .call 76 [(.t 13), (.t 14)], none⟩,
      ⟨(some 4), .mov (.t 15), none⟩,
      ⟨(some 5), .mov (.c (.int .i64 0)), none⟩] (some [4, 5]) none)
    .ret)))
def impl_GapOf_F : MF := ⟨16, [.t 4, .t 5], impl_GapOf_M⟩
-- loop.example/g01312/spec.AllOf
def spec_AllOf_L0 : MC :=
  (.seq (.seq (.reg none [
      ⟨(some 13), .mov (.t 6), none⟩,
      ⟨(some 14), .mov (.t 0), none⟩,
      ⟨(some 15), .conv .u64 (.t 14), none⟩,
      ⟨(some 16), .bin .shl (.c (.int .i64 1)) (.t 15), none⟩,
      ⟨(some 17), .bin .lss (.t 13) (.t 16), none⟩] (some [0, 2, 4, 5, 6, 17]) none)
    (.cond (.t 17) .skip
    (.exit 0)))
    (.seq (.block 1 (.seq (.reg none [
      ⟨(some 20), .mov (.t 6), none⟩,
      ⟨(some 21), .conv .u64 (.t 20), none⟩,
      ⟨(some 22), .call 77 [(.t 21)], none⟩,
      ⟨(some 23), .bin .rem (.t 22) (.c (.int .i64 2)), none⟩,
      ⟨(some 24), .bin .eql (.t 23) (.c (.int .i64 0)), none⟩] (some [0, 2, 4, 5, 6, 24]) none)
    (.cond (.t 24) (.reg none [
      ⟨(some 25), .mov (.t 4), none⟩,
      ⟨(some 26), .mov (.t 6), none⟩,
      ⟨(some 27), .conv .u8 (.t 26), none⟩,
      ⟨(some 28), .bldS [.int .u8 0] 1 [(0, 1, (.t 27))], none⟩,
      ⟨(some 29), .app [.int .u8 0] 1 false (.t 25) (.t 28), none⟩,
      ⟨(some 4), .mov (.t 29), none⟩] (some [0, 2, 4, 5, 6]) none)
    (.reg none [
      ⟨(some 30), .mov (.t 5), none⟩,
      ⟨(some 31), .mov (.t 6), none⟩,
      ⟨(some 32), .conv .u8 (.t 31), none⟩,
      ⟨(some 33), .bldS [.int .u8 0] 1 [(0, 1, (.t 32))], none⟩,
      ⟨(some 34), .app [.int .u8 0] 1 false (.t 30) (.t 33), none⟩,
      ⟨(some 5), .mov (.t 34), none⟩] (some [0, 2, 4, 5, 6]) none))))
    (.reg none [
      ⟨(some 18), .mov (.t 6), none⟩,
      ⟨(some 19), .bin .add (.t 18) (.c (.int .i64 1)), none⟩,
      ⟨(some 6), .mov (.t 19), none⟩] (some [0, 2, 4, 5, 6]) (some 3))))
def spec_AllOf_M : MC :=
  (.seq (.reg none [
      ⟨(some 2), .new (rl [(2, .int .i8 0), (12, .int .u8 0)]), none⟩,
      ⟨(some 3), .mov (.c (.int .i64 0)), none⟩] (some [0, 2]) none)
    (.seq (.seq (.reg none [
      ⟨(some 7), .mov (.t 0), none⟩,
      ⟨(some 8), .call 46 [(.t 7), (.c (.int .i64 2)), (.c (.int .i64 4))], none⟩,
      ⟨(some 9), .un .not (.t 8), none⟩] (some [0, 2, 9]) none)
    (.cond (.t 9) (.seq (.reg none [
      ⟨(some 10), .bld (rl [(2, .int .i8 0), (12, .int .u8 0)]) [], none⟩,
      ⟨none, .store 14 (.t 2) (.t 10), none⟩,
      ⟨(some 3), .mov (.c (.int .i64 2)), none⟩] (some [2, 3]) none)
    .ret)
    .skip))
    (.seq (.reg none [
      ⟨(some 11), .bldS [.int .u8 0] 0 [], none⟩,
      ⟨(some 4), .mov (.t 11), none⟩] (some [0, 2, 4]) none)
    (.seq (.reg none [
      ⟨(some 12), .bldS [.int .u8 0] 0 [], none⟩,
      ⟨(some 5), .mov (.t 12), none⟩] (some [0, 2, 4, 5]) none)
    (.seq (.seq (.reg none [
      ⟨(some 6), .mov (.c (.int .i64 0)), none⟩] (some [0, 2, 4, 5, 6]) none)
    (.block 0 (.loop spec_AllOf_L0)))
    (.seq (.reg none [
      ⟨(some 35), .mov (.t 0), none⟩,
      ⟨(some 36), .conv .i8 (.t 35), none⟩,
      ⟨(some 37), .mov (.t 4), none⟩,
      ⟨(some 38), .mov (.t 5), none⟩,
      ⟨(some 39), .call 78 [(.t 36), (.t 37), (.t 38)], none⟩,
      ⟨none, .store 14 (.t 2) (.t 39), none⟩,
      ⟨(some 3), .mov (.c (.int .i64 0)), none⟩] (some [2, 3]) none)
    .ret))))))
def spec_AllOf_F : MF := ⟨40, [.c 2 (some 14), .t 3], spec_AllOf_M⟩
-- loop.example/g01312/impl.AllOf
def impl_AllOf_L0 : MC :=
  (.seq (.reg none [
      ⟨(some 22), .bin .lss (.t 21) (.t 20), none⟩] (some [2, 4, 5, 20, 21, 22]) none)
    (.seq (.cond (.t 22) .skip
    (.exit 0))
    (.seq (.block 1 (.seq (.reg none [
      ⟨(some 23), .mov (.t 21), none⟩,
      ⟨(some 6), .mov (.t 23), none⟩] (some [2, 4, 5, 6, 20, 21]) none)
    (.seq (.reg none [
      ⟨(some 24), .mov (.t 6), none⟩,
      ⟨(some 25), .conv .u64 (.t 24), none⟩,
      ⟨(some 26), .call 79 [(.t 25)], none⟩,
      ⟨(some 27), .bin .rem (.t 26) (.c (.int .i64 2)), none⟩,
      ⟨(some 7), .mov (.t 27), none⟩] (some [2, 4, 5, 6, 7, 20, 21]) none)
    (.reg none [
      ⟨(some 28), .mov (.t 7), none⟩,
      ⟨(some 29), .mov (.t 7), none⟩,
      ⟨(some 30), .iaA 2 1 (.t 5) (.t 29), none⟩,
      ⟨(some 31), .load none (.t 30), none⟩,
      ⟨(some 32), .mov (.t 6), none⟩,
      ⟨(some 33), .conv .u8 (.t 32), none⟩,
      ⟨(some 34), .bldS [.int .u8 0] 1 [(0, 1, (.t 33))], none⟩,
      ⟨(some 35), .app [.int .u8 0] 1 false (.t 31) (.t 34), none⟩,
      ⟨(some 36), .iaA 2 1 (.t 5) (.t 28), none⟩,
      ⟨none, .store 1 (.t 36) (.t 35), none⟩] (some [2, 4, 5, 20, 21]) none))))
    (.reg none [
      ⟨(some 37), .bin .add (.t 21) (.c (.int .i64 1)), none⟩,
      ⟨(some 21), .mov (.t 37), none⟩] (some [2, 4, 5, 20, 21]) (some 3)))))
def impl_AllOf_M : MC :=
  (.seq (.reg none [
      ⟨(some 2), .new (rl [(2, .int .i8 0), (12, .int .u8 0)]), none⟩,
      ⟨(some 3), .mov (.c (.int .i64 0)), none⟩] (some [0, 2]) none)
    (.seq (.seq (.reg none [
      ⟨(some 8), .mov (.t 0), none⟩,
      ⟨(some 9), .call 51 [(.t 8), (.c (.int .i64 2)), (.c (.int .i64 4))], none⟩,
      ⟨(some 10), .un .not (.t 9), none⟩] (some [0, 2, 10]) none)
    (.cond (.t 10) (.seq (.reg none [
      ⟨(some 11), .bld (rl [(2, .int .i8 0), (12, .int .u8 0)]) [], none⟩,
      ⟨none, .store 14 (.t 2) (.t 11), none⟩,
      ⟨(some 3), .mov (.c (.int .i64 2)), none⟩] (some [2, 3]) none)
    .ret)
    .skip))
    (.seq (.reg none [
      ⟨(some 12), .mov (.t 0), none⟩,
      ⟨(some 13), .conv .i8 (.t 12), none⟩,
      ⟨(some 14), .mov (.t 0), none⟩,
      ⟨(some 15), .bin .sub (.t 14) (.c (.int .i64 1)), none⟩,
      ⟨(some 16), .bin .shl (.c (.int .i8 1)) (.t 15), none⟩,
      ⟨(some 17), .bld (rl [(2, .int .i8 0), (12, .int .u8 0)]) [(0, 1, (.t 13)), (1, 1, (.t 16))], none⟩,
      ⟨(some 4), .new (rl [(2, .int .i8 0), (12, .int .u8 0)]), none⟩,
      ⟨none, .store 14 (.t 4) (.t 17), none⟩] (some [0, 2, 4]) none)
    (.seq (.reg none [
      ⟨(some 18), .bld [.nilsl, .nilsl] [], none⟩,
      ⟨(some 5), .new [.nilsl, .nilsl], none⟩,
      ⟨none, .store 2 (.t 5) (.t 18), none⟩] (some [0, 2, 4, 5]) none)
    (.seq (.seq (.reg none [
      ⟨(some 19), .mov (.t 0), none⟩,
      ⟨(some 20), .bin .shl (.c (.int .i64 1)) (.t 19), none⟩,
      ⟨(some 21), .mov (.c (.int .i64 0)), none⟩] (some [2, 4, 5, 20, 21]) none)
    (.block 0 (.loop impl_AllOf_L0)))
    (.seq (.reg none [
      ⟨(some 38), .iaA 2 1 (.t 5) (.c (.int .i64 0)), none⟩,
      ⟨(some 39), .load none (.t 38), none⟩,
      ⟨(some 40), .call 80 [(.t 4), (.t 39), (.c (.bool false))], none⟩] (some [2, 4, 5]) none)
    (.seq (.reg none [
      ⟨(some 41), .iaA 2 1 (.t 5) (.c (.int .i64 1)), none⟩,
      ⟨(some 42), .load none (.t 41), none⟩,
      ⟨(some 43), .call 80 [(.t 4), (.t 42), (.c (.bool true))], none⟩] (some [2, 4]) none)
    (.seq (.reg none [
      ⟨(some 44), .load (some 14) (.t 4), none⟩,
      ⟨none, .store 14 (.t 2) (.t 44), none⟩,
      ⟨(some 3), .mov (.c (.int .i64 0)), none⟩] (some [2, 3]) none)
    .ret))))))))
def impl_AllOf_F : MF := ⟨45, [.c 2 (some 14), .t 3], impl_AllOf_M⟩
-- loop.example/g01312/spec.ShiftLayer
def spec_ShiftLayer_M : MC :=
  (.seq (.reg none [
      ⟨(some 3), .box (.t 0), none⟩,
      ⟨(some 6), .new (rl [(1, .int .i8 0), (64, .int .u8 0)]), none⟩,
      ⟨(some 7), .mov (.c (.int .i64 0)), none⟩] (some [1, 2, 3, 6]) none)
    (.seq (.seq (.reg none [
      ⟨(some 8), .call 45 [(.t 3)], none⟩,
      ⟨(some 9), .un .not (.t 8), none⟩] (some [1, 2, 3, 6, 9]) none)
    (.cond (.t 9) (.seq (.reg none [
      ⟨(some 10), .bld (rl [(1, .int .i8 0), (64, .int .u8 0)]) [], none⟩,
      ⟨none, .store 65 (.t 6) (.t 10), none⟩,
      ⟨(some 7), .mov (.c (.int .i64 1)), none⟩] (some [6, 7]) none)
    .ret)
    .skip))
    (.seq (.seq (.reg none [
      ⟨(some 11), .mov (.t 1), none⟩,
      ⟨(some 12), .mov (.t 2), none⟩,
      ⟨(some 13), .call 81 [(.t 11), (.t 12)], none⟩,
      ⟨(some 14), .un .not (.t 13), none⟩] (some [1, 2, 3, 6, 14]) none)
    (.cond (.t 14) (.seq (.reg none [
      ⟨(some 15), .bld (rl [(1, .int .i8 0), (64, .int .u8 0)]) [], none⟩,
      ⟨none, .store 65 (.t 6) (.t 15), none⟩,
      ⟨(some 7), .mov (.c (.int .i64 2)), none⟩] (some [6, 7]) none)
    .ret)
    .skip))
    (.seq (.reg none [
      ⟨(some 16), .mov (.t 1), none⟩,
      ⟨(some 17), .mov (.t 2), none⟩,
      ⟨(some 18), .call 60 [(.t 3), (.c (.int .i64 2)), (.t 16), (.t 17)], none⟩,
      ⟨none, .store 65 (.t 6) (.t 18), none⟩,
      ⟨(some 7), .mov (.c (.int .i64 0)), none⟩] (some [6, 7]) none)
    .ret))))
def spec_ShiftLayer_F : MF := ⟨19, [.c 6 (some 65), .t 7], spec_ShiftLayer_M⟩
-- loop.example/g01312/impl.ShiftLayer
def impl_ShiftLayer_M : MC :=
  (.seq (.reg none [
      ⟨(some 3), .box (.t 0), none⟩,
      ⟨(some 4), .box (.t 1), none⟩,
      ⟨(some 5), .box (.t 2), none⟩,
      ⟨(some 6), .new (rl [(1, .int .i8 0), (64, .int .u8 0)]), none⟩,
      ⟨(some 7), .mov (.c (.int .i64 0)), none⟩] (some [3, 4, 5, 6]) none)
    (.seq (.seq (.reg (some [(1, 4), (1, 5), (0, 6), (0, 9), (1, 9), (4, 9), (5, 9), (6, 9), (0, 10), (1, 10), (4, 10), (5, 10)]) [
      ⟨(some 9), .load (some 65) (.t 3), none⟩,
      ⟨(some 10), .call 50 [(.t 9)], none⟩,
      ⟨(some 11), .un .not (.t 10), none⟩,
      ⟨(some 12), .bld [.bool false, .int .i64 0] [(0, 1, (.t 11)), (1, 1, (.c (.int .i64 1)))], none⟩,
      ⟨(some 13), .load none (.t 4), none⟩,
      ⟨(some 14), .load none (.t 5), none⟩,
      ⟨(some 15), .call 82 [(.t 13), (.t 14)], none⟩,
      ⟨(some 16), .un .not (.t 15), none⟩,
      ⟨(some 17), .bld [.bool false, .int .i64 0] [(0, 1, (.t 16)), (1, 1, (.c (.int .i64 2)))], none⟩,
      ⟨(some 18), .bldS [.bool false, .int .i64 0] 2 [(0, 2, (.t 12)), (2, 2, (.t 17))], none⟩,
      ⟨(some 19), .call 49 [(.t 18)], none⟩,
      ⟨(some 8), .mov (.t 19), none⟩] (some [3, 4, 5, 6, 8]) none)
    (.seq (.reg none [
      ⟨(some 20), .mov (.t 8), none⟩,
      ⟨(some 21), .bin .neq (.t 20) (.c (.int .i64 0)), none⟩] (some [3, 4, 5, 6, 8, 21]) none)
    (.cond (.t 21) (.seq (.reg none [
      ⟨(some 22), .bld (rl [(1, .int .i8 0), (64, .int .u8 0)]) [], none⟩,
      ⟨(some 23), .mov (.t 8), none⟩,
      ⟨none, .store 65 (.t 6) (.t 22), none⟩,
      ⟨(some 7), .mov (.t 23), none⟩] (some [6, 7]) none)
    .ret)
    .skip)))
    (.seq (.reg none [
      ⟨(some 24), .load (some 65) (.t 3), none⟩,
      ⟨(some 25), .mkf 84 [] [(.t 4), (.t 5), (.t 3)], none⟩,
      ⟨(some 26), .call 83 [(.t 24), (.t 25)], none⟩,
      ⟨none, .store 65 (.t 6) (.t 26), none⟩,
      ⟨(some 7), .mov (.c (.int .i64 0)), none⟩] (some [6, 7]) none)
    .ret)))
def impl_ShiftLayer_F : MF := ⟨27, [.c 6 (some 65), .t 7], impl_ShiftLayer_M⟩
-- loop.example/g01312/spec.ReorderShares
def spec_ReorderShares_L0 : MC :=
  (.seq (.seq (.reg none [
      ⟨(some 23), .mov (.t 7), none⟩,
      ⟨(some 24), .mov (.t 1), none⟩,
      ⟨(some 25), .lenS (.t 24), none⟩,
      ⟨(some 26), .bin .lss (.t 23) (.t 25), none⟩] (some [1, 2, 4, 6, 7, 26]) none)
    (.cond (.t 26) .skip
    (.exit 0)))
    (.seq (.block 1 (.seq (.reg none [
      ⟨(some 29), .mov (.t 7), none⟩,
      ⟨(some 30), .mov (.t 1), none⟩,
      ⟨(some 31), .mov (.t 7), none⟩,
      ⟨(some 32), .iaS 1 (.t 30) (.t 31), none⟩,
      ⟨(some 33), .load none (.t 32), none⟩,
      ⟨(some 34), .fa 2 (.t 2), none⟩,
      ⟨(some 35), .iaA 6 1 (.t 34) (.t 33), none⟩,
      ⟨(some 36), .load none (.t 35), none⟩,
      ⟨(some 37), .fa 2 (.t 6), none⟩,
      ⟨(some 38), .iaA 6 1 (.t 37) (.t 29), none⟩,
      ⟨none, .store 1 (.t 38) (.t 36), none⟩] (some [1, 2, 4, 6, 7]) none)
    (.reg none [
      ⟨(some 39), .mov (.t 7), none⟩,
      ⟨(some 40), .mov (.t 1), none⟩,
      ⟨(some 41), .mov (.t 7), none⟩,
      ⟨(some 42), .iaS 1 (.t 40) (.t 41), none⟩,
      ⟨(some 43), .load none (.t 42), none⟩,
      ⟨(some 44), .fa 8 (.t 2), none⟩,
      ⟨(some 45), .iaA 6 1 (.t 44) (.t 43), none⟩,
      ⟨(some 46), .load none (.t 45), none⟩,
      ⟨(some 47), .fa 8 (.t 6), none⟩,
      ⟨(some 48), .iaA 6 1 (.t 47) (.t 39), none⟩,
      ⟨none, .store 1 (.t 48) (.t 46), none⟩] (some [1, 2, 4, 6, 7]) none)))
    (.reg none [
      ⟨(some 27), .mov (.t 7), none⟩,
      ⟨(some 28), .bin .add (.t 27) (.c (.int .i64 1)), none⟩,
      ⟨(some 7), .mov (.t 28), none⟩] (some [1, 2, 4, 6, 7]) none)))
def spec_ReorderShares_M : MC :=
  (.seq (.reg none [
      ⟨(some 2), .box (.t 0), none⟩,
      ⟨(some 4), .new (rl [(2, .int .i8 0), (12, .int .u8 0)]), none⟩,
      ⟨(some 5), .mov (.c (.int .i64 0)), none⟩] (some [1, 2, 4]) none)
    (.seq (.seq (.reg none [
      ⟨(some 8), .call 53 [(.t 2)], none⟩,
      ⟨(some 9), .un .not (.t 8), none⟩] (some [1, 2, 4, 9]) none)
    (.cond (.t 9) (.seq (.reg none [
      ⟨(some 10), .bld (rl [(2, .int .i8 0), (12, .int .u8 0)]) [], none⟩,
      ⟨none, .store 14 (.t 4) (.t 10), none⟩,
      ⟨(some 5), .mov (.c (.int .i64 1)), none⟩] (some [4, 5]) none)
    .ret)
    .skip))
    (.seq (.seq (.reg none [
      ⟨(some 11), .mov (.t 1), none⟩,
      ⟨(some 12), .fa 0 (.t 2), none⟩,
      ⟨(some 13), .load none (.t 12), none⟩,
      ⟨(some 14), .conv .i64 (.t 13), none⟩,
      ⟨(some 15), .call 86 [(.t 11), (.t 14)], none⟩,
      ⟨(some 16), .un .not (.t 15), none⟩] (some [1, 2, 4, 16]) none)
    (.cond (.t 16) (.seq (.reg none [
      ⟨(some 17), .bld (rl [(2, .int .i8 0), (12, .int .u8 0)]) [], none⟩,
      ⟨none, .store 14 (.t 4) (.t 17), none⟩,
      ⟨(some 5), .mov (.c (.int .i64 2)), none⟩] (some [4, 5]) none)
    .ret)
    .skip))
    (.seq (.reg none [
      ⟨(some 18), .fa 0 (.t 2), none⟩,
      ⟨(some 19), .load none (.t 18), none⟩,
      ⟨(some 20), .fa 1 (.t 2), none⟩,
      ⟨(some 21), .load none (.t 20), none⟩,
      ⟨(some 22), .bld (rl [(2, .int .i8 0), (12, .int .u8 0)]) [(0, 1, (.t 19)), (1, 1, (.t 21))], none⟩,
      ⟨(some 6), .new (rl [(2, .int .i8 0), (12, .int .u8 0)]), none⟩,
      ⟨none, .store 14 (.t 6) (.t 22), none⟩] (some [1, 2, 4, 6]) none)
    (.seq (.seq (.reg none [
      ⟨(some 7), .mov (.c (.int .i64 0)), none⟩] (some [1, 2, 4, 6, 7]) none)
    (.block 0 (.loop spec_ReorderShares_L0)))
    (.seq (.reg none [
      ⟨(some 49), .load (some 14) (.t 6), none⟩,
      ⟨none, .store 14 (.t 4) (.t 49), none⟩,
      ⟨(some 5), .mov (.c (.int .i64 0)), none⟩] (some [4, 5]) none)
    .ret))))))
def spec_ReorderShares_F : MF := ⟨50, [.c 4 (some 14), .t 5], spec_ReorderShares_M⟩
-- loop.example/g01312/laws.toInt8S
def laws_toInt8S_L0 : MC :=
  (.seq (.seq (.reg none [
      ⟨(some 8), .mov (.t 4), none⟩,
      ⟨(some 9), .mov (.t 0), none⟩,
      ⟨(some 10), .lenS (.t 9), none⟩,
      ⟨(some 11), .bin .lss (.t 8) (.t 10), none⟩] (some [0, 3, 4, 11]) none)
    (.cond (.t 11) .skip
    (.exit 0)))
    (.seq (.block 1 (.reg none [
      ⟨(some 14), .mov (.t 3), none⟩,
      ⟨(some 15), .mov (.t 4), none⟩,
      ⟨(some 16), .mov (.t 0), none⟩,
      ⟨(some 17), .mov (.t 4), none⟩,
      ⟨(some 18), .iaS 1 (.t 16) (.t 17), none⟩,
      ⟨(some 19), .load none (.t 18), none⟩,
      ⟨(some 20), .iaS 1 (.t 14) (.t 15), none⟩,
      ⟨none, .store 1 (.t 20) (.t 19), none⟩] (some [0, 3, 4]) none))
    (.reg none [
      ⟨(some 12), .mov (.t 4), none⟩,
      ⟨(some 13), .bin .add (.t 12) (.c (.int .i64 1)), none⟩,
      ⟨(some 4), .mov (.t 13), none⟩] (some [0, 3, 4]) none)))
def laws_toInt8S_M : MC :=
  (.seq (.reg none [
      ⟨(some 2), .mov (.c (.nilsl)), none⟩] (some [0]) none)
    (.seq (.reg none [
      ⟨(some 5), .mov (.t 0), none⟩,
      ⟨(some 6), .lenS (.t 5), none⟩,
      ⟨(some 7), .mks [.int .i8 0] 1 (.t 6) (.t 6), none⟩,
      ⟨(some 3), .mov (.t 7), none⟩] (some [0, 3]) none)
    (.seq (.seq (.reg none [
      ⟨(some 4), .mov (.c (.int .i64 0)), none⟩] (some [0, 3, 4]) none)
    (.block 0 (.loop laws_toInt8S_L0)))
    (.seq (.reg none [
      ⟨(some 21), .mov (.t 3), none⟩,
      ⟨(some 2), .mov (.t 21), none⟩] (some [2]) none)
    .ret))))
def laws_toInt8S_F : MF := ⟨22, [.t 2], laws_toInt8S_M⟩
-- loop.example/g01312/impl.ReorderShares
def impl_ReorderShares_L0 : MC :=
  (.seq (.reg none [
      ⟨(some 34), .bin .lss (.t 33) (.t 32), none⟩] (some [2, 4, 7, 31, 32, 33, 34]) none)
    (.seq (.cond (.t 34) .skip
    (.exit 0))
    (.seq (.block 1 (.seq (.reg none [
      ⟨(some 35), .mov (.t 33), none⟩,
      ⟨(some 36), .iaS 1 (.t 31) (.t 33), none⟩,
      ⟨(some 37), .load none (.t 36), none⟩,
      ⟨(some 8), .mov (.t 35), none⟩,
      ⟨(some 9), .mov (.t 37), none⟩] (some [2, 4, 7, 8, 9, 31, 32, 33]) none)
    (.reg (some [(9, 12)]) [
      ⟨(some 38), .mov (.t 8), none⟩,
      ⟨(some 39), .mov (.t 8), none⟩,
      ⟨(some 40), .mov (.t 9), none⟩,
      ⟨(some 41), .fa 2 (.t 2), none⟩,
      ⟨(some 42), .iaA 6 1 (.t 41) (.t 40), none⟩,
      ⟨(some 43), .load none (.t 42), none⟩,
      ⟨(some 44), .mov (.t 9), none⟩,
      ⟨(some 45), .fa 8 (.t 2), none⟩,
      ⟨(some 46), .iaA 6 1 (.t 45) (.t 44), none⟩,
      ⟨(some 47), .load none (.t 46), none⟩,
      ⟨(some 48), .fa 2 (.t 7), none⟩,
      ⟨(some 49), .iaA 6 1 (.t 48) (.t 38), none⟩,
      ⟨none, .store 1 (.t 49) (.t 43), none⟩,
      ⟨(some 50), .fa 8 (.t 7), none⟩,
      ⟨(some 51), .iaA 6 1 (.t 50) (.t 39), none⟩,
      ⟨none, .store 1 (.t 51) (.t 47), none⟩] (some [2, 4, 7, 31, 32, 33]) none)))
    (.reg none [
      ⟨(some 52), .bin .add (.t 33) (.c (.int .i64 1)), none⟩,
      ⟨(some 33), .mov (.t 52), none⟩] (some [2, 4, 7, 31, 32, 33]) none))))
def impl_ReorderShares_M : MC :=
  (.seq (.reg none [
      ⟨(some 2), .box (.t 0), none⟩,
      ⟨(some 4), .new (rl [(2, .int .i8 0), (12, .int .u8 0)]), none⟩,
      ⟨(some 5), .mov (.c (.int .i64 0)), none⟩] (some [1, 2, 4]) none)
    (.seq (.seq (.reg (some [(1, 6), (0, 7), (0, 10), (1, 10), (6, 10), (7, 10), (0, 11), (1, 11), (6, 11)]) [
      ⟨(some 10), .load (some 14) (.t 2), none⟩,
      ⟨(some 11), .call 55 [(.t 10)], none⟩,
      ⟨(some 12), .un .not (.t 11), none⟩,
      ⟨(some 13), .bld [.bool false, .int .i64 0] [(0, 1, (.t 12)), (1, 1, (.c (.int .i64 1)))], none⟩,
      ⟨(some 14), .mov (.t 1), none⟩,
      ⟨(some 15), .fa 0 (.t 2), none⟩,
      ⟨(some 16), .load none (.t 15), none⟩,
      ⟨(some 17), .call 87 [(.t 14), (.t 16)], none⟩,
      ⟨(some 18), .un .not (.t 17), none⟩,
      ⟨(some 19), .bld [.bool false, .int .i64 0] [(0, 1, (.t 18)), (1, 1, (.c (.int .i64 2)))], none⟩,
      ⟨(some 20), .bldS [.bool false, .int .i64 0] 2 [(0, 2, (.t 13)), (2, 2, (.t 19))], none⟩,
      ⟨(some 21), .call 49 [(.t 20)], none⟩,
      ⟨(some 6), .mov (.t 21), none⟩] (some [1, 2, 4, 6]) none)
    (.seq (.reg none [
      ⟨(some 22), .mov (.t 6), none⟩,
      ⟨(some 23), .bin .neq (.t 22) (.c (.int .i64 0)), none⟩] (some [1, 2, 4, 6, 23]) none)
    (.cond (.t 23) (.seq (.reg none [
      ⟨(some 24), .bld (rl [(2, .int .i8 0), (12, .int .u8 0)]) [], none⟩,
      ⟨(some 25), .mov (.t 6), none⟩,
      ⟨none, .store 14 (.t 4) (.t 24), none⟩,
      ⟨(some 5), .mov (.t 25), none⟩] (some [4, 5]) none)
    .ret)
    .skip)))
    (.seq (.reg none [
      ⟨(some 26), .fa 0 (.t 2), none⟩,
      ⟨(some 27), .load none (.t 26), none⟩,
      ⟨(some 28), .fa 1 (.t 2), none⟩,
      ⟨(some 29), .load none (.t 28), none⟩,
      ⟨(some 30), .bld (rl [(2, .int .i8 0), (12, .int .u8 0)]) [(0, 1, (.t 27)), (1, 1, (.t 29))], none⟩,
      ⟨(some 7), .new (rl [(2, .int .i8 0), (12, .int .u8 0)]), none⟩,
      ⟨none, .store 14 (.t 7) (.t 30), none⟩] (some [1, 2, 4, 7]) none)
    (.seq (.seq (.reg none [
      ⟨(some 31), .mov (.t 1), none⟩,
      ⟨(some 32), .lenS (.t 31), none⟩,
      ⟨(some 33), .mov (.c (.int .i64 0)), none⟩] (some [2, 4, 7, 31, 32, 33]) none)
    (.block 0 (.loop impl_ReorderShares_L0)))
    (.seq (.reg none [
      ⟨(some 53), .load (some 14) (.t 7), none⟩,
      ⟨none, .store 14 (.t 4) (.t 53), none⟩,
      ⟨(some 5), .mov (.c (.int .i64 0)), none⟩] (some [4, 5]) none)
    .ret)))))
def impl_ReorderShares_F : MF := ⟨54, [.c 4 (some 14), .t 5], impl_ReorderShares_M⟩
-- loop.example/g01312/laws.eqInt8S
def laws_eqInt8S_L0 : MC :=
  (.seq (.seq (.reg none [
      ⟨(some 11), .mov (.t 5), none⟩,
      ⟨(some 12), .mov (.t 0), none⟩,
      ⟨(some 13), .lenS (.t 12), none⟩,
      ⟨(some 14), .bin .lss (.t 11) (.t 13), none⟩] (some [0, 1, 5, 14]) none)
    (.cond (.t 14) .skip
    (.exit 0)))
    (.seq (.block 1 (.seq (.reg (some []) [
      ⟨(some 17), .mov (.t 0), none⟩,
      ⟨(some 18), .mov (.t 5), none⟩,
      ⟨(some 19), .iaS 1 (.t 17) (.t 18), none⟩,
      ⟨(some 20), .load none (.t 19), none⟩,
      ⟨(some 21), .mov (.t 1), none⟩,
      ⟨(some 22), .mov (.t 5), none⟩,
      ⟨(some 23), .iaS 1 (.t 21) (.t 22), none⟩,
      ⟨(some 24), .load none (.t 23), none⟩,
      ⟨(some 25), .bin .neq (.t 20) (.t 24), none⟩] (some [0, 1, 5, 25]) none)
    (.cond (.t 25) (.seq (.reg none [
      ⟨(some 4), .mov (.c (.bool false)), none⟩] (some [4]) none)
    .ret)
    .skip)))
    (.reg none [
      ⟨(some 15), .mov (.t 5), none⟩,
      ⟨(some 16), .bin .add (.t 15) (.c (.int .i64 1)), none⟩,
      ⟨(some 5), .mov (.t 16), none⟩] (some [0, 1, 5]) none)))
def laws_eqInt8S_M : MC :=
  (.seq (.reg none [
      ⟨(some 4), .mov (.c (.bool false)), none⟩] (some [0, 1]) none)
    (.seq (.seq (.reg none [
      ⟨(some 6), .mov (.t 0), none⟩,
      ⟨(some 7), .lenS (.t 6), none⟩,
      ⟨(some 8), .mov (.t 1), none⟩,
      ⟨(some 9), .lenS (.t 8), none⟩,
      ⟨(some 10), .bin .neq (.t 7) (.t 9), none⟩] (some [0, 1, 10]) none)
    (.cond (.t 10) (.seq (.reg none [
      ⟨(some 4), .mov (.c (.bool false)), none⟩] (some [4]) none)
    .ret)
    .skip))
    (.seq (.seq (.reg none [
      ⟨(some 5), .mov (.c (.int .i64 0)), none⟩] (some [0, 1, 5]) none)
    (.block 0 (.loop laws_eqInt8S_L0)))
    (.seq (.reg none [
      ⟨(some 4), .mov (.c (.bool true)), none⟩] (some [4]) none)
    .ret))))
def laws_eqInt8S_F : MF := ⟨26, [.t 4], laws_eqInt8S_M⟩
-- loop.example/g01312/spec.l01Ok
def spec_l01Ok_L0 : MC :=
  (.seq (.seq (.reg none [
      ⟨(some 11), .mov (.t 3), none⟩,
      ⟨(some 12), .bin .lss (.t 11) (.c (.int .i64 64)), none⟩] (some [0, 3, 12]) none)
    (.cond (.t 12) .skip
    (.exit 0)))
    (.seq (.block 1 (.seq (.reg (some []) [
      ⟨(some 15), .mov (.t 0), none⟩,
      ⟨(some 16), .mov (.t 3), none⟩,
      ⟨(some 17), .nilc (.t 15), none⟩,
      ⟨(some 18), .fa 1 (.t 17), none⟩,
      ⟨(some 19), .iaA 64 1 (.t 18) (.t 16), none⟩,
      ⟨(some 20), .load none (.t 19), none⟩,
      ⟨(some 21), .mov (.t 0), none⟩,
      ⟨(some 22), .nilc (.t 21), none⟩,
      ⟨(some 23), .fa 0 (.t 22), none⟩,
      ⟨(some 24), .load none (.t 23), none⟩,
      ⟨(some 25), .conv .u64 (.t 24), none⟩,
      ⟨(some 26), .bin .shr (.t 20) (.t 25), none⟩,
      ⟨(some 27), .bin .neq (.t 26) (.c (.int .u8 0)), none⟩] (some [0, 3, 27]) none)
    (.cond (.t 27) (.seq (.reg none [
      ⟨(some 2), .mov (.c (.bool false)), none⟩] (some [2]) none)
    .ret)
    .skip)))
    (.reg none [
      ⟨(some 13), .mov (.t 3), none⟩,
      ⟨(some 14), .bin .add (.t 13) (.c (.int .i64 1)), none⟩,
      ⟨(some 3), .mov (.t 14), none⟩] (some [0, 3]) none)))
def spec_l01Ok_M : MC :=
  (.seq (.reg none [
      ⟨(some 2), .mov (.c (.bool false)), none⟩] (some [0]) none)
    (.seq (.seq (.reg none [
      ⟨(some 4), .mov (.t 0), none⟩,
      ⟨(some 5), .nilc (.t 4), none⟩,
      ⟨(some 6), .fa 0 (.t 5), none⟩,
      ⟨(some 7), .load none (.t 6), none⟩,
      ⟨(some 8), .conv .i64 (.t 7), none⟩,
      ⟨(some 9), .call 88 [(.t 8)], none⟩,
      ⟨(some 10), .un .not (.t 9), none⟩] (some [0, 10]) none)
    (.cond (.t 10) (.seq (.reg none [
      ⟨(some 2), .mov (.c (.bool false)), none⟩] (some [2]) none)
    .ret)
    .skip))
    (.seq (.seq (.reg none [
      ⟨(some 3), .mov (.c (.int .i64 0)), none⟩] (some [0, 3]) none)
    (.block 0 (.loop spec_l01Ok_L0)))
    (.seq (.reg none [
      ⟨(some 2), .mov (.c (.bool true)), none⟩] (some [2]) none)
    .ret))))
def spec_l01Ok_F : MF := ⟨28, [.t 2], spec_l01Ok_M⟩
-- loop.example/g01312/spec.l00In
def spec_l00In_M : MC :=
  (.seq (.reg none [
      ⟨(some 6), .mov (.c (.bool false)), none⟩] (some [0, 1, 2]) none)
    (.seq (.reg none [
      ⟨(some 7), .mov (.t 0), none⟩,
      ⟨(some 8), .mov (.t 1), none⟩,
      ⟨(some 9), .bin .geq (.t 7) (.t 8), none⟩,
      ⟨(some 10), .mov (.t 9), none⟩,
      ⟨(some 11), .mov (.t 0), some (10, true)⟩,
      ⟨(some 12), .mov (.t 2), some (10, true)⟩,
      ⟨(some 13), .bin .leq (.t 11) (.t 12), some (10, true)⟩,
      ⟨(some 14), .pick (.t 10) (.t 13) (.c (.bool false)), none⟩,
      ⟨(some 6), .mov (.t 14), none⟩] (some [6]) none)
    .ret))
def spec_l00In_F : MF := ⟨15, [.t 6], spec_l00In_M⟩
-- loop.example/g01312/spec.l01Shown
def spec_l01Shown_L0 : MC :=
  (.seq (.seq (.reg none [
      ⟨(some 7), .mov (.t 6), none⟩,
      ⟨(some 8), .bin .lss (.t 7) (.c (.int .i64 64)), none⟩] (some [0, 1, 5, 6, 8]) none)
    (.cond (.t 8) .skip
    (.exit 0)))
    (.seq (.block 1 (.seq (.reg none [
      ⟨(some 11), .mov (.t 0), none⟩,
      ⟨(some 12), .mov (.t 6), none⟩,
      ⟨(some 13), .nilc (.t 11), none⟩,
      ⟨(some 14), .fa 1 (.t 13), none⟩,
      ⟨(some 15), .iaA 64 1 (.t 14) (.t 12), none⟩,
      ⟨(some 16), .load none (.t 15), none⟩,
      ⟨(some 17), .conv .u64 (.t 16), none⟩,
      ⟨(some 18), .call 77 [(.t 17)], none⟩,
      ⟨(some 19), .mov (.t 1), none⟩,
      ⟨(some 20), .bin .geq (.t 18) (.t 19), none⟩] (some [0, 1, 5, 6, 20]) none)
    (.cond (.t 20) (.reg none [
      ⟨(some 21), .mov (.t 5), none⟩,
      ⟨(some 22), .mov (.t 6), none⟩,
      ⟨(some 23), .conv .u64 (.t 22), none⟩,
      ⟨(some 24), .bin .shl (.c (.int .u64 1)) (.t 23), none⟩,
      ⟨(some 25), .bin .or (.t 21) (.t 24), none⟩,
      ⟨(some 5), .mov (.t 25), none⟩] (some [0, 1, 5, 6]) none)
    .skip)))
    (.reg none [
      ⟨(some 9), .mov (.t 6), none⟩,
      ⟨(some 10), .bin .add (.t 9) (.c (.int .i64 1)), none⟩,
      ⟨(some 6), .mov (.t 10), none⟩] (some [0, 1, 5, 6]) none)))
def spec_l01Shown_M : MC :=
  (.seq (.reg none [
      ⟨(some 4), .mov (.c (.int .u64 0)), none⟩] (some [0, 1]) none)
    (.seq (.reg none [
      ⟨(some 5), .mov (.c (.int .u64 0)), none⟩] (some [0, 1, 5]) none)
    (.seq (.seq (.reg none [
      ⟨(some 6), .mov (.c (.int .i64 0)), none⟩] (some [0, 1, 5, 6]) none)
    (.block 0 (.loop spec_l01Shown_L0)))
    (.seq (.reg none [
      ⟨(some 26), .mov (.t 5), none⟩,
      ⟨(some 4), .mov (.t 26), none⟩] (some [4]) none)
    .ret))))
def spec_l01Shown_F : MF := ⟨27, [.t 4], spec_l01Shown_M⟩
-- loop.example/g01312/laws.toByteA64
def laws_toByteA64_L0 : MC :=
  (.seq (.seq (.reg none [
      ⟨(some 5), .mov (.t 4), none⟩,
      ⟨(some 6), .bin .lss (.t 5) (.c (.int .i64 64)), none⟩] (some [1, 2, 3, 4, 6]) none)
    (.cond (.t 6) .skip
    (.exit 0)))
    (.seq (.block 1 (.reg none [
      ⟨(some 9), .mov (.t 4), none⟩,
      ⟨(some 10), .mov (.t 4), none⟩,
      ⟨(some 11), .iaA 64 1 (.t 1) (.t 10), none⟩,
      ⟨(some 12), .load none (.t 11), none⟩,
      ⟨(some 13), .iaA 64 1 (.t 3) (.t 9), none⟩,
      ⟨none, .store 1 (.t 13) (.t 12), none⟩] (some [1, 2, 3, 4]) none))
    (.reg none [
      ⟨(some 7), .mov (.t 4), none⟩,
      ⟨(some 8), .bin .add (.t 7) (.c (.int .i64 1)), none⟩,
      ⟨(some 4), .mov (.t 8), none⟩] (some [1, 2, 3, 4]) none)))
def laws_toByteA64_M : MC :=
  (.seq (.reg none [
      ⟨(some 1), .box (.t 0), none⟩,
      ⟨(some 2), .new (rl [(64, .int .u8 0)]), none⟩] (some [1, 2]) none)
    (.seq (.reg none [
      ⟨(some 3), .new (rl [(64, .int .u8 0)]), none⟩] (some [1, 2, 3]) none)
    (.seq (.seq (.reg none [
      ⟨(some 4), .mov (.c (.int .i64 0)), none⟩] (some [1, 2, 3, 4]) none)
    (.block 0 (.loop laws_toByteA64_L0)))
    (.seq (.reg none [
      ⟨(some 14), .load (some 64) (.t 3), none⟩,
      ⟨none, .store 64 (.t 2) (.t 14), none⟩] (some [2]) none)
    .ret))))
def laws_toByteA64_F : MF := ⟨15, [.c 2 (some 64)], laws_toByteA64_M⟩
-- loop.example/g01312/impl.firstOf
def impl_firstOf_L0 : MC :=
  (.seq (.reg none [
      ⟨(some 8), .bin .lss (.t 7) (.t 6), none⟩] (some [5, 6, 7, 8]) none)
    (.seq (.cond (.t 8) .skip
    (.exit 0))
    (.seq (.block 1 (.seq (.reg none [
      ⟨(some 9), .iaS 2 (.t 5) (.t 7), none⟩,
      ⟨(some 10), .load (some 2) (.t 9), none⟩,
      ⟨(some 4), .new [.bool false, .int .i64 0], none⟩,
      ⟨none, .store 2 (.t 4) (.t 10), none⟩] (some [4, 5, 6, 7]) none)
    (.seq (.reg none [
      ⟨(some 11), .fa 0 (.t 4), none⟩,
      ⟨(some 12), .load none (.t 11), none⟩] (some [4, 5, 6, 7, 12]) none)
    (.cond (.t 12) (.seq (.reg none [
      ⟨(some 13), .fa 1 (.t 4), none⟩,
      ⟨(some 14), .load none (.t 13), none⟩,
      ⟨(some 2), .mov (.t 14), none⟩] (some [2]) none)
    .ret)
    .skip))))
    (.reg none [
      ⟨(some 15), .bin .add (.t 7) (.c (.int .i64 1)), none⟩,
      ⟨(some 7), .mov (.t 15), none⟩] (some [5, 6, 7]) (some 0)))))
def impl_firstOf_M : MC :=
  (.seq (.reg none [
      ⟨(some 2), .mov (.c (.int .i64 0)), none⟩] (some [0]) none)
    (.seq (.seq (.reg none [
      ⟨(some 5), .mov (.t 0), none⟩,
      ⟨(some 6), .lenS (.t 5), none⟩,
      ⟨(some 7), .mov (.c (.int .i64 0)), none⟩] (some [5, 6, 7]) none)
    (.block 0 (.loop impl_firstOf_L0)))
    (.seq (.reg none [
      ⟨(some 2), .mov (.c (.int .i64 0)), none⟩] (some [2]) none)
    .ret)))
def impl_firstOf_F : MF := ⟨16, [.t 2], impl_firstOf_M⟩
-- loop.example/g01312/impl.ValidLayer
def impl_ValidLayer_L0 : MC :=
  (.seq (.reg none [
      ⟨(some 13), .bin .lss (.t 12) (.c (.int .i64 64)), none⟩] (some [1, 11, 12, 13]) none)
    (.seq (.cond (.t 13) .skip
    (.exit 0))
    (.seq (.block 1 (.seq (.reg none [
      ⟨(some 14), .ix 64 1 none (.t 11) (.t 12), none⟩,
      ⟨(some 4), .mov (.t 14), none⟩] (some [1, 4, 11, 12]) none)
    (.seq (.reg none [
      ⟨(some 15), .mov (.t 4), none⟩,
      ⟨(some 16), .fa 0 (.t 1), none⟩,
      ⟨(some 17), .load none (.t 16), none⟩,
      ⟨(some 18), .call 90 [(.t 17)], none⟩,
      ⟨(some 19), .bin .andNot (.t 15) (.t 18), none⟩,
      ⟨(some 20), .bin .neq (.t 19) (.c (.int .u8 0)), none⟩] (some [1, 11, 12, 20]) none)
    (.cond (.t 20) (.seq (.reg none [
      ⟨(some 2), .mov (.c (.bool false)), none⟩] (some [2]) none)
    .ret)
    .skip))))
    (.reg none [
      ⟨(some 21), .bin .add (.t 12) (.c (.int .i64 1)), none⟩,
      ⟨(some 12), .mov (.t 21), none⟩] (some [1, 11, 12]) none))))
def impl_ValidLayer_M : MC :=
  (.seq (.reg none [
      ⟨(some 1), .box (.t 0), none⟩,
      ⟨(some 2), .mov (.c (.bool false)), none⟩] (some [1]) none)
    (.seq (.seq (.reg none [
      ⟨(some 5), .fa 0 (.t 1), none⟩,
      ⟨(some 6), .load none (.t 5), none⟩,
      ⟨(some 7), .conv .i64 (.t 6), none⟩,
      ⟨(some 8), .call 89 [(.t 7)], none⟩,
      ⟨(some 9), .un .not (.t 8), none⟩] (some [1, 9]) none)
    (.cond (.t 9) (.seq (.reg none [
      ⟨(some 2), .mov (.c (.bool false)), none⟩] (some [2]) none)
    .ret)
    .skip))
    (.seq (.seq (.reg none [
      ⟨(some 10), .fa 1 (.t 1), none⟩,
      ⟨(some 11), .load (some 64) (.t 10), none⟩,
      ⟨(some 12), .mov (.c (.int .i64 0)), none⟩] (some [1, 11, 12]) none)
    (.block 0 (.loop impl_ValidLayer_L0)))
    (.seq (.reg none [
      ⟨(some 2), .mov (.c (.bool true)), none⟩] (some [2]) none)
    .ret))))
def impl_ValidLayer_F : MF := ⟨22, [.t 2], impl_ValidLayer_M⟩
-- loop.example/g01312/impl.within
def impl_within_M : MC :=
  (.seq (.reg none [
      ⟨(some 6), .mov (.c (.bool false)), none⟩] (some [0, 1, 2]) none)
    (.seq (.reg none [
      ⟨(some 7), .mov (.t 0), none⟩,
      ⟨(some 8), .mov (.t 1), none⟩,
      ⟨(some 9), .bin .geq (.t 7) (.t 8), none⟩,
      ⟨(some 10), .mov (.t 9), none⟩,
      ⟨(some 11), .mov (.t 0), some (10, true)⟩,
      ⟨(some 12), .mov (.t 2), some (10, true)⟩,
      ⟨(some 13), .bin .leq (.t 11) (.t 12), some (10, true)⟩,
      ⟨(some 14), .pick (.t 10) (.t 13) (.c (.bool false)), none⟩,
      ⟨(some 6), .mov (.t 14), none⟩] (some [6]) none)
    .ret))
def impl_within_F : MF := ⟨15, [.t 6], impl_within_M⟩
-- (loop.example/g01312/impl.Layer).shown
def impl_Layer_shown_M : MC :=
  (.seq (.reg none [
      ⟨(some 2), .box (.t 0), none⟩,
      ⟨(some 3), .box (.t 1), none⟩,
      ⟨(some 4), .mov (.c (.int .u64 0)), none⟩] (some [2, 3]) none)
    (.seq (.reg none [
      ⟨(some 5), .mkf 92 [] [(.t 2), (.t 3)], none⟩,
      ⟨(some 6), .call 91 [(.t 5)], none⟩,
      ⟨(some 4), .mov (.t 6), none⟩] (some [4]) none)
    .ret))
def impl_Layer_shown_F : MF := ⟨7, [.t 4], impl_Layer_shown_M⟩
-- loop.example/g01312/spec.l02Ok
def spec_l02Ok_L0 : MC :=
  (.seq (.seq (.reg none [
      ⟨(some 21), .mov (.t 3), none⟩,
      ⟨(some 22), .bin .lss (.t 21) (.c (.int .i64 6)), none⟩] (some [0, 3, 22]) none)
    (.cond (.t 22) .skip
    (.exit 0)))
    (.seq (.block 1 (.seq (.reg (some []) [
      ⟨(some 25), .mov (.t 0), none⟩,
      ⟨(some 26), .mov (.t 3), none⟩,
      ⟨(some 27), .nilc (.t 25), none⟩,
      ⟨(some 28), .fa 2 (.t 27), none⟩,
      ⟨(some 29), .iaA 6 1 (.t 28) (.t 26), none⟩,
      ⟨(some 30), .load none (.t 29), none⟩,
      ⟨(some 31), .mov (.t 0), none⟩,
      ⟨(some 32), .mov (.t 3), none⟩,
      ⟨(some 33), .nilc (.t 31), none⟩,
      ⟨(some 34), .fa 8 (.t 33), none⟩,
      ⟨(some 35), .iaA 6 1 (.t 34) (.t 32), none⟩,
      ⟨(some 36), .load none (.t 35), none⟩,
      ⟨(some 37), .bin .or (.t 30) (.t 36), none⟩,
      ⟨(some 4), .mov (.t 37), none⟩] (some [0, 3, 4]) none)
    (.seq (.reg none [
      ⟨(some 38), .mov (.t 4), none⟩,
      ⟨(some 39), .mov (.t 0), none⟩,
      ⟨(some 40), .nilc (.t 39), none⟩,
      ⟨(some 41), .fa 1 (.t 40), none⟩,
      ⟨(some 42), .load none (.t 41), none⟩,
      ⟨(some 43), .conv .u64 (.t 42), none⟩,
      ⟨(some 44), .bin .shr (.t 38) (.t 43), none⟩,
      ⟨(some 45), .bin .neq (.t 44) (.c (.int .u8 0)), none⟩,
      ⟨(some 46), .mov (.t 45), none⟩,
      ⟨(some 47), .mov (.t 3), some (46, false)⟩,
      ⟨(some 48), .mov (.t 0), some (46, false)⟩,
      ⟨(some 49), .nilc (.t 48), some (46, false)⟩,
      ⟨(some 50), .fa 0 (.t 49), some (46, false)⟩,
      ⟨(some 51), .load none (.t 50), some (46, false)⟩,
      ⟨(some 52), .conv .i64 (.t 51), some (46, false)⟩,
      ⟨(some 53), .bin .geq (.t 47) (.t 52), some (46, false)⟩,
      ⟨(some 54), .mov (.t 53), some (46, false)⟩,
      ⟨(some 55), .mov (.t 4), some (54, true)⟩,
      ⟨(some 56), .bin .neq (.t 55) (.c (.int .u8 0)), some (54, true)⟩,
      ⟨(some 57), .pick (.t 54) (.t 56) (.c (.bool false)), some (46, false)⟩,
      ⟨(some 58), .pick (.t 46) (.c (.bool true)) (.t 57), none⟩] (some [0, 3, 58]) none)
    (.cond (.t 58) (.seq (.reg none [
      ⟨(some 2), .mov (.c (.bool false)), none⟩] (some [2]) none)
    .ret)
    .skip))))
    (.reg none [
      ⟨(some 23), .mov (.t 3), none⟩,
      ⟨(some 24), .bin .add (.t 23) (.c (.int .i64 1)), none⟩,
      ⟨(some 3), .mov (.t 24), none⟩] (some [0, 3]) none)))
def spec_l02Ok_M : MC :=
  (.seq (.reg none [
      ⟨(some 2), .mov (.c (.bool false)), none⟩] (some [0]) none)
    (.seq (.seq (.reg none [
      ⟨(some 5), .mov (.t 0), none⟩,
      ⟨(some 6), .nilc (.t 5), none⟩,
      ⟨(some 7), .fa 0 (.t 6), none⟩,
      ⟨(some 8), .load none (.t 7), none⟩,
      ⟨(some 9), .conv .i64 (.t 8), none⟩,
      ⟨(some 10), .call 46 [(.t 9), (.c (.int .i64 1)), (.c (.int .i64 6))], none⟩,
      ⟨(some 11), .un .not (.t 10), none⟩,
      ⟨(some 12), .mov (.t 11), none⟩,
      ⟨(some 13), .mov (.t 0), some (12, false)⟩,
      ⟨(some 14), .nilc (.t 13), some (12, false)⟩,
      ⟨(some 15), .fa 1 (.t 14), some (12, false)⟩,
      ⟨(some 16), .load none (.t 15), some (12, false)⟩,
      ⟨(some 17), .conv .i64 (.t 16), some (12, false)⟩,
      ⟨(some 18), .call 88 [(.t 17)], some (12, false)⟩,
      ⟨(some 19), .un .not (.t 18), some (12, false)⟩,
      ⟨(some 20), .pick (.t 12) (.c (.bool true)) (.t 19), none⟩] (some [0, 20]) none)
    (.cond (.t 20) (.seq (.reg none [
      ⟨(some 2), .mov (.c (.bool false)), none⟩] (some [2]) none)
    .ret)
    .skip))
    (.seq (.seq (.reg none [
      ⟨(some 3), .mov (.c (.int .i64 0)), none⟩] (some [0, 3]) none)
    (.block 0 (.loop spec_l02Ok_L0)))
    (.seq (.reg none [
      ⟨(some 2), .mov (.c (.bool true)), none⟩] (some [2]) none)
    .ret))))
def spec_l02Ok_F : MF := ⟨59, [.t 2], spec_l02Ok_M⟩
-- loop.example/g01312/laws.toByteA6
def laws_toByteA6_L0 : MC :=
  (.seq (.seq (.reg none [
      ⟨(some 5), .mov (.t 4), none⟩,
      ⟨(some 6), .bin .lss (.t 5) (.c (.int .i64 6)), none⟩] (some [1, 2, 3, 4, 6]) none)
    (.cond (.t 6) .skip
    (.exit 0)))
    (.seq (.block 1 (.reg none [
      ⟨(some 9), .mov (.t 4), none⟩,
      ⟨(some 10), .mov (.t 4), none⟩,
      ⟨(some 11), .iaA 6 1 (.t 1) (.t 10), none⟩,
      ⟨(some 12), .load none (.t 11), none⟩,
      ⟨(some 13), .iaA 6 1 (.t 3) (.t 9), none⟩,
      ⟨none, .store 1 (.t 13) (.t 12), none⟩] (some [1, 2, 3, 4]) none))
    (.reg none [
      ⟨(some 7), .mov (.t 4), none⟩,
      ⟨(some 8), .bin .add (.t 7) (.c (.int .i64 1)), none⟩,
      ⟨(some 4), .mov (.t 8), none⟩] (some [1, 2, 3, 4]) none)))
def laws_toByteA6_M : MC :=
  (.seq (.reg none [
      ⟨(some 1), .box (.t 0), none⟩,
      ⟨(some 2), .new (rl [(6, .int .u8 0)]), none⟩] (some [1, 2]) none)
    (.seq (.reg none [
      ⟨(some 3), .new (rl [(6, .int .u8 0)]), none⟩] (some [1, 2, 3]) none)
    (.seq (.seq (.reg none [
      ⟨(some 4), .mov (.c (.int .i64 0)), none⟩] (some [1, 2, 3, 4]) none)
    (.block 0 (.loop laws_toByteA6_L0)))
    (.seq (.reg none [
      ⟨(some 14), .load (some 6) (.t 3), none⟩,
      ⟨none, .store 6 (.t 2) (.t 14), none⟩] (some [2]) none)
    .ret))))
def laws_toByteA6_F : MF := ⟨15, [.c 2 (some 6)], laws_toByteA6_M⟩
-- loop.example/g01312/impl.ValidScheme
def impl_ValidScheme_L0 : MC :=
  (.seq (.reg none [
      ⟨(some 18), .bin .lss (.t 17) (.c (.int .i64 6)), none⟩] (some [1, 17, 18]) none)
    (.seq (.cond (.t 18) .skip
    (.exit 0))
    (.seq (.block 1 (.seq (.reg none [
      ⟨(some 19), .mov (.t 17), none⟩,
      ⟨(some 3), .mov (.t 19), none⟩] (some [1, 3, 17]) none)
    (.seq (.reg (some []) [
      ⟨(some 20), .mov (.t 3), none⟩,
      ⟨(some 21), .fa 2 (.t 1), none⟩,
      ⟨(some 22), .iaA 6 1 (.t 21) (.t 20), none⟩,
      ⟨(some 23), .load none (.t 22), none⟩,
      ⟨(some 24), .mov (.t 3), none⟩,
      ⟨(some 25), .fa 8 (.t 1), none⟩,
      ⟨(some 26), .iaA 6 1 (.t 25) (.t 24), none⟩,
      ⟨(some 27), .load none (.t 26), none⟩,
      ⟨(some 28), .bin .or (.t 23) (.t 27), none⟩,
      ⟨(some 4), .mov (.t 28), none⟩] (some [1, 3, 4, 17]) none)
    (.seq (.reg none [
      ⟨(some 29), .mov (.t 4), none⟩,
      ⟨(some 30), .fa 1 (.t 1), none⟩,
      ⟨(some 31), .load none (.t 30), none⟩,
      ⟨(some 32), .call 90 [(.t 31)], none⟩,
      ⟨(some 33), .bin .andNot (.t 29) (.t 32), none⟩,
      ⟨(some 34), .bin .neq (.t 33) (.c (.int .u8 0)), none⟩,
      ⟨(some 35), .mov (.t 34), none⟩,
      ⟨(some 36), .mov (.t 3), some (35, false)⟩,
      ⟨(some 37), .fa 0 (.t 1), some (35, false)⟩,
      ⟨(some 38), .load none (.t 37), some (35, false)⟩,
      ⟨(some 39), .conv .i64 (.t 38), some (35, false)⟩,
      ⟨(some 40), .bin .geq (.t 36) (.t 39), some (35, false)⟩,
      ⟨(some 41), .mov (.t 40), some (35, false)⟩,
      ⟨(some 42), .mov (.t 4), some (41, true)⟩,
      ⟨(some 43), .bin .neq (.t 42) (.c (.int .u8 0)), some (41, true)⟩,
      ⟨(some 44), .pick (.t 41) (.t 43) (.c (.bool false)), some (35, false)⟩,
      ⟨(some 45), .pick (.t 35) (.c (.bool true)) (.t 44), none⟩] (some [1, 17, 45]) none)
    (.cond (.t 45) (.seq (.reg none [
      ⟨(some 2), .mov (.c (.bool false)), none⟩] (some [2]) none)
    .ret)
    .skip)))))
    (.reg none [
      ⟨(some 46), .bin .add (.t 17) (.c (.int .i64 1)), none⟩,
      ⟨(some 17), .mov (.t 46), none⟩] (some [1, 17]) none))))
def impl_ValidScheme_M : MC :=
  (.seq (.reg none [
      ⟨(some 1), .box (.t 0), none⟩,
      ⟨(some 2), .mov (.c (.bool false)), none⟩] (some [1]) none)
    (.seq (.seq (.reg none [
      ⟨(some 5), .fa 0 (.t 1), none⟩,
      ⟨(some 6), .load none (.t 5), none⟩,
      ⟨(some 7), .conv .i64 (.t 6), none⟩,
      ⟨(some 8), .call 51 [(.t 7), (.c (.int .i64 1)), (.c (.int .i64 6))], none⟩,
      ⟨(some 9), .un .not (.t 8), none⟩,
      ⟨(some 10), .mov (.t 9), none⟩,
      ⟨(some 11), .fa 1 (.t 1), some (10, false)⟩,
      ⟨(some 12), .load none (.t 11), some (10, false)⟩,
      ⟨(some 13), .conv .i64 (.t 12), some (10, false)⟩,
      ⟨(some 14), .call 89 [(.t 13)], some (10, false)⟩,
      ⟨(some 15), .un .not (.t 14), some (10, false)⟩,
      ⟨(some 16), .pick (.t 10) (.c (.bool true)) (.t 15), none⟩] (some [1, 16]) none)
    (.cond (.t 16) (.seq (.reg none [
      ⟨(some 2), .mov (.c (.bool false)), none⟩] (some [2]) none)
    .ret)
    .skip))
    (.seq (.seq (.reg none [
      ⟨(some 17), .mov (.c (.int .i64 0)), none⟩] (some [1, 17]) none)
    (.block 0 (.loop impl_ValidScheme_L0)))
    (.seq (.reg none [
      ⟨(some 2), .mov (.c (.bool true)), none⟩] (some [2]) none)
    .ret))))
def impl_ValidScheme_F : MF := ⟨47, [.t 2], impl_ValidScheme_M⟩
-- loop.example/g01312/laws.eqByteA6
def laws_eqByteA6_L0 : MC :=
  (.seq (.seq (.reg none [
      ⟨(some 6), .mov (.t 5), none⟩,
      ⟨(some 7), .bin .lss (.t 6) (.c (.int .i64 6)), none⟩] (some [2, 3, 5, 7]) none)
    (.cond (.t 7) .skip
    (.exit 0)))
    (.seq (.block 1 (.seq (.reg (some []) [
      ⟨(some 10), .mov (.t 5), none⟩,
      ⟨(some 11), .iaA 6 1 (.t 2) (.t 10), none⟩,
      ⟨(some 12), .load none (.t 11), none⟩,
      ⟨(some 13), .mov (.t 5), none⟩,
      ⟨(some 14), .iaA 6 1 (.t 3) (.t 13), none⟩,
      ⟨(some 15), .load none (.t 14), none⟩,
      ⟨(some 16), .bin .neq (.t 12) (.t 15), none⟩] (some [2, 3, 5, 16]) none)
    (.cond (.t 16) (.seq (.reg none [
      ⟨(some 4), .mov (.c (.bool false)), none⟩] (some [4]) none)
    .ret)
    .skip)))
    (.reg none [
      ⟨(some 8), .mov (.t 5), none⟩,
      ⟨(some 9), .bin .add (.t 8) (.c (.int .i64 1)), none⟩,
      ⟨(some 5), .mov (.t 9), none⟩] (some [2, 3, 5]) none)))
def laws_eqByteA6_M : MC :=
  (.seq (.reg none [
      ⟨(some 2), .box (.t 0), none⟩,
      ⟨(some 3), .box (.t 1), none⟩,
      ⟨(some 4), .mov (.c (.bool false)), none⟩] (some [2, 3]) none)
    (.seq (.seq (.reg none [
      ⟨(some 5), .mov (.c (.int .i64 0)), none⟩] (some [2, 3, 5]) none)
    (.block 0 (.loop laws_eqByteA6_L0)))
    (.seq (.reg none [
      ⟨(some 4), .mov (.c (.bool true)), none⟩] (some [4]) none)
    .ret)))
def laws_eqByteA6_F : MF := ⟨17, [.t 4], laws_eqByteA6_M⟩
-- loop.example/g01312/impl.areLayers
def impl_areLayers_L0 : MC :=
  (.seq (.reg none [
      ⟨(some 8), .bin .lss (.t 7) (.t 6), none⟩] (some [5, 6, 7, 8]) none)
    (.seq (.cond (.t 8) .skip
    (.exit 0))
    (.seq (.block 1 (.seq (.reg none [
      ⟨(some 9), .iaS 65 (.t 5) (.t 7), none⟩,
      ⟨(some 10), .load (some 65) (.t 9), none⟩,
      ⟨(some 4), .new (rl [(1, .int .i8 0), (64, .int .u8 0)]), none⟩,
      ⟨none, .store 65 (.t 4) (.t 10), none⟩] (some [4, 5, 6, 7]) none)
    (.seq (.reg none [
      ⟨(some 11), .load (some 65) (.t 4), none⟩,
      ⟨(some 12), .call 50 [(.t 11)], none⟩,
      ⟨(some 13), .un .not (.t 12), none⟩] (some [5, 6, 7, 13]) none)
    (.cond (.t 13) (.seq (.reg none [
      ⟨(some 2), .mov (.c (.bool false)), none⟩] (some [2]) none)
    .ret)
    .skip))))
    (.reg none [
      ⟨(some 14), .bin .add (.t 7) (.c (.int .i64 1)), none⟩,
      ⟨(some 7), .mov (.t 14), none⟩] (some [5, 6, 7]) (some 0)))))
def impl_areLayers_M : MC :=
  (.seq (.reg none [
      ⟨(some 2), .mov (.c (.bool false)), none⟩] (some [0]) none)
    (.seq (.seq (.reg none [
      ⟨(some 5), .mov (.t 0), none⟩,
      ⟨(some 6), .lenS (.t 5), none⟩,
      ⟨(some 7), .mov (.c (.int .i64 0)), none⟩] (some [5, 6, 7]) none)
    (.block 0 (.loop impl_areLayers_L0)))
    (.seq (.reg none [
      ⟨(some 2), .mov (.c (.bool true)), none⟩] (some [2]) none)
    .ret)))
def impl_areLayers_F : MF := ⟨15, [.t 2], impl_areLayers_M⟩
-- loop.example/g01312/impl.joined
def impl_joined_M : MC :=
  (.seq (.reg none [
      ⟨(some 2), .box (.t 0), none⟩,
      ⟨(some 3), .box (.t 1), none⟩,
      ⟨(some 4), .new (rl [(1, .int .i8 0), (64, .int .u8 0)]), none⟩] (some [2, 3, 4]) none)
    (.seq (.reg none [
      ⟨(some 6), .load (some 65) (.t 2), none⟩,
      ⟨(some 7), .mkf 94 [] [(.t 2), (.t 3)], none⟩,
      ⟨(some 8), .call 83 [(.t 6), (.t 7)], none⟩,
      ⟨(some 5), .new (rl [(1, .int .i8 0), (64, .int .u8 0)]), none⟩,
      ⟨none, .store 65 (.t 5) (.t 8), none⟩] (some [2, 3, 4, 5]) none)
    (.seq (.reg none [
      ⟨(some 9), .fa 0 (.t 2), none⟩,
      ⟨(some 10), .load none (.t 9), none⟩,
      ⟨(some 11), .fa 0 (.t 3), none⟩,
      ⟨(some 12), .load none (.t 11), none⟩,
      ⟨(some 13), .bin .add (.t 10) (.t 12), none⟩,
      ⟨(some 14), .fa 0 (.t 5), none⟩,
      ⟨none, .store 1 (.t 14) (.t 13), none⟩] (some [4, 5]) none)
    (.seq (.reg none [
      ⟨(some 15), .load (some 65) (.t 5), none⟩,
      ⟨none, .store 65 (.t 4) (.t 15), none⟩] (some [4]) none)
    .ret))))
def impl_joined_F : MF := ⟨16, [.c 4 (some 65)], impl_joined_M⟩
-- loop.example/g01312/laws.eqByteA64
def laws_eqByteA64_L0 : MC :=
  (.seq (.seq (.reg none [
      ⟨(some 6), .mov (.t 5), none⟩,
      ⟨(some 7), .bin .lss (.t 6) (.c (.int .i64 64)), none⟩] (some [2, 3, 5, 7]) none)
    (.cond (.t 7) .skip
    (.exit 0)))
    (.seq (.block 1 (.seq (.reg (some []) [
      ⟨(some 10), .mov (.t 5), none⟩,
      ⟨(some 11), .iaA 64 1 (.t 2) (.t 10), none⟩,
      ⟨(some 12), .load none (.t 11), none⟩,
      ⟨(some 13), .mov (.t 5), none⟩,
      ⟨(some 14), .iaA 64 1 (.t 3) (.t 13), none⟩,
      ⟨(some 15), .load none (.t 14), none⟩,
      ⟨(some 16), .bin .neq (.t 12) (.t 15), none⟩] (some [2, 3, 5, 16]) none)
    (.cond (.t 16) (.seq (.reg none [
      ⟨(some 4), .mov (.c (.bool false)), none⟩] (some [4]) none)
    .ret)
    .skip)))
    (.reg none [
      ⟨(some 8), .mov (.t 5), none⟩,
      ⟨(some 9), .bin .add (.t 8) (.c (.int .i64 1)), none⟩,
      ⟨(some 5), .mov (.t 9), none⟩] (some [2, 3, 5]) none)))
def laws_eqByteA64_M : MC :=
  (.seq (.reg none [
      ⟨(some 2), .box (.t 0), none⟩,
      ⟨(some 3), .box (.t 1), none⟩,
      ⟨(some 4), .mov (.c (.bool false)), none⟩] (some [2, 3]) none)
    (.seq (.seq (.reg none [
      ⟨(some 5), .mov (.c (.int .i64 0)), none⟩] (some [2, 3, 5]) none)
    (.block 0 (.loop laws_eqByteA64_L0)))
    (.seq (.reg none [
      ⟨(some 4), .mov (.c (.bool true)), none⟩] (some [4]) none)
    .ret)))
def laws_eqByteA64_F : MF := ⟨17, [.t 4], laws_eqByteA64_M⟩
-- loop.example/g01312/spec.l01Carried
def spec_l01Carried_L0 : MC :=
  (.seq (.seq (.reg none [
      ⟨(some 17), .mov (.t 10), none⟩,
      ⟨(some 18), .bin .lss (.t 17) (.c (.int .i64 64)), none⟩] (some [0, 1, 2, 3, 8, 9, 10, 18]) none)
    (.cond (.t 18) .skip
    (.exit 0)))
    (.seq (.block 1 (.seq (.reg none [
      ⟨(some 21), .mov (.t 10), none⟩,
      ⟨(some 22), .mov (.t 1), none⟩,
      ⟨(some 23), .mov (.t 2), none⟩,
      ⟨(some 24), .mov (.t 3), none⟩,
      ⟨(some 25), .call 95 [(.t 21), (.t 22), (.t 23), (.t 24)], none⟩,
      ⟨(some 11), .mov (.t 25), none⟩] (some [0, 1, 2, 3, 8, 9, 10, 11]) none)
    (.seq (.reg none [
      ⟨(some 26), .mov (.t 11), none⟩,
      ⟨(some 27), .bin .geq (.t 26) (.c (.int .i64 0)), none⟩] (some [0, 1, 2, 3, 8, 9, 10, 11, 27]) none)
    (.cond (.t 27) (.reg none [
      ⟨(some 28), .mov (.t 10), none⟩,
      ⟨(some 29), .mov (.t 0), none⟩,
      ⟨(some 30), .mov (.t 11), none⟩,
      ⟨(some 31), .nilc (.t 29), none⟩,
      ⟨(some 32), .fa 1 (.t 31), none⟩,
      ⟨(some 33), .iaA 64 1 (.t 32) (.t 30), none⟩,
      ⟨(some 34), .load none (.t 33), none⟩,
      ⟨(some 35), .fa 1 (.t 9), none⟩,
      ⟨(some 36), .iaA 64 1 (.t 35) (.t 28), none⟩,
      ⟨none, .store 1 (.t 36) (.t 34), none⟩] (some [0, 1, 2, 3, 8, 9, 10]) none)
    .skip))))
    (.reg none [
      ⟨(some 19), .mov (.t 10), none⟩,
      ⟨(some 20), .bin .add (.t 19) (.c (.int .i64 1)), none⟩,
      ⟨(some 10), .mov (.t 20), none⟩] (some [0, 1, 2, 3, 8, 9, 10]) none)))
def spec_l01Carried_M : MC :=
  (.seq (.reg none [
      ⟨(some 8), .new (rl [(1, .int .i8 0), (64, .int .u8 0)]), none⟩] (some [0, 1, 2, 3, 8]) none)
    (.seq (.reg none [
      ⟨(some 12), .mov (.t 0), none⟩,
      ⟨(some 13), .nilc (.t 12), none⟩,
      ⟨(some 14), .fa 0 (.t 13), none⟩,
      ⟨(some 15), .load none (.t 14), none⟩,
      ⟨(some 16), .bld (rl [(1, .int .i8 0), (64, .int .u8 0)]) [(0, 1, (.t 15))], none⟩,
      ⟨(some 9), .new (rl [(1, .int .i8 0), (64, .int .u8 0)]), none⟩,
      ⟨none, .store 65 (.t 9) (.t 16), none⟩] (some [0, 1, 2, 3, 8, 9]) none)
    (.seq (.seq (.reg none [
      ⟨(some 10), .mov (.c (.int .i64 0)), none⟩] (some [0, 1, 2, 3, 8, 9, 10]) none)
    (.block 0 (.loop spec_l01Carried_L0)))
    (.seq (.reg none [
      ⟨(some 37), .load (some 65) (.t 9), none⟩,
      ⟨none, .store 65 (.t 8) (.t 37), none⟩] (some [8]) none)
    .ret))))
def spec_l01Carried_F : MF := ⟨38, [.c 8 (some 65)], spec_l01Carried_M⟩
-- loop.example/g01312/impl.changed
def impl_changed_M : MC :=
  (.seq (.reg none [
      ⟨(some 2), .box (.t 0), none⟩,
      ⟨(some 4), .new (rl [(1, .int .i8 0), (64, .int .u8 0)]), none⟩,
      ⟨(some 5), .mov (.c (.int .i64 0)), none⟩] (some [1, 2, 4]) none)
    (.seq (.seq (.reg none [
      ⟨(some 6), .load (some 65) (.t 2), none⟩,
      ⟨(some 7), .call 50 [(.t 6)], none⟩,
      ⟨(some 8), .un .not (.t 7), none⟩] (some [1, 2, 4, 8]) none)
    (.cond (.t 8) (.seq (.reg none [
      ⟨(some 9), .bld (rl [(1, .int .i8 0), (64, .int .u8 0)]) [], none⟩,
      ⟨none, .store 65 (.t 4) (.t 9), none⟩,
      ⟨(some 5), .mov (.c (.int .i64 1)), none⟩] (some [4, 5]) none)
    .ret)
    .skip))
    (.seq (.reg none [
      ⟨(some 10), .load (some 65) (.t 2), none⟩,
      ⟨(some 11), .mov (.t 1), none⟩,
      ⟨(some 12), .call 83 [(.t 10), (.t 11)], none⟩,
      ⟨none, .store 65 (.t 4) (.t 12), none⟩,
      ⟨(some 5), .mov (.c (.int .i64 0)), none⟩] (some [4, 5]) none)
    .ret)))
def impl_changed_F : MF := ⟨13, [.c 4 (some 65), .t 5], impl_changed_M⟩
-- loop.example/g01312/impl.MirrorLayer$1
def impl_MirrorLayer_1_M : MC :=
  (.seq (.reg none [
      ⟨(some 3), .mov (.c (.int .u8 0)), none⟩] (some [0, 1]) none)
    (.seq (.reg none [
      ⟨(some 4), .mov (.t 0), none⟩,
      ⟨(some 5), .call 63 [(.t 4)], none⟩,
      ⟨(some 6), .fa 1 (.t 1), none⟩,
      ⟨(some 7), .iaA 64 1 (.t 6) (.t 5), none⟩,
      ⟨(some 8), .load none (.t 7), none⟩,
      ⟨(some 3), .mov (.t 8), none⟩] (some [3]) none)
    .ret))
def impl_MirrorLayer_1_F : MF := ⟨9, [.t 3], impl_MirrorLayer_1_M⟩
-- loop.example/g01312/impl.mirrored
def impl_mirrored_M : MC :=
  (.seq (.reg none [
      ⟨(some 2), .mov (.c (.int .i64 0)), none⟩] (some [0]) none)
    (.seq (.reg none [
      ⟨(some 3), .mov (.t 0), none⟩,
      ⟨(some 4), .bin .rem (.t 3) (.c (.int .i64 8)), none⟩,
      ⟨(some 5), .bin .sub (.c (.int .i64 7)) (.t 4), none⟩,
      ⟨(some 6), .mov (.t 0), none⟩,
      ⟨(some 7), .bin .quo (.t 6) (.c (.int .i64 8)), none⟩,
      ⟨(some 8), .bin .mul (.c (.int .i64 8)) (.t 7), none⟩,
      ⟨(some 9), .bin .add (.t 5) (.t 8), none⟩,
      ⟨(some 2), .mov (.t 9), none⟩] (some [2]) none)
    .ret))
def impl_mirrored_F : MF := ⟨10, [.t 2], impl_mirrored_M⟩
-- loop.example/g01312/impl.TurnLayer$1
def impl_TurnLayer_1_M : MC :=
  (.seq (.reg none [
      ⟨(some 3), .mov (.c (.int .u8 0)), none⟩] (some [0, 1]) none)
    (.seq (.reg none [
      ⟨(some 4), .mov (.t 0), none⟩,
      ⟨(some 5), .call 65 [(.t 4)], none⟩,
      ⟨(some 6), .fa 1 (.t 1), none⟩,
      ⟨(some 7), .iaA 64 1 (.t 6) (.t 5), none⟩,
      ⟨(some 8), .load none (.t 7), none⟩,
      ⟨(some 3), .mov (.t 8), none⟩] (some [3]) none)
    .ret))
def impl_TurnLayer_1_F : MF := ⟨9, [.t 3], impl_TurnLayer_1_M⟩
-- loop.example/g01312/impl.turned
def impl_turned_M : MC :=
  (.seq (.reg none [
      ⟨(some 2), .mov (.c (.int .i64 0)), none⟩] (some [0]) none)
    (.seq (.reg none [
      ⟨(some 3), .mov (.t 0), none⟩,
      ⟨(some 4), .bin .quo (.t 3) (.c (.int .i64 8)), none⟩,
      ⟨(some 5), .mov (.t 0), none⟩,
      ⟨(some 6), .bin .rem (.t 5) (.c (.int .i64 8)), none⟩,
      ⟨(some 7), .bin .sub (.c (.int .i64 7)) (.t 6), none⟩,
      ⟨(some 8), .bin .mul (.c (.int .i64 8)) (.t 7), none⟩,
      ⟨(some 9), .bin .add (.t 4) (.t 8), none⟩,
      ⟨(some 2), .mov (.t 9), none⟩] (some [2]) none)
    .ret))
def impl_turned_F : MF := ⟨10, [.t 2], impl_turned_M⟩
-- loop.example/g01312/spec.ValidScheme
def spec_ValidScheme_M : MC :=
  (.seq (.reg none [
      ⟨(some 1), .box (.t 0), none⟩,
      ⟨(some 2), .mov (.c (.bool false)), none⟩] (some [1]) none)
    (.seq (.reg none [
      ⟨(some 3), .call 53 [(.t 1)], none⟩,
      ⟨(some 2), .mov (.t 3), none⟩] (some [2]) none)
    .ret))
def spec_ValidScheme_F : MF := ⟨4, [.t 2], spec_ValidScheme_M⟩
-- loop.example/g01312/spec.l03Set
def spec_l03Set_M : MC :=
  (.seq (.reg none [
      ⟨(some 4), .mov (.c (.bool false)), none⟩] (some [0, 1]) none)
    (.seq (.reg none [
      ⟨(some 5), .mov (.t 1), none⟩,
      ⟨(some 6), .bin .neq (.t 5) (.c (.int .u8 0)), none⟩,
      ⟨(some 7), .mov (.t 6), none⟩,
      ⟨(some 8), .mov (.t 1), some (7, true)⟩,
      ⟨(some 9), .mov (.t 0), some (7, true)⟩,
      ⟨(some 10), .nilc (.t 9), some (7, true)⟩,
      ⟨(some 11), .fa 0 (.t 10), some (7, true)⟩,
      ⟨(some 12), .load none (.t 11), some (7, true)⟩,
      ⟨(some 13), .conv .u64 (.t 12), some (7, true)⟩,
      ⟨(some 14), .bin .shr (.t 8) (.t 13), some (7, true)⟩,
      ⟨(some 15), .bin .eql (.t 14) (.c (.int .u8 0)), some (7, true)⟩,
      ⟨(some 16), .pick (.t 7) (.t 15) (.c (.bool false)), none⟩,
      ⟨(some 4), .mov (.t 16), none⟩] (some [4]) none)
    .ret))
def spec_l03Set_F : MF := ⟨17, [.t 4], spec_l03Set_M⟩
-- loop.example/g01312/spec.l03Sees
def spec_l03Sees_L0 : MC :=
  (.seq (.seq (.reg none [
      ⟨(some 9), .mov (.t 8), none⟩,
      ⟨(some 10), .mov (.t 0), none⟩,
      ⟨(some 11), .nilc (.t 10), none⟩,
      ⟨(some 12), .fa 0 (.t 11), none⟩,
      ⟨(some 13), .load none (.t 12), none⟩,
      ⟨(some 14), .conv .i64 (.t 13), none⟩,
      ⟨(some 15), .bin .lss (.t 9) (.t 14), none⟩] (some [0, 1, 6, 7, 8, 15]) none)
    (.cond (.t 15) .skip
    (.exit 0)))
    (.seq (.block 1 (.seq (.reg none [
      ⟨(some 18), .mov (.t 1), none⟩,
      ⟨(some 19), .mov (.t 8), none⟩,
      ⟨(some 20), .conv .u64 (.t 19), none⟩,
      ⟨(some 21), .bin .shr (.t 18) (.t 20), none⟩,
      ⟨(some 22), .bin .and (.t 21) (.c (.int .u8 1)), none⟩,
      ⟨(some 23), .bin .eql (.t 22) (.c (.int .u8 1)), none⟩] (some [0, 1, 6, 7, 8, 23]) none)
    (.cond (.t 23) (.seq (.reg none [
      ⟨(some 24), .mov (.t 6), none⟩,
      ⟨(some 25), .mov (.t 0), none⟩,
      ⟨(some 26), .mov (.t 8), none⟩,
      ⟨(some 27), .nilc (.t 25), none⟩,
      ⟨(some 28), .fa 2 (.t 27), none⟩,
      ⟨(some 29), .iaA 6 1 (.t 28) (.t 26), none⟩,
      ⟨(some 30), .load none (.t 29), none⟩,
      ⟨(some 31), .bin .or (.t 24) (.t 30), none⟩,
      ⟨(some 6), .mov (.t 31), none⟩] (some [0, 1, 6, 7, 8]) none)
    (.reg none [
      ⟨(some 32), .mov (.t 7), none⟩,
      ⟨(some 33), .mov (.t 0), none⟩,
      ⟨(some 34), .mov (.t 8), none⟩,
      ⟨(some 35), .nilc (.t 33), none⟩,
      ⟨(some 36), .fa 8 (.t 35), none⟩,
      ⟨(some 37), .iaA 6 1 (.t 36) (.t 34), none⟩,
      ⟨(some 38), .load none (.t 37), none⟩,
      ⟨(some 39), .bin .or (.t 32) (.t 38), none⟩,
      ⟨(some 7), .mov (.t 39), none⟩] (some [0, 1, 6, 7, 8]) none))
    .skip)))
    (.reg none [
      ⟨(some 16), .mov (.t 8), none⟩,
      ⟨(some 17), .bin .add (.t 16) (.c (.int .i64 1)), none⟩,
      ⟨(some 8), .mov (.t 17), none⟩] (some [0, 1, 6, 7, 8]) none)))
def spec_l03Sees_M : MC :=
  (.seq (.reg none [
      ⟨(some 4), .mov (.c (.int .i64 0)), none⟩,
      ⟨(some 5), .mov (.c (.int .i64 0)), none⟩] (some [0, 1]) none)
    (.seq (.reg none [
      ⟨(some 6), .mov (.c (.int .u8 0)), none⟩] (some [0, 1, 6]) none)
    (.seq (.reg none [
      ⟨(some 7), .mov (.c (.int .u8 0)), none⟩] (some [0, 1, 6, 7]) none)
    (.seq (.seq (.reg none [
      ⟨(some 8), .mov (.c (.int .i64 0)), none⟩] (some [0, 1, 6, 7, 8]) none)
    (.block 0 (.loop spec_l03Sees_L0)))
    (.seq (.reg none [
      ⟨(some 40), .mov (.t 6), none⟩,
      ⟨(some 41), .conv .u64 (.t 40), none⟩,
      ⟨(some 42), .call 77 [(.t 41)], none⟩,
      ⟨(some 43), .mov (.t 7), none⟩,
      ⟨(some 44), .conv .u64 (.t 43), none⟩,
      ⟨(some 45), .call 77 [(.t 44)], none⟩,
      ⟨(some 4), .mov (.t 42), none⟩,
      ⟨(some 5), .mov (.t 45), none⟩] (some [4, 5]) none)
    .ret)))))
def spec_l03Sees_F : MF := ⟨46, [.t 4, .t 5], spec_l03Sees_M⟩
-- (loop.example/g01312/impl.Scheme).isSet
def impl_Scheme_isSet_M : MC :=
  (.seq (.reg none [
      ⟨(some 2), .box (.t 0), none⟩,
      ⟨(some 4), .mov (.c (.bool false)), none⟩] (some [1, 2]) none)
    (.seq (.reg none [
      ⟨(some 5), .fa 0 (.t 2), none⟩,
      ⟨(some 6), .load none (.t 5), none⟩,
      ⟨(some 7), .bin .geq (.t 6) (.c (.int .i8 0)), none⟩,
      ⟨(some 8), .mov (.t 7), none⟩,
      ⟨(some 9), .mov (.t 1), some (8, true)⟩,
      ⟨(some 10), .load (some 14) (.t 2), some (8, true)⟩,
      ⟨(some 11), .call 96 [(.t 10)], some (8, true)⟩,
      ⟨(some 12), .bin .andNot (.t 9) (.t 11), some (8, true)⟩,
      ⟨(some 13), .bin .eql (.t 12) (.c (.int .u8 0)), some (8, true)⟩,
      ⟨(some 14), .pick (.t 8) (.t 13) (.c (.bool false)), none⟩,
      ⟨(some 4), .mov (.t 14), none⟩] (some [4]) none)
    .ret))
def impl_Scheme_isSet_F : MF := ⟨15, [.t 4], impl_Scheme_isSet_M⟩
-- (loop.example/g01312/impl.Scheme).sees
def impl_Scheme_sees_M : MC :=
  (.seq (.reg none [
      ⟨(some 2), .box (.t 0), none⟩,
      ⟨(some 4), .mov (.c (.bool false)), none⟩] (some [1, 2]) none)
    (.seq (.reg none [
      ⟨(some 5), .load (some 14) (.t 2), none⟩,
      ⟨(some 6), .mov (.t 1), none⟩,
      ⟨(some 7), .call 76 [(.t 5), (.t 6)], none⟩,
      ⟨(some 8), .bin .gtr (.t 7) (.c (.int .i64 0)), none⟩,
      ⟨(some 4), .mov (.t 8), none⟩] (some [4]) none)
    .ret))
def impl_Scheme_sees_F : MF := ⟨9, [.t 4], impl_Scheme_sees_M⟩
-- (loop.example/g01312/impl.Scheme).weight
def impl_Scheme_weight_L0 : MC :=
  (.seq (.reg none [
      ⟨(some 13), .bin .lss (.t 12) (.c (.int .i64 6)), none⟩] (some [1, 7, 11, 12, 13]) none)
    (.seq (.cond (.t 13) .skip
    (.exit 0))
    (.seq (.block 1 (.seq (.reg (some []) [
      ⟨(some 14), .mov (.t 12), none⟩,
      ⟨(some 15), .nilc (.t 11), none⟩,
      ⟨(some 16), .iaA 6 1 (.t 15) (.t 12), none⟩,
      ⟨(some 17), .load none (.t 16), none⟩,
      ⟨(some 8), .mov (.t 14), none⟩,
      ⟨(some 9), .mov (.t 17), none⟩] (some [1, 7, 8, 9, 11, 12]) none)
    (.seq (.reg none [
      ⟨(some 18), .mov (.t 1), none⟩,
      ⟨(some 19), .mov (.t 8), none⟩,
      ⟨(some 20), .bin .shr (.t 18) (.t 19), none⟩,
      ⟨(some 21), .bin .and (.t 20) (.c (.int .u8 1)), none⟩,
      ⟨(some 22), .bin .eql (.t 21) (.c (.int .u8 1)), none⟩] (some [1, 7, 9, 11, 12, 22]) none)
    (.cond (.t 22) (.reg none [
      ⟨(some 23), .mov (.t 7), none⟩,
      ⟨(some 24), .mov (.t 9), none⟩,
      ⟨(some 25), .bin .or (.t 23) (.t 24), none⟩,
      ⟨(some 7), .mov (.t 25), none⟩] (some [1, 7, 11, 12]) none)
    .skip))))
    (.reg none [
      ⟨(some 26), .bin .add (.t 12) (.c (.int .i64 1)), none⟩,
      ⟨(some 12), .mov (.t 26), none⟩] (some [1, 7, 11, 12]) none))))
def impl_Scheme_weight_M : MC :=
  (.seq (.reg none [
      ⟨(some 3), .box (.t 0), none⟩,
      ⟨(some 6), .mov (.c (.int .i64 0)), none⟩] (some [1, 2, 3]) none)
    (.seq (.reg none [
      ⟨(some 7), .mov (.c (.int .u8 0)), none⟩] (some [1, 2, 3, 7]) none)
    (.seq (.seq (.reg none [
      ⟨(some 10), .mov (.t 2), none⟩,
      ⟨(some 11), .call 97 [(.t 3), (.t 10)], none⟩,
      ⟨(some 12), .mov (.c (.int .i64 0)), none⟩] (some [1, 7, 11, 12]) none)
    (.block 0 (.loop impl_Scheme_weight_L0)))
    (.seq (.reg none [
      ⟨(some 27), .mov (.t 7), none⟩,
      ⟨(some 28), .call 98 [(.t 27)], none⟩,
      ⟨(some 6), .mov (.t 28), none⟩] (some [6]) none)
    .ret))))
def impl_Scheme_weight_F : MF := ⟨29, [.t 6], impl_Scheme_weight_M⟩
-- loop.example/g01312/spec.l02Asked
def spec_l02Asked_M : MC :=
  (.seq (.reg none [
      ⟨(some 4), .mov (.c (.int .i64 0)), none⟩] (some [0, 1]) none)
    (.seq (.seq (.reg none [
      ⟨(some 5), .mov (.t 0), none⟩,
      ⟨(some 6), .call 53 [(.t 5)], none⟩,
      ⟨(some 7), .un .not (.t 6), none⟩] (some [0, 1, 7]) none)
    (.cond (.t 7) (.seq (.reg none [
      ⟨(some 4), .mov (.c (.int .i64 1)), none⟩] (some [4]) none)
    .ret)
    .skip))
    (.seq (.seq (.reg none [
      ⟨(some 8), .mov (.t 1), none⟩,
      ⟨(some 9), .mov (.t 0), none⟩,
      ⟨(some 10), .nilc (.t 9), none⟩,
      ⟨(some 11), .fa 0 (.t 10), none⟩,
      ⟨(some 12), .load none (.t 11), none⟩,
      ⟨(some 13), .conv .u64 (.t 12), none⟩,
      ⟨(some 14), .bin .shr (.t 8) (.t 13), none⟩,
      ⟨(some 15), .bin .neq (.t 14) (.c (.int .u8 0)), none⟩] (some [15]) none)
    (.cond (.t 15) (.seq (.reg none [
      ⟨(some 4), .mov (.c (.int .i64 2)), none⟩] (some [4]) none)
    .ret)
    .skip))
    (.seq (.reg none [
      ⟨(some 4), .mov (.c (.int .i64 0)), none⟩] (some [4]) none)
    .ret))))
def spec_l02Asked_F : MF := ⟨16, [.t 4], spec_l02Asked_M⟩
-- loop.example/g01312/spec.l02Weight
def spec_l02Weight_L0 : MC :=
  (.seq (.seq (.reg none [
      ⟨(some 13), .mov (.t 9), none⟩,
      ⟨(some 14), .bin .lss (.t 13) (.c (.int .i64 6)), none⟩] (some [1, 7, 8, 9, 14]) none)
    (.cond (.t 14) .skip
    (.exit 0)))
    (.seq (.block 1 (.seq (.reg none [
      ⟨(some 17), .mov (.t 1), none⟩,
      ⟨(some 18), .mov (.t 9), none⟩,
      ⟨(some 19), .conv .u64 (.t 18), none⟩,
      ⟨(some 20), .bin .shr (.t 17) (.t 19), none⟩,
      ⟨(some 21), .bin .and (.t 20) (.c (.int .u8 1)), none⟩,
      ⟨(some 22), .bin .eql (.t 21) (.c (.int .u8 1)), none⟩] (some [1, 7, 8, 9, 22]) none)
    (.cond (.t 22) (.reg none [
      ⟨(some 23), .mov (.t 8), none⟩,
      ⟨(some 24), .mov (.t 9), none⟩,
      ⟨(some 25), .iaA 6 1 (.t 7) (.t 24), none⟩,
      ⟨(some 26), .load none (.t 25), none⟩,
      ⟨(some 27), .bin .or (.t 23) (.t 26), none⟩,
      ⟨(some 8), .mov (.t 27), none⟩] (some [1, 7, 8, 9]) none)
    .skip)))
    (.reg none [
      ⟨(some 15), .mov (.t 9), none⟩,
      ⟨(some 16), .bin .add (.t 15) (.c (.int .i64 1)), none⟩,
      ⟨(some 9), .mov (.t 16), none⟩] (some [1, 7, 8, 9]) none)))
def spec_l02Weight_M : MC :=
  (.seq (.reg none [
      ⟨(some 6), .mov (.c (.int .i64 0)), none⟩] (some [0, 1, 2]) none)
    (.seq (.reg none [
      ⟨(some 10), .mov (.t 0), none⟩,
      ⟨(some 11), .mov (.t 2), none⟩,
      ⟨(some 12), .call 99 [(.t 10), (.t 11)], none⟩,
      ⟨(some 7), .new (rl [(6, .int .u8 0)]), none⟩,
      ⟨none, .store 6 (.t 7) (.t 12), none⟩] (some [1, 7]) none)
    (.seq (.reg none [
      ⟨(some 8), .mov (.c (.int .u8 0)), none⟩] (some [1, 7, 8]) none)
    (.seq (.seq (.reg none [
      ⟨(some 9), .mov (.c (.int .i64 0)), none⟩] (some [1, 7, 8, 9]) none)
    (.block 0 (.loop spec_l02Weight_L0)))
    (.seq (.reg none [
      ⟨(some 28), .mov (.t 8), none⟩,
      ⟨(some 29), .conv .u64 (.t 28), none⟩,
      ⟨(some 30), .call 77 [(.t 29)], none⟩,
      ⟨(some 6), .mov (.t 30), none⟩] (some [6]) none)
    .ret)))))
def spec_l02Weight_F : MF := ⟨31, [.t 6], spec_l02Weight_M⟩
-- loop.example/g01312/impl.setCode
def impl_setCode_M : MC :=
  (.seq (.reg none [
      ⟨(some 2), .box (.t 0), none⟩,
      ⟨(some 4), .mov (.c (.int .i64 0)), none⟩] (some [1, 2]) none)
    (.seq (.reg (some [(1, 4), (0, 6), (0, 9), (1, 9), (4, 9), (6, 9), (0, 10), (1, 10), (4, 10)]) [
      ⟨(some 5), .load (some 14) (.t 2), none⟩,
      ⟨(some 6), .call 55 [(.t 5)], none⟩,
      ⟨(some 7), .un .not (.t 6), none⟩,
      ⟨(some 8), .bld [.bool false, .int .i64 0] [(0, 1, (.t 7)), (1, 1, (.c (.int .i64 1)))], none⟩,
      ⟨(some 9), .load (some 14) (.t 2), none⟩,
      ⟨(some 10), .mov (.t 1), none⟩,
      ⟨(some 11), .call 69 [(.t 9), (.t 10)], none⟩,
      ⟨(some 12), .un .not (.t 11), none⟩,
      ⟨(some 13), .bld [.bool false, .int .i64 0] [(0, 1, (.t 12)), (1, 1, (.c (.int .i64 2)))], none⟩,
      ⟨(some 14), .bldS [.bool false, .int .i64 0] 2 [(0, 2, (.t 8)), (2, 2, (.t 13))], none⟩,
      ⟨(some 15), .call 49 [(.t 14)], none⟩,
      ⟨(some 4), .mov (.t 15), none⟩] (some [4]) none)
    .ret))
def impl_setCode_F : MF := ⟨16, [.t 4], impl_setCode_M⟩
-- loop.example/g01312/spec.l02Gap
def spec_l02Gap_M : MC :=
  (.seq (.reg none [
      ⟨(some 4), .mov (.c (.int .i64 0)), none⟩] (some [0, 1]) none)
    (.seq (.reg none [
      ⟨(some 5), .mov (.t 0), none⟩,
      ⟨(some 6), .mov (.t 1), none⟩,
      ⟨(some 7), .call 73 [(.t 5), (.t 6), (.c (.bool true))], none⟩,
      ⟨(some 8), .mov (.t 0), none⟩,
      ⟨(some 9), .mov (.t 1), none⟩,
      ⟨(some 10), .call 73 [(.t 8), (.t 9), (.c (.bool false))], none⟩,
      ⟨(some 11), .bin .sub (.t 7) (.t 10), none⟩,
      ⟨(some 4), .mov (.t 11), none⟩] (some [4]) none)
    .ret))
def spec_l02Gap_F : MF := ⟨12, [.t 4], spec_l02Gap_M⟩
-- (loop.example/g01312/impl.Scheme).gap
def impl_Scheme_gap_M : MC :=
  (.seq (.reg none [
      ⟨(some 2), .box (.t 0), none⟩,
      ⟨(some 4), .mov (.c (.int .i64 0)), none⟩] (some [1, 2]) none)
    (.seq (.reg (some [(2, 3), (0, 5)]) [
      ⟨(some 5), .load (some 14) (.t 2), none⟩,
      ⟨(some 6), .mov (.t 1), none⟩,
      ⟨(some 7), .call 71 [(.t 5), (.t 6), (.c (.bool true))], none⟩,
      ⟨(some 8), .load (some 14) (.t 2), none⟩,
      ⟨(some 9), .mov (.t 1), none⟩,
      ⟨(some 10), .call 71 [(.t 8), (.t 9), (.c (.bool false))], none⟩,
      ⟨(some 11), .bin .sub (.t 7) (.t 10), none⟩,
      ⟨(some 4), .mov (.t 11), none⟩] (some [4]) none)
    .ret))
def impl_Scheme_gap_F : MF := ⟨12, [.t 4], impl_Scheme_gap_M⟩
-- loop.example/g01312/spec.l01Count
def spec_l01Count_L0 : MC :=
  (.seq (.seq (.reg none [
      ⟨(some 4), .mov (.t 0), none⟩,
      ⟨(some 5), .bin .neq (.t 4) (.c (.int .u64 0)), none⟩] (some [0, 3, 5]) none)
    (.cond (.t 5) .skip
    (.exit 0)))
    (.seq (.block 1 (.reg none [
      ⟨(some 8), .mov (.t 3), none⟩,
      ⟨(some 9), .mov (.t 0), none⟩,
      ⟨(some 10), .bin .and (.t 9) (.c (.int .u64 1)), none⟩,
      ⟨(some 11), .conv .i64 (.t 10), none⟩,
      ⟨(some 12), .bin .add (.t 8) (.t 11), none⟩,
      ⟨(some 3), .mov (.t 12), none⟩] (some [0, 3]) none))
    (.reg none [
      ⟨(some 6), .mov (.t 0), none⟩,
      ⟨(some 7), .bin .shr (.t 6) (.c (.int .u64 1)), none⟩,
      ⟨(some 0), .mov (.t 7), none⟩] (some [0, 3]) none)))
def spec_l01Count_M : MC :=
  (.seq (.reg none [
      ⟨(some 2), .mov (.c (.int .i64 0)), none⟩] (some [0]) none)
    (.seq (.reg none [
      ⟨(some 3), .mov (.c (.int .i64 0)), none⟩] (some [0, 3]) none)
    (.seq (.block 0 (.loop spec_l01Count_L0))
    (.seq (.reg none [
      ⟨(some 13), .mov (.t 3), none⟩,
      ⟨(some 2), .mov (.t 13), none⟩] (some [2]) none)
    .ret))))
def spec_l01Count_F : MF := ⟨14, [.t 2], spec_l01Count_M⟩
-- loop.example/g01312/spec.l02From
def spec_l02From_L1 : MC :=
  (.seq (.seq (.reg none [
      ⟨(some 21), .mov (.t 9), none⟩,
      ⟨(some 22), .mov (.t 0), none⟩,
      ⟨(some 23), .conv .i64 (.t 22), none⟩,
      ⟨(some 24), .bin .lss (.t 21) (.t 23), none⟩] (some [0, 1, 2, 6, 7, 8, 9, 24]) none)
    (.cond (.t 24) .skip
    (.exit 2)))
    (.seq (.block 3 (.seq (.reg (some []) [
      ⟨(some 27), .mov (.t 9), none⟩,
      ⟨(some 28), .fa 2 (.t 7), none⟩,
      ⟨(some 29), .iaA 6 1 (.t 28) (.t 27), none⟩,
      ⟨(some 30), .load none (.t 29), none⟩,
      ⟨(some 31), .mov (.t 1), none⟩,
      ⟨(some 32), .mov (.t 8), none⟩,
      ⟨(some 33), .iaS 1 (.t 31) (.t 32), none⟩,
      ⟨(some 34), .load none (.t 33), none⟩,
      ⟨(some 35), .mov (.t 9), none⟩,
      ⟨(some 36), .conv .u64 (.t 35), none⟩,
      ⟨(some 37), .bin .shr (.t 34) (.t 36), none⟩,
      ⟨(some 38), .bin .and (.t 37) (.c (.int .u8 1)), none⟩,
      ⟨(some 39), .mov (.t 8), none⟩,
      ⟨(some 40), .conv .u64 (.t 39), none⟩,
      ⟨(some 41), .bin .shl (.t 38) (.t 40), none⟩,
      ⟨(some 42), .bin .or (.t 30) (.t 41), none⟩,
      ⟨(some 43), .fa 2 (.t 7), none⟩,
      ⟨(some 44), .iaA 6 1 (.t 43) (.t 27), none⟩,
      ⟨none, .store 1 (.t 44) (.t 42), none⟩] (some [0, 1, 2, 6, 7, 8, 9]) none)
    (.reg (some []) [
      ⟨(some 45), .mov (.t 9), none⟩,
      ⟨(some 46), .fa 8 (.t 7), none⟩,
      ⟨(some 47), .iaA 6 1 (.t 46) (.t 45), none⟩,
      ⟨(some 48), .load none (.t 47), none⟩,
      ⟨(some 49), .mov (.t 2), none⟩,
      ⟨(some 50), .mov (.t 8), none⟩,
      ⟨(some 51), .iaS 1 (.t 49) (.t 50), none⟩,
      ⟨(some 52), .load none (.t 51), none⟩,
      ⟨(some 53), .mov (.t 9), none⟩,
      ⟨(some 54), .conv .u64 (.t 53), none⟩,
      ⟨(some 55), .bin .shr (.t 52) (.t 54), none⟩,
      ⟨(some 56), .bin .and (.t 55) (.c (.int .u8 1)), none⟩,
      ⟨(some 57), .mov (.t 8), none⟩,
      ⟨(some 58), .conv .u64 (.t 57), none⟩,
      ⟨(some 59), .bin .shl (.t 56) (.t 58), none⟩,
      ⟨(some 60), .bin .or (.t 48) (.t 59), none⟩,
      ⟨(some 61), .fa 8 (.t 7), none⟩,
      ⟨(some 62), .iaA 6 1 (.t 61) (.t 45), none⟩,
      ⟨none, .store 1 (.t 62) (.t 60), none⟩] (some [0, 1, 2, 6, 7, 8, 9]) none)))
    (.reg none [
      ⟨(some 25), .mov (.t 9), none⟩,
      ⟨(some 26), .bin .add (.t 25) (.c (.int .i64 1)), none⟩,
      ⟨(some 9), .mov (.t 26), none⟩] (some [0, 1, 2, 6, 7, 8, 9]) none)))
def spec_l02From_L0 : MC :=
  (.seq (.seq (.reg none [
      ⟨(some 15), .mov (.t 8), none⟩,
      ⟨(some 16), .mov (.t 1), none⟩,
      ⟨(some 17), .lenS (.t 16), none⟩,
      ⟨(some 18), .bin .lss (.t 15) (.t 17), none⟩] (some [0, 1, 2, 6, 7, 8, 18]) none)
    (.cond (.t 18) .skip
    (.exit 0)))
    (.seq (.block 1 (.seq (.reg none [
      ⟨(some 9), .mov (.c (.int .i64 0)), none⟩] (some [0, 1, 2, 6, 7, 8, 9]) none)
    (.block 2 (.loop spec_l02From_L1))))
    (.reg none [
      ⟨(some 19), .mov (.t 8), none⟩,
      ⟨(some 20), .bin .add (.t 19) (.c (.int .i64 1)), none⟩,
      ⟨(some 8), .mov (.t 20), none⟩] (some [0, 1, 2, 6, 7, 8]) none)))
def spec_l02From_M : MC :=
  (.seq (.reg none [
      ⟨(some 6), .new (rl [(2, .int .i8 0), (12, .int .u8 0)]), none⟩] (some [0, 1, 2, 6]) none)
    (.seq (.reg none [
      ⟨(some 10), .mov (.t 0), none⟩,
      ⟨(some 11), .mov (.t 1), none⟩,
      ⟨(some 12), .lenS (.t 11), none⟩,
      ⟨(some 13), .conv .i8 (.t 12), none⟩,
      ⟨(some 14), .bld (rl [(2, .int .i8 0), (12, .int .u8 0)]) [(0, 1, (.t 10)), (1, 1, (.t 13))], none⟩,
      ⟨(some 7), .new (rl [(2, .int .i8 0), (12, .int .u8 0)]), none⟩,
      ⟨none, .store 14 (.t 7) (.t 14), none⟩] (some [0, 1, 2, 6, 7]) none)
    (.seq (.seq (.reg none [
      ⟨(some 8), .mov (.c (.int .i64 0)), none⟩] (some [0, 1, 2, 6, 7, 8]) none)
    (.block 0 (.loop spec_l02From_L0)))
    (.seq (.reg none [
      ⟨(some 63), .load (some 14) (.t 7), none⟩,
      ⟨none, .store 14 (.t 6) (.t 63), none⟩] (some [6]) none)
    .ret))))
def spec_l02From_F : MF := ⟨64, [.c 6 (some 14)], spec_l02From_M⟩
-- math/bits.OnesCount
def math_bits_OnesCount_M : MC :=
  (.seq (.reg none [
      ⟨(some 2), .mov (.c (.int .i64 0)), none⟩] (some [0]) none)
    (.seq (.cond (.c (.bool false)) (.seq (.reg none [
      ⟨(some 3), .mov (.t 0), none⟩,
      ⟨(some 4), .conv .u32 (.t 3), none⟩,
      ⟨(some 5), .call 100 [(.t 4)], none⟩,
      ⟨(some 2), .mov (.t 5), none⟩] (some [2]) none)
    .ret)
    .skip)
    (.seq (.reg none [
      ⟨(some 6), .mov (.t 0), none⟩,
      ⟨(some 7), .call 101 [(.t 6)], none⟩,
      ⟨(some 2), .mov (.t 7), none⟩] (some [2]) none)
    .ret)))
def math_bits_OnesCount_F : MF := ⟨8, [.t 2], math_bits_OnesCount_M⟩
-- (*loop.example/g01312/impl.Scheme).rowsOf
def impl_Scheme_rowsOf_L1 : MC :=
  (.seq (.reg none [
      ⟨(some 24), .bin .lss (.t 23) (.c (.int .i64 6)), none⟩] (some [6, 7, 8, 16, 17, 18, 23, 24]) none)
    (.seq (.cond (.t 24) .skip
    (.exit 2))
    (.seq (.block 3 (.seq (.reg none [
      ⟨(some 25), .mov (.t 23), none⟩,
      ⟨(some 9), .mov (.t 25), none⟩] (some [6, 7, 8, 9, 16, 17, 18, 23]) none)
    (.reg (some []) [
      ⟨(some 26), .mov (.t 6), none⟩,
      ⟨(some 27), .mov (.t 9), none⟩,
      ⟨(some 28), .nilc (.t 26), none⟩,
      ⟨(some 29), .iaA 6 1 (.t 28) (.t 27), none⟩,
      ⟨(some 30), .load none (.t 29), none⟩,
      ⟨(some 31), .mov (.t 8), none⟩,
      ⟨(some 32), .mov (.t 9), none⟩,
      ⟨(some 33), .bin .shr (.t 31) (.t 32), none⟩,
      ⟨(some 34), .bin .and (.t 33) (.c (.int .u8 1)), none⟩,
      ⟨(some 35), .mov (.t 7), none⟩,
      ⟨(some 36), .bin .shl (.t 34) (.t 35), none⟩,
      ⟨(some 37), .bin .or (.t 30) (.t 36), none⟩,
      ⟨(some 38), .nilc (.t 26), none⟩,
      ⟨(some 39), .iaA 6 1 (.t 38) (.t 27), none⟩,
      ⟨none, .store 1 (.t 39) (.t 37), none⟩] (some [6, 7, 8, 16, 17, 18, 23]) none)))
    (.reg none [
      ⟨(some 40), .bin .add (.t 23) (.c (.int .i64 1)), none⟩,
      ⟨(some 23), .mov (.t 40), none⟩] (some [6, 7, 8, 16, 17, 18, 23]) none))))
def impl_Scheme_rowsOf_L0 : MC :=
  (.seq (.reg none [
      ⟨(some 19), .bin .lss (.t 18) (.t 17), none⟩] (some [6, 16, 17, 18, 19]) none)
    (.seq (.cond (.t 19) .skip
    (.exit 0))
    (.seq (.block 1 (.seq (.reg none [
      ⟨(some 20), .mov (.t 18), none⟩,
      ⟨(some 21), .iaS 1 (.t 16) (.t 18), none⟩,
      ⟨(some 22), .load none (.t 21), none⟩,
      ⟨(some 7), .mov (.t 20), none⟩,
      ⟨(some 8), .mov (.t 22), none⟩] (some [6, 7, 8, 16, 17, 18]) none)
    (.seq (.reg none [
      ⟨(some 23), .mov (.c (.int .i64 0)), none⟩] (some [6, 7, 8, 16, 17, 18, 23]) none)
    (.block 2 (.loop impl_Scheme_rowsOf_L1)))))
    (.reg none [
      ⟨(some 41), .bin .add (.t 18) (.c (.int .i64 1)), none⟩,
      ⟨(some 18), .mov (.t 41), none⟩] (some [6, 16, 17, 18]) none))))
def impl_Scheme_rowsOf_M : MC :=
  (.seq (.reg none [
      ⟨(some 10), .mov (.t 0), none⟩,
      ⟨(some 11), .mov (.t 2), none⟩,
      ⟨(some 12), .call 97 [(.t 10), (.t 11)], none⟩,
      ⟨(some 6), .mov (.t 12), none⟩] (some [1, 6]) none)
    (.seq (.reg none [
      ⟨(some 13), .mov (.t 6), none⟩,
      ⟨(some 14), .bld (rl [(6, .int .u8 0)]) [], none⟩,
      ⟨(some 15), .nilc (.t 13), none⟩,
      ⟨none, .store 6 (.t 15) (.t 14), none⟩] (some [1, 6]) none)
    (.seq (.reg none [
      ⟨(some 16), .mov (.t 1), none⟩,
      ⟨(some 17), .lenS (.t 16), none⟩,
      ⟨(some 18), .mov (.c (.int .i64 0)), none⟩] (some [6, 16, 17, 18]) none)
    (.block 0 (.loop impl_Scheme_rowsOf_L0)))))
def impl_Scheme_rowsOf_F : MF := ⟨42, [], impl_Scheme_rowsOf_M⟩
-- loop.example/g01312/spec.l01Way
def spec_l01Way_M : MC :=
  (.seq (.reg none [
      ⟨(some 4), .mov (.c (.bool false)), none⟩] (some [0, 1]) none)
    (.seq (.reg none [
      ⟨(some 5), .mov (.t 0), none⟩,
      ⟨(some 6), .call 46 [(.t 5), (.c (.int .i64 (-8))), (.c (.int .i64 8))], none⟩,
      ⟨(some 7), .mov (.t 6), none⟩,
      ⟨(some 8), .mov (.t 1), some (7, true)⟩,
      ⟨(some 9), .call 46 [(.t 8), (.c (.int .i64 (-8))), (.c (.int .i64 8))], some (7, true)⟩,
      ⟨(some 10), .pick (.t 7) (.t 9) (.c (.bool false)), none⟩,
      ⟨(some 4), .mov (.t 10), none⟩] (some [4]) none)
    .ret))
def spec_l01Way_F : MF := ⟨11, [.t 4], spec_l01Way_M⟩
-- loop.example/g01312/impl.isShift
def impl_isShift_M : MC :=
  (.seq (.reg none [
      ⟨(some 4), .mov (.c (.bool false)), none⟩] (some [0, 1]) none)
    (.seq (.reg none [
      ⟨(some 5), .mov (.t 0), none⟩,
      ⟨(some 6), .call 51 [(.t 5), (.c (.int .i64 (-8))), (.c (.int .i64 8))], none⟩,
      ⟨(some 7), .mov (.t 6), none⟩,
      ⟨(some 8), .mov (.t 1), some (7, true)⟩,
      ⟨(some 9), .call 51 [(.t 8), (.c (.int .i64 (-8))), (.c (.int .i64 8))], some (7, true)⟩,
      ⟨(some 10), .pick (.t 7) (.t 9) (.c (.bool false)), none⟩,
      ⟨(some 4), .mov (.t 10), none⟩] (some [4]) none)
    .ret))
def impl_isShift_F : MF := ⟨11, [.t 4], impl_isShift_M⟩
-- (loop.example/g01312/impl.Layer).each
def impl_Layer_each_L0 : MC :=
  (.seq (.reg none [
      ⟨(some 11), .bin .lss (.t 10) (.c (.int .i64 64)), none⟩] (some [1, 4, 5, 10, 11]) none)
    (.seq (.cond (.t 11) .skip
    (.exit 0))
    (.seq (.block 1 (.seq (.reg none [
      ⟨(some 12), .mov (.t 10), none⟩,
      ⟨(some 6), .mov (.t 12), none⟩] (some [1, 4, 5, 6, 10]) none)
    (.reg none [
      ⟨(some 13), .mov (.t 6), none⟩,
      ⟨(some 14), .mov (.t 1), none⟩,
      ⟨(some 15), .mov (.t 6), none⟩,
      ⟨(some 16), .callv (.t 14) [(.t 15)], none⟩,
      ⟨(some 17), .fa 1 (.t 5), none⟩,
      ⟨(some 18), .iaA 64 1 (.t 17) (.t 13), none⟩,
      ⟨none, .store 1 (.t 18) (.t 16), none⟩] (some [1, 4, 5, 10]) none)))
    (.reg none [
      ⟨(some 19), .bin .add (.t 10) (.c (.int .i64 1)), none⟩,
      ⟨(some 10), .mov (.t 19), none⟩] (some [1, 4, 5, 10]) none))))
def impl_Layer_each_M : MC :=
  (.seq (.reg none [
      ⟨(some 2), .box (.t 0), none⟩,
      ⟨(some 4), .new (rl [(1, .int .i8 0), (64, .int .u8 0)]), none⟩] (some [1, 2, 4]) none)
    (.seq (.reg none [
      ⟨(some 7), .fa 0 (.t 2), none⟩,
      ⟨(some 8), .load none (.t 7), none⟩,
      ⟨(some 9), .bld (rl [(1, .int .i8 0), (64, .int .u8 0)]) [(0, 1, (.t 8))], none⟩,
      ⟨(some 5), .new (rl [(1, .int .i8 0), (64, .int .u8 0)]), none⟩,
      ⟨none, .store 65 (.t 5) (.t 9), none⟩] (some [1, 4, 5]) none)
    (.seq (.seq (.reg none [
      ⟨(some 10), .mov (.c (.int .i64 0)), none⟩] (some [1, 4, 5, 10]) none)
    (.block 0 (.loop impl_Layer_each_L0)))
    (.seq (.reg none [
      ⟨(some 20), .load (some 65) (.t 5), none⟩,
      ⟨none, .store 65 (.t 4) (.t 20), none⟩] (some [4]) none)
    .ret))))
def impl_Layer_each_F : MF := ⟨21, [.c 4 (some 65)], impl_Layer_each_M⟩
-- loop.example/g01312/impl.ShiftLayer$1
def impl_ShiftLayer_1_M : MC :=
  (.seq (.reg none [
      ⟨(some 5), .mov (.c (.int .u8 0)), none⟩] (some [0, 1, 2, 3]) none)
    (.seq (.seq (.reg none [
      ⟨(some 7), .mov (.t 0), none⟩,
      ⟨(some 8), .load none (.t 1), none⟩,
      ⟨(some 9), .load none (.t 2), none⟩,
      ⟨(some 10), .call 85 [(.t 7), (.t 8), (.t 9)], none⟩,
      ⟨(some 6), .mov (.t 10), none⟩] (some [3, 6]) none)
    (.seq (.reg none [
      ⟨(some 11), .mov (.t 6), none⟩,
      ⟨(some 12), .bin .geq (.t 11) (.c (.int .i64 0)), none⟩] (some [3, 6, 12]) none)
    (.cond (.t 12) (.seq (.reg none [
      ⟨(some 13), .mov (.t 6), none⟩,
      ⟨(some 14), .fa 1 (.t 3), none⟩,
      ⟨(some 15), .iaA 64 1 (.t 14) (.t 13), none⟩,
      ⟨(some 16), .load none (.t 15), none⟩,
      ⟨(some 5), .mov (.t 16), none⟩] (some [5]) none)
    .ret)
    .skip)))
    (.seq (.reg none [
      ⟨(some 5), .mov (.c (.int .u8 0)), none⟩] (some [5]) none)
    .ret)))
def impl_ShiftLayer_1_F : MF := ⟨17, [.t 5], impl_ShiftLayer_1_M⟩
-- loop.example/g01312/impl.shifted
def impl_shifted_M : MC :=
  (.seq (.reg none [
      ⟨(some 6), .mov (.c (.int .i64 0)), none⟩] (some [0, 1, 2]) none)
    (.seq (.reg none [
      ⟨(some 9), .mov (.t 0), none⟩,
      ⟨(some 10), .bin .rem (.t 9) (.c (.int .i64 8)), none⟩,
      ⟨(some 11), .mov (.t 1), none⟩,
      ⟨(some 12), .bin .sub (.t 10) (.t 11), none⟩,
      ⟨(some 13), .mov (.t 0), none⟩,
      ⟨(some 14), .bin .quo (.t 13) (.c (.int .i64 8)), none⟩,
      ⟨(some 15), .mov (.t 2), none⟩,
      ⟨(some 16), .bin .sub (.t 14) (.t 15), none⟩,
      ⟨(some 7), .mov (.t 12), none⟩,
      ⟨(some 8), .mov (.t 16), none⟩] (some [7, 8]) none)
    (.seq (.seq (.reg none [
      ⟨(some 17), .mov (.t 7), none⟩,
      ⟨(some 18), .mov (.t 8), none⟩,
      ⟨(some 19), .call 102 [(.t 17), (.t 18)], none⟩,
      ⟨(some 20), .un .not (.t 19), none⟩] (some [7, 8, 20]) none)
    (.cond (.t 20) (.seq (.reg none [
      ⟨(some 6), .mov (.c (.int .i64 (-1))), none⟩] (some [6]) none)
    .ret)
    .skip))
    (.seq (.reg none [
      ⟨(some 21), .mov (.t 7), none⟩,
      ⟨(some 22), .mov (.t 8), none⟩,
      ⟨(some 23), .bin .mul (.c (.int .i64 8)) (.t 22), none⟩,
      ⟨(some 24), .bin .add (.t 21) (.t 23), none⟩,
      ⟨(some 6), .mov (.t 24), none⟩] (some [6]) none)
    .ret))))
def impl_shifted_F : MF := ⟨25, [.t 6], impl_shifted_M⟩
-- loop.example/g01312/spec.l01Order
def spec_l01Order_L0 : MC :=
  (.seq (.seq (.reg none [
      ⟨(some 7), .mov (.t 6), none⟩,
      ⟨(some 8), .mov (.t 0), none⟩,
      ⟨(some 9), .lenS (.t 8), none⟩,
      ⟨(some 10), .bin .lss (.t 7) (.t 9), none⟩] (some [0, 1, 5, 6, 10]) none)
    (.cond (.t 10) .skip
    (.exit 0)))
    (.seq (.block 1 (.seq (.seq (.reg none [
      ⟨(some 13), .mov (.t 0), none⟩,
      ⟨(some 14), .mov (.t 6), none⟩,
      ⟨(some 15), .iaS 1 (.t 13) (.t 14), none⟩,
      ⟨(some 16), .load none (.t 15), none⟩,
      ⟨(some 17), .conv .i64 (.t 16), none⟩,
      ⟨(some 18), .mov (.t 1), none⟩,
      ⟨(some 19), .bin .sub (.t 18) (.c (.int .i64 1)), none⟩,
      ⟨(some 20), .call 46 [(.t 17), (.c (.int .i64 0)), (.t 19)], none⟩,
      ⟨(some 21), .un .not (.t 20), none⟩,
      ⟨(some 22), .mov (.t 21), none⟩,
      ⟨(some 23), .mov (.t 5), some (22, false)⟩,
      ⟨(some 24), .mov (.t 0), some (22, false)⟩,
      ⟨(some 25), .mov (.t 6), some (22, false)⟩,
      ⟨(some 26), .iaS 1 (.t 24) (.t 25), some (22, false)⟩,
      ⟨(some 27), .load none (.t 26), some (22, false)⟩,
      ⟨(some 28), .conv .u64 (.t 27), some (22, false)⟩,
      ⟨(some 29), .bin .shr (.t 23) (.t 28), some (22, false)⟩,
      ⟨(some 30), .bin .and (.t 29) (.c (.int .u64 1)), some (22, false)⟩,
      ⟨(some 31), .bin .eql (.t 30) (.c (.int .u64 1)), some (22, false)⟩,
      ⟨(some 32), .pick (.t 22) (.c (.bool true)) (.t 31), none⟩] (some [0, 1, 5, 6, 32]) none)
    (.cond (.t 32) (.seq (.reg none [
      ⟨(some 4), .mov (.c (.bool false)), none⟩] (some [4]) none)
    .ret)
    .skip))
    (.reg none [
      ⟨(some 33), .mov (.t 5), none⟩,
      ⟨(some 34), .mov (.t 0), none⟩,
      ⟨(some 35), .mov (.t 6), none⟩,
      ⟨(some 36), .iaS 1 (.t 34) (.t 35), none⟩,
      ⟨(some 37), .load none (.t 36), none⟩,
      ⟨(some 38), .conv .u64 (.t 37), none⟩,
      ⟨(some 39), .bin .shl (.c (.int .u64 1)) (.t 38), none⟩,
      ⟨(some 40), .bin .or (.t 33) (.t 39), none⟩,
      ⟨(some 5), .mov (.t 40), none⟩] (some [0, 1, 5, 6]) none)))
    (.reg none [
      ⟨(some 11), .mov (.t 6), none⟩,
      ⟨(some 12), .bin .add (.t 11) (.c (.int .i64 1)), none⟩,
      ⟨(some 6), .mov (.t 12), none⟩] (some [0, 1, 5, 6]) none)))
def spec_l01Order_M : MC :=
  (.seq (.reg none [
      ⟨(some 4), .mov (.c (.bool false)), none⟩] (some [0, 1]) none)
    (.seq (.reg none [
      ⟨(some 5), .mov (.c (.int .u64 0)), none⟩] (some [0, 1, 5]) none)
    (.seq (.seq (.reg none [
      ⟨(some 6), .mov (.c (.int .i64 0)), none⟩] (some [0, 1, 5, 6]) none)
    (.block 0 (.loop spec_l01Order_L0)))
    (.seq (.reg none [
      ⟨(some 41), .mov (.t 0), none⟩,
      ⟨(some 42), .lenS (.t 41), none⟩,
      ⟨(some 43), .mov (.t 1), none⟩,
      ⟨(some 44), .bin .eql (.t 42) (.t 43), none⟩,
      ⟨(some 4), .mov (.t 44), none⟩] (some [4]) none)
    .ret))))
def spec_l01Order_F : MF := ⟨45, [.t 4], spec_l01Order_M⟩
-- loop.example/g01312/impl.isOrder
def impl_isOrder_L0 : MC :=
  (.seq (.reg none [
      ⟨(some 11), .bin .lss (.t 10) (.t 9), none⟩] (some [0, 1, 5, 8, 9, 10, 11]) none)
    (.seq (.cond (.t 11) .skip
    (.exit 0))
    (.seq (.block 1 (.seq (.reg none [
      ⟨(some 12), .iaS 1 (.t 8) (.t 10), none⟩,
      ⟨(some 13), .load none (.t 12), none⟩,
      ⟨(some 7), .mov (.t 13), none⟩] (some [0, 1, 5, 7, 8, 9, 10]) none)
    (.seq (.seq (.reg none [
      ⟨(some 14), .mov (.t 7), none⟩,
      ⟨(some 15), .bin .lss (.t 14) (.c (.int .i8 0)), none⟩,
      ⟨(some 16), .mov (.t 15), none⟩,
      ⟨(some 17), .mov (.t 7), some (16, false)⟩,
      ⟨(some 18), .mov (.t 1), some (16, false)⟩,
      ⟨(some 19), .bin .geq (.t 17) (.t 18), some (16, false)⟩,
      ⟨(some 20), .pick (.t 16) (.c (.bool true)) (.t 19), none⟩,
      ⟨(some 21), .mov (.t 20), none⟩,
      ⟨(some 22), .mov (.t 5), some (21, false)⟩,
      ⟨(some 23), .mov (.t 7), some (21, false)⟩,
      ⟨(some 24), .bin .shr (.t 22) (.t 23), some (21, false)⟩,
      ⟨(some 25), .bin .and (.t 24) (.c (.int .u64 1)), some (21, false)⟩,
      ⟨(some 26), .bin .eql (.t 25) (.c (.int .u64 1)), some (21, false)⟩,
      ⟨(some 27), .pick (.t 21) (.c (.bool true)) (.t 26), none⟩] (some [0, 1, 5, 7, 8, 9, 10, 27]) none)
    (.cond (.t 27) (.seq (.reg none [
      ⟨(some 4), .mov (.c (.bool false)), none⟩] (some [4]) none)
    .ret)
    .skip))
    (.reg none [
      ⟨(some 28), .mov (.t 5), none⟩,
      ⟨(some 29), .mov (.t 7), none⟩,
      ⟨(some 30), .bin .shl (.c (.int .u64 1)) (.t 29), none⟩,
      ⟨(some 31), .bin .or (.t 28) (.t 30), none⟩,
      ⟨(some 5), .mov (.t 31), none⟩] (some [0, 1, 5, 8, 9, 10]) none))))
    (.reg none [
      ⟨(some 32), .bin .add (.t 10) (.c (.int .i64 1)), none⟩,
      ⟨(some 10), .mov (.t 32), none⟩] (some [0, 1, 5, 8, 9, 10]) none))))
def impl_isOrder_M : MC :=
  (.seq (.reg none [
      ⟨(some 4), .mov (.c (.bool false)), none⟩] (some [0, 1]) none)
    (.seq (.reg none [
      ⟨(some 5), .mov (.c (.int .u64 0)), none⟩] (some [0, 1, 5]) none)
    (.seq (.seq (.reg none [
      ⟨(some 8), .mov (.t 0), none⟩,
      ⟨(some 9), .lenS (.t 8), none⟩,
      ⟨(some 10), .mov (.c (.int .i64 0)), none⟩] (some [0, 1, 5, 8, 9, 10]) none)
    (.block 0 (.loop impl_isOrder_L0)))
    (.seq (.reg none [
      ⟨(some 33), .mov (.t 0), none⟩,
      ⟨(some 34), .lenS (.t 33), none⟩,
      ⟨(some 35), .mov (.t 1), none⟩,
      ⟨(some 36), .conv .i64 (.t 35), none⟩,
      ⟨(some 37), .bin .eql (.t 34) (.t 36), none⟩,
      ⟨(some 4), .mov (.t 37), none⟩] (some [4]) none)
    .ret))))
def impl_isOrder_F : MF := ⟨38, [.t 4], impl_isOrder_M⟩
-- loop.example/g01312/spec.l01Parts
def spec_l01Parts_M : MC :=
  (.seq (.reg none [
      ⟨(some 2), .mov (.c (.bool false)), none⟩] (some [0]) none)
    (.seq (.reg none [
      ⟨(some 3), .mov (.t 0), none⟩,
      ⟨(some 4), .call 46 [(.t 3), (.c (.int .i64 1)), (.c (.int .i64 8))], none⟩,
      ⟨(some 2), .mov (.t 4), none⟩] (some [2]) none)
    .ret))
def spec_l01Parts_F : MF := ⟨5, [.t 2], spec_l01Parts_M⟩
-- loop.example/g01312/impl.isParts
def impl_isParts_M : MC :=
  (.seq (.reg none [
      ⟨(some 2), .mov (.c (.bool false)), none⟩] (some [0]) none)
    (.seq (.reg none [
      ⟨(some 3), .mov (.t 0), none⟩,
      ⟨(some 4), .call 51 [(.t 3), (.c (.int .i64 1)), (.c (.int .i64 8))], none⟩,
      ⟨(some 2), .mov (.t 4), none⟩] (some [2]) none)
    .ret))
def impl_isParts_F : MF := ⟨5, [.t 2], impl_isParts_M⟩
-- loop.example/g01312/impl.mask
def impl_mask_M : MC :=
  (.seq (.reg none [
      ⟨(some 2), .mov (.c (.int .u8 0)), none⟩] (some [0]) none)
    (.seq (.reg none [
      ⟨(some 3), .mov (.t 0), none⟩,
      ⟨(some 4), .bin .shl (.c (.int .u8 1)) (.t 3), none⟩,
      ⟨(some 5), .bin .sub (.t 4) (.c (.int .u8 1)), none⟩,
      ⟨(some 2), .mov (.t 5), none⟩] (some [2]) none)
    .ret))
def impl_mask_F : MF := ⟨6, [.t 2], impl_mask_M⟩
-- loop.example/g01312/impl.pictureOf
def impl_pictureOf_L0 : MC :=
  (.seq (.reg none [
      ⟨(some 6), .bin .lss (.t 5) (.c (.int .i64 64)), none⟩] (some [0, 3, 5, 6]) none)
    (.seq (.cond (.t 6) .skip
    (.exit 0))
    (.seq (.block 1 (.seq (.reg none [
      ⟨(some 7), .mov (.t 5), none⟩,
      ⟨(some 4), .mov (.t 7), none⟩] (some [0, 3, 4, 5]) none)
    (.seq (.reg none [
      ⟨(some 8), .mov (.t 0), none⟩,
      ⟨(some 9), .mov (.t 4), none⟩,
      ⟨(some 10), .callv (.t 8) [(.t 9)], none⟩] (some [0, 3, 4, 5, 10]) none)
    (.cond (.t 10) (.reg none [
      ⟨(some 11), .mov (.t 3), none⟩,
      ⟨(some 12), .mov (.t 4), none⟩,
      ⟨(some 13), .bin .shl (.c (.int .u64 1)) (.t 12), none⟩,
      ⟨(some 14), .bin .or (.t 11) (.t 13), none⟩,
      ⟨(some 3), .mov (.t 14), none⟩] (some [0, 3, 5]) none)
    .skip))))
    (.reg none [
      ⟨(some 15), .bin .add (.t 5) (.c (.int .i64 1)), none⟩,
      ⟨(some 5), .mov (.t 15), none⟩] (some [0, 3, 5]) none))))
def impl_pictureOf_M : MC :=
  (.seq (.reg none [
      ⟨(some 2), .mov (.c (.int .u64 0)), none⟩] (some [0]) none)
    (.seq (.reg none [
      ⟨(some 3), .mov (.c (.int .u64 0)), none⟩] (some [0, 3]) none)
    (.seq (.seq (.reg none [
      ⟨(some 5), .mov (.c (.int .i64 0)), none⟩] (some [0, 3, 5]) none)
    (.block 0 (.loop impl_pictureOf_L0)))
    (.seq (.reg none [
      ⟨(some 16), .mov (.t 3), none⟩,
      ⟨(some 2), .mov (.t 16), none⟩] (some [2]) none)
    .ret))))
def impl_pictureOf_F : MF := ⟨17, [.t 2], impl_pictureOf_M⟩
-- (loop.example/g01312/impl.Layer).shown$1
def impl_Layer_shown_1_M : MC :=
  (.seq (.reg none [
      ⟨(some 4), .mov (.c (.bool false)), none⟩] (some [0, 1, 2]) none)
    (.seq (.reg (some [(2, 3)]) [
      ⟨(some 5), .load (some 65) (.t 1), none⟩,
      ⟨(some 6), .mov (.t 0), none⟩,
      ⟨(some 7), .call 93 [(.t 5), (.t 6)], none⟩,
      ⟨(some 8), .load none (.t 2), none⟩,
      ⟨(some 9), .bin .geq (.t 7) (.t 8), none⟩,
      ⟨(some 4), .mov (.t 9), none⟩] (some [4]) none)
    .ret))
def impl_Layer_shown_1_F : MF := ⟨10, [.t 4], impl_Layer_shown_1_M⟩
-- (loop.example/g01312/impl.Layer).count
def impl_Layer_count_M : MC :=
  (.seq (.reg none [
      ⟨(some 2), .box (.t 0), none⟩,
      ⟨(some 4), .mov (.c (.int .i64 0)), none⟩] (some [1, 2]) none)
    (.seq (.reg none [
      ⟨(some 5), .mov (.t 1), none⟩,
      ⟨(some 6), .fa 1 (.t 2), none⟩,
      ⟨(some 7), .iaA 64 1 (.t 6) (.t 5), none⟩,
      ⟨(some 8), .load none (.t 7), none⟩,
      ⟨(some 9), .call 98 [(.t 8)], none⟩,
      ⟨(some 4), .mov (.t 9), none⟩] (some [4]) none)
    .ret))
def impl_Layer_count_F : MF := ⟨10, [.t 4], impl_Layer_count_M⟩
-- loop.example/g01312/impl.joined$1
def impl_joined_1_M : MC :=
  (.seq (.reg none [
      ⟨(some 4), .mov (.c (.int .u8 0)), none⟩] (some [0, 1, 2]) none)
    (.seq (.reg (some []) [
      ⟨(some 5), .mov (.t 0), none⟩,
      ⟨(some 6), .fa 1 (.t 1), none⟩,
      ⟨(some 7), .iaA 64 1 (.t 6) (.t 5), none⟩,
      ⟨(some 8), .load none (.t 7), none⟩,
      ⟨(some 9), .mov (.t 0), none⟩,
      ⟨(some 10), .fa 1 (.t 2), none⟩,
      ⟨(some 11), .iaA 64 1 (.t 10) (.t 9), none⟩,
      ⟨(some 12), .load none (.t 11), none⟩,
      ⟨(some 13), .fa 0 (.t 1), none⟩,
      ⟨(some 14), .load none (.t 13), none⟩,
      ⟨(some 15), .bin .shl (.t 12) (.t 14), none⟩,
      ⟨(some 16), .bin .or (.t 8) (.t 15), none⟩,
      ⟨(some 4), .mov (.t 16), none⟩] (some [4]) none)
    .ret))
def impl_joined_1_F : MF := ⟨17, [.t 4], impl_joined_1_M⟩
-- loop.example/g01312/spec.l01From
def spec_l01From_M : MC :=
  (.seq (.reg none [
      ⟨(some 8), .mov (.c (.int .i64 0)), none⟩] (some [0, 1, 2, 3]) none)
    (.seq (.reg none [
      ⟨(some 11), .mov (.t 0), none⟩,
      ⟨(some 12), .bin .rem (.t 11) (.c (.int .i64 8)), none⟩,
      ⟨(some 9), .mov (.t 12), none⟩] (some [0, 1, 2, 3, 9]) none)
    (.seq (.reg none [
      ⟨(some 13), .mov (.t 0), none⟩,
      ⟨(some 14), .bin .quo (.t 13) (.c (.int .i64 8)), none⟩,
      ⟨(some 10), .mov (.t 14), none⟩] (some [1, 2, 3, 9, 10]) none)
    (.seq (.seq (.reg none [
      ⟨(some 15), .mov (.t 1), none⟩] (some [2, 3, 9, 10, 15]) none)
    (.block 0 (.seq (.reg none [
      ⟨(some 17), .bin .eql (.t 15) (.c (.int .i64 0)), none⟩,
      ⟨(some 16), .mov (.t 17), none⟩] (some [2, 3, 9, 10, 15, 16]) none)
    (.cond (.t 16) (.seq (.reg none [
      ⟨(some 18), .mov (.t 10), none⟩,
      ⟨(some 19), .mov (.t 9), none⟩,
      ⟨(some 20), .bin .sub (.c (.int .i64 7)) (.t 19), none⟩,
      ⟨(some 21), .bin .mul (.c (.int .i64 8)) (.t 20), none⟩,
      ⟨(some 22), .bin .add (.t 18) (.t 21), none⟩,
      ⟨(some 8), .mov (.t 22), none⟩] (some [8]) none)
    .ret)
    (.seq (.reg none [
      ⟨(some 24), .bin .eql (.t 15) (.c (.int .i64 1)), none⟩,
      ⟨(some 23), .mov (.t 24), none⟩] (some [2, 3, 9, 10, 23]) none)
    (.cond (.t 23) (.seq (.reg none [
      ⟨(some 25), .mov (.t 9), none⟩,
      ⟨(some 26), .bin .sub (.c (.int .i64 7)) (.t 25), none⟩,
      ⟨(some 27), .mov (.t 10), none⟩,
      ⟨(some 28), .bin .mul (.c (.int .i64 8)) (.t 27), none⟩,
      ⟨(some 29), .bin .add (.t 26) (.t 28), none⟩,
      ⟨(some 8), .mov (.t 29), none⟩] (some [8]) none)
    .ret)
    .skip))))))
    (.seq (.seq (.reg none [
      ⟨(some 30), .mov (.t 9), none⟩,
      ⟨(some 31), .mov (.t 2), none⟩,
      ⟨(some 32), .bin .sub (.t 30) (.t 31), none⟩,
      ⟨(some 33), .call 103 [(.t 32)], none⟩,
      ⟨(some 34), .un .not (.t 33), none⟩,
      ⟨(some 35), .mov (.t 34), none⟩,
      ⟨(some 36), .mov (.t 10), some (35, false)⟩,
      ⟨(some 37), .mov (.t 3), some (35, false)⟩,
      ⟨(some 38), .bin .sub (.t 36) (.t 37), some (35, false)⟩,
      ⟨(some 39), .call 103 [(.t 38)], some (35, false)⟩,
      ⟨(some 40), .un .not (.t 39), some (35, false)⟩,
      ⟨(some 41), .pick (.t 35) (.c (.bool true)) (.t 40), none⟩] (some [2, 3, 9, 10, 41]) none)
    (.cond (.t 41) (.seq (.reg none [
      ⟨(some 8), .mov (.c (.int .i64 (-1))), none⟩] (some [8]) none)
    .ret)
    .skip))
    (.seq (.reg none [
      ⟨(some 42), .mov (.t 9), none⟩,
      ⟨(some 43), .mov (.t 2), none⟩,
      ⟨(some 44), .bin .sub (.t 42) (.t 43), none⟩,
      ⟨(some 45), .mov (.t 10), none⟩,
      ⟨(some 46), .mov (.t 3), none⟩,
      ⟨(some 47), .bin .sub (.t 45) (.t 46), none⟩,
      ⟨(some 48), .bin .mul (.c (.int .i64 8)) (.t 47), none⟩,
      ⟨(some 49), .bin .add (.t 44) (.t 48), none⟩,
      ⟨(some 8), .mov (.t 49), none⟩] (some [8]) none)
    .ret))))))
def spec_l01From_F : MF := ⟨50, [.t 8], spec_l01From_M⟩
-- (loop.example/g01312/impl.Scheme).all
def impl_Scheme_all_M : MC :=
  (.seq (.reg none [
      ⟨(some 1), .box (.t 0), none⟩,
      ⟨(some 2), .mov (.c (.int .u8 0)), none⟩] (some [1]) none)
    (.seq (.reg none [
      ⟨(some 3), .fa 0 (.t 1), none⟩,
      ⟨(some 4), .load none (.t 3), none⟩,
      ⟨(some 5), .bin .shl (.c (.int .u8 1)) (.t 4), none⟩,
      ⟨(some 6), .bin .sub (.t 5) (.c (.int .u8 1)), none⟩,
      ⟨(some 2), .mov (.t 6), none⟩] (some [2]) none)
    .ret))
def impl_Scheme_all_F : MF := ⟨7, [.t 2], impl_Scheme_all_M⟩
-- (*loop.example/g01312/impl.Scheme).rows
def impl_Scheme_rows_M : MC :=
  (.seq (.reg none [
      ⟨(some 4), .mov (.c (.nilptr)), none⟩] (some [0, 1]) none)
    (.seq (.seq (.reg none [
      ⟨(some 5), .mov (.t 1), none⟩] (some [0, 5]) none)
    (.cond (.t 5) (.seq (.reg none [
      ⟨(some 6), .mov (.t 0), none⟩,
      ⟨(some 7), .nilc (.t 6), none⟩,
      ⟨(some 8), .fa 8 (.t 7), none⟩,
      ⟨(some 4), .mov (.t 8), none⟩] (some [4]) none)
    .ret)
    .skip))
    (.seq (.reg none [
      ⟨(some 9), .mov (.t 0), none⟩,
      ⟨(some 10), .nilc (.t 9), none⟩,
      ⟨(some 11), .fa 2 (.t 10), none⟩,
      ⟨(some 4), .mov (.t 11), none⟩] (some [4]) none)
    .ret)))
def impl_Scheme_rows_F : MF := ⟨12, [.t 4], impl_Scheme_rows_M⟩
-- math/bits.OnesCount8
def math_bits_OnesCount8_M : MC :=
  (.seq (.reg none [
      ⟨(some 2), .mov (.c (.int .i64 0)), none⟩] (some [0]) none)
    (.seq (.reg none [
      ⟨(some 3), .mov (.t 0), none⟩,
      ⟨(some 4), .ixS (.c (.str ⟨[0, 1, 1, 2, 1, 2, 2, 3, 1, 2, 2, 3, 2, 3, 3, 4, 1, 2, 2, 3, 2, 3, 3, 4, 2, 3, 3, 4, 3, 4, 4, 5, 1, 2, 2, 3, 2, 3, 3, 4, 2, 3, 3, 4, 3, 4, 4, 5, 2, 3, 3, 4, 3, 4, 4, 5, 3, 4, 4, 5, 4, 5, 5, 6, 1, 2, 2, 3, 2, 3, 3, 4, 2, 3, 3, 4, 3, 4, 4, 5, 2, 3, 3, 4, 3, 4, 4, 5, 3, 4, 4, 5, 4, 5, 5, 6, 2, 3, 3, 4, 3, 4, 4, 5, 3, 4, 4, 5, 4, 5, 5, 6, 3, 4, 4, 5, 4, 5, 5, 6, 4, 5, 5, 6, 5, 6, 6, 7, 1, 2, 2, 3, 2, 3, 3, 4, 2, 3, 3, 4, 3, 4, 4, 5, 2, 3, 3, 4, 3, 4, 4, 5, 3, 4, 4, 5, 4, 5, 5, 6, 2, 3, 3, 4, 3, 4, 4, 5, 3, 4, 4, 5, 4, 5, 5, 6, 3, 4, 4, 5, 4, 5, 5, 6, 4, 5, 5, 6, 5, 6, 6, 7, 2, 3, 3, 4, 3, 4, 4, 5, 3, 4, 4, 5, 4, 5, 5, 6, 3, 4, 4, 5, 4, 5, 5, 6, 4, 5, 5, 6, 5, 6, 6, 7, 3, 4, 4, 5, 4, 5, 5, 6, 4, 5, 5, 6, 5, 6, 6, 7, 4, 5, 5, 6, 5, 6, 6, 7, 5, 6, 6, 7, 6, 7, 7, 8].toArray⟩)) (.t 3), none⟩,
      ⟨(some 5), .conv .i64 (.t 4), none⟩,
      ⟨(some 2), .mov (.t 5), none⟩] (some [2]) none)
    .ret))
def math_bits_OnesCount8_F : MF := ⟨6, [.t 2], math_bits_OnesCount8_M⟩
-- loop.example/g01312/spec.l02Rows
def spec_l02Rows_M : MC :=
  (.seq (.reg none [
      ⟨(some 4), .new (rl [(6, .int .u8 0)]), none⟩] (some [0, 1, 4]) none)
    (.seq (.seq (.reg none [
      ⟨(some 5), .mov (.t 1), none⟩] (some [0, 4, 5]) none)
    (.cond (.t 5) (.seq (.reg none [
      ⟨(some 6), .mov (.t 0), none⟩,
      ⟨(some 7), .nilc (.t 6), none⟩,
      ⟨(some 8), .fa 8 (.t 7), none⟩,
      ⟨(some 9), .load (some 6) (.t 8), none⟩,
      ⟨none, .store 6 (.t 4) (.t 9), none⟩] (some [4]) none)
    .ret)
    .skip))
    (.seq (.reg none [
      ⟨(some 10), .mov (.t 0), none⟩,
      ⟨(some 11), .nilc (.t 10), none⟩,
      ⟨(some 12), .fa 2 (.t 11), none⟩,
      ⟨(some 13), .load (some 6) (.t 12), none⟩,
      ⟨none, .store 6 (.t 4) (.t 13), none⟩] (some [4]) none)
    .ret)))
def spec_l02Rows_F : MF := ⟨14, [.c 4 (some 6)], spec_l02Rows_M⟩
-- math/bits.OnesCount32
def math_bits_OnesCount32_M : MC :=
  (.seq (.reg none [
      ⟨(some 2), .mov (.c (.int .i64 0)), none⟩] (some [0]) none)
    (.seq (.reg (some []) [
      ⟨(some 3), .mov (.t 0), none⟩,
      ⟨(some 4), .bin .shr (.t 3) (.c (.int .u64 24)), none⟩,
      ⟨(some 5), .ixS (.c (.str ⟨[0, 1, 1, 2, 1, 2, 2, 3, 1, 2, 2, 3, 2, 3, 3, 4, 1, 2, 2, 3, 2, 3, 3, 4, 2, 3, 3, 4, 3, 4, 4, 5, 1, 2, 2, 3, 2, 3, 3, 4, 2, 3, 3, 4, 3, 4, 4, 5, 2, 3, 3, 4, 3, 4, 4, 5, 3, 4, 4, 5, 4, 5, 5, 6, 1, 2, 2, 3, 2, 3, 3, 4, 2, 3, 3, 4, 3, 4, 4, 5, 2, 3, 3, 4, 3, 4, 4, 5, 3, 4, 4, 5, 4, 5, 5, 6, 2, 3, 3, 4, 3, 4, 4, 5, 3, 4, 4, 5, 4, 5, 5, 6, 3, 4, 4, 5, 4, 5, 5, 6, 4, 5, 5, 6, 5, 6, 6, 7, 1, 2, 2, 3, 2, 3, 3, 4, 2, 3, 3, 4, 3, 4, 4, 5, 2, 3, 3, 4, 3, 4, 4, 5, 3, 4, 4, 5, 4, 5, 5, 6, 2, 3, 3, 4, 3, 4, 4, 5, 3, 4, 4, 5, 4, 5, 5, 6, 3, 4, 4, 5, 4, 5, 5, 6, 4, 5, 5, 6, 5, 6, 6, 7, 2, 3, 3, 4, 3, 4, 4, 5, 3, 4, 4, 5, 4, 5, 5, 6, 3, 4, 4, 5, 4, 5, 5, 6, 4, 5, 5, 6, 5, 6, 6, 7, 3, 4, 4, 5, 4, 5, 5, 6, 4, 5, 5, 6, 5, 6, 6, 7, 4, 5, 5, 6, 5, 6, 6, 7, 5, 6, 6, 7, 6, 7, 7, 8].toArray⟩)) (.t 4), none⟩,
      ⟨(some 6), .mov (.t 0), none⟩,
      ⟨(some 7), .bin .shr (.t 6) (.c (.int .u64 16)), none⟩,
      ⟨(some 8), .bin .and (.t 7) (.c (.int .u32 255)), none⟩,
      ⟨(some 9), .ixS (.c (.str ⟨[0, 1, 1, 2, 1, 2, 2, 3, 1, 2, 2, 3, 2, 3, 3, 4, 1, 2, 2, 3, 2, 3, 3, 4, 2, 3, 3, 4, 3, 4, 4, 5, 1, 2, 2, 3, 2, 3, 3, 4, 2, 3, 3, 4, 3, 4, 4, 5, 2, 3, 3, 4, 3, 4, 4, 5, 3, 4, 4, 5, 4, 5, 5, 6, 1, 2, 2, 3, 2, 3, 3, 4, 2, 3, 3, 4, 3, 4, 4, 5, 2, 3, 3, 4, 3, 4, 4, 5, 3, 4, 4, 5, 4, 5, 5, 6, 2, 3, 3, 4, 3, 4, 4, 5, 3, 4, 4, 5, 4, 5, 5, 6, 3, 4, 4, 5, 4, 5, 5, 6, 4, 5, 5, 6, 5, 6, 6, 7, 1, 2, 2, 3, 2, 3, 3, 4, 2, 3, 3, 4, 3, 4, 4, 5, 2, 3, 3, 4, 3, 4, 4, 5, 3, 4, 4, 5, 4, 5, 5, 6, 2, 3, 3, 4, 3, 4, 4, 5, 3, 4, 4, 5, 4, 5, 5, 6, 3, 4, 4, 5, 4, 5, 5, 6, 4, 5, 5, 6, 5, 6, 6, 7, 2, 3, 3, 4, 3, 4, 4, 5, 3, 4, 4, 5, 4, 5, 5, 6, 3, 4, 4, 5, 4, 5, 5, 6, 4, 5, 5, 6, 5, 6, 6, 7, 3, 4, 4, 5, 4, 5, 5, 6, 4, 5, 5, 6, 5, 6, 6, 7, 4, 5, 5, 6, 5, 6, 6, 7, 5, 6, 6, 7, 6, 7, 7, 8].toArray⟩)) (.t 8), none⟩,
      ⟨(some 10), .bin .add (.t 5) (.t 9), none⟩,
      ⟨(some 11), .mov (.t 0), none⟩,
      ⟨(some 12), .bin .shr (.t 11) (.c (.int .u64 8)), none⟩,
      ⟨(some 13), .bin .and (.t 12) (.c (.int .u32 255)), none⟩,
      ⟨(some 14), .ixS (.c (.str ⟨[0, 1, 1, 2, 1, 2, 2, 3, 1, 2, 2, 3, 2, 3, 3, 4, 1, 2, 2, 3, 2, 3, 3, 4, 2, 3, 3, 4, 3, 4, 4, 5, 1, 2, 2, 3, 2, 3, 3, 4, 2, 3, 3, 4, 3, 4, 4, 5, 2, 3, 3, 4, 3, 4, 4, 5, 3, 4, 4, 5, 4, 5, 5, 6, 1, 2, 2, 3, 2, 3, 3, 4, 2, 3, 3, 4, 3, 4, 4, 5, 2, 3, 3, 4, 3, 4, 4, 5, 3, 4, 4, 5, 4, 5, 5, 6, 2, 3, 3, 4, 3, 4, 4, 5, 3, 4, 4, 5, 4, 5, 5, 6, 3, 4, 4, 5, 4, 5, 5, 6, 4, 5, 5, 6, 5, 6, 6, 7, 1, 2, 2, 3, 2, 3, 3, 4, 2, 3, 3, 4, 3, 4, 4, 5, 2, 3, 3, 4, 3, 4, 4, 5, 3, 4, 4, 5, 4, 5, 5, 6, 2, 3, 3, 4, 3, 4, 4, 5, 3, 4, 4, 5, 4, 5, 5, 6, 3, 4, 4, 5, 4, 5, 5, 6, 4, 5, 5, 6, 5, 6, 6, 7, 2, 3, 3, 4, 3, 4, 4, 5, 3, 4, 4, 5, 4, 5, 5, 6, 3, 4, 4, 5, 4, 5, 5, 6, 4, 5, 5, 6, 5, 6, 6, 7, 3, 4, 4, 5, 4, 5, 5, 6, 4, 5, 5, 6, 5, 6, 6, 7, 4, 5, 5, 6, 5, 6, 6, 7, 5, 6, 6, 7, 6, 7, 7, 8].toArray⟩)) (.t 13), none⟩,
      ⟨(some 15), .bin .add (.t 10) (.t 14), none⟩,
      ⟨(some 16), .mov (.t 0), none⟩,
      ⟨(some 17), .bin .and (.t 16) (.c (.int .u32 255)), none⟩,
      ⟨(some 18), .ixS (.c (.str ⟨[0, 1, 1, 2, 1, 2, 2, 3, 1, 2, 2, 3, 2, 3, 3, 4, 1, 2, 2, 3, 2, 3, 3, 4, 2, 3, 3, 4, 3, 4, 4, 5, 1, 2, 2, 3, 2, 3, 3, 4, 2, 3, 3, 4, 3, 4, 4, 5, 2, 3, 3, 4, 3, 4, 4, 5, 3, 4, 4, 5, 4, 5, 5, 6, 1, 2, 2, 3, 2, 3, 3, 4, 2, 3, 3, 4, 3, 4, 4, 5, 2, 3, 3, 4, 3, 4, 4, 5, 3, 4, 4, 5, 4, 5, 5, 6, 2, 3, 3, 4, 3, 4, 4, 5, 3, 4, 4, 5, 4, 5, 5, 6, 3, 4, 4, 5, 4, 5, 5, 6, 4, 5, 5, 6, 5, 6, 6, 7, 1, 2, 2, 3, 2, 3, 3, 4, 2, 3, 3, 4, 3, 4, 4, 5, 2, 3, 3, 4, 3, 4, 4, 5, 3, 4, 4, 5, 4, 5, 5, 6, 2, 3, 3, 4, 3, 4, 4, 5, 3, 4, 4, 5, 4, 5, 5, 6, 3, 4, 4, 5, 4, 5, 5, 6, 4, 5, 5, 6, 5, 6, 6, 7, 2, 3, 3, 4, 3, 4, 4, 5, 3, 4, 4, 5, 4, 5, 5, 6, 3, 4, 4, 5, 4, 5, 5, 6, 4, 5, 5, 6, 5, 6, 6, 7, 3, 4, 4, 5, 4, 5, 5, 6, 4, 5, 5, 6, 5, 6, 6, 7, 4, 5, 5, 6, 5, 6, 6, 7, 5, 6, 6, 7, 6, 7, 7, 8].toArray⟩)) (.t 17), none⟩,
      ⟨(some 19), .bin .add (.t 15) (.t 18), none⟩,
      ⟨(some 20), .conv .i64 (.t 19), none⟩,
      ⟨(some 2), .mov (.t 20), none⟩] (some [2]) none)
    .ret))
def math_bits_OnesCount32_F : MF := ⟨21, [.t 2], math_bits_OnesCount32_M⟩
-- math/bits.OnesCount64
def math_bits_OnesCount64_M : MC :=
  (.seq (.reg none [
      ⟨(some 2), .mov (.c (.int .i64 0)), none⟩] (some [0]) none)
    (.seq (.reg none [
      ⟨(some 3), .mov (.t 0), none⟩,
      ⟨(some 4), .bin .shr (.t 3) (.c (.int .u64 1)), none⟩,
      ⟨(some 5), .bin .and (.t 4) (.c (.int .u64 6148914691236517205)), none⟩,
      ⟨(some 6), .mov (.t 0), none⟩,
      ⟨(some 7), .bin .and (.t 6) (.c (.int .u64 6148914691236517205)), none⟩,
      ⟨(some 8), .bin .add (.t 5) (.t 7), none⟩,
      ⟨(some 0), .mov (.t 8), none⟩] (some [0]) none)
    (.seq (.reg none [
      ⟨(some 9), .mov (.t 0), none⟩,
      ⟨(some 10), .bin .shr (.t 9) (.c (.int .u64 2)), none⟩,
      ⟨(some 11), .bin .and (.t 10) (.c (.int .u64 3689348814741910323)), none⟩,
      ⟨(some 12), .mov (.t 0), none⟩,
      ⟨(some 13), .bin .and (.t 12) (.c (.int .u64 3689348814741910323)), none⟩,
      ⟨(some 14), .bin .add (.t 11) (.t 13), none⟩,
      ⟨(some 0), .mov (.t 14), none⟩] (some [0]) none)
    (.seq (.reg none [
      ⟨(some 15), .mov (.t 0), none⟩,
      ⟨(some 16), .bin .shr (.t 15) (.c (.int .u64 4)), none⟩,
      ⟨(some 17), .mov (.t 0), none⟩,
      ⟨(some 18), .bin .add (.t 16) (.t 17), none⟩,
      ⟨(some 19), .bin .and (.t 18) (.c (.int .u64 1085102592571150095)), none⟩,
      ⟨(some 0), .mov (.t 19), none⟩] (some [0]) none)
    (.seq (.reg none [
      ⟨(some 20), .mov (.t 0), none⟩,
      ⟨(some 21), .mov (.t 0), none⟩,
      ⟨(some 22), .bin .shr (.t 21) (.c (.int .u64 8)), none⟩,
      ⟨(some 23), .bin .add (.t 20) (.t 22), none⟩,
      ⟨(some 0), .mov (.t 23), none⟩] (some [0]) none)
    (.seq (.reg none [
      ⟨(some 24), .mov (.t 0), none⟩,
      ⟨(some 25), .mov (.t 0), none⟩,
      ⟨(some 26), .bin .shr (.t 25) (.c (.int .u64 16)), none⟩,
      ⟨(some 27), .bin .add (.t 24) (.t 26), none⟩,
      ⟨(some 0), .mov (.t 27), none⟩] (some [0]) none)
    (.seq (.reg none [
      ⟨(some 28), .mov (.t 0), none⟩,
      ⟨(some 29), .mov (.t 0), none⟩,
      ⟨(some 30), .bin .shr (.t 29) (.c (.int .u64 32)), none⟩,
      ⟨(some 31), .bin .add (.t 28) (.t 30), none⟩,
      ⟨(some 0), .mov (.t 31), none⟩] (some [0]) none)
    (.seq (.reg none [
      ⟨(some 32), .mov (.t 0), none⟩,
      ⟨(some 33), .conv .i64 (.t 32), none⟩,
      ⟨(some 34), .bin .and (.t 33) (.c (.int .i64 127)), none⟩,
      ⟨(some 2), .mov (.t 34), none⟩] (some [2]) none)
    .ret))))))))
def math_bits_OnesCount64_F : MF := ⟨35, [.t 2], math_bits_OnesCount64_M⟩
-- loop.example/g01312/impl.isCell
def impl_isCell_M : MC :=
  (.seq (.reg none [
      ⟨(some 4), .mov (.c (.bool false)), none⟩] (some [0, 1]) none)
    (.seq (.reg none [
      ⟨(some 5), .mov (.t 0), none⟩,
      ⟨(some 6), .call 51 [(.t 5), (.c (.int .i64 0)), (.c (.int .i64 7))], none⟩,
      ⟨(some 7), .mov (.t 6), none⟩,
      ⟨(some 8), .mov (.t 1), some (7, true)⟩,
      ⟨(some 9), .call 51 [(.t 8), (.c (.int .i64 0)), (.c (.int .i64 7))], some (7, true)⟩,
      ⟨(some 10), .pick (.t 7) (.t 9) (.c (.bool false)), none⟩,
      ⟨(some 4), .mov (.t 10), none⟩] (some [4]) none)
    .ret))
def impl_isCell_F : MF := ⟨11, [.t 4], impl_isCell_M⟩
-- loop.example/g01312/spec.l01Cell
def spec_l01Cell_M : MC :=
  (.seq (.reg none [
      ⟨(some 2), .mov (.c (.bool false)), none⟩] (some [0]) none)
    (.seq (.reg none [
      ⟨(some 3), .mov (.t 0), none⟩,
      ⟨(some 4), .call 46 [(.t 3), (.c (.int .i64 0)), (.c (.int .i64 7))], none⟩,
      ⟨(some 2), .mov (.t 4), none⟩] (some [2]) none)
    .ret))
def spec_l01Cell_F : MF := ⟨5, [.t 2], spec_l01Cell_M⟩
-- 104 (runtime.boundsError).Error: no body
-- 105 (runtime.boundsError).RuntimeError: no body
-- 106 (runtime.errorString).Error: no body
-- 107 (runtime.errorString).RuntimeError: no body
-- 108 (runtime.plainError).Error: no body
-- 109 (runtime.plainError).RuntimeError: no body
-- 110 (runtime.errorAddressString).Error: no body
-- 111 (runtime.errorAddressString).RuntimeError: no body
-- 112 (*runtime.TypeAssertionError).Error: no body
-- 113 (*runtime.TypeAssertionError).RuntimeError: no body
-- 114 (*runtime.PanicNilError).Error: no body
-- 115 (*runtime.PanicNilError).RuntimeError: no body
-- 116 (*internal/abi.Type).Align: no body
-- 117 (internal/runtime/maps.unhashableTypeError).Error: no body
-- 118 (internal/runtime/maps.unhashableTypeError).RuntimeError: no body
-- 119 (loop.example/g01312/impl.Picture).has: no body
-- 120 (internal/abi.Kind).String: no body
theorem laws_FnExactShownAt_ok : OkF Try.prog 3 laws_FnExactShownAt_F Try.f3 (bodyOf Try.f3) := ⟨Try.func3, by kernel_rfl, by kernel_rfl, by kernel_rfl, by kernel_rfl⟩
theorem laws_FnExactJoinSchemes_ok : OkF Try.prog 4 laws_FnExactJoinSchemes_F Try.f4 (bodyOf Try.f4) := ⟨Try.func4, by kernel_rfl, by kernel_rfl, by kernel_rfl, by kernel_rfl⟩
theorem laws_FnExactJoinParts_ok : OkF Try.prog 5 laws_FnExactJoinParts_F Try.f5 (bodyOf Try.f5) := ⟨Try.func5, by kernel_rfl, by kernel_rfl, by kernel_rfl, by kernel_rfl⟩
theorem laws_FnExactMirrorLayer_ok : OkF Try.prog 6 laws_FnExactMirrorLayer_F Try.f6 (bodyOf Try.f6) := ⟨Try.func6, by kernel_rfl, by kernel_rfl, by kernel_rfl, by kernel_rfl⟩
theorem laws_FnExactTurnLayer_ok : OkF Try.prog 7 laws_FnExactTurnLayer_F Try.f7 (bodyOf Try.f7) := ⟨Try.func7, by kernel_rfl, by kernel_rfl, by kernel_rfl, by kernel_rfl⟩
theorem laws_FnExactDropShare_ok : OkF Try.prog 8 laws_FnExactDropShare_F Try.f8 (bodyOf Try.f8) := ⟨Try.func8, by kernel_rfl, by kernel_rfl, by kernel_rfl, by kernel_rfl⟩
theorem laws_FnExactSeesWith_ok : OkF Try.prog 9 laws_FnExactSeesWith_F Try.f9 (bodyOf Try.f9) := ⟨Try.func9, by kernel_rfl, by kernel_rfl, by kernel_rfl, by kernel_rfl⟩
theorem laws_FnExactWeightOf_ok : OkF Try.prog 10 laws_FnExactWeightOf_F Try.f10 (bodyOf Try.f10) := ⟨Try.func10, by kernel_rfl, by kernel_rfl, by kernel_rfl, by kernel_rfl⟩
theorem laws_FnExactGapOf_ok : OkF Try.prog 11 laws_FnExactGapOf_F Try.f11 (bodyOf Try.f11) := ⟨Try.func11, by kernel_rfl, by kernel_rfl, by kernel_rfl, by kernel_rfl⟩
theorem laws_FnExactAllOf_ok : OkF Try.prog 12 laws_FnExactAllOf_F Try.f12 (bodyOf Try.f12) := ⟨Try.func12, by kernel_rfl, by kernel_rfl, by kernel_rfl, by kernel_rfl⟩
theorem laws_FnExactShiftLayer_ok : OkF Try.prog 13 laws_FnExactShiftLayer_F Try.f13 (bodyOf Try.f13) := ⟨Try.func13, by kernel_rfl, by kernel_rfl, by kernel_rfl, by kernel_rfl⟩
theorem laws_FnExactReorderShares_ok : OkF Try.prog 14 laws_FnExactReorderShares_F Try.f14 (bodyOf Try.f14) := ⟨Try.func14, by kernel_rfl, by kernel_rfl, by kernel_rfl, by kernel_rfl⟩
theorem spec_ShownAt_ok : OkF Try.prog 15 spec_ShownAt_F Try.f15 (bodyOf Try.f15) := ⟨Try.func15, by kernel_rfl, by kernel_rfl, by kernel_rfl, by kernel_rfl⟩
theorem laws_toLayer_ok : OkF Try.prog 16 laws_toLayer_F Try.f16 (bodyOf Try.f16) := ⟨Try.func16, by kernel_rfl, by kernel_rfl, by kernel_rfl, by kernel_rfl⟩
theorem impl_ShownAt_ok : OkF Try.prog 17 impl_ShownAt_F Try.f17 (bodyOf Try.f17) := ⟨Try.func17, by kernel_rfl, by kernel_rfl, by kernel_rfl, by kernel_rfl⟩
theorem spec_JoinSchemes_ok : OkF Try.prog 18 spec_JoinSchemes_F Try.f18 (bodyOf Try.f18) := ⟨Try.func18, by kernel_rfl, by kernel_rfl, by kernel_rfl, by kernel_rfl⟩
theorem laws_toScheme_ok : OkF Try.prog 19 laws_toScheme_F Try.f19 (bodyOf Try.f19) := ⟨Try.func19, by kernel_rfl, by kernel_rfl, by kernel_rfl, by kernel_rfl⟩
theorem impl_JoinSchemes_ok : OkF Try.prog 20 impl_JoinSchemes_F Try.f20 (bodyOf Try.f20) := ⟨Try.func20, by kernel_rfl, by kernel_rfl, by kernel_rfl, by kernel_rfl⟩
theorem laws_eqScheme_ok : OkF Try.prog 21 laws_eqScheme_F Try.f21 (bodyOf Try.f21) := ⟨Try.func21, by kernel_rfl, by kernel_rfl, by kernel_rfl, by kernel_rfl⟩
theorem spec_JoinParts_ok : OkF Try.prog 22 spec_JoinParts_F Try.f22 (bodyOf Try.f22) := ⟨Try.func22, by kernel_rfl, by kernel_rfl, by kernel_rfl, by kernel_rfl⟩
theorem impl_JoinParts_ok : OkF Try.prog 23 impl_JoinParts_F Try.f23 (bodyOf Try.f23) := ⟨Try.func23, by kernel_rfl, by kernel_rfl, by kernel_rfl, by kernel_rfl⟩
theorem laws_eqLayer_ok : OkF Try.prog 24 laws_eqLayer_F Try.f24 (bodyOf Try.f24) := ⟨Try.func24, by kernel_rfl, by kernel_rfl, by kernel_rfl, by kernel_rfl⟩
theorem spec_MirrorLayer_ok : OkF Try.prog 25 spec_MirrorLayer_F Try.f25 (bodyOf Try.f25) := ⟨Try.func25, by kernel_rfl, by kernel_rfl, by kernel_rfl, by kernel_rfl⟩
theorem impl_MirrorLayer_ok : OkF Try.prog 26 impl_MirrorLayer_F Try.f26 (bodyOf Try.f26) := ⟨Try.func26, by kernel_rfl, by kernel_rfl, by kernel_rfl, by kernel_rfl⟩
theorem spec_TurnLayer_ok : OkF Try.prog 27 spec_TurnLayer_F Try.f27 (bodyOf Try.f27) := ⟨Try.func27, by kernel_rfl, by kernel_rfl, by kernel_rfl, by kernel_rfl⟩
theorem impl_TurnLayer_ok : OkF Try.prog 28 impl_TurnLayer_F Try.f28 (bodyOf Try.f28) := ⟨Try.func28, by kernel_rfl, by kernel_rfl, by kernel_rfl, by kernel_rfl⟩
theorem spec_DropShare_ok : OkF Try.prog 29 spec_DropShare_F Try.f29 (bodyOf Try.f29) := ⟨Try.func29, by kernel_rfl, by kernel_rfl, by kernel_rfl, by kernel_rfl⟩
theorem impl_DropShare_ok : OkF Try.prog 30 impl_DropShare_F Try.f30 (bodyOf Try.f30) := ⟨Try.func30, by kernel_rfl, by kernel_rfl, by kernel_rfl, by kernel_rfl⟩
theorem spec_SeesWith_ok : OkF Try.prog 31 spec_SeesWith_F Try.f31 (bodyOf Try.f31) := ⟨Try.func31, by kernel_rfl, by kernel_rfl, by kernel_rfl, by kernel_rfl⟩
theorem impl_SeesWith_ok : OkF Try.prog 32 impl_SeesWith_F Try.f32 (bodyOf Try.f32) := ⟨Try.func32, by kernel_rfl, by kernel_rfl, by kernel_rfl, by kernel_rfl⟩
theorem spec_WeightOf_ok : OkF Try.prog 33 spec_WeightOf_F Try.f33 (bodyOf Try.f33) := ⟨Try.func33, by kernel_rfl, by kernel_rfl, by kernel_rfl, by kernel_rfl⟩
theorem impl_WeightOf_ok : OkF Try.prog 34 impl_WeightOf_F Try.f34 (bodyOf Try.f34) := ⟨Try.func34, by kernel_rfl, by kernel_rfl, by kernel_rfl, by kernel_rfl⟩
theorem spec_GapOf_ok : OkF Try.prog 35 spec_GapOf_F Try.f35 (bodyOf Try.f35) := ⟨Try.func35, by kernel_rfl, by kernel_rfl, by kernel_rfl, by kernel_rfl⟩
theorem impl_GapOf_ok : OkF Try.prog 36 impl_GapOf_F Try.f36 (bodyOf Try.f36) := ⟨Try.func36, by kernel_rfl, by kernel_rfl, by kernel_rfl, by kernel_rfl⟩
theorem spec_AllOf_ok : OkF Try.prog 37 spec_AllOf_F Try.f37 (bodyOf Try.f37) := ⟨Try.func37, by kernel_rfl, by kernel_rfl, by kernel_rfl, by kernel_rfl⟩
theorem impl_AllOf_ok : OkF Try.prog 38 impl_AllOf_F Try.f38 (bodyOf Try.f38) := ⟨Try.func38, by kernel_rfl, by kernel_rfl, by kernel_rfl, by kernel_rfl⟩
theorem spec_ShiftLayer_ok : OkF Try.prog 39 spec_ShiftLayer_F Try.f39 (bodyOf Try.f39) := ⟨Try.func39, by kernel_rfl, by kernel_rfl, by kernel_rfl, by kernel_rfl⟩
theorem impl_ShiftLayer_ok : OkF Try.prog 40 impl_ShiftLayer_F Try.f40 (bodyOf Try.f40) := ⟨Try.func40, by kernel_rfl, by kernel_rfl, by kernel_rfl, by kernel_rfl⟩
theorem spec_ReorderShares_ok : OkF Try.prog 41 spec_ReorderShares_F Try.f41 (bodyOf Try.f41) := ⟨Try.func41, by kernel_rfl, by kernel_rfl, by kernel_rfl, by kernel_rfl⟩
theorem laws_toInt8S_ok : OkF Try.prog 42 laws_toInt8S_F Try.f42 (bodyOf Try.f42) := ⟨Try.func42, by kernel_rfl, by kernel_rfl, by kernel_rfl, by kernel_rfl⟩
theorem impl_ReorderShares_ok : OkF Try.prog 43 impl_ReorderShares_F Try.f43 (bodyOf Try.f43) := ⟨Try.func43, by kernel_rfl, by kernel_rfl, by kernel_rfl, by kernel_rfl⟩
theorem laws_eqInt8S_ok : OkF Try.prog 44 laws_eqInt8S_F Try.f44 (bodyOf Try.f44) := ⟨Try.func44, by kernel_rfl, by kernel_rfl, by kernel_rfl, by kernel_rfl⟩
theorem spec_l01Ok_ok : OkF Try.prog 45 spec_l01Ok_F Try.f45 (bodyOf Try.f45) := ⟨Try.func45, by kernel_rfl, by kernel_rfl, by kernel_rfl, by kernel_rfl⟩
theorem spec_l00In_ok : OkF Try.prog 46 spec_l00In_F Try.f46 (bodyOf Try.f46) := ⟨Try.func46, by kernel_rfl, by kernel_rfl, by kernel_rfl, by kernel_rfl⟩
theorem spec_l01Shown_ok : OkF Try.prog 47 spec_l01Shown_F Try.f47 (bodyOf Try.f47) := ⟨Try.func47, by kernel_rfl, by kernel_rfl, by kernel_rfl, by kernel_rfl⟩
theorem laws_toByteA64_ok : OkF Try.prog 48 laws_toByteA64_F Try.f48 (bodyOf Try.f48) := ⟨Try.func48, by kernel_rfl, by kernel_rfl, by kernel_rfl, by kernel_rfl⟩
theorem impl_firstOf_ok : OkF Try.prog 49 impl_firstOf_F Try.f49 (bodyOf Try.f49) := ⟨Try.func49, by kernel_rfl, by kernel_rfl, by kernel_rfl, by kernel_rfl⟩
theorem impl_ValidLayer_ok : OkF Try.prog 50 impl_ValidLayer_F Try.f50 (bodyOf Try.f50) := ⟨Try.func50, by kernel_rfl, by kernel_rfl, by kernel_rfl, by kernel_rfl⟩
theorem impl_within_ok : OkF Try.prog 51 impl_within_F Try.f51 (bodyOf Try.f51) := ⟨Try.func51, by kernel_rfl, by kernel_rfl, by kernel_rfl, by kernel_rfl⟩
theorem impl_Layer_shown_ok : OkF Try.prog 52 impl_Layer_shown_F Try.f52 (bodyOf Try.f52) := ⟨Try.func52, by kernel_rfl, by kernel_rfl, by kernel_rfl, by kernel_rfl⟩
theorem spec_l02Ok_ok : OkF Try.prog 53 spec_l02Ok_F Try.f53 (bodyOf Try.f53) := ⟨Try.func53, by kernel_rfl, by kernel_rfl, by kernel_rfl, by kernel_rfl⟩
theorem laws_toByteA6_ok : OkF Try.prog 54 laws_toByteA6_F Try.f54 (bodyOf Try.f54) := ⟨Try.func54, by kernel_rfl, by kernel_rfl, by kernel_rfl, by kernel_rfl⟩
theorem impl_ValidScheme_ok : OkF Try.prog 55 impl_ValidScheme_F Try.f55 (bodyOf Try.f55) := ⟨Try.func55, by kernel_rfl, by kernel_rfl, by kernel_rfl, by kernel_rfl⟩
theorem laws_eqByteA6_ok : OkF Try.prog 56 laws_eqByteA6_F Try.f56 (bodyOf Try.f56) := ⟨Try.func56, by kernel_rfl, by kernel_rfl, by kernel_rfl, by kernel_rfl⟩
theorem impl_areLayers_ok : OkF Try.prog 57 impl_areLayers_F Try.f57 (bodyOf Try.f57) := ⟨Try.func57, by kernel_rfl, by kernel_rfl, by kernel_rfl, by kernel_rfl⟩
theorem impl_joined_ok : OkF Try.prog 58 impl_joined_F Try.f58 (bodyOf Try.f58) := ⟨Try.func58, by kernel_rfl, by kernel_rfl, by kernel_rfl, by kernel_rfl⟩
theorem laws_eqByteA64_ok : OkF Try.prog 59 laws_eqByteA64_F Try.f59 (bodyOf Try.f59) := ⟨Try.func59, by kernel_rfl, by kernel_rfl, by kernel_rfl, by kernel_rfl⟩
theorem spec_l01Carried_ok : OkF Try.prog 60 spec_l01Carried_F Try.f60 (bodyOf Try.f60) := ⟨Try.func60, by kernel_rfl, by kernel_rfl, by kernel_rfl, by kernel_rfl⟩
theorem impl_changed_ok : OkF Try.prog 61 impl_changed_F Try.f61 (bodyOf Try.f61) := ⟨Try.func61, by kernel_rfl, by kernel_rfl, by kernel_rfl, by kernel_rfl⟩
theorem impl_MirrorLayer_1_ok : OkF Try.prog 62 impl_MirrorLayer_1_F Try.f62 (bodyOf Try.f62) := ⟨Try.func62, by kernel_rfl, by kernel_rfl, by kernel_rfl, by kernel_rfl⟩
theorem impl_mirrored_ok : OkF Try.prog 63 impl_mirrored_F Try.f63 (bodyOf Try.f63) := ⟨Try.func63, by kernel_rfl, by kernel_rfl, by kernel_rfl, by kernel_rfl⟩
theorem impl_TurnLayer_1_ok : OkF Try.prog 64 impl_TurnLayer_1_F Try.f64 (bodyOf Try.f64) := ⟨Try.func64, by kernel_rfl, by kernel_rfl, by kernel_rfl, by kernel_rfl⟩
theorem impl_turned_ok : OkF Try.prog 65 impl_turned_F Try.f65 (bodyOf Try.f65) := ⟨Try.func65, by kernel_rfl, by kernel_rfl, by kernel_rfl, by kernel_rfl⟩
theorem spec_ValidScheme_ok : OkF Try.prog 66 spec_ValidScheme_F Try.f66 (bodyOf Try.f66) := ⟨Try.func66, by kernel_rfl, by kernel_rfl, by kernel_rfl, by kernel_rfl⟩
theorem spec_l03Set_ok : OkF Try.prog 67 spec_l03Set_F Try.f67 (bodyOf Try.f67) := ⟨Try.func67, by kernel_rfl, by kernel_rfl, by kernel_rfl, by kernel_rfl⟩
theorem spec_l03Sees_ok : OkF Try.prog 68 spec_l03Sees_F Try.f68 (bodyOf Try.f68) := ⟨Try.func68, by kernel_rfl, by kernel_rfl, by kernel_rfl, by kernel_rfl⟩
theorem impl_Scheme_isSet_ok : OkF Try.prog 69 impl_Scheme_isSet_F Try.f69 (bodyOf Try.f69) := ⟨Try.func69, by kernel_rfl, by kernel_rfl, by kernel_rfl, by kernel_rfl⟩
theorem impl_Scheme_sees_ok : OkF Try.prog 70 impl_Scheme_sees_F Try.f70 (bodyOf Try.f70) := ⟨Try.func70, by kernel_rfl, by kernel_rfl, by kernel_rfl, by kernel_rfl⟩
theorem impl_Scheme_weight_ok : OkF Try.prog 71 impl_Scheme_weight_F Try.f71 (bodyOf Try.f71) := ⟨Try.func71, by kernel_rfl, by kernel_rfl, by kernel_rfl, by kernel_rfl⟩
theorem spec_l02Asked_ok : OkF Try.prog 72 spec_l02Asked_F Try.f72 (bodyOf Try.f72) := ⟨Try.func72, by kernel_rfl, by kernel_rfl, by kernel_rfl, by kernel_rfl⟩
theorem spec_l02Weight_ok : OkF Try.prog 73 spec_l02Weight_F Try.f73 (bodyOf Try.f73) := ⟨Try.func73, by kernel_rfl, by kernel_rfl, by kernel_rfl, by kernel_rfl⟩
theorem impl_setCode_ok : OkF Try.prog 74 impl_setCode_F Try.f74 (bodyOf Try.f74) := ⟨Try.func74, by kernel_rfl, by kernel_rfl, by kernel_rfl, by kernel_rfl⟩
theorem spec_l02Gap_ok : OkF Try.prog 75 spec_l02Gap_F Try.f75 (bodyOf Try.f75) := ⟨Try.func75, by kernel_rfl, by kernel_rfl, by kernel_rfl, by kernel_rfl⟩
theorem impl_Scheme_gap_ok : OkF Try.prog 76 impl_Scheme_gap_F Try.f76 (bodyOf Try.f76) := ⟨Try.func76, by kernel_rfl, by kernel_rfl, by kernel_rfl, by kernel_rfl⟩
theorem spec_l01Count_ok : OkF Try.prog 77 spec_l01Count_F Try.f77 (bodyOf Try.f77) := ⟨Try.func77, by kernel_rfl, by kernel_rfl, by kernel_rfl, by kernel_rfl⟩
theorem spec_l02From_ok : OkF Try.prog 78 spec_l02From_F Try.f78 (bodyOf Try.f78) := ⟨Try.func78, by kernel_rfl, by kernel_rfl, by kernel_rfl, by kernel_rfl⟩
theorem math_bits_OnesCount_ok : OkF Try.prog 79 math_bits_OnesCount_F Try.f79 (bodyOf Try.f79) := ⟨Try.func79, by kernel_rfl, by kernel_rfl, by kernel_rfl, by kernel_rfl⟩
theorem impl_Scheme_rowsOf_ok : OkF Try.prog 80 impl_Scheme_rowsOf_F Try.f80 (bodyOf Try.f80) := ⟨Try.func80, by kernel_rfl, by kernel_rfl, by kernel_rfl, by kernel_rfl⟩
theorem spec_l01Way_ok : OkF Try.prog 81 spec_l01Way_F Try.f81 (bodyOf Try.f81) := ⟨Try.func81, by kernel_rfl, by kernel_rfl, by kernel_rfl, by kernel_rfl⟩
theorem impl_isShift_ok : OkF Try.prog 82 impl_isShift_F Try.f82 (bodyOf Try.f82) := ⟨Try.func82, by kernel_rfl, by kernel_rfl, by kernel_rfl, by kernel_rfl⟩
theorem impl_Layer_each_ok : OkF Try.prog 83 impl_Layer_each_F Try.f83 (bodyOf Try.f83) := ⟨Try.func83, by kernel_rfl, by kernel_rfl, by kernel_rfl, by kernel_rfl⟩
theorem impl_ShiftLayer_1_ok : OkF Try.prog 84 impl_ShiftLayer_1_F Try.f84 (bodyOf Try.f84) := ⟨Try.func84, by kernel_rfl, by kernel_rfl, by kernel_rfl, by kernel_rfl⟩
theorem impl_shifted_ok : OkF Try.prog 85 impl_shifted_F Try.f85 (bodyOf Try.f85) := ⟨Try.func85, by kernel_rfl, by kernel_rfl, by kernel_rfl, by kernel_rfl⟩
theorem spec_l01Order_ok : OkF Try.prog 86 spec_l01Order_F Try.f86 (bodyOf Try.f86) := ⟨Try.func86, by kernel_rfl, by kernel_rfl, by kernel_rfl, by kernel_rfl⟩
theorem impl_isOrder_ok : OkF Try.prog 87 impl_isOrder_F Try.f87 (bodyOf Try.f87) := ⟨Try.func87, by kernel_rfl, by kernel_rfl, by kernel_rfl, by kernel_rfl⟩
theorem spec_l01Parts_ok : OkF Try.prog 88 spec_l01Parts_F Try.f88 (bodyOf Try.f88) := ⟨Try.func88, by kernel_rfl, by kernel_rfl, by kernel_rfl, by kernel_rfl⟩
theorem impl_isParts_ok : OkF Try.prog 89 impl_isParts_F Try.f89 (bodyOf Try.f89) := ⟨Try.func89, by kernel_rfl, by kernel_rfl, by kernel_rfl, by kernel_rfl⟩
theorem impl_mask_ok : OkF Try.prog 90 impl_mask_F Try.f90 (bodyOf Try.f90) := ⟨Try.func90, by kernel_rfl, by kernel_rfl, by kernel_rfl, by kernel_rfl⟩
theorem impl_pictureOf_ok : OkF Try.prog 91 impl_pictureOf_F Try.f91 (bodyOf Try.f91) := ⟨Try.func91, by kernel_rfl, by kernel_rfl, by kernel_rfl, by kernel_rfl⟩
theorem impl_Layer_shown_1_ok : OkF Try.prog 92 impl_Layer_shown_1_F Try.f92 (bodyOf Try.f92) := ⟨Try.func92, by kernel_rfl, by kernel_rfl, by kernel_rfl, by kernel_rfl⟩
theorem impl_Layer_count_ok : OkF Try.prog 93 impl_Layer_count_F Try.f93 (bodyOf Try.f93) := ⟨Try.func93, by kernel_rfl, by kernel_rfl, by kernel_rfl, by kernel_rfl⟩
theorem impl_joined_1_ok : OkF Try.prog 94 impl_joined_1_F Try.f94 (bodyOf Try.f94) := ⟨Try.func94, by kernel_rfl, by kernel_rfl, by kernel_rfl, by kernel_rfl⟩
theorem spec_l01From_ok : OkF Try.prog 95 spec_l01From_F Try.f95 (bodyOf Try.f95) := ⟨Try.func95, by kernel_rfl, by kernel_rfl, by kernel_rfl, by kernel_rfl⟩
theorem impl_Scheme_all_ok : OkF Try.prog 96 impl_Scheme_all_F Try.f96 (bodyOf Try.f96) := ⟨Try.func96, by kernel_rfl, by kernel_rfl, by kernel_rfl, by kernel_rfl⟩
theorem impl_Scheme_rows_ok : OkF Try.prog 97 impl_Scheme_rows_F Try.f97 (bodyOf Try.f97) := ⟨Try.func97, by kernel_rfl, by kernel_rfl, by kernel_rfl, by kernel_rfl⟩
theorem math_bits_OnesCount8_ok : OkF Try.prog 98 math_bits_OnesCount8_F Try.f98 (bodyOf Try.f98) := ⟨Try.func98, by kernel_rfl, by kernel_rfl, by kernel_rfl, by kernel_rfl⟩
theorem spec_l02Rows_ok : OkF Try.prog 99 spec_l02Rows_F Try.f99 (bodyOf Try.f99) := ⟨Try.func99, by kernel_rfl, by kernel_rfl, by kernel_rfl, by kernel_rfl⟩
theorem math_bits_OnesCount32_ok : OkF Try.prog 100 math_bits_OnesCount32_F Try.f100 (bodyOf Try.f100) := ⟨Try.func100, by kernel_rfl, by kernel_rfl, by kernel_rfl, by kernel_rfl⟩
theorem math_bits_OnesCount64_ok : OkF Try.prog 101 math_bits_OnesCount64_F Try.f101 (bodyOf Try.f101) := ⟨Try.func101, by kernel_rfl, by kernel_rfl, by kernel_rfl, by kernel_rfl⟩
theorem impl_isCell_ok : OkF Try.prog 102 impl_isCell_F Try.f102 (bodyOf Try.f102) := ⟨Try.func102, by kernel_rfl, by kernel_rfl, by kernel_rfl, by kernel_rfl⟩
theorem spec_l01Cell_ok : OkF Try.prog 103 spec_l01Cell_F Try.f103 (bodyOf Try.f103) := ⟨Try.func103, by kernel_rfl, by kernel_rfl, by kernel_rfl, by kernel_rfl⟩
end Go.Proofs.Ytbajijligpkepaa
