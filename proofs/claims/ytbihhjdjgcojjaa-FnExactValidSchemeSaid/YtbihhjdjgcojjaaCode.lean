/- A part of the proof library: names for blocks of memory, a small form of the code, and rules for walks over it. -/
import Derived.Test.YtbihhjdjgcojjaaProg
import Derived.Test.YtbihhjdjgcojjaaAb18
import Derived.KernelRfl
set_option linter.all false
namespace Go.Proofs.Ytbihhjdjgcojjaa
open Go.Ab
-- loop.example/g01312/laws.FnExactConstants
def laws_FnExactConstants_M : MC :=
  (.seq (.reg none [
      ⟨(some 0), .mov (.c (.bool false)), none⟩] (some []) none)
    (.seq (.cond (.c (.bool false)) (.seq (.reg none [
      ⟨(some 0), .mov (.c (.bool false)), none⟩] (some [0]) none)
    .ret)
    .skip)
    (.seq (.cond (.c (.bool false)) (.seq (.reg none [
      ⟨(some 0), .mov (.c (.bool false)), none⟩] (some [0]) none)
    .ret)
    .skip)
    (.seq (.cond (.c (.bool false)) (.seq (.reg none [
      ⟨(some 0), .mov (.c (.bool false)), none⟩] (some [0]) none)
    .ret)
    .skip)
    (.seq (.cond (.c (.bool false)) (.seq (.reg none [
      ⟨(some 0), .mov (.c (.bool false)), none⟩] (some [0]) none)
    .ret)
    .skip)
    (.seq (.cond (.c (.bool false)) (.seq (.reg none [
      ⟨(some 0), .mov (.c (.bool false)), none⟩] (some [0]) none)
    .ret)
    .skip)
    (.seq (.cond (.c (.bool false)) (.seq (.reg none [
      ⟨(some 0), .mov (.c (.bool false)), none⟩] (some [0]) none)
    .ret)
    .skip)
    (.seq (.cond (.c (.bool false)) (.seq (.reg none [
      ⟨(some 0), .mov (.c (.bool false)), none⟩] (some [0]) none)
    .ret)
    .skip)
    (.seq (.cond (.c (.bool false)) (.seq (.reg none [
      ⟨(some 0), .mov (.c (.bool false)), none⟩] (some [0]) none)
    .ret)
    .skip)
    (.seq (.cond (.c (.bool false)) (.seq (.reg none [
      ⟨(some 0), .mov (.c (.bool false)), none⟩] (some [0]) none)
    .ret)
    .skip)
    (.seq (.cond (.c (.bool false)) (.seq (.reg none [
      ⟨(some 0), .mov (.c (.bool false)), none⟩] (some [0]) none)
    .ret)
    .skip)
    (.seq (.cond (.c (.bool false)) (.seq (.reg none [
      ⟨(some 0), .mov (.c (.bool false)), none⟩] (some [0]) none)
    .ret)
    .skip)
    (.seq (.cond (.c (.bool false)) (.seq (.reg none [
      ⟨(some 0), .mov (.c (.bool false)), none⟩] (some [0]) none)
    .ret)
    .skip)
    (.seq (.cond (.c (.bool false)) (.seq (.reg none [
      ⟨(some 0), .mov (.c (.bool false)), none⟩] (some [0]) none)
    .ret)
    .skip)
    (.seq (.cond (.c (.bool false)) (.seq (.reg none [
      ⟨(some 0), .mov (.c (.bool false)), none⟩] (some [0]) none)
    .ret)
    .skip)
    (.seq (.cond (.c (.bool false)) (.seq (.reg none [
      ⟨(some 0), .mov (.c (.bool false)), none⟩] (some [0]) none)
    .ret)
    .skip)
    (.seq (.cond (.c (.bool false)) (.seq (.reg none [
      ⟨(some 0), .mov (.c (.bool false)), none⟩] (some [0]) none)
    .ret)
    .skip)
    (.seq (.cond (.c (.bool false)) (.seq (.reg none [
      ⟨(some 0), .mov (.c (.bool false)), none⟩] (some [0]) none)
    .ret)
    .skip)
    (.seq (.reg none [
      ⟨(some 0), .mov (.c (.bool true)), none⟩] (some [0]) none)
    .ret)))))))))))))))))))
def laws_FnExactConstants_F : MF := ⟨1, [.t 0], laws_FnExactConstants_M⟩
-- loop.example/g01312/laws.FnExactCodeName
def laws_FnExactCodeName_M : MC :=
  (.seq (.reg none [
      ⟨(some 2), .mov (.c (.bool false)), none⟩] (some [0]) none)
    (.seq (.reg none [
      ⟨(some 5), .mov (.t 0), none⟩,
      ⟨(some 6), .call 9 [(.t 5)], none⟩,
      ⟨(some 3), .mov (.t 6), none⟩] (some [0, 3]) none)
    (.seq (.reg none [
      ⟨(some 7), .mov (.t 0), none⟩,
      ⟨(some 8), .call 10 [(.t 7)], none⟩,
      ⟨(some 4), .mov (.t 8), none⟩] (some [3, 4]) none)
    (.seq (.seq (.reg none [
      ⟨(some 9), .mov (.t 4), none⟩,
      ⟨(some 10), .mov (.t 3), none⟩,
      ⟨(some 11), .bin .neq (.t 9) (.t 10), none⟩] (some [11]) none)
    (.cond (.t 11) (.seq (.reg none [
      ⟨(some 2), .mov (.c (.bool false)), none⟩] (some [2]) none)
    .ret)
    .skip))
    (.seq (.reg none [
      ⟨(some 2), .mov (.c (.bool true)), none⟩] (some [2]) none)
    .ret)))))
def laws_FnExactCodeName_F : MF := ⟨12, [.t 2], laws_FnExactCodeName_M⟩
-- loop.example/g01312/laws.FnExactNextNumber
def laws_FnExactNextNumber_M : MC :=
  (.seq (.reg none [
      ⟨(some 4), .mov (.c (.bool false)), none⟩] (some [0, 1]) none)
    (.seq (.reg none [
      ⟨(some 12), .mov (.t 0), none⟩,
      ⟨(some 13), .mov (.t 1), none⟩,
      ⟨(some 14), .call 11 [(.t 12), (.t 13)], none⟩,
      ⟨(some 11), .mov (.t 14), none⟩,
      ⟨(some 15), .ext (.t 11) 0, none⟩,
      ⟨(some 16), .ext (.t 11) 1, none⟩,
      ⟨(some 17), .ext (.t 11) 2, none⟩,
      ⟨(some 5), .mov (.t 15), none⟩,
      ⟨(some 6), .mov (.t 16), none⟩,
      ⟨(some 7), .mov (.t 17), none⟩] (some [0, 1, 5, 6, 7]) none)
    (.seq (.reg none [
      ⟨(some 19), .mov (.t 0), none⟩,
      ⟨(some 20), .mov (.t 1), none⟩,
      ⟨(some 21), .call 12 [(.t 19), (.t 20)], none⟩,
      ⟨(some 18), .mov (.t 21), none⟩,
      ⟨(some 22), .ext (.t 18) 0, none⟩,
      ⟨(some 23), .ext (.t 18) 1, none⟩,
      ⟨(some 24), .ext (.t 18) 2, none⟩,
      ⟨(some 8), .mov (.t 22), none⟩,
      ⟨(some 9), .mov (.t 23), none⟩,
      ⟨(some 10), .mov (.t 24), none⟩] (some [5, 6, 7, 8, 9, 10]) none)
    (.seq (.seq (.reg none [
      ⟨(some 25), .mov (.t 8), none⟩,
      ⟨(some 26), .mov (.t 5), none⟩,
      ⟨(some 27), .bin .neq (.t 25) (.t 26), none⟩,
      ⟨(some 28), .mov (.t 27), none⟩,
      ⟨(some 29), .mov (.t 9), some (28, false)⟩,
      ⟨(some 30), .mov (.t 6), some (28, false)⟩,
      ⟨(some 31), .bin .neq (.t 29) (.t 30), some (28, false)⟩,
      ⟨(some 32), .pick (.t 28) (.c (.bool true)) (.t 31), none⟩,
      ⟨(some 33), .mov (.t 32), none⟩,
      ⟨(some 34), .mov (.t 10), some (33, false)⟩,
      ⟨(some 35), .mov (.t 7), some (33, false)⟩,
      ⟨(some 36), .bin .neq (.t 34) (.t 35), some (33, false)⟩,
      ⟨(some 37), .pick (.t 33) (.c (.bool true)) (.t 36), none⟩] (some [37]) none)
    (.cond (.t 37) (.seq (.reg none [
      ⟨(some 4), .mov (.c (.bool false)), none⟩] (some [4]) none)
    .ret)
    .skip))
    (.seq (.reg none [
      ⟨(some 4), .mov (.c (.bool true)), none⟩] (some [4]) none)
    .ret)))))
def laws_FnExactNextNumber_F : MF := ⟨38, [.t 4], laws_FnExactNextNumber_M⟩
-- loop.example/g01312/laws.FnExactCountBlack
def laws_FnExactCountBlack_M : MC :=
  (.seq (.reg none [
      ⟨(some 2), .mov (.c (.bool false)), none⟩] (some [0]) none)
    (.seq (.reg none [
      ⟨(some 5), .mov (.t 0), none⟩,
      ⟨(some 6), .call 13 [(.t 5)], none⟩,
      ⟨(some 3), .mov (.t 6), none⟩] (some [0, 3]) none)
    (.seq (.reg none [
      ⟨(some 7), .mov (.t 0), none⟩,
      ⟨(some 8), .call 14 [(.t 7)], none⟩,
      ⟨(some 4), .mov (.t 8), none⟩] (some [3, 4]) none)
    (.seq (.seq (.reg none [
      ⟨(some 9), .mov (.t 4), none⟩,
      ⟨(some 10), .mov (.t 3), none⟩,
      ⟨(some 11), .bin .neq (.t 9) (.t 10), none⟩] (some [11]) none)
    (.cond (.t 11) (.seq (.reg none [
      ⟨(some 2), .mov (.c (.bool false)), none⟩] (some [2]) none)
    .ret)
    .skip))
    (.seq (.reg none [
      ⟨(some 2), .mov (.c (.bool true)), none⟩] (some [2]) none)
    .ret)))))
def laws_FnExactCountBlack_F : MF := ⟨12, [.t 2], laws_FnExactCountBlack_M⟩
-- loop.example/g01312/laws.FnExactValidLayer
def laws_FnExactValidLayer_M : MC :=
  (.seq (.reg none [
      ⟨(some 1), .box (.t 0), none⟩,
      ⟨(some 2), .mov (.c (.bool false)), none⟩] (some [1]) none)
    (.seq (.reg none [
      ⟨(some 5), .load (some 65) (.t 1), none⟩,
      ⟨(some 6), .call 16 [(.t 5)], none⟩,
      ⟨(some 7), .call 15 [(.t 6)], none⟩,
      ⟨(some 3), .mov (.t 7), none⟩] (some [1, 3]) none)
    (.seq (.reg none [
      ⟨(some 8), .load (some 65) (.t 1), none⟩,
      ⟨(some 9), .call 16 [(.t 8)], none⟩,
      ⟨(some 10), .call 17 [(.t 9)], none⟩,
      ⟨(some 4), .mov (.t 10), none⟩] (some [3, 4]) none)
    (.seq (.seq (.reg none [
      ⟨(some 11), .mov (.t 4), none⟩,
      ⟨(some 12), .mov (.t 3), none⟩,
      ⟨(some 13), .beq true (.t 11) (.t 12), none⟩] (some [13]) none)
    (.cond (.t 13) (.seq (.reg none [
      ⟨(some 2), .mov (.c (.bool false)), none⟩] (some [2]) none)
    .ret)
    .skip))
    (.seq (.reg none [
      ⟨(some 2), .mov (.c (.bool true)), none⟩] (some [2]) none)
    .ret)))))
def laws_FnExactValidLayer_F : MF := ⟨14, [.t 2], laws_FnExactValidLayer_M⟩
-- loop.example/g01312/laws.FnExactValidScheme
def laws_FnExactValidScheme_M : MC :=
  (.seq (.reg none [
      ⟨(some 1), .box (.t 0), none⟩,
      ⟨(some 2), .mov (.c (.bool false)), none⟩] (some [1]) none)
    (.seq (.reg none [
      ⟨(some 5), .load (some 14) (.t 1), none⟩,
      ⟨(some 6), .call 19 [(.t 5)], none⟩,
      ⟨(some 7), .call 18 [(.t 6)], none⟩,
      ⟨(some 3), .mov (.t 7), none⟩] (some [1, 3]) none)
    (.seq (.reg none [
      ⟨(some 8), .load (some 14) (.t 1), none⟩,
      ⟨(some 9), .call 19 [(.t 8)], none⟩,
      ⟨(some 10), .call 20 [(.t 9)], none⟩,
      ⟨(some 4), .mov (.t 10), none⟩] (some [3, 4]) none)
    (.seq (.seq (.reg none [
      ⟨(some 11), .mov (.t 4), none⟩,
      ⟨(some 12), .mov (.t 3), none⟩,
      ⟨(some 13), .beq true (.t 11) (.t 12), none⟩] (some [13]) none)
    (.cond (.t 13) (.seq (.reg none [
      ⟨(some 2), .mov (.c (.bool false)), none⟩] (some [2]) none)
    .ret)
    .skip))
    (.seq (.reg none [
      ⟨(some 2), .mov (.c (.bool true)), none⟩] (some [2]) none)
    .ret)))))
def laws_FnExactValidScheme_F : MF := ⟨14, [.t 2], laws_FnExactValidScheme_M⟩
-- loop.example/g01312/spec.CodeName
def spec_CodeName_M : MC :=
  (.seq (.reg none [
      ⟨(some 2), .mov (.c (.str ⟨[].toArray⟩)), none⟩] (some [0]) none)
    (.seq (.reg none [
      ⟨(some 4), .bldS [.str ⟨[].toArray⟩] 9 [(0, 1, (.c (.str ⟨[111, 107].toArray⟩))), (1, 1, (.c (.str ⟨[105, 110, 118, 97, 108, 105, 100].toArray⟩))), (2, 1, (.c (.str ⟨[114, 97, 110, 103, 101].toArray⟩))), (3, 1, (.c (.str ⟨[108, 105, 109, 105, 116].toArray⟩))), (4, 1, (.c (.str ⟨[115, 116, 97, 116, 101].toArray⟩))), (5, 1, (.c (.str ⟨[115, 121, 110, 116, 97, 120].toArray⟩))), (6, 1, (.c (.str ⟨[110, 111, 116, 102, 111, 117, 110, 100].toArray⟩))), (7, 1, (.c (.str ⟨[98, 117, 100, 103, 101, 116].toArray⟩))), (8, 1, (.c (.str ⟨[112, 114, 111, 111, 102].toArray⟩)))], none⟩,
      ⟨(some 3), .mov (.t 4), none⟩] (some [0, 3]) none)
    (.seq (.seq (.reg none [
      ⟨(some 5), .mov (.t 0), none⟩,
      ⟨(some 6), .call 21 [(.t 5), (.c (.int .i64 0)), (.c (.int .i64 8))], none⟩,
      ⟨(some 7), .un .not (.t 6), none⟩] (some [0, 3, 7]) none)
    (.cond (.t 7) (.seq (.reg none [
      ⟨(some 2), .mov (.c (.str ⟨[].toArray⟩)), none⟩] (some [2]) none)
    .ret)
    .skip))
    (.seq (.reg none [
      ⟨(some 8), .mov (.t 3), none⟩,
      ⟨(some 9), .mov (.t 0), none⟩,
      ⟨(some 10), .iaS 1 (.t 8) (.t 9), none⟩,
      ⟨(some 11), .load none (.t 10), none⟩,
      ⟨(some 2), .mov (.t 11), none⟩] (some [2]) none)
    .ret))))
def spec_CodeName_F : MF := ⟨12, [.t 2], spec_CodeName_M⟩
-- loop.example/g01312/impl.CodeName
def impl_CodeName_M : MC :=
  (.seq (.reg none [
      ⟨(some 2), .mov (.c (.str ⟨[].toArray⟩)), none⟩] (some [0]) none)
    (.seq (.seq (.reg none [
      ⟨(some 3), .mov (.t 0), none⟩,
      ⟨(some 4), .call 22 [(.t 3), (.c (.int .i64 0)), (.c (.int .i64 8))], none⟩,
      ⟨(some 5), .un .not (.t 4), none⟩] (some [0, 5]) none)
    (.cond (.t 5) (.seq (.reg none [
      ⟨(some 2), .mov (.c (.str ⟨[].toArray⟩)), none⟩] (some [2]) none)
    .ret)
    .skip))
    (.seq (.reg none [
      ⟨(some 6), .bldS [.str ⟨[].toArray⟩] 9 [(0, 1, (.c (.str ⟨[111, 107].toArray⟩))), (1, 1, (.c (.str ⟨[105, 110, 118, 97, 108, 105, 100].toArray⟩))), (2, 1, (.c (.str ⟨[114, 97, 110, 103, 101].toArray⟩))), (3, 1, (.c (.str ⟨[108, 105, 109, 105, 116].toArray⟩))), (4, 1, (.c (.str ⟨[115, 116, 97, 116, 101].toArray⟩))), (5, 1, (.c (.str ⟨[115, 121, 110, 116, 97, 120].toArray⟩))), (6, 1, (.c (.str ⟨[110, 111, 116, 102, 111, 117, 110, 100].toArray⟩))), (7, 1, (.c (.str ⟨[98, 117, 100, 103, 101, 116].toArray⟩))), (8, 1, (.c (.str ⟨[112, 114, 111, 111, 102].toArray⟩)))], none⟩,
      ⟨(some 7), .mov (.t 0), none⟩,
      ⟨(some 8), .iaS 1 (.t 6) (.t 7), none⟩,
      ⟨(some 9), .load none (.t 8), none⟩,
      ⟨(some 2), .mov (.t 9), none⟩] (some [2]) none)
    .ret)))
def impl_CodeName_F : MF := ⟨10, [.t 2], impl_CodeName_M⟩
-- loop.example/g01312/spec.NextNumber
def spec_NextNumber_M : MC :=
  (.seq (.reg none [
      ⟨(some 4), .mov (.c (.int .i64 0)), none⟩,
      ⟨(some 5), .mov (.c (.int .u32 0)), none⟩,
      ⟨(some 6), .mov (.c (.int .i64 0)), none⟩] (some [0, 1]) none)
    (.seq (.seq (.reg none [
      ⟨(some 9), .mov (.t 1), none⟩,
      ⟨(some 10), .call 21 [(.t 9), (.c (.int .i64 1)), (.c (.int .i64 1000))], none⟩,
      ⟨(some 11), .un .not (.t 10), none⟩] (some [0, 1, 11]) none)
    (.cond (.t 11) (.seq (.reg none [
      ⟨(some 4), .mov (.c (.int .i64 0)), none⟩,
      ⟨(some 5), .mov (.c (.int .u32 0)), none⟩,
      ⟨(some 6), .mov (.c (.int .i64 2)), none⟩] (some [4, 5, 6]) none)
    .ret)
    .skip))
    (.seq (.reg none [
      ⟨(some 13), .mov (.t 0), none⟩,
      ⟨(some 14), .mov (.t 1), none⟩,
      ⟨(some 15), .call 23 [(.t 13), (.t 14)], none⟩,
      ⟨(some 12), .mov (.t 15), none⟩,
      ⟨(some 16), .ext (.t 12) 0, none⟩,
      ⟨(some 17), .ext (.t 12) 1, none⟩,
      ⟨(some 7), .mov (.t 16), none⟩,
      ⟨(some 8), .mov (.t 17), none⟩] (some [7, 8]) none)
    (.seq (.reg none [
      ⟨(some 18), .mov (.t 7), none⟩,
      ⟨(some 19), .mov (.t 8), none⟩,
      ⟨(some 4), .mov (.t 18), none⟩,
      ⟨(some 5), .mov (.t 19), none⟩,
      ⟨(some 6), .mov (.c (.int .i64 0)), none⟩] (some [4, 5, 6]) none)
    .ret))))
def spec_NextNumber_F : MF := ⟨20, [.t 4, .t 5, .t 6], spec_NextNumber_M⟩
-- loop.example/g01312/impl.NextNumber
def impl_NextNumber_M : MC :=
  (.seq (.reg none [
      ⟨(some 2), .box (.t 0), none⟩,
      ⟨(some 4), .mov (.c (.int .i64 0)), none⟩,
      ⟨(some 5), .mov (.c (.int .u32 0)), none⟩,
      ⟨(some 6), .mov (.c (.int .i64 0)), none⟩] (some [1, 2]) none)
    (.seq (.seq (.reg none [
      ⟨(some 8), .mov (.t 1), none⟩,
      ⟨(some 9), .call 22 [(.t 8), (.c (.int .i64 1)), (.c (.int .i64 1000))], none⟩,
      ⟨(some 10), .un .not (.t 9), none⟩] (some [1, 2, 10]) none)
    (.cond (.t 10) (.seq (.reg none [
      ⟨(some 4), .mov (.c (.int .i64 0)), none⟩,
      ⟨(some 5), .mov (.c (.int .u32 0)), none⟩,
      ⟨(some 6), .mov (.c (.int .i64 2)), none⟩] (some [4, 5, 6]) none)
    .ret)
    .skip))
    (.seq (.reg none [
      ⟨(some 11), .mov (.t 1), none⟩,
      ⟨(some 12), .call 24 [(.t 2), (.t 11)], none⟩,
      ⟨(some 7), .mov (.t 12), none⟩] (some [2, 7]) none)
    (.seq (.reg (some []) [
      ⟨(some 13), .mov (.t 7), none⟩,
      ⟨(some 14), .load none (.t 2), none⟩,
      ⟨(some 4), .mov (.t 13), none⟩,
      ⟨(some 5), .mov (.t 14), none⟩,
      ⟨(some 6), .mov (.c (.int .i64 0)), none⟩] (some [4, 5, 6]) none)
    .ret))))
def impl_NextNumber_F : MF := ⟨15, [.t 4, .t 5, .t 6], impl_NextNumber_M⟩
-- loop.example/g01312/spec.CountBlack
def spec_CountBlack_M : MC :=
  (.seq (.reg none [
      ⟨(some 2), .mov (.c (.int .i64 0)), none⟩] (some [0]) none)
    (.seq (.reg none [
      ⟨(some 3), .mov (.t 0), none⟩,
      ⟨(some 4), .call 25 [(.t 3)], none⟩,
      ⟨(some 2), .mov (.t 4), none⟩] (some [2]) none)
    .ret))
def spec_CountBlack_F : MF := ⟨5, [.t 2], spec_CountBlack_M⟩
-- loop.example/g01312/impl.CountBlack
def impl_CountBlack_M : MC :=
  (.seq (.reg none [
      ⟨(some 2), .mov (.c (.int .i64 0)), none⟩] (some [0]) none)
    (.seq (.reg none [
      ⟨(some 3), .mov (.t 0), none⟩,
      ⟨(some 4), .call 26 [(.t 3)], none⟩,
      ⟨(some 2), .mov (.t 4), none⟩] (some [2]) none)
    .ret))
def impl_CountBlack_F : MF := ⟨5, [.t 2], impl_CountBlack_M⟩
-- loop.example/g01312/spec.ValidLayer
def spec_ValidLayer_M : MC :=
  (.seq (.reg none [
      ⟨(some 1), .box (.t 0), none⟩,
      ⟨(some 2), .mov (.c (.bool false)), none⟩] (some [1]) none)
    (.seq (.reg none [
      ⟨(some 3), .call 27 [(.t 1)], none⟩,
      ⟨(some 2), .mov (.t 3), none⟩] (some [2]) none)
    .ret))
def spec_ValidLayer_F : MF := ⟨4, [.t 2], spec_ValidLayer_M⟩
-- loop.example/g01312/laws.toLayer
def laws_toLayer_M : MC :=
  (.seq (.reg none [
      ⟨(some 1), .box (.t 0), none⟩,
      ⟨(some 2), .new (rl [(1, .int .i8 0), (64, .int .u8 0)]), none⟩] (some [1, 2]) none)
    (.seq (.reg none [
      ⟨(some 3), .new (rl [(1, .int .i8 0), (64, .int .u8 0)]), none⟩] (some [1, 2, 3]) none)
    (.seq (.reg none [
      ⟨(some 4), .fa 0 (.t 1), none⟩,
      ⟨(some 5), .load none (.t 4), none⟩,
      ⟨(some 6), .fa 0 (.t 3), none⟩,
      ⟨none, .store 1 (.t 6) (.t 5), none⟩] (some [1, 2, 3]) none)
    (.seq (.reg none [
      ⟨(some 7), .fa 1 (.t 1), none⟩,
      ⟨(some 8), .load (some 64) (.t 7), none⟩,
      ⟨(some 9), .call 28 [(.t 8)], none⟩,
      ⟨(some 10), .fa 1 (.t 3), none⟩,
      ⟨none, .store 64 (.t 10) (.t 9), none⟩] (some [2, 3]) none)
    (.seq (.reg none [
      ⟨(some 11), .load (some 65) (.t 3), none⟩,
      ⟨none, .store 65 (.t 2) (.t 11), none⟩] (some [2]) none)
    .ret)))))
def laws_toLayer_F : MF := ⟨12, [.c 2 (some 65)], laws_toLayer_M⟩
-- loop.example/g01312/impl.ValidLayer
def impl_ValidLayer_L0 : MC :=
  (.seq (.reg none [
      ⟨(some 13), .bin .lss (.t 12) (.c (.int .i64 64)), none⟩] (some [1, 11, 12, 13]) none)
    (.seq (.cond (.t 13) .skip
    (.exit 0))
    (.seq (.block 1 (.seq (.reg none [
      ⟨(some 14), .ix 64 1 none (.t 11) (.t 12), none⟩,
      ⟨(some 4), .mov (.t 14), none⟩] (some [1, 4, 11, 12]) none)
    (.seq (.reg none [
      ⟨(some 15), .mov (.t 4), none⟩,
      ⟨(some 16), .fa 0 (.t 1), none⟩,
      ⟨(some 17), .load none (.t 16), none⟩,
      ⟨(some 18), .call 30 [(.t 17)], none⟩,
      ⟨(some 19), .bin .andNot (.t 15) (.t 18), none⟩,
      ⟨(some 20), .bin .neq (.t 19) (.c (.int .u8 0)), none⟩] (some [1, 11, 12, 20]) none)
    (.cond (.t 20) (.seq (.reg none [
      ⟨(some 2), .mov (.c (.bool false)), none⟩] (some [2]) none)
    .ret)
    .skip))))
    (.reg none [
      ⟨(some 21), .bin .add (.t 12) (.c (.int .i64 1)), none⟩,
      ⟨(some 12), .mov (.t 21), none⟩] (some [1, 11, 12]) none))))
def impl_ValidLayer_M : MC :=
  (.seq (.reg none [
      ⟨(some 1), .box (.t 0), none⟩,
      ⟨(some 2), .mov (.c (.bool false)), none⟩] (some [1]) none)
    (.seq (.seq (.reg none [
      ⟨(some 5), .fa 0 (.t 1), none⟩,
      ⟨(some 6), .load none (.t 5), none⟩,
      ⟨(some 7), .conv .i64 (.t 6), none⟩,
      ⟨(some 8), .call 29 [(.t 7)], none⟩,
      ⟨(some 9), .un .not (.t 8), none⟩] (some [1, 9]) none)
    (.cond (.t 9) (.seq (.reg none [
      ⟨(some 2), .mov (.c (.bool false)), none⟩] (some [2]) none)
    .ret)
    .skip))
    (.seq (.seq (.reg none [
      ⟨(some 10), .fa 1 (.t 1), none⟩,
      ⟨(some 11), .load (some 64) (.t 10), none⟩,
      ⟨(some 12), .mov (.c (.int .i64 0)), none⟩] (some [1, 11, 12]) none)
    (.block 0 (.loop impl_ValidLayer_L0)))
    (.seq (.reg none [
      ⟨(some 2), .mov (.c (.bool true)), none⟩] (some [2]) none)
    .ret))))
def impl_ValidLayer_F : MF := ⟨22, [.t 2], impl_ValidLayer_M⟩
-- loop.example/g01312/spec.ValidScheme
def spec_ValidScheme_M : MC :=
  (.seq (.reg none [
      ⟨(some 1), .box (.t 0), none⟩,
      ⟨(some 2), .mov (.c (.bool false)), none⟩] (some [1]) none)
    (.seq (.reg none [
      ⟨(some 3), .call 31 [(.t 1)], none⟩,
      ⟨(some 2), .mov (.t 3), none⟩] (some [2]) none)
    .ret))
def spec_ValidScheme_F : MF := ⟨4, [.t 2], spec_ValidScheme_M⟩
-- loop.example/g01312/laws.toScheme
def laws_toScheme_M : MC :=
  (.seq (.reg none [
      ⟨(some 1), .box (.t 0), none⟩,
      ⟨(some 2), .new (rl [(2, .int .i8 0), (12, .int .u8 0)]), none⟩] (some [1, 2]) none)
    (.seq (.reg none [
      ⟨(some 3), .new (rl [(2, .int .i8 0), (12, .int .u8 0)]), none⟩] (some [1, 2, 3]) none)
    (.seq (.reg none [
      ⟨(some 4), .fa 0 (.t 1), none⟩,
      ⟨(some 5), .load none (.t 4), none⟩,
      ⟨(some 6), .fa 0 (.t 3), none⟩,
      ⟨none, .store 1 (.t 6) (.t 5), none⟩] (some [1, 2, 3]) none)
    (.seq (.reg none [
      ⟨(some 7), .fa 1 (.t 1), none⟩,
      ⟨(some 8), .load none (.t 7), none⟩,
      ⟨(some 9), .fa 1 (.t 3), none⟩,
      ⟨none, .store 1 (.t 9) (.t 8), none⟩] (some [1, 2, 3]) none)
    (.seq (.reg none [
      ⟨(some 10), .fa 2 (.t 1), none⟩,
      ⟨(some 11), .load (some 6) (.t 10), none⟩,
      ⟨(some 12), .call 32 [(.t 11)], none⟩,
      ⟨(some 13), .fa 2 (.t 3), none⟩,
      ⟨none, .store 6 (.t 13) (.t 12), none⟩] (some [1, 2, 3]) none)
    (.seq (.reg none [
      ⟨(some 14), .fa 8 (.t 1), none⟩,
      ⟨(some 15), .load (some 6) (.t 14), none⟩,
      ⟨(some 16), .call 32 [(.t 15)], none⟩,
      ⟨(some 17), .fa 8 (.t 3), none⟩,
      ⟨none, .store 6 (.t 17) (.t 16), none⟩] (some [2, 3]) none)
    (.seq (.reg none [
      ⟨(some 18), .load (some 14) (.t 3), none⟩,
      ⟨none, .store 14 (.t 2) (.t 18), none⟩] (some [2]) none)
    .ret)))))))
def laws_toScheme_F : MF := ⟨19, [.c 2 (some 14)], laws_toScheme_M⟩
-- loop.example/g01312/impl.ValidScheme
def impl_ValidScheme_L0 : MC :=
  (.seq (.reg none [
      ⟨(some 18), .bin .lss (.t 17) (.c (.int .i64 6)), none⟩] (some [1, 17, 18]) none)
    (.seq (.cond (.t 18) .skip
    (.exit 0))
    (.seq (.block 1 (.seq (.reg none [
      ⟨(some 19), .mov (.t 17), none⟩,
      ⟨(some 3), .mov (.t 19), none⟩] (some [1, 3, 17]) none)
    (.seq (.reg (some []) [
      ⟨(some 20), .mov (.t 3), none⟩,
      ⟨(some 21), .fa 2 (.t 1), none⟩,
      ⟨(some 22), .iaA 6 1 (.t 21) (.t 20), none⟩,
      ⟨(some 23), .load none (.t 22), none⟩,
      ⟨(some 24), .mov (.t 3), none⟩,
      ⟨(some 25), .fa 8 (.t 1), none⟩,
      ⟨(some 26), .iaA 6 1 (.t 25) (.t 24), none⟩,
      ⟨(some 27), .load none (.t 26), none⟩,
      ⟨(some 28), .bin .or (.t 23) (.t 27), none⟩,
      ⟨(some 4), .mov (.t 28), none⟩] (some [1, 3, 4, 17]) none)
    (.seq (.reg none [
      ⟨(some 29), .mov (.t 4), none⟩,
      ⟨(some 30), .fa 1 (.t 1), none⟩,
      ⟨(some 31), .load none (.t 30), none⟩,
      ⟨(some 32), .call 30 [(.t 31)], none⟩,
      ⟨(some 33), .bin .andNot (.t 29) (.t 32), none⟩,
      ⟨(some 34), .bin .neq (.t 33) (.c (.int .u8 0)), none⟩,
      ⟨(some 35), .mov (.t 34), none⟩,
      ⟨(some 36), .mov (.t 3), some (35, false)⟩,
      ⟨(some 37), .fa 0 (.t 1), some (35, false)⟩,
      ⟨(some 38), .load none (.t 37), some (35, false)⟩,
      ⟨(some 39), .conv .i64 (.t 38), some (35, false)⟩,
      ⟨(some 40), .bin .geq (.t 36) (.t 39), some (35, false)⟩,
      ⟨(some 41), .mov (.t 40), some (35, false)⟩,
      ⟨(some 42), .mov (.t 4), some (41, true)⟩,
      ⟨(some 43), .bin .neq (.t 42) (.c (.int .u8 0)), some (41, true)⟩,
      ⟨(some 44), .pick (.t 41) (.t 43) (.c (.bool false)), some (35, false)⟩,
      ⟨(some 45), .pick (.t 35) (.c (.bool true)) (.t 44), none⟩] (some [1, 17, 45]) none)
    (.cond (.t 45) (.seq (.reg none [
      ⟨(some 2), .mov (.c (.bool false)), none⟩] (some [2]) none)
    .ret)
    .skip)))))
    (.reg none [
      ⟨(some 46), .bin .add (.t 17) (.c (.int .i64 1)), none⟩,
      ⟨(some 17), .mov (.t 46), none⟩] (some [1, 17]) none))))
def impl_ValidScheme_M : MC :=
  (.seq (.reg none [
      ⟨(some 1), .box (.t 0), none⟩,
      ⟨(some 2), .mov (.c (.bool false)), none⟩] (some [1]) none)
    (.seq (.seq (.reg none [
      ⟨(some 5), .fa 0 (.t 1), none⟩,
      ⟨(some 6), .load none (.t 5), none⟩,
      ⟨(some 7), .conv .i64 (.t 6), none⟩,
      ⟨(some 8), .call 22 [(.t 7), (.c (.int .i64 1)), (.c (.int .i64 6))], none⟩,
      ⟨(some 9), .un .not (.t 8), none⟩,
      ⟨(some 10), .mov (.t 9), none⟩,
      ⟨(some 11), .fa 1 (.t 1), some (10, false)⟩,
      ⟨(some 12), .load none (.t 11), some (10, false)⟩,
      ⟨(some 13), .conv .i64 (.t 12), some (10, false)⟩,
      ⟨(some 14), .call 29 [(.t 13)], some (10, false)⟩,
      ⟨(some 15), .un .not (.t 14), some (10, false)⟩,
      ⟨(some 16), .pick (.t 10) (.c (.bool true)) (.t 15), none⟩] (some [1, 16]) none)
    (.cond (.t 16) (.seq (.reg none [
      ⟨(some 2), .mov (.c (.bool false)), none⟩] (some [2]) none)
    .ret)
    .skip))
    (.seq (.seq (.reg none [
      ⟨(some 17), .mov (.c (.int .i64 0)), none⟩] (some [1, 17]) none)
    (.block 0 (.loop impl_ValidScheme_L0)))
    (.seq (.reg none [
      ⟨(some 2), .mov (.c (.bool true)), none⟩] (some [2]) none)
    .ret))))
def impl_ValidScheme_F : MF := ⟨47, [.t 2], impl_ValidScheme_M⟩
-- loop.example/g01312/spec.l00In
def spec_l00In_M : MC :=
  (.seq (.reg none [
      ⟨(some 6), .mov (.c (.bool false)), none⟩] (some [0, 1, 2]) none)
    (.seq (.reg none [
      ⟨(some 7), .mov (.t 0), none⟩,
      ⟨(some 8), .mov (.t 1), none⟩,
      ⟨(some 9), .bin .geq (.t 7) (.t 8), none⟩,
      ⟨(some 10), .mov (.t 9), none⟩,
      ⟨(some 11), .mov (.t 0), some (10, true)⟩,
      ⟨(some 12), .mov (.t 2), some (10, true)⟩,
      ⟨(some 13), .bin .leq (.t 11) (.t 12), some (10, true)⟩,
      ⟨(some 14), .pick (.t 10) (.t 13) (.c (.bool false)), none⟩,
      ⟨(some 6), .mov (.t 14), none⟩] (some [6]) none)
    .ret))
def spec_l00In_F : MF := ⟨15, [.t 6], spec_l00In_M⟩
-- loop.example/g01312/impl.within
def impl_within_M : MC :=
  (.seq (.reg none [
      ⟨(some 6), .mov (.c (.bool false)), none⟩] (some [0, 1, 2]) none)
    (.seq (.reg none [
      ⟨(some 7), .mov (.t 0), none⟩,
      ⟨(some 8), .mov (.t 1), none⟩,
      ⟨(some 9), .bin .geq (.t 7) (.t 8), none⟩,
      ⟨(some 10), .mov (.t 9), none⟩,
      ⟨(some 11), .mov (.t 0), some (10, true)⟩,
      ⟨(some 12), .mov (.t 2), some (10, true)⟩,
      ⟨(some 13), .bin .leq (.t 11) (.t 12), some (10, true)⟩,
      ⟨(some 14), .pick (.t 10) (.t 13) (.c (.bool false)), none⟩,
      ⟨(some 6), .mov (.t 14), none⟩] (some [6]) none)
    .ret))
def impl_within_F : MF := ⟨15, [.t 6], impl_within_M⟩
-- loop.example/g01312/spec.l03Number
def spec_l03Number_M : MC :=
  (.seq (.reg none [
      ⟨(some 4), .mov (.c (.int .i64 0)), none⟩,
      ⟨(some 5), .mov (.c (.int .u32 0)), none⟩] (some [0, 1]) none)
    (.seq (.reg none [
      ⟨(some 6), .mov (.t 0), none⟩,
      ⟨(some 7), .bin .mul (.c (.int .u32 1664525)) (.t 6), none⟩,
      ⟨(some 8), .bin .add (.t 7) (.c (.int .u32 1013904223)), none⟩,
      ⟨(some 0), .mov (.t 8), none⟩] (some [0, 1]) none)
    (.seq (.reg none [
      ⟨(some 9), .mov (.t 0), none⟩,
      ⟨(some 10), .bin .shr (.t 9) (.c (.int .u64 16)), none⟩,
      ⟨(some 11), .conv .i64 (.t 10), none⟩,
      ⟨(some 12), .mov (.t 1), none⟩,
      ⟨(some 13), .bin .rem (.t 11) (.t 12), none⟩,
      ⟨(some 14), .mov (.t 0), none⟩,
      ⟨(some 4), .mov (.t 13), none⟩,
      ⟨(some 5), .mov (.t 14), none⟩] (some [4, 5]) none)
    .ret)))
def spec_l03Number_F : MF := ⟨15, [.t 4, .t 5], spec_l03Number_M⟩
-- loop.example/g01312/impl.draw
def impl_draw_M : MC :=
  (.seq (.reg none [
      ⟨(some 4), .mov (.c (.int .i64 0)), none⟩] (some [0, 1]) none)
    (.seq (.reg none [
      ⟨(some 5), .mov (.t 0), none⟩,
      ⟨(some 6), .mov (.t 0), none⟩,
      ⟨(some 7), .nilc (.t 6), none⟩,
      ⟨(some 8), .load none (.t 7), none⟩,
      ⟨(some 9), .bin .mul (.c (.int .u32 1664525)) (.t 8), none⟩,
      ⟨(some 10), .bin .add (.t 9) (.c (.int .u32 1013904223)), none⟩,
      ⟨(some 11), .nilc (.t 5), none⟩,
      ⟨none, .store 1 (.t 11) (.t 10), none⟩] (some [0, 1]) none)
    (.seq (.reg none [
      ⟨(some 12), .mov (.t 0), none⟩,
      ⟨(some 13), .nilc (.t 12), none⟩,
      ⟨(some 14), .load none (.t 13), none⟩,
      ⟨(some 15), .bin .shr (.t 14) (.c (.int .u64 16)), none⟩,
      ⟨(some 16), .conv .i64 (.t 15), none⟩,
      ⟨(some 17), .mov (.t 1), none⟩,
      ⟨(some 18), .bin .rem (.t 16) (.t 17), none⟩,
      ⟨(some 4), .mov (.t 18), none⟩] (some [4]) none)
    .ret)))
def impl_draw_F : MF := ⟨19, [.t 4], impl_draw_M⟩
-- loop.example/g01312/spec.l01Count
def spec_l01Count_L0 : MC :=
  (.seq (.seq (.reg none [
      ⟨(some 4), .mov (.t 0), none⟩,
      ⟨(some 5), .bin .neq (.t 4) (.c (.int .u64 0)), none⟩] (some [0, 3, 5]) none)
    (.cond (.t 5) .skip
    (.exit 0)))
    (.seq (.block 1 (.reg none [
      ⟨(some 8), .mov (.t 3), none⟩,
      ⟨(some 9), .mov (.t 0), none⟩,
      ⟨(some 10), .bin .and (.t 9) (.c (.int .u64 1)), none⟩,
      ⟨(some 11), .conv .i64 (.t 10), none⟩,
      ⟨(some 12), .bin .add (.t 8) (.t 11), none⟩,
      ⟨(some 3), .mov (.t 12), none⟩] (some [0, 3]) none))
    (.reg none [
      ⟨(some 6), .mov (.t 0), none⟩,
      ⟨(some 7), .bin .shr (.t 6) (.c (.int .u64 1)), none⟩,
      ⟨(some 0), .mov (.t 7), none⟩] (some [0, 3]) none)))
def spec_l01Count_M : MC :=
  (.seq (.reg none [
      ⟨(some 2), .mov (.c (.int .i64 0)), none⟩] (some [0]) none)
    (.seq (.reg none [
      ⟨(some 3), .mov (.c (.int .i64 0)), none⟩] (some [0, 3]) none)
    (.seq (.block 0 (.loop spec_l01Count_L0))
    (.seq (.reg none [
      ⟨(some 13), .mov (.t 3), none⟩,
      ⟨(some 2), .mov (.t 13), none⟩] (some [2]) none)
    .ret))))
def spec_l01Count_F : MF := ⟨14, [.t 2], spec_l01Count_M⟩
-- math/bits.OnesCount64
def math_bits_OnesCount64_M : MC :=
  (.seq (.reg none [
      ⟨(some 2), .mov (.c (.int .i64 0)), none⟩] (some [0]) none)
    (.seq (.reg none [
      ⟨(some 3), .mov (.t 0), none⟩,
      ⟨(some 4), .bin .shr (.t 3) (.c (.int .u64 1)), none⟩,
      ⟨(some 5), .bin .and (.t 4) (.c (.int .u64 6148914691236517205)), none⟩,
      ⟨(some 6), .mov (.t 0), none⟩,
      ⟨(some 7), .bin .and (.t 6) (.c (.int .u64 6148914691236517205)), none⟩,
      ⟨(some 8), .bin .add (.t 5) (.t 7), none⟩,
      ⟨(some 0), .mov (.t 8), none⟩] (some [0]) none)
    (.seq (.reg none [
      ⟨(some 9), .mov (.t 0), none⟩,
      ⟨(some 10), .bin .shr (.t 9) (.c (.int .u64 2)), none⟩,
      ⟨(some 11), .bin .and (.t 10) (.c (.int .u64 3689348814741910323)), none⟩,
      ⟨(some 12), .mov (.t 0), none⟩,
      ⟨(some 13), .bin .and (.t 12) (.c (.int .u64 3689348814741910323)), none⟩,
      ⟨(some 14), .bin .add (.t 11) (.t 13), none⟩,
      ⟨(some 0), .mov (.t 14), none⟩] (some [0]) none)
    (.seq (.reg none [
      ⟨(some 15), .mov (.t 0), none⟩,
      ⟨(some 16), .bin .shr (.t 15) (.c (.int .u64 4)), none⟩,
      ⟨(some 17), .mov (.t 0), none⟩,
      ⟨(some 18), .bin .add (.t 16) (.t 17), none⟩,
      ⟨(some 19), .bin .and (.t 18) (.c (.int .u64 1085102592571150095)), none⟩,
      ⟨(some 0), .mov (.t 19), none⟩] (some [0]) none)
    (.seq (.reg none [
      ⟨(some 20), .mov (.t 0), none⟩,
      ⟨(some 21), .mov (.t 0), none⟩,
      ⟨(some 22), .bin .shr (.t 21) (.c (.int .u64 8)), none⟩,
      ⟨(some 23), .bin .add (.t 20) (.t 22), none⟩,
      ⟨(some 0), .mov (.t 23), none⟩] (some [0]) none)
    (.seq (.reg none [
      ⟨(some 24), .mov (.t 0), none⟩,
      ⟨(some 25), .mov (.t 0), none⟩,
      ⟨(some 26), .bin .shr (.t 25) (.c (.int .u64 16)), none⟩,
      ⟨(some 27), .bin .add (.t 24) (.t 26), none⟩,
      ⟨(some 0), .mov (.t 27), none⟩] (some [0]) none)
    (.seq (.reg none [
      ⟨(some 28), .mov (.t 0), none⟩,
      ⟨(some 29), .mov (.t 0), none⟩,
      ⟨(some 30), .bin .shr (.t 29) (.c (.int .u64 32)), none⟩,
      ⟨(some 31), .bin .add (.t 28) (.t 30), none⟩,
      ⟨(some 0), .mov (.t 31), none⟩] (some [0]) none)
    (.seq (.reg none [
      ⟨(some 32), .mov (.t 0), none⟩,
      ⟨(some 33), .conv .i64 (.t 32), none⟩,
      ⟨(some 34), .bin .and (.t 33) (.c (.int .i64 127)), none⟩,
      ⟨(some 2), .mov (.t 34), none⟩] (some [2]) none)
    .ret))))))))
def math_bits_OnesCount64_F : MF := ⟨35, [.t 2], math_bits_OnesCount64_M⟩
-- loop.example/g01312/spec.l01Ok
def spec_l01Ok_L0 : MC :=
  (.seq (.seq (.reg none [
      ⟨(some 11), .mov (.t 3), none⟩,
      ⟨(some 12), .bin .lss (.t 11) (.c (.int .i64 64)), none⟩] (some [0, 3, 12]) none)
    (.cond (.t 12) .skip
    (.exit 0)))
    (.seq (.block 1 (.seq (.reg (some []) [
      ⟨(some 15), .mov (.t 0), none⟩,
      ⟨(some 16), .mov (.t 3), none⟩,
      ⟨(some 17), .nilc (.t 15), none⟩,
      ⟨(some 18), .fa 1 (.t 17), none⟩,
      ⟨(some 19), .iaA 64 1 (.t 18) (.t 16), none⟩,
      ⟨(some 20), .load none (.t 19), none⟩,
      ⟨(some 21), .mov (.t 0), none⟩,
      ⟨(some 22), .nilc (.t 21), none⟩,
      ⟨(some 23), .fa 0 (.t 22), none⟩,
      ⟨(some 24), .load none (.t 23), none⟩,
      ⟨(some 25), .conv .u64 (.t 24), none⟩,
      ⟨(some 26), .bin .shr (.t 20) (.t 25), none⟩,
      ⟨(some 27), .bin .neq (.t 26) (.c (.int .u8 0)), none⟩] (some [0, 3, 27]) none)
    (.cond (.t 27) (.seq (.reg none [
      ⟨(some 2), .mov (.c (.bool false)), none⟩] (some [2]) none)
    .ret)
    .skip)))
    (.reg none [
      ⟨(some 13), .mov (.t 3), none⟩,
      ⟨(some 14), .bin .add (.t 13) (.c (.int .i64 1)), none⟩,
      ⟨(some 3), .mov (.t 14), none⟩] (some [0, 3]) none)))
def spec_l01Ok_M : MC :=
  (.seq (.reg none [
      ⟨(some 2), .mov (.c (.bool false)), none⟩] (some [0]) none)
    (.seq (.seq (.reg none [
      ⟨(some 4), .mov (.t 0), none⟩,
      ⟨(some 5), .nilc (.t 4), none⟩,
      ⟨(some 6), .fa 0 (.t 5), none⟩,
      ⟨(some 7), .load none (.t 6), none⟩,
      ⟨(some 8), .conv .i64 (.t 7), none⟩,
      ⟨(some 9), .call 33 [(.t 8)], none⟩,
      ⟨(some 10), .un .not (.t 9), none⟩] (some [0, 10]) none)
    (.cond (.t 10) (.seq (.reg none [
      ⟨(some 2), .mov (.c (.bool false)), none⟩] (some [2]) none)
    .ret)
    .skip))
    (.seq (.seq (.reg none [
      ⟨(some 3), .mov (.c (.int .i64 0)), none⟩] (some [0, 3]) none)
    (.block 0 (.loop spec_l01Ok_L0)))
    (.seq (.reg none [
      ⟨(some 2), .mov (.c (.bool true)), none⟩] (some [2]) none)
    .ret))))
def spec_l01Ok_F : MF := ⟨28, [.t 2], spec_l01Ok_M⟩
-- loop.example/g01312/laws.toByteA64
def laws_toByteA64_L0 : MC :=
  (.seq (.seq (.reg none [
      ⟨(some 5), .mov (.t 4), none⟩,
      ⟨(some 6), .bin .lss (.t 5) (.c (.int .i64 64)), none⟩] (some [1, 2, 3, 4, 6]) none)
    (.cond (.t 6) .skip
    (.exit 0)))
    (.seq (.block 1 (.reg none [
      ⟨(some 9), .mov (.t 4), none⟩,
      ⟨(some 10), .mov (.t 4), none⟩,
      ⟨(some 11), .iaA 64 1 (.t 1) (.t 10), none⟩,
      ⟨(some 12), .load none (.t 11), none⟩,
      ⟨(some 13), .iaA 64 1 (.t 3) (.t 9), none⟩,
      ⟨none, .store 1 (.t 13) (.t 12), none⟩] (some [1, 2, 3, 4]) none))
    (.reg none [
      ⟨(some 7), .mov (.t 4), none⟩,
      ⟨(some 8), .bin .add (.t 7) (.c (.int .i64 1)), none⟩,
      ⟨(some 4), .mov (.t 8), none⟩] (some [1, 2, 3, 4]) none)))
def laws_toByteA64_M : MC :=
  (.seq (.reg none [
      ⟨(some 1), .box (.t 0), none⟩,
      ⟨(some 2), .new (rl [(64, .int .u8 0)]), none⟩] (some [1, 2]) none)
    (.seq (.reg none [
      ⟨(some 3), .new (rl [(64, .int .u8 0)]), none⟩] (some [1, 2, 3]) none)
    (.seq (.seq (.reg none [
      ⟨(some 4), .mov (.c (.int .i64 0)), none⟩] (some [1, 2, 3, 4]) none)
    (.block 0 (.loop laws_toByteA64_L0)))
    (.seq (.reg none [
      ⟨(some 14), .load (some 64) (.t 3), none⟩,
      ⟨none, .store 64 (.t 2) (.t 14), none⟩] (some [2]) none)
    .ret))))
def laws_toByteA64_F : MF := ⟨15, [.c 2 (some 64)], laws_toByteA64_M⟩
-- loop.example/g01312/impl.isParts
def impl_isParts_M : MC :=
  (.seq (.reg none [
      ⟨(some 2), .mov (.c (.bool false)), none⟩] (some [0]) none)
    (.seq (.reg none [
      ⟨(some 3), .mov (.t 0), none⟩,
      ⟨(some 4), .call 22 [(.t 3), (.c (.int .i64 1)), (.c (.int .i64 8))], none⟩,
      ⟨(some 2), .mov (.t 4), none⟩] (some [2]) none)
    .ret))
def impl_isParts_F : MF := ⟨5, [.t 2], impl_isParts_M⟩
-- loop.example/g01312/impl.mask
def impl_mask_M : MC :=
  (.seq (.reg none [
      ⟨(some 2), .mov (.c (.int .u8 0)), none⟩] (some [0]) none)
    (.seq (.reg none [
      ⟨(some 3), .mov (.t 0), none⟩,
      ⟨(some 4), .bin .shl (.c (.int .u8 1)) (.t 3), none⟩,
      ⟨(some 5), .bin .sub (.t 4) (.c (.int .u8 1)), none⟩,
      ⟨(some 2), .mov (.t 5), none⟩] (some [2]) none)
    .ret))
def impl_mask_F : MF := ⟨6, [.t 2], impl_mask_M⟩
-- loop.example/g01312/spec.l02Ok
def spec_l02Ok_L0 : MC :=
  (.seq (.seq (.reg none [
      ⟨(some 21), .mov (.t 3), none⟩,
      ⟨(some 22), .bin .lss (.t 21) (.c (.int .i64 6)), none⟩] (some [0, 3, 22]) none)
    (.cond (.t 22) .skip
    (.exit 0)))
    (.seq (.block 1 (.seq (.reg (some []) [
      ⟨(some 25), .mov (.t 0), none⟩,
      ⟨(some 26), .mov (.t 3), none⟩,
      ⟨(some 27), .nilc (.t 25), none⟩,
      ⟨(some 28), .fa 2 (.t 27), none⟩,
      ⟨(some 29), .iaA 6 1 (.t 28) (.t 26), none⟩,
      ⟨(some 30), .load none (.t 29), none⟩,
      ⟨(some 31), .mov (.t 0), none⟩,
      ⟨(some 32), .mov (.t 3), none⟩,
      ⟨(some 33), .nilc (.t 31), none⟩,
      ⟨(some 34), .fa 8 (.t 33), none⟩,
      ⟨(some 35), .iaA 6 1 (.t 34) (.t 32), none⟩,
      ⟨(some 36), .load none (.t 35), none⟩,
      ⟨(some 37), .bin .or (.t 30) (.t 36), none⟩,
      ⟨(some 4), .mov (.t 37), none⟩] (some [0, 3, 4]) none)
    (.seq (.reg none [
      ⟨(some 38), .mov (.t 4), none⟩,
      ⟨(some 39), .mov (.t 0), none⟩,
      ⟨(some 40), .nilc (.t 39), none⟩,
      ⟨(some 41), .fa 1 (.t 40), none⟩,
      ⟨(some 42), .load none (.t 41), none⟩,
      ⟨(some 43), .conv .u64 (.t 42), none⟩,
      ⟨(some 44), .bin .shr (.t 38) (.t 43), none⟩,
      ⟨(some 45), .bin .neq (.t 44) (.c (.int .u8 0)), none⟩,
      ⟨(some 46), .mov (.t 45), none⟩,
      ⟨(some 47), .mov (.t 3), some (46, false)⟩,
      ⟨(some 48), .mov (.t 0), some (46, false)⟩,
      ⟨(some 49), .nilc (.t 48), some (46, false)⟩,
      ⟨(some 50), .fa 0 (.t 49), some (46, false)⟩,
      ⟨(some 51), .load none (.t 50), some (46, false)⟩,
      ⟨(some 52), .conv .i64 (.t 51), some (46, false)⟩,
      ⟨(some 53), .bin .geq (.t 47) (.t 52), some (46, false)⟩,
      ⟨(some 54), .mov (.t 53), some (46, false)⟩,
      ⟨(some 55), .mov (.t 4), some (54, true)⟩,
      ⟨(some 56), .bin .neq (.t 55) (.c (.int .u8 0)), some (54, true)⟩,
      ⟨(some 57), .pick (.t 54) (.t 56) (.c (.bool false)), some (46, false)⟩,
      ⟨(some 58), .pick (.t 46) (.c (.bool true)) (.t 57), none⟩] (some [0, 3, 58]) none)
    (.cond (.t 58) (.seq (.reg none [
      ⟨(some 2), .mov (.c (.bool false)), none⟩] (some [2]) none)
    .ret)
    .skip))))
    (.reg none [
      ⟨(some 23), .mov (.t 3), none⟩,
      ⟨(some 24), .bin .add (.t 23) (.c (.int .i64 1)), none⟩,
      ⟨(some 3), .mov (.t 24), none⟩] (some [0, 3]) none)))
def spec_l02Ok_M : MC :=
  (.seq (.reg none [
      ⟨(some 2), .mov (.c (.bool false)), none⟩] (some [0]) none)
    (.seq (.seq (.reg none [
      ⟨(some 5), .mov (.t 0), none⟩,
      ⟨(some 6), .nilc (.t 5), none⟩,
      ⟨(some 7), .fa 0 (.t 6), none⟩,
      ⟨(some 8), .load none (.t 7), none⟩,
      ⟨(some 9), .conv .i64 (.t 8), none⟩,
      ⟨(some 10), .call 21 [(.t 9), (.c (.int .i64 1)), (.c (.int .i64 6))], none⟩,
      ⟨(some 11), .un .not (.t 10), none⟩,
      ⟨(some 12), .mov (.t 11), none⟩,
      ⟨(some 13), .mov (.t 0), some (12, false)⟩,
      ⟨(some 14), .nilc (.t 13), some (12, false)⟩,
      ⟨(some 15), .fa 1 (.t 14), some (12, false)⟩,
      ⟨(some 16), .load none (.t 15), some (12, false)⟩,
      ⟨(some 17), .conv .i64 (.t 16), some (12, false)⟩,
      ⟨(some 18), .call 33 [(.t 17)], some (12, false)⟩,
      ⟨(some 19), .un .not (.t 18), some (12, false)⟩,
      ⟨(some 20), .pick (.t 12) (.c (.bool true)) (.t 19), none⟩] (some [0, 20]) none)
    (.cond (.t 20) (.seq (.reg none [
      ⟨(some 2), .mov (.c (.bool false)), none⟩] (some [2]) none)
    .ret)
    .skip))
    (.seq (.seq (.reg none [
      ⟨(some 3), .mov (.c (.int .i64 0)), none⟩] (some [0, 3]) none)
    (.block 0 (.loop spec_l02Ok_L0)))
    (.seq (.reg none [
      ⟨(some 2), .mov (.c (.bool true)), none⟩] (some [2]) none)
    .ret))))
def spec_l02Ok_F : MF := ⟨59, [.t 2], spec_l02Ok_M⟩
-- loop.example/g01312/laws.toByteA6
def laws_toByteA6_L0 : MC :=
  (.seq (.seq (.reg none [
      ⟨(some 5), .mov (.t 4), none⟩,
      ⟨(some 6), .bin .lss (.t 5) (.c (.int .i64 6)), none⟩] (some [1, 2, 3, 4, 6]) none)
    (.cond (.t 6) .skip
    (.exit 0)))
    (.seq (.block 1 (.reg none [
      ⟨(some 9), .mov (.t 4), none⟩,
      ⟨(some 10), .mov (.t 4), none⟩,
      ⟨(some 11), .iaA 6 1 (.t 1) (.t 10), none⟩,
      ⟨(some 12), .load none (.t 11), none⟩,
      ⟨(some 13), .iaA 6 1 (.t 3) (.t 9), none⟩,
      ⟨none, .store 1 (.t 13) (.t 12), none⟩] (some [1, 2, 3, 4]) none))
    (.reg none [
      ⟨(some 7), .mov (.t 4), none⟩,
      ⟨(some 8), .bin .add (.t 7) (.c (.int .i64 1)), none⟩,
      ⟨(some 4), .mov (.t 8), none⟩] (some [1, 2, 3, 4]) none)))
def laws_toByteA6_M : MC :=
  (.seq (.reg none [
      ⟨(some 1), .box (.t 0), none⟩,
      ⟨(some 2), .new (rl [(6, .int .u8 0)]), none⟩] (some [1, 2]) none)
    (.seq (.reg none [
      ⟨(some 3), .new (rl [(6, .int .u8 0)]), none⟩] (some [1, 2, 3]) none)
    (.seq (.seq (.reg none [
      ⟨(some 4), .mov (.c (.int .i64 0)), none⟩] (some [1, 2, 3, 4]) none)
    (.block 0 (.loop laws_toByteA6_L0)))
    (.seq (.reg none [
      ⟨(some 14), .load (some 6) (.t 3), none⟩,
      ⟨none, .store 6 (.t 2) (.t 14), none⟩] (some [2]) none)
    .ret))))
def laws_toByteA6_F : MF := ⟨15, [.c 2 (some 6)], laws_toByteA6_M⟩
-- loop.example/g01312/spec.l01Parts
def spec_l01Parts_M : MC :=
  (.seq (.reg none [
      ⟨(some 2), .mov (.c (.bool false)), none⟩] (some [0]) none)
    (.seq (.reg none [
      ⟨(some 3), .mov (.t 0), none⟩,
      ⟨(some 4), .call 21 [(.t 3), (.c (.int .i64 1)), (.c (.int .i64 8))], none⟩,
      ⟨(some 2), .mov (.t 4), none⟩] (some [2]) none)
    .ret))
def spec_l01Parts_F : MF := ⟨5, [.t 2], spec_l01Parts_M⟩
-- 34 (runtime.boundsError).Error: no body
-- 35 (runtime.boundsError).RuntimeError: no body
-- 36 (runtime.errorString).Error: no body
-- 37 (runtime.errorString).RuntimeError: no body
-- 38 (runtime.plainError).Error: no body
-- 39 (runtime.plainError).RuntimeError: no body
-- 40 (runtime.errorAddressString).Error: no body
-- 41 (runtime.errorAddressString).RuntimeError: no body
-- 42 (*runtime.TypeAssertionError).Error: no body
-- 43 (*runtime.TypeAssertionError).RuntimeError: no body
-- 44 (*runtime.PanicNilError).Error: no body
-- 45 (*runtime.PanicNilError).RuntimeError: no body
-- 46 (*internal/abi.Type).Align: no body
-- 47 (internal/runtime/maps.unhashableTypeError).Error: no body
-- 48 (internal/runtime/maps.unhashableTypeError).RuntimeError: no body
-- 49 (loop.example/g01312/impl.Picture).has: no body
-- 50 (loop.example/g01312/impl.Layer).count: no body
-- 51 (loop.example/g01312/impl.Scheme).all: no body
-- 52 (internal/abi.Kind).String: no body
theorem laws_FnExactConstants_ok : OkF Try.prog 3 laws_FnExactConstants_F Try.f3 (bodyOf Try.f3) := ⟨Try.func3, by kernel_rfl, by kernel_rfl, by kernel_rfl, by kernel_rfl⟩
theorem laws_FnExactCodeName_ok : OkF Try.prog 4 laws_FnExactCodeName_F Try.f4 (bodyOf Try.f4) := ⟨Try.func4, by kernel_rfl, by kernel_rfl, by kernel_rfl, by kernel_rfl⟩
theorem laws_FnExactNextNumber_ok : OkF Try.prog 5 laws_FnExactNextNumber_F Try.f5 (bodyOf Try.f5) := ⟨Try.func5, by kernel_rfl, by kernel_rfl, by kernel_rfl, by kernel_rfl⟩
theorem laws_FnExactCountBlack_ok : OkF Try.prog 6 laws_FnExactCountBlack_F Try.f6 (bodyOf Try.f6) := ⟨Try.func6, by kernel_rfl, by kernel_rfl, by kernel_rfl, by kernel_rfl⟩
theorem laws_FnExactValidLayer_ok : OkF Try.prog 7 laws_FnExactValidLayer_F Try.f7 (bodyOf Try.f7) := ⟨Try.func7, by kernel_rfl, by kernel_rfl, by kernel_rfl, by kernel_rfl⟩
theorem laws_FnExactValidScheme_ok : OkF Try.prog 8 laws_FnExactValidScheme_F Try.f8 (bodyOf Try.f8) := ⟨Try.func8, by kernel_rfl, by kernel_rfl, by kernel_rfl, by kernel_rfl⟩
theorem spec_CodeName_ok : OkF Try.prog 9 spec_CodeName_F Try.f9 (bodyOf Try.f9) := ⟨Try.func9, by kernel_rfl, by kernel_rfl, by kernel_rfl, by kernel_rfl⟩
theorem impl_CodeName_ok : OkF Try.prog 10 impl_CodeName_F Try.f10 (bodyOf Try.f10) := ⟨Try.func10, by kernel_rfl, by kernel_rfl, by kernel_rfl, by kernel_rfl⟩
theorem spec_NextNumber_ok : OkF Try.prog 11 spec_NextNumber_F Try.f11 (bodyOf Try.f11) := ⟨Try.func11, by kernel_rfl, by kernel_rfl, by kernel_rfl, by kernel_rfl⟩
theorem impl_NextNumber_ok : OkF Try.prog 12 impl_NextNumber_F Try.f12 (bodyOf Try.f12) := ⟨Try.func12, by kernel_rfl, by kernel_rfl, by kernel_rfl, by kernel_rfl⟩
theorem spec_CountBlack_ok : OkF Try.prog 13 spec_CountBlack_F Try.f13 (bodyOf Try.f13) := ⟨Try.func13, by kernel_rfl, by kernel_rfl, by kernel_rfl, by kernel_rfl⟩
theorem impl_CountBlack_ok : OkF Try.prog 14 impl_CountBlack_F Try.f14 (bodyOf Try.f14) := ⟨Try.func14, by kernel_rfl, by kernel_rfl, by kernel_rfl, by kernel_rfl⟩
theorem spec_ValidLayer_ok : OkF Try.prog 15 spec_ValidLayer_F Try.f15 (bodyOf Try.f15) := ⟨Try.func15, by kernel_rfl, by kernel_rfl, by kernel_rfl, by kernel_rfl⟩
theorem laws_toLayer_ok : OkF Try.prog 16 laws_toLayer_F Try.f16 (bodyOf Try.f16) := ⟨Try.func16, by kernel_rfl, by kernel_rfl, by kernel_rfl, by kernel_rfl⟩
theorem impl_ValidLayer_ok : OkF Try.prog 17 impl_ValidLayer_F Try.f17 (bodyOf Try.f17) := ⟨Try.func17, by kernel_rfl, by kernel_rfl, by kernel_rfl, by kernel_rfl⟩
theorem spec_ValidScheme_ok : OkF Try.prog 18 spec_ValidScheme_F Try.f18 (bodyOf Try.f18) := ⟨Try.func18, by kernel_rfl, by kernel_rfl, by kernel_rfl, by kernel_rfl⟩
theorem laws_toScheme_ok : OkF Try.prog 19 laws_toScheme_F Try.f19 (bodyOf Try.f19) := ⟨Try.func19, by kernel_rfl, by kernel_rfl, by kernel_rfl, by kernel_rfl⟩
theorem impl_ValidScheme_ok : OkF Try.prog 20 impl_ValidScheme_F Try.f20 (bodyOf Try.f20) := ⟨Try.func20, by kernel_rfl, by kernel_rfl, by kernel_rfl, by kernel_rfl⟩
theorem spec_l00In_ok : OkF Try.prog 21 spec_l00In_F Try.f21 (bodyOf Try.f21) := ⟨Try.func21, by kernel_rfl, by kernel_rfl, by kernel_rfl, by kernel_rfl⟩
theorem impl_within_ok : OkF Try.prog 22 impl_within_F Try.f22 (bodyOf Try.f22) := ⟨Try.func22, by kernel_rfl, by kernel_rfl, by kernel_rfl, by kernel_rfl⟩
theorem spec_l03Number_ok : OkF Try.prog 23 spec_l03Number_F Try.f23 (bodyOf Try.f23) := ⟨Try.func23, by kernel_rfl, by kernel_rfl, by kernel_rfl, by kernel_rfl⟩
theorem impl_draw_ok : OkF Try.prog 24 impl_draw_F Try.f24 (bodyOf Try.f24) := ⟨Try.func24, by kernel_rfl, by kernel_rfl, by kernel_rfl, by kernel_rfl⟩
theorem spec_l01Count_ok : OkF Try.prog 25 spec_l01Count_F Try.f25 (bodyOf Try.f25) := ⟨Try.func25, by kernel_rfl, by kernel_rfl, by kernel_rfl, by kernel_rfl⟩
theorem math_bits_OnesCount64_ok : OkF Try.prog 26 math_bits_OnesCount64_F Try.f26 (bodyOf Try.f26) := ⟨Try.func26, by kernel_rfl, by kernel_rfl, by kernel_rfl, by kernel_rfl⟩
theorem spec_l01Ok_ok : OkF Try.prog 27 spec_l01Ok_F Try.f27 (bodyOf Try.f27) := ⟨Try.func27, by kernel_rfl, by kernel_rfl, by kernel_rfl, by kernel_rfl⟩
theorem laws_toByteA64_ok : OkF Try.prog 28 laws_toByteA64_F Try.f28 (bodyOf Try.f28) := ⟨Try.func28, by kernel_rfl, by kernel_rfl, by kernel_rfl, by kernel_rfl⟩
theorem impl_isParts_ok : OkF Try.prog 29 impl_isParts_F Try.f29 (bodyOf Try.f29) := ⟨Try.func29, by kernel_rfl, by kernel_rfl, by kernel_rfl, by kernel_rfl⟩
theorem impl_mask_ok : OkF Try.prog 30 impl_mask_F Try.f30 (bodyOf Try.f30) := ⟨Try.func30, by kernel_rfl, by kernel_rfl, by kernel_rfl, by kernel_rfl⟩
theorem spec_l02Ok_ok : OkF Try.prog 31 spec_l02Ok_F Try.f31 (bodyOf Try.f31) := ⟨Try.func31, by kernel_rfl, by kernel_rfl, by kernel_rfl, by kernel_rfl⟩
theorem laws_toByteA6_ok : OkF Try.prog 32 laws_toByteA6_F Try.f32 (bodyOf Try.f32) := ⟨Try.func32, by kernel_rfl, by kernel_rfl, by kernel_rfl, by kernel_rfl⟩
theorem spec_l01Parts_ok : OkF Try.prog 33 spec_l01Parts_F Try.f33 (bodyOf Try.f33) := ⟨Try.func33, by kernel_rfl, by kernel_rfl, by kernel_rfl, by kernel_rfl⟩
end Go.Proofs.Ytbihhjdjgcojjaa
