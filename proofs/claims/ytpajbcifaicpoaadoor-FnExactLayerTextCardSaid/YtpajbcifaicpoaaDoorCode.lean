/- A part of the proof library: names for blocks of memory, a small form of the code, and rules for walks over it. -/
import Derived.Test.YtpajbcifaicpoaaDoorProg
import Derived.Test.YtpajbcifaicpoaaDoorAb18
import Derived.KernelRfl
set_option linter.all false
namespace Go.Proofs.YtpajbcifaicpoaaDoor
open Go.Ab
-- loop.example/g01312/laws.FnExactLayerText
def laws_FnExactLayerText_M : MC :=
  (.seq (.reg none [
      ⟨(some 1), .box (.t 0), none⟩,
      ⟨(some 2), .mov (.c (.bool false)), none⟩] (some [1]) none)
    (.seq (.reg none [
      ⟨(some 5), .load (some 65) (.t 1), none⟩,
      ⟨(some 6), .call 8 [(.t 5)], none⟩,
      ⟨(some 7), .call 7 [(.t 6)], none⟩,
      ⟨(some 3), .mov (.t 7), none⟩] (some [1, 3]) none)
    (.seq (.reg none [
      ⟨(some 8), .load (some 65) (.t 1), none⟩,
      ⟨(some 9), .call 8 [(.t 8)], none⟩,
      ⟨(some 10), .call 9 [(.t 9)], none⟩,
      ⟨(some 4), .mov (.t 10), none⟩] (some [3, 4]) none)
    (.seq (.seq (.reg none [
      ⟨(some 11), .mov (.t 4), none⟩,
      ⟨(some 12), .mov (.t 3), none⟩,
      ⟨(some 13), .bin .neq (.t 11) (.t 12), none⟩] (some [13]) none)
    (.cond (.t 13) (.seq (.reg none [
      ⟨(some 2), .mov (.c (.bool false)), none⟩] (some [2]) none)
    .ret)
    .skip))
    (.seq (.reg none [
      ⟨(some 2), .mov (.c (.bool true)), none⟩] (some [2]) none)
    .ret)))))
def laws_FnExactLayerText_F : MF := ⟨14, [.t 2], laws_FnExactLayerText_M⟩
theorem laws_FnExactLayerText_ok : OkF Tryd.prog 3 laws_FnExactLayerText_F Tryd.f3 (bodyOf Tryd.f3) := ⟨Tryd.func3, by kernel_rfl, by kernel_rfl, by kernel_rfl, by kernel_rfl⟩
-- loop.example/g01312/laws.FnExactLayersText
def laws_FnExactLayersText_M : MC :=
  (.seq (.reg none [
      ⟨(some 2), .mov (.c (.bool false)), none⟩] (some [0]) none)
    (.seq (.reg none [
      ⟨(some 3), .mov (.c (.int .i64 1048576)), none⟩] (some [0, 3]) none)
    (.seq (.reg none [
      ⟨(some 7), .mov (.t 0), none⟩,
      ⟨(some 8), .mov (.t 3), none⟩,
      ⟨(some 9), .call 10 [(.t 7), (.t 8)], none⟩,
      ⟨(some 3), .mov (.t 9), none⟩] (some [0, 3]) none)
    (.seq (.seq (.reg none [
      ⟨(some 10), .mov (.t 3), none⟩,
      ⟨(some 11), .bin .lss (.t 10) (.c (.int .i64 0)), none⟩] (some [0, 11]) none)
    (.cond (.t 11) (.seq (.reg none [
      ⟨(some 2), .mov (.c (.bool true)), none⟩] (some [2]) none)
    .ret)
    .skip))
    (.seq (.reg none [
      ⟨(some 12), .mov (.t 0), none⟩,
      ⟨(some 13), .call 12 [(.t 12)], none⟩,
      ⟨(some 14), .call 11 [(.t 13)], none⟩,
      ⟨(some 4), .mov (.t 14), none⟩] (some [0, 4]) none)
    (.seq (.reg none [
      ⟨(some 15), .mov (.t 0), none⟩,
      ⟨(some 16), .call 12 [(.t 15)], none⟩,
      ⟨(some 5), .mov (.t 16), none⟩] (some [0, 4, 5]) none)
    (.seq (.reg none [
      ⟨(some 17), .mov (.t 5), none⟩,
      ⟨(some 18), .call 13 [(.t 17)], none⟩,
      ⟨(some 6), .mov (.t 18), none⟩] (some [0, 4, 5, 6]) none)
    (.seq (.seq (.reg none [
      ⟨(some 19), .mov (.t 6), none⟩,
      ⟨(some 20), .mov (.t 4), none⟩,
      ⟨(some 21), .bin .neq (.t 19) (.t 20), none⟩] (some [0, 5, 21]) none)
    (.cond (.t 21) (.seq (.reg none [
      ⟨(some 2), .mov (.c (.bool false)), none⟩] (some [2]) none)
    .ret)
    .skip))
    (.seq (.seq (.reg none [
      ⟨(some 22), .mov (.t 5), none⟩,
      ⟨(some 23), .mov (.t 0), none⟩,
      ⟨(some 24), .call 12 [(.t 23)], none⟩,
      ⟨(some 25), .call 14 [(.t 22), (.t 24)], none⟩,
      ⟨(some 26), .un .not (.t 25), none⟩] (some [26]) none)
    (.cond (.t 26) (.seq (.reg none [
      ⟨(some 2), .mov (.c (.bool false)), none⟩] (some [2]) none)
    .ret)
    .skip))
    (.seq (.reg none [
      ⟨(some 2), .mov (.c (.bool true)), none⟩] (some [2]) none)
    .ret))))))))))
def laws_FnExactLayersText_F : MF := ⟨27, [.t 2], laws_FnExactLayersText_M⟩
theorem laws_FnExactLayersText_ok : OkF Tryd.prog 4 laws_FnExactLayersText_F Tryd.f4 (bodyOf Tryd.f4) := ⟨Tryd.func4, by kernel_rfl, by kernel_rfl, by kernel_rfl, by kernel_rfl⟩
-- loop.example/g01312/laws.FnExactReadScheme
def laws_FnExactReadScheme_M : MC :=
  (.seq (.reg none [
      ⟨(some 2), .mov (.c (.bool false)), none⟩] (some [0]) none)
    (.seq (.seq (.reg none [
      ⟨(some 7), .mov (.t 0), none⟩,
      ⟨(some 8), .lenStr (.t 7), none⟩,
      ⟨(some 9), .bin .gtr (.t 8) (.c (.int .i64 1048576)), none⟩] (some [0, 9]) none)
    (.cond (.t 9) (.seq (.reg none [
      ⟨(some 2), .mov (.c (.bool true)), none⟩] (some [2]) none)
    .ret)
    .skip))
    (.seq (.reg none [
      ⟨(some 11), .mov (.t 0), none⟩,
      ⟨(some 12), .call 15 [(.t 11)], none⟩,
      ⟨(some 10), .mov (.t 12), none⟩,
      ⟨(some 13), .ext (.t 10) 0, none⟩,
      ⟨(some 14), .ext (.t 10) 1, none⟩,
      ⟨(some 3), .new (rl [(2, .int .i8 0), (12, .int .u8 0)]), none⟩,
      ⟨none, .store 14 (.t 3) (.t 13), none⟩,
      ⟨(some 4), .mov (.t 14), none⟩] (some [0, 3, 4]) none)
    (.seq (.reg none [
      ⟨(some 16), .mov (.t 0), none⟩,
      ⟨(some 17), .call 16 [(.t 16)], none⟩,
      ⟨(some 15), .mov (.t 17), none⟩,
      ⟨(some 18), .ext (.t 15) 0, none⟩,
      ⟨(some 19), .ext (.t 15) 1, none⟩,
      ⟨(some 5), .new (rl [(2, .int .i8 0), (12, .int .u8 0)]), none⟩,
      ⟨none, .store 14 (.t 5) (.t 18), none⟩,
      ⟨(some 6), .mov (.t 19), none⟩] (some [3, 4, 5, 6]) none)
    (.seq (.seq (.reg none [
      ⟨(some 20), .load (some 14) (.t 5), none⟩,
      ⟨(some 21), .load (some 14) (.t 3), none⟩,
      ⟨(some 22), .call 17 [(.t 20), (.t 21)], none⟩,
      ⟨(some 23), .un .not (.t 22), none⟩,
      ⟨(some 24), .mov (.t 23), none⟩,
      ⟨(some 25), .mov (.t 6), some (24, false)⟩,
      ⟨(some 26), .mov (.t 4), some (24, false)⟩,
      ⟨(some 27), .bin .neq (.t 25) (.t 26), some (24, false)⟩,
      ⟨(some 28), .pick (.t 24) (.c (.bool true)) (.t 27), none⟩] (some [28]) none)
    (.cond (.t 28) (.seq (.reg none [
      ⟨(some 2), .mov (.c (.bool false)), none⟩] (some [2]) none)
    .ret)
    .skip))
    (.seq (.reg none [
      ⟨(some 2), .mov (.c (.bool true)), none⟩] (some [2]) none)
    .ret))))))
def laws_FnExactReadScheme_F : MF := ⟨29, [.t 2], laws_FnExactReadScheme_M⟩
theorem laws_FnExactReadScheme_ok : OkF Tryd.prog 5 laws_FnExactReadScheme_F Tryd.f5 (bodyOf Tryd.f5) := ⟨Tryd.func5, by kernel_rfl, by kernel_rfl, by kernel_rfl, by kernel_rfl⟩
-- loop.example/g01312/laws.FnExactReadLayer
def laws_FnExactReadLayer_M : MC :=
  (.seq (.reg none [
      ⟨(some 2), .mov (.c (.bool false)), none⟩] (some [0]) none)
    (.seq (.seq (.reg none [
      ⟨(some 7), .mov (.t 0), none⟩,
      ⟨(some 8), .lenStr (.t 7), none⟩,
      ⟨(some 9), .bin .gtr (.t 8) (.c (.int .i64 1048576)), none⟩] (some [0, 9]) none)
    (.cond (.t 9) (.seq (.reg none [
      ⟨(some 2), .mov (.c (.bool true)), none⟩] (some [2]) none)
    .ret)
    .skip))
    (.seq (.reg none [
      ⟨(some 11), .mov (.t 0), none⟩,
      ⟨(some 12), .call 18 [(.t 11)], none⟩,
      ⟨(some 10), .mov (.t 12), none⟩,
      ⟨(some 13), .ext (.t 10) 0, none⟩,
      ⟨(some 14), .ext (.t 10) 1, none⟩,
      ⟨(some 3), .new (rl [(1, .int .i8 0), (64, .int .u8 0)]), none⟩,
      ⟨none, .store 65 (.t 3) (.t 13), none⟩,
      ⟨(some 4), .mov (.t 14), none⟩] (some [0, 3, 4]) none)
    (.seq (.reg none [
      ⟨(some 16), .mov (.t 0), none⟩,
      ⟨(some 17), .call 19 [(.t 16)], none⟩,
      ⟨(some 15), .mov (.t 17), none⟩,
      ⟨(some 18), .ext (.t 15) 0, none⟩,
      ⟨(some 19), .ext (.t 15) 1, none⟩,
      ⟨(some 5), .new (rl [(1, .int .i8 0), (64, .int .u8 0)]), none⟩,
      ⟨none, .store 65 (.t 5) (.t 18), none⟩,
      ⟨(some 6), .mov (.t 19), none⟩] (some [3, 4, 5, 6]) none)
    (.seq (.seq (.reg none [
      ⟨(some 20), .load (some 65) (.t 5), none⟩,
      ⟨(some 21), .load (some 65) (.t 3), none⟩,
      ⟨(some 22), .call 20 [(.t 20), (.t 21)], none⟩,
      ⟨(some 23), .un .not (.t 22), none⟩,
      ⟨(some 24), .mov (.t 23), none⟩,
      ⟨(some 25), .mov (.t 6), some (24, false)⟩,
      ⟨(some 26), .mov (.t 4), some (24, false)⟩,
      ⟨(some 27), .bin .neq (.t 25) (.t 26), some (24, false)⟩,
      ⟨(some 28), .pick (.t 24) (.c (.bool true)) (.t 27), none⟩] (some [28]) none)
    (.cond (.t 28) (.seq (.reg none [
      ⟨(some 2), .mov (.c (.bool false)), none⟩] (some [2]) none)
    .ret)
    .skip))
    (.seq (.reg none [
      ⟨(some 2), .mov (.c (.bool true)), none⟩] (some [2]) none)
    .ret))))))
def laws_FnExactReadLayer_F : MF := ⟨29, [.t 2], laws_FnExactReadLayer_M⟩
theorem laws_FnExactReadLayer_ok : OkF Tryd.prog 6 laws_FnExactReadLayer_F Tryd.f6 (bodyOf Tryd.f6) := ⟨Tryd.func6, by kernel_rfl, by kernel_rfl, by kernel_rfl, by kernel_rfl⟩
-- loop.example/g01312/spec.LayerText
def spec_LayerText_M : MC :=
  (.seq (.reg none [
      ⟨(some 1), .box (.t 0), none⟩,
      ⟨(some 2), .mov (.c (.str ⟨[].toArray⟩)), none⟩] (some [1]) none)
    (.seq (.seq (.reg none [
      ⟨(some 3), .call 21 [(.t 1)], none⟩,
      ⟨(some 4), .un .not (.t 3), none⟩] (some [1, 4]) none)
    (.cond (.t 4) (.seq (.reg none [
      ⟨(some 2), .mov (.c (.str ⟨[].toArray⟩)), none⟩] (some [2]) none)
    .ret)
    .skip))
    (.seq (.reg none [
      ⟨(some 5), .call 22 [(.t 1)], none⟩,
      ⟨(some 2), .mov (.t 5), none⟩] (some [2]) none)
    .ret)))
def spec_LayerText_F : MF := ⟨6, [.t 2], spec_LayerText_M⟩
theorem spec_LayerText_ok : OkF Tryd.prog 7 spec_LayerText_F Tryd.f7 (bodyOf Tryd.f7) := ⟨Tryd.func7, by kernel_rfl, by kernel_rfl, by kernel_rfl, by kernel_rfl⟩
-- loop.example/g01312/laws.toLayer
def laws_toLayer_M : MC :=
  (.seq (.reg none [
      ⟨(some 1), .box (.t 0), none⟩,
      ⟨(some 2), .new (rl [(1, .int .i8 0), (64, .int .u8 0)]), none⟩] (some [1, 2]) none)
    (.seq (.reg none [
      ⟨(some 3), .new (rl [(1, .int .i8 0), (64, .int .u8 0)]), none⟩] (some [1, 2, 3]) none)
    (.seq (.reg none [
      ⟨(some 4), .fa 0 (.t 1), none⟩,
      ⟨(some 5), .load none (.t 4), none⟩,
      ⟨(some 6), .fa 0 (.t 3), none⟩,
      ⟨none, .store 1 (.t 6) (.t 5), none⟩] (some [1, 2, 3]) none)
    (.seq (.reg none [
      ⟨(some 7), .fa 1 (.t 1), none⟩,
      ⟨(some 8), .load (some 64) (.t 7), none⟩,
      ⟨(some 9), .call 23 [(.t 8)], none⟩,
      ⟨(some 10), .fa 1 (.t 3), none⟩,
      ⟨none, .store 64 (.t 10) (.t 9), none⟩] (some [2, 3]) none)
    (.seq (.reg none [
      ⟨(some 11), .load (some 65) (.t 3), none⟩,
      ⟨none, .store 65 (.t 2) (.t 11), none⟩] (some [2]) none)
    .ret)))))
def laws_toLayer_F : MF := ⟨12, [.c 2 (some 65)], laws_toLayer_M⟩
theorem laws_toLayer_ok : OkF Tryd.prog 8 laws_toLayer_F Tryd.f8 (bodyOf Tryd.f8) := ⟨Tryd.func8, by kernel_rfl, by kernel_rfl, by kernel_rfl, by kernel_rfl⟩
-- loop.example/g01312/impl.LayerText
def impl_LayerText_M : MC :=
  (.seq (.reg none [
      ⟨(some 1), .box (.t 0), none⟩,
      ⟨(some 2), .mov (.c (.str ⟨[].toArray⟩)), none⟩] (some [1]) none)
    (.seq (.seq (.reg none [
      ⟨(some 3), .load (some 65) (.t 1), none⟩,
      ⟨(some 4), .call 24 [(.t 3)], none⟩,
      ⟨(some 5), .un .not (.t 4), none⟩] (some [1, 5]) none)
    (.cond (.t 5) (.seq (.reg none [
      ⟨(some 2), .mov (.c (.str ⟨[].toArray⟩)), none⟩] (some [2]) none)
    .ret)
    .skip))
    (.seq (.reg none [
      ⟨(some 6), .load (some 65) (.t 1), none⟩,
      ⟨(some 7), .call 25 [(.t 6)], none⟩,
      ⟨(some 2), .mov (.t 7), none⟩] (some [2]) none)
    .ret)))
def impl_LayerText_F : MF := ⟨8, [.t 2], impl_LayerText_M⟩
theorem impl_LayerText_ok : OkF Tryd.prog 9 impl_LayerText_F Tryd.f9 (bodyOf Tryd.f9) := ⟨Tryd.func9, by kernel_rfl, by kernel_rfl, by kernel_rfl, by kernel_rfl⟩
-- loop.example/g01312/laws.szLayerS
def laws_szLayerS_M : MC :=
  (.seq (.reg none [
      ⟨(some 4), .mov (.c (.int .i64 0)), none⟩] (some [0, 1]) none)
    (.seq (.reg none [
      ⟨(some 5), .mov (.t 1), none⟩,
      ⟨(some 6), .mov (.t 0), none⟩,
      ⟨(some 7), .lenS (.t 6), none⟩,
      ⟨(some 8), .bin .sub (.t 5) (.t 7), none⟩,
      ⟨(some 1), .mov (.t 8), none⟩] (some [1]) none)
    (.seq (.seq (.reg none [
      ⟨(some 9), .mov (.t 1), none⟩,
      ⟨(some 10), .bin .lss (.t 9) (.c (.int .i64 0)), none⟩] (some [1, 10]) none)
    (.cond (.t 10) (.seq (.reg none [
      ⟨(some 4), .mov (.c (.int .i64 (-1))), none⟩] (some [4]) none)
    .ret)
    .skip))
    (.seq (.reg none [
      ⟨(some 11), .mov (.t 1), none⟩,
      ⟨(some 4), .mov (.t 11), none⟩] (some [4]) none)
    .ret))))
def laws_szLayerS_F : MF := ⟨12, [.t 4], laws_szLayerS_M⟩
theorem laws_szLayerS_ok : OkF Tryd.prog 10 laws_szLayerS_F Tryd.f10 (bodyOf Tryd.f10) := ⟨Tryd.func10, by kernel_rfl, by kernel_rfl, by kernel_rfl, by kernel_rfl⟩
-- loop.example/g01312/spec.LayersText
def spec_LayersText_L0 : MC :=
  (.seq (.seq (.reg none [
      ⟨(some 13), .mov (.t 4), none⟩,
      ⟨(some 14), .mov (.t 0), none⟩,
      ⟨(some 15), .lenS (.t 14), none⟩,
      ⟨(some 16), .bin .lss (.t 13) (.t 15), none⟩] (some [0, 3, 4, 16]) none)
    (.cond (.t 16) .skip
    (.exit 0)))
    (.seq (.block 1 (.reg none [
      ⟨(some 19), .mov (.t 3), none⟩,
      ⟨(some 20), .mov (.t 0), none⟩,
      ⟨(some 21), .mov (.t 4), none⟩,
      ⟨(some 22), .iaS 65 (.t 20) (.t 21), none⟩,
      ⟨(some 23), .call 22 [(.t 22)], none⟩,
      ⟨(some 24), .bin .add (.t 19) (.t 23), none⟩,
      ⟨(some 3), .mov (.t 24), none⟩] (some [0, 3, 4]) none))
    (.reg none [
      ⟨(some 17), .mov (.t 4), none⟩,
      ⟨(some 18), .bin .add (.t 17) (.c (.int .i64 1)), none⟩,
      ⟨(some 4), .mov (.t 18), none⟩] (some [0, 3, 4]) none)))
def spec_LayersText_M : MC :=
  (.seq (.reg none [
      ⟨(some 2), .mov (.c (.str ⟨[].toArray⟩)), none⟩] (some [0]) none)
    (.seq (.seq (.reg none [
      ⟨(some 5), .mov (.t 0), none⟩,
      ⟨(some 6), .lenS (.t 5), none⟩,
      ⟨(some 7), .bin .gtr (.t 6) (.c (.int .i64 8)), none⟩,
      ⟨(some 8), .mov (.t 7), none⟩,
      ⟨(some 9), .mov (.t 0), some (8, false)⟩,
      ⟨(some 10), .call 26 [(.t 9)], some (8, false)⟩,
      ⟨(some 11), .un .not (.t 10), some (8, false)⟩,
      ⟨(some 12), .pick (.t 8) (.c (.bool true)) (.t 11), none⟩] (some [0, 12]) none)
    (.cond (.t 12) (.seq (.reg none [
      ⟨(some 2), .mov (.c (.str ⟨[].toArray⟩)), none⟩] (some [2]) none)
    .ret)
    .skip))
    (.seq (.reg none [
      ⟨(some 3), .mov (.c (.str ⟨[].toArray⟩)), none⟩] (some [0, 3]) none)
    (.seq (.seq (.reg none [
      ⟨(some 4), .mov (.c (.int .i64 0)), none⟩] (some [0, 3, 4]) none)
    (.block 0 (.loop spec_LayersText_L0)))
    (.seq (.reg none [
      ⟨(some 25), .mov (.t 3), none⟩,
      ⟨(some 2), .mov (.t 25), none⟩] (some [2]) none)
    .ret)))))
def spec_LayersText_F : MF := ⟨26, [.t 2], spec_LayersText_M⟩
theorem spec_LayersText_ok : OkF Tryd.prog 11 spec_LayersText_F Tryd.f11 (bodyOf Tryd.f11) := ⟨Tryd.func11, by kernel_rfl, by kernel_rfl, by kernel_rfl, by kernel_rfl⟩
-- loop.example/g01312/laws.toLayerS
def laws_toLayerS_L0 : MC :=
  (.seq (.seq (.reg none [
      ⟨(some 8), .mov (.t 4), none⟩,
      ⟨(some 9), .mov (.t 0), none⟩,
      ⟨(some 10), .lenS (.t 9), none⟩,
      ⟨(some 11), .bin .lss (.t 8) (.t 10), none⟩] (some [0, 3, 4, 11]) none)
    (.cond (.t 11) .skip
    (.exit 0)))
    (.seq (.block 1 (.reg none [
      ⟨(some 14), .mov (.t 3), none⟩,
      ⟨(some 15), .mov (.t 4), none⟩,
      ⟨(some 16), .mov (.t 0), none⟩,
      ⟨(some 17), .mov (.t 4), none⟩,
      ⟨(some 18), .iaS 65 (.t 16) (.t 17), none⟩,
      ⟨(some 19), .load (some 65) (.t 18), none⟩,
      ⟨(some 20), .call 8 [(.t 19)], none⟩,
      ⟨(some 21), .iaS 65 (.t 14) (.t 15), none⟩,
      ⟨none, .store 65 (.t 21) (.t 20), none⟩] (some [0, 3, 4]) none))
    (.reg none [
      ⟨(some 12), .mov (.t 4), none⟩,
      ⟨(some 13), .bin .add (.t 12) (.c (.int .i64 1)), none⟩,
      ⟨(some 4), .mov (.t 13), none⟩] (some [0, 3, 4]) none)))
def laws_toLayerS_M : MC :=
  (.seq (.reg none [
      ⟨(some 2), .mov (.c (.nilsl)), none⟩] (some [0]) none)
    (.seq (.reg none [
      ⟨(some 5), .mov (.t 0), none⟩,
      ⟨(some 6), .lenS (.t 5), none⟩,
      ⟨(some 7), .mks (rl [(1, .int .i8 0), (64, .int .u8 0)]) 65 (.t 6) (.t 6), none⟩,
      ⟨(some 3), .mov (.t 7), none⟩] (some [0, 3]) none)
    (.seq (.seq (.reg none [
      ⟨(some 4), .mov (.c (.int .i64 0)), none⟩] (some [0, 3, 4]) none)
    (.block 0 (.loop laws_toLayerS_L0)))
    (.seq (.reg none [
      ⟨(some 22), .mov (.t 3), none⟩,
      ⟨(some 2), .mov (.t 22), none⟩] (some [2]) none)
    .ret))))
def laws_toLayerS_F : MF := ⟨23, [.t 2], laws_toLayerS_M⟩
theorem laws_toLayerS_ok : OkF Tryd.prog 12 laws_toLayerS_F Tryd.f12 (bodyOf Tryd.f12) := ⟨Tryd.func12, by kernel_rfl, by kernel_rfl, by kernel_rfl, by kernel_rfl⟩
-- loop.example/g01312/impl.LayersText
def impl_LayersText_L0 : MC :=
  (.seq (.reg none [
      ⟨(some 18), .bin .lss (.t 17) (.t 16), none⟩] (some [3, 15, 16, 17, 18]) none)
    (.seq (.cond (.t 18) .skip
    (.exit 0))
    (.seq (.block 1 (.seq (.reg none [
      ⟨(some 19), .iaS 65 (.t 15) (.t 17), none⟩,
      ⟨(some 20), .load (some 65) (.t 19), none⟩,
      ⟨(some 5), .new (rl [(1, .int .i8 0), (64, .int .u8 0)]), none⟩,
      ⟨none, .store 65 (.t 5) (.t 20), none⟩] (some [3, 5, 15, 16, 17]) none)
    (.reg none [
      ⟨(some 21), .load (some 65) (.t 5), none⟩,
      ⟨(some 22), .call 25 [(.t 21)], none⟩,
      ⟨(some 23), .call 28 [(.t 3), (.t 22)], none⟩] (some [3, 15, 16, 17]) none)))
    (.reg none [
      ⟨(some 24), .bin .add (.t 17) (.c (.int .i64 1)), none⟩,
      ⟨(some 17), .mov (.t 24), none⟩] (some [3, 15, 16, 17]) (some 1)))))
def impl_LayersText_M : MC :=
  (.seq (.reg none [
      ⟨(some 2), .mov (.c (.str ⟨[].toArray⟩)), none⟩] (some [0]) none)
    (.seq (.seq (.reg none [
      ⟨(some 6), .mov (.t 0), none⟩,
      ⟨(some 7), .lenS (.t 6), none⟩,
      ⟨(some 8), .bin .gtr (.t 7) (.c (.int .i64 8)), none⟩,
      ⟨(some 9), .mov (.t 8), none⟩,
      ⟨(some 10), .mov (.t 0), some (9, false)⟩,
      ⟨(some 11), .call 27 [(.t 10)], some (9, false)⟩,
      ⟨(some 12), .un .not (.t 11), some (9, false)⟩,
      ⟨(some 13), .pick (.t 9) (.c (.bool true)) (.t 12), none⟩] (some [0, 13]) none)
    (.cond (.t 13) (.seq (.reg none [
      ⟨(some 2), .mov (.c (.str ⟨[].toArray⟩)), none⟩] (some [2]) none)
    .ret)
    .skip))
    (.seq (.reg none [
      ⟨(some 14), .bld [.nilptr, .nilsl] [], none⟩,
      ⟨(some 3), .new [.nilptr, .nilsl], none⟩,
      ⟨none, .store 2 (.t 3) (.t 14), none⟩] (some [0, 3]) none)
    (.seq (.seq (.reg none [
      ⟨(some 15), .mov (.t 0), none⟩,
      ⟨(some 16), .lenS (.t 15), none⟩,
      ⟨(some 17), .mov (.c (.int .i64 0)), none⟩] (some [3, 15, 16, 17]) none)
    (.block 0 (.loop impl_LayersText_L0)))
    (.seq (.reg none [
      ⟨(some 25), .call 29 [(.t 3)], none⟩,
      ⟨(some 2), .mov (.t 25), none⟩] (some [2]) none)
    .ret)))))
def impl_LayersText_F : MF := ⟨26, [.t 2], impl_LayersText_M⟩
theorem impl_LayersText_ok : OkF Tryd.prog 13 impl_LayersText_F Tryd.f13 (bodyOf Tryd.f13) := ⟨Tryd.func13, by kernel_rfl, by kernel_rfl, by kernel_rfl, by kernel_rfl⟩
-- loop.example/g01312/laws.eqLayerS
def laws_eqLayerS_L0 : MC :=
  (.seq (.seq (.reg none [
      ⟨(some 11), .mov (.t 5), none⟩,
      ⟨(some 12), .mov (.t 0), none⟩,
      ⟨(some 13), .lenS (.t 12), none⟩,
      ⟨(some 14), .bin .lss (.t 11) (.t 13), none⟩] (some [0, 1, 5, 14]) none)
    (.cond (.t 14) .skip
    (.exit 0)))
    (.seq (.block 1 (.seq (.reg (some []) [
      ⟨(some 17), .mov (.t 0), none⟩,
      ⟨(some 18), .mov (.t 5), none⟩,
      ⟨(some 19), .iaS 65 (.t 17) (.t 18), none⟩,
      ⟨(some 20), .load (some 65) (.t 19), none⟩,
      ⟨(some 21), .mov (.t 1), none⟩,
      ⟨(some 22), .mov (.t 5), none⟩,
      ⟨(some 23), .iaS 65 (.t 21) (.t 22), none⟩,
      ⟨(some 24), .load (some 65) (.t 23), none⟩,
      ⟨(some 25), .call 20 [(.t 20), (.t 24)], none⟩,
      ⟨(some 26), .un .not (.t 25), none⟩] (some [0, 1, 5, 26]) none)
    (.cond (.t 26) (.seq (.reg none [
      ⟨(some 4), .mov (.c (.bool false)), none⟩] (some [4]) none)
    .ret)
    .skip)))
    (.reg none [
      ⟨(some 15), .mov (.t 5), none⟩,
      ⟨(some 16), .bin .add (.t 15) (.c (.int .i64 1)), none⟩,
      ⟨(some 5), .mov (.t 16), none⟩] (some [0, 1, 5]) none)))
def laws_eqLayerS_M : MC :=
  (.seq (.reg none [
      ⟨(some 4), .mov (.c (.bool false)), none⟩] (some [0, 1]) none)
    (.seq (.seq (.reg none [
      ⟨(some 6), .mov (.t 0), none⟩,
      ⟨(some 7), .lenS (.t 6), none⟩,
      ⟨(some 8), .mov (.t 1), none⟩,
      ⟨(some 9), .lenS (.t 8), none⟩,
      ⟨(some 10), .bin .neq (.t 7) (.t 9), none⟩] (some [0, 1, 10]) none)
    (.cond (.t 10) (.seq (.reg none [
      ⟨(some 4), .mov (.c (.bool false)), none⟩] (some [4]) none)
    .ret)
    .skip))
    (.seq (.seq (.reg none [
      ⟨(some 5), .mov (.c (.int .i64 0)), none⟩] (some [0, 1, 5]) none)
    (.block 0 (.loop laws_eqLayerS_L0)))
    (.seq (.reg none [
      ⟨(some 4), .mov (.c (.bool true)), none⟩] (some [4]) none)
    .ret))))
def laws_eqLayerS_F : MF := ⟨27, [.t 4], laws_eqLayerS_M⟩
theorem laws_eqLayerS_ok : OkF Tryd.prog 14 laws_eqLayerS_F Tryd.f14 (bodyOf Tryd.f14) := ⟨Tryd.func14, by kernel_rfl, by kernel_rfl, by kernel_rfl, by kernel_rfl⟩
-- loop.example/g01312/spec.ReadScheme
def spec_ReadScheme_L0 : MC :=
  (.seq (.seq (.reg none [
      ⟨(some 32), .mov (.t 7), none⟩,
      ⟨(some 33), .mov (.t 5), none⟩,
      ⟨(some 34), .bin .lss (.t 32) (.t 33), none⟩] (some [2, 4, 5, 6, 7, 34]) none)
    (.cond (.t 34) .skip
    (.exit 0)))
    (.seq (.block 1 (.seq (.reg none [
      ⟨(some 37), .mov (.t 4), none⟩,
      ⟨(some 38), .mov (.t 7), none⟩,
      ⟨(some 39), .iaS 1 (.t 37) (.t 38), none⟩,
      ⟨(some 40), .load none (.t 39), none⟩,
      ⟨(some 41), .call 30 [(.t 40), (.c (.int .u8 32))], none⟩,
      ⟨(some 8), .mov (.t 41), none⟩] (some [2, 4, 5, 6, 7, 8]) none)
    (.seq (.seq (.reg (some [(6, 19), (10, 19), (17, 19), (19, 28), (19, 31)]) [
      ⟨(some 42), .mov (.t 8), none⟩,
      ⟨(some 43), .lenS (.t 42), none⟩,
      ⟨(some 44), .bin .neq (.t 43) (.c (.int .i64 2)), none⟩,
      ⟨(some 45), .mov (.t 44), none⟩,
      ⟨(some 46), .mov (.t 8), some (45, false)⟩,
      ⟨(some 47), .iaS 1 (.t 46) (.c (.int .i64 0)), some (45, false)⟩,
      ⟨(some 48), .load none (.t 47), some (45, false)⟩,
      ⟨(some 49), .lenStr (.t 48), some (45, false)⟩,
      ⟨(some 50), .mov (.t 8), some (45, false)⟩,
      ⟨(some 51), .iaS 1 (.t 50) (.c (.int .i64 1)), some (45, false)⟩,
      ⟨(some 52), .load none (.t 51), some (45, false)⟩,
      ⟨(some 53), .lenStr (.t 52), some (45, false)⟩,
      ⟨(some 54), .bin .neq (.t 49) (.t 53), some (45, false)⟩,
      ⟨(some 55), .pick (.t 45) (.c (.bool true)) (.t 54), none⟩,
      ⟨(some 56), .mov (.t 55), none⟩,
      ⟨(some 57), .mov (.t 8), some (56, false)⟩,
      ⟨(some 58), .iaS 1 (.t 57) (.c (.int .i64 0)), some (56, false)⟩,
      ⟨(some 59), .load none (.t 58), some (56, false)⟩,
      ⟨(some 60), .lenStr (.t 59), some (56, false)⟩,
      ⟨(some 61), .call 32 [(.t 60)], some (56, false)⟩,
      ⟨(some 62), .un .not (.t 61), some (56, false)⟩,
      ⟨(some 63), .pick (.t 56) (.c (.bool true)) (.t 62), none⟩,
      ⟨(some 64), .mov (.t 63), none⟩,
      ⟨(some 65), .mov (.t 7), some (64, false)⟩,
      ⟨(some 66), .bin .gtr (.t 65) (.c (.int .i64 0)), some (64, false)⟩,
      ⟨(some 67), .mov (.t 66), some (64, false)⟩,
      ⟨(some 68), .mov (.t 8), some (67, true)⟩,
      ⟨(some 69), .iaS 1 (.t 68) (.c (.int .i64 0)), some (67, true)⟩,
      ⟨(some 70), .load none (.t 69), some (67, true)⟩,
      ⟨(some 71), .lenStr (.t 70), some (67, true)⟩,
      ⟨(some 72), .fa 1 (.t 6), some (67, true)⟩,
      ⟨(some 73), .load none (.t 72), some (67, true)⟩,
      ⟨(some 74), .conv .i64 (.t 73), some (67, true)⟩,
      ⟨(some 75), .bin .neq (.t 71) (.t 74), some (67, true)⟩,
      ⟨(some 76), .pick (.t 67) (.t 75) (.c (.bool false)), some (64, false)⟩,
      ⟨(some 77), .pick (.t 64) (.c (.bool true)) (.t 76), none⟩] (some [2, 4, 5, 6, 7, 8, 77]) none)
    (.cond (.t 77) (.seq (.reg none [
      ⟨(some 78), .bld (rl [(2, .int .i8 0), (12, .int .u8 0)]) [], none⟩,
      ⟨none, .store 14 (.t 2) (.t 78), none⟩,
      ⟨(some 3), .mov (.c (.int .i64 5)), none⟩] (some [2, 3]) none)
    .ret)
    .skip))
    (.seq (.reg none [
      ⟨(some 79), .mov (.t 8), none⟩,
      ⟨(some 80), .iaS 1 (.t 79) (.c (.int .i64 0)), none⟩,
      ⟨(some 81), .load none (.t 80), none⟩,
      ⟨(some 82), .lenStr (.t 81), none⟩,
      ⟨(some 83), .conv .i8 (.t 82), none⟩,
      ⟨(some 84), .fa 1 (.t 6), none⟩,
      ⟨none, .store 1 (.t 84) (.t 83), none⟩] (some [2, 4, 5, 6, 7, 8]) none)
    (.seq (.reg none [
      ⟨(some 86), .mov (.t 8), none⟩,
      ⟨(some 87), .iaS 1 (.t 86) (.c (.int .i64 0)), none⟩,
      ⟨(some 88), .load none (.t 87), none⟩,
      ⟨(some 89), .call 33 [(.t 88)], none⟩,
      ⟨(some 85), .mov (.t 89), none⟩,
      ⟨(some 90), .ext (.t 85) 0, none⟩,
      ⟨(some 91), .ext (.t 85) 1, none⟩,
      ⟨(some 9), .mov (.t 90), none⟩,
      ⟨(some 10), .mov (.t 91), none⟩] (some [2, 4, 5, 6, 7, 8, 9, 10]) none)
    (.seq (.reg none [
      ⟨(some 93), .mov (.t 8), none⟩,
      ⟨(some 94), .iaS 1 (.t 93) (.c (.int .i64 1)), none⟩,
      ⟨(some 95), .load none (.t 94), none⟩,
      ⟨(some 96), .call 33 [(.t 95)], none⟩,
      ⟨(some 92), .mov (.t 96), none⟩,
      ⟨(some 97), .ext (.t 92) 0, none⟩,
      ⟨(some 98), .ext (.t 92) 1, none⟩,
      ⟨(some 11), .mov (.t 97), none⟩,
      ⟨(some 12), .mov (.t 98), none⟩] (some [2, 4, 5, 6, 7, 9, 10, 11, 12]) none)
    (.seq (.seq (.reg none [
      ⟨(some 99), .mov (.t 10), none⟩,
      ⟨(some 100), .un .not (.t 99), none⟩,
      ⟨(some 101), .mov (.t 100), none⟩,
      ⟨(some 102), .mov (.t 12), some (101, false)⟩,
      ⟨(some 103), .un .not (.t 102), some (101, false)⟩,
      ⟨(some 104), .pick (.t 101) (.c (.bool true)) (.t 103), none⟩] (some [2, 4, 5, 6, 7, 9, 11, 104]) none)
    (.cond (.t 104) (.seq (.reg none [
      ⟨(some 105), .bld (rl [(2, .int .i8 0), (12, .int .u8 0)]) [], none⟩,
      ⟨none, .store 14 (.t 2) (.t 105), none⟩,
      ⟨(some 3), .mov (.c (.int .i64 5)), none⟩] (some [2, 3]) none)
    .ret)
    .skip))
    (.seq (.reg none [
      ⟨(some 106), .mov (.t 7), none⟩,
      ⟨(some 107), .mov (.t 9), none⟩,
      ⟨(some 108), .fa 2 (.t 6), none⟩,
      ⟨(some 109), .iaA 6 1 (.t 108) (.t 106), none⟩,
      ⟨none, .store 1 (.t 109) (.t 107), none⟩] (some [2, 4, 5, 6, 7, 11]) none)
    (.reg none [
      ⟨(some 110), .mov (.t 7), none⟩,
      ⟨(some 111), .mov (.t 11), none⟩,
      ⟨(some 112), .fa 8 (.t 6), none⟩,
      ⟨(some 113), .iaA 6 1 (.t 112) (.t 110), none⟩,
      ⟨none, .store 1 (.t 113) (.t 111), none⟩] (some [2, 4, 5, 6, 7]) none)))))))))
    (.reg none [
      ⟨(some 35), .mov (.t 7), none⟩,
      ⟨(some 36), .bin .add (.t 35) (.c (.int .i64 1)), none⟩,
      ⟨(some 7), .mov (.t 36), none⟩] (some [2, 4, 5, 6, 7]) (some 3))))
def spec_ReadScheme_M : MC :=
  (.seq (.reg none [
      ⟨(some 2), .new (rl [(2, .int .i8 0), (12, .int .u8 0)]), none⟩,
      ⟨(some 3), .mov (.c (.int .i64 0)), none⟩] (some [0, 2]) none)
    (.seq (.reg none [
      ⟨(some 13), .mov (.t 0), none⟩,
      ⟨(some 14), .call 30 [(.t 13), (.c (.int .u8 10))], none⟩,
      ⟨(some 4), .mov (.t 14), none⟩] (some [2, 4]) none)
    (.seq (.reg none [
      ⟨(some 15), .mov (.t 4), none⟩,
      ⟨(some 16), .lenS (.t 15), none⟩,
      ⟨(some 17), .bin .sub (.t 16) (.c (.int .i64 1)), none⟩,
      ⟨(some 5), .mov (.t 17), none⟩] (some [2, 4, 5]) none)
    (.seq (.seq (.reg none [
      ⟨(some 18), .mov (.t 4), none⟩,
      ⟨(some 19), .mov (.t 5), none⟩,
      ⟨(some 20), .iaS 1 (.t 18) (.t 19), none⟩,
      ⟨(some 21), .load none (.t 20), none⟩,
      ⟨(some 22), .bin .neq (.t 21) (.c (.str ⟨[].toArray⟩)), none⟩,
      ⟨(some 23), .mov (.t 22), none⟩,
      ⟨(some 24), .mov (.t 5), some (23, false)⟩,
      ⟨(some 25), .call 31 [(.t 24), (.c (.int .i64 1)), (.c (.int .i64 6))], some (23, false)⟩,
      ⟨(some 26), .un .not (.t 25), some (23, false)⟩,
      ⟨(some 27), .pick (.t 23) (.c (.bool true)) (.t 26), none⟩] (some [2, 4, 5, 27]) none)
    (.cond (.t 27) (.seq (.reg none [
      ⟨(some 28), .bld (rl [(2, .int .i8 0), (12, .int .u8 0)]) [], none⟩,
      ⟨none, .store 14 (.t 2) (.t 28), none⟩,
      ⟨(some 3), .mov (.c (.int .i64 5)), none⟩] (some [2, 3]) none)
    .ret)
    .skip))
    (.seq (.reg none [
      ⟨(some 29), .mov (.t 5), none⟩,
      ⟨(some 30), .conv .i8 (.t 29), none⟩,
      ⟨(some 31), .bld (rl [(2, .int .i8 0), (12, .int .u8 0)]) [(0, 1, (.t 30))], none⟩,
      ⟨(some 6), .new (rl [(2, .int .i8 0), (12, .int .u8 0)]), none⟩,
      ⟨none, .store 14 (.t 6) (.t 31), none⟩] (some [2, 4, 5, 6]) none)
    (.seq (.seq (.reg none [
      ⟨(some 7), .mov (.c (.int .i64 0)), none⟩] (some [2, 4, 5, 6, 7]) none)
    (.block 0 (.loop spec_ReadScheme_L0)))
    (.seq (.reg none [
      ⟨(some 114), .load (some 14) (.t 6), none⟩,
      ⟨none, .store 14 (.t 2) (.t 114), none⟩,
      ⟨(some 3), .mov (.c (.int .i64 0)), none⟩] (some [2, 3]) none)
    .ret)))))))
def spec_ReadScheme_F : MF := ⟨115, [.c 2 (some 14), .t 3], spec_ReadScheme_M⟩
theorem spec_ReadScheme_ok : OkF Tryd.prog 15 spec_ReadScheme_F Tryd.f15 (bodyOf Tryd.f15) := ⟨Tryd.func15, by kernel_rfl, by kernel_rfl, by kernel_rfl, by kernel_rfl⟩
-- loop.example/g01312/impl.ReadScheme
def impl_ReadScheme_L0 : MC :=
  (.seq (.reg none [
      ⟨(some 28), .bin .lss (.t 27) (.t 26), none⟩] (some [0, 2, 6, 25, 26, 27, 28]) none)
    (.seq (.cond (.t 28) .skip
    (.exit 0))
    (.seq (.block 1 (.seq (.reg none [
      ⟨(some 29), .mov (.t 27), none⟩,
      ⟨(some 30), .iaS 1 (.t 25) (.t 27), none⟩,
      ⟨(some 31), .load none (.t 30), none⟩,
      ⟨(some 7), .mov (.t 29), none⟩,
      ⟨(some 8), .mov (.t 31), none⟩] (some [0, 2, 6, 7, 8, 25, 26, 27]) none)
    (.seq (.reg none [
      ⟨(some 33), .mov (.t 8), none⟩,
      ⟨(some 34), .call 35 [(.t 33), (.c (.str ⟨[32].toArray⟩))], none⟩,
      ⟨(some 32), .mov (.t 34), none⟩,
      ⟨(some 35), .ext (.t 32) 0, none⟩,
      ⟨(some 36), .ext (.t 32) 1, none⟩,
      ⟨(some 37), .ext (.t 32) 2, none⟩,
      ⟨(some 9), .mov (.t 35), none⟩,
      ⟨(some 10), .mov (.t 36), none⟩,
      ⟨(some 11), .mov (.t 37), none⟩] (some [0, 2, 6, 7, 9, 10, 25, 26, 27]) none)
    (.seq (.reg none [
      ⟨(some 38), .mov (.t 9), none⟩,
      ⟨(some 39), .lenStr (.t 38), none⟩,
      ⟨(some 40), .mm false (.t 39) [(.c (.int .i64 9))], none⟩,
      ⟨(some 41), .conv .i8 (.t 40), none⟩,
      ⟨(some 42), .fa 1 (.t 6), none⟩,
      ⟨none, .store 1 (.t 42) (.t 41), none⟩] (some [0, 2, 6, 7, 9, 10, 25, 26, 27]) none)
    (.reg (some []) [
      ⟨(some 43), .mov (.t 7), none⟩,
      ⟨(some 44), .mov (.t 7), none⟩,
      ⟨(some 45), .mov (.t 9), none⟩,
      ⟨(some 46), .call 36 [(.t 45)], none⟩,
      ⟨(some 47), .mov (.t 10), none⟩,
      ⟨(some 48), .call 36 [(.t 47)], none⟩,
      ⟨(some 49), .fa 2 (.t 6), none⟩,
      ⟨(some 50), .iaA 6 1 (.t 49) (.t 43), none⟩,
      ⟨none, .store 1 (.t 50) (.t 46), none⟩,
      ⟨(some 51), .fa 8 (.t 6), none⟩,
      ⟨(some 52), .iaA 6 1 (.t 51) (.t 44), none⟩,
      ⟨none, .store 1 (.t 52) (.t 48), none⟩] (some [0, 2, 6, 25, 26, 27]) none)))))
    (.reg none [
      ⟨(some 53), .bin .add (.t 27) (.c (.int .i64 1)), none⟩,
      ⟨(some 27), .mov (.t 53), none⟩] (some [0, 2, 6, 25, 26, 27]) none))))
def impl_ReadScheme_M : MC :=
  (.seq (.reg none [
      ⟨(some 2), .new (rl [(2, .int .i8 0), (12, .int .u8 0)]), none⟩,
      ⟨(some 3), .mov (.c (.int .i64 0)), none⟩] (some [0, 2]) none)
    (.seq (.reg none [
      ⟨(some 12), .mov (.t 0), none⟩,
      ⟨(some 13), .call 34 [(.t 12), (.c (.str ⟨[10].toArray⟩)), (.c (.int .i64 8))], none⟩,
      ⟨(some 4), .mov (.t 13), none⟩] (some [0, 2, 4]) none)
    (.seq (.reg none [
      ⟨(some 14), .mov (.t 4), none⟩,
      ⟨(some 15), .lenS (.t 14), none⟩,
      ⟨(some 16), .bin .sub (.t 15) (.c (.int .i64 1)), none⟩,
      ⟨(some 5), .mov (.t 16), none⟩] (some [0, 2, 4, 5]) none)
    (.seq (.seq (.reg none [
      ⟨(some 17), .mov (.t 5), none⟩,
      ⟨(some 18), .bin .gtr (.t 17) (.c (.int .i64 6)), none⟩] (some [0, 2, 4, 5, 18]) none)
    (.cond (.t 18) (.seq (.reg none [
      ⟨(some 19), .bld (rl [(2, .int .i8 0), (12, .int .u8 0)]) [], none⟩,
      ⟨none, .store 14 (.t 2) (.t 19), none⟩,
      ⟨(some 3), .mov (.c (.int .i64 5)), none⟩] (some [2, 3]) none)
    .ret)
    .skip))
    (.seq (.reg none [
      ⟨(some 20), .mov (.t 5), none⟩,
      ⟨(some 21), .conv .i8 (.t 20), none⟩,
      ⟨(some 22), .bld (rl [(2, .int .i8 0), (12, .int .u8 0)]) [(0, 1, (.t 21))], none⟩,
      ⟨(some 6), .new (rl [(2, .int .i8 0), (12, .int .u8 0)]), none⟩,
      ⟨none, .store 14 (.t 6) (.t 22), none⟩] (some [0, 2, 4, 5, 6]) none)
    (.seq (.seq (.reg none [
      ⟨(some 23), .mov (.t 4), none⟩,
      ⟨(some 24), .mov (.t 5), none⟩,
      ⟨(some 25), .slS 1 (.t 23) none (some (.t 24)), none⟩,
      ⟨(some 26), .lenS (.t 25), none⟩,
      ⟨(some 27), .mov (.c (.int .i64 0)), none⟩] (some [0, 2, 6, 25, 26, 27]) none)
    (.block 0 (.loop impl_ReadScheme_L0)))
    (.seq (.seq (.reg none [
      ⟨(some 54), .load (some 14) (.t 6), none⟩,
      ⟨(some 55), .call 37 [(.t 54)], none⟩,
      ⟨(some 56), .un .not (.t 55), none⟩,
      ⟨(some 57), .mov (.t 56), none⟩,
      ⟨(some 58), .load (some 14) (.t 6), some (57, false)⟩,
      ⟨(some 59), .call 38 [(.t 58)], some (57, false)⟩,
      ⟨(some 60), .mov (.t 0), some (57, false)⟩,
      ⟨(some 61), .bin .neq (.t 59) (.t 60), some (57, false)⟩,
      ⟨(some 62), .pick (.t 57) (.c (.bool true)) (.t 61), none⟩] (some [2, 6, 62]) none)
    (.cond (.t 62) (.seq (.reg none [
      ⟨(some 63), .bld (rl [(2, .int .i8 0), (12, .int .u8 0)]) [], none⟩,
      ⟨none, .store 14 (.t 2) (.t 63), none⟩,
      ⟨(some 3), .mov (.c (.int .i64 5)), none⟩] (some [2, 3]) none)
    .ret)
    .skip))
    (.seq (.reg none [
      ⟨(some 64), .load (some 14) (.t 6), none⟩,
      ⟨none, .store 14 (.t 2) (.t 64), none⟩,
      ⟨(some 3), .mov (.c (.int .i64 0)), none⟩] (some [2, 3]) none)
    .ret))))))))
def impl_ReadScheme_F : MF := ⟨65, [.c 2 (some 14), .t 3], impl_ReadScheme_M⟩
theorem impl_ReadScheme_ok : OkF Tryd.prog 16 impl_ReadScheme_F Tryd.f16 (bodyOf Tryd.f16) := ⟨Tryd.func16, by kernel_rfl, by kernel_rfl, by kernel_rfl, by kernel_rfl⟩
-- loop.example/g01312/laws.eqScheme
def laws_eqScheme_M : MC :=
  (.seq (.reg none [
      ⟨(some 2), .box (.t 0), none⟩,
      ⟨(some 3), .box (.t 1), none⟩,
      ⟨(some 4), .mov (.c (.bool false)), none⟩] (some [2, 3]) none)
    (.seq (.seq (.reg none [
      ⟨(some 5), .fa 0 (.t 2), none⟩,
      ⟨(some 6), .load none (.t 5), none⟩,
      ⟨(some 7), .fa 0 (.t 3), none⟩,
      ⟨(some 8), .load none (.t 7), none⟩,
      ⟨(some 9), .bin .neq (.t 6) (.t 8), none⟩] (some [2, 3, 9]) none)
    (.cond (.t 9) (.seq (.reg none [
      ⟨(some 4), .mov (.c (.bool false)), none⟩] (some [4]) none)
    .ret)
    .skip))
    (.seq (.seq (.reg none [
      ⟨(some 10), .fa 1 (.t 2), none⟩,
      ⟨(some 11), .load none (.t 10), none⟩,
      ⟨(some 12), .fa 1 (.t 3), none⟩,
      ⟨(some 13), .load none (.t 12), none⟩,
      ⟨(some 14), .bin .neq (.t 11) (.t 13), none⟩] (some [2, 3, 14]) none)
    (.cond (.t 14) (.seq (.reg none [
      ⟨(some 4), .mov (.c (.bool false)), none⟩] (some [4]) none)
    .ret)
    .skip))
    (.seq (.seq (.reg none [
      ⟨(some 15), .fa 2 (.t 2), none⟩,
      ⟨(some 16), .load (some 6) (.t 15), none⟩,
      ⟨(some 17), .fa 2 (.t 3), none⟩,
      ⟨(some 18), .load (some 6) (.t 17), none⟩,
      ⟨(some 19), .call 39 [(.t 16), (.t 18)], none⟩,
      ⟨(some 20), .un .not (.t 19), none⟩] (some [2, 3, 20]) none)
    (.cond (.t 20) (.seq (.reg none [
      ⟨(some 4), .mov (.c (.bool false)), none⟩] (some [4]) none)
    .ret)
    .skip))
    (.seq (.seq (.reg none [
      ⟨(some 21), .fa 8 (.t 2), none⟩,
      ⟨(some 22), .load (some 6) (.t 21), none⟩,
      ⟨(some 23), .fa 8 (.t 3), none⟩,
      ⟨(some 24), .load (some 6) (.t 23), none⟩,
      ⟨(some 25), .call 39 [(.t 22), (.t 24)], none⟩,
      ⟨(some 26), .un .not (.t 25), none⟩] (some [26]) none)
    (.cond (.t 26) (.seq (.reg none [
      ⟨(some 4), .mov (.c (.bool false)), none⟩] (some [4]) none)
    .ret)
    .skip))
    (.seq (.reg none [
      ⟨(some 4), .mov (.c (.bool true)), none⟩] (some [4]) none)
    .ret))))))
def laws_eqScheme_F : MF := ⟨27, [.t 4], laws_eqScheme_M⟩
theorem laws_eqScheme_ok : OkF Tryd.prog 17 laws_eqScheme_F Tryd.f17 (bodyOf Tryd.f17) := ⟨Tryd.func17, by kernel_rfl, by kernel_rfl, by kernel_rfl, by kernel_rfl⟩
-- loop.example/g01312/spec.ReadLayer
def spec_ReadLayer_L1 : MC :=
  (.seq (.seq (.reg none [
      ⟨(some 56), .mov (.t 10), none⟩,
      ⟨(some 57), .bin .lss (.t 56) (.c (.int .i64 8)), none⟩] (some [2, 4, 7, 8, 9, 10, 57]) none)
    (.cond (.t 57) .skip
    (.exit 2)))
    (.seq (.block 3 (.seq (.reg none [
      ⟨(some 60), .mov (.t 9), none⟩,
      ⟨(some 61), .mov (.t 10), none⟩,
      ⟨(some 62), .bin .mul (.c (.int .i64 2)) (.t 61), none⟩,
      ⟨(some 63), .ixS (.t 60) (.t 62), none⟩,
      ⟨(some 64), .call 41 [(.t 63)], none⟩,
      ⟨(some 11), .mov (.t 64), none⟩] (some [2, 4, 7, 8, 9, 10, 11]) none)
    (.seq (.reg none [
      ⟨(some 65), .mov (.t 9), none⟩,
      ⟨(some 66), .mov (.t 10), none⟩,
      ⟨(some 67), .bin .mul (.c (.int .i64 2)) (.t 66), none⟩,
      ⟨(some 68), .bin .add (.t 67) (.c (.int .i64 1)), none⟩,
      ⟨(some 69), .ixS (.t 65) (.t 68), none⟩,
      ⟨(some 70), .call 41 [(.t 69)], none⟩,
      ⟨(some 12), .mov (.t 70), none⟩] (some [2, 4, 7, 8, 9, 10, 11, 12]) none)
    (.seq (.seq (.reg none [
      ⟨(some 71), .mov (.t 11), none⟩,
      ⟨(some 72), .bin .lss (.t 71) (.c (.int .i64 0)), none⟩,
      ⟨(some 73), .mov (.t 72), none⟩,
      ⟨(some 74), .mov (.t 12), some (73, false)⟩,
      ⟨(some 75), .bin .lss (.t 74) (.c (.int .i64 0)), some (73, false)⟩,
      ⟨(some 76), .pick (.t 73) (.c (.bool true)) (.t 75), none⟩] (some [2, 4, 7, 8, 9, 10, 11, 12, 76]) none)
    (.cond (.t 76) (.seq (.reg none [
      ⟨(some 77), .bld (rl [(1, .int .i8 0), (64, .int .u8 0)]) [], none⟩,
      ⟨none, .store 65 (.t 2) (.t 77), none⟩,
      ⟨(some 3), .mov (.c (.int .i64 5)), none⟩] (some [2, 3]) none)
    .ret)
    .skip))
    (.reg none [
      ⟨(some 78), .mov (.t 10), none⟩,
      ⟨(some 79), .mov (.t 8), none⟩,
      ⟨(some 80), .bin .mul (.c (.int .i64 8)) (.t 79), none⟩,
      ⟨(some 81), .bin .add (.t 78) (.t 80), none⟩,
      ⟨(some 82), .mov (.t 11), none⟩,
      ⟨(some 83), .bin .mul (.c (.int .i64 16)) (.t 82), none⟩,
      ⟨(some 84), .mov (.t 12), none⟩,
      ⟨(some 85), .bin .add (.t 83) (.t 84), none⟩,
      ⟨(some 86), .conv .u8 (.t 85), none⟩,
      ⟨(some 87), .fa 1 (.t 7), none⟩,
      ⟨(some 88), .iaA 64 1 (.t 87) (.t 81), none⟩,
      ⟨none, .store 1 (.t 88) (.t 86), none⟩] (some [2, 4, 7, 8, 9, 10]) none)))))
    (.reg none [
      ⟨(some 58), .mov (.t 10), none⟩,
      ⟨(some 59), .bin .add (.t 58) (.c (.int .i64 1)), none⟩,
      ⟨(some 10), .mov (.t 59), none⟩] (some [2, 4, 7, 8, 9, 10]) none)))
def spec_ReadLayer_L0 : MC :=
  (.seq (.seq (.reg none [
      ⟨(some 43), .mov (.t 8), none⟩,
      ⟨(some 44), .bin .lss (.t 43) (.c (.int .i64 8)), none⟩] (some [2, 4, 7, 8, 44]) none)
    (.cond (.t 44) .skip
    (.exit 0)))
    (.seq (.block 1 (.seq (.reg none [
      ⟨(some 47), .mov (.t 4), none⟩,
      ⟨(some 48), .mov (.t 8), none⟩,
      ⟨(some 49), .bin .add (.t 48) (.c (.int .i64 1)), none⟩,
      ⟨(some 50), .iaS 1 (.t 47) (.t 49), none⟩,
      ⟨(some 51), .load none (.t 50), none⟩,
      ⟨(some 9), .mov (.t 51), none⟩] (some [2, 4, 7, 8, 9]) none)
    (.seq (.seq (.reg none [
      ⟨(some 52), .mov (.t 9), none⟩,
      ⟨(some 53), .lenStr (.t 52), none⟩,
      ⟨(some 54), .bin .neq (.t 53) (.c (.int .i64 16)), none⟩] (some [2, 4, 7, 8, 9, 54]) none)
    (.cond (.t 54) (.seq (.reg none [
      ⟨(some 55), .bld (rl [(1, .int .i8 0), (64, .int .u8 0)]) [], none⟩,
      ⟨none, .store 65 (.t 2) (.t 55), none⟩,
      ⟨(some 3), .mov (.c (.int .i64 5)), none⟩] (some [2, 3]) none)
    .ret)
    .skip))
    (.seq (.reg none [
      ⟨(some 10), .mov (.c (.int .i64 0)), none⟩] (some [2, 4, 7, 8, 9, 10]) none)
    (.block 2 (.loop spec_ReadLayer_L1))))))
    (.reg none [
      ⟨(some 45), .mov (.t 8), none⟩,
      ⟨(some 46), .bin .add (.t 45) (.c (.int .i64 1)), none⟩,
      ⟨(some 8), .mov (.t 46), none⟩] (some [2, 4, 7, 8]) none)))
def spec_ReadLayer_M : MC :=
  (.seq (.reg none [
      ⟨(some 2), .new (rl [(1, .int .i8 0), (64, .int .u8 0)]), none⟩,
      ⟨(some 3), .mov (.c (.int .i64 0)), none⟩] (some [0, 2]) none)
    (.seq (.reg none [
      ⟨(some 13), .mov (.t 0), none⟩,
      ⟨(some 14), .call 30 [(.t 13), (.c (.int .u8 10))], none⟩,
      ⟨(some 4), .mov (.t 14), none⟩] (some [2, 4]) none)
    (.seq (.seq (.reg none [
      ⟨(some 15), .mov (.t 4), none⟩,
      ⟨(some 16), .lenS (.t 15), none⟩,
      ⟨(some 17), .bin .neq (.t 16) (.c (.int .i64 10)), none⟩,
      ⟨(some 18), .mov (.t 17), none⟩,
      ⟨(some 19), .mov (.t 4), some (18, false)⟩,
      ⟨(some 20), .iaS 1 (.t 19) (.c (.int .i64 9)), some (18, false)⟩,
      ⟨(some 21), .load none (.t 20), some (18, false)⟩,
      ⟨(some 22), .bin .neq (.t 21) (.c (.str ⟨[].toArray⟩)), some (18, false)⟩,
      ⟨(some 23), .pick (.t 18) (.c (.bool true)) (.t 22), none⟩] (some [2, 4, 23]) none)
    (.cond (.t 23) (.seq (.reg none [
      ⟨(some 24), .bld (rl [(1, .int .i8 0), (64, .int .u8 0)]) [], none⟩,
      ⟨none, .store 65 (.t 2) (.t 24), none⟩,
      ⟨(some 3), .mov (.c (.int .i64 5)), none⟩] (some [2, 3]) none)
    .ret)
    .skip))
    (.seq (.reg none [
      ⟨(some 26), .mov (.t 4), none⟩,
      ⟨(some 27), .iaS 1 (.t 26) (.c (.int .i64 0)), none⟩,
      ⟨(some 28), .load none (.t 27), none⟩,
      ⟨(some 29), .call 40 [(.t 28)], none⟩,
      ⟨(some 25), .mov (.t 29), none⟩,
      ⟨(some 30), .ext (.t 25) 0, none⟩,
      ⟨(some 31), .ext (.t 25) 1, none⟩,
      ⟨(some 5), .mov (.t 30), none⟩,
      ⟨(some 6), .mov (.t 31), none⟩] (some [2, 4, 5, 6]) none)
    (.seq (.seq (.reg none [
      ⟨(some 32), .mov (.t 6), none⟩,
      ⟨(some 33), .un .not (.t 32), none⟩,
      ⟨(some 34), .mov (.t 33), none⟩,
      ⟨(some 35), .mov (.t 5), some (34, false)⟩,
      ⟨(some 36), .call 32 [(.t 35)], some (34, false)⟩,
      ⟨(some 37), .un .not (.t 36), some (34, false)⟩,
      ⟨(some 38), .pick (.t 34) (.c (.bool true)) (.t 37), none⟩] (some [2, 4, 5, 38]) none)
    (.cond (.t 38) (.seq (.reg none [
      ⟨(some 39), .bld (rl [(1, .int .i8 0), (64, .int .u8 0)]) [], none⟩,
      ⟨none, .store 65 (.t 2) (.t 39), none⟩,
      ⟨(some 3), .mov (.c (.int .i64 5)), none⟩] (some [2, 3]) none)
    .ret)
    .skip))
    (.seq (.reg none [
      ⟨(some 40), .mov (.t 5), none⟩,
      ⟨(some 41), .conv .i8 (.t 40), none⟩,
      ⟨(some 42), .bld (rl [(1, .int .i8 0), (64, .int .u8 0)]) [(0, 1, (.t 41))], none⟩,
      ⟨(some 7), .new (rl [(1, .int .i8 0), (64, .int .u8 0)]), none⟩,
      ⟨none, .store 65 (.t 7) (.t 42), none⟩] (some [2, 4, 7]) none)
    (.seq (.seq (.reg none [
      ⟨(some 8), .mov (.c (.int .i64 0)), none⟩] (some [2, 4, 7, 8]) none)
    (.block 0 (.loop spec_ReadLayer_L0)))
    (.seq (.seq (.reg none [
      ⟨(some 89), .call 21 [(.t 7)], none⟩,
      ⟨(some 90), .un .not (.t 89), none⟩] (some [2, 7, 90]) none)
    (.cond (.t 90) (.seq (.reg none [
      ⟨(some 91), .bld (rl [(1, .int .i8 0), (64, .int .u8 0)]) [], none⟩,
      ⟨none, .store 65 (.t 2) (.t 91), none⟩,
      ⟨(some 3), .mov (.c (.int .i64 5)), none⟩] (some [2, 3]) none)
    .ret)
    .skip))
    (.seq (.reg none [
      ⟨(some 92), .load (some 65) (.t 7), none⟩,
      ⟨none, .store 65 (.t 2) (.t 92), none⟩,
      ⟨(some 3), .mov (.c (.int .i64 0)), none⟩] (some [2, 3]) none)
    .ret)))))))))
def spec_ReadLayer_F : MF := ⟨93, [.c 2 (some 65), .t 3], spec_ReadLayer_M⟩
-- NOT COMPILED 19 loop.example/g01312/impl.ReadLayer
theorem spec_ReadLayer_ok : OkF Tryd.prog 18 spec_ReadLayer_F Tryd.f18 (bodyOf Tryd.f18) := ⟨Tryd.func18, by kernel_rfl, by kernel_rfl, by kernel_rfl, by kernel_rfl⟩
-- loop.example/g01312/laws.eqLayer
def laws_eqLayer_M : MC :=
  (.seq (.reg none [
      ⟨(some 2), .box (.t 0), none⟩,
      ⟨(some 3), .box (.t 1), none⟩,
      ⟨(some 4), .mov (.c (.bool false)), none⟩] (some [2, 3]) none)
    (.seq (.seq (.reg none [
      ⟨(some 5), .fa 0 (.t 2), none⟩,
      ⟨(some 6), .load none (.t 5), none⟩,
      ⟨(some 7), .fa 0 (.t 3), none⟩,
      ⟨(some 8), .load none (.t 7), none⟩,
      ⟨(some 9), .bin .neq (.t 6) (.t 8), none⟩] (some [2, 3, 9]) none)
    (.cond (.t 9) (.seq (.reg none [
      ⟨(some 4), .mov (.c (.bool false)), none⟩] (some [4]) none)
    .ret)
    .skip))
    (.seq (.seq (.reg none [
      ⟨(some 10), .fa 1 (.t 2), none⟩,
      ⟨(some 11), .load (some 64) (.t 10), none⟩,
      ⟨(some 12), .fa 1 (.t 3), none⟩,
      ⟨(some 13), .load (some 64) (.t 12), none⟩,
      ⟨(some 14), .call 43 [(.t 11), (.t 13)], none⟩,
      ⟨(some 15), .un .not (.t 14), none⟩] (some [15]) none)
    (.cond (.t 15) (.seq (.reg none [
      ⟨(some 4), .mov (.c (.bool false)), none⟩] (some [4]) none)
    .ret)
    .skip))
    (.seq (.reg none [
      ⟨(some 4), .mov (.c (.bool true)), none⟩] (some [4]) none)
    .ret))))
def laws_eqLayer_F : MF := ⟨16, [.t 4], laws_eqLayer_M⟩
theorem laws_eqLayer_ok : OkF Tryd.prog 20 laws_eqLayer_F Tryd.f20 (bodyOf Tryd.f20) := ⟨Tryd.func20, by kernel_rfl, by kernel_rfl, by kernel_rfl, by kernel_rfl⟩
-- loop.example/g01312/spec.l01Ok
def spec_l01Ok_L0 : MC :=
  (.seq (.seq (.reg none [
      ⟨(some 11), .mov (.t 3), none⟩,
      ⟨(some 12), .bin .lss (.t 11) (.c (.int .i64 64)), none⟩] (some [0, 3, 12]) none)
    (.cond (.t 12) .skip
    (.exit 0)))
    (.seq (.block 1 (.seq (.reg (some []) [
      ⟨(some 15), .mov (.t 0), none⟩,
      ⟨(some 16), .mov (.t 3), none⟩,
      ⟨(some 17), .nilc (.t 15), none⟩,
      ⟨(some 18), .fa 1 (.t 17), none⟩,
      ⟨(some 19), .iaA 64 1 (.t 18) (.t 16), none⟩,
      ⟨(some 20), .load none (.t 19), none⟩,
      ⟨(some 21), .mov (.t 0), none⟩,
      ⟨(some 22), .nilc (.t 21), none⟩,
      ⟨(some 23), .fa 0 (.t 22), none⟩,
      ⟨(some 24), .load none (.t 23), none⟩,
      ⟨(some 25), .conv .u64 (.t 24), none⟩,
      ⟨(some 26), .bin .shr (.t 20) (.t 25), none⟩,
      ⟨(some 27), .bin .neq (.t 26) (.c (.int .u8 0)), none⟩] (some [0, 3, 27]) none)
    (.cond (.t 27) (.seq (.reg none [
      ⟨(some 2), .mov (.c (.bool false)), none⟩] (some [2]) none)
    .ret)
    .skip)))
    (.reg none [
      ⟨(some 13), .mov (.t 3), none⟩,
      ⟨(some 14), .bin .add (.t 13) (.c (.int .i64 1)), none⟩,
      ⟨(some 3), .mov (.t 14), none⟩] (some [0, 3]) none)))
def spec_l01Ok_M : MC :=
  (.seq (.reg none [
      ⟨(some 2), .mov (.c (.bool false)), none⟩] (some [0]) none)
    (.seq (.seq (.reg none [
      ⟨(some 4), .mov (.t 0), none⟩,
      ⟨(some 5), .nilc (.t 4), none⟩,
      ⟨(some 6), .fa 0 (.t 5), none⟩,
      ⟨(some 7), .load none (.t 6), none⟩,
      ⟨(some 8), .conv .i64 (.t 7), none⟩,
      ⟨(some 9), .call 32 [(.t 8)], none⟩,
      ⟨(some 10), .un .not (.t 9), none⟩] (some [0, 10]) none)
    (.cond (.t 10) (.seq (.reg none [
      ⟨(some 2), .mov (.c (.bool false)), none⟩] (some [2]) none)
    .ret)
    .skip))
    (.seq (.seq (.reg none [
      ⟨(some 3), .mov (.c (.int .i64 0)), none⟩] (some [0, 3]) none)
    (.block 0 (.loop spec_l01Ok_L0)))
    (.seq (.reg none [
      ⟨(some 2), .mov (.c (.bool true)), none⟩] (some [2]) none)
    .ret))))
def spec_l01Ok_F : MF := ⟨28, [.t 2], spec_l01Ok_M⟩
theorem spec_l01Ok_ok : OkF Tryd.prog 21 spec_l01Ok_F Tryd.f21 (bodyOf Tryd.f21) := ⟨Tryd.func21, by kernel_rfl, by kernel_rfl, by kernel_rfl, by kernel_rfl⟩
-- loop.example/g01312/spec.l01Text
def spec_l01Text_L0 : MC :=
  (.seq (.seq (.reg none [
      ⟨(some 14), .mov (.t 5), none⟩,
      ⟨(some 15), .bin .lss (.t 14) (.c (.int .i64 64)), none⟩] (some [0, 3, 4, 5, 15]) none)
    (.cond (.t 15) .skip
    (.exit 0)))
    (.seq (.block 1 (.seq (.regT 20 [(7, 19), (16, 19)] [
      ⟨(some 18), .mov (.t 4), none⟩,
      ⟨(some 19), .mov (.t 3), none⟩,
      ⟨(some 20), .mov (.t 0), none⟩,
      ⟨(some 21), .mov (.t 5), none⟩,
      ⟨(some 22), .nilc (.t 20), none⟩,
      ⟨(some 23), .fa 1 (.t 22), none⟩,
      ⟨(some 24), .iaA 64 1 (.t 23) (.t 21), none⟩,
      ⟨(some 25), .load none (.t 24), none⟩,
      ⟨(some 26), .bin .shr (.t 25) (.c (.int .u64 4)), none⟩,
      ⟨(some 27), .ixS (.t 19) (.t 26), none⟩,
      ⟨(some 28), .mov (.t 3), none⟩,
      ⟨(some 29), .mov (.t 0), none⟩,
      ⟨(some 30), .mov (.t 5), none⟩,
      ⟨(some 31), .nilc (.t 29), none⟩,
      ⟨(some 32), .fa 1 (.t 31), none⟩,
      ⟨(some 33), .iaA 64 1 (.t 32) (.t 30), none⟩,
      ⟨(some 34), .load none (.t 33), none⟩,
      ⟨(some 35), .bin .and (.t 34) (.c (.int .u8 15)), none⟩,
      ⟨(some 36), .ixS (.t 28) (.t 35), none⟩,
      ⟨(some 37), .bldS [.int .u8 0] 2 [(0, 1, (.t 27)), (1, 1, (.t 36))], none⟩] [
      ⟨(some 38), .app [.int .u8 0] 1 false (.t 18) (.t 37), none⟩,
      ⟨(some 4), .mov (.t 38), none⟩] (some [0, 3, 4, 5]) none)
    (.seq (.reg none [
      ⟨(some 39), .mov (.t 5), none⟩,
      ⟨(some 40), .bin .rem (.t 39) (.c (.int .i64 8)), none⟩,
      ⟨(some 41), .bin .eql (.t 40) (.c (.int .i64 7)), none⟩] (some [0, 3, 4, 5, 41]) none)
    (.cond (.t 41) (.reg none [
      ⟨(some 42), .mov (.t 4), none⟩,
      ⟨(some 43), .bldS [.int .u8 0] 1 [(0, 1, (.c (.int .u8 10)))], none⟩,
      ⟨(some 44), .app [.int .u8 0] 1 false (.t 42) (.t 43), none⟩,
      ⟨(some 4), .mov (.t 44), none⟩] (some [0, 3, 4, 5]) none)
    .skip))))
    (.reg none [
      ⟨(some 16), .mov (.t 5), none⟩,
      ⟨(some 17), .bin .add (.t 16) (.c (.int .i64 1)), none⟩,
      ⟨(some 5), .mov (.t 17), none⟩] (some [0, 3, 4, 5]) (some 1))))
def spec_l01Text_M : MC :=
  (.seq (.reg none [
      ⟨(some 2), .mov (.c (.str ⟨[].toArray⟩)), none⟩] (some [0]) none)
    (.seq (.reg none [
      ⟨(some 3), .mov (.c (.str ⟨[48, 49, 50, 51, 52, 53, 54, 55, 56, 57, 97, 98, 99, 100, 101, 102].toArray⟩)), none⟩] (some [0, 3]) none)
    (.seq (.reg none [
      ⟨(some 6), .mov (.t 0), none⟩,
      ⟨(some 7), .nilc (.t 6), none⟩,
      ⟨(some 8), .fa 0 (.t 7), none⟩,
      ⟨(some 9), .load none (.t 8), none⟩,
      ⟨(some 10), .conv .i64 (.t 9), none⟩,
      ⟨(some 11), .call 44 [(.t 10)], none⟩,
      ⟨(some 12), .bin .add (.t 11) (.c (.str ⟨[10].toArray⟩)), none⟩,
      ⟨(some 13), .app [.int .u8 0, .int .u8 0] 1 true (.t 12) (.t 12), none⟩,
      ⟨(some 4), .mov (.t 13), none⟩] (some [0, 3, 4]) none)
    (.seq (.seq (.reg none [
      ⟨(some 5), .mov (.c (.int .i64 0)), none⟩] (some [0, 3, 4, 5]) none)
    (.block 0 (.loop spec_l01Text_L0)))
    (.seq (.reg none [
      ⟨(some 45), .mov (.t 4), none⟩,
      ⟨(some 46), .toStr (.t 45), none⟩,
      ⟨(some 2), .mov (.t 46), none⟩] (some [2]) none)
    .ret)))))
def spec_l01Text_F : MF := ⟨47, [.t 2], spec_l01Text_M⟩
theorem spec_l01Text_ok : OkF Tryd.prog 22 spec_l01Text_F Tryd.f22 (bodyOf Tryd.f22) := ⟨Tryd.func22, by kernel_rfl, by kernel_rfl, by kernel_rfl, by kernel_rfl⟩
-- loop.example/g01312/laws.toByteA64
def laws_toByteA64_L0 : MC :=
  (.seq (.seq (.reg none [
      ⟨(some 5), .mov (.t 4), none⟩,
      ⟨(some 6), .bin .lss (.t 5) (.c (.int .i64 64)), none⟩] (some [1, 2, 3, 4, 6]) none)
    (.cond (.t 6) .skip
    (.exit 0)))
    (.seq (.block 1 (.reg none [
      ⟨(some 9), .mov (.t 4), none⟩,
      ⟨(some 10), .mov (.t 4), none⟩,
      ⟨(some 11), .iaA 64 1 (.t 1) (.t 10), none⟩,
      ⟨(some 12), .load none (.t 11), none⟩,
      ⟨(some 13), .iaA 64 1 (.t 3) (.t 9), none⟩,
      ⟨none, .store 1 (.t 13) (.t 12), none⟩] (some [1, 2, 3, 4]) none))
    (.reg none [
      ⟨(some 7), .mov (.t 4), none⟩,
      ⟨(some 8), .bin .add (.t 7) (.c (.int .i64 1)), none⟩,
      ⟨(some 4), .mov (.t 8), none⟩] (some [1, 2, 3, 4]) none)))
def laws_toByteA64_M : MC :=
  (.seq (.reg none [
      ⟨(some 1), .box (.t 0), none⟩,
      ⟨(some 2), .new (rl [(64, .int .u8 0)]), none⟩] (some [1, 2]) none)
    (.seq (.reg none [
      ⟨(some 3), .new (rl [(64, .int .u8 0)]), none⟩] (some [1, 2, 3]) none)
    (.seq (.seq (.reg none [
      ⟨(some 4), .mov (.c (.int .i64 0)), none⟩] (some [1, 2, 3, 4]) none)
    (.block 0 (.loop laws_toByteA64_L0)))
    (.seq (.reg none [
      ⟨(some 14), .load (some 64) (.t 3), none⟩,
      ⟨none, .store 64 (.t 2) (.t 14), none⟩] (some [2]) none)
    .ret))))
def laws_toByteA64_F : MF := ⟨15, [.c 2 (some 64)], laws_toByteA64_M⟩
theorem laws_toByteA64_ok : OkF Tryd.prog 23 laws_toByteA64_F Tryd.f23 (bodyOf Tryd.f23) := ⟨Tryd.func23, by kernel_rfl, by kernel_rfl, by kernel_rfl, by kernel_rfl⟩
-- loop.example/g01312/impl.ValidLayer
def impl_ValidLayer_L0 : MC :=
  (.seq (.reg none [
      ⟨(some 13), .bin .lss (.t 12) (.c (.int .i64 64)), none⟩] (some [1, 11, 12, 13]) none)
    (.seq (.cond (.t 13) .skip
    (.exit 0))
    (.seq (.block 1 (.seq (.reg none [
      ⟨(some 14), .ix 64 1 none (.t 11) (.t 12), none⟩,
      ⟨(some 4), .mov (.t 14), none⟩] (some [1, 4, 11, 12]) none)
    (.seq (.reg none [
      ⟨(some 15), .mov (.t 4), none⟩,
      ⟨(some 16), .fa 0 (.t 1), none⟩,
      ⟨(some 17), .load none (.t 16), none⟩,
      ⟨(some 18), .call 46 [(.t 17)], none⟩,
      ⟨(some 19), .bin .andNot (.t 15) (.t 18), none⟩,
      ⟨(some 20), .bin .neq (.t 19) (.c (.int .u8 0)), none⟩] (some [1, 11, 12, 20]) none)
    (.cond (.t 20) (.seq (.reg none [
      ⟨(some 2), .mov (.c (.bool false)), none⟩] (some [2]) none)
    .ret)
    .skip))))
    (.reg none [
      ⟨(some 21), .bin .add (.t 12) (.c (.int .i64 1)), none⟩,
      ⟨(some 12), .mov (.t 21), none⟩] (some [1, 11, 12]) none))))
def impl_ValidLayer_M : MC :=
  (.seq (.reg none [
      ⟨(some 1), .box (.t 0), none⟩,
      ⟨(some 2), .mov (.c (.bool false)), none⟩] (some [1]) none)
    (.seq (.seq (.reg none [
      ⟨(some 5), .fa 0 (.t 1), none⟩,
      ⟨(some 6), .load none (.t 5), none⟩,
      ⟨(some 7), .conv .i64 (.t 6), none⟩,
      ⟨(some 8), .call 45 [(.t 7)], none⟩,
      ⟨(some 9), .un .not (.t 8), none⟩] (some [1, 9]) none)
    (.cond (.t 9) (.seq (.reg none [
      ⟨(some 2), .mov (.c (.bool false)), none⟩] (some [2]) none)
    .ret)
    .skip))
    (.seq (.seq (.reg none [
      ⟨(some 10), .fa 1 (.t 1), none⟩,
      ⟨(some 11), .load (some 64) (.t 10), none⟩,
      ⟨(some 12), .mov (.c (.int .i64 0)), none⟩] (some [1, 11, 12]) none)
    (.block 0 (.loop impl_ValidLayer_L0)))
    (.seq (.reg none [
      ⟨(some 2), .mov (.c (.bool true)), none⟩] (some [2]) none)
    .ret))))
def impl_ValidLayer_F : MF := ⟨22, [.t 2], impl_ValidLayer_M⟩
theorem impl_ValidLayer_ok : OkF Tryd.prog 24 impl_ValidLayer_F Tryd.f24 (bodyOf Tryd.f24) := ⟨Tryd.func24, by kernel_rfl, by kernel_rfl, by kernel_rfl, by kernel_rfl⟩
-- loop.example/g01312/impl.layerText
def impl_layerText_L0 : MC :=
  (.seq (.reg none [
      ⟨(some 16), .bin .lss (.t 15) (.c (.int .i64 64)), none⟩] (some [3, 14, 15, 16]) none)
    (.seq (.cond (.t 16) .skip
    (.exit 0))
    (.seq (.block 1 (.seq (.reg none [
      ⟨(some 17), .mov (.t 15), none⟩,
      ⟨(some 18), .ix 64 1 none (.t 14) (.t 15), none⟩,
      ⟨(some 4), .mov (.t 17), none⟩,
      ⟨(some 5), .mov (.t 18), none⟩] (some [3, 4, 5, 14, 15]) none)
    (.seq (.reg none [
      ⟨(some 19), .mov (.t 5), none⟩,
      ⟨(some 20), .bin .shr (.t 19) (.c (.int .u64 4)), none⟩,
      ⟨(some 21), .ixS (.c (.str ⟨[48, 49, 50, 51, 52, 53, 54, 55, 56, 57, 97, 98, 99, 100, 101, 102].toArray⟩)) (.t 20), none⟩,
      ⟨(some 22), .call 48 [(.t 3), (.t 21)], none⟩] (some [3, 4, 5, 14, 15]) none)
    (.seq (.reg none [
      ⟨(some 23), .mov (.t 5), none⟩,
      ⟨(some 24), .bin .and (.t 23) (.c (.int .u8 15)), none⟩,
      ⟨(some 25), .ixS (.c (.str ⟨[48, 49, 50, 51, 52, 53, 54, 55, 56, 57, 97, 98, 99, 100, 101, 102].toArray⟩)) (.t 24), none⟩,
      ⟨(some 26), .call 48 [(.t 3), (.t 25)], none⟩] (some [3, 4, 14, 15]) none)
    (.seq (.reg none [
      ⟨(some 27), .mov (.t 4), none⟩,
      ⟨(some 28), .bin .rem (.t 27) (.c (.int .i64 8)), none⟩,
      ⟨(some 29), .bin .eql (.t 28) (.c (.int .i64 7)), none⟩] (some [3, 14, 15, 29]) none)
    (.cond (.t 29) (.reg none [
      ⟨(some 30), .call 48 [(.t 3), (.c (.int .u8 10))], none⟩] (some [3, 14, 15]) none)
    .skip))))))
    (.reg none [
      ⟨(some 31), .bin .add (.t 15) (.c (.int .i64 1)), none⟩,
      ⟨(some 15), .mov (.t 31), none⟩] (some [3, 14, 15]) none))))
def impl_layerText_M : MC :=
  (.seq (.reg none [
      ⟨(some 1), .box (.t 0), none⟩,
      ⟨(some 2), .mov (.c (.str ⟨[].toArray⟩)), none⟩] (some [1]) none)
    (.seq (.reg none [
      ⟨(some 6), .bld [.nilptr, .nilsl] [], none⟩,
      ⟨(some 3), .new [.nilptr, .nilsl], none⟩,
      ⟨none, .store 2 (.t 3) (.t 6), none⟩] (some [1, 3]) none)
    (.seq (.reg none [
      ⟨(some 7), .fa 0 (.t 1), none⟩,
      ⟨(some 8), .load none (.t 7), none⟩,
      ⟨(some 9), .conv .i64 (.t 8), none⟩,
      ⟨(some 10), .call 47 [(.t 9)], none⟩,
      ⟨(some 11), .bin .add (.t 10) (.c (.str ⟨[10].toArray⟩)), none⟩,
      ⟨(some 12), .call 28 [(.t 3), (.t 11)], none⟩] (some [1, 3]) none)
    (.seq (.seq (.reg none [
      ⟨(some 13), .fa 1 (.t 1), none⟩,
      ⟨(some 14), .load (some 64) (.t 13), none⟩,
      ⟨(some 15), .mov (.c (.int .i64 0)), none⟩] (some [3, 14, 15]) none)
    (.block 0 (.loop impl_layerText_L0)))
    (.seq (.reg none [
      ⟨(some 32), .call 29 [(.t 3)], none⟩,
      ⟨(some 2), .mov (.t 32), none⟩] (some [2]) none)
    .ret)))))
def impl_layerText_F : MF := ⟨33, [.t 2], impl_layerText_M⟩
theorem impl_layerText_ok : OkF Tryd.prog 25 impl_layerText_F Tryd.f25 (bodyOf Tryd.f25) := ⟨Tryd.func25, by kernel_rfl, by kernel_rfl, by kernel_rfl, by kernel_rfl⟩
-- loop.example/g01312/spec.l01All
def spec_l01All_L0 : MC :=
  (.seq (.seq (.reg none [
      ⟨(some 4), .mov (.t 3), none⟩,
      ⟨(some 5), .mov (.t 0), none⟩,
      ⟨(some 6), .lenS (.t 5), none⟩,
      ⟨(some 7), .bin .lss (.t 4) (.t 6), none⟩] (some [0, 3, 7]) none)
    (.cond (.t 7) .skip
    (.exit 0)))
    (.seq (.block 1 (.seq (.reg none [
      ⟨(some 10), .mov (.t 0), none⟩,
      ⟨(some 11), .mov (.t 3), none⟩,
      ⟨(some 12), .iaS 65 (.t 10) (.t 11), none⟩,
      ⟨(some 13), .call 21 [(.t 12)], none⟩,
      ⟨(some 14), .un .not (.t 13), none⟩] (some [0, 3, 14]) none)
    (.cond (.t 14) (.seq (.reg none [
      ⟨(some 2), .mov (.c (.bool false)), none⟩] (some [2]) none)
    .ret)
    .skip)))
    (.reg none [
      ⟨(some 8), .mov (.t 3), none⟩,
      ⟨(some 9), .bin .add (.t 8) (.c (.int .i64 1)), none⟩,
      ⟨(some 3), .mov (.t 9), none⟩] (some [0, 3]) none)))
def spec_l01All_M : MC :=
  (.seq (.reg none [
      ⟨(some 2), .mov (.c (.bool false)), none⟩] (some [0]) none)
    (.seq (.seq (.reg none [
      ⟨(some 3), .mov (.c (.int .i64 0)), none⟩] (some [0, 3]) none)
    (.block 0 (.loop spec_l01All_L0)))
    (.seq (.reg none [
      ⟨(some 2), .mov (.c (.bool true)), none⟩] (some [2]) none)
    .ret)))
def spec_l01All_F : MF := ⟨15, [.t 2], spec_l01All_M⟩
theorem spec_l01All_ok : OkF Tryd.prog 26 spec_l01All_F Tryd.f26 (bodyOf Tryd.f26) := ⟨Tryd.func26, by kernel_rfl, by kernel_rfl, by kernel_rfl, by kernel_rfl⟩
-- loop.example/g01312/impl.areLayers
def impl_areLayers_L0 : MC :=
  (.seq (.reg none [
      ⟨(some 8), .bin .lss (.t 7) (.t 6), none⟩] (some [5, 6, 7, 8]) none)
    (.seq (.cond (.t 8) .skip
    (.exit 0))
    (.seq (.block 1 (.seq (.reg none [
      ⟨(some 9), .iaS 65 (.t 5) (.t 7), none⟩,
      ⟨(some 10), .load (some 65) (.t 9), none⟩,
      ⟨(some 4), .new (rl [(1, .int .i8 0), (64, .int .u8 0)]), none⟩,
      ⟨none, .store 65 (.t 4) (.t 10), none⟩] (some [4, 5, 6, 7]) none)
    (.seq (.reg none [
      ⟨(some 11), .load (some 65) (.t 4), none⟩,
      ⟨(some 12), .call 24 [(.t 11)], none⟩,
      ⟨(some 13), .un .not (.t 12), none⟩] (some [5, 6, 7, 13]) none)
    (.cond (.t 13) (.seq (.reg none [
      ⟨(some 2), .mov (.c (.bool false)), none⟩] (some [2]) none)
    .ret)
    .skip))))
    (.reg none [
      ⟨(some 14), .bin .add (.t 7) (.c (.int .i64 1)), none⟩,
      ⟨(some 7), .mov (.t 14), none⟩] (some [5, 6, 7]) (some 0)))))
def impl_areLayers_M : MC :=
  (.seq (.reg none [
      ⟨(some 2), .mov (.c (.bool false)), none⟩] (some [0]) none)
    (.seq (.seq (.reg none [
      ⟨(some 5), .mov (.t 0), none⟩,
      ⟨(some 6), .lenS (.t 5), none⟩,
      ⟨(some 7), .mov (.c (.int .i64 0)), none⟩] (some [5, 6, 7]) none)
    (.block 0 (.loop impl_areLayers_L0)))
    (.seq (.reg none [
      ⟨(some 2), .mov (.c (.bool true)), none⟩] (some [2]) none)
    .ret)))
def impl_areLayers_F : MF := ⟨15, [.t 2], impl_areLayers_M⟩
-- NOT COMPILED 28 (*strings.Builder).WriteString
-- NOT COMPILED 29 (*strings.Builder).String
theorem impl_areLayers_ok : OkF Tryd.prog 27 impl_areLayers_F Tryd.f27 (bodyOf Tryd.f27) := ⟨Tryd.func27, by kernel_rfl, by kernel_rfl, by kernel_rfl, by kernel_rfl⟩
-- loop.example/g01312/spec.l01Split
def spec_l01Split_L0 : MC :=
  (.seq (.seq (.reg none [
      ⟨(some 9), .mov (.t 7), none⟩,
      ⟨(some 10), .mov (.t 0), none⟩,
      ⟨(some 11), .lenStr (.t 10), none⟩,
      ⟨(some 12), .bin .lss (.t 9) (.t 11), none⟩] (some [0, 1, 5, 6, 7, 12]) none)
    (.cond (.t 12) .skip
    (.exit 0)))
    (.seq (.block 1 (.seq (.reg none [
      ⟨(some 15), .mov (.t 0), none⟩,
      ⟨(some 16), .mov (.t 7), none⟩,
      ⟨(some 17), .ixS (.t 15) (.t 16), none⟩,
      ⟨(some 18), .mov (.t 1), none⟩,
      ⟨(some 19), .bin .eql (.t 17) (.t 18), none⟩] (some [0, 1, 5, 6, 7, 19]) none)
    (.cond (.t 19) (.seq (.reg none [
      ⟨(some 20), .mov (.t 5), none⟩,
      ⟨(some 21), .mov (.t 0), none⟩,
      ⟨(some 22), .mov (.t 6), none⟩,
      ⟨(some 23), .mov (.t 7), none⟩,
      ⟨(some 24), .slStr (.t 21) (some (.t 22)) (some (.t 23)), none⟩,
      ⟨(some 25), .bldS [.str ⟨[].toArray⟩] 1 [(0, 1, (.t 24))], none⟩,
      ⟨(some 26), .app [.str ⟨[].toArray⟩] 16 false (.t 20) (.t 25), none⟩,
      ⟨(some 5), .mov (.t 26), none⟩] (some [0, 1, 5, 7]) none)
    (.reg none [
      ⟨(some 27), .mov (.t 7), none⟩,
      ⟨(some 28), .bin .add (.t 27) (.c (.int .i64 1)), none⟩,
      ⟨(some 6), .mov (.t 28), none⟩] (some [0, 1, 5, 6, 7]) none))
    .skip)))
    (.reg none [
      ⟨(some 13), .mov (.t 7), none⟩,
      ⟨(some 14), .bin .add (.t 13) (.c (.int .i64 1)), none⟩,
      ⟨(some 7), .mov (.t 14), none⟩] (some [0, 1, 5, 6, 7]) none)))
def spec_l01Split_M : MC :=
  (.seq (.reg none [
      ⟨(some 4), .mov (.c (.nilsl)), none⟩] (some [0, 1]) none)
    (.seq (.reg none [
      ⟨(some 8), .bldS [.str ⟨[].toArray⟩] 0 [], none⟩,
      ⟨(some 5), .mov (.t 8), none⟩] (some [0, 1, 5]) none)
    (.seq (.reg none [
      ⟨(some 6), .mov (.c (.int .i64 0)), none⟩] (some [0, 1, 5, 6]) none)
    (.seq (.seq (.reg none [
      ⟨(some 7), .mov (.c (.int .i64 0)), none⟩] (some [0, 1, 5, 6, 7]) none)
    (.block 0 (.loop spec_l01Split_L0)))
    (.seq (.reg none [
      ⟨(some 29), .mov (.t 5), none⟩,
      ⟨(some 30), .mov (.t 0), none⟩,
      ⟨(some 31), .mov (.t 6), none⟩,
      ⟨(some 32), .slStr (.t 30) (some (.t 31)) none, none⟩,
      ⟨(some 33), .bldS [.str ⟨[].toArray⟩] 1 [(0, 1, (.t 32))], none⟩,
      ⟨(some 34), .app [.str ⟨[].toArray⟩] 16 false (.t 29) (.t 33), none⟩,
      ⟨(some 4), .mov (.t 34), none⟩] (some [4]) none)
    .ret)))))
def spec_l01Split_F : MF := ⟨35, [.t 4], spec_l01Split_M⟩
theorem spec_l01Split_ok : OkF Tryd.prog 30 spec_l01Split_F Tryd.f30 (bodyOf Tryd.f30) := ⟨Tryd.func30, by kernel_rfl, by kernel_rfl, by kernel_rfl, by kernel_rfl⟩
-- loop.example/g01312/spec.l00In
def spec_l00In_M : MC :=
  (.seq (.reg none [
      ⟨(some 6), .mov (.c (.bool false)), none⟩] (some [0, 1, 2]) none)
    (.seq (.reg none [
      ⟨(some 7), .mov (.t 0), none⟩,
      ⟨(some 8), .mov (.t 1), none⟩,
      ⟨(some 9), .bin .geq (.t 7) (.t 8), none⟩,
      ⟨(some 10), .mov (.t 9), none⟩,
      ⟨(some 11), .mov (.t 0), some (10, true)⟩,
      ⟨(some 12), .mov (.t 2), some (10, true)⟩,
      ⟨(some 13), .bin .leq (.t 11) (.t 12), some (10, true)⟩,
      ⟨(some 14), .pick (.t 10) (.t 13) (.c (.bool false)), none⟩,
      ⟨(some 6), .mov (.t 14), none⟩] (some [6]) none)
    .ret))
def spec_l00In_F : MF := ⟨15, [.t 6], spec_l00In_M⟩
theorem spec_l00In_ok : OkF Tryd.prog 31 spec_l00In_F Tryd.f31 (bodyOf Tryd.f31) := ⟨Tryd.func31, by kernel_rfl, by kernel_rfl, by kernel_rfl, by kernel_rfl⟩
-- loop.example/g01312/spec.l01Parts
def spec_l01Parts_M : MC :=
  (.seq (.reg none [
      ⟨(some 2), .mov (.c (.bool false)), none⟩] (some [0]) none)
    (.seq (.reg none [
      ⟨(some 3), .mov (.t 0), none⟩,
      ⟨(some 4), .call 31 [(.t 3), (.c (.int .i64 1)), (.c (.int .i64 8))], none⟩,
      ⟨(some 2), .mov (.t 4), none⟩] (some [2]) none)
    .ret))
def spec_l01Parts_F : MF := ⟨5, [.t 2], spec_l01Parts_M⟩
theorem spec_l01Parts_ok : OkF Tryd.prog 32 spec_l01Parts_F Tryd.f32 (bodyOf Tryd.f32) := ⟨Tryd.func32, by kernel_rfl, by kernel_rfl, by kernel_rfl, by kernel_rfl⟩
-- loop.example/g01312/spec.l02Row
def spec_l02Row_L0 : MC :=
  (.seq (.seq (.reg none [
      ⟨(some 6), .mov (.t 5), none⟩,
      ⟨(some 7), .mov (.t 0), none⟩,
      ⟨(some 8), .lenStr (.t 7), none⟩,
      ⟨(some 9), .bin .lss (.t 6) (.t 8), none⟩] (some [0, 4, 5, 9]) none)
    (.cond (.t 9) .skip
    (.exit 0)))
    (.seq (.block 1 (.seq (.seq (.reg none [
      ⟨(some 12), .mov (.t 0), none⟩,
      ⟨(some 13), .mov (.t 5), none⟩,
      ⟨(some 14), .ixS (.t 12) (.t 13), none⟩,
      ⟨(some 15), .bin .neq (.t 14) (.c (.int .u8 35)), none⟩,
      ⟨(some 16), .mov (.t 15), none⟩,
      ⟨(some 17), .mov (.t 0), some (16, true)⟩,
      ⟨(some 18), .mov (.t 5), some (16, true)⟩,
      ⟨(some 19), .ixS (.t 17) (.t 18), some (16, true)⟩,
      ⟨(some 20), .bin .neq (.t 19) (.c (.int .u8 46)), some (16, true)⟩,
      ⟨(some 21), .pick (.t 16) (.t 20) (.c (.bool false)), none⟩] (some [0, 4, 5, 21]) none)
    (.cond (.t 21) (.seq (.reg none [
      ⟨(some 2), .mov (.c (.int .u8 0)), none⟩,
      ⟨(some 3), .mov (.c (.bool false)), none⟩] (some [2, 3]) none)
    .ret)
    .skip))
    (.seq (.reg none [
      ⟨(some 22), .mov (.t 0), none⟩,
      ⟨(some 23), .mov (.t 5), none⟩,
      ⟨(some 24), .ixS (.t 22) (.t 23), none⟩,
      ⟨(some 25), .bin .eql (.t 24) (.c (.int .u8 35)), none⟩] (some [0, 4, 5, 25]) none)
    (.cond (.t 25) (.reg none [
      ⟨(some 26), .mov (.t 4), none⟩,
      ⟨(some 27), .mov (.t 5), none⟩,
      ⟨(some 28), .conv .u64 (.t 27), none⟩,
      ⟨(some 29), .bin .shl (.c (.int .u8 1)) (.t 28), none⟩,
      ⟨(some 30), .bin .or (.t 26) (.t 29), none⟩,
      ⟨(some 4), .mov (.t 30), none⟩] (some [0, 4, 5]) none)
    .skip))))
    (.reg none [
      ⟨(some 10), .mov (.t 5), none⟩,
      ⟨(some 11), .bin .add (.t 10) (.c (.int .i64 1)), none⟩,
      ⟨(some 5), .mov (.t 11), none⟩] (some [0, 4, 5]) none)))
def spec_l02Row_M : MC :=
  (.seq (.reg none [
      ⟨(some 2), .mov (.c (.int .u8 0)), none⟩,
      ⟨(some 3), .mov (.c (.bool false)), none⟩] (some [0]) none)
    (.seq (.reg none [
      ⟨(some 4), .mov (.c (.int .u8 0)), none⟩] (some [0, 4]) none)
    (.seq (.seq (.reg none [
      ⟨(some 5), .mov (.c (.int .i64 0)), none⟩] (some [0, 4, 5]) none)
    (.block 0 (.loop spec_l02Row_L0)))
    (.seq (.reg none [
      ⟨(some 31), .mov (.t 4), none⟩,
      ⟨(some 2), .mov (.t 31), none⟩,
      ⟨(some 3), .mov (.c (.bool true)), none⟩] (some [2, 3]) none)
    .ret))))
def spec_l02Row_F : MF := ⟨32, [.t 2, .t 3], spec_l02Row_M⟩
theorem spec_l02Row_ok : OkF Tryd.prog 33 spec_l02Row_F Tryd.f33 (bodyOf Tryd.f33) := ⟨Tryd.func33, by kernel_rfl, by kernel_rfl, by kernel_rfl, by kernel_rfl⟩
-- strings.SplitN
def strings_SplitN_M : MC :=
  (.seq (.reg none [
      ⟨(some 6), .mov (.c (.nilsl)), none⟩] (some [0, 1, 2]) none)
    (.seq (.reg none [
      ⟨(some 7), .mov (.t 0), none⟩,
      ⟨(some 8), .mov (.t 1), none⟩,
      ⟨(some 9), .mov (.t 2), none⟩,
      ⟨(some 10), .call 50 [(.t 7), (.t 8), (.c (.int .i64 0)), (.t 9)], none⟩,
      ⟨(some 6), .mov (.t 10), none⟩] (some [6]) none)
    .ret))
def strings_SplitN_F : MF := ⟨11, [.t 6], strings_SplitN_M⟩
theorem strings_SplitN_ok : OkF Tryd.prog 34 strings_SplitN_F Tryd.f34 (bodyOf Tryd.f34) := ⟨Tryd.func34, by kernel_rfl, by kernel_rfl, by kernel_rfl, by kernel_rfl⟩
-- strings.Cut
def strings_Cut_M : MC :=
  (.seq (.reg none [
      ⟨(some 4), .mov (.c (.str ⟨[].toArray⟩)), none⟩,
      ⟨(some 5), .mov (.c (.str ⟨[].toArray⟩)), none⟩,
      ⟨(some 6), .mov (.c (.bool false)), none⟩] (some [0, 1]) none)
    (.seq (.reg none [
      ⟨(some 7), .mov (.t 0), none⟩,
      ⟨(some 8), .mov (.t 1), none⟩,
      ⟨(some 9), .call 51 [(.t 7), (.t 8)], none⟩,
      ⟨(some 10), .ext (.t 9) 0, none⟩,
      ⟨(some 11), .ext (.t 9) 1, none⟩,
      ⟨(some 12), .ext (.t 9) 2, none⟩,
      ⟨(some 4), .mov (.t 10), none⟩,
      ⟨(some 5), .mov (.t 11), none⟩,
      ⟨(some 6), .mov (.t 12), none⟩] (some [4, 5, 6]) none)
    .ret))
def strings_Cut_F : MF := ⟨13, [.t 4, .t 5, .t 6], strings_Cut_M⟩
theorem strings_Cut_ok : OkF Tryd.prog 35 strings_Cut_F Tryd.f35 (bodyOf Tryd.f35) := ⟨Tryd.func35, by kernel_rfl, by kernel_rfl, by kernel_rfl, by kernel_rfl⟩
-- loop.example/g01312/impl.readRow
def impl_readRow_L0 : MC :=
  (.seq (.reg none [
      ⟨(some 9), .bin .lss (.t 8) (.t 7), none⟩] (some [0, 3, 7, 8, 9]) none)
    (.seq (.cond (.t 9) .skip
    (.exit 0))
    (.seq (.block 1 (.seq (.reg none [
      ⟨(some 10), .mov (.t 8), none⟩,
      ⟨(some 4), .mov (.t 10), none⟩] (some [0, 3, 4, 7, 8]) none)
    (.seq (.reg none [
      ⟨(some 11), .mov (.t 0), none⟩,
      ⟨(some 12), .mov (.t 4), none⟩,
      ⟨(some 13), .ixS (.t 11) (.t 12), none⟩,
      ⟨(some 14), .bin .eql (.t 13) (.c (.int .u8 35)), none⟩] (some [0, 3, 4, 7, 8, 14]) none)
    (.cond (.t 14) (.reg none [
      ⟨(some 15), .mov (.t 3), none⟩,
      ⟨(some 16), .mov (.t 4), none⟩,
      ⟨(some 17), .bin .shl (.c (.int .u8 1)) (.t 16), none⟩,
      ⟨(some 18), .bin .or (.t 15) (.t 17), none⟩,
      ⟨(some 3), .mov (.t 18), none⟩] (some [0, 3, 7, 8]) none)
    .skip))))
    (.reg none [
      ⟨(some 19), .bin .add (.t 8) (.c (.int .i64 1)), none⟩,
      ⟨(some 8), .mov (.t 19), none⟩] (some [0, 3, 7, 8]) none))))
def impl_readRow_M : MC :=
  (.seq (.reg none [
      ⟨(some 2), .mov (.c (.int .u8 0)), none⟩] (some [0]) none)
    (.seq (.reg none [
      ⟨(some 3), .mov (.c (.int .u8 0)), none⟩] (some [0, 3]) none)
    (.seq (.seq (.reg none [
      ⟨(some 5), .mov (.t 0), none⟩,
      ⟨(some 6), .lenStr (.t 5), none⟩,
      ⟨(some 7), .mm false (.t 6) [(.c (.int .i64 8))], none⟩,
      ⟨(some 8), .mov (.c (.int .i64 0)), none⟩] (some [0, 3, 7, 8]) none)
    (.block 0 (.loop impl_readRow_L0)))
    (.seq (.reg none [
      ⟨(some 20), .mov (.t 3), none⟩,
      ⟨(some 2), .mov (.t 20), none⟩] (some [2]) none)
    .ret))))
def impl_readRow_F : MF := ⟨21, [.t 2], impl_readRow_M⟩
theorem impl_readRow_ok : OkF Tryd.prog 36 impl_readRow_F Tryd.f36 (bodyOf Tryd.f36) := ⟨Tryd.func36, by kernel_rfl, by kernel_rfl, by kernel_rfl, by kernel_rfl⟩
-- loop.example/g01312/impl.ValidScheme
def impl_ValidScheme_L0 : MC :=
  (.seq (.reg none [
      ⟨(some 18), .bin .lss (.t 17) (.c (.int .i64 6)), none⟩] (some [1, 17, 18]) none)
    (.seq (.cond (.t 18) .skip
    (.exit 0))
    (.seq (.block 1 (.seq (.reg none [
      ⟨(some 19), .mov (.t 17), none⟩,
      ⟨(some 3), .mov (.t 19), none⟩] (some [1, 3, 17]) none)
    (.seq (.reg (some []) [
      ⟨(some 20), .mov (.t 3), none⟩,
      ⟨(some 21), .fa 2 (.t 1), none⟩,
      ⟨(some 22), .iaA 6 1 (.t 21) (.t 20), none⟩,
      ⟨(some 23), .load none (.t 22), none⟩,
      ⟨(some 24), .mov (.t 3), none⟩,
      ⟨(some 25), .fa 8 (.t 1), none⟩,
      ⟨(some 26), .iaA 6 1 (.t 25) (.t 24), none⟩,
      ⟨(some 27), .load none (.t 26), none⟩,
      ⟨(some 28), .bin .or (.t 23) (.t 27), none⟩,
      ⟨(some 4), .mov (.t 28), none⟩] (some [1, 3, 4, 17]) none)
    (.seq (.reg none [
      ⟨(some 29), .mov (.t 4), none⟩,
      ⟨(some 30), .fa 1 (.t 1), none⟩,
      ⟨(some 31), .load none (.t 30), none⟩,
      ⟨(some 32), .call 46 [(.t 31)], none⟩,
      ⟨(some 33), .bin .andNot (.t 29) (.t 32), none⟩,
      ⟨(some 34), .bin .neq (.t 33) (.c (.int .u8 0)), none⟩,
      ⟨(some 35), .mov (.t 34), none⟩,
      ⟨(some 36), .mov (.t 3), some (35, false)⟩,
      ⟨(some 37), .fa 0 (.t 1), some (35, false)⟩,
      ⟨(some 38), .load none (.t 37), some (35, false)⟩,
      ⟨(some 39), .conv .i64 (.t 38), some (35, false)⟩,
      ⟨(some 40), .bin .geq (.t 36) (.t 39), some (35, false)⟩,
      ⟨(some 41), .mov (.t 40), some (35, false)⟩,
      ⟨(some 42), .mov (.t 4), some (41, true)⟩,
      ⟨(some 43), .bin .neq (.t 42) (.c (.int .u8 0)), some (41, true)⟩,
      ⟨(some 44), .pick (.t 41) (.t 43) (.c (.bool false)), some (35, false)⟩,
      ⟨(some 45), .pick (.t 35) (.c (.bool true)) (.t 44), none⟩] (some [1, 17, 45]) none)
    (.cond (.t 45) (.seq (.reg none [
      ⟨(some 2), .mov (.c (.bool false)), none⟩] (some [2]) none)
    .ret)
    .skip)))))
    (.reg none [
      ⟨(some 46), .bin .add (.t 17) (.c (.int .i64 1)), none⟩,
      ⟨(some 17), .mov (.t 46), none⟩] (some [1, 17]) none))))
def impl_ValidScheme_M : MC :=
  (.seq (.reg none [
      ⟨(some 1), .box (.t 0), none⟩,
      ⟨(some 2), .mov (.c (.bool false)), none⟩] (some [1]) none)
    (.seq (.seq (.reg none [
      ⟨(some 5), .fa 0 (.t 1), none⟩,
      ⟨(some 6), .load none (.t 5), none⟩,
      ⟨(some 7), .conv .i64 (.t 6), none⟩,
      ⟨(some 8), .call 52 [(.t 7), (.c (.int .i64 1)), (.c (.int .i64 6))], none⟩,
      ⟨(some 9), .un .not (.t 8), none⟩,
      ⟨(some 10), .mov (.t 9), none⟩,
      ⟨(some 11), .fa 1 (.t 1), some (10, false)⟩,
      ⟨(some 12), .load none (.t 11), some (10, false)⟩,
      ⟨(some 13), .conv .i64 (.t 12), some (10, false)⟩,
      ⟨(some 14), .call 45 [(.t 13)], some (10, false)⟩,
      ⟨(some 15), .un .not (.t 14), some (10, false)⟩,
      ⟨(some 16), .pick (.t 10) (.c (.bool true)) (.t 15), none⟩] (some [1, 16]) none)
    (.cond (.t 16) (.seq (.reg none [
      ⟨(some 2), .mov (.c (.bool false)), none⟩] (some [2]) none)
    .ret)
    .skip))
    (.seq (.seq (.reg none [
      ⟨(some 17), .mov (.c (.int .i64 0)), none⟩] (some [1, 17]) none)
    (.block 0 (.loop impl_ValidScheme_L0)))
    (.seq (.reg none [
      ⟨(some 2), .mov (.c (.bool true)), none⟩] (some [2]) none)
    .ret))))
def impl_ValidScheme_F : MF := ⟨47, [.t 2], impl_ValidScheme_M⟩
theorem impl_ValidScheme_ok : OkF Tryd.prog 37 impl_ValidScheme_F Tryd.f37 (bodyOf Tryd.f37) := ⟨Tryd.func37, by kernel_rfl, by kernel_rfl, by kernel_rfl, by kernel_rfl⟩
-- loop.example/g01312/impl.schemeText
def impl_schemeText_L0 : MC :=
  (.seq (.reg none [
      ⟨(some 12), .bin .lss (.t 11) (.t 10), none⟩] (some [1, 3, 4, 10, 11, 12]) none)
    (.seq (.cond (.t 12) .skip
    (.exit 0))
    (.seq (.block 1 (.seq (.reg none [
      ⟨(some 13), .mov (.t 11), none⟩,
      ⟨(some 5), .mov (.t 13), none⟩] (some [1, 3, 4, 5, 10, 11]) none)
    (.seq (.reg none [
      ⟨(some 14), .mov (.t 4), none⟩,
      ⟨(some 15), .mov (.t 5), none⟩,
      ⟨(some 16), .fa 2 (.t 1), none⟩,
      ⟨(some 17), .iaA 6 1 (.t 16) (.t 15), none⟩,
      ⟨(some 18), .load none (.t 17), none⟩,
      ⟨(some 19), .callv (.t 14) [(.t 18)], none⟩] (some [1, 3, 4, 5, 10, 11]) none)
    (.seq (.reg none [
      ⟨(some 20), .call 48 [(.t 3), (.c (.int .u8 32))], none⟩] (some [1, 3, 4, 5, 10, 11]) none)
    (.seq (.reg none [
      ⟨(some 21), .mov (.t 4), none⟩,
      ⟨(some 22), .mov (.t 5), none⟩,
      ⟨(some 23), .fa 8 (.t 1), none⟩,
      ⟨(some 24), .iaA 6 1 (.t 23) (.t 22), none⟩,
      ⟨(some 25), .load none (.t 24), none⟩,
      ⟨(some 26), .callv (.t 21) [(.t 25)], none⟩] (some [1, 3, 4, 10, 11]) none)
    (.reg none [
      ⟨(some 27), .call 48 [(.t 3), (.c (.int .u8 10))], none⟩] (some [1, 3, 4, 10, 11]) none))))))
    (.reg none [
      ⟨(some 28), .bin .add (.t 11) (.c (.int .i64 1)), none⟩,
      ⟨(some 11), .mov (.t 28), none⟩] (some [1, 3, 4, 10, 11]) none))))
def impl_schemeText_M : MC :=
  (.seq (.reg none [
      ⟨(some 1), .box (.t 0), none⟩,
      ⟨(some 2), .mov (.c (.str ⟨[].toArray⟩)), none⟩] (some [1]) none)
    (.seq (.reg none [
      ⟨(some 6), .bld [.nilptr, .nilsl] [], none⟩,
      ⟨(some 3), .new [.nilptr, .nilsl], none⟩,
      ⟨none, .store 2 (.t 3) (.t 6), none⟩] (some [1, 3]) none)
    (.seq (.reg none [
      ⟨(some 7), .mkf 53 [] [(.t 1), (.t 3)], none⟩,
      ⟨(some 4), .mov (.t 7), none⟩] (some [1, 3, 4]) none)
    (.seq (.seq (.reg none [
      ⟨(some 8), .fa 0 (.t 1), none⟩,
      ⟨(some 9), .load none (.t 8), none⟩,
      ⟨(some 10), .conv .i64 (.t 9), none⟩,
      ⟨(some 11), .mov (.c (.int .i64 0)), none⟩] (some [1, 3, 4, 10, 11]) none)
    (.block 0 (.loop impl_schemeText_L0)))
    (.seq (.reg none [
      ⟨(some 29), .call 29 [(.t 3)], none⟩,
      ⟨(some 2), .mov (.t 29), none⟩] (some [2]) none)
    .ret)))))
def impl_schemeText_F : MF := ⟨30, [.t 2], impl_schemeText_M⟩
theorem impl_schemeText_ok : OkF Tryd.prog 38 impl_schemeText_F Tryd.f38 (bodyOf Tryd.f38) := ⟨Tryd.func38, by kernel_rfl, by kernel_rfl, by kernel_rfl, by kernel_rfl⟩
-- loop.example/g01312/laws.eqByteA6
def laws_eqByteA6_L0 : MC :=
  (.seq (.seq (.reg none [
      ⟨(some 6), .mov (.t 5), none⟩,
      ⟨(some 7), .bin .lss (.t 6) (.c (.int .i64 6)), none⟩] (some [2, 3, 5, 7]) none)
    (.cond (.t 7) .skip
    (.exit 0)))
    (.seq (.block 1 (.seq (.reg (some []) [
      ⟨(some 10), .mov (.t 5), none⟩,
      ⟨(some 11), .iaA 6 1 (.t 2) (.t 10), none⟩,
      ⟨(some 12), .load none (.t 11), none⟩,
      ⟨(some 13), .mov (.t 5), none⟩,
      ⟨(some 14), .iaA 6 1 (.t 3) (.t 13), none⟩,
      ⟨(some 15), .load none (.t 14), none⟩,
      ⟨(some 16), .bin .neq (.t 12) (.t 15), none⟩] (some [2, 3, 5, 16]) none)
    (.cond (.t 16) (.seq (.reg none [
      ⟨(some 4), .mov (.c (.bool false)), none⟩] (some [4]) none)
    .ret)
    .skip)))
    (.reg none [
      ⟨(some 8), .mov (.t 5), none⟩,
      ⟨(some 9), .bin .add (.t 8) (.c (.int .i64 1)), none⟩,
      ⟨(some 5), .mov (.t 9), none⟩] (some [2, 3, 5]) none)))
def laws_eqByteA6_M : MC :=
  (.seq (.reg none [
      ⟨(some 2), .box (.t 0), none⟩,
      ⟨(some 3), .box (.t 1), none⟩,
      ⟨(some 4), .mov (.c (.bool false)), none⟩] (some [2, 3]) none)
    (.seq (.seq (.reg none [
      ⟨(some 5), .mov (.c (.int .i64 0)), none⟩] (some [2, 3, 5]) none)
    (.block 0 (.loop laws_eqByteA6_L0)))
    (.seq (.reg none [
      ⟨(some 4), .mov (.c (.bool true)), none⟩] (some [4]) none)
    .ret)))
def laws_eqByteA6_F : MF := ⟨17, [.t 4], laws_eqByteA6_M⟩
theorem laws_eqByteA6_ok : OkF Tryd.prog 39 laws_eqByteA6_F Tryd.f39 (bodyOf Tryd.f39) := ⟨Tryd.func39, by kernel_rfl, by kernel_rfl, by kernel_rfl, by kernel_rfl⟩
-- loop.example/g01312/spec.l01Number
def spec_l01Number_L0 : MC :=
  (.seq (.seq (.reg none [
      ⟨(some 23), .mov (.t 5), none⟩,
      ⟨(some 24), .mov (.t 0), none⟩,
      ⟨(some 25), .lenStr (.t 24), none⟩,
      ⟨(some 26), .bin .lss (.t 23) (.t 25), none⟩] (some [0, 4, 5, 26]) none)
    (.cond (.t 26) .skip
    (.exit 0)))
    (.seq (.block 1 (.seq (.seq (.reg none [
      ⟨(some 29), .mov (.t 0), none⟩,
      ⟨(some 30), .mov (.t 5), none⟩,
      ⟨(some 31), .ixS (.t 29) (.t 30), none⟩,
      ⟨(some 32), .bin .lss (.t 31) (.c (.int .u8 48)), none⟩,
      ⟨(some 33), .mov (.t 32), none⟩,
      ⟨(some 34), .mov (.t 0), some (33, false)⟩,
      ⟨(some 35), .mov (.t 5), some (33, false)⟩,
      ⟨(some 36), .ixS (.t 34) (.t 35), some (33, false)⟩,
      ⟨(some 37), .bin .gtr (.t 36) (.c (.int .u8 57)), some (33, false)⟩,
      ⟨(some 38), .pick (.t 33) (.c (.bool true)) (.t 37), none⟩] (some [0, 4, 5, 38]) none)
    (.cond (.t 38) (.seq (.reg none [
      ⟨(some 2), .mov (.c (.int .i64 0)), none⟩,
      ⟨(some 3), .mov (.c (.bool false)), none⟩] (some [2, 3]) none)
    .ret)
    .skip))
    (.reg none [
      ⟨(some 39), .mov (.t 4), none⟩,
      ⟨(some 40), .bin .mul (.c (.int .i64 10)) (.t 39), none⟩,
      ⟨(some 41), .mov (.t 0), none⟩,
      ⟨(some 42), .mov (.t 5), none⟩,
      ⟨(some 43), .ixS (.t 41) (.t 42), none⟩,
      ⟨(some 44), .bin .sub (.t 43) (.c (.int .u8 48)), none⟩,
      ⟨(some 45), .conv .i64 (.t 44), none⟩,
      ⟨(some 46), .bin .add (.t 40) (.t 45), none⟩,
      ⟨(some 4), .mov (.t 46), none⟩] (some [0, 4, 5]) none)))
    (.reg none [
      ⟨(some 27), .mov (.t 5), none⟩,
      ⟨(some 28), .bin .add (.t 27) (.c (.int .i64 1)), none⟩,
      ⟨(some 5), .mov (.t 28), none⟩] (some [0, 4, 5]) none)))
def spec_l01Number_M : MC :=
  (.seq (.reg none [
      ⟨(some 2), .mov (.c (.int .i64 0)), none⟩,
      ⟨(some 3), .mov (.c (.bool false)), none⟩] (some [0]) none)
    (.seq (.seq (.reg none [
      ⟨(some 6), .mov (.t 0), none⟩,
      ⟨(some 7), .bin .eql (.t 6) (.c (.str ⟨[].toArray⟩)), none⟩,
      ⟨(some 8), .mov (.t 7), none⟩,
      ⟨(some 9), .mov (.t 0), some (8, false)⟩,
      ⟨(some 10), .lenStr (.t 9), some (8, false)⟩,
      ⟨(some 11), .bin .gtr (.t 10) (.c (.int .i64 9)), some (8, false)⟩,
      ⟨(some 12), .pick (.t 8) (.c (.bool true)) (.t 11), none⟩,
      ⟨(some 13), .mov (.t 12), none⟩,
      ⟨(some 14), .mov (.t 0), some (13, false)⟩,
      ⟨(some 15), .ixS (.t 14) (.c (.int .i64 0)), some (13, false)⟩,
      ⟨(some 16), .bin .eql (.t 15) (.c (.int .u8 48)), some (13, false)⟩,
      ⟨(some 17), .mov (.t 16), some (13, false)⟩,
      ⟨(some 18), .mov (.t 0), some (17, true)⟩,
      ⟨(some 19), .lenStr (.t 18), some (17, true)⟩,
      ⟨(some 20), .bin .gtr (.t 19) (.c (.int .i64 1)), some (17, true)⟩,
      ⟨(some 21), .pick (.t 17) (.t 20) (.c (.bool false)), some (13, false)⟩,
      ⟨(some 22), .pick (.t 13) (.c (.bool true)) (.t 21), none⟩] (some [0, 22]) none)
    (.cond (.t 22) (.seq (.reg none [
      ⟨(some 2), .mov (.c (.int .i64 0)), none⟩,
      ⟨(some 3), .mov (.c (.bool false)), none⟩] (some [2, 3]) none)
    .ret)
    .skip))
    (.seq (.reg none [
      ⟨(some 4), .mov (.c (.int .i64 0)), none⟩] (some [0, 4]) none)
    (.seq (.seq (.reg none [
      ⟨(some 5), .mov (.c (.int .i64 0)), none⟩] (some [0, 4, 5]) none)
    (.block 0 (.loop spec_l01Number_L0)))
    (.seq (.reg none [
      ⟨(some 47), .mov (.t 4), none⟩,
      ⟨(some 2), .mov (.t 47), none⟩,
      ⟨(some 3), .mov (.c (.bool true)), none⟩] (some [2, 3]) none)
    .ret)))))
def spec_l01Number_F : MF := ⟨48, [.t 2, .t 3], spec_l01Number_M⟩
theorem spec_l01Number_ok : OkF Tryd.prog 40 spec_l01Number_F Tryd.f40 (bodyOf Tryd.f40) := ⟨Tryd.func40, by kernel_rfl, by kernel_rfl, by kernel_rfl, by kernel_rfl⟩
-- loop.example/g01312/spec.l01Hex
def spec_l01Hex_M : MC :=
  (.seq (.reg none [
      ⟨(some 2), .mov (.c (.int .i64 0)), none⟩] (some [0]) none)
    (.seq (.block 0 (.seq (.reg none [
      ⟨(some 4), .mov (.t 0), none⟩,
      ⟨(some 5), .bin .geq (.t 4) (.c (.int .u8 48)), none⟩,
      ⟨(some 6), .mov (.t 5), none⟩,
      ⟨(some 7), .mov (.t 0), some (6, true)⟩,
      ⟨(some 8), .bin .leq (.t 7) (.c (.int .u8 57)), some (6, true)⟩,
      ⟨(some 9), .pick (.t 6) (.t 8) (.c (.bool false)), none⟩,
      ⟨(some 3), .mov (.t 9), none⟩] (some [0, 3]) none)
    (.cond (.t 3) (.seq (.reg none [
      ⟨(some 10), .mov (.t 0), none⟩,
      ⟨(some 11), .bin .sub (.t 10) (.c (.int .u8 48)), none⟩,
      ⟨(some 12), .conv .i64 (.t 11), none⟩,
      ⟨(some 2), .mov (.t 12), none⟩] (some [2]) none)
    .ret)
    (.seq (.reg none [
      ⟨(some 14), .mov (.t 0), none⟩,
      ⟨(some 15), .bin .geq (.t 14) (.c (.int .u8 97)), none⟩,
      ⟨(some 16), .mov (.t 15), none⟩,
      ⟨(some 17), .mov (.t 0), some (16, true)⟩,
      ⟨(some 18), .bin .leq (.t 17) (.c (.int .u8 102)), some (16, true)⟩,
      ⟨(some 19), .pick (.t 16) (.t 18) (.c (.bool false)), none⟩,
      ⟨(some 13), .mov (.t 19), none⟩] (some [0, 13]) none)
    (.cond (.t 13) (.seq (.reg none [
      ⟨(some 20), .mov (.t 0), none⟩,
      ⟨(some 21), .bin .sub (.t 20) (.c (.int .u8 97)), none⟩,
      ⟨(some 22), .conv .i64 (.t 21), none⟩,
      ⟨(some 23), .bin .add (.t 22) (.c (.int .i64 10)), none⟩,
      ⟨(some 2), .mov (.t 23), none⟩] (some [2]) none)
    .ret)
    .skip)))))
    (.seq (.reg none [
      ⟨(some 2), .mov (.c (.int .i64 (-1))), none⟩] (some [2]) none)
    .ret)))
def spec_l01Hex_F : MF := ⟨24, [.t 2], spec_l01Hex_M⟩
-- NOT COMPILED 42 strconv.ParseUint
theorem spec_l01Hex_ok : OkF Tryd.prog 41 spec_l01Hex_F Tryd.f41 (bodyOf Tryd.f41) := ⟨Tryd.func41, by kernel_rfl, by kernel_rfl, by kernel_rfl, by kernel_rfl⟩
-- loop.example/g01312/laws.eqByteA64
def laws_eqByteA64_L0 : MC :=
  (.seq (.seq (.reg none [
      ⟨(some 6), .mov (.t 5), none⟩,
      ⟨(some 7), .bin .lss (.t 6) (.c (.int .i64 64)), none⟩] (some [2, 3, 5, 7]) none)
    (.cond (.t 7) .skip
    (.exit 0)))
    (.seq (.block 1 (.seq (.reg (some []) [
      ⟨(some 10), .mov (.t 5), none⟩,
      ⟨(some 11), .iaA 64 1 (.t 2) (.t 10), none⟩,
      ⟨(some 12), .load none (.t 11), none⟩,
      ⟨(some 13), .mov (.t 5), none⟩,
      ⟨(some 14), .iaA 64 1 (.t 3) (.t 13), none⟩,
      ⟨(some 15), .load none (.t 14), none⟩,
      ⟨(some 16), .bin .neq (.t 12) (.t 15), none⟩] (some [2, 3, 5, 16]) none)
    (.cond (.t 16) (.seq (.reg none [
      ⟨(some 4), .mov (.c (.bool false)), none⟩] (some [4]) none)
    .ret)
    .skip)))
    (.reg none [
      ⟨(some 8), .mov (.t 5), none⟩,
      ⟨(some 9), .bin .add (.t 8) (.c (.int .i64 1)), none⟩,
      ⟨(some 5), .mov (.t 9), none⟩] (some [2, 3, 5]) none)))
def laws_eqByteA64_M : MC :=
  (.seq (.reg none [
      ⟨(some 2), .box (.t 0), none⟩,
      ⟨(some 3), .box (.t 1), none⟩,
      ⟨(some 4), .mov (.c (.bool false)), none⟩] (some [2, 3]) none)
    (.seq (.seq (.reg none [
      ⟨(some 5), .mov (.c (.int .i64 0)), none⟩] (some [2, 3, 5]) none)
    (.block 0 (.loop laws_eqByteA64_L0)))
    (.seq (.reg none [
      ⟨(some 4), .mov (.c (.bool true)), none⟩] (some [4]) none)
    .ret)))
def laws_eqByteA64_F : MF := ⟨17, [.t 4], laws_eqByteA64_M⟩
theorem laws_eqByteA64_ok : OkF Tryd.prog 43 laws_eqByteA64_F Tryd.f43 (bodyOf Tryd.f43) := ⟨Tryd.func43, by kernel_rfl, by kernel_rfl, by kernel_rfl, by kernel_rfl⟩
-- loop.example/g01312/spec.Decimal
def spec_Decimal_M : MC :=
  (.seq (.reg none [
      ⟨(some 2), .mov (.c (.str ⟨[].toArray⟩)), none⟩] (some [0]) none)
    (.seq (.seq (.reg none [
      ⟨(some 3), .mov (.t 0), none⟩,
      ⟨(some 4), .bin .lss (.t 3) (.c (.int .i64 10)), none⟩] (some [0, 4]) none)
    (.cond (.t 4) (.seq (.reg none [
      ⟨(some 5), .mov (.t 0), none⟩,
      ⟨(some 6), .bin .rem (.t 5) (.c (.int .i64 10)), none⟩,
      ⟨(some 7), .bin .add (.c (.int .i64 48)) (.t 6), none⟩,
      ⟨(some 8), .conv .u8 (.t 7), none⟩,
      ⟨(some 9), .bldS [.int .u8 0] 1 [(0, 1, (.t 8))], none⟩,
      ⟨(some 10), .toStr (.t 9), none⟩,
      ⟨(some 2), .mov (.t 10), none⟩] (some [2]) none)
    .ret)
    .skip))
    (.seq (.reg (some [(2, 7), (2, 8)]) [
      ⟨(some 11), .mov (.t 0), none⟩,
      ⟨(some 12), .bin .quo (.t 11) (.c (.int .i64 10)), none⟩,
      ⟨(some 13), .call 44 [(.t 12)], none⟩,
      ⟨(some 14), .mov (.t 0), none⟩,
      ⟨(some 15), .bin .rem (.t 14) (.c (.int .i64 10)), none⟩,
      ⟨(some 16), .bin .add (.c (.int .i64 48)) (.t 15), none⟩,
      ⟨(some 17), .conv .u8 (.t 16), none⟩,
      ⟨(some 18), .bldS [.int .u8 0] 1 [(0, 1, (.t 17))], none⟩,
      ⟨(some 19), .toStr (.t 18), none⟩,
      ⟨(some 20), .bin .add (.t 13) (.t 19), none⟩,
      ⟨(some 2), .mov (.t 20), none⟩] (some [2]) none)
    .ret)))
def spec_Decimal_F : MF := ⟨21, [.t 2], spec_Decimal_M⟩
theorem spec_Decimal_ok : OkF Tryd.prog 44 spec_Decimal_F Tryd.f44 (bodyOf Tryd.f44) := ⟨Tryd.func44, by kernel_rfl, by kernel_rfl, by kernel_rfl, by kernel_rfl⟩
-- loop.example/g01312/impl.isParts
def impl_isParts_M : MC :=
  (.seq (.reg none [
      ⟨(some 2), .mov (.c (.bool false)), none⟩] (some [0]) none)
    (.seq (.reg none [
      ⟨(some 3), .mov (.t 0), none⟩,
      ⟨(some 4), .call 52 [(.t 3), (.c (.int .i64 1)), (.c (.int .i64 8))], none⟩,
      ⟨(some 2), .mov (.t 4), none⟩] (some [2]) none)
    .ret))
def impl_isParts_F : MF := ⟨5, [.t 2], impl_isParts_M⟩
theorem impl_isParts_ok : OkF Tryd.prog 45 impl_isParts_F Tryd.f45 (bodyOf Tryd.f45) := ⟨Tryd.func45, by kernel_rfl, by kernel_rfl, by kernel_rfl, by kernel_rfl⟩
-- loop.example/g01312/impl.mask
def impl_mask_M : MC :=
  (.seq (.reg none [
      ⟨(some 2), .mov (.c (.int .u8 0)), none⟩] (some [0]) none)
    (.seq (.reg none [
      ⟨(some 3), .mov (.t 0), none⟩,
      ⟨(some 4), .bin .shl (.c (.int .u8 1)) (.t 3), none⟩,
      ⟨(some 5), .bin .sub (.t 4) (.c (.int .u8 1)), none⟩,
      ⟨(some 2), .mov (.t 5), none⟩] (some [2]) none)
    .ret))
def impl_mask_F : MF := ⟨6, [.t 2], impl_mask_M⟩
theorem impl_mask_ok : OkF Tryd.prog 46 impl_mask_F Tryd.f46 (bodyOf Tryd.f46) := ⟨Tryd.func46, by kernel_rfl, by kernel_rfl, by kernel_rfl, by kernel_rfl⟩
-- strconv.Itoa
def strconv_Itoa_M : MC :=
  (.seq (.reg none [
      ⟨(some 2), .mov (.c (.str ⟨[].toArray⟩)), none⟩] (some [0]) none)
    (.seq (.reg none [
      ⟨(some 3), .mov (.t 0), none⟩,
      ⟨(some 4), .call 57 [(.t 3)], none⟩,
      ⟨(some 2), .mov (.t 4), none⟩] (some [2]) none)
    .ret))
def strconv_Itoa_F : MF := ⟨5, [.t 2], strconv_Itoa_M⟩
-- NOT COMPILED 48 (*strings.Builder).WriteByte
-- NOT COMPILED 49 (*strings.Builder).copyCheck
theorem strconv_Itoa_ok : OkF Tryd.prog 47 strconv_Itoa_F Tryd.f47 (bodyOf Tryd.f47) := ⟨Tryd.func47, by kernel_rfl, by kernel_rfl, by kernel_rfl, by kernel_rfl⟩
-- strings.genSplit
def strings_genSplit_L0 : MC :=
  (.seq (.seq (.reg none [
      ⟨(some 34), .mov (.t 10), none⟩,
      ⟨(some 35), .mov (.t 3), none⟩,
      ⟨(some 36), .bin .lss (.t 34) (.t 35), none⟩] (some [0, 1, 2, 3, 9, 10, 36]) none)
    (.cond (.t 36) .skip
    (.exit 0)))
    (.block 1 (.seq (.reg none [
      ⟨(some 37), .mov (.t 0), none⟩,
      ⟨(some 38), .mov (.t 1), none⟩,
      ⟨(some 39), .call 61 [(.t 37), (.t 38)], none⟩,
      ⟨(some 11), .mov (.t 39), none⟩] (some [0, 1, 2, 3, 9, 10, 11]) none)
    (.seq (.seq (.reg none [
      ⟨(some 40), .mov (.t 11), none⟩,
      ⟨(some 41), .bin .lss (.t 40) (.c (.int .i64 0)), none⟩] (some [0, 1, 2, 3, 9, 10, 11, 41]) none)
    (.cond (.t 41) (.exit 0)
    .skip))
    (.seq (.reg none [
      ⟨(some 42), .mov (.t 9), none⟩,
      ⟨(some 43), .mov (.t 10), none⟩,
      ⟨(some 44), .mov (.t 0), none⟩,
      ⟨(some 45), .mov (.t 11), none⟩,
      ⟨(some 46), .mov (.t 2), none⟩,
      ⟨(some 47), .bin .add (.t 45) (.t 46), none⟩,
      ⟨(some 48), .slStr (.t 44) none (some (.t 47)), none⟩,
      ⟨(some 49), .iaS 1 (.t 42) (.t 43), none⟩,
      ⟨none, .store 1 (.t 49) (.t 48), none⟩] (some [0, 1, 2, 3, 9, 10, 11]) none)
    (.seq (.reg none [
      ⟨(some 50), .mov (.t 0), none⟩,
      ⟨(some 51), .mov (.t 11), none⟩,
      ⟨(some 52), .mov (.t 1), none⟩,
      ⟨(some 53), .lenStr (.t 52), none⟩,
      ⟨(some 54), .bin .add (.t 51) (.t 53), none⟩,
      ⟨(some 55), .slStr (.t 50) (some (.t 54)) none, none⟩,
      ⟨(some 0), .mov (.t 55), none⟩] (some [0, 1, 2, 3, 9, 10]) none)
    (.reg none [
      ⟨(some 56), .mov (.t 10), none⟩,
      ⟨(some 57), .bin .add (.t 56) (.c (.int .i64 1)), none⟩,
      ⟨(some 10), .mov (.t 57), none⟩] (some [0, 1, 2, 3, 9, 10]) none)))))))
def strings_genSplit_M : MC :=
  (.seq (.reg none [
      ⟨(some 8), .mov (.c (.nilsl)), none⟩] (some [0, 1, 2, 3]) none)
    (.seq (.seq (.reg none [
      ⟨(some 12), .mov (.t 3), none⟩,
      ⟨(some 13), .bin .eql (.t 12) (.c (.int .i64 0)), none⟩] (some [0, 1, 2, 3, 13]) none)
    (.cond (.t 13) (.seq (.reg none [
      ⟨(some 8), .mov (.c (.nilsl)), none⟩] (some [8]) none)
    .ret)
    .skip))
    (.seq (.seq (.reg none [
      ⟨(some 14), .mov (.t 1), none⟩,
      ⟨(some 15), .bin .eql (.t 14) (.c (.str ⟨[].toArray⟩)), none⟩] (some [0, 1, 2, 3, 15]) none)
    (.cond (.t 15) (.seq (.reg none [
      ⟨(some 16), .mov (.t 0), none⟩,
      ⟨(some 17), .mov (.t 3), none⟩,
      ⟨(some 18), .call 59 [(.t 16), (.t 17)], none⟩,
      ⟨(some 8), .mov (.t 18), none⟩] (some [8]) none)
    .ret)
    .skip))
    (.seq (.seq (.reg none [
      ⟨(some 19), .mov (.t 3), none⟩,
      ⟨(some 20), .bin .lss (.t 19) (.c (.int .i64 0)), none⟩] (some [0, 1, 2, 3, 20]) none)
    (.cond (.t 20) (.reg none [
      ⟨(some 21), .mov (.t 0), none⟩,
      ⟨(some 22), .mov (.t 1), none⟩,
      ⟨(some 23), .call 60 [(.t 21), (.t 22)], none⟩,
      ⟨(some 24), .bin .add (.t 23) (.c (.int .i64 1)), none⟩,
      ⟨(some 3), .mov (.t 24), none⟩] (some [0, 1, 2, 3]) none)
    .skip))
    (.seq (.reg none [
      ⟨(some 25), .mov (.t 3), none⟩,
      ⟨(some 26), .mov (.t 0), none⟩,
      ⟨(some 27), .lenStr (.t 26), none⟩,
      ⟨(some 28), .bin .add (.t 27) (.c (.int .i64 1)), none⟩,
      ⟨(some 29), .mm false (.t 25) [(.t 28)], none⟩,
      ⟨(some 3), .mov (.t 29), none⟩] (some [0, 1, 2, 3]) none)
    (.seq (.reg none [
      ⟨(some 30), .mov (.t 3), none⟩,
      ⟨(some 31), .mks [.str ⟨[].toArray⟩] 16 (.t 30) (.t 30), none⟩,
      ⟨(some 9), .mov (.t 31), none⟩] (some [0, 1, 2, 3, 9]) none)
    (.seq (.reg none [
      ⟨(some 32), .mov (.t 3), none⟩,
      ⟨(some 33), .bin .sub (.t 32) (.c (.int .i64 1)), none⟩,
      ⟨(some 3), .mov (.t 33), none⟩] (some [0, 1, 2, 3, 9]) none)
    (.seq (.reg none [
      ⟨(some 10), .mov (.c (.int .i64 0)), none⟩] (some [0, 1, 2, 3, 9, 10]) none)
    (.seq (.block 0 (.loop strings_genSplit_L0))
    (.seq (.reg none [
      ⟨(some 58), .mov (.t 9), none⟩,
      ⟨(some 59), .mov (.t 10), none⟩,
      ⟨(some 60), .mov (.t 0), none⟩,
      ⟨(some 61), .iaS 1 (.t 58) (.t 59), none⟩,
      ⟨none, .store 1 (.t 61) (.t 60), none⟩] (some [9, 10]) none)
    (.seq (.reg none [
      ⟨(some 62), .mov (.t 9), none⟩,
      ⟨(some 63), .mov (.t 10), none⟩,
      ⟨(some 64), .bin .add (.t 63) (.c (.int .i64 1)), none⟩,
      ⟨(some 65), .slS 1 (.t 62) none (some (.t 64)), none⟩,
      ⟨(some 8), .mov (.t 65), none⟩] (some [8]) none)
    .ret)))))))))))
def strings_genSplit_F : MF := ⟨66, [.t 8], strings_genSplit_M⟩
theorem strings_genSplit_ok : OkF Tryd.prog 50 strings_genSplit_F Tryd.f50 (bodyOf Tryd.f50) := ⟨Tryd.func50, by kernel_rfl, by kernel_rfl, by kernel_rfl, by kernel_rfl⟩
-- internal/stringslite.Cut
def internal_stringslite_Cut_M : MC :=
  (.seq (.reg none [
      ⟨(some 4), .mov (.c (.str ⟨[].toArray⟩)), none⟩,
      ⟨(some 5), .mov (.c (.str ⟨[].toArray⟩)), none⟩,
      ⟨(some 6), .mov (.c (.bool false)), none⟩] (some [0, 1]) none)
    (.seq (.seq (.reg none [
      ⟨(some 8), .mov (.t 0), none⟩,
      ⟨(some 9), .mov (.t 1), none⟩,
      ⟨(some 10), .call 62 [(.t 8), (.t 9)], none⟩,
      ⟨(some 7), .mov (.t 10), none⟩] (some [0, 1, 7]) none)
    (.seq (.reg none [
      ⟨(some 11), .mov (.t 7), none⟩,
      ⟨(some 12), .bin .geq (.t 11) (.c (.int .i64 0)), none⟩] (some [0, 1, 7, 12]) none)
    (.cond (.t 12) (.seq (.reg (some []) [
      ⟨(some 13), .mov (.t 0), none⟩,
      ⟨(some 14), .mov (.t 7), none⟩,
      ⟨(some 15), .slStr (.t 13) none (some (.t 14)), none⟩,
      ⟨(some 16), .mov (.t 0), none⟩,
      ⟨(some 17), .mov (.t 7), none⟩,
      ⟨(some 18), .mov (.t 1), none⟩,
      ⟨(some 19), .lenStr (.t 18), none⟩,
      ⟨(some 20), .bin .add (.t 17) (.t 19), none⟩,
      ⟨(some 21), .slStr (.t 16) (some (.t 20)) none, none⟩,
      ⟨(some 4), .mov (.t 15), none⟩,
      ⟨(some 5), .mov (.t 21), none⟩,
      ⟨(some 6), .mov (.c (.bool true)), none⟩] (some [4, 5, 6]) none)
    .ret)
    .skip)))
    (.seq (.reg none [
      ⟨(some 22), .mov (.t 0), none⟩,
      ⟨(some 4), .mov (.t 22), none⟩,
      ⟨(some 5), .mov (.c (.str ⟨[].toArray⟩)), none⟩,
      ⟨(some 6), .mov (.c (.bool false)), none⟩] (some [4, 5, 6]) none)
    .ret)))
def internal_stringslite_Cut_F : MF := ⟨23, [.t 4, .t 5, .t 6], internal_stringslite_Cut_M⟩
theorem internal_stringslite_Cut_ok : OkF Tryd.prog 51 internal_stringslite_Cut_F Tryd.f51 (bodyOf Tryd.f51) := ⟨Tryd.func51, by kernel_rfl, by kernel_rfl, by kernel_rfl, by kernel_rfl⟩
-- loop.example/g01312/impl.within
def impl_within_M : MC :=
  (.seq (.reg none [
      ⟨(some 6), .mov (.c (.bool false)), none⟩] (some [0, 1, 2]) none)
    (.seq (.reg none [
      ⟨(some 7), .mov (.t 0), none⟩,
      ⟨(some 8), .mov (.t 1), none⟩,
      ⟨(some 9), .bin .geq (.t 7) (.t 8), none⟩,
      ⟨(some 10), .mov (.t 9), none⟩,
      ⟨(some 11), .mov (.t 0), some (10, true)⟩,
      ⟨(some 12), .mov (.t 2), some (10, true)⟩,
      ⟨(some 13), .bin .leq (.t 11) (.t 12), some (10, true)⟩,
      ⟨(some 14), .pick (.t 10) (.t 13) (.c (.bool false)), none⟩,
      ⟨(some 6), .mov (.t 14), none⟩] (some [6]) none)
    .ret))
def impl_within_F : MF := ⟨15, [.t 6], impl_within_M⟩
theorem impl_within_ok : OkF Tryd.prog 52 impl_within_F Tryd.f52 (bodyOf Tryd.f52) := ⟨Tryd.func52, by kernel_rfl, by kernel_rfl, by kernel_rfl, by kernel_rfl⟩
-- loop.example/g01312/impl.schemeText$1
def impl_schemeText_1_L0 : MC :=
  (.seq (.reg none [
      ⟨(some 8), .bin .lss (.t 7) (.t 6), none⟩] (some [0, 2, 6, 7, 8]) none)
    (.seq (.cond (.t 8) .skip
    (.exit 0))
    (.seq (.block 1 (.seq (.reg none [
      ⟨(some 9), .mov (.t 7), none⟩,
      ⟨(some 4), .mov (.t 9), none⟩] (some [0, 2, 4, 6, 7]) none)
    (.reg none [
      ⟨(some 10), .mov (.t 0), none⟩,
      ⟨(some 11), .mov (.t 4), none⟩,
      ⟨(some 12), .bin .shr (.t 10) (.t 11), none⟩,
      ⟨(some 13), .bin .and (.t 12) (.c (.int .u8 1)), none⟩,
      ⟨(some 14), .bin .eql (.t 13) (.c (.int .u8 1)), none⟩,
      ⟨(some 15), .call 54 [(.t 14)], none⟩,
      ⟨(some 16), .call 48 [(.t 2), (.t 15)], none⟩] (some [0, 2, 6, 7]) none)))
    (.reg none [
      ⟨(some 17), .bin .add (.t 7) (.c (.int .i8 1)), none⟩,
      ⟨(some 7), .mov (.t 17), none⟩] (some [0, 2, 6, 7]) none))))
def impl_schemeText_1_M : MC :=
  (.seq (.reg none [
      ⟨(some 5), .fa 1 (.t 1), none⟩,
      ⟨(some 6), .load none (.t 5), none⟩,
      ⟨(some 7), .mov (.c (.int .i8 0)), none⟩] (some [0, 2, 6, 7]) none)
    (.block 0 (.loop impl_schemeText_1_L0)))
def impl_schemeText_1_F : MF := ⟨18, [], impl_schemeText_1_M⟩
theorem impl_schemeText_1_ok : OkF Tryd.prog 53 impl_schemeText_1_F Tryd.f53 (bodyOf Tryd.f53) := ⟨Tryd.func53, by kernel_rfl, by kernel_rfl, by kernel_rfl, by kernel_rfl⟩
-- loop.example/g01312/impl.sign
def impl_sign_M : MC :=
  (.seq (.reg none [
      ⟨(some 2), .mov (.c (.int .u8 0)), none⟩] (some [0]) none)
    (.seq (.seq (.reg none [
      ⟨(some 3), .mov (.t 0), none⟩] (some [3]) none)
    (.cond (.t 3) (.seq (.reg none [
      ⟨(some 2), .mov (.c (.int .u8 35)), none⟩] (some [2]) none)
    .ret)
    .skip))
    (.seq (.reg none [
      ⟨(some 2), .mov (.c (.int .u8 46)), none⟩] (some [2]) none)
    .ret)))
def impl_sign_F : MF := ⟨4, [.t 2], impl_sign_M⟩
-- NOT COMPILED 55 internal/strconv.ParseUint
-- NOT COMPILED 56 strconv.toError
theorem impl_sign_ok : OkF Tryd.prog 54 impl_sign_F Tryd.f54 (bodyOf Tryd.f54) := ⟨Tryd.func54, by kernel_rfl, by kernel_rfl, by kernel_rfl, by kernel_rfl⟩
-- internal/strconv.Itoa
def internal_strconv_Itoa_M : MC :=
  (.seq (.reg none [
      ⟨(some 2), .mov (.c (.str ⟨[].toArray⟩)), none⟩] (some [0]) none)
    (.seq (.reg none [
      ⟨(some 3), .mov (.t 0), none⟩,
      ⟨(some 4), .call 69 [(.t 3), (.c (.int .i64 10))], none⟩,
      ⟨(some 2), .mov (.t 4), none⟩] (some [2]) none)
    .ret))
def internal_strconv_Itoa_F : MF := ⟨5, [.t 2], internal_strconv_Itoa_M⟩
theorem internal_strconv_Itoa_ok : OkF Tryd.prog 57 internal_strconv_Itoa_F Tryd.f57 (bodyOf Tryd.f57) := ⟨Tryd.func57, by kernel_rfl, by kernel_rfl, by kernel_rfl, by kernel_rfl⟩
-- strings.explode
def strings_explode_L0 : MC :=
  (.seq (.seq (.reg none [
      ⟨(some 22), .mov (.t 7), none⟩,
      ⟨(some 23), .mov (.t 1), none⟩,
      ⟨(some 24), .bin .sub (.t 23) (.c (.int .i64 1)), none⟩,
      ⟨(some 25), .bin .lss (.t 22) (.t 24), none⟩] (some [0, 1, 6, 7, 25]) none)
    (.cond (.t 25) .skip
    (.exit 0)))
    (.seq (.block 1 (.seq (.reg none [
      ⟨(some 29), .mov (.t 0), none⟩,
      ⟨(some 30), .call 71 [(.t 29)], none⟩,
      ⟨(some 28), .mov (.t 30), none⟩,
      ⟨(some 31), .ext (.t 28) 0, none⟩,
      ⟨(some 32), .ext (.t 28) 1, none⟩,
      ⟨(some 8), .mov (.t 31), none⟩,
      ⟨(some 9), .mov (.t 32), none⟩] (some [0, 1, 6, 7, 9]) none)
    (.seq (.reg none [
      ⟨(some 33), .mov (.t 6), none⟩,
      ⟨(some 34), .mov (.t 7), none⟩,
      ⟨(some 35), .mov (.t 0), none⟩,
      ⟨(some 36), .mov (.t 9), none⟩,
      ⟨(some 37), .slStr (.t 35) none (some (.t 36)), none⟩,
      ⟨(some 38), .iaS 1 (.t 33) (.t 34), none⟩,
      ⟨none, .store 1 (.t 38) (.t 37), none⟩] (some [0, 1, 6, 7, 9]) none)
    (.reg none [
      ⟨(some 39), .mov (.t 0), none⟩,
      ⟨(some 40), .mov (.t 9), none⟩,
      ⟨(some 41), .slStr (.t 39) (some (.t 40)) none, none⟩,
      ⟨(some 0), .mov (.t 41), none⟩] (some [0, 1, 6, 7]) none))))
    (.reg none [
      ⟨(some 26), .mov (.t 7), none⟩,
      ⟨(some 27), .bin .add (.t 26) (.c (.int .i64 1)), none⟩,
      ⟨(some 7), .mov (.t 27), none⟩] (some [0, 1, 6, 7]) none)))
def strings_explode_M : MC :=
  (.seq (.reg none [
      ⟨(some 4), .mov (.c (.nilsl)), none⟩] (some [0, 1]) none)
    (.seq (.reg none [
      ⟨(some 10), .mov (.t 0), none⟩,
      ⟨(some 11), .call 70 [(.t 10)], none⟩,
      ⟨(some 5), .mov (.t 11), none⟩] (some [0, 1, 5]) none)
    (.seq (.seq (.reg none [
      ⟨(some 12), .mov (.t 1), none⟩,
      ⟨(some 13), .bin .lss (.t 12) (.c (.int .i64 0)), none⟩,
      ⟨(some 14), .mov (.t 13), none⟩,
      ⟨(some 15), .mov (.t 1), some (14, false)⟩,
      ⟨(some 16), .mov (.t 5), some (14, false)⟩,
      ⟨(some 17), .bin .gtr (.t 15) (.t 16), some (14, false)⟩,
      ⟨(some 18), .pick (.t 14) (.c (.bool true)) (.t 17), none⟩] (some [0, 1, 5, 18]) none)
    (.cond (.t 18) (.reg none [
      ⟨(some 19), .mov (.t 5), none⟩,
      ⟨(some 1), .mov (.t 19), none⟩] (some [0, 1]) none)
    .skip))
    (.seq (.reg none [
      ⟨(some 20), .mov (.t 1), none⟩,
      ⟨(some 21), .mks [.str ⟨[].toArray⟩] 16 (.t 20) (.t 20), none⟩,
      ⟨(some 6), .mov (.t 21), none⟩] (some [0, 1, 6]) none)
    (.seq (.seq (.reg none [
      ⟨(some 7), .mov (.c (.int .i64 0)), none⟩] (some [0, 1, 6, 7]) none)
    (.block 0 (.loop strings_explode_L0)))
    (.seq (.seq (.reg none [
      ⟨(some 42), .mov (.t 1), none⟩,
      ⟨(some 43), .bin .gtr (.t 42) (.c (.int .i64 0)), none⟩] (some [0, 1, 6, 43]) none)
    (.cond (.t 43) (.reg none [
      ⟨(some 44), .mov (.t 6), none⟩,
      ⟨(some 45), .mov (.t 1), none⟩,
      ⟨(some 46), .bin .sub (.t 45) (.c (.int .i64 1)), none⟩,
      ⟨(some 47), .mov (.t 0), none⟩,
      ⟨(some 48), .iaS 1 (.t 44) (.t 46), none⟩,
      ⟨none, .store 1 (.t 48) (.t 47), none⟩] (some [6]) none)
    .skip))
    (.seq (.reg none [
      ⟨(some 49), .mov (.t 6), none⟩,
      ⟨(some 4), .mov (.t 49), none⟩] (some [4]) none)
    .ret)))))))
def strings_explode_F : MF := ⟨50, [.t 4], strings_explode_M⟩
-- NOT COMPILED 60 strings.Count
theorem strings_explode_ok : OkF Tryd.prog 59 strings_explode_F Tryd.f59 (bodyOf Tryd.f59) := ⟨Tryd.func59, by kernel_rfl, by kernel_rfl, by kernel_rfl, by kernel_rfl⟩
-- strings.Index
def strings_Index_M : MC :=
  (.seq (.reg none [
      ⟨(some 4), .mov (.c (.int .i64 0)), none⟩] (some [0, 1]) none)
    (.seq (.reg none [
      ⟨(some 5), .mov (.t 0), none⟩,
      ⟨(some 6), .mov (.t 1), none⟩,
      ⟨(some 7), .call 62 [(.t 5), (.t 6)], none⟩,
      ⟨(some 4), .mov (.t 7), none⟩] (some [4]) none)
    .ret))
def strings_Index_F : MF := ⟨8, [.t 4], strings_Index_M⟩
-- NOT COMPILED 62 internal/stringslite.Index
theorem strings_Index_ok : OkF Tryd.prog 61 strings_Index_F Tryd.f61 (bodyOf Tryd.f61) := ⟨Tryd.func61, by kernel_rfl, by kernel_rfl, by kernel_rfl, by kernel_rfl⟩
-- internal/strconv.lower
def internal_strconv_lower_M : MC :=
  (.seq (.reg none [
      ⟨(some 2), .mov (.c (.int .u8 0)), none⟩] (some [0]) none)
    (.seq (.reg none [
      ⟨(some 3), .mov (.t 0), none⟩,
      ⟨(some 4), .bin .or (.t 3) (.c (.int .u8 32)), none⟩,
      ⟨(some 2), .mov (.t 4), none⟩] (some [2]) none)
    .ret))
def internal_strconv_lower_F : MF := ⟨5, [.t 2], internal_strconv_lower_M⟩
theorem internal_strconv_lower_ok : OkF Tryd.prog 63 internal_strconv_lower_F Tryd.f63 (bodyOf Tryd.f63) := ⟨Tryd.func63, by kernel_rfl, by kernel_rfl, by kernel_rfl, by kernel_rfl⟩
-- internal/strconv.underscoreOK
def internal_strconv_underscoreOK_L0 : MC :=
  (.seq (.seq (.reg none [
      ⟨(some 51), .mov (.t 4), none⟩,
      ⟨(some 52), .mov (.t 0), none⟩,
      ⟨(some 53), .lenStr (.t 52), none⟩,
      ⟨(some 54), .bin .lss (.t 51) (.t 53), none⟩] (some [0, 3, 4, 5, 54]) none)
    (.cond (.t 54) .skip
    (.exit 0)))
    (.seq (.block 1 (.seq (.seq (.reg none [
      ⟨(some 57), .mov (.t 0), none⟩,
      ⟨(some 58), .mov (.t 4), none⟩,
      ⟨(some 59), .ixS (.t 57) (.t 58), none⟩,
      ⟨(some 60), .bin .leq (.c (.int .u8 48)) (.t 59), none⟩,
      ⟨(some 61), .mov (.t 60), none⟩,
      ⟨(some 62), .mov (.t 0), some (61, true)⟩,
      ⟨(some 63), .mov (.t 4), some (61, true)⟩,
      ⟨(some 64), .ixS (.t 62) (.t 63), some (61, true)⟩,
      ⟨(some 65), .bin .leq (.t 64) (.c (.int .u8 57)), some (61, true)⟩,
      ⟨(some 66), .pick (.t 61) (.t 65) (.c (.bool false)), none⟩,
      ⟨(some 67), .mov (.t 66), none⟩,
      ⟨(some 68), .mov (.t 5), some (67, false)⟩,
      ⟨(some 69), .mov (.t 68), some (67, false)⟩,
      ⟨(some 70), .mov (.t 0), some (69, true)⟩,
      ⟨(some 71), .mov (.t 4), some (69, true)⟩,
      ⟨(some 72), .ixS (.t 70) (.t 71), some (69, true)⟩,
      ⟨(some 73), .call 63 [(.t 72)], some (69, true)⟩,
      ⟨(some 74), .bin .leq (.c (.int .u8 97)) (.t 73), some (69, true)⟩,
      ⟨(some 75), .pick (.t 69) (.t 74) (.c (.bool false)), some (67, false)⟩,
      ⟨(some 76), .mov (.t 75), some (67, false)⟩,
      ⟨(some 77), .mov (.t 0), some (76, true)⟩,
      ⟨(some 78), .mov (.t 4), some (76, true)⟩,
      ⟨(some 79), .ixS (.t 77) (.t 78), some (76, true)⟩,
      ⟨(some 80), .call 63 [(.t 79)], some (76, true)⟩,
      ⟨(some 81), .bin .leq (.t 80) (.c (.int .u8 102)), some (76, true)⟩,
      ⟨(some 82), .pick (.t 76) (.t 81) (.c (.bool false)), some (67, false)⟩,
      ⟨(some 83), .pick (.t 67) (.c (.bool true)) (.t 82), none⟩] (some [0, 3, 4, 5, 83]) none)
    (.cond (.t 83) (.seq (.reg none [
      ⟨(some 3), .mov (.c (.int .i32 48)), none⟩] (some [0, 3, 4, 5]) none)
    (.exit 1))
    .skip))
    (.seq (.seq (.reg none [
      ⟨(some 84), .mov (.t 0), none⟩,
      ⟨(some 85), .mov (.t 4), none⟩,
      ⟨(some 86), .ixS (.t 84) (.t 85), none⟩,
      ⟨(some 87), .bin .eql (.t 86) (.c (.int .u8 95)), none⟩] (some [0, 3, 4, 5, 87]) none)
    (.cond (.t 87) (.seq (.seq (.reg none [
      ⟨(some 88), .mov (.t 3), none⟩,
      ⟨(some 89), .bin .neq (.t 88) (.c (.int .i32 48)), none⟩] (some [0, 4, 5, 89]) none)
    (.cond (.t 89) (.seq (.reg none [
      ⟨(some 2), .mov (.c (.bool false)), none⟩] (some [2]) none)
    .ret)
    .skip))
    (.seq (.reg none [
      ⟨(some 3), .mov (.c (.int .i32 95)), none⟩] (some [0, 3, 4, 5]) none)
    (.exit 1)))
    .skip))
    (.seq (.seq (.reg none [
      ⟨(some 90), .mov (.t 3), none⟩,
      ⟨(some 91), .bin .eql (.t 90) (.c (.int .i32 95)), none⟩] (some [0, 4, 5, 91]) none)
    (.cond (.t 91) (.seq (.reg none [
      ⟨(some 2), .mov (.c (.bool false)), none⟩] (some [2]) none)
    .ret)
    .skip))
    (.reg none [
      ⟨(some 3), .mov (.c (.int .i32 33)), none⟩] (some [0, 3, 4, 5]) none)))))
    (.reg none [
      ⟨(some 55), .mov (.t 4), none⟩,
      ⟨(some 56), .bin .add (.t 55) (.c (.int .i64 1)), none⟩,
      ⟨(some 4), .mov (.t 56), none⟩] (some [0, 3, 4, 5]) none)))
def internal_strconv_underscoreOK_M : MC :=
  (.seq (.reg none [
      ⟨(some 2), .mov (.c (.bool false)), none⟩] (some [0]) none)
    (.seq (.reg none [
      ⟨(some 3), .mov (.c (.int .i32 94)), none⟩] (some [0, 3]) none)
    (.seq (.reg none [
      ⟨(some 4), .mov (.c (.int .i64 0)), none⟩] (some [0, 3, 4]) none)
    (.seq (.seq (.reg none [
      ⟨(some 6), .mov (.t 0), none⟩,
      ⟨(some 7), .lenStr (.t 6), none⟩,
      ⟨(some 8), .bin .geq (.t 7) (.c (.int .i64 1)), none⟩,
      ⟨(some 9), .mov (.t 8), none⟩,
      ⟨(some 10), .mov (.t 0), some (9, true)⟩,
      ⟨(some 11), .ixS (.t 10) (.c (.int .i64 0)), some (9, true)⟩,
      ⟨(some 12), .bin .eql (.t 11) (.c (.int .u8 45)), some (9, true)⟩,
      ⟨(some 13), .mov (.t 12), some (9, true)⟩,
      ⟨(some 14), .mov (.t 0), some (13, false)⟩,
      ⟨(some 15), .ixS (.t 14) (.c (.int .i64 0)), some (13, false)⟩,
      ⟨(some 16), .bin .eql (.t 15) (.c (.int .u8 43)), some (13, false)⟩,
      ⟨(some 17), .pick (.t 13) (.c (.bool true)) (.t 16), some (9, true)⟩,
      ⟨(some 18), .pick (.t 9) (.t 17) (.c (.bool false)), none⟩] (some [0, 3, 4, 18]) none)
    (.cond (.t 18) (.reg none [
      ⟨(some 19), .mov (.t 0), none⟩,
      ⟨(some 20), .slStr (.t 19) (some (.c (.int .i64 1))) none, none⟩,
      ⟨(some 0), .mov (.t 20), none⟩] (some [0, 3, 4]) none)
    .skip))
    (.seq (.reg none [
      ⟨(some 5), .mov (.c (.bool false)), none⟩] (some [0, 3, 4, 5]) none)
    (.seq (.seq (.reg none [
      ⟨(some 21), .mov (.t 0), none⟩,
      ⟨(some 22), .lenStr (.t 21), none⟩,
      ⟨(some 23), .bin .geq (.t 22) (.c (.int .i64 2)), none⟩,
      ⟨(some 24), .mov (.t 23), none⟩,
      ⟨(some 25), .mov (.t 0), some (24, true)⟩,
      ⟨(some 26), .ixS (.t 25) (.c (.int .i64 0)), some (24, true)⟩,
      ⟨(some 27), .bin .eql (.t 26) (.c (.int .u8 48)), some (24, true)⟩,
      ⟨(some 28), .pick (.t 24) (.t 27) (.c (.bool false)), none⟩,
      ⟨(some 29), .mov (.t 28), none⟩,
      ⟨(some 30), .mov (.t 0), some (29, true)⟩,
      ⟨(some 31), .ixS (.t 30) (.c (.int .i64 1)), some (29, true)⟩,
      ⟨(some 32), .call 63 [(.t 31)], some (29, true)⟩,
      ⟨(some 33), .bin .eql (.t 32) (.c (.int .u8 98)), some (29, true)⟩,
      ⟨(some 34), .mov (.t 33), some (29, true)⟩,
      ⟨(some 35), .mov (.t 0), some (34, false)⟩,
      ⟨(some 36), .ixS (.t 35) (.c (.int .i64 1)), some (34, false)⟩,
      ⟨(some 37), .call 63 [(.t 36)], some (34, false)⟩,
      ⟨(some 38), .bin .eql (.t 37) (.c (.int .u8 111)), some (34, false)⟩,
      ⟨(some 39), .pick (.t 34) (.c (.bool true)) (.t 38), some (29, true)⟩,
      ⟨(some 40), .mov (.t 39), some (29, true)⟩,
      ⟨(some 41), .mov (.t 0), some (40, false)⟩,
      ⟨(some 42), .ixS (.t 41) (.c (.int .i64 1)), some (40, false)⟩,
      ⟨(some 43), .call 63 [(.t 42)], some (40, false)⟩,
      ⟨(some 44), .bin .eql (.t 43) (.c (.int .u8 120)), some (40, false)⟩,
      ⟨(some 45), .pick (.t 40) (.c (.bool true)) (.t 44), some (29, true)⟩,
      ⟨(some 46), .pick (.t 29) (.t 45) (.c (.bool false)), none⟩] (some [0, 3, 4, 5, 46]) none)
    (.cond (.t 46) (.seq (.reg none [
      ⟨(some 4), .mov (.c (.int .i64 2)), none⟩] (some [0, 4]) none)
    (.seq (.reg none [
      ⟨(some 3), .mov (.c (.int .i32 48)), none⟩] (some [0, 3, 4]) none)
    (.reg none [
      ⟨(some 47), .mov (.t 0), none⟩,
      ⟨(some 48), .ixS (.t 47) (.c (.int .i64 1)), none⟩,
      ⟨(some 49), .call 63 [(.t 48)], none⟩,
      ⟨(some 50), .bin .eql (.t 49) (.c (.int .u8 120)), none⟩,
      ⟨(some 5), .mov (.t 50), none⟩] (some [0, 3, 4, 5]) none)))
    .skip))
    (.seq (.block 0 (.loop internal_strconv_underscoreOK_L0))
    (.seq (.reg none [
      ⟨(some 92), .mov (.t 3), none⟩,
      ⟨(some 93), .bin .neq (.t 92) (.c (.int .i32 95)), none⟩,
      ⟨(some 2), .mov (.t 93), none⟩] (some [2]) none)
    .ret))))))))
def internal_strconv_underscoreOK_F : MF := ⟨94, [.t 2], internal_strconv_underscoreOK_M⟩
-- NOT COMPILED 65 strconv.syntaxError
-- NOT COMPILED 66 strconv.rangeError
-- NOT COMPILED 67 strconv.baseError
-- NOT COMPILED 68 strconv.bitSizeError
theorem internal_strconv_underscoreOK_ok : OkF Tryd.prog 64 internal_strconv_underscoreOK_F Tryd.f64 (bodyOf Tryd.f64) := ⟨Tryd.func64, by kernel_rfl, by kernel_rfl, by kernel_rfl, by kernel_rfl⟩
-- internal/strconv.FormatInt
def internal_strconv_FormatInt_M : MC :=
  (.seq (.reg none [
      ⟨(some 4), .mov (.c (.str ⟨[].toArray⟩)), none⟩] (some [0, 1]) none)
    (.seq (.seq (.reg none [
      ⟨(some 10), .mov (.t 1), none⟩,
      ⟨(some 11), .bin .eql (.t 10) (.c (.int .i64 10)), none⟩] (some [0, 1, 11]) none)
    (.cond (.t 11) (.seq (.seq (.reg none [
      ⟨(some 12), .mov (.t 0), none⟩,
      ⟨(some 13), .bin .leq (.c (.int .i64 0)) (.t 12), none⟩,
      ⟨(some 14), .mov (.t 13), none⟩,
      ⟨(some 15), .mov (.t 0), some (14, true)⟩,
      ⟨(some 16), .bin .lss (.t 15) (.c (.int .i64 100)), some (14, true)⟩,
      ⟨(some 17), .pick (.t 14) (.t 16) (.c (.bool false)), none⟩] (some [0, 17]) none)
    (.cond (.t 17) (.seq (.reg none [
      ⟨(some 18), .mov (.t 0), none⟩,
      ⟨(some 19), .call 79 [(.t 18)], none⟩,
      ⟨(some 4), .mov (.t 19), none⟩] (some [4]) none)
    .ret)
    .skip))
    (.seq (.reg none [
      ⟨(some 5), .new (rl [(24, .int .u8 0)]), none⟩] (some [0, 5]) none)
    (.seq (.reg none [
      ⟨(some 20), .mov (.t 0), none⟩,
      ⟨(some 21), .conv .u64 (.t 20), none⟩,
      ⟨(some 6), .mov (.t 21), none⟩] (some [0, 5, 6]) none)
    (.seq (.seq (.reg none [
      ⟨(some 22), .mov (.t 0), none⟩,
      ⟨(some 23), .bin .lss (.t 22) (.c (.int .i64 0)), none⟩] (some [0, 5, 6, 23]) none)
    (.cond (.t 23) (.reg none [
      ⟨(some 24), .mov (.t 6), none⟩,
      ⟨(some 25), .un .neg (.t 24), none⟩,
      ⟨(some 6), .mov (.t 25), none⟩] (some [0, 5, 6]) none)
    .skip))
    (.seq (.reg none [
      ⟨(some 26), .mov (.t 6), none⟩,
      ⟨(some 27), .call 80 [(.t 26)], none⟩,
      ⟨(some 7), .mov (.t 27), none⟩] (some [0, 5, 6, 7]) none)
    (.seq (.reg none [
      ⟨(some 28), .mov (.t 7), none⟩,
      ⟨(some 29), .bin .add (.c (.int .i64 1)) (.t 28), none⟩,
      ⟨(some 30), .slA 24 1 (.t 5) (some (.c (.int .i64 1))) (some (.t 29)), none⟩,
      ⟨(some 31), .mov (.t 6), none⟩,
      ⟨(some 32), .call 81 [(.t 30), (.t 31)], none⟩] (some [0, 5, 7]) none)
    (.seq (.seq (.reg none [
      ⟨(some 33), .mov (.t 0), none⟩,
      ⟨(some 34), .bin .lss (.t 33) (.c (.int .i64 0)), none⟩] (some [5, 7, 34]) none)
    (.cond (.t 34) (.seq (.reg none [
      ⟨(some 35), .iaA 24 1 (.t 5) (.c (.int .i64 0)), none⟩,
      ⟨none, .store 1 (.t 35) (.c (.int .u8 45)), none⟩] (some [5, 7]) none)
    (.seq (.reg none [
      ⟨(some 36), .mov (.t 7), none⟩,
      ⟨(some 37), .bin .add (.c (.int .i64 1)) (.t 36), none⟩,
      ⟨(some 38), .slA 24 1 (.t 5) none (some (.t 37)), none⟩,
      ⟨(some 39), .toStr (.t 38), none⟩,
      ⟨(some 4), .mov (.t 39), none⟩] (some [4]) none)
    .ret))
    .skip))
    (.seq (.reg none [
      ⟨(some 40), .mov (.t 7), none⟩,
      ⟨(some 41), .bin .add (.c (.int .i64 1)) (.t 40), none⟩,
      ⟨(some 42), .slA 24 1 (.t 5) (some (.c (.int .i64 1))) (some (.t 41)), none⟩,
      ⟨(some 43), .toStr (.t 42), none⟩,
      ⟨(some 4), .mov (.t 43), none⟩] (some [4]) none)
    .ret))))))))
    .skip))
    (.seq (.reg none [
      ⟨(some 45), .mov (.t 0), none⟩,
      ⟨(some 46), .conv .u64 (.t 45), none⟩,
      ⟨(some 47), .mov (.t 1), none⟩,
      ⟨(some 48), .mov (.t 0), none⟩,
      ⟨(some 49), .bin .lss (.t 48) (.c (.int .i64 0)), none⟩,
      ⟨(some 50), .call 82 [(.c (.nilsl)), (.t 46), (.t 47), (.t 49), (.c (.bool false))], none⟩,
      ⟨(some 44), .mov (.t 50), none⟩,
      ⟨(some 51), .ext (.t 44) 0, none⟩,
      ⟨(some 52), .ext (.t 44) 1, none⟩,
      ⟨(some 8), .mov (.t 51), none⟩,
      ⟨(some 9), .mov (.t 52), none⟩] (some [9]) none)
    (.seq (.reg none [
      ⟨(some 53), .mov (.t 9), none⟩,
      ⟨(some 4), .mov (.t 53), none⟩] (some [4]) none)
    .ret))))
def internal_strconv_FormatInt_F : MF := ⟨54, [.t 4], internal_strconv_FormatInt_M⟩
-- NOT COMPILED 70 unicode/utf8.RuneCountInString
theorem internal_strconv_FormatInt_ok : OkF Tryd.prog 69 internal_strconv_FormatInt_F Tryd.f69 (bodyOf Tryd.f69) := ⟨Tryd.func69, by kernel_rfl, by kernel_rfl, by kernel_rfl, by kernel_rfl⟩
-- unicode/utf8.DecodeRuneInString
def unicode_utf8_DecodeRuneInString_M : MC :=
  (.seq (.reg none [
      ⟨(some 2), .mov (.c (.int .i32 0)), none⟩,
      ⟨(some 3), .mov (.c (.int .i64 0)), none⟩] (some [0]) none)
    (.seq (.seq (.reg none [
      ⟨(some 4), .mov (.t 0), none⟩,
      ⟨(some 5), .bin .neq (.t 4) (.c (.str ⟨[].toArray⟩)), none⟩,
      ⟨(some 6), .mov (.t 5), none⟩,
      ⟨(some 7), .mov (.t 0), some (6, true)⟩,
      ⟨(some 8), .ixS (.t 7) (.c (.int .i64 0)), some (6, true)⟩,
      ⟨(some 9), .bin .lss (.t 8) (.c (.int .u8 128)), some (6, true)⟩,
      ⟨(some 10), .pick (.t 6) (.t 9) (.c (.bool false)), none⟩] (some [0, 10]) none)
    (.cond (.t 10) (.seq (.reg none [
      ⟨(some 11), .mov (.t 0), none⟩,
      ⟨(some 12), .ixS (.t 11) (.c (.int .i64 0)), none⟩,
      ⟨(some 13), .conv .i32 (.t 12), none⟩,
      ⟨(some 2), .mov (.t 13), none⟩,
      ⟨(some 3), .mov (.c (.int .i64 1)), none⟩] (some [2, 3]) none)
    .ret)
    (.reg none [
      ⟨(some 15), .mov (.t 0), none⟩,
      ⟨(some 16), .call 83 [(.t 15)], none⟩,
      ⟨(some 14), .mov (.t 16), none⟩,
      ⟨(some 17), .ext (.t 14) 0, none⟩,
      ⟨(some 18), .ext (.t 14) 1, none⟩,
      ⟨(some 2), .mov (.t 17), none⟩,
      ⟨(some 3), .mov (.t 18), none⟩] (some [2, 3]) none)))
    .ret))
def unicode_utf8_DecodeRuneInString_F : MF := ⟨19, [.t 2, .t 3], unicode_utf8_DecodeRuneInString_M⟩
theorem unicode_utf8_DecodeRuneInString_ok : OkF Tryd.prog 71 unicode_utf8_DecodeRuneInString_F Tryd.f71 (bodyOf Tryd.f71) := ⟨Tryd.func71, by kernel_rfl, by kernel_rfl, by kernel_rfl, by kernel_rfl⟩
-- internal/bytealg.Cutover
def internal_bytealg_Cutover_M : MC :=
  (.seq (.reg none [
      ⟨(some 2), .mov (.c (.int .i64 0)), none⟩] (some [0]) none)
    (.seq (.reg none [
      ⟨(some 3), .mov (.t 0), none⟩,
      ⟨(some 4), .bin .add (.t 3) (.c (.int .i64 16)), none⟩,
      ⟨(some 5), .bin .quo (.t 4) (.c (.int .i64 8)), none⟩,
      ⟨(some 2), .mov (.t 5), none⟩] (some [2]) none)
    .ret))
def internal_bytealg_Cutover_F : MF := ⟨6, [.t 2], internal_bytealg_Cutover_M⟩
theorem internal_bytealg_Cutover_ok : OkF Tryd.prog 75 internal_bytealg_Cutover_F Tryd.f75 (bodyOf Tryd.f75) := ⟨Tryd.func75, by kernel_rfl, by kernel_rfl, by kernel_rfl, by kernel_rfl⟩
-- internal/bytealg.IndexRabinKarp[string]
def internal_bytealg_IndexRabinKarp_string__L0 : MC :=
  (.seq (.seq (.reg none [
      ⟨(some 18), .mov (.t 9), none⟩,
      ⟨(some 19), .mov (.t 7), none⟩,
      ⟨(some 20), .bin .lss (.t 18) (.t 19), none⟩] (some [0, 1, 5, 6, 7, 8, 9, 20]) none)
    (.cond (.t 20) .skip
    (.exit 0)))
    (.seq (.block 1 (.reg none [
      ⟨(some 23), .mov (.t 8), none⟩,
      ⟨(some 24), .bin .mul (.t 23) (.c (.int .u32 16777619)), none⟩,
      ⟨(some 25), .mov (.t 0), none⟩,
      ⟨(some 26), .mov (.t 9), none⟩,
      ⟨(some 27), .ixS (.t 25) (.t 26), none⟩,
      ⟨(some 28), .conv .u32 (.t 27), none⟩,
      ⟨(some 29), .bin .add (.t 24) (.t 28), none⟩,
      ⟨(some 8), .mov (.t 29), none⟩] (some [0, 1, 5, 6, 7, 8, 9]) none))
    (.reg none [
      ⟨(some 21), .mov (.t 9), none⟩,
      ⟨(some 22), .bin .add (.t 21) (.c (.int .i64 1)), none⟩,
      ⟨(some 9), .mov (.t 22), none⟩] (some [0, 1, 5, 6, 7, 8, 9]) none)))
def internal_bytealg_IndexRabinKarp_string__L1 : MC :=
  (.seq (.seq (.reg none [
      ⟨(some 41), .mov (.t 10), none⟩,
      ⟨(some 42), .mov (.t 0), none⟩,
      ⟨(some 43), .lenStr (.t 42), none⟩,
      ⟨(some 44), .bin .lss (.t 41) (.t 43), none⟩] (some [0, 1, 5, 6, 7, 8, 10, 44]) none)
    (.cond (.t 44) .skip
    (.exit 2)))
    (.block 3 (.seq (.reg none [
      ⟨(some 45), .mov (.t 8), none⟩,
      ⟨(some 46), .bin .mul (.t 45) (.c (.int .u32 16777619)), none⟩,
      ⟨(some 8), .mov (.t 46), none⟩] (some [0, 1, 5, 6, 7, 8, 10]) none)
    (.seq (.reg none [
      ⟨(some 47), .mov (.t 8), none⟩,
      ⟨(some 48), .mov (.t 0), none⟩,
      ⟨(some 49), .mov (.t 10), none⟩,
      ⟨(some 50), .ixS (.t 48) (.t 49), none⟩,
      ⟨(some 51), .conv .u32 (.t 50), none⟩,
      ⟨(some 52), .bin .add (.t 47) (.t 51), none⟩,
      ⟨(some 8), .mov (.t 52), none⟩] (some [0, 1, 5, 6, 7, 8, 10]) none)
    (.seq (.reg none [
      ⟨(some 53), .mov (.t 8), none⟩,
      ⟨(some 54), .mov (.t 6), none⟩,
      ⟨(some 55), .mov (.t 0), none⟩,
      ⟨(some 56), .mov (.t 10), none⟩,
      ⟨(some 57), .mov (.t 7), none⟩,
      ⟨(some 58), .bin .sub (.t 56) (.t 57), none⟩,
      ⟨(some 59), .ixS (.t 55) (.t 58), none⟩,
      ⟨(some 60), .conv .u32 (.t 59), none⟩,
      ⟨(some 61), .bin .mul (.t 54) (.t 60), none⟩,
      ⟨(some 62), .bin .sub (.t 53) (.t 61), none⟩,
      ⟨(some 8), .mov (.t 62), none⟩] (some [0, 1, 5, 6, 7, 8, 10]) none)
    (.seq (.reg none [
      ⟨(some 63), .mov (.t 10), none⟩,
      ⟨(some 64), .bin .add (.t 63) (.c (.int .i64 1)), none⟩,
      ⟨(some 10), .mov (.t 64), none⟩] (some [0, 1, 5, 6, 7, 8, 10]) none)
    (.seq (.reg none [
      ⟨(some 65), .mov (.t 8), none⟩,
      ⟨(some 66), .mov (.t 5), none⟩,
      ⟨(some 67), .bin .eql (.t 65) (.t 66), none⟩,
      ⟨(some 68), .mov (.t 67), none⟩,
      ⟨(some 69), .mov (.t 0), some (68, true)⟩,
      ⟨(some 70), .mov (.t 10), some (68, true)⟩,
      ⟨(some 71), .mov (.t 7), some (68, true)⟩,
      ⟨(some 72), .bin .sub (.t 70) (.t 71), some (68, true)⟩,
      ⟨(some 73), .mov (.t 10), some (68, true)⟩,
      ⟨(some 74), .slStr (.t 69) (some (.t 72)) (some (.t 73)), some (68, true)⟩,
      ⟨(some 75), .mov (.t 1), some (68, true)⟩,
      ⟨(some 76), .bin .eql (.t 74) (.t 75), some (68, true)⟩,
      ⟨(some 77), .pick (.t 68) (.t 76) (.c (.bool false)), none⟩] (some [0, 1, 5, 6, 7, 8, 10, 77]) none)
    (.cond (.t 77) (.seq (.reg none [
      ⟨(some 78), .mov (.t 10), none⟩,
      ⟨(some 79), .mov (.t 7), none⟩,
      ⟨(some 80), .bin .sub (.t 78) (.t 79), none⟩,
      ⟨(some 4), .mov (.t 80), none⟩] (some [4]) none)
    .ret)
    .skip))))))))
def internal_bytealg_IndexRabinKarp_string__M : MC :=
  (.seq (.reg none [
      ⟨(some 4), .mov (.c (.int .i64 0)), none⟩] (some [0, 1]) none)
    (.seq (.reg none [
      ⟨(some 12), .mov (.t 1), none⟩,
      ⟨(some 13), .call 85 [(.t 12)], none⟩,
      ⟨(some 11), .mov (.t 13), none⟩,
      ⟨(some 14), .ext (.t 11) 0, none⟩,
      ⟨(some 15), .ext (.t 11) 1, none⟩,
      ⟨(some 5), .mov (.t 14), none⟩,
      ⟨(some 6), .mov (.t 15), none⟩] (some [0, 1, 5, 6]) none)
    (.seq (.reg none [
      ⟨(some 16), .mov (.t 1), none⟩,
      ⟨(some 17), .lenStr (.t 16), none⟩,
      ⟨(some 7), .mov (.t 17), none⟩] (some [0, 1, 5, 6, 7]) none)
    (.seq (.reg none [
      ⟨(some 8), .mov (.c (.int .u32 0)), none⟩] (some [0, 1, 5, 6, 7, 8]) none)
    (.seq (.seq (.reg none [
      ⟨(some 9), .mov (.c (.int .i64 0)), none⟩] (some [0, 1, 5, 6, 7, 8, 9]) none)
    (.block 0 (.loop internal_bytealg_IndexRabinKarp_string__L0)))
    (.seq (.seq (.reg none [
      ⟨(some 30), .mov (.t 8), none⟩,
      ⟨(some 31), .mov (.t 5), none⟩,
      ⟨(some 32), .bin .eql (.t 30) (.t 31), none⟩,
      ⟨(some 33), .mov (.t 32), none⟩,
      ⟨(some 34), .mov (.t 0), some (33, true)⟩,
      ⟨(some 35), .mov (.t 7), some (33, true)⟩,
      ⟨(some 36), .slStr (.t 34) none (some (.t 35)), some (33, true)⟩,
      ⟨(some 37), .mov (.t 1), some (33, true)⟩,
      ⟨(some 38), .bin .eql (.t 36) (.t 37), some (33, true)⟩,
      ⟨(some 39), .pick (.t 33) (.t 38) (.c (.bool false)), none⟩] (some [0, 1, 5, 6, 7, 8, 39]) none)
    (.cond (.t 39) (.seq (.reg none [
      ⟨(some 4), .mov (.c (.int .i64 0)), none⟩] (some [4]) none)
    .ret)
    .skip))
    (.seq (.seq (.reg none [
      ⟨(some 40), .mov (.t 7), none⟩,
      ⟨(some 10), .mov (.t 40), none⟩] (some [0, 1, 5, 6, 7, 8, 10]) none)
    (.block 2 (.loop internal_bytealg_IndexRabinKarp_string__L1)))
    (.seq (.reg none [
      ⟨(some 4), .mov (.c (.int .i64 (-1))), none⟩] (some [4]) none)
    .ret))))))))
def internal_bytealg_IndexRabinKarp_string__F : MF := ⟨81, [.t 4], internal_bytealg_IndexRabinKarp_string__M⟩
-- NOT COMPILED 77 internal/stringslite.Clone
-- NOT COMPILED 78 errors.New
theorem internal_bytealg_IndexRabinKarp_string__ok : OkF Tryd.prog 76 internal_bytealg_IndexRabinKarp_string__F Tryd.f76 (bodyOf Tryd.f76) := ⟨Tryd.func76, by kernel_rfl, by kernel_rfl, by kernel_rfl, by kernel_rfl⟩
-- internal/strconv.small
def internal_strconv_small_M : MC :=
  (.seq (.reg none [
      ⟨(some 2), .mov (.c (.str ⟨[].toArray⟩)), none⟩] (some [0]) none)
    (.seq (.seq (.reg none [
      ⟨(some 3), .mov (.t 0), none⟩,
      ⟨(some 4), .bin .lss (.t 3) (.c (.int .i64 10)), none⟩] (some [0, 4]) none)
    (.cond (.t 4) (.seq (.reg none [
      ⟨(some 5), .mov (.t 0), none⟩,
      ⟨(some 6), .mov (.t 0), none⟩,
      ⟨(some 7), .bin .add (.t 6) (.c (.int .i64 1)), none⟩,
      ⟨(some 8), .slStr (.c (.str ⟨[48, 49, 50, 51, 52, 53, 54, 55, 56, 57, 97, 98, 99, 100, 101, 102, 103, 104, 105, 106, 107, 108, 109, 110, 111, 112, 113, 114, 115, 116, 117, 118, 119, 120, 121, 122].toArray⟩)) (some (.t 5)) (some (.t 7)), none⟩,
      ⟨(some 2), .mov (.t 8), none⟩] (some [2]) none)
    .ret)
    .skip))
    (.seq (.reg none [
      ⟨(some 9), .mov (.t 0), none⟩,
      ⟨(some 10), .bin .mul (.t 9) (.c (.int .i64 2)), none⟩,
      ⟨(some 11), .mov (.t 0), none⟩,
      ⟨(some 12), .bin .mul (.t 11) (.c (.int .i64 2)), none⟩,
      ⟨(some 13), .bin .add (.t 12) (.c (.int .i64 2)), none⟩,
      ⟨(some 14), .slStr (.c (.str ⟨[48, 48, 48, 49, 48, 50, 48, 51, 48, 52, 48, 53, 48, 54, 48, 55, 48, 56, 48, 57, 49, 48, 49, 49, 49, 50, 49, 51, 49, 52, 49, 53, 49, 54, 49, 55, 49, 56, 49, 57, 50, 48, 50, 49, 50, 50, 50, 51, 50, 52, 50, 53, 50, 54, 50, 55, 50, 56, 50, 57, 51, 48, 51, 49, 51, 50, 51, 51, 51, 52, 51, 53, 51, 54, 51, 55, 51, 56, 51, 57, 52, 48, 52, 49, 52, 50, 52, 51, 52, 52, 52, 53, 52, 54, 52, 55, 52, 56, 52, 57, 53, 48, 53, 49, 53, 50, 53, 51, 53, 52, 53, 53, 53, 54, 53, 55, 53, 56, 53, 57, 54, 48, 54, 49, 54, 50, 54, 51, 54, 52, 54, 53, 54, 54, 54, 55, 54, 56, 54, 57, 55, 48, 55, 49, 55, 50, 55, 51, 55, 52, 55, 53, 55, 54, 55, 55, 55, 56, 55, 57, 56, 48, 56, 49, 56, 50, 56, 51, 56, 52, 56, 53, 56, 54, 56, 55, 56, 56, 56, 57, 57, 48, 57, 49, 57, 50, 57, 51, 57, 52, 57, 53, 57, 54, 57, 55, 57, 56, 57, 57].toArray⟩)) (some (.t 10)) (some (.t 13)), none⟩,
      ⟨(some 2), .mov (.t 14), none⟩] (some [2]) none)
    .ret)))
def internal_strconv_small_F : MF := ⟨15, [.t 2], internal_strconv_small_M⟩
-- NOT COMPILED 80 internal/strconv.numDigits
theorem internal_strconv_small_ok : OkF Tryd.prog 79 internal_strconv_small_F Tryd.f79 (bodyOf Tryd.f79) := ⟨Tryd.func79, by kernel_rfl, by kernel_rfl, by kernel_rfl, by kernel_rfl⟩
-- internal/strconv.formatBase10
def internal_strconv_formatBase10_L0 : MC :=
  (.seq (.seq (.reg none [
      ⟨(some 19), .mov (.t 4), none⟩,
      ⟨(some 20), .bin .geq (.t 19) (.c (.int .i64 8)), none⟩] (some [0, 1, 4, 20]) none)
    (.cond (.t 20) .skip
    (.exit 0)))
    (.block 1 (.seq (.reg none [
      ⟨(some 21), .mov (.t 1), none⟩,
      ⟨(some 22), .bin .rem (.t 21) (.c (.int .u64 100000000)), none⟩,
      ⟨(some 23), .conv .u32 (.t 22), none⟩,
      ⟨(some 5), .mov (.t 23), none⟩] (some [0, 1, 4, 5]) none)
    (.seq (.reg none [
      ⟨(some 24), .mov (.t 1), none⟩,
      ⟨(some 25), .bin .quo (.t 24) (.c (.int .u64 100000000)), none⟩,
      ⟨(some 1), .mov (.t 25), none⟩] (some [0, 1, 4, 5]) none)
    (.seq (.reg none [
      ⟨(some 26), .mov (.t 5), none⟩,
      ⟨(some 27), .bin .quo (.t 26) (.c (.int .u32 10000)), none⟩,
      ⟨(some 28), .mov (.t 5), none⟩,
      ⟨(some 29), .bin .rem (.t 28) (.c (.int .u32 10000)), none⟩,
      ⟨(some 6), .mov (.t 27), none⟩,
      ⟨(some 7), .mov (.t 29), none⟩] (some [0, 1, 4, 6, 7]) none)
    (.seq (.reg none [
      ⟨(some 30), .mov (.t 7), none⟩,
      ⟨(some 31), .bin .quo (.t 30) (.c (.int .u32 100)), none⟩,
      ⟨(some 32), .bin .mul (.t 31) (.c (.int .u32 2)), none⟩,
      ⟨(some 33), .mov (.t 7), none⟩,
      ⟨(some 34), .bin .rem (.t 33) (.c (.int .u32 100)), none⟩,
      ⟨(some 35), .bin .mul (.t 34) (.c (.int .u32 2)), none⟩,
      ⟨(some 8), .mov (.t 32), none⟩,
      ⟨(some 9), .mov (.t 35), none⟩] (some [0, 1, 4, 6, 8, 9]) none)
    (.seq (.reg none [
      ⟨(some 36), .mov (.t 6), none⟩,
      ⟨(some 37), .bin .quo (.t 36) (.c (.int .u32 100)), none⟩,
      ⟨(some 38), .bin .mul (.t 37) (.c (.int .u32 2)), none⟩,
      ⟨(some 39), .mov (.t 6), none⟩,
      ⟨(some 40), .bin .rem (.t 39) (.c (.int .u32 100)), none⟩,
      ⟨(some 41), .bin .mul (.t 40) (.c (.int .u32 2)), none⟩,
      ⟨(some 10), .mov (.t 38), none⟩,
      ⟨(some 11), .mov (.t 41), none⟩] (some [0, 1, 4, 8, 9, 10, 11]) none)
    (.seq (.reg (some []) [
      ⟨(some 42), .mov (.t 0), none⟩,
      ⟨(some 43), .mov (.t 4), none⟩,
      ⟨(some 44), .bin .sub (.t 43) (.c (.int .i64 1)), none⟩,
      ⟨(some 45), .mov (.t 0), none⟩,
      ⟨(some 46), .mov (.t 4), none⟩,
      ⟨(some 47), .bin .sub (.t 46) (.c (.int .i64 2)), none⟩,
      ⟨(some 48), .mov (.t 9), none⟩,
      ⟨(some 49), .bin .add (.t 48) (.c (.int .u32 1)), none⟩,
      ⟨(some 50), .ixS (.c (.str ⟨[48, 48, 48, 49, 48, 50, 48, 51, 48, 52, 48, 53, 48, 54, 48, 55, 48, 56, 48, 57, 49, 48, 49, 49, 49, 50, 49, 51, 49, 52, 49, 53, 49, 54, 49, 55, 49, 56, 49, 57, 50, 48, 50, 49, 50, 50, 50, 51, 50, 52, 50, 53, 50, 54, 50, 55, 50, 56, 50, 57, 51, 48, 51, 49, 51, 50, 51, 51, 51, 52, 51, 53, 51, 54, 51, 55, 51, 56, 51, 57, 52, 48, 52, 49, 52, 50, 52, 51, 52, 52, 52, 53, 52, 54, 52, 55, 52, 56, 52, 57, 53, 48, 53, 49, 53, 50, 53, 51, 53, 52, 53, 53, 53, 54, 53, 55, 53, 56, 53, 57, 54, 48, 54, 49, 54, 50, 54, 51, 54, 52, 54, 53, 54, 54, 54, 55, 54, 56, 54, 57, 55, 48, 55, 49, 55, 50, 55, 51, 55, 52, 55, 53, 55, 54, 55, 55, 55, 56, 55, 57, 56, 48, 56, 49, 56, 50, 56, 51, 56, 52, 56, 53, 56, 54, 56, 55, 56, 56, 56, 57, 57, 48, 57, 49, 57, 50, 57, 51, 57, 52, 57, 53, 57, 54, 57, 55, 57, 56, 57, 57].toArray⟩)) (.t 49), none⟩,
      ⟨(some 51), .mov (.t 9), none⟩,
      ⟨(some 52), .ixS (.c (.str ⟨[48, 48, 48, 49, 48, 50, 48, 51, 48, 52, 48, 53, 48, 54, 48, 55, 48, 56, 48, 57, 49, 48, 49, 49, 49, 50, 49, 51, 49, 52, 49, 53, 49, 54, 49, 55, 49, 56, 49, 57, 50, 48, 50, 49, 50, 50, 50, 51, 50, 52, 50, 53, 50, 54, 50, 55, 50, 56, 50, 57, 51, 48, 51, 49, 51, 50, 51, 51, 51, 52, 51, 53, 51, 54, 51, 55, 51, 56, 51, 57, 52, 48, 52, 49, 52, 50, 52, 51, 52, 52, 52, 53, 52, 54, 52, 55, 52, 56, 52, 57, 53, 48, 53, 49, 53, 50, 53, 51, 53, 52, 53, 53, 53, 54, 53, 55, 53, 56, 53, 57, 54, 48, 54, 49, 54, 50, 54, 51, 54, 52, 54, 53, 54, 54, 54, 55, 54, 56, 54, 57, 55, 48, 55, 49, 55, 50, 55, 51, 55, 52, 55, 53, 55, 54, 55, 55, 55, 56, 55, 57, 56, 48, 56, 49, 56, 50, 56, 51, 56, 52, 56, 53, 56, 54, 56, 55, 56, 56, 56, 57, 57, 48, 57, 49, 57, 50, 57, 51, 57, 52, 57, 53, 57, 54, 57, 55, 57, 56, 57, 57].toArray⟩)) (.t 51), none⟩,
      ⟨(some 53), .iaS 1 (.t 42) (.t 44), none⟩,
      ⟨none, .store 1 (.t 53) (.t 50), none⟩,
      ⟨(some 54), .iaS 1 (.t 45) (.t 47), none⟩,
      ⟨none, .store 1 (.t 54) (.t 52), none⟩] (some [0, 1, 4, 8, 10, 11]) none)
    (.seq (.reg (some []) [
      ⟨(some 55), .mov (.t 0), none⟩,
      ⟨(some 56), .mov (.t 4), none⟩,
      ⟨(some 57), .bin .sub (.t 56) (.c (.int .i64 3)), none⟩,
      ⟨(some 58), .mov (.t 0), none⟩,
      ⟨(some 59), .mov (.t 4), none⟩,
      ⟨(some 60), .bin .sub (.t 59) (.c (.int .i64 4)), none⟩,
      ⟨(some 61), .mov (.t 8), none⟩,
      ⟨(some 62), .bin .add (.t 61) (.c (.int .u32 1)), none⟩,
      ⟨(some 63), .ixS (.c (.str ⟨[48, 48, 48, 49, 48, 50, 48, 51, 48, 52, 48, 53, 48, 54, 48, 55, 48, 56, 48, 57, 49, 48, 49, 49, 49, 50, 49, 51, 49, 52, 49, 53, 49, 54, 49, 55, 49, 56, 49, 57, 50, 48, 50, 49, 50, 50, 50, 51, 50, 52, 50, 53, 50, 54, 50, 55, 50, 56, 50, 57, 51, 48, 51, 49, 51, 50, 51, 51, 51, 52, 51, 53, 51, 54, 51, 55, 51, 56, 51, 57, 52, 48, 52, 49, 52, 50, 52, 51, 52, 52, 52, 53, 52, 54, 52, 55, 52, 56, 52, 57, 53, 48, 53, 49, 53, 50, 53, 51, 53, 52, 53, 53, 53, 54, 53, 55, 53, 56, 53, 57, 54, 48, 54, 49, 54, 50, 54, 51, 54, 52, 54, 53, 54, 54, 54, 55, 54, 56, 54, 57, 55, 48, 55, 49, 55, 50, 55, 51, 55, 52, 55, 53, 55, 54, 55, 55, 55, 56, 55, 57, 56, 48, 56, 49, 56, 50, 56, 51, 56, 52, 56, 53, 56, 54, 56, 55, 56, 56, 56, 57, 57, 48, 57, 49, 57, 50, 57, 51, 57, 52, 57, 53, 57, 54, 57, 55, 57, 56, 57, 57].toArray⟩)) (.t 62), none⟩,
      ⟨(some 64), .mov (.t 8), none⟩,
      ⟨(some 65), .ixS (.c (.str ⟨[48, 48, 48, 49, 48, 50, 48, 51, 48, 52, 48, 53, 48, 54, 48, 55, 48, 56, 48, 57, 49, 48, 49, 49, 49, 50, 49, 51, 49, 52, 49, 53, 49, 54, 49, 55, 49, 56, 49, 57, 50, 48, 50, 49, 50, 50, 50, 51, 50, 52, 50, 53, 50, 54, 50, 55, 50, 56, 50, 57, 51, 48, 51, 49, 51, 50, 51, 51, 51, 52, 51, 53, 51, 54, 51, 55, 51, 56, 51, 57, 52, 48, 52, 49, 52, 50, 52, 51, 52, 52, 52, 53, 52, 54, 52, 55, 52, 56, 52, 57, 53, 48, 53, 49, 53, 50, 53, 51, 53, 52, 53, 53, 53, 54, 53, 55, 53, 56, 53, 57, 54, 48, 54, 49, 54, 50, 54, 51, 54, 52, 54, 53, 54, 54, 54, 55, 54, 56, 54, 57, 55, 48, 55, 49, 55, 50, 55, 51, 55, 52, 55, 53, 55, 54, 55, 55, 55, 56, 55, 57, 56, 48, 56, 49, 56, 50, 56, 51, 56, 52, 56, 53, 56, 54, 56, 55, 56, 56, 56, 57, 57, 48, 57, 49, 57, 50, 57, 51, 57, 52, 57, 53, 57, 54, 57, 55, 57, 56, 57, 57].toArray⟩)) (.t 64), none⟩,
      ⟨(some 66), .iaS 1 (.t 55) (.t 57), none⟩,
      ⟨none, .store 1 (.t 66) (.t 63), none⟩,
      ⟨(some 67), .iaS 1 (.t 58) (.t 60), none⟩,
      ⟨none, .store 1 (.t 67) (.t 65), none⟩] (some [0, 1, 4, 10, 11]) none)
    (.seq (.reg (some []) [
      ⟨(some 68), .mov (.t 0), none⟩,
      ⟨(some 69), .mov (.t 4), none⟩,
      ⟨(some 70), .bin .sub (.t 69) (.c (.int .i64 5)), none⟩,
      ⟨(some 71), .mov (.t 0), none⟩,
      ⟨(some 72), .mov (.t 4), none⟩,
      ⟨(some 73), .bin .sub (.t 72) (.c (.int .i64 6)), none⟩,
      ⟨(some 74), .mov (.t 11), none⟩,
      ⟨(some 75), .bin .add (.t 74) (.c (.int .u32 1)), none⟩,
      ⟨(some 76), .ixS (.c (.str ⟨[48, 48, 48, 49, 48, 50, 48, 51, 48, 52, 48, 53, 48, 54, 48, 55, 48, 56, 48, 57, 49, 48, 49, 49, 49, 50, 49, 51, 49, 52, 49, 53, 49, 54, 49, 55, 49, 56, 49, 57, 50, 48, 50, 49, 50, 50, 50, 51, 50, 52, 50, 53, 50, 54, 50, 55, 50, 56, 50, 57, 51, 48, 51, 49, 51, 50, 51, 51, 51, 52, 51, 53, 51, 54, 51, 55, 51, 56, 51, 57, 52, 48, 52, 49, 52, 50, 52, 51, 52, 52, 52, 53, 52, 54, 52, 55, 52, 56, 52, 57, 53, 48, 53, 49, 53, 50, 53, 51, 53, 52, 53, 53, 53, 54, 53, 55, 53, 56, 53, 57, 54, 48, 54, 49, 54, 50, 54, 51, 54, 52, 54, 53, 54, 54, 54, 55, 54, 56, 54, 57, 55, 48, 55, 49, 55, 50, 55, 51, 55, 52, 55, 53, 55, 54, 55, 55, 55, 56, 55, 57, 56, 48, 56, 49, 56, 50, 56, 51, 56, 52, 56, 53, 56, 54, 56, 55, 56, 56, 56, 57, 57, 48, 57, 49, 57, 50, 57, 51, 57, 52, 57, 53, 57, 54, 57, 55, 57, 56, 57, 57].toArray⟩)) (.t 75), none⟩,
      ⟨(some 77), .mov (.t 11), none⟩,
      ⟨(some 78), .ixS (.c (.str ⟨[48, 48, 48, 49, 48, 50, 48, 51, 48, 52, 48, 53, 48, 54, 48, 55, 48, 56, 48, 57, 49, 48, 49, 49, 49, 50, 49, 51, 49, 52, 49, 53, 49, 54, 49, 55, 49, 56, 49, 57, 50, 48, 50, 49, 50, 50, 50, 51, 50, 52, 50, 53, 50, 54, 50, 55, 50, 56, 50, 57, 51, 48, 51, 49, 51, 50, 51, 51, 51, 52, 51, 53, 51, 54, 51, 55, 51, 56, 51, 57, 52, 48, 52, 49, 52, 50, 52, 51, 52, 52, 52, 53, 52, 54, 52, 55, 52, 56, 52, 57, 53, 48, 53, 49, 53, 50, 53, 51, 53, 52, 53, 53, 53, 54, 53, 55, 53, 56, 53, 57, 54, 48, 54, 49, 54, 50, 54, 51, 54, 52, 54, 53, 54, 54, 54, 55, 54, 56, 54, 57, 55, 48, 55, 49, 55, 50, 55, 51, 55, 52, 55, 53, 55, 54, 55, 55, 55, 56, 55, 57, 56, 48, 56, 49, 56, 50, 56, 51, 56, 52, 56, 53, 56, 54, 56, 55, 56, 56, 56, 57, 57, 48, 57, 49, 57, 50, 57, 51, 57, 52, 57, 53, 57, 54, 57, 55, 57, 56, 57, 57].toArray⟩)) (.t 77), none⟩,
      ⟨(some 79), .iaS 1 (.t 68) (.t 70), none⟩,
      ⟨none, .store 1 (.t 79) (.t 76), none⟩,
      ⟨(some 80), .iaS 1 (.t 71) (.t 73), none⟩,
      ⟨none, .store 1 (.t 80) (.t 78), none⟩] (some [0, 1, 4, 10]) none)
    (.seq (.reg (some []) [
      ⟨(some 81), .mov (.t 0), none⟩,
      ⟨(some 82), .mov (.t 4), none⟩,
      ⟨(some 83), .bin .sub (.t 82) (.c (.int .i64 7)), none⟩,
      ⟨(some 84), .mov (.t 0), none⟩,
      ⟨(some 85), .mov (.t 4), none⟩,
      ⟨(some 86), .bin .sub (.t 85) (.c (.int .i64 8)), none⟩,
      ⟨(some 87), .mov (.t 10), none⟩,
      ⟨(some 88), .bin .add (.t 87) (.c (.int .u32 1)), none⟩,
      ⟨(some 89), .ixS (.c (.str ⟨[48, 48, 48, 49, 48, 50, 48, 51, 48, 52, 48, 53, 48, 54, 48, 55, 48, 56, 48, 57, 49, 48, 49, 49, 49, 50, 49, 51, 49, 52, 49, 53, 49, 54, 49, 55, 49, 56, 49, 57, 50, 48, 50, 49, 50, 50, 50, 51, 50, 52, 50, 53, 50, 54, 50, 55, 50, 56, 50, 57, 51, 48, 51, 49, 51, 50, 51, 51, 51, 52, 51, 53, 51, 54, 51, 55, 51, 56, 51, 57, 52, 48, 52, 49, 52, 50, 52, 51, 52, 52, 52, 53, 52, 54, 52, 55, 52, 56, 52, 57, 53, 48, 53, 49, 53, 50, 53, 51, 53, 52, 53, 53, 53, 54, 53, 55, 53, 56, 53, 57, 54, 48, 54, 49, 54, 50, 54, 51, 54, 52, 54, 53, 54, 54, 54, 55, 54, 56, 54, 57, 55, 48, 55, 49, 55, 50, 55, 51, 55, 52, 55, 53, 55, 54, 55, 55, 55, 56, 55, 57, 56, 48, 56, 49, 56, 50, 56, 51, 56, 52, 56, 53, 56, 54, 56, 55, 56, 56, 56, 57, 57, 48, 57, 49, 57, 50, 57, 51, 57, 52, 57, 53, 57, 54, 57, 55, 57, 56, 57, 57].toArray⟩)) (.t 88), none⟩,
      ⟨(some 90), .mov (.t 10), none⟩,
      ⟨(some 91), .ixS (.c (.str ⟨[48, 48, 48, 49, 48, 50, 48, 51, 48, 52, 48, 53, 48, 54, 48, 55, 48, 56, 48, 57, 49, 48, 49, 49, 49, 50, 49, 51, 49, 52, 49, 53, 49, 54, 49, 55, 49, 56, 49, 57, 50, 48, 50, 49, 50, 50, 50, 51, 50, 52, 50, 53, 50, 54, 50, 55, 50, 56, 50, 57, 51, 48, 51, 49, 51, 50, 51, 51, 51, 52, 51, 53, 51, 54, 51, 55, 51, 56, 51, 57, 52, 48, 52, 49, 52, 50, 52, 51, 52, 52, 52, 53, 52, 54, 52, 55, 52, 56, 52, 57, 53, 48, 53, 49, 53, 50, 53, 51, 53, 52, 53, 53, 53, 54, 53, 55, 53, 56, 53, 57, 54, 48, 54, 49, 54, 50, 54, 51, 54, 52, 54, 53, 54, 54, 54, 55, 54, 56, 54, 57, 55, 48, 55, 49, 55, 50, 55, 51, 55, 52, 55, 53, 55, 54, 55, 55, 55, 56, 55, 57, 56, 48, 56, 49, 56, 50, 56, 51, 56, 52, 56, 53, 56, 54, 56, 55, 56, 56, 56, 57, 57, 48, 57, 49, 57, 50, 57, 51, 57, 52, 57, 53, 57, 54, 57, 55, 57, 56, 57, 57].toArray⟩)) (.t 90), none⟩,
      ⟨(some 92), .iaS 1 (.t 81) (.t 83), none⟩,
      ⟨none, .store 1 (.t 92) (.t 89), none⟩,
      ⟨(some 93), .iaS 1 (.t 84) (.t 86), none⟩,
      ⟨none, .store 1 (.t 93) (.t 91), none⟩] (some [0, 1, 4]) none)
    (.reg none [
      ⟨(some 94), .mov (.t 4), none⟩,
      ⟨(some 95), .bin .sub (.t 94) (.c (.int .i64 8)), none⟩,
      ⟨(some 4), .mov (.t 95), none⟩] (some [0, 1, 4]) none))))))))))))
def internal_strconv_formatBase10_M : MC :=
  (.seq (.reg none [
      ⟨(some 17), .mov (.t 0), none⟩,
      ⟨(some 18), .lenS (.t 17), none⟩,
      ⟨(some 4), .mov (.t 18), none⟩] (some [0, 1, 4]) none)
    (.seq (.block 0 (.loop internal_strconv_formatBase10_L0))
    (.seq (.reg none [
      ⟨(some 96), .mov (.t 1), none⟩,
      ⟨(some 97), .conv .u32 (.t 96), none⟩,
      ⟨(some 12), .mov (.t 97), none⟩] (some [0, 4, 12]) none)
    (.seq (.seq (.reg none [
      ⟨(some 98), .mov (.t 4), none⟩,
      ⟨(some 99), .bin .geq (.t 98) (.c (.int .i64 4)), none⟩] (some [0, 4, 12, 99]) none)
    (.cond (.t 99) (.seq (.reg none [
      ⟨(some 100), .mov (.t 12), none⟩,
      ⟨(some 101), .bin .rem (.t 100) (.c (.int .u32 10000)), none⟩,
      ⟨(some 13), .mov (.t 101), none⟩] (some [0, 4, 12, 13]) none)
    (.seq (.reg none [
      ⟨(some 102), .mov (.t 12), none⟩,
      ⟨(some 103), .bin .quo (.t 102) (.c (.int .u32 10000)), none⟩,
      ⟨(some 12), .mov (.t 103), none⟩] (some [0, 4, 12, 13]) none)
    (.seq (.reg none [
      ⟨(some 104), .mov (.t 13), none⟩,
      ⟨(some 105), .bin .quo (.t 104) (.c (.int .u32 100)), none⟩,
      ⟨(some 106), .bin .mul (.t 105) (.c (.int .u32 2)), none⟩,
      ⟨(some 107), .mov (.t 13), none⟩,
      ⟨(some 108), .bin .rem (.t 107) (.c (.int .u32 100)), none⟩,
      ⟨(some 109), .bin .mul (.t 108) (.c (.int .u32 2)), none⟩,
      ⟨(some 14), .mov (.t 106), none⟩,
      ⟨(some 15), .mov (.t 109), none⟩] (some [0, 4, 12, 14, 15]) none)
    (.seq (.reg (some []) [
      ⟨(some 110), .mov (.t 0), none⟩,
      ⟨(some 111), .mov (.t 4), none⟩,
      ⟨(some 112), .bin .sub (.t 111) (.c (.int .i64 1)), none⟩,
      ⟨(some 113), .mov (.t 0), none⟩,
      ⟨(some 114), .mov (.t 4), none⟩,
      ⟨(some 115), .bin .sub (.t 114) (.c (.int .i64 2)), none⟩,
      ⟨(some 116), .mov (.t 15), none⟩,
      ⟨(some 117), .bin .add (.t 116) (.c (.int .u32 1)), none⟩,
      ⟨(some 118), .ixS (.c (.str ⟨[48, 48, 48, 49, 48, 50, 48, 51, 48, 52, 48, 53, 48, 54, 48, 55, 48, 56, 48, 57, 49, 48, 49, 49, 49, 50, 49, 51, 49, 52, 49, 53, 49, 54, 49, 55, 49, 56, 49, 57, 50, 48, 50, 49, 50, 50, 50, 51, 50, 52, 50, 53, 50, 54, 50, 55, 50, 56, 50, 57, 51, 48, 51, 49, 51, 50, 51, 51, 51, 52, 51, 53, 51, 54, 51, 55, 51, 56, 51, 57, 52, 48, 52, 49, 52, 50, 52, 51, 52, 52, 52, 53, 52, 54, 52, 55, 52, 56, 52, 57, 53, 48, 53, 49, 53, 50, 53, 51, 53, 52, 53, 53, 53, 54, 53, 55, 53, 56, 53, 57, 54, 48, 54, 49, 54, 50, 54, 51, 54, 52, 54, 53, 54, 54, 54, 55, 54, 56, 54, 57, 55, 48, 55, 49, 55, 50, 55, 51, 55, 52, 55, 53, 55, 54, 55, 55, 55, 56, 55, 57, 56, 48, 56, 49, 56, 50, 56, 51, 56, 52, 56, 53, 56, 54, 56, 55, 56, 56, 56, 57, 57, 48, 57, 49, 57, 50, 57, 51, 57, 52, 57, 53, 57, 54, 57, 55, 57, 56, 57, 57].toArray⟩)) (.t 117), none⟩,
      ⟨(some 119), .mov (.t 15), none⟩,
      ⟨(some 120), .ixS (.c (.str ⟨[48, 48, 48, 49, 48, 50, 48, 51, 48, 52, 48, 53, 48, 54, 48, 55, 48, 56, 48, 57, 49, 48, 49, 49, 49, 50, 49, 51, 49, 52, 49, 53, 49, 54, 49, 55, 49, 56, 49, 57, 50, 48, 50, 49, 50, 50, 50, 51, 50, 52, 50, 53, 50, 54, 50, 55, 50, 56, 50, 57, 51, 48, 51, 49, 51, 50, 51, 51, 51, 52, 51, 53, 51, 54, 51, 55, 51, 56, 51, 57, 52, 48, 52, 49, 52, 50, 52, 51, 52, 52, 52, 53, 52, 54, 52, 55, 52, 56, 52, 57, 53, 48, 53, 49, 53, 50, 53, 51, 53, 52, 53, 53, 53, 54, 53, 55, 53, 56, 53, 57, 54, 48, 54, 49, 54, 50, 54, 51, 54, 52, 54, 53, 54, 54, 54, 55, 54, 56, 54, 57, 55, 48, 55, 49, 55, 50, 55, 51, 55, 52, 55, 53, 55, 54, 55, 55, 55, 56, 55, 57, 56, 48, 56, 49, 56, 50, 56, 51, 56, 52, 56, 53, 56, 54, 56, 55, 56, 56, 56, 57, 57, 48, 57, 49, 57, 50, 57, 51, 57, 52, 57, 53, 57, 54, 57, 55, 57, 56, 57, 57].toArray⟩)) (.t 119), none⟩,
      ⟨(some 121), .iaS 1 (.t 110) (.t 112), none⟩,
      ⟨none, .store 1 (.t 121) (.t 118), none⟩,
      ⟨(some 122), .iaS 1 (.t 113) (.t 115), none⟩,
      ⟨none, .store 1 (.t 122) (.t 120), none⟩] (some [0, 4, 12, 14]) none)
    (.seq (.reg (some []) [
      ⟨(some 123), .mov (.t 0), none⟩,
      ⟨(some 124), .mov (.t 4), none⟩,
      ⟨(some 125), .bin .sub (.t 124) (.c (.int .i64 3)), none⟩,
      ⟨(some 126), .mov (.t 0), none⟩,
      ⟨(some 127), .mov (.t 4), none⟩,
      ⟨(some 128), .bin .sub (.t 127) (.c (.int .i64 4)), none⟩,
      ⟨(some 129), .mov (.t 14), none⟩,
      ⟨(some 130), .bin .add (.t 129) (.c (.int .u32 1)), none⟩,
      ⟨(some 131), .ixS (.c (.str ⟨[48, 48, 48, 49, 48, 50, 48, 51, 48, 52, 48, 53, 48, 54, 48, 55, 48, 56, 48, 57, 49, 48, 49, 49, 49, 50, 49, 51, 49, 52, 49, 53, 49, 54, 49, 55, 49, 56, 49, 57, 50, 48, 50, 49, 50, 50, 50, 51, 50, 52, 50, 53, 50, 54, 50, 55, 50, 56, 50, 57, 51, 48, 51, 49, 51, 50, 51, 51, 51, 52, 51, 53, 51, 54, 51, 55, 51, 56, 51, 57, 52, 48, 52, 49, 52, 50, 52, 51, 52, 52, 52, 53, 52, 54, 52, 55, 52, 56, 52, 57, 53, 48, 53, 49, 53, 50, 53, 51, 53, 52, 53, 53, 53, 54, 53, 55, 53, 56, 53, 57, 54, 48, 54, 49, 54, 50, 54, 51, 54, 52, 54, 53, 54, 54, 54, 55, 54, 56, 54, 57, 55, 48, 55, 49, 55, 50, 55, 51, 55, 52, 55, 53, 55, 54, 55, 55, 55, 56, 55, 57, 56, 48, 56, 49, 56, 50, 56, 51, 56, 52, 56, 53, 56, 54, 56, 55, 56, 56, 56, 57, 57, 48, 57, 49, 57, 50, 57, 51, 57, 52, 57, 53, 57, 54, 57, 55, 57, 56, 57, 57].toArray⟩)) (.t 130), none⟩,
      ⟨(some 132), .mov (.t 14), none⟩,
      ⟨(some 133), .ixS (.c (.str ⟨[48, 48, 48, 49, 48, 50, 48, 51, 48, 52, 48, 53, 48, 54, 48, 55, 48, 56, 48, 57, 49, 48, 49, 49, 49, 50, 49, 51, 49, 52, 49, 53, 49, 54, 49, 55, 49, 56, 49, 57, 50, 48, 50, 49, 50, 50, 50, 51, 50, 52, 50, 53, 50, 54, 50, 55, 50, 56, 50, 57, 51, 48, 51, 49, 51, 50, 51, 51, 51, 52, 51, 53, 51, 54, 51, 55, 51, 56, 51, 57, 52, 48, 52, 49, 52, 50, 52, 51, 52, 52, 52, 53, 52, 54, 52, 55, 52, 56, 52, 57, 53, 48, 53, 49, 53, 50, 53, 51, 53, 52, 53, 53, 53, 54, 53, 55, 53, 56, 53, 57, 54, 48, 54, 49, 54, 50, 54, 51, 54, 52, 54, 53, 54, 54, 54, 55, 54, 56, 54, 57, 55, 48, 55, 49, 55, 50, 55, 51, 55, 52, 55, 53, 55, 54, 55, 55, 55, 56, 55, 57, 56, 48, 56, 49, 56, 50, 56, 51, 56, 52, 56, 53, 56, 54, 56, 55, 56, 56, 56, 57, 57, 48, 57, 49, 57, 50, 57, 51, 57, 52, 57, 53, 57, 54, 57, 55, 57, 56, 57, 57].toArray⟩)) (.t 132), none⟩,
      ⟨(some 134), .iaS 1 (.t 123) (.t 125), none⟩,
      ⟨none, .store 1 (.t 134) (.t 131), none⟩,
      ⟨(some 135), .iaS 1 (.t 126) (.t 128), none⟩,
      ⟨none, .store 1 (.t 135) (.t 133), none⟩] (some [0, 4, 12]) none)
    (.reg none [
      ⟨(some 136), .mov (.t 4), none⟩,
      ⟨(some 137), .bin .sub (.t 136) (.c (.int .i64 4)), none⟩,
      ⟨(some 4), .mov (.t 137), none⟩] (some [0, 4, 12]) none))))))
    .skip))
    (.seq (.seq (.reg none [
      ⟨(some 138), .mov (.t 4), none⟩,
      ⟨(some 139), .bin .geq (.t 138) (.c (.int .i64 2)), none⟩] (some [0, 4, 12, 139]) none)
    (.cond (.t 139) (.seq (.reg none [
      ⟨(some 140), .mov (.t 12), none⟩,
      ⟨(some 141), .bin .rem (.t 140) (.c (.int .u32 100)), none⟩,
      ⟨(some 142), .bin .mul (.t 141) (.c (.int .u32 2)), none⟩,
      ⟨(some 16), .mov (.t 142), none⟩] (some [0, 4, 12, 16]) none)
    (.seq (.reg none [
      ⟨(some 143), .mov (.t 12), none⟩,
      ⟨(some 144), .bin .quo (.t 143) (.c (.int .u32 100)), none⟩,
      ⟨(some 12), .mov (.t 144), none⟩] (some [0, 4, 12, 16]) none)
    (.seq (.reg (some []) [
      ⟨(some 145), .mov (.t 0), none⟩,
      ⟨(some 146), .mov (.t 4), none⟩,
      ⟨(some 147), .bin .sub (.t 146) (.c (.int .i64 1)), none⟩,
      ⟨(some 148), .mov (.t 0), none⟩,
      ⟨(some 149), .mov (.t 4), none⟩,
      ⟨(some 150), .bin .sub (.t 149) (.c (.int .i64 2)), none⟩,
      ⟨(some 151), .mov (.t 16), none⟩,
      ⟨(some 152), .bin .add (.t 151) (.c (.int .u32 1)), none⟩,
      ⟨(some 153), .ixS (.c (.str ⟨[48, 48, 48, 49, 48, 50, 48, 51, 48, 52, 48, 53, 48, 54, 48, 55, 48, 56, 48, 57, 49, 48, 49, 49, 49, 50, 49, 51, 49, 52, 49, 53, 49, 54, 49, 55, 49, 56, 49, 57, 50, 48, 50, 49, 50, 50, 50, 51, 50, 52, 50, 53, 50, 54, 50, 55, 50, 56, 50, 57, 51, 48, 51, 49, 51, 50, 51, 51, 51, 52, 51, 53, 51, 54, 51, 55, 51, 56, 51, 57, 52, 48, 52, 49, 52, 50, 52, 51, 52, 52, 52, 53, 52, 54, 52, 55, 52, 56, 52, 57, 53, 48, 53, 49, 53, 50, 53, 51, 53, 52, 53, 53, 53, 54, 53, 55, 53, 56, 53, 57, 54, 48, 54, 49, 54, 50, 54, 51, 54, 52, 54, 53, 54, 54, 54, 55, 54, 56, 54, 57, 55, 48, 55, 49, 55, 50, 55, 51, 55, 52, 55, 53, 55, 54, 55, 55, 55, 56, 55, 57, 56, 48, 56, 49, 56, 50, 56, 51, 56, 52, 56, 53, 56, 54, 56, 55, 56, 56, 56, 57, 57, 48, 57, 49, 57, 50, 57, 51, 57, 52, 57, 53, 57, 54, 57, 55, 57, 56, 57, 57].toArray⟩)) (.t 152), none⟩,
      ⟨(some 154), .mov (.t 16), none⟩,
      ⟨(some 155), .ixS (.c (.str ⟨[48, 48, 48, 49, 48, 50, 48, 51, 48, 52, 48, 53, 48, 54, 48, 55, 48, 56, 48, 57, 49, 48, 49, 49, 49, 50, 49, 51, 49, 52, 49, 53, 49, 54, 49, 55, 49, 56, 49, 57, 50, 48, 50, 49, 50, 50, 50, 51, 50, 52, 50, 53, 50, 54, 50, 55, 50, 56, 50, 57, 51, 48, 51, 49, 51, 50, 51, 51, 51, 52, 51, 53, 51, 54, 51, 55, 51, 56, 51, 57, 52, 48, 52, 49, 52, 50, 52, 51, 52, 52, 52, 53, 52, 54, 52, 55, 52, 56, 52, 57, 53, 48, 53, 49, 53, 50, 53, 51, 53, 52, 53, 53, 53, 54, 53, 55, 53, 56, 53, 57, 54, 48, 54, 49, 54, 50, 54, 51, 54, 52, 54, 53, 54, 54, 54, 55, 54, 56, 54, 57, 55, 48, 55, 49, 55, 50, 55, 51, 55, 52, 55, 53, 55, 54, 55, 55, 55, 56, 55, 57, 56, 48, 56, 49, 56, 50, 56, 51, 56, 52, 56, 53, 56, 54, 56, 55, 56, 56, 56, 57, 57, 48, 57, 49, 57, 50, 57, 51, 57, 52, 57, 53, 57, 54, 57, 55, 57, 56, 57, 57].toArray⟩)) (.t 154), none⟩,
      ⟨(some 156), .iaS 1 (.t 145) (.t 147), none⟩,
      ⟨none, .store 1 (.t 156) (.t 153), none⟩,
      ⟨(some 157), .iaS 1 (.t 148) (.t 150), none⟩,
      ⟨none, .store 1 (.t 157) (.t 155), none⟩] (some [0, 4, 12]) none)
    (.reg none [
      ⟨(some 158), .mov (.t 4), none⟩,
      ⟨(some 159), .bin .sub (.t 158) (.c (.int .i64 2)), none⟩,
      ⟨(some 4), .mov (.t 159), none⟩] (some [0, 4, 12]) none))))
    .skip))
    (.seq (.reg none [
      ⟨(some 160), .mov (.t 4), none⟩,
      ⟨(some 161), .bin .gtr (.t 160) (.c (.int .i64 0)), none⟩] (some [0, 12, 161]) none)
    (.cond (.t 161) (.reg none [
      ⟨(some 162), .mov (.t 0), none⟩,
      ⟨(some 163), .mov (.t 12), none⟩,
      ⟨(some 164), .bin .add (.c (.int .u32 48)) (.t 163), none⟩,
      ⟨(some 165), .conv .u8 (.t 164), none⟩,
      ⟨(some 166), .iaS 1 (.t 162) (.c (.int .i64 0)), none⟩,
      ⟨none, .store 1 (.t 166) (.t 165), none⟩] (some []) none)
    .skip)))))))
def internal_strconv_formatBase10_F : MF := ⟨167, [], internal_strconv_formatBase10_M⟩
-- NOT COMPILED 82 internal/strconv.formatBits
-- NOT COMPILED 83 unicode/utf8.decodeRuneInStringSlow
theorem internal_strconv_formatBase10_ok : OkF Tryd.prog 81 internal_strconv_formatBase10_F Tryd.f81 (bodyOf Tryd.f81) := ⟨Tryd.func81, by kernel_rfl, by kernel_rfl, by kernel_rfl, by kernel_rfl⟩
-- internal/bytealg.hashStr[string]
def internal_bytealg_hashStr_string__L0 : MC :=
  (.seq (.seq (.reg none [
      ⟨(some 9), .mov (.t 5), none⟩,
      ⟨(some 10), .mov (.t 0), none⟩,
      ⟨(some 11), .lenStr (.t 10), none⟩,
      ⟨(some 12), .bin .lss (.t 9) (.t 11), none⟩] (some [0, 4, 5, 12]) none)
    (.cond (.t 12) .skip
    (.exit 0)))
    (.seq (.block 1 (.reg none [
      ⟨(some 15), .mov (.t 4), none⟩,
      ⟨(some 16), .bin .mul (.t 15) (.c (.int .u32 16777619)), none⟩,
      ⟨(some 17), .mov (.t 0), none⟩,
      ⟨(some 18), .mov (.t 5), none⟩,
      ⟨(some 19), .ixS (.t 17) (.t 18), none⟩,
      ⟨(some 20), .conv .u32 (.t 19), none⟩,
      ⟨(some 21), .bin .add (.t 16) (.t 20), none⟩,
      ⟨(some 4), .mov (.t 21), none⟩] (some [0, 4, 5]) none))
    (.reg none [
      ⟨(some 13), .mov (.t 5), none⟩,
      ⟨(some 14), .bin .add (.t 13) (.c (.int .i64 1)), none⟩,
      ⟨(some 5), .mov (.t 14), none⟩] (some [0, 4, 5]) none)))
def internal_bytealg_hashStr_string__L1 : MC :=
  (.seq (.seq (.reg none [
      ⟨(some 24), .mov (.t 8), none⟩,
      ⟨(some 25), .bin .gtr (.t 24) (.c (.int .i64 0)), none⟩] (some [4, 6, 7, 8, 25]) none)
    (.cond (.t 25) .skip
    (.exit 2)))
    (.seq (.block 3 (.seq (.seq (.reg none [
      ⟨(some 28), .mov (.t 8), none⟩,
      ⟨(some 29), .bin .and (.t 28) (.c (.int .i64 1)), none⟩,
      ⟨(some 30), .bin .neq (.t 29) (.c (.int .i64 0)), none⟩] (some [4, 6, 7, 8, 30]) none)
    (.cond (.t 30) (.reg none [
      ⟨(some 31), .mov (.t 6), none⟩,
      ⟨(some 32), .mov (.t 7), none⟩,
      ⟨(some 33), .bin .mul (.t 31) (.t 32), none⟩,
      ⟨(some 6), .mov (.t 33), none⟩] (some [4, 6, 7, 8]) none)
    .skip))
    (.reg none [
      ⟨(some 34), .mov (.t 7), none⟩,
      ⟨(some 35), .mov (.t 7), none⟩,
      ⟨(some 36), .bin .mul (.t 34) (.t 35), none⟩,
      ⟨(some 7), .mov (.t 36), none⟩] (some [4, 6, 7, 8]) none)))
    (.reg none [
      ⟨(some 26), .mov (.t 8), none⟩,
      ⟨(some 27), .bin .shr (.t 26) (.c (.int .u64 1)), none⟩,
      ⟨(some 8), .mov (.t 27), none⟩] (some [4, 6, 7, 8]) none)))
def internal_bytealg_hashStr_string__M : MC :=
  (.seq (.reg none [
      ⟨(some 2), .mov (.c (.int .u32 0)), none⟩,
      ⟨(some 3), .mov (.c (.int .u32 0)), none⟩] (some [0]) none)
    (.seq (.reg none [
      ⟨(some 4), .mov (.c (.int .u32 0)), none⟩] (some [0, 4]) none)
    (.seq (.seq (.reg none [
      ⟨(some 5), .mov (.c (.int .i64 0)), none⟩] (some [0, 4, 5]) none)
    (.block 0 (.loop internal_bytealg_hashStr_string__L0)))
    (.seq (.reg none [
      ⟨(some 6), .mov (.c (.int .u32 1)), none⟩,
      ⟨(some 7), .mov (.c (.int .u32 16777619)), none⟩] (some [0, 4, 6, 7]) none)
    (.seq (.seq (.reg none [
      ⟨(some 22), .mov (.t 0), none⟩,
      ⟨(some 23), .lenStr (.t 22), none⟩,
      ⟨(some 8), .mov (.t 23), none⟩] (some [4, 6, 7, 8]) none)
    (.block 2 (.loop internal_bytealg_hashStr_string__L1)))
    (.seq (.reg none [
      ⟨(some 37), .mov (.t 4), none⟩,
      ⟨(some 38), .mov (.t 6), none⟩,
      ⟨(some 2), .mov (.t 37), none⟩,
      ⟨(some 3), .mov (.t 38), none⟩] (some [2, 3]) none)
    .ret))))))
def internal_bytealg_hashStr_string__F : MF := ⟨39, [.t 2, .t 3], internal_bytealg_hashStr_string__M⟩
theorem internal_bytealg_hashStr_string__ok : OkF Tryd.prog 85 internal_bytealg_hashStr_string__F Tryd.f85 (bodyOf Tryd.f85) := ⟨Tryd.func85, by kernel_rfl, by kernel_rfl, by kernel_rfl, by kernel_rfl⟩
-- internal/strconv.log10Pow2
def internal_strconv_log10Pow2_M : MC :=
  (.seq (.reg none [
      ⟨(some 2), .mov (.c (.int .i64 0)), none⟩] (some [0]) none)
    (.seq (.reg none [
      ⟨(some 3), .mov (.t 0), none⟩,
      ⟨(some 4), .bin .mul (.t 3) (.c (.int .i64 78913)), none⟩,
      ⟨(some 5), .bin .shr (.t 4) (.c (.int .u64 18)), none⟩,
      ⟨(some 2), .mov (.t 5), none⟩] (some [2]) none)
    .ret))
def internal_strconv_log10Pow2_F : MF := ⟨6, [.t 2], internal_strconv_log10Pow2_M⟩
theorem internal_strconv_log10Pow2_ok : OkF Tryd.prog 86 internal_strconv_log10Pow2_F Tryd.f86 (bodyOf Tryd.f86) := ⟨Tryd.func86, by kernel_rfl, by kernel_rfl, by kernel_rfl, by kernel_rfl⟩
-- math/bits.Len64
def math_bits_Len64_M : MC :=
  (.seq (.reg none [
      ⟨(some 2), .mov (.c (.int .i64 0)), none⟩] (some [0, 2]) none)
    (.seq (.seq (.reg none [
      ⟨(some 3), .mov (.t 0), none⟩,
      ⟨(some 4), .bin .geq (.t 3) (.c (.int .u64 4294967296)), none⟩] (some [0, 2, 4]) none)
    (.cond (.t 4) (.seq (.reg none [
      ⟨(some 5), .mov (.t 0), none⟩,
      ⟨(some 6), .bin .shr (.t 5) (.c (.int .u64 32)), none⟩,
      ⟨(some 0), .mov (.t 6), none⟩] (some [0]) none)
    (.reg none [
      ⟨(some 2), .mov (.c (.int .i64 32)), none⟩] (some [0, 2]) none))
    .skip))
    (.seq (.seq (.reg none [
      ⟨(some 7), .mov (.t 0), none⟩,
      ⟨(some 8), .bin .geq (.t 7) (.c (.int .u64 65536)), none⟩] (some [0, 2, 8]) none)
    (.cond (.t 8) (.seq (.reg none [
      ⟨(some 9), .mov (.t 0), none⟩,
      ⟨(some 10), .bin .shr (.t 9) (.c (.int .u64 16)), none⟩,
      ⟨(some 0), .mov (.t 10), none⟩] (some [0, 2]) none)
    (.reg none [
      ⟨(some 11), .mov (.t 2), none⟩,
      ⟨(some 12), .bin .add (.t 11) (.c (.int .i64 16)), none⟩,
      ⟨(some 2), .mov (.t 12), none⟩] (some [0, 2]) none))
    .skip))
    (.seq (.seq (.reg none [
      ⟨(some 13), .mov (.t 0), none⟩,
      ⟨(some 14), .bin .geq (.t 13) (.c (.int .u64 256)), none⟩] (some [0, 2, 14]) none)
    (.cond (.t 14) (.seq (.reg none [
      ⟨(some 15), .mov (.t 0), none⟩,
      ⟨(some 16), .bin .shr (.t 15) (.c (.int .u64 8)), none⟩,
      ⟨(some 0), .mov (.t 16), none⟩] (some [0, 2]) none)
    (.reg none [
      ⟨(some 17), .mov (.t 2), none⟩,
      ⟨(some 18), .bin .add (.t 17) (.c (.int .i64 8)), none⟩,
      ⟨(some 2), .mov (.t 18), none⟩] (some [0, 2]) none))
    .skip))
    (.seq (.reg none [
      ⟨(some 19), .mov (.t 2), none⟩,
      ⟨(some 20), .mov (.t 0), none⟩,
      ⟨(some 21), .conv .u8 (.t 20), none⟩,
      ⟨(some 22), .ixS (.c (.str ⟨[0, 1, 2, 2, 3, 3, 3, 3, 4, 4, 4, 4, 4, 4, 4, 4, 5, 5, 5, 5, 5, 5, 5, 5, 5, 5, 5, 5, 5, 5, 5, 5, 6, 6, 6, 6, 6, 6, 6, 6, 6, 6, 6, 6, 6, 6, 6, 6, 6, 6, 6, 6, 6, 6, 6, 6, 6, 6, 6, 6, 6, 6, 6, 6, 7, 7, 7, 7, 7, 7, 7, 7, 7, 7, 7, 7, 7, 7, 7, 7, 7, 7, 7, 7, 7, 7, 7, 7, 7, 7, 7, 7, 7, 7, 7, 7, 7, 7, 7, 7, 7, 7, 7, 7, 7, 7, 7, 7, 7, 7, 7, 7, 7, 7, 7, 7, 7, 7, 7, 7, 7, 7, 7, 7, 7, 7, 7, 7, 8, 8, 8, 8, 8, 8, 8, 8, 8, 8, 8, 8, 8, 8, 8, 8, 8, 8, 8, 8, 8, 8, 8, 8, 8, 8, 8, 8, 8, 8, 8, 8, 8, 8, 8, 8, 8, 8, 8, 8, 8, 8, 8, 8, 8, 8, 8, 8, 8, 8, 8, 8, 8, 8, 8, 8, 8, 8, 8, 8, 8, 8, 8, 8, 8, 8, 8, 8, 8, 8, 8, 8, 8, 8, 8, 8, 8, 8, 8, 8, 8, 8, 8, 8, 8, 8, 8, 8, 8, 8, 8, 8, 8, 8, 8, 8, 8, 8, 8, 8, 8, 8, 8, 8, 8, 8, 8, 8, 8, 8, 8, 8, 8, 8, 8, 8, 8, 8, 8, 8, 8, 8, 8, 8, 8, 8, 8, 8].toArray⟩)) (.t 21), none⟩,
      ⟨(some 23), .conv .i64 (.t 22), none⟩,
      ⟨(some 24), .bin .add (.t 19) (.t 23), none⟩,
      ⟨(some 2), .mov (.t 24), none⟩] (some [2]) none)
    .ret)))))
def math_bits_Len64_F : MF := ⟨25, [.t 2], math_bits_Len64_M⟩
theorem math_bits_Len64_ok : OkF Tryd.prog 87 math_bits_Len64_F Tryd.f87 (bodyOf Tryd.f87) := ⟨Tryd.func87, by kernel_rfl, by kernel_rfl, by kernel_rfl, by kernel_rfl⟩
-- internal/strconv.bool2[int]
def internal_strconv_bool2_int__M : MC :=
  (.seq (.reg none [
      ⟨(some 2), .mov (.c (.int .i64 0)), none⟩] (some [0]) none)
    (.seq (.seq (.reg none [
      ⟨(some 3), .mov (.t 0), none⟩] (some [3]) none)
    (.cond (.t 3) (.seq (.reg none [
      ⟨(some 2), .mov (.c (.int .i64 1)), none⟩] (some [2]) none)
    .ret)
    .skip))
    (.seq (.reg none [
      ⟨(some 2), .mov (.c (.int .i64 0)), none⟩] (some [2]) none)
    .ret)))
def internal_strconv_bool2_int__F : MF := ⟨4, [.t 2], internal_strconv_bool2_int__M⟩
theorem internal_strconv_bool2_int__ok : OkF Tryd.prog 88 internal_strconv_bool2_int__F Tryd.f88 (bodyOf Tryd.f88) := ⟨Tryd.func88, by kernel_rfl, by kernel_rfl, by kernel_rfl, by kernel_rfl⟩
-- internal/strconv.isPowerOfTwo
def internal_strconv_isPowerOfTwo_M : MC :=
  (.seq (.reg none [
      ⟨(some 2), .mov (.c (.bool false)), none⟩] (some [0]) none)
    (.seq (.reg none [
      ⟨(some 3), .mov (.t 0), none⟩,
      ⟨(some 4), .mov (.t 0), none⟩,
      ⟨(some 5), .bin .sub (.t 4) (.c (.int .i64 1)), none⟩,
      ⟨(some 6), .bin .and (.t 3) (.t 5), none⟩,
      ⟨(some 7), .bin .eql (.t 6) (.c (.int .i64 0)), none⟩,
      ⟨(some 2), .mov (.t 7), none⟩] (some [2]) none)
    .ret))
def internal_strconv_isPowerOfTwo_F : MF := ⟨8, [.t 2], internal_strconv_isPowerOfTwo_M⟩
theorem internal_strconv_isPowerOfTwo_ok : OkF Tryd.prog 89 internal_strconv_isPowerOfTwo_F Tryd.f89 (bodyOf Tryd.f89) := ⟨Tryd.func89, by kernel_rfl, by kernel_rfl, by kernel_rfl, by kernel_rfl⟩
-- math/bits.TrailingZeros
def math_bits_TrailingZeros_M : MC :=
  (.seq (.reg none [
      ⟨(some 2), .mov (.c (.int .i64 0)), none⟩] (some [0]) none)
    (.seq (.cond (.c (.bool false)) (.seq (.reg none [
      ⟨(some 3), .mov (.t 0), none⟩,
      ⟨(some 4), .conv .u32 (.t 3), none⟩,
      ⟨(some 5), .call 91 [(.t 4)], none⟩,
      ⟨(some 2), .mov (.t 5), none⟩] (some [2]) none)
    .ret)
    .skip)
    (.seq (.reg none [
      ⟨(some 6), .mov (.t 0), none⟩,
      ⟨(some 7), .call 92 [(.t 6)], none⟩,
      ⟨(some 2), .mov (.t 7), none⟩] (some [2]) none)
    .ret)))
def math_bits_TrailingZeros_F : MF := ⟨8, [.t 2], math_bits_TrailingZeros_M⟩
-- NOT COMPILED 91 math/bits.TrailingZeros32
-- NOT COMPILED 92 math/bits.TrailingZeros64
theorem math_bits_TrailingZeros_ok : OkF Tryd.prog 90 math_bits_TrailingZeros_F Tryd.f90 (bodyOf Tryd.f90) := ⟨Tryd.func90, by kernel_rfl, by kernel_rfl, by kernel_rfl, by kernel_rfl⟩
end Go.Proofs.YtpajbcifaicpoaaDoor
