/- A part of the proof library: names for blocks of memory, a small form of the code, and rules for walks over it. -/
import Derived.Test.YteidfholicaocaaProg
import Derived.Test.YteidfholicaocaaAb18
import Derived.KernelRfl
import Derived.Test.YteidfholicaocaaCodeA
set_option linter.all false
namespace Go.Proofs.Yteidfholicaocaa
open Go.Ab
-- loop.example/g01312/spec.l01From
def spec_l01From_M : MC :=
  (.seq (.reg none [
      ⟨(some 8), .mov (.c (.int .i64 0)), none⟩] (some [0, 1, 2, 3]) none)
    (.seq (.reg none [
      ⟨(some 11), .mov (.t 0), none⟩,
      ⟨(some 12), .bin .rem (.t 11) (.c (.int .i64 8)), none⟩,
      ⟨(some 9), .mov (.t 12), none⟩] (some [0, 1, 2, 3, 9]) none)
    (.seq (.reg none [
      ⟨(some 13), .mov (.t 0), none⟩,
      ⟨(some 14), .bin .quo (.t 13) (.c (.int .i64 8)), none⟩,
      ⟨(some 10), .mov (.t 14), none⟩] (some [1, 2, 3, 9, 10]) none)
    (.seq (.seq (.reg none [
      ⟨(some 15), .mov (.t 1), none⟩] (some [2, 3, 9, 10, 15]) none)
    (.block 0 (.seq (.reg none [
      ⟨(some 17), .bin .eql (.t 15) (.c (.int .i64 0)), none⟩,
      ⟨(some 16), .mov (.t 17), none⟩] (some [2, 3, 9, 10, 15, 16]) none)
    (.cond (.t 16) (.seq (.reg none [
      ⟨(some 18), .mov (.t 10), none⟩,
      ⟨(some 19), .mov (.t 9), none⟩,
      ⟨(some 20), .bin .sub (.c (.int .i64 7)) (.t 19), none⟩,
      ⟨(some 21), .bin .mul (.c (.int .i64 8)) (.t 20), none⟩,
      ⟨(some 22), .bin .add (.t 18) (.t 21), none⟩,
      ⟨(some 8), .mov (.t 22), none⟩] (some [8]) none)
    .ret)
    (.seq (.reg none [
      ⟨(some 24), .bin .eql (.t 15) (.c (.int .i64 1)), none⟩,
      ⟨(some 23), .mov (.t 24), none⟩] (some [2, 3, 9, 10, 23]) none)
    (.cond (.t 23) (.seq (.reg none [
      ⟨(some 25), .mov (.t 9), none⟩,
      ⟨(some 26), .bin .sub (.c (.int .i64 7)) (.t 25), none⟩,
      ⟨(some 27), .mov (.t 10), none⟩,
      ⟨(some 28), .bin .mul (.c (.int .i64 8)) (.t 27), none⟩,
      ⟨(some 29), .bin .add (.t 26) (.t 28), none⟩,
      ⟨(some 8), .mov (.t 29), none⟩] (some [8]) none)
    .ret)
    .skip))))))
    (.seq (.seq (.reg none [
      ⟨(some 30), .mov (.t 9), none⟩,
      ⟨(some 31), .mov (.t 2), none⟩,
      ⟨(some 32), .bin .sub (.t 30) (.t 31), none⟩,
      ⟨(some 33), .call 139 [(.t 32)], none⟩,
      ⟨(some 34), .un .not (.t 33), none⟩,
      ⟨(some 35), .mov (.t 34), none⟩,
      ⟨(some 36), .mov (.t 10), some (35, false)⟩,
      ⟨(some 37), .mov (.t 3), some (35, false)⟩,
      ⟨(some 38), .bin .sub (.t 36) (.t 37), some (35, false)⟩,
      ⟨(some 39), .call 139 [(.t 38)], some (35, false)⟩,
      ⟨(some 40), .un .not (.t 39), some (35, false)⟩,
      ⟨(some 41), .pick (.t 35) (.c (.bool true)) (.t 40), none⟩] (some [2, 3, 9, 10, 41]) none)
    (.cond (.t 41) (.seq (.reg none [
      ⟨(some 8), .mov (.c (.int .i64 (-1))), none⟩] (some [8]) none)
    .ret)
    .skip))
    (.seq (.reg none [
      ⟨(some 42), .mov (.t 9), none⟩,
      ⟨(some 43), .mov (.t 2), none⟩,
      ⟨(some 44), .bin .sub (.t 42) (.t 43), none⟩,
      ⟨(some 45), .mov (.t 10), none⟩,
      ⟨(some 46), .mov (.t 3), none⟩,
      ⟨(some 47), .bin .sub (.t 45) (.t 46), none⟩,
      ⟨(some 48), .bin .mul (.c (.int .i64 8)) (.t 47), none⟩,
      ⟨(some 49), .bin .add (.t 44) (.t 48), none⟩,
      ⟨(some 8), .mov (.t 49), none⟩] (some [8]) none)
    .ret))))))
def spec_l01From_F : MF := ⟨50, [.t 8], spec_l01From_M⟩
theorem spec_l01From_ok : OkF Try.prog 98 spec_l01From_F Try.f98 (bodyOf Try.f98) := ⟨Try.func98, by kernel_rfl, by kernel_rfl, by kernel_rfl, by kernel_rfl⟩
-- loop.example/g01312/laws.toByteA64
def laws_toByteA64_L0 : MC :=
  (.seq (.seq (.reg none [
      ⟨(some 5), .mov (.t 4), none⟩,
      ⟨(some 6), .bin .lss (.t 5) (.c (.int .i64 64)), none⟩] (some [1, 2, 3, 4, 6]) none)
    (.cond (.t 6) .skip
    (.exit 0)))
    (.seq (.block 1 (.reg none [
      ⟨(some 9), .mov (.t 4), none⟩,
      ⟨(some 10), .mov (.t 4), none⟩,
      ⟨(some 11), .iaA 64 1 (.t 1) (.t 10), none⟩,
      ⟨(some 12), .load none (.t 11), none⟩,
      ⟨(some 13), .iaA 64 1 (.t 3) (.t 9), none⟩,
      ⟨none, .store 1 (.t 13) (.t 12), none⟩] (some [1, 2, 3, 4]) none))
    (.reg none [
      ⟨(some 7), .mov (.t 4), none⟩,
      ⟨(some 8), .bin .add (.t 7) (.c (.int .i64 1)), none⟩,
      ⟨(some 4), .mov (.t 8), none⟩] (some [1, 2, 3, 4]) none)))
def laws_toByteA64_M : MC :=
  (.seq (.reg none [
      ⟨(some 1), .box (.t 0), none⟩,
      ⟨(some 2), .new (rl [(64, .int .u8 0)]), none⟩] (some [1, 2]) none)
    (.seq (.reg none [
      ⟨(some 3), .new (rl [(64, .int .u8 0)]), none⟩] (some [1, 2, 3]) none)
    (.seq (.seq (.reg none [
      ⟨(some 4), .mov (.c (.int .i64 0)), none⟩] (some [1, 2, 3, 4]) none)
    (.block 0 (.loop laws_toByteA64_L0)))
    (.seq (.reg none [
      ⟨(some 14), .load (some 64) (.t 3), none⟩,
      ⟨none, .store 64 (.t 2) (.t 14), none⟩] (some [2]) none)
    .ret))))
def laws_toByteA64_F : MF := ⟨15, [.c 2 (some 64)], laws_toByteA64_M⟩
theorem laws_toByteA64_ok : OkF Try.prog 99 laws_toByteA64_F Try.f99 (bodyOf Try.f99) := ⟨Try.func99, by kernel_rfl, by kernel_rfl, by kernel_rfl, by kernel_rfl⟩
-- loop.example/g01312/impl.haveParts
def impl_haveParts_L0 : MC :=
  (.seq (.reg none [
      ⟨(some 10), .bin .lss (.t 9) (.t 8), none⟩] (some [1, 7, 8, 9, 10]) none)
    (.seq (.cond (.t 10) .skip
    (.exit 0))
    (.seq (.block 1 (.seq (.reg none [
      ⟨(some 11), .iaS 65 (.t 7) (.t 9), none⟩,
      ⟨(some 12), .load (some 65) (.t 11), none⟩,
      ⟨(some 6), .new (rl [(1, .int .i8 0), (64, .int .u8 0)]), none⟩,
      ⟨none, .store 65 (.t 6) (.t 12), none⟩] (some [1, 6, 7, 8, 9]) none)
    (.seq (.reg none [
      ⟨(some 13), .fa 0 (.t 6), none⟩,
      ⟨(some 14), .load none (.t 13), none⟩,
      ⟨(some 15), .mov (.t 1), none⟩,
      ⟨(some 16), .bin .neq (.t 14) (.t 15), none⟩] (some [1, 7, 8, 9, 16]) none)
    (.cond (.t 16) (.seq (.reg none [
      ⟨(some 4), .mov (.c (.bool false)), none⟩] (some [4]) none)
    .ret)
    .skip))))
    (.reg none [
      ⟨(some 17), .bin .add (.t 9) (.c (.int .i64 1)), none⟩,
      ⟨(some 9), .mov (.t 17), none⟩] (some [1, 7, 8, 9]) (some 0)))))
def impl_haveParts_M : MC :=
  (.seq (.reg none [
      ⟨(some 4), .mov (.c (.bool false)), none⟩] (some [0, 1]) none)
    (.seq (.seq (.reg none [
      ⟨(some 7), .mov (.t 0), none⟩,
      ⟨(some 8), .lenS (.t 7), none⟩,
      ⟨(some 9), .mov (.c (.int .i64 0)), none⟩] (some [1, 7, 8, 9]) none)
    (.block 0 (.loop impl_haveParts_L0)))
    (.seq (.reg none [
      ⟨(some 4), .mov (.c (.bool true)), none⟩] (some [4]) none)
    .ret)))
def impl_haveParts_F : MF := ⟨18, [.t 4], impl_haveParts_M⟩
theorem impl_haveParts_ok : OkF Try.prog 100 impl_haveParts_F Try.f100 (bodyOf Try.f100) := ⟨Try.func100, by kernel_rfl, by kernel_rfl, by kernel_rfl, by kernel_rfl⟩
-- loop.example/g01312/impl.changed
def impl_changed_M : MC :=
  (.seq (.reg none [
      ⟨(some 2), .box (.t 0), none⟩,
      ⟨(some 4), .new (rl [(1, .int .i8 0), (64, .int .u8 0)]), none⟩,
      ⟨(some 5), .mov (.c (.int .i64 0)), none⟩] (some [1, 2, 4]) none)
    (.seq (.seq (.reg none [
      ⟨(some 6), .load (some 65) (.t 2), none⟩,
      ⟨(some 7), .call 106 [(.t 6)], none⟩,
      ⟨(some 8), .un .not (.t 7), none⟩] (some [1, 2, 4, 8]) none)
    (.cond (.t 8) (.seq (.reg none [
      ⟨(some 9), .bld (rl [(1, .int .i8 0), (64, .int .u8 0)]) [], none⟩,
      ⟨none, .store 65 (.t 4) (.t 9), none⟩,
      ⟨(some 5), .mov (.c (.int .i64 1)), none⟩] (some [4, 5]) none)
    .ret)
    .skip))
    (.seq (.reg none [
      ⟨(some 10), .load (some 65) (.t 2), none⟩,
      ⟨(some 11), .mov (.t 1), none⟩,
      ⟨(some 12), .call 107 [(.t 10), (.t 11)], none⟩,
      ⟨none, .store 65 (.t 4) (.t 12), none⟩,
      ⟨(some 5), .mov (.c (.int .i64 0)), none⟩] (some [4, 5]) none)
    .ret)))
def impl_changed_F : MF := ⟨13, [.c 4 (some 65), .t 5], impl_changed_M⟩
theorem impl_changed_ok : OkF Try.prog 101 impl_changed_F Try.f101 (bodyOf Try.f101) := ⟨Try.func101, by kernel_rfl, by kernel_rfl, by kernel_rfl, by kernel_rfl⟩
-- loop.example/g01312/impl.TurnLayer$1
def impl_TurnLayer_1_M : MC :=
  (.seq (.reg none [
      ⟨(some 3), .mov (.c (.int .u8 0)), none⟩] (some [0, 1]) none)
    (.seq (.reg none [
      ⟨(some 4), .mov (.t 0), none⟩,
      ⟨(some 5), .call 103 [(.t 4)], none⟩,
      ⟨(some 6), .fa 1 (.t 1), none⟩,
      ⟨(some 7), .iaA 64 1 (.t 6) (.t 5), none⟩,
      ⟨(some 8), .load none (.t 7), none⟩,
      ⟨(some 3), .mov (.t 8), none⟩] (some [3]) none)
    .ret))
def impl_TurnLayer_1_F : MF := ⟨9, [.t 3], impl_TurnLayer_1_M⟩
theorem impl_TurnLayer_1_ok : OkF Try.prog 102 impl_TurnLayer_1_F Try.f102 (bodyOf Try.f102) := ⟨Try.func102, by kernel_rfl, by kernel_rfl, by kernel_rfl, by kernel_rfl⟩
-- loop.example/g01312/impl.turned
def impl_turned_M : MC :=
  (.seq (.reg none [
      ⟨(some 2), .mov (.c (.int .i64 0)), none⟩] (some [0]) none)
    (.seq (.reg none [
      ⟨(some 3), .mov (.t 0), none⟩,
      ⟨(some 4), .bin .quo (.t 3) (.c (.int .i64 8)), none⟩,
      ⟨(some 5), .mov (.t 0), none⟩,
      ⟨(some 6), .bin .rem (.t 5) (.c (.int .i64 8)), none⟩,
      ⟨(some 7), .bin .sub (.c (.int .i64 7)) (.t 6), none⟩,
      ⟨(some 8), .bin .mul (.c (.int .i64 8)) (.t 7), none⟩,
      ⟨(some 9), .bin .add (.t 4) (.t 8), none⟩,
      ⟨(some 2), .mov (.t 9), none⟩] (some [2]) none)
    .ret))
def impl_turned_F : MF := ⟨10, [.t 2], impl_turned_M⟩
theorem impl_turned_ok : OkF Try.prog 103 impl_turned_F Try.f103 (bodyOf Try.f103) := ⟨Try.func103, by kernel_rfl, by kernel_rfl, by kernel_rfl, by kernel_rfl⟩
-- loop.example/g01312/laws.eqByteA64
def laws_eqByteA64_L0 : MC :=
  (.seq (.seq (.reg none [
      ⟨(some 6), .mov (.t 5), none⟩,
      ⟨(some 7), .bin .lss (.t 6) (.c (.int .i64 64)), none⟩] (some [2, 3, 5, 7]) none)
    (.cond (.t 7) .skip
    (.exit 0)))
    (.seq (.block 1 (.seq (.reg (some []) [
      ⟨(some 10), .mov (.t 5), none⟩,
      ⟨(some 11), .iaA 64 1 (.t 2) (.t 10), none⟩,
      ⟨(some 12), .load none (.t 11), none⟩,
      ⟨(some 13), .mov (.t 5), none⟩,
      ⟨(some 14), .iaA 64 1 (.t 3) (.t 13), none⟩,
      ⟨(some 15), .load none (.t 14), none⟩,
      ⟨(some 16), .bin .neq (.t 12) (.t 15), none⟩] (some [2, 3, 5, 16]) none)
    (.cond (.t 16) (.seq (.reg none [
      ⟨(some 4), .mov (.c (.bool false)), none⟩] (some [4]) none)
    .ret)
    .skip)))
    (.reg none [
      ⟨(some 8), .mov (.t 5), none⟩,
      ⟨(some 9), .bin .add (.t 8) (.c (.int .i64 1)), none⟩,
      ⟨(some 5), .mov (.t 9), none⟩] (some [2, 3, 5]) none)))
def laws_eqByteA64_M : MC :=
  (.seq (.reg none [
      ⟨(some 2), .box (.t 0), none⟩,
      ⟨(some 3), .box (.t 1), none⟩,
      ⟨(some 4), .mov (.c (.bool false)), none⟩] (some [2, 3]) none)
    (.seq (.seq (.reg none [
      ⟨(some 5), .mov (.c (.int .i64 0)), none⟩] (some [2, 3, 5]) none)
    (.block 0 (.loop laws_eqByteA64_L0)))
    (.seq (.reg none [
      ⟨(some 4), .mov (.c (.bool true)), none⟩] (some [4]) none)
    .ret)))
def laws_eqByteA64_F : MF := ⟨17, [.t 4], laws_eqByteA64_M⟩
theorem laws_eqByteA64_ok : OkF Try.prog 104 laws_eqByteA64_F Try.f104 (bodyOf Try.f104) := ⟨Try.func104, by kernel_rfl, by kernel_rfl, by kernel_rfl, by kernel_rfl⟩
-- loop.example/g01312/spec.l01Ok
def spec_l01Ok_L0 : MC :=
  (.seq (.seq (.reg none [
      ⟨(some 11), .mov (.t 3), none⟩,
      ⟨(some 12), .bin .lss (.t 11) (.c (.int .i64 64)), none⟩] (some [0, 3, 12]) none)
    (.cond (.t 12) .skip
    (.exit 0)))
    (.seq (.block 1 (.seq (.reg (some []) [
      ⟨(some 15), .mov (.t 0), none⟩,
      ⟨(some 16), .mov (.t 3), none⟩,
      ⟨(some 17), .nilc (.t 15), none⟩,
      ⟨(some 18), .fa 1 (.t 17), none⟩,
      ⟨(some 19), .iaA 64 1 (.t 18) (.t 16), none⟩,
      ⟨(some 20), .load none (.t 19), none⟩,
      ⟨(some 21), .mov (.t 0), none⟩,
      ⟨(some 22), .nilc (.t 21), none⟩,
      ⟨(some 23), .fa 0 (.t 22), none⟩,
      ⟨(some 24), .load none (.t 23), none⟩,
      ⟨(some 25), .conv .u64 (.t 24), none⟩,
      ⟨(some 26), .bin .shr (.t 20) (.t 25), none⟩,
      ⟨(some 27), .bin .neq (.t 26) (.c (.int .u8 0)), none⟩] (some [0, 3, 27]) none)
    (.cond (.t 27) (.seq (.reg none [
      ⟨(some 2), .mov (.c (.bool false)), none⟩] (some [2]) none)
    .ret)
    .skip)))
    (.reg none [
      ⟨(some 13), .mov (.t 3), none⟩,
      ⟨(some 14), .bin .add (.t 13) (.c (.int .i64 1)), none⟩,
      ⟨(some 3), .mov (.t 14), none⟩] (some [0, 3]) none)))
def spec_l01Ok_M : MC :=
  (.seq (.reg none [
      ⟨(some 2), .mov (.c (.bool false)), none⟩] (some [0]) none)
    (.seq (.seq (.reg none [
      ⟨(some 4), .mov (.t 0), none⟩,
      ⟨(some 5), .nilc (.t 4), none⟩,
      ⟨(some 6), .fa 0 (.t 5), none⟩,
      ⟨(some 7), .load none (.t 6), none⟩,
      ⟨(some 8), .conv .i64 (.t 7), none⟩,
      ⟨(some 9), .call 121 [(.t 8)], none⟩,
      ⟨(some 10), .un .not (.t 9), none⟩] (some [0, 10]) none)
    (.cond (.t 10) (.seq (.reg none [
      ⟨(some 2), .mov (.c (.bool false)), none⟩] (some [2]) none)
    .ret)
    .skip))
    (.seq (.seq (.reg none [
      ⟨(some 3), .mov (.c (.int .i64 0)), none⟩] (some [0, 3]) none)
    (.block 0 (.loop spec_l01Ok_L0)))
    (.seq (.reg none [
      ⟨(some 2), .mov (.c (.bool true)), none⟩] (some [2]) none)
    .ret))))
def spec_l01Ok_F : MF := ⟨28, [.t 2], spec_l01Ok_M⟩
theorem spec_l01Ok_ok : OkF Try.prog 105 spec_l01Ok_F Try.f105 (bodyOf Try.f105) := ⟨Try.func105, by kernel_rfl, by kernel_rfl, by kernel_rfl, by kernel_rfl⟩
-- loop.example/g01312/impl.ValidLayer
def impl_ValidLayer_L0 : MC :=
  (.seq (.reg none [
      ⟨(some 13), .bin .lss (.t 12) (.c (.int .i64 64)), none⟩] (some [1, 11, 12, 13]) none)
    (.seq (.cond (.t 13) .skip
    (.exit 0))
    (.seq (.block 1 (.seq (.reg none [
      ⟨(some 14), .ix 64 1 none (.t 11) (.t 12), none⟩,
      ⟨(some 4), .mov (.t 14), none⟩] (some [1, 4, 11, 12]) none)
    (.seq (.reg none [
      ⟨(some 15), .mov (.t 4), none⟩,
      ⟨(some 16), .fa 0 (.t 1), none⟩,
      ⟨(some 17), .load none (.t 16), none⟩,
      ⟨(some 18), .call 123 [(.t 17)], none⟩,
      ⟨(some 19), .bin .andNot (.t 15) (.t 18), none⟩,
      ⟨(some 20), .bin .neq (.t 19) (.c (.int .u8 0)), none⟩] (some [1, 11, 12, 20]) none)
    (.cond (.t 20) (.seq (.reg none [
      ⟨(some 2), .mov (.c (.bool false)), none⟩] (some [2]) none)
    .ret)
    .skip))))
    (.reg none [
      ⟨(some 21), .bin .add (.t 12) (.c (.int .i64 1)), none⟩,
      ⟨(some 12), .mov (.t 21), none⟩] (some [1, 11, 12]) none))))
def impl_ValidLayer_M : MC :=
  (.seq (.reg none [
      ⟨(some 1), .box (.t 0), none⟩,
      ⟨(some 2), .mov (.c (.bool false)), none⟩] (some [1]) none)
    (.seq (.seq (.reg none [
      ⟨(some 5), .fa 0 (.t 1), none⟩,
      ⟨(some 6), .load none (.t 5), none⟩,
      ⟨(some 7), .conv .i64 (.t 6), none⟩,
      ⟨(some 8), .call 122 [(.t 7)], none⟩,
      ⟨(some 9), .un .not (.t 8), none⟩] (some [1, 9]) none)
    (.cond (.t 9) (.seq (.reg none [
      ⟨(some 2), .mov (.c (.bool false)), none⟩] (some [2]) none)
    .ret)
    .skip))
    (.seq (.seq (.reg none [
      ⟨(some 10), .fa 1 (.t 1), none⟩,
      ⟨(some 11), .load (some 64) (.t 10), none⟩,
      ⟨(some 12), .mov (.c (.int .i64 0)), none⟩] (some [1, 11, 12]) none)
    (.block 0 (.loop impl_ValidLayer_L0)))
    (.seq (.reg none [
      ⟨(some 2), .mov (.c (.bool true)), none⟩] (some [2]) none)
    .ret))))
def impl_ValidLayer_F : MF := ⟨22, [.t 2], impl_ValidLayer_M⟩
theorem impl_ValidLayer_ok : OkF Try.prog 106 impl_ValidLayer_F Try.f106 (bodyOf Try.f106) := ⟨Try.func106, by kernel_rfl, by kernel_rfl, by kernel_rfl, by kernel_rfl⟩
-- (loop.example/g01312/impl.Layer).each
def impl_Layer_each_L0 : MC :=
  (.seq (.reg none [
      ⟨(some 11), .bin .lss (.t 10) (.c (.int .i64 64)), none⟩] (some [1, 4, 5, 10, 11]) none)
    (.seq (.cond (.t 11) .skip
    (.exit 0))
    (.seq (.block 1 (.seq (.reg none [
      ⟨(some 12), .mov (.t 10), none⟩,
      ⟨(some 6), .mov (.t 12), none⟩] (some [1, 4, 5, 6, 10]) none)
    (.reg none [
      ⟨(some 13), .mov (.t 6), none⟩,
      ⟨(some 14), .mov (.t 1), none⟩,
      ⟨(some 15), .mov (.t 6), none⟩,
      ⟨(some 16), .callv (.t 14) [(.t 15)], none⟩,
      ⟨(some 17), .fa 1 (.t 5), none⟩,
      ⟨(some 18), .iaA 64 1 (.t 17) (.t 13), none⟩,
      ⟨none, .store 1 (.t 18) (.t 16), none⟩] (some [1, 4, 5, 10]) none)))
    (.reg none [
      ⟨(some 19), .bin .add (.t 10) (.c (.int .i64 1)), none⟩,
      ⟨(some 10), .mov (.t 19), none⟩] (some [1, 4, 5, 10]) none))))
def impl_Layer_each_M : MC :=
  (.seq (.reg none [
      ⟨(some 2), .box (.t 0), none⟩,
      ⟨(some 4), .new (rl [(1, .int .i8 0), (64, .int .u8 0)]), none⟩] (some [1, 2, 4]) none)
    (.seq (.reg none [
      ⟨(some 7), .fa 0 (.t 2), none⟩,
      ⟨(some 8), .load none (.t 7), none⟩,
      ⟨(some 9), .bld (rl [(1, .int .i8 0), (64, .int .u8 0)]) [(0, 1, (.t 8))], none⟩,
      ⟨(some 5), .new (rl [(1, .int .i8 0), (64, .int .u8 0)]), none⟩,
      ⟨none, .store 65 (.t 5) (.t 9), none⟩] (some [1, 4, 5]) none)
    (.seq (.seq (.reg none [
      ⟨(some 10), .mov (.c (.int .i64 0)), none⟩] (some [1, 4, 5, 10]) none)
    (.block 0 (.loop impl_Layer_each_L0)))
    (.seq (.reg none [
      ⟨(some 20), .load (some 65) (.t 5), none⟩,
      ⟨none, .store 65 (.t 4) (.t 20), none⟩] (some [4]) none)
    .ret))))
def impl_Layer_each_F : MF := ⟨21, [.c 4 (some 65)], impl_Layer_each_M⟩
theorem impl_Layer_each_ok : OkF Try.prog 107 impl_Layer_each_F Try.f107 (bodyOf Try.f107) := ⟨Try.func107, by kernel_rfl, by kernel_rfl, by kernel_rfl, by kernel_rfl⟩
-- loop.example/g01312/impl.joined$1
def impl_joined_1_M : MC :=
  (.seq (.reg none [
      ⟨(some 4), .mov (.c (.int .u8 0)), none⟩] (some [0, 1, 2]) none)
    (.seq (.reg (some []) [
      ⟨(some 5), .mov (.t 0), none⟩,
      ⟨(some 6), .fa 1 (.t 1), none⟩,
      ⟨(some 7), .iaA 64 1 (.t 6) (.t 5), none⟩,
      ⟨(some 8), .load none (.t 7), none⟩,
      ⟨(some 9), .mov (.t 0), none⟩,
      ⟨(some 10), .fa 1 (.t 2), none⟩,
      ⟨(some 11), .iaA 64 1 (.t 10) (.t 9), none⟩,
      ⟨(some 12), .load none (.t 11), none⟩,
      ⟨(some 13), .fa 0 (.t 1), none⟩,
      ⟨(some 14), .load none (.t 13), none⟩,
      ⟨(some 15), .bin .shl (.t 12) (.t 14), none⟩,
      ⟨(some 16), .bin .or (.t 8) (.t 15), none⟩,
      ⟨(some 4), .mov (.t 16), none⟩] (some [4]) none)
    .ret))
def impl_joined_1_F : MF := ⟨17, [.t 4], impl_joined_1_M⟩
theorem impl_joined_1_ok : OkF Try.prog 108 impl_joined_1_F Try.f108 (bodyOf Try.f108) := ⟨Try.func108, by kernel_rfl, by kernel_rfl, by kernel_rfl, by kernel_rfl⟩
-- loop.example/g01312/spec.ValidScheme
def spec_ValidScheme_M : MC :=
  (.seq (.reg none [
      ⟨(some 1), .box (.t 0), none⟩,
      ⟨(some 2), .mov (.c (.bool false)), none⟩] (some [1]) none)
    (.seq (.reg none [
      ⟨(some 3), .call 72 [(.t 1)], none⟩,
      ⟨(some 2), .mov (.t 3), none⟩] (some [2]) none)
    .ret))
def spec_ValidScheme_F : MF := ⟨4, [.t 2], spec_ValidScheme_M⟩
theorem spec_ValidScheme_ok : OkF Try.prog 109 spec_ValidScheme_F Try.f109 (bodyOf Try.f109) := ⟨Try.func109, by kernel_rfl, by kernel_rfl, by kernel_rfl, by kernel_rfl⟩
-- loop.example/g01312/spec.l03Number
def spec_l03Number_M : MC :=
  (.seq (.reg none [
      ⟨(some 4), .mov (.c (.int .i64 0)), none⟩,
      ⟨(some 5), .mov (.c (.int .u32 0)), none⟩] (some [0, 1]) none)
    (.seq (.reg none [
      ⟨(some 6), .mov (.t 0), none⟩,
      ⟨(some 7), .bin .mul (.c (.int .u32 1664525)) (.t 6), none⟩,
      ⟨(some 8), .bin .add (.t 7) (.c (.int .u32 1013904223)), none⟩,
      ⟨(some 0), .mov (.t 8), none⟩] (some [0, 1]) none)
    (.seq (.reg none [
      ⟨(some 9), .mov (.t 0), none⟩,
      ⟨(some 10), .bin .shr (.t 9) (.c (.int .u64 16)), none⟩,
      ⟨(some 11), .conv .i64 (.t 10), none⟩,
      ⟨(some 12), .mov (.t 1), none⟩,
      ⟨(some 13), .bin .rem (.t 11) (.t 12), none⟩,
      ⟨(some 14), .mov (.t 0), none⟩,
      ⟨(some 4), .mov (.t 13), none⟩,
      ⟨(some 5), .mov (.t 14), none⟩] (some [4, 5]) none)
    .ret)))
def spec_l03Number_F : MF := ⟨15, [.t 4, .t 5], spec_l03Number_M⟩
theorem spec_l03Number_ok : OkF Try.prog 110 spec_l03Number_F Try.f110 (bodyOf Try.f110) := ⟨Try.func110, by kernel_rfl, by kernel_rfl, by kernel_rfl, by kernel_rfl⟩
-- loop.example/g01312/impl.draw
def impl_draw_M : MC :=
  (.seq (.reg none [
      ⟨(some 4), .mov (.c (.int .i64 0)), none⟩] (some [0, 1]) none)
    (.seq (.reg none [
      ⟨(some 5), .mov (.t 0), none⟩,
      ⟨(some 6), .mov (.t 0), none⟩,
      ⟨(some 7), .nilc (.t 6), none⟩,
      ⟨(some 8), .load none (.t 7), none⟩,
      ⟨(some 9), .bin .mul (.c (.int .u32 1664525)) (.t 8), none⟩,
      ⟨(some 10), .bin .add (.t 9) (.c (.int .u32 1013904223)), none⟩,
      ⟨(some 11), .nilc (.t 5), none⟩,
      ⟨none, .store 1 (.t 11) (.t 10), none⟩] (some [0, 1]) none)
    (.seq (.reg none [
      ⟨(some 12), .mov (.t 0), none⟩,
      ⟨(some 13), .nilc (.t 12), none⟩,
      ⟨(some 14), .load none (.t 13), none⟩,
      ⟨(some 15), .bin .shr (.t 14) (.c (.int .u64 16)), none⟩,
      ⟨(some 16), .conv .i64 (.t 15), none⟩,
      ⟨(some 17), .mov (.t 1), none⟩,
      ⟨(some 18), .bin .rem (.t 16) (.t 17), none⟩,
      ⟨(some 4), .mov (.t 18), none⟩] (some [4]) none)
    .ret)))
def impl_draw_F : MF := ⟨19, [.t 4], impl_draw_M⟩
theorem impl_draw_ok : OkF Try.prog 111 impl_draw_F Try.f111 (bodyOf Try.f111) := ⟨Try.func111, by kernel_rfl, by kernel_rfl, by kernel_rfl, by kernel_rfl⟩
-- loop.example/g01312/spec.l01Count
def spec_l01Count_L0 : MC :=
  (.seq (.seq (.reg none [
      ⟨(some 4), .mov (.t 0), none⟩,
      ⟨(some 5), .bin .neq (.t 4) (.c (.int .u64 0)), none⟩] (some [0, 3, 5]) none)
    (.cond (.t 5) .skip
    (.exit 0)))
    (.seq (.block 1 (.reg none [
      ⟨(some 8), .mov (.t 3), none⟩,
      ⟨(some 9), .mov (.t 0), none⟩,
      ⟨(some 10), .bin .and (.t 9) (.c (.int .u64 1)), none⟩,
      ⟨(some 11), .conv .i64 (.t 10), none⟩,
      ⟨(some 12), .bin .add (.t 8) (.t 11), none⟩,
      ⟨(some 3), .mov (.t 12), none⟩] (some [0, 3]) none))
    (.reg none [
      ⟨(some 6), .mov (.t 0), none⟩,
      ⟨(some 7), .bin .shr (.t 6) (.c (.int .u64 1)), none⟩,
      ⟨(some 0), .mov (.t 7), none⟩] (some [0, 3]) none)))
def spec_l01Count_M : MC :=
  (.seq (.reg none [
      ⟨(some 2), .mov (.c (.int .i64 0)), none⟩] (some [0]) none)
    (.seq (.reg none [
      ⟨(some 3), .mov (.c (.int .i64 0)), none⟩] (some [0, 3]) none)
    (.seq (.block 0 (.loop spec_l01Count_L0))
    (.seq (.reg none [
      ⟨(some 13), .mov (.t 3), none⟩,
      ⟨(some 2), .mov (.t 13), none⟩] (some [2]) none)
    .ret))))
def spec_l01Count_F : MF := ⟨14, [.t 2], spec_l01Count_M⟩
theorem spec_l01Count_ok : OkF Try.prog 112 spec_l01Count_F Try.f112 (bodyOf Try.f112) := ⟨Try.func112, by kernel_rfl, by kernel_rfl, by kernel_rfl, by kernel_rfl⟩
-- loop.example/g01312/spec.l01Stack
def spec_l01Stack_L1 : MC :=
  (.seq (.seq (.reg none [
      ⟨(some 15), .mov (.t 5), none⟩,
      ⟨(some 16), .bin .lss (.t 15) (.c (.int .i64 64)), none⟩] (some [0, 2, 3, 4, 5, 16]) none)
    (.cond (.t 16) .skip
    (.exit 2)))
    (.seq (.block 3 (.reg (some []) [
      ⟨(some 19), .mov (.t 5), none⟩,
      ⟨(some 20), .fa 1 (.t 3), none⟩,
      ⟨(some 21), .iaA 64 1 (.t 20) (.t 19), none⟩,
      ⟨(some 22), .load none (.t 21), none⟩,
      ⟨(some 23), .mov (.t 0), none⟩,
      ⟨(some 24), .mov (.t 4), none⟩,
      ⟨(some 25), .mov (.t 5), none⟩,
      ⟨(some 26), .iaS 65 (.t 23) (.t 24), none⟩,
      ⟨(some 27), .fa 1 (.t 26), none⟩,
      ⟨(some 28), .iaA 64 1 (.t 27) (.t 25), none⟩,
      ⟨(some 29), .load none (.t 28), none⟩,
      ⟨(some 30), .bin .or (.t 22) (.t 29), none⟩,
      ⟨(some 31), .fa 1 (.t 3), none⟩,
      ⟨(some 32), .iaA 64 1 (.t 31) (.t 19), none⟩,
      ⟨none, .store 1 (.t 32) (.t 30), none⟩] (some [0, 2, 3, 4, 5]) none))
    (.reg none [
      ⟨(some 17), .mov (.t 5), none⟩,
      ⟨(some 18), .bin .add (.t 17) (.c (.int .i64 1)), none⟩,
      ⟨(some 5), .mov (.t 18), none⟩] (some [0, 2, 3, 4, 5]) none)))
def spec_l01Stack_L0 : MC :=
  (.seq (.seq (.reg none [
      ⟨(some 9), .mov (.t 4), none⟩,
      ⟨(some 10), .mov (.t 0), none⟩,
      ⟨(some 11), .lenS (.t 10), none⟩,
      ⟨(some 12), .bin .lss (.t 9) (.t 11), none⟩] (some [0, 2, 3, 4, 12]) none)
    (.cond (.t 12) .skip
    (.exit 0)))
    (.seq (.block 1 (.seq (.reg none [
      ⟨(some 5), .mov (.c (.int .i64 0)), none⟩] (some [0, 2, 3, 4, 5]) none)
    (.block 2 (.loop spec_l01Stack_L1))))
    (.reg none [
      ⟨(some 13), .mov (.t 4), none⟩,
      ⟨(some 14), .bin .add (.t 13) (.c (.int .i64 1)), none⟩,
      ⟨(some 4), .mov (.t 14), none⟩] (some [0, 2, 3, 4]) none)))
def spec_l01Stack_M : MC :=
  (.seq (.reg none [
      ⟨(some 2), .new (rl [(1, .int .i8 0), (64, .int .u8 0)]), none⟩] (some [0, 2]) none)
    (.seq (.reg none [
      ⟨(some 6), .mov (.t 0), none⟩,
      ⟨(some 7), .iaS 65 (.t 6) (.c (.int .i64 0)), none⟩,
      ⟨(some 8), .load (some 65) (.t 7), none⟩,
      ⟨(some 3), .new (rl [(1, .int .i8 0), (64, .int .u8 0)]), none⟩,
      ⟨none, .store 65 (.t 3) (.t 8), none⟩] (some [0, 2, 3]) none)
    (.seq (.seq (.reg none [
      ⟨(some 4), .mov (.c (.int .i64 1)), none⟩] (some [0, 2, 3, 4]) none)
    (.block 0 (.loop spec_l01Stack_L0)))
    (.seq (.reg none [
      ⟨(some 33), .load (some 65) (.t 3), none⟩,
      ⟨none, .store 65 (.t 2) (.t 33), none⟩] (some [2]) none)
    .ret))))
def spec_l01Stack_F : MF := ⟨34, [.c 2 (some 65)], spec_l01Stack_M⟩
theorem spec_l01Stack_ok : OkF Try.prog 113 spec_l01Stack_F Try.f113 (bodyOf Try.f113) := ⟨Try.func113, by kernel_rfl, by kernel_rfl, by kernel_rfl, by kernel_rfl⟩
-- (loop.example/g01312/impl.Scheme).isSet
def impl_Scheme_isSet_M : MC :=
  (.seq (.reg none [
      ⟨(some 2), .box (.t 0), none⟩,
      ⟨(some 4), .mov (.c (.bool false)), none⟩] (some [1, 2]) none)
    (.seq (.reg none [
      ⟨(some 5), .fa 0 (.t 2), none⟩,
      ⟨(some 6), .load none (.t 5), none⟩,
      ⟨(some 7), .bin .geq (.t 6) (.c (.int .i8 0)), none⟩,
      ⟨(some 8), .mov (.t 7), none⟩,
      ⟨(some 9), .mov (.t 1), some (8, true)⟩,
      ⟨(some 10), .load (some 14) (.t 2), some (8, true)⟩,
      ⟨(some 11), .call 90 [(.t 10)], some (8, true)⟩,
      ⟨(some 12), .bin .andNot (.t 9) (.t 11), some (8, true)⟩,
      ⟨(some 13), .bin .eql (.t 12) (.c (.int .u8 0)), some (8, true)⟩,
      ⟨(some 14), .pick (.t 8) (.t 13) (.c (.bool false)), none⟩,
      ⟨(some 4), .mov (.t 14), none⟩] (some [4]) none)
    .ret))
def impl_Scheme_isSet_F : MF := ⟨15, [.t 4], impl_Scheme_isSet_M⟩
theorem impl_Scheme_isSet_ok : OkF Try.prog 114 impl_Scheme_isSet_F Try.f114 (bodyOf Try.f114) := ⟨Try.func114, by kernel_rfl, by kernel_rfl, by kernel_rfl, by kernel_rfl⟩
-- (loop.example/g01312/impl.Scheme).sees
def impl_Scheme_sees_M : MC :=
  (.seq (.reg none [
      ⟨(some 2), .box (.t 0), none⟩,
      ⟨(some 4), .mov (.c (.bool false)), none⟩] (some [1, 2]) none)
    (.seq (.reg none [
      ⟨(some 5), .load (some 14) (.t 2), none⟩,
      ⟨(some 6), .mov (.t 1), none⟩,
      ⟨(some 7), .call 140 [(.t 5), (.t 6)], none⟩,
      ⟨(some 8), .bin .gtr (.t 7) (.c (.int .i64 0)), none⟩,
      ⟨(some 4), .mov (.t 8), none⟩] (some [4]) none)
    .ret))
def impl_Scheme_sees_F : MF := ⟨9, [.t 4], impl_Scheme_sees_M⟩
theorem impl_Scheme_sees_ok : OkF Try.prog 115 impl_Scheme_sees_F Try.f115 (bodyOf Try.f115) := ⟨Try.func115, by kernel_rfl, by kernel_rfl, by kernel_rfl, by kernel_rfl⟩
-- (loop.example/g01312/impl.Scheme).weight
def impl_Scheme_weight_L0 : MC :=
  (.seq (.reg none [
      ⟨(some 13), .bin .lss (.t 12) (.c (.int .i64 6)), none⟩] (some [1, 7, 11, 12, 13]) none)
    (.seq (.cond (.t 13) .skip
    (.exit 0))
    (.seq (.block 1 (.seq (.reg (some []) [
      ⟨(some 14), .mov (.t 12), none⟩,
      ⟨(some 15), .nilc (.t 11), none⟩,
      ⟨(some 16), .iaA 6 1 (.t 15) (.t 12), none⟩,
      ⟨(some 17), .load none (.t 16), none⟩,
      ⟨(some 8), .mov (.t 14), none⟩,
      ⟨(some 9), .mov (.t 17), none⟩] (some [1, 7, 8, 9, 11, 12]) none)
    (.seq (.reg none [
      ⟨(some 18), .mov (.t 1), none⟩,
      ⟨(some 19), .mov (.t 8), none⟩,
      ⟨(some 20), .bin .shr (.t 18) (.t 19), none⟩,
      ⟨(some 21), .bin .and (.t 20) (.c (.int .u8 1)), none⟩,
      ⟨(some 22), .bin .eql (.t 21) (.c (.int .u8 1)), none⟩] (some [1, 7, 9, 11, 12, 22]) none)
    (.cond (.t 22) (.reg none [
      ⟨(some 23), .mov (.t 7), none⟩,
      ⟨(some 24), .mov (.t 9), none⟩,
      ⟨(some 25), .bin .or (.t 23) (.t 24), none⟩,
      ⟨(some 7), .mov (.t 25), none⟩] (some [1, 7, 11, 12]) none)
    .skip))))
    (.reg none [
      ⟨(some 26), .bin .add (.t 12) (.c (.int .i64 1)), none⟩,
      ⟨(some 12), .mov (.t 26), none⟩] (some [1, 7, 11, 12]) none))))
def impl_Scheme_weight_M : MC :=
  (.seq (.reg none [
      ⟨(some 3), .box (.t 0), none⟩,
      ⟨(some 6), .mov (.c (.int .i64 0)), none⟩] (some [1, 2, 3]) none)
    (.seq (.reg none [
      ⟨(some 7), .mov (.c (.int .u8 0)), none⟩] (some [1, 2, 3, 7]) none)
    (.seq (.seq (.reg none [
      ⟨(some 10), .mov (.t 2), none⟩,
      ⟨(some 11), .call 136 [(.t 3), (.t 10)], none⟩,
      ⟨(some 12), .mov (.c (.int .i64 0)), none⟩] (some [1, 7, 11, 12]) none)
    (.block 0 (.loop impl_Scheme_weight_L0)))
    (.seq (.reg none [
      ⟨(some 27), .mov (.t 7), none⟩,
      ⟨(some 28), .call 141 [(.t 27)], none⟩,
      ⟨(some 6), .mov (.t 28), none⟩] (some [6]) none)
    .ret))))
def impl_Scheme_weight_F : MF := ⟨29, [.t 6], impl_Scheme_weight_M⟩
theorem impl_Scheme_weight_ok : OkF Try.prog 116 impl_Scheme_weight_F Try.f116 (bodyOf Try.f116) := ⟨Try.func116, by kernel_rfl, by kernel_rfl, by kernel_rfl, by kernel_rfl⟩
-- loop.example/g01312/impl.stack
def impl_stack_M : MC :=
  (.seq (.reg none [
      ⟨(some 1), .box (.t 0), none⟩,
      ⟨(some 2), .new (rl [(1, .int .i8 0), (64, .int .u8 0)]), none⟩] (some [1, 2]) none)
    (.seq (.reg none [
      ⟨(some 3), .load none (.t 1), none⟩,
      ⟨(some 4), .iaS 65 (.t 3) (.c (.int .i64 0)), none⟩,
      ⟨(some 5), .load (some 65) (.t 4), none⟩,
      ⟨(some 6), .mkf 142 [] [(.t 1)], none⟩,
      ⟨(some 7), .call 107 [(.t 5), (.t 6)], none⟩,
      ⟨none, .store 65 (.t 2) (.t 7), none⟩] (some [2]) none)
    .ret))
def impl_stack_F : MF := ⟨8, [.c 2 (some 65)], impl_stack_M⟩
theorem impl_stack_ok : OkF Try.prog 117 impl_stack_F Try.f117 (bodyOf Try.f117) := ⟨Try.func117, by kernel_rfl, by kernel_rfl, by kernel_rfl, by kernel_rfl⟩
-- loop.example/g01312/impl.pictureOf
def impl_pictureOf_L0 : MC :=
  (.seq (.reg none [
      ⟨(some 6), .bin .lss (.t 5) (.c (.int .i64 64)), none⟩] (some [0, 3, 5, 6]) none)
    (.seq (.cond (.t 6) .skip
    (.exit 0))
    (.seq (.block 1 (.seq (.reg none [
      ⟨(some 7), .mov (.t 5), none⟩,
      ⟨(some 4), .mov (.t 7), none⟩] (some [0, 3, 4, 5]) none)
    (.seq (.reg none [
      ⟨(some 8), .mov (.t 0), none⟩,
      ⟨(some 9), .mov (.t 4), none⟩,
      ⟨(some 10), .callv (.t 8) [(.t 9)], none⟩] (some [0, 3, 4, 5, 10]) none)
    (.cond (.t 10) (.reg none [
      ⟨(some 11), .mov (.t 3), none⟩,
      ⟨(some 12), .mov (.t 4), none⟩,
      ⟨(some 13), .bin .shl (.c (.int .u64 1)) (.t 12), none⟩,
      ⟨(some 14), .bin .or (.t 11) (.t 13), none⟩,
      ⟨(some 3), .mov (.t 14), none⟩] (some [0, 3, 5]) none)
    .skip))))
    (.reg none [
      ⟨(some 15), .bin .add (.t 5) (.c (.int .i64 1)), none⟩,
      ⟨(some 5), .mov (.t 15), none⟩] (some [0, 3, 5]) none))))
def impl_pictureOf_M : MC :=
  (.seq (.reg none [
      ⟨(some 2), .mov (.c (.int .u64 0)), none⟩] (some [0]) none)
    (.seq (.reg none [
      ⟨(some 3), .mov (.c (.int .u64 0)), none⟩] (some [0, 3]) none)
    (.seq (.seq (.reg none [
      ⟨(some 5), .mov (.c (.int .i64 0)), none⟩] (some [0, 3, 5]) none)
    (.block 0 (.loop impl_pictureOf_L0)))
    (.seq (.reg none [
      ⟨(some 16), .mov (.t 3), none⟩,
      ⟨(some 2), .mov (.t 16), none⟩] (some [2]) none)
    .ret))))
def impl_pictureOf_F : MF := ⟨17, [.t 2], impl_pictureOf_M⟩
theorem impl_pictureOf_ok : OkF Try.prog 118 impl_pictureOf_F Try.f118 (bodyOf Try.f118) := ⟨Try.func118, by kernel_rfl, by kernel_rfl, by kernel_rfl, by kernel_rfl⟩
-- (loop.example/g01312/impl.Layer).shown$1
def impl_Layer_shown_1_M : MC :=
  (.seq (.reg none [
      ⟨(some 4), .mov (.c (.bool false)), none⟩] (some [0, 1, 2]) none)
    (.seq (.reg (some [(2, 3)]) [
      ⟨(some 5), .load (some 65) (.t 1), none⟩,
      ⟨(some 6), .mov (.t 0), none⟩,
      ⟨(some 7), .call 120 [(.t 5), (.t 6)], none⟩,
      ⟨(some 8), .load none (.t 2), none⟩,
      ⟨(some 9), .bin .geq (.t 7) (.t 8), none⟩,
      ⟨(some 4), .mov (.t 9), none⟩] (some [4]) none)
    .ret))
def impl_Layer_shown_1_F : MF := ⟨10, [.t 4], impl_Layer_shown_1_M⟩
theorem impl_Layer_shown_1_ok : OkF Try.prog 119 impl_Layer_shown_1_F Try.f119 (bodyOf Try.f119) := ⟨Try.func119, by kernel_rfl, by kernel_rfl, by kernel_rfl, by kernel_rfl⟩
-- (loop.example/g01312/impl.Layer).count
def impl_Layer_count_M : MC :=
  (.seq (.reg none [
      ⟨(some 2), .box (.t 0), none⟩,
      ⟨(some 4), .mov (.c (.int .i64 0)), none⟩] (some [1, 2]) none)
    (.seq (.reg none [
      ⟨(some 5), .mov (.t 1), none⟩,
      ⟨(some 6), .fa 1 (.t 2), none⟩,
      ⟨(some 7), .iaA 64 1 (.t 6) (.t 5), none⟩,
      ⟨(some 8), .load none (.t 7), none⟩,
      ⟨(some 9), .call 141 [(.t 8)], none⟩,
      ⟨(some 4), .mov (.t 9), none⟩] (some [4]) none)
    .ret))
def impl_Layer_count_F : MF := ⟨10, [.t 4], impl_Layer_count_M⟩
theorem impl_Layer_count_ok : OkF Try.prog 120 impl_Layer_count_F Try.f120 (bodyOf Try.f120) := ⟨Try.func120, by kernel_rfl, by kernel_rfl, by kernel_rfl, by kernel_rfl⟩
-- loop.example/g01312/spec.l01Parts
def spec_l01Parts_M : MC :=
  (.seq (.reg none [
      ⟨(some 2), .mov (.c (.bool false)), none⟩] (some [0]) none)
    (.seq (.reg none [
      ⟨(some 3), .mov (.t 0), none⟩,
      ⟨(some 4), .call 93 [(.t 3), (.c (.int .i64 1)), (.c (.int .i64 8))], none⟩,
      ⟨(some 2), .mov (.t 4), none⟩] (some [2]) none)
    .ret))
def spec_l01Parts_F : MF := ⟨5, [.t 2], spec_l01Parts_M⟩
theorem spec_l01Parts_ok : OkF Try.prog 121 spec_l01Parts_F Try.f121 (bodyOf Try.f121) := ⟨Try.func121, by kernel_rfl, by kernel_rfl, by kernel_rfl, by kernel_rfl⟩
-- loop.example/g01312/impl.isParts
def impl_isParts_M : MC :=
  (.seq (.reg none [
      ⟨(some 2), .mov (.c (.bool false)), none⟩] (some [0]) none)
    (.seq (.reg none [
      ⟨(some 3), .mov (.t 0), none⟩,
      ⟨(some 4), .call 96 [(.t 3), (.c (.int .i64 1)), (.c (.int .i64 8))], none⟩,
      ⟨(some 2), .mov (.t 4), none⟩] (some [2]) none)
    .ret))
def impl_isParts_F : MF := ⟨5, [.t 2], impl_isParts_M⟩
theorem impl_isParts_ok : OkF Try.prog 122 impl_isParts_F Try.f122 (bodyOf Try.f122) := ⟨Try.func122, by kernel_rfl, by kernel_rfl, by kernel_rfl, by kernel_rfl⟩
-- loop.example/g01312/impl.mask
def impl_mask_M : MC :=
  (.seq (.reg none [
      ⟨(some 2), .mov (.c (.int .u8 0)), none⟩] (some [0]) none)
    (.seq (.reg none [
      ⟨(some 3), .mov (.t 0), none⟩,
      ⟨(some 4), .bin .shl (.c (.int .u8 1)) (.t 3), none⟩,
      ⟨(some 5), .bin .sub (.t 4) (.c (.int .u8 1)), none⟩,
      ⟨(some 2), .mov (.t 5), none⟩] (some [2]) none)
    .ret))
def impl_mask_F : MF := ⟨6, [.t 2], impl_mask_M⟩
theorem impl_mask_ok : OkF Try.prog 123 impl_mask_F Try.f123 (bodyOf Try.f123) := ⟨Try.func123, by kernel_rfl, by kernel_rfl, by kernel_rfl, by kernel_rfl⟩
-- slices.Equal[[]uint8,uint8]
def slices_Equal___uint8_uint8__L0 : MC :=
  (.seq (.reg none [
      ⟨(some 14), .bin .lss (.t 13) (.t 12), none⟩] (some [0, 1, 12, 13, 14]) none)
    (.seq (.cond (.t 14) .skip
    (.exit 0))
    (.seq (.block 1 (.seq (.reg none [
      ⟨(some 15), .mov (.t 13), none⟩,
      ⟨(some 5), .mov (.t 15), none⟩] (some [0, 1, 5, 12, 13]) none)
    (.seq (.reg (some []) [
      ⟨(some 16), .mov (.t 0), none⟩,
      ⟨(some 17), .mov (.t 5), none⟩,
      ⟨(some 18), .iaS 1 (.t 16) (.t 17), none⟩,
      ⟨(some 19), .load none (.t 18), none⟩,
      ⟨(some 20), .mov (.t 1), none⟩,
      ⟨(some 21), .mov (.t 5), none⟩,
      ⟨(some 22), .iaS 1 (.t 20) (.t 21), none⟩,
      ⟨(some 23), .load none (.t 22), none⟩,
      ⟨(some 24), .bin .neq (.t 19) (.t 23), none⟩] (some [0, 1, 12, 13, 24]) none)
    (.cond (.t 24) (.seq (.reg none [
      ⟨(some 4), .mov (.c (.bool false)), none⟩] (some [4]) none)
    .ret)
    .skip))))
    (.reg none [
      ⟨(some 25), .bin .add (.t 13) (.c (.int .i64 1)), none⟩,
      ⟨(some 13), .mov (.t 25), none⟩] (some [0, 1, 12, 13]) none))))
def slices_Equal___uint8_uint8__M : MC :=
  (.seq (.reg none [
      ⟨(some 4), .mov (.c (.bool false)), none⟩] (some [0, 1]) none)
    (.seq (.seq (.reg none [
      ⟨(some 6), .mov (.t 0), none⟩,
      ⟨(some 7), .lenS (.t 6), none⟩,
      ⟨(some 8), .mov (.t 1), none⟩,
      ⟨(some 9), .lenS (.t 8), none⟩,
      ⟨(some 10), .bin .neq (.t 7) (.t 9), none⟩] (some [0, 1, 10]) none)
    (.cond (.t 10) (.seq (.reg none [
      ⟨(some 4), .mov (.c (.bool false)), none⟩] (some [4]) none)
    .ret)
    .skip))
    (.seq (.seq (.reg none [
      ⟨(some 11), .mov (.t 0), none⟩,
      ⟨(some 12), .lenS (.t 11), none⟩,
      ⟨(some 13), .mov (.c (.int .i64 0)), none⟩] (some [0, 1, 12, 13]) none)
    (.block 0 (.loop slices_Equal___uint8_uint8__L0)))
    (.seq (.reg none [
      ⟨(some 4), .mov (.c (.bool true)), none⟩] (some [4]) none)
    .ret))))
def slices_Equal___uint8_uint8__F : MF := ⟨26, [.t 4], slices_Equal___uint8_uint8__M⟩
theorem slices_Equal___uint8_uint8__ok : OkF Try.prog 124 slices_Equal___uint8_uint8__F Try.f124 (bodyOf Try.f124) := ⟨Try.func124, by kernel_rfl, by kernel_rfl, by kernel_rfl, by kernel_rfl⟩
-- loop.example/g01312/spec.l02Gap
def spec_l02Gap_M : MC :=
  (.seq (.reg none [
      ⟨(some 4), .mov (.c (.int .i64 0)), none⟩] (some [0, 1]) none)
    (.seq (.reg none [
      ⟨(some 5), .mov (.t 0), none⟩,
      ⟨(some 6), .mov (.t 1), none⟩,
      ⟨(some 7), .call 143 [(.t 5), (.t 6), (.c (.bool true))], none⟩,
      ⟨(some 8), .mov (.t 0), none⟩,
      ⟨(some 9), .mov (.t 1), none⟩,
      ⟨(some 10), .call 143 [(.t 8), (.t 9), (.c (.bool false))], none⟩,
      ⟨(some 11), .bin .sub (.t 7) (.t 10), none⟩,
      ⟨(some 4), .mov (.t 11), none⟩] (some [4]) none)
    .ret))
def spec_l02Gap_F : MF := ⟨12, [.t 4], spec_l02Gap_M⟩
theorem spec_l02Gap_ok : OkF Try.prog 125 spec_l02Gap_F Try.f125 (bodyOf Try.f125) := ⟨Try.func125, by kernel_rfl, by kernel_rfl, by kernel_rfl, by kernel_rfl⟩
-- (loop.example/g01312/impl.Scheme).sets
def impl_Scheme_sets_L0 : MC :=
  (.seq (.reg none [
      ⟨(some 11), .bin .lss (.t 10) (.t 9), none⟩] (some [1, 5, 9, 10, 11]) none)
    (.seq (.cond (.t 11) .skip
    (.exit 0))
    (.seq (.block 1 (.seq (.reg none [
      ⟨(some 12), .mov (.t 10), none⟩,
      ⟨(some 6), .mov (.t 12), none⟩] (some [1, 5, 6, 9, 10]) none)
    (.seq (.reg none [
      ⟨(some 13), .mov (.t 1), none⟩,
      ⟨(some 14), .mov (.t 6), none⟩,
      ⟨(some 15), .conv .u8 (.t 14), none⟩,
      ⟨(some 16), .callv (.t 13) [(.t 15)], none⟩] (some [1, 5, 6, 9, 10, 16]) none)
    (.cond (.t 16) (.reg none [
      ⟨(some 17), .mov (.t 5), none⟩,
      ⟨(some 18), .mov (.t 6), none⟩,
      ⟨(some 19), .bin .shl (.c (.int .u64 1)) (.t 18), none⟩,
      ⟨(some 20), .bin .or (.t 17) (.t 19), none⟩,
      ⟨(some 5), .mov (.t 20), none⟩] (some [1, 5, 9, 10]) none)
    .skip))))
    (.reg none [
      ⟨(some 21), .bin .add (.t 10) (.c (.int .i64 1)), none⟩,
      ⟨(some 10), .mov (.t 21), none⟩] (some [1, 5, 9, 10]) none))))
def impl_Scheme_sets_M : MC :=
  (.seq (.reg none [
      ⟨(some 2), .box (.t 0), none⟩,
      ⟨(some 4), .mov (.c (.int .u64 0)), none⟩] (some [1, 2]) none)
    (.seq (.reg none [
      ⟨(some 5), .mov (.c (.int .u64 0)), none⟩] (some [1, 2, 5]) none)
    (.seq (.seq (.reg none [
      ⟨(some 7), .fa 0 (.t 2), none⟩,
      ⟨(some 8), .load none (.t 7), none⟩,
      ⟨(some 9), .bin .shl (.c (.int .i64 1)) (.t 8), none⟩,
      ⟨(some 10), .mov (.c (.int .i64 0)), none⟩] (some [1, 5, 9, 10]) none)
    (.block 0 (.loop impl_Scheme_sets_L0)))
    (.seq (.reg none [
      ⟨(some 22), .mov (.t 5), none⟩,
      ⟨(some 4), .mov (.t 22), none⟩] (some [4]) none)
    .ret))))
def impl_Scheme_sets_F : MF := ⟨23, [.t 4], impl_Scheme_sets_M⟩
theorem impl_Scheme_sets_ok : OkF Try.prog 126 impl_Scheme_sets_F Try.f126 (bodyOf Try.f126) := ⟨Try.func126, by kernel_rfl, by kernel_rfl, by kernel_rfl, by kernel_rfl⟩
-- (loop.example/g01312/impl.Scheme).seeing
def impl_Scheme_seeing_M : MC :=
  (.seq (.reg none [
      ⟨(some 1), .box (.t 0), none⟩,
      ⟨(some 2), .mov (.c (.int .u64 0)), none⟩] (some [1]) none)
    (.seq (.reg none [
      ⟨(some 3), .load (some 14) (.t 1), none⟩,
      ⟨(some 4), .load (some 14) (.t 1), none⟩,
      ⟨(some 5), .mkf 115 [(.t 4)] [], none⟩,
      ⟨(some 6), .call 126 [(.t 3), (.t 5)], none⟩,
      ⟨(some 2), .mov (.t 6), none⟩] (some [2]) none)
    .ret))
def impl_Scheme_seeing_F : MF := ⟨7, [.t 2], impl_Scheme_seeing_M⟩
theorem impl_Scheme_seeing_ok : OkF Try.prog 127 impl_Scheme_seeing_F Try.f127 (bodyOf Try.f127) := ⟨Try.func127, by kernel_rfl, by kernel_rfl, by kernel_rfl, by kernel_rfl⟩
-- (loop.example/g01312/impl.Scheme).isSound$1
def impl_Scheme_isSound_1_M : MC :=
  (.seq (.reg none [
      ⟨(some 2), .mov (.c (.bool false)), none⟩] (some []) none)
    (.seq (.reg none [
      ⟨(some 2), .mov (.c (.bool true)), none⟩] (some [2]) none)
    .ret))
def impl_Scheme_isSound_1_F : MF := ⟨3, [.t 2], impl_Scheme_isSound_1_M⟩
theorem impl_Scheme_isSound_1_ok : OkF Try.prog 128 impl_Scheme_isSound_1_F Try.f128 (bodyOf Try.f128) := ⟨Try.func128, by kernel_rfl, by kernel_rfl, by kernel_rfl, by kernel_rfl⟩
-- loop.example/g01312/spec.l02Column
def spec_l02Column_L0 : MC :=
  (.seq (.seq (.reg none [
      ⟨(some 15), .mov (.t 11), none⟩,
      ⟨(some 16), .bin .lss (.t 15) (.c (.int .i64 6)), none⟩] (some [1, 3, 9, 10, 11, 16]) none)
    (.cond (.t 16) .skip
    (.exit 0)))
    (.seq (.block 1 (.reg none [
      ⟨(some 19), .mov (.t 10), none⟩,
      ⟨(some 20), .mov (.t 11), none⟩,
      ⟨(some 21), .iaA 6 1 (.t 9) (.t 20), none⟩,
      ⟨(some 22), .load none (.t 21), none⟩,
      ⟨(some 23), .mov (.t 3), none⟩,
      ⟨(some 24), .conv .u64 (.t 23), none⟩,
      ⟨(some 25), .bin .shr (.t 22) (.t 24), none⟩,
      ⟨(some 26), .bin .and (.t 25) (.c (.int .u8 1)), none⟩,
      ⟨(some 27), .mov (.t 11), none⟩,
      ⟨(some 28), .conv .u64 (.t 27), none⟩,
      ⟨(some 29), .bin .shl (.t 26) (.t 28), none⟩,
      ⟨(some 30), .bin .or (.t 19) (.t 29), none⟩,
      ⟨(some 10), .mov (.t 30), none⟩] (some [1, 3, 9, 10, 11]) none))
    (.reg none [
      ⟨(some 17), .mov (.t 11), none⟩,
      ⟨(some 18), .bin .add (.t 17) (.c (.int .i64 1)), none⟩,
      ⟨(some 11), .mov (.t 18), none⟩] (some [1, 3, 9, 10, 11]) none)))
def spec_l02Column_M : MC :=
  (.seq (.reg none [
      ⟨(some 8), .mov (.c (.int .u8 0)), none⟩] (some [0, 1, 2, 3]) none)
    (.seq (.reg none [
      ⟨(some 12), .mov (.t 0), none⟩,
      ⟨(some 13), .mov (.t 2), none⟩,
      ⟨(some 14), .call 144 [(.t 12), (.t 13)], none⟩,
      ⟨(some 9), .new (rl [(6, .int .u8 0)]), none⟩,
      ⟨none, .store 6 (.t 9) (.t 14), none⟩] (some [1, 3, 9]) none)
    (.seq (.reg none [
      ⟨(some 10), .mov (.c (.int .u8 0)), none⟩] (some [1, 3, 9, 10]) none)
    (.seq (.seq (.reg none [
      ⟨(some 11), .mov (.c (.int .i64 0)), none⟩] (some [1, 3, 9, 10, 11]) none)
    (.block 0 (.loop spec_l02Column_L0)))
    (.seq (.reg none [
      ⟨(some 31), .mov (.t 10), none⟩,
      ⟨(some 32), .mov (.t 1), none⟩,
      ⟨(some 33), .bin .and (.t 31) (.t 32), none⟩,
      ⟨(some 8), .mov (.t 33), none⟩] (some [8]) none)
    .ret)))))
def spec_l02Column_F : MF := ⟨34, [.t 8], spec_l02Column_M⟩
theorem spec_l02Column_ok : OkF Try.prog 129 spec_l02Column_F Try.f129 (bodyOf Try.f129) := ⟨Try.func129, by kernel_rfl, by kernel_rfl, by kernel_rfl, by kernel_rfl⟩
-- slices.Sorted[uint8]
def slices_Sorted_uint8__M : MC :=
  (.seq (.reg none [
      ⟨(some 2), .mov (.c (.nilsl)), none⟩] (some [0]) none)
    (.seq (.reg none [
      ⟨(some 4), .mov (.t 0), none⟩,
      ⟨(some 5), .call 145 [(.t 4)], none⟩,
      ⟨(some 3), .mov (.t 5), none⟩] (some [3]) none)
    (.seq (.reg none [
      ⟨(some 6), .mov (.t 3), none⟩,
      ⟨(some 7), .call 146 [(.t 6)], none⟩] (some [3]) none)
    (.seq (.reg none [
      ⟨(some 8), .mov (.t 3), none⟩,
      ⟨(some 2), .mov (.t 8), none⟩] (some [2]) none)
    .ret))))
def slices_Sorted_uint8__F : MF := ⟨9, [.t 2], slices_Sorted_uint8__M⟩
theorem slices_Sorted_uint8__ok : OkF Try.prog 130 slices_Sorted_uint8__F Try.f130 (bodyOf Try.f130) := ⟨Try.func130, by kernel_rfl, by kernel_rfl, by kernel_rfl, by kernel_rfl⟩
-- slices.Values[[]uint8,uint8]
def slices_Values___uint8_uint8__M : MC :=
  (.seq (.reg none [
      ⟨(some 1), .box (.t 0), none⟩,
      ⟨(some 2), .mov (.c (.raw .nilFunc)), none⟩] (some [1]) none)
    (.seq (.reg none [
      ⟨(some 3), .mkf 147 [] [(.t 1)], none⟩,
      ⟨(some 2), .mov (.t 3), none⟩] (some [2]) none)
    .ret))
def slices_Values___uint8_uint8__F : MF := ⟨4, [.t 2], slices_Values___uint8_uint8__M⟩
theorem slices_Values___uint8_uint8__ok : OkF Try.prog 131 slices_Values___uint8_uint8__F Try.f131 (bodyOf Try.f131) := ⟨Try.func131, by kernel_rfl, by kernel_rfl, by kernel_rfl, by kernel_rfl⟩
-- (loop.example/g01312/impl.Scheme).columns
def impl_Scheme_columns_M : MC :=
  (.seq (.reg none [
      ⟨(some 3), .box (.t 0), none⟩,
      ⟨(some 6), .mov (.c (.nilsl)), none⟩] (some [1, 2, 3]) none)
    (.seq (.reg (some [(1, 5)]) [
      ⟨(some 7), .mov (.t 2), none⟩,
      ⟨(some 8), .call 136 [(.t 3), (.t 7)], none⟩,
      ⟨(some 9), .nilc (.t 8), none⟩,
      ⟨(some 10), .slA 6 1 (.t 9) none none, none⟩,
      ⟨(some 11), .fa 1 (.t 3), none⟩,
      ⟨(some 12), .load none (.t 11), none⟩,
      ⟨(some 13), .mov (.t 1), none⟩,
      ⟨(some 14), .call 138 [(.t 10), (.t 12), (.t 13)], none⟩,
      ⟨(some 6), .mov (.t 14), none⟩] (some [6]) none)
    .ret))
def impl_Scheme_columns_F : MF := ⟨15, [.t 6], impl_Scheme_columns_M⟩
theorem impl_Scheme_columns_ok : OkF Try.prog 132 impl_Scheme_columns_F Try.f132 (bodyOf Try.f132) := ⟨Try.func132, by kernel_rfl, by kernel_rfl, by kernel_rfl, by kernel_rfl⟩
-- slices.Clone[[]uint8,uint8]
def slices_Clone___uint8_uint8__M : MC :=
  (.seq (.reg none [
      ⟨(some 2), .mov (.c (.nilsl)), none⟩] (some [0]) none)
    (.seq (.seq (.reg none [
      ⟨(some 3), .mov (.t 0), none⟩,
      ⟨(some 4), .nlq false (.t 3), none⟩] (some [0, 4]) none)
    (.cond (.t 4) (.seq (.reg none [
      ⟨(some 2), .mov (.c (.nilsl)), none⟩] (some [2]) none)
    .ret)
    .skip))
    (.seq (.reg none [
      ⟨(some 5), .bldS [.int .u8 0] 0 [], none⟩,
      ⟨(some 6), .mov (.t 0), none⟩,
      ⟨(some 7), .app [.int .u8 0] 1 false (.t 5) (.t 6), none⟩,
      ⟨(some 2), .mov (.t 7), none⟩] (some [2]) none)
    .ret)))
def slices_Clone___uint8_uint8__F : MF := ⟨8, [.t 2], slices_Clone___uint8_uint8__M⟩
theorem slices_Clone___uint8_uint8__ok : OkF Try.prog 133 slices_Clone___uint8_uint8__F Try.f133 (bodyOf Try.f133) := ⟨Try.func133, by kernel_rfl, by kernel_rfl, by kernel_rfl, by kernel_rfl⟩
-- slices.Index[[]uint8,uint8]
def slices_Index___uint8_uint8__L0 : MC :=
  (.seq (.reg none [
      ⟨(some 9), .bin .lss (.t 8) (.t 7), none⟩] (some [0, 1, 7, 8, 9]) none)
    (.seq (.cond (.t 9) .skip
    (.exit 0))
    (.seq (.block 1 (.seq (.reg none [
      ⟨(some 10), .mov (.t 8), none⟩,
      ⟨(some 5), .mov (.t 10), none⟩] (some [0, 1, 5, 7, 8]) none)
    (.seq (.reg none [
      ⟨(some 11), .mov (.t 1), none⟩,
      ⟨(some 12), .mov (.t 0), none⟩,
      ⟨(some 13), .mov (.t 5), none⟩,
      ⟨(some 14), .iaS 1 (.t 12) (.t 13), none⟩,
      ⟨(some 15), .load none (.t 14), none⟩,
      ⟨(some 16), .bin .eql (.t 11) (.t 15), none⟩] (some [0, 1, 5, 7, 8, 16]) none)
    (.cond (.t 16) (.seq (.reg none [
      ⟨(some 17), .mov (.t 5), none⟩,
      ⟨(some 4), .mov (.t 17), none⟩] (some [4]) none)
    .ret)
    .skip))))
    (.reg none [
      ⟨(some 18), .bin .add (.t 8) (.c (.int .i64 1)), none⟩,
      ⟨(some 8), .mov (.t 18), none⟩] (some [0, 1, 7, 8]) none))))
def slices_Index___uint8_uint8__M : MC :=
  (.seq (.reg none [
      ⟨(some 4), .mov (.c (.int .i64 0)), none⟩] (some [0, 1]) none)
    (.seq (.seq (.reg none [
      ⟨(some 6), .mov (.t 0), none⟩,
      ⟨(some 7), .lenS (.t 6), none⟩,
      ⟨(some 8), .mov (.c (.int .i64 0)), none⟩] (some [0, 1, 7, 8]) none)
    (.block 0 (.loop slices_Index___uint8_uint8__L0)))
    (.seq (.reg none [
      ⟨(some 4), .mov (.c (.int .i64 (-1))), none⟩] (some [4]) none)
    .ret)))
def slices_Index___uint8_uint8__F : MF := ⟨19, [.t 4], slices_Index___uint8_uint8__M⟩
-- NOT COMPILED 135 slices.Delete[[]uint8,uint8]
theorem slices_Index___uint8_uint8__ok : OkF Try.prog 134 slices_Index___uint8_uint8__F Try.f134 (bodyOf Try.f134) := ⟨Try.func134, by kernel_rfl, by kernel_rfl, by kernel_rfl, by kernel_rfl⟩
-- (*loop.example/g01312/impl.Scheme).rows
def impl_Scheme_rows_M : MC :=
  (.seq (.reg none [
      ⟨(some 4), .mov (.c (.nilptr)), none⟩] (some [0, 1]) none)
    (.seq (.seq (.reg none [
      ⟨(some 5), .mov (.t 1), none⟩] (some [0, 5]) none)
    (.cond (.t 5) (.seq (.reg none [
      ⟨(some 6), .mov (.t 0), none⟩,
      ⟨(some 7), .nilc (.t 6), none⟩,
      ⟨(some 8), .fa 8 (.t 7), none⟩,
      ⟨(some 4), .mov (.t 8), none⟩] (some [4]) none)
    .ret)
    .skip))
    (.seq (.reg none [
      ⟨(some 9), .mov (.t 0), none⟩,
      ⟨(some 10), .nilc (.t 9), none⟩,
      ⟨(some 11), .fa 2 (.t 10), none⟩,
      ⟨(some 4), .mov (.t 11), none⟩] (some [4]) none)
    .ret)))
def impl_Scheme_rows_F : MF := ⟨12, [.t 4], impl_Scheme_rows_M⟩
theorem impl_Scheme_rows_ok : OkF Try.prog 136 impl_Scheme_rows_F Try.f136 (bodyOf Try.f136) := ⟨Try.func136, by kernel_rfl, by kernel_rfl, by kernel_rfl, by kernel_rfl⟩
-- loop.example/g01312/spec.l03Sorted
def spec_l03Sorted_L1 : MC :=
  (.seq (.seq (.reg none [
      ⟨(some 21), .mov (.t 6), none⟩,
      ⟨(some 22), .bin .gtr (.t 21) (.c (.int .i64 0)), none⟩,
      ⟨(some 23), .mov (.t 22), none⟩,
      ⟨(some 24), .mov (.t 5), some (23, true)⟩,
      ⟨(some 25), .mov (.t 3), some (23, true)⟩,
      ⟨(some 26), .mov (.t 6), some (23, true)⟩,
      ⟨(some 27), .bin .sub (.t 26) (.c (.int .i64 1)), some (23, true)⟩,
      ⟨(some 28), .iaS 1 (.t 25) (.t 27), some (23, true)⟩,
      ⟨(some 29), .load none (.t 28), some (23, true)⟩,
      ⟨(some 30), .bin .lss (.t 24) (.t 29), some (23, true)⟩,
      ⟨(some 31), .pick (.t 23) (.t 30) (.c (.bool false)), none⟩] (some [3, 4, 5, 6, 31]) none)
    (.cond (.t 31) .skip
    (.exit 2)))
    (.block 3 (.seq (.reg none [
      ⟨(some 32), .mov (.t 3), none⟩,
      ⟨(some 33), .mov (.t 6), none⟩,
      ⟨(some 34), .mov (.t 3), none⟩,
      ⟨(some 35), .mov (.t 6), none⟩,
      ⟨(some 36), .bin .sub (.t 35) (.c (.int .i64 1)), none⟩,
      ⟨(some 37), .iaS 1 (.t 34) (.t 36), none⟩,
      ⟨(some 38), .load none (.t 37), none⟩,
      ⟨(some 39), .iaS 1 (.t 32) (.t 33), none⟩,
      ⟨none, .store 1 (.t 39) (.t 38), none⟩] (some [3, 4, 5, 6]) none)
    (.reg none [
      ⟨(some 40), .mov (.t 6), none⟩,
      ⟨(some 41), .bin .sub (.t 40) (.c (.int .i64 1)), none⟩,
      ⟨(some 6), .mov (.t 41), none⟩] (some [3, 4, 5, 6]) none))))
def spec_l03Sorted_L0 : MC :=
  (.seq (.seq (.reg none [
      ⟨(some 10), .mov (.t 4), none⟩,
      ⟨(some 11), .mov (.t 3), none⟩,
      ⟨(some 12), .lenS (.t 11), none⟩,
      ⟨(some 13), .bin .lss (.t 10) (.t 12), none⟩] (some [3, 4, 13]) none)
    (.cond (.t 13) .skip
    (.exit 0)))
    (.seq (.block 1 (.seq (.reg none [
      ⟨(some 16), .mov (.t 3), none⟩,
      ⟨(some 17), .mov (.t 4), none⟩,
      ⟨(some 18), .iaS 1 (.t 16) (.t 17), none⟩,
      ⟨(some 19), .load none (.t 18), none⟩,
      ⟨(some 5), .mov (.t 19), none⟩] (some [3, 4, 5]) none)
    (.seq (.reg none [
      ⟨(some 20), .mov (.t 4), none⟩,
      ⟨(some 6), .mov (.t 20), none⟩] (some [3, 4, 5, 6]) none)
    (.seq (.block 2 (.loop spec_l03Sorted_L1))
    (.reg none [
      ⟨(some 42), .mov (.t 3), none⟩,
      ⟨(some 43), .mov (.t 6), none⟩,
      ⟨(some 44), .mov (.t 5), none⟩,
      ⟨(some 45), .iaS 1 (.t 42) (.t 43), none⟩,
      ⟨none, .store 1 (.t 45) (.t 44), none⟩] (some [3, 4]) none)))))
    (.reg none [
      ⟨(some 14), .mov (.t 4), none⟩,
      ⟨(some 15), .bin .add (.t 14) (.c (.int .i64 1)), none⟩,
      ⟨(some 4), .mov (.t 15), none⟩] (some [3, 4]) none)))
def spec_l03Sorted_M : MC :=
  (.seq (.reg none [
      ⟨(some 2), .mov (.c (.nilsl)), none⟩] (some [0]) none)
    (.seq (.reg none [
      ⟨(some 7), .bldS [.int .u8 0] 0 [], none⟩,
      ⟨(some 8), .mov (.t 0), none⟩,
      ⟨(some 9), .app [.int .u8 0] 1 false (.t 7) (.t 8), none⟩,
      ⟨(some 3), .mov (.t 9), none⟩] (some [3]) none)
    (.seq (.seq (.reg none [
      ⟨(some 4), .mov (.c (.int .i64 1)), none⟩] (some [3, 4]) none)
    (.block 0 (.loop spec_l03Sorted_L0)))
    (.seq (.reg none [
      ⟨(some 46), .mov (.t 3), none⟩,
      ⟨(some 2), .mov (.t 46), none⟩] (some [2]) none)
    .ret))))
def spec_l03Sorted_F : MF := ⟨47, [.t 2], spec_l03Sorted_M⟩
theorem spec_l03Sorted_ok : OkF Try.prog 137 spec_l03Sorted_F Try.f137 (bodyOf Try.f137) := ⟨Try.func137, by kernel_rfl, by kernel_rfl, by kernel_rfl, by kernel_rfl⟩
-- loop.example/g01312/impl.columnsOf
def impl_columnsOf_L1 : MC :=
  (.seq (.reg none [
      ⟨(some 28), .bin .lss (.t 27) (.t 26), none⟩] (some [2, 7, 8, 9, 13, 14, 15, 26, 27, 28]) none)
    (.seq (.cond (.t 28) .skip
    (.exit 2))
    (.seq (.block 3 (.seq (.reg none [
      ⟨(some 29), .mov (.t 27), none⟩,
      ⟨(some 10), .mov (.t 29), none⟩] (some [2, 7, 8, 9, 10, 13, 14, 15, 26, 27]) none)
    (.reg (some []) [
      ⟨(some 30), .mov (.t 7), none⟩,
      ⟨(some 31), .mov (.t 10), none⟩,
      ⟨(some 32), .iaS 1 (.t 30) (.t 31), none⟩,
      ⟨(some 33), .load none (.t 32), none⟩,
      ⟨(some 34), .mov (.t 9), none⟩,
      ⟨(some 35), .mov (.t 10), none⟩,
      ⟨(some 36), .bin .shr (.t 34) (.t 35), none⟩,
      ⟨(some 37), .bin .and (.t 36) (.c (.int .u8 1)), none⟩,
      ⟨(some 38), .mov (.t 8), none⟩,
      ⟨(some 39), .bin .shl (.t 37) (.t 38), none⟩,
      ⟨(some 40), .bin .or (.t 33) (.t 39), none⟩,
      ⟨(some 41), .iaS 1 (.t 30) (.t 31), none⟩,
      ⟨none, .store 1 (.t 41) (.t 40), none⟩] (some [2, 7, 8, 9, 13, 14, 15, 26, 27]) none)))
    (.reg none [
      ⟨(some 42), .bin .add (.t 27) (.c (.int .i64 1)), none⟩,
      ⟨(some 27), .mov (.t 42), none⟩] (some [2, 7, 8, 9, 13, 14, 15, 26, 27]) none))))
def impl_columnsOf_L0 : MC :=
  (.seq (.reg none [
      ⟨(some 16), .bin .lss (.t 15) (.t 14), none⟩] (some [2, 7, 13, 14, 15, 16]) none)
    (.seq (.cond (.t 16) .skip
    (.exit 0))
    (.seq (.block 1 (.seq (.reg none [
      ⟨(some 17), .mov (.t 15), none⟩,
      ⟨(some 18), .iaS 1 (.t 13) (.t 15), none⟩,
      ⟨(some 19), .load none (.t 18), none⟩,
      ⟨(some 8), .mov (.t 17), none⟩,
      ⟨(some 9), .mov (.t 19), none⟩] (some [2, 7, 8, 9, 13, 14, 15]) none)
    (.seq (.seq (.reg none [
      ⟨(some 20), .mov (.t 2), none⟩,
      ⟨(some 21), .mov (.t 8), none⟩,
      ⟨(some 22), .bin .shr (.t 20) (.t 21), none⟩,
      ⟨(some 23), .bin .and (.t 22) (.c (.int .u8 1)), none⟩,
      ⟨(some 24), .bin .eql (.t 23) (.c (.int .u8 0)), none⟩] (some [2, 7, 8, 9, 13, 14, 15, 24]) none)
    (.cond (.t 24) (.exit 1)
    .skip))
    (.seq (.reg none [
      ⟨(some 25), .mov (.t 7), none⟩,
      ⟨(some 26), .lenS (.t 25), none⟩,
      ⟨(some 27), .mov (.c (.int .i64 0)), none⟩] (some [2, 7, 8, 9, 13, 14, 15, 26, 27]) none)
    (.block 2 (.loop impl_columnsOf_L1))))))
    (.reg none [
      ⟨(some 43), .bin .add (.t 15) (.c (.int .i64 1)), none⟩,
      ⟨(some 15), .mov (.t 43), none⟩] (some [2, 7, 13, 14, 15]) none))))
def impl_columnsOf_M : MC :=
  (.seq (.reg none [
      ⟨(some 6), .mov (.c (.nilsl)), none⟩] (some [0, 1, 2]) none)
    (.seq (.reg none [
      ⟨(some 11), .mov (.t 1), none⟩,
      ⟨(some 12), .mks [.int .u8 0] 1 (.t 11) (.t 11), none⟩,
      ⟨(some 7), .mov (.t 12), none⟩] (some [0, 2, 7]) none)
    (.seq (.seq (.reg none [
      ⟨(some 13), .mov (.t 0), none⟩,
      ⟨(some 14), .lenS (.t 13), none⟩,
      ⟨(some 15), .mov (.c (.int .i64 0)), none⟩] (some [2, 7, 13, 14, 15]) none)
    (.block 0 (.loop impl_columnsOf_L0)))
    (.seq (.reg none [
      ⟨(some 44), .mov (.t 7), none⟩,
      ⟨(some 6), .mov (.t 44), none⟩] (some [6]) none)
    .ret))))
def impl_columnsOf_F : MF := ⟨45, [.t 6], impl_columnsOf_M⟩
theorem impl_columnsOf_ok : OkF Try.prog 138 impl_columnsOf_F Try.f138 (bodyOf Try.f138) := ⟨Try.func138, by kernel_rfl, by kernel_rfl, by kernel_rfl, by kernel_rfl⟩
-- loop.example/g01312/spec.l01Cell
def spec_l01Cell_M : MC :=
  (.seq (.reg none [
      ⟨(some 2), .mov (.c (.bool false)), none⟩] (some [0]) none)
    (.seq (.reg none [
      ⟨(some 3), .mov (.t 0), none⟩,
      ⟨(some 4), .call 93 [(.t 3), (.c (.int .i64 0)), (.c (.int .i64 7))], none⟩,
      ⟨(some 2), .mov (.t 4), none⟩] (some [2]) none)
    .ret))
def spec_l01Cell_F : MF := ⟨5, [.t 2], spec_l01Cell_M⟩
theorem spec_l01Cell_ok : OkF Try.prog 139 spec_l01Cell_F Try.f139 (bodyOf Try.f139) := ⟨Try.func139, by kernel_rfl, by kernel_rfl, by kernel_rfl, by kernel_rfl⟩
-- (loop.example/g01312/impl.Scheme).gap
def impl_Scheme_gap_M : MC :=
  (.seq (.reg none [
      ⟨(some 2), .box (.t 0), none⟩,
      ⟨(some 4), .mov (.c (.int .i64 0)), none⟩] (some [1, 2]) none)
    (.seq (.reg (some [(2, 3), (0, 5)]) [
      ⟨(some 5), .load (some 14) (.t 2), none⟩,
      ⟨(some 6), .mov (.t 1), none⟩,
      ⟨(some 7), .call 116 [(.t 5), (.t 6), (.c (.bool true))], none⟩,
      ⟨(some 8), .load (some 14) (.t 2), none⟩,
      ⟨(some 9), .mov (.t 1), none⟩,
      ⟨(some 10), .call 116 [(.t 8), (.t 9), (.c (.bool false))], none⟩,
      ⟨(some 11), .bin .sub (.t 7) (.t 10), none⟩,
      ⟨(some 4), .mov (.t 11), none⟩] (some [4]) none)
    .ret))
def impl_Scheme_gap_F : MF := ⟨12, [.t 4], impl_Scheme_gap_M⟩
theorem impl_Scheme_gap_ok : OkF Try.prog 140 impl_Scheme_gap_F Try.f140 (bodyOf Try.f140) := ⟨Try.func140, by kernel_rfl, by kernel_rfl, by kernel_rfl, by kernel_rfl⟩
-- math/bits.OnesCount8
def math_bits_OnesCount8_M : MC :=
  (.seq (.reg none [
      ⟨(some 2), .mov (.c (.int .i64 0)), none⟩] (some [0]) none)
    (.seq (.reg none [
      ⟨(some 3), .mov (.t 0), none⟩,
      ⟨(some 4), .ixS (.c (.str ⟨[0, 1, 1, 2, 1, 2, 2, 3, 1, 2, 2, 3, 2, 3, 3, 4, 1, 2, 2, 3, 2, 3, 3, 4, 2, 3, 3, 4, 3, 4, 4, 5, 1, 2, 2, 3, 2, 3, 3, 4, 2, 3, 3, 4, 3, 4, 4, 5, 2, 3, 3, 4, 3, 4, 4, 5, 3, 4, 4, 5, 4, 5, 5, 6, 1, 2, 2, 3, 2, 3, 3, 4, 2, 3, 3, 4, 3, 4, 4, 5, 2, 3, 3, 4, 3, 4, 4, 5, 3, 4, 4, 5, 4, 5, 5, 6, 2, 3, 3, 4, 3, 4, 4, 5, 3, 4, 4, 5, 4, 5, 5, 6, 3, 4, 4, 5, 4, 5, 5, 6, 4, 5, 5, 6, 5, 6, 6, 7, 1, 2, 2, 3, 2, 3, 3, 4, 2, 3, 3, 4, 3, 4, 4, 5, 2, 3, 3, 4, 3, 4, 4, 5, 3, 4, 4, 5, 4, 5, 5, 6, 2, 3, 3, 4, 3, 4, 4, 5, 3, 4, 4, 5, 4, 5, 5, 6, 3, 4, 4, 5, 4, 5, 5, 6, 4, 5, 5, 6, 5, 6, 6, 7, 2, 3, 3, 4, 3, 4, 4, 5, 3, 4, 4, 5, 4, 5, 5, 6, 3, 4, 4, 5, 4, 5, 5, 6, 4, 5, 5, 6, 5, 6, 6, 7, 3, 4, 4, 5, 4, 5, 5, 6, 4, 5, 5, 6, 5, 6, 6, 7, 4, 5, 5, 6, 5, 6, 6, 7, 5, 6, 6, 7, 6, 7, 7, 8].toArray⟩)) (.t 3), none⟩,
      ⟨(some 5), .conv .i64 (.t 4), none⟩,
      ⟨(some 2), .mov (.t 5), none⟩] (some [2]) none)
    .ret))
def math_bits_OnesCount8_F : MF := ⟨6, [.t 2], math_bits_OnesCount8_M⟩
theorem math_bits_OnesCount8_ok : OkF Try.prog 141 math_bits_OnesCount8_F Try.f141 (bodyOf Try.f141) := ⟨Try.func141, by kernel_rfl, by kernel_rfl, by kernel_rfl, by kernel_rfl⟩
-- loop.example/g01312/impl.stack$1
def impl_stack_1_L0 : MC :=
  (.seq (.reg none [
      ⟨(some 10), .bin .lss (.t 9) (.t 8), none⟩] (some [0, 4, 7, 8, 9, 10]) none)
    (.seq (.cond (.t 10) .skip
    (.exit 0))
    (.seq (.block 1 (.seq (.reg none [
      ⟨(some 11), .iaS 65 (.t 7) (.t 9), none⟩,
      ⟨(some 12), .load (some 65) (.t 11), none⟩,
      ⟨(some 6), .new (rl [(1, .int .i8 0), (64, .int .u8 0)]), none⟩,
      ⟨none, .store 65 (.t 6) (.t 12), none⟩] (some [0, 4, 6, 7, 8, 9]) none)
    (.reg none [
      ⟨(some 13), .mov (.t 4), none⟩,
      ⟨(some 14), .mov (.t 0), none⟩,
      ⟨(some 15), .fa 1 (.t 6), none⟩,
      ⟨(some 16), .iaA 64 1 (.t 15) (.t 14), none⟩,
      ⟨(some 17), .load none (.t 16), none⟩,
      ⟨(some 18), .bin .or (.t 13) (.t 17), none⟩,
      ⟨(some 4), .mov (.t 18), none⟩] (some [0, 4, 7, 8, 9]) none)))
    (.reg none [
      ⟨(some 19), .bin .add (.t 9) (.c (.int .i64 1)), none⟩,
      ⟨(some 9), .mov (.t 19), none⟩] (some [0, 4, 7, 8, 9]) (some 0)))))
def impl_stack_1_M : MC :=
  (.seq (.reg none [
      ⟨(some 3), .mov (.c (.int .u8 0)), none⟩] (some [0, 1]) none)
    (.seq (.reg none [
      ⟨(some 4), .mov (.c (.int .u8 0)), none⟩] (some [0, 1, 4]) none)
    (.seq (.seq (.reg none [
      ⟨(some 7), .load none (.t 1), none⟩,
      ⟨(some 8), .lenS (.t 7), none⟩,
      ⟨(some 9), .mov (.c (.int .i64 0)), none⟩] (some [0, 4, 7, 8, 9]) none)
    (.block 0 (.loop impl_stack_1_L0)))
    (.seq (.reg none [
      ⟨(some 20), .mov (.t 4), none⟩,
      ⟨(some 3), .mov (.t 20), none⟩] (some [3]) none)
    .ret))))
def impl_stack_1_F : MF := ⟨21, [.t 3], impl_stack_1_M⟩
theorem impl_stack_1_ok : OkF Try.prog 142 impl_stack_1_F Try.f142 (bodyOf Try.f142) := ⟨Try.func142, by kernel_rfl, by kernel_rfl, by kernel_rfl, by kernel_rfl⟩
-- loop.example/g01312/spec.l02Weight
def spec_l02Weight_L0 : MC :=
  (.seq (.seq (.reg none [
      ⟨(some 13), .mov (.t 9), none⟩,
      ⟨(some 14), .bin .lss (.t 13) (.c (.int .i64 6)), none⟩] (some [1, 7, 8, 9, 14]) none)
    (.cond (.t 14) .skip
    (.exit 0)))
    (.seq (.block 1 (.seq (.reg none [
      ⟨(some 17), .mov (.t 1), none⟩,
      ⟨(some 18), .mov (.t 9), none⟩,
      ⟨(some 19), .conv .u64 (.t 18), none⟩,
      ⟨(some 20), .bin .shr (.t 17) (.t 19), none⟩,
      ⟨(some 21), .bin .and (.t 20) (.c (.int .u8 1)), none⟩,
      ⟨(some 22), .bin .eql (.t 21) (.c (.int .u8 1)), none⟩] (some [1, 7, 8, 9, 22]) none)
    (.cond (.t 22) (.reg none [
      ⟨(some 23), .mov (.t 8), none⟩,
      ⟨(some 24), .mov (.t 9), none⟩,
      ⟨(some 25), .iaA 6 1 (.t 7) (.t 24), none⟩,
      ⟨(some 26), .load none (.t 25), none⟩,
      ⟨(some 27), .bin .or (.t 23) (.t 26), none⟩,
      ⟨(some 8), .mov (.t 27), none⟩] (some [1, 7, 8, 9]) none)
    .skip)))
    (.reg none [
      ⟨(some 15), .mov (.t 9), none⟩,
      ⟨(some 16), .bin .add (.t 15) (.c (.int .i64 1)), none⟩,
      ⟨(some 9), .mov (.t 16), none⟩] (some [1, 7, 8, 9]) none)))
def spec_l02Weight_M : MC :=
  (.seq (.reg none [
      ⟨(some 6), .mov (.c (.int .i64 0)), none⟩] (some [0, 1, 2]) none)
    (.seq (.reg none [
      ⟨(some 10), .mov (.t 0), none⟩,
      ⟨(some 11), .mov (.t 2), none⟩,
      ⟨(some 12), .call 144 [(.t 10), (.t 11)], none⟩,
      ⟨(some 7), .new (rl [(6, .int .u8 0)]), none⟩,
      ⟨none, .store 6 (.t 7) (.t 12), none⟩] (some [1, 7]) none)
    (.seq (.reg none [
      ⟨(some 8), .mov (.c (.int .u8 0)), none⟩] (some [1, 7, 8]) none)
    (.seq (.seq (.reg none [
      ⟨(some 9), .mov (.c (.int .i64 0)), none⟩] (some [1, 7, 8, 9]) none)
    (.block 0 (.loop spec_l02Weight_L0)))
    (.seq (.reg none [
      ⟨(some 28), .mov (.t 8), none⟩,
      ⟨(some 29), .conv .u64 (.t 28), none⟩,
      ⟨(some 30), .call 112 [(.t 29)], none⟩,
      ⟨(some 6), .mov (.t 30), none⟩] (some [6]) none)
    .ret)))))
def spec_l02Weight_F : MF := ⟨31, [.t 6], spec_l02Weight_M⟩
theorem spec_l02Weight_ok : OkF Try.prog 143 spec_l02Weight_F Try.f143 (bodyOf Try.f143) := ⟨Try.func143, by kernel_rfl, by kernel_rfl, by kernel_rfl, by kernel_rfl⟩
-- loop.example/g01312/spec.l02Rows
def spec_l02Rows_M : MC :=
  (.seq (.reg none [
      ⟨(some 4), .new (rl [(6, .int .u8 0)]), none⟩] (some [0, 1, 4]) none)
    (.seq (.seq (.reg none [
      ⟨(some 5), .mov (.t 1), none⟩] (some [0, 4, 5]) none)
    (.cond (.t 5) (.seq (.reg none [
      ⟨(some 6), .mov (.t 0), none⟩,
      ⟨(some 7), .nilc (.t 6), none⟩,
      ⟨(some 8), .fa 8 (.t 7), none⟩,
      ⟨(some 9), .load (some 6) (.t 8), none⟩,
      ⟨none, .store 6 (.t 4) (.t 9), none⟩] (some [4]) none)
    .ret)
    .skip))
    (.seq (.reg none [
      ⟨(some 10), .mov (.t 0), none⟩,
      ⟨(some 11), .nilc (.t 10), none⟩,
      ⟨(some 12), .fa 2 (.t 11), none⟩,
      ⟨(some 13), .load (some 6) (.t 12), none⟩,
      ⟨none, .store 6 (.t 4) (.t 13), none⟩] (some [4]) none)
    .ret)))
def spec_l02Rows_F : MF := ⟨14, [.c 4 (some 6)], spec_l02Rows_M⟩
theorem spec_l02Rows_ok : OkF Try.prog 144 spec_l02Rows_F Try.f144 (bodyOf Try.f144) := ⟨Try.func144, by kernel_rfl, by kernel_rfl, by kernel_rfl, by kernel_rfl⟩
-- slices.Collect[uint8]
def slices_Collect_uint8__M : MC :=
  (.seq (.reg none [
      ⟨(some 2), .mov (.c (.nilsl)), none⟩] (some [0]) none)
    (.seq (.reg none [
      ⟨(some 3), .mov (.t 0), none⟩,
      ⟨(some 4), .call 148 [(.c (.nilsl)), (.t 3)], none⟩,
      ⟨(some 2), .mov (.t 4), none⟩] (some [2]) none)
    .ret))
def slices_Collect_uint8__F : MF := ⟨5, [.t 2], slices_Collect_uint8__M⟩
theorem slices_Collect_uint8__ok : OkF Try.prog 145 slices_Collect_uint8__F Try.f145 (bodyOf Try.f145) := ⟨Try.func145, by kernel_rfl, by kernel_rfl, by kernel_rfl, by kernel_rfl⟩
-- slices.Sort[[]uint8,uint8]
def slices_Sort___uint8_uint8__M : MC :=
  (.seq (.reg none [
      ⟨(some 3), .mov (.t 0), none⟩,
      ⟨(some 4), .lenS (.t 3), none⟩,
      ⟨(some 2), .mov (.t 4), none⟩] (some [0, 2]) none)
    (.reg none [
      ⟨(some 5), .mov (.t 0), none⟩,
      ⟨(some 6), .mov (.t 2), none⟩,
      ⟨(some 7), .mov (.t 2), none⟩,
      ⟨(some 8), .conv .u64 (.t 7), none⟩,
      ⟨(some 9), .call 150 [(.t 8)], none⟩,
      ⟨(some 10), .call 149 [(.t 5), (.c (.int .i64 0)), (.t 6), (.t 9)], none⟩] (some []) none))
def slices_Sort___uint8_uint8__F : MF := ⟨11, [], slices_Sort___uint8_uint8__M⟩
theorem slices_Sort___uint8_uint8__ok : OkF Try.prog 146 slices_Sort___uint8_uint8__F Try.f146 (bodyOf Try.f146) := ⟨Try.func146, by kernel_rfl, by kernel_rfl, by kernel_rfl, by kernel_rfl⟩
-- slices.Values[[]uint8,uint8]$1
def slices_Values___uint8_uint8__1_L0 : MC :=
  (.seq (.reg none [
      ⟨(some 8), .bin .lss (.t 7) (.t 6), none⟩] (some [0, 5, 6, 7, 8]) none)
    (.seq (.cond (.t 8) .skip
    (.exit 0))
    (.seq (.block 1 (.seq (.reg none [
      ⟨(some 9), .iaS 1 (.t 5) (.t 7), none⟩,
      ⟨(some 10), .load none (.t 9), none⟩,
      ⟨(some 4), .mov (.t 10), none⟩] (some [0, 4, 5, 6, 7]) none)
    (.seq (.reg none [
      ⟨(some 11), .mov (.t 0), none⟩,
      ⟨(some 12), .mov (.t 4), none⟩,
      ⟨(some 13), .callv (.t 11) [(.t 12)], none⟩,
      ⟨(some 14), .un .not (.t 13), none⟩] (some [0, 5, 6, 7, 14]) none)
    (.cond (.t 14) .ret
    .skip))))
    (.reg none [
      ⟨(some 15), .bin .add (.t 7) (.c (.int .i64 1)), none⟩,
      ⟨(some 7), .mov (.t 15), none⟩] (some [0, 5, 6, 7]) none))))
def slices_Values___uint8_uint8__1_M : MC :=
  (.seq (.reg none [
      ⟨(some 5), .load none (.t 1), none⟩,
      ⟨(some 6), .lenS (.t 5), none⟩,
      ⟨(some 7), .mov (.c (.int .i64 0)), none⟩] (some [0, 5, 6, 7]) none)
    (.block 0 (.loop slices_Values___uint8_uint8__1_L0)))
def slices_Values___uint8_uint8__1_F : MF := ⟨16, [], slices_Values___uint8_uint8__1_M⟩
-- NOT COMPILED 148 slices.AppendSeq[[]uint8,uint8]
theorem slices_Values___uint8_uint8__1_ok : OkF Try.prog 147 slices_Values___uint8_uint8__1_F Try.f147 (bodyOf Try.f147) := ⟨Try.func147, by kernel_rfl, by kernel_rfl, by kernel_rfl, by kernel_rfl⟩
-- slices.pdqsortOrdered[uint8]
def slices_pdqsortOrdered_uint8__L0 : MC :=
  (.block 1 (.seq (.reg none [
      ⟨(some 19), .mov (.t 2), none⟩,
      ⟨(some 20), .mov (.t 1), none⟩,
      ⟨(some 21), .bin .sub (.t 19) (.t 20), none⟩,
      ⟨(some 10), .mov (.t 21), none⟩] (some [0, 1, 2, 3, 8, 9, 10]) none)
    (.seq (.seq (.reg none [
      ⟨(some 22), .mov (.t 10), none⟩,
      ⟨(some 23), .bin .leq (.t 22) (.c (.int .i64 12)), none⟩] (some [0, 1, 2, 3, 8, 9, 10, 23]) none)
    (.cond (.t 23) (.seq (.reg none [
      ⟨(some 24), .mov (.t 0), none⟩,
      ⟨(some 25), .mov (.t 1), none⟩,
      ⟨(some 26), .mov (.t 2), none⟩,
      ⟨(some 27), .call 151 [(.t 24), (.t 25), (.t 26)], none⟩] (some []) none)
    .ret)
    .skip))
    (.seq (.seq (.reg none [
      ⟨(some 28), .mov (.t 3), none⟩,
      ⟨(some 29), .bin .eql (.t 28) (.c (.int .i64 0)), none⟩] (some [0, 1, 2, 3, 8, 9, 10, 29]) none)
    (.cond (.t 29) (.seq (.reg none [
      ⟨(some 30), .mov (.t 0), none⟩,
      ⟨(some 31), .mov (.t 1), none⟩,
      ⟨(some 32), .mov (.t 2), none⟩,
      ⟨(some 33), .call 152 [(.t 30), (.t 31), (.t 32)], none⟩] (some []) none)
    .ret)
    .skip))
    (.seq (.seq (.reg none [
      ⟨(some 34), .mov (.t 8), none⟩,
      ⟨(some 35), .un .not (.t 34), none⟩] (some [0, 1, 2, 3, 8, 9, 10, 35]) none)
    (.cond (.t 35) (.seq (.reg none [
      ⟨(some 36), .mov (.t 0), none⟩,
      ⟨(some 37), .mov (.t 1), none⟩,
      ⟨(some 38), .mov (.t 2), none⟩,
      ⟨(some 39), .call 153 [(.t 36), (.t 37), (.t 38)], none⟩] (some [0, 1, 2, 3, 8, 9, 10]) none)
    (.reg none [
      ⟨(some 40), .mov (.t 3), none⟩,
      ⟨(some 41), .bin .sub (.t 40) (.c (.int .i64 1)), none⟩,
      ⟨(some 3), .mov (.t 41), none⟩] (some [0, 1, 2, 3, 8, 9, 10]) none))
    .skip))
    (.seq (.reg none [
      ⟨(some 43), .mov (.t 0), none⟩,
      ⟨(some 44), .mov (.t 1), none⟩,
      ⟨(some 45), .mov (.t 2), none⟩,
      ⟨(some 46), .call 154 [(.t 43), (.t 44), (.t 45)], none⟩,
      ⟨(some 42), .mov (.t 46), none⟩,
      ⟨(some 47), .ext (.t 42) 0, none⟩,
      ⟨(some 48), .ext (.t 42) 1, none⟩,
      ⟨(some 11), .mov (.t 47), none⟩,
      ⟨(some 12), .mov (.t 48), none⟩] (some [0, 1, 2, 3, 8, 9, 10, 11, 12]) none)
    (.seq (.seq (.reg none [
      ⟨(some 49), .mov (.t 12), none⟩,
      ⟨(some 50), .bin .eql (.t 49) (.c (.int .i64 2)), none⟩] (some [0, 1, 2, 3, 8, 9, 10, 11, 12, 50]) none)
    (.cond (.t 50) (.seq (.reg none [
      ⟨(some 51), .mov (.t 0), none⟩,
      ⟨(some 52), .mov (.t 1), none⟩,
      ⟨(some 53), .mov (.t 2), none⟩,
      ⟨(some 54), .call 155 [(.t 51), (.t 52), (.t 53)], none⟩] (some [0, 1, 2, 3, 8, 9, 10, 11]) none)
    (.seq (.reg none [
      ⟨(some 55), .mov (.t 2), none⟩,
      ⟨(some 56), .bin .sub (.t 55) (.c (.int .i64 1)), none⟩,
      ⟨(some 57), .mov (.t 11), none⟩,
      ⟨(some 58), .mov (.t 1), none⟩,
      ⟨(some 59), .bin .sub (.t 57) (.t 58), none⟩,
      ⟨(some 60), .bin .sub (.t 56) (.t 59), none⟩,
      ⟨(some 11), .mov (.t 60), none⟩] (some [0, 1, 2, 3, 8, 9, 10, 11]) none)
    (.reg none [
      ⟨(some 12), .mov (.c (.int .i64 1)), none⟩] (some [0, 1, 2, 3, 8, 9, 10, 11, 12]) none)))
    .skip))
    (.seq (.seq (.reg none [
      ⟨(some 61), .mov (.t 8), none⟩,
      ⟨(some 62), .mov (.t 61), none⟩,
      ⟨(some 63), .mov (.t 9), some (62, true)⟩,
      ⟨(some 64), .pick (.t 62) (.t 63) (.c (.bool false)), none⟩,
      ⟨(some 65), .mov (.t 64), none⟩,
      ⟨(some 66), .mov (.t 12), some (65, true)⟩,
      ⟨(some 67), .bin .eql (.t 66) (.c (.int .i64 1)), some (65, true)⟩,
      ⟨(some 68), .pick (.t 65) (.t 67) (.c (.bool false)), none⟩] (some [0, 1, 2, 3, 8, 9, 10, 11, 68]) none)
    (.cond (.t 68) (.seq (.reg none [
      ⟨(some 69), .mov (.t 0), none⟩,
      ⟨(some 70), .mov (.t 1), none⟩,
      ⟨(some 71), .mov (.t 2), none⟩,
      ⟨(some 72), .call 156 [(.t 69), (.t 70), (.t 71)], none⟩] (some [0, 1, 2, 3, 8, 9, 10, 11, 72]) none)
    (.cond (.t 72) .ret
    .skip))
    .skip))
    (.seq (.seq (.reg (some []) [
      ⟨(some 73), .mov (.t 1), none⟩,
      ⟨(some 74), .bin .gtr (.t 73) (.c (.int .i64 0)), none⟩,
      ⟨(some 75), .mov (.t 74), none⟩,
      ⟨(some 76), .mov (.t 0), some (75, true)⟩,
      ⟨(some 77), .mov (.t 1), some (75, true)⟩,
      ⟨(some 78), .bin .sub (.t 77) (.c (.int .i64 1)), some (75, true)⟩,
      ⟨(some 79), .iaS 1 (.t 76) (.t 78), some (75, true)⟩,
      ⟨(some 80), .load none (.t 79), some (75, true)⟩,
      ⟨(some 81), .mov (.t 0), some (75, true)⟩,
      ⟨(some 82), .mov (.t 11), some (75, true)⟩,
      ⟨(some 83), .iaS 1 (.t 81) (.t 82), some (75, true)⟩,
      ⟨(some 84), .load none (.t 83), some (75, true)⟩,
      ⟨(some 85), .call 157 [(.t 80), (.t 84)], some (75, true)⟩,
      ⟨(some 86), .un .not (.t 85), some (75, true)⟩,
      ⟨(some 87), .pick (.t 75) (.t 86) (.c (.bool false)), none⟩] (some [0, 1, 2, 3, 8, 9, 10, 11, 87]) none)
    (.cond (.t 87) (.seq (.reg none [
      ⟨(some 88), .mov (.t 0), none⟩,
      ⟨(some 89), .mov (.t 1), none⟩,
      ⟨(some 90), .mov (.t 2), none⟩,
      ⟨(some 91), .mov (.t 11), none⟩,
      ⟨(some 92), .call 158 [(.t 88), (.t 89), (.t 90), (.t 91)], none⟩,
      ⟨(some 13), .mov (.t 92), none⟩] (some [0, 2, 3, 8, 9, 13]) none)
    (.seq (.reg none [
      ⟨(some 93), .mov (.t 13), none⟩,
      ⟨(some 1), .mov (.t 93), none⟩] (some [0, 1, 2, 3, 8, 9]) none)
    (.exit 1)))
    .skip))
    (.seq (.reg none [
      ⟨(some 95), .mov (.t 0), none⟩,
      ⟨(some 96), .mov (.t 1), none⟩,
      ⟨(some 97), .mov (.t 2), none⟩,
      ⟨(some 98), .mov (.t 11), none⟩,
      ⟨(some 99), .call 159 [(.t 95), (.t 96), (.t 97), (.t 98)], none⟩,
      ⟨(some 94), .mov (.t 99), none⟩,
      ⟨(some 100), .ext (.t 94) 0, none⟩,
      ⟨(some 101), .ext (.t 94) 1, none⟩,
      ⟨(some 14), .mov (.t 100), none⟩,
      ⟨(some 15), .mov (.t 101), none⟩] (some [0, 1, 2, 3, 10, 14, 15]) none)
    (.seq (.reg none [
      ⟨(some 102), .mov (.t 15), none⟩,
      ⟨(some 9), .mov (.t 102), none⟩] (some [0, 1, 2, 3, 9, 10, 14]) none)
    (.seq (.reg none [
      ⟨(some 103), .mov (.t 14), none⟩,
      ⟨(some 104), .mov (.t 1), none⟩,
      ⟨(some 105), .bin .sub (.t 103) (.t 104), none⟩,
      ⟨(some 106), .mov (.t 2), none⟩,
      ⟨(some 107), .mov (.t 14), none⟩,
      ⟨(some 108), .bin .sub (.t 106) (.t 107), none⟩,
      ⟨(some 16), .mov (.t 105), none⟩,
      ⟨(some 17), .mov (.t 108), none⟩] (some [0, 1, 2, 3, 9, 10, 14, 16, 17]) none)
    (.seq (.reg none [
      ⟨(some 109), .mov (.t 10), none⟩,
      ⟨(some 110), .bin .quo (.t 109) (.c (.int .i64 8)), none⟩,
      ⟨(some 18), .mov (.t 110), none⟩] (some [0, 1, 2, 3, 9, 14, 16, 17, 18]) none)
    (.seq (.reg none [
      ⟨(some 111), .mov (.t 16), none⟩,
      ⟨(some 112), .mov (.t 17), none⟩,
      ⟨(some 113), .bin .lss (.t 111) (.t 112), none⟩] (some [0, 1, 2, 3, 9, 14, 16, 17, 18, 113]) none)
    (.cond (.t 113) (.seq (.reg none [
      ⟨(some 114), .mov (.t 16), none⟩,
      ⟨(some 115), .mov (.t 18), none⟩,
      ⟨(some 116), .bin .geq (.t 114) (.t 115), none⟩,
      ⟨(some 8), .mov (.t 116), none⟩] (some [0, 1, 2, 3, 8, 9, 14]) none)
    (.seq (.reg none [
      ⟨(some 117), .mov (.t 0), none⟩,
      ⟨(some 118), .mov (.t 1), none⟩,
      ⟨(some 119), .mov (.t 14), none⟩,
      ⟨(some 120), .mov (.t 3), none⟩,
      ⟨(some 121), .call 149 [(.t 117), (.t 118), (.t 119), (.t 120)], none⟩] (some [0, 2, 3, 8, 9, 14]) none)
    (.reg none [
      ⟨(some 122), .mov (.t 14), none⟩,
      ⟨(some 123), .bin .add (.t 122) (.c (.int .i64 1)), none⟩,
      ⟨(some 1), .mov (.t 123), none⟩] (some [0, 1, 2, 3, 8, 9]) none)))
    (.seq (.reg none [
      ⟨(some 124), .mov (.t 17), none⟩,
      ⟨(some 125), .mov (.t 18), none⟩,
      ⟨(some 126), .bin .geq (.t 124) (.t 125), none⟩,
      ⟨(some 8), .mov (.t 126), none⟩] (some [0, 1, 2, 3, 8, 9, 14]) none)
    (.seq (.reg none [
      ⟨(some 127), .mov (.t 0), none⟩,
      ⟨(some 128), .mov (.t 14), none⟩,
      ⟨(some 129), .bin .add (.t 128) (.c (.int .i64 1)), none⟩,
      ⟨(some 130), .mov (.t 2), none⟩,
      ⟨(some 131), .mov (.t 3), none⟩,
      ⟨(some 132), .call 149 [(.t 127), (.t 129), (.t 130), (.t 131)], none⟩] (some [0, 1, 3, 8, 9, 14]) none)
    (.reg none [
      ⟨(some 133), .mov (.t 14), none⟩,
      ⟨(some 2), .mov (.t 133), none⟩] (some [0, 1, 2, 3, 8, 9]) none))))))))))))))))))
def slices_pdqsortOrdered_uint8__M : MC :=
  (.seq (.reg none [
      ⟨(some 8), .mov (.c (.bool true)), none⟩] (some [0, 1, 2, 3, 8]) none)
    (.seq (.reg none [
      ⟨(some 9), .mov (.c (.bool true)), none⟩] (some [0, 1, 2, 3, 8, 9]) none)
    (.block 0 (.loop slices_pdqsortOrdered_uint8__L0))))
def slices_pdqsortOrdered_uint8__F : MF := ⟨134, [], slices_pdqsortOrdered_uint8__M⟩
theorem slices_pdqsortOrdered_uint8__ok : OkF Try.prog 149 slices_pdqsortOrdered_uint8__F Try.f149 (bodyOf Try.f149) := ⟨Try.func149, by kernel_rfl, by kernel_rfl, by kernel_rfl, by kernel_rfl⟩
-- math/bits.Len
def math_bits_Len_M : MC :=
  (.seq (.reg none [
      ⟨(some 2), .mov (.c (.int .i64 0)), none⟩] (some [0]) none)
    (.seq (.cond (.c (.bool false)) (.seq (.reg none [
      ⟨(some 3), .mov (.t 0), none⟩,
      ⟨(some 4), .conv .u32 (.t 3), none⟩,
      ⟨(some 5), .call 160 [(.t 4)], none⟩,
      ⟨(some 2), .mov (.t 5), none⟩] (some [2]) none)
    .ret)
    .skip)
    (.seq (.reg none [
      ⟨(some 6), .mov (.t 0), none⟩,
      ⟨(some 7), .call 161 [(.t 6)], none⟩,
      ⟨(some 2), .mov (.t 7), none⟩] (some [2]) none)
    .ret)))
def math_bits_Len_F : MF := ⟨8, [.t 2], math_bits_Len_M⟩
theorem math_bits_Len_ok : OkF Try.prog 150 math_bits_Len_F Try.f150 (bodyOf Try.f150) := ⟨Try.func150, by kernel_rfl, by kernel_rfl, by kernel_rfl, by kernel_rfl⟩
-- slices.insertionSortOrdered[uint8]
def slices_insertionSortOrdered_uint8__L1 : MC :=
  (.seq (.seq (.reg (some []) [
      ⟨(some 16), .mov (.t 7), none⟩,
      ⟨(some 17), .mov (.t 1), none⟩,
      ⟨(some 18), .bin .gtr (.t 16) (.t 17), none⟩,
      ⟨(some 19), .mov (.t 18), none⟩,
      ⟨(some 20), .mov (.t 0), some (19, true)⟩,
      ⟨(some 21), .mov (.t 7), some (19, true)⟩,
      ⟨(some 22), .iaS 1 (.t 20) (.t 21), some (19, true)⟩,
      ⟨(some 23), .load none (.t 22), some (19, true)⟩,
      ⟨(some 24), .mov (.t 0), some (19, true)⟩,
      ⟨(some 25), .mov (.t 7), some (19, true)⟩,
      ⟨(some 26), .bin .sub (.t 25) (.c (.int .i64 1)), some (19, true)⟩,
      ⟨(some 27), .iaS 1 (.t 24) (.t 26), some (19, true)⟩,
      ⟨(some 28), .load none (.t 27), some (19, true)⟩,
      ⟨(some 29), .call 157 [(.t 23), (.t 28)], some (19, true)⟩,
      ⟨(some 30), .pick (.t 19) (.t 29) (.c (.bool false)), none⟩] (some [0, 1, 2, 6, 7, 30]) none)
    (.cond (.t 30) .skip
    (.exit 2)))
    (.seq (.block 3 (.reg (some []) [
      ⟨(some 33), .mov (.t 0), none⟩,
      ⟨(some 34), .mov (.t 7), none⟩,
      ⟨(some 35), .mov (.t 0), none⟩,
      ⟨(some 36), .mov (.t 7), none⟩,
      ⟨(some 37), .bin .sub (.t 36) (.c (.int .i64 1)), none⟩,
      ⟨(some 38), .mov (.t 0), none⟩,
      ⟨(some 39), .mov (.t 7), none⟩,
      ⟨(some 40), .bin .sub (.t 39) (.c (.int .i64 1)), none⟩,
      ⟨(some 41), .iaS 1 (.t 38) (.t 40), none⟩,
      ⟨(some 42), .load none (.t 41), none⟩,
      ⟨(some 43), .mov (.t 0), none⟩,
      ⟨(some 44), .mov (.t 7), none⟩,
      ⟨(some 45), .iaS 1 (.t 43) (.t 44), none⟩,
      ⟨(some 46), .load none (.t 45), none⟩,
      ⟨(some 47), .iaS 1 (.t 33) (.t 34), none⟩,
      ⟨none, .store 1 (.t 47) (.t 42), none⟩,
      ⟨(some 48), .iaS 1 (.t 35) (.t 37), none⟩,
      ⟨none, .store 1 (.t 48) (.t 46), none⟩] (some [0, 1, 2, 6, 7]) none))
    (.reg none [
      ⟨(some 31), .mov (.t 7), none⟩,
      ⟨(some 32), .bin .sub (.t 31) (.c (.int .i64 1)), none⟩,
      ⟨(some 7), .mov (.t 32), none⟩] (some [0, 1, 2, 6, 7]) none)))
def slices_insertionSortOrdered_uint8__L0 : MC :=
  (.seq (.seq (.reg none [
      ⟨(some 10), .mov (.t 6), none⟩,
      ⟨(some 11), .mov (.t 2), none⟩,
      ⟨(some 12), .bin .lss (.t 10) (.t 11), none⟩] (some [0, 1, 2, 6, 12]) none)
    (.cond (.t 12) .skip
    (.exit 0)))
    (.seq (.block 1 (.seq (.reg none [
      ⟨(some 15), .mov (.t 6), none⟩,
      ⟨(some 7), .mov (.t 15), none⟩] (some [0, 1, 2, 6, 7]) none)
    (.block 2 (.loop slices_insertionSortOrdered_uint8__L1))))
    (.reg none [
      ⟨(some 13), .mov (.t 6), none⟩,
      ⟨(some 14), .bin .add (.t 13) (.c (.int .i64 1)), none⟩,
      ⟨(some 6), .mov (.t 14), none⟩] (some [0, 1, 2, 6]) none)))
def slices_insertionSortOrdered_uint8__M : MC :=
  (.seq (.reg none [
      ⟨(some 8), .mov (.t 1), none⟩,
      ⟨(some 9), .bin .add (.t 8) (.c (.int .i64 1)), none⟩,
      ⟨(some 6), .mov (.t 9), none⟩] (some [0, 1, 2, 6]) none)
    (.block 0 (.loop slices_insertionSortOrdered_uint8__L0)))
def slices_insertionSortOrdered_uint8__F : MF := ⟨49, [], slices_insertionSortOrdered_uint8__M⟩
theorem slices_insertionSortOrdered_uint8__ok : OkF Try.prog 151 slices_insertionSortOrdered_uint8__F Try.f151 (bodyOf Try.f151) := ⟨Try.func151, by kernel_rfl, by kernel_rfl, by kernel_rfl, by kernel_rfl⟩
-- slices.heapSortOrdered[uint8]
def slices_heapSortOrdered_uint8__L0 : MC :=
  (.seq (.seq (.reg none [
      ⟨(some 18), .mov (.t 9), none⟩,
      ⟨(some 19), .bin .geq (.t 18) (.c (.int .i64 0)), none⟩] (some [0, 6, 7, 8, 9, 19]) none)
    (.cond (.t 19) .skip
    (.exit 0)))
    (.seq (.block 1 (.reg none [
      ⟨(some 22), .mov (.t 0), none⟩,
      ⟨(some 23), .mov (.t 9), none⟩,
      ⟨(some 24), .mov (.t 8), none⟩,
      ⟨(some 25), .mov (.t 6), none⟩,
      ⟨(some 26), .call 162 [(.t 22), (.t 23), (.t 24), (.t 25)], none⟩] (some [0, 6, 7, 8, 9]) none))
    (.reg none [
      ⟨(some 20), .mov (.t 9), none⟩,
      ⟨(some 21), .bin .sub (.t 20) (.c (.int .i64 1)), none⟩,
      ⟨(some 9), .mov (.t 21), none⟩] (some [0, 6, 7, 8, 9]) none)))
def slices_heapSortOrdered_uint8__L1 : MC :=
  (.seq (.seq (.reg none [
      ⟨(some 29), .mov (.t 10), none⟩,
      ⟨(some 30), .bin .geq (.t 29) (.c (.int .i64 0)), none⟩] (some [0, 6, 7, 10, 30]) none)
    (.cond (.t 30) .skip
    (.exit 2)))
    (.seq (.block 3 (.seq (.reg (some []) [
      ⟨(some 33), .mov (.t 0), none⟩,
      ⟨(some 34), .mov (.t 6), none⟩,
      ⟨(some 35), .mov (.t 0), none⟩,
      ⟨(some 36), .mov (.t 6), none⟩,
      ⟨(some 37), .mov (.t 10), none⟩,
      ⟨(some 38), .bin .add (.t 36) (.t 37), none⟩,
      ⟨(some 39), .mov (.t 0), none⟩,
      ⟨(some 40), .mov (.t 6), none⟩,
      ⟨(some 41), .mov (.t 10), none⟩,
      ⟨(some 42), .bin .add (.t 40) (.t 41), none⟩,
      ⟨(some 43), .iaS 1 (.t 39) (.t 42), none⟩,
      ⟨(some 44), .load none (.t 43), none⟩,
      ⟨(some 45), .mov (.t 0), none⟩,
      ⟨(some 46), .mov (.t 6), none⟩,
      ⟨(some 47), .iaS 1 (.t 45) (.t 46), none⟩,
      ⟨(some 48), .load none (.t 47), none⟩,
      ⟨(some 49), .iaS 1 (.t 33) (.t 34), none⟩,
      ⟨none, .store 1 (.t 49) (.t 44), none⟩,
      ⟨(some 50), .iaS 1 (.t 35) (.t 38), none⟩,
      ⟨none, .store 1 (.t 50) (.t 48), none⟩] (some [0, 6, 7, 10]) none)
    (.reg none [
      ⟨(some 51), .mov (.t 0), none⟩,
      ⟨(some 52), .mov (.t 7), none⟩,
      ⟨(some 53), .mov (.t 10), none⟩,
      ⟨(some 54), .mov (.t 6), none⟩,
      ⟨(some 55), .call 162 [(.t 51), (.t 52), (.t 53), (.t 54)], none⟩] (some [0, 6, 7, 10]) none)))
    (.reg none [
      ⟨(some 31), .mov (.t 10), none⟩,
      ⟨(some 32), .bin .sub (.t 31) (.c (.int .i64 1)), none⟩,
      ⟨(some 10), .mov (.t 32), none⟩] (some [0, 6, 7, 10]) none)))
def slices_heapSortOrdered_uint8__M : MC :=
  (.seq (.reg none [
      ⟨(some 11), .mov (.t 1), none⟩,
      ⟨(some 6), .mov (.t 11), none⟩] (some [0, 1, 2, 6]) none)
    (.seq (.reg none [
      ⟨(some 7), .mov (.c (.int .i64 0)), none⟩] (some [0, 1, 2, 6, 7]) none)
    (.seq (.reg none [
      ⟨(some 12), .mov (.t 2), none⟩,
      ⟨(some 13), .mov (.t 1), none⟩,
      ⟨(some 14), .bin .sub (.t 12) (.t 13), none⟩,
      ⟨(some 8), .mov (.t 14), none⟩] (some [0, 6, 7, 8]) none)
    (.seq (.seq (.reg none [
      ⟨(some 15), .mov (.t 8), none⟩,
      ⟨(some 16), .bin .sub (.t 15) (.c (.int .i64 1)), none⟩,
      ⟨(some 17), .bin .quo (.t 16) (.c (.int .i64 2)), none⟩,
      ⟨(some 9), .mov (.t 17), none⟩] (some [0, 6, 7, 8, 9]) none)
    (.block 0 (.loop slices_heapSortOrdered_uint8__L0)))
    (.seq (.reg none [
      ⟨(some 27), .mov (.t 8), none⟩,
      ⟨(some 28), .bin .sub (.t 27) (.c (.int .i64 1)), none⟩,
      ⟨(some 10), .mov (.t 28), none⟩] (some [0, 6, 7, 10]) none)
    (.block 2 (.loop slices_heapSortOrdered_uint8__L1)))))))
def slices_heapSortOrdered_uint8__F : MF := ⟨56, [], slices_heapSortOrdered_uint8__M⟩
theorem slices_heapSortOrdered_uint8__ok : OkF Try.prog 152 slices_heapSortOrdered_uint8__F Try.f152 (bodyOf Try.f152) := ⟨Try.func152, by kernel_rfl, by kernel_rfl, by kernel_rfl, by kernel_rfl⟩
-- slices.breakPatternsOrdered[uint8]
def slices_breakPatternsOrdered_uint8__L0 : MC :=
  (.seq (.seq (.reg none [
      ⟨(some 26), .mov (.t 9), none⟩,
      ⟨(some 27), .mov (.t 1), none⟩,
      ⟨(some 28), .mov (.t 6), none⟩,
      ⟨(some 29), .bin .quo (.t 28) (.c (.int .i64 4)), none⟩,
      ⟨(some 30), .bin .mul (.t 29) (.c (.int .i64 2)), none⟩,
      ⟨(some 31), .bin .add (.t 27) (.t 30), none⟩,
      ⟨(some 32), .bin .add (.t 31) (.c (.int .i64 1)), none⟩,
      ⟨(some 33), .bin .leq (.t 26) (.t 32), none⟩] (some [0, 1, 6, 7, 8, 9, 33]) none)
    (.cond (.t 33) .skip
    (.exit 0)))
    (.seq (.block 1 (.seq (.reg none [
      ⟨(some 36), .call 164 [(.t 7)], none⟩,
      ⟨(some 37), .mov (.t 8), none⟩,
      ⟨(some 38), .bin .sub (.t 37) (.c (.int .u64 1)), none⟩,
      ⟨(some 39), .bin .and (.t 36) (.t 38), none⟩,
      ⟨(some 40), .conv .i64 (.t 39), none⟩,
      ⟨(some 10), .mov (.t 40), none⟩] (some [0, 1, 6, 7, 8, 9, 10]) none)
    (.seq (.seq (.reg none [
      ⟨(some 41), .mov (.t 10), none⟩,
      ⟨(some 42), .mov (.t 6), none⟩,
      ⟨(some 43), .bin .geq (.t 41) (.t 42), none⟩] (some [0, 1, 6, 7, 8, 9, 10, 43]) none)
    (.cond (.t 43) (.reg none [
      ⟨(some 44), .mov (.t 10), none⟩,
      ⟨(some 45), .mov (.t 6), none⟩,
      ⟨(some 46), .bin .sub (.t 44) (.t 45), none⟩,
      ⟨(some 10), .mov (.t 46), none⟩] (some [0, 1, 6, 7, 8, 9, 10]) none)
    .skip))
    (.reg (some []) [
      ⟨(some 47), .mov (.t 0), none⟩,
      ⟨(some 48), .mov (.t 9), none⟩,
      ⟨(some 49), .mov (.t 0), none⟩,
      ⟨(some 50), .mov (.t 1), none⟩,
      ⟨(some 51), .mov (.t 10), none⟩,
      ⟨(some 52), .bin .add (.t 50) (.t 51), none⟩,
      ⟨(some 53), .mov (.t 0), none⟩,
      ⟨(some 54), .mov (.t 1), none⟩,
      ⟨(some 55), .mov (.t 10), none⟩,
      ⟨(some 56), .bin .add (.t 54) (.t 55), none⟩,
      ⟨(some 57), .iaS 1 (.t 53) (.t 56), none⟩,
      ⟨(some 58), .load none (.t 57), none⟩,
      ⟨(some 59), .mov (.t 0), none⟩,
      ⟨(some 60), .mov (.t 9), none⟩,
      ⟨(some 61), .iaS 1 (.t 59) (.t 60), none⟩,
      ⟨(some 62), .load none (.t 61), none⟩,
      ⟨(some 63), .iaS 1 (.t 47) (.t 48), none⟩,
      ⟨none, .store 1 (.t 63) (.t 58), none⟩,
      ⟨(some 64), .iaS 1 (.t 49) (.t 52), none⟩,
      ⟨none, .store 1 (.t 64) (.t 62), none⟩] (some [0, 1, 6, 7, 8, 9]) none))))
    (.reg none [
      ⟨(some 34), .mov (.t 9), none⟩,
      ⟨(some 35), .bin .add (.t 34) (.c (.int .i64 1)), none⟩,
      ⟨(some 9), .mov (.t 35), none⟩] (some [0, 1, 6, 7, 8, 9]) none)))
def slices_breakPatternsOrdered_uint8__M : MC :=
  (.seq (.reg none [
      ⟨(some 11), .mov (.t 2), none⟩,
      ⟨(some 12), .mov (.t 1), none⟩,
      ⟨(some 13), .bin .sub (.t 11) (.t 12), none⟩,
      ⟨(some 6), .mov (.t 13), none⟩] (some [0, 1, 6]) none)
    (.seq (.reg none [
      ⟨(some 14), .mov (.t 6), none⟩,
      ⟨(some 15), .bin .geq (.t 14) (.c (.int .i64 8)), none⟩] (some [0, 1, 6, 15]) none)
    (.cond (.t 15) (.seq (.reg none [
      ⟨(some 16), .mov (.t 6), none⟩,
      ⟨(some 17), .conv .u64 (.t 16), none⟩,
      ⟨(some 7), .new [.int .u64 0], none⟩,
      ⟨none, .store 1 (.t 7) (.t 17), none⟩] (some [0, 1, 6, 7]) none)
    (.seq (.reg none [
      ⟨(some 18), .mov (.t 6), none⟩,
      ⟨(some 19), .call 163 [(.t 18)], none⟩,
      ⟨(some 8), .mov (.t 19), none⟩] (some [0, 1, 6, 7, 8]) none)
    (.seq (.reg none [
      ⟨(some 20), .mov (.t 1), none⟩,
      ⟨(some 21), .mov (.t 6), none⟩,
      ⟨(some 22), .bin .quo (.t 21) (.c (.int .i64 4)), none⟩,
      ⟨(some 23), .bin .mul (.t 22) (.c (.int .i64 2)), none⟩,
      ⟨(some 24), .bin .add (.t 20) (.t 23), none⟩,
      ⟨(some 25), .bin .sub (.t 24) (.c (.int .i64 1)), none⟩,
      ⟨(some 9), .mov (.t 25), none⟩] (some [0, 1, 6, 7, 8, 9]) none)
    (.block 0 (.loop slices_breakPatternsOrdered_uint8__L0)))))
    .skip)))
def slices_breakPatternsOrdered_uint8__F : MF := ⟨65, [], slices_breakPatternsOrdered_uint8__M⟩
theorem slices_breakPatternsOrdered_uint8__ok : OkF Try.prog 153 slices_breakPatternsOrdered_uint8__F Try.f153 (bodyOf Try.f153) := ⟨Try.func153, by kernel_rfl, by kernel_rfl, by kernel_rfl, by kernel_rfl⟩
-- slices.choosePivotOrdered[uint8]
def slices_choosePivotOrdered_uint8__M : MC :=
  (.seq (.reg none [
      ⟨(some 6), .mov (.c (.int .i64 0)), none⟩,
      ⟨(some 7), .mov (.c (.int .i64 0)), none⟩] (some [0, 1, 2]) none)
    (.seq (.reg none [
      ⟨(some 13), .mov (.t 2), none⟩,
      ⟨(some 14), .mov (.t 1), none⟩,
      ⟨(some 15), .bin .sub (.t 13) (.t 14), none⟩,
      ⟨(some 8), .mov (.t 15), none⟩] (some [0, 1, 8]) none)
    (.seq (.reg none [
      ⟨(some 9), .new [.int .i64 0], none⟩] (some [0, 1, 8, 9]) none)
    (.seq (.reg none [
      ⟨(some 16), .mov (.t 1), none⟩,
      ⟨(some 17), .mov (.t 8), none⟩,
      ⟨(some 18), .bin .quo (.t 17) (.c (.int .i64 4)), none⟩,
      ⟨(some 19), .bin .mul (.t 18) (.c (.int .i64 1)), none⟩,
      ⟨(some 20), .bin .add (.t 16) (.t 19), none⟩,
      ⟨(some 10), .mov (.t 20), none⟩] (some [0, 1, 8, 9, 10]) none)
    (.seq (.reg none [
      ⟨(some 21), .mov (.t 1), none⟩,
      ⟨(some 22), .mov (.t 8), none⟩,
      ⟨(some 23), .bin .quo (.t 22) (.c (.int .i64 4)), none⟩,
      ⟨(some 24), .bin .mul (.t 23) (.c (.int .i64 2)), none⟩,
      ⟨(some 25), .bin .add (.t 21) (.t 24), none⟩,
      ⟨(some 11), .mov (.t 25), none⟩] (some [0, 1, 8, 9, 10, 11]) none)
    (.seq (.reg none [
      ⟨(some 26), .mov (.t 1), none⟩,
      ⟨(some 27), .mov (.t 8), none⟩,
      ⟨(some 28), .bin .quo (.t 27) (.c (.int .i64 4)), none⟩,
      ⟨(some 29), .bin .mul (.t 28) (.c (.int .i64 3)), none⟩,
      ⟨(some 30), .bin .add (.t 26) (.t 29), none⟩,
      ⟨(some 12), .mov (.t 30), none⟩] (some [0, 8, 9, 10, 11, 12]) none)
    (.seq (.seq (.reg none [
      ⟨(some 31), .mov (.t 8), none⟩,
      ⟨(some 32), .bin .geq (.t 31) (.c (.int .i64 8)), none⟩] (some [0, 8, 9, 10, 11, 12, 32]) none)
    (.cond (.t 32) (.seq (.seq (.reg none [
      ⟨(some 33), .mov (.t 8), none⟩,
      ⟨(some 34), .bin .geq (.t 33) (.c (.int .i64 50)), none⟩] (some [0, 9, 10, 11, 12, 34]) none)
    (.cond (.t 34) (.seq (.reg none [
      ⟨(some 35), .mov (.t 0), none⟩,
      ⟨(some 36), .mov (.t 10), none⟩,
      ⟨(some 37), .call 165 [(.t 35), (.t 36), (.t 9)], none⟩,
      ⟨(some 10), .mov (.t 37), none⟩] (some [0, 9, 10, 11, 12]) none)
    (.seq (.reg none [
      ⟨(some 38), .mov (.t 0), none⟩,
      ⟨(some 39), .mov (.t 11), none⟩,
      ⟨(some 40), .call 165 [(.t 38), (.t 39), (.t 9)], none⟩,
      ⟨(some 11), .mov (.t 40), none⟩] (some [0, 9, 10, 11, 12]) none)
    (.reg none [
      ⟨(some 41), .mov (.t 0), none⟩,
      ⟨(some 42), .mov (.t 12), none⟩,
      ⟨(some 43), .call 165 [(.t 41), (.t 42), (.t 9)], none⟩,
      ⟨(some 12), .mov (.t 43), none⟩] (some [0, 9, 10, 11, 12]) none)))
    .skip))
    (.reg none [
      ⟨(some 44), .mov (.t 0), none⟩,
      ⟨(some 45), .mov (.t 10), none⟩,
      ⟨(some 46), .mov (.t 11), none⟩,
      ⟨(some 47), .mov (.t 12), none⟩,
      ⟨(some 48), .call 166 [(.t 44), (.t 45), (.t 46), (.t 47), (.t 9)], none⟩,
      ⟨(some 11), .mov (.t 48), none⟩] (some [9, 11]) none))
    .skip))
    (.seq (.reg none [
      ⟨(some 49), .load none (.t 9), none⟩] (some [11, 49]) none)
    (.block 0 (.seq (.reg none [
      ⟨(some 52), .bin .eql (.t 49) (.c (.int .i64 0)), none⟩,
      ⟨(some 51), .mov (.t 52), none⟩] (some [11, 49, 51]) none)
    (.cond (.t 51) (.seq (.reg none [
      ⟨(some 53), .mov (.t 11), none⟩,
      ⟨(some 6), .mov (.t 53), none⟩,
      ⟨(some 7), .mov (.c (.int .i64 1)), none⟩] (some [6, 7]) none)
    .ret)
    (.seq (.reg none [
      ⟨(some 55), .bin .eql (.t 49) (.c (.int .i64 12)), none⟩,
      ⟨(some 54), .mov (.t 55), none⟩] (some [11, 54]) none)
    (.cond (.t 54) (.seq (.reg none [
      ⟨(some 56), .mov (.t 11), none⟩,
      ⟨(some 6), .mov (.t 56), none⟩,
      ⟨(some 7), .mov (.c (.int .i64 2)), none⟩] (some [6, 7]) none)
    .ret)
    (.seq (.reg none [
      ⟨(some 50), .mov (.t 11), none⟩,
      ⟨(some 6), .mov (.t 50), none⟩,
      ⟨(some 7), .mov (.c (.int .i64 0)), none⟩] (some [6, 7]) none)
    .ret))))))))))))))
def slices_choosePivotOrdered_uint8__F : MF := ⟨57, [.t 6, .t 7], slices_choosePivotOrdered_uint8__M⟩
theorem slices_choosePivotOrdered_uint8__ok : OkF Try.prog 154 slices_choosePivotOrdered_uint8__F Try.f154 (bodyOf Try.f154) := ⟨Try.func154, by kernel_rfl, by kernel_rfl, by kernel_rfl, by kernel_rfl⟩
-- slices.reverseRangeOrdered[uint8]
def slices_reverseRangeOrdered_uint8__L0 : MC :=
  (.seq (.seq (.reg none [
      ⟨(some 11), .mov (.t 6), none⟩,
      ⟨(some 12), .mov (.t 7), none⟩,
      ⟨(some 13), .bin .lss (.t 11) (.t 12), none⟩] (some [0, 6, 7, 13]) none)
    (.cond (.t 13) .skip
    (.exit 0)))
    (.block 1 (.seq (.reg (some []) [
      ⟨(some 14), .mov (.t 0), none⟩,
      ⟨(some 15), .mov (.t 6), none⟩,
      ⟨(some 16), .mov (.t 0), none⟩,
      ⟨(some 17), .mov (.t 7), none⟩,
      ⟨(some 18), .mov (.t 0), none⟩,
      ⟨(some 19), .mov (.t 7), none⟩,
      ⟨(some 20), .iaS 1 (.t 18) (.t 19), none⟩,
      ⟨(some 21), .load none (.t 20), none⟩,
      ⟨(some 22), .mov (.t 0), none⟩,
      ⟨(some 23), .mov (.t 6), none⟩,
      ⟨(some 24), .iaS 1 (.t 22) (.t 23), none⟩,
      ⟨(some 25), .load none (.t 24), none⟩,
      ⟨(some 26), .iaS 1 (.t 14) (.t 15), none⟩,
      ⟨none, .store 1 (.t 26) (.t 21), none⟩,
      ⟨(some 27), .iaS 1 (.t 16) (.t 17), none⟩,
      ⟨none, .store 1 (.t 27) (.t 25), none⟩] (some [0, 6, 7]) none)
    (.seq (.reg none [
      ⟨(some 28), .mov (.t 6), none⟩,
      ⟨(some 29), .bin .add (.t 28) (.c (.int .i64 1)), none⟩,
      ⟨(some 6), .mov (.t 29), none⟩] (some [0, 6, 7]) none)
    (.reg none [
      ⟨(some 30), .mov (.t 7), none⟩,
      ⟨(some 31), .bin .sub (.t 30) (.c (.int .i64 1)), none⟩,
      ⟨(some 7), .mov (.t 31), none⟩] (some [0, 6, 7]) none)))))
def slices_reverseRangeOrdered_uint8__M : MC :=
  (.seq (.reg none [
      ⟨(some 8), .mov (.t 1), none⟩,
      ⟨(some 6), .mov (.t 8), none⟩] (some [0, 2, 6]) none)
    (.seq (.reg none [
      ⟨(some 9), .mov (.t 2), none⟩,
      ⟨(some 10), .bin .sub (.t 9) (.c (.int .i64 1)), none⟩,
      ⟨(some 7), .mov (.t 10), none⟩] (some [0, 6, 7]) none)
    (.block 0 (.loop slices_reverseRangeOrdered_uint8__L0))))
def slices_reverseRangeOrdered_uint8__F : MF := ⟨32, [], slices_reverseRangeOrdered_uint8__M⟩
theorem slices_reverseRangeOrdered_uint8__ok : OkF Try.prog 155 slices_reverseRangeOrdered_uint8__F Try.f155 (bodyOf Try.f155) := ⟨Try.func155, by kernel_rfl, by kernel_rfl, by kernel_rfl, by kernel_rfl⟩
-- slices.partialInsertionSortOrdered[uint8]
def slices_partialInsertionSortOrdered_uint8__L1 : MC :=
  (.seq (.seq (.reg (some []) [
      ⟨(some 17), .mov (.t 7), none⟩,
      ⟨(some 18), .mov (.t 2), none⟩,
      ⟨(some 19), .bin .lss (.t 17) (.t 18), none⟩,
      ⟨(some 20), .mov (.t 19), none⟩,
      ⟨(some 21), .mov (.t 0), some (20, true)⟩,
      ⟨(some 22), .mov (.t 7), some (20, true)⟩,
      ⟨(some 23), .iaS 1 (.t 21) (.t 22), some (20, true)⟩,
      ⟨(some 24), .load none (.t 23), some (20, true)⟩,
      ⟨(some 25), .mov (.t 0), some (20, true)⟩,
      ⟨(some 26), .mov (.t 7), some (20, true)⟩,
      ⟨(some 27), .bin .sub (.t 26) (.c (.int .i64 1)), some (20, true)⟩,
      ⟨(some 28), .iaS 1 (.t 25) (.t 27), some (20, true)⟩,
      ⟨(some 29), .load none (.t 28), some (20, true)⟩,
      ⟨(some 30), .call 157 [(.t 24), (.t 29)], some (20, true)⟩,
      ⟨(some 31), .un .not (.t 30), some (20, true)⟩,
      ⟨(some 32), .pick (.t 20) (.t 31) (.c (.bool false)), none⟩] (some [0, 1, 2, 7, 8, 32]) none)
    (.cond (.t 32) .skip
    (.exit 2)))
    (.block 3 (.reg none [
      ⟨(some 33), .mov (.t 7), none⟩,
      ⟨(some 34), .bin .add (.t 33) (.c (.int .i64 1)), none⟩,
      ⟨(some 7), .mov (.t 34), none⟩] (some [0, 1, 2, 7, 8]) none)))
def slices_partialInsertionSortOrdered_uint8__L2 : MC :=
  (.seq (.seq (.reg none [
      ⟨(some 64), .mov (.t 9), none⟩,
      ⟨(some 65), .bin .geq (.t 64) (.c (.int .i64 1)), none⟩] (some [0, 1, 2, 7, 8, 9, 65]) none)
    (.cond (.t 65) .skip
    (.exit 4)))
    (.seq (.block 5 (.seq (.seq (.reg (some []) [
      ⟨(some 68), .mov (.t 0), none⟩,
      ⟨(some 69), .mov (.t 9), none⟩,
      ⟨(some 70), .iaS 1 (.t 68) (.t 69), none⟩,
      ⟨(some 71), .load none (.t 70), none⟩,
      ⟨(some 72), .mov (.t 0), none⟩,
      ⟨(some 73), .mov (.t 9), none⟩,
      ⟨(some 74), .bin .sub (.t 73) (.c (.int .i64 1)), none⟩,
      ⟨(some 75), .iaS 1 (.t 72) (.t 74), none⟩,
      ⟨(some 76), .load none (.t 75), none⟩,
      ⟨(some 77), .call 157 [(.t 71), (.t 76)], none⟩,
      ⟨(some 78), .un .not (.t 77), none⟩] (some [0, 1, 2, 7, 8, 9, 78]) none)
    (.cond (.t 78) (.exit 4)
    .skip))
    (.reg (some []) [
      ⟨(some 79), .mov (.t 0), none⟩,
      ⟨(some 80), .mov (.t 9), none⟩,
      ⟨(some 81), .mov (.t 0), none⟩,
      ⟨(some 82), .mov (.t 9), none⟩,
      ⟨(some 83), .bin .sub (.t 82) (.c (.int .i64 1)), none⟩,
      ⟨(some 84), .mov (.t 0), none⟩,
      ⟨(some 85), .mov (.t 9), none⟩,
      ⟨(some 86), .bin .sub (.t 85) (.c (.int .i64 1)), none⟩,
      ⟨(some 87), .iaS 1 (.t 84) (.t 86), none⟩,
      ⟨(some 88), .load none (.t 87), none⟩,
      ⟨(some 89), .mov (.t 0), none⟩,
      ⟨(some 90), .mov (.t 9), none⟩,
      ⟨(some 91), .iaS 1 (.t 89) (.t 90), none⟩,
      ⟨(some 92), .load none (.t 91), none⟩,
      ⟨(some 93), .iaS 1 (.t 79) (.t 80), none⟩,
      ⟨none, .store 1 (.t 93) (.t 88), none⟩,
      ⟨(some 94), .iaS 1 (.t 81) (.t 83), none⟩,
      ⟨none, .store 1 (.t 94) (.t 92), none⟩] (some [0, 1, 2, 7, 8, 9]) none)))
    (.reg none [
      ⟨(some 66), .mov (.t 9), none⟩,
      ⟨(some 67), .bin .sub (.t 66) (.c (.int .i64 1)), none⟩,
      ⟨(some 9), .mov (.t 67), none⟩] (some [0, 1, 2, 7, 8, 9]) none)))
def slices_partialInsertionSortOrdered_uint8__L3 : MC :=
  (.seq (.seq (.reg none [
      ⟨(some 101), .mov (.t 10), none⟩,
      ⟨(some 102), .mov (.t 2), none⟩,
      ⟨(some 103), .bin .lss (.t 101) (.t 102), none⟩] (some [0, 1, 2, 7, 8, 10, 103]) none)
    (.cond (.t 103) .skip
    (.exit 6)))
    (.seq (.block 7 (.seq (.seq (.reg (some []) [
      ⟨(some 106), .mov (.t 0), none⟩,
      ⟨(some 107), .mov (.t 10), none⟩,
      ⟨(some 108), .iaS 1 (.t 106) (.t 107), none⟩,
      ⟨(some 109), .load none (.t 108), none⟩,
      ⟨(some 110), .mov (.t 0), none⟩,
      ⟨(some 111), .mov (.t 10), none⟩,
      ⟨(some 112), .bin .sub (.t 111) (.c (.int .i64 1)), none⟩,
      ⟨(some 113), .iaS 1 (.t 110) (.t 112), none⟩,
      ⟨(some 114), .load none (.t 113), none⟩,
      ⟨(some 115), .call 157 [(.t 109), (.t 114)], none⟩,
      ⟨(some 116), .un .not (.t 115), none⟩] (some [0, 1, 2, 7, 8, 10, 116]) none)
    (.cond (.t 116) (.exit 6)
    .skip))
    (.reg (some []) [
      ⟨(some 117), .mov (.t 0), none⟩,
      ⟨(some 118), .mov (.t 10), none⟩,
      ⟨(some 119), .mov (.t 0), none⟩,
      ⟨(some 120), .mov (.t 10), none⟩,
      ⟨(some 121), .bin .sub (.t 120) (.c (.int .i64 1)), none⟩,
      ⟨(some 122), .mov (.t 0), none⟩,
      ⟨(some 123), .mov (.t 10), none⟩,
      ⟨(some 124), .bin .sub (.t 123) (.c (.int .i64 1)), none⟩,
      ⟨(some 125), .iaS 1 (.t 122) (.t 124), none⟩,
      ⟨(some 126), .load none (.t 125), none⟩,
      ⟨(some 127), .mov (.t 0), none⟩,
      ⟨(some 128), .mov (.t 10), none⟩,
      ⟨(some 129), .iaS 1 (.t 127) (.t 128), none⟩,
      ⟨(some 130), .load none (.t 129), none⟩,
      ⟨(some 131), .iaS 1 (.t 117) (.t 118), none⟩,
      ⟨none, .store 1 (.t 131) (.t 126), none⟩,
      ⟨(some 132), .iaS 1 (.t 119) (.t 121), none⟩,
      ⟨none, .store 1 (.t 132) (.t 130), none⟩] (some [0, 1, 2, 7, 8, 10]) none)))
    (.reg none [
      ⟨(some 104), .mov (.t 10), none⟩,
      ⟨(some 105), .bin .add (.t 104) (.c (.int .i64 1)), none⟩,
      ⟨(some 10), .mov (.t 105), none⟩] (some [0, 1, 2, 7, 8, 10]) none)))
def slices_partialInsertionSortOrdered_uint8__L0 : MC :=
  (.seq (.seq (.reg none [
      ⟨(some 13), .mov (.t 8), none⟩,
      ⟨(some 14), .bin .lss (.t 13) (.c (.int .i64 5)), none⟩] (some [0, 1, 2, 7, 8, 14]) none)
    (.cond (.t 14) .skip
    (.exit 0)))
    (.seq (.block 1 (.seq (.block 2 (.loop slices_partialInsertionSortOrdered_uint8__L1))
    (.seq (.seq (.reg none [
      ⟨(some 35), .mov (.t 7), none⟩,
      ⟨(some 36), .mov (.t 2), none⟩,
      ⟨(some 37), .bin .eql (.t 35) (.t 36), none⟩] (some [0, 1, 2, 7, 8, 37]) none)
    (.cond (.t 37) (.seq (.reg none [
      ⟨(some 6), .mov (.c (.bool true)), none⟩] (some [6]) none)
    .ret)
    .skip))
    (.seq (.seq (.reg none [
      ⟨(some 38), .mov (.t 2), none⟩,
      ⟨(some 39), .mov (.t 1), none⟩,
      ⟨(some 40), .bin .sub (.t 38) (.t 39), none⟩,
      ⟨(some 41), .bin .lss (.t 40) (.c (.int .i64 50)), none⟩] (some [0, 1, 2, 7, 8, 41]) none)
    (.cond (.t 41) (.seq (.reg none [
      ⟨(some 6), .mov (.c (.bool false)), none⟩] (some [6]) none)
    .ret)
    .skip))
    (.seq (.reg (some []) [
      ⟨(some 42), .mov (.t 0), none⟩,
      ⟨(some 43), .mov (.t 7), none⟩,
      ⟨(some 44), .mov (.t 0), none⟩,
      ⟨(some 45), .mov (.t 7), none⟩,
      ⟨(some 46), .bin .sub (.t 45) (.c (.int .i64 1)), none⟩,
      ⟨(some 47), .mov (.t 0), none⟩,
      ⟨(some 48), .mov (.t 7), none⟩,
      ⟨(some 49), .bin .sub (.t 48) (.c (.int .i64 1)), none⟩,
      ⟨(some 50), .iaS 1 (.t 47) (.t 49), none⟩,
      ⟨(some 51), .load none (.t 50), none⟩,
      ⟨(some 52), .mov (.t 0), none⟩,
      ⟨(some 53), .mov (.t 7), none⟩,
      ⟨(some 54), .iaS 1 (.t 52) (.t 53), none⟩,
      ⟨(some 55), .load none (.t 54), none⟩,
      ⟨(some 56), .iaS 1 (.t 42) (.t 43), none⟩,
      ⟨none, .store 1 (.t 56) (.t 51), none⟩,
      ⟨(some 57), .iaS 1 (.t 44) (.t 46), none⟩,
      ⟨none, .store 1 (.t 57) (.t 55), none⟩] (some [0, 1, 2, 7, 8]) none)
    (.seq (.seq (.reg none [
      ⟨(some 58), .mov (.t 7), none⟩,
      ⟨(some 59), .mov (.t 1), none⟩,
      ⟨(some 60), .bin .sub (.t 58) (.t 59), none⟩,
      ⟨(some 61), .bin .geq (.t 60) (.c (.int .i64 2)), none⟩] (some [0, 1, 2, 7, 8, 61]) none)
    (.cond (.t 61) (.seq (.reg none [
      ⟨(some 62), .mov (.t 7), none⟩,
      ⟨(some 63), .bin .sub (.t 62) (.c (.int .i64 1)), none⟩,
      ⟨(some 9), .mov (.t 63), none⟩] (some [0, 1, 2, 7, 8, 9]) none)
    (.block 4 (.loop slices_partialInsertionSortOrdered_uint8__L2)))
    .skip))
    (.seq (.reg none [
      ⟨(some 95), .mov (.t 2), none⟩,
      ⟨(some 96), .mov (.t 7), none⟩,
      ⟨(some 97), .bin .sub (.t 95) (.t 96), none⟩,
      ⟨(some 98), .bin .geq (.t 97) (.c (.int .i64 2)), none⟩] (some [0, 1, 2, 7, 8, 98]) none)
    (.cond (.t 98) (.seq (.reg none [
      ⟨(some 99), .mov (.t 7), none⟩,
      ⟨(some 100), .bin .add (.t 99) (.c (.int .i64 1)), none⟩,
      ⟨(some 10), .mov (.t 100), none⟩] (some [0, 1, 2, 7, 8, 10]) none)
    (.block 6 (.loop slices_partialInsertionSortOrdered_uint8__L3)))
    .skip))))))))
    (.reg none [
      ⟨(some 15), .mov (.t 8), none⟩,
      ⟨(some 16), .bin .add (.t 15) (.c (.int .i64 1)), none⟩,
      ⟨(some 8), .mov (.t 16), none⟩] (some [0, 1, 2, 7, 8]) none)))
def slices_partialInsertionSortOrdered_uint8__M : MC :=
  (.seq (.reg none [
      ⟨(some 6), .mov (.c (.bool false)), none⟩] (some [0, 1, 2]) none)
    (.seq (.reg none [
      ⟨(some 11), .mov (.t 1), none⟩,
      ⟨(some 12), .bin .add (.t 11) (.c (.int .i64 1)), none⟩,
      ⟨(some 7), .mov (.t 12), none⟩] (some [0, 1, 2, 7]) none)
    (.seq (.seq (.reg none [
      ⟨(some 8), .mov (.c (.int .i64 0)), none⟩] (some [0, 1, 2, 7, 8]) none)
    (.block 0 (.loop slices_partialInsertionSortOrdered_uint8__L0)))
    (.seq (.reg none [
      ⟨(some 6), .mov (.c (.bool false)), none⟩] (some [6]) none)
    .ret))))
def slices_partialInsertionSortOrdered_uint8__F : MF := ⟨133, [.t 6], slices_partialInsertionSortOrdered_uint8__M⟩
theorem slices_partialInsertionSortOrdered_uint8__ok : OkF Try.prog 156 slices_partialInsertionSortOrdered_uint8__F Try.f156 (bodyOf Try.f156) := ⟨Try.func156, by kernel_rfl, by kernel_rfl, by kernel_rfl, by kernel_rfl⟩
-- cmp.Less[uint8]
def cmp_Less_uint8__M : MC :=
  (.seq (.reg none [
      ⟨(some 4), .mov (.c (.bool false)), none⟩] (some [0, 1]) none)
    (.seq (.reg none [
      ⟨(some 5), .mov (.t 0), none⟩,
      ⟨(some 6), .call 167 [(.t 5)], none⟩,
      ⟨(some 7), .mov (.t 6), none⟩,
      ⟨(some 8), .mov (.t 1), some (7, true)⟩,
      ⟨(some 9), .call 167 [(.t 8)], some (7, true)⟩,
      ⟨(some 10), .un .not (.t 9), some (7, true)⟩,
      ⟨(some 11), .pick (.t 7) (.t 10) (.c (.bool false)), none⟩,
      ⟨(some 12), .mov (.t 11), none⟩,
      ⟨(some 13), .mov (.t 0), some (12, false)⟩,
      ⟨(some 14), .mov (.t 1), some (12, false)⟩,
      ⟨(some 15), .bin .lss (.t 13) (.t 14), some (12, false)⟩,
      ⟨(some 16), .pick (.t 12) (.c (.bool true)) (.t 15), none⟩,
      ⟨(some 4), .mov (.t 16), none⟩] (some [4]) none)
    .ret))
def cmp_Less_uint8__F : MF := ⟨17, [.t 4], cmp_Less_uint8__M⟩
theorem cmp_Less_uint8__ok : OkF Try.prog 157 cmp_Less_uint8__F Try.f157 (bodyOf Try.f157) := ⟨Try.func157, by kernel_rfl, by kernel_rfl, by kernel_rfl, by kernel_rfl⟩
-- slices.partitionEqualOrdered[uint8]
def slices_partitionEqualOrdered_uint8__L1 : MC :=
  (.seq (.seq (.reg (some []) [
      ⟨(some 29), .mov (.t 9), none⟩,
      ⟨(some 30), .mov (.t 10), none⟩,
      ⟨(some 31), .bin .leq (.t 29) (.t 30), none⟩,
      ⟨(some 32), .mov (.t 31), none⟩,
      ⟨(some 33), .mov (.t 0), some (32, true)⟩,
      ⟨(some 34), .mov (.t 1), some (32, true)⟩,
      ⟨(some 35), .iaS 1 (.t 33) (.t 34), some (32, true)⟩,
      ⟨(some 36), .load none (.t 35), some (32, true)⟩,
      ⟨(some 37), .mov (.t 0), some (32, true)⟩,
      ⟨(some 38), .mov (.t 9), some (32, true)⟩,
      ⟨(some 39), .iaS 1 (.t 37) (.t 38), some (32, true)⟩,
      ⟨(some 40), .load none (.t 39), some (32, true)⟩,
      ⟨(some 41), .call 157 [(.t 36), (.t 40)], some (32, true)⟩,
      ⟨(some 42), .un .not (.t 41), some (32, true)⟩,
      ⟨(some 43), .pick (.t 32) (.t 42) (.c (.bool false)), none⟩] (some [0, 1, 9, 10, 43]) none)
    (.cond (.t 43) .skip
    (.exit 2)))
    (.block 3 (.reg none [
      ⟨(some 44), .mov (.t 9), none⟩,
      ⟨(some 45), .bin .add (.t 44) (.c (.int .i64 1)), none⟩,
      ⟨(some 9), .mov (.t 45), none⟩] (some [0, 1, 9, 10]) none)))
def slices_partitionEqualOrdered_uint8__L2 : MC :=
  (.seq (.seq (.reg (some []) [
      ⟨(some 46), .mov (.t 9), none⟩,
      ⟨(some 47), .mov (.t 10), none⟩,
      ⟨(some 48), .bin .leq (.t 46) (.t 47), none⟩,
      ⟨(some 49), .mov (.t 48), none⟩,
      ⟨(some 50), .mov (.t 0), some (49, true)⟩,
      ⟨(some 51), .mov (.t 1), some (49, true)⟩,
      ⟨(some 52), .iaS 1 (.t 50) (.t 51), some (49, true)⟩,
      ⟨(some 53), .load none (.t 52), some (49, true)⟩,
      ⟨(some 54), .mov (.t 0), some (49, true)⟩,
      ⟨(some 55), .mov (.t 10), some (49, true)⟩,
      ⟨(some 56), .iaS 1 (.t 54) (.t 55), some (49, true)⟩,
      ⟨(some 57), .load none (.t 56), some (49, true)⟩,
      ⟨(some 58), .call 157 [(.t 53), (.t 57)], some (49, true)⟩,
      ⟨(some 59), .pick (.t 49) (.t 58) (.c (.bool false)), none⟩] (some [0, 1, 9, 10, 59]) none)
    (.cond (.t 59) .skip
    (.exit 4)))
    (.block 5 (.reg none [
      ⟨(some 60), .mov (.t 10), none⟩,
      ⟨(some 61), .bin .sub (.t 60) (.c (.int .i64 1)), none⟩,
      ⟨(some 10), .mov (.t 61), none⟩] (some [0, 1, 9, 10]) none)))
def slices_partitionEqualOrdered_uint8__L0 : MC :=
  (.block 1 (.seq (.block 2 (.loop slices_partitionEqualOrdered_uint8__L1))
    (.seq (.block 4 (.loop slices_partitionEqualOrdered_uint8__L2))
    (.seq (.seq (.reg none [
      ⟨(some 62), .mov (.t 9), none⟩,
      ⟨(some 63), .mov (.t 10), none⟩,
      ⟨(some 64), .bin .gtr (.t 62) (.t 63), none⟩] (some [0, 1, 9, 10, 64]) none)
    (.cond (.t 64) (.exit 0)
    .skip))
    (.seq (.reg (some []) [
      ⟨(some 65), .mov (.t 0), none⟩,
      ⟨(some 66), .mov (.t 9), none⟩,
      ⟨(some 67), .mov (.t 0), none⟩,
      ⟨(some 68), .mov (.t 10), none⟩,
      ⟨(some 69), .mov (.t 0), none⟩,
      ⟨(some 70), .mov (.t 10), none⟩,
      ⟨(some 71), .iaS 1 (.t 69) (.t 70), none⟩,
      ⟨(some 72), .load none (.t 71), none⟩,
      ⟨(some 73), .mov (.t 0), none⟩,
      ⟨(some 74), .mov (.t 9), none⟩,
      ⟨(some 75), .iaS 1 (.t 73) (.t 74), none⟩,
      ⟨(some 76), .load none (.t 75), none⟩,
      ⟨(some 77), .iaS 1 (.t 65) (.t 66), none⟩,
      ⟨none, .store 1 (.t 77) (.t 72), none⟩,
      ⟨(some 78), .iaS 1 (.t 67) (.t 68), none⟩,
      ⟨none, .store 1 (.t 78) (.t 76), none⟩] (some [0, 1, 9, 10]) none)
    (.seq (.reg none [
      ⟨(some 79), .mov (.t 9), none⟩,
      ⟨(some 80), .bin .add (.t 79) (.c (.int .i64 1)), none⟩,
      ⟨(some 9), .mov (.t 80), none⟩] (some [0, 1, 9, 10]) none)
    (.reg none [
      ⟨(some 81), .mov (.t 10), none⟩,
      ⟨(some 82), .bin .sub (.t 81) (.c (.int .i64 1)), none⟩,
      ⟨(some 10), .mov (.t 82), none⟩] (some [0, 1, 9, 10]) none)))))))
def slices_partitionEqualOrdered_uint8__M : MC :=
  (.seq (.reg none [
      ⟨(some 8), .mov (.c (.int .i64 0)), none⟩] (some [0, 1, 2, 3]) none)
    (.seq (.reg (some []) [
      ⟨(some 11), .mov (.t 0), none⟩,
      ⟨(some 12), .mov (.t 1), none⟩,
      ⟨(some 13), .mov (.t 0), none⟩,
      ⟨(some 14), .mov (.t 3), none⟩,
      ⟨(some 15), .mov (.t 0), none⟩,
      ⟨(some 16), .mov (.t 3), none⟩,
      ⟨(some 17), .iaS 1 (.t 15) (.t 16), none⟩,
      ⟨(some 18), .load none (.t 17), none⟩,
      ⟨(some 19), .mov (.t 0), none⟩,
      ⟨(some 20), .mov (.t 1), none⟩,
      ⟨(some 21), .iaS 1 (.t 19) (.t 20), none⟩,
      ⟨(some 22), .load none (.t 21), none⟩,
      ⟨(some 23), .iaS 1 (.t 11) (.t 12), none⟩,
      ⟨none, .store 1 (.t 23) (.t 18), none⟩,
      ⟨(some 24), .iaS 1 (.t 13) (.t 14), none⟩,
      ⟨none, .store 1 (.t 24) (.t 22), none⟩] (some [0, 1, 2]) none)
    (.seq (.reg none [
      ⟨(some 25), .mov (.t 1), none⟩,
      ⟨(some 26), .bin .add (.t 25) (.c (.int .i64 1)), none⟩,
      ⟨(some 27), .mov (.t 2), none⟩,
      ⟨(some 28), .bin .sub (.t 27) (.c (.int .i64 1)), none⟩,
      ⟨(some 9), .mov (.t 26), none⟩,
      ⟨(some 10), .mov (.t 28), none⟩] (some [0, 1, 9, 10]) none)
    (.seq (.block 0 (.loop slices_partitionEqualOrdered_uint8__L0))
    (.seq (.reg none [
      ⟨(some 83), .mov (.t 9), none⟩,
      ⟨(some 8), .mov (.t 83), none⟩] (some [8]) none)
    .ret)))))
def slices_partitionEqualOrdered_uint8__F : MF := ⟨84, [.t 8], slices_partitionEqualOrdered_uint8__M⟩
theorem slices_partitionEqualOrdered_uint8__ok : OkF Try.prog 158 slices_partitionEqualOrdered_uint8__F Try.f158 (bodyOf Try.f158) := ⟨Try.func158, by kernel_rfl, by kernel_rfl, by kernel_rfl, by kernel_rfl⟩
-- slices.partitionOrdered[uint8]
def slices_partitionOrdered_uint8__L0 : MC :=
  (.seq (.seq (.reg (some []) [
      ⟨(some 30), .mov (.t 10), none⟩,
      ⟨(some 31), .mov (.t 11), none⟩,
      ⟨(some 32), .bin .leq (.t 30) (.t 31), none⟩,
      ⟨(some 33), .mov (.t 32), none⟩,
      ⟨(some 34), .mov (.t 0), some (33, true)⟩,
      ⟨(some 35), .mov (.t 10), some (33, true)⟩,
      ⟨(some 36), .iaS 1 (.t 34) (.t 35), some (33, true)⟩,
      ⟨(some 37), .load none (.t 36), some (33, true)⟩,
      ⟨(some 38), .mov (.t 0), some (33, true)⟩,
      ⟨(some 39), .mov (.t 1), some (33, true)⟩,
      ⟨(some 40), .iaS 1 (.t 38) (.t 39), some (33, true)⟩,
      ⟨(some 41), .load none (.t 40), some (33, true)⟩,
      ⟨(some 42), .call 157 [(.t 37), (.t 41)], some (33, true)⟩,
      ⟨(some 43), .pick (.t 33) (.t 42) (.c (.bool false)), none⟩] (some [0, 1, 10, 11, 43]) none)
    (.cond (.t 43) .skip
    (.exit 0)))
    (.block 1 (.reg none [
      ⟨(some 44), .mov (.t 10), none⟩,
      ⟨(some 45), .bin .add (.t 44) (.c (.int .i64 1)), none⟩,
      ⟨(some 10), .mov (.t 45), none⟩] (some [0, 1, 10, 11]) none)))
def slices_partitionOrdered_uint8__L1 : MC :=
  (.seq (.seq (.reg (some []) [
      ⟨(some 46), .mov (.t 10), none⟩,
      ⟨(some 47), .mov (.t 11), none⟩,
      ⟨(some 48), .bin .leq (.t 46) (.t 47), none⟩,
      ⟨(some 49), .mov (.t 48), none⟩,
      ⟨(some 50), .mov (.t 0), some (49, true)⟩,
      ⟨(some 51), .mov (.t 11), some (49, true)⟩,
      ⟨(some 52), .iaS 1 (.t 50) (.t 51), some (49, true)⟩,
      ⟨(some 53), .load none (.t 52), some (49, true)⟩,
      ⟨(some 54), .mov (.t 0), some (49, true)⟩,
      ⟨(some 55), .mov (.t 1), some (49, true)⟩,
      ⟨(some 56), .iaS 1 (.t 54) (.t 55), some (49, true)⟩,
      ⟨(some 57), .load none (.t 56), some (49, true)⟩,
      ⟨(some 58), .call 157 [(.t 53), (.t 57)], some (49, true)⟩,
      ⟨(some 59), .un .not (.t 58), some (49, true)⟩,
      ⟨(some 60), .pick (.t 49) (.t 59) (.c (.bool false)), none⟩] (some [0, 1, 10, 11, 60]) none)
    (.cond (.t 60) .skip
    (.exit 2)))
    (.block 3 (.reg none [
      ⟨(some 61), .mov (.t 11), none⟩,
      ⟨(some 62), .bin .sub (.t 61) (.c (.int .i64 1)), none⟩,
      ⟨(some 11), .mov (.t 62), none⟩] (some [0, 1, 10, 11]) none)))
def slices_partitionOrdered_uint8__L3 : MC :=
  (.seq (.seq (.reg (some []) [
      ⟨(some 99), .mov (.t 10), none⟩,
      ⟨(some 100), .mov (.t 11), none⟩,
      ⟨(some 101), .bin .leq (.t 99) (.t 100), none⟩,
      ⟨(some 102), .mov (.t 101), none⟩,
      ⟨(some 103), .mov (.t 0), some (102, true)⟩,
      ⟨(some 104), .mov (.t 10), some (102, true)⟩,
      ⟨(some 105), .iaS 1 (.t 103) (.t 104), some (102, true)⟩,
      ⟨(some 106), .load none (.t 105), some (102, true)⟩,
      ⟨(some 107), .mov (.t 0), some (102, true)⟩,
      ⟨(some 108), .mov (.t 1), some (102, true)⟩,
      ⟨(some 109), .iaS 1 (.t 107) (.t 108), some (102, true)⟩,
      ⟨(some 110), .load none (.t 109), some (102, true)⟩,
      ⟨(some 111), .call 157 [(.t 106), (.t 110)], some (102, true)⟩,
      ⟨(some 112), .pick (.t 102) (.t 111) (.c (.bool false)), none⟩] (some [0, 1, 10, 11, 112]) none)
    (.cond (.t 112) .skip
    (.exit 6)))
    (.block 7 (.reg none [
      ⟨(some 113), .mov (.t 10), none⟩,
      ⟨(some 114), .bin .add (.t 113) (.c (.int .i64 1)), none⟩,
      ⟨(some 10), .mov (.t 114), none⟩] (some [0, 1, 10, 11]) none)))
def slices_partitionOrdered_uint8__L4 : MC :=
  (.seq (.seq (.reg (some []) [
      ⟨(some 115), .mov (.t 10), none⟩,
      ⟨(some 116), .mov (.t 11), none⟩,
      ⟨(some 117), .bin .leq (.t 115) (.t 116), none⟩,
      ⟨(some 118), .mov (.t 117), none⟩,
      ⟨(some 119), .mov (.t 0), some (118, true)⟩,
      ⟨(some 120), .mov (.t 11), some (118, true)⟩,
      ⟨(some 121), .iaS 1 (.t 119) (.t 120), some (118, true)⟩,
      ⟨(some 122), .load none (.t 121), some (118, true)⟩,
      ⟨(some 123), .mov (.t 0), some (118, true)⟩,
      ⟨(some 124), .mov (.t 1), some (118, true)⟩,
      ⟨(some 125), .iaS 1 (.t 123) (.t 124), some (118, true)⟩,
      ⟨(some 126), .load none (.t 125), some (118, true)⟩,
      ⟨(some 127), .call 157 [(.t 122), (.t 126)], some (118, true)⟩,
      ⟨(some 128), .un .not (.t 127), some (118, true)⟩,
      ⟨(some 129), .pick (.t 118) (.t 128) (.c (.bool false)), none⟩] (some [0, 1, 10, 11, 129]) none)
    (.cond (.t 129) .skip
    (.exit 8)))
    (.block 9 (.reg none [
      ⟨(some 130), .mov (.t 11), none⟩,
      ⟨(some 131), .bin .sub (.t 130) (.c (.int .i64 1)), none⟩,
      ⟨(some 11), .mov (.t 131), none⟩] (some [0, 1, 10, 11]) none)))
def slices_partitionOrdered_uint8__L2 : MC :=
  (.block 5 (.seq (.block 6 (.loop slices_partitionOrdered_uint8__L3))
    (.seq (.block 8 (.loop slices_partitionOrdered_uint8__L4))
    (.seq (.seq (.reg none [
      ⟨(some 132), .mov (.t 10), none⟩,
      ⟨(some 133), .mov (.t 11), none⟩,
      ⟨(some 134), .bin .gtr (.t 132) (.t 133), none⟩] (some [0, 1, 10, 11, 134]) none)
    (.cond (.t 134) (.exit 4)
    .skip))
    (.seq (.reg (some []) [
      ⟨(some 135), .mov (.t 0), none⟩,
      ⟨(some 136), .mov (.t 10), none⟩,
      ⟨(some 137), .mov (.t 0), none⟩,
      ⟨(some 138), .mov (.t 11), none⟩,
      ⟨(some 139), .mov (.t 0), none⟩,
      ⟨(some 140), .mov (.t 11), none⟩,
      ⟨(some 141), .iaS 1 (.t 139) (.t 140), none⟩,
      ⟨(some 142), .load none (.t 141), none⟩,
      ⟨(some 143), .mov (.t 0), none⟩,
      ⟨(some 144), .mov (.t 10), none⟩,
      ⟨(some 145), .iaS 1 (.t 143) (.t 144), none⟩,
      ⟨(some 146), .load none (.t 145), none⟩,
      ⟨(some 147), .iaS 1 (.t 135) (.t 136), none⟩,
      ⟨none, .store 1 (.t 147) (.t 142), none⟩,
      ⟨(some 148), .iaS 1 (.t 137) (.t 138), none⟩,
      ⟨none, .store 1 (.t 148) (.t 146), none⟩] (some [0, 1, 10, 11]) none)
    (.seq (.reg none [
      ⟨(some 149), .mov (.t 10), none⟩,
      ⟨(some 150), .bin .add (.t 149) (.c (.int .i64 1)), none⟩,
      ⟨(some 10), .mov (.t 150), none⟩] (some [0, 1, 10, 11]) none)
    (.reg none [
      ⟨(some 151), .mov (.t 11), none⟩,
      ⟨(some 152), .bin .sub (.t 151) (.c (.int .i64 1)), none⟩,
      ⟨(some 11), .mov (.t 152), none⟩] (some [0, 1, 10, 11]) none)))))))
def slices_partitionOrdered_uint8__M : MC :=
  (.seq (.reg none [
      ⟨(some 8), .mov (.c (.int .i64 0)), none⟩,
      ⟨(some 9), .mov (.c (.bool false)), none⟩] (some [0, 1, 2, 3]) none)
    (.seq (.reg (some []) [
      ⟨(some 12), .mov (.t 0), none⟩,
      ⟨(some 13), .mov (.t 1), none⟩,
      ⟨(some 14), .mov (.t 0), none⟩,
      ⟨(some 15), .mov (.t 3), none⟩,
      ⟨(some 16), .mov (.t 0), none⟩,
      ⟨(some 17), .mov (.t 3), none⟩,
      ⟨(some 18), .iaS 1 (.t 16) (.t 17), none⟩,
      ⟨(some 19), .load none (.t 18), none⟩,
      ⟨(some 20), .mov (.t 0), none⟩,
      ⟨(some 21), .mov (.t 1), none⟩,
      ⟨(some 22), .iaS 1 (.t 20) (.t 21), none⟩,
      ⟨(some 23), .load none (.t 22), none⟩,
      ⟨(some 24), .iaS 1 (.t 12) (.t 13), none⟩,
      ⟨none, .store 1 (.t 24) (.t 19), none⟩,
      ⟨(some 25), .iaS 1 (.t 14) (.t 15), none⟩,
      ⟨none, .store 1 (.t 25) (.t 23), none⟩] (some [0, 1, 2]) none)
    (.seq (.reg none [
      ⟨(some 26), .mov (.t 1), none⟩,
      ⟨(some 27), .bin .add (.t 26) (.c (.int .i64 1)), none⟩,
      ⟨(some 28), .mov (.t 2), none⟩,
      ⟨(some 29), .bin .sub (.t 28) (.c (.int .i64 1)), none⟩,
      ⟨(some 10), .mov (.t 27), none⟩,
      ⟨(some 11), .mov (.t 29), none⟩] (some [0, 1, 10, 11]) none)
    (.seq (.block 0 (.loop slices_partitionOrdered_uint8__L0))
    (.seq (.block 2 (.loop slices_partitionOrdered_uint8__L1))
    (.seq (.seq (.reg none [
      ⟨(some 63), .mov (.t 10), none⟩,
      ⟨(some 64), .mov (.t 11), none⟩,
      ⟨(some 65), .bin .gtr (.t 63) (.t 64), none⟩] (some [0, 1, 10, 11, 65]) none)
    (.cond (.t 65) (.seq (.reg (some []) [
      ⟨(some 66), .mov (.t 0), none⟩,
      ⟨(some 67), .mov (.t 11), none⟩,
      ⟨(some 68), .mov (.t 0), none⟩,
      ⟨(some 69), .mov (.t 1), none⟩,
      ⟨(some 70), .mov (.t 0), none⟩,
      ⟨(some 71), .mov (.t 1), none⟩,
      ⟨(some 72), .iaS 1 (.t 70) (.t 71), none⟩,
      ⟨(some 73), .load none (.t 72), none⟩,
      ⟨(some 74), .mov (.t 0), none⟩,
      ⟨(some 75), .mov (.t 11), none⟩,
      ⟨(some 76), .iaS 1 (.t 74) (.t 75), none⟩,
      ⟨(some 77), .load none (.t 76), none⟩,
      ⟨(some 78), .iaS 1 (.t 66) (.t 67), none⟩,
      ⟨none, .store 1 (.t 78) (.t 73), none⟩,
      ⟨(some 79), .iaS 1 (.t 68) (.t 69), none⟩,
      ⟨none, .store 1 (.t 79) (.t 77), none⟩] (some [11]) none)
    (.seq (.reg none [
      ⟨(some 80), .mov (.t 11), none⟩,
      ⟨(some 8), .mov (.t 80), none⟩,
      ⟨(some 9), .mov (.c (.bool true)), none⟩] (some [8, 9]) none)
    .ret))
    .skip))
    (.seq (.reg (some []) [
      ⟨(some 81), .mov (.t 0), none⟩,
      ⟨(some 82), .mov (.t 10), none⟩,
      ⟨(some 83), .mov (.t 0), none⟩,
      ⟨(some 84), .mov (.t 11), none⟩,
      ⟨(some 85), .mov (.t 0), none⟩,
      ⟨(some 86), .mov (.t 11), none⟩,
      ⟨(some 87), .iaS 1 (.t 85) (.t 86), none⟩,
      ⟨(some 88), .load none (.t 87), none⟩,
      ⟨(some 89), .mov (.t 0), none⟩,
      ⟨(some 90), .mov (.t 10), none⟩,
      ⟨(some 91), .iaS 1 (.t 89) (.t 90), none⟩,
      ⟨(some 92), .load none (.t 91), none⟩,
      ⟨(some 93), .iaS 1 (.t 81) (.t 82), none⟩,
      ⟨none, .store 1 (.t 93) (.t 88), none⟩,
      ⟨(some 94), .iaS 1 (.t 83) (.t 84), none⟩,
      ⟨none, .store 1 (.t 94) (.t 92), none⟩] (some [0, 1, 10, 11]) none)
    (.seq (.reg none [
      ⟨(some 95), .mov (.t 10), none⟩,
      ⟨(some 96), .bin .add (.t 95) (.c (.int .i64 1)), none⟩,
      ⟨(some 10), .mov (.t 96), none⟩] (some [0, 1, 10, 11]) none)
    (.seq (.reg none [
      ⟨(some 97), .mov (.t 11), none⟩,
      ⟨(some 98), .bin .sub (.t 97) (.c (.int .i64 1)), none⟩,
      ⟨(some 11), .mov (.t 98), none⟩] (some [0, 1, 10, 11]) none)
    (.seq (.block 4 (.loop slices_partitionOrdered_uint8__L2))
    (.seq (.reg (some []) [
      ⟨(some 153), .mov (.t 0), none⟩,
      ⟨(some 154), .mov (.t 11), none⟩,
      ⟨(some 155), .mov (.t 0), none⟩,
      ⟨(some 156), .mov (.t 1), none⟩,
      ⟨(some 157), .mov (.t 0), none⟩,
      ⟨(some 158), .mov (.t 1), none⟩,
      ⟨(some 159), .iaS 1 (.t 157) (.t 158), none⟩,
      ⟨(some 160), .load none (.t 159), none⟩,
      ⟨(some 161), .mov (.t 0), none⟩,
      ⟨(some 162), .mov (.t 11), none⟩,
      ⟨(some 163), .iaS 1 (.t 161) (.t 162), none⟩,
      ⟨(some 164), .load none (.t 163), none⟩,
      ⟨(some 165), .iaS 1 (.t 153) (.t 154), none⟩,
      ⟨none, .store 1 (.t 165) (.t 160), none⟩,
      ⟨(some 166), .iaS 1 (.t 155) (.t 156), none⟩,
      ⟨none, .store 1 (.t 166) (.t 164), none⟩] (some [11]) none)
    (.seq (.reg none [
      ⟨(some 167), .mov (.t 11), none⟩,
      ⟨(some 8), .mov (.t 167), none⟩,
      ⟨(some 9), .mov (.c (.bool false)), none⟩] (some [8, 9]) none)
    .ret))))))))))))
def slices_partitionOrdered_uint8__F : MF := ⟨168, [.t 8, .t 9], slices_partitionOrdered_uint8__M⟩
theorem slices_partitionOrdered_uint8__ok : OkF Try.prog 159 slices_partitionOrdered_uint8__F Try.f159 (bodyOf Try.f159) := ⟨Try.func159, by kernel_rfl, by kernel_rfl, by kernel_rfl, by kernel_rfl⟩
-- math/bits.Len32
def math_bits_Len32_M : MC :=
  (.seq (.reg none [
      ⟨(some 2), .mov (.c (.int .i64 0)), none⟩] (some [0, 2]) none)
    (.seq (.seq (.reg none [
      ⟨(some 3), .mov (.t 0), none⟩,
      ⟨(some 4), .bin .geq (.t 3) (.c (.int .u32 65536)), none⟩] (some [0, 2, 4]) none)
    (.cond (.t 4) (.seq (.reg none [
      ⟨(some 5), .mov (.t 0), none⟩,
      ⟨(some 6), .bin .shr (.t 5) (.c (.int .u64 16)), none⟩,
      ⟨(some 0), .mov (.t 6), none⟩] (some [0]) none)
    (.reg none [
      ⟨(some 2), .mov (.c (.int .i64 16)), none⟩] (some [0, 2]) none))
    .skip))
    (.seq (.seq (.reg none [
      ⟨(some 7), .mov (.t 0), none⟩,
      ⟨(some 8), .bin .geq (.t 7) (.c (.int .u32 256)), none⟩] (some [0, 2, 8]) none)
    (.cond (.t 8) (.seq (.reg none [
      ⟨(some 9), .mov (.t 0), none⟩,
      ⟨(some 10), .bin .shr (.t 9) (.c (.int .u64 8)), none⟩,
      ⟨(some 0), .mov (.t 10), none⟩] (some [0, 2]) none)
    (.reg none [
      ⟨(some 11), .mov (.t 2), none⟩,
      ⟨(some 12), .bin .add (.t 11) (.c (.int .i64 8)), none⟩,
      ⟨(some 2), .mov (.t 12), none⟩] (some [0, 2]) none))
    .skip))
    (.seq (.reg none [
      ⟨(some 13), .mov (.t 2), none⟩,
      ⟨(some 14), .mov (.t 0), none⟩,
      ⟨(some 15), .conv .u8 (.t 14), none⟩,
      ⟨(some 16), .ixS (.c (.str ⟨[0, 1, 2, 2, 3, 3, 3, 3, 4, 4, 4, 4, 4, 4, 4, 4, 5, 5, 5, 5, 5, 5, 5, 5, 5, 5, 5, 5, 5, 5, 5, 5, 6, 6, 6, 6, 6, 6, 6, 6, 6, 6, 6, 6, 6, 6, 6, 6, 6, 6, 6, 6, 6, 6, 6, 6, 6, 6, 6, 6, 6, 6, 6, 6, 7, 7, 7, 7, 7, 7, 7, 7, 7, 7, 7, 7, 7, 7, 7, 7, 7, 7, 7, 7, 7, 7, 7, 7, 7, 7, 7, 7, 7, 7, 7, 7, 7, 7, 7, 7, 7, 7, 7, 7, 7, 7, 7, 7, 7, 7, 7, 7, 7, 7, 7, 7, 7, 7, 7, 7, 7, 7, 7, 7, 7, 7, 7, 7, 8, 8, 8, 8, 8, 8, 8, 8, 8, 8, 8, 8, 8, 8, 8, 8, 8, 8, 8, 8, 8, 8, 8, 8, 8, 8, 8, 8, 8, 8, 8, 8, 8, 8, 8, 8, 8, 8, 8, 8, 8, 8, 8, 8, 8, 8, 8, 8, 8, 8, 8, 8, 8, 8, 8, 8, 8, 8, 8, 8, 8, 8, 8, 8, 8, 8, 8, 8, 8, 8, 8, 8, 8, 8, 8, 8, 8, 8, 8, 8, 8, 8, 8, 8, 8, 8, 8, 8, 8, 8, 8, 8, 8, 8, 8, 8, 8, 8, 8, 8, 8, 8, 8, 8, 8, 8, 8, 8, 8, 8, 8, 8, 8, 8, 8, 8, 8, 8, 8, 8, 8, 8, 8, 8, 8, 8, 8, 8].toArray⟩)) (.t 15), none⟩,
      ⟨(some 17), .conv .i64 (.t 16), none⟩,
      ⟨(some 18), .bin .add (.t 13) (.t 17), none⟩,
      ⟨(some 2), .mov (.t 18), none⟩] (some [2]) none)
    .ret))))
def math_bits_Len32_F : MF := ⟨19, [.t 2], math_bits_Len32_M⟩
theorem math_bits_Len32_ok : OkF Try.prog 160 math_bits_Len32_F Try.f160 (bodyOf Try.f160) := ⟨Try.func160, by kernel_rfl, by kernel_rfl, by kernel_rfl, by kernel_rfl⟩
-- math/bits.Len64
def math_bits_Len64_M : MC :=
  (.seq (.reg none [
      ⟨(some 2), .mov (.c (.int .i64 0)), none⟩] (some [0, 2]) none)
    (.seq (.seq (.reg none [
      ⟨(some 3), .mov (.t 0), none⟩,
      ⟨(some 4), .bin .geq (.t 3) (.c (.int .u64 4294967296)), none⟩] (some [0, 2, 4]) none)
    (.cond (.t 4) (.seq (.reg none [
      ⟨(some 5), .mov (.t 0), none⟩,
      ⟨(some 6), .bin .shr (.t 5) (.c (.int .u64 32)), none⟩,
      ⟨(some 0), .mov (.t 6), none⟩] (some [0]) none)
    (.reg none [
      ⟨(some 2), .mov (.c (.int .i64 32)), none⟩] (some [0, 2]) none))
    .skip))
    (.seq (.seq (.reg none [
      ⟨(some 7), .mov (.t 0), none⟩,
      ⟨(some 8), .bin .geq (.t 7) (.c (.int .u64 65536)), none⟩] (some [0, 2, 8]) none)
    (.cond (.t 8) (.seq (.reg none [
      ⟨(some 9), .mov (.t 0), none⟩,
      ⟨(some 10), .bin .shr (.t 9) (.c (.int .u64 16)), none⟩,
      ⟨(some 0), .mov (.t 10), none⟩] (some [0, 2]) none)
    (.reg none [
      ⟨(some 11), .mov (.t 2), none⟩,
      ⟨(some 12), .bin .add (.t 11) (.c (.int .i64 16)), none⟩,
      ⟨(some 2), .mov (.t 12), none⟩] (some [0, 2]) none))
    .skip))
    (.seq (.seq (.reg none [
      ⟨(some 13), .mov (.t 0), none⟩,
      ⟨(some 14), .bin .geq (.t 13) (.c (.int .u64 256)), none⟩] (some [0, 2, 14]) none)
    (.cond (.t 14) (.seq (.reg none [
      ⟨(some 15), .mov (.t 0), none⟩,
      ⟨(some 16), .bin .shr (.t 15) (.c (.int .u64 8)), none⟩,
      ⟨(some 0), .mov (.t 16), none⟩] (some [0, 2]) none)
    (.reg none [
      ⟨(some 17), .mov (.t 2), none⟩,
      ⟨(some 18), .bin .add (.t 17) (.c (.int .i64 8)), none⟩,
      ⟨(some 2), .mov (.t 18), none⟩] (some [0, 2]) none))
    .skip))
    (.seq (.reg none [
      ⟨(some 19), .mov (.t 2), none⟩,
      ⟨(some 20), .mov (.t 0), none⟩,
      ⟨(some 21), .conv .u8 (.t 20), none⟩,
      ⟨(some 22), .ixS (.c (.str ⟨[0, 1, 2, 2, 3, 3, 3, 3, 4, 4, 4, 4, 4, 4, 4, 4, 5, 5, 5, 5, 5, 5, 5, 5, 5, 5, 5, 5, 5, 5, 5, 5, 6, 6, 6, 6, 6, 6, 6, 6, 6, 6, 6, 6, 6, 6, 6, 6, 6, 6, 6, 6, 6, 6, 6, 6, 6, 6, 6, 6, 6, 6, 6, 6, 7, 7, 7, 7, 7, 7, 7, 7, 7, 7, 7, 7, 7, 7, 7, 7, 7, 7, 7, 7, 7, 7, 7, 7, 7, 7, 7, 7, 7, 7, 7, 7, 7, 7, 7, 7, 7, 7, 7, 7, 7, 7, 7, 7, 7, 7, 7, 7, 7, 7, 7, 7, 7, 7, 7, 7, 7, 7, 7, 7, 7, 7, 7, 7, 8, 8, 8, 8, 8, 8, 8, 8, 8, 8, 8, 8, 8, 8, 8, 8, 8, 8, 8, 8, 8, 8, 8, 8, 8, 8, 8, 8, 8, 8, 8, 8, 8, 8, 8, 8, 8, 8, 8, 8, 8, 8, 8, 8, 8, 8, 8, 8, 8, 8, 8, 8, 8, 8, 8, 8, 8, 8, 8, 8, 8, 8, 8, 8, 8, 8, 8, 8, 8, 8, 8, 8, 8, 8, 8, 8, 8, 8, 8, 8, 8, 8, 8, 8, 8, 8, 8, 8, 8, 8, 8, 8, 8, 8, 8, 8, 8, 8, 8, 8, 8, 8, 8, 8, 8, 8, 8, 8, 8, 8, 8, 8, 8, 8, 8, 8, 8, 8, 8, 8, 8, 8, 8, 8, 8, 8, 8, 8].toArray⟩)) (.t 21), none⟩,
      ⟨(some 23), .conv .i64 (.t 22), none⟩,
      ⟨(some 24), .bin .add (.t 19) (.t 23), none⟩,
      ⟨(some 2), .mov (.t 24), none⟩] (some [2]) none)
    .ret)))))
def math_bits_Len64_F : MF := ⟨25, [.t 2], math_bits_Len64_M⟩
theorem math_bits_Len64_ok : OkF Try.prog 161 math_bits_Len64_F Try.f161 (bodyOf Try.f161) := ⟨Try.func161, by kernel_rfl, by kernel_rfl, by kernel_rfl, by kernel_rfl⟩
-- slices.siftDownOrdered[uint8]
def slices_siftDownOrdered_uint8__L0 : MC :=
  (.block 1 (.seq (.reg none [
      ⟨(some 11), .mov (.t 8), none⟩,
      ⟨(some 12), .bin .mul (.c (.int .i64 2)) (.t 11), none⟩,
      ⟨(some 13), .bin .add (.t 12) (.c (.int .i64 1)), none⟩,
      ⟨(some 9), .mov (.t 13), none⟩] (some [0, 2, 3, 8, 9]) none)
    (.seq (.seq (.reg none [
      ⟨(some 14), .mov (.t 9), none⟩,
      ⟨(some 15), .mov (.t 2), none⟩,
      ⟨(some 16), .bin .geq (.t 14) (.t 15), none⟩] (some [0, 2, 3, 8, 9, 16]) none)
    (.cond (.t 16) (.exit 0)
    .skip))
    (.seq (.seq (.reg (some []) [
      ⟨(some 17), .mov (.t 9), none⟩,
      ⟨(some 18), .bin .add (.t 17) (.c (.int .i64 1)), none⟩,
      ⟨(some 19), .mov (.t 2), none⟩,
      ⟨(some 20), .bin .lss (.t 18) (.t 19), none⟩,
      ⟨(some 21), .mov (.t 20), none⟩,
      ⟨(some 22), .mov (.t 0), some (21, true)⟩,
      ⟨(some 23), .mov (.t 3), some (21, true)⟩,
      ⟨(some 24), .mov (.t 9), some (21, true)⟩,
      ⟨(some 25), .bin .add (.t 23) (.t 24), some (21, true)⟩,
      ⟨(some 26), .iaS 1 (.t 22) (.t 25), some (21, true)⟩,
      ⟨(some 27), .load none (.t 26), some (21, true)⟩,
      ⟨(some 28), .mov (.t 0), some (21, true)⟩,
      ⟨(some 29), .mov (.t 3), some (21, true)⟩,
      ⟨(some 30), .mov (.t 9), some (21, true)⟩,
      ⟨(some 31), .bin .add (.t 29) (.t 30), some (21, true)⟩,
      ⟨(some 32), .bin .add (.t 31) (.c (.int .i64 1)), some (21, true)⟩,
      ⟨(some 33), .iaS 1 (.t 28) (.t 32), some (21, true)⟩,
      ⟨(some 34), .load none (.t 33), some (21, true)⟩,
      ⟨(some 35), .call 157 [(.t 27), (.t 34)], some (21, true)⟩,
      ⟨(some 36), .pick (.t 21) (.t 35) (.c (.bool false)), none⟩] (some [0, 2, 3, 8, 9, 36]) none)
    (.cond (.t 36) (.reg none [
      ⟨(some 37), .mov (.t 9), none⟩,
      ⟨(some 38), .bin .add (.t 37) (.c (.int .i64 1)), none⟩,
      ⟨(some 9), .mov (.t 38), none⟩] (some [0, 2, 3, 8, 9]) none)
    .skip))
    (.seq (.seq (.reg (some []) [
      ⟨(some 39), .mov (.t 0), none⟩,
      ⟨(some 40), .mov (.t 3), none⟩,
      ⟨(some 41), .mov (.t 8), none⟩,
      ⟨(some 42), .bin .add (.t 40) (.t 41), none⟩,
      ⟨(some 43), .iaS 1 (.t 39) (.t 42), none⟩,
      ⟨(some 44), .load none (.t 43), none⟩,
      ⟨(some 45), .mov (.t 0), none⟩,
      ⟨(some 46), .mov (.t 3), none⟩,
      ⟨(some 47), .mov (.t 9), none⟩,
      ⟨(some 48), .bin .add (.t 46) (.t 47), none⟩,
      ⟨(some 49), .iaS 1 (.t 45) (.t 48), none⟩,
      ⟨(some 50), .load none (.t 49), none⟩,
      ⟨(some 51), .call 157 [(.t 44), (.t 50)], none⟩,
      ⟨(some 52), .un .not (.t 51), none⟩] (some [0, 2, 3, 8, 9, 52]) none)
    (.cond (.t 52) .ret
    .skip))
    (.seq (.reg (some []) [
      ⟨(some 53), .mov (.t 0), none⟩,
      ⟨(some 54), .mov (.t 3), none⟩,
      ⟨(some 55), .mov (.t 8), none⟩,
      ⟨(some 56), .bin .add (.t 54) (.t 55), none⟩,
      ⟨(some 57), .mov (.t 0), none⟩,
      ⟨(some 58), .mov (.t 3), none⟩,
      ⟨(some 59), .mov (.t 9), none⟩,
      ⟨(some 60), .bin .add (.t 58) (.t 59), none⟩,
      ⟨(some 61), .mov (.t 0), none⟩,
      ⟨(some 62), .mov (.t 3), none⟩,
      ⟨(some 63), .mov (.t 9), none⟩,
      ⟨(some 64), .bin .add (.t 62) (.t 63), none⟩,
      ⟨(some 65), .iaS 1 (.t 61) (.t 64), none⟩,
      ⟨(some 66), .load none (.t 65), none⟩,
      ⟨(some 67), .mov (.t 0), none⟩,
      ⟨(some 68), .mov (.t 3), none⟩,
      ⟨(some 69), .mov (.t 8), none⟩,
      ⟨(some 70), .bin .add (.t 68) (.t 69), none⟩,
      ⟨(some 71), .iaS 1 (.t 67) (.t 70), none⟩,
      ⟨(some 72), .load none (.t 71), none⟩,
      ⟨(some 73), .iaS 1 (.t 53) (.t 56), none⟩,
      ⟨none, .store 1 (.t 73) (.t 66), none⟩,
      ⟨(some 74), .iaS 1 (.t 57) (.t 60), none⟩,
      ⟨none, .store 1 (.t 74) (.t 72), none⟩] (some [0, 2, 3, 9]) none)
    (.reg none [
      ⟨(some 75), .mov (.t 9), none⟩,
      ⟨(some 8), .mov (.t 75), none⟩] (some [0, 2, 3, 8]) none)))))))
def slices_siftDownOrdered_uint8__M : MC :=
  (.seq (.reg none [
      ⟨(some 10), .mov (.t 1), none⟩,
      ⟨(some 8), .mov (.t 10), none⟩] (some [0, 2, 3, 8]) none)
    (.block 0 (.loop slices_siftDownOrdered_uint8__L0)))
def slices_siftDownOrdered_uint8__F : MF := ⟨76, [], slices_siftDownOrdered_uint8__M⟩
theorem slices_siftDownOrdered_uint8__ok : OkF Try.prog 162 slices_siftDownOrdered_uint8__F Try.f162 (bodyOf Try.f162) := ⟨Try.func162, by kernel_rfl, by kernel_rfl, by kernel_rfl, by kernel_rfl⟩
-- slices.nextPowerOfTwo
def slices_nextPowerOfTwo_M : MC :=
  (.seq (.reg none [
      ⟨(some 2), .mov (.c (.int .u64 0)), none⟩] (some [0]) none)
    (.seq (.reg none [
      ⟨(some 3), .mov (.t 0), none⟩,
      ⟨(some 4), .conv .u64 (.t 3), none⟩,
      ⟨(some 5), .call 150 [(.t 4)], none⟩,
      ⟨(some 6), .bin .shl (.c (.int .u64 1)) (.t 5), none⟩,
      ⟨(some 2), .mov (.t 6), none⟩] (some [2]) none)
    .ret))
def slices_nextPowerOfTwo_F : MF := ⟨7, [.t 2], slices_nextPowerOfTwo_M⟩
theorem slices_nextPowerOfTwo_ok : OkF Try.prog 163 slices_nextPowerOfTwo_F Try.f163 (bodyOf Try.f163) := ⟨Try.func163, by kernel_rfl, by kernel_rfl, by kernel_rfl, by kernel_rfl⟩
-- (*slices.xorshift).Next
def slices_xorshift_Next_M : MC :=
  (.seq (.reg none [
      ⟨(some 2), .mov (.c (.int .u64 0)), none⟩] (some [0]) none)
    (.seq (.reg (some []) [
      ⟨(some 3), .mov (.t 0), none⟩,
      ⟨(some 4), .nilc (.t 3), none⟩,
      ⟨(some 5), .load none (.t 4), none⟩,
      ⟨(some 6), .mov (.t 0), none⟩,
      ⟨(some 7), .nilc (.t 6), none⟩,
      ⟨(some 8), .load none (.t 7), none⟩,
      ⟨(some 9), .bin .shl (.t 8) (.c (.int .u64 13)), none⟩,
      ⟨(some 10), .bin .xor (.t 5) (.t 9), none⟩,
      ⟨(some 11), .nilc (.t 3), none⟩,
      ⟨none, .store 1 (.t 11) (.t 10), none⟩] (some [0]) none)
    (.seq (.reg (some []) [
      ⟨(some 12), .mov (.t 0), none⟩,
      ⟨(some 13), .nilc (.t 12), none⟩,
      ⟨(some 14), .load none (.t 13), none⟩,
      ⟨(some 15), .mov (.t 0), none⟩,
      ⟨(some 16), .nilc (.t 15), none⟩,
      ⟨(some 17), .load none (.t 16), none⟩,
      ⟨(some 18), .bin .shr (.t 17) (.c (.int .u64 7)), none⟩,
      ⟨(some 19), .bin .xor (.t 14) (.t 18), none⟩,
      ⟨(some 20), .nilc (.t 12), none⟩,
      ⟨none, .store 1 (.t 20) (.t 19), none⟩] (some [0]) none)
    (.seq (.reg (some []) [
      ⟨(some 21), .mov (.t 0), none⟩,
      ⟨(some 22), .nilc (.t 21), none⟩,
      ⟨(some 23), .load none (.t 22), none⟩,
      ⟨(some 24), .mov (.t 0), none⟩,
      ⟨(some 25), .nilc (.t 24), none⟩,
      ⟨(some 26), .load none (.t 25), none⟩,
      ⟨(some 27), .bin .shl (.t 26) (.c (.int .u64 17)), none⟩,
      ⟨(some 28), .bin .xor (.t 23) (.t 27), none⟩,
      ⟨(some 29), .nilc (.t 21), none⟩,
      ⟨none, .store 1 (.t 29) (.t 28), none⟩] (some [0]) none)
    (.seq (.reg none [
      ⟨(some 30), .mov (.t 0), none⟩,
      ⟨(some 31), .nilc (.t 30), none⟩,
      ⟨(some 32), .load none (.t 31), none⟩,
      ⟨(some 2), .mov (.t 32), none⟩] (some [2]) none)
    .ret)))))
def slices_xorshift_Next_F : MF := ⟨33, [.t 2], slices_xorshift_Next_M⟩
theorem slices_xorshift_Next_ok : OkF Try.prog 164 slices_xorshift_Next_F Try.f164 (bodyOf Try.f164) := ⟨Try.func164, by kernel_rfl, by kernel_rfl, by kernel_rfl, by kernel_rfl⟩
-- slices.medianAdjacentOrdered[uint8]
def slices_medianAdjacentOrdered_uint8__M : MC :=
  (.seq (.reg none [
      ⟨(some 6), .mov (.c (.int .i64 0)), none⟩] (some [0, 1, 2]) none)
    (.seq (.reg none [
      ⟨(some 7), .mov (.t 0), none⟩,
      ⟨(some 8), .mov (.t 1), none⟩,
      ⟨(some 9), .bin .sub (.t 8) (.c (.int .i64 1)), none⟩,
      ⟨(some 10), .mov (.t 1), none⟩,
      ⟨(some 11), .mov (.t 1), none⟩,
      ⟨(some 12), .bin .add (.t 11) (.c (.int .i64 1)), none⟩,
      ⟨(some 13), .mov (.t 2), none⟩,
      ⟨(some 14), .call 166 [(.t 7), (.t 9), (.t 10), (.t 12), (.t 13)], none⟩,
      ⟨(some 6), .mov (.t 14), none⟩] (some [6]) none)
    .ret))
def slices_medianAdjacentOrdered_uint8__F : MF := ⟨15, [.t 6], slices_medianAdjacentOrdered_uint8__M⟩
theorem slices_medianAdjacentOrdered_uint8__ok : OkF Try.prog 165 slices_medianAdjacentOrdered_uint8__F Try.f165 (bodyOf Try.f165) := ⟨Try.func165, by kernel_rfl, by kernel_rfl, by kernel_rfl, by kernel_rfl⟩
-- slices.medianOrdered[uint8]
def slices_medianOrdered_uint8__M : MC :=
  (.seq (.reg none [
      ⟨(some 10), .mov (.c (.int .i64 0)), none⟩] (some [0, 1, 2, 3, 4]) none)
    (.seq (.reg none [
      ⟨(some 12), .mov (.t 0), none⟩,
      ⟨(some 13), .mov (.t 1), none⟩,
      ⟨(some 14), .mov (.t 2), none⟩,
      ⟨(some 15), .mov (.t 4), none⟩,
      ⟨(some 16), .call 168 [(.t 12), (.t 13), (.t 14), (.t 15)], none⟩,
      ⟨(some 11), .mov (.t 16), none⟩,
      ⟨(some 17), .ext (.t 11) 0, none⟩,
      ⟨(some 18), .ext (.t 11) 1, none⟩,
      ⟨(some 1), .mov (.t 17), none⟩,
      ⟨(some 2), .mov (.t 18), none⟩] (some [0, 1, 2, 3, 4]) none)
    (.seq (.reg none [
      ⟨(some 20), .mov (.t 0), none⟩,
      ⟨(some 21), .mov (.t 2), none⟩,
      ⟨(some 22), .mov (.t 3), none⟩,
      ⟨(some 23), .mov (.t 4), none⟩,
      ⟨(some 24), .call 168 [(.t 20), (.t 21), (.t 22), (.t 23)], none⟩,
      ⟨(some 19), .mov (.t 24), none⟩,
      ⟨(some 25), .ext (.t 19) 0, none⟩,
      ⟨(some 26), .ext (.t 19) 1, none⟩,
      ⟨(some 2), .mov (.t 25), none⟩,
      ⟨(some 3), .mov (.t 26), none⟩] (some [0, 1, 2, 4]) none)
    (.seq (.reg none [
      ⟨(some 28), .mov (.t 0), none⟩,
      ⟨(some 29), .mov (.t 1), none⟩,
      ⟨(some 30), .mov (.t 2), none⟩,
      ⟨(some 31), .mov (.t 4), none⟩,
      ⟨(some 32), .call 168 [(.t 28), (.t 29), (.t 30), (.t 31)], none⟩,
      ⟨(some 27), .mov (.t 32), none⟩,
      ⟨(some 33), .ext (.t 27) 0, none⟩,
      ⟨(some 34), .ext (.t 27) 1, none⟩,
      ⟨(some 1), .mov (.t 33), none⟩,
      ⟨(some 2), .mov (.t 34), none⟩] (some [2]) none)
    (.seq (.reg none [
      ⟨(some 35), .mov (.t 2), none⟩,
      ⟨(some 10), .mov (.t 35), none⟩] (some [10]) none)
    .ret)))))
def slices_medianOrdered_uint8__F : MF := ⟨36, [.t 10], slices_medianOrdered_uint8__M⟩
theorem slices_medianOrdered_uint8__ok : OkF Try.prog 166 slices_medianOrdered_uint8__F Try.f166 (bodyOf Try.f166) := ⟨Try.func166, by kernel_rfl, by kernel_rfl, by kernel_rfl, by kernel_rfl⟩
-- cmp.isNaN[uint8]
def cmp_isNaN_uint8__M : MC :=
  (.seq (.reg none [
      ⟨(some 2), .mov (.c (.bool false)), none⟩] (some [0]) none)
    (.seq (.reg none [
      ⟨(some 3), .mov (.t 0), none⟩,
      ⟨(some 4), .mov (.t 0), none⟩,
      ⟨(some 5), .bin .neq (.t 3) (.t 4), none⟩,
      ⟨(some 2), .mov (.t 5), none⟩] (some [2]) none)
    .ret))
def cmp_isNaN_uint8__F : MF := ⟨6, [.t 2], cmp_isNaN_uint8__M⟩
theorem cmp_isNaN_uint8__ok : OkF Try.prog 167 cmp_isNaN_uint8__F Try.f167 (bodyOf Try.f167) := ⟨Try.func167, by kernel_rfl, by kernel_rfl, by kernel_rfl, by kernel_rfl⟩
-- slices.order2Ordered[uint8]
def slices_order2Ordered_uint8__M : MC :=
  (.seq (.reg none [
      ⟨(some 8), .mov (.c (.int .i64 0)), none⟩,
      ⟨(some 9), .mov (.c (.int .i64 0)), none⟩] (some [0, 1, 2, 3]) none)
    (.seq (.seq (.reg (some []) [
      ⟨(some 10), .mov (.t 0), none⟩,
      ⟨(some 11), .mov (.t 2), none⟩,
      ⟨(some 12), .iaS 1 (.t 10) (.t 11), none⟩,
      ⟨(some 13), .load none (.t 12), none⟩,
      ⟨(some 14), .mov (.t 0), none⟩,
      ⟨(some 15), .mov (.t 1), none⟩,
      ⟨(some 16), .iaS 1 (.t 14) (.t 15), none⟩,
      ⟨(some 17), .load none (.t 16), none⟩,
      ⟨(some 18), .call 157 [(.t 13), (.t 17)], none⟩] (some [1, 2, 3, 18]) none)
    (.cond (.t 18) (.seq (.reg none [
      ⟨(some 19), .mov (.t 3), none⟩,
      ⟨(some 20), .nilc (.t 19), none⟩,
      ⟨(some 21), .load none (.t 20), none⟩,
      ⟨(some 22), .bin .add (.t 21) (.c (.int .i64 1)), none⟩,
      ⟨(some 23), .nilc (.t 19), none⟩,
      ⟨none, .store 1 (.t 23) (.t 22), none⟩] (some [1, 2]) none)
    (.seq (.reg none [
      ⟨(some 24), .mov (.t 2), none⟩,
      ⟨(some 25), .mov (.t 1), none⟩,
      ⟨(some 8), .mov (.t 24), none⟩,
      ⟨(some 9), .mov (.t 25), none⟩] (some [8, 9]) none)
    .ret))
    .skip))
    (.seq (.reg none [
      ⟨(some 26), .mov (.t 1), none⟩,
      ⟨(some 27), .mov (.t 2), none⟩,
      ⟨(some 8), .mov (.t 26), none⟩,
      ⟨(some 9), .mov (.t 27), none⟩] (some [8, 9]) none)
    .ret)))
def slices_order2Ordered_uint8__F : MF := ⟨28, [.t 8, .t 9], slices_order2Ordered_uint8__M⟩
theorem slices_order2Ordered_uint8__ok : OkF Try.prog 168 slices_order2Ordered_uint8__F Try.f168 (bodyOf Try.f168) := ⟨Try.func168, by kernel_rfl, by kernel_rfl, by kernel_rfl, by kernel_rfl⟩
end Go.Proofs.Yteidfholicaocaa
