/- A part of the proof library: names for blocks of memory, a small form of the code, and rules for walks over it. -/
import Derived.Test.YtmdemhfmhlnlgaaProg
import Derived.Test.YtmdemhfmhlnlgaaAb18
import Derived.KernelRfl
import Derived.Test.YtmdemhfmhlnlgaaCodeA
set_option linter.all false
namespace Go.Proofs.Ytmdemhfmhlnlgaa
open Go.Ab
-- loop.example/g01312/impl.areLayers
def impl_areLayers_L0 : MC :=
  (.seq (.reg none [
      ⟨(some 8), .bin .lss (.t 7) (.t 6), none⟩] (some [5, 6, 7, 8]) none)
    (.seq (.cond (.t 8) .skip
    (.exit 0))
    (.seq (.block 1 (.seq (.reg none [
      ⟨(some 9), .iaS 65 (.t 5) (.t 7), none⟩,
      ⟨(some 10), .load (some 65) (.t 9), none⟩,
      ⟨(some 4), .new (rl [(1, .int .i8 0), (64, .int .u8 0)]), none⟩,
      ⟨none, .store 65 (.t 4) (.t 10), none⟩] (some [4, 5, 6, 7]) none)
    (.seq (.reg none [
      ⟨(some 11), .load (some 65) (.t 4), none⟩,
      ⟨(some 12), .call 80 [(.t 11)], none⟩,
      ⟨(some 13), .un .not (.t 12), none⟩] (some [5, 6, 7, 13]) none)
    (.cond (.t 13) (.seq (.reg none [
      ⟨(some 2), .mov (.c (.bool false)), none⟩] (some [2]) none)
    .ret)
    .skip))))
    (.reg none [
      ⟨(some 14), .bin .add (.t 7) (.c (.int .i64 1)), none⟩,
      ⟨(some 7), .mov (.t 14), none⟩] (some [5, 6, 7]) (some 0)))))
def impl_areLayers_M : MC :=
  (.seq (.reg none [
      ⟨(some 2), .mov (.c (.bool false)), none⟩] (some [0]) none)
    (.seq (.seq (.reg none [
      ⟨(some 5), .mov (.t 0), none⟩,
      ⟨(some 6), .lenS (.t 5), none⟩,
      ⟨(some 7), .mov (.c (.int .i64 0)), none⟩] (some [5, 6, 7]) none)
    (.block 0 (.loop impl_areLayers_L0)))
    (.seq (.reg none [
      ⟨(some 2), .mov (.c (.bool true)), none⟩] (some [2]) none)
    .ret)))
def impl_areLayers_F : MF := ⟨15, [.t 2], impl_areLayers_M⟩
theorem impl_areLayers_ok : OkF Try.prog 110 impl_areLayers_F Try.f110 (bodyOf Try.f110) := ⟨Try.func110, by kernel_rfl, by kernel_rfl, by kernel_rfl, by kernel_rfl⟩
-- loop.example/g01312/impl.haveParts
def impl_haveParts_L0 : MC :=
  (.seq (.reg none [
      ⟨(some 10), .bin .lss (.t 9) (.t 8), none⟩] (some [1, 7, 8, 9, 10]) none)
    (.seq (.cond (.t 10) .skip
    (.exit 0))
    (.seq (.block 1 (.seq (.reg none [
      ⟨(some 11), .iaS 65 (.t 7) (.t 9), none⟩,
      ⟨(some 12), .load (some 65) (.t 11), none⟩,
      ⟨(some 6), .new (rl [(1, .int .i8 0), (64, .int .u8 0)]), none⟩,
      ⟨none, .store 65 (.t 6) (.t 12), none⟩] (some [1, 6, 7, 8, 9]) none)
    (.seq (.reg none [
      ⟨(some 13), .fa 0 (.t 6), none⟩,
      ⟨(some 14), .load none (.t 13), none⟩,
      ⟨(some 15), .mov (.t 1), none⟩,
      ⟨(some 16), .bin .neq (.t 14) (.t 15), none⟩] (some [1, 7, 8, 9, 16]) none)
    (.cond (.t 16) (.seq (.reg none [
      ⟨(some 4), .mov (.c (.bool false)), none⟩] (some [4]) none)
    .ret)
    .skip))))
    (.reg none [
      ⟨(some 17), .bin .add (.t 9) (.c (.int .i64 1)), none⟩,
      ⟨(some 9), .mov (.t 17), none⟩] (some [1, 7, 8, 9]) (some 0)))))
def impl_haveParts_M : MC :=
  (.seq (.reg none [
      ⟨(some 4), .mov (.c (.bool false)), none⟩] (some [0, 1]) none)
    (.seq (.seq (.reg none [
      ⟨(some 7), .mov (.t 0), none⟩,
      ⟨(some 8), .lenS (.t 7), none⟩,
      ⟨(some 9), .mov (.c (.int .i64 0)), none⟩] (some [1, 7, 8, 9]) none)
    (.block 0 (.loop impl_haveParts_L0)))
    (.seq (.reg none [
      ⟨(some 4), .mov (.c (.bool true)), none⟩] (some [4]) none)
    .ret)))
def impl_haveParts_F : MF := ⟨18, [.t 4], impl_haveParts_M⟩
theorem impl_haveParts_ok : OkF Try.prog 111 impl_haveParts_F Try.f111 (bodyOf Try.f111) := ⟨Try.func111, by kernel_rfl, by kernel_rfl, by kernel_rfl, by kernel_rfl⟩
-- loop.example/g01312/impl.stack$1
def impl_stack_1_L0 : MC :=
  (.seq (.reg none [
      ⟨(some 10), .bin .lss (.t 9) (.t 8), none⟩] (some [0, 4, 7, 8, 9, 10]) none)
    (.seq (.cond (.t 10) .skip
    (.exit 0))
    (.seq (.block 1 (.seq (.reg none [
      ⟨(some 11), .iaS 65 (.t 7) (.t 9), none⟩,
      ⟨(some 12), .load (some 65) (.t 11), none⟩,
      ⟨(some 6), .new (rl [(1, .int .i8 0), (64, .int .u8 0)]), none⟩,
      ⟨none, .store 65 (.t 6) (.t 12), none⟩] (some [0, 4, 6, 7, 8, 9]) none)
    (.reg none [
      ⟨(some 13), .mov (.t 4), none⟩,
      ⟨(some 14), .mov (.t 0), none⟩,
      ⟨(some 15), .fa 1 (.t 6), none⟩,
      ⟨(some 16), .iaA 64 1 (.t 15) (.t 14), none⟩,
      ⟨(some 17), .load none (.t 16), none⟩,
      ⟨(some 18), .bin .or (.t 13) (.t 17), none⟩,
      ⟨(some 4), .mov (.t 18), none⟩] (some [0, 4, 7, 8, 9]) none)))
    (.reg none [
      ⟨(some 19), .bin .add (.t 9) (.c (.int .i64 1)), none⟩,
      ⟨(some 9), .mov (.t 19), none⟩] (some [0, 4, 7, 8, 9]) (some 0)))))
def impl_stack_1_M : MC :=
  (.seq (.reg none [
      ⟨(some 3), .mov (.c (.int .u8 0)), none⟩] (some [0, 1]) none)
    (.seq (.reg none [
      ⟨(some 4), .mov (.c (.int .u8 0)), none⟩] (some [0, 1, 4]) none)
    (.seq (.seq (.reg none [
      ⟨(some 7), .load none (.t 1), none⟩,
      ⟨(some 8), .lenS (.t 7), none⟩,
      ⟨(some 9), .mov (.c (.int .i64 0)), none⟩] (some [0, 4, 7, 8, 9]) none)
    (.block 0 (.loop impl_stack_1_L0)))
    (.seq (.reg none [
      ⟨(some 20), .mov (.t 4), none⟩,
      ⟨(some 3), .mov (.t 20), none⟩] (some [3]) none)
    .ret))))
def impl_stack_1_F : MF := ⟨21, [.t 3], impl_stack_1_M⟩
theorem impl_stack_1_ok : OkF Try.prog 112 impl_stack_1_F Try.f112 (bodyOf Try.f112) := ⟨Try.func112, by kernel_rfl, by kernel_rfl, by kernel_rfl, by kernel_rfl⟩
-- loop.example/g01312/spec.l02Rows
def spec_l02Rows_M : MC :=
  (.seq (.reg none [
      ⟨(some 4), .new (rl [(6, .int .u8 0)]), none⟩] (some [0, 1, 4]) none)
    (.seq (.seq (.reg none [
      ⟨(some 5), .mov (.t 1), none⟩] (some [0, 4, 5]) none)
    (.cond (.t 5) (.seq (.reg none [
      ⟨(some 6), .mov (.t 0), none⟩,
      ⟨(some 7), .nilc (.t 6), none⟩,
      ⟨(some 8), .fa 8 (.t 7), none⟩,
      ⟨(some 9), .load (some 6) (.t 8), none⟩,
      ⟨none, .store 6 (.t 4) (.t 9), none⟩] (some [4]) none)
    .ret)
    .skip))
    (.seq (.reg none [
      ⟨(some 10), .mov (.t 0), none⟩,
      ⟨(some 11), .nilc (.t 10), none⟩,
      ⟨(some 12), .fa 2 (.t 11), none⟩,
      ⟨(some 13), .load (some 6) (.t 12), none⟩,
      ⟨none, .store 6 (.t 4) (.t 13), none⟩] (some [4]) none)
    .ret)))
def spec_l02Rows_F : MF := ⟨14, [.c 4 (some 6)], spec_l02Rows_M⟩
theorem spec_l02Rows_ok : OkF Try.prog 113 spec_l02Rows_F Try.f113 (bodyOf Try.f113) := ⟨Try.func113, by kernel_rfl, by kernel_rfl, by kernel_rfl, by kernel_rfl⟩
-- (loop.example/g01312/impl.Scheme).all
def impl_Scheme_all_M : MC :=
  (.seq (.reg none [
      ⟨(some 1), .box (.t 0), none⟩,
      ⟨(some 2), .mov (.c (.int .u8 0)), none⟩] (some [1]) none)
    (.seq (.reg none [
      ⟨(some 3), .fa 0 (.t 1), none⟩,
      ⟨(some 4), .load none (.t 3), none⟩,
      ⟨(some 5), .bin .shl (.c (.int .u8 1)) (.t 4), none⟩,
      ⟨(some 6), .bin .sub (.t 5) (.c (.int .u8 1)), none⟩,
      ⟨(some 2), .mov (.t 6), none⟩] (some [2]) none)
    .ret))
def impl_Scheme_all_F : MF := ⟨7, [.t 2], impl_Scheme_all_M⟩
theorem impl_Scheme_all_ok : OkF Try.prog 114 impl_Scheme_all_F Try.f114 (bodyOf Try.f114) := ⟨Try.func114, by kernel_rfl, by kernel_rfl, by kernel_rfl, by kernel_rfl⟩
-- loop.example/g01312/spec.l02Weight
def spec_l02Weight_L0 : MC :=
  (.seq (.seq (.reg none [
      ⟨(some 13), .mov (.t 9), none⟩,
      ⟨(some 14), .bin .lss (.t 13) (.c (.int .i64 6)), none⟩] (some [1, 7, 8, 9, 14]) none)
    (.cond (.t 14) .skip
    (.exit 0)))
    (.seq (.block 1 (.seq (.reg none [
      ⟨(some 17), .mov (.t 1), none⟩,
      ⟨(some 18), .mov (.t 9), none⟩,
      ⟨(some 19), .conv .u64 (.t 18), none⟩,
      ⟨(some 20), .bin .shr (.t 17) (.t 19), none⟩,
      ⟨(some 21), .bin .and (.t 20) (.c (.int .u8 1)), none⟩,
      ⟨(some 22), .bin .eql (.t 21) (.c (.int .u8 1)), none⟩] (some [1, 7, 8, 9, 22]) none)
    (.cond (.t 22) (.reg none [
      ⟨(some 23), .mov (.t 8), none⟩,
      ⟨(some 24), .mov (.t 9), none⟩,
      ⟨(some 25), .iaA 6 1 (.t 7) (.t 24), none⟩,
      ⟨(some 26), .load none (.t 25), none⟩,
      ⟨(some 27), .bin .or (.t 23) (.t 26), none⟩,
      ⟨(some 8), .mov (.t 27), none⟩] (some [1, 7, 8, 9]) none)
    .skip)))
    (.reg none [
      ⟨(some 15), .mov (.t 9), none⟩,
      ⟨(some 16), .bin .add (.t 15) (.c (.int .i64 1)), none⟩,
      ⟨(some 9), .mov (.t 16), none⟩] (some [1, 7, 8, 9]) none)))
def spec_l02Weight_M : MC :=
  (.seq (.reg none [
      ⟨(some 6), .mov (.c (.int .i64 0)), none⟩] (some [0, 1, 2]) none)
    (.seq (.reg none [
      ⟨(some 10), .mov (.t 0), none⟩,
      ⟨(some 11), .mov (.t 2), none⟩,
      ⟨(some 12), .call 113 [(.t 10), (.t 11)], none⟩,
      ⟨(some 7), .new (rl [(6, .int .u8 0)]), none⟩,
      ⟨none, .store 6 (.t 7) (.t 12), none⟩] (some [1, 7]) none)
    (.seq (.reg none [
      ⟨(some 8), .mov (.c (.int .u8 0)), none⟩] (some [1, 7, 8]) none)
    (.seq (.seq (.reg none [
      ⟨(some 9), .mov (.c (.int .i64 0)), none⟩] (some [1, 7, 8, 9]) none)
    (.block 0 (.loop spec_l02Weight_L0)))
    (.seq (.reg none [
      ⟨(some 28), .mov (.t 8), none⟩,
      ⟨(some 29), .conv .u64 (.t 28), none⟩,
      ⟨(some 30), .call 54 [(.t 29)], none⟩,
      ⟨(some 6), .mov (.t 30), none⟩] (some [6]) none)
    .ret)))))
def spec_l02Weight_F : MF := ⟨31, [.t 6], spec_l02Weight_M⟩
theorem spec_l02Weight_ok : OkF Try.prog 115 spec_l02Weight_F Try.f115 (bodyOf Try.f115) := ⟨Try.func115, by kernel_rfl, by kernel_rfl, by kernel_rfl, by kernel_rfl⟩
-- (loop.example/g01312/impl.Scheme).gap
def impl_Scheme_gap_M : MC :=
  (.seq (.reg none [
      ⟨(some 2), .box (.t 0), none⟩,
      ⟨(some 4), .mov (.c (.int .i64 0)), none⟩] (some [1, 2]) none)
    (.seq (.reg (some [(2, 3), (0, 5)]) [
      ⟨(some 5), .load (some 14) (.t 2), none⟩,
      ⟨(some 6), .mov (.t 1), none⟩,
      ⟨(some 7), .call 117 [(.t 5), (.t 6), (.c (.bool true))], none⟩,
      ⟨(some 8), .load (some 14) (.t 2), none⟩,
      ⟨(some 9), .mov (.t 1), none⟩,
      ⟨(some 10), .call 117 [(.t 8), (.t 9), (.c (.bool false))], none⟩,
      ⟨(some 11), .bin .sub (.t 7) (.t 10), none⟩,
      ⟨(some 4), .mov (.t 11), none⟩] (some [4]) none)
    .ret))
def impl_Scheme_gap_F : MF := ⟨12, [.t 4], impl_Scheme_gap_M⟩
theorem impl_Scheme_gap_ok : OkF Try.prog 116 impl_Scheme_gap_F Try.f116 (bodyOf Try.f116) := ⟨Try.func116, by kernel_rfl, by kernel_rfl, by kernel_rfl, by kernel_rfl⟩
-- (loop.example/g01312/impl.Scheme).weight
def impl_Scheme_weight_L0 : MC :=
  (.seq (.reg none [
      ⟨(some 13), .bin .lss (.t 12) (.c (.int .i64 6)), none⟩] (some [1, 7, 11, 12, 13]) none)
    (.seq (.cond (.t 13) .skip
    (.exit 0))
    (.seq (.block 1 (.seq (.reg (some []) [
      ⟨(some 14), .mov (.t 12), none⟩,
      ⟨(some 15), .nilc (.t 11), none⟩,
      ⟨(some 16), .iaA 6 1 (.t 15) (.t 12), none⟩,
      ⟨(some 17), .load none (.t 16), none⟩,
      ⟨(some 8), .mov (.t 14), none⟩,
      ⟨(some 9), .mov (.t 17), none⟩] (some [1, 7, 8, 9, 11, 12]) none)
    (.seq (.reg none [
      ⟨(some 18), .mov (.t 1), none⟩,
      ⟨(some 19), .mov (.t 8), none⟩,
      ⟨(some 20), .bin .shr (.t 18) (.t 19), none⟩,
      ⟨(some 21), .bin .and (.t 20) (.c (.int .u8 1)), none⟩,
      ⟨(some 22), .bin .eql (.t 21) (.c (.int .u8 1)), none⟩] (some [1, 7, 9, 11, 12, 22]) none)
    (.cond (.t 22) (.reg none [
      ⟨(some 23), .mov (.t 7), none⟩,
      ⟨(some 24), .mov (.t 9), none⟩,
      ⟨(some 25), .bin .or (.t 23) (.t 24), none⟩,
      ⟨(some 7), .mov (.t 25), none⟩] (some [1, 7, 11, 12]) none)
    .skip))))
    (.reg none [
      ⟨(some 26), .bin .add (.t 12) (.c (.int .i64 1)), none⟩,
      ⟨(some 12), .mov (.t 26), none⟩] (some [1, 7, 11, 12]) none))))
def impl_Scheme_weight_M : MC :=
  (.seq (.reg none [
      ⟨(some 3), .box (.t 0), none⟩,
      ⟨(some 6), .mov (.c (.int .i64 0)), none⟩] (some [1, 2, 3]) none)
    (.seq (.reg none [
      ⟨(some 7), .mov (.c (.int .u8 0)), none⟩] (some [1, 2, 3, 7]) none)
    (.seq (.seq (.reg none [
      ⟨(some 10), .mov (.t 2), none⟩,
      ⟨(some 11), .call 93 [(.t 3), (.t 10)], none⟩,
      ⟨(some 12), .mov (.c (.int .i64 0)), none⟩] (some [1, 7, 11, 12]) none)
    (.block 0 (.loop impl_Scheme_weight_L0)))
    (.seq (.reg none [
      ⟨(some 27), .mov (.t 7), none⟩,
      ⟨(some 28), .call 118 [(.t 27)], none⟩,
      ⟨(some 6), .mov (.t 28), none⟩] (some [6]) none)
    .ret))))
def impl_Scheme_weight_F : MF := ⟨29, [.t 6], impl_Scheme_weight_M⟩
theorem impl_Scheme_weight_ok : OkF Try.prog 117 impl_Scheme_weight_F Try.f117 (bodyOf Try.f117) := ⟨Try.func117, by kernel_rfl, by kernel_rfl, by kernel_rfl, by kernel_rfl⟩
-- math/bits.OnesCount8
def math_bits_OnesCount8_M : MC :=
  (.seq (.reg none [
      ⟨(some 2), .mov (.c (.int .i64 0)), none⟩] (some [0]) none)
    (.seq (.reg none [
      ⟨(some 3), .mov (.t 0), none⟩,
      ⟨(some 4), .ixS (.c (.str ⟨[0, 1, 1, 2, 1, 2, 2, 3, 1, 2, 2, 3, 2, 3, 3, 4, 1, 2, 2, 3, 2, 3, 3, 4, 2, 3, 3, 4, 3, 4, 4, 5, 1, 2, 2, 3, 2, 3, 3, 4, 2, 3, 3, 4, 3, 4, 4, 5, 2, 3, 3, 4, 3, 4, 4, 5, 3, 4, 4, 5, 4, 5, 5, 6, 1, 2, 2, 3, 2, 3, 3, 4, 2, 3, 3, 4, 3, 4, 4, 5, 2, 3, 3, 4, 3, 4, 4, 5, 3, 4, 4, 5, 4, 5, 5, 6, 2, 3, 3, 4, 3, 4, 4, 5, 3, 4, 4, 5, 4, 5, 5, 6, 3, 4, 4, 5, 4, 5, 5, 6, 4, 5, 5, 6, 5, 6, 6, 7, 1, 2, 2, 3, 2, 3, 3, 4, 2, 3, 3, 4, 3, 4, 4, 5, 2, 3, 3, 4, 3, 4, 4, 5, 3, 4, 4, 5, 4, 5, 5, 6, 2, 3, 3, 4, 3, 4, 4, 5, 3, 4, 4, 5, 4, 5, 5, 6, 3, 4, 4, 5, 4, 5, 5, 6, 4, 5, 5, 6, 5, 6, 6, 7, 2, 3, 3, 4, 3, 4, 4, 5, 3, 4, 4, 5, 4, 5, 5, 6, 3, 4, 4, 5, 4, 5, 5, 6, 4, 5, 5, 6, 5, 6, 6, 7, 3, 4, 4, 5, 4, 5, 5, 6, 4, 5, 5, 6, 5, 6, 6, 7, 4, 5, 5, 6, 5, 6, 6, 7, 5, 6, 6, 7, 6, 7, 7, 8].toArray⟩)) (.t 3), none⟩,
      ⟨(some 5), .conv .i64 (.t 4), none⟩,
      ⟨(some 2), .mov (.t 5), none⟩] (some [2]) none)
    .ret))
def math_bits_OnesCount8_F : MF := ⟨6, [.t 2], math_bits_OnesCount8_M⟩
theorem math_bits_OnesCount8_ok : OkF Try.prog 118 math_bits_OnesCount8_F Try.f118 (bodyOf Try.f118) := ⟨Try.func118, by kernel_rfl, by kernel_rfl, by kernel_rfl, by kernel_rfl⟩
end Go.Proofs.Ytmdemhfmhlnlgaa
