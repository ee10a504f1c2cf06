/- A part of the proof library: names for blocks of memory, a small form of the code, and rules for walks over it. -/
import Derived.Test.YtpajbcifaicpoaaProg
import Derived.Test.YtpajbcifaicpoaaAb18
import Derived.KernelRfl
set_option linter.all false
namespace Go.Proofs.Ytpajbcifaicpoaa
open Go.Ab
-- loop.example/g01312/laws.FnExactSchemeText
def laws_FnExactSchemeText_M : MC :=
  (.seq (.reg none [
      ⟨(some 1), .box (.t 0), none⟩,
      ⟨(some 2), .mov (.c (.bool false)), none⟩] (some [1]) none)
    (.seq (.reg none [
      ⟨(some 5), .load (some 14) (.t 1), none⟩,
      ⟨(some 6), .call 6 [(.t 5)], none⟩,
      ⟨(some 7), .call 5 [(.t 6)], none⟩,
      ⟨(some 3), .mov (.t 7), none⟩] (some [1, 3]) none)
    (.seq (.reg none [
      ⟨(some 8), .load (some 14) (.t 1), none⟩,
      ⟨(some 9), .call 6 [(.t 8)], none⟩,
      ⟨(some 10), .call 7 [(.t 9)], none⟩,
      ⟨(some 4), .mov (.t 10), none⟩] (some [3, 4]) none)
    (.seq (.seq (.reg none [
      ⟨(some 11), .mov (.t 4), none⟩,
      ⟨(some 12), .mov (.t 3), none⟩,
      ⟨(some 13), .bin .neq (.t 11) (.t 12), none⟩] (some [13]) none)
    (.cond (.t 13) (.seq (.reg none [
      ⟨(some 2), .mov (.c (.bool false)), none⟩] (some [2]) none)
    .ret)
    .skip))
    (.seq (.reg none [
      ⟨(some 2), .mov (.c (.bool true)), none⟩] (some [2]) none)
    .ret)))))
def laws_FnExactSchemeText_F : MF := ⟨14, [.t 2], laws_FnExactSchemeText_M⟩
theorem laws_FnExactSchemeText_ok : OkF Try.prog 3 laws_FnExactSchemeText_F Try.f3 (bodyOf Try.f3) := ⟨Try.func3, by kernel_rfl, by kernel_rfl, by kernel_rfl, by kernel_rfl⟩
-- loop.example/g01312/laws.FnExactAllOf
def laws_FnExactAllOf_M : MC :=
  (.seq (.reg none [
      ⟨(some 2), .mov (.c (.bool false)), none⟩] (some [0]) none)
    (.seq (.reg none [
      ⟨(some 8), .mov (.t 0), none⟩,
      ⟨(some 9), .call 8 [(.t 8)], none⟩,
      ⟨(some 7), .mov (.t 9), none⟩,
      ⟨(some 10), .ext (.t 7) 0, none⟩,
      ⟨(some 11), .ext (.t 7) 1, none⟩,
      ⟨(some 3), .new (rl [(2, .int .i8 0), (12, .int .u8 0)]), none⟩,
      ⟨none, .store 14 (.t 3) (.t 10), none⟩,
      ⟨(some 4), .mov (.t 11), none⟩] (some [0, 3, 4]) none)
    (.seq (.reg none [
      ⟨(some 13), .mov (.t 0), none⟩,
      ⟨(some 14), .call 9 [(.t 13)], none⟩,
      ⟨(some 12), .mov (.t 14), none⟩,
      ⟨(some 15), .ext (.t 12) 0, none⟩,
      ⟨(some 16), .ext (.t 12) 1, none⟩,
      ⟨(some 5), .new (rl [(2, .int .i8 0), (12, .int .u8 0)]), none⟩,
      ⟨none, .store 14 (.t 5) (.t 15), none⟩,
      ⟨(some 6), .mov (.t 16), none⟩] (some [3, 4, 5, 6]) none)
    (.seq (.seq (.reg none [
      ⟨(some 17), .load (some 14) (.t 5), none⟩,
      ⟨(some 18), .load (some 14) (.t 3), none⟩,
      ⟨(some 19), .call 10 [(.t 17), (.t 18)], none⟩,
      ⟨(some 20), .un .not (.t 19), none⟩,
      ⟨(some 21), .mov (.t 20), none⟩,
      ⟨(some 22), .mov (.t 6), some (21, false)⟩,
      ⟨(some 23), .mov (.t 4), some (21, false)⟩,
      ⟨(some 24), .bin .neq (.t 22) (.t 23), some (21, false)⟩,
      ⟨(some 25), .pick (.t 21) (.c (.bool true)) (.t 24), none⟩] (some [25]) none)
    (.cond (.t 25) (.seq (.reg none [
      ⟨(some 2), .mov (.c (.bool false)), none⟩] (some [2]) none)
    .ret)
    .skip))
    (.seq (.reg none [
      ⟨(some 2), .mov (.c (.bool true)), none⟩] (some [2]) none)
    .ret)))))
def laws_FnExactAllOf_F : MF := ⟨26, [.t 2], laws_FnExactAllOf_M⟩
theorem laws_FnExactAllOf_ok : OkF Try.prog 4 laws_FnExactAllOf_F Try.f4 (bodyOf Try.f4) := ⟨Try.func4, by kernel_rfl, by kernel_rfl, by kernel_rfl, by kernel_rfl⟩
-- loop.example/g01312/spec.SchemeText
def spec_SchemeText_M : MC :=
  (.seq (.reg none [
      ⟨(some 1), .box (.t 0), none⟩,
      ⟨(some 2), .mov (.c (.str ⟨[].toArray⟩)), none⟩] (some [1]) none)
    (.seq (.seq (.reg none [
      ⟨(some 3), .call 11 [(.t 1)], none⟩,
      ⟨(some 4), .un .not (.t 3), none⟩] (some [1, 4]) none)
    (.cond (.t 4) (.seq (.reg none [
      ⟨(some 2), .mov (.c (.str ⟨[].toArray⟩)), none⟩] (some [2]) none)
    .ret)
    .skip))
    (.seq (.reg none [
      ⟨(some 5), .call 12 [(.t 1)], none⟩,
      ⟨(some 2), .mov (.t 5), none⟩] (some [2]) none)
    .ret)))
def spec_SchemeText_F : MF := ⟨6, [.t 2], spec_SchemeText_M⟩
theorem spec_SchemeText_ok : OkF Try.prog 5 spec_SchemeText_F Try.f5 (bodyOf Try.f5) := ⟨Try.func5, by kernel_rfl, by kernel_rfl, by kernel_rfl, by kernel_rfl⟩
-- loop.example/g01312/laws.toScheme
def laws_toScheme_M : MC :=
  (.seq (.reg none [
      ⟨(some 1), .box (.t 0), none⟩,
      ⟨(some 2), .new (rl [(2, .int .i8 0), (12, .int .u8 0)]), none⟩] (some [1, 2]) none)
    (.seq (.reg none [
      ⟨(some 3), .new (rl [(2, .int .i8 0), (12, .int .u8 0)]), none⟩] (some [1, 2, 3]) none)
    (.seq (.reg none [
      ⟨(some 4), .fa 0 (.t 1), none⟩,
      ⟨(some 5), .load none (.t 4), none⟩,
      ⟨(some 6), .fa 0 (.t 3), none⟩,
      ⟨none, .store 1 (.t 6) (.t 5), none⟩] (some [1, 2, 3]) none)
    (.seq (.reg none [
      ⟨(some 7), .fa 1 (.t 1), none⟩,
      ⟨(some 8), .load none (.t 7), none⟩,
      ⟨(some 9), .fa 1 (.t 3), none⟩,
      ⟨none, .store 1 (.t 9) (.t 8), none⟩] (some [1, 2, 3]) none)
    (.seq (.reg none [
      ⟨(some 10), .fa 2 (.t 1), none⟩,
      ⟨(some 11), .load (some 6) (.t 10), none⟩,
      ⟨(some 12), .call 13 [(.t 11)], none⟩,
      ⟨(some 13), .fa 2 (.t 3), none⟩,
      ⟨none, .store 6 (.t 13) (.t 12), none⟩] (some [1, 2, 3]) none)
    (.seq (.reg none [
      ⟨(some 14), .fa 8 (.t 1), none⟩,
      ⟨(some 15), .load (some 6) (.t 14), none⟩,
      ⟨(some 16), .call 13 [(.t 15)], none⟩,
      ⟨(some 17), .fa 8 (.t 3), none⟩,
      ⟨none, .store 6 (.t 17) (.t 16), none⟩] (some [2, 3]) none)
    (.seq (.reg none [
      ⟨(some 18), .load (some 14) (.t 3), none⟩,
      ⟨none, .store 14 (.t 2) (.t 18), none⟩] (some [2]) none)
    .ret)))))))
def laws_toScheme_F : MF := ⟨19, [.c 2 (some 14)], laws_toScheme_M⟩
theorem laws_toScheme_ok : OkF Try.prog 6 laws_toScheme_F Try.f6 (bodyOf Try.f6) := ⟨Try.func6, by kernel_rfl, by kernel_rfl, by kernel_rfl, by kernel_rfl⟩
-- loop.example/g01312/impl.SchemeText
def impl_SchemeText_M : MC :=
  (.seq (.reg none [
      ⟨(some 1), .box (.t 0), none⟩,
      ⟨(some 2), .mov (.c (.str ⟨[].toArray⟩)), none⟩] (some [1]) none)
    (.seq (.seq (.reg none [
      ⟨(some 3), .load (some 14) (.t 1), none⟩,
      ⟨(some 4), .call 14 [(.t 3)], none⟩,
      ⟨(some 5), .un .not (.t 4), none⟩] (some [1, 5]) none)
    (.cond (.t 5) (.seq (.reg none [
      ⟨(some 2), .mov (.c (.str ⟨[].toArray⟩)), none⟩] (some [2]) none)
    .ret)
    .skip))
    (.seq (.reg none [
      ⟨(some 6), .load (some 14) (.t 1), none⟩,
      ⟨(some 7), .call 15 [(.t 6)], none⟩,
      ⟨(some 2), .mov (.t 7), none⟩] (some [2]) none)
    .ret)))
def impl_SchemeText_F : MF := ⟨8, [.t 2], impl_SchemeText_M⟩
theorem impl_SchemeText_ok : OkF Try.prog 7 impl_SchemeText_F Try.f7 (bodyOf Try.f7) := ⟨Try.func7, by kernel_rfl, by kernel_rfl, by kernel_rfl, by kernel_rfl⟩
-- loop.example/g01312/spec.AllOf
def spec_AllOf_L0 : MC :=
  (.seq (.seq (.reg none [
      ⟨(some 13), .mov (.t 6), none⟩,
      ⟨(some 14), .mov (.t 0), none⟩,
      ⟨(some 15), .conv .u64 (.t 14), none⟩,
      ⟨(some 16), .bin .shl (.c (.int .i64 1)) (.t 15), none⟩,
      ⟨(some 17), .bin .lss (.t 13) (.t 16), none⟩] (some [0, 2, 4, 5, 6, 17]) none)
    (.cond (.t 17) .skip
    (.exit 0)))
    (.seq (.block 1 (.seq (.reg none [
      ⟨(some 20), .mov (.t 6), none⟩,
      ⟨(some 21), .conv .u64 (.t 20), none⟩,
      ⟨(some 22), .call 17 [(.t 21)], none⟩,
      ⟨(some 23), .bin .rem (.t 22) (.c (.int .i64 2)), none⟩,
      ⟨(some 24), .bin .eql (.t 23) (.c (.int .i64 0)), none⟩] (some [0, 2, 4, 5, 6, 24]) none)
    (.cond (.t 24) (.reg none [
      ⟨(some 25), .mov (.t 4), none⟩,
      ⟨(some 26), .mov (.t 6), none⟩,
      ⟨(some 27), .conv .u8 (.t 26), none⟩,
      ⟨(some 28), .bldS [.int .u8 0] 1 [(0, 1, (.t 27))], none⟩,
      ⟨(some 29), .app [.int .u8 0] 1 false (.t 25) (.t 28), none⟩,
      ⟨(some 4), .mov (.t 29), none⟩] (some [0, 2, 4, 5, 6]) none)
    (.reg none [
      ⟨(some 30), .mov (.t 5), none⟩,
      ⟨(some 31), .mov (.t 6), none⟩,
      ⟨(some 32), .conv .u8 (.t 31), none⟩,
      ⟨(some 33), .bldS [.int .u8 0] 1 [(0, 1, (.t 32))], none⟩,
      ⟨(some 34), .app [.int .u8 0] 1 false (.t 30) (.t 33), none⟩,
      ⟨(some 5), .mov (.t 34), none⟩] (some [0, 2, 4, 5, 6]) none))))
    (.reg none [
      ⟨(some 18), .mov (.t 6), none⟩,
      ⟨(some 19), .bin .add (.t 18) (.c (.int .i64 1)), none⟩,
      ⟨(some 6), .mov (.t 19), none⟩] (some [0, 2, 4, 5, 6]) (some 3))))
def spec_AllOf_M : MC :=
  (.seq (.reg none [
      ⟨(some 2), .new (rl [(2, .int .i8 0), (12, .int .u8 0)]), none⟩,
      ⟨(some 3), .mov (.c (.int .i64 0)), none⟩] (some [0, 2]) none)
    (.seq (.seq (.reg none [
      ⟨(some 7), .mov (.t 0), none⟩,
      ⟨(some 8), .call 16 [(.t 7), (.c (.int .i64 2)), (.c (.int .i64 4))], none⟩,
      ⟨(some 9), .un .not (.t 8), none⟩] (some [0, 2, 9]) none)
    (.cond (.t 9) (.seq (.reg none [
      ⟨(some 10), .bld (rl [(2, .int .i8 0), (12, .int .u8 0)]) [], none⟩,
      ⟨none, .store 14 (.t 2) (.t 10), none⟩,
      ⟨(some 3), .mov (.c (.int .i64 2)), none⟩] (some [2, 3]) none)
    .ret)
    .skip))
    (.seq (.reg none [
      ⟨(some 11), .bldS [.int .u8 0] 0 [], none⟩,
      ⟨(some 4), .mov (.t 11), none⟩] (some [0, 2, 4]) none)
    (.seq (.reg none [
      ⟨(some 12), .bldS [.int .u8 0] 0 [], none⟩,
      ⟨(some 5), .mov (.t 12), none⟩] (some [0, 2, 4, 5]) none)
    (.seq (.seq (.reg none [
      ⟨(some 6), .mov (.c (.int .i64 0)), none⟩] (some [0, 2, 4, 5, 6]) none)
    (.block 0 (.loop spec_AllOf_L0)))
    (.seq (.reg none [
      ⟨(some 35), .mov (.t 0), none⟩,
      ⟨(some 36), .conv .i8 (.t 35), none⟩,
      ⟨(some 37), .mov (.t 4), none⟩,
      ⟨(some 38), .mov (.t 5), none⟩,
      ⟨(some 39), .call 18 [(.t 36), (.t 37), (.t 38)], none⟩,
      ⟨none, .store 14 (.t 2) (.t 39), none⟩,
      ⟨(some 3), .mov (.c (.int .i64 0)), none⟩] (some [2, 3]) none)
    .ret))))))
def spec_AllOf_F : MF := ⟨40, [.c 2 (some 14), .t 3], spec_AllOf_M⟩
theorem spec_AllOf_ok : OkF Try.prog 8 spec_AllOf_F Try.f8 (bodyOf Try.f8) := ⟨Try.func8, by kernel_rfl, by kernel_rfl, by kernel_rfl, by kernel_rfl⟩
-- loop.example/g01312/impl.AllOf
def impl_AllOf_L0 : MC :=
  (.seq (.reg none [
      ⟨(some 22), .bin .lss (.t 21) (.t 20), none⟩] (some [2, 4, 5, 20, 21, 22]) none)
    (.seq (.cond (.t 22) .skip
    (.exit 0))
    (.seq (.block 1 (.seq (.reg none [
      ⟨(some 23), .mov (.t 21), none⟩,
      ⟨(some 6), .mov (.t 23), none⟩] (some [2, 4, 5, 6, 20, 21]) none)
    (.seq (.reg none [
      ⟨(some 24), .mov (.t 6), none⟩,
      ⟨(some 25), .conv .u64 (.t 24), none⟩,
      ⟨(some 26), .call 20 [(.t 25)], none⟩,
      ⟨(some 27), .bin .rem (.t 26) (.c (.int .i64 2)), none⟩,
      ⟨(some 7), .mov (.t 27), none⟩] (some [2, 4, 5, 6, 7, 20, 21]) none)
    (.reg none [
      ⟨(some 28), .mov (.t 7), none⟩,
      ⟨(some 29), .mov (.t 7), none⟩,
      ⟨(some 30), .iaA 2 1 (.t 5) (.t 29), none⟩,
      ⟨(some 31), .load none (.t 30), none⟩,
      ⟨(some 32), .mov (.t 6), none⟩,
      ⟨(some 33), .conv .u8 (.t 32), none⟩,
      ⟨(some 34), .bldS [.int .u8 0] 1 [(0, 1, (.t 33))], none⟩,
      ⟨(some 35), .app [.int .u8 0] 1 false (.t 31) (.t 34), none⟩,
      ⟨(some 36), .iaA 2 1 (.t 5) (.t 28), none⟩,
      ⟨none, .store 1 (.t 36) (.t 35), none⟩] (some [2, 4, 5, 20, 21]) none))))
    (.reg none [
      ⟨(some 37), .bin .add (.t 21) (.c (.int .i64 1)), none⟩,
      ⟨(some 21), .mov (.t 37), none⟩] (some [2, 4, 5, 20, 21]) (some 3)))))
def impl_AllOf_M : MC :=
  (.seq (.reg none [
      ⟨(some 2), .new (rl [(2, .int .i8 0), (12, .int .u8 0)]), none⟩,
      ⟨(some 3), .mov (.c (.int .i64 0)), none⟩] (some [0, 2]) none)
    (.seq (.seq (.reg none [
      ⟨(some 8), .mov (.t 0), none⟩,
      ⟨(some 9), .call 19 [(.t 8), (.c (.int .i64 2)), (.c (.int .i64 4))], none⟩,
      ⟨(some 10), .un .not (.t 9), none⟩] (some [0, 2, 10]) none)
    (.cond (.t 10) (.seq (.reg none [
      ⟨(some 11), .bld (rl [(2, .int .i8 0), (12, .int .u8 0)]) [], none⟩,
      ⟨none, .store 14 (.t 2) (.t 11), none⟩,
      ⟨(some 3), .mov (.c (.int .i64 2)), none⟩] (some [2, 3]) none)
    .ret)
    .skip))
    (.seq (.reg none [
      ⟨(some 12), .mov (.t 0), none⟩,
      ⟨(some 13), .conv .i8 (.t 12), none⟩,
      ⟨(some 14), .mov (.t 0), none⟩,
      ⟨(some 15), .bin .sub (.t 14) (.c (.int .i64 1)), none⟩,
      ⟨(some 16), .bin .shl (.c (.int .i8 1)) (.t 15), none⟩,
      ⟨(some 17), .bld (rl [(2, .int .i8 0), (12, .int .u8 0)]) [(0, 1, (.t 13)), (1, 1, (.t 16))], none⟩,
      ⟨(some 4), .new (rl [(2, .int .i8 0), (12, .int .u8 0)]), none⟩,
      ⟨none, .store 14 (.t 4) (.t 17), none⟩] (some [0, 2, 4]) none)
    (.seq (.reg none [
      ⟨(some 18), .bld [.nilsl, .nilsl] [], none⟩,
      ⟨(some 5), .new [.nilsl, .nilsl], none⟩,
      ⟨none, .store 2 (.t 5) (.t 18), none⟩] (some [0, 2, 4, 5]) none)
    (.seq (.seq (.reg none [
      ⟨(some 19), .mov (.t 0), none⟩,
      ⟨(some 20), .bin .shl (.c (.int .i64 1)) (.t 19), none⟩,
      ⟨(some 21), .mov (.c (.int .i64 0)), none⟩] (some [2, 4, 5, 20, 21]) none)
    (.block 0 (.loop impl_AllOf_L0)))
    (.seq (.reg none [
      ⟨(some 38), .iaA 2 1 (.t 5) (.c (.int .i64 0)), none⟩,
      ⟨(some 39), .load none (.t 38), none⟩,
      ⟨(some 40), .call 21 [(.t 4), (.t 39), (.c (.bool false))], none⟩] (some [2, 4, 5]) none)
    (.seq (.reg none [
      ⟨(some 41), .iaA 2 1 (.t 5) (.c (.int .i64 1)), none⟩,
      ⟨(some 42), .load none (.t 41), none⟩,
      ⟨(some 43), .call 21 [(.t 4), (.t 42), (.c (.bool true))], none⟩] (some [2, 4]) none)
    (.seq (.reg none [
      ⟨(some 44), .load (some 14) (.t 4), none⟩,
      ⟨none, .store 14 (.t 2) (.t 44), none⟩,
      ⟨(some 3), .mov (.c (.int .i64 0)), none⟩] (some [2, 3]) none)
    .ret))))))))
def impl_AllOf_F : MF := ⟨45, [.c 2 (some 14), .t 3], impl_AllOf_M⟩
theorem impl_AllOf_ok : OkF Try.prog 9 impl_AllOf_F Try.f9 (bodyOf Try.f9) := ⟨Try.func9, by kernel_rfl, by kernel_rfl, by kernel_rfl, by kernel_rfl⟩
-- loop.example/g01312/laws.eqScheme
def laws_eqScheme_M : MC :=
  (.seq (.reg none [
      ⟨(some 2), .box (.t 0), none⟩,
      ⟨(some 3), .box (.t 1), none⟩,
      ⟨(some 4), .mov (.c (.bool false)), none⟩] (some [2, 3]) none)
    (.seq (.seq (.reg none [
      ⟨(some 5), .fa 0 (.t 2), none⟩,
      ⟨(some 6), .load none (.t 5), none⟩,
      ⟨(some 7), .fa 0 (.t 3), none⟩,
      ⟨(some 8), .load none (.t 7), none⟩,
      ⟨(some 9), .bin .neq (.t 6) (.t 8), none⟩] (some [2, 3, 9]) none)
    (.cond (.t 9) (.seq (.reg none [
      ⟨(some 4), .mov (.c (.bool false)), none⟩] (some [4]) none)
    .ret)
    .skip))
    (.seq (.seq (.reg none [
      ⟨(some 10), .fa 1 (.t 2), none⟩,
      ⟨(some 11), .load none (.t 10), none⟩,
      ⟨(some 12), .fa 1 (.t 3), none⟩,
      ⟨(some 13), .load none (.t 12), none⟩,
      ⟨(some 14), .bin .neq (.t 11) (.t 13), none⟩] (some [2, 3, 14]) none)
    (.cond (.t 14) (.seq (.reg none [
      ⟨(some 4), .mov (.c (.bool false)), none⟩] (some [4]) none)
    .ret)
    .skip))
    (.seq (.seq (.reg none [
      ⟨(some 15), .fa 2 (.t 2), none⟩,
      ⟨(some 16), .load (some 6) (.t 15), none⟩,
      ⟨(some 17), .fa 2 (.t 3), none⟩,
      ⟨(some 18), .load (some 6) (.t 17), none⟩,
      ⟨(some 19), .call 22 [(.t 16), (.t 18)], none⟩,
      ⟨(some 20), .un .not (.t 19), none⟩] (some [2, 3, 20]) none)
    (.cond (.t 20) (.seq (.reg none [
      ⟨(some 4), .mov (.c (.bool false)), none⟩] (some [4]) none)
    .ret)
    .skip))
    (.seq (.seq (.reg none [
      ⟨(some 21), .fa 8 (.t 2), none⟩,
      ⟨(some 22), .load (some 6) (.t 21), none⟩,
      ⟨(some 23), .fa 8 (.t 3), none⟩,
      ⟨(some 24), .load (some 6) (.t 23), none⟩,
      ⟨(some 25), .call 22 [(.t 22), (.t 24)], none⟩,
      ⟨(some 26), .un .not (.t 25), none⟩] (some [26]) none)
    (.cond (.t 26) (.seq (.reg none [
      ⟨(some 4), .mov (.c (.bool false)), none⟩] (some [4]) none)
    .ret)
    .skip))
    (.seq (.reg none [
      ⟨(some 4), .mov (.c (.bool true)), none⟩] (some [4]) none)
    .ret))))))
def laws_eqScheme_F : MF := ⟨27, [.t 4], laws_eqScheme_M⟩
theorem laws_eqScheme_ok : OkF Try.prog 10 laws_eqScheme_F Try.f10 (bodyOf Try.f10) := ⟨Try.func10, by kernel_rfl, by kernel_rfl, by kernel_rfl, by kernel_rfl⟩
-- loop.example/g01312/spec.l02Ok
def spec_l02Ok_L0 : MC :=
  (.seq (.seq (.reg none [
      ⟨(some 21), .mov (.t 3), none⟩,
      ⟨(some 22), .bin .lss (.t 21) (.c (.int .i64 6)), none⟩] (some [0, 3, 22]) none)
    (.cond (.t 22) .skip
    (.exit 0)))
    (.seq (.block 1 (.seq (.reg (some []) [
      ⟨(some 25), .mov (.t 0), none⟩,
      ⟨(some 26), .mov (.t 3), none⟩,
      ⟨(some 27), .nilc (.t 25), none⟩,
      ⟨(some 28), .fa 2 (.t 27), none⟩,
      ⟨(some 29), .iaA 6 1 (.t 28) (.t 26), none⟩,
      ⟨(some 30), .load none (.t 29), none⟩,
      ⟨(some 31), .mov (.t 0), none⟩,
      ⟨(some 32), .mov (.t 3), none⟩,
      ⟨(some 33), .nilc (.t 31), none⟩,
      ⟨(some 34), .fa 8 (.t 33), none⟩,
      ⟨(some 35), .iaA 6 1 (.t 34) (.t 32), none⟩,
      ⟨(some 36), .load none (.t 35), none⟩,
      ⟨(some 37), .bin .or (.t 30) (.t 36), none⟩,
      ⟨(some 4), .mov (.t 37), none⟩] (some [0, 3, 4]) none)
    (.seq (.reg none [
      ⟨(some 38), .mov (.t 4), none⟩,
      ⟨(some 39), .mov (.t 0), none⟩,
      ⟨(some 40), .nilc (.t 39), none⟩,
      ⟨(some 41), .fa 1 (.t 40), none⟩,
      ⟨(some 42), .load none (.t 41), none⟩,
      ⟨(some 43), .conv .u64 (.t 42), none⟩,
      ⟨(some 44), .bin .shr (.t 38) (.t 43), none⟩,
      ⟨(some 45), .bin .neq (.t 44) (.c (.int .u8 0)), none⟩,
      ⟨(some 46), .mov (.t 45), none⟩,
      ⟨(some 47), .mov (.t 3), some (46, false)⟩,
      ⟨(some 48), .mov (.t 0), some (46, false)⟩,
      ⟨(some 49), .nilc (.t 48), some (46, false)⟩,
      ⟨(some 50), .fa 0 (.t 49), some (46, false)⟩,
      ⟨(some 51), .load none (.t 50), some (46, false)⟩,
      ⟨(some 52), .conv .i64 (.t 51), some (46, false)⟩,
      ⟨(some 53), .bin .geq (.t 47) (.t 52), some (46, false)⟩,
      ⟨(some 54), .mov (.t 53), some (46, false)⟩,
      ⟨(some 55), .mov (.t 4), some (54, true)⟩,
      ⟨(some 56), .bin .neq (.t 55) (.c (.int .u8 0)), some (54, true)⟩,
      ⟨(some 57), .pick (.t 54) (.t 56) (.c (.bool false)), some (46, false)⟩,
      ⟨(some 58), .pick (.t 46) (.c (.bool true)) (.t 57), none⟩] (some [0, 3, 58]) none)
    (.cond (.t 58) (.seq (.reg none [
      ⟨(some 2), .mov (.c (.bool false)), none⟩] (some [2]) none)
    .ret)
    .skip))))
    (.reg none [
      ⟨(some 23), .mov (.t 3), none⟩,
      ⟨(some 24), .bin .add (.t 23) (.c (.int .i64 1)), none⟩,
      ⟨(some 3), .mov (.t 24), none⟩] (some [0, 3]) none)))
def spec_l02Ok_M : MC :=
  (.seq (.reg none [
      ⟨(some 2), .mov (.c (.bool false)), none⟩] (some [0]) none)
    (.seq (.seq (.reg none [
      ⟨(some 5), .mov (.t 0), none⟩,
      ⟨(some 6), .nilc (.t 5), none⟩,
      ⟨(some 7), .fa 0 (.t 6), none⟩,
      ⟨(some 8), .load none (.t 7), none⟩,
      ⟨(some 9), .conv .i64 (.t 8), none⟩,
      ⟨(some 10), .call 16 [(.t 9), (.c (.int .i64 1)), (.c (.int .i64 6))], none⟩,
      ⟨(some 11), .un .not (.t 10), none⟩,
      ⟨(some 12), .mov (.t 11), none⟩,
      ⟨(some 13), .mov (.t 0), some (12, false)⟩,
      ⟨(some 14), .nilc (.t 13), some (12, false)⟩,
      ⟨(some 15), .fa 1 (.t 14), some (12, false)⟩,
      ⟨(some 16), .load none (.t 15), some (12, false)⟩,
      ⟨(some 17), .conv .i64 (.t 16), some (12, false)⟩,
      ⟨(some 18), .call 23 [(.t 17)], some (12, false)⟩,
      ⟨(some 19), .un .not (.t 18), some (12, false)⟩,
      ⟨(some 20), .pick (.t 12) (.c (.bool true)) (.t 19), none⟩] (some [0, 20]) none)
    (.cond (.t 20) (.seq (.reg none [
      ⟨(some 2), .mov (.c (.bool false)), none⟩] (some [2]) none)
    .ret)
    .skip))
    (.seq (.seq (.reg none [
      ⟨(some 3), .mov (.c (.int .i64 0)), none⟩] (some [0, 3]) none)
    (.block 0 (.loop spec_l02Ok_L0)))
    (.seq (.reg none [
      ⟨(some 2), .mov (.c (.bool true)), none⟩] (some [2]) none)
    .ret))))
def spec_l02Ok_F : MF := ⟨59, [.t 2], spec_l02Ok_M⟩
theorem spec_l02Ok_ok : OkF Try.prog 11 spec_l02Ok_F Try.f11 (bodyOf Try.f11) := ⟨Try.func11, by kernel_rfl, by kernel_rfl, by kernel_rfl, by kernel_rfl⟩
-- loop.example/g01312/spec.l02Text
def spec_l02Text_L0 : MC :=
  (.seq (.seq (.reg none [
      ⟨(some 5), .mov (.t 4), none⟩,
      ⟨(some 6), .mov (.t 0), none⟩,
      ⟨(some 7), .nilc (.t 6), none⟩,
      ⟨(some 8), .fa 0 (.t 7), none⟩,
      ⟨(some 9), .load none (.t 8), none⟩,
      ⟨(some 10), .conv .i64 (.t 9), none⟩,
      ⟨(some 11), .bin .lss (.t 5) (.t 10), none⟩] (some [0, 3, 4, 11]) none)
    (.cond (.t 11) .skip
    (.exit 0)))
    (.seq (.block 1 (.reg (some [(11, 18), (11, 22), (6, 23), (10, 23)]) [
      ⟨(some 14), .mov (.t 3), none⟩,
      ⟨(some 15), .mov (.t 0), none⟩,
      ⟨(some 16), .mov (.t 4), none⟩,
      ⟨(some 17), .nilc (.t 15), none⟩,
      ⟨(some 18), .fa 2 (.t 17), none⟩,
      ⟨(some 19), .iaA 6 1 (.t 18) (.t 16), none⟩,
      ⟨(some 20), .load none (.t 19), none⟩,
      ⟨(some 21), .mov (.t 0), none⟩,
      ⟨(some 22), .nilc (.t 21), none⟩,
      ⟨(some 23), .fa 1 (.t 22), none⟩,
      ⟨(some 24), .load none (.t 23), none⟩,
      ⟨(some 25), .call 24 [(.t 20), (.t 24)], none⟩,
      ⟨(some 26), .bin .add (.t 25) (.c (.str ⟨[32].toArray⟩)), none⟩,
      ⟨(some 27), .mov (.t 0), none⟩,
      ⟨(some 28), .mov (.t 4), none⟩,
      ⟨(some 29), .nilc (.t 27), none⟩,
      ⟨(some 30), .fa 8 (.t 29), none⟩,
      ⟨(some 31), .iaA 6 1 (.t 30) (.t 28), none⟩,
      ⟨(some 32), .load none (.t 31), none⟩,
      ⟨(some 33), .mov (.t 0), none⟩,
      ⟨(some 34), .nilc (.t 33), none⟩,
      ⟨(some 35), .fa 1 (.t 34), none⟩,
      ⟨(some 36), .load none (.t 35), none⟩,
      ⟨(some 37), .call 24 [(.t 32), (.t 36)], none⟩,
      ⟨(some 38), .bin .add (.t 26) (.t 37), none⟩,
      ⟨(some 39), .bin .add (.t 38) (.c (.str ⟨[10].toArray⟩)), none⟩,
      ⟨(some 40), .bin .add (.t 14) (.t 39), none⟩,
      ⟨(some 3), .mov (.t 40), none⟩] (some [0, 3, 4]) none))
    (.reg none [
      ⟨(some 12), .mov (.t 4), none⟩,
      ⟨(some 13), .bin .add (.t 12) (.c (.int .i64 1)), none⟩,
      ⟨(some 4), .mov (.t 13), none⟩] (some [0, 3, 4]) none)))
def spec_l02Text_M : MC :=
  (.seq (.reg none [
      ⟨(some 2), .mov (.c (.str ⟨[].toArray⟩)), none⟩] (some [0]) none)
    (.seq (.reg none [
      ⟨(some 3), .mov (.c (.str ⟨[].toArray⟩)), none⟩] (some [0, 3]) none)
    (.seq (.seq (.reg none [
      ⟨(some 4), .mov (.c (.int .i64 0)), none⟩] (some [0, 3, 4]) none)
    (.block 0 (.loop spec_l02Text_L0)))
    (.seq (.reg none [
      ⟨(some 41), .mov (.t 3), none⟩,
      ⟨(some 2), .mov (.t 41), none⟩] (some [2]) none)
    .ret))))
def spec_l02Text_F : MF := ⟨42, [.t 2], spec_l02Text_M⟩
theorem spec_l02Text_ok : OkF Try.prog 12 spec_l02Text_F Try.f12 (bodyOf Try.f12) := ⟨Try.func12, by kernel_rfl, by kernel_rfl, by kernel_rfl, by kernel_rfl⟩
-- loop.example/g01312/laws.toByteA6
def laws_toByteA6_L0 : MC :=
  (.seq (.seq (.reg none [
      ⟨(some 5), .mov (.t 4), none⟩,
      ⟨(some 6), .bin .lss (.t 5) (.c (.int .i64 6)), none⟩] (some [1, 2, 3, 4, 6]) none)
    (.cond (.t 6) .skip
    (.exit 0)))
    (.seq (.block 1 (.reg none [
      ⟨(some 9), .mov (.t 4), none⟩,
      ⟨(some 10), .mov (.t 4), none⟩,
      ⟨(some 11), .iaA 6 1 (.t 1) (.t 10), none⟩,
      ⟨(some 12), .load none (.t 11), none⟩,
      ⟨(some 13), .iaA 6 1 (.t 3) (.t 9), none⟩,
      ⟨none, .store 1 (.t 13) (.t 12), none⟩] (some [1, 2, 3, 4]) none))
    (.reg none [
      ⟨(some 7), .mov (.t 4), none⟩,
      ⟨(some 8), .bin .add (.t 7) (.c (.int .i64 1)), none⟩,
      ⟨(some 4), .mov (.t 8), none⟩] (some [1, 2, 3, 4]) none)))
def laws_toByteA6_M : MC :=
  (.seq (.reg none [
      ⟨(some 1), .box (.t 0), none⟩,
      ⟨(some 2), .new (rl [(6, .int .u8 0)]), none⟩] (some [1, 2]) none)
    (.seq (.reg none [
      ⟨(some 3), .new (rl [(6, .int .u8 0)]), none⟩] (some [1, 2, 3]) none)
    (.seq (.seq (.reg none [
      ⟨(some 4), .mov (.c (.int .i64 0)), none⟩] (some [1, 2, 3, 4]) none)
    (.block 0 (.loop laws_toByteA6_L0)))
    (.seq (.reg none [
      ⟨(some 14), .load (some 6) (.t 3), none⟩,
      ⟨none, .store 6 (.t 2) (.t 14), none⟩] (some [2]) none)
    .ret))))
def laws_toByteA6_F : MF := ⟨15, [.c 2 (some 6)], laws_toByteA6_M⟩
theorem laws_toByteA6_ok : OkF Try.prog 13 laws_toByteA6_F Try.f13 (bodyOf Try.f13) := ⟨Try.func13, by kernel_rfl, by kernel_rfl, by kernel_rfl, by kernel_rfl⟩
-- loop.example/g01312/impl.ValidScheme
def impl_ValidScheme_L0 : MC :=
  (.seq (.reg none [
      ⟨(some 18), .bin .lss (.t 17) (.c (.int .i64 6)), none⟩] (some [1, 17, 18]) none)
    (.seq (.cond (.t 18) .skip
    (.exit 0))
    (.seq (.block 1 (.seq (.reg none [
      ⟨(some 19), .mov (.t 17), none⟩,
      ⟨(some 3), .mov (.t 19), none⟩] (some [1, 3, 17]) none)
    (.seq (.reg (some []) [
      ⟨(some 20), .mov (.t 3), none⟩,
      ⟨(some 21), .fa 2 (.t 1), none⟩,
      ⟨(some 22), .iaA 6 1 (.t 21) (.t 20), none⟩,
      ⟨(some 23), .load none (.t 22), none⟩,
      ⟨(some 24), .mov (.t 3), none⟩,
      ⟨(some 25), .fa 8 (.t 1), none⟩,
      ⟨(some 26), .iaA 6 1 (.t 25) (.t 24), none⟩,
      ⟨(some 27), .load none (.t 26), none⟩,
      ⟨(some 28), .bin .or (.t 23) (.t 27), none⟩,
      ⟨(some 4), .mov (.t 28), none⟩] (some [1, 3, 4, 17]) none)
    (.seq (.reg none [
      ⟨(some 29), .mov (.t 4), none⟩,
      ⟨(some 30), .fa 1 (.t 1), none⟩,
      ⟨(some 31), .load none (.t 30), none⟩,
      ⟨(some 32), .call 26 [(.t 31)], none⟩,
      ⟨(some 33), .bin .andNot (.t 29) (.t 32), none⟩,
      ⟨(some 34), .bin .neq (.t 33) (.c (.int .u8 0)), none⟩,
      ⟨(some 35), .mov (.t 34), none⟩,
      ⟨(some 36), .mov (.t 3), some (35, false)⟩,
      ⟨(some 37), .fa 0 (.t 1), some (35, false)⟩,
      ⟨(some 38), .load none (.t 37), some (35, false)⟩,
      ⟨(some 39), .conv .i64 (.t 38), some (35, false)⟩,
      ⟨(some 40), .bin .geq (.t 36) (.t 39), some (35, false)⟩,
      ⟨(some 41), .mov (.t 40), some (35, false)⟩,
      ⟨(some 42), .mov (.t 4), some (41, true)⟩,
      ⟨(some 43), .bin .neq (.t 42) (.c (.int .u8 0)), some (41, true)⟩,
      ⟨(some 44), .pick (.t 41) (.t 43) (.c (.bool false)), some (35, false)⟩,
      ⟨(some 45), .pick (.t 35) (.c (.bool true)) (.t 44), none⟩] (some [1, 17, 45]) none)
    (.cond (.t 45) (.seq (.reg none [
      ⟨(some 2), .mov (.c (.bool false)), none⟩] (some [2]) none)
    .ret)
    .skip)))))
    (.reg none [
      ⟨(some 46), .bin .add (.t 17) (.c (.int .i64 1)), none⟩,
      ⟨(some 17), .mov (.t 46), none⟩] (some [1, 17]) none))))
def impl_ValidScheme_M : MC :=
  (.seq (.reg none [
      ⟨(some 1), .box (.t 0), none⟩,
      ⟨(some 2), .mov (.c (.bool false)), none⟩] (some [1]) none)
    (.seq (.seq (.reg none [
      ⟨(some 5), .fa 0 (.t 1), none⟩,
      ⟨(some 6), .load none (.t 5), none⟩,
      ⟨(some 7), .conv .i64 (.t 6), none⟩,
      ⟨(some 8), .call 19 [(.t 7), (.c (.int .i64 1)), (.c (.int .i64 6))], none⟩,
      ⟨(some 9), .un .not (.t 8), none⟩,
      ⟨(some 10), .mov (.t 9), none⟩,
      ⟨(some 11), .fa 1 (.t 1), some (10, false)⟩,
      ⟨(some 12), .load none (.t 11), some (10, false)⟩,
      ⟨(some 13), .conv .i64 (.t 12), some (10, false)⟩,
      ⟨(some 14), .call 25 [(.t 13)], some (10, false)⟩,
      ⟨(some 15), .un .not (.t 14), some (10, false)⟩,
      ⟨(some 16), .pick (.t 10) (.c (.bool true)) (.t 15), none⟩] (some [1, 16]) none)
    (.cond (.t 16) (.seq (.reg none [
      ⟨(some 2), .mov (.c (.bool false)), none⟩] (some [2]) none)
    .ret)
    .skip))
    (.seq (.seq (.reg none [
      ⟨(some 17), .mov (.c (.int .i64 0)), none⟩] (some [1, 17]) none)
    (.block 0 (.loop impl_ValidScheme_L0)))
    (.seq (.reg none [
      ⟨(some 2), .mov (.c (.bool true)), none⟩] (some [2]) none)
    .ret))))
def impl_ValidScheme_F : MF := ⟨47, [.t 2], impl_ValidScheme_M⟩
theorem impl_ValidScheme_ok : OkF Try.prog 14 impl_ValidScheme_F Try.f14 (bodyOf Try.f14) := ⟨Try.func14, by kernel_rfl, by kernel_rfl, by kernel_rfl, by kernel_rfl⟩
-- loop.example/g01312/impl.schemeText
def impl_schemeText_L0 : MC :=
  (.seq (.reg none [
      ⟨(some 12), .bin .lss (.t 11) (.t 10), none⟩] (some [1, 3, 4, 10, 11, 12]) none)
    (.seq (.cond (.t 12) .skip
    (.exit 0))
    (.seq (.block 1 (.seq (.reg none [
      ⟨(some 13), .mov (.t 11), none⟩,
      ⟨(some 5), .mov (.t 13), none⟩] (some [1, 3, 4, 5, 10, 11]) none)
    (.seq (.reg none [
      ⟨(some 14), .mov (.t 4), none⟩,
      ⟨(some 15), .mov (.t 5), none⟩,
      ⟨(some 16), .fa 2 (.t 1), none⟩,
      ⟨(some 17), .iaA 6 1 (.t 16) (.t 15), none⟩,
      ⟨(some 18), .load none (.t 17), none⟩,
      ⟨(some 19), .callv (.t 14) [(.t 18)], none⟩] (some [1, 3, 4, 5, 10, 11]) none)
    (.seq (.reg none [
      ⟨(some 20), .call 28 [(.t 3), (.c (.int .u8 32))], none⟩] (some [1, 3, 4, 5, 10, 11]) none)
    (.seq (.reg none [
      ⟨(some 21), .mov (.t 4), none⟩,
      ⟨(some 22), .mov (.t 5), none⟩,
      ⟨(some 23), .fa 8 (.t 1), none⟩,
      ⟨(some 24), .iaA 6 1 (.t 23) (.t 22), none⟩,
      ⟨(some 25), .load none (.t 24), none⟩,
      ⟨(some 26), .callv (.t 21) [(.t 25)], none⟩] (some [1, 3, 4, 10, 11]) none)
    (.reg none [
      ⟨(some 27), .call 28 [(.t 3), (.c (.int .u8 10))], none⟩] (some [1, 3, 4, 10, 11]) none))))))
    (.reg none [
      ⟨(some 28), .bin .add (.t 11) (.c (.int .i64 1)), none⟩,
      ⟨(some 11), .mov (.t 28), none⟩] (some [1, 3, 4, 10, 11]) none))))
def impl_schemeText_M : MC :=
  (.seq (.reg none [
      ⟨(some 1), .box (.t 0), none⟩,
      ⟨(some 2), .mov (.c (.str ⟨[].toArray⟩)), none⟩] (some [1]) none)
    (.seq (.reg none [
      ⟨(some 6), .bld [.nilptr, .nilsl] [], none⟩,
      ⟨(some 3), .new [.nilptr, .nilsl], none⟩,
      ⟨none, .store 2 (.t 3) (.t 6), none⟩] (some [1, 3]) none)
    (.seq (.reg none [
      ⟨(some 7), .mkf 27 [] [(.t 1), (.t 3)], none⟩,
      ⟨(some 4), .mov (.t 7), none⟩] (some [1, 3, 4]) none)
    (.seq (.seq (.reg none [
      ⟨(some 8), .fa 0 (.t 1), none⟩,
      ⟨(some 9), .load none (.t 8), none⟩,
      ⟨(some 10), .conv .i64 (.t 9), none⟩,
      ⟨(some 11), .mov (.c (.int .i64 0)), none⟩] (some [1, 3, 4, 10, 11]) none)
    (.block 0 (.loop impl_schemeText_L0)))
    (.seq (.reg none [
      ⟨(some 29), .call 30 [(.t 3)], none⟩,
      ⟨(some 2), .mov (.t 29), none⟩] (some [2]) none)
    .ret)))))
def impl_schemeText_F : MF := ⟨30, [.t 2], impl_schemeText_M⟩
theorem impl_schemeText_ok : OkF Try.prog 15 impl_schemeText_F Try.f15 (bodyOf Try.f15) := ⟨Try.func15, by kernel_rfl, by kernel_rfl, by kernel_rfl, by kernel_rfl⟩
-- loop.example/g01312/spec.l00In
def spec_l00In_M : MC :=
  (.seq (.reg none [
      ⟨(some 6), .mov (.c (.bool false)), none⟩] (some [0, 1, 2]) none)
    (.seq (.reg none [
      ⟨(some 7), .mov (.t 0), none⟩,
      ⟨(some 8), .mov (.t 1), none⟩,
      ⟨(some 9), .bin .geq (.t 7) (.t 8), none⟩,
      ⟨(some 10), .mov (.t 9), none⟩,
      ⟨(some 11), .mov (.t 0), some (10, true)⟩,
      ⟨(some 12), .mov (.t 2), some (10, true)⟩,
      ⟨(some 13), .bin .leq (.t 11) (.t 12), some (10, true)⟩,
      ⟨(some 14), .pick (.t 10) (.t 13) (.c (.bool false)), none⟩,
      ⟨(some 6), .mov (.t 14), none⟩] (some [6]) none)
    .ret))
def spec_l00In_F : MF := ⟨15, [.t 6], spec_l00In_M⟩
theorem spec_l00In_ok : OkF Try.prog 16 spec_l00In_F Try.f16 (bodyOf Try.f16) := ⟨Try.func16, by kernel_rfl, by kernel_rfl, by kernel_rfl, by kernel_rfl⟩
-- loop.example/g01312/spec.l01Count
def spec_l01Count_L0 : MC :=
  (.seq (.seq (.reg none [
      ⟨(some 4), .mov (.t 0), none⟩,
      ⟨(some 5), .bin .neq (.t 4) (.c (.int .u64 0)), none⟩] (some [0, 3, 5]) none)
    (.cond (.t 5) .skip
    (.exit 0)))
    (.seq (.block 1 (.reg none [
      ⟨(some 8), .mov (.t 3), none⟩,
      ⟨(some 9), .mov (.t 0), none⟩,
      ⟨(some 10), .bin .and (.t 9) (.c (.int .u64 1)), none⟩,
      ⟨(some 11), .conv .i64 (.t 10), none⟩,
      ⟨(some 12), .bin .add (.t 8) (.t 11), none⟩,
      ⟨(some 3), .mov (.t 12), none⟩] (some [0, 3]) none))
    (.reg none [
      ⟨(some 6), .mov (.t 0), none⟩,
      ⟨(some 7), .bin .shr (.t 6) (.c (.int .u64 1)), none⟩,
      ⟨(some 0), .mov (.t 7), none⟩] (some [0, 3]) none)))
def spec_l01Count_M : MC :=
  (.seq (.reg none [
      ⟨(some 2), .mov (.c (.int .i64 0)), none⟩] (some [0]) none)
    (.seq (.reg none [
      ⟨(some 3), .mov (.c (.int .i64 0)), none⟩] (some [0, 3]) none)
    (.seq (.block 0 (.loop spec_l01Count_L0))
    (.seq (.reg none [
      ⟨(some 13), .mov (.t 3), none⟩,
      ⟨(some 2), .mov (.t 13), none⟩] (some [2]) none)
    .ret))))
def spec_l01Count_F : MF := ⟨14, [.t 2], spec_l01Count_M⟩
theorem spec_l01Count_ok : OkF Try.prog 17 spec_l01Count_F Try.f17 (bodyOf Try.f17) := ⟨Try.func17, by kernel_rfl, by kernel_rfl, by kernel_rfl, by kernel_rfl⟩
-- loop.example/g01312/spec.l02From
def spec_l02From_L1 : MC :=
  (.seq (.seq (.reg none [
      ⟨(some 21), .mov (.t 9), none⟩,
      ⟨(some 22), .mov (.t 0), none⟩,
      ⟨(some 23), .conv .i64 (.t 22), none⟩,
      ⟨(some 24), .bin .lss (.t 21) (.t 23), none⟩] (some [0, 1, 2, 6, 7, 8, 9, 24]) none)
    (.cond (.t 24) .skip
    (.exit 2)))
    (.seq (.block 3 (.seq (.reg (some []) [
      ⟨(some 27), .mov (.t 9), none⟩,
      ⟨(some 28), .fa 2 (.t 7), none⟩,
      ⟨(some 29), .iaA 6 1 (.t 28) (.t 27), none⟩,
      ⟨(some 30), .load none (.t 29), none⟩,
      ⟨(some 31), .mov (.t 1), none⟩,
      ⟨(some 32), .mov (.t 8), none⟩,
      ⟨(some 33), .iaS 1 (.t 31) (.t 32), none⟩,
      ⟨(some 34), .load none (.t 33), none⟩,
      ⟨(some 35), .mov (.t 9), none⟩,
      ⟨(some 36), .conv .u64 (.t 35), none⟩,
      ⟨(some 37), .bin .shr (.t 34) (.t 36), none⟩,
      ⟨(some 38), .bin .and (.t 37) (.c (.int .u8 1)), none⟩,
      ⟨(some 39), .mov (.t 8), none⟩,
      ⟨(some 40), .conv .u64 (.t 39), none⟩,
      ⟨(some 41), .bin .shl (.t 38) (.t 40), none⟩,
      ⟨(some 42), .bin .or (.t 30) (.t 41), none⟩,
      ⟨(some 43), .fa 2 (.t 7), none⟩,
      ⟨(some 44), .iaA 6 1 (.t 43) (.t 27), none⟩,
      ⟨none, .store 1 (.t 44) (.t 42), none⟩] (some [0, 1, 2, 6, 7, 8, 9]) none)
    (.reg (some []) [
      ⟨(some 45), .mov (.t 9), none⟩,
      ⟨(some 46), .fa 8 (.t 7), none⟩,
      ⟨(some 47), .iaA 6 1 (.t 46) (.t 45), none⟩,
      ⟨(some 48), .load none (.t 47), none⟩,
      ⟨(some 49), .mov (.t 2), none⟩,
      ⟨(some 50), .mov (.t 8), none⟩,
      ⟨(some 51), .iaS 1 (.t 49) (.t 50), none⟩,
      ⟨(some 52), .load none (.t 51), none⟩,
      ⟨(some 53), .mov (.t 9), none⟩,
      ⟨(some 54), .conv .u64 (.t 53), none⟩,
      ⟨(some 55), .bin .shr (.t 52) (.t 54), none⟩,
      ⟨(some 56), .bin .and (.t 55) (.c (.int .u8 1)), none⟩,
      ⟨(some 57), .mov (.t 8), none⟩,
      ⟨(some 58), .conv .u64 (.t 57), none⟩,
      ⟨(some 59), .bin .shl (.t 56) (.t 58), none⟩,
      ⟨(some 60), .bin .or (.t 48) (.t 59), none⟩,
      ⟨(some 61), .fa 8 (.t 7), none⟩,
      ⟨(some 62), .iaA 6 1 (.t 61) (.t 45), none⟩,
      ⟨none, .store 1 (.t 62) (.t 60), none⟩] (some [0, 1, 2, 6, 7, 8, 9]) none)))
    (.reg none [
      ⟨(some 25), .mov (.t 9), none⟩,
      ⟨(some 26), .bin .add (.t 25) (.c (.int .i64 1)), none⟩,
      ⟨(some 9), .mov (.t 26), none⟩] (some [0, 1, 2, 6, 7, 8, 9]) none)))
def spec_l02From_L0 : MC :=
  (.seq (.seq (.reg none [
      ⟨(some 15), .mov (.t 8), none⟩,
      ⟨(some 16), .mov (.t 1), none⟩,
      ⟨(some 17), .lenS (.t 16), none⟩,
      ⟨(some 18), .bin .lss (.t 15) (.t 17), none⟩] (some [0, 1, 2, 6, 7, 8, 18]) none)
    (.cond (.t 18) .skip
    (.exit 0)))
    (.seq (.block 1 (.seq (.reg none [
      ⟨(some 9), .mov (.c (.int .i64 0)), none⟩] (some [0, 1, 2, 6, 7, 8, 9]) none)
    (.block 2 (.loop spec_l02From_L1))))
    (.reg none [
      ⟨(some 19), .mov (.t 8), none⟩,
      ⟨(some 20), .bin .add (.t 19) (.c (.int .i64 1)), none⟩,
      ⟨(some 8), .mov (.t 20), none⟩] (some [0, 1, 2, 6, 7, 8]) none)))
def spec_l02From_M : MC :=
  (.seq (.reg none [
      ⟨(some 6), .new (rl [(2, .int .i8 0), (12, .int .u8 0)]), none⟩] (some [0, 1, 2, 6]) none)
    (.seq (.reg none [
      ⟨(some 10), .mov (.t 0), none⟩,
      ⟨(some 11), .mov (.t 1), none⟩,
      ⟨(some 12), .lenS (.t 11), none⟩,
      ⟨(some 13), .conv .i8 (.t 12), none⟩,
      ⟨(some 14), .bld (rl [(2, .int .i8 0), (12, .int .u8 0)]) [(0, 1, (.t 10)), (1, 1, (.t 13))], none⟩,
      ⟨(some 7), .new (rl [(2, .int .i8 0), (12, .int .u8 0)]), none⟩,
      ⟨none, .store 14 (.t 7) (.t 14), none⟩] (some [0, 1, 2, 6, 7]) none)
    (.seq (.seq (.reg none [
      ⟨(some 8), .mov (.c (.int .i64 0)), none⟩] (some [0, 1, 2, 6, 7, 8]) none)
    (.block 0 (.loop spec_l02From_L0)))
    (.seq (.reg none [
      ⟨(some 63), .load (some 14) (.t 7), none⟩,
      ⟨none, .store 14 (.t 6) (.t 63), none⟩] (some [6]) none)
    .ret))))
def spec_l02From_F : MF := ⟨64, [.c 6 (some 14)], spec_l02From_M⟩
theorem spec_l02From_ok : OkF Try.prog 18 spec_l02From_F Try.f18 (bodyOf Try.f18) := ⟨Try.func18, by kernel_rfl, by kernel_rfl, by kernel_rfl, by kernel_rfl⟩
-- loop.example/g01312/impl.within
def impl_within_M : MC :=
  (.seq (.reg none [
      ⟨(some 6), .mov (.c (.bool false)), none⟩] (some [0, 1, 2]) none)
    (.seq (.reg none [
      ⟨(some 7), .mov (.t 0), none⟩,
      ⟨(some 8), .mov (.t 1), none⟩,
      ⟨(some 9), .bin .geq (.t 7) (.t 8), none⟩,
      ⟨(some 10), .mov (.t 9), none⟩,
      ⟨(some 11), .mov (.t 0), some (10, true)⟩,
      ⟨(some 12), .mov (.t 2), some (10, true)⟩,
      ⟨(some 13), .bin .leq (.t 11) (.t 12), some (10, true)⟩,
      ⟨(some 14), .pick (.t 10) (.t 13) (.c (.bool false)), none⟩,
      ⟨(some 6), .mov (.t 14), none⟩] (some [6]) none)
    .ret))
def impl_within_F : MF := ⟨15, [.t 6], impl_within_M⟩
theorem impl_within_ok : OkF Try.prog 19 impl_within_F Try.f19 (bodyOf Try.f19) := ⟨Try.func19, by kernel_rfl, by kernel_rfl, by kernel_rfl, by kernel_rfl⟩
-- math/bits.OnesCount
def math_bits_OnesCount_M : MC :=
  (.seq (.reg none [
      ⟨(some 2), .mov (.c (.int .i64 0)), none⟩] (some [0]) none)
    (.seq (.cond (.c (.bool false)) (.seq (.reg none [
      ⟨(some 3), .mov (.t 0), none⟩,
      ⟨(some 4), .conv .u32 (.t 3), none⟩,
      ⟨(some 5), .call 31 [(.t 4)], none⟩,
      ⟨(some 2), .mov (.t 5), none⟩] (some [2]) none)
    .ret)
    .skip)
    (.seq (.reg none [
      ⟨(some 6), .mov (.t 0), none⟩,
      ⟨(some 7), .call 32 [(.t 6)], none⟩,
      ⟨(some 2), .mov (.t 7), none⟩] (some [2]) none)
    .ret)))
def math_bits_OnesCount_F : MF := ⟨8, [.t 2], math_bits_OnesCount_M⟩
theorem math_bits_OnesCount_ok : OkF Try.prog 20 math_bits_OnesCount_F Try.f20 (bodyOf Try.f20) := ⟨Try.func20, by kernel_rfl, by kernel_rfl, by kernel_rfl, by kernel_rfl⟩
-- (*loop.example/g01312/impl.Scheme).rowsOf
def impl_Scheme_rowsOf_L1 : MC :=
  (.seq (.reg none [
      ⟨(some 24), .bin .lss (.t 23) (.c (.int .i64 6)), none⟩] (some [6, 7, 8, 16, 17, 18, 23, 24]) none)
    (.seq (.cond (.t 24) .skip
    (.exit 2))
    (.seq (.block 3 (.seq (.reg none [
      ⟨(some 25), .mov (.t 23), none⟩,
      ⟨(some 9), .mov (.t 25), none⟩] (some [6, 7, 8, 9, 16, 17, 18, 23]) none)
    (.reg (some []) [
      ⟨(some 26), .mov (.t 6), none⟩,
      ⟨(some 27), .mov (.t 9), none⟩,
      ⟨(some 28), .nilc (.t 26), none⟩,
      ⟨(some 29), .iaA 6 1 (.t 28) (.t 27), none⟩,
      ⟨(some 30), .load none (.t 29), none⟩,
      ⟨(some 31), .mov (.t 8), none⟩,
      ⟨(some 32), .mov (.t 9), none⟩,
      ⟨(some 33), .bin .shr (.t 31) (.t 32), none⟩,
      ⟨(some 34), .bin .and (.t 33) (.c (.int .u8 1)), none⟩,
      ⟨(some 35), .mov (.t 7), none⟩,
      ⟨(some 36), .bin .shl (.t 34) (.t 35), none⟩,
      ⟨(some 37), .bin .or (.t 30) (.t 36), none⟩,
      ⟨(some 38), .nilc (.t 26), none⟩,
      ⟨(some 39), .iaA 6 1 (.t 38) (.t 27), none⟩,
      ⟨none, .store 1 (.t 39) (.t 37), none⟩] (some [6, 7, 8, 16, 17, 18, 23]) none)))
    (.reg none [
      ⟨(some 40), .bin .add (.t 23) (.c (.int .i64 1)), none⟩,
      ⟨(some 23), .mov (.t 40), none⟩] (some [6, 7, 8, 16, 17, 18, 23]) none))))
def impl_Scheme_rowsOf_L0 : MC :=
  (.seq (.reg none [
      ⟨(some 19), .bin .lss (.t 18) (.t 17), none⟩] (some [6, 16, 17, 18, 19]) none)
    (.seq (.cond (.t 19) .skip
    (.exit 0))
    (.seq (.block 1 (.seq (.reg none [
      ⟨(some 20), .mov (.t 18), none⟩,
      ⟨(some 21), .iaS 1 (.t 16) (.t 18), none⟩,
      ⟨(some 22), .load none (.t 21), none⟩,
      ⟨(some 7), .mov (.t 20), none⟩,
      ⟨(some 8), .mov (.t 22), none⟩] (some [6, 7, 8, 16, 17, 18]) none)
    (.seq (.reg none [
      ⟨(some 23), .mov (.c (.int .i64 0)), none⟩] (some [6, 7, 8, 16, 17, 18, 23]) none)
    (.block 2 (.loop impl_Scheme_rowsOf_L1)))))
    (.reg none [
      ⟨(some 41), .bin .add (.t 18) (.c (.int .i64 1)), none⟩,
      ⟨(some 18), .mov (.t 41), none⟩] (some [6, 16, 17, 18]) none))))
def impl_Scheme_rowsOf_M : MC :=
  (.seq (.reg none [
      ⟨(some 10), .mov (.t 0), none⟩,
      ⟨(some 11), .mov (.t 2), none⟩,
      ⟨(some 12), .call 33 [(.t 10), (.t 11)], none⟩,
      ⟨(some 6), .mov (.t 12), none⟩] (some [1, 6]) none)
    (.seq (.reg none [
      ⟨(some 13), .mov (.t 6), none⟩,
      ⟨(some 14), .bld (rl [(6, .int .u8 0)]) [], none⟩,
      ⟨(some 15), .nilc (.t 13), none⟩,
      ⟨none, .store 6 (.t 15) (.t 14), none⟩] (some [1, 6]) none)
    (.seq (.reg none [
      ⟨(some 16), .mov (.t 1), none⟩,
      ⟨(some 17), .lenS (.t 16), none⟩,
      ⟨(some 18), .mov (.c (.int .i64 0)), none⟩] (some [6, 16, 17, 18]) none)
    (.block 0 (.loop impl_Scheme_rowsOf_L0)))))
def impl_Scheme_rowsOf_F : MF := ⟨42, [], impl_Scheme_rowsOf_M⟩
theorem impl_Scheme_rowsOf_ok : OkF Try.prog 21 impl_Scheme_rowsOf_F Try.f21 (bodyOf Try.f21) := ⟨Try.func21, by kernel_rfl, by kernel_rfl, by kernel_rfl, by kernel_rfl⟩
-- loop.example/g01312/laws.eqByteA6
def laws_eqByteA6_L0 : MC :=
  (.seq (.seq (.reg none [
      ⟨(some 6), .mov (.t 5), none⟩,
      ⟨(some 7), .bin .lss (.t 6) (.c (.int .i64 6)), none⟩] (some [2, 3, 5, 7]) none)
    (.cond (.t 7) .skip
    (.exit 0)))
    (.seq (.block 1 (.seq (.reg (some []) [
      ⟨(some 10), .mov (.t 5), none⟩,
      ⟨(some 11), .iaA 6 1 (.t 2) (.t 10), none⟩,
      ⟨(some 12), .load none (.t 11), none⟩,
      ⟨(some 13), .mov (.t 5), none⟩,
      ⟨(some 14), .iaA 6 1 (.t 3) (.t 13), none⟩,
      ⟨(some 15), .load none (.t 14), none⟩,
      ⟨(some 16), .bin .neq (.t 12) (.t 15), none⟩] (some [2, 3, 5, 16]) none)
    (.cond (.t 16) (.seq (.reg none [
      ⟨(some 4), .mov (.c (.bool false)), none⟩] (some [4]) none)
    .ret)
    .skip)))
    (.reg none [
      ⟨(some 8), .mov (.t 5), none⟩,
      ⟨(some 9), .bin .add (.t 8) (.c (.int .i64 1)), none⟩,
      ⟨(some 5), .mov (.t 9), none⟩] (some [2, 3, 5]) none)))
def laws_eqByteA6_M : MC :=
  (.seq (.reg none [
      ⟨(some 2), .box (.t 0), none⟩,
      ⟨(some 3), .box (.t 1), none⟩,
      ⟨(some 4), .mov (.c (.bool false)), none⟩] (some [2, 3]) none)
    (.seq (.seq (.reg none [
      ⟨(some 5), .mov (.c (.int .i64 0)), none⟩] (some [2, 3, 5]) none)
    (.block 0 (.loop laws_eqByteA6_L0)))
    (.seq (.reg none [
      ⟨(some 4), .mov (.c (.bool true)), none⟩] (some [4]) none)
    .ret)))
def laws_eqByteA6_F : MF := ⟨17, [.t 4], laws_eqByteA6_M⟩
theorem laws_eqByteA6_ok : OkF Try.prog 22 laws_eqByteA6_F Try.f22 (bodyOf Try.f22) := ⟨Try.func22, by kernel_rfl, by kernel_rfl, by kernel_rfl, by kernel_rfl⟩
-- loop.example/g01312/spec.l01Parts
def spec_l01Parts_M : MC :=
  (.seq (.reg none [
      ⟨(some 2), .mov (.c (.bool false)), none⟩] (some [0]) none)
    (.seq (.reg none [
      ⟨(some 3), .mov (.t 0), none⟩,
      ⟨(some 4), .call 16 [(.t 3), (.c (.int .i64 1)), (.c (.int .i64 8))], none⟩,
      ⟨(some 2), .mov (.t 4), none⟩] (some [2]) none)
    .ret))
def spec_l01Parts_F : MF := ⟨5, [.t 2], spec_l01Parts_M⟩
theorem spec_l01Parts_ok : OkF Try.prog 23 spec_l01Parts_F Try.f23 (bodyOf Try.f23) := ⟨Try.func23, by kernel_rfl, by kernel_rfl, by kernel_rfl, by kernel_rfl⟩
-- loop.example/g01312/spec.l02Marks
def spec_l02Marks_L0 : MC :=
  (.seq (.seq (.reg none [
      ⟨(some 7), .mov (.t 6), none⟩,
      ⟨(some 8), .mov (.t 1), none⟩,
      ⟨(some 9), .conv .i64 (.t 8), none⟩,
      ⟨(some 10), .bin .lss (.t 7) (.t 9), none⟩] (some [0, 1, 5, 6, 10]) none)
    (.cond (.t 10) .skip
    (.exit 0)))
    (.seq (.block 1 (.seq (.reg none [
      ⟨(some 13), .mov (.t 0), none⟩,
      ⟨(some 14), .mov (.t 6), none⟩,
      ⟨(some 15), .conv .u64 (.t 14), none⟩,
      ⟨(some 16), .bin .shr (.t 13) (.t 15), none⟩,
      ⟨(some 17), .bin .and (.t 16) (.c (.int .u8 1)), none⟩,
      ⟨(some 18), .bin .eql (.t 17) (.c (.int .u8 1)), none⟩] (some [0, 1, 5, 6, 18]) none)
    (.cond (.t 18) (.reg none [
      ⟨(some 19), .mov (.t 5), none⟩,
      ⟨(some 20), .bin .add (.t 19) (.c (.str ⟨[35].toArray⟩)), none⟩,
      ⟨(some 5), .mov (.t 20), none⟩] (some [0, 1, 5, 6]) none)
    (.reg none [
      ⟨(some 21), .mov (.t 5), none⟩,
      ⟨(some 22), .bin .add (.t 21) (.c (.str ⟨[46].toArray⟩)), none⟩,
      ⟨(some 5), .mov (.t 22), none⟩] (some [0, 1, 5, 6]) none))))
    (.reg none [
      ⟨(some 11), .mov (.t 6), none⟩,
      ⟨(some 12), .bin .add (.t 11) (.c (.int .i64 1)), none⟩,
      ⟨(some 6), .mov (.t 12), none⟩] (some [0, 1, 5, 6]) none)))
def spec_l02Marks_M : MC :=
  (.seq (.reg none [
      ⟨(some 4), .mov (.c (.str ⟨[].toArray⟩)), none⟩] (some [0, 1]) none)
    (.seq (.reg none [
      ⟨(some 5), .mov (.c (.str ⟨[].toArray⟩)), none⟩] (some [0, 1, 5]) none)
    (.seq (.seq (.reg none [
      ⟨(some 6), .mov (.c (.int .i64 0)), none⟩] (some [0, 1, 5, 6]) none)
    (.block 0 (.loop spec_l02Marks_L0)))
    (.seq (.reg none [
      ⟨(some 23), .mov (.t 5), none⟩,
      ⟨(some 4), .mov (.t 23), none⟩] (some [4]) none)
    .ret))))
def spec_l02Marks_F : MF := ⟨24, [.t 4], spec_l02Marks_M⟩
theorem spec_l02Marks_ok : OkF Try.prog 24 spec_l02Marks_F Try.f24 (bodyOf Try.f24) := ⟨Try.func24, by kernel_rfl, by kernel_rfl, by kernel_rfl, by kernel_rfl⟩
-- loop.example/g01312/impl.isParts
def impl_isParts_M : MC :=
  (.seq (.reg none [
      ⟨(some 2), .mov (.c (.bool false)), none⟩] (some [0]) none)
    (.seq (.reg none [
      ⟨(some 3), .mov (.t 0), none⟩,
      ⟨(some 4), .call 19 [(.t 3), (.c (.int .i64 1)), (.c (.int .i64 8))], none⟩,
      ⟨(some 2), .mov (.t 4), none⟩] (some [2]) none)
    .ret))
def impl_isParts_F : MF := ⟨5, [.t 2], impl_isParts_M⟩
theorem impl_isParts_ok : OkF Try.prog 25 impl_isParts_F Try.f25 (bodyOf Try.f25) := ⟨Try.func25, by kernel_rfl, by kernel_rfl, by kernel_rfl, by kernel_rfl⟩
-- loop.example/g01312/impl.mask
def impl_mask_M : MC :=
  (.seq (.reg none [
      ⟨(some 2), .mov (.c (.int .u8 0)), none⟩] (some [0]) none)
    (.seq (.reg none [
      ⟨(some 3), .mov (.t 0), none⟩,
      ⟨(some 4), .bin .shl (.c (.int .u8 1)) (.t 3), none⟩,
      ⟨(some 5), .bin .sub (.t 4) (.c (.int .u8 1)), none⟩,
      ⟨(some 2), .mov (.t 5), none⟩] (some [2]) none)
    .ret))
def impl_mask_F : MF := ⟨6, [.t 2], impl_mask_M⟩
theorem impl_mask_ok : OkF Try.prog 26 impl_mask_F Try.f26 (bodyOf Try.f26) := ⟨Try.func26, by kernel_rfl, by kernel_rfl, by kernel_rfl, by kernel_rfl⟩
-- loop.example/g01312/impl.schemeText$1
def impl_schemeText_1_L0 : MC :=
  (.seq (.reg none [
      ⟨(some 8), .bin .lss (.t 7) (.t 6), none⟩] (some [0, 2, 6, 7, 8]) none)
    (.seq (.cond (.t 8) .skip
    (.exit 0))
    (.seq (.block 1 (.seq (.reg none [
      ⟨(some 9), .mov (.t 7), none⟩,
      ⟨(some 4), .mov (.t 9), none⟩] (some [0, 2, 4, 6, 7]) none)
    (.reg none [
      ⟨(some 10), .mov (.t 0), none⟩,
      ⟨(some 11), .mov (.t 4), none⟩,
      ⟨(some 12), .bin .shr (.t 10) (.t 11), none⟩,
      ⟨(some 13), .bin .and (.t 12) (.c (.int .u8 1)), none⟩,
      ⟨(some 14), .bin .eql (.t 13) (.c (.int .u8 1)), none⟩,
      ⟨(some 15), .call 29 [(.t 14)], none⟩,
      ⟨(some 16), .call 28 [(.t 2), (.t 15)], none⟩] (some [0, 2, 6, 7]) none)))
    (.reg none [
      ⟨(some 17), .bin .add (.t 7) (.c (.int .i8 1)), none⟩,
      ⟨(some 7), .mov (.t 17), none⟩] (some [0, 2, 6, 7]) none))))
def impl_schemeText_1_M : MC :=
  (.seq (.reg none [
      ⟨(some 5), .fa 1 (.t 1), none⟩,
      ⟨(some 6), .load none (.t 5), none⟩,
      ⟨(some 7), .mov (.c (.int .i8 0)), none⟩] (some [0, 2, 6, 7]) none)
    (.block 0 (.loop impl_schemeText_1_L0)))
def impl_schemeText_1_F : MF := ⟨18, [], impl_schemeText_1_M⟩
-- NOT COMPILED 28 (*strings.Builder).WriteByte
theorem impl_schemeText_1_ok : OkF Try.prog 27 impl_schemeText_1_F Try.f27 (bodyOf Try.f27) := ⟨Try.func27, by kernel_rfl, by kernel_rfl, by kernel_rfl, by kernel_rfl⟩
-- loop.example/g01312/impl.sign
def impl_sign_M : MC :=
  (.seq (.reg none [
      ⟨(some 2), .mov (.c (.int .u8 0)), none⟩] (some [0]) none)
    (.seq (.seq (.reg none [
      ⟨(some 3), .mov (.t 0), none⟩] (some [3]) none)
    (.cond (.t 3) (.seq (.reg none [
      ⟨(some 2), .mov (.c (.int .u8 35)), none⟩] (some [2]) none)
    .ret)
    .skip))
    (.seq (.reg none [
      ⟨(some 2), .mov (.c (.int .u8 46)), none⟩] (some [2]) none)
    .ret)))
def impl_sign_F : MF := ⟨4, [.t 2], impl_sign_M⟩
-- NOT COMPILED 30 (*strings.Builder).String
theorem impl_sign_ok : OkF Try.prog 29 impl_sign_F Try.f29 (bodyOf Try.f29) := ⟨Try.func29, by kernel_rfl, by kernel_rfl, by kernel_rfl, by kernel_rfl⟩
-- math/bits.OnesCount32
def math_bits_OnesCount32_M : MC :=
  (.seq (.reg none [
      ⟨(some 2), .mov (.c (.int .i64 0)), none⟩] (some [0]) none)
    (.seq (.reg (some []) [
      ⟨(some 3), .mov (.t 0), none⟩,
      ⟨(some 4), .bin .shr (.t 3) (.c (.int .u64 24)), none⟩,
      ⟨(some 5), .ixS (.c (.str ⟨[0, 1, 1, 2, 1, 2, 2, 3, 1, 2, 2, 3, 2, 3, 3, 4, 1, 2, 2, 3, 2, 3, 3, 4, 2, 3, 3, 4, 3, 4, 4, 5, 1, 2, 2, 3, 2, 3, 3, 4, 2, 3, 3, 4, 3, 4, 4, 5, 2, 3, 3, 4, 3, 4, 4, 5, 3, 4, 4, 5, 4, 5, 5, 6, 1, 2, 2, 3, 2, 3, 3, 4, 2, 3, 3, 4, 3, 4, 4, 5, 2, 3, 3, 4, 3, 4, 4, 5, 3, 4, 4, 5, 4, 5, 5, 6, 2, 3, 3, 4, 3, 4, 4, 5, 3, 4, 4, 5, 4, 5, 5, 6, 3, 4, 4, 5, 4, 5, 5, 6, 4, 5, 5, 6, 5, 6, 6, 7, 1, 2, 2, 3, 2, 3, 3, 4, 2, 3, 3, 4, 3, 4, 4, 5, 2, 3, 3, 4, 3, 4, 4, 5, 3, 4, 4, 5, 4, 5, 5, 6, 2, 3, 3, 4, 3, 4, 4, 5, 3, 4, 4, 5, 4, 5, 5, 6, 3, 4, 4, 5, 4, 5, 5, 6, 4, 5, 5, 6, 5, 6, 6, 7, 2, 3, 3, 4, 3, 4, 4, 5, 3, 4, 4, 5, 4, 5, 5, 6, 3, 4, 4, 5, 4, 5, 5, 6, 4, 5, 5, 6, 5, 6, 6, 7, 3, 4, 4, 5, 4, 5, 5, 6, 4, 5, 5, 6, 5, 6, 6, 7, 4, 5, 5, 6, 5, 6, 6, 7, 5, 6, 6, 7, 6, 7, 7, 8].toArray⟩)) (.t 4), none⟩,
      ⟨(some 6), .mov (.t 0), none⟩,
      ⟨(some 7), .bin .shr (.t 6) (.c (.int .u64 16)), none⟩,
      ⟨(some 8), .bin .and (.t 7) (.c (.int .u32 255)), none⟩,
      ⟨(some 9), .ixS (.c (.str ⟨[0, 1, 1, 2, 1, 2, 2, 3, 1, 2, 2, 3, 2, 3, 3, 4, 1, 2, 2, 3, 2, 3, 3, 4, 2, 3, 3, 4, 3, 4, 4, 5, 1, 2, 2, 3, 2, 3, 3, 4, 2, 3, 3, 4, 3, 4, 4, 5, 2, 3, 3, 4, 3, 4, 4, 5, 3, 4, 4, 5, 4, 5, 5, 6, 1, 2, 2, 3, 2, 3, 3, 4, 2, 3, 3, 4, 3, 4, 4, 5, 2, 3, 3, 4, 3, 4, 4, 5, 3, 4, 4, 5, 4, 5, 5, 6, 2, 3, 3, 4, 3, 4, 4, 5, 3, 4, 4, 5, 4, 5, 5, 6, 3, 4, 4, 5, 4, 5, 5, 6, 4, 5, 5, 6, 5, 6, 6, 7, 1, 2, 2, 3, 2, 3, 3, 4, 2, 3, 3, 4, 3, 4, 4, 5, 2, 3, 3, 4, 3, 4, 4, 5, 3, 4, 4, 5, 4, 5, 5, 6, 2, 3, 3, 4, 3, 4, 4, 5, 3, 4, 4, 5, 4, 5, 5, 6, 3, 4, 4, 5, 4, 5, 5, 6, 4, 5, 5, 6, 5, 6, 6, 7, 2, 3, 3, 4, 3, 4, 4, 5, 3, 4, 4, 5, 4, 5, 5, 6, 3, 4, 4, 5, 4, 5, 5, 6, 4, 5, 5, 6, 5, 6, 6, 7, 3, 4, 4, 5, 4, 5, 5, 6, 4, 5, 5, 6, 5, 6, 6, 7, 4, 5, 5, 6, 5, 6, 6, 7, 5, 6, 6, 7, 6, 7, 7, 8].toArray⟩)) (.t 8), none⟩,
      ⟨(some 10), .bin .add (.t 5) (.t 9), none⟩,
      ⟨(some 11), .mov (.t 0), none⟩,
      ⟨(some 12), .bin .shr (.t 11) (.c (.int .u64 8)), none⟩,
      ⟨(some 13), .bin .and (.t 12) (.c (.int .u32 255)), none⟩,
      ⟨(some 14), .ixS (.c (.str ⟨[0, 1, 1, 2, 1, 2, 2, 3, 1, 2, 2, 3, 2, 3, 3, 4, 1, 2, 2, 3, 2, 3, 3, 4, 2, 3, 3, 4, 3, 4, 4, 5, 1, 2, 2, 3, 2, 3, 3, 4, 2, 3, 3, 4, 3, 4, 4, 5, 2, 3, 3, 4, 3, 4, 4, 5, 3, 4, 4, 5, 4, 5, 5, 6, 1, 2, 2, 3, 2, 3, 3, 4, 2, 3, 3, 4, 3, 4, 4, 5, 2, 3, 3, 4, 3, 4, 4, 5, 3, 4, 4, 5, 4, 5, 5, 6, 2, 3, 3, 4, 3, 4, 4, 5, 3, 4, 4, 5, 4, 5, 5, 6, 3, 4, 4, 5, 4, 5, 5, 6, 4, 5, 5, 6, 5, 6, 6, 7, 1, 2, 2, 3, 2, 3, 3, 4, 2, 3, 3, 4, 3, 4, 4, 5, 2, 3, 3, 4, 3, 4, 4, 5, 3, 4, 4, 5, 4, 5, 5, 6, 2, 3, 3, 4, 3, 4, 4, 5, 3, 4, 4, 5, 4, 5, 5, 6, 3, 4, 4, 5, 4, 5, 5, 6, 4, 5, 5, 6, 5, 6, 6, 7, 2, 3, 3, 4, 3, 4, 4, 5, 3, 4, 4, 5, 4, 5, 5, 6, 3, 4, 4, 5, 4, 5, 5, 6, 4, 5, 5, 6, 5, 6, 6, 7, 3, 4, 4, 5, 4, 5, 5, 6, 4, 5, 5, 6, 5, 6, 6, 7, 4, 5, 5, 6, 5, 6, 6, 7, 5, 6, 6, 7, 6, 7, 7, 8].toArray⟩)) (.t 13), none⟩,
      ⟨(some 15), .bin .add (.t 10) (.t 14), none⟩,
      ⟨(some 16), .mov (.t 0), none⟩,
      ⟨(some 17), .bin .and (.t 16) (.c (.int .u32 255)), none⟩,
      ⟨(some 18), .ixS (.c (.str ⟨[0, 1, 1, 2, 1, 2, 2, 3, 1, 2, 2, 3, 2, 3, 3, 4, 1, 2, 2, 3, 2, 3, 3, 4, 2, 3, 3, 4, 3, 4, 4, 5, 1, 2, 2, 3, 2, 3, 3, 4, 2, 3, 3, 4, 3, 4, 4, 5, 2, 3, 3, 4, 3, 4, 4, 5, 3, 4, 4, 5, 4, 5, 5, 6, 1, 2, 2, 3, 2, 3, 3, 4, 2, 3, 3, 4, 3, 4, 4, 5, 2, 3, 3, 4, 3, 4, 4, 5, 3, 4, 4, 5, 4, 5, 5, 6, 2, 3, 3, 4, 3, 4, 4, 5, 3, 4, 4, 5, 4, 5, 5, 6, 3, 4, 4, 5, 4, 5, 5, 6, 4, 5, 5, 6, 5, 6, 6, 7, 1, 2, 2, 3, 2, 3, 3, 4, 2, 3, 3, 4, 3, 4, 4, 5, 2, 3, 3, 4, 3, 4, 4, 5, 3, 4, 4, 5, 4, 5, 5, 6, 2, 3, 3, 4, 3, 4, 4, 5, 3, 4, 4, 5, 4, 5, 5, 6, 3, 4, 4, 5, 4, 5, 5, 6, 4, 5, 5, 6, 5, 6, 6, 7, 2, 3, 3, 4, 3, 4, 4, 5, 3, 4, 4, 5, 4, 5, 5, 6, 3, 4, 4, 5, 4, 5, 5, 6, 4, 5, 5, 6, 5, 6, 6, 7, 3, 4, 4, 5, 4, 5, 5, 6, 4, 5, 5, 6, 5, 6, 6, 7, 4, 5, 5, 6, 5, 6, 6, 7, 5, 6, 6, 7, 6, 7, 7, 8].toArray⟩)) (.t 17), none⟩,
      ⟨(some 19), .bin .add (.t 15) (.t 18), none⟩,
      ⟨(some 20), .conv .i64 (.t 19), none⟩,
      ⟨(some 2), .mov (.t 20), none⟩] (some [2]) none)
    .ret))
def math_bits_OnesCount32_F : MF := ⟨21, [.t 2], math_bits_OnesCount32_M⟩
theorem math_bits_OnesCount32_ok : OkF Try.prog 31 math_bits_OnesCount32_F Try.f31 (bodyOf Try.f31) := ⟨Try.func31, by kernel_rfl, by kernel_rfl, by kernel_rfl, by kernel_rfl⟩
-- math/bits.OnesCount64
def math_bits_OnesCount64_M : MC :=
  (.seq (.reg none [
      ⟨(some 2), .mov (.c (.int .i64 0)), none⟩] (some [0]) none)
    (.seq (.reg none [
      ⟨(some 3), .mov (.t 0), none⟩,
      ⟨(some 4), .bin .shr (.t 3) (.c (.int .u64 1)), none⟩,
      ⟨(some 5), .bin .and (.t 4) (.c (.int .u64 6148914691236517205)), none⟩,
      ⟨(some 6), .mov (.t 0), none⟩,
      ⟨(some 7), .bin .and (.t 6) (.c (.int .u64 6148914691236517205)), none⟩,
      ⟨(some 8), .bin .add (.t 5) (.t 7), none⟩,
      ⟨(some 0), .mov (.t 8), none⟩] (some [0]) none)
    (.seq (.reg none [
      ⟨(some 9), .mov (.t 0), none⟩,
      ⟨(some 10), .bin .shr (.t 9) (.c (.int .u64 2)), none⟩,
      ⟨(some 11), .bin .and (.t 10) (.c (.int .u64 3689348814741910323)), none⟩,
      ⟨(some 12), .mov (.t 0), none⟩,
      ⟨(some 13), .bin .and (.t 12) (.c (.int .u64 3689348814741910323)), none⟩,
      ⟨(some 14), .bin .add (.t 11) (.t 13), none⟩,
      ⟨(some 0), .mov (.t 14), none⟩] (some [0]) none)
    (.seq (.reg none [
      ⟨(some 15), .mov (.t 0), none⟩,
      ⟨(some 16), .bin .shr (.t 15) (.c (.int .u64 4)), none⟩,
      ⟨(some 17), .mov (.t 0), none⟩,
      ⟨(some 18), .bin .add (.t 16) (.t 17), none⟩,
      ⟨(some 19), .bin .and (.t 18) (.c (.int .u64 1085102592571150095)), none⟩,
      ⟨(some 0), .mov (.t 19), none⟩] (some [0]) none)
    (.seq (.reg none [
      ⟨(some 20), .mov (.t 0), none⟩,
      ⟨(some 21), .mov (.t 0), none⟩,
      ⟨(some 22), .bin .shr (.t 21) (.c (.int .u64 8)), none⟩,
      ⟨(some 23), .bin .add (.t 20) (.t 22), none⟩,
      ⟨(some 0), .mov (.t 23), none⟩] (some [0]) none)
    (.seq (.reg none [
      ⟨(some 24), .mov (.t 0), none⟩,
      ⟨(some 25), .mov (.t 0), none⟩,
      ⟨(some 26), .bin .shr (.t 25) (.c (.int .u64 16)), none⟩,
      ⟨(some 27), .bin .add (.t 24) (.t 26), none⟩,
      ⟨(some 0), .mov (.t 27), none⟩] (some [0]) none)
    (.seq (.reg none [
      ⟨(some 28), .mov (.t 0), none⟩,
      ⟨(some 29), .mov (.t 0), none⟩,
      ⟨(some 30), .bin .shr (.t 29) (.c (.int .u64 32)), none⟩,
      ⟨(some 31), .bin .add (.t 28) (.t 30), none⟩,
      ⟨(some 0), .mov (.t 31), none⟩] (some [0]) none)
    (.seq (.reg none [
      ⟨(some 32), .mov (.t 0), none⟩,
      ⟨(some 33), .conv .i64 (.t 32), none⟩,
      ⟨(some 34), .bin .and (.t 33) (.c (.int .i64 127)), none⟩,
      ⟨(some 2), .mov (.t 34), none⟩] (some [2]) none)
    .ret))))))))
def math_bits_OnesCount64_F : MF := ⟨35, [.t 2], math_bits_OnesCount64_M⟩
theorem math_bits_OnesCount64_ok : OkF Try.prog 32 math_bits_OnesCount64_F Try.f32 (bodyOf Try.f32) := ⟨Try.func32, by kernel_rfl, by kernel_rfl, by kernel_rfl, by kernel_rfl⟩
-- (*loop.example/g01312/impl.Scheme).rows
def impl_Scheme_rows_M : MC :=
  (.seq (.reg none [
      ⟨(some 4), .mov (.c (.nilptr)), none⟩] (some [0, 1]) none)
    (.seq (.seq (.reg none [
      ⟨(some 5), .mov (.t 1), none⟩] (some [0, 5]) none)
    (.cond (.t 5) (.seq (.reg none [
      ⟨(some 6), .mov (.t 0), none⟩,
      ⟨(some 7), .nilc (.t 6), none⟩,
      ⟨(some 8), .fa 8 (.t 7), none⟩,
      ⟨(some 4), .mov (.t 8), none⟩] (some [4]) none)
    .ret)
    .skip))
    (.seq (.reg none [
      ⟨(some 9), .mov (.t 0), none⟩,
      ⟨(some 10), .nilc (.t 9), none⟩,
      ⟨(some 11), .fa 2 (.t 10), none⟩,
      ⟨(some 4), .mov (.t 11), none⟩] (some [4]) none)
    .ret)))
def impl_Scheme_rows_F : MF := ⟨12, [.t 4], impl_Scheme_rows_M⟩
-- NOT COMPILED 34 (*strings.Builder).copyCheck
theorem impl_Scheme_rows_ok : OkF Try.prog 33 impl_Scheme_rows_F Try.f33 (bodyOf Try.f33) := ⟨Try.func33, by kernel_rfl, by kernel_rfl, by kernel_rfl, by kernel_rfl⟩
end Go.Proofs.Ytpajbcifaicpoaa
