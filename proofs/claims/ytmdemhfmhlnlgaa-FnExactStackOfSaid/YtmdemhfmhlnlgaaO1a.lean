/- A part of the proof library: names for blocks of memory, a small form of the code, and rules for walks over it. -/
import Derived.Test.YtmdemhfmhlnlgaaS1a
import Derived.Test.YtmdemhfmhlnlgaaC6a
set_option linter.all false
namespace Go.Proofs.Ytmdemhfmhlnlgaa
open Go.Ab
set_option maxHeartbeats 800000

theorem toInt8S_ct (n off : Nat) (hn : n ≤ 1048576) (F : Nat → Int) (cs : List V) (hcs : ∀ i, i < n → cs[off + i]? = some (.int .i8 (F i))) (hpu : puL cs) (ro : Bool) : Ct Try.prog ro 32 [.slx (.e 0) off n] [cs] fun v E' L' => v = .slx (.l 0) 0 n ∧ E' = [cs] ∧ L' = [arr .i8 n F] := by
  refine ct_of laws_toInt8S_ok ?_
  have hz : zrow [V.int .i8 0] n = arr .i8 n fun _ => 0 := by
    simp [zrow, arr, tab, Nat.mod_one]
  simp [laws_toInt8S_F, laws_toInt8S_M, show (n : Int) ≤ 9223372036854775807 by omega, show (n : Int) ≤ 281474976710656 by omega, hz]
  refine wp_for n (fun k => ⟨[(0, .slx (.e 0) off n), (3, .sl (.l 0) 0 n n), (4, .int .i64 k)], [arr .i8 n fun i => if i < k then F i else 0], [cs]⟩) ?_ ?_ ?_
  · simp
  · intro k hk
    have hk1 : (k : Int) < n := by omega
    have hwk : IntKind.i64.wrap ((k : Int) + 1) = k + 1 := wrap_i64 (by omega) (by omega)
    simp [laws_toInt8S_L0, hk1, hk]
    simp [hcs k hk]
    simp [hwk, hk, arr_set, show k + 1 ≤ n from hk]
    exact arr_congr fun i _ => by by_cases e : i = k <;> by_cases e2 : i < k <;> simp [e, e2] <;> omega
  · have he : (arr .i8 n fun i => if i < n then F i else 0) = arr .i8 n F := arr_congr fun i hi => by simp [hi]
    simp [laws_toInt8S_L0, he]
    exact ret_new 0 (c := arr .i8 n F) (v' := .slx (.l 0) 0 n) (.inr (by simp [V.hid, kmap])) (by simp) ⟨[], by simp⟩ (by simp) (by simpa using hpu) (by simp)
theorem toInt8SNil_ct (ro : Bool) : Ct Try.prog ro 32 [.nilsl] [] fun v E' L' => v = .slx (.l 0) 0 0 ∧ E' = [] ∧ L' = [arr .i8 0 fun _ => 0] := by
  refine ct_of laws_toInt8S_ok ?_
  have hz : zrow [V.int .i8 0] 0 = arr .i8 0 fun _ => 0 := by
    simp [zrow, arr, tab]
  simp [laws_toInt8S_F, laws_toInt8S_M, hz]
  refine wp_for 0 (fun k => ⟨[(0, .nilsl), (3, .sl (.l 0) 0 0 0), (4, .int .i64 k)], [arr .i8 0 fun _ => 0], []⟩) ?_ ?_ ?_
  · simp
  · intro k hk; omega
  · simp [laws_toInt8S_L0]
    exact ret_new 0 (c := arr .i8 0 fun _ => 0) (v' := .slx (.l 0) 0 0) (.inr (by simp [V.hid, kmap])) (by simp) ⟨[], by simp⟩ (by simp) (by simp) (by simp)

/-- The numbers met among the first k. -/
def ordM (F : Nat → Int) : Nat → Nat
  | 0 => 0
  | k + 1 => ordM F k ||| (2 ^ (F k).toNat % 18446744073709551616)
theorem ordM_lt (F : Nat → Int) : ∀ k, ordM F k < 18446744073709551616
  | 0 => by simp [ordM]
  | k + 1 => or_lt64 (ordM_lt F k) (Nat.mod_lt _ (by decide))
def ordG (F : Nat → Int) (n : Int) (k : Nat) : Prop := 0 ≤ F k ∧ F k < n ∧ (ordM F k).testBit (F k).toNat = false
/-- The numbers are an order of the first n. -/
def OrdP (F : Nat → Int) (len : Nat) (n : Int) : Prop := (∀ k, k < len → ordG F n k) ∧ (len : Int) = n
open Classical in
noncomputable def ordB (F : Nat → Int) (len : Nat) (n : Int) : Bool := decide (OrdP F len n)
theorem ordB_iff {F : Nat → Int} {len : Nat} {n : Int} : ordB F len n = true ↔ OrdP F len n := by simp [ordB]

theorem isOrder_ct (len : Nat) (hl : len ≤ 1048576) (F : Nat → Int) (hF : ∀ i, -128 ≤ F i ∧ F i < 128) (n : Int) (hn : -128 ≤ n ∧ n < 128) (ro : Bool) : Ct Try.prog ro 72 [.slx (.e 0) 0 len, .int .i8 n] [arr .i8 len F] fun v E' L' => v = .bool (ordB F len n) ∧ E' = [arr .i8 len F] ∧ L' = [] := by
  refine ct_of impl_isOrder_ok ?_
  simp [impl_isOrder_F, impl_isOrder_M]
  refine wp_forR len (fun k => ⟨[(0, .slx (.e 0) 0 len), (1, .int .i8 n), (5, .int .u64 (ordM F k)), (8, .slx (.e 0) 0 len), (9, .int .i64 len), (10, .int .i64 k)], [], [arr .i8 len F]⟩) (ordG F n) ?_ ?_ ?_
  · rintro k hk ⟨g1, g2, g3⟩
    have hk1 : (k : Int) < len := by omega
    have hwk : IntKind.i64.wrap ((k : Int) + 1) = k + 1 := wrap_i64 (by omega) (by omega)
    obtain ⟨q, hq⟩ := Int.eq_ofNat_of_zero_le g1
    have hnext : ordM F (k + 1) = ordM F k ||| (2 ^ (F k).toNat % 18446744073709551616) := rfl
    have hml := ordM_lt F k
    rw [hnext]
    rw [hq, Int.toNat_natCast] at g3 ⊢
    rw [hq] at g2
    have hbit := bit64_f hml g3
    have hsh : shlI .u64 1 (q : Int) = ((2 ^ q % 18446744073709551616 : Nat) : Int) := by
      have := shl64 (a := 1) (n := q); rw [Nat.one_mul] at this; exact this
    have hor := or64 (a := ordM F k) (b := 2 ^ q % 18446744073709551616) hml (Nat.mod_lt _ (by decide))
    generalize ordM F k = m at *
    generalize 2 ^ q % 18446744073709551616 = e at *
    have hnq : ¬ n ≤ (q : Int) := by omega
    simp [impl_isOrder_L0, hk1, hk, hq]
    simp [hnq, hbit, g2]
    simp [hsh, hor, hwk]
  · rintro k hk hg _
    have hk1 : (k : Int) < len := by omega
    have hno : ordB F len n = false := Bool.eq_false_iff.2 fun h => hg ((ordB_iff.1 h).1 k hk)
    rw [hno]
    by_cases g1 : F k < 0
    · simp [impl_isOrder_L0, hk1, hk]
      simp [g1]
      exact ret_pu (by simp) (by simp) (by simp)
    · by_cases g2 : n ≤ F k
      · simp [impl_isOrder_L0, hk1, hk]
        simp [Int.not_lt.1 g1, g2]
        exact ret_pu (by simp) (by simp) (by simp)
      · have g3 : (ordM F k).testBit (F k).toNat = true := by
          cases h : (ordM F k).testBit (F k).toNat
          · exact absurd ⟨by omega, by omega, h⟩ hg
          · rfl
        obtain ⟨q, hq⟩ := Int.eq_ofNat_of_zero_le (show 0 ≤ F k by omega)
        have hml := ordM_lt F k
        rw [hq, Int.toNat_natCast] at g3
        have hbit := bit64_t hml g3
        generalize ordM F k = m at *
        have hnq : ¬ n ≤ (q : Int) := by omega
        simp [impl_isOrder_L0, hk1, hk, hq]
        simp [Int.not_le.1 hnq, hbit]
        exact ret_pu (by simp) (by simp) (by simp)
  · intro hall
    have hwn : IntKind.i64.wrap n = n := wrap_i64 (by omega) (by omega)
    have hd : decide ((len : Int) = n) = ordB F len n := by
      by_cases h : (len : Int) = n
      · rw [ordB_iff.2 ⟨hall, h⟩]; simp [h]
      · rw [Bool.eq_false_iff.2 fun h2 => h (ordB_iff.1 h2).2]; simp [h]
    rw [← hd]
    simp [impl_isOrder_L0, hwn]
    exact ret_pu (by simp) (by simp) (by simp)

theorem l01Order_ct (len : Nat) (hl : len ≤ 1048576) (F : Nat → Int) (hF : ∀ i, -128 ≤ F i ∧ F i < 128) (n : Int) (hn : -128 ≤ n ∧ n < 128) (ro : Bool) : Ct Try.prog ro 68 [.slx (.e 0) 0 len, .int .i64 n] [arr .i8 len F] fun v E' L' => v = .bool (ordB F len n) ∧ E' = [arr .i8 len F] ∧ L' = [] := by
  have hwn : IntKind.i64.wrap (n - 1) = n - 1 := wrap_i64 (by omega) (by omega)
  refine ct_of spec_l01Order_ok ?_
  simp [spec_l01Order_F, spec_l01Order_M]
  refine wp_forR len (fun k => ⟨[(0, .slx (.e 0) 0 len), (1, .int .i64 n), (5, .int .u64 (ordM F k)), (6, .int .i64 k)], [], [arr .i8 len F]⟩) (ordG F n) ?_ ?_ ?_
  · rintro k hk ⟨g1, g2, g3⟩
    have hk1 : (k : Int) < len := by omega
    have hwk : IntKind.i64.wrap ((k : Int) + 1) = k + 1 := wrap_i64 (by omega) (by omega)
    obtain ⟨q, hq⟩ := Int.eq_ofNat_of_zero_le g1
    have hnext : ordM F (k + 1) = ordM F k ||| (2 ^ (F k).toNat % 18446744073709551616) := rfl
    have hml := ordM_lt F k
    have hF8 := (hF k).2
    rw [hnext]
    rw [hq, Int.toNat_natCast] at g3 ⊢
    rw [hq] at g2
    have hbit := bit64_f hml g3
    have hsh : shlI .u64 1 (q : Int) = ((2 ^ q % 18446744073709551616 : Nat) : Int) := by
      have := shl64 (a := 1) (n := q); rw [Nat.one_mul] at this; exact this
    have hor := or64 (a := ordM F k) (b := 2 ^ q % 18446744073709551616) hml (Nat.mod_lt _ (by decide))
    generalize ordM F k = m at *
    generalize 2 ^ q % 18446744073709551616 = e at *
    have hw64 : IntKind.i64.wrap (q : Int) = q := wrap_i64 (by omega) (by omega)
    have hwu : IntKind.u64.wrap (q : Int) = q := wrap_u64 (by omega) (by omega)
    have hin := l00In_pc (q : Int) 0 (n - 1)
    have hd : decide (0 ≤ (q : Int) ∧ (q : Int) ≤ n - 1) = true := by simp; omega
    rw [hd] at hin
    simp [spec_l01Order_L0, hk1, hk, hq]
    simp [hw64, hwn]
    refine call_pc hin (by simp) (by simp) ?_
    simp [hk, hk1, hq]
    simp [hwu, hbit]
    simp [hk, hk1, hq]
    simp [hwu, hsh, hor]
    simp [hwk]
  · rintro k hk hg _
    have hk1 : (k : Int) < len := by omega
    have hno : ordB F len n = false := Bool.eq_false_iff.2 fun h => hg ((ordB_iff.1 h).1 k hk)
    rw [hno]
    have hF8 := hF k
    have hw64 : IntKind.i64.wrap (F k) = F k := wrap_i64 (by omega) (by omega)
    by_cases g1 : 0 ≤ F k ∧ F k ≤ n - 1
    · have g3 : (ordM F k).testBit (F k).toNat = true := by
        cases h : (ordM F k).testBit (F k).toNat
        · exact absurd ⟨by omega, by omega, h⟩ hg
        · rfl
      have hin := l00In_pc (F k) 0 (n - 1)
      have hd : decide (0 ≤ F k ∧ F k ≤ n - 1) = true := by simp; omega
      rw [hd] at hin
      obtain ⟨q, hq⟩ := Int.eq_ofNat_of_zero_le (show 0 ≤ F k by omega)
      have hml := ordM_lt F k
      rw [hq, Int.toNat_natCast] at g3
      rw [hq] at hin hw64
      have hbit := bit64_t hml g3
      generalize ordM F k = m at *
      have hwu : IntKind.u64.wrap (q : Int) = q := wrap_u64 (by omega) (by omega)
      simp [spec_l01Order_L0, hk1, hk, hq]
      simp [hw64, hwn]
      refine call_pc hin (by simp) (by simp) ?_
      simp [hk, hk1, hq]
      simp [hwu, hbit]
      exact ret_pu (by simp) (by simp) (by simp)
    · have hin := l00In_pc (F k) 0 (n - 1)
      have hd : decide (0 ≤ F k ∧ F k ≤ n - 1) = false := by simp only [decide_eq_false_iff_not]; exact g1
      rw [hd] at hin
      simp [spec_l01Order_L0, hk1, hk]
      simp [hw64, hwn]
      refine call_pc hin (by simp) (by simp) ?_
      simp
      exact ret_pu (by simp) (by simp) (by simp)
  · intro hall
    have hd : decide ((len : Int) = n) = ordB F len n := by
      by_cases h : (len : Int) = n
      · rw [ordB_iff.2 ⟨hall, h⟩]; simp [h]
      · rw [Bool.eq_false_iff.2 fun h2 => h (ordB_iff.1 h2).2]; simp [h]
    rw [← hd]
    simp [spec_l01Order_L0]
    exact ret_pu (by simp) (by simp) (by simp)

end Go.Proofs.Ytmdemhfmhlnlgaa
