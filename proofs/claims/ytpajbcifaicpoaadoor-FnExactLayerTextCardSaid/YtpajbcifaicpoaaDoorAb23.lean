/- A part of the proof library: names for blocks of memory, a small form of the code, and rules for walks over it. -/
import Derived.Test.YtpajbcifaicpoaaDoorAb22
set_option linter.all false
namespace Go.Ab

/-! ### Operations on bits, at numbers that are no less than 0 -/

theorem ofInt_nat (n a : Nat) : BitVec.ofInt n (a : Int) = BitVec.ofNat n a := by simp

theorem wrap_unsigned {k : IntKind} (hk : k.signed = false) {n : Nat} (h : n < 2 ^ k.bits) : k.wrap (n : Int) = n := by
  unfold IntKind.wrap
  cases k <;> simp [IntKind.signed] at hk <;> simp [IntKind.signed, IntKind.bits] at * <;> omega

section
variable {k : IntKind} {a b : Nat}
theorem orI_u (hk : k.signed = false) (ha : a < 2 ^ k.bits) (hb : b < 2 ^ k.bits) : orI k a b = ((a ||| b : Nat) : Int) := by
  simp only [orI, ofInt_nat, BitVec.toNat_or, BitVec.toNat_ofNat, Nat.mod_eq_of_lt ha, Nat.mod_eq_of_lt hb]
  exact wrap_unsigned hk (Nat.or_lt_two_pow ha hb)
theorem andI_u (hk : k.signed = false) (ha : a < 2 ^ k.bits) (hb : b < 2 ^ k.bits) : andI k a b = ((a &&& b : Nat) : Int) := by
  simp only [andI, ofInt_nat, BitVec.toNat_and, BitVec.toNat_ofNat, Nat.mod_eq_of_lt ha, Nat.mod_eq_of_lt hb]
  exact wrap_unsigned hk (Nat.and_lt_two_pow _ hb)
theorem xorI_u (hk : k.signed = false) (ha : a < 2 ^ k.bits) (hb : b < 2 ^ k.bits) : xorI k a b = ((a ^^^ b : Nat) : Int) := by
  simp only [xorI, ofInt_nat, BitVec.toNat_xor, BitVec.toNat_ofNat, Nat.mod_eq_of_lt ha, Nat.mod_eq_of_lt hb]
  exact wrap_unsigned hk (Nat.xor_lt_two_pow ha hb)
/-- What stays of a without the bits of b. -/
def anc (a b : Nat) : Nat := a ^^^ (a &&& b)
theorem anc_testBit (a b i : Nat) : (anc a b).testBit i = (a.testBit i && !b.testBit i) := by
  simp only [anc, Nat.testBit_xor, Nat.testBit_and]; cases a.testBit i <;> cases b.testBit i <;> rfl
theorem anc_lt {n : Nat} (ha : a < 2 ^ n) : anc a b < 2 ^ n := Nat.xor_lt_two_pow ha (Nat.lt_of_le_of_lt Nat.and_le_left ha)
theorem ancI_u (hk : k.signed = false) (ha : a < 2 ^ k.bits) (hb : b < 2 ^ k.bits) : ancI k a b = ((anc a b : Nat) : Int) := by
  have : (BitVec.ofInt k.bits a &&& ~~~ BitVec.ofInt k.bits b).toNat = anc a b := by
    apply Nat.eq_of_testBit_eq
    intro i
    rw [ofInt_nat, ofInt_nat, anc_testBit, BitVec.testBit_toNat, BitVec.getLsbD_and, BitVec.getLsbD_not, BitVec.getLsbD_ofNat, BitVec.getLsbD_ofNat]
    by_cases h : i < k.bits
    · simp [h]
    · have : a.testBit i = false := Nat.testBit_lt_two_pow (Nat.lt_of_lt_of_le ha (Nat.pow_le_pow_right (by omega) (by omega)))
      simp [h, this]
  rw [ancI, this]
  exact wrap_unsigned hk (anc_lt ha)
theorem shlI_u (hk : k.signed = false) {n : Nat} : shlI k a n = ((a * 2 ^ n % 2 ^ k.bits : Nat) : Int) := by
  have e : a * 2 ^ n % 2 ^ k.bits = a * 2 ^ (min n k.bits) % 2 ^ k.bits := by
    rcases Nat.le_total n k.bits with h | h
    · rw [Nat.min_eq_left h]
    · rw [Nat.min_eq_right h, Nat.mul_mod_left]
      obtain ⟨m, rfl⟩ := Nat.exists_eq_add_of_le h
      rw [Nat.pow_add, Nat.mul_comm (2 ^ k.bits), ← Nat.mul_assoc, Nat.mul_mod_left]
  rw [e, shlI, Int.toNat_natCast]
  rw [show ((a : Int) * 2 ^ (min n k.bits)) = ((a * 2 ^ (min n k.bits) : Nat) : Int) by push_cast; rfl]
  cases k <;> simp [IntKind.signed] at hk <;> simp [IntKind.wrap, IntKind.signed, IntKind.bits]
theorem shlI_small (hk : k.signed = false) {n : Nat} (h : a * 2 ^ n < 2 ^ k.bits) : shlI k a n = ((a * 2 ^ n : Nat) : Int) := by
  rw [shlI_u hk, Nat.mod_eq_of_lt h]
theorem shrI_n (ha : a < 2 ^ k.bits) {n : Nat} : shrI k a n = ((a / 2 ^ n : Nat) : Int) := by
  have e : a / 2 ^ n = a / 2 ^ (min n k.bits) := by
    rcases Nat.le_total n k.bits with h | h
    · rw [Nat.min_eq_left h]
    · rw [Nat.min_eq_right h, Nat.div_eq_of_lt ha, Nat.div_eq_of_lt (Nat.lt_of_lt_of_le ha (Nat.pow_le_pow_right (by omega) h))]
  rw [e, shrI, Int.toNat_natCast]
  rw [Int.fdiv_eq_ediv_of_nonneg _ (Int.pow_nonneg (by decide))]
  push_cast
  rfl
end

section
variable {a b n : Nat}
theorem or8 (ha : a < 256) (hb : b < 256) : orI .u8 a b = ((a ||| b : Nat) : Int) := orI_u rfl ha hb
theorem and8 (ha : a < 256) (hb : b < 256) : andI .u8 a b = ((a &&& b : Nat) : Int) := andI_u rfl ha hb
theorem xor8 (ha : a < 256) (hb : b < 256) : xorI .u8 a b = ((a ^^^ b : Nat) : Int) := xorI_u rfl ha hb
theorem anc8 (ha : a < 256) (hb : b < 256) : ancI .u8 a b = ((anc a b : Nat) : Int) := ancI_u rfl ha hb
theorem shl8 : shlI .u8 a n = ((a * 2 ^ n % 256 : Nat) : Int) := shlI_u rfl
theorem shr8 (ha : a < 256) : shrI .u8 a n = ((a / 2 ^ n : Nat) : Int) := shrI_n ha
theorem or64 (ha : a < 18446744073709551616) (hb : b < 18446744073709551616) : orI .u64 a b = ((a ||| b : Nat) : Int) := orI_u rfl ha hb
theorem and64 (ha : a < 18446744073709551616) (hb : b < 18446744073709551616) : andI .u64 a b = ((a &&& b : Nat) : Int) := andI_u rfl ha hb
theorem xor64 (ha : a < 18446744073709551616) (hb : b < 18446744073709551616) : xorI .u64 a b = ((a ^^^ b : Nat) : Int) := xorI_u rfl ha hb
theorem anc64 (ha : a < 18446744073709551616) (hb : b < 18446744073709551616) : ancI .u64 a b = ((anc a b : Nat) : Int) := ancI_u rfl ha hb
theorem shl64 : shlI .u64 a n = ((a * 2 ^ n % 18446744073709551616 : Nat) : Int) := shlI_u rfl
theorem shr64 (ha : a < 18446744073709551616) : shrI .u64 a n = ((a / 2 ^ n : Nat) : Int) := shrI_n ha
theorem and8_one (ha : a < 256) : andI .u8 a 1 = ((a % 2 : Nat) : Int) := by
  rw [show (1 : Int) = ((1 : Nat) : Int) from rfl, and8 ha (by decide), Nat.and_one_is_mod]
theorem and64_one (ha : a < 18446744073709551616) : andI .u64 a 1 = ((a % 2 : Nat) : Int) := by
  rw [show (1 : Int) = ((1 : Nat) : Int) from rfl, and64 ha (by decide), Nat.and_one_is_mod]
theorem shl64_one {n : Nat} (h : n < 64) : shlI .u64 1 n = ((2 ^ n : Nat) : Int) := by
  rw [show (1 : Int) = ((1 : Nat) : Int) from rfl, shlI_small rfl (by rw [Nat.one_mul]; exact Nat.pow_lt_pow_right (by decide) h), Nat.one_mul]
theorem shl8_one {n : Nat} (h : n < 8) : shlI .u8 1 n = ((2 ^ n : Nat) : Int) := by
  rw [show (1 : Int) = ((1 : Nat) : Int) from rfl, shlI_small rfl (by rw [Nat.one_mul]; exact Nat.pow_lt_pow_right (by decide) h), Nat.one_mul]
theorem dec_bit {i : Nat} : decide (((a / 2 ^ i % 2 : Nat) : Int) = 1) = a.testBit i := by
  rw [Nat.testBit_eq_decide_div_mod_eq]; congr 1; exact propext ⟨fun h => by omega, fun h => by omega⟩
theorem bit_iff {i : Nat} : ((a : Int) / 2 ^ i % 2 = 1) ↔ a.testBit i = true := by
  rw [Nat.testBit_eq_decide_div_mod_eq, decide_eq_true_iff]
  have e : ((a / 2 ^ i % 2 : Nat) : Int) = (a : Int) / 2 ^ i % 2 := by push_cast; rfl
  rw [← e]; omega
theorem div_lt {n m : Nat} (ha : a < n) : a / m < n := Nat.lt_of_le_of_lt (Nat.div_le_self _ _) ha
theorem or_lt8 (ha : a < 256) (hb : b < 256) : a ||| b < 256 := Nat.or_lt_two_pow (n := 8) ha hb
theorem or_lt64 (ha : a < 18446744073709551616) (hb : b < 18446744073709551616) : a ||| b < 18446744073709551616 := Nat.or_lt_two_pow (n := 64) ha hb
end

/-- The number whose first n bits are as told. -/
def pic : Nat → (Nat → Bool) → Nat
  | 0, _ => 0
  | n + 1, F => pic n F ||| (if F n then 2 ^ n else 0)
theorem pic_lt (F : Nat → Bool) : ∀ n, pic n F < 2 ^ n
  | 0 => by simp [pic]
  | n + 1 => by
    rw [pic]
    refine Nat.or_lt_two_pow (Nat.lt_of_lt_of_le (pic_lt F n) (Nat.pow_le_pow_right (by decide) (by omega))) ?_
    split
    · exact Nat.pow_lt_pow_right (by decide) (by omega)
    · exact Nat.pow_pos (by decide)
theorem pic_lt64 (F : Nat → Bool) {n : Nat} (h : n ≤ 64) : pic n F < 18446744073709551616 := Nat.lt_of_lt_of_le (pic_lt F n) (show 2 ^ n ≤ 2 ^ 64 from Nat.pow_le_pow_right (by decide) h)
theorem pic_congr {F G : Nat → Bool} : ∀ {n : Nat}, (∀ i, i < n → F i = G i) → pic n F = pic n G
  | 0, _ => rfl
  | n + 1, h => by rw [pic, pic, pic_congr (fun i hi => h i (by omega)), h n (by omega)]
theorem pic_testBit (F : Nat → Bool) (i : Nat) : ∀ n, (pic n F).testBit i = (decide (i < n) && F i)
  | 0 => by simp [pic]
  | n + 1 => by
    rw [pic, Nat.testBit_or, pic_testBit F i n]
    by_cases h : i = n
    · subst h
      cases hF : F i <;> simp
    · have : (if F n then 2 ^ n else 0 : Nat).testBit i = false := by
        split
        · rw [Nat.testBit_two_pow]; simp; omega
        · simp
      rw [this]
      by_cases h2 : i < n
      · simp [h2, Nat.lt_succ_of_lt h2]
      · have : ¬ i < n + 1 := by omega
        simp [h2, this]
end Go.Ab
