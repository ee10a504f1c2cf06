/- A part of the proof library: names for blocks of memory, a small form of the code, and rules for walks over it. -/
import Derived.Test.YtmdemhfmhlnlgaaAb29
set_option linter.all false
namespace Go.Ab

section
variable {a : Nat}
theorem bit8_t {i : Nat} (ha : a < 256) (h : a.testBit i = true) : andI .u8 (shrI .u8 (a : Int) (i : Int)) 1 = 1 := by
  rw [shr8 ha, and8_one (div_lt ha)]
  rw [Nat.testBit_eq_decide_div_mod_eq, decide_eq_true_iff] at h
  rw [h]; rfl
theorem bit8_f {i : Nat} (ha : a < 256) (h : a.testBit i = false) : andI .u8 (shrI .u8 (a : Int) (i : Int)) 1 = 0 := by
  rw [shr8 ha, and8_one (div_lt ha)]
  rw [Nat.testBit_eq_decide_div_mod_eq, decide_eq_false_iff_not] at h
  rw [show a / 2 ^ i % 2 = 0 by omega]; rfl
theorem bit64_t {i : Nat} (ha : a < 18446744073709551616) (h : a.testBit i = true) : andI .u64 (shrI .u64 (a : Int) (i : Int)) 1 = 1 := by
  rw [shr64 ha, and64_one (div_lt ha)]
  rw [Nat.testBit_eq_decide_div_mod_eq, decide_eq_true_iff] at h
  rw [h]; rfl
theorem bit64_f {i : Nat} (ha : a < 18446744073709551616) (h : a.testBit i = false) : andI .u64 (shrI .u64 (a : Int) (i : Int)) 1 = 0 := by
  rw [shr64 ha, and64_one (div_lt ha)]
  rw [Nat.testBit_eq_decide_div_mod_eq, decide_eq_false_iff_not] at h
  rw [show a / 2 ^ i % 2 = 0 by omega]; rfl
/-- One bit of a byte, brought to another place. -/
theorem sel8 (ha : a < 256) (k : Nat) {i : Nat} (hi : i < 8) : shlI .u8 (andI .u8 (shrI .u8 (a : Int) (k : Int)) 1) (i : Int) = ((if a.testBit k = true then 2 ^ i else 0 : Nat) : Int) := by
  have hp : 2 ^ i < 256 := Nat.pow_lt_pow_right (by decide) (show i < 8 from hi)
  cases h : a.testBit k
  · rw [bit8_f ha h, show (0 : Int) = ((0 : Nat) : Int) from rfl, shl8]
    simp
  · rw [bit8_t ha h, shl8_one hi]
    simp
theorem pic_step8 {F : Nat → Bool} {i : Nat} (hi : i < 8) : orI .u8 (pic i F : Int) ((if F i = true then 2 ^ i else 0 : Nat) : Int) = (pic (i + 1) F : Int) := by
  have hp : 2 ^ i < 256 := Nat.pow_lt_pow_right (by decide) (show i < 8 from hi)
  rw [or8 (Nat.lt_of_lt_of_le (pic_lt F i) (by omega)) (by split <;> omega), pic]
theorem pic_step64 {F : Nat → Bool} {i : Nat} (hi : i < 64) : orI .u64 (pic i F : Int) ((if F i = true then 2 ^ i else 0 : Nat) : Int) = (pic (i + 1) F : Int) := by
  have hp : 2 ^ i < 18446744073709551616 := Nat.pow_lt_pow_right (by decide) (show i < 64 from hi)
  rw [or64 (Nat.lt_of_lt_of_le (pic_lt F i) (by omega)) (by split <;> omega), pic]
/-- The same, where the bit is taken straight out of a byte. -/
theorem take8 {F : Nat → Bool} (ha : a < 256) (k : Nat) {i : Nat} (hi : i < 8) (hF : F i = a.testBit k) : orI .u8 (pic i F : Int) (shlI .u8 (andI .u8 (shrI .u8 (a : Int) (k : Int)) 1) (i : Int)) = (pic (i + 1) F : Int) := by
  rw [sel8 ha k hi, ← hF]; exact pic_step8 hi
end

/-- The column of a part: the rows' bits at k, of the rows of a set. -/
def colN (n set : Nat) (r : Nat → Nat) (k : Nat) : Nat := pic n fun i => set.testBit i && (r i).testBit k
theorem colN_lt {n set : Nat} {r : Nat → Nat} {k : Nat} : colN n set r k < 2 ^ n := pic_lt _ _
theorem colN_lt8 {n set : Nat} {r : Nat → Nat} {k : Nat} (h : n ≤ 8) : colN n set r k < 256 := Nat.lt_of_lt_of_le colN_lt (show 2 ^ n ≤ 2 ^ 8 from Nat.pow_le_pow_right (by decide) h)
theorem colN_and {n set : Nat} {r : Nat → Nat} {k : Nat} : (pic n fun i => (r i).testBit k) &&& set = colN n set r k := by
  apply Nat.eq_of_testBit_eq
  intro i
  rw [Nat.testBit_and, pic_testBit, colN, pic_testBit]
  cases decide (i < n) <;> cases (r i).testBit k <;> cases set.testBit i <;> rfl

/-- How many of the first k have the value v. -/
def colh (c : Nat → Nat) : Nat → Nat → Int
  | 0, _ => 0
  | k + 1, v => if v = c k then colh c k v + 1 else colh c k v
theorem colh_le (c : Nat → Nat) (v : Nat) : ∀ k, 0 ≤ colh c k v ∧ colh c k v ≤ k
  | 0 => by simp [colh]
  | k + 1 => by have := colh_le c v k; simp only [colh]; split <;> omega
end Go.Ab
