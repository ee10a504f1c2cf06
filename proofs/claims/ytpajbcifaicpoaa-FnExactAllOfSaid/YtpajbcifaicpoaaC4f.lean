/- A part of the proof library: names for blocks of memory, a small form of the code, and rules for walks over it. -/
import Derived.Test.YtpajbcifaicpoaaC3f
set_option linter.all false
namespace Go.Proofs.Ytpajbcifaicpoaa
open Go.Ab
set_option maxHeartbeats 400000

/-- How many of the first bits are 1. -/
def cnt : Nat → Nat → Nat
  | 0, _ => 0
  | k + 1, n => cnt k n + (n.testBit k).toNat
theorem cnt_le (n : Nat) : ∀ k, cnt k n ≤ k
  | 0 => Nat.le_refl _
  | k + 1 => by have := cnt_le n k; have := Bool.toNat_le (n.testBit k); simp only [cnt]; omega
theorem cnt_stop {n k : Nat} (h : n < 2 ^ k) : ∀ j, cnt (k + j) n = cnt k n
  | 0 => rfl
  | j + 1 => by
    rw [Nat.add_succ, cnt, cnt_stop h j, Nat.testBit_lt_two_pow (Nat.lt_of_lt_of_le h (Nat.pow_le_pow_right (by decide) (by omega)))]
    rfl
theorem cnt_to {n k m : Nat} (h : n < 2 ^ k) (hm : k ≤ m) : cnt m n = cnt k n := by
  obtain ⟨j, rfl⟩ := Nat.exists_eq_add_of_le hm
  exact cnt_stop h j

theorem l01Count_pc (n : Nat) (hn : n < 18446744073709551616) : PC Try.prog 17 [.int .u64 n] (.int .i64 (cnt 64 n)) := by
  refine pc_of spec_l01Count_ok (fun ro => ?_)
  simp [spec_l01Count_F, spec_l01Count_M]
  refine wp_rounds 64 (fun k => ⟨[(0, .int .u64 ((n / 2 ^ k : Nat) : Int)), (3, .int .i64 (cnt k n))], [], []⟩) (fun k => n / 2 ^ k = 0) ?_ ?_ ?_ ?_
  · simp [cnt]
  · intro k hk hs
    have h1 : n / 2 ^ k < 18446744073709551616 := div_lt hn
    have h3 : n / 2 ^ (k + 1) = n / 2 ^ k / 2 := by rw [Nat.pow_succ, Nat.div_div_eq_div_mul]
    have hb : n / 2 ^ k % 2 = (n.testBit k).toNat := by
      rw [Nat.testBit_eq_decide_div_mod_eq]
      have : n / 2 ^ k % 2 < 2 := Nat.mod_lt _ (by decide)
      by_cases h : n / 2 ^ k % 2 = 1
      · simp [h]
      · rw [show n / 2 ^ k % 2 = 0 by omega]; simp
    have hc := cnt_le n k
    have hbl : (n.testBit k).toNat ≤ 1 := Bool.toNat_le _
    rw [h3]
    generalize n / 2 ^ k = x at h1 hb hs
    have ha : andI .u64 (x : Int) 1 = ((x % 2 : Nat) : Int) := and64_one h1
    have hr : shrI .u64 (x : Int) 1 = ((x / 2 : Nat) : Int) := by have := shr64 (n := 1) h1; simpa using this
    rw [hb] at ha
    simp [spec_l01Count_L0, hs, ha, hr, -Int.natCast_ediv]
    rw [cnt]
    have e1 : IntKind.i64.wrap (((n.testBit k).toNat : Nat) : Int) = ((n.testBit k).toNat : Nat) := wrap_i64 (by omega) (by omega)
    rw [e1, wrap_i64 (by omega) (by omega)]
    push_cast
    rfl
  · intro k hk hs
    have e : cnt 64 n = cnt k n := cnt_to (by
      rcases Nat.lt_or_ge n (2 ^ k) with h | h
      · exact h
      · have := Nat.div_pos h (Nat.pow_pos (by decide) : 0 < 2 ^ k); omega) hk
    simp [spec_l01Count_L0, hs, -Int.natCast_ediv]
    exact ret_pu (by simp) (by simp) (by simp [e])
  · exact Nat.div_eq_of_lt hn


/-- The picture of the cells with so many black parts. -/
def shownP (f : Nat → Nat) (level : Int) : Nat → Bool := fun i => decide (level ≤ cnt 64 (f i))


end Go.Proofs.Ytpajbcifaicpoaa
