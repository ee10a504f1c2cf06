/- A part of the proof library: names for blocks of memory, a small form of the code, and rules for walks over it. -/
import Derived.Test.YtpajbcifaicpoaaC4f
import Derived.Test.YtpajbcifaicpoaaAb27
set_option linter.all false
namespace Go.Proofs.Ytpajbcifaicpoaa
open Go.Ab
set_option maxHeartbeats 800000

theorem cntB_eq (n : Nat) : ∀ k, cntB k n = cnt k n
  | 0 => rfl
  | k + 1 => by rw [cntB, cnt, cntB_eq n k]
theorem addu64 {a b c : Nat} (h : a + b = c) (hc : c < 18446744073709551616) : IntKind.u64.wrap ((a : Int) + (b : Int)) = (c : Int) := by
  rw [wrap_u64 (by omega) (by omega)]; omega
theorem and127 {a : Nat} (h : a < 2 ^ 63) : andI .i64 (a : Int) 127 = ((a % 128 : Nat) : Int) := by
  have e : (BitVec.ofInt 64 (a : Int) &&& BitVec.ofInt 64 127).toNat = a % 128 := by
    rw [show (127 : Int) = ((127 : Nat) : Int) from rfl, ofInt_nat, ofInt_nat]
    simp only [BitVec.toNat_and, BitVec.toNat_ofNat]
    rw [Nat.mod_eq_of_lt (show a < 2 ^ 64 by omega)]
    exact Nat.and_two_pow_sub_one_eq_mod a 7
  show IntKind.i64.wrap _ = _
  rw [show (BitVec.ofInt IntKind.i64.bits (a : Int) &&& BitVec.ofInt IntKind.i64.bits 127).toNat = a % 128 from e]
  exact wrap_i64 (by omega) (by omega)

theorem onesCount64_pc (n : Nat) (hn : n < 18446744073709551616) : PC Try.prog 32 [.int .u64 n] (.int .i64 (cnt 64 n)) := by
  obtain ⟨d0, d1, d2, d3, d4, d5, d6, d7, hd, hs, hc⟩ := swar_val n hn
  obtain ⟨q1, q2, q3, q4⟩ := swar_fold d0 d1 d2 d3 d4 d5 d6 d7 _ hd hs
  rw [cntB_eq, ← q4] at hc
  simp only [swar] at q1 q2 q3 hc
  have lm : ∀ x m : Nat, x &&& m ≤ m := fun x m => Nat.and_le_right
  have f1 : shrI .u64 (n : Int) 1 = ((n / 2 : Nat) : Int) := shr64 (n := 1) hn
  have f2 : andI .u64 ((n / 2 : Nat) : Int) 6148914691236517205 = ((n / 2 &&& 6148914691236517205 : Nat) : Int) := and64 (by omega) (by decide)
  have f3 : andI .u64 (n : Int) 6148914691236517205 = ((n &&& 6148914691236517205 : Nat) : Int) := and64 hn (by decide)
  have l2 := lm (n / 2) 6148914691236517205
  have l3 := lm n 6148914691236517205
  have hsw : ∀ a, a = (n / 2 &&& 6148914691236517205) + (n &&& 6148914691236517205) → a < 18446744073709551616 := fun a h => by omega
  generalize (n / 2 &&& 6148914691236517205) = x2 at *
  generalize (n &&& 6148914691236517205) = x3 at *
  generalize n / 2 = x1 at *
  obtain ⟨a, ha⟩ : ∃ a, a = x2 + x3 := ⟨_, rfl⟩
  have f4 := addu64 ha.symm (hsw a ha)
  have hal := hsw a ha
  rw [← ha] at q1 q2 q3 hc
  have g1 : shrI .u64 (a : Int) 2 = ((a / 4 : Nat) : Int) := shr64 (n := 2) hal
  have g2 : andI .u64 ((a / 4 : Nat) : Int) 3689348814741910323 = ((a / 4 &&& 3689348814741910323 : Nat) : Int) := and64 (by omega) (by decide)
  have g3 : andI .u64 (a : Int) 3689348814741910323 = ((a &&& 3689348814741910323 : Nat) : Int) := and64 hal (by decide)
  have m2 := lm (a / 4) 3689348814741910323
  have m3 := lm a 3689348814741910323
  clear hsw ha
  generalize (a / 4 &&& 3689348814741910323) = y2 at *
  generalize (a &&& 3689348814741910323) = y3 at *
  generalize a / 4 = y1 at *
  obtain ⟨b, hb⟩ : ∃ b, b = y2 + y3 := ⟨_, rfl⟩
  have hbl : b ≤ 7378697629483820646 := by omega
  have g4 := addu64 hb.symm (by omega)
  rw [← hb] at q1 q2 q3 hc
  clear hb m2 m3 l2 l3
  have k1 : shrI .u64 (b : Int) 4 = ((b / 16 : Nat) : Int) := shr64 (n := 4) (by omega)
  obtain ⟨z2, hz2⟩ : ∃ z, z = b / 16 + b := ⟨_, rfl⟩
  have k2 := addu64 hz2.symm (by omega)
  have hzl : z2 < 18446744073709551616 := by omega
  rw [← hz2] at q1 q2 q3 hc
  have k3 : andI .u64 (z2 : Int) 1085102592571150095 = ((z2 &&& 1085102592571150095 : Nat) : Int) := and64 hzl (by decide)
  clear hz2
  generalize (z2 &&& 1085102592571150095) = y at *
  generalize b / 16 = z1 at *
  have l1 : shrI .u64 (y : Int) 8 = ((y / 256 : Nat) : Int) := shr64 (n := 8) (by omega)
  obtain ⟨w1, hw1⟩ : ∃ w, w = y + y / 256 := ⟨_, rfl⟩
  have o1 := addu64 hw1.symm (by omega)
  rw [← hw1] at q1 q2 q3 hc
  generalize y / 256 = v1 at *
  have l2 : shrI .u64 (w1 : Int) 16 = ((w1 / 65536 : Nat) : Int) := shr64 (n := 16) (by omega)
  obtain ⟨w2, hw2⟩ : ∃ w, w = w1 + w1 / 65536 := ⟨_, rfl⟩
  have o2 := addu64 hw2.symm (by omega)
  rw [← hw2] at q2 q3 hc
  generalize w1 / 65536 = v2 at *
  have l3 : shrI .u64 (w2 : Int) 32 = ((w2 / 4294967296 : Nat) : Int) := shr64 (n := 32) (by omega)
  obtain ⟨w3, hw3⟩ : ∃ w, w = w2 + w2 / 4294967296 := ⟨_, rfl⟩
  have o3 := addu64 hw3.symm (by omega)
  rw [← hw3] at q3 hc
  generalize w2 / 4294967296 = v3 at *
  have p1 : IntKind.i64.wrap (w3 : Int) = w3 := wrap_i64 (by omega) (by omega)
  have p2 := and127 q3
  rw [← hc] at p2
  clear q1 q2 hs hd hw1 hw2 hw3 hbl
  generalize cnt 64 n = r at *
  refine pc_of math_bits_OnesCount64_ok (fun ro => ?_)
  simp [math_bits_OnesCount64_F, math_bits_OnesCount64_M, f1, f2, f3, f4, g1, g2, g3, g4, k1, k2, k3, l1, o1, l2, o2, l3, o3, p1, p2]
  exact ret_pu (by simp) (by simp) (by simp)

end Go.Proofs.Ytpajbcifaicpoaa
