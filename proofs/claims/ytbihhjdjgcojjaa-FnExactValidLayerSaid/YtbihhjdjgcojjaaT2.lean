/- A part of the proof library: names for blocks of memory, a small form of the code, and rules for walks over it. -/
import Derived.Test.YtbihhjdjgcojjaaCode1
import Derived.Test.YtbihhjdjgcojjaaAb21
namespace Go.Proofs.Ytbihhjdjgcojjaa
open Go.Ab
set_option maxHeartbeats 400000

theorem within_pc (n lo hi : Int) : PC Try.prog 22 [.int .i64 n, .int .i64 lo, .int .i64 hi] (.bool (decide (lo ≤ n ∧ n ≤ hi))) := by
  refine pc_of impl_within_ok (fun ro => ?_)
  by_cases h1 : lo ≤ n <;> by_cases h2 : n ≤ hi <;> simp [impl_within_F, impl_within_M, h1, h2] <;> exact ret_pu (by simp) (by simp) (by simp)

theorem l00In_pc (n lo hi : Int) : PC Try.prog 21 [.int .i64 n, .int .i64 lo, .int .i64 hi] (.bool (decide (lo ≤ n ∧ n ≤ hi))) := by
  refine pc_of spec_l00In_ok (fun ro => ?_)
  by_cases h1 : lo ≤ n <;> by_cases h2 : n ≤ hi <;> simp [spec_l00In_F, spec_l00In_M, h1, h2] <;> exact ret_pu (by simp) (by simp) (by simp)

theorem isParts_pc (n : Int) : PC Try.prog 29 [.int .i64 n] (.bool (decide (1 ≤ n ∧ n ≤ 8))) := by
  refine pc_of impl_isParts_ok (fun ro => ?_)
  simp [impl_isParts_F, impl_isParts_M]
  refine call_pc (within_pc n 1 8) (by simp) (by simp) ?_
  simp
  exact ret_pu (by simp) (by simp) (by simp)

theorem l01Parts_pc (n : Int) : PC Try.prog 33 [.int .i64 n] (.bool (decide (1 ≤ n ∧ n ≤ 8))) := by
  refine pc_of spec_l01Parts_ok (fun ro => ?_)
  simp [spec_l01Parts_F, spec_l01Parts_M]
  refine call_pc (l00In_pc n 1 8) (by simp) (by simp) ?_
  simp
  exact ret_pu (by simp) (by simp) (by simp)

theorem toByteA64_pc (f : Nat → Int) : PC Try.prog 28 [.agg (byt 64 f)] (.agg (byt 64 f)) := by
  refine pc_of laws_toByteA64_ok (fun ro => ?_)
  simp [laws_toByteA64_F, laws_toByteA64_M]
  refine wp_for 64 (fun k => ⟨[(1, .ptr (.l 0) 0), (2, .ptr (.l 1) 0), (3, .ptr (.l 2) 0), (4, .int .i64 k)], [byt 64 f, byt 64 fun _ => 0, byt 64 fun i => if i < k then f i else 0], []⟩) ?_ ?_ ?_
  · simp [byt_zero]
  · intro k hk
    have hk1 : (k : Int) < 64 := by omega
    simp [laws_toByteA64_L0, hk1, hk, byt_set, wrap_i64 (show -9223372036854775808 ≤ (k : Int) + 1 by omega) (by omega), show k + 1 ≤ 64 from hk]
    exact byt_congr fun i _ => by by_cases h : i = k <;> by_cases h2 : i < k <;> simp [h, h2] <;> omega
  · simp [laws_toByteA64_L0, putl_all]
    rw [show (byt 64 fun i => if i < 64 then f i else 0) = byt 64 f from byt_congr fun i hi => by simp [hi]]
    exact ret_pu (by simp) (by simp) (by simp)

theorem toLayer_pc (p : Int) (f : Nat → Int) : PC Try.prog 16 [lay p f] (lay p f) := by
  refine pc_of laws_toLayer_ok (fun ro => ?_)
  simp [laws_toLayer_F, laws_toLayer_M, layC_zero, layC]
  refine call_pc (toByteA64_pc f) (by simp) (by simp) ?_
  simp [putl_head, putl_all]
  exact ret_pu (by simp) (by simp) (by simp [layC])

/-- A cell is clear of all parts from p on. -/
theorem clear_iff (c p : Int) (h0 : 0 ≤ c ∧ c < 256) (h2 : 1 ≤ p ∧ p ≤ 8) :
    IntKind.u8.wrap (((c % 2 ^ IntKind.u8.bits).toNat &&& 2 ^ IntKind.u8.bits - 1 - (IntKind.u8.wrap (IntKind.u8.wrap (2 ^ min p.toNat 8) - 1) % 2 ^ IntKind.u8.bits).toNat : Nat) : Int) = 0 ↔ c.fdiv (2 ^ (min p.toNat 8)) = 0 := by
  obtain ⟨c, rfl⟩ := Int.eq_ofNat_of_zero_le h0.1
  obtain ⟨p, rfl⟩ := Int.eq_ofNat_of_zero_le (by omega : 0 ≤ p)
  have key : ∀ c : Fin 256, ∀ p : Fin 9, 1 ≤ p.val → (IntKind.u8.wrap ((((c.val : Int) % 2 ^ IntKind.u8.bits).toNat &&& 2 ^ IntKind.u8.bits - 1 - (IntKind.u8.wrap (IntKind.u8.wrap (2 ^ min (p.val : Int).toNat 8) - 1) % 2 ^ IntKind.u8.bits).toNat : Nat) : Int) = 0 ↔ (c.val : Int).fdiv (2 ^ (min (p.val : Int).toNat 8)) = 0) := by decide +kernel
  exact key ⟨c, by omega⟩ ⟨p, by omega⟩ (by simp; omega)

theorem mask_pc (p : Int) (h : 0 ≤ p) : PC Try.prog 30 [.int .i8 p] (.int .u8 (IntKind.u8.wrap (IntKind.u8.wrap (1 * 2 ^ (min p.toNat 8)) - 1))) := by
  refine pc_of impl_mask_ok (fun ro => ?_)
  simp [impl_mask_F, impl_mask_M, show ¬ p < 0 by omega, IntKind.bits]
  exact ret_pu (by simp) (by simp) (by simp)

open Classical in
/-- A layer is valid. -/
noncomputable def lok (p : Int) (f : Nat → Int) : Bool := decide ((1 ≤ p ∧ p ≤ 8) ∧ ∀ i, i < 64 → (f i).fdiv (2 ^ (min p.toNat 8)) = 0)

theorem l01Ok_ct (p : Int) (f : Nat → Int) (hp : -128 ≤ p ∧ p < 128) (hf : ∀ i, 0 ≤ f i ∧ f i < 256) (ro : Bool) : Ct Try.prog ro 27 [.ptr (.e 0) 0] [layC p f] (fun v E' L' => v = .bool (lok p f) ∧ E' = [layC p f] ∧ L' = []) := by
  refine ct_of spec_l01Ok_ok ?_
  have hw : IntKind.i64.wrap p = p := wrap_i64 (by omega) (by omega)
  simp [spec_l01Ok_F, spec_l01Ok_M, layC, hw]
  refine call_pc (l01Parts_pc p) (by simp) (by simp) ?_
  by_cases h1 : 1 ≤ p ∧ p ≤ 8
  · simp [h1]
    have hu : IntKind.u64.wrap p = p := wrap_u64 (by omega) (by omega)
    refine wp_forR 64 (fun k => ⟨[(0, .ptr (.e 0) 0), (3, .int .i64 k)], [], [layC p f]⟩) (fun k => (f k).fdiv (2 ^ (min p.toNat 8)) = 0) ?_ ?_ ?_
    · intro k hk hg
      have hk1 : (k : Int) < 64 := by omega
      simp [spec_l01Ok_L0, hk1, hk, layC, get_cons1, hu, show ¬ p < 0 by omega, IntKind.bits, hg]
      exact wrap_i64 (by omega) (by omega)
    · intro k hk hg hb
      have hk1 : (k : Int) < 64 := by omega
      simp [spec_l01Ok_L0, hk1, hk, layC, get_cons1, hu, show ¬ p < 0 by omega, IntKind.bits, hg]
      exact ret_pu (by simp) (by simp) (by simp [lok, h1, layC]; exact ⟨k, hk, by simpa [h1] using hg⟩)
    · intro hall
      simp [spec_l01Ok_L0]
      exact ret_pu (by simp) (by simp [layC]) (by simp [lok, h1, layC]; exact fun i hi => by simpa [h1] using hall i hi)
  · simp [h1]; exact ret_pu (by simp) (by simp) (by simp [lok, h1, layC])
end Go.Proofs.Ytbihhjdjgcojjaa
