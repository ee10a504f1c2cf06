/- A part of the proof library: names for blocks of memory, a small form of the code, and rules for walks over it. -/
import Derived.Test.YtpajbcifaicpoaaCode
import Derived.Test.YtpajbcifaicpoaaAb23
set_option linter.all false
namespace Go.Proofs.Ytpajbcifaicpoaa
open Go.Ab
set_option maxHeartbeats 400000

theorem within_pc (n lo hi : Int) : PC Try.prog 19 [.int .i64 n, .int .i64 lo, .int .i64 hi] (.bool (decide (lo ≤ n ∧ n ≤ hi))) := by
  refine pc_of impl_within_ok (fun ro => ?_)
  by_cases h1 : lo ≤ n <;> by_cases h2 : n ≤ hi <;> simp [impl_within_F, impl_within_M, h1, h2] <;> exact ret_pu (by simp) (by simp) (by simp)

theorem l00In_pc (n lo hi : Int) : PC Try.prog 16 [.int .i64 n, .int .i64 lo, .int .i64 hi] (.bool (decide (lo ≤ n ∧ n ≤ hi))) := by
  refine pc_of spec_l00In_ok (fun ro => ?_)
  by_cases h1 : lo ≤ n <;> by_cases h2 : n ≤ hi <;> simp [spec_l00In_F, spec_l00In_M, h1, h2] <;> exact ret_pu (by simp) (by simp) (by simp)

theorem isParts_pc (n : Int) : PC Try.prog 25 [.int .i64 n] (.bool (decide (1 ≤ n ∧ n ≤ 8))) := by
  refine pc_of impl_isParts_ok (fun ro => ?_)
  simp [impl_isParts_F, impl_isParts_M]
  refine call_pc (within_pc n 1 8) (by simp) (by simp) ?_
  simp
  exact ret_pu (by simp) (by simp) (by simp)

theorem l01Parts_pc (n : Int) : PC Try.prog 23 [.int .i64 n] (.bool (decide (1 ≤ n ∧ n ≤ 8))) := by
  refine pc_of spec_l01Parts_ok (fun ro => ?_)
  simp [spec_l01Parts_F, spec_l01Parts_M]
  refine call_pc (l00In_pc n 1 8) (by simp) (by simp) ?_
  simp
  exact ret_pu (by simp) (by simp) (by simp)



theorem mask_pc (p : Int) (h : 0 ≤ p ∧ p ≤ 8) : PC Try.prog 26 [.int .i8 p] (.int .u8 ((2 ^ p.toNat - 1 : Nat) : Int)) := by
  refine pc_of impl_mask_ok (fun ro => ?_)
  have key : ∀ q : Fin 9, IntKind.u8.wrap (shlI .u8 1 (q.val : Int) - 1) = ((2 ^ q.val - 1 : Nat) : Int) := by decide +kernel
  obtain ⟨q, rfl⟩ := Int.eq_ofNat_of_zero_le h.1
  have := key ⟨q, by omega⟩
  simp only at this
  simp [impl_mask_F, impl_mask_M, show ¬ (q : Int) < 0 by omega, this]
  exact ret_pu (by simp) (by simp) (by simp)

/-- A layer is valid. -/
def LOk (p : Int) (f : Nat → Nat) : Prop := (1 ≤ p ∧ p ≤ 8) ∧ ∀ i, i < 64 → f i < 2 ^ p.toNat
open Classical in
noncomputable def lok (p : Int) (f : Nat → Nat) : Bool := decide (LOk p f)
theorem lok_iff {p : Int} {f : Nat → Nat} : lok p f = true ↔ LOk p f := by simp [lok]

theorem anc_zero (c p : Nat) (h : c < 256) (h2 : p ≤ 8) : (anc c (2 ^ p - 1) = 0) ↔ c < 2 ^ p := by
  have key : ∀ c : Fin 256, ∀ p : Fin 9, (anc c.val (2 ^ p.val - 1) = 0) ↔ c.val < 2 ^ p.val := by decide +kernel
  exact key ⟨c, h⟩ ⟨p, by omega⟩



end Go.Proofs.Ytpajbcifaicpoaa
