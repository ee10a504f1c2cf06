/- A part of the proof library: names for blocks of memory, a small form of the code, and rules for walks over it. -/
import Derived.Test.YteidfholicaocaaL3ab
set_option linter.all false
namespace Go.Proofs.Yteidfholicaocaa
open Go.Ab
set_option maxHeartbeats 400000



/-- The cells of both, side by side. -/
def jnd (p : Int) (f g : Nat → Nat) (k : Nat) : Nat := f k ||| (g k * 2 ^ p.toNat % 256)
theorem jnd_op (p : Int) (f g : Nat → Nat) (hp : 0 ≤ p) (hf : ∀ i, f i < 256) (k : Nat) : orI .u8 (f k : Int) (shlI .u8 (g k : Int) p) = (jnd p f g k : Int) := by
  obtain ⟨q, rfl⟩ := Int.eq_ofNat_of_zero_le hp
  rw [shl8, or8 (hf k) (Nat.mod_lt _ (by decide))]; rfl

theorem joined_pc (p q : Int) (f g : Nat → Nat) (hp : 0 ≤ p) (hf : ∀ i, f i < 256) : PC Try.prog 56 [lay p f, lay q g] (lay (IntKind.i8.wrap (p + q)) (jnd p f g)) := by
  have hcl : ∀ i : Nat, i < 64 → ∀ ro, Ct Try.prog ro 108 [.int .i64 i, .ptr (.e 0) 0, .ptr (.e 1) 0] [layC p f, layC q g] fun v E' L' => v = .int .u8 (jnd p f g i) ∧ E' = [layC p f, layC q g] ∧ L' = [] := fun i hi ro => by
    have hi2 : (i : Int) < 64 := by omega
    refine ct_of impl_joined_1_ok ?_
    simp [impl_joined_1_F, impl_joined_1_M, hi, hi2, layC_f hi, show 1 + i ≤ 64 by omega, show ¬ p < 0 by omega, jnd_op p f g hp hf i]
    exact ret_pu (by simp) (by simp) (by simp)
  refine pc_of impl_joined_ok (fun ro => ?_)
  simp [impl_joined_F, impl_joined_M, layC_zero]
  refine call_s [.l 0, .l 1] (each_ct (p := p) (f := f) (g := 108) (caps := [.ptr (.e 0) 0, .ptr (.e 1) 0]) (E := [layC p f, layC q g]) (by kernel_rfl) (by simp) (by simp) hcl) (by simp) ?_
  simp [layC_zero]
  exact ret_pu (by simp) (by simp) (by simp)

end Go.Proofs.Yteidfholicaocaa
