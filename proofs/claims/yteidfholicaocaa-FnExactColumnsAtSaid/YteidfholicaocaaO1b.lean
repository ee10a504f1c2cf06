/- A part of the proof library: names for blocks of memory, a small form of the code, and rules for walks over it. -/
import Derived.Test.YteidfholicaocaaS1b
import Derived.Test.YteidfholicaocaaC6b
set_option linter.all false
namespace Go.Proofs.Yteidfholicaocaa
open Go.Ab
set_option maxHeartbeats 800000


/-- The numbers met among the first k. -/
def ordM (F : Nat → Int) : Nat → Nat
  | 0 => 0
  | k + 1 => ordM F k ||| (2 ^ (F k).toNat % 18446744073709551616)
theorem ordM_lt (F : Nat → Int) : ∀ k, ordM F k < 18446744073709551616
  | 0 => by simp [ordM]
  | k + 1 => or_lt64 (ordM_lt F k) (Nat.mod_lt _ (by decide))
def ordG (F : Nat → Int) (n : Int) (k : Nat) : Prop := 0 ≤ F k ∧ F k < n ∧ (ordM F k).testBit (F k).toNat = false
/-- The numbers are an order of the first n. -/
def OrdP (F : Nat → Int) (len : Nat) (n : Int) : Prop := (∀ k, k < len → ordG F n k) ∧ (len : Int) = n
open Classical in
noncomputable def ordB (F : Nat → Int) (len : Nat) (n : Int) : Bool := decide (OrdP F len n)
theorem ordB_iff {F : Nat → Int} {len : Nat} {n : Int} : ordB F len n = true ↔ OrdP F len n := by simp [ordB]



end Go.Proofs.Yteidfholicaocaa
