/- A part of the proof library: names for blocks of memory, a small form of the code, and rules for walks over it. -/
import Derived.Test.YtpajbcifaicpoaaC5f
import Derived.Test.YtpajbcifaicpoaaAb25
set_option linter.all false
namespace Go.Proofs.Ytpajbcifaicpoaa
open Go.Ab
set_option maxHeartbeats 800000

/-- The parts of the first shares of a set. -/
def oall (set : Nat) (r : Nat → Nat) : Nat → Nat
  | 0 => 0
  | k + 1 => if set.testBit k then oall set r k ||| r k else oall set r k
theorem oall_lt {set : Nat} {r : Nat → Nat} (hr : ∀ i, r i < 256) : ∀ k, oall set r k < 256
  | 0 => by simp [oall]
  | k + 1 => by
    simp only [oall]
    split
    · exact or_lt8 (oall_lt hr k) (hr k)
    · exact oall_lt hr k
def rws (x : Bool) (w b : Nat → Nat) : Nat → Nat := if x then b else w
theorem rws_lt {x : Bool} {w b : Nat → Nat} (hw : ∀ i, w i < 256) (hb : ∀ i, b i < 256) (i : Nat) : rws x w b i < 256 := by unfold rws; split; exact hb i; exact hw i
def wgt (set : Nat) (x : Bool) (w b : Nat → Nat) : Nat := cnt 64 (oall set (rws x w b) 6)

theorem rows_ct (s p : Int) (w b : Nat → Nat) (x : Bool) (ro : Bool) : Ct Try.prog ro 33 [.ptr (.e 0) 0, .bool x] [schC s p w b] fun v E' L' => v = .ptr (.e 0) (if x then 8 else 2) ∧ E' = [schC s p w b] ∧ L' = [] := by
  refine ct_of impl_Scheme_rows_ok ?_
  cases x
  · simp [impl_Scheme_rows_F, impl_Scheme_rows_M]
    exact ret_eo 1 (by simp) (by simp) (by simp)
  · simp [impl_Scheme_rows_F, impl_Scheme_rows_M]
    exact ret_eo 1 (by simp) (by simp) (by simp)





/-- The code of a scheme and a set. -/
noncomputable def sCode (s p : Int) (w b : Nat → Nat) (set : Nat) : Int := if sok s p w b = true then (if set < 2 ^ s.toNat then 0 else 2) else 1


end Go.Proofs.Ytpajbcifaicpoaa
