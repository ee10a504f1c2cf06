/- A part of the proof library: names for blocks of memory, a small form of the code, and rules for walks over it. -/
import Derived.Test.YteidfholicaocaaC6b
set_option linter.all false
namespace Go.Proofs.Yteidfholicaocaa
open Go.Ab
set_option maxHeartbeats 800000


theorem gap_pc (s p : Int) (w b : Nat → Nat) (hw : ∀ i, w i < 256) (hb : ∀ i, b i < 256) (set : Nat) (hset : set < 256) : PC Try.prog 140 [sch s p w b, .int .u8 set] (.int .i64 (IntKind.i64.wrap ((wgt set true w b : Int) - wgt set false w b))) := by
  refine pc_of impl_Scheme_gap_ok (fun ro => ?_)
  simp [impl_Scheme_gap_F, impl_Scheme_gap_M]
  first
  | refine calld_pc (weight_pc s p w b hw hb set hset true) (by simp) (by simp) ?_
    simp
    refine calld_pc (weight_pc s p w b hw hb set hset false) (by simp) (by simp) ?_
    simp
    exact ret_pu (by simp) (by simp) (by simp)
  | refine call_pc (weight_pc s p w b hw hb set hset true) (by simp) (by simp) ?_
    simp
    refine call_pc (weight_pc s p w b hw hb set hset false) (by simp) (by simp) ?_
    simp
    exact ret_pu (by simp) (by simp) (by simp)
  | refine calll_pc (weight_pc s p w b hw hb set hset true) (by simp) (by simp) ?_
    simp
    refine calll_pc (weight_pc s p w b hw hb set hset false) (by simp) (by simp) ?_
    simp
    exact ret_pu (by simp) (by simp) (by simp)
theorem l02Gap_ct (s p : Int) (w b : Nat → Nat) (hw : ∀ i, w i < 256) (hb : ∀ i, b i < 256) (set : Nat) (hset : set < 256) (ro : Bool) : Ct Try.prog ro 125 [.ptr (.e 0) 0, .int .u8 set] [schC s p w b] fun v E' L' => v = .int .i64 (IntKind.i64.wrap ((wgt set true w b : Int) - wgt set false w b)) ∧ E' = [schC s p w b] ∧ L' = [] := by
  refine ct_of spec_l02Gap_ok ?_
  simp [spec_l02Gap_F, spec_l02Gap_M]
  refine call_s [.e 0] (l02Weight_ct s p w b hw hb set hset true) (by simp) ?_
  simp
  refine call_s [.e 0] (l02Weight_ct s p w b hw hb set hset false) (by simp) ?_
  simp
  exact ret_pu (by simp) (by simp) (by simp)

end Go.Proofs.Yteidfholicaocaa
