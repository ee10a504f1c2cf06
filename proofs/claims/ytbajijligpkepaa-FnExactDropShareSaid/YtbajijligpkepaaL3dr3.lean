/- A part of the proof library: names for blocks of memory, a small form of the code, and rules for walks over it. -/
import Derived.Test.YtbajijligpkepaaC6r3
set_option linter.all false
namespace Go.Proofs.Ytbajijligpkepaa
open Go.Ab
set_option maxHeartbeats 800000

theorem weightOf_both (s p : Int) (w b : Nat → Nat) (hs : -128 ≤ s ∧ s < 128) (hp : -128 ≤ p ∧ p < 128) (hw : ∀ i, w i < 256) (hb : ∀ i, b i < 256) (set : Nat) (hset : set < 256) (x : Bool) :
    ∃ a c, PC Try.prog 33 [sch s p w b, .int .u8 set, .bool x] (.tup [.int .i64 a, .int .i64 c]) ∧ PC Try.prog 34 [sch s p w b, .int .u8 set, .bool x] (.tup [.int .i64 a, .int .i64 c]) := by
  have k1 := l02Asked_ct s p w b hs hp hw hb set hset
  have k2 := setCode_pc s p w b hs hp hw hb set hset
  generalize sCode s p w b set = c at k1 k2
  by_cases hc : c = 0
  · subst hc
    refine ⟨wgt set x w b, 0, ?_, ?_⟩
    · refine pc_of spec_WeightOf_ok (fun ro => ?_)
      simp [spec_WeightOf_F, spec_WeightOf_M]
      refine call_s [.l 0] k1 (by simp) ?_
      simp
      refine call_s [.l 0] (l02Weight_ct s p w b hw hb set hset x) (by simp) ?_
      simp
      exact ret_pu (by simp) (by simp) (by simp)
    · refine pc_of impl_WeightOf_ok (fun ro => ?_)
      simp [impl_WeightOf_F, impl_WeightOf_M]
      refine call_pc k2 (by simp) (by simp) ?_
      simp
      refine call_pc (weight_pc s p w b hw hb set hset x) (by simp) (by simp) ?_
      simp
      exact ret_pu (by simp) (by simp) (by simp)
  · refine ⟨0, c, ?_, ?_⟩
    · refine pc_of spec_WeightOf_ok (fun ro => ?_)
      simp [spec_WeightOf_F, spec_WeightOf_M]
      refine call_s [.l 0] k1 (by simp) ?_
      simp [hc]
      exact ret_pu (by simp) (by simp) (by simp)
    · refine pc_of impl_WeightOf_ok (fun ro => ?_)
      simp [impl_WeightOf_F, impl_WeightOf_M]
      refine call_pc k2 (by simp) (by simp) ?_
      simp [hc]
      exact ret_pu (by simp) (by simp) (by simp)

theorem lawWeightOf (s p : Int) (w b : Nat → Nat) (hs : -128 ≤ s ∧ s < 128) (hp : -128 ≤ p ∧ p < 128) (hw : ∀ i, w i < 256) (hb : ∀ i, b i < 256) (set : Nat) (hset : set < 256) (x : Bool) : PC Try.prog 10 [sch s p w b, .int .u8 set, .bool x] (.bool true) := by
  obtain ⟨a, c, h1, h2⟩ := weightOf_both s p w b hs hp hw hb set hset x
  have hu8 : IntKind.u8.wrap (set : Int) = set := wrap_u8 (by omega) (by omega)
  refine pc_of laws_FnExactWeightOf_ok (fun ro => ?_)
  simp [laws_FnExactWeightOf_F, laws_FnExactWeightOf_M]
  refine call_pc (toScheme_pc s p w b) (by simp) (by simp) ?_
  simp [hu8]
  refine call_pc h1 (by simp) (by simp) ?_
  simp
  refine call_pc (toScheme_pc s p w b) (by simp) (by simp) ?_
  simp [hu8]
  refine call_pc h2 (by simp) (by simp) ?_
  simp
  exact ret_pu (by simp) (by simp) (by simp)

theorem gap_pc (s p : Int) (w b : Nat → Nat) (hw : ∀ i, w i < 256) (hb : ∀ i, b i < 256) (set : Nat) (hset : set < 256) : PC Try.prog 76 [sch s p w b, .int .u8 set] (.int .i64 (IntKind.i64.wrap ((wgt set true w b : Int) - wgt set false w b))) := by
  refine pc_of impl_Scheme_gap_ok (fun ro => ?_)
  simp [impl_Scheme_gap_F, impl_Scheme_gap_M]
  first
  | refine calld_pc (weight_pc s p w b hw hb set hset true) (by simp) (by simp) ?_
    simp
    refine calld_pc (weight_pc s p w b hw hb set hset false) (by simp) (by simp) ?_
    simp
    exact ret_pu (by simp) (by simp) (by simp)
  | refine call_pc (weight_pc s p w b hw hb set hset true) (by simp) (by simp) ?_
    simp
    refine call_pc (weight_pc s p w b hw hb set hset false) (by simp) (by simp) ?_
    simp
    exact ret_pu (by simp) (by simp) (by simp)
  | refine calll_pc (weight_pc s p w b hw hb set hset true) (by simp) (by simp) ?_
    simp
    refine calll_pc (weight_pc s p w b hw hb set hset false) (by simp) (by simp) ?_
    simp
    exact ret_pu (by simp) (by simp) (by simp)
theorem l02Gap_ct (s p : Int) (w b : Nat → Nat) (hw : ∀ i, w i < 256) (hb : ∀ i, b i < 256) (set : Nat) (hset : set < 256) (ro : Bool) : Ct Try.prog ro 75 [.ptr (.e 0) 0, .int .u8 set] [schC s p w b] fun v E' L' => v = .int .i64 (IntKind.i64.wrap ((wgt set true w b : Int) - wgt set false w b)) ∧ E' = [schC s p w b] ∧ L' = [] := by
  refine ct_of spec_l02Gap_ok ?_
  simp [spec_l02Gap_F, spec_l02Gap_M]
  refine call_s [.e 0] (l02Weight_ct s p w b hw hb set hset true) (by simp) ?_
  simp
  refine call_s [.e 0] (l02Weight_ct s p w b hw hb set hset false) (by simp) ?_
  simp
  exact ret_pu (by simp) (by simp) (by simp)

theorem gapOf_both (s p : Int) (w b : Nat → Nat) (hs : -128 ≤ s ∧ s < 128) (hp : -128 ≤ p ∧ p < 128) (hw : ∀ i, w i < 256) (hb : ∀ i, b i < 256) (set : Nat) (hset : set < 256) :
    ∃ a c, PC Try.prog 35 [sch s p w b, .int .u8 set] (.tup [.int .i64 a, .int .i64 c]) ∧ PC Try.prog 36 [sch s p w b, .int .u8 set] (.tup [.int .i64 a, .int .i64 c]) := by
  have k1 := l02Asked_ct s p w b hs hp hw hb set hset
  have k2 := setCode_pc s p w b hs hp hw hb set hset
  generalize sCode s p w b set = c at k1 k2
  by_cases hc : c = 0
  · subst hc
    refine ⟨IntKind.i64.wrap ((wgt set true w b : Int) - wgt set false w b), 0, ?_, ?_⟩
    · refine pc_of spec_GapOf_ok (fun ro => ?_)
      simp [spec_GapOf_F, spec_GapOf_M]
      refine call_s [.l 0] k1 (by simp) ?_
      simp
      refine call_s [.l 0] (l02Gap_ct s p w b hw hb set hset) (by simp) ?_
      simp
      exact ret_pu (by simp) (by simp) (by simp)
    · refine pc_of impl_GapOf_ok (fun ro => ?_)
      simp [impl_GapOf_F, impl_GapOf_M]
      refine call_pc k2 (by simp) (by simp) ?_
      simp
      refine call_pc (gap_pc s p w b hw hb set hset) (by simp) (by simp) ?_
      simp
      exact ret_pu (by simp) (by simp) (by simp)
  · refine ⟨0, c, ?_, ?_⟩
    · refine pc_of spec_GapOf_ok (fun ro => ?_)
      simp [spec_GapOf_F, spec_GapOf_M]
      refine call_s [.l 0] k1 (by simp) ?_
      simp [hc]
      exact ret_pu (by simp) (by simp) (by simp)
    · refine pc_of impl_GapOf_ok (fun ro => ?_)
      simp [impl_GapOf_F, impl_GapOf_M]
      refine call_pc k2 (by simp) (by simp) ?_
      simp [hc]
      exact ret_pu (by simp) (by simp) (by simp)

theorem lawGapOf (s p : Int) (w b : Nat → Nat) (hs : -128 ≤ s ∧ s < 128) (hp : -128 ≤ p ∧ p < 128) (hw : ∀ i, w i < 256) (hb : ∀ i, b i < 256) (set : Nat) (hset : set < 256) : PC Try.prog 11 [sch s p w b, .int .u8 set] (.bool true) := by
  obtain ⟨a, c, h1, h2⟩ := gapOf_both s p w b hs hp hw hb set hset
  have hu8 : IntKind.u8.wrap (set : Int) = set := wrap_u8 (by omega) (by omega)
  refine pc_of laws_FnExactGapOf_ok (fun ro => ?_)
  simp [laws_FnExactGapOf_F, laws_FnExactGapOf_M]
  refine call_pc (toScheme_pc s p w b) (by simp) (by simp) ?_
  simp [hu8]
  refine call_pc h1 (by simp) (by simp) ?_
  simp
  refine call_pc (toScheme_pc s p w b) (by simp) (by simp) ?_
  simp [hu8]
  refine call_pc h2 (by simp) (by simp) ?_
  simp
  exact ret_pu (by simp) (by simp) (by simp)
end Go.Proofs.Ytbajijligpkepaa
