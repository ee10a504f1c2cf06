/- A part of the proof library: names for blocks of memory, a small form of the code, and rules for walks over it. -/
import Derived.Test.YtbajijligpkepaaL3br3
import Derived.Test.YtbajijligpkepaaAb25
set_option linter.all false
namespace Go.Proofs.Ytbajijligpkepaa
open Go.Ab
set_option maxHeartbeats 800000

theorem joinS_no (s p s2 p2 : Int) (w b w2 b2 : Nat → Nat) (hs : -128 ≤ s ∧ s < 128) (hp : -128 ≤ p ∧ p < 128) (hw : ∀ i, w i < 256) (hb : ∀ i, b i < 256) (hs2 : -128 ≤ s2 ∧ s2 < 128) (hp2 : -128 ≤ p2 ∧ p2 < 128) (hw2 : ∀ i, w2 i < 256) (hb2 : ∀ i, b2 i < 256) (c : Int)
    (hc : (if (!(sok s p w b && sok s2 p2 w2 b2)) = true then 1 else if (!decide (s = s2)) = true then 4 else if decide (8 < IntKind.i8.wrap (p + p2)) = true then 3 else 0) = c) (hc0 : c ≠ 0) :
    PC Try.prog 18 [sch s p w b, sch s2 p2 w2 b2] (.tup [sch 0 0 (fun _ => 0) fun _ => 0, .int .i64 c]) ∧ PC Try.prog 20 [sch s p w b, sch s2 p2 w2 b2] (.tup [sch 0 0 (fun _ => 0) fun _ => 0, .int .i64 c]) := by
  have k1 := l02Ok_ct s p w b hs hp hw hb
  have k2 := l02Ok_ct s2 p2 w2 b2 hs2 hp2 hw2 hb2
  have j1 := implValidScheme_pc s p w b hs hp hw hb
  have j2 := implValidScheme_pc s2 p2 w2 b2 hs2 hp2 hw2 hb2
  generalize sok s p w b = A at *
  generalize sok s2 p2 w2 b2 = B at *
  constructor
  · refine pc_of spec_JoinSchemes_ok (fun ro => ?_)
    simp [spec_JoinSchemes_F, spec_JoinSchemes_M, schC_zero]
    refine call_s [.l 0] k1 (by simp) ?_
    cases A
    · simp at hc; subst hc
      simp [schC_zero]
      exact ret_pu (by simp) (by simp) (by simp)
    · simp
      refine call_s [.l 1] k2 (by simp) ?_
      cases B
      · simp at hc; subst hc
        simp [schC_zero]
        exact ret_pu (by simp) (by simp) (by simp)
      · by_cases h3 : s = s2
        · by_cases h4 : 8 < IntKind.i8.wrap (p + p2)
          · simp [h3, h4] at hc; subst hc
            simp [h3, h4, schC_zero]
            exact ret_pu (by simp) (by simp) (by simp)
          · simp [h3, h4] at hc; exact absurd hc.symm hc0
        · simp [h3] at hc; subst hc
          simp [h3, schC_zero]
          exact ret_pu (by simp) (by simp) (by simp)
  · refine pc_of impl_JoinSchemes_ok (fun ro => ?_)
    simp [impl_JoinSchemes_F, impl_JoinSchemes_M, schC_zero]
    refine calld_pc j1 (by simp) (by simp) ?_
    cases A
    · simp at hc; subst hc
      simp [zrow_f3, fc_three]
      refine calld_s [.l 3] (first3_ct true (!decide (s = s2)) (decide (8 < IntKind.i8.wrap (p + p2))) 1 4 3) (by simp) ?_
      simp [schC_zero]
      exact ret_pu (by simp) (by simp) (by simp)
    · simp
      refine calld_pc j2 (by simp) (by simp) ?_
      cases B
      · simp at hc; subst hc
        simp [zrow_f3, fc_three]
        refine calld_s [.l 3] (first3_ct true (!decide (s = s2)) (decide (8 < IntKind.i8.wrap (p + p2))) 1 4 3) (by simp) ?_
        simp [schC_zero]
        exact ret_pu (by simp) (by simp) (by simp)
      · simp [zrow_f3, fc_three]
        by_cases h3 : s = s2
        · by_cases h4 : 8 < IntKind.i8.wrap (p + p2)
          · simp [h3, h4] at hc; subst hc
            simp [h3, h4]
            refine calld_s [.l 3] (first3_ct false false true 1 4 3) (by simp) ?_
            simp [schC_zero]
            exact ret_pu (by simp) (by simp) (by simp)
          · simp [h3, h4] at hc; exact absurd hc.symm hc0
        · simp [h3] at hc; subst hc
          simp [h3]
          refine calld_s [.l 3] (first3_ct false true (decide (8 < IntKind.i8.wrap (p + p2))) 1 4 3) (by simp) ?_
          simp [schC_zero]
          exact ret_pu (by simp) (by simp) (by simp)

theorem joinS_both (s p s2 p2 : Int) (w b w2 b2 : Nat → Nat) (hs : -128 ≤ s ∧ s < 128) (hp : -128 ≤ p ∧ p < 128) (hw : ∀ i, w i < 256) (hb : ∀ i, b i < 256) (hs2 : -128 ≤ s2 ∧ s2 < 128) (hp2 : -128 ≤ p2 ∧ p2 < 128) (hw2 : ∀ i, w2 i < 256) (hb2 : ∀ i, b2 i < 256) :
    ∃ s' p' w' b' c, PC Try.prog 18 [sch s p w b, sch s2 p2 w2 b2] (.tup [sch s' p' w' b', .int .i64 c]) ∧ PC Try.prog 20 [sch s p w b, sch s2 p2 w2 b2] (.tup [sch s' p' w' b', .int .i64 c]) := by
  by_cases hc : (if (!(sok s p w b && sok s2 p2 w2 b2)) = true then 1 else if (!decide (s = s2)) = true then 4 else if decide (8 < IntKind.i8.wrap (p + p2)) = true then 3 else 0 : Int) = 0
  · have h1 : sok s p w b = true := by
      cases h : sok s p w b
      · rw [h] at hc; simp at hc
      · rfl
    have h2 : sok s2 p2 w2 b2 = true := by
      cases h : sok s2 p2 w2 b2
      · rw [h1, h] at hc; simp at hc
      · rfl
    rw [h1, h2] at hc
    have h3 : s = s2 := by
      by_cases h : s = s2
      · exact h
      · simp [h] at hc
    have h4 : ¬ 8 < IntKind.i8.wrap (p + p2) := by
      intro h; simp [h3, h] at hc
    subst h3
    have hp1 := (sok_iff.1 h1).2.1
    have hu : IntKind.u64.wrap p = p := wrap_u64 (by omega) (by omega)
    refine ⟨s, IntKind.i8.wrap (p + p2), fun i => if i < 6 then jnd p w w2 i else 0, fun i => if i < 6 then jnd p b b2 i else 0, 0, ?_, ?_⟩
    · refine pc_of spec_JoinSchemes_ok (fun ro => ?_)
      simp [spec_JoinSchemes_F, spec_JoinSchemes_M, schC_zero]
      refine call_s [.l 0] (l02Ok_ct s p w b hs hp hw hb) (by simp) ?_
      simp [h1]
      refine call_s [.l 1] (l02Ok_ct s p2 w2 b2 hs2 hp2 hw2 hb2) (by simp) ?_
      simp [h2, h4, schC_zero]
      refine wp_for 6 (fun k => ⟨[(2, .ptr (.l 0) 0), (3, .ptr (.l 1) 0), (4, .ptr (.l 2) 0), (6, .ptr (.l 3) 0), (7, .int .i64 k)], [schC s p w b, schC s p2 w2 b2, schC 0 0 (fun _ => 0) fun _ => 0, schC s (IntKind.i8.wrap (p + p2)) (fun i => if i < k then jnd p w w2 i else 0) (fun i => if i < k then jnd p b b2 i else 0)], []⟩) ?_ ?_ ?_
      · simp
      · intro k hk
        have hk1 : (k : Int) < 6 := by omega
        have hwk : IntKind.i64.wrap ((k : Int) + 1) = k + 1 := wrap_i64 (by omega) (by omega)
        simp [spec_JoinSchemes_L0, hk, hk1, schC_w hk, schC_b hk, schC_setw hk, schC_setb, hu, show ¬ p < 0 by omega, jnd_op p w w2 (by omega) hw k, jnd_op p b b2 (by omega) hb k, hwk, show 2 + k ≤ 13 by omega, show 8 + k ≤ 13 by omega]
        exact schC_congr (fun i _ => by by_cases h : i = k <;> by_cases h2 : i < k <;> simp [h, h2] <;> omega) (fun i _ => by by_cases h : i = k <;> by_cases h2 : i < k <;> simp [h, h2] <;> omega)
      · simp [spec_JoinSchemes_L0]
        exact ret_pu (by simp) (by simp) (by simp)
    · refine pc_of impl_JoinSchemes_ok (fun ro => ?_)
      simp [impl_JoinSchemes_F, impl_JoinSchemes_M, schC_zero]
      refine calld_pc (implValidScheme_pc s p w b hs hp hw hb) (by simp) (by simp) ?_
      simp [h1]
      refine calld_pc (implValidScheme_pc s p2 w2 b2 hs2 hp2 hw2 hb2) (by simp) (by simp) ?_
      simp [h2, h4, zrow_f3, fc_three]
      refine calld_s [.l 3] (first3_ct false false false 1 4 3) (by simp) ?_
      simp [schC_zero]
      refine wp_for 6 (fun k => ⟨[(2, .ptr (.l 0) 0), (3, .ptr (.l 1) 0), (4, .ptr (.l 2) 0), (7, .ptr (.l 4) 0), (45, .int .i64 k)], [schC s p w b, schC s p2 w2 b2, schC 0 0 (fun _ => 0) fun _ => 0, [.bool false, .int .i64 1, .bool false, .int .i64 4, .bool false, .int .i64 3], schC s (IntKind.i8.wrap (p + p2)) (fun i => if i < k then jnd p w w2 i else 0) (fun i => if i < k then jnd p b b2 i else 0)], []⟩) ?_ ?_ ?_
      · simp
      · intro k hk
        have hk1 : (k : Int) < 6 := by omega
        have hwk : IntKind.i64.wrap ((k : Int) + 1) = k + 1 := wrap_i64 (by omega) (by omega)
        simp [impl_JoinSchemes_L0, hk, hk1, schC_w hk, schC_b hk, schC_setw hk, schC_setb, show ¬ p < 0 by omega, jnd_op p w w2 (by omega) hw k, jnd_op p b b2 (by omega) hb k, hwk, show 2 + k ≤ 13 by omega, show 8 + k ≤ 13 by omega]
        exact schC_congr (fun i _ => by by_cases h : i = k <;> by_cases h2 : i < k <;> simp [h, h2] <;> omega) (fun i _ => by by_cases h : i = k <;> by_cases h2 : i < k <;> simp [h, h2] <;> omega)
      · simp [impl_JoinSchemes_L0]
        exact ret_pu (by simp) (by simp) (by simp)
  · exact ⟨_, _, _, _, _, joinS_no s p s2 p2 w b w2 b2 hs hp hw hb hs2 hp2 hw2 hb2 _ rfl hc⟩

theorem lawJoinSchemes (s p : Int) (w b : Nat → Nat) (hs : -128 ≤ s ∧ s < 128) (hp : -128 ≤ p ∧ p < 128) (hw : ∀ i, w i < 256) (hb : ∀ i, b i < 256) (s2 p2 : Int) (w2 b2 : Nat → Nat) (hs2 : -128 ≤ s2 ∧ s2 < 128) (hp2 : -128 ≤ p2 ∧ p2 < 128) (hw2 : ∀ i, w2 i < 256) (hb2 : ∀ i, b2 i < 256) : PC Try.prog 4 [sch s p w b, sch s2 p2 w2 b2] (.bool true) := by
  obtain ⟨s', p', w', b', c, h1, h2⟩ := joinS_both s p s2 p2 w b w2 b2 hs hp hw hb hs2 hp2 hw2 hb2
  refine pc_of laws_FnExactJoinSchemes_ok (fun ro => ?_)
  simp [laws_FnExactJoinSchemes_F, laws_FnExactJoinSchemes_M]
  refine calld_pc (toScheme_pc s p w b) (by simp) (by simp) ?_
  simp
  refine calld_pc (toScheme_pc s2 p2 w2 b2) (by simp) (by simp) ?_
  simp
  refine calld_pc h1 (by simp) (by simp) ?_
  simp [schC_zero]
  refine calld_pc (toScheme_pc s p w b) (by simp) (by simp) ?_
  simp
  refine calld_pc (toScheme_pc s2 p2 w2 b2) (by simp) (by simp) ?_
  simp
  refine calld_pc h2 (by simp) (by simp) ?_
  simp [schC_zero]
  refine call_pc (eqScheme_pc s' p' w' b') (by simp) (by simp) ?_
  simp
  exact ret_pu (by simp) (by simp) (by simp)
end Go.Proofs.Ytbajijligpkepaa
