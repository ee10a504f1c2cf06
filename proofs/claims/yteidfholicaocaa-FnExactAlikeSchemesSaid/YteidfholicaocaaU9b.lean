/- A part of the proof library: names for blocks of memory, a small form of the code, and rules for walks over it. -/
import Derived.Test.YteidfholicaocaaU8b
set_option linter.all false
namespace Go.Proofs.Yteidfholicaocaa
open Go.Ab
set_option linter.all false
set_option maxHeartbeats 800000

def schL (s p : Int) (w b : Nat → Nat) : List Int := s :: p :: ((List.range 6).map fun i => (w i : Int)) ++ (List.range 6).map fun i => (b i : Int)
theorem nums_sch (s p : Int) (w b : Nat → Nat) : nums (.i8 :: .i8 :: List.replicate 12 .u8) (schC s p w b) = some (schL s p w b) := by
  rfl

theorem alikeSchemes_both (s p : Int) (w b : Nat → Nat) (hs : -128 ≤ s ∧ s < 128) (hp : -128 ≤ p ∧ p < 128) (hw : ∀ i, w i < 256) (hb : ∀ i, b i < 256)
    (s2 p2 : Int) (w2 b2 : Nat → Nat) (hs2 : -128 ≤ s2 ∧ s2 < 128) (hp2 : -128 ≤ p2 ∧ p2 < 128) (hw2 : ∀ i, w2 i < 256) (hb2 : ∀ i, b2 i < 256) :
    ∃ (a : Bool) (c : Int), PC Try.prog 28 [sch s p w b, sch s2 p2 w2 b2] (.tup [.bool a, .int .i64 c]) ∧ PC Try.prog 29 [sch s p w b, sch s2 p2 w2 b2] (.tup [.bool a, .int .i64 c]) := by
  have k1 := l02Ok_ct s p w b hs hp hw hb
  have k2 := implValidScheme_pc s p w b hs hp hw hb
  have j1 := l02Ok_ct s2 p2 w2 b2 hs2 hp2 hw2 hb2
  have j2 := implValidScheme_pc s2 p2 w2 b2 hs2 hp2 hw2 hb2
  cases hok : sok s p w b
  · rw [hok] at k1 k2
    refine ⟨false, 1, ?_, ?_⟩
    · refine pc_of spec_AlikeSchemes_ok (fun ro => ?_)
      simp [spec_AlikeSchemes_F, spec_AlikeSchemes_M]
      refine call_s [.l 0] k1 (by simp) ?_
      simp
      exact ret_pu (by simp) (by simp) (by simp)
    · refine pc_of impl_AlikeSchemes_ok (fun ro => ?_)
      simp [impl_AlikeSchemes_F, impl_AlikeSchemes_M]
      refine call_pc k2 (by simp) (by simp) ?_
      simp
      exact ret_pu (by simp) (by simp) (by simp)
  · cases hok2 : sok s2 p2 w2 b2
    · rw [hok] at k1 k2
      rw [hok2] at j1 j2
      refine ⟨false, 1, ?_, ?_⟩
      · refine pc_of spec_AlikeSchemes_ok (fun ro => ?_)
        simp only [spec_AlikeSchemes_F, spec_AlikeSchemes_M]
        refine wp_seq_opq fun R hR => ?_
        simp
        subst hR
        refine wp_seq_opq fun R hR => ?_
        simp
        refine call_s [.l 0] k1 (by simp) ?_
        simp
        refine call_s [.l 1] j1 (by simp) ?_
        simp
        exact ret_pu (by simp) (by simp) (by simp)
      · refine pc_of impl_AlikeSchemes_ok (fun ro => ?_)
        simp only [impl_AlikeSchemes_F, impl_AlikeSchemes_M]
        refine wp_seq_opq fun R hR => ?_
        simp
        subst hR
        refine wp_seq_opq fun R hR => ?_
        simp
        refine call_pc k2 (by simp) (by simp) ?_
        simp
        refine call_pc j2 (by simp) (by simp) ?_
        simp
        exact ret_pu (by simp) (by simp) (by simp)
    · rw [hok] at k1 k2
      rw [hok2] at j1 j2
      obtain ⟨h1, h2, _⟩ := sok_iff.1 hok
      obtain ⟨g1, g2, _⟩ := sok_iff.1 hok2
      obtain ⟨m, rfl⟩ := Int.eq_ofNat_of_zero_le (show 0 ≤ s by omega)
      obtain ⟨q, rfl⟩ := Int.eq_ofNat_of_zero_le (show 0 ≤ p by omega)
      obtain ⟨m2, rfl⟩ := Int.eq_ofNat_of_zero_le (show 0 ≤ s2 by omega)
      obtain ⟨q2, rfl⟩ := Int.eq_ofNat_of_zero_le (show 0 ≤ p2 by omega)
      obtain ⟨zw, zb⟩ := sok_zero2 hok
      obtain ⟨zw2, zb2⟩ := sok_zero2 hok2
      have k3 := l02Sort_ct m (by omega) q (by omega) (by omega) w b hw hb zw zb
      have k4 := sorted_pc m (by omega) q (by omega) (by omega) w b hw hb zw zb
      have j3 := l02Sort_ct m2 (by omega) q2 (by omega) (by omega) w2 b2 hw2 hb2 zw2 zb2
      have j4 := sorted_pc m2 (by omega) q2 (by omega) (by omega) w2 b2 hw2 hb2 zw2 zb2
      have n1 := nums_sch m q (sRow q w) (sRow q b)
      have n2 := nums_sch m2 q2 (sRow q2 w2) (sRow q2 b2)
      generalize sRow q w = W at *
      generalize sRow q b = B at *
      generalize sRow q2 w2 = W2 at *
      generalize sRow q2 b2 = B2 at *
      generalize schL m q W B = lf at *
      generalize schL m2 q2 W2 B2 = lg at *
      refine ⟨decide (lf = lg), 0, ?_, ?_⟩
      · refine pc_of spec_AlikeSchemes_ok (fun ro => ?_)
        simp only [spec_AlikeSchemes_F, spec_AlikeSchemes_M]
        generalize (IntKind.i8 :: IntKind.i8 :: List.replicate 12 IntKind.u8) = ks at *
        refine wp_seq_opq fun R hR => ?_
        simp
        subst hR
        refine wp_seq_opq fun R hR => ?_
        simp
        refine call_s [.l 0] k1 (by simp) ?_
        simp
        refine call_s [.l 1] j1 (by simp) ?_
        simp
        subst hR
        simp
        refine call_s [.l 0] k3 (by simp) ?_
        simp
        refine call_s [.l 1] j3 (by simp) ?_
        simp [n1, n2]
        exact ret_pu (by simp) (by simp) (by simp)
      · refine pc_of impl_AlikeSchemes_ok (fun ro => ?_)
        simp only [impl_AlikeSchemes_F, impl_AlikeSchemes_M]
        generalize (IntKind.i8 :: IntKind.i8 :: List.replicate 12 IntKind.u8) = ks at *
        refine wp_seq_opq fun R hR => ?_
        simp
        subst hR
        refine wp_seq_opq fun R hR => ?_
        simp
        refine call_pc k2 (by simp) (by simp) ?_
        simp
        refine call_pc j2 (by simp) (by simp) ?_
        simp
        subst hR
        simp
        refine calld_pc k4 (by simp) (by simp) ?_
        simp
        refine calld_pc j4 (by simp) (by simp) ?_
        simp [n1, n2]
        exact ret_pu (by simp) (by simp) (by simp)
theorem lawAlikeSchemes (s p : Int) (w b : Nat → Nat) (hs : -128 ≤ s ∧ s < 128) (hp : -128 ≤ p ∧ p < 128) (hw : ∀ i, w i < 256) (hb : ∀ i, b i < 256)
    (s2 p2 : Int) (w2 b2 : Nat → Nat) (hs2 : -128 ≤ s2 ∧ s2 < 128) (hp2 : -128 ≤ p2 ∧ p2 < 128) (hw2 : ∀ i, w2 i < 256) (hb2 : ∀ i, b2 i < 256) : PC Try.prog 7 [sch s p w b, sch s2 p2 w2 b2] (.bool true) := by
  obtain ⟨a, c, h1, h2⟩ := alikeSchemes_both s p w b hs hp hw hb s2 p2 w2 b2 hs2 hp2 hw2 hb2
  refine pc_of laws_FnExactAlikeSchemes_ok (fun ro => ?_)
  simp only [laws_FnExactAlikeSchemes_F, laws_FnExactAlikeSchemes_M]
  refine wp_seq_opq fun R hR => ?_
  simp
  subst hR
  refine wp_seq_opq fun R hR => ?_
  simp
  refine calld_pc (toScheme_pc s p w b) (by simp) (by simp) ?_
  simp
  refine calld_pc (toScheme_pc s2 p2 w2 b2) (by simp) (by simp) ?_
  simp
  refine calld_pc h1 (by simp) (by simp) ?_
  simp
  subst hR
  refine wp_seq_opq fun R hR => ?_
  simp
  refine calld_pc (toScheme_pc s p w b) (by simp) (by simp) ?_
  simp
  refine calld_pc (toScheme_pc s2 p2 w2 b2) (by simp) (by simp) ?_
  simp
  refine calld_pc h2 (by simp) (by simp) ?_
  simp
  subst hR
  simp
  exact ret_pu (by simp) (by simp) (by simp)
end Go.Proofs.Yteidfholicaocaa
