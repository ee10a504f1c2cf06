/- A part of the proof library: names for blocks of memory, a small form of the code, and rules for walks over it. -/
import Derived.Test.YteidfholicaocaaU4b
import Derived.Test.YteidfholicaocaaM3b
set_option linter.all false
namespace Go.Proofs.Yteidfholicaocaa
open Go.Ab
set_option linter.all false
set_option maxHeartbeats 800000

theorem sCode_ok' {s p : Int} {w b : Nat → Nat} {set : Nat} (h : sCode s p w b set = 0) : sok s p w b = true := by
  unfold sCode at h
  split at h
  · rename_i h1; exact h1
  · cases h
theorem eqN_blind (p : Nat) (w b : Nat → Nat) (set : Nat) : eqN p (srt p (colN 6 set w)) (srt p (colN 6 set b)) = blindB p w b set := by
  rw [Bool.eq_iff_iff, eqN_iff, srt_eq_iff (B := 64) (fun k _ => colN_lt) (fun k _ => colN_lt)]
  unfold blindB
  simp only [decide_eq_true_eq]
  exact ⟨fun h v hv => (h v hv).symm, fun h v hv => (h v hv).symm⟩

theorem learnsNothing_both (s p : Int) (w b : Nat → Nat) (hs : -128 ≤ s ∧ s < 128) (hp : -128 ≤ p ∧ p < 128) (hw : ∀ i, w i < 256) (hb : ∀ i, b i < 256) (set : Nat) (hset : set < 256) :
    ∃ (h : Bool) (c : Int), PC Try.prog 30 [sch s p w b, .int .u8 set] (.tup [.bool h, .int .i64 c]) ∧ PC Try.prog 31 [sch s p w b, .int .u8 set] (.tup [.bool h, .int .i64 c]) := by
  have k1 := l02Asked_ct s p w b hs hp hw hb set hset
  have k2 := setCode_pc s p w b hs hp hw hb set hset
  by_cases hc : sCode s p w b set = 0
  · have hok := sok_iff.1 (sCode_ok' hc)
    rw [hc] at k1 k2
    obtain ⟨m, rfl⟩ := Int.eq_ofNat_of_zero_le (show 0 ≤ p by have := hok.2.1; omega)
    have hm : m ≤ 8 := by have := hok.2.1; omega
    have k3 := l02Blind_ct s m w b hm hw hb set hset
    have k4 := learnsNothing_pc s m w b (by have := hok.2.1; omega) hm hw hb set hset
    rw [eqN_blind] at k4
    generalize blindB m w b set = r at *
    refine ⟨r, 0, ?_, ?_⟩
    · refine pc_of spec_LearnsNothing_ok (fun ro => ?_)
      simp [spec_LearnsNothing_F, spec_LearnsNothing_M]
      refine call_s [.l 0] k1 (by simp) ?_
      simp
      refine call_s [.l 0] k3 (by simp) ?_
      simp
      exact ret_pu (by simp) (by simp) (by simp)
    · refine pc_of impl_LearnsNothing_ok (fun ro => ?_)
      simp [impl_LearnsNothing_F, impl_LearnsNothing_M]
      refine call_pc k2 (by simp) (by simp) ?_
      simp
      refine call_pc k4 (by simp) (by simp) ?_
      simp
      exact ret_pu (by simp) (by simp) (by simp)
  · refine ⟨false, sCode s p w b set, ?_, ?_⟩
    · refine pc_of spec_LearnsNothing_ok (fun ro => ?_)
      simp [spec_LearnsNothing_F, spec_LearnsNothing_M]
      refine call_s [.l 0] k1 (by simp) ?_
      simp [hc]
      exact ret_pu (by simp) (by simp) (by simp)
    · refine pc_of impl_LearnsNothing_ok (fun ro => ?_)
      simp [impl_LearnsNothing_F, impl_LearnsNothing_M]
      refine call_pc k2 (by simp) (by simp) ?_
      simp [hc]
      exact ret_pu (by simp) (by simp) (by simp)
theorem lawLearnsNothing (s p : Int) (w b : Nat → Nat) (hs : -128 ≤ s ∧ s < 128) (hp : -128 ≤ p ∧ p < 128) (hw : ∀ i, w i < 256) (hb : ∀ i, b i < 256) (set : Nat) (hset : set < 256) : PC Try.prog 8 [sch s p w b, .int .u8 set] (.bool true) := by
  obtain ⟨h, c, h1, h2⟩ := learnsNothing_both s p w b hs hp hw hb set hset
  refine pc_of laws_FnExactLearnsNothing_ok (fun ro => ?_)
  simp [laws_FnExactLearnsNothing_F, laws_FnExactLearnsNothing_M]
  refine call_pc (toScheme_pc s p w b) (by simp) (by simp) ?_
  simp
  refine call_pc h1 (by simp) (by simp) ?_
  simp
  refine call_pc (toScheme_pc s p w b) (by simp) (by simp) ?_
  simp
  refine call_pc h2 (by simp) (by simp) ?_
  simp
  exact ret_pu (by simp) (by simp) (by simp)
theorem blind_pc (m : Nat) (hm : m ≤ 6) (p : Nat) (h0 : 0 < p) (hp : p ≤ 8) (w b : Nat → Nat) (hw : ∀ i, w i < 256) (hb : ∀ i, b i < 256) : PC Try.prog 82 [sch m p w b] (.int .u64 (pic (2 ^ m) (blindB p w b))) := by
  have h64 := pow_bits hm
  have h := sets_pc (g := 79) (fs := [sch m p w b]) (F := blindB p w b) m hm p w b (by kernel_rfl) (by simp) (fun i hi => by rw [← eqN_blind]; exact learnsNothing_pc m p w b h0 hp hw hb i (by omega))
  refine pc_of impl_Scheme_blind_ok (fun ro => ?_)
  generalize pic (2 ^ m) (blindB p w b) = q at *
  simp [impl_Scheme_blind_F, impl_Scheme_blind_M]
  refine call_pc h (by simp) (by simp) ?_
  simp
  exact ret_pu (by simp) (by simp) (by simp)
theorem blindSets_both (s p : Int) (w b : Nat → Nat) (hs : -128 ≤ s ∧ s < 128) (hp : -128 ≤ p ∧ p < 128) (hw : ∀ i, w i < 256) (hb : ∀ i, b i < 256) :
    ∃ (a : Nat) (c : Int), PC Try.prog 35 [sch s p w b] (.tup [.int .u64 a, .int .i64 c]) ∧ PC Try.prog 36 [sch s p w b] (.tup [.int .u64 a, .int .i64 c]) := by
  have k1 := l02Ok_ct s p w b hs hp hw hb
  have k2 := implValidScheme_pc s p w b hs hp hw hb
  cases hok : sok s p w b
  · rw [hok] at k1 k2
    refine ⟨0, 1, ?_, ?_⟩
    · refine pc_of spec_BlindSets_ok (fun ro => ?_)
      simp [spec_BlindSets_F, spec_BlindSets_M]
      refine call_s [.l 0] k1 (by simp) ?_
      simp
      exact ret_pu (by simp) (by simp) (by simp)
    · refine pc_of impl_BlindSets_ok (fun ro => ?_)
      simp [impl_BlindSets_F, impl_BlindSets_M]
      refine call_pc k2 (by simp) (by simp) ?_
      simp
      exact ret_pu (by simp) (by simp) (by simp)
  · rw [hok] at k1 k2
    obtain ⟨h1, h2, _⟩ := sok_iff.1 hok
    obtain ⟨m, rfl⟩ := Int.eq_ofNat_of_zero_le (show 0 ≤ s by omega)
    obtain ⟨q, rfl⟩ := Int.eq_ofNat_of_zero_le (show 0 ≤ p by omega)
    have k3 := l02Sets_ct m q (by omega) (by omega) w b hw hb
    have k4 := blind_pc m (by omega) q (by omega) (by omega) w b hw hb
    refine ⟨pic (2 ^ m) (blindB q w b), 0, ?_, ?_⟩
    · generalize pic (2 ^ m) (seeB w b) = see at *
      generalize pic (2 ^ m) (blindB q w b) = bl at *
      refine pc_of spec_BlindSets_ok (fun ro => ?_)
      simp [spec_BlindSets_F, spec_BlindSets_M]
      refine call_s [.l 0] k1 (by simp) ?_
      simp
      refine call_s [.l 0] k3 (by simp) ?_
      simp
      exact ret_pu (by simp) (by simp) (by simp)
    · generalize pic (2 ^ m) (blindB q w b) = bl at *
      refine pc_of impl_BlindSets_ok (fun ro => ?_)
      simp [impl_BlindSets_F, impl_BlindSets_M]
      refine call_pc k2 (by simp) (by simp) ?_
      simp
      refine call_pc k4 (by simp) (by simp) ?_
      simp
      exact ret_pu (by simp) (by simp) (by simp)
theorem lawBlindSets (s p : Int) (w b : Nat → Nat) (hs : -128 ≤ s ∧ s < 128) (hp : -128 ≤ p ∧ p < 128) (hw : ∀ i, w i < 256) (hb : ∀ i, b i < 256) : PC Try.prog 10 [sch s p w b] (.bool true) := by
  obtain ⟨a, c, h1, h2⟩ := blindSets_both s p w b hs hp hw hb
  refine pc_of laws_FnExactBlindSets_ok (fun ro => ?_)
  simp [laws_FnExactBlindSets_F, laws_FnExactBlindSets_M]
  refine call_pc (toScheme_pc s p w b) (by simp) (by simp) ?_
  simp
  refine call_pc h1 (by simp) (by simp) ?_
  simp
  refine call_pc (toScheme_pc s p w b) (by simp) (by simp) ?_
  simp
  refine call_pc h2 (by simp) (by simp) ?_
  simp
  exact ret_pu (by simp) (by simp) (by simp)
def whN (m : Nat) : Nat := pic (2 ^ m) fun _ => true
theorem pic_true : ∀ n, pic n (fun _ => true) = 2 ^ n - 1
  | 0 => rfl
  | n + 1 => by
    rw [pic, pic_true n, if_pos rfl]
    have h : 2 ^ n - 1 < 2 ^ n := by have := Nat.pow_pos (a := 2) (n := n) (by decide); omega
    have := Nat.two_pow_add_eq_or_of_lt h 1
    rw [Nat.mul_one] at this
    rw [Nat.or_comm, ← this, Nat.pow_succ]; omega
theorem always_pc (i : Nat) : PC Try.prog 128 ([] ++ [.int .u8 i]) (.bool true) := by
  refine pc_of impl_Scheme_isSound_1_ok (fun ro => ?_)
  simp [impl_Scheme_isSound_1_F, impl_Scheme_isSound_1_M]
  exact ret_pu (by simp) (by simp) (by simp)
theorem isSound_pc (m : Nat) (hm : m ≤ 6) (p : Nat) (h0 : 0 < p) (hp : p ≤ 8) (w b : Nat → Nat) (hw : ∀ i, w i < 256) (hb : ∀ i, b i < 256) : PC Try.prog 84 [sch m p w b] (.bool (decide (orI .u64 (pic (2 ^ m) (seeB w b) : Int) (pic (2 ^ m) (blindB p w b) : Int) = (whN m : Int)))) := by
  have h1 := seeing_pc m hm p w b hw hb
  have h2 := blind_pc m hm p h0 hp w b hw hb
  have h3 := sets_pc (g := 128) (fs := []) (F := fun _ => true) m hm p w b (by kernel_rfl) (by simp) (fun i _ => always_pc i)
  rw [show pic (2 ^ m) (fun _ => true) = whN m from rfl] at h3
  generalize pic (2 ^ m) (seeB w b) = q1 at *
  generalize pic (2 ^ m) (blindB p w b) = q2 at *
  generalize whN m = q3 at *
  refine pc_of impl_Scheme_isSound_ok (fun ro => ?_)
  simp [impl_Scheme_isSound_F, impl_Scheme_isSound_M]
  refine calld_pc h1 (by simp) (by simp) ?_
  simp
  refine calld_pc h2 (by simp) (by simp) ?_
  simp
  refine calld_pc h3 (by simp) (by simp) ?_
  simp
  exact ret_pu (by simp) (by simp) (by simp)
theorem l02Whole_pc (m : Nat) (hm : m ≤ 6) : PC Try.prog 83 [.int .i8 m] (.int .u64 (whN m)) := by
  refine pc_of spec_l02Whole_ok (fun ro => ?_)
  have hw : whN m = 2 ^ 2 ^ m - 1 := pic_true _
  by_cases h6 : m = 6
  · subst h6
    have h : whN 6 = 18446744073709551615 := by rw [hw]
    simp [spec_l02Whole_F, spec_l02Whole_M, h]
    exact ret_pu (by simp) (by simp) (by simp)
  · have h1 : ∀ m : Fin 6, shlI .u64 1 (IntKind.u64.wrap (m.val : Int)) = ((2 ^ m.val : Nat) : Int) ∧ IntKind.u64.wrap (m.val : Int) = (m.val : Int) := by decide +kernel
    have h2 : ∀ m : Fin 6, IntKind.u64.wrap (shlI .u64 1 ((2 ^ m.val : Nat) : Int) - 1) = ((2 ^ 2 ^ m.val - 1 : Nat) : Int) := by decide +kernel
    have e1 := (h1 ⟨m, by omega⟩).1
    have e2 := h2 ⟨m, by omega⟩
    have e3 := (h1 ⟨m, by omega⟩).2
    simp only at e1 e2 e3
    rw [← hw] at e2
    have e4 : ¬ (m : Int) = 6 := by omega
    rw [e3] at e1
    generalize whN m = q at *
    generalize 2 ^ m = y at *
    generalize hz : shlI .u64 1 (y : Int) = z at *
    simp [spec_l02Whole_F, spec_l02Whole_M, e4, e3, e1, hz, e2]
    exact ret_pu (by simp) (by simp) (by simp)
theorem isSound_both (s p : Int) (w b : Nat → Nat) (hs : -128 ≤ s ∧ s < 128) (hp : -128 ≤ p ∧ p < 128) (hw : ∀ i, w i < 256) (hb : ∀ i, b i < 256) :
    ∃ (a : Bool) (c : Int), PC Try.prog 37 [sch s p w b] (.tup [.bool a, .int .i64 c]) ∧ PC Try.prog 38 [sch s p w b] (.tup [.bool a, .int .i64 c]) := by
  have k1 := l02Ok_ct s p w b hs hp hw hb
  have k2 := implValidScheme_pc s p w b hs hp hw hb
  cases hok : sok s p w b
  · rw [hok] at k1 k2
    refine ⟨false, 1, ?_, ?_⟩
    · refine pc_of spec_IsSound_ok (fun ro => ?_)
      simp [spec_IsSound_F, spec_IsSound_M]
      refine call_s [.l 0] k1 (by simp) ?_
      simp
      exact ret_pu (by simp) (by simp) (by simp)
    · refine pc_of impl_IsSound_ok (fun ro => ?_)
      simp [impl_IsSound_F, impl_IsSound_M]
      refine call_pc k2 (by simp) (by simp) ?_
      simp
      exact ret_pu (by simp) (by simp) (by simp)
  · rw [hok] at k1 k2
    obtain ⟨h1, h2, _⟩ := sok_iff.1 hok
    obtain ⟨m, rfl⟩ := Int.eq_ofNat_of_zero_le (show 0 ≤ s by omega)
    obtain ⟨q, rfl⟩ := Int.eq_ofNat_of_zero_le (show 0 ≤ p by omega)
    have k3 := l02Sets_ct m q (by omega) (by omega) w b hw hb
    have k4 := isSound_pc m (by omega) q (by omega) (by omega) w b hw hb
    have k5 := l02Whole_pc m (by omega)
    generalize pic (2 ^ m) (seeB w b) = see at *
    generalize pic (2 ^ m) (blindB q w b) = bl at *
    generalize whN m = wh at *
    refine ⟨decide (orI .u64 (see : Int) (bl : Int) = (wh : Int)), 0, And.symm ⟨?_, ?_⟩⟩
    · refine pc_of impl_IsSound_ok (fun ro => ?_)
      simp [impl_IsSound_F, impl_IsSound_M]
      refine call_pc k2 (by simp) (by simp) ?_
      simp
      refine call_pc k4 (by simp) (by simp) ?_
      simp
      exact ret_pu (by simp) (by simp) (by simp)
    · refine pc_of spec_IsSound_ok (fun ro => ?_)
      simp [spec_IsSound_F, spec_IsSound_M]
      refine call_s [.l 0] k1 (by simp) ?_
      simp
      refine call_s [.l 0] k3 (by simp) ?_
      simp
      refine call_pc k5 (by simp) (by simp) ?_
      simp
      exact ret_pu (by simp) (by simp) (by simp)
theorem lawIsSound (s p : Int) (w b : Nat → Nat) (hs : -128 ≤ s ∧ s < 128) (hp : -128 ≤ p ∧ p < 128) (hw : ∀ i, w i < 256) (hb : ∀ i, b i < 256) : PC Try.prog 11 [sch s p w b] (.bool true) := by
  obtain ⟨a, c, h1, h2⟩ := isSound_both s p w b hs hp hw hb
  refine pc_of laws_FnExactIsSound_ok (fun ro => ?_)
  simp [laws_FnExactIsSound_F, laws_FnExactIsSound_M]
  refine call_pc (toScheme_pc s p w b) (by simp) (by simp) ?_
  simp
  refine call_pc h1 (by simp) (by simp) ?_
  simp
  refine call_pc (toScheme_pc s p w b) (by simp) (by simp) ?_
  simp
  refine call_pc h2 (by simp) (by simp) ?_
  simp
  exact ret_pu (by simp) (by simp) (by simp)
end Go.Proofs.Yteidfholicaocaa
