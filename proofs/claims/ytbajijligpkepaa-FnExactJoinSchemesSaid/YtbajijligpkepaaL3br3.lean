/- A part of the proof library: names for blocks of memory, a small form of the code, and rules for walks over it. -/
import Derived.Test.YtbajijligpkepaaL3ar3
set_option linter.all false
namespace Go.Proofs.Ytbajijligpkepaa
open Go.Ab
set_option maxHeartbeats 400000

theorem shownAt_both (p : Int) (f : Nat → Nat) (hp : -128 ≤ p ∧ p < 128) (hf : ∀ i, f i < 256) (lv : Int) :
    ∃ a c, PC Try.prog 15 [lay p f, .int .i64 lv] (.tup [.int .u64 a, .int .i64 c]) ∧ PC Try.prog 17 [lay p f, .int .i64 lv] (.tup [.int .u64 a, .int .i64 c]) := by
  by_cases h : lok p f = true
  · by_cases h2 : 0 ≤ lv ∧ lv ≤ 8
    · refine ⟨pic 64 (shownP f lv), 0, ?_, ?_⟩
      · refine pc_of spec_ShownAt_ok (fun ro => ?_)
        simp [spec_ShownAt_F, spec_ShownAt_M]
        refine call_s [.l 0] (l01Ok_ct p f hp hf) (by simp) ?_
        simp [h]
        refine call_pc (l00In_pc lv 0 8) (by simp) (by simp) ?_
        simp [h2]
        refine call_s [.l 0] (specShown_ct p f hf lv) (by simp) ?_
        simp
        exact ret_pu (by simp) (by simp) (by simp)
      · refine pc_of impl_ShownAt_ok (fun ro => ?_)
        simp [impl_ShownAt_F, impl_ShownAt_M]
        refine call_pc (implValidLayer_pc p f hp hf) (by simp) (by simp) ?_
        simp
        refine call_pc (within_pc lv 0 8) (by simp) (by simp) ?_
        simp [zrow_f2, fc_two]
        refine call_s [.l 1] (first2_ct (!lok p f) (!decide (0 ≤ lv ∧ lv ≤ 8)) 1 2) (by simp) ?_
        simp [h, h2]
        refine call_pc (implShown_pc p f hf lv) (by simp) (by simp) ?_
        simp
        exact ret_pu (by simp) (by simp) (by simp)
    · refine ⟨0, 2, ?_, ?_⟩
      · refine pc_of spec_ShownAt_ok (fun ro => ?_)
        simp [spec_ShownAt_F, spec_ShownAt_M]
        refine call_s [.l 0] (l01Ok_ct p f hp hf) (by simp) ?_
        simp [h]
        refine call_pc (l00In_pc lv 0 8) (by simp) (by simp) ?_
        simp [h2]
        exact ret_pu (by simp) (by simp) (by simp)
      · refine pc_of impl_ShownAt_ok (fun ro => ?_)
        simp [impl_ShownAt_F, impl_ShownAt_M]
        refine call_pc (implValidLayer_pc p f hp hf) (by simp) (by simp) ?_
        simp
        refine call_pc (within_pc lv 0 8) (by simp) (by simp) ?_
        simp [zrow_f2, fc_two]
        refine call_s [.l 1] (first2_ct (!lok p f) (!decide (0 ≤ lv ∧ lv ≤ 8)) 1 2) (by simp) ?_
        simp [h, h2]
        exact ret_pu (by simp) (by simp) (by simp)
  · have h : lok p f = false := by simpa using h
    refine ⟨0, 1, ?_, ?_⟩
    · refine pc_of spec_ShownAt_ok (fun ro => ?_)
      simp [spec_ShownAt_F, spec_ShownAt_M]
      refine call_s [.l 0] (l01Ok_ct p f hp hf) (by simp) ?_
      simp [h]
      exact ret_pu (by simp) (by simp) (by simp)
    · refine pc_of impl_ShownAt_ok (fun ro => ?_)
      simp [impl_ShownAt_F, impl_ShownAt_M]
      refine call_pc (implValidLayer_pc p f hp hf) (by simp) (by simp) ?_
      simp
      refine call_pc (within_pc lv 0 8) (by simp) (by simp) ?_
      simp [zrow_f2, fc_two]
      refine call_s [.l 1] (first2_ct (!lok p f) (!decide (0 ≤ lv ∧ lv ≤ 8)) 1 2) (by simp) ?_
      simp [h]
      exact ret_pu (by simp) (by simp) (by simp)

theorem lawShownAt (p : Int) (f : Nat → Nat) (hp : -128 ≤ p ∧ p < 128) (hf : ∀ i, f i < 256) (lv : Int) (_h : -9223372036854775808 ≤ lv ∧ lv ≤ 9223372036854775807) : PC Try.prog 3 [lay p f, .int .i64 lv] (.bool true) := by
  obtain ⟨a, c, h1, h2⟩ := shownAt_both p f hp hf lv
  refine pc_of laws_FnExactShownAt_ok (fun ro => ?_)
  simp [laws_FnExactShownAt_F, laws_FnExactShownAt_M]
  refine call_pc (toLayer_pc p f) (by simp) (by simp) ?_
  simp
  refine call_pc h1 (by simp) (by simp) ?_
  simp
  refine call_pc (toLayer_pc p f) (by simp) (by simp) ?_
  simp
  refine call_pc h2 (by simp) (by simp) ?_
  simp
  exact ret_pu (by simp) (by simp) (by simp)

theorem shift_no (p : Int) (f : Nat → Nat) (hp : -128 ≤ p ∧ p < 128) (hf : ∀ i, f i < 256) (e s : Int) (c : Int) (hc : (lok p f = false ∧ c = 1) ∨ (lok p f = true ∧ ¬ ((-8 ≤ e ∧ e ≤ 8) ∧ (-8 ≤ s ∧ s ≤ 8)) ∧ c = 2)) :
    PC Try.prog 39 [lay p f, .int .i64 e, .int .i64 s] (.tup [lay 0 fun _ => 0, .int .i64 c]) ∧ PC Try.prog 40 [lay p f, .int .i64 e, .int .i64 s] (.tup [lay 0 fun _ => 0, .int .i64 c]) := by
  have hw : ∀ h : ¬ ((-8 ≤ e ∧ e ≤ 8) ∧ (-8 ≤ s ∧ s ≤ 8)), (decide (-8 ≤ e ∧ e ≤ 8) && decide (-8 ≤ s ∧ s ≤ 8)) = false := fun h => by
    rw [Bool.eq_false_iff]; intro h'; simp only [Bool.and_eq_true, decide_eq_true_eq] at h'; exact h h'
  have wp1 := isShift_pc e s
  have wp2 := l01Way_pc e s
  generalize (decide (-8 ≤ e ∧ e ≤ 8) && decide (-8 ≤ s ∧ s ≤ 8)) = inn at hw wp1 wp2
  rcases hc with ⟨h, rfl⟩ | ⟨h, hn, rfl⟩
  · constructor
    · refine pc_of spec_ShiftLayer_ok (fun ro => ?_)
      simp [spec_ShiftLayer_F, spec_ShiftLayer_M, layC_zero]
      refine call_s [.l 0] (l01Ok_ct p f hp hf) (by simp) ?_
      simp [h, layC_zero]
      exact ret_pu (by simp) (by simp) (by simp)
    · refine pc_of impl_ShiftLayer_ok (fun ro => ?_)
      simp [impl_ShiftLayer_F, impl_ShiftLayer_M, layC_zero]
      refine calld_pc (implValidLayer_pc p f hp hf) (by simp) (by simp) ?_
      simp
      refine calld_pc wp1 (by simp) (by simp) ?_
      simp [zrow_f2, fc_two]
      refine calld_s [.l 4] (first2_ct (!lok p f) (!inn) 1 2) (by simp) ?_
      simp [h, layC_zero]
      exact ret_pu (by simp) (by simp) (by simp)
  · have hi := hw hn
    subst hi
    constructor
    · refine pc_of spec_ShiftLayer_ok (fun ro => ?_)
      simp [spec_ShiftLayer_F, spec_ShiftLayer_M, layC_zero]
      refine call_s [.l 0] (l01Ok_ct p f hp hf) (by simp) ?_
      simp [h]
      refine call_pc wp2 (by simp) (by simp) ?_
      simp [layC_zero]
      exact ret_pu (by simp) (by simp) (by simp)
    · refine pc_of impl_ShiftLayer_ok (fun ro => ?_)
      simp [impl_ShiftLayer_F, impl_ShiftLayer_M, layC_zero]
      refine calld_pc (implValidLayer_pc p f hp hf) (by simp) (by simp) ?_
      simp
      refine calld_pc wp1 (by simp) (by simp) ?_
      simp [zrow_f2, fc_two]
      refine calld_s [.l 4] (first2_ct (!lok p f) true 1 2) (by simp) ?_
      simp [h, layC_zero]
      exact ret_pu (by simp) (by simp) (by simp)

theorem shift_both (p : Int) (f : Nat → Nat) (hp : -128 ≤ p ∧ p < 128) (hf : ∀ i, f i < 256) (e s : Int) :
    ∃ p' f' c, PC Try.prog 39 [lay p f, .int .i64 e, .int .i64 s] (.tup [lay p' f', .int .i64 c]) ∧ PC Try.prog 40 [lay p f, .int .i64 e, .int .i64 s] (.tup [lay p' f', .int .i64 c]) := by
  by_cases h : lok p f = true
  · by_cases h2 : (-8 ≤ e ∧ e ≤ 8) ∧ (-8 ≤ s ∧ s ≤ 8)
    · have hsf : ∀ k, k < 64 → shf k e s < 64 := fun k hk => by
        by_cases hin : shIn k e s
        · exact (shf_in hin).2
        · rw [shf_out hin]; omega
      have hcl : ∀ i : Nat, i < 64 → ∀ ro, Ct Try.prog ro 84 [.int .i64 i, .ptr (.e 0) 0, .ptr (.e 1) 0, .ptr (.e 2) 0] [[.int .i64 e], [.int .i64 s], layC p f] fun v E' L' => v = .int .u8 (crr f (fun k => shf k e s) i) ∧ E' = [[.int .i64 e], [.int .i64 s], layC p f] ∧ L' = [] := fun i hi ro => by
        have hs1 := hsf i hi
        refine ct_of impl_ShiftLayer_1_ok ?_
        simp [impl_ShiftLayer_1_F, impl_ShiftLayer_1_M]
        refine call_pc (shifted_pc i hi e s h2.1 h2.2) (by simp) (by simp) ?_
        by_cases h0 : 0 ≤ shf i e s
        · obtain ⟨m, hm⟩ := Int.eq_ofNat_of_zero_le h0
          have hcr : crr f (fun k => shf k e s) i = f m := by unfold crr; rw [if_pos h0]; show f (shf i e s).toNat = f m; rw [hm]; rfl
          have hm1 : m < 64 := by omega
          have hm2 : (m : Int) < 64 := by omega
          rw [hm, hcr]
          simp [hm1, hm2, layC_f hm1, show 1 + m ≤ 64 by omega]
          exact ret_pu (by simp) (by simp) (by simp)
        · have hcr : crr f (fun k => shf k e s) i = 0 := by unfold crr; rw [if_neg h0]
          rw [hcr]
          simp [h0]
          exact ret_pu (by simp) (by simp) (by simp)
      have hw : (decide (-8 ≤ e ∧ e ≤ 8) && decide (-8 ≤ s ∧ s ≤ 8)) = true := by simp only [Bool.and_eq_true, decide_eq_true_eq]; exact h2
      have wp1 := isShift_pc e s
      have wp2 := l01Way_pc e s
      rw [hw] at wp1 wp2
      refine ⟨p, crr f fun k => shf k e s, 0, ?_, ?_⟩
      · refine pc_of spec_ShiftLayer_ok (fun ro => ?_)
        simp [spec_ShiftLayer_F, spec_ShiftLayer_M, layC_zero]
        refine call_s [.l 0] (l01Ok_ct p f hp hf) (by simp) ?_
        simp [h]
        refine call_pc wp2 (by simp) (by simp) ?_
        simp
        refine call_s [.l 0] (carried_ct p f 2 e s (fun k => shf k e s) hsf (fun k hk => from2_pc k hk e s h2.1 h2.2)) (by simp) ?_
        simp
        exact ret_pu (by simp) (by simp) (by simp)
      · refine pc_of impl_ShiftLayer_ok (fun ro => ?_)
        simp [impl_ShiftLayer_F, impl_ShiftLayer_M, layC_zero]
        refine calld_pc (implValidLayer_pc p f hp hf) (by simp) (by simp) ?_
        simp
        refine calld_pc wp1 (by simp) (by simp) ?_
        simp [zrow_f2, fc_two]
        refine calld_s [.l 4] (first2_ct (!lok p f) false 1 2) (by simp) ?_
        simp [h]
        refine call_s [.l 1, .l 2, .l 0] (each_ct (p := p) (f := f) (g := 84) (caps := [.ptr (.e 0) 0, .ptr (.e 1) 0, .ptr (.e 2) 0]) (E := [[.int .i64 e], [.int .i64 s], layC p f]) (by kernel_rfl) (by simp) (by simp) hcl) (by simp) ?_
        simp
        exact ret_pu (by simp) (by simp) (by simp)
    · exact ⟨_, _, _, shift_no p f hp hf e s 2 (.inr ⟨h, h2, rfl⟩)⟩
  · have h : lok p f = false := by simpa using h
    exact ⟨_, _, _, shift_no p f hp hf e s 1 (.inl ⟨h, rfl⟩)⟩

theorem lawShiftLayer (p : Int) (f : Nat → Nat) (hp : -128 ≤ p ∧ p < 128) (hf : ∀ i, f i < 256) (e : Int) (_he : -9223372036854775808 ≤ e ∧ e ≤ 9223372036854775807) (s : Int) (_hs : -9223372036854775808 ≤ s ∧ s ≤ 9223372036854775807) : PC Try.prog 13 [lay p f, .int .i64 e, .int .i64 s] (.bool true) := by
  obtain ⟨p', f', c, h1, h2⟩ := shift_both p f hp hf e s
  refine pc_of laws_FnExactShiftLayer_ok (fun ro => ?_)
  simp [laws_FnExactShiftLayer_F, laws_FnExactShiftLayer_M]
  refine call_pc (toLayer_pc p f) (by simp) (by simp) ?_
  simp
  refine call_pc h1 (by simp) (by simp) ?_
  simp [layC_zero]
  refine call_pc (toLayer_pc p f) (by simp) (by simp) ?_
  simp
  refine call_pc h2 (by simp) (by simp) ?_
  simp [layC_zero]
  refine call_pc (eqLayer_pc p' f') (by simp) (by simp) ?_
  simp
  exact ret_pu (by simp) (by simp) (by simp)

/-- The cells of both, side by side. -/
def jnd (p : Int) (f g : Nat → Nat) (k : Nat) : Nat := f k ||| (g k * 2 ^ p.toNat % 256)
theorem jnd_op (p : Int) (f g : Nat → Nat) (hp : 0 ≤ p) (hf : ∀ i, f i < 256) (k : Nat) : orI .u8 (f k : Int) (shlI .u8 (g k : Int) p) = (jnd p f g k : Int) := by
  obtain ⟨q, rfl⟩ := Int.eq_ofNat_of_zero_le hp
  rw [shl8, or8 (hf k) (Nat.mod_lt _ (by decide))]; rfl

theorem joined_pc (p q : Int) (f g : Nat → Nat) (hp : 0 ≤ p) (hf : ∀ i, f i < 256) : PC Try.prog 58 [lay p f, lay q g] (lay (IntKind.i8.wrap (p + q)) (jnd p f g)) := by
  have hcl : ∀ i : Nat, i < 64 → ∀ ro, Ct Try.prog ro 94 [.int .i64 i, .ptr (.e 0) 0, .ptr (.e 1) 0] [layC p f, layC q g] fun v E' L' => v = .int .u8 (jnd p f g i) ∧ E' = [layC p f, layC q g] ∧ L' = [] := fun i hi ro => by
    have hi2 : (i : Int) < 64 := by omega
    refine ct_of impl_joined_1_ok ?_
    simp [impl_joined_1_F, impl_joined_1_M, hi, hi2, layC_f hi, show 1 + i ≤ 64 by omega, show ¬ p < 0 by omega, jnd_op p f g hp hf i]
    exact ret_pu (by simp) (by simp) (by simp)
  refine pc_of impl_joined_ok (fun ro => ?_)
  simp [impl_joined_F, impl_joined_M, layC_zero]
  refine call_s [.l 0, .l 1] (each_ct (p := p) (f := f) (g := 94) (caps := [.ptr (.e 0) 0, .ptr (.e 1) 0]) (E := [layC p f, layC q g]) (by kernel_rfl) (by simp) (by simp) hcl) (by simp) ?_
  simp [layC_zero]
  exact ret_pu (by simp) (by simp) (by simp)

theorem join_both (p q : Int) (f g : Nat → Nat) (hp : -128 ≤ p ∧ p < 128) (hf : ∀ i, f i < 256) (hq : -128 ≤ q ∧ q < 128) (hg : ∀ i, g i < 256) :
    ∃ p' f' c, PC Try.prog 22 [lay p f, lay q g] (.tup [lay p' f', .int .i64 c]) ∧ PC Try.prog 23 [lay p f, lay q g] (.tup [lay p' f', .int .i64 c]) := by
  by_cases h1 : lok p f = true
  · by_cases h2 : lok q g = true
    · have hp1 := (lok_iff.1 h1).1
      have hq1 := (lok_iff.1 h2).1
      have hws : IntKind.i8.wrap (p + q) = p + q := wrap_i8 (by omega) (by omega)
      have hwp : IntKind.i64.wrap p = p := wrap_i64 (by omega) (by omega)
      have hwq : IntKind.i64.wrap q = q := wrap_i64 (by omega) (by omega)
      have hwu : IntKind.u64.wrap p = p := wrap_u64 (by omega) (by omega)
      have hwpq : IntKind.i64.wrap (p + q) = p + q := wrap_i64 (by omega) (by omega)
      by_cases h3 : 8 < p + q
      · refine ⟨0, fun _ => 0, 3, ?_, ?_⟩
        · refine pc_of spec_JoinParts_ok (fun ro => ?_)
          simp [spec_JoinParts_F, spec_JoinParts_M, layC_zero]
          refine call_s [.l 0] (l01Ok_ct p f hp hf) (by simp) ?_
          simp [h1]
          refine call_s [.l 1] (l01Ok_ct q g hq hg) (by simp) ?_
          simp [h2, hwp, hwq, hwpq, h3, layC_zero]
          exact ret_pu (by simp) (by simp) (by simp)
        · refine pc_of impl_JoinParts_ok (fun ro => ?_)
          simp [impl_JoinParts_F, impl_JoinParts_M, layC_zero, lays_put, putl_length]
          refine calld_s [.l 3] (areTwo_ct p q f g hp hf hq hg) (by simp [puL_append]) ?_
          simp [zrow_f2, fc_two, hws, h1, h2, h3]
          refine calld_s [.l 4] (first2_ct false true 1 3) (by simp) ?_
          simp [layC_zero]
          exact ret_pu (by simp) (by simp) (by simp)
      · refine ⟨p + q, jnd p f g, 0, ?_, ?_⟩
        · refine pc_of spec_JoinParts_ok (fun ro => ?_)
          simp [spec_JoinParts_F, spec_JoinParts_M, layC_zero]
          refine call_s [.l 0] (l01Ok_ct p f hp hf) (by simp) ?_
          simp [h1]
          refine call_s [.l 1] (l01Ok_ct q g hq hg) (by simp) ?_
          simp [h2, hwp, hwq, hwpq, h3, layC_zero, hws]
          refine wp_for 64 (fun k => ⟨[(2, .ptr (.l 0) 0), (3, .ptr (.l 1) 0), (4, .ptr (.l 2) 0), (6, .ptr (.l 3) 0), (7, .int .i64 k)], [layC p f, layC q g, layC 0 fun _ => 0, layC (p + q) fun i => if i < k then jnd p f g i else 0], []⟩) ?_ ?_ ?_
          · simp
          · intro k hk
            have hk1 : (k : Int) < 64 := by omega
            have hwk : IntKind.i64.wrap ((k : Int) + 1) = k + 1 := wrap_i64 (by omega) (by omega)
            simp [spec_JoinParts_L0, hk, hk1, layC_f hk, show 1 + k ≤ 64 by omega, hwu, show ¬ p < 0 by omega, jnd_op p f g (by omega) hf k, layC_set, hwk]
            exact layC_congr fun i _ => by by_cases h : i = k <;> by_cases h2 : i < k <;> simp [h, h2] <;> omega
          · simp [spec_JoinParts_L0]
            rw [show layC (p + q) (fun i => if i < 64 then jnd p f g i else 0) = layC (p + q) (jnd p f g) from layC_congr fun i hi => by simp [hi]]
            exact ret_pu (by simp) (by simp) (by simp)
        · refine pc_of impl_JoinParts_ok (fun ro => ?_)
          simp [impl_JoinParts_F, impl_JoinParts_M, layC_zero, lays_put, putl_length]
          refine calld_s [.l 3] (areTwo_ct p q f g hp hf hq hg) (by simp [puL_append]) ?_
          simp [zrow_f2, fc_two, hws, h1, h2, h3]
          refine calld_s [.l 4] (first2_ct false false 1 3) (by simp) ?_
          simp
          refine call_pc (joined_pc p q f g (by omega) hf) (by simp) (by simp) ?_
          simp [hws]
          exact ret_pu (by simp) (by simp [puL_append]) (by simp)
    · have h2 : lok q g = false := by simpa using h2
      refine ⟨0, fun _ => 0, 1, ?_, ?_⟩
      · refine pc_of spec_JoinParts_ok (fun ro => ?_)
        simp [spec_JoinParts_F, spec_JoinParts_M, layC_zero]
        refine call_s [.l 0] (l01Ok_ct p f hp hf) (by simp) ?_
        simp [h1]
        refine call_s [.l 1] (l01Ok_ct q g hq hg) (by simp) ?_
        simp [h2, layC_zero]
        exact ret_pu (by simp) (by simp) (by simp)
      · refine pc_of impl_JoinParts_ok (fun ro => ?_)
        simp [impl_JoinParts_F, impl_JoinParts_M, layC_zero, lays_put, putl_length]
        refine calld_s [.l 3] (areTwo_ct p q f g hp hf hq hg) (by simp [puL_append]) ?_
        simp [zrow_f2, fc_two, h1, h2]
        refine calld_s [.l 4] (first2_ct true (decide (8 < IntKind.i8.wrap (p + q))) 1 3) (by simp) ?_
        simp [layC_zero]
        exact ret_pu (by simp) (by simp [puL_append]) (by simp)
  · have h1 : lok p f = false := by simpa using h1
    refine ⟨0, fun _ => 0, 1, ?_, ?_⟩
    · refine pc_of spec_JoinParts_ok (fun ro => ?_)
      simp [spec_JoinParts_F, spec_JoinParts_M, layC_zero]
      refine call_s [.l 0] (l01Ok_ct p f hp hf) (by simp) ?_
      simp [h1, layC_zero]
      exact ret_pu (by simp) (by simp) (by simp)
    · refine pc_of impl_JoinParts_ok (fun ro => ?_)
      simp [impl_JoinParts_F, impl_JoinParts_M, layC_zero, lays_put, putl_length]
      refine calld_s [.l 3] (areTwo_ct p q f g hp hf hq hg) (by simp [puL_append]) ?_
      simp [zrow_f2, fc_two, h1]
      refine calld_s [.l 4] (first2_ct true (decide (8 < IntKind.i8.wrap (p + q))) 1 3) (by simp) ?_
      simp [layC_zero]
      exact ret_pu (by simp) (by simp [puL_append]) (by simp)

theorem lawJoinParts (p : Int) (f : Nat → Nat) (hp : -128 ≤ p ∧ p < 128) (hf : ∀ i, f i < 256) (q : Int) (g : Nat → Nat) (hq : -128 ≤ q ∧ q < 128) (hg : ∀ i, g i < 256) : PC Try.prog 5 [lay p f, lay q g] (.bool true) := by
  obtain ⟨p', f', c, h1, h2⟩ := join_both p q f g hp hf hq hg
  refine pc_of laws_FnExactJoinParts_ok (fun ro => ?_)
  simp [laws_FnExactJoinParts_F, laws_FnExactJoinParts_M]
  refine calld_pc (toLayer_pc p f) (by simp) (by simp) ?_
  simp
  refine calld_pc (toLayer_pc q g) (by simp) (by simp) ?_
  simp
  refine calld_pc h1 (by simp) (by simp) ?_
  simp [layC_zero]
  refine calld_pc (toLayer_pc p f) (by simp) (by simp) ?_
  simp
  refine calld_pc (toLayer_pc q g) (by simp) (by simp) ?_
  simp
  refine calld_pc h2 (by simp) (by simp) ?_
  simp [layC_zero]
  refine call_pc (eqLayer_pc p' f') (by simp) (by simp) ?_
  simp
  exact ret_pu (by simp) (by simp) (by simp)
end Go.Proofs.Ytbajijligpkepaa
