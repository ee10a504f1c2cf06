/- A part of the proof library: names for blocks of memory, a small form of the code, and rules for walks over it. -/
import Derived.Test.YtbajijligpkepaaL3dr3
set_option linter.all false
namespace Go.Proofs.Ytbajijligpkepaa
open Go.Ab
set_option maxHeartbeats 800000

/-- The rows without one. -/
def drp (q : Nat) (f : Nat → Nat) (i : Nat) : Nat := if q ≤ i then f (i + 1) else f i

theorem drop_no (s p : Int) (w b : Nat → Nat) (hs : -128 ≤ s ∧ s < 128) (hp : -128 ≤ p ∧ p < 128) (hw : ∀ i, w i < 256) (hb : ∀ i, b i < 256) (q c : Int)
    (hc : (if (!sok s p w b) = true then 1 else if (!decide (0 ≤ q ∧ q ≤ s - 1)) = true then 2 else if decide (s = 1) = true then 4 else 0) = c) (hc0 : c ≠ 0) :
    PC Try.prog 29 [sch s p w b, .int .i64 q] (.tup [sch 0 0 (fun _ => 0) fun _ => 0, .int .i64 c]) ∧ PC Try.prog 30 [sch s p w b, .int .i64 q] (.tup [sch 0 0 (fun _ => 0) fun _ => 0, .int .i64 c]) := by
  have k1 := l02Ok_ct s p w b hs hp hw hb
  have j1 := implValidScheme_pc s p w b hs hp hw hb
  have hw1 : IntKind.i64.wrap s = s := wrap_i64 (by omega) (by omega)
  have hw2 : IntKind.i64.wrap (s - 1) = s - 1 := wrap_i64 (by omega) (by omega)
  have i1 := l00In_pc q 0 (s - 1)
  have i2 := within_pc q 0 (s - 1)
  generalize sok s p w b = A at *
  generalize decide (0 ≤ q ∧ q ≤ s - 1) = I at *
  constructor
  · refine pc_of spec_DropShare_ok (fun ro => ?_)
    simp [spec_DropShare_F, spec_DropShare_M, schC_zero]
    refine call_s [.l 0] k1 (by simp) ?_
    cases A
    · simp at hc; subst hc
      simp [schC_zero]
      exact ret_pu (by simp) (by simp) (by simp)
    · simp [hw1, hw2]
      refine call_pc i1 (by simp) (by simp) ?_
      cases I
      · simp at hc; subst hc
        simp [schC_zero]
        exact ret_pu (by simp) (by simp) (by simp)
      · by_cases h1 : s = 1
        · simp [h1] at hc; subst hc
          simp [h1, schC_zero]
          exact ret_pu (by simp) (by simp) (by simp)
        · simp [h1] at hc; exact absurd hc.symm hc0
  · refine pc_of impl_DropShare_ok (fun ro => ?_)
    simp [impl_DropShare_F, impl_DropShare_M, schC_zero]
    refine calld_pc j1 (by simp) (by simp) ?_
    simp [hw1, hw2]
    refine calld_pc i2 (by simp) (by simp) ?_
    simp [zrow_f3, fc_three]
    refine calld_s [.l 2] (first3_ct (!A) (!I) (decide (s = 1)) 1 2 4) (by simp) ?_
    have hc' : (if A = false then 1 else if I = false then 2 else if s = 1 then 4 else 0 : Int) = c := by simpa using hc
    simp [hc', hc0, schC_zero]
    exact ret_pu (by simp) (by simp) (by simp)

theorem drop_spec (n q : Nat) (p : Int) (w b : Nat → Nat) (hp : -128 ≤ p ∧ p < 128) (hw : ∀ i, w i < 256) (hb : ∀ i, b i < 256) (N : Int) (hN : ((n + 1 : Nat) : Int) = N) (hn : 1 ≤ n ∧ n ≤ 5) (hq : q ≤ n) (h1 : sok N p w b = true) : PC Try.prog 29 [sch N p w b, .int .i64 q] (.tup [sch n p (fun i => if i < n then drp q w i else 0) (fun i => if i < n then drp q b i else 0), .int .i64 0]) := by
  have hs : -128 ≤ N ∧ N < 128 := by omega
  have hw1 : IntKind.i64.wrap N = N := wrap_i64 (by omega) (by omega)
  have hw2 : IntKind.i64.wrap (N - 1) = N - 1 := wrap_i64 (by omega) (by omega)
  have hw3 : IntKind.i8.wrap (N - 1) = (n : Nat) := by rw [wrap_i8 (by omega) (by omega)]; omega
  have hw4 : IntKind.i64.wrap ((n : Nat) : Int) = (n : Nat) := wrap_i64 (by omega) (by omega)
  have h31 : ¬ N = 1 := by omega
  have h2 : 0 ≤ (q : Int) ∧ (q : Int) ≤ N - 1 := by omega
  have i1 := l00In_pc q 0 (N - 1)
  have i2 := within_pc q 0 (N - 1)
  rw [decide_eq_true h2] at i1 i2
  refine pc_of spec_DropShare_ok (fun ro => ?_)
  have k1 := l02Ok_ct N p w b hs hp hw hb
  rw [h1] at k1
  simp [spec_DropShare_F, spec_DropShare_M, schC_zero]
  refine call_s [.l 0] k1 (by simp) ?_
  simp [hw1, hw2]
  refine call_pc i1 (by simp) (by simp) ?_
  simp [h31, hw3, schC_zero]
  refine wp_for (n + 1) (fun k => ⟨[(1, .int .i64 q), (2, .ptr (.l 0) 0), (4, .ptr (.l 1) 0), (6, .ptr (.l 2) 0), (7, .int .i64 (if k ≤ q then k else k - 1 : Nat)), (8, .int .i64 k)], [schC N p w b, schC 0 0 (fun _ => 0) (fun _ => 0), schC n p (fun i => if i < (if k ≤ q then k else k - 1 : Nat) then drp q w i else 0) (fun i => if i < (if k ≤ q then k else k - 1 : Nat) then drp q b i else 0)], []⟩) ?_ ?_ ?_
  · simp
  · intro k hk
    have hk1 : (k : Int) < N := by omega
    have hk6 : k < 6 := by omega
    have hk7 : (k : Int) < 6 := by omega
    have hwk : IntKind.i64.wrap ((k : Int) + 1) = k + 1 := wrap_i64 (by omega) (by omega)
    obtain ⟨a, ha⟩ : ∃ a, a = (if k ≤ q then k else k - 1 : Nat) := ⟨_, rfl⟩
    rw [← ha]
    by_cases hkq : k = q
    · have ha2 : (if k + 1 ≤ q then k + 1 else k + 1 - 1 : Nat) = a := by rw [ha]; split <;> split <;> omega
      have hkq' : (k : Int) = q := by omega
      rw [ha2]
      have hq1 : (q : Int) < N := by omega
      have hwq : IntKind.i64.wrap ((q : Int) + 1) = q + 1 := wrap_i64 (by omega) (by omega)
      simp [spec_DropShare_L0, hq1, hw1, hkq', hwq]
    · have fct : (if k + 1 ≤ q then k + 1 else k + 1 - 1 : Nat) = a + 1 ∧ (¬ (k : Int) = q) ∧ a < 6 ∧ drp q w a = w k ∧ drp q b a = b k ∧ (a : Int) < 6 ∧ 2 + a ≤ 13 ∧ 8 + a ≤ 13 := by
        clear hw1 hw2 hw3 hw4 hwk
        rcases Nat.lt_or_ge k q with h | h
        · have e : a = k := by rw [ha, if_pos (Nat.le_of_lt h)]
          rw [e]
          exact ⟨by rw [if_pos (by omega)], by omega, hk6, by unfold drp; rw [if_neg (by omega)], by unfold drp; rw [if_neg (by omega)], hk7, by omega, by omega⟩
        · obtain ⟨k', rfl⟩ : ∃ k', k = k' + 1 := ⟨k - 1, by omega⟩
          have e : a = k' := by rw [ha, if_neg (by omega)]; rfl
          rw [e]
          exact ⟨by rw [if_neg (by omega)]; rfl, by omega, by omega, by unfold drp; rw [if_pos (by omega)], by unfold drp; rw [if_pos (by omega)], by omega, by omega, by omega⟩
      obtain ⟨ha2, hkq', ha6, hdw, hdb, ha7, hb2, hb8⟩ := fct
      have hwa : IntKind.i64.wrap ((a : Int) + 1) = a + 1 := by clear hw1 hw2 hw3 hw4 hwk; exact wrap_i64 (by omega) (by omega)
      rw [ha2]
      simp [spec_DropShare_L0, hk1, hw1, hkq']
      simp [hk6, hk7, hwk, ha6, ha7, schC_w hk6, schC_b hk6, schC_setw ha6, schC_setb, hwa, hb2, hb8]
      clear hw1 hw2 hw3 hw4 hwk hwa
      exact schC_congr (fun i _ => by by_cases h : i = a <;> by_cases h2 : i < a <;> simp [h, h2, hdw] <;> omega) (fun i _ => by by_cases h : i = a <;> by_cases h2 : i < a <;> simp [h, h2, hdb] <;> omega)
  · have ha : (if n + 1 ≤ q then n + 1 else n + 1 - 1 : Nat) = n := by split <;> omega
    rw [ha]
    simp [spec_DropShare_L0, hw1, hN]
    exact ret_pu (by simp) (by simp) (by simp)

theorem drop_impl (n q : Nat) (p : Int) (w b : Nat → Nat) (hp : -128 ≤ p ∧ p < 128) (hw : ∀ i, w i < 256) (hb : ∀ i, b i < 256) (N : Int) (hN : ((n + 1 : Nat) : Int) = N) (hn : 1 ≤ n ∧ n ≤ 5) (hq : q ≤ n) (h1 : sok N p w b = true) : PC Try.prog 30 [sch N p w b, .int .i64 q] (.tup [sch n p (fun i => if i < n then drp q w i else 0) (fun i => if i < n then drp q b i else 0), .int .i64 0]) := by
  have hs : -128 ≤ N ∧ N < 128 := by omega
  have hw1 : IntKind.i64.wrap N = N := wrap_i64 (by omega) (by omega)
  have hw2 : IntKind.i64.wrap (N - 1) = N - 1 := wrap_i64 (by omega) (by omega)
  have hw3 : IntKind.i8.wrap (N - 1) = (n : Nat) := by rw [wrap_i8 (by omega) (by omega)]; omega
  have hw4 : IntKind.i64.wrap ((n : Nat) : Int) = (n : Nat) := wrap_i64 (by omega) (by omega)
  have h31 : ¬ N = 1 := by omega
  have h2 : 0 ≤ (q : Int) ∧ (q : Int) ≤ N - 1 := by omega
  have i1 := l00In_pc q 0 (N - 1)
  have i2 := within_pc q 0 (N - 1)
  rw [decide_eq_true h2] at i1 i2
  refine pc_of impl_DropShare_ok (fun ro => ?_)
  have k1 := implValidScheme_pc N p w b hs hp hw hb
  rw [h1] at k1
  simp [impl_DropShare_F, impl_DropShare_M, schC_zero]
  refine calld_pc k1 (by simp) (by simp) ?_
  simp [hw1, hw2]
  refine calld_pc i2 (by simp) (by simp) ?_
  simp [zrow_f3, fc_three, h31]
  refine calld_s [.l 2] (first3_ct false false false 1 2 4) (by simp) ?_
  simp [schC_zero, hw3, hw4]
  refine wp_for n (fun k => ⟨[(1, .int .i64 q), (2, .ptr (.l 0) 0), (4, .ptr (.l 1) 0), (7, .ptr (.l 3) 0), (40, .int .i64 n), (41, .int .i64 k)], [schC N p w b, schC 0 0 (fun _ => 0) (fun _ => 0), [.bool false, .int .i64 1, .bool false, .int .i64 2, .bool false, .int .i64 4], schC n p (fun i => if i < k then drp q w i else 0) (fun i => if i < k then drp q b i else 0)], []⟩) ?_ ?_ ?_
  · simp
  · intro k hk
    have hk1 : (k : Int) < n := by omega
    have hk6 : k < 6 := by omega
    have hk7 : (k : Int) < 6 := by omega
    have hwk : IntKind.i64.wrap ((k : Int) + 1) = k + 1 := wrap_i64 (by omega) (by omega)
    by_cases hkq : q ≤ k
    · have hkq' : (q : Int) ≤ k := by omega
      have hj6 : k + 1 < 6 := by omega
      have hj7 : (k : Int) + 1 < 6 := by omega
      have hj8 : ((k : Int) + 1).toNat = k + 1 := by omega
      have hj9 : 0 ≤ (k : Int) + 1 := by omega
      have hdw : drp q w k = w (k + 1) := by unfold drp; rw [if_pos hkq]
      have hdb : drp q b k = b (k + 1) := by unfold drp; rw [if_pos hkq]
      simp [impl_DropShare_L0, hk1, hk6, hk7, hkq', hj6, hj7, hj8, hj9, hwk, schC_w hj6, schC_b hj6, schC_setw hk6, schC_setb, show 2 + k ≤ 13 by omega, show 8 + k ≤ 13 by omega, show 2 + (k + 1) ≤ 13 by omega, show 8 + (k + 1) ≤ 13 by omega]
      exact schC_congr (fun i _ => by by_cases h : i = k <;> by_cases h2 : i < k <;> simp [h, h2, hdw] <;> omega) (fun i _ => by by_cases h : i = k <;> by_cases h2 : i < k <;> simp [h, h2, hdb] <;> omega)
    · have hkq' : ¬ (q : Int) ≤ k := by omega
      have hdw : drp q w k = w k := by unfold drp; rw [if_neg hkq]
      have hdb : drp q b k = b k := by unfold drp; rw [if_neg hkq]
      simp [impl_DropShare_L0, hk1, hk6, hk7, hkq', hwk, schC_w hk6, schC_b hk6, schC_setw hk6, schC_setb, show 2 + k ≤ 13 by omega, show 8 + k ≤ 13 by omega]
      exact schC_congr (fun i _ => by by_cases h : i = k <;> by_cases h2 : i < k <;> simp [h, h2, hdw] <;> omega) (fun i _ => by by_cases h : i = k <;> by_cases h2 : i < k <;> simp [h, h2, hdb] <;> omega)
  · simp [impl_DropShare_L0]
    exact ret_pu (by simp) (by simp) (by simp)

theorem drop_both (s p : Int) (w b : Nat → Nat) (hs : -128 ≤ s ∧ s < 128) (hp : -128 ≤ p ∧ p < 128) (hw : ∀ i, w i < 256) (hb : ∀ i, b i < 256) (q : Int) :
    ∃ s' p' w' b' c, PC Try.prog 29 [sch s p w b, .int .i64 q] (.tup [sch s' p' w' b', .int .i64 c]) ∧ PC Try.prog 30 [sch s p w b, .int .i64 q] (.tup [sch s' p' w' b', .int .i64 c]) := by
  by_cases hc : (if (!sok s p w b) = true then 1 else if (!decide (0 ≤ q ∧ q ≤ s - 1)) = true then 2 else if decide (s = 1) = true then 4 else 0 : Int) = 0
  · have h1 : sok s p w b = true := by
      cases h : sok s p w b
      · rw [h] at hc; simp at hc
      · rfl
    rw [h1] at hc
    have h2 : 0 ≤ q ∧ q ≤ s - 1 := by
      by_cases h : 0 ≤ q ∧ q ≤ s - 1
      · exact h
      · simp [h] at hc
    have h3 : ¬ s = 1 := by
      intro h; rw [decide_eq_true h2] at hc; simp [h] at hc
    have h6 := (sok_iff.1 h1).1
    obtain ⟨m, rfl⟩ := Int.eq_ofNat_of_zero_le (show 0 ≤ s by omega)
    obtain ⟨q, rfl⟩ := Int.eq_ofNat_of_zero_le h2.1
    obtain ⟨n, rfl⟩ : ∃ n, m = n + 1 := ⟨m - 1, by omega⟩
    have e1 : ((n + 1 : Nat) : Int) = (n + 1 : Nat) := rfl
    exact ⟨n, p, _, _, 0, drop_spec n q p w b hp hw hb _ rfl (by omega) (by omega) h1, drop_impl n q p w b hp hw hb _ rfl (by omega) (by omega) h1⟩
  · exact ⟨_, _, _, _, _, drop_no s p w b hs hp hw hb q _ rfl hc⟩

theorem lawDropShare (s p : Int) (w b : Nat → Nat) (hs : -128 ≤ s ∧ s < 128) (hp : -128 ≤ p ∧ p < 128) (hw : ∀ i, w i < 256) (hb : ∀ i, b i < 256) (q : Int) (_hq : -9223372036854775808 ≤ q ∧ q ≤ 9223372036854775807) : PC Try.prog 8 [sch s p w b, .int .i64 q] (.bool true) := by
  obtain ⟨s', p', w', b', c, h1, h2⟩ := drop_both s p w b hs hp hw hb q
  refine pc_of laws_FnExactDropShare_ok (fun ro => ?_)
  simp [laws_FnExactDropShare_F, laws_FnExactDropShare_M]
  refine call_pc (toScheme_pc s p w b) (by simp) (by simp) ?_
  simp
  refine call_pc h1 (by simp) (by simp) ?_
  simp [schC_zero]
  refine call_pc (toScheme_pc s p w b) (by simp) (by simp) ?_
  simp
  refine call_pc h2 (by simp) (by simp) ?_
  simp [schC_zero]
  refine call_pc (eqScheme_pc s' p' w' b') (by simp) (by simp) ?_
  simp
  exact ret_pu (by simp) (by simp) (by simp)
end Go.Proofs.Ytbajijligpkepaa
