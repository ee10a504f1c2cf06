/- A part of the proof library: names for blocks of memory, a small form of the code, and rules for walks over it. -/
import Derived.Test.YteidfholicaocaaU7b
import Derived.Test.YteidfholicaocaaU4b
set_option linter.all false
namespace Go.Proofs.Yteidfholicaocaa
open Go.Ab
set_option linter.all false
set_option maxHeartbeats 800000

theorem all_val : ∀ m : Fin 7, IntKind.u8.wrap (shlI .u8 1 (m.val : Int) - 1) = ((2 ^ m.val - 1 : Nat) : Int) := by decide +kernel
theorem all_lt : ∀ m : Fin 7, 2 ^ m.val - 1 < 256 := by decide
theorem colN_all {m : Nat} (hm : m ≤ 6) {r : Nat → Nat} (hr : ∀ i, i < 6 → m ≤ i → r i = 0) (k : Nat) : colN 6 (2 ^ m - 1) r k = colN 6 63 r k := by
  apply Nat.eq_of_testBit_eq
  intro i
  rw [colN, colN, pic_testBit, pic_testBit, show 63 = 2 ^ 6 - 1 from rfl, Nat.testBit_two_pow_sub_one, Nat.testBit_two_pow_sub_one]
  by_cases h6 : i < 6
  · by_cases hi : i < m
    · simp [h6, hi]
    · simp [h6, hi, hr i h6 (by omega)]
  · simp [h6]
theorem colN_bound {m : Nat} {r : Nat → Nat} (hr : ∀ i, i < 6 → m ≤ i → r i = 0) (k : Nat) : colN 6 63 r k < 2 ^ m := by
  apply Nat.lt_pow_two_of_testBit
  intro i hi
  rw [colN, pic_testBit]
  by_cases h6 : i < 6
  · simp [hr i h6 hi]
  · simp [h6]
theorem rowN_zero {n : Nat} {f : Nat → Nat} {m i : Nat} (hf : ∀ k, k < n → f k < 2 ^ m) (hi : m ≤ i) : rowN n f i = 0 := by
  apply Nat.eq_of_testBit_eq
  intro k
  rw [rowN, pic_testBit, Nat.zero_testBit]
  by_cases hk : k < n
  · rw [Nat.testBit_lt_two_pow (Nat.lt_of_lt_of_le (hf k hk) (Nat.pow_le_pow_right (by decide) hi)), Bool.and_false]
  · simp [hk]
/-- The rows of the columns in order. -/
def sRow (p : Nat) (r : Nat → Nat) : Nat → Nat := rowN p (srt p (colN 6 63 r))

theorem sorted_pc (m : Nat) (hm : m ≤ 6) (p : Nat) (h0 : 0 < p) (hp : p ≤ 8) (w b : Nat → Nat) (hw : ∀ i, w i < 256) (hb : ∀ i, b i < 256) (zw : ∀ i, i < 6 → m ≤ i → w i = 0) (zb : ∀ i, i < 6 → m ≤ i → b i = 0) : PC Try.prog 75 [sch m p w b] (sch m p (sRow p w) (sRow p b)) := by
  have k1 := all_pc m p w b (by omega)
  have ev := all_val ⟨m, by omega⟩
  simp only at ev
  rw [ev] at k1
  have k2 := sortedColumns_ct m p w b h0 hp hw hb (2 ^ m - 1) (all_lt ⟨m, by omega⟩) false
  have k3 := sortedColumns_ct m p w b h0 hp hw hb (2 ^ m - 1) (all_lt ⟨m, by omega⟩) true
  rw [show rws false w b = w from rfl, show colN 6 (2 ^ m - 1) w = colN 6 63 w from funext (colN_all hm zw)] at k2
  rw [show rws true w b = b from rfl, show colN 6 (2 ^ m - 1) b = colN 6 63 b from funext (colN_all hm zb)] at k3
  have b2 : ∀ k, k < p → srt p (colN 6 63 w) k < 256 := fun k hk => srt_bound (fun k _ => colN_lt8 (by omega)) hk
  have b3 : ∀ k, k < p → srt p (colN 6 63 b) k < 256 := fun k hk => srt_bound (fun k _ => colN_lt8 (by omega)) hk
  unfold sRow
  generalize srt p (colN 6 63 w) = f at *
  generalize srt p (colN 6 63 b) = g at *
  generalize 2 ^ m - 1 = a at *
  have k4 := rowsOf_ct p hp m p w b f b2 false
  have k5 := rowsOf_ct p hp m p (rowN p f) b g b3 true
  refine pc_of impl_Scheme_sorted_ok (fun ro => ?_)
  simp only [impl_Scheme_sorted_F, impl_Scheme_sorted_M]
  refine wp_seq_opq fun R hR => ?_
  simp [schC_zero]
  subst hR
  refine wp_seq_opq fun R hR => ?_
  simp
  refine calld_pc k1 (by simp) (by simp) ?_
  simp
  refine calld_r [] k2 (by simp) (by simp) ?_
  simp
  refine calld_pc k1 (by simp) (by simp) ?_
  simp
  refine calld_r [] k3 (by simp) (by simp) ?_
  simp
  subst hR
  refine wp_seq_opq fun R hR => ?_
  simp
  refine call_w [.l 0, .l 2] k4 rfl (by simp) ?_
  simp
  subst hR
  refine wp_seq_opq fun R hR => ?_
  simp
  refine call_w [.l 0, .l 3] k5 rfl (by simp) ?_
  simp
  subst hR
  simp
  exact ret_pu (by simp) (by simp) (by simp)
theorem l02Sort_ct (m : Nat) (hm : m ≤ 6) (p : Nat) (h0 : 0 < p) (hp : p ≤ 8) (w b : Nat → Nat) (hw : ∀ i, w i < 256) (hb : ∀ i, b i < 256) (zw : ∀ i, i < 6 → m ≤ i → w i = 0) (zb : ∀ i, i < 6 → m ≤ i → b i = 0) (ro : Bool) :
    Ct Try.prog ro 73 [.ptr (.e 0) 0] [schC m p w b] fun v E' L' => v = sch m p (sRow p w) (sRow p b) ∧ E' = [schC m p w b] ∧ L' = [] := by
  have k2 := l02Columns_ct m p w b hp hw hb 63 (by omega) false
  have k3 := l02Columns_ct m p w b hp hw hb 63 (by omega) true
  rw [show rws false w b = w from rfl] at k2
  rw [show rws true w b = b from rfl] at k3
  have c2 : ∀ k, k < p → srt p (colN 6 63 w) k < 64 := fun k hk => srt_bound (fun k _ => colN_lt) hk
  have c3 : ∀ k, k < p → srt p (colN 6 63 b) k < 64 := fun k hk => srt_bound (fun k _ => colN_lt) hk
  have k4 := l02Listed_ct (colh (colN 6 63 w) p) p (by omega) (srt p (colN 6 63 w)) (srt_sd _ _) c2 (fun c _ => (colh_srt _ _ _).symm)
  have k5 := l02Listed_ct (colh (colN 6 63 b) p) p (by omega) (srt p (colN 6 63 b)) (srt_sd _ _) c3 (fun c _ => (colh_srt _ _ _).symm)
  have k6 := l02From_ct m p hm hp (srt p (colN 6 63 w)) (srt p (colN 6 63 b)) (fun k hk => Nat.lt_trans (c2 k hk) (by decide)) (fun k hk => Nat.lt_trans (c3 k hk) (by decide))
  have e2 : ∀ k, k < p → srt p (colN 6 63 w) k < 2 ^ m := fun k hk => srt_bound (fun k _ => colN_bound zw k) hk
  have e3 : ∀ k, k < p → srt p (colN 6 63 b) k < 2 ^ m := fun k hk => srt_bound (fun k _ => colN_bound zb k) hk
  have hv : sch m p (fun i => if i < m then rowN p (srt p (colN 6 63 w)) i else 0) (fun i => if i < m then rowN p (srt p (colN 6 63 b)) i else 0) = sch m p (sRow p w) (sRow p b) := by
    unfold sRow
    exact congrArg V.agg (schC_congr (fun i _ => by by_cases h : i < m <;> simp [h]; exact (rowN_zero e2 (by omega)).symm) (fun i _ => by by_cases h : i < m <;> simp [h]; exact (rowN_zero e3 (by omega)).symm))
  rw [hv] at k6
  generalize sRow p w = W at *
  generalize sRow p b = B at *
  generalize srt p (colN 6 63 w) = f at *
  generalize srt p (colN 6 63 b) = g at *
  generalize colh (colN 6 63 w) p = hf at *
  generalize colh (colN 6 63 b) p = hg at *
  refine ct_of spec_l02Sort_ok ?_
  simp only [spec_l02Sort_F, spec_l02Sort_M]
  refine wp_seq_opq fun R hR => ?_
  simp [schC_zero]
  subst hR
  refine wp_seq_opq fun R hR => ?_
  simp
  refine calld_r [.e 0] (L2 := []) k2 (by simp) (by simp) ?_
  simp
  refine calld_r [] k4 (by simp) (by simp) ?_
  simp
  refine calld_r [.e 0] (L2 := []) k3 (by simp) (by simp) ?_
  simp
  refine calld_r [] k5 (by simp) (by simp) ?_
  simp
  refine calld_r [.l 1, .l 2] (L2 := []) k6 (by simp) (by simp) ?_
  simp
  subst hR
  simp
  exact ret_pu (by simp) (by simp) (by simp)
theorem sok_zero2 {m : Nat} {p : Int} {w b : Nat → Nat} (h : sok m p w b = true) : (∀ i, i < 6 → m ≤ i → w i = 0) ∧ ∀ i, i < 6 → m ≤ i → b i = 0 := by
  have h3 := (sok_iff.1 h).2.2
  refine ⟨fun i hi hm => ?_, fun i hi hm => ?_⟩
  · have := (h3 i hi).2 (by omega)
    exact Nat.eq_zero_of_le_zero (this ▸ Nat.left_le_or)
  · have := (h3 i hi).2 (by omega)
    exact Nat.eq_zero_of_le_zero (this ▸ Nat.right_le_or)
theorem sortScheme_both (s p : Int) (w b : Nat → Nat) (hs : -128 ≤ s ∧ s < 128) (hp : -128 ≤ p ∧ p < 128) (hw : ∀ i, w i < 256) (hb : ∀ i, b i < 256) :
    ∃ (s' p' : Int) (w' b' : Nat → Nat) (c : Int), PC Try.prog 32 [sch s p w b] (.tup [sch s' p' w' b', .int .i64 c]) ∧ PC Try.prog 33 [sch s p w b] (.tup [sch s' p' w' b', .int .i64 c]) := by
  have k1 := l02Ok_ct s p w b hs hp hw hb
  have k2 := implValidScheme_pc s p w b hs hp hw hb
  cases hok : sok s p w b
  · rw [hok] at k1 k2
    refine ⟨0, 0, fun _ => 0, fun _ => 0, 1, ?_, ?_⟩
    · refine pc_of spec_SortScheme_ok (fun ro => ?_)
      simp [spec_SortScheme_F, spec_SortScheme_M, schC_zero]
      refine call_s [.l 0] k1 (by simp) ?_
      simp
      exact ret_pu (by simp) (by simp) (by simp)
    · refine pc_of impl_SortScheme_ok (fun ro => ?_)
      simp [impl_SortScheme_F, impl_SortScheme_M, schC_zero]
      refine call_pc k2 (by simp) (by simp) ?_
      simp
      exact ret_pu (by simp) (by simp) (by simp)
  · rw [hok] at k1 k2
    obtain ⟨h1, h2, _⟩ := sok_iff.1 hok
    obtain ⟨m, rfl⟩ := Int.eq_ofNat_of_zero_le (show 0 ≤ s by omega)
    obtain ⟨q, rfl⟩ := Int.eq_ofNat_of_zero_le (show 0 ≤ p by omega)
    obtain ⟨zw, zb⟩ := sok_zero2 hok
    have k3 := l02Sort_ct m (by omega) q (by omega) (by omega) w b hw hb zw zb
    have k4 := sorted_pc m (by omega) q (by omega) (by omega) w b hw hb zw zb
    refine ⟨m, q, sRow q w, sRow q b, 0, ?_, ?_⟩
    · generalize sRow q w = W at *
      generalize sRow q b = B at *
      refine pc_of spec_SortScheme_ok (fun ro => ?_)
      simp [spec_SortScheme_F, spec_SortScheme_M, schC_zero]
      refine call_s [.l 0] k1 (by simp) ?_
      simp
      refine call_s [.l 0] k3 (by simp) ?_
      simp
      exact ret_pu (by simp) (by simp) (by simp)
    · generalize sRow q w = W at *
      generalize sRow q b = B at *
      refine pc_of impl_SortScheme_ok (fun ro => ?_)
      simp [impl_SortScheme_F, impl_SortScheme_M, schC_zero]
      refine call_pc k2 (by simp) (by simp) ?_
      simp
      refine call_pc k4 (by simp) (by simp) ?_
      simp
      exact ret_pu (by simp) (by simp) (by simp)
theorem lawSortScheme (s p : Int) (w b : Nat → Nat) (hs : -128 ≤ s ∧ s < 128) (hp : -128 ≤ p ∧ p < 128) (hw : ∀ i, w i < 256) (hb : ∀ i, b i < 256) : PC Try.prog 9 [sch s p w b] (.bool true) := by
  obtain ⟨s', p', w', b', c, h1, h2⟩ := sortScheme_both s p w b hs hp hw hb
  refine pc_of laws_FnExactSortScheme_ok (fun ro => ?_)
  simp [laws_FnExactSortScheme_F, laws_FnExactSortScheme_M, schC_zero]
  refine call_pc (toScheme_pc s p w b) (by simp) (by simp) ?_
  simp
  refine call_pc h1 (by simp) (by simp) ?_
  simp
  refine call_pc (toScheme_pc s p w b) (by simp) (by simp) ?_
  simp
  refine call_pc h2 (by simp) (by simp) ?_
  simp
  refine call_pc (eqScheme_pc s' p' w' b') (by simp) (by simp) ?_
  simp
  exact ret_pu (by simp) (by simp) (by simp)
end Go.Proofs.Yteidfholicaocaa
