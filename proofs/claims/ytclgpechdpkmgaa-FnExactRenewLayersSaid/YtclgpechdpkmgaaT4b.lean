/- A part of the proof library: names for blocks of memory, a small form of the code, and rules for walks over it. -/
import Derived.Test.YtclgpechdpkmgaaT3b
import Derived.Test.YtclgpechdpkmgaaAb32
import Derived.Test.YtclgpechdpkmgaaL3eb
import Derived.Test.YtclgpechdpkmgaaC4b
set_option linter.all false
namespace Go.Proofs.Ytclgpechdpkmgaa
open Go.Ab
set_option maxHeartbeats 800000

open Classical in
/-- The code of a scheme and layers shared by it. -/
noncomputable def bCode (s p : Int) (w b : Nat → Nat) (n : Nat) (P : Nat → Int) (F : Nat → Nat → Nat) : Int := if sok s p w b = true then (if allLokB n P F = true then (if (n : Int) = s then (if sameP n P p = true then 0 else 4) else 4) else 1) else 1
theorem bCode_ok {s p : Int} {w b : Nat → Nat} {n : Nat} {P : Nat → Int} {F : Nat → Nat → Nat} (h : bCode s p w b n P F = 0) : sok s p w b = true ∧ allLokB n P F = true ∧ (n : Int) = s ∧ ∀ i, i < n → P i = p := by
  unfold bCode at h
  split at h
  · rename_i h1
    split at h
    · rename_i h2
      split at h
      · rename_i h3
        split at h
        · rename_i h4; exact ⟨h1, h2, h3, sameP_iff.1 h4⟩
        · cases h
      · cases h
    · cases h
  · cases h

theorem sharedCode_ct (s p : Int) (w b : Nat → Nat) (hs : -128 ≤ s ∧ s < 128) (hp : -128 ≤ p ∧ p < 128) (hw : ∀ i, w i < 256) (hb : ∀ i, b i < 256) (n : Nat) (hn : n ≤ 1048576) (P : Nat → Int) (F : Nat → Nat → Nat) (hP : ∀ i, -128 ≤ P i ∧ P i < 128) (hF : ∀ i j, F i j < 256) (ro : Bool) :
    Ct Try.prog ro 61 [sch s p w b, .slx (.e 0) 0 n] [lays n P F] fun v E' L' => v = .int .i64 (bCode s p w b n P F) ∧ E' = [lays n P F] ∧ L' = [] := by
  have k1 := implValidScheme_pc s p w b hs hp hw hb
  have k2 := areLayersX_ct n P F (by omega) hP hF
  have k3 := haveParts_ct n hn P F p
  have hws : IntKind.i64.wrap s = s := wrap_i64 (by omega) (by omega)
  unfold bCode
  generalize sok s p w b = a at *
  generalize allLokB n P F = c at *
  generalize sameP n P p = d at *
  refine ct_of impl_sharedCode_ok ?_
  refine wp_seq_opq fun R hR => ?_
  simp [impl_sharedCode_F]
  subst hR
  refine wp_seq_opq fun R hR => ?_
  refine wp_opq fun K hK => ?_
  refine wmO_cut 2 fun R1 hR1 => ?_
  simp
  refine calld_pc k1 (by simp) (by simp) ?_
  simp
  subst hR1
  refine wmO_cut 4 fun R1 hR1 => ?_
  cases a
  · simp
    subst hR1
    refine wmO_cut 14 fun R1 hR1 => ?_
    by_cases he : (n : Int) = s
    · simp [he, hws]
      refine calld_r [.e 0] (L2 := []) k3 (by simp) (by simp) ?_
      simp
      subst hR1
      refine wmO_cut 5 fun R1 hR1 => ?_
      simp [zrow_f2, fc_two]
      refine calld_s [.l 1] (first2_ct true (!d) 1 4) (by simp) ?_
      simp
      subst hR1 hK hR
      simp
      exact ret_pu (by simp) (by simp) (by simp)
    · simp [he, hws]
      subst hR1
      refine wmO_cut 5 fun R1 hR1 => ?_
      simp [zrow_f2, fc_two]
      refine calld_s [.l 1] (first2_ct true true 1 4) (by simp) ?_
      simp
      subst hR1 hK hR
      simp
      exact ret_pu (by simp) (by simp) (by simp)
  · simp
    refine calld_r [.e 0] (L2 := []) k2 (by simp) (by simp) ?_
    simp
    subst hR1
    refine wmO_cut 14 fun R1 hR1 => ?_
    by_cases he : (n : Int) = s
    · simp [he, hws]
      refine calld_r [.e 0] (L2 := []) k3 (by simp) (by simp) ?_
      simp
      subst hR1
      refine wmO_cut 5 fun R1 hR1 => ?_
      simp [zrow_f2, fc_two]
      refine calld_s [.l 1] (first2_ct (!c) (!d) 1 4) (by simp) ?_
      simp
      subst hR1 hK hR
      simp
      exact ret_pu (by simp) (by simp) (by cases c <;> cases d <;> simp [he])
    · simp [he, hws]
      subst hR1
      refine wmO_cut 5 fun R1 hR1 => ?_
      simp [zrow_f2, fc_two]
      refine calld_s [.l 1] (first2_ct (!c) true 1 4) (by simp) ?_
      simp
      subst hR1 hK hR
      simp
      exact ret_pu (by simp) (by simp) (by cases c <;> simp [he])

theorem l03Both_ct (s p : Int) (w b : Nat → Nat) (hs : -128 ≤ s ∧ s < 128) (hp : -128 ≤ p ∧ p < 128) (hw : ∀ i, w i < 256) (hb : ∀ i, b i < 256) (n : Nat) (hn : n ≤ 1048576) (P : Nat → Int) (F : Nat → Nat → Nat) (hP : ∀ i, -128 ≤ P i ∧ P i < 128) (hF : ∀ i j, F i j < 256) (ro : Bool) :
    Ct Try.prog ro 57 [.ptr (.e 0) 0, .slx (.e 1) 0 n] [schC s p w b, lays n P F] fun v E' L' => v = .int .i64 (bCode s p w b n P F) ∧ E' = [schC s p w b, lays n P F] ∧ L' = [] := by
  have k1 := specValidScheme_pc s p w b hs hp hw hb
  have k2 := l01All_ct n hn P F hP hF
  have hws : IntKind.i64.wrap s = s := wrap_i64 (by omega) (by omega)
  unfold bCode
  generalize sok s p w b = a at *
  generalize allLokB n P F = c at *
  refine ct_of spec_l03Both_ok ?_
  simp [spec_l03Both_F, spec_l03Both_M]
  refine call_pc k1 (by simp) (by simp) ?_
  cases a
  · simp
    exact ret_pu (by simp) (by simp) (by simp)
  · simp
    refine call_s [.e 1] k2 (by simp) ?_
    cases c
    · simp
      exact ret_pu (by simp) (by simp) (by simp)
    · simp [hws]
      by_cases he : (n : Int) = s
      · simp [he]
        refine wp_forR n (fun k => ⟨[(0, .ptr (.e 0) 0), (1, .slx (.e 1) 0 n), (5, .int .i64 k)], [], [schC s p w b, lays n P F]⟩) (fun k => P k = p) ?_ ?_ ?_
        · intro k hk hg
          have hk1 : (k : Int) < n := by omega
          have hwk : IntKind.i64.wrap ((k : Int) + 1) = k + 1 := wrap_i64 (by omega) (by omega)
          simp [spec_l03Both_L0, hk1, hk, lays_p hk, lays_pE hk, hg]
          simp [hwk]
        · intro k hk hg _
          have hk1 : (k : Int) < n := by omega
          have hno : sameP n P p = false := Bool.eq_false_iff.2 fun h => hg (sameP_iff.1 h k hk)
          rw [hno]
          simp [spec_l03Both_L0, hk1, hk, lays_p hk, lays_pE hk, hg]
          exact ret_pu (by simp) (by simp) (by simp)
        · intro hall
          rw [sameP_iff.2 hall]
          simp [spec_l03Both_L0]
          exact ret_pu (by simp) (by simp) (by simp)
      · simp [he]
        exact ret_pu (by simp) (by simp) (by simp)

theorem seesWith_pc (s p : Int) (w b : Nat → Nat) (hs : -128 ≤ s ∧ s < 128) (hp : -128 ≤ p ∧ p < 128) (hw : ∀ i, w i < 256) (hb : ∀ i, b i < 256) (h : sok s p w b = true) (set : Nat) (hset : set < 256) :
    PC Try.prog 69 [sch s p w b, .int .u8 set] (if set ≠ 0 ∧ set < 2 ^ s.toNat then .tup [.bool (decide (wgt set false w b < wgt set true w b)), .int .i64 (if wgt set false w b < wgt set true w b then wgt set true w b else (0 : Nat)), .int .i64 0] else .tup [.bool false, .int .i64 0, .int .i64 2]) := by
  obtain ⟨y, hy, hy6⟩ := isSet_pc s p w b set hset
  have hy' := hy6 (sok_iff.1 h).1
  by_cases h0 : set = 0
  · simp only [h0, ne_eq, not_true_eq_false, false_and, if_false]
    refine pc_of impl_SeesWith_ok (fun ro => ?_)
    simp [impl_SeesWith_F, impl_SeesWith_M]
    refine call_pc (implValidScheme_pc s p w b hs hp hw hb) (by simp) (by simp) ?_
    simp [zrow_f2, fc_two]
    refine call_s [.l 1] (first2_ct (!sok s p w b) true 1 2) (by simp) ?_
    simp [h]
    exact ret_pu (by simp) (by simp) (by simp)
  · by_cases h2 : set < 2 ^ s.toNat
    · have hyt : y = true := by rw [hy']; simp [h2]
      rw [if_pos ⟨h0, h2⟩]
      refine pc_of impl_SeesWith_ok (fun ro => ?_)
      simp [impl_SeesWith_F, impl_SeesWith_M]
      refine call_pc (implValidScheme_pc s p w b hs hp hw hb) (by simp) (by simp) ?_
      simp [h0]
      refine call_pc hy (by simp) (by simp) ?_
      simp [h, hyt, zrow_f2, fc_two]
      refine call_s [.l 1] (first2_ct false false 1 2) (by simp) ?_
      simp
      refine call_pc (sees_pc s p w b hw hb set hset) (by simp) (by simp) ?_
      by_cases h3 : wgt set false w b < wgt set true w b
      · simp [h3]
        refine call_pc (weight_pc s p w b hw hb set hset true) (by simp) (by simp) ?_
        simp
        exact ret_pu (by simp) (by simp) (by simp)
      · simp [h3]
        exact ret_pu (by simp) (by simp) (by simp)
    · have hyt : y = false := by rw [hy']; simp [h2]
      rw [if_neg fun hh => h2 hh.2]
      refine pc_of impl_SeesWith_ok (fun ro => ?_)
      simp [impl_SeesWith_F, impl_SeesWith_M]
      refine call_pc (implValidScheme_pc s p w b hs hp hw hb) (by simp) (by simp) ?_
      simp [h0]
      refine call_pc hy (by simp) (by simp) ?_
      simp [h, hyt, zrow_f2, fc_two]
      refine call_s [.l 1] (first2_ct false true 1 2) (by simp) ?_
      simp
      exact ret_pu (by simp) (by simp) (by simp)

theorem readWith_both (s p : Int) (w b : Nat → Nat) (hs : -128 ≤ s ∧ s < 128) (hp : -128 ≤ p ∧ p < 128) (hw : ∀ i, w i < 256) (hb : ∀ i, b i < 256) (n : Nat) (hn : n ≤ 1048576) (P : Nat → Int) (F : Nat → Nat → Nat) (hP : ∀ i, -128 ≤ P i ∧ P i < 128) (hF : ∀ i j, F i j < 256) (set : Nat) (hset : set < 256) :
    ∃ (x : Nat) (c : Int), (∀ ro, Ct Try.prog ro 26 [sch s p w b, .slx (.e 0) 0 n, .int .u8 set] [lays n P F] fun v E' L' => v = .tup [.int .u64 x, .int .i64 c] ∧ E' = [lays n P F] ∧ L' = []) ∧
      (∀ ro, Ct Try.prog ro 27 [sch s p w b, .slx (.e 0) 0 n, .int .u8 set] [lays n P F] fun v E' L' => v = .tup [.int .u64 x, .int .i64 c] ∧ E' = [lays n P F] ∧ L' = []) := by
  have k1 := l03Both_ct s p w b hs hp hw hb n hn P F hP hF
  have k2 := sharedCode_ct s p w b hs hp hw hb n hn P F hP hF
  by_cases hc : bCode s p w b n P F = 0
  · obtain ⟨hok, _, hns, _⟩ := bCode_ok hc
    rw [hc] at k1 k2
    have h6 := (sok_iff.1 hok).1
    have h8 : n ≤ 8 := by omega
    have hsn : s.toNat = n := by omega
    have k3 := l03Set_ct s p w b h6 set hset
    have k4 := seesWith_pc s p w b hs hp hw hb hok set hset
    have k5 := l03Sees_ct s p w b hw hb hok set hset
    rw [hsn] at k3 k4
    by_cases hin : set ≠ 0 ∧ set < 2 ^ n
    · rw [if_pos hin] at k4
      have hd0 : decide (set = 0) = false := by simp [hin.1]
      have hd1 : decide (set < 2 ^ n) = true := by simp only [decide_eq_true_eq]; exact hin.2
      rw [hd0, hd1] at k3
      have hpos := sel_pos hin.1 hin.2
      have k6 := l03Stack_ct n h8 P F hF set hset hpos
      have k7 := stackOf_ct n h8 P F hF set hset hpos
      have hstk : ∀ j, stkS set n F j < 256 := fun j => stkB_lt (fun i j => hF _ j) j _
      have k8 := fun l => specShown_ct (selP set n P 0) (stkS set n F) hstk l
      have k9 := fun l => implShown_pc (selP set n P 0) (stkS set n F) hstk l
      generalize selP set n P 0 = p1 at *
      generalize stkS set n F = f1 at *
      generalize wgt set false w b = a0 at *
      generalize wgt set true w b = a1 at *
      by_cases h3 : a0 < a1
      · refine ⟨pic 64 (shownP f1 a1), 0, fun ro => ?_, fun ro => ?_⟩
        · refine ct_of spec_ReadWith_ok ?_
          simp [spec_ReadWith_F, spec_ReadWith_M]
          refine call_rE [.l 0, .e 0] (L2 := []) k1 (sigOk_mk (by simp) (by simp) (by simp)) (by simp) (by simp) (by simp) ?_
          simp
          refine call_s [.l 0] k3 (by simp) ?_
          simp
          refine call_s [.l 0] k5 (by simp) ?_
          simp [h3, show ¬ ((a1 : Nat) : Int) ≤ a0 by omega]
          refine call_s [.e 0] k6 (by simp) ?_
          simp [layC_zero]
          refine call_s [.l 1] (k8 a1) (by simp) ?_
          simp
          exact ret_pu (by simp) (by simp) (by simp)
        · refine ct_of impl_ReadWith_ok ?_
          simp [impl_ReadWith_F, impl_ReadWith_M]
          refine call_s [.e 0] k2 (by simp) ?_
          simp
          refine call_pc k4 (by simp) (by simp) ?_
          simp [h3, zrow_f2, fc_two]
          refine call_s [.l 1] (first2_ct false false 0 8) (by simp) ?_
          simp
          refine call_s [.e 0] k7 (by simp) ?_
          simp
          refine call_pc (k9 a1) (by simp) (by simp) ?_
          simp
          exact ret_pu (by simp) (by simp) (by simp)
      · refine ⟨0, 8, fun ro => ?_, fun ro => ?_⟩
        · refine ct_of spec_ReadWith_ok ?_
          simp [spec_ReadWith_F, spec_ReadWith_M]
          refine call_rE [.l 0, .e 0] (L2 := []) k1 (sigOk_mk (by simp) (by simp) (by simp)) (by simp) (by simp) (by simp) ?_
          simp
          refine call_s [.l 0] k3 (by simp) ?_
          simp
          refine call_s [.l 0] k5 (by simp) ?_
          simp [h3, show ((a1 : Nat) : Int) ≤ a0 by omega]
          exact ret_pu (by simp) (by simp) (by simp)
        · refine ct_of impl_ReadWith_ok ?_
          simp [impl_ReadWith_F, impl_ReadWith_M]
          refine call_s [.e 0] k2 (by simp) ?_
          simp
          refine call_pc k4 (by simp) (by simp) ?_
          simp [h3, zrow_f2, fc_two]
          refine call_s [.l 1] (first2_ct false true 0 8) (by simp) ?_
          simp
          exact ret_pu (by simp) (by simp) (by simp)
    · rw [if_neg hin] at k4
      have hd : (!decide (set = 0) && decide (set < 2 ^ n)) = false := by
        rw [Bool.eq_false_iff]
        simp only [ne_eq, Bool.and_eq_true, Bool.not_eq_true', decide_eq_false_iff_not, decide_eq_true_eq]
        exact hin
      rw [hd] at k3
      refine ⟨0, 2, fun ro => ?_, fun ro => ?_⟩
      · refine ct_of spec_ReadWith_ok ?_
        simp [spec_ReadWith_F, spec_ReadWith_M]
        refine call_rE [.l 0, .e 0] (L2 := []) k1 (sigOk_mk (by simp) (by simp) (by simp)) (by simp) (by simp) (by simp) ?_
        simp
        refine call_s [.l 0] k3 (by simp) ?_
        simp
        exact ret_pu (by simp) (by simp) (by simp)
      · refine ct_of impl_ReadWith_ok ?_
        simp [impl_ReadWith_F, impl_ReadWith_M]
        refine call_s [.e 0] k2 (by simp) ?_
        simp
        refine call_pc k4 (by simp) (by simp) ?_
        simp [zrow_f2, fc_two]
        refine call_s [.l 1] (first2_ct true true 2 8) (by simp) ?_
        simp
        exact ret_pu (by simp) (by simp) (by simp)
  · refine ⟨0, bCode s p w b n P F, fun ro => ?_, fun ro => ?_⟩
    · generalize bCode s p w b n P F = c at *
      refine ct_of spec_ReadWith_ok ?_
      simp [spec_ReadWith_F, spec_ReadWith_M]
      refine call_rE [.l 0, .e 0] (L2 := []) k1 (sigOk_mk (by simp) (by simp) (by simp)) (by simp) (by simp) (by simp) ?_
      simp [hc]
      exact ret_pu (by simp) (by simp) (by simp)
    · generalize bCode s p w b n P F = c at *
      refine ct_of impl_ReadWith_ok ?_
      simp [impl_ReadWith_F, impl_ReadWith_M]
      refine call_s [.e 0] k2 (by simp) ?_
      simp [hc]
      exact ret_pu (by simp) (by simp) (by simp)

set_option maxRecDepth 10000 in
theorem lawReadWith (E : List (List V)) (hE : ∀ c ∈ E, puL c) (s p : Int) (w b : Nat → Nat) (hs : -128 ≤ s ∧ s < 128) (hp : -128 ≤ p ∧ p < 128) (hw : ∀ i, w i < 256) (hb : ∀ i, b i < 256) (A : V) (n : Nat) (P : Nat → Int) (F : Nat → Nat → Nat) (LA : LArg E A n P F) (set : Nat) (hset : set < 256) :
    Ct Try.prog true 6 [sch s p w b, A, .int .u8 set] E fun v E' L' => v = .bool true ∧ E' = E ∧ L' = [] := by
  have kS := toScheme_pc s p w b
  refine ct_of laws_FnExactReadWith_ok ?_
  simp [laws_FnExactReadWith_F, laws_FnExactReadWith_M, layC_zero]
  refine LA.sz 1048576 (by omega) _ _ rfl ?_
  by_cases h1 : 1048576 < n
  · simp [h1]
    exact ret_pu (by simp) hE (by simp)
  · have g1 : ¬ (((1048576 - n : Nat) : Int) < 0) := by omega
    have hn : n ≤ 1048576 := by omega
    obtain ⟨x, c, k1, k2⟩ := readWith_both s p w b hs hp hw hb n hn P F LA.hP LA.hF set hset
    generalize 1048576 - n = d at *
    simp [h1, g1]
    refine call_pc kS (by simp) (by simp) ?_
    simp
    refine LA.to hn _ _ rfl ?_
    simp
    refine call_s [.l 1] k1 (by simp) ?_
    simp
    refine LA.to hn _ _ rfl ?_
    simp
    refine call_pc kS (by simp) (by simp) ?_
    simp
    refine call_s [.l 2] k2 (by simp) ?_
    simp
    refine LA.to hn _ _ rfl ?_
    simp
    refine call_s [.l 2, .l 3] (eqLayerS_ct n hn P F) (by simp) ?_
    simp
    exact ret_pu (by simp) hE (by simp)
end Go.Proofs.Ytclgpechdpkmgaa
