/- A part of the proof library: names for blocks of memory, a small form of the code, and rules for walks over it. -/
import Derived.Test.YtaadiplbjelbnaaL2ar2
set_option linter.all false
namespace Go.Proofs.Ytaadiplbjelbnaa
open Go.Ab
set_option maxHeartbeats 400000

theorem twoOf_spec (n : Int) (h : 2 ≤ n ∧ n ≤ 6) : PC Try.prog 18 [.int .i64 n] (.tup [sch n n (fun i => if i < n.toNat then 1 else 0) (fun i => if i < n.toNat then 2 ^ i else 0), .int .i64 0]) := by
  refine pc_of spec_TwoOf_ok (fun ro => ?_)
  obtain ⟨m, rfl⟩ := Int.eq_ofNat_of_zero_le (show 0 ≤ n by omega)
  have hw8 : IntKind.i8.wrap (m : Int) = m := wrap_i8 (by omega) (by omega)
  simp [spec_TwoOf_F, spec_TwoOf_M, schC_zero]
  refine call_pc (l00In_pc m 2 6) (by simp) (by simp) ?_
  simp [h, schC_zero, hw8]
  refine wp_for m (fun k => ⟨[(0, .int .i64 m), (2, .ptr (.l 0) 0), (4, .ptr (.l 1) 0), (5, .int .i64 k)], [schC 0 0 (fun _ => 0) (fun _ => 0), schC m m (fun i => if i < k then 1 else 0) (fun i => if i < k then 2 ^ i else 0)], []⟩) ?_ ?_ ?_
  · simp
  · intro k hk
    have hk1 : (k : Int) < m := by omega
    have hk6 : k < 6 := by omega
    have hk7 : (k : Int) < 6 := by omega
    have hwk : IntKind.i64.wrap ((k : Int) + 1) = k + 1 := wrap_i64 (by omega) (by omega)
    have huk : IntKind.u64.wrap (k : Int) = k := wrap_u64 (by omega) (by omega)
    have hsh : shlI .u8 1 (k : Int) = ((2 ^ k : Nat) : Int) := shl8_one (by omega)
    generalize hx : 2 ^ k = x at hsh
    have ha : ∀ s p w b, (schC s p w b).set (2 + k) (.int .u8 1) = schC s p (fun i => if i = k then 1 else w i) b := fun s p w b => schC_setw hk6 (x := 1)
    simp [spec_TwoOf_L0, hk1, hk6, hk7, hwk, huk, hsh, ha, schC_setb, show 2 + k ≤ 13 by omega, show 8 + k ≤ 13 by omega]
    exact schC_congr (fun i _ => by by_cases h : i = k <;> by_cases h2 : i < k <;> simp [h, h2] <;> omega) (fun i _ => by by_cases h : i = k <;> by_cases h2 : i < k <;> simp [h, h2, ← hx] <;> omega)
  · simp [spec_TwoOf_L0]
    exact ret_pu (by simp) (by simp) (by simp)

theorem twoOf_impl (n : Int) (h : 2 ≤ n ∧ n ≤ 6) : PC Try.prog 19 [.int .i64 n] (.tup [sch n n (fun i => if i < n.toNat then 1 else 0) (fun i => if i < n.toNat then 2 ^ i else 0), .int .i64 0]) := by
  obtain ⟨m, rfl⟩ := Int.eq_ofNat_of_zero_le (show 0 ≤ n by omega)
  have hcl : ∀ i : Nat, i < m → ∀ ro, Ct Try.prog ro 56 [.int .i64 i] [] fun v E' L' => v = .tup [.int .u8 ((fun _ => 1 : Nat → Nat) i), .int .u8 ((fun i => 2 ^ i : Nat → Nat) i)] ∧ E' = [] ∧ L' = [] := fun i hi ro => by
    refine ct_of impl_TwoOf_1_ok ?_
    have hsh : shlI .u8 1 (i : Int) = ((2 ^ i : Nat) : Int) := shl8_one (by omega)
    generalize hx : 2 ^ i = x at hsh
    simp [impl_TwoOf_1_F, impl_TwoOf_1_M, hsh, hx]
    exact ret_pu (by simp) (by simp) (by simp)
  refine pc_of impl_TwoOf_ok (fun ro => ?_)
  have hw8 : IntKind.i8.wrap (m : Int) = m := wrap_i8 (by omega) (by omega)
  simp [impl_TwoOf_F, impl_TwoOf_M, schC_zero]
  refine call_pc (within_pc m 2 6) (by simp) (by simp) ?_
  simp [h]
  refine call_s [] (made_ct (n := m) (p := m) (by omega) (by kernel_rfl) (by simp) (by simp) hcl) (by simp) ?_
  simp [hw8]
  exact ret_pu (by simp) (by simp) (by simp)

theorem twoOf_no (n : Int) (h : ¬ (2 ≤ n ∧ n ≤ 6)) : PC Try.prog 18 [.int .i64 n] (.tup [sch 0 0 (fun _ => 0) (fun _ => 0), .int .i64 2]) ∧ PC Try.prog 19 [.int .i64 n] (.tup [sch 0 0 (fun _ => 0) (fun _ => 0), .int .i64 2]) := by
  constructor
  · refine pc_of spec_TwoOf_ok (fun ro => ?_)
    simp [spec_TwoOf_F, spec_TwoOf_M, schC_zero]
    refine call_pc (l00In_pc n 2 6) (by simp) (by simp) ?_
    simp [h, schC_zero]
    exact ret_pu (by simp) (by simp) (by simp)
  · refine pc_of impl_TwoOf_ok (fun ro => ?_)
    simp [impl_TwoOf_F, impl_TwoOf_M, schC_zero]
    refine call_pc (within_pc n 2 6) (by simp) (by simp) ?_
    simp [h, schC_zero]
    exact ret_pu (by simp) (by simp) (by simp)

theorem lawTwoOf (n : Int) (_h : -9223372036854775808 ≤ n ∧ n ≤ 9223372036854775807) : PC Try.prog 4 [.int .i64 n] (.bool true) := by
  have key : ∃ s p w b c, PC Try.prog 18 [.int .i64 n] (.tup [sch s p w b, .int .i64 c]) ∧ PC Try.prog 19 [.int .i64 n] (.tup [sch s p w b, .int .i64 c]) := by
    by_cases h : 2 ≤ n ∧ n ≤ 6
    · exact ⟨_, _, _, _, _, twoOf_spec n h, twoOf_impl n h⟩
    · exact ⟨_, _, _, _, _, (twoOf_no n h).1, (twoOf_no n h).2⟩
  obtain ⟨s, p, w, b, c, h1, h2⟩ := key
  refine pc_of laws_FnExactTwoOf_ok (fun ro => ?_)
  simp [laws_FnExactTwoOf_F, laws_FnExactTwoOf_M, schC_zero]
  refine call_pc h1 (by simp) (by simp) ?_
  simp [schC_zero]
  refine call_pc h2 (by simp) (by simp) ?_
  simp
  refine call_pc (eqScheme_pc s p w b) (by simp) (by simp) ?_
  simp
  exact ret_pu (by simp) (by simp) (by simp)

theorem swap_both (s p : Int) (w b : Nat → Nat) (hs : -128 ≤ s ∧ s < 128) (hp : -128 ≤ p ∧ p < 128) (hw : ∀ i, w i < 256) (hb : ∀ i, b i < 256) :
    ∃ s' p' w' b' c, PC Try.prog 42 [sch s p w b] (.tup [sch s' p' w' b', .int .i64 c]) ∧ PC Try.prog 44 [sch s p w b] (.tup [sch s' p' w' b', .int .i64 c]) := by
  by_cases h : sok s p w b = true
  · refine ⟨s, p, b, w, 0, ?_, ?_⟩
    · refine pc_of spec_SwapColours_ok (fun ro => ?_)
      simp [spec_SwapColours_F, spec_SwapColours_M, schC_zero]
      refine call_s [.l 0] (l02Ok_ct s p w b hs hp hw hb) (by simp) ?_
      simp [h, schC_zero]
      exact ret_pu (by simp) (by simp) (by simp)
    · refine pc_of impl_SwapColours_ok (fun ro => ?_)
      simp [impl_SwapColours_F, impl_SwapColours_M, schC_zero]
      refine call_pc (implValidScheme_pc s p w b hs hp hw hb) (by simp) (by simp) ?_
      simp [h, schC_zero]
      exact ret_pu (by simp) (by simp) (by simp)
  · have h : sok s p w b = false := by simpa using h
    refine ⟨0, 0, fun _ => 0, fun _ => 0, 1, ?_, ?_⟩
    · refine pc_of spec_SwapColours_ok (fun ro => ?_)
      simp [spec_SwapColours_F, spec_SwapColours_M, schC_zero]
      refine call_s [.l 0] (l02Ok_ct s p w b hs hp hw hb) (by simp) ?_
      simp [h, schC_zero]
      exact ret_pu (by simp) (by simp) (by simp)
    · refine pc_of impl_SwapColours_ok (fun ro => ?_)
      simp [impl_SwapColours_F, impl_SwapColours_M, schC_zero]
      refine call_pc (implValidScheme_pc s p w b hs hp hw hb) (by simp) (by simp) ?_
      simp [h, schC_zero]
      exact ret_pu (by simp) (by simp) (by simp)

theorem lawSwapColours (s p : Int) (w b : Nat → Nat) (hs : -128 ≤ s ∧ s < 128) (hp : -128 ≤ p ∧ p < 128) (hw : ∀ i, w i < 256) (hb : ∀ i, b i < 256) : PC Try.prog 11 [sch s p w b] (.bool true) := by
  obtain ⟨s', p', w', b', c, h1, h2⟩ := swap_both s p w b hs hp hw hb
  refine pc_of laws_FnExactSwapColours_ok (fun ro => ?_)
  simp [laws_FnExactSwapColours_F, laws_FnExactSwapColours_M]
  refine call_pc (toScheme_pc s p w b) (by simp) (by simp) ?_
  refine call_pc h1 (by simp) (by simp) ?_
  simp [schC_zero]
  refine call_pc (toScheme_pc s p w b) (by simp) (by simp) ?_
  refine call_pc h2 (by simp) (by simp) ?_
  simp [schC_zero]
  refine call_pc (eqScheme_pc s' p' w' b') (by simp) (by simp) ?_
  simp
  exact ret_pu (by simp) (by simp) (by simp)

theorem anc_xor (c p : Nat) (hp : p ≤ 8) (h : c < 2 ^ p) : anc (2 ^ p - 1) c = c ^^^ (2 ^ p - 1) := by
  have key : ∀ p : Fin 9, ∀ c : Fin 256, c.val < 2 ^ p.val → anc (2 ^ p.val - 1) c.val = c.val ^^^ (2 ^ p.val - 1) := by decide +kernel
  have : 2 ^ p ≤ 2 ^ 8 := Nat.pow_le_pow_right (by decide) hp
  exact key ⟨p, by omega⟩ ⟨c, by omega⟩ h

theorem opp_both (s p : Int) (w b : Nat → Nat) (hs : -128 ≤ s ∧ s < 128) (hp : -128 ≤ p ∧ p < 128) (hw : ∀ i, w i < 256) (hb : ∀ i, b i < 256) :
    ∃ s' p' w' b' c, PC Try.prog 47 [sch s p w b] (.tup [sch s' p' w' b', .int .i64 c]) ∧ PC Try.prog 48 [sch s p w b] (.tup [sch s' p' w' b', .int .i64 c]) := by
  by_cases h : sok s p w b = true
  · obtain ⟨h1, h2, h3⟩ := sok_iff.1 h
    obtain ⟨m, rfl⟩ := Int.eq_ofNat_of_zero_le (show 0 ≤ s by omega)
    obtain ⟨q, rfl⟩ := Int.eq_ofNat_of_zero_le (show 0 ≤ p by omega)
    have hm : 2 ^ q - 1 < 256 := by
      have : 2 ^ q ≤ 2 ^ 8 := Nat.pow_le_pow_right (by decide) (by omega)
      omega
    have hle : ∀ i, i < 6 → w i < 2 ^ q ∧ b i < 2 ^ q := fun i hi => by
      have := (h3 i hi).1
      have e1 : w i ≤ (w i ||| b i) := Nat.left_le_or
      have e2 : b i ≤ (w i ||| b i) := Nat.right_le_or
      simp at this
      omega
    have hms : IntKind.i64.wrap (m : Int) = m := wrap_i64 (by omega) (by omega)
    have hqs : IntKind.u64.wrap (q : Int) = q := wrap_u64 (by omega) (by omega)
    have hw8 : ∀ k : Fin 9, IntKind.u8.wrap (shlI .u8 1 (k.val : Int) - 1) = ((2 ^ k.val - 1 : Nat) : Int) := by decide +kernel
    have hmk := hw8 ⟨q, by omega⟩
    simp only at hmk
    refine ⟨m, q, fun i => if i < m then w i ^^^ (2 ^ q - 1) else w i, fun i => if i < m then b i ^^^ (2 ^ q - 1) else b i, 0, ?_, ?_⟩
    · refine pc_of spec_OppositeScheme_ok (fun ro => ?_)
      simp [spec_OppositeScheme_F, spec_OppositeScheme_M, schC_zero]
      refine call_s [.l 0] (l02Ok_ct m q w b hs hp hw hb) (by simp) ?_
      simp [h, schC_zero, hqs, hmk]
      refine wp_for m (fun k => ⟨[(1, .ptr (.l 0) 0), (2, .ptr (.l 1) 0), (4, .int .u8 (2 ^ q - 1 : Nat)), (5, .int .i64 k)], [schC m q (fun i => if i < k then w i ^^^ (2 ^ q - 1) else w i) (fun i => if i < k then b i ^^^ (2 ^ q - 1) else b i), schC 0 0 (fun _ => 0) (fun _ => 0)], []⟩) ?_ ?_ ?_
      · simp
      · intro k hk
        have hk1 : (k : Int) < m := by omega
        have hk6 : k < 6 := by omega
        have hk7 : (k : Int) < 6 := by omega
        have hwk : IntKind.i64.wrap ((k : Int) + 1) = k + 1 := wrap_i64 (by omega) (by omega)
        have ha : ancI .u8 ((2 ^ q - 1 : Nat) : Int) (w k) = ((w k ^^^ (2 ^ q - 1) : Nat) : Int) := by rw [anc8 hm (hw k), anc_xor _ _ (by omega) (hle k hk6).1]
        have hb' : ancI .u8 ((2 ^ q - 1 : Nat) : Int) (b k) = ((b k ^^^ (2 ^ q - 1) : Nat) : Int) := by rw [anc8 hm (hb k), anc_xor _ _ (by omega) (hle k hk6).2]
        simp [spec_OppositeScheme_L0, hk1, hk6, hk7, hwk, hms, schC_w hk6, schC_b hk6, ha, hb', schC_setw hk6, schC_setb, show 2 + k ≤ 13 by omega, show 8 + k ≤ 13 by omega]
        exact schC_congr (fun i _ => by by_cases h : i = k <;> by_cases h2 : i < k <;> simp [h, h2] <;> omega) (fun i _ => by by_cases h : i = k <;> by_cases h2 : i < k <;> simp [h, h2] <;> omega)
      · simp [spec_OppositeScheme_L0, hms]
        exact ret_pu (by simp) (by simp) (by simp)
    · have hop : PC Try.prog 79 [sch m q w b] (sch m q (fun i => if i < m then w i ^^^ (2 ^ q - 1) else w i) (fun i => if i < m then b i ^^^ (2 ^ q - 1) else b i)) := by
        refine pc_of impl_Scheme_opposite_ok (fun ro => ?_)
        simp [impl_Scheme_opposite_F, impl_Scheme_opposite_M, schC_zero, hms]
        refine wp_for m (fun k => ⟨[(1, .ptr (.l 0) 0), (2, .ptr (.l 1) 0), (6, .int .i64 m), (7, .int .i64 k)], [schC m q (fun i => if i < k then w i ^^^ (2 ^ q - 1) else w i) (fun i => if i < k then b i ^^^ (2 ^ q - 1) else b i), schC 0 0 (fun _ => 0) (fun _ => 0)], []⟩) ?_ ?_ ?_
        · simp
        · intro k hk
          have hk1 : (k : Int) < m := by omega
          have hk6 : k < 6 := by omega
          have hk7 : (k : Int) < 6 := by omega
          have hwk : IntKind.i64.wrap ((k : Int) + 1) = k + 1 := wrap_i64 (by omega) (by omega)
          have ha : xorI .u8 (w k) ((2 ^ q - 1 : Nat) : Int) = ((w k ^^^ (2 ^ q - 1) : Nat) : Int) := xor8 (hw k) hm
          have hb' : xorI .u8 (b k) ((2 ^ q - 1 : Nat) : Int) = ((b k ^^^ (2 ^ q - 1) : Nat) : Int) := xor8 (hb k) hm
          simp [impl_Scheme_opposite_L0, hk1, hk6, hk7, schC_w hk6, schC_b hk6]
          refine calld_pc (mask_pc q (by omega)) (by simp) (by simp) ?_
          simp [hk6, hk7, ha, schC_w hk6, schC_b hk6, schC_setw hk6, show 2 + k ≤ 13 by omega]
          refine calld_pc (mask_pc q (by omega)) (by simp) (by simp) ?_
          simp [hk6, hk7, hb', hwk, schC_setb, show 8 + k ≤ 13 by omega]
          exact schC_congr (fun i _ => by by_cases h : i = k <;> by_cases h2 : i < k <;> simp [h, h2] <;> omega) (fun i _ => by by_cases h : i = k <;> by_cases h2 : i < k <;> simp [h, h2] <;> omega)
        · simp [impl_Scheme_opposite_L0]
          exact ret_pu (by simp) (by simp) (by simp)
      refine pc_of impl_OppositeScheme_ok (fun ro => ?_)
      simp [impl_OppositeScheme_F, impl_OppositeScheme_M, schC_zero]
      refine call_pc (implValidScheme_pc m q w b hs hp hw hb) (by simp) (by simp) ?_
      simp [h]
      refine call_pc hop (by simp) (by simp) ?_
      simp
      exact ret_pu (by simp) (by simp) (by simp)
  · have h : sok s p w b = false := by simpa using h
    refine ⟨0, 0, fun _ => 0, fun _ => 0, 1, ?_, ?_⟩
    · refine pc_of spec_OppositeScheme_ok (fun ro => ?_)
      simp [spec_OppositeScheme_F, spec_OppositeScheme_M, schC_zero]
      refine call_s [.l 0] (l02Ok_ct s p w b hs hp hw hb) (by simp) ?_
      simp [h, schC_zero]
      exact ret_pu (by simp) (by simp) (by simp)
    · refine pc_of impl_OppositeScheme_ok (fun ro => ?_)
      simp [impl_OppositeScheme_F, impl_OppositeScheme_M, schC_zero]
      refine call_pc (implValidScheme_pc s p w b hs hp hw hb) (by simp) (by simp) ?_
      simp [h, schC_zero]
      exact ret_pu (by simp) (by simp) (by simp)

theorem lawOppositeScheme (s p : Int) (w b : Nat → Nat) (hs : -128 ≤ s ∧ s < 128) (hp : -128 ≤ p ∧ p < 128) (hw : ∀ i, w i < 256) (hb : ∀ i, b i < 256) : PC Try.prog 13 [sch s p w b] (.bool true) := by
  obtain ⟨s', p', w', b', c, h1, h2⟩ := opp_both s p w b hs hp hw hb
  refine pc_of laws_FnExactOppositeScheme_ok (fun ro => ?_)
  simp [laws_FnExactOppositeScheme_F, laws_FnExactOppositeScheme_M]
  refine call_pc (toScheme_pc s p w b) (by simp) (by simp) ?_
  refine call_pc h1 (by simp) (by simp) ?_
  simp [schC_zero]
  refine call_pc (toScheme_pc s p w b) (by simp) (by simp) ?_
  refine call_pc h2 (by simp) (by simp) ?_
  simp [schC_zero]
  refine call_pc (eqScheme_pc s' p' w' b') (by simp) (by simp) ?_
  simp
  exact ret_pu (by simp) (by simp) (by simp)
end Go.Proofs.Ytaadiplbjelbnaa
