/- A part of the proof library: names for blocks of memory, a small form of the code, and rules for walks over it. -/
import Derived.Test.YtmdemhfmhlnlgaaO1a
set_option linter.all false
namespace Go.Proofs.Ytmdemhfmhlnlgaa
open Go.Ab
set_option maxHeartbeats 800000

/-- A row in another order. -/
def reo (F : Nat → Int) (f : Nat → Nat) (i : Nat) : Nat := f (F i).toNat
theorem reorderShares_spec (len : Nat) (hl : len ≤ 1048576) (F : Nat → Int) (hF : ∀ i, -128 ≤ F i ∧ F i < 128) (s p : Int) (w b : Nat → Nat) (hs : -128 ≤ s ∧ s < 128) (hp : -128 ≤ p ∧ p < 128) (hw : ∀ i, w i < 256) (hb : ∀ i, b i < 256) (hok : sok s p w b = true) (ho : OrdP F len s) (ro : Bool) :
    Ct Try.prog ro 30 [sch s p w b, .slx (.e 0) 0 len] [arr .i8 len F] fun v E' L' => v = .tup [sch s p (fun i => if i < len then reo F w i else 0) (fun i => if i < len then reo F b i else 0), .int .i64 0] ∧ E' = [arr .i8 len F] ∧ L' = [] := by
  have k1 := l02Ok_ct s p w b hs hp hw hb
  have k2 := l01Order_ct len hl F hF s hs
  rw [hok] at k1
  rw [ordB_iff.2 ho] at k2
  have h6 := (sok_iff.1 hok).1
  have hw1 : IntKind.i64.wrap s = s := wrap_i64 (by omega) (by omega)
  refine ct_of spec_ReorderShares_ok ?_
  simp [spec_ReorderShares_F, spec_ReorderShares_M, schC_zero]
  refine call_s [.l 0] k1 (by simp) ?_
  simp [hw1]
  refine call_s [.e 0] k2 (by simp) ?_
  simp
  refine wp_for len (fun k => ⟨[(1, .slx (.e 0) 0 len), (2, .ptr (.l 0) 0), (4, .ptr (.l 1) 0), (6, .ptr (.l 2) 0), (7, .int .i64 k)], [schC s p w b, schC 0 0 (fun _ => 0) fun _ => 0, schC s p (fun i => if i < k then reo F w i else 0) fun i => if i < k then reo F b i else 0], [arr .i8 len F]⟩) ?_ ?_ ?_
  · simp
  · intro k hk
    have hk1 : (k : Int) < len := by omega
    have hwk : IntKind.i64.wrap ((k : Int) + 1) = k + 1 := wrap_i64 (by omega) (by omega)
    obtain ⟨g1, g2, _⟩ := ho.1 k hk
    have ho2 := ho.2
    obtain ⟨q, hq⟩ := Int.eq_ofNat_of_zero_le g1
    have hk6 : k < 6 := by omega
    have hq6 : q < 6 := by omega
    have hq61 : (q : Int) < 6 := by omega
    have hk61 : (k : Int) < 6 := by omega
    have rw1 : reo F w k = w q := by simp [reo, hq]
    have rw2 : reo F b k = b q := by simp [reo, hq]
    simp [spec_ReorderShares_L0, hk1, hk, hq, hq61, hk61, hq6, hk6, schC_w hq6, schC_b hq6, schC_setw hk6, schC_setb, show 2 + q ≤ 13 by omega, show 8 + q ≤ 13 by omega, show 2 + k ≤ 13 by omega, show 8 + k ≤ 13 by omega]
    simp [hwk]
    exact schC_congr (fun i _ => by by_cases e : i = k <;> by_cases e2 : i < k <;> simp [e, e2, rw1] <;> omega) (fun i _ => by by_cases e : i = k <;> by_cases e2 : i < k <;> simp [e, e2, rw2] <;> omega)
  · simp [spec_ReorderShares_L0]
    exact ret_pu (by simp) (by simp) (by simp)
theorem reorderShares_impl (len : Nat) (hl : len ≤ 1048576) (F : Nat → Int) (hF : ∀ i, -128 ≤ F i ∧ F i < 128) (s p : Int) (w b : Nat → Nat) (hs : -128 ≤ s ∧ s < 128) (hp : -128 ≤ p ∧ p < 128) (hw : ∀ i, w i < 256) (hb : ∀ i, b i < 256) (hok : sok s p w b = true) (ho : OrdP F len s) (ro : Bool) :
    Ct Try.prog ro 33 [sch s p w b, .slx (.e 0) 0 len] [arr .i8 len F] fun v E' L' => v = .tup [sch s p (fun i => if i < len then reo F w i else 0) (fun i => if i < len then reo F b i else 0), .int .i64 0] ∧ E' = [arr .i8 len F] ∧ L' = [] := by
  have k1 := implValidScheme_pc s p w b hs hp hw hb
  have k2 := isOrder_ct len hl F hF s hs
  rw [hok] at k1
  rw [ordB_iff.2 ho] at k2
  have h6 := (sok_iff.1 hok).1
  refine ct_of impl_ReorderShares_ok ?_
  simp [impl_ReorderShares_F, impl_ReorderShares_M, schC_zero]
  refine calld_pc k1 (by simp) (by simp) ?_
  simp
  refine calld_r [.e 0] (L2 := []) k2 (by simp) (by simp) ?_
  simp [zrow_f2, fc_two]
  refine calld_s [.l 2] (first2_ct false false 1 2) (by simp) ?_
  simp
  refine wp_for len (fun k => ⟨[(2, .ptr (.l 0) 0), (4, .ptr (.l 1) 0), (7, .ptr (.l 3) 0), (31, .slx (.e 0) 0 len), (32, .int .i64 len), (33, .int .i64 k)], [schC s p w b, schC 0 0 (fun _ => 0) fun _ => 0, [.bool false, .int .i64 1, .bool false, .int .i64 2], schC s p (fun i => if i < k then reo F w i else 0) fun i => if i < k then reo F b i else 0], [arr .i8 len F]⟩) ?_ ?_ ?_
  · simp
  · intro k hk
    have hk1 : (k : Int) < len := by omega
    have hwk : IntKind.i64.wrap ((k : Int) + 1) = k + 1 := wrap_i64 (by omega) (by omega)
    obtain ⟨g1, g2, _⟩ := ho.1 k hk
    have ho2 := ho.2
    obtain ⟨q, hq⟩ := Int.eq_ofNat_of_zero_le g1
    have hk6 : k < 6 := by omega
    have hq6 : q < 6 := by omega
    have hq61 : (q : Int) < 6 := by omega
    have hk61 : (k : Int) < 6 := by omega
    have rw1 : reo F w k = w q := by simp [reo, hq]
    have rw2 : reo F b k = b q := by simp [reo, hq]
    simp [impl_ReorderShares_L0, hk1, hk, hq, hq61, hk61, hq6, hk6, schC_w hq6, schC_b hq6, schC_setw hk6, schC_setb, show 2 + q ≤ 13 by omega, show 8 + q ≤ 13 by omega, show 2 + k ≤ 13 by omega, show 8 + k ≤ 13 by omega]
    simp [hwk]
    exact schC_congr (fun i _ => by by_cases e : i = k <;> by_cases e2 : i < k <;> simp [e, e2, rw1] <;> omega) (fun i _ => by by_cases e : i = k <;> by_cases e2 : i < k <;> simp [e, e2, rw2] <;> omega)
  · simp [impl_ReorderShares_L0]
    exact ret_pu (by simp) (by simp) (by simp)

theorem reorderShares_no (len : Nat) (hl : len ≤ 1048576) (F : Nat → Int) (hF : ∀ i, -128 ≤ F i ∧ F i < 128) (s p : Int) (w b : Nat → Nat) (hs : -128 ≤ s ∧ s < 128) (hp : -128 ≤ p ∧ p < 128) (hw : ∀ i, w i < 256) (hb : ∀ i, b i < 256) (c : Int)
    (hc : (sok s p w b = false ∧ c = 1) ∨ (sok s p w b = true ∧ ordB F len s = false ∧ c = 2)) :
    (∀ ro, Ct Try.prog ro 30 [sch s p w b, .slx (.e 0) 0 len] [arr .i8 len F] fun v E' L' => v = .tup [sch 0 0 (fun _ => 0) (fun _ => 0), .int .i64 c] ∧ E' = [arr .i8 len F] ∧ L' = []) ∧
    (∀ ro, Ct Try.prog ro 33 [sch s p w b, .slx (.e 0) 0 len] [arr .i8 len F] fun v E' L' => v = .tup [sch 0 0 (fun _ => 0) (fun _ => 0), .int .i64 c] ∧ E' = [arr .i8 len F] ∧ L' = []) := by
  have k1 := l02Ok_ct s p w b hs hp hw hb
  have k2 := l01Order_ct len hl F hF s hs
  have k3 := implValidScheme_pc s p w b hs hp hw hb
  have k4 := isOrder_ct len hl F hF s hs
  have hw1 : IntKind.i64.wrap s = s := wrap_i64 (by omega) (by omega)
  refine ⟨fun ro => ?_, fun ro => ?_⟩
  · refine ct_of spec_ReorderShares_ok ?_
    simp [spec_ReorderShares_F, spec_ReorderShares_M, schC_zero]
    refine call_s [.l 0] k1 (by simp) ?_
    rcases hc with ⟨h1, rfl⟩ | ⟨h1, h2, rfl⟩
    · simp [h1]
      exact ret_pu (by simp) (by simp) (by simp)
    · rw [h2] at k2
      simp [h1, hw1]
      refine call_s [.e 0] k2 (by simp) ?_
      simp
      exact ret_pu (by simp) (by simp) (by simp)
  · refine ct_of impl_ReorderShares_ok ?_
    simp [impl_ReorderShares_F, impl_ReorderShares_M, schC_zero]
    refine calld_pc k3 (by simp) (by simp) ?_
    simp
    refine calld_r [.e 0] (L2 := []) k4 (by simp) (by simp) ?_
    simp [zrow_f2, fc_two]
    refine calld_s [.l 2] (first2_ct (!sok s p w b) (!ordB F len s) 1 2) (by simp) ?_
    rcases hc with ⟨h1, rfl⟩ | ⟨h1, h2, rfl⟩
    · simp [h1]
      exact ret_pu (by simp) (by simp) (by simp)
    · simp [h1, h2]
      exact ret_pu (by simp) (by simp) (by simp)
theorem reorderShares_both (len : Nat) (hl : len ≤ 1048576) (F : Nat → Int) (hF : ∀ i, -128 ≤ F i ∧ F i < 128) (s p : Int) (w b : Nat → Nat) (hs : -128 ≤ s ∧ s < 128) (hp : -128 ≤ p ∧ p < 128) (hw : ∀ i, w i < 256) (hb : ∀ i, b i < 256) :
    ∃ s2 p2 w2 b2 c, (∀ ro, Ct Try.prog ro 30 [sch s p w b, .slx (.e 0) 0 len] [arr .i8 len F] fun v E' L' => v = .tup [sch s2 p2 w2 b2, .int .i64 c] ∧ E' = [arr .i8 len F] ∧ L' = []) ∧
    (∀ ro, Ct Try.prog ro 33 [sch s p w b, .slx (.e 0) 0 len] [arr .i8 len F] fun v E' L' => v = .tup [sch s2 p2 w2 b2, .int .i64 c] ∧ E' = [arr .i8 len F] ∧ L' = []) := by
  cases h1 : sok s p w b
  · obtain ⟨a1, a2⟩ := reorderShares_no len hl F hF s p w b hs hp hw hb 1 (.inl ⟨h1, rfl⟩)
    exact ⟨_, _, _, _, _, a1, a2⟩
  · cases h2 : ordB F len s
    · obtain ⟨a1, a2⟩ := reorderShares_no len hl F hF s p w b hs hp hw hb 2 (.inr ⟨h1, h2, rfl⟩)
      exact ⟨_, _, _, _, _, a1, a2⟩
    · exact ⟨_, _, _, _, _, reorderShares_spec len hl F hF s p w b hs hp hw hb h1 (ordB_iff.1 h2), reorderShares_impl len hl F hF s p w b hs hp hw hb h1 (ordB_iff.1 h2)⟩
theorem lawReorderShares (s p : Int) (w b : Nat → Nat) (hs : -128 ≤ s ∧ s < 128) (hp : -128 ≤ p ∧ p < 128) (hw : ∀ i, w i < 256) (hb : ∀ i, b i < 256) (n off : Nat) (F : Nat → Int) (hF : ∀ i, -128 ≤ F i ∧ F i < 128) (cs : List V) (hcs : ∀ i, i < n → cs[off + i]? = some (.int .i8 (F i))) (hpu : puL cs) : Ct Try.prog true 7 [sch s p w b, .slx (.e 0) off n] [cs] fun v E' L' => v = .bool true ∧ E' = [cs] ∧ L' = [] := by
  refine ct_of laws_FnExactReorderShares_ok ?_
  by_cases hn : n ≤ 1048576
  · obtain ⟨s2, p2, w2, b2, c, h1, h2⟩ := reorderShares_both n hn F hF s p w b hs hp hw hb
    have hto := (toInt8S_ct n off hn F cs hcs hpu)
    have heq := eqInt8S_ct n hn F
    have hn1 : ¬ (1048576 : Int) < (n : Nat) := by omega
    simp [laws_FnExactReorderShares_F, laws_FnExactReorderShares_M, schC_zero, hn1]
    refine call_pc (toScheme_pc s p w b) (by simp) (by simp) ?_
    simp
    refine call_g [.e 0] hto (by simpa using hpu) (by simp) ?_
    simp
    refine call_s [.l 1] h1 (by simp) ?_
    simp
    refine call_g [.e 0] hto (by simpa using hpu) (by simp) ?_
    simp
    refine call_pc (toScheme_pc s p w b) (by simp) (by simp) ?_
    simp
    refine call_s [.l 3] h2 (by simp) ?_
    simp
    refine call_pc (eqScheme_pc s2 p2 w2 b2) (by simp) (by simp) ?_
    simp
    refine call_g [.e 0] hto (by simpa using hpu) (by simp) ?_
    simp
    refine call_s [.l 3, .l 5] heq (by simp) ?_
    simp
    exact ret_pu (by simp) (by simpa using hpu) (by simp)
  · first
    | exact absurd (Nat.zero_le _) hn
    | have hn1 : (1048576 : Int) < (n : Nat) := by omega
      simp [laws_FnExactReorderShares_F, laws_FnExactReorderShares_M, schC_zero, hn1]
      exact ret_pu (by simp) (by simpa using hpu) (by simp)
theorem lawReorderSharesNil (s p : Int) (w b : Nat → Nat) (hs : -128 ≤ s ∧ s < 128) (hp : -128 ≤ p ∧ p < 128) (hw : ∀ i, w i < 256) (hb : ∀ i, b i < 256)  : Ct Try.prog true 7 [sch s p w b, .nilsl] [] fun v E' L' => v = .bool true ∧ E' = [] ∧ L' = [] := by
  refine ct_of laws_FnExactReorderShares_ok ?_
  by_cases hn : 0 ≤ 1048576
  · obtain ⟨s2, p2, w2, b2, c, h1, h2⟩ := reorderShares_both 0 hn (fun _ => (0 : Int)) (fun _ => by omega) s p w b hs hp hw hb
    have hto := toInt8SNil_ct
    have heq := eqInt8S_ct 0 hn (fun _ => (0 : Int))
    have hn1 : ¬ (1048576 : Int) < (0 : Nat) := by omega
    simp [laws_FnExactReorderShares_F, laws_FnExactReorderShares_M, schC_zero, hn1]
    refine call_pc (toScheme_pc s p w b) (by simp) (by simp) ?_
    simp
    refine call_g [] hto (by simp) (by simp) ?_
    simp
    refine call_s [.l 1] h1 (by simp) ?_
    simp
    refine call_g [] hto (by simp) (by simp) ?_
    simp
    refine call_pc (toScheme_pc s p w b) (by simp) (by simp) ?_
    simp
    refine call_s [.l 3] h2 (by simp) ?_
    simp
    refine call_pc (eqScheme_pc s2 p2 w2 b2) (by simp) (by simp) ?_
    simp
    refine call_g [] hto (by simp) (by simp) ?_
    simp
    refine call_s [.l 3, .l 5] heq (by simp) ?_
    simp
    exact ret_pu (by simp) (by simp) (by simp)
  · first
    | exact absurd (Nat.zero_le _) hn
    | have hn1 : (1048576 : Int) < (0 : Nat) := by omega
      simp [laws_FnExactReorderShares_F, laws_FnExactReorderShares_M, schC_zero, hn1]
      exact ret_pu (by simp) (by simp) (by simp)
end Go.Proofs.Ytmdemhfmhlnlgaa
