/- A part of the proof library: names for blocks of memory, a small form of the code, and rules for walks over it. -/
import Derived.Test.YteidfholicaocaaV1b
set_option linter.all false
namespace Go.Proofs.Yteidfholicaocaa
open Go.Ab
set_option linter.all false
set_option maxHeartbeats 800000

theorem columnsAt_ok (n : Nat) (hn : n ≤ 1048576) (P : Nat → Int) (F : Nat → Nat → Nat) (hP : ∀ i, -128 ≤ P i ∧ P i < 128) (hF : ∀ i j, F i j < 256) (cell : Int) (hl : lCode n P F = 0) (hc0 : 0 ≤ cell) (hc1 : cell ≤ 63) :
    ∃ p f, p ≤ 8 ∧ (∀ ro, Ct Try.prog ro 41 [.slx (.e 0) 0 n, .int .i64 cell] [lays n P F] fun v E' L' => v = .tup [.slx (.l 0) 0 p, .int .i64 0] ∧ E' = [lays n P F] ∧ L' = [byt p f]) ∧
      (∀ ro, Ct Try.prog ro 42 [.slx (.e 0) 0 n, .int .i64 cell] [lays n P F] fun v E' L' => v = .tup [.slx (.l 0) 0 p, .int .i64 0] ∧ E' = [lays n P F] ∧ L' = [byt p f]) := by
  have k1 := l03Layers_ct n hn P F hP hF
  have k2 := layersCode_ct n hn P F hP hF
  obtain ⟨hall, h8, _⟩ := lCode_ok hl
  have hlok := (lok_iff.1 (allLokB_iff.1 hall 0 (by omega))).1
  rw [hl] at k1 k2
  obtain ⟨c, rfl⟩ := Int.eq_ofNat_of_zero_le hc0
  obtain ⟨p, hp⟩ := Int.eq_ofNat_of_zero_le (show 0 ≤ P 0 by omega)
  have hc : c < 64 := by omega
  have k3 := within_pc (c : Int) 0 63
  have k4 := l00In_pc (c : Int) 0 63
  rw [show decide ((0 : Int) ≤ (c : Int) ∧ (c : Int) ≤ 63) = true by simp; omega] at k3 k4
  have k5 := columnsAt_ct n p (by omega) h8.2 (by omega) (by omega) P F hp hF c hc
  have k6 := l03Rows_ct n h8.2 P F c hc
  have k7 := l03Columns_ct n p (by omega) h8.2 (by omega) (fun i => F i c) (fun i => hF i c)
  have hp1 := lays_p (P := P) (F := F) (show 0 < n by omega)
  rw [Nat.zero_mul, hp] at hp1
  have hp1E : ∀ h, (lays n P F)[0]'h = .int .i8 p := fun h => by rw [List.getElem?_eq_getElem h] at hp1; exact Option.some.inj hp1
  have hw : IntKind.i64.wrap (p : Int) = p := wrap_i64 (by omega) (by omega)
  refine ⟨p, srt p (colN n 255 fun i => F i c), by omega, fun ro => ?_, fun ro => ?_⟩
  · generalize srt p (colN n 255 fun i => F i c) = f at *
    refine ct_of spec_ColumnsAt_ok ?_
    simp only [spec_ColumnsAt_F, spec_ColumnsAt_M]
    refine wp_seq_opq fun R hR => ?_
    simp
    subst hR
    refine wp_seq_opq fun R hR => ?_
    simp
    refine call_s [.e 0] k1 (by simp) ?_
    simp
    subst hR
    refine wp_seq_opq fun R hR => ?_
    simp
    refine call_pc k4 (by simp) (by simp) ?_
    simp
    subst hR
    refine wp_seq_opq fun R hR => ?_
    simp
    subst hR
    refine wp_seq_opq fun R hR => ?_
    simp
    refine calld_r [.e 0] k6 (by simp) (by simp) ?_
    simp [hp1, hp1E, show 0 < n by omega, show (0 : Int) < n by omega, hw]
    refine calld_r [.l 0] k7 (by simp) (by simp) ?_
    simp
    subst hR
    simp
    exact ret_new 1 (c := byt p f) (v' := .tup [.slx (.l 0) 0 p, .int .i64 0]) (.inl (by simp [kmap])) (by simp) ⟨[], by simp⟩ (by simp) (by simp) (by simp)
  · generalize srt p (colN n 255 fun i => F i c) = f at *
    refine ct_of impl_ColumnsAt_ok ?_
    simp only [impl_ColumnsAt_F, impl_ColumnsAt_M]
    refine wp_seq_opq fun R hR => ?_
    simp
    subst hR
    refine wp_seq_opq fun R hR => ?_
    simp
    refine call_s [.e 0] k2 (by simp) ?_
    simp
    subst hR
    refine wp_seq_opq fun R hR => ?_
    simp
    refine call_pc k3 (by simp) (by simp) ?_
    simp
    subst hR
    refine wp_seq_opq fun R hR => ?_
    simp
    refine call_g [.e 0] k5 (by simp) (by simp) ?_
    simp
    subst hR
    simp
    exact ret_new 0 (c := byt p f) (v' := .tup [.slx (.l 0) 0 p, .int .i64 0]) (.inl (by simp [kmap])) (by simp) ⟨[], by simp⟩ (by simp) (by simp) (by simp)
theorem columnsAt_no (n : Nat) (hn : n ≤ 1048576) (P : Nat → Int) (F : Nat → Nat → Nat) (hP : ∀ i, -128 ≤ P i ∧ P i < 128) (hF : ∀ i j, F i j < 256) (cell : Int) (c : Int)
    (hc : (lCode n P F = c ∧ c ≠ 0) ∨ (lCode n P F = 0 ∧ ¬ (0 ≤ cell ∧ cell ≤ 63) ∧ c = 2)) :
    (∀ ro, Ct Try.prog ro 41 [.slx (.e 0) 0 n, .int .i64 cell] [lays n P F] fun v E' L' => v = .tup [.slx (.l 0) 0 0, .int .i64 c] ∧ E' = [lays n P F] ∧ L' = [byt 0 fun _ => 0]) ∧
      (∀ ro, Ct Try.prog ro 42 [.slx (.e 0) 0 n, .int .i64 cell] [lays n P F] fun v E' L' => v = .tup [.nilsl, .int .i64 c] ∧ E' = [lays n P F] ∧ L' = []) := by
  have k1 := l03Layers_ct n hn P F hP hF
  have k2 := layersCode_ct n hn P F hP hF
  have k3 := within_pc cell 0 63
  have k4 := l00In_pc cell 0 63
  rcases hc with ⟨h1, h2⟩ | ⟨h1, h2, rfl⟩
  · rw [h1] at k1 k2
    refine ⟨fun ro => ?_, fun ro => ?_⟩
    · refine ct_of spec_ColumnsAt_ok ?_
      simp only [spec_ColumnsAt_F, spec_ColumnsAt_M]
      refine wp_seq_opq fun R hR => ?_
      simp
      subst hR
      refine wp_seq_opq fun R hR => ?_
      simp
      refine call_s [.e 0] k1 (by simp) ?_
      simp
      subst hR
      refine wp_seq_opq fun R hR => ?_
      simp [h2]
      subst hR
      refine wp_seq_opq fun R hR => ?_
      simp [h2]
      exact ret_new 0 (c := byt 0 fun _ => 0) (v' := .tup [.slx (.l 0) 0 0, .int .i64 c]) (.inr (by simp [V.hid, hidL, kmap])) (by simp) ⟨[], by simp [byt, tab, zrow]⟩ (by simp) (by simp) (by simp)
    · refine ct_of impl_ColumnsAt_ok ?_
      simp only [impl_ColumnsAt_F, impl_ColumnsAt_M]
      refine wp_seq_opq fun R hR => ?_
      simp
      subst hR
      refine wp_seq_opq fun R hR => ?_
      simp
      refine call_s [.e 0] k2 (by simp) ?_
      simp [h2]
      exact ret_pu (by simp) (by simp) (by simp)
  · rw [h1] at k1 k2
    rw [show decide ((0 : Int) ≤ cell ∧ cell ≤ 63) = false by simpa using h2] at k3 k4
    refine ⟨fun ro => ?_, fun ro => ?_⟩
    · refine ct_of spec_ColumnsAt_ok ?_
      simp only [spec_ColumnsAt_F, spec_ColumnsAt_M]
      refine wp_seq_opq fun R hR => ?_
      simp
      subst hR
      refine wp_seq_opq fun R hR => ?_
      simp
      refine call_s [.e 0] k1 (by simp) ?_
      simp
      subst hR
      refine wp_seq_opq fun R hR => ?_
      simp
      refine call_pc k4 (by simp) (by simp) ?_
      simp
      subst hR
      refine wp_seq_opq fun R hR => ?_
      simp
      exact ret_new 0 (c := byt 0 fun _ => 0) (v' := .tup [.slx (.l 0) 0 0, .int .i64 2]) (.inr (by simp [V.hid, hidL, kmap])) (by simp) ⟨[], by simp [byt, tab, zrow]⟩ (by simp) (by simp) (by simp)
    · refine ct_of impl_ColumnsAt_ok ?_
      simp only [impl_ColumnsAt_F, impl_ColumnsAt_M]
      refine wp_seq_opq fun R hR => ?_
      simp
      subst hR
      refine wp_seq_opq fun R hR => ?_
      simp
      refine call_s [.e 0] k2 (by simp) ?_
      simp
      subst hR
      refine wp_seq_opq fun R hR => ?_
      simp
      refine call_pc k3 (by simp) (by simp) ?_
      simp
      exact ret_pu (by simp) (by simp) (by simp)
set_option maxRecDepth 10000 in
set_option maxHeartbeats 6000000 in
theorem lawColumnsAt (E : List (List V)) (hE : ∀ c ∈ E, puL c) (A : V) (n : Nat) (P : Nat → Int) (F : Nat → Nat → Nat) (LA : LArg E A n P F) (cell : Int) (hc : -9223372036854775808 ≤ cell ∧ cell ≤ 9223372036854775807) :
    Ct Try.prog true 13 [A, .int .i64 cell] E fun v E' L' => v = .bool true ∧ E' = E ∧ L' = [] := by
  refine ct_of laws_FnExactColumnsAt_ok ?_
  simp only [laws_FnExactColumnsAt_F, laws_FnExactColumnsAt_M]
  refine wp_seq_opq fun R hR => ?_
  simp
  subst hR
  refine wp_seq_opq fun R hR => ?_
  simp
  subst hR
  refine wp_seq_opq fun R hR => ?_
  simp
  refine LA.sz 1048576 (by omega) _ _ rfl ?_
  by_cases h1 : 1048576 < n
  · simp [h1]
    subst hR
    refine wp_seq_opq fun R hR => ?_
    simp
    exact ret_pu (by simp) hE (by simp)
  · have g1 : ¬ (((1048576 - n : Nat) : Int) < 0) := by omega
    have hn : n ≤ 1048576 := by omega
    generalize 1048576 - n = d at *
    simp [h1]
    subst hR
    refine wp_seq_opq fun R hR => ?_
    simp [g1]
    subst hR
    have e4 := markLayerS_ct n 1 (by omega) P F
    have hk : ¬ (((1 : Nat) : Int) + 65 * (n : Int) < 0) := by omega
    generalize ((1 : Nat) : Int) + 65 * (n : Int) = y at *
    by_cases hg : lCode n P F = 0 ∧ 0 ≤ cell ∧ cell ≤ 63
    · obtain ⟨p, f, hp, h1, h2⟩ := columnsAt_ok n hn P F LA.hP LA.hF cell hg.1 hg.2.1 hg.2.2
      have e1 := eqByteS_ct p (by omega) f
      have e2 := markByteS_ct p 1 (by omega) f
      have e3 := heldByteS_ct p 1 (by omega)
      have hz : ¬ (((1 : Nat) : Int) + (p : Int) < 0) := by omega
      generalize ((1 : Nat) : Int) + (p : Int) = z at *
      refine wp_seq_opq fun R hR => ?_
      simp
      refine LA.to hn _ _ rfl ?_
      simp
      refine call_g [.l 0] h1 (by simp) (by simp) ?_
      simp
      subst hR
      refine wp_seq_opq fun R hR => ?_
      simp
      refine LA.to hn _ _ rfl ?_
      simp
      subst hR
      refine wp_seq_opq fun R hR => ?_
      simp
      refine call_g [.l 2] h2 (by simp) (by simp) ?_
      simp
      subst hR
      refine wp_seq_opq fun R hR => ?_
      simp
      refine call_s [.l 3, .l 1] e1 (by simp) ?_
      simp
      subst hR
      refine wp_seq_opq fun R hR => ?_
      simp
      refine LA.to hn _ _ rfl ?_
      simp
      refine call_s [.l 2, .l 4] (eqLayerS_ct n hn P F) (by simp) ?_
      simp
      subst hR
      refine wp_seq_opq fun R hR => ?_
      simp
      subst hR
      refine wp_seq_opq fun R hR => ?_
      simp
      refine call_w [.l 2] e4 (by simp) (by simp) ?_
      simp
      subst hR
      refine wp_seq_opq fun R hR => ?_
      simp [hk]
      refine call_s [.l 3, .l 1] e1 (by simp) ?_
      simp
      subst hR
      refine wp_seq_opq fun R hR => ?_
      simp
      subst hR
      refine wp_seq_opq fun R hR => ?_
      simp
      refine call_w [.l 3] e2 (by simp) (by simp) ?_
      simp
      subst hR
      refine wp_seq_opq fun R hR => ?_
      simp
      subst hR
      refine wp_seq_opq fun R hR => ?_
      simp
      refine call_s [.l 3] e3 (by simp) ?_
      simp
      subst hR
      refine wp_seq_opq fun R hR => ?_
      simp [hz]
      subst hR
      refine wp_seq_opq fun R hR => ?_
      simp [hz]
      subst hR
      refine wp_seq_opq fun R hR => ?_
      simp
      refine LA.to hn _ _ rfl ?_
      simp
      refine call_g [.l 5] h2 (by simp) (by simp) ?_
      simp
      subst hR
      refine wp_seq_opq fun R hR => ?_
      simp
      refine call_s [.l 6, .l 1] e1 (by simp) ?_
      simp
      subst hR
      refine wp_seq_opq fun R hR => ?_
      simp
      subst hR
      refine wp_seq_opq fun R hR => ?_
      simp
      refine call_s [.l 3] e3 (by simp) ?_
      simp
      subst hR
      refine wp_seq_opq fun R hR => ?_
      simp [hz]
      subst hR
      refine wp_seq_opq fun R hR => ?_
      simp [hz]
      subst hR
      simp
      exact ret_pu (by simp) hE (by simp)
    · obtain ⟨c, hcc⟩ : ∃ c : Int, (lCode n P F = c ∧ c ≠ 0) ∨ (lCode n P F = 0 ∧ ¬ (0 ≤ cell ∧ cell ≤ 63) ∧ c = 2) := by
        by_cases h0 : lCode n P F = 0
        · exact ⟨2, .inr ⟨h0, fun h => hg ⟨h0, h⟩, rfl⟩⟩
        · exact ⟨_, .inl ⟨rfl, h0⟩⟩
      obtain ⟨h1, h2⟩ := columnsAt_no n hn P F LA.hP LA.hF cell c hcc
      have e2 := markNilByteS_ct 1
      have e3 := heldNilByteS_ct 1
      refine wp_seq_opq fun R hR => ?_
      simp
      refine LA.to hn _ _ rfl ?_
      simp
      refine call_g [.l 0] h1 (by simp) (by simp) ?_
      simp
      subst hR
      refine wp_seq_opq fun R hR => ?_
      simp
      refine LA.to hn _ _ rfl ?_
      simp
      subst hR
      refine wp_seq_opq fun R hR => ?_
      simp
      refine call_s [.l 2] h2 (by simp) ?_
      simp
      subst hR
      refine wp_seq_opq fun R hR => ?_
      simp
      refine call_s [.l 1] eqNilByteS_ct (by simp) ?_
      simp
      subst hR
      refine wp_seq_opq fun R hR => ?_
      simp
      refine LA.to hn _ _ rfl ?_
      simp
      refine call_s [.l 2, .l 3] (eqLayerS_ct n hn P F) (by simp) ?_
      simp
      subst hR
      refine wp_seq_opq fun R hR => ?_
      simp
      subst hR
      refine wp_seq_opq fun R hR => ?_
      simp
      refine call_w [.l 2] e4 (by simp) (by simp) ?_
      simp
      subst hR
      refine wp_seq_opq fun R hR => ?_
      simp [hk]
      refine call_s [.l 1] eqNilByteS_ct (by simp) ?_
      simp
      subst hR
      refine wp_seq_opq fun R hR => ?_
      simp
      subst hR
      refine wp_seq_opq fun R hR => ?_
      simp
      refine call_pc e2 (by simp) (by simp) ?_
      simp
      subst hR
      refine wp_seq_opq fun R hR => ?_
      simp
      subst hR
      refine wp_seq_opq fun R hR => ?_
      simp
      refine call_pc e3 (by simp) (by simp) ?_
      simp
      subst hR
      refine wp_seq_opq fun R hR => ?_
      simp
      subst hR
      refine wp_seq_opq fun R hR => ?_
      simp
      subst hR
      refine wp_seq_opq fun R hR => ?_
      simp
      refine LA.to hn _ _ rfl ?_
      simp
      refine call_s [.l 4] h2 (by simp) ?_
      simp
      subst hR
      refine wp_seq_opq fun R hR => ?_
      simp
      refine call_s [.l 1] eqNilByteS_ct (by simp) ?_
      simp
      subst hR
      refine wp_seq_opq fun R hR => ?_
      simp
      subst hR
      refine wp_seq_opq fun R hR => ?_
      simp
      refine call_pc e3 (by simp) (by simp) ?_
      simp
      subst hR
      refine wp_seq_opq fun R hR => ?_
      simp
      subst hR
      refine wp_seq_opq fun R hR => ?_
      simp
      subst hR
      simp
      exact ret_pu (by simp) hE (by simp)
end Go.Proofs.Yteidfholicaocaa
