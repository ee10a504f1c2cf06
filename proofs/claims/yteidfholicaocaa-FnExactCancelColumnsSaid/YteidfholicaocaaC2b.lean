/- A part of the proof library: names for blocks of memory, a small form of the code, and rules for walks over it. -/
import Derived.Test.YteidfholicaocaaC1b
set_option linter.all false
namespace Go.Proofs.Yteidfholicaocaa
open Go.Ab
set_option maxHeartbeats 400000

/-- A scheme is valid. -/
def SOk (s p : Int) (w b : Nat → Nat) : Prop := (1 ≤ s ∧ s ≤ 6) ∧ (1 ≤ p ∧ p ≤ 8) ∧ ∀ i, i < 6 → (w i ||| b i) < 2 ^ p.toNat ∧ (s ≤ i → (w i ||| b i) = 0)
open Classical in
noncomputable def sok (s p : Int) (w b : Nat → Nat) : Bool := decide (SOk s p w b)
theorem sok_iff {s p : Int} {w b : Nat → Nat} : sok s p w b = true ↔ SOk s p w b := by simp [sok]

theorem l02Ok_ct (s p : Int) (w b : Nat → Nat) (hs : -128 ≤ s ∧ s < 128) (hp : -128 ≤ p ∧ p < 128) (hw : ∀ i, w i < 256) (hb : ∀ i, b i < 256) (ro : Bool) : Ct Try.prog ro 72 [.ptr (.e 0) 0] [schC s p w b] (fun v E' L' => v = .bool (sok s p w b) ∧ E' = [schC s p w b] ∧ L' = []) := by
  refine ct_of spec_l02Ok_ok ?_
  have hw1 : IntKind.i64.wrap s = s := wrap_i64 (by omega) (by omega)
  have hw2 : IntKind.i64.wrap p = p := wrap_i64 (by omega) (by omega)
  simp [spec_l02Ok_F, spec_l02Ok_M, hw1]
  refine call_pc (l00In_pc s 1 6) (by simp) (by simp) ?_
  by_cases h1 : 1 ≤ s ∧ s ≤ 6
  · simp [h1, hw2]
    refine call_pc (l01Parts_pc p) (by simp) (by simp) ?_
    by_cases h2 : 1 ≤ p ∧ p ≤ 8
    · simp [h2]
      have hu : IntKind.u64.wrap p = p := wrap_u64 (by omega) (by omega)
      obtain ⟨q, rfl⟩ := Int.eq_ofNat_of_zero_le (show 0 ≤ p by omega)
      refine wp_forR 6 (fun k => ⟨[(0, .ptr (.e 0) 0), (3, .int .i64 k)], [], [schC s q w b]⟩) (fun k => (w k ||| b k) < 2 ^ q ∧ (s ≤ k → (w k ||| b k) = 0)) ?_ ?_ ?_
      · intro k hk hg
        have hk1 : (k : Int) < 6 := by omega
        have hwk : IntKind.i64.wrap ((k : Int) + 1) = k + 1 := wrap_i64 (by omega) (by omega)
        have ho : orI .u8 (w k : Int) (b k : Int) = ((w k ||| b k : Nat) : Int) := or8 (hw k) (hb k)
        have hl := or_lt8 (hw k) (hb k)
        generalize (w k ||| b k) = o at hg ho hl
        have hk0 : shrI .u8 (o : Int) (q : Int) = ((o / 2 ^ q : Nat) : Int) := shr8 hl
        rw [Nat.div_eq_of_lt hg.1] at hk0
        by_cases h3 : s ≤ k
        · have e2 := hg.2 h3
          subst e2
          simp at hk0 ho
          simp [spec_l02Ok_L0, hk1, hk, schC_w hk, schC_b hk, ho, hu, hw1, show ¬ (q : Int) < 0 by omega, hk0, h3, hwk]
        · simp [spec_l02Ok_L0, hk1, hk, schC_w hk, schC_b hk, ho, hu, hw1, show ¬ (q : Int) < 0 by omega, hk0, h3, hwk]
      · intro k hk hg hb'
        have hk1 : (k : Int) < 6 := by omega
        have hno : sok s q w b = false := Bool.eq_false_iff.2 fun h => hg ((sok_iff.1 h).2.2 k hk)
        have ho : orI .u8 (w k : Int) (b k : Int) = ((w k ||| b k : Nat) : Int) := or8 (hw k) (hb k)
        have hl := or_lt8 (hw k) (hb k)
        generalize (w k ||| b k) = o at hg ho hl
        have hk0 : shrI .u8 (o : Int) (q : Int) = ((o / 2 ^ q : Nat) : Int) := shr8 hl
        by_cases h4 : o < 2 ^ q
        · have e1 : o / 2 ^ q = 0 := Nat.div_eq_of_lt h4
          rw [e1] at hk0
          have h3 : s ≤ k := Classical.byContradiction fun h => hg ⟨h4, fun h' => (h h').elim⟩
          have e2 : ¬ o = 0 := fun h => hg ⟨h4, fun _ => h⟩
          simp [spec_l02Ok_L0, hk1, hk, schC_w hk, schC_b hk, ho, hu, hw1, show ¬ (q : Int) < 0 by omega, hk0, h3, e2]
          exact ret_pu (by simp) (by simp) ⟨by rw [hno], rfl, rfl⟩
        · have e1 : ¬ o / 2 ^ q = 0 := by
            have : 0 < o / 2 ^ q := Nat.div_pos (by omega) (Nat.pow_pos (by decide))
            omega
          generalize o / 2 ^ q = o2 at hk0 e1
          simp [spec_l02Ok_L0, hk1, hk, schC_w hk, schC_b hk, ho, hu, hw1, show ¬ (q : Int) < 0 by omega, hk0, e1]
          exact ret_pu (by simp) (by simp) ⟨by rw [hno], rfl, rfl⟩
      · intro hall
        simp [spec_l02Ok_L0]
        exact ret_pu (by simp) (by simp) ⟨by rw [sok_iff.2 ⟨h1, h2, hall⟩], rfl, rfl⟩
    · simp [h2]; exact ret_pu (by simp) (by simp) (by simp [sok, SOk, h2])
  · simp [h1]; exact ret_pu (by simp) (by simp) (by simp [sok, SOk, h1])

theorem specValidScheme_pc (s p : Int) (w b : Nat → Nat) (hs : -128 ≤ s ∧ s < 128) (hp : -128 ≤ p ∧ p < 128) (hw : ∀ i, w i < 256) (hb : ∀ i, b i < 256) : PC Try.prog 109 [sch s p w b] (.bool (sok s p w b)) := by
  refine pc_of spec_ValidScheme_ok (fun ro => ?_)
  simp [spec_ValidScheme_F, spec_ValidScheme_M]
  refine call_s [.l 0] (l02Ok_ct s p w b hs hp hw hb) (by simp) ?_
  simp
  exact ret_pu (by simp) (by simp) (by simp)

theorem implValidScheme_pc (s p : Int) (w b : Nat → Nat) (hs : -128 ≤ s ∧ s < 128) (hp : -128 ≤ p ∧ p < 128) (hw : ∀ i, w i < 256) (hb : ∀ i, b i < 256) : PC Try.prog 74 [sch s p w b] (.bool (sok s p w b)) := by
  refine pc_of impl_ValidScheme_ok (fun ro => ?_)
  have hw1 : IntKind.i64.wrap s = s := wrap_i64 (by omega) (by omega)
  have hw2 : IntKind.i64.wrap p = p := wrap_i64 (by omega) (by omega)
  simp [impl_ValidScheme_F, impl_ValidScheme_M, hw1]
  refine call_pc (within_pc s 1 6) (by simp) (by simp) ?_
  by_cases h1 : 1 ≤ s ∧ s ≤ 6
  · simp [h1, hw2]
    refine call_pc (isParts_pc p) (by simp) (by simp) ?_
    by_cases h2 : 1 ≤ p ∧ p ≤ 8
    · simp [h2]
      obtain ⟨q, rfl⟩ := Int.eq_ofNat_of_zero_le (show 0 ≤ p by omega)
      have hm : 2 ^ q - 1 < 256 := by
        have : 2 ^ q ≤ 2 ^ 8 := Nat.pow_le_pow_right (by decide) (by omega)
        omega
      refine wp_forR 6 (fun k => ⟨[(1, .ptr (.l 0) 0), (17, .int .i64 k)], [schC s q w b], []⟩) (fun k => (w k ||| b k) < 2 ^ q ∧ (s ≤ k → (w k ||| b k) = 0)) ?_ ?_ ?_
      · intro k hk hg
        have hk1 : (k : Int) < 6 := by omega
        have hwk : IntKind.i64.wrap ((k : Int) + 1) = k + 1 := wrap_i64 (by omega) (by omega)
        have ho : orI .u8 (w k : Int) (b k : Int) = ((w k ||| b k : Nat) : Int) := or8 (hw k) (hb k)
        have hl := or_lt8 (hw k) (hb k)
        generalize (w k ||| b k) = o at hg ho hl
        have hk0 : ancI .u8 (o : Int) ((2 ^ q - 1 : Nat) : Int) = ((anc o (2 ^ q - 1) : Nat) : Int) := anc8 hl hm
        rw [(anc_zero o q hl (by omega)).2 hg.1] at hk0
        by_cases h3 : s ≤ k
        · have e2 := hg.2 h3
          subst e2
          simp at hk0 ho
          simp [impl_ValidScheme_L0, hk1, hk, schC_w hk, schC_b hk, ho, hw1, h3, hwk]
          refine call_pc (mask_pc q (by omega)) (by simp) (by simp) ?_
          simp [hk0, hw1, h3, hwk]
        · simp [impl_ValidScheme_L0, hk1, hk, schC_w hk, schC_b hk, ho, hw1, h3, hwk]
          refine call_pc (mask_pc q (by omega)) (by simp) (by simp) ?_
          simp [hk0, hw1, h3, hwk]
      · intro k hk hg hb'
        have hk1 : (k : Int) < 6 := by omega
        have hno : sok s q w b = false := Bool.eq_false_iff.2 fun h => hg ((sok_iff.1 h).2.2 k hk)
        have ho : orI .u8 (w k : Int) (b k : Int) = ((w k ||| b k : Nat) : Int) := or8 (hw k) (hb k)
        have hl := or_lt8 (hw k) (hb k)
        generalize (w k ||| b k) = o at hg ho hl
        have hk0 : ancI .u8 (o : Int) ((2 ^ q - 1 : Nat) : Int) = ((anc o (2 ^ q - 1) : Nat) : Int) := anc8 hl hm
        by_cases h4 : o < 2 ^ q
        · rw [(anc_zero o q hl (by omega)).2 h4] at hk0
          have h3 : s ≤ k := Classical.byContradiction fun h => hg ⟨h4, fun h' => (h h').elim⟩
          have e2 : ¬ o = 0 := fun h => hg ⟨h4, fun _ => h⟩
          simp [impl_ValidScheme_L0, hk1, hk, schC_w hk, schC_b hk, ho, hw1, h3]
          refine call_pc (mask_pc q (by omega)) (by simp) (by simp) ?_
          simp [hk0, hw1, h3, e2]
          exact ret_pu (by simp) (by simp) ⟨by rw [hno], rfl, rfl⟩
        · have e1 : ¬ anc o (2 ^ q - 1) = 0 := fun h => h4 ((anc_zero o q hl (by omega)).1 h)
          generalize anc o (2 ^ q - 1) = o2 at hk0 e1
          simp [impl_ValidScheme_L0, hk1, hk, schC_w hk, schC_b hk, ho, hw1]
          refine call_pc (mask_pc q (by omega)) (by simp) (by simp) ?_
          simp [hk0, e1]
          exact ret_pu (by simp) (by simp) ⟨by rw [hno], rfl, rfl⟩
      · intro hall
        simp [impl_ValidScheme_L0]
        exact ret_pu (by simp) (by simp) ⟨by rw [sok_iff.2 ⟨h1, h2, hall⟩], rfl, rfl⟩
    · simp [h2]; exact ret_pu (by simp) (by simp) (by simp [sok, SOk, h2])
  · simp [h1]; exact ret_pu (by simp) (by simp) (by simp [sok, SOk, h1])

theorem toByteA6_pc (f : Nat → Nat) : PC Try.prog 60 [.agg (byt 6 f)] (.agg (byt 6 f)) := by
  refine pc_of laws_toByteA6_ok (fun ro => ?_)
  simp [laws_toByteA6_F, laws_toByteA6_M]
  refine wp_for 6 (fun k => ⟨[(1, .ptr (.l 0) 0), (2, .ptr (.l 1) 0), (3, .ptr (.l 2) 0), (4, .int .i64 k)], [byt 6 f, byt 6 fun _ => 0, byt 6 fun i => if i < k then f i else 0], []⟩) ?_ ?_ ?_
  · simp [byt_zero]
  · intro k hk
    have hk1 : (k : Int) < 6 := by omega
    simp [laws_toByteA6_L0, hk1, hk, byt_set, wrap_i64 (show -9223372036854775808 ≤ (k : Int) + 1 by omega) (by omega), show k + 1 ≤ 6 from hk]
    exact byt_congr fun i _ => by by_cases h : i = k <;> by_cases h2 : i < k <;> simp [h, h2] <;> omega
  · simp [laws_toByteA6_L0, putl_all]
    rw [show (byt 6 fun i => if i < 6 then f i else 0) = byt 6 f from byt_congr fun i hi => by simp [hi]]
    exact ret_pu (by simp) (by simp) (by simp)

theorem toScheme_pc (s p : Int) (w b : Nat → Nat) : PC Try.prog 24 [sch s p w b] (sch s p w b) := by
  refine pc_of laws_toScheme_ok (fun ro => ?_)
  simp [laws_toScheme_F, laws_toScheme_M, schC_zero]
  refine call_pc (toByteA6_pc w) (by simp) (by simp) ?_
  simp
  refine call_pc (toByteA6_pc b) (by simp) (by simp) ?_
  simp [putl_all]
  exact ret_pu (by simp) (by simp) (by simp)
end Go.Proofs.Yteidfholicaocaa
