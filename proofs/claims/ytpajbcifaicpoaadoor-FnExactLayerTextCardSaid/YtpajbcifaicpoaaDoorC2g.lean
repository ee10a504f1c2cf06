/- A part of the proof library: names for blocks of memory, a small form of the code, and rules for walks over it. -/
import Derived.Test.YtpajbcifaicpoaaDoorC1g
set_option linter.all false
namespace Go.Proofs.YtpajbcifaicpoaaDoor
open Go.Ab
set_option maxHeartbeats 400000

/-- A scheme is valid. -/
def SOk (s p : Int) (w b : Nat → Nat) : Prop := (1 ≤ s ∧ s ≤ 6) ∧ (1 ≤ p ∧ p ≤ 8) ∧ ∀ i, i < 6 → (w i ||| b i) < 2 ^ p.toNat ∧ (s ≤ i → (w i ||| b i) = 0)
open Classical in
noncomputable def sok (s p : Int) (w b : Nat → Nat) : Bool := decide (SOk s p w b)
theorem sok_iff {s p : Int} {w b : Nat → Nat} : sok s p w b = true ↔ SOk s p w b := by simp [sok]



theorem implValidScheme_pc (s p : Int) (w b : Nat → Nat) (hs : -128 ≤ s ∧ s < 128) (hp : -128 ≤ p ∧ p < 128) (hw : ∀ i, w i < 256) (hb : ∀ i, b i < 256) : PC Tryd.prog 37 [sch s p w b] (.bool (sok s p w b)) := by
  refine pc_of impl_ValidScheme_ok (fun ro => ?_)
  have hw1 : IntKind.i64.wrap s = s := wrap_i64 (by omega) (by omega)
  have hw2 : IntKind.i64.wrap p = p := wrap_i64 (by omega) (by omega)
  simp [impl_ValidScheme_F, impl_ValidScheme_M, hw1]
  refine call_pc (within_pc s 1 6) (by simp) (by simp) ?_
  by_cases h1 : 1 ≤ s ∧ s ≤ 6
  · simp [h1, hw2]
    refine call_pc (isParts_pc p) (by simp) (by simp) ?_
    by_cases h2 : 1 ≤ p ∧ p ≤ 8
    · simp [h2]
      obtain ⟨q, rfl⟩ := Int.eq_ofNat_of_zero_le (show 0 ≤ p by omega)
      have hm : 2 ^ q - 1 < 256 := by
        have : 2 ^ q ≤ 2 ^ 8 := Nat.pow_le_pow_right (by decide) (by omega)
        omega
      refine wp_forR 6 (fun k => ⟨[(1, .ptr (.l 0) 0), (17, .int .i64 k)], [schC s q w b], []⟩) (fun k => (w k ||| b k) < 2 ^ q ∧ (s ≤ k → (w k ||| b k) = 0)) ?_ ?_ ?_
      · intro k hk hg
        have hk1 : (k : Int) < 6 := by omega
        have hwk : IntKind.i64.wrap ((k : Int) + 1) = k + 1 := wrap_i64 (by omega) (by omega)
        have ho : orI .u8 (w k : Int) (b k : Int) = ((w k ||| b k : Nat) : Int) := or8 (hw k) (hb k)
        have hl := or_lt8 (hw k) (hb k)
        generalize (w k ||| b k) = o at hg ho hl
        have hk0 : ancI .u8 (o : Int) ((2 ^ q - 1 : Nat) : Int) = ((anc o (2 ^ q - 1) : Nat) : Int) := anc8 hl hm
        rw [(anc_zero o q hl (by omega)).2 hg.1] at hk0
        by_cases h3 : s ≤ k
        · have e2 := hg.2 h3
          subst e2
          simp at hk0 ho
          simp [impl_ValidScheme_L0, hk1, hk, schC_w hk, schC_b hk, ho, hw1, h3, hwk]
          refine call_pc (mask_pc q (by omega)) (by simp) (by simp) ?_
          simp [hk0, hw1, h3, hwk]
        · simp [impl_ValidScheme_L0, hk1, hk, schC_w hk, schC_b hk, ho, hw1, h3, hwk]
          refine call_pc (mask_pc q (by omega)) (by simp) (by simp) ?_
          simp [hk0, hw1, h3, hwk]
      · intro k hk hg hb'
        have hk1 : (k : Int) < 6 := by omega
        have hno : sok s q w b = false := Bool.eq_false_iff.2 fun h => hg ((sok_iff.1 h).2.2 k hk)
        have ho : orI .u8 (w k : Int) (b k : Int) = ((w k ||| b k : Nat) : Int) := or8 (hw k) (hb k)
        have hl := or_lt8 (hw k) (hb k)
        generalize (w k ||| b k) = o at hg ho hl
        have hk0 : ancI .u8 (o : Int) ((2 ^ q - 1 : Nat) : Int) = ((anc o (2 ^ q - 1) : Nat) : Int) := anc8 hl hm
        by_cases h4 : o < 2 ^ q
        · rw [(anc_zero o q hl (by omega)).2 h4] at hk0
          have h3 : s ≤ k := Classical.byContradiction fun h => hg ⟨h4, fun h' => (h h').elim⟩
          have e2 : ¬ o = 0 := fun h => hg ⟨h4, fun _ => h⟩
          simp [impl_ValidScheme_L0, hk1, hk, schC_w hk, schC_b hk, ho, hw1, h3]
          refine call_pc (mask_pc q (by omega)) (by simp) (by simp) ?_
          simp [hk0, hw1, h3, e2]
          exact ret_pu (by simp) (by simp) ⟨by rw [hno], rfl, rfl⟩
        · have e1 : ¬ anc o (2 ^ q - 1) = 0 := fun h => h4 ((anc_zero o q hl (by omega)).1 h)
          generalize anc o (2 ^ q - 1) = o2 at hk0 e1
          simp [impl_ValidScheme_L0, hk1, hk, schC_w hk, schC_b hk, ho, hw1]
          refine call_pc (mask_pc q (by omega)) (by simp) (by simp) ?_
          simp [hk0, e1]
          exact ret_pu (by simp) (by simp) ⟨by rw [hno], rfl, rfl⟩
      · intro hall
        simp [impl_ValidScheme_L0]
        exact ret_pu (by simp) (by simp) ⟨by rw [sok_iff.2 ⟨h1, h2, hall⟩], rfl, rfl⟩
    · simp [h2]; exact ret_pu (by simp) (by simp) (by simp [sok, SOk, h2])
  · simp [h1]; exact ret_pu (by simp) (by simp) (by simp [sok, SOk, h1])


end Go.Proofs.YtpajbcifaicpoaaDoor
