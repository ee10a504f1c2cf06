/- A part of the proof library: names for blocks of memory, a small form of the code, and rules for walks over it. -/
import Derived.Test.YtaadiplbjelbnaaL2ar2
import Derived.Test.YtaadiplbjelbnaaC5r2
set_option linter.all false
namespace Go.Proofs.Ytaadiplbjelbnaa
open Go.Ab
set_option maxHeartbeats 800000

/-- The rows of the scheme that lets three see. -/
def th3B (n i : Nat) : Nat := (2 ^ (n - 2) - 1) ||| 2 ^ (n - 2 + i)
def th3W (n i : Nat) : Nat := anc (2 ^ (2 * n - 2) - 1) (th3B n i)
theorem th3_key : ∀ n : Fin 6, ∀ i : Fin 6, 3 ≤ n.val → i.val < n.val →
    orI .u8 (IntKind.u8.wrap (shlI .u8 1 ((n.val : Int) - 2) - 1)) (shlI .u8 1 ((n.val : Int) - 2 + i.val)) = (th3B n.val i.val : Int) ∧
    ancI .u8 ((2 ^ (2 * n.val - 2) - 1 : Nat) : Int) (th3B n.val i.val : Int) = (th3W n.val i.val : Int) ∧
    IntKind.u8.wrap (shlI .u8 1 (2 * (n.val : Int) - 2) - 1) = ((2 ^ (2 * n.val - 2) - 1 : Nat) : Int) ∧ th3B n.val i.val < 256 ∧ th3W n.val i.val < 256 := by decide +kernel

theorem threeOf_impl (n : Nat) (h : 3 ≤ n ∧ n ≤ 5) : PC Try.prog 24 [.int .i64 n] (.tup [sch n (2 * n - 2 : Int) (fun i => if i < n then th3W n i else 0) (fun i => if i < n then th3B n i else 0), .int .i64 0]) := by
  have w1 : IntKind.i64.wrap ((n : Int) - 2) = n - 2 := wrap_i64 (by omega) (by omega)
  have w2 : IntKind.i64.wrap (2 * (n : Int)) = 2 * n := wrap_i64 (by omega) (by omega)
  have w3 : IntKind.i64.wrap (2 * (n : Int) - 2) = 2 * n - 2 := wrap_i64 (by omega) (by omega)
  have w4 : IntKind.i8.wrap (2 * (n : Int) - 2) = 2 * n - 2 := wrap_i8 (by omega) (by omega)
  have w5 : IntKind.i8.wrap (n : Int) = n := wrap_i8 (by omega) (by omega)
  have hmask := mask_pc (2 * n - 2 : Int) (by omega)
  have hcl : ∀ i : Nat, i < n → ∀ ro, Ct Try.prog ro 63 [.int .i64 i, .ptr (.e 0) 0, .ptr (.e 1) 0] [[.int .i64 n], [.int .i64 (2 * n - 2)]] fun v E' L' => v = .tup [.int .u8 (th3W n i : Nat), .int .u8 (th3B n i : Nat)] ∧ E' = [[.int .i64 n], [.int .i64 (2 * n - 2)]] ∧ L' = [] := fun i hi ro => by
    obtain ⟨k1, k2, k3, k4, k5⟩ := th3_key ⟨n, by omega⟩ ⟨i, by omega⟩ h.1 hi
    simp only at k1 k2 k3 k4 k5
    have hmk := hmask
    rw [show ((2 : Int) * n - 2).toNat = 2 * n - 2 by omega] at hmk
    have w6 : IntKind.i64.wrap ((n : Int) - 2 + i) = n - 2 + i := wrap_i64 (by omega) (by omega)
    generalize 2 ^ (2 * n - 2) - 1 = mk at k2 hmk
    refine ct_of impl_ThreeOf_1_ok ?_
    simp [impl_ThreeOf_1_F, impl_ThreeOf_1_M, w1, w6, show ¬ ((n : Int) - 2 < 0) by omega, show ¬ ((n : Int) - 2 + i < 0) by omega, k1, w4]
    refine call_pc hmk (by simp) (by simp) ?_
    simp [k2]
    exact ret_pu (by simp) (by simp) (by simp)
  refine pc_of impl_ThreeOf_ok (fun ro => ?_)
  simp [impl_ThreeOf_F, impl_ThreeOf_M, schC_zero]
  refine call_pc (within_pc n 3 5) (by simp) (by simp) ?_
  simp [show 3 ≤ (n : Int) ∧ (n : Int) ≤ 5 by omega, w2, w3]
  refine call_s [.l 0, .l 2] (made_ct (n := n) (p := 2 * n - 2) (g := 63) (caps := [.ptr (.e 0) 0, .ptr (.e 1) 0]) (E := [[.int .i64 n], [.int .i64 (2 * n - 2)]]) (by omega) (by kernel_rfl) (by simp) (by simp) hcl) (by simp) ?_
  simp [w4, w5]
  exact ret_pu (by simp) (by simp) (by simp)

theorem threeOf_spec (n : Nat) (h : 3 ≤ n ∧ n ≤ 5) : PC Try.prog 23 [.int .i64 n] (.tup [sch n (2 * n - 2 : Int) (fun i => if i < n then th3W n i else 0) (fun i => if i < n then th3B n i else 0), .int .i64 0]) := by
  have w1 : IntKind.i64.wrap ((n : Int) - 2) = n - 2 := wrap_i64 (by omega) (by omega)
  have w2 : IntKind.i64.wrap (2 * (n : Int)) = 2 * n := wrap_i64 (by omega) (by omega)
  have w3 : IntKind.i64.wrap (2 * (n : Int) - 2) = 2 * n - 2 := wrap_i64 (by omega) (by omega)
  have w4 : IntKind.i8.wrap (2 * (n : Int) - 2) = 2 * n - 2 := wrap_i8 (by omega) (by omega)
  have w5 : IntKind.i8.wrap (n : Int) = n := wrap_i8 (by omega) (by omega)
  have w7 : IntKind.u64.wrap (2 * (n : Int) - 2) = 2 * n - 2 := wrap_u64 (by omega) (by omega)
  have w8 : IntKind.u64.wrap ((n : Int) - 2) = n - 2 := wrap_u64 (by omega) (by omega)
  have hk3 := (th3_key ⟨n, by omega⟩ ⟨0, by omega⟩ h.1 (by simp; omega)).2.2.1
  simp only at hk3
  obtain ⟨mk, hmk⟩ : ∃ mk, mk = 2 ^ (2 * n - 2) - 1 := ⟨_, rfl⟩
  rw [← hmk] at hk3
  refine pc_of spec_ThreeOf_ok (fun ro => ?_)
  simp [spec_ThreeOf_F, spec_ThreeOf_M, schC_zero]
  refine call_pc (l00In_pc n 3 5) (by simp) (by simp) ?_
  simp [show 3 ≤ (n : Int) ∧ (n : Int) ≤ 5 by omega, w2, w3, w4, w5, w7, schC_zero, hk3, show ¬ (2 * (n : Int) - 2 < 0) by omega]
  refine wp_for n (fun k => ⟨[(0, .int .i64 n), (2, .ptr (.l 0) 0), (4, .ptr (.l 1) 0), (5, .int .u8 mk), (6, .int .i64 k)], [schC 0 0 (fun _ => 0) (fun _ => 0), schC n (2 * n - 2 : Int) (fun i => if i < k then th3W n i else 0) (fun i => if i < k then th3B n i else 0)], []⟩) ?_ ?_ ?_
  · simp
  · intro k hk
    obtain ⟨k1, k2, k3, k4, k5⟩ := th3_key ⟨n, by omega⟩ ⟨k, by omega⟩ h.1 hk
    simp only at k1 k2 k3 k4 k5
    rw [← hmk] at k2
    have hk1 : (k : Int) < n := by omega
    have hk6 : k < 6 := by omega
    have hk7 : (k : Int) < 6 := by omega
    have hwk : IntKind.i64.wrap ((k : Int) + 1) = k + 1 := wrap_i64 (by omega) (by omega)
    have w6 : IntKind.i64.wrap ((n : Int) - 2 + k) = n - 2 + k := wrap_i64 (by omega) (by omega)
    have w9 : IntKind.u64.wrap ((n : Int) - 2 + k) = n - 2 + k := wrap_u64 (by omega) (by omega)
    simp [spec_ThreeOf_L0, hk1, w1, w6, w8, w9, show ¬ ((n : Int) - 2 < 0) by omega, show ¬ ((n : Int) - 2 + k < 0) by omega, k1]
    simp [hk6, hk7, schC_setb, schC_b hk6, show 8 + k ≤ 13 by omega, k2]
    simp [hk6, hk7, schC_setw hk6, show 2 + k ≤ 13 by omega, hwk]
    exact schC_congr (fun i _ => by by_cases h : i = k <;> by_cases h2 : i < k <;> simp [h, h2] <;> omega) (fun i _ => by by_cases h : i = k <;> by_cases h2 : i < k <;> simp [h, h2] <;> omega)
  · simp [spec_ThreeOf_L0]
    exact ret_pu (by simp) (by simp) (by simp)

theorem threeOf_no (n : Int) (h : ¬ (3 ≤ n ∧ n ≤ 5)) : PC Try.prog 23 [.int .i64 n] (.tup [sch 0 0 (fun _ => 0) (fun _ => 0), .int .i64 2]) ∧ PC Try.prog 24 [.int .i64 n] (.tup [sch 0 0 (fun _ => 0) (fun _ => 0), .int .i64 2]) := by
  constructor
  · refine pc_of spec_ThreeOf_ok (fun ro => ?_)
    simp [spec_ThreeOf_F, spec_ThreeOf_M, schC_zero]
    refine call_pc (l00In_pc n 3 5) (by simp) (by simp) ?_
    simp [h, schC_zero]
    exact ret_pu (by simp) (by simp) (by simp)
  · refine pc_of impl_ThreeOf_ok (fun ro => ?_)
    simp [impl_ThreeOf_F, impl_ThreeOf_M, schC_zero]
    refine call_pc (within_pc n 3 5) (by simp) (by simp) ?_
    simp [h, schC_zero]
    exact ret_pu (by simp) (by simp) (by simp)

theorem lawThreeOf (n : Int) (_h : -9223372036854775808 ≤ n ∧ n ≤ 9223372036854775807) : PC Try.prog 6 [.int .i64 n] (.bool true) := by
  have key : ∃ s p w b c, PC Try.prog 23 [.int .i64 n] (.tup [sch s p w b, .int .i64 c]) ∧ PC Try.prog 24 [.int .i64 n] (.tup [sch s p w b, .int .i64 c]) := by
    by_cases h : 3 ≤ n ∧ n ≤ 5
    · obtain ⟨m, rfl⟩ := Int.eq_ofNat_of_zero_le (show 0 ≤ n by omega)
      exact ⟨_, _, _, _, _, threeOf_spec m (by omega), threeOf_impl m (by omega)⟩
    · exact ⟨_, _, _, _, _, (threeOf_no n h).1, (threeOf_no n h).2⟩
  obtain ⟨s, p, w, b, c, h1, h2⟩ := key
  refine pc_of laws_FnExactThreeOf_ok (fun ro => ?_)
  simp [laws_FnExactThreeOf_F, laws_FnExactThreeOf_M, schC_zero]
  refine call_pc h1 (by simp) (by simp) ?_
  simp [schC_zero]
  refine call_pc h2 (by simp) (by simp) ?_
  simp
  refine call_pc (eqScheme_pc s p w b) (by simp) (by simp) ?_
  simp
  exact ret_pu (by simp) (by simp) (by simp)
end Go.Proofs.Ytaadiplbjelbnaa
