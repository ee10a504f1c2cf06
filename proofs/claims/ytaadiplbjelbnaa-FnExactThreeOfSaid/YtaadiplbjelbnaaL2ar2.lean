/- A part of the proof library: names for blocks of memory, a small form of the code, and rules for walks over it. -/
import Derived.Test.YtaadiplbjelbnaaC3r2
set_option linter.all false
namespace Go.Proofs.Ytaadiplbjelbnaa
open Go.Ab
set_option maxHeartbeats 400000

theorem made_ct {g : FuncId} {caps : List V} {E : List (List V)} {n : Nat} {p : Int} {A B : Nat → Nat} (hn : n ≤ 6) (hg : hasBody Try.prog g = true) (hE : ∀ c ∈ E, puL c) (hc : eoL E.length caps) (h : ∀ i : Nat, i < n → ∀ ro, Ct Try.prog ro g (.int .i64 i :: caps) E fun v E' L' => v = .tup [.int .u8 (A i), .int .u8 (B i)] ∧ E' = E ∧ L' = []) (ro : Bool) :
    Ct Try.prog ro 53 [.int .i64 n, .int .i64 p, .fn g [] caps] E fun v E' L' => v = sch (IntKind.i8.wrap n) (IntKind.i8.wrap p) (fun i => if i < n then A i else 0) (fun i => if i < n then B i else 0) ∧ E' = E ∧ L' = [] := by
  refine ct_of impl_made_ok ?_
  simp [impl_made_F, impl_made_M, schC_zero, putl_all]
  refine wp_for n (fun k => ⟨[(2, .fn g [] caps), (6, .ptr (.l 0) 0), (7, .ptr (.l 1) 0), (14, .int .i64 n), (15, .int .i64 k)], [schC 0 0 (fun _ => 0) (fun _ => 0), schC (IntKind.i8.wrap n) (IntKind.i8.wrap p) (fun i => if i < k then A i else 0) (fun i => if i < k then B i else 0)], E⟩) ?_ ?_ ?_
  · simp [putl_all]
  · intro k hk
    have hk1 : (k : Int) < n := by omega
    have hk6 : k < 6 := by omega
    have hk7 : (k : Int) < 6 := by omega
    have hwk : IntKind.i64.wrap ((k : Int) + 1) = k + 1 := wrap_i64 (by omega) (by omega)
    simp [impl_made_L0, hk1, hk]
    refine ⟨hg, call_all (h k hk) ?_ hE (by simpa using hc) (by simp) ?_⟩
    · rfl
    simp [hk6, hk7, hwk, schC_setw, schC_setb, show 2 + k ≤ 13 by omega, show 8 + k ≤ 13 by omega]
    exact schC_congr (fun i _ => by by_cases h : i = k <;> by_cases h2 : i < k <;> simp [h, h2] <;> omega) (fun i _ => by by_cases h : i = k <;> by_cases h2 : i < k <;> simp [h, h2] <;> omega)
  · simp [impl_made_L0, putl_all]
    exact ret_pu (by simp) hE ⟨rfl, rfl, rfl⟩

theorem oneOf_spec (n : Int) (h : 1 ≤ n ∧ n ≤ 6) : PC Try.prog 15 [.int .i64 n] (.tup [sch n 1 (fun _ => 0) (fun i => if i < n.toNat then 1 else 0), .int .i64 0]) := by
  refine pc_of spec_OneOf_ok (fun ro => ?_)
  obtain ⟨m, rfl⟩ := Int.eq_ofNat_of_zero_le (show 0 ≤ n by omega)
  have hw8 : IntKind.i8.wrap (m : Int) = m := wrap_i8 (by omega) (by omega)
  simp [spec_OneOf_F, spec_OneOf_M, schC_zero, putl_all]
  refine call_pc (l00In_pc m 1 6) (by simp) (by simp) ?_
  simp [h, schC_zero, hw8, putl_all]
  refine wp_for m (fun k => ⟨[(0, .int .i64 m), (2, .ptr (.l 0) 0), (4, .ptr (.l 1) 0), (5, .int .i64 k)], [schC 0 0 (fun _ => 0) (fun _ => 0), schC m 1 (fun _ => 0) (fun i => if i < k then 1 else 0)], []⟩) ?_ ?_ ?_
  · simp [putl_all]
  · intro k hk
    have hk1 : (k : Int) < m := by omega
    have hk6 : k < 6 := by omega
    have hk7 : (k : Int) < 6 := by omega
    have hwk : IntKind.i64.wrap ((k : Int) + 1) = k + 1 := wrap_i64 (by omega) (by omega)
    have hb : ∀ s p w b, (schC s p w b).set (8 + k) (.int .u8 1) = schC s p w fun i => if i = k then 1 else b i := fun s p w b => schC_setb (x := 1)
    simp [spec_OneOf_L0, hk1, hk6, hk7, hwk, hb, show 8 + k ≤ 13 by omega]
    exact schC_congr (fun i _ => rfl) (fun i _ => by by_cases h : i = k <;> by_cases h2 : i < k <;> simp [h, h2] <;> omega)
  · simp [spec_OneOf_L0, putl_all]
    exact ret_pu (by simp) (by simp) (by simp)

theorem oneOf_impl (n : Int) (h : 1 ≤ n ∧ n ≤ 6) : PC Try.prog 16 [.int .i64 n] (.tup [sch n 1 (fun _ => 0) (fun i => if i < n.toNat then 1 else 0), .int .i64 0]) := by
  have hcl : ∀ i : Nat, i < n.toNat → ∀ ro, Ct Try.prog ro 54 [.int .i64 i] [] fun v E' L' => v = .tup [.int .u8 ((fun _ => 0 : Nat → Nat) i), .int .u8 ((fun _ => 1 : Nat → Nat) i)] ∧ E' = [] ∧ L' = [] := fun i hi ro => by
    refine ct_of impl_OneOf_1_ok ?_
    simp [impl_OneOf_1_F, impl_OneOf_1_M]
    exact ret_pu (by simp) (by simp) (by simp)
  refine pc_of impl_OneOf_ok (fun ro => ?_)
  obtain ⟨m, rfl⟩ := Int.eq_ofNat_of_zero_le (show 0 ≤ n by omega)
  have hw8 : IntKind.i8.wrap (m : Int) = m := wrap_i8 (by omega) (by omega)
  have hw1 : IntKind.i8.wrap 1 = 1 := rfl
  simp [impl_OneOf_F, impl_OneOf_M, schC_zero]
  refine call_pc (within_pc m 1 6) (by simp) (by simp) ?_
  simp [h]
  refine call_s [] (made_ct (n := m) (p := 1) (by omega) (by kernel_rfl) (by simp) (by simp) hcl) (by simp) ?_
  simp [putl_all, hw8, hw1]
  exact ret_pu (by simp) (by simp) (by simp)

theorem oneOf_no (n : Int) (h : ¬ (1 ≤ n ∧ n ≤ 6)) : PC Try.prog 15 [.int .i64 n] (.tup [sch 0 0 (fun _ => 0) (fun _ => 0), .int .i64 2]) ∧ PC Try.prog 16 [.int .i64 n] (.tup [sch 0 0 (fun _ => 0) (fun _ => 0), .int .i64 2]) := by
  constructor
  · refine pc_of spec_OneOf_ok (fun ro => ?_)
    simp [spec_OneOf_F, spec_OneOf_M, schC_zero]
    refine call_pc (l00In_pc n 1 6) (by simp) (by simp) ?_
    simp [h, schC_zero, putl_all]
    exact ret_pu (by simp) (by simp) (by simp)
  · refine pc_of impl_OneOf_ok (fun ro => ?_)
    simp [impl_OneOf_F, impl_OneOf_M, schC_zero]
    refine call_pc (within_pc n 1 6) (by simp) (by simp) ?_
    simp [h, schC_zero, putl_all]
    exact ret_pu (by simp) (by simp) (by simp)

theorem lawOneOf (n : Int) (_h : -9223372036854775808 ≤ n ∧ n ≤ 9223372036854775807) : PC Try.prog 3 [.int .i64 n] (.bool true) := by
  have key : ∃ s p w b c, PC Try.prog 15 [.int .i64 n] (.tup [sch s p w b, .int .i64 c]) ∧ PC Try.prog 16 [.int .i64 n] (.tup [sch s p w b, .int .i64 c]) := by
    by_cases h : 1 ≤ n ∧ n ≤ 6
    · exact ⟨_, _, _, _, _, oneOf_spec n h, oneOf_impl n h⟩
    · exact ⟨_, _, _, _, _, (oneOf_no n h).1, (oneOf_no n h).2⟩
  obtain ⟨s, p, w, b, c, h1, h2⟩ := key
  refine pc_of laws_FnExactOneOf_ok (fun ro => ?_)
  simp [laws_FnExactOneOf_F, laws_FnExactOneOf_M, schC_zero]
  refine call_pc h1 (by simp) (by simp) ?_
  simp [putl_all, schC_zero]
  refine call_pc h2 (by simp) (by simp) ?_
  simp [putl_all]
  refine call_pc (eqScheme_pc s p w b) (by simp) (by simp) ?_
  simp
  exact ret_pu (by simp) (by simp) (by simp)
end Go.Proofs.Ytaadiplbjelbnaa
