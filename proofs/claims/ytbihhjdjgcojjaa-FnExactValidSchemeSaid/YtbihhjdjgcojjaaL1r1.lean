/- A part of the proof library: names for blocks of memory, a small form of the code, and rules for walks over it. -/
import Derived.Test.YtbihhjdjgcojjaaC2r1
set_option linter.all false
namespace Go.Proofs.Ytbihhjdjgcojjaa
open Go.Ab
set_option maxHeartbeats 400000

theorem lawConstants : PC Try.prog 3 [] (.bool true) := by
  refine pc_of laws_FnExactConstants_ok (fun ro => ?_)
  simp [laws_FnExactConstants_F, laws_FnExactConstants_M]
  exact ret_pu (by simp) (by simp) (by simp)

def codeName (n : Int) : V := if n = 0 then .str ⟨#[111, 107]⟩ else if n = 1 then .str ⟨#[105, 110, 118, 97, 108, 105, 100]⟩ else if n = 2 then .str ⟨#[114, 97, 110, 103, 101]⟩ else if n = 3 then .str ⟨#[108, 105, 109, 105, 116]⟩ else if n = 4 then .str ⟨#[115, 116, 97, 116, 101]⟩ else if n = 5 then .str ⟨#[115, 121, 110, 116, 97, 120]⟩ else if n = 6 then .str ⟨#[110, 111, 116, 102, 111, 117, 110, 100]⟩ else if n = 7 then .str ⟨#[98, 117, 100, 103, 101, 116]⟩ else if n = 8 then .str ⟨#[112, 114, 111, 111, 102]⟩ else .str ⟨#[]⟩
theorem codeName_pu (n : Int) : (codeName n).pu := by unfold codeName; repeat' (first | split | simp)

theorem implCodeName_pc (n : Int) : PC Try.prog 10 [.int .i64 n] (codeName n) := by
  refine pc_of impl_CodeName_ok (fun ro => ?_)
  by_cases h : 0 ≤ n ∧ n ≤ 8
  · have : n = 0 ∨ n = 1 ∨ n = 2 ∨ n = 3 ∨ n = 4 ∨ n = 5 ∨ n = 6 ∨ n = 7 ∨ n = 8 := by omega
    rcases this with rfl | rfl | rfl | rfl | rfl | rfl | rfl | rfl | rfl
    all_goals
      simp [impl_CodeName_F, impl_CodeName_M]
      refine call_pc (within_pc _ 0 8) (by simp) (by simp) ?_
      simp
      exact ret_pu (by simp) (by simp) (by simp [codeName])
  · simp [impl_CodeName_F, impl_CodeName_M]
    refine call_pc (within_pc n 0 8) (by simp) (by simp) ?_
    simp [h]
    exact ret_pu (by simp) (by simp) (by simp [codeName, show n ≠ 0 by omega, show n ≠ 1 by omega, show n ≠ 2 by omega, show n ≠ 3 by omega, show n ≠ 4 by omega, show n ≠ 5 by omega, show n ≠ 6 by omega, show n ≠ 7 by omega, show n ≠ 8 by omega])

theorem specCodeName_pc (n : Int) : PC Try.prog 9 [.int .i64 n] (codeName n) := by
  refine pc_of spec_CodeName_ok (fun ro => ?_)
  by_cases h : 0 ≤ n ∧ n ≤ 8
  · have : n = 0 ∨ n = 1 ∨ n = 2 ∨ n = 3 ∨ n = 4 ∨ n = 5 ∨ n = 6 ∨ n = 7 ∨ n = 8 := by omega
    rcases this with rfl | rfl | rfl | rfl | rfl | rfl | rfl | rfl | rfl
    all_goals
      simp [spec_CodeName_F, spec_CodeName_M]
      refine call_pc (l00In_pc _ 0 8) (by simp) (by simp) ?_
      simp
      exact ret_pu (by simp) (by simp) (by simp [codeName])
  · simp [spec_CodeName_F, spec_CodeName_M]
    refine call_pc (l00In_pc n 0 8) (by simp) (by simp) ?_
    simp [h]
    exact ret_pu (by simp) (by simp) (by simp [codeName, show n ≠ 0 by omega, show n ≠ 1 by omega, show n ≠ 2 by omega, show n ≠ 3 by omega, show n ≠ 4 by omega, show n ≠ 5 by omega, show n ≠ 6 by omega, show n ≠ 7 by omega, show n ≠ 8 by omega])

theorem lawCodeName (n : Int) (_h : -9223372036854775808 ≤ n ∧ n ≤ 9223372036854775807) : PC Try.prog 4 [.int .i64 n] (.bool true) := by
  refine pc_of laws_FnExactCodeName_ok (fun ro => ?_)
  simp [laws_FnExactCodeName_F, laws_FnExactCodeName_M]
  refine call_pc (specCodeName_pc n) (by simp) (codeName_pu n) ?_
  simp
  refine call_pc (implCodeName_pc n) (by simp) (codeName_pu n) ?_
  obtain ⟨s, hs⟩ : ∃ s, codeName n = .str s := by unfold codeName; repeat' (first | split | exact ⟨_, rfl⟩)
  simp [hs]
  exact ret_pu (by simp) (by simp) (by simp)

/-- The next seed; the number drawn. -/
def nxt (s : Int) : Int := IntKind.u32.wrap (IntKind.u32.wrap (1664525 * s) + 1013904223)
def drw (s n : Int) : Int := (IntKind.i64.wrap (shrI .u32 (nxt s) 16)).tmod n

theorem draw_ct (s n : Int) (hn : n ≠ 0) : Ct Try.prog false 24 [.ptr (.e 0) 0, .int .i64 n] [[.int .u32 s]] (fun v E' L' => v = .int .i64 (drw s n) ∧ E' = [[.int .u32 (nxt s)]] ∧ L' = []) := by
  refine ct_of impl_draw_ok ?_
  simp [impl_draw_F, impl_draw_M, hn]
  exact ret_pu (by simp) (by simp) (by simp [drw, nxt])

theorem l03Number_pc (s n : Int) (hn : n ≠ 0) : PC Try.prog 23 [.int .u32 s, .int .i64 n] (.tup [.int .i64 (drw s n), .int .u32 (nxt s)]) := by
  refine pc_of spec_l03Number_ok (fun ro => ?_)
  simp [spec_l03Number_F, spec_l03Number_M, hn]
  exact ret_pu (by simp) (by simp) (by simp [drw, nxt])

def nextNumber (s n : Int) : V := if 1 ≤ n ∧ n ≤ 1000 then .tup [.int .i64 (drw s n), .int .u32 (nxt s), .int .i64 0] else .tup [.int .i64 0, .int .u32 0, .int .i64 2]

theorem specNextNumber_pc (s n : Int) : PC Try.prog 11 [.int .u32 s, .int .i64 n] (nextNumber s n) := by
  refine pc_of spec_NextNumber_ok (fun ro => ?_)
  simp [spec_NextNumber_F, spec_NextNumber_M]
  refine call_pc (l00In_pc n 1 1000) (by simp) (by simp) ?_
  by_cases h : 1 ≤ n ∧ n ≤ 1000
  · simp [h]
    refine call_pc (l03Number_pc s n (by omega)) (by simp) (by simp) ?_
    simp
    exact ret_pu (by simp) (by simp) (by simp [nextNumber, h])
  · simp [h]
    exact ret_pu (by simp) (by simp) (by simp [nextNumber, h])

theorem implNextNumber_pc (s n : Int) : PC Try.prog 12 [.int .u32 s, .int .i64 n] (nextNumber s n) := by
  refine pc_of impl_NextNumber_ok (fun ro => ?_)
  simp [impl_NextNumber_F, impl_NextNumber_M]
  refine call_pc (within_pc n 1 1000) (by simp) (by simp) ?_
  by_cases h : 1 ≤ n ∧ n ≤ 1000
  · simp [h]
    refine call_w [.l 0] (draw_ct s n (by omega)) (by simp) (by simp) ?_
    simp
    exact ret_pu (by simp) (by simp) (by simp [nextNumber, h])
  · simp [h]
    exact ret_pu (by simp) (by simp) (by simp [nextNumber, h])

theorem lawNextNumber (s : Nat) (_hs : s < 4294967296) (n : Int) (_h : -9223372036854775808 ≤ n ∧ n ≤ 9223372036854775807) : PC Try.prog 5 [.int .u32 s, .int .i64 n] (.bool true) := by
  refine pc_of laws_FnExactNextNumber_ok (fun ro => ?_)
  simp [laws_FnExactNextNumber_F, laws_FnExactNextNumber_M]
  have hp : (nextNumber s n).pu := by unfold nextNumber; split <;> simp
  obtain ⟨a, b, c, e⟩ : ∃ a b c, nextNumber s n = .tup [.int .i64 a, .int .u32 b, .int .i64 c] := by unfold nextNumber; split <;> exact ⟨_, _, _, rfl⟩
  refine call_pc (specNextNumber_pc s n) (by simp) hp ?_
  simp [e]
  refine call_pc (implNextNumber_pc s n) (by simp) hp ?_
  simp [e]
  exact ret_pu (by simp) (by simp) (by simp)

theorem lawValidLayer (p : Int) (f : Nat → Nat) (hp : -128 ≤ p ∧ p < 128) (hf : ∀ i, f i < 256) : PC Try.prog 7 [lay p f] (.bool true) := by
  refine pc_of laws_FnExactValidLayer_ok (fun ro => ?_)
  simp [laws_FnExactValidLayer_F, laws_FnExactValidLayer_M]
  refine call_pc (toLayer_pc p f) (by simp) (by simp) ?_
  refine call_pc (specValidLayer_pc p f hp hf) (by simp) (by simp) ?_
  simp
  refine call_pc (toLayer_pc p f) (by simp) (by simp) ?_
  refine call_pc (implValidLayer_pc p f hp hf) (by simp) (by simp) ?_
  simp
  exact ret_pu (by simp) (by simp) (by simp)

theorem lawValidScheme (s p : Int) (w b : Nat → Nat) (hs : -128 ≤ s ∧ s < 128) (hp : -128 ≤ p ∧ p < 128) (hw : ∀ i, w i < 256) (hb : ∀ i, b i < 256) : PC Try.prog 8 [sch s p w b] (.bool true) := by
  refine pc_of laws_FnExactValidScheme_ok (fun ro => ?_)
  simp [laws_FnExactValidScheme_F, laws_FnExactValidScheme_M]
  refine call_pc (toScheme_pc s p w b) (by simp) (by simp) ?_
  refine call_pc (specValidScheme_pc s p w b hs hp hw hb) (by simp) (by simp) ?_
  simp
  refine call_pc (toScheme_pc s p w b) (by simp) (by simp) ?_
  refine call_pc (implValidScheme_pc s p w b hs hp hw hb) (by simp) (by simp) ?_
  simp
  exact ret_pu (by simp) (by simp) (by simp)
end Go.Proofs.Ytbihhjdjgcojjaa
