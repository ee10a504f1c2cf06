/- A part of the proof library: names for blocks of memory, a small form of the code, and rules for walks over it. -/
import Derived.Test.YtbihhjdjgcojjaaT2
namespace Go.Proofs.Ytbihhjdjgcojjaa
open Go.Ab
set_option maxHeartbeats 400000
theorem specValidLayer_pc (p : Int) (f : Nat → Int) (hp : -128 ≤ p ∧ p < 128) (hf : ∀ i, 0 ≤ f i ∧ f i < 256) : PC Try.prog 15 [lay p f] (.bool (lok p f)) := by
  refine pc_of spec_ValidLayer_ok (fun ro => ?_)
  simp [spec_ValidLayer_F, spec_ValidLayer_M]
  refine call_s [.l 0] (l01Ok_ct p f hp hf) (by simp) ?_
  simp
  exact ret_pu (by simp) (by simp) (by simp)

theorem implValidLayer_pc (p : Int) (f : Nat → Int) (hp : -128 ≤ p ∧ p < 128) (hf : ∀ i, 0 ≤ f i ∧ f i < 256) : PC Try.prog 17 [lay p f] (.bool (lok p f)) := by
  refine pc_of impl_ValidLayer_ok (fun ro => ?_)
  have hw : IntKind.i64.wrap p = p := wrap_i64 (by omega) (by omega)
  simp [impl_ValidLayer_F, impl_ValidLayer_M, layC, hw]
  refine call_pc (isParts_pc p) (by simp) (by simp) ?_
  by_cases h1 : 1 ≤ p ∧ p ≤ 8
  · simp [h1]
    refine wp_forR 64 (fun k => ⟨[(1, .ptr (.l 0) 0), (11, .agg (byt 64 f)), (12, .int .i64 k)], [layC p f], []⟩) (fun k => (f k).fdiv (2 ^ (min p.toNat 8)) = 0) ?_ ?_ ?_
    · intro k hk hg
      have hk1 : (k : Int) < 64 := by omega
      simp [impl_ValidLayer_L0, hk1, hk, layC, get_cons1]
      refine call_pc (mask_pc p (by omega)) (by simp) (by simp) ?_
      simp
      rw [if_pos ((clear_iff _ _ (hf k) h1).2 hg)]
      exact wrap_i64 (by omega) (by omega)
    · intro k hk hg hb
      have hk1 : (k : Int) < 64 := by omega
      simp [impl_ValidLayer_L0, hk1, hk, layC, get_cons1]
      refine call_pc (mask_pc p (by omega)) (by simp) (by simp) ?_
      simp
      exact ⟨fun h => hg ((clear_iff _ _ (hf k) h1).1 h), ret_pu (by simp) (by simp) (by simp [lok, h1]; exact ⟨k, hk, by simpa [h1] using hg⟩)⟩
    · intro hall
      simp [impl_ValidLayer_L0]
      exact ret_pu (by simp) (by simp [layC]) (by simp [lok, h1, layC]; exact fun i hi => by simpa [h1] using hall i hi)
  · simp [h1]; exact ret_pu (by simp) (by simp) (by simp [lok, h1, layC])

theorem lawValidLayer_pc (p : Int) (f : Nat → Int) (hp : -128 ≤ p ∧ p < 128) (hf : ∀ i, 0 ≤ f i ∧ f i < 256) : PC Try.prog 7 [lay p f] (.bool true) := by
  refine pc_of laws_FnExactValidLayer_ok (fun ro => ?_)
  simp [laws_FnExactValidLayer_F, laws_FnExactValidLayer_M]
  refine call_pc (toLayer_pc p f) (by simp) (by simp) ?_
  refine call_pc (specValidLayer_pc p f hp hf) (by simp) (by simp) ?_
  simp
  refine call_pc (toLayer_pc p f) (by simp) (by simp) ?_
  refine call_pc (implValidLayer_pc p f hp hf) (by simp) (by simp) ?_
  simp
  exact ret_pu (by simp) (by simp) (by simp)
end Go.Proofs.Ytbihhjdjgcojjaa
