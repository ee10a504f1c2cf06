/- A part of the proof library: names for blocks of memory, a small form of the code, and rules for walks over it. -/
import Derived.Test.YtaadiplbjelbnaaC4r2
set_option linter.all false
namespace Go.Proofs.Ytaadiplbjelbnaa
open Go.Ab
set_option maxHeartbeats 400000

/-- The least level from k on at which the picture is shown. -/
theorem level_both (p : Int) (f : Nat → Nat) (hp : -128 ≤ p ∧ p < 128) (hf : ∀ i, f i < 256) (q : Nat) :
    ∃ a c, PC Try.prog 49 [lay p f, .int .u64 q] (.tup [.int .i64 a, .int .i64 c]) ∧ PC Try.prog 50 [lay p f, .int .u64 q] (.tup [.int .i64 a, .int .i64 c]) := by
  by_cases h : lok p f = true
  · by_cases hex : ∃ k, k < 9 ∧ (pic 64 (shownP f (k : Nat)) = q ∧ ∀ j : Nat, j < k → pic 64 (shownP f j) ≠ q)
    · obtain ⟨n, hn, hq, hmin⟩ := hex
      refine ⟨n, 0, ?_, ?_⟩
      · refine pc_of spec_LevelFor_ok (fun ro => ?_)
        simp [spec_LevelFor_F, spec_LevelFor_M]
        refine call_s [.l 0] (l01Ok_ct p f hp hf) (by simp) ?_
        simp [h]
        refine wp_rounds n (fun k => ⟨[(1, .int .u64 q), (2, .ptr (.l 0) 0), (6, .int .i64 k)], [layC p f], []⟩) (fun k => k = n) ?_ ?_ ?_ rfl
        · simp
        · intro k hk hs
          have hk1 : (k : Int) ≤ 8 := by omega
          have hwk : IntKind.i64.wrap ((k : Int) + 1) = k + 1 := wrap_i64 (by omega) (by omega)
          have hne := hmin k hk
          have hne : ¬ ((pic 64 (shownP f k) : Nat) : Int) = q := fun h => hne (by omega)
          simp [spec_LevelFor_L0, hk1]
          refine call_s [.l 0] (specShown_ct p f hf k) (by simp) ?_
          simp [hne, hwk]
        · intro k hk hs
          subst hs
          have hk1 : (k : Int) ≤ 8 := by omega
          simp [spec_LevelFor_L0, hk1]
          refine call_s [.l 0] (specShown_ct p f hf k) (by simp) ?_
          simp [hq]
          exact ret_pu (by simp) (by simp) (by simp)
      · refine pc_of impl_LevelFor_ok (fun ro => ?_)
        simp [impl_LevelFor_F, impl_LevelFor_M]
        refine call_pc (implValidLayer_pc p f hp hf) (by simp) (by simp) ?_
        simp [h]
        refine wp_rounds n (fun k => ⟨[(1, .int .u64 q), (2, .ptr (.l 0) 0), (6, .int .i64 k)], [layC p f], []⟩) (fun k => k = n) ?_ ?_ ?_ rfl
        · simp
        · intro k hk hs
          have hk1 : (k : Int) ≤ 8 := by omega
          have hwk : IntKind.i64.wrap ((k : Int) + 1) = k + 1 := wrap_i64 (by omega) (by omega)
          have hne := hmin k hk
          have hne : ¬ ((pic 64 (shownP f k) : Nat) : Int) = q := fun h => hne (by omega)
          simp [impl_LevelFor_L0, hk1]
          refine call_pc (implShown_pc p f hf k) (by simp) (by simp) ?_
          simp [hne, hwk]
        · intro k hk hs
          subst hs
          have hk1 : (k : Int) ≤ 8 := by omega
          simp [impl_LevelFor_L0, hk1]
          refine call_pc (implShown_pc p f hf k) (by simp) (by simp) ?_
          simp [hq]
          exact ret_pu (by simp) (by simp) (by simp)
    · have hno : ∀ k : Nat, k < 9 → pic 64 (shownP f k) ≠ q := by
        intro k
        induction k using Nat.strongRecOn with
        | ind k ih => exact fun hk hq => hex ⟨k, hk, hq, fun j hj => ih j hj (by omega)⟩
      refine ⟨0, 6, ?_, ?_⟩
      · refine pc_of spec_LevelFor_ok (fun ro => ?_)
        simp [spec_LevelFor_F, spec_LevelFor_M]
        refine call_s [.l 0] (l01Ok_ct p f hp hf) (by simp) ?_
        simp [h]
        refine wp_for 9 (fun k => ⟨[(1, .int .u64 q), (2, .ptr (.l 0) 0), (6, .int .i64 k)], [layC p f], []⟩) ?_ ?_ ?_
        · simp
        · intro k hk
          have hk1 : (k : Int) ≤ 8 := by omega
          have hwk : IntKind.i64.wrap ((k : Int) + 1) = k + 1 := wrap_i64 (by omega) (by omega)
          have hne := hno k hk
          have hne : ¬ ((pic 64 (shownP f k) : Nat) : Int) = q := fun h => hne (by omega)
          simp [spec_LevelFor_L0, hk1]
          refine call_s [.l 0] (specShown_ct p f hf k) (by simp) ?_
          simp [hne, hwk]
        · simp [spec_LevelFor_L0]
          exact ret_pu (by simp) (by simp) (by simp)
      · refine pc_of impl_LevelFor_ok (fun ro => ?_)
        simp [impl_LevelFor_F, impl_LevelFor_M]
        refine call_pc (implValidLayer_pc p f hp hf) (by simp) (by simp) ?_
        simp [h]
        refine wp_for 9 (fun k => ⟨[(1, .int .u64 q), (2, .ptr (.l 0) 0), (6, .int .i64 k)], [layC p f], []⟩) ?_ ?_ ?_
        · simp
        · intro k hk
          have hk1 : (k : Int) ≤ 8 := by omega
          have hwk : IntKind.i64.wrap ((k : Int) + 1) = k + 1 := wrap_i64 (by omega) (by omega)
          have hne := hno k hk
          have hne : ¬ ((pic 64 (shownP f k) : Nat) : Int) = q := fun h => hne (by omega)
          simp [impl_LevelFor_L0, hk1]
          refine call_pc (implShown_pc p f hf k) (by simp) (by simp) ?_
          simp [hne, hwk]
        · simp [impl_LevelFor_L0]
          exact ret_pu (by simp) (by simp) (by simp)
  · have h : lok p f = false := by simpa using h
    refine ⟨0, 1, ?_, ?_⟩
    · refine pc_of spec_LevelFor_ok (fun ro => ?_)
      simp [spec_LevelFor_F, spec_LevelFor_M]
      refine call_s [.l 0] (l01Ok_ct p f hp hf) (by simp) ?_
      simp [h]
      exact ret_pu (by simp) (by simp) (by simp)
    · refine pc_of impl_LevelFor_ok (fun ro => ?_)
      simp [impl_LevelFor_F, impl_LevelFor_M]
      refine call_pc (implValidLayer_pc p f hp hf) (by simp) (by simp) ?_
      simp [h]
      exact ret_pu (by simp) (by simp) (by simp)

theorem lawLevelFor (p : Int) (f : Nat → Nat) (hp : -128 ≤ p ∧ p < 128) (hf : ∀ i, f i < 256) (q : Nat) (_hq : q < 18446744073709551616) : PC Try.prog 14 [lay p f, .int .u64 q] (.bool true) := by
  obtain ⟨a, c, h1, h2⟩ := level_both p f hp hf q
  have huq : IntKind.u64.wrap (q : Int) = q := wrap_u64 (by omega) (by omega)
  refine pc_of laws_FnExactLevelFor_ok (fun ro => ?_)
  simp [laws_FnExactLevelFor_F, laws_FnExactLevelFor_M]
  refine call_pc (toLayer_pc p f) (by simp) (by simp) ?_
  simp [huq]
  refine call_pc h1 (by simp) (by simp) ?_
  simp
  refine call_pc (toLayer_pc p f) (by simp) (by simp) ?_
  simp [huq]
  refine call_pc h2 (by simp) (by simp) ?_
  simp
  exact ret_pu (by simp) (by simp) (by simp)

theorem eqInt8A64_pc (F : Nat → Int) : PC Try.prog 38 [.agg (arr .i8 64 F), .agg (arr .i8 64 F)] (.bool true) := by
  refine pc_of laws_eqInt8A64_ok (fun ro => ?_)
  simp [laws_eqInt8A64_F, laws_eqInt8A64_M]
  refine wp_for 64 (fun k => ⟨[(2, .ptr (.l 0) 0), (3, .ptr (.l 1) 0), (5, .int .i64 k)], [arr .i8 64 F, arr .i8 64 F], []⟩) ?_ ?_ ?_
  · simp
  · intro k hk
    have hk1 : (k : Int) < 64 := by omega
    have hwk : IntKind.i64.wrap ((k : Int) + 1) = k + 1 := wrap_i64 (by omega) (by omega)
    simp [laws_eqInt8A64_L0, hk1, hk, hwk]
  · simp [laws_eqInt8A64_L0]
    exact ret_pu (by simp) (by simp) (by simp)

theorem counts_both (p : Int) (f : Nat → Nat) (hp : -128 ≤ p ∧ p < 128) (hf : ∀ i, f i < 256) :
    ∃ F c, PC Try.prog 35 [lay p f] (.tup [.agg (arr .i8 64 F), .int .i64 c]) ∧ PC Try.prog 37 [lay p f] (.tup [.agg (arr .i8 64 F), .int .i64 c]) := by
  have hz : rl [(64, .int .i8 0)] = arr .i8 64 fun _ => 0 := arr_zero
  by_cases h : lok p f = true
  · refine ⟨fun i => if i < 64 then cnt 64 (f i) else 0, 0, ?_, ?_⟩
    · refine pc_of spec_CountsOf_ok (fun ro => ?_)
      simp [spec_CountsOf_F, spec_CountsOf_M, hz]
      refine call_s [.l 0] (l01Ok_ct p f hp hf) (by simp) ?_
      simp [h]
      refine wp_for 64 (fun k => ⟨[(1, .ptr (.l 0) 0), (2, .ptr (.l 1) 0), (4, .ptr (.l 2) 0), (5, .int .i64 k)], [layC p f, arr .i8 64 fun _ => 0, arr .i8 64 fun i => if i < k then cnt 64 (f i) else 0], []⟩) ?_ ?_ ?_
      · simp
      · intro k hk
        have hk1 : (k : Int) < 64 := by omega
        have hwk : IntKind.i64.wrap ((k : Int) + 1) = k + 1 := wrap_i64 (by omega) (by omega)
        have huf : IntKind.u64.wrap (f k : Int) = f k := by have := hf k; exact wrap_u64 (by omega) (by omega)
        have hc := cnt_le (f k) 64
        have hw8 : IntKind.i8.wrap (cnt 64 (f k) : Int) = cnt 64 (f k) := wrap_i8 (by omega) (by omega)
        simp [spec_CountsOf_L0, hk, hk1, layC_f hk, show 1 + k ≤ 64 by omega, huf]
        refine call_pc (l01Count_pc (f k) (by have := hf k; omega)) (by simp) (by simp) ?_
        simp [hk1, hw8, hwk, arr_set, show k ≤ 63 by omega]
        exact arr_congr fun i _ => by by_cases h : i = k <;> by_cases h2 : i < k <;> simp [h, h2] <;> omega
      · simp [spec_CountsOf_L0]
        exact ret_pu (by simp) (by simp) (by simp)
    · refine pc_of impl_CountsOf_ok (fun ro => ?_)
      simp [impl_CountsOf_F, impl_CountsOf_M, hz]
      refine call_pc (implValidLayer_pc p f hp hf) (by simp) (by simp) ?_
      simp [h]
      refine wp_for 64 (fun k => ⟨[(1, .ptr (.l 0) 0), (2, .ptr (.l 1) 0), (4, .ptr (.l 2) 0), (11, .int .i64 k)], [layC p f, arr .i8 64 fun _ => 0, arr .i8 64 fun i => if i < k then cnt 64 (f i) else 0], []⟩) ?_ ?_ ?_
      · simp
      · intro k hk
        have hk1 : (k : Int) < 64 := by omega
        have hwk : IntKind.i64.wrap ((k : Int) + 1) = k + 1 := wrap_i64 (by omega) (by omega)
        have hc := cnt_le (f k) 64
        have hw8 : IntKind.i8.wrap (cnt 64 (f k) : Int) = cnt 64 (f k) := wrap_i8 (by omega) (by omega)
        simp [impl_CountsOf_L0, hk1]
        refine call_pc (layerCount_pc p f hf k hk) (by simp) (by simp) ?_
        simp [hk1, hw8, hwk, arr_set, show k ≤ 63 by omega]
        exact arr_congr fun i _ => by by_cases h : i = k <;> by_cases h2 : i < k <;> simp [h, h2] <;> omega
      · simp [impl_CountsOf_L0]
        exact ret_pu (by simp) (by simp) (by simp)
  · have h : lok p f = false := by simpa using h
    refine ⟨fun _ => 0, 1, ?_, ?_⟩
    · refine pc_of spec_CountsOf_ok (fun ro => ?_)
      simp [spec_CountsOf_F, spec_CountsOf_M, hz]
      refine call_s [.l 0] (l01Ok_ct p f hp hf) (by simp) ?_
      simp [h]
      exact ret_pu (by simp) (by simp) (by simp)
    · refine pc_of impl_CountsOf_ok (fun ro => ?_)
      simp [impl_CountsOf_F, impl_CountsOf_M, hz]
      refine call_pc (implValidLayer_pc p f hp hf) (by simp) (by simp) ?_
      simp [h]
      exact ret_pu (by simp) (by simp) (by simp)

theorem lawCountsOf (p : Int) (f : Nat → Nat) (hp : -128 ≤ p ∧ p < 128) (hf : ∀ i, f i < 256) : PC Try.prog 9 [lay p f] (.bool true) := by
  have hz : rl [(64, .int .i8 0)] = arr .i8 64 fun _ => 0 := arr_zero
  obtain ⟨F, c, h1, h2⟩ := counts_both p f hp hf
  refine pc_of laws_FnExactCountsOf_ok (fun ro => ?_)
  simp [laws_FnExactCountsOf_F, laws_FnExactCountsOf_M]
  refine call_pc (toLayer_pc p f) (by simp) (by simp) ?_
  refine call_pc h1 (by simp) (by simp) ?_
  simp [hz]
  refine call_pc (toLayer_pc p f) (by simp) (by simp) ?_
  refine call_pc h2 (by simp) (by simp) ?_
  simp [hz]
  refine call_pc (eqInt8A64_pc F) (by simp) (by simp) ?_
  simp
  exact ret_pu (by simp) (by simp) (by simp)
end Go.Proofs.Ytaadiplbjelbnaa
