/- A part of the proof library: names for blocks of memory, a small form of the code, and rules for walks over it. -/
import Derived.Test.YtaadiplbjelbnaaC5r2
set_option linter.all false
namespace Go.Proofs.Ytaadiplbjelbnaa
open Go.Ab
set_option maxHeartbeats 400000

theorem plain_both (n : Int) (x : Bool) : ∃ p f c, PC Try.prog 20 [.int .i64 n, .bool x] (.tup [lay p f, .int .i64 c]) ∧ PC Try.prog 21 [.int .i64 n, .bool x] (.tup [lay p f, .int .i64 c]) := by
  by_cases h : 1 ≤ n ∧ n ≤ 8
  · obtain ⟨q, rfl⟩ := Int.eq_ofNat_of_zero_le (show 0 ≤ n by omega)
    have hw8 : IntKind.i8.wrap (q : Int) = q := wrap_i8 (by omega) (by omega)
    have hqs : IntKind.u64.wrap (q : Int) = q := wrap_u64 (by omega) (by omega)
    have hmk : IntKind.u8.wrap (shlI .u8 1 (q : Int) - 1) = ((2 ^ q - 1 : Nat) : Int) := by
      have hw8 : ∀ k : Fin 9, IntKind.u8.wrap (shlI .u8 1 (k.val : Int) - 1) = ((2 ^ k.val - 1 : Nat) : Int) := by decide +kernel
      exact hw8 ⟨q, by omega⟩
    have hmc := mask_pc q (by omega)
    simp only [Int.toNat_natCast] at hmc
    generalize 2 ^ q - 1 = x8 at hmk hmc
    cases x
    · refine ⟨q, fun _ => 0, 0, ?_, ?_⟩
      · refine pc_of spec_PlainLayer_ok (fun ro => ?_)
        simp [spec_PlainLayer_F, spec_PlainLayer_M, layC_zero]
        refine call_pc (l01Parts_pc q) (by simp) (by simp) ?_
        simp [h, layC_zero, hw8]
        refine wp_rounds 0 (fun k => ⟨[(0, .int .i64 q), (1, .bool false), (4, .ptr (.l 0) 0), (6, .ptr (.l 1) 0), (7, .int .i64 0)], [layC 0 fun _ => 0, layC q fun _ => 0], []⟩) (fun k => True) ?_ ?_ ?_ trivial
        · simp
        · intro k hk; omega
        · intro k hk hs
          simp [spec_PlainLayer_L0]
          exact ret_pu (by simp) (by simp) (by simp)
      · refine pc_of impl_PlainLayer_ok (fun ro => ?_)
        simp [impl_PlainLayer_F, impl_PlainLayer_M, layC_zero]
        refine call_pc (isParts_pc q) (by simp) (by simp) ?_
        simp [h, layC_zero, hw8]
        exact ret_pu (by simp) (by simp) (by simp)
    · refine ⟨q, fun i => if i < 64 then x8 else 0, 0, ?_, ?_⟩
      · refine pc_of spec_PlainLayer_ok (fun ro => ?_)
        simp [spec_PlainLayer_F, spec_PlainLayer_M, layC_zero]
        refine call_pc (l01Parts_pc q) (by simp) (by simp) ?_
        simp [h, layC_zero, hw8]
        refine wp_for 64 (fun k => ⟨[(0, .int .i64 q), (1, .bool true), (4, .ptr (.l 0) 0), (6, .ptr (.l 1) 0), (7, .int .i64 k)], [layC 0 fun _ => 0, layC q fun i => if i < k then x8 else 0], []⟩) ?_ ?_ ?_
        · simp
        · intro k hk
          have hk1 : (k : Int) < 64 := by omega
          have hwk : IntKind.i64.wrap ((k : Int) + 1) = k + 1 := wrap_i64 (by omega) (by omega)
          simp [spec_PlainLayer_L0, hk1, hqs, hmk, hwk, layC_set, show 1 + k ≤ 64 by omega]
          exact layC_congr fun i _ => by by_cases h : i = k <;> by_cases h2 : i < k <;> simp [h, h2] <;> omega
        · simp [spec_PlainLayer_L0]
          exact ret_pu (by simp) (by simp) (by simp)
      · have hcl : ∀ i : Nat, i < 64 → ∀ ro, Ct Try.prog ro 60 [.int .i64 i, .ptr (.e 0) 0] [layC q fun _ => 0] fun v E' L' => v = .int .u8 ((fun i => if i < 64 then x8 else 0) i : Nat) ∧ E' = [layC q fun _ => 0] ∧ L' = [] := fun i hi ro => by
          refine ct_of impl_PlainLayer_1_ok ?_
          simp [impl_PlainLayer_1_F, impl_PlainLayer_1_M]
          refine call_pc hmc (by simp) (by simp) ?_
          simp
          exact ret_pu (by simp) (by simp) (by simp [hi])
        refine pc_of impl_PlainLayer_ok (fun ro => ?_)
        simp [impl_PlainLayer_F, impl_PlainLayer_M, layC_zero]
        refine call_pc (isParts_pc q) (by simp) (by simp) ?_
        simp [h, layC_zero, hw8]
        refine call_s [.l 1] (each_ct (p := q) (f := fun _ => 0) (g := 60) (caps := [.ptr (.e 0) 0]) (E := [layC q fun _ => 0]) (by kernel_rfl) (by simp) (by simp) hcl) (by simp) ?_
        simp
        exact ret_pu (by simp) (by simp) (by simp)
  · refine ⟨0, fun _ => 0, 2, ?_, ?_⟩
    · refine pc_of spec_PlainLayer_ok (fun ro => ?_)
      simp [spec_PlainLayer_F, spec_PlainLayer_M, layC_zero]
      refine call_pc (l01Parts_pc n) (by simp) (by simp) ?_
      simp [h, layC_zero]
      exact ret_pu (by simp) (by simp) (by simp)
    · refine pc_of impl_PlainLayer_ok (fun ro => ?_)
      simp [impl_PlainLayer_F, impl_PlainLayer_M, layC_zero]
      refine call_pc (isParts_pc n) (by simp) (by simp) ?_
      simp [h, layC_zero]
      exact ret_pu (by simp) (by simp) (by simp)

theorem lawPlainLayer (n : Int) (_h : -9223372036854775808 ≤ n ∧ n ≤ 9223372036854775807) (x : Bool) : PC Try.prog 5 [.int .i64 n, .bool x] (.bool true) := by
  obtain ⟨p, f, c, h1, h2⟩ := plain_both n x
  refine pc_of laws_FnExactPlainLayer_ok (fun ro => ?_)
  simp [laws_FnExactPlainLayer_F, laws_FnExactPlainLayer_M, layC_zero]
  refine call_pc h1 (by simp) (by simp) ?_
  simp [layC_zero]
  refine call_pc h2 (by simp) (by simp) ?_
  simp
  refine call_pc (eqLayer_pc p f) (by simp) (by simp) ?_
  simp
  exact ret_pu (by simp) (by simp) (by simp)

theorem differ1_ct (p q : Int) (f g : Nat → Nat) (k : Nat) (hk : k < 64) (ro : Bool) : Ct Try.prog ro 78 [.int .i64 k, .ptr (.e 0) 0, .ptr (.e 1) 0] [layC p f, layC q g] fun v E' L' => v = .bool (!decide (f k = g k)) ∧ E' = [layC p f, layC q g] ∧ L' = [] := by
  refine ct_of impl_DifferAt_1_ok ?_
  have hk1 : (k : Int) < 64 := by omega
  simp [impl_DifferAt_1_F, impl_DifferAt_1_M, hk, hk1, layC_f hk, show 1 + k ≤ 64 by omega]
  exact ret_pu (by simp) (by simp) ⟨by congr 2; simp; omega, rfl, rfl⟩

theorem differ_both (p q : Int) (f g : Nat → Nat) (hp : -128 ≤ p ∧ p < 128) (hf : ∀ i, f i < 256) (hq : -128 ≤ q ∧ q < 128) (hg : ∀ i, g i < 256) :
    ∃ a c, PC Try.prog 45 [lay p f, lay q g] (.tup [.int .u64 a, .int .i64 c]) ∧ PC Try.prog 46 [lay p f, lay q g] (.tup [.int .u64 a, .int .i64 c]) := by
  by_cases h1 : lok p f = true
  · by_cases h2 : lok q g = true
    · by_cases h3 : p = q
      · subst h3
        refine ⟨(pic 64 fun k => !decide (f k = g k) : Nat), 0, ?_, ?_⟩
        · refine pc_of spec_DifferAt_ok (fun ro => ?_)
          simp [spec_DifferAt_F, spec_DifferAt_M]
          refine call_s [.l 0] (l01Ok_ct p f hp hf) (by simp) ?_
          simp [h1]
          refine call_s [.l 1] (l01Ok_ct p g hq hg) (by simp) ?_
          simp [h2]
          refine wp_for 64 (fun k => ⟨[(2, .ptr (.l 0) 0), (3, .ptr (.l 1) 0), (6, .int .u64 (pic k fun k => !decide (f k = g k))), (7, .int .i64 k)], [layC p f, layC p g], []⟩) ?_ ?_ ?_
          · simp [pic]
          · intro k hk
            have hk1 : (k : Int) < 64 := by omega
            have hwk : IntKind.i64.wrap ((k : Int) + 1) = k + 1 := wrap_i64 (by omega) (by omega)
            have huk : IntKind.u64.wrap (k : Int) = k := wrap_u64 (by omega) (by omega)
            have hl := pic_lt64 (fun k => !decide (f k = g k)) (n := k) (by omega)
            have h2 : 2 ^ k < 18446744073709551616 := (show 2 ^ k < 2 ^ 64 from Nat.pow_lt_pow_right (by decide) hk)
            have hor : orI .u64 (pic k (fun k => !decide (f k = g k)) : Int) (shlI .u64 1 (k : Int)) = ((pic k (fun k => !decide (f k = g k)) ||| 2 ^ k : Nat) : Int) := by rw [shl64_one hk]; exact or64 hl h2
            by_cases hF : f k = g k
            · simp [spec_DifferAt_L0, hk, hk1, layC_f hk, show 1 + k ≤ 64 by omega, hF, hwk, pic]
            · have hF' : ¬ ((f k : Nat) : Int) = g k := by omega
              simp [spec_DifferAt_L0, hk, hk1, layC_f hk, show 1 + k ≤ 64 by omega, hF, hF', huk, hor, hwk, pic]
          · simp [spec_DifferAt_L0]
            exact ret_pu (by simp) (by simp) (by simp)
        · refine pc_of impl_DifferAt_ok (fun ro => ?_)
          simp [impl_DifferAt_F, impl_DifferAt_M, layC_zero, lays_put, putl_length]
          refine calld_s [.l 2] (areTwo_ct p p f g hp hf hq hg) (by simp [puL_append]) ?_
          simp [zrow_f2, fc_two]
          refine calld_s [.l 3] (first2_ct (!(lok p f && lok p g)) false 1 4) (by simp) ?_
          simp [h1, h2]
          refine call_s [.l 0, .l 1] (pictureOf_ct (g := 78) (caps := [.ptr (.e 0) 0, .ptr (.e 1) 0]) (E := [layC p f, layC p g]) (F := fun k => !decide (f k = g k)) (by kernel_rfl) (by simp) (by simp) (fun i hi ro => differ1_ct p p f g i hi ro)) (by simp) ?_
          simp
          exact ret_pu (by simp) (by simp [puL_append]) (by simp)
      · refine ⟨0, 4, ?_, ?_⟩
        · refine pc_of spec_DifferAt_ok (fun ro => ?_)
          simp [spec_DifferAt_F, spec_DifferAt_M]
          refine call_s [.l 0] (l01Ok_ct p f hp hf) (by simp) ?_
          simp [h1]
          refine call_s [.l 1] (l01Ok_ct q g hq hg) (by simp) ?_
          simp [h2, h3]
          exact ret_pu (by simp) (by simp) (by simp)
        · refine pc_of impl_DifferAt_ok (fun ro => ?_)
          simp [impl_DifferAt_F, impl_DifferAt_M, layC_zero, lays_put, putl_length]
          refine calld_s [.l 2] (areTwo_ct p q f g hp hf hq hg) (by simp [puL_append]) ?_
          simp [zrow_f2, fc_two]
          refine calld_s [.l 3] (first2_ct (!(lok p f && lok q g)) (!decide (p = q)) 1 4) (by simp) ?_
          simp [h1, h2, h3]
          exact ret_pu (by simp) (by simp [puL_append]) (by simp)
    · have h2 : lok q g = false := by simpa using h2
      refine ⟨0, 1, ?_, ?_⟩
      · refine pc_of spec_DifferAt_ok (fun ro => ?_)
        simp [spec_DifferAt_F, spec_DifferAt_M]
        refine call_s [.l 0] (l01Ok_ct p f hp hf) (by simp) ?_
        simp [h1]
        refine call_s [.l 1] (l01Ok_ct q g hq hg) (by simp) ?_
        simp [h2]
        exact ret_pu (by simp) (by simp) (by simp)
      · refine pc_of impl_DifferAt_ok (fun ro => ?_)
        simp [impl_DifferAt_F, impl_DifferAt_M, layC_zero, lays_put, putl_length]
        refine calld_s [.l 2] (areTwo_ct p q f g hp hf hq hg) (by simp [puL_append]) ?_
        simp [zrow_f2, fc_two]
        refine calld_s [.l 3] (first2_ct (!(lok p f && lok q g)) (!decide (p = q)) 1 4) (by simp) ?_
        simp [h1, h2]
        exact ret_pu (by simp) (by simp [puL_append]) (by simp)
  · have h1 : lok p f = false := by simpa using h1
    refine ⟨0, 1, ?_, ?_⟩
    · refine pc_of spec_DifferAt_ok (fun ro => ?_)
      simp [spec_DifferAt_F, spec_DifferAt_M]
      refine call_s [.l 0] (l01Ok_ct p f hp hf) (by simp) ?_
      simp [h1]
      exact ret_pu (by simp) (by simp) (by simp)
    · refine pc_of impl_DifferAt_ok (fun ro => ?_)
      simp [impl_DifferAt_F, impl_DifferAt_M, layC_zero, lays_put, putl_length]
      refine calld_s [.l 2] (areTwo_ct p q f g hp hf hq hg) (by simp [puL_append]) ?_
      simp [zrow_f2, fc_two]
      refine calld_s [.l 3] (first2_ct (!(lok p f && lok q g)) (!decide (p = q)) 1 4) (by simp) ?_
      simp [h1]
      exact ret_pu (by simp) (by simp [puL_append]) (by simp)

theorem lawDifferAt (p : Int) (f : Nat → Nat) (hp : -128 ≤ p ∧ p < 128) (hf : ∀ i, f i < 256) (q : Int) (g : Nat → Nat) (hq : -128 ≤ q ∧ q < 128) (hg : ∀ i, g i < 256) : PC Try.prog 12 [lay p f, lay q g] (.bool true) := by
  obtain ⟨a, c, h1, h2⟩ := differ_both p q f g hp hf hq hg
  refine pc_of laws_FnExactDifferAt_ok (fun ro => ?_)
  simp [laws_FnExactDifferAt_F, laws_FnExactDifferAt_M]
  refine calld_pc (toLayer_pc p f) (by simp) (by simp) ?_
  simp
  refine calld_pc (toLayer_pc q g) (by simp) (by simp) ?_
  simp
  refine calld_pc h1 (by simp) (by simp) ?_
  simp
  refine calld_pc (toLayer_pc p f) (by simp) (by simp) ?_
  simp
  refine calld_pc (toLayer_pc q g) (by simp) (by simp) ?_
  simp
  refine calld_pc h2 (by simp) (by simp) ?_
  simp
  exact ret_pu (by simp) (by simp) (by simp)

theorem eqInt64A9_pc (F : Nat → Int) : PC Try.prog 41 [.agg (arr .i64 9 F), .agg (arr .i64 9 F)] (.bool true) := by
  refine pc_of laws_eqInt64A9_ok (fun ro => ?_)
  simp [laws_eqInt64A9_F, laws_eqInt64A9_M]
  refine wp_for 9 (fun k => ⟨[(2, .ptr (.l 0) 0), (3, .ptr (.l 1) 0), (5, .int .i64 k)], [arr .i64 9 F, arr .i64 9 F], []⟩) ?_ ?_ ?_
  · simp
  · intro k hk
    have hk1 : (k : Int) < 9 := by omega
    have hwk : IntKind.i64.wrap ((k : Int) + 1) = k + 1 := wrap_i64 (by omega) (by omega)
    simp [laws_eqInt64A9_L0, hk1, hk, hwk]
  · simp [laws_eqInt64A9_L0]
    exact ret_pu (by simp) (by simp) (by simp)

/-- How many of the first k cells have c black parts. -/
def hist (f : Nat → Nat) : Nat → Nat → Int
  | 0, _ => 0
  | k + 1, c => if c = cnt 64 (f k) then hist f k c + 1 else hist f k c
theorem hist_le (f : Nat → Nat) (c : Nat) : ∀ k, 0 ≤ hist f k c ∧ hist f k c ≤ k
  | 0 => by simp [hist]
  | k + 1 => by have := hist_le f c k; simp only [hist]; split <;> omega

theorem hist_both (p : Int) (f : Nat → Nat) (hp : -128 ≤ p ∧ p < 128) (hf : ∀ i, f i < 256) :
    ∃ F c, PC Try.prog 39 [lay p f] (.tup [.agg (arr .i64 9 F), .int .i64 c]) ∧ PC Try.prog 40 [lay p f] (.tup [.agg (arr .i64 9 F), .int .i64 c]) := by
  have hz : rl [(9, .int .i64 0)] = arr .i64 9 fun _ => 0 := arr_zero
  have hc8 : ∀ k, cnt 64 (f k) ≤ 8 := fun k => by rw [cnt_to (k := 8) (hf k) (by omega)]; exact cnt_le _ _
  by_cases h : lok p f = true
  · refine ⟨hist f 64, 0, ?_, ?_⟩
    · refine pc_of spec_HistogramOf_ok (fun ro => ?_)
      simp [spec_HistogramOf_F, spec_HistogramOf_M, hz]
      refine call_s [.l 0] (l01Ok_ct p f hp hf) (by simp) ?_
      simp [h]
      refine wp_for 64 (fun k => ⟨[(1, .ptr (.l 0) 0), (2, .ptr (.l 1) 0), (4, .ptr (.l 2) 0), (5, .int .i64 k)], [layC p f, arr .i64 9 fun _ => 0, arr .i64 9 (hist f k)], []⟩) ?_ ?_ ?_
      · simp; exact arr_congr fun i _ => rfl
      · intro k hk
        have hk1 : (k : Int) < 64 := by omega
        have hwk : IntKind.i64.wrap ((k : Int) + 1) = k + 1 := wrap_i64 (by omega) (by omega)
        have huf : IntKind.u64.wrap (f k : Int) = f k := by have := hf k; exact wrap_u64 (by omega) (by omega)
        have hck := hc8 k
        have hhl := hist_le f (cnt 64 (f k)) k
        have hwh : IntKind.i64.wrap (hist f k (cnt 64 (f k)) + 1) = hist f k (cnt 64 (f k)) + 1 := wrap_i64 (by omega) (by omega)
        simp [spec_HistogramOf_L0, hk, hk1, layC_f hk, show 1 + k ≤ 64 by omega, huf]
        refine call_pc (l01Count_pc (f k) (by have := hf k; omega)) (by simp) (by simp) ?_
        simp [show cnt 64 (f k) < 9 by omega, show ((cnt 64 (f k) : Nat) : Int) < 9 by omega, show cnt 64 (f k) ≤ 8 by omega, hwh, hwk, arr_set]
        exact arr_congr fun i _ => by by_cases h : i = cnt 64 (f k) <;> simp [h, hist]
      · simp [spec_HistogramOf_L0]
        exact ret_pu (by simp) (by simp) (by simp)
    · refine pc_of impl_HistogramOf_ok (fun ro => ?_)
      simp [impl_HistogramOf_F, impl_HistogramOf_M, hz]
      refine call_pc (implValidLayer_pc p f hp hf) (by simp) (by simp) ?_
      simp [h]
      refine wp_for 64 (fun k => ⟨[(1, .ptr (.l 0) 0), (2, .ptr (.l 1) 0), (4, .ptr (.l 2) 0), (11, .int .i64 k)], [layC p f, arr .i64 9 fun _ => 0, arr .i64 9 (hist f k)], []⟩) ?_ ?_ ?_
      · simp; exact arr_congr fun i _ => rfl
      · intro k hk
        have hk1 : (k : Int) < 64 := by omega
        have hwk : IntKind.i64.wrap ((k : Int) + 1) = k + 1 := wrap_i64 (by omega) (by omega)
        have hck := hc8 k
        have hhl := hist_le f (cnt 64 (f k)) k
        have hwh : IntKind.i64.wrap (hist f k (cnt 64 (f k)) + 1) = hist f k (cnt 64 (f k)) + 1 := wrap_i64 (by omega) (by omega)
        simp [impl_HistogramOf_L0, hk1]
        refine call_pc (layerCount_pc p f hf k hk) (by simp) (by simp) ?_
        simp [show cnt 64 (f k) < 9 by omega, show ((cnt 64 (f k) : Nat) : Int) < 9 by omega, show cnt 64 (f k) ≤ 8 by omega, hwh, hwk, arr_set]
        exact arr_congr fun i _ => by by_cases h : i = cnt 64 (f k) <;> simp [h, hist]
      · simp [impl_HistogramOf_L0]
        exact ret_pu (by simp) (by simp) (by simp)
  · have h : lok p f = false := by simpa using h
    refine ⟨fun _ => 0, 1, ?_, ?_⟩
    · refine pc_of spec_HistogramOf_ok (fun ro => ?_)
      simp [spec_HistogramOf_F, spec_HistogramOf_M, hz]
      refine call_s [.l 0] (l01Ok_ct p f hp hf) (by simp) ?_
      simp [h]
      exact ret_pu (by simp) (by simp) (by simp)
    · refine pc_of impl_HistogramOf_ok (fun ro => ?_)
      simp [impl_HistogramOf_F, impl_HistogramOf_M, hz]
      refine call_pc (implValidLayer_pc p f hp hf) (by simp) (by simp) ?_
      simp [h]
      exact ret_pu (by simp) (by simp) (by simp)

theorem lawHistogramOf (p : Int) (f : Nat → Nat) (hp : -128 ≤ p ∧ p < 128) (hf : ∀ i, f i < 256) : PC Try.prog 10 [lay p f] (.bool true) := by
  have hz : rl [(9, .int .i64 0)] = arr .i64 9 fun _ => 0 := arr_zero
  obtain ⟨F, c, h1, h2⟩ := hist_both p f hp hf
  refine pc_of laws_FnExactHistogramOf_ok (fun ro => ?_)
  simp [laws_FnExactHistogramOf_F, laws_FnExactHistogramOf_M]
  refine call_pc (toLayer_pc p f) (by simp) (by simp) ?_
  refine call_pc h1 (by simp) (by simp) ?_
  simp [hz]
  refine call_pc (toLayer_pc p f) (by simp) (by simp) ?_
  refine call_pc h2 (by simp) (by simp) ?_
  simp [hz]
  refine call_pc (eqInt64A9_pc F) (by simp) (by simp) ?_
  simp
  exact ret_pu (by simp) (by simp) (by simp)
end Go.Proofs.Ytaadiplbjelbnaa
