/- A part of the proof library: names for blocks of memory, a small form of the code, and rules for walks over it. -/
import Derived.Test.YtpajbcifaicpoaaDoorCode
import Derived.Test.YtpajbcifaicpoaaDoorAb23
set_option linter.all false
namespace Go.Proofs.YtpajbcifaicpoaaDoor
open Go.Ab
set_option maxHeartbeats 400000

theorem within_pc (n lo hi : Int) : PC Tryd.prog 52 [.int .i64 n, .int .i64 lo, .int .i64 hi] (.bool (decide (lo ≤ n ∧ n ≤ hi))) := by
  refine pc_of impl_within_ok (fun ro => ?_)
  by_cases h1 : lo ≤ n <;> by_cases h2 : n ≤ hi <;> simp [impl_within_F, impl_within_M, h1, h2] <;> exact ret_pu (by simp) (by simp) (by simp)

theorem l00In_pc (n lo hi : Int) : PC Tryd.prog 31 [.int .i64 n, .int .i64 lo, .int .i64 hi] (.bool (decide (lo ≤ n ∧ n ≤ hi))) := by
  refine pc_of spec_l00In_ok (fun ro => ?_)
  by_cases h1 : lo ≤ n <;> by_cases h2 : n ≤ hi <;> simp [spec_l00In_F, spec_l00In_M, h1, h2] <;> exact ret_pu (by simp) (by simp) (by simp)

theorem isParts_pc (n : Int) : PC Tryd.prog 45 [.int .i64 n] (.bool (decide (1 ≤ n ∧ n ≤ 8))) := by
  refine pc_of impl_isParts_ok (fun ro => ?_)
  simp [impl_isParts_F, impl_isParts_M]
  refine call_pc (within_pc n 1 8) (by simp) (by simp) ?_
  simp
  exact ret_pu (by simp) (by simp) (by simp)

theorem l01Parts_pc (n : Int) : PC Tryd.prog 32 [.int .i64 n] (.bool (decide (1 ≤ n ∧ n ≤ 8))) := by
  refine pc_of spec_l01Parts_ok (fun ro => ?_)
  simp [spec_l01Parts_F, spec_l01Parts_M]
  refine call_pc (l00In_pc n 1 8) (by simp) (by simp) ?_
  simp
  exact ret_pu (by simp) (by simp) (by simp)

theorem toByteA64_pc (f : Nat → Nat) : PC Tryd.prog 23 [.agg (byt 64 f)] (.agg (byt 64 f)) := by
  refine pc_of laws_toByteA64_ok (fun ro => ?_)
  simp [laws_toByteA64_F, laws_toByteA64_M]
  refine wp_for 64 (fun k => ⟨[(1, .ptr (.l 0) 0), (2, .ptr (.l 1) 0), (3, .ptr (.l 2) 0), (4, .int .i64 k)], [byt 64 f, byt 64 fun _ => 0, byt 64 fun i => if i < k then f i else 0], []⟩) ?_ ?_ ?_
  · simp [byt_zero]
  · intro k hk
    have hk1 : (k : Int) < 64 := by omega
    simp [laws_toByteA64_L0, hk1, hk, byt_set, wrap_i64 (show -9223372036854775808 ≤ (k : Int) + 1 by omega) (by omega), show k + 1 ≤ 64 from hk]
    exact byt_congr fun i _ => by by_cases h : i = k <;> by_cases h2 : i < k <;> simp [h, h2] <;> omega
  · simp [laws_toByteA64_L0, putl_all]
    rw [show (byt 64 fun i => if i < 64 then f i else 0) = byt 64 f from byt_congr fun i hi => by simp [hi]]
    exact ret_pu (by simp) (by simp) (by simp)

theorem toLayer_pc (p : Int) (f : Nat → Nat) : PC Tryd.prog 8 [lay p f] (lay p f) := by
  refine pc_of laws_toLayer_ok (fun ro => ?_)
  simp [laws_toLayer_F, laws_toLayer_M, layC_zero, layC]
  refine call_pc (toByteA64_pc f) (by simp) (by simp) ?_
  simp [putl_head]
  exact ret_pu (by simp) (by simp) (by simp [layC])

theorem mask_pc (p : Int) (h : 0 ≤ p ∧ p ≤ 8) : PC Tryd.prog 46 [.int .i8 p] (.int .u8 ((2 ^ p.toNat - 1 : Nat) : Int)) := by
  refine pc_of impl_mask_ok (fun ro => ?_)
  have key : ∀ q : Fin 9, IntKind.u8.wrap (shlI .u8 1 (q.val : Int) - 1) = ((2 ^ q.val - 1 : Nat) : Int) := by decide +kernel
  obtain ⟨q, rfl⟩ := Int.eq_ofNat_of_zero_le h.1
  have := key ⟨q, by omega⟩
  simp only at this
  simp [impl_mask_F, impl_mask_M, show ¬ (q : Int) < 0 by omega, this]
  exact ret_pu (by simp) (by simp) (by simp)

/-- A layer is valid. -/
def LOk (p : Int) (f : Nat → Nat) : Prop := (1 ≤ p ∧ p ≤ 8) ∧ ∀ i, i < 64 → f i < 2 ^ p.toNat
open Classical in
noncomputable def lok (p : Int) (f : Nat → Nat) : Bool := decide (LOk p f)
theorem lok_iff {p : Int} {f : Nat → Nat} : lok p f = true ↔ LOk p f := by simp [lok]

theorem anc_zero (c p : Nat) (h : c < 256) (h2 : p ≤ 8) : (anc c (2 ^ p - 1) = 0) ↔ c < 2 ^ p := by
  have key : ∀ c : Fin 256, ∀ p : Fin 9, (anc c.val (2 ^ p.val - 1) = 0) ↔ c.val < 2 ^ p.val := by decide +kernel
  exact key ⟨c, h⟩ ⟨p, by omega⟩

theorem l01Ok_ct (p : Int) (f : Nat → Nat) (hp : -128 ≤ p ∧ p < 128) (hf : ∀ i, f i < 256) (ro : Bool) : Ct Tryd.prog ro 21 [.ptr (.e 0) 0] [layC p f] (fun v E' L' => v = .bool (lok p f) ∧ E' = [layC p f] ∧ L' = []) := by
  refine ct_of spec_l01Ok_ok ?_
  have hw : IntKind.i64.wrap p = p := wrap_i64 (by omega) (by omega)
  simp [spec_l01Ok_F, spec_l01Ok_M, layC, hw]
  refine call_pc (l01Parts_pc p) (by simp) (by simp) ?_
  by_cases h1 : 1 ≤ p ∧ p ≤ 8
  · simp [h1]
    have hu : IntKind.u64.wrap p = p := wrap_u64 (by omega) (by omega)
    obtain ⟨q, rfl⟩ := Int.eq_ofNat_of_zero_le (show 0 ≤ p by omega)
    have hk0 : ∀ k, shrI .u8 (f k : Int) (q : Int) = ((f k / 2 ^ q : Nat) : Int) := fun k => shr8 (hf k)
    refine wp_forR 64 (fun k => ⟨[(0, .ptr (.e 0) 0), (3, .int .i64 k)], [], [layC q f]⟩) (fun k => f k < 2 ^ q) ?_ ?_ ?_
    · intro k hk hg
      have hk1 : (k : Int) < 64 := by omega
      simp [spec_l01Ok_L0, hk1, hk, layC, get_cons1, hu, show ¬ (q : Int) < 0 by omega, hk0, Nat.div_eq_of_lt hg]
      exact wrap_i64 (by omega) (by omega)
    · intro k hk hg hb
      have hk1 : (k : Int) < 64 := by omega
      have : ¬ f k / 2 ^ q = 0 := by
        have : 0 < f k / 2 ^ q := Nat.div_pos (by omega) (Nat.pow_pos (by decide))
        omega
      simp [spec_l01Ok_L0, hk1, hk, layC, get_cons1, hu, show ¬ (q : Int) < 0 by omega, hk0, -Int.natCast_ediv, -Nat.div_eq_zero_iff, this]
      exact ret_pu (by simp) (by simp) ⟨by rw [eq_comm, V.bool.injEq]; simp [lok, LOk, h1]; exact ⟨k, hk, by omega⟩, rfl, rfl⟩
    · intro hall
      simp [spec_l01Ok_L0]
      exact ret_pu (by simp) (by simp) (by simp [lok, LOk, h1, layC]; exact hall)
  · simp [h1]; exact ret_pu (by simp) (by simp) (by simp [lok, LOk, h1, layC])


theorem implValidLayer_pc (p : Int) (f : Nat → Nat) (hp : -128 ≤ p ∧ p < 128) (hf : ∀ i, f i < 256) : PC Tryd.prog 24 [lay p f] (.bool (lok p f)) := by
  refine pc_of impl_ValidLayer_ok (fun ro => ?_)
  have hw : IntKind.i64.wrap p = p := wrap_i64 (by omega) (by omega)
  simp [impl_ValidLayer_F, impl_ValidLayer_M, layC, hw]
  refine call_pc (isParts_pc p) (by simp) (by simp) ?_
  by_cases h1 : 1 ≤ p ∧ p ≤ 8
  · simp [h1]
    have hm : 2 ^ p.toNat - 1 < 256 := by
      have : 2 ^ p.toNat ≤ 2 ^ 8 := Nat.pow_le_pow_right (by decide) (by omega)
      omega
    have ha : ∀ k, ancI .u8 (f k : Int) ((2 ^ p.toNat - 1 : Nat) : Int) = ((anc (f k) (2 ^ p.toNat - 1) : Nat) : Int) := fun k => anc8 (hf k) hm
    refine wp_forR 64 (fun k => ⟨[(1, .ptr (.l 0) 0), (11, .agg (byt 64 f)), (12, .int .i64 k)], [layC p f], []⟩) (fun k => f k < 2 ^ p.toNat) ?_ ?_ ?_
    · intro k hk hg
      have hk1 : (k : Int) < 64 := by omega
      simp [impl_ValidLayer_L0, hk1, hk, layC]
      refine call_pc (mask_pc p (by omega)) (by simp) (by simp) ?_
      simp [ha, (anc_zero (f k) p.toNat (hf k) (by omega)).2 hg]
      exact wrap_i64 (by omega) (by omega)
    · intro k hk hg hb
      have hk1 : (k : Int) < 64 := by omega
      simp [impl_ValidLayer_L0, hk1, hk, layC]
      refine call_pc (mask_pc p (by omega)) (by simp) (by simp) ?_
      have : ¬ anc (f k) (2 ^ p.toNat - 1) = 0 := fun h => hg ((anc_zero (f k) p.toNat (hf k) (by omega)).1 h)
      simp [ha, this]
      exact ret_pu (by simp) (by simp) ⟨by rw [eq_comm, V.bool.injEq]; simp [lok, LOk, h1]; exact ⟨k, hk, by omega⟩, rfl, rfl⟩
    · intro hall
      simp [impl_ValidLayer_L0]
      exact ret_pu (by simp) (by simp) (by simp [lok, LOk, h1]; exact hall)
  · simp [h1]; exact ret_pu (by simp) (by simp) (by simp [lok, LOk, h1])
end Go.Proofs.YtpajbcifaicpoaaDoor
