/- A part of the proof library: names for blocks of memory, a small form of the code, and rules for walks over it. -/
import Derived.Test.YteidfholicaocaaO1b
set_option linter.all false
namespace Go.Proofs.Yteidfholicaocaa
open Go.Ab
set_option maxHeartbeats 800000

/-- A byte's bits in another order. -/
def reoB (len : Nat) (F : Nat → Int) (c : Nat) : Nat := pic len fun i => c.testBit (F i).toNat
theorem reoB_lt {len : Nat} {F : Nat → Int} {c : Nat} (h : len ≤ 8) : reoB len F c < 256 := Nat.lt_of_lt_of_le (pic_lt _ _) (show 2 ^ len ≤ 2 ^ 8 from Nat.pow_le_pow_right (by decide) h)

theorem reorder_ct (len : Nat) (hl : len ≤ 8) (F : Nat → Int) (hF : ∀ i, i < len → 0 ≤ F i) (c : Nat) (hc : c < 256) (ro : Bool) : Ct Try.prog ro 64 [.int .u8 c, .slx (.e 0) 0 len] [arr .i8 len F] fun v E' L' => v = .int .u8 (reoB len F c) ∧ E' = [arr .i8 len F] ∧ L' = [] := by
  refine ct_of impl_reorder_ok ?_
  simp [impl_reorder_F, impl_reorder_M]
  refine wp_for len (fun k => ⟨[(0, .int .u8 c), (5, .int .u8 (pic k fun i => c.testBit (F i).toNat)), (8, .slx (.e 0) 0 len), (9, .int .i64 len), (10, .int .i64 k)], [], [arr .i8 len F]⟩) ?_ ?_ ?_
  · simp [pic]
  · intro k hk
    have hk1 : (k : Int) < len := by omega
    have hwk : IntKind.i64.wrap ((k : Int) + 1) = k + 1 := wrap_i64 (by omega) (by omega)
    have h0 := hF k hk
    obtain ⟨q, hq⟩ := Int.eq_ofNat_of_zero_le h0
    have hst := take8 (F := fun i => c.testBit (F i).toNat) hc q (show k < 8 by omega) (by simp [hq])
    generalize (pic (k + 1) fun i => c.testBit (F i).toNat) = y at *
    generalize (pic k fun i => c.testBit (F i).toNat) = x at *
    simp [impl_reorder_L0, hk1, hk, hq, hst, hwk]
  · simp [impl_reorder_L0]
    exact ret_pu (by simp) (by simp) (by simp [reoB])

theorem l01Reordered_ct (len : Nat) (hl : len ≤ 8) (F : Nat → Int) (hF : ∀ i, i < len → 0 ≤ F i) (hF2 : ∀ i, F i < 128) (c : Nat) (hc : c < 256) (ro : Bool) : Ct Try.prog ro 59 [.int .u8 c, .slx (.e 0) 0 len] [arr .i8 len F] fun v E' L' => v = .int .u8 (reoB len F c) ∧ E' = [arr .i8 len F] ∧ L' = [] := by
  refine ct_of spec_l01Reordered_ok ?_
  simp [spec_l01Reordered_F, spec_l01Reordered_M]
  refine wp_for len (fun k => ⟨[(0, .int .u8 c), (1, .slx (.e 0) 0 len), (5, .int .u8 (pic k fun i => c.testBit (F i).toNat)), (6, .int .i64 k)], [], [arr .i8 len F]⟩) ?_ ?_ ?_
  · simp [pic]
  · intro k hk
    have hk1 : (k : Int) < len := by omega
    have hwk : IntKind.i64.wrap ((k : Int) + 1) = k + 1 := wrap_i64 (by omega) (by omega)
    have hwu : IntKind.u64.wrap (k : Int) = k := wrap_u64 (by omega) (by omega)
    have h0 := hF k hk
    have h1 := hF2 k
    obtain ⟨q, hq⟩ := Int.eq_ofNat_of_zero_le h0
    have hwq : IntKind.u64.wrap (q : Int) = q := wrap_u64 (by omega) (by omega)
    have hst := take8 (F := fun i => c.testBit (F i).toNat) hc q (show k < 8 by omega) (by simp [hq])
    generalize (pic (k + 1) fun i => c.testBit (F i).toNat) = y at *
    generalize (pic k fun i => c.testBit (F i).toNat) = x at *
    simp [spec_l01Reordered_L0, hk1, hk, hq, hwq, hwu, hst, hwk]
  · simp [spec_l01Reordered_L0]
    exact ret_pu (by simp) (by simp) (by simp [reoB])

theorem each_ctE {g : FuncId} {caps : List V} {E : List (List V)} {p : Int} {f G : Nat → Nat} (hg : hasBody Try.prog g = true) (hE : ∀ c ∈ E, eoL E.length c) (hc : eoL E.length caps) (h : ∀ i : Nat, i < 64 → ∀ ro, Ct Try.prog ro g (.int .i64 i :: caps) E fun v E' L' => v = .int .u8 (G i) ∧ E' = E ∧ L' = []) (ro : Bool) :
    Ct Try.prog ro 107 [lay p f, .fn g [] caps] E fun v E' L' => v = lay p G ∧ E' = E ∧ L' = [] := by
  refine ct_of impl_Layer_each_ok ?_
  simp [impl_Layer_each_F, impl_Layer_each_M, layC_zero, putl_all]
  refine wp_for 64 (fun k => ⟨[(1, .fn g [] caps), (4, .ptr (.l 1) 0), (5, .ptr (.l 2) 0), (10, .int .i64 k)], [layC p f, layC 0 fun _ => 0, layC p fun i => if i < k then G i else 0], E⟩) ?_ ?_ ?_
  · simp [putl_all]
  · intro k hk
    have hk1 : (k : Int) < 64 := by omega
    have hwk : IntKind.i64.wrap ((k : Int) + 1) = k + 1 := wrap_i64 (by omega) (by omega)
    simp [impl_Layer_each_L0, hk1, hk]
    refine ⟨hg, call_allE (h k hk) ?_ hE (by simpa using hc) (by simp) ?_⟩
    · rfl
    simp [hk1, hwk, layC_set, show 1 + k ≤ 64 by omega]
    exact layC_congr fun i _ => by by_cases h : i = k <;> by_cases h2 : i < k <;> simp [h, h2] <;> omega
  · simp [impl_Layer_each_L0, putl_all]
    rw [show layC p (fun i => if i < 64 then G i else 0) = layC p G from layC_congr fun i hi => by simp [hi]]
    exact ret_E E.length (by simp) hE ⟨rfl, rfl, rfl⟩


end Go.Proofs.Yteidfholicaocaa
