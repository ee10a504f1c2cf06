/- A part of the proof library: names for blocks of memory, a small form of the code, and rules for walks over it. -/
import Derived.Test.YtmdemhfmhlnlgaaO1a
set_option linter.all false
namespace Go.Proofs.Ytmdemhfmhlnlgaa
open Go.Ab
set_option maxHeartbeats 800000

/-- A byte's bits in another order. -/
def reoB (len : Nat) (F : Nat → Int) (c : Nat) : Nat := pic len fun i => c.testBit (F i).toNat
theorem reoB_lt {len : Nat} {F : Nat → Int} {c : Nat} (h : len ≤ 8) : reoB len F c < 256 := Nat.lt_of_lt_of_le (pic_lt _ _) (show 2 ^ len ≤ 2 ^ 8 from Nat.pow_le_pow_right (by decide) h)

theorem reorder_ct (len : Nat) (hl : len ≤ 8) (F : Nat → Int) (hF : ∀ i, i < len → 0 ≤ F i) (c : Nat) (hc : c < 256) (ro : Bool) : Ct Try.prog ro 83 [.int .u8 c, .slx (.e 0) 0 len] [arr .i8 len F] fun v E' L' => v = .int .u8 (reoB len F c) ∧ E' = [arr .i8 len F] ∧ L' = [] := by
  refine ct_of impl_reorder_ok ?_
  simp [impl_reorder_F, impl_reorder_M]
  refine wp_for len (fun k => ⟨[(0, .int .u8 c), (5, .int .u8 (pic k fun i => c.testBit (F i).toNat)), (8, .slx (.e 0) 0 len), (9, .int .i64 len), (10, .int .i64 k)], [], [arr .i8 len F]⟩) ?_ ?_ ?_
  · simp [pic]
  · intro k hk
    have hk1 : (k : Int) < len := by omega
    have hwk : IntKind.i64.wrap ((k : Int) + 1) = k + 1 := wrap_i64 (by omega) (by omega)
    have h0 := hF k hk
    obtain ⟨q, hq⟩ := Int.eq_ofNat_of_zero_le h0
    have hst := take8 (F := fun i => c.testBit (F i).toNat) hc q (show k < 8 by omega) (by simp [hq])
    generalize (pic (k + 1) fun i => c.testBit (F i).toNat) = y at *
    generalize (pic k fun i => c.testBit (F i).toNat) = x at *
    simp [impl_reorder_L0, hk1, hk, hq, hst, hwk]
  · simp [impl_reorder_L0]
    exact ret_pu (by simp) (by simp) (by simp [reoB])

theorem l01Reordered_ct (len : Nat) (hl : len ≤ 8) (F : Nat → Int) (hF : ∀ i, i < len → 0 ≤ F i) (hF2 : ∀ i, F i < 128) (c : Nat) (hc : c < 256) (ro : Bool) : Ct Try.prog ro 78 [.int .u8 c, .slx (.e 0) 0 len] [arr .i8 len F] fun v E' L' => v = .int .u8 (reoB len F c) ∧ E' = [arr .i8 len F] ∧ L' = [] := by
  refine ct_of spec_l01Reordered_ok ?_
  simp [spec_l01Reordered_F, spec_l01Reordered_M]
  refine wp_for len (fun k => ⟨[(0, .int .u8 c), (1, .slx (.e 0) 0 len), (5, .int .u8 (pic k fun i => c.testBit (F i).toNat)), (6, .int .i64 k)], [], [arr .i8 len F]⟩) ?_ ?_ ?_
  · simp [pic]
  · intro k hk
    have hk1 : (k : Int) < len := by omega
    have hwk : IntKind.i64.wrap ((k : Int) + 1) = k + 1 := wrap_i64 (by omega) (by omega)
    have hwu : IntKind.u64.wrap (k : Int) = k := wrap_u64 (by omega) (by omega)
    have h0 := hF k hk
    have h1 := hF2 k
    obtain ⟨q, hq⟩ := Int.eq_ofNat_of_zero_le h0
    have hwq : IntKind.u64.wrap (q : Int) = q := wrap_u64 (by omega) (by omega)
    have hst := take8 (F := fun i => c.testBit (F i).toNat) hc q (show k < 8 by omega) (by simp [hq])
    generalize (pic (k + 1) fun i => c.testBit (F i).toNat) = y at *
    generalize (pic k fun i => c.testBit (F i).toNat) = x at *
    simp [spec_l01Reordered_L0, hk1, hk, hq, hwq, hwu, hst, hwk]
  · simp [spec_l01Reordered_L0]
    exact ret_pu (by simp) (by simp) (by simp [reoB])

theorem each_ctE {g : FuncId} {caps : List V} {E : List (List V)} {p : Int} {f G : Nat → Nat} (hg : hasBody Try.prog g = true) (hE : ∀ c ∈ E, eoL E.length c) (hc : eoL E.length caps) (h : ∀ i : Nat, i < 64 → ∀ ro, Ct Try.prog ro g (.int .i64 i :: caps) E fun v E' L' => v = .int .u8 (G i) ∧ E' = E ∧ L' = []) (ro : Bool) :
    Ct Try.prog ro 81 [lay p f, .fn g [] caps] E fun v E' L' => v = lay p G ∧ E' = E ∧ L' = [] := by
  refine ct_of impl_Layer_each_ok ?_
  simp [impl_Layer_each_F, impl_Layer_each_M, layC_zero, putl_all]
  refine wp_for 64 (fun k => ⟨[(1, .fn g [] caps), (4, .ptr (.l 1) 0), (5, .ptr (.l 2) 0), (10, .int .i64 k)], [layC p f, layC 0 fun _ => 0, layC p fun i => if i < k then G i else 0], E⟩) ?_ ?_ ?_
  · simp [putl_all]
  · intro k hk
    have hk1 : (k : Int) < 64 := by omega
    have hwk : IntKind.i64.wrap ((k : Int) + 1) = k + 1 := wrap_i64 (by omega) (by omega)
    simp [impl_Layer_each_L0, hk1, hk]
    refine ⟨hg, call_allE (h k hk) ?_ hE (by simpa using hc) (by simp) ?_⟩
    · rfl
    simp [hk1, hwk, layC_set, show 1 + k ≤ 64 by omega]
    exact layC_congr fun i _ => by by_cases h : i = k <;> by_cases h2 : i < k <;> simp [h, h2] <;> omega
  · simp [impl_Layer_each_L0, putl_all]
    rw [show layC p (fun i => if i < 64 then G i else 0) = layC p G from layC_congr fun i hi => by simp [hi]]
    exact ret_E E.length (by simp) hE ⟨rfl, rfl, rfl⟩

theorem reorderParts1_ct (len : Nat) (hl : len ≤ 8) (F : Nat → Int) (hF : ∀ i, i < len → 0 ≤ F i) (p : Int) (f : Nat → Nat) (hf : ∀ i, f i < 256) (k : Nat) (hk : k < 64) (ro : Bool) : Ct Try.prog ro 82 [.int .i64 k, .ptr (.e 0) 0, .ptr (.e 1) 0] [layC p f, [.slx (.e 2) 0 len], arr .i8 len F] fun v E' L' => v = .int .u8 (reoB len F (f k)) ∧ E' = [layC p f, [.slx (.e 2) 0 len], arr .i8 len F] ∧ L' = [] := by
  have h1 := reorder_ct len hl F hF (f k) (hf k)
  have hk1 : (k : Int) < 64 := by omega
  refine ct_of impl_ReorderParts_1_ok ?_
  simp [impl_ReorderParts_1_F, impl_ReorderParts_1_M, hk1, layC_f hk, show 1 + k ≤ 64 by omega]
  refine calll_s [.e 2] h1 (by simp) ?_
  simp
  exact ret_E 3 (by simp) (by simp) (by simp)
theorem reorderParts_ok (len : Nat) (hl : len ≤ 1048576) (F : Nat → Int) (hF : ∀ i, -128 ≤ F i ∧ F i < 128) (p : Int) (f : Nat → Nat) (hp : -128 ≤ p ∧ p < 128) (hf : ∀ i, f i < 256) (hok : lok p f = true) (ho : OrdP F len p) :
    (∀ ro, Ct Try.prog ro 37 [lay p f, .slx (.e 0) 0 len] [arr .i8 len F] fun v E' L' => v = .tup [lay p (fun i => reoB len F (f i)), .int .i64 0] ∧ E' = [arr .i8 len F] ∧ L' = []) ∧
    (∀ ro, Ct Try.prog ro 39 [lay p f, .slx (.e 0) 0 len] [arr .i8 len F] fun v E' L' => v = .tup [lay p (fun i => reoB len F (f i)), .int .i64 0] ∧ E' = [arr .i8 len F] ∧ L' = []) := by
  have k1 := l01Ok_ct p f hp hf
  have k2 := l01Order_ct len hl F hF p hp
  have k3 := implValidLayer_pc p f hp hf
  have k4 := isOrder_ct len hl F hF p hp
  have hw1 : IntKind.i64.wrap p = p := wrap_i64 (by omega) (by omega)
  rw [hok] at k1 k3
  rw [ordB_iff.2 ho] at k2 k4
  have h8 := (lok_iff.1 hok).1
  have hlen := ho.2
  have hl8 : len ≤ 8 := by omega
  have h0 : ∀ i, i < len → 0 ≤ F i := fun i hi => (ho.1 i hi).1
  refine ⟨fun ro => ?_, fun ro => ?_⟩
  · refine ct_of spec_ReorderParts_ok ?_
    simp [spec_ReorderParts_F, spec_ReorderParts_M, layC_zero]
    refine call_s [.l 0] k1 (by simp) ?_
    simp [hw1]
    refine call_s [.e 0] k2 (by simp) ?_
    simp
    refine wp_for 64 (fun k => ⟨[(1, .slx (.e 0) 0 len), (2, .ptr (.l 0) 0), (4, .ptr (.l 1) 0), (6, .int .i64 k)], [layC p fun i => if i < k then reoB len F (f i) else f i, layC 0 fun _ => 0], [arr .i8 len F]⟩) ?_ ?_ ?_
    · simp
    · intro k hk
      have hk1 : (k : Int) < 64 := by omega
      have hwk : IntKind.i64.wrap ((k : Int) + 1) = k + 1 := wrap_i64 (by omega) (by omega)
      have hcall := l01Reordered_ct len hl8 F h0 (fun i => (hF i).2) (f k) (hf k)
      have hlt : reoB len F (f k) < 256 := reoB_lt hl8
      simp [spec_ReorderParts_L0, hk1, hk, layC_f hk, show 1 + k ≤ 64 by omega]
      refine call_s [.e 0] hcall (by simp) ?_
      simp [hk1, hk, layC_set, hwk, show 1 + k ≤ 64 by omega]
      exact layC_congr fun i _ => by by_cases e : i = k <;> by_cases e2 : i < k <;> simp [e, e2] <;> omega
    · have he : layC p (fun i => if i < 64 then reoB len F (f i) else f i) = layC p fun i => reoB len F (f i) := layC_congr fun i hi => by simp [hi]
      simp [spec_ReorderParts_L0, he]
      exact ret_pu (by simp) (by simp) (by simp)
  · have heach := each_ctE (g := 82) (caps := [.ptr (.e 0) 0, .ptr (.e 1) 0]) (E := [layC p f, [.slx (.e 2) 0 len], arr .i8 len F]) (p := p) (f := f) (G := fun i => reoB len F (f i)) (by kernel_rfl) (by simp) (by simp) (fun i hi => reorderParts1_ct len hl8 F h0 p f hf i hi)
    refine ct_of impl_ReorderParts_ok ?_
    simp [impl_ReorderParts_F, impl_ReorderParts_M, layC_zero]
    refine calld_pc k3 (by simp) (by simp) ?_
    simp
    refine calld_r [.e 0] (L2 := []) k4 (by simp) (by simp) ?_
    simp [zrow_f2, fc_two]
    refine calld_s [.l 3] (first2_ct false false 1 2) (by simp) ?_
    simp
    refine call_rE [.l 0, .l 1, .e 0] (L2 := []) heach (sigOk_mk (by simp) (by simp) (by simp)) (by simp) (by simp) (by simp) ?_
    simp
    exact ret_pu (by simp) (by simp) (by simp)
theorem reorderParts_no (len : Nat) (hl : len ≤ 1048576) (F : Nat → Int) (hF : ∀ i, -128 ≤ F i ∧ F i < 128) (p : Int) (f : Nat → Nat) (hp : -128 ≤ p ∧ p < 128) (hf : ∀ i, f i < 256) (c : Int)
    (hc : (lok p f = false ∧ c = 1) ∨ (lok p f = true ∧ ordB F len p = false ∧ c = 2)) :
    (∀ ro, Ct Try.prog ro 37 [lay p f, .slx (.e 0) 0 len] [arr .i8 len F] fun v E' L' => v = .tup [lay 0 (fun _ => 0), .int .i64 c] ∧ E' = [arr .i8 len F] ∧ L' = []) ∧
    (∀ ro, Ct Try.prog ro 39 [lay p f, .slx (.e 0) 0 len] [arr .i8 len F] fun v E' L' => v = .tup [lay 0 (fun _ => 0), .int .i64 c] ∧ E' = [arr .i8 len F] ∧ L' = []) := by
  have k1 := l01Ok_ct p f hp hf
  have k2 := l01Order_ct len hl F hF p hp
  have k3 := implValidLayer_pc p f hp hf
  have k4 := isOrder_ct len hl F hF p hp
  have hw1 : IntKind.i64.wrap p = p := wrap_i64 (by omega) (by omega)
  refine ⟨fun ro => ?_, fun ro => ?_⟩
  · refine ct_of spec_ReorderParts_ok ?_
    simp [spec_ReorderParts_F, spec_ReorderParts_M, layC_zero]
    refine call_s [.l 0] k1 (by simp) ?_
    rcases hc with ⟨h1, rfl⟩ | ⟨h1, h2, rfl⟩
    · simp [h1]
      exact ret_pu (by simp) (by simp) (by simp)
    · rw [h2] at k2
      simp [h1, hw1]
      refine call_s [.e 0] k2 (by simp) ?_
      simp
      exact ret_pu (by simp) (by simp) (by simp)
  · refine ct_of impl_ReorderParts_ok ?_
    simp [impl_ReorderParts_F, impl_ReorderParts_M, layC_zero]
    refine calld_pc k3 (by simp) (by simp) ?_
    simp
    refine calld_r [.e 0] (L2 := []) k4 (by simp) (by simp) ?_
    simp [zrow_f2, fc_two]
    refine calld_s [.l 3] (first2_ct (!lok p f) (!ordB F len p) 1 2) (by simp) ?_
    rcases hc with ⟨h1, rfl⟩ | ⟨h1, h2, rfl⟩
    · simp [h1]
      exact ret_pu (by simp) (by simp) (by simp)
    · simp [h1, h2]
      exact ret_pu (by simp) (by simp) (by simp)
theorem reorderParts_both (len : Nat) (hl : len ≤ 1048576) (F : Nat → Int) (hF : ∀ i, -128 ≤ F i ∧ F i < 128) (p : Int) (f : Nat → Nat) (hp : -128 ≤ p ∧ p < 128) (hf : ∀ i, f i < 256) :
    ∃ p2 f2 c, (∀ ro, Ct Try.prog ro 37 [lay p f, .slx (.e 0) 0 len] [arr .i8 len F] fun v E' L' => v = .tup [lay p2 f2, .int .i64 c] ∧ E' = [arr .i8 len F] ∧ L' = []) ∧
    (∀ ro, Ct Try.prog ro 39 [lay p f, .slx (.e 0) 0 len] [arr .i8 len F] fun v E' L' => v = .tup [lay p2 f2, .int .i64 c] ∧ E' = [arr .i8 len F] ∧ L' = []) := by
  cases h1 : lok p f
  · obtain ⟨a1, a2⟩ := reorderParts_no len hl F hF p f hp hf 1 (.inl ⟨h1, rfl⟩)
    exact ⟨_, _, _, a1, a2⟩
  · cases h2 : ordB F len p
    · obtain ⟨a1, a2⟩ := reorderParts_no len hl F hF p f hp hf 2 (.inr ⟨h1, h2, rfl⟩)
      exact ⟨_, _, _, a1, a2⟩
    · obtain ⟨a1, a2⟩ := reorderParts_ok len hl F hF p f hp hf h1 (ordB_iff.1 h2)
      exact ⟨_, _, _, a1, a2⟩

theorem lawReorderParts (p : Int) (f : Nat → Nat) (hp : -128 ≤ p ∧ p < 128) (hf : ∀ i, f i < 256) (n off : Nat) (F : Nat → Int) (hF : ∀ i, -128 ≤ F i ∧ F i < 128) (cs : List V) (hcs : ∀ i, i < n → cs[off + i]? = some (.int .i8 (F i))) (hpu : puL cs) : Ct Try.prog true 9 [lay p f, .slx (.e 0) off n] [cs] fun v E' L' => v = .bool true ∧ E' = [cs] ∧ L' = [] := by
  refine ct_of laws_FnExactReorderParts_ok ?_
  by_cases hn : n ≤ 1048576
  · obtain ⟨p2, f2, c, h1, h2⟩ := reorderParts_both n hn F hF p f hp hf
    have hto := (toInt8S_ct n off hn F cs hcs hpu)
    have heq := eqInt8S_ct n hn F
    have hn1 : ¬ (1048576 : Int) < (n : Nat) := by omega
    simp [laws_FnExactReorderParts_F, laws_FnExactReorderParts_M, layC_zero, hn1]
    refine call_pc (toLayer_pc p f) (by simp) (by simp) ?_
    simp
    refine call_g [.e 0] hto (by simpa using hpu) (by simp) ?_
    simp
    refine call_s [.l 1] h1 (by simp) ?_
    simp
    refine call_g [.e 0] hto (by simpa using hpu) (by simp) ?_
    simp
    refine call_pc (toLayer_pc p f) (by simp) (by simp) ?_
    simp
    refine call_s [.l 3] h2 (by simp) ?_
    simp
    refine call_pc (eqLayer_pc p2 f2) (by simp) (by simp) ?_
    simp
    refine call_g [.e 0] hto (by simpa using hpu) (by simp) ?_
    simp
    refine call_s [.l 3, .l 5] heq (by simp) ?_
    simp
    exact ret_pu (by simp) (by simpa using hpu) (by simp)
  · first
    | exact absurd (Nat.zero_le _) hn
    | have hn1 : (1048576 : Int) < (n : Nat) := by omega
      simp [laws_FnExactReorderParts_F, laws_FnExactReorderParts_M, layC_zero, hn1]
      exact ret_pu (by simp) (by simpa using hpu) (by simp)
theorem lawReorderPartsNil (p : Int) (f : Nat → Nat) (hp : -128 ≤ p ∧ p < 128) (hf : ∀ i, f i < 256)  : Ct Try.prog true 9 [lay p f, .nilsl] [] fun v E' L' => v = .bool true ∧ E' = [] ∧ L' = [] := by
  refine ct_of laws_FnExactReorderParts_ok ?_
  by_cases hn : 0 ≤ 1048576
  · obtain ⟨p2, f2, c, h1, h2⟩ := reorderParts_both 0 hn (fun _ => (0 : Int)) (fun _ => by omega) p f hp hf
    have hto := toInt8SNil_ct
    have heq := eqInt8S_ct 0 hn (fun _ => (0 : Int))
    have hn1 : ¬ (1048576 : Int) < (0 : Nat) := by omega
    simp [laws_FnExactReorderParts_F, laws_FnExactReorderParts_M, layC_zero, hn1]
    refine call_pc (toLayer_pc p f) (by simp) (by simp) ?_
    simp
    refine call_g [] hto (by simp) (by simp) ?_
    simp
    refine call_s [.l 1] h1 (by simp) ?_
    simp
    refine call_g [] hto (by simp) (by simp) ?_
    simp
    refine call_pc (toLayer_pc p f) (by simp) (by simp) ?_
    simp
    refine call_s [.l 3] h2 (by simp) ?_
    simp
    refine call_pc (eqLayer_pc p2 f2) (by simp) (by simp) ?_
    simp
    refine call_g [] hto (by simp) (by simp) ?_
    simp
    refine call_s [.l 3, .l 5] heq (by simp) ?_
    simp
    exact ret_pu (by simp) (by simp) (by simp)
  · first
    | exact absurd (Nat.zero_le _) hn
    | have hn1 : (1048576 : Int) < (0 : Nat) := by omega
      simp [laws_FnExactReorderParts_F, laws_FnExactReorderParts_M, layC_zero, hn1]
      exact ret_pu (by simp) (by simp) (by simp)
end Go.Proofs.Ytmdemhfmhlnlgaa
