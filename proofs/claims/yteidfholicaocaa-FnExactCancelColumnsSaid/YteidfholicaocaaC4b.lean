/- A part of the proof library: names for blocks of memory, a small form of the code, and rules for walks over it. -/
import Derived.Test.YteidfholicaocaaC3b
set_option linter.all false
namespace Go.Proofs.Yteidfholicaocaa
open Go.Ab
set_option maxHeartbeats 400000

/-- How many of the first bits are 1. -/
def cnt : Nat → Nat → Nat
  | 0, _ => 0
  | k + 1, n => cnt k n + (n.testBit k).toNat
theorem cnt_le (n : Nat) : ∀ k, cnt k n ≤ k
  | 0 => Nat.le_refl _
  | k + 1 => by have := cnt_le n k; have := Bool.toNat_le (n.testBit k); simp only [cnt]; omega
theorem cnt_stop {n k : Nat} (h : n < 2 ^ k) : ∀ j, cnt (k + j) n = cnt k n
  | 0 => rfl
  | j + 1 => by
    rw [Nat.add_succ, cnt, cnt_stop h j, Nat.testBit_lt_two_pow (Nat.lt_of_lt_of_le h (Nat.pow_le_pow_right (by decide) (by omega)))]
    rfl
theorem cnt_to {n k m : Nat} (h : n < 2 ^ k) (hm : k ≤ m) : cnt m n = cnt k n := by
  obtain ⟨j, rfl⟩ := Nat.exists_eq_add_of_le hm
  exact cnt_stop h j

theorem l01Count_pc (n : Nat) (hn : n < 18446744073709551616) : PC Try.prog 112 [.int .u64 n] (.int .i64 (cnt 64 n)) := by
  refine pc_of spec_l01Count_ok (fun ro => ?_)
  simp [spec_l01Count_F, spec_l01Count_M]
  refine wp_rounds 64 (fun k => ⟨[(0, .int .u64 ((n / 2 ^ k : Nat) : Int)), (3, .int .i64 (cnt k n))], [], []⟩) (fun k => n / 2 ^ k = 0) ?_ ?_ ?_ ?_
  · simp [cnt]
  · intro k hk hs
    have h1 : n / 2 ^ k < 18446744073709551616 := div_lt hn
    have h3 : n / 2 ^ (k + 1) = n / 2 ^ k / 2 := by rw [Nat.pow_succ, Nat.div_div_eq_div_mul]
    have hb : n / 2 ^ k % 2 = (n.testBit k).toNat := by
      rw [Nat.testBit_eq_decide_div_mod_eq]
      have : n / 2 ^ k % 2 < 2 := Nat.mod_lt _ (by decide)
      by_cases h : n / 2 ^ k % 2 = 1
      · simp [h]
      · rw [show n / 2 ^ k % 2 = 0 by omega]; simp
    have hc := cnt_le n k
    have hbl : (n.testBit k).toNat ≤ 1 := Bool.toNat_le _
    rw [h3]
    generalize n / 2 ^ k = x at h1 hb hs
    have ha : andI .u64 (x : Int) 1 = ((x % 2 : Nat) : Int) := and64_one h1
    have hr : shrI .u64 (x : Int) 1 = ((x / 2 : Nat) : Int) := by have := shr64 (n := 1) h1; simpa using this
    rw [hb] at ha
    simp [spec_l01Count_L0, hs, ha, hr, -Int.natCast_ediv]
    rw [cnt]
    have e1 : IntKind.i64.wrap (((n.testBit k).toNat : Nat) : Int) = ((n.testBit k).toNat : Nat) := wrap_i64 (by omega) (by omega)
    rw [e1, wrap_i64 (by omega) (by omega)]
    push_cast
    rfl
  · intro k hk hs
    have e : cnt 64 n = cnt k n := cnt_to (by
      rcases Nat.lt_or_ge n (2 ^ k) with h | h
      · exact h
      · have := Nat.div_pos h (Nat.pow_pos (by decide) : 0 < 2 ^ k); omega) hk
    simp [spec_l01Count_L0, hs, -Int.natCast_ediv]
    exact ret_pu (by simp) (by simp) (by simp [e])
  · exact Nat.div_eq_of_lt hn

def popTab : ByteArray := ⟨((List.range 256).map fun i => UInt8.ofNat (cnt 8 i)).toArray⟩
def oc (t : ByteArray) : MC :=
  (.seq (.reg none [⟨(some 2), .mov (.c (.int .i64 0)), none⟩] (some [0]) none)
    (.seq (.reg none [⟨(some 3), .mov (.t 0), none⟩, ⟨(some 4), .ixS (.c (.str t)) (.t 3), none⟩, ⟨(some 5), .conv .i64 (.t 4), none⟩, ⟨(some 2), .mov (.t 5), none⟩] (some [2]) none)
    .ret))
theorem oc_eq : math_bits_OnesCount8_F.body = oc popTab := by kernel_rfl
theorem oc_res : math_bits_OnesCount8_F.res = [.t 2] := rfl
theorem popTab_size : popTab.size = 256 := by kernel_rfl
theorem popTab_get : ∀ n : Fin 256, (popTab.data[n.val]?).map UInt8.toNat = some (cnt 64 n.val) := by decide +kernel
theorem onesCount8_pc (n : Nat) (hn : n < 256) : PC Try.prog 141 [.int .u8 n] (.int .i64 (cnt 64 n)) := by
  refine pc_of math_bits_OnesCount8_ok (fun ro => ?_)
  rw [oc_eq, oc_res]
  have hg := popTab_get ⟨n, hn⟩
  have hs := popTab_size
  generalize popTab = t at hg hs
  have hc := cnt_le n 64
  generalize cnt 64 n = c at hg hc
  obtain ⟨u, hu, huc⟩ : ∃ u, t.data[n]? = some u ∧ u.toNat = c := by
    cases h : t.data[n]? with
    | none => rw [h] at hg; simp at hg
    | some u => rw [h] at hg; simp at hg; exact ⟨u, rfl, hg⟩
  have hw : IntKind.i64.wrap (c : Int) = c := wrap_i64 (by omega) (by omega)
  simp [oc, hu, huc, hw]
  exact ret_pu (by simp) (by simp) (by simp)
theorem layerCount_pc (p : Int) (f : Nat → Nat) (hf : ∀ i, f i < 256) (k : Nat) (hk : k < 64) : PC Try.prog 120 [lay p f, .int .i64 k] (.int .i64 (cnt 64 (f k))) := by
  refine pc_of impl_Layer_count_ok (fun ro => ?_)
  have hk1 : (k : Int) < 64 := by omega
  simp [impl_Layer_count_F, impl_Layer_count_M, hk, hk1, layC_f hk, show 1 + k ≤ 64 by omega]
  refine call_pc (onesCount8_pc (f k) (hf k)) (by simp) (by simp) ?_
  simp
  exact ret_pu (by simp) (by simp) (by simp)

/-- The picture of the cells with so many black parts. -/
def shownP (f : Nat → Nat) (level : Int) : Nat → Bool := fun i => decide (level ≤ cnt 64 (f i))

theorem shown1_ct (p : Int) (f : Nat → Nat) (hf : ∀ i, f i < 256) (level : Int) (k : Nat) (hk : k < 64) (ro : Bool) : Ct Try.prog ro 119 [.int .i64 k, .ptr (.e 0) 0, .ptr (.e 1) 0] [layC p f, [.int .i64 level]] fun v E' L' => v = .bool (shownP f level k) ∧ E' = [layC p f, [.int .i64 level]] ∧ L' = [] := by
  refine ct_of impl_Layer_shown_1_ok ?_
  simp [impl_Layer_shown_1_F, impl_Layer_shown_1_M]
  refine calld_pc (layerCount_pc p f hf k hk) (by simp) (by simp) ?_
  simp
  exact ret_pu (by simp) (by simp) (by simp [shownP])
theorem implShown_pc (p : Int) (f : Nat → Nat) (hf : ∀ i, f i < 256) (level : Int) : PC Try.prog 71 [lay p f, .int .i64 level] (.int .u64 (pic 64 (shownP f level))) := by
  refine pc_of impl_Layer_shown_ok (fun ro => ?_)
  simp [impl_Layer_shown_F, impl_Layer_shown_M]
  refine call_s [.l 0, .l 1] (pictureOf_ct (g := 119) (caps := [.ptr (.e 0) 0, .ptr (.e 1) 0]) (E := [layC p f, [.int .i64 level]]) (by kernel_rfl) (by simp) (by simp) (fun i hi ro => shown1_ct p f hf level i hi ro)) (by simp) ?_
  simp
  exact ret_pu (by simp) (by simp) (by simp)

theorem specShown_ct (p : Int) (f : Nat → Nat) (hf : ∀ i, f i < 256) (level : Int) (ro : Bool) : Ct Try.prog ro 68 [.ptr (.e 0) 0, .int .i64 level] [layC p f] fun v E' L' => v = .int .u64 (pic 64 (shownP f level)) ∧ E' = [layC p f] ∧ L' = [] := by
  refine ct_of spec_l01Shown_ok ?_
  simp [spec_l01Shown_F, spec_l01Shown_M]
  refine wp_for 64 (fun k => ⟨[(0, .ptr (.e 0) 0), (1, .int .i64 level), (5, .int .u64 (pic k (shownP f level))), (6, .int .i64 k)], [], [layC p f]⟩) ?_ ?_ ?_
  · simp [pic]
  · intro k hk
    have hk1 : (k : Int) < 64 := by omega
    have hwk : IntKind.i64.wrap ((k : Int) + 1) = k + 1 := wrap_i64 (by omega) (by omega)
    have huk : IntKind.u64.wrap (k : Int) = k := wrap_u64 (by omega) (by omega)
    have huf : IntKind.u64.wrap (f k : Int) = f k := by have := hf k; exact wrap_u64 (by omega) (by omega)
    have hl := pic_lt64 (shownP f level) (n := k) (by omega)
    have h2 : 2 ^ k < 18446744073709551616 := (show 2 ^ k < 2 ^ 64 from Nat.pow_lt_pow_right (by decide) hk)
    have hor : orI .u64 (pic k (shownP f level) : Int) (shlI .u64 1 (k : Int)) = ((pic k (shownP f level) ||| 2 ^ k : Nat) : Int) := by rw [shl64_one hk]; exact or64 hl h2
    simp [spec_l01Shown_L0, hk, hk1, layC_f hk, show 1 + k ≤ 64 by omega, huf]
    refine call_pc (l01Count_pc (f k) (by have := hf k; omega)) (by simp) (by simp) ?_
    by_cases hF : level ≤ cnt 64 (f k)
    · simp [hF, huk, hor, hwk, pic, shownP]
    · simp [hF, hwk, pic, shownP]
  · simp [spec_l01Shown_L0]
    exact ret_pu (by simp) (by simp) (by simp)
end Go.Proofs.Yteidfholicaocaa
