/- A part of the proof library: names for blocks of memory, a small form of the code, and rules for walks over it. -/
import Derived.Test.YtpajbcifaicpoaaZ2f
import Derived.Test.YtpajbcifaicpoaaC3f
import Derived.Test.YtpajbcifaicpoaaC2f
import Derived.Test.YtpajbcifaicpoaaAb32
set_option linter.all false
namespace Go.Proofs.Ytpajbcifaicpoaa
open Go.Ab Go.RowKit Go.Shelf
set_option linter.all false
set_option maxHeartbeats 800000

theorem cn_below {ro : Bool} {W w w' : World} {r : Rho} {E : List (List V)} (h : Cn ro W r (mE E []) w) (hB : Below w.heap.size w w') : Cn ro W r (mE E []) w' := by
  refine ⟨h.nm, ?_, ?_, h.ed, h.ld, h.elt, h.lge, ?_, Nat.le_trans h.size hB.size, hB.os.trans h.os, hB.tape.trans h.tape, hB.output.trans h.output⟩
  · intro j cs' hj
    obtain ⟨b, us, vs, ty', fr, h1, h2, h3, h4⟩ := h.eb j cs' hj
    exact ⟨b, us, vs, ty', fr, h1, by rw [hB.block b (h.lt_size (n := .e j) h1)]; exact h2, h3, h4⟩
  · intro j cs' hj
    simp [mE] at hj
  · intro b hb hn
    rw [hB.block b (Nat.lt_of_lt_of_le hb h.size)]
    exact h.frame b hb hn
theorem schemeText_pc (m p : Nat) (hm : m ≤ 6) (hp : p ≤ 8) (w b : Nat → Nat) (hw : ∀ i, w i < 256) (hb : ∀ i, b i < 256) : PC Try.prog 15 [sch m p w b] (.str ⟨(txt p w b m).toArray⟩) := by
  intro ro W r w0 xs hr hC hxs
  simp only [RL, V.R] at hxs
  obtain ⟨x, ys, rfl, ⟨us, rfl, hus, _⟩, rfl⟩ := hxs
  have hlen := hus.length
  rw [schC_len] at hlen
  have hget : ∀ i v, (schC m p w b)[i]? = some v → ∃ y, us[i]? = some y ∧ V.R r v y := fun i v hv => hus.get hv
  obtain ⟨y0, a0, e0⟩ := hget 0 (.int .i8 m) rfl
  obtain ⟨y1, a1, e1⟩ := hget 1 (.int .i8 p) rfl
  rw [V.R_int] at e0 e1
  subst e0; subst e1
  refine (schemeText_in m p hm hp w b hw hb (List.toArray us) (by simp; omega) (by simpa using a0) (by simpa using a1) (fun i hi => ?_) (fun i hi => ?_) w0).mono ?_
  · obtain ⟨y, a, e⟩ := hget (2 + i) _ (schC_w hi)
    rw [V.R_int] at e; subst e
    simpa using a
  · obtain ⟨y, a, e⟩ := hget (8 + i) _ (schC_b hi)
    rw [V.R_int] at e; subst e
    simpa using a
  · rintro e w' ⟨rfl, hB⟩
    exact ⟨_, r, .str ⟨(txt p w b m).toArray⟩, [], [], rfl, rfl, ⟨rfl, rfl, rfl⟩, by simp only [V.R], cn_below hC hB⟩

@[simp] theorem ba_app (a b : List UInt8) : (⟨a.toArray⟩ : ByteArray) ++ ⟨b.toArray⟩ = ⟨(a ++ b).toArray⟩ := by
  apply ByteArray.ext
  simp
theorem ba_size (a : List UInt8) : (⟨a.toArray⟩ : ByteArray).size = a.length := by simp [ByteArray.size]

theorem l02Marks_pc (x p : Nat) (hx : x < 256) (hp : p ≤ 8) : PC Try.prog 24 [.int .u8 x, .int .i8 p] (.str ⟨(mks x p).toArray⟩) := by
  refine pc_of spec_l02Marks_ok (fun ro => ?_)
  have hw1 : IntKind.i64.wrap (p : Int) = p := wrap_i64 (by omega) (by omega)
  simp [spec_l02Marks_F, spec_l02Marks_M]
  refine wp_for p (fun k => ⟨[(0, .int .u8 x), (1, .int .i8 p), (5, .str ⟨(mks x k).toArray⟩), (6, .int .i64 k)], [], []⟩) ?_ ?_ ?_
  · simp [mks]
  · intro k hk
    have hk1 : (k : Int) < p := by omega
    have hwk : IntKind.i64.wrap ((k : Int) + 1) = k + 1 := wrap_i64 (by omega) (by omega)
    have hwu : IntKind.u64.wrap (k : Int) = k := wrap_u64 (by omega) (by omega)
    have hl := mks_len x k
    have hno : ¬ (9223372036854775807 < (k : Int) + 1) := by omega
    cases hb : x.testBit k
    · have hbit := bit8_f hx hb
      simp [spec_l02Marks_L0, hw1, hk1, hwu, hbit, ba_size, hl, hwk, hno]
      simp [mks, hb]
    · have hbit := bit8_t hx hb
      simp [spec_l02Marks_L0, hw1, hk1, hwu, hbit, ba_size, hl, hwk, hno]
      simp [mks, hb]
  · simp [spec_l02Marks_L0, hw1]
    exact ret_pu (by simp) (by simp) (by simp)
theorem l02Text_ct (m p : Nat) (hm : m ≤ 6) (hp : p ≤ 8) (w b : Nat → Nat) (hw : ∀ i, w i < 256) (hb : ∀ i, b i < 256) (ro : Bool) : Ct Try.prog ro 12 [.ptr (.e 0) 0] [schC m p w b] fun v E' L' => v = .str ⟨(txt p w b m).toArray⟩ ∧ E' = [schC m p w b] ∧ L' = [] := by
  refine ct_of spec_l02Text_ok ?_
  have hw1 : IntKind.i64.wrap (m : Int) = m := wrap_i64 (by omega) (by omega)
  simp [spec_l02Text_F, spec_l02Text_M]
  refine wp_for m (fun k => ⟨[(0, .ptr (.e 0) 0), (3, .str ⟨(txt p w b k).toArray⟩), (4, .int .i64 k)], [], [schC m p w b]⟩) ?_ ?_ ?_
  · simp [txt]
  · intro k hk
    have hk1 : (k : Int) < m := by omega
    have hk6 : k < 6 := by omega
    have hk61 : (k : Int) < 6 := by omega
    have hwk : IntKind.i64.wrap ((k : Int) + 1) = k + 1 := wrap_i64 (by omega) (by omega)
    have k1 := l02Marks_pc (w k) p (hw k) hp
    have k2 := l02Marks_pc (b k) p (hb k) hp
    have l1 := mks_len (w k) p
    have l2 := mks_len (b k) p
    have l3 := txt_len p w b k
    have hkm : k * (2 * p + 2) ≤ 6 * 18 := Nat.mul_le_mul (by omega) (by omega)
    have hnx : txt p w b (k + 1) = txt p w b k ++ mks (w k) p ++ [32] ++ mks (b k) p ++ [10] := rfl
    rw [hnx]
    generalize mks (w k) p = A at *
    generalize mks (b k) p = B at *
    generalize txt p w b k = T at *
    have hT : T.length ≤ 108 := by omega
    simp [spec_l02Text_L0, hw1, hk1, hk6, hk61, schC_w hk6, schC_b hk6, show 2 + k ≤ 13 by omega, show 8 + k ≤ 13 by omega]
    refine calld_pc k1 (by simp) (by simp) ?_
    simp [ba_size, l1, hk6, hk61, schC_w hk6, schC_b hk6, show ¬ (9223372036854775807 < (p : Int) + 1) by omega, show 8 + k ≤ 13 by omega]
    refine calld_pc k2 (by simp) (by simp) ?_
    simp [ba_size, l1, l2, hwk, show ¬ (9223372036854775807 < (p : Int) + 1 + p) by omega, show ¬ (9223372036854775807 < (p : Int) + (p + 1) + 1) by omega, show ¬ (9223372036854775807 < (T.length : Int) + (p + (p + 1 + 1))) by omega]
  · simp [spec_l02Text_L0, hw1]
    exact ret_pu (by simp) (by simp) (by simp)
theorem schemeText_both (s p : Int) (w b : Nat → Nat) (hs : -128 ≤ s ∧ s < 128) (hp : -128 ≤ p ∧ p < 128) (hw : ∀ i, w i < 256) (hb : ∀ i, b i < 256) :
    ∃ t, PC Try.prog 5 [sch s p w b] (.str t) ∧ PC Try.prog 7 [sch s p w b] (.str t) := by
  have k1 := l02Ok_ct s p w b hs hp hw hb
  have k2 := implValidScheme_pc s p w b hs hp hw hb
  cases hok : sok s p w b
  · rw [hok] at k1 k2
    refine ⟨⟨[].toArray⟩, ?_, ?_⟩
    · refine pc_of spec_SchemeText_ok (fun ro => ?_)
      simp [spec_SchemeText_F, spec_SchemeText_M]
      refine call_s [.l 0] k1 (by simp) ?_
      simp
      exact ret_pu (by simp) (by simp) (by simp)
    · refine pc_of impl_SchemeText_ok (fun ro => ?_)
      simp [impl_SchemeText_F, impl_SchemeText_M]
      refine call_pc k2 (by simp) (by simp) ?_
      simp
      exact ret_pu (by simp) (by simp) (by simp)
  · rw [hok] at k1 k2
    obtain ⟨h1, h2, _⟩ := sok_iff.1 hok
    obtain ⟨m, rfl⟩ := Int.eq_ofNat_of_zero_le (show 0 ≤ s by omega)
    obtain ⟨q, rfl⟩ := Int.eq_ofNat_of_zero_le (show 0 ≤ p by omega)
    have k3 := l02Text_ct m q (by omega) (by omega) w b hw hb
    have k4 := schemeText_pc m q (by omega) (by omega) w b hw hb
    refine ⟨⟨(txt q w b m).toArray⟩, ?_, ?_⟩
    · generalize (⟨(txt q w b m).toArray⟩ : ByteArray) = t at *
      refine pc_of spec_SchemeText_ok (fun ro => ?_)
      simp [spec_SchemeText_F, spec_SchemeText_M]
      refine call_s [.l 0] k1 (by simp) ?_
      simp
      refine call_s [.l 0] k3 (by simp) ?_
      simp
      exact ret_pu (by simp) (by simp) (by simp)
    · generalize (⟨(txt q w b m).toArray⟩ : ByteArray) = t at *
      refine pc_of impl_SchemeText_ok (fun ro => ?_)
      simp [impl_SchemeText_F, impl_SchemeText_M]
      refine call_pc k2 (by simp) (by simp) ?_
      simp
      refine call_pc k4 (by simp) (by simp) ?_
      simp
      exact ret_pu (by simp) (by simp) (by simp)
theorem lawSchemeText (s p : Int) (w b : Nat → Nat) (hs : -128 ≤ s ∧ s < 128) (hp : -128 ≤ p ∧ p < 128) (hw : ∀ i, w i < 256) (hb : ∀ i, b i < 256) : PC Try.prog 3 [sch s p w b] (.bool true) := by
  obtain ⟨t, h1, h2⟩ := schemeText_both s p w b hs hp hw hb
  refine pc_of laws_FnExactSchemeText_ok (fun ro => ?_)
  simp [laws_FnExactSchemeText_F, laws_FnExactSchemeText_M]
  refine call_pc (toScheme_pc s p w b) (by simp) (by simp) ?_
  simp
  refine call_pc h1 (by simp) (by simp) ?_
  simp
  refine call_pc (toScheme_pc s p w b) (by simp) (by simp) ?_
  simp
  refine call_pc h2 (by simp) (by simp) ?_
  simp
  exact ret_pu (by simp) (by simp) (by simp)
end Go.Proofs.Ytpajbcifaicpoaa
