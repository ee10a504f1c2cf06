/- A part of the proof library: names for blocks of memory, a small form of the code, and rules for walks over it. -/
import Derived.Test.YtpajbcifaicpoaaDoorZ6g
import Derived.Test.YtpajbcifaicpoaaDoorC3g
import Derived.Test.YtpajbcifaicpoaaDoorC2g
set_option linter.all false
namespace Go.Proofs.YtpajbcifaicpoaaDoor
open Go.Ab Go.RowKit Go.Shelf
set_option linter.all false
set_option maxHeartbeats 800000

theorem cn_below {ro : Bool} {W w w' : World} {r : Rho} {E : List (List V)} (h : Cn ro W r (mE E []) w) (hB : Below w.heap.size w w') : Cn ro W r (mE E []) w' := by
  refine ⟨h.nm, ?_, ?_, h.ed, h.ld, h.elt, h.lge, ?_, Nat.le_trans h.size hB.size, hB.os.trans h.os, hB.tape.trans h.tape, hB.output.trans h.output⟩
  · intro j cs' hj
    obtain ⟨b, us, vs, ty', fr, h1, h2, h3, h4⟩ := h.eb j cs' hj
    exact ⟨b, us, vs, ty', fr, h1, by rw [hB.block b (h.lt_size (n := .e j) h1)]; exact h2, h3, h4⟩
  · intro j cs' hj
    simp [mE] at hj
  · intro b hb hn
    rw [hB.block b (Nat.lt_of_lt_of_le hb h.size)]
    exact h.frame b hb hn
theorem layerText_pc (p : Nat) (hp : p ≤ 8) (f : Nat → Nat) (hf : ∀ i, f i < 256) : PC Tryd.prog 25 [lay p f] (.str ⟨(ltx p f 64).toArray⟩) := by
  intro ro W r w0 xs hr hC hxs
  simp only [RL, V.R] at hxs
  obtain ⟨x, ys, rfl, ⟨us, rfl, hus, _⟩, rfl⟩ := hxs
  have hlen := hus.length
  rw [layC_len] at hlen
  have hget : ∀ i v, (layC p f)[i]? = some v → ∃ y, us[i]? = some y ∧ V.R r v y := fun i v hv => hus.get hv
  obtain ⟨y0, a0, e0⟩ := hget 0 (.int .i8 p) rfl
  rw [V.R_int] at e0
  subst e0
  refine (layerText_in p hp f hf (List.toArray us) (by simp; omega) (by simpa using a0) (fun i hi => ?_) w0).mono ?_
  · obtain ⟨y, a, e⟩ := hget (1 + i) _ (layC_f hi)
    rw [V.R_int] at e; subst e
    simpa using a
  · rintro e w' ⟨rfl, hB⟩
    exact ⟨_, r, .str ⟨(ltx p f 64).toArray⟩, [], [], rfl, rfl, ⟨rfl, rfl, rfl⟩, by simp only [V.R], cn_below hC hB⟩

theorem layerText_both (p : Int) (f : Nat → Nat) (hp : -128 ≤ p ∧ p < 128) (hf : ∀ i, f i < 256) :
    ∃ t, PC Tryd.prog 7 [lay p f] (.str t) ∧ PC Tryd.prog 9 [lay p f] (.str t) := by
  have k1 := l01Ok_ct p f hp hf
  have k2 := implValidLayer_pc p f hp hf
  cases hok : lok p f
  · rw [hok] at k1 k2
    refine ⟨⟨[].toArray⟩, ?_, ?_⟩
    · refine pc_of spec_LayerText_ok (fun ro => ?_)
      simp [spec_LayerText_F, spec_LayerText_M]
      refine call_s [.l 0] k1 (by simp) ?_
      simp
      exact ret_pu (by simp) (by simp) (by simp)
    · refine pc_of impl_LayerText_ok (fun ro => ?_)
      simp [impl_LayerText_F, impl_LayerText_M]
      refine call_pc k2 (by simp) (by simp) ?_
      simp
      exact ret_pu (by simp) (by simp) (by simp)
  · rw [hok] at k1 k2
    obtain ⟨h1, _⟩ := lok_iff.1 hok
    obtain ⟨q, rfl⟩ := Int.eq_ofNat_of_zero_le (show 0 ≤ p by omega)
    have k3 := l01Text_ct q f (by omega) hf
    have k4 := layerText_pc q (by omega) f hf
    refine ⟨⟨(ltx q f 64).toArray⟩, ?_, ?_⟩
    · generalize (⟨(ltx q f 64).toArray⟩ : ByteArray) = t at *
      refine pc_of spec_LayerText_ok (fun ro => ?_)
      simp [spec_LayerText_F, spec_LayerText_M]
      refine call_s [.l 0] k1 (by simp) ?_
      simp
      refine call_s [.l 0] k3 (by simp) ?_
      simp
      exact ret_pu (by simp) (by simp) (by simp)
    · generalize (⟨(ltx q f 64).toArray⟩ : ByteArray) = t at *
      refine pc_of impl_LayerText_ok (fun ro => ?_)
      simp [impl_LayerText_F, impl_LayerText_M]
      refine call_pc k2 (by simp) (by simp) ?_
      simp
      refine call_pc k4 (by simp) (by simp) ?_
      simp
      exact ret_pu (by simp) (by simp) (by simp)
theorem lawLayerText (p : Int) (f : Nat → Nat) (hp : -128 ≤ p ∧ p < 128) (hf : ∀ i, f i < 256) : PC Tryd.prog 3 [lay p f] (.bool true) := by
  obtain ⟨t, h1, h2⟩ := layerText_both p f hp hf
  refine pc_of laws_FnExactLayerText_ok (fun ro => ?_)
  simp [laws_FnExactLayerText_F, laws_FnExactLayerText_M]
  refine call_pc (toLayer_pc p f) (by simp) (by simp) ?_
  simp
  refine call_pc h1 (by simp) (by simp) ?_
  simp
  refine call_pc (toLayer_pc p f) (by simp) (by simp) ?_
  simp
  refine call_pc h2 (by simp) (by simp) ?_
  simp
  exact ret_pu (by simp) (by simp) (by simp)
end Go.Proofs.YtpajbcifaicpoaaDoor
