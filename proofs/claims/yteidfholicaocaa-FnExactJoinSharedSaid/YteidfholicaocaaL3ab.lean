/- A part of the proof library: names for blocks of memory, a small form of the code, and rules for walks over it. -/
import Derived.Test.YteidfholicaocaaC5b
set_option linter.all false
namespace Go.Proofs.Yteidfholicaocaa
open Go.Ab
set_option maxHeartbeats 400000

theorem turn_key : ∀ k : Fin 64, IntKind.i64.wrap (IntKind.i64.wrap ((k.val : Int) / 8) + IntKind.i64.wrap (8 * IntKind.i64.wrap (7 - (k.val : Int).tmod 8))) = ((k.val / 8 + 8 * (7 - k.val % 8) : Nat) : Int) := by decide +kernel
theorem mirr_key : ∀ k : Fin 64, IntKind.i64.wrap (IntKind.i64.wrap (7 - (k.val : Int).tmod 8) + IntKind.i64.wrap (8 * IntKind.i64.wrap ((k.val : Int) / 8))) = ((7 - k.val % 8 + 8 * (k.val / 8) : Nat) : Int) := by decide +kernel
theorem tmod_key : ∀ k : Fin 64, (k.val : Int).tmod 8 = ((k.val % 8 : Nat) : Int) ∧ (k.val : Int) / 8 = ((k.val / 8 : Nat) : Int) := by decide +kernel
/-- From where a cell comes. -/
def trn (k : Nat) : Nat := k / 8 + 8 * (7 - k % 8)
def mrr (k : Nat) : Nat := 7 - k % 8 + 8 * (k / 8)
def shIn (k : Nat) (e s : Int) : Prop := (0 ≤ ((k % 8 : Nat) : Int) - e ∧ ((k % 8 : Nat) : Int) - e ≤ 7) ∧ (0 ≤ ((k / 8 : Nat) : Int) - s ∧ ((k / 8 : Nat) : Int) - s ≤ 7)
instance {k : Nat} {e s : Int} : Decidable (shIn k e s) := by unfold shIn; exact inferInstance
def shf (k : Nat) (e s : Int) : Int := if shIn k e s then ((k % 8 : Nat) : Int) - e + 8 * (((k / 8 : Nat) : Int) - s) else -1
theorem shf_in {k : Nat} {e s : Int} (h : shIn k e s) : 0 ≤ shf k e s ∧ shf k e s < 64 := by
  unfold shf; rw [if_pos h]; obtain ⟨h1, h2⟩ := h; omega
theorem shf_out {k : Nat} {e s : Int} (h : ¬ shIn k e s) : shf k e s = -1 := by unfold shf; rw [if_neg h]

theorem turned_pc (k : Nat) (hk : k < 64) : PC Try.prog 103 [.int .i64 k] (.int .i64 (trn k)) := by
  refine pc_of impl_turned_ok (fun ro => ?_)
  simp [impl_turned_F, impl_turned_M]
  exact ret_pu (by simp) (by simp) ⟨by rw [turn_key ⟨k, hk⟩]; rfl, rfl, rfl⟩
theorem l01Cell_pc (x : Int) : PC Try.prog 139 [.int .i64 x] (.bool (decide (0 ≤ x ∧ x ≤ 7))) := by
  refine pc_of spec_l01Cell_ok (fun ro => ?_)
  simp [spec_l01Cell_F, spec_l01Cell_M]
  refine call_pc (l00In_pc x 0 7) (by simp) (by simp) ?_
  simp
  exact ret_pu (by simp) (by simp) (by simp)
theorem sh_parts (k : Nat) (hk : k < 64) (e s : Int) : ∃ a b : Nat, a < 8 ∧ b < 8 ∧ (k : Int).tmod 8 = a ∧ (k : Int) / 8 = b ∧ (shIn k e s ↔ (0 ≤ (a : Int) - e ∧ (a : Int) - e ≤ 7) ∧ (0 ≤ (b : Int) - s ∧ (b : Int) - s ≤ 7)) ∧ (shIn k e s → shf k e s = (a : Int) - e + 8 * ((b : Int) - s)) ∧ (¬ shIn k e s → shf k e s = -1) := by
  obtain ⟨t1, t2⟩ := tmod_key ⟨k, hk⟩
  exact ⟨k % 8, k / 8, Nat.mod_lt _ (by decide), by omega, t1, t2, Iff.rfl, fun h => by unfold shf; rw [if_pos h], shf_out⟩

theorem from0_pc (k : Nat) (hk : k < 64) (e s : Int) : PC Try.prog 98 [.int .i64 k, .int .i64 0, .int .i64 e, .int .i64 s] (.int .i64 (trn k)) := by
  refine pc_of spec_l01From_ok (fun ro => ?_)
  simp [spec_l01From_F, spec_l01From_M]
  exact ret_pu (by simp) (by simp) ⟨by rw [turn_key ⟨k, hk⟩]; rfl, rfl, rfl⟩
theorem from1_pc (k : Nat) (hk : k < 64) (e s : Int) : PC Try.prog 98 [.int .i64 k, .int .i64 1, .int .i64 e, .int .i64 s] (.int .i64 (mrr k)) := by
  refine pc_of spec_l01From_ok (fun ro => ?_)
  simp [spec_l01From_F, spec_l01From_M]
  exact ret_pu (by simp) (by simp) ⟨by rw [mirr_key ⟨k, hk⟩]; rfl, rfl, rfl⟩
theorem from2_pc (k : Nat) (hk : k < 64) (e s : Int) (he : -8 ≤ e ∧ e ≤ 8) (hs : -8 ≤ s ∧ s ≤ 8) : PC Try.prog 98 [.int .i64 k, .int .i64 2, .int .i64 e, .int .i64 s] (.int .i64 (shf k e s)) := by
  obtain ⟨a, b, b1, b2, t1, t2, hi, hv, hv'⟩ := sh_parts k hk e s
  obtain ⟨x, hx⟩ : ∃ x, x = (a : Int) - e := ⟨_, rfl⟩
  obtain ⟨y, hy⟩ : ∃ y, y = (b : Int) - s := ⟨_, rfl⟩
  have w0 : IntKind.i64.wrap ((b : Nat) : Int) = b := wrap_i64 (by omega) (by omega)
  have w1 : IntKind.i64.wrap (((a : Nat) : Int) - e) = x := by rw [hx]; exact wrap_i64 (by omega) (by omega)
  have w2 : IntKind.i64.wrap (((b : Nat) : Int) - s) = y := by rw [hy]; exact wrap_i64 (by omega) (by omega)
  rw [← hx, ← hy] at hi hv
  refine pc_of spec_l01From_ok (fun ro => ?_)
  simp [spec_l01From_F, spec_l01From_M, t1, t2, w0, w1]
  refine call_pc (l01Cell_pc x) (by simp) (by simp) ?_
  by_cases h1 : 0 ≤ x ∧ x ≤ 7
  · simp [h1, w1, w2]
    refine call_pc (l01Cell_pc y) (by simp) (by simp) ?_
    by_cases h2 : 0 ≤ y ∧ y ≤ 7
    · have w3 : IntKind.i64.wrap (8 * y) = 8 * y := wrap_i64 (by omega) (by omega)
      have w4 : IntKind.i64.wrap (x + 8 * y) = x + 8 * y := wrap_i64 (by omega) (by omega)
      simp [h2, w1, w2, w3, w4]
      exact ret_pu (by simp) (by simp) ⟨by rw [hv (hi.2 ⟨h1, h2⟩)], rfl, rfl⟩
    · simp [h2]
      exact ret_pu (by simp) (by simp) ⟨by rw [hv' (fun h => h2 (hi.1 h).2)], rfl, rfl⟩
  · simp [h1]
    exact ret_pu (by simp) (by simp) ⟨by rw [hv' (fun h => h1 (hi.1 h).1)], rfl, rfl⟩

/-- A layer whose cells come from elsewhere; nothing comes from below 0. -/
def crr (f : Nat → Nat) (from_ : Nat → Int) (k : Nat) : Nat := if 0 ≤ from_ k then f (from_ k).toNat else 0
theorem carried_ct (p : Int) (f : Nat → Nat) (kind e s : Int) (fr : Nat → Int) (hfr : ∀ k, k < 64 → fr k < 64) (h : ∀ k : Nat, k < 64 → PC Try.prog 98 [.int .i64 k, .int .i64 kind, .int .i64 e, .int .i64 s] (.int .i64 (fr k))) (ro : Bool) :
    Ct Try.prog ro 47 [.ptr (.e 0) 0, .int .i64 kind, .int .i64 e, .int .i64 s] [layC p f] fun v E' L' => v = lay p (crr f fr) ∧ E' = [layC p f] ∧ L' = [] := by
  refine ct_of spec_l01Carried_ok ?_
  simp [spec_l01Carried_F, spec_l01Carried_M, layC_zero]
  refine wp_for 64 (fun k => ⟨[(0, .ptr (.e 0) 0), (1, .int .i64 kind), (2, .int .i64 e), (3, .int .i64 s), (8, .ptr (.l 0) 0), (9, .ptr (.l 1) 0), (10, .int .i64 k)], [layC 0 fun _ => 0, layC p fun i => if i < k then crr f fr i else 0], [layC p f]⟩) ?_ ?_ ?_
  · simp
  · intro k hk
    have hk1 : (k : Int) < 64 := by omega
    have hwk : IntKind.i64.wrap ((k : Int) + 1) = k + 1 := wrap_i64 (by omega) (by omega)
    have hf1 := hfr k hk
    simp [spec_l01Carried_L0, hk1]
    refine call_pc (h k hk) (by simp) (by simp) ?_
    by_cases h0 : 0 ≤ fr k
    · obtain ⟨m, hm⟩ := Int.eq_ofNat_of_zero_le h0
      have hcr : crr f fr k = f m := by unfold crr; rw [if_pos h0, hm]; rfl
      have hm1 : m < 64 := by omega
      have hm2 : (m : Int) < 64 := by omega
      rw [hm]
      simp [hm1, hm2, hk1, layC_f hm1, show 1 + m ≤ 64 by omega, show 1 + k ≤ 64 by omega, layC_set, hwk]
      exact layC_congr fun i _ => by by_cases h : i = k <;> by_cases h2 : i < k <;> simp [h, h2, hcr] <;> omega
    · have hcr : crr f fr k = 0 := by unfold crr; rw [if_neg h0]
      simp [h0, hwk]
      exact layC_congr fun i _ => by by_cases h : i = k <;> by_cases h2 : i < k <;> simp [h, h2, hcr] <;> omega
  · simp [spec_l01Carried_L0]
    rw [show layC p (fun i => if i < 64 then crr f fr i else 0) = layC p (crr f fr) from layC_congr fun i hi => by simp [hi]]
    exact ret_pu (by simp) (by simp) (by simp)

theorem changed_ct {g : FuncId} {caps : List V} {E : List (List V)} {p : Int} {f G : Nat → Nat} (hp : -128 ≤ p ∧ p < 128) (hf : ∀ i, f i < 256) (hg : hasBody Try.prog g = true) (hE : ∀ c ∈ E, puL c) (hc : eoL E.length caps) (h : ∀ i : Nat, i < 64 → ∀ ro, Ct Try.prog ro g (.int .i64 i :: caps) E fun v E' L' => v = .int .u8 (G i) ∧ E' = E ∧ L' = []) (ro : Bool) :
    Ct Try.prog ro 101 [lay p f, .fn g [] caps] E fun v E' L' => v = (if lok p f = true then .tup [lay p G, .int .i64 0] else .tup [lay 0 fun _ => 0, .int .i64 1]) ∧ E' = E ∧ L' = [] := by
  refine ct_of impl_changed_ok ?_
  simp [impl_changed_F, impl_changed_M, layC_zero]
  refine call_pc (implValidLayer_pc p f hp hf) (by simp) (by simp) ?_
  by_cases hl : lok p f = true
  · simp [hl]
    refine call_all (each_ct (p := p) (f := f) hg hE hc h) ?_ hE (by simpa using hc) (by simp) ?_
    · rfl
    simp
    exact ret_pu (by simp) hE ⟨by simp [hl], rfl, rfl⟩
  · have hl : lok p f = false := by simpa using hl
    simp [hl, layC_zero]
    exact ret_pu (by simp) hE ⟨by simp [hl], rfl, rfl⟩

end Go.Proofs.Yteidfholicaocaa
