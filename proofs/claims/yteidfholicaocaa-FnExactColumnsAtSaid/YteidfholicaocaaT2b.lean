/- A part of the proof library: names for blocks of memory, a small form of the code, and rules for walks over it. -/
import Derived.Test.YteidfholicaocaaT1b
import Derived.Test.YteidfholicaocaaO3b
set_option linter.all false
namespace Go.Proofs.Yteidfholicaocaa
open Go.Ab
set_option maxHeartbeats 800000

theorem l01OkO_ct (off : Nat) (cs : List V) (p : Int) (f : Nat → Nat) (hp : -128 ≤ p ∧ p < 128) (hf : ∀ i, f i < 256) (h0 : cs[off]? = some (.int .i8 p)) (hk' : ∀ k, k < 64 → cs[off + (1 + k)]? = some (.int .u8 (f k))) (hpu : puL cs) (ro : Bool) : Ct Try.prog ro 105 [.ptr (.e 0) off] [cs] (fun v E' L' => v = .bool (lok p f) ∧ E' = [cs] ∧ L' = []) := by
  refine ct_of spec_l01Ok_ok ?_
  have hw : IntKind.i64.wrap p = p := wrap_i64 (by omega) (by omega)
  simp [spec_l01Ok_F, spec_l01Ok_M]
  simp [h0, hw]
  refine call_pc (l01Parts_pc p) (by simp) (by simp) ?_
  by_cases h1 : 1 ≤ p ∧ p ≤ 8
  · simp [h1]
    have hu : IntKind.u64.wrap p = p := wrap_u64 (by omega) (by omega)
    obtain ⟨q, rfl⟩ := Int.eq_ofNat_of_zero_le (show 0 ≤ p by omega)
    have hk0 : ∀ k, shrI .u8 (f k : Int) (q : Int) = ((f k / 2 ^ q : Nat) : Int) := fun k => shr8 (hf k)
    refine wp_forR 64 (fun k => ⟨[(0, .ptr (.e 0) off), (3, .int .i64 k)], [], [cs]⟩) (fun k => f k < 2 ^ q) ?_ ?_ ?_
    · intro k hk hg
      have hk1 : (k : Int) < 64 := by omega
      have hwk : IntKind.i64.wrap ((k : Int) + 1) = k + 1 := wrap_i64 (by omega) (by omega)
      have hkk := hk' k hk
      rw [← Nat.add_assoc] at hkk
      have hd := hk0 k
      rw [Nat.div_eq_of_lt hg] at hd
      simp [spec_l01Ok_L0, hk1, hk]
      simp [hkk, h0, hu]
      simp [hd]
      exact hwk
    · intro k hk hg hb
      have hk1 : (k : Int) < 64 := by omega
      have hkk := hk' k hk
      rw [← Nat.add_assoc] at hkk
      have hd := hk0 k
      have hne : ¬ f k / 2 ^ q = 0 := by
        have : 0 < f k / 2 ^ q := Nat.div_pos (by omega) (Nat.pow_pos (by decide))
        omega
      generalize f k / 2 ^ q = d at *
      simp [spec_l01Ok_L0, hk1, hk]
      simp [hkk, h0, hu]
      simp [hd, hne]
      exact ret_pu (by simp) (by simpa using hpu) ⟨by rw [eq_comm, V.bool.injEq]; simp [lok, LOk, h1]; exact ⟨k, hk, by omega⟩, rfl, rfl⟩
    · intro hall
      simp [spec_l01Ok_L0]
      exact ret_pu (by simp) (by simpa using hpu) (by simp [lok, LOk, h1]; exact hall)
  · simp [h1]; exact ret_pu (by simp) (by simpa using hpu) (by simp [lok, LOk, h1])

theorem lays_pE {n : Nat} {P : Nat → Int} {F : Nat → Nat → Nat} {k : Nat} (hk : k < n) (h : k * 65 < (lays n P F).length) : (lays n P F)[k * 65]'h = .int .i8 (P k) := by
  have := lays_p (P := P) (F := F) hk
  rw [List.getElem?_eq_getElem h] at this; exact Option.some.inj this

theorem l01All_ct (n : Nat) (hn : n ≤ 1048576) (P : Nat → Int) (F : Nat → Nat → Nat) (hP : ∀ i, -128 ≤ P i ∧ P i < 128) (hF : ∀ i j, F i j < 256) (ro : Bool) : Ct Try.prog ro 52 [.slx (.e 0) 0 n] [lays n P F] fun v E' L' => v = .bool (allLokB n P F) ∧ E' = [lays n P F] ∧ L' = [] := by
  refine ct_of spec_l01All_ok ?_
  simp [spec_l01All_F, spec_l01All_M]
  refine wp_forR n (fun k => ⟨[(0, .slx (.e 0) 0 n), (3, .int .i64 k)], [], [lays n P F]⟩) (fun k => lok (P k) (F k) = true) ?_ ?_ ?_
  · intro k hk hg
    have hk1 : (k : Int) < n := by omega
    have hwk : IntKind.i64.wrap ((k : Int) + 1) = k + 1 := wrap_i64 (by omega) (by omega)
    have hcall := l01OkO_ct (k * 65) (lays n P F) (P k) (F k) (hP k) (hF k) (lays_p hk) (fun j hj => lays_f hk hj) (by simp)
    rw [hg] at hcall
    simp [spec_l01All_L0, hk1, hk]
    refine call_s [.e 0] hcall (by simp) ?_
    simp [hwk]
  · intro k hk hg _
    have hk1 : (k : Int) < n := by omega
    have hcall := l01OkO_ct (k * 65) (lays n P F) (P k) (F k) (hP k) (hF k) (lays_p hk) (fun j hj => lays_f hk hj) (by simp)
    have hg' : lok (P k) (F k) = false := by simpa using hg
    rw [hg'] at hcall
    simp [spec_l01All_L0, hk1, hk]
    refine call_s [.e 0] hcall (by simp) ?_
    simp
    exact ret_pu (by simp) (by simp) ⟨by rw [Bool.eq_false_iff.2 fun h => hg (allLokB_iff.1 h k hk)], rfl, rfl⟩
  · intro hall
    simp [spec_l01All_L0]
    exact ret_pu (by simp) (by simp) ⟨by rw [allLokB_iff.2 hall], rfl, rfl⟩

theorem areLayersX_ct (n : Nat) (P : Nat → Int) (F : Nat → Nat → Nat) (hn : n < 100000000) (hP : ∀ i, -128 ≤ P i ∧ P i < 128) (hF : ∀ i j, F i j < 256) (ro : Bool) : Ct Try.prog ro 54 [.slx (.e 0) 0 n] [lays n P F] fun v E' L' => v = .bool (allLokB n P F) ∧ E' = [lays n P F] ∧ L' = [] := by
  refine ct_of impl_areLayers_ok ?_
  simp [impl_areLayers_F, impl_areLayers_M, layC_zero]
  refine wp_forR n (fun k => ⟨[(5, .slx (.e 0) 0 n), (6, .int .i64 n), (7, .int .i64 k)], [], [lays n P F]⟩) (fun k => lok (P k) (F k) = true) ?_ ?_ ?_
  · intro k hk hg
    have hk1 : (k : Int) < n := by omega
    have hwk : IntKind.i64.wrap ((k : Int) + 1) = k + 1 := wrap_i64 (by omega) (by omega)
    have hle : k * 65 + 65 ≤ n * 65 := by omega
    simp [impl_areLayers_L0, hk1, hk, hle, lays_at hk, layC_zero]
    refine call_pc (implValidLayer_pc (P k) (F k) (hP k) (hF k)) (by simp) (by simp) ?_
    simp [hg, hwk]
  · intro k hk hg hb
    have hk1 : (k : Int) < n := by omega
    have hle : k * 65 + 65 ≤ n * 65 := by omega
    have hg' : lok (P k) (F k) = false := by simpa using hg
    simp [impl_areLayers_L0, hk1, hk, hle, lays_at hk, layC_zero]
    refine call_pc (implValidLayer_pc (P k) (F k) (hP k) (hF k)) (by simp) (by simp) ?_
    simp [hg']
    exact ret_pu (by simp) (by simp) ⟨by rw [Bool.eq_false_iff.2 fun h => hg (allLokB_iff.1 h k hk)], rfl, rfl⟩
  · intro hall
    simp [impl_areLayers_L0]
    exact ret_pu (by simp) (by simp) ⟨by rw [allLokB_iff.2 hall], rfl, rfl⟩

open Classical in
/-- All have so many parts. -/
noncomputable def sameP (n : Nat) (P : Nat → Int) (q : Int) : Bool := decide (∀ i, i < n → P i = q)
theorem sameP_iff {n : Nat} {P : Nat → Int} {q : Int} : sameP n P q = true ↔ ∀ i, i < n → P i = q := by simp [sameP]

theorem haveParts_ct (n : Nat) (hn : n ≤ 1048576) (P : Nat → Int) (F : Nat → Nat → Nat) (q : Int) (ro : Bool) : Ct Try.prog ro 100 [.slx (.e 0) 0 n, .int .i8 q] [lays n P F] fun v E' L' => v = .bool (sameP n P q) ∧ E' = [lays n P F] ∧ L' = [] := by
  refine ct_of impl_haveParts_ok ?_
  simp [impl_haveParts_F, impl_haveParts_M, layC_zero]
  refine wp_forR n (fun k => ⟨[(1, .int .i8 q), (7, .slx (.e 0) 0 n), (8, .int .i64 n), (9, .int .i64 k)], [], [lays n P F]⟩) (fun k => P k = q) ?_ ?_ ?_
  · intro k hk hg
    have hk1 : (k : Int) < n := by omega
    have hwk : IntKind.i64.wrap ((k : Int) + 1) = k + 1 := wrap_i64 (by omega) (by omega)
    have hle : k * 65 + 65 ≤ n * 65 := by omega
    simp [impl_haveParts_L0, hk1, hk, hle, lays_at hk, layC_zero]
    simp [hg, hwk]
  · intro k hk hg _
    have hk1 : (k : Int) < n := by omega
    have hle : k * 65 + 65 ≤ n * 65 := by omega
    have hno : sameP n P q = false := Bool.eq_false_iff.2 fun h => hg (sameP_iff.1 h k hk)
    rw [hno]
    simp [impl_haveParts_L0, hk1, hk, hle, lays_at hk, layC_zero]
    simp [hg]
    exact ret_pu (by simp) (by simp) (by simp)
  · intro hall
    rw [sameP_iff.2 hall]
    simp [impl_haveParts_L0]
    exact ret_pu (by simp) (by simp) (by simp)

open Classical in
/-- The code of layers. -/
noncomputable def lCode (n : Nat) (P : Nat → Int) (F : Nat → Nat → Nat) : Int := if allLokB n P F = true then (if 1 ≤ n ∧ n ≤ 8 then (if sameP n P (P 0) = true then 0 else 4) else 2) else 1

theorem layersCode_ct (n : Nat) (hn : n ≤ 1048576) (P : Nat → Int) (F : Nat → Nat → Nat) (hP : ∀ i, -128 ≤ P i ∧ P i < 128) (hF : ∀ i j, F i j < 256) (ro : Bool) : Ct Try.prog ro 49 [.slx (.e 0) 0 n] [lays n P F] fun v E' L' => v = .int .i64 (lCode n P F) ∧ E' = [lays n P F] ∧ L' = [] := by
  have k1 := areLayersX_ct n P F (by omega) hP hF
  have k2 := within_pc (n : Int) 1 8
  have k3 := haveParts_ct n hn P F (P 0)
  have hd : decide (1 ≤ (n : Int) ∧ (n : Int) ≤ 8) = decide (1 ≤ n ∧ n ≤ 8) := by congr 1; exact propext ⟨fun h => by omega, fun h => by omega⟩
  rw [hd] at k2
  have hl : lCode n P F = (if allLokB n P F = true then (if decide (1 ≤ n ∧ n ≤ 8) = true then (if sameP n P (P 0) = true then 0 else 4) else 2) else 1) := by simp [lCode]
  rw [hl]
  by_cases h0 : n = 0
  · subst h0
    rw [show decide (1 ≤ 0 ∧ 0 ≤ 8) = false by decide] at *
    generalize allLokB 0 P F = a at *
    refine ct_of impl_layersCode_ok ?_
    simp [impl_layersCode_F, impl_layersCode_M]
    refine call_s [.e 0] k1 (by simp) ?_
    simp
    refine call_pc k2 (by simp) (by simp) ?_
    simp [zrow_f3, fc_three]
    refine call_s [.l 0] (first3_ct (!a) true false 1 2 4) (by simp) ?_
    simp
    exact ret_pu (by simp) (by simp) (by cases a <;> simp)
  · have h1 : (0 : Int) < n := by omega
    have h2 : 0 < n := by omega
    have hp0 := lays_p (P := P) (F := F) h2
    rw [Nat.zero_mul] at hp0
    have hp0E : ∀ h, (lays n P F)[0]'h = .int .i8 (P 0) := fun h => by rw [List.getElem?_eq_getElem h] at hp0; exact Option.some.inj hp0
    generalize decide (1 ≤ n ∧ n ≤ 8) = b8 at *
    generalize allLokB n P F = a at *
    generalize sameP n P (P 0) = s3 at *
    refine ct_of impl_layersCode_ok ?_
    simp [impl_layersCode_F, impl_layersCode_M]
    refine call_s [.e 0] k1 (by simp) ?_
    simp
    refine call_pc k2 (by simp) (by simp) ?_
    simp [h1, h2, hp0E]
    refine call_s [.e 0] k3 (by simp) ?_
    simp [zrow_f3, fc_three]
    refine call_s [.l 0] (first3_ct (!a) (!b8) (!s3) 1 2 4) (by simp) ?_
    simp
    exact ret_pu (by simp) (by simp) (by cases a <;> cases b8 <;> cases s3 <;> simp)

/-- The parts of the first k on one cell. -/
def stkB (F : Nat → Nat → Nat) (j : Nat) : Nat → Nat
  | 0 => 0
  | k + 1 => stkB F j k ||| F k j
theorem stkB_lt {F : Nat → Nat → Nat} (hF : ∀ i j, F i j < 256) (j : Nat) : ∀ k, stkB F j k < 256
  | 0 => by simp [stkB]
  | k + 1 => or_lt8 (stkB_lt hF j k) (hF k j)

theorem stack1_ct (n : Nat) (hn : n ≤ 1048576) (P : Nat → Int) (F : Nat → Nat → Nat) (hF : ∀ i j, F i j < 256) (j : Nat) (hj : j < 64) (ro : Bool) : Ct Try.prog ro 142 [.int .i64 j, .ptr (.e 0) 0] [[.slx (.e 1) 0 n], lays n P F] fun v E' L' => v = .int .u8 (stkB F j n) ∧ E' = [[.slx (.e 1) 0 n], lays n P F] ∧ L' = [] := by
  have hj1 : (j : Int) < 64 := by omega
  refine ct_of impl_stack_1_ok ?_
  simp [impl_stack_1_F, impl_stack_1_M]
  refine wp_for n (fun k => ⟨[(0, .int .i64 j), (4, .int .u8 (stkB F j k)), (7, .slx (.e 1) 0 n), (8, .int .i64 n), (9, .int .i64 k)], [], [[.slx (.e 1) 0 n], lays n P F]⟩) ?_ ?_ ?_
  · simp [stkB]
  · intro k hk
    have hk1 : (k : Int) < n := by omega
    have hwk : IntKind.i64.wrap ((k : Int) + 1) = k + 1 := wrap_i64 (by omega) (by omega)
    have hle : k * 65 + 65 ≤ n * 65 := by omega
    have hor := or8 (stkB_lt hF j k) (hF k j)
    have hnext : stkB F j (k + 1) = stkB F j k ||| F k j := rfl
    rw [hnext]
    simp [impl_stack_1_L0, hk1, hk, hle, lays_at hk, layC_zero, hj1, hj, layC_f hj, show 1 + j ≤ 64 by omega]
    simp [hor, hwk]
  · simp [impl_stack_1_L0]
    exact ret_E 2 (by simp) (by simp) (by simp)

theorem stack_ct (n : Nat) (hn : n ≤ 1048576) (h0 : 0 < n) (P : Nat → Int) (F : Nat → Nat → Nat) (hF : ∀ i j, F i j < 256) (ro : Bool) : Ct Try.prog ro 117 [.slx (.e 0) 0 n] [lays n P F] fun v E' L' => v = lay (P 0) (fun j => stkB F j n) ∧ E' = [lays n P F] ∧ L' = [] := by
  have h1 : (0 : Int) < n := by omega
  have hat := lays_at (P := P) (F := F) h0
  rw [Nat.zero_mul] at hat
  have heach := each_ctE (g := 142) (caps := [.ptr (.e 0) 0]) (E := [[.slx (.e 1) 0 n], lays n P F]) (p := P 0) (f := F 0) (G := fun j => stkB F j n) (by kernel_rfl) (by simp) (by simp) (fun i hi => stack1_ct n hn P F hF i hi)
  refine ct_of impl_stack_ok ?_
  simp at hat
  simp [impl_stack_F, impl_stack_M, layC_zero, h1, h0, hat, show 65 ≤ n * 65 by omega]
  refine call_rE [.l 0, .e 0] (L2 := []) heach (sigOk_mk (by simp) (by simp) (by simp)) (by simp) (by simp) (by simp) ?_
  simp
  exact ret_pu (by simp) (by simp) (by simp)

theorem l01Stack_ct (n : Nat) (hn : n ≤ 1048576) (h0 : 0 < n) (P : Nat → Int) (F : Nat → Nat → Nat) (hF : ∀ i j, F i j < 256) (ro : Bool) : Ct Try.prog ro 113 [.slx (.e 0) 0 n] [lays n P F] fun v E' L' => v = lay (P 0) (fun j => stkB F j n) ∧ E' = [lays n P F] ∧ L' = [] := by
  have h1 : (0 : Int) < n := by omega
  have hat := lays_at (P := P) (F := F) h0
  rw [Nat.zero_mul] at hat
  simp at hat
  refine ct_of spec_l01Stack_ok ?_
  simp [spec_l01Stack_F, spec_l01Stack_M, layC_zero, h1, h0, hat, show 65 ≤ n * 65 by omega]
  refine wp_for (n - 1) (fun k => ⟨[(0, .slx (.e 0) 0 n), (2, .ptr (.l 0) 0), (3, .ptr (.l 1) 0), (4, .int .i64 ((k + 1 : Nat) : Int))], [layC 0 fun _ => 0, layC (P 0) fun j => stkB F j (k + 1)], [lays n P F]⟩) ?_ ?_ ?_
  · simp
    exact layC_congr fun i _ => by simp [stkB]
  · intro k hk
    obtain ⟨q, hq⟩ : ∃ q, q = k + 1 := ⟨_, rfl⟩
    rw [← hq]
    have hqn : q < n := by omega
    have hk1 : (q : Int) < n := by omega
    have hwk : IntKind.i64.wrap ((q : Int) + 1) = q + 1 := wrap_i64 (by omega) (by omega)
    simp [spec_l01Stack_L0, hk1]
    refine wp_for 64 (fun j => ⟨[(0, .slx (.e 0) 0 n), (2, .ptr (.l 0) 0), (3, .ptr (.l 1) 0), (4, .int .i64 q), (5, .int .i64 j)], [layC 0 fun _ => 0, layC (P 0) fun l => if l < j then stkB F l (q + 1) else stkB F l q], [lays n P F]⟩) ?_ ?_ ?_
    · simp
    · intro j hj
      have hj1 : (j : Int) < 64 := by omega
      have hwj : IntKind.i64.wrap ((j : Int) + 1) = j + 1 := wrap_i64 (by omega) (by omega)
      have hor := or8 (stkB_lt hF j q) (hF q j)
      have hnext : stkB F j (q + 1) = stkB F j q ||| F q j := rfl
      have hget := lays_f (P := P) (F := F) hqn hj
      rw [← Nat.add_assoc] at hget
      rw [← hnext] at hor
      simp [spec_l01Stack_L1, hk1, hj1, hj, layC_f hj, show 1 + j ≤ 64 by omega]
      simp [hget, hor, hj1, hj, layC_set, hwj, show 1 + j ≤ 64 by omega]
      exact layC_congr fun i _ => by by_cases e : i = j <;> by_cases e2 : i < j <;> simp [e, e2] <;> omega
    · have he : layC (P 0) (fun l => if l < 64 then stkB F l (q + 1) else stkB F l q) = layC (P 0) fun l => stkB F l (q + 1) := layC_congr fun i hi => by simp [hi]
      simp [spec_l01Stack_L1, he, hwk]
  · have e : n - 1 + 1 = n := by omega
    rw [e]
    simp [spec_l01Stack_L0]
    exact ret_pu (by simp) (by simp) (by simp)


end Go.Proofs.Yteidfholicaocaa
