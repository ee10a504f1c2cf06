/- A part of the proof library: names for blocks of memory, a small form of the code, and rules for walks over it. -/
import Derived.Test.YteidfholicaocaaT5b
import Derived.Test.YteidfholicaocaaL3bb
set_option linter.all false
namespace Go.Proofs.Yteidfholicaocaa
open Go.Ab
set_option maxHeartbeats 800000

open Classical in
/-- The code of two that are joined. -/
noncomputable def jCode (n1 : Nat) (P1 : Nat → Int) (F1 : Nat → Nat → Nat) (n2 : Nat) (P2 : Nat → Int) (F2 : Nat → Nat → Nat) : Int :=
  if allLokB n1 P1 F1 = true ∧ allLokB n2 P2 F2 = true then (if lCode n1 P1 F1 = 0 then (if lCode n2 P2 F2 = 0 then (if n1 = n2 then (if 8 < P1 0 + P2 0 then 3 else 0) else 4) else lCode n2 P2 F2) else lCode n1 P1 F1) else 1

theorem specJoin_pc (p q : Int) (f g : Nat → Nat) (hp : -128 ≤ p ∧ p < 128) (hf : ∀ i, f i < 256) (hq : -128 ≤ q ∧ q < 128) (hg : ∀ i, g i < 256) (h1 : lok p f = true) (h2 : lok q g = true) :
    PC Try.prog 53 [lay p f, lay q g] (if 8 < p + q then .tup [lay 0 fun _ => 0, .int .i64 3] else .tup [lay (p + q) (jnd p f g), .int .i64 0]) := by
  have hp1 := (lok_iff.1 h1).1
  have hq1 := (lok_iff.1 h2).1
  have hws : IntKind.i8.wrap (p + q) = p + q := wrap_i8 (by omega) (by omega)
  have hwp : IntKind.i64.wrap p = p := wrap_i64 (by omega) (by omega)
  have hwq : IntKind.i64.wrap q = q := wrap_i64 (by omega) (by omega)
  have hwu : IntKind.u64.wrap p = p := wrap_u64 (by omega) (by omega)
  have hwpq : IntKind.i64.wrap (p + q) = p + q := wrap_i64 (by omega) (by omega)
  by_cases h3 : 8 < p + q
  · rw [if_pos h3]
    refine pc_of spec_JoinParts_ok (fun ro => ?_)
    simp [spec_JoinParts_F, spec_JoinParts_M, layC_zero]
    refine call_s [.l 0] (l01Ok_ct p f hp hf) (by simp) ?_
    simp [h1]
    refine call_s [.l 1] (l01Ok_ct q g hq hg) (by simp) ?_
    simp [h2, hwp, hwq, hwpq, h3, layC_zero]
    exact ret_pu (by simp) (by simp) (by simp)
  · rw [if_neg h3]
    refine pc_of spec_JoinParts_ok (fun ro => ?_)
    simp [spec_JoinParts_F, spec_JoinParts_M, layC_zero]
    refine call_s [.l 0] (l01Ok_ct p f hp hf) (by simp) ?_
    simp [h1]
    refine call_s [.l 1] (l01Ok_ct q g hq hg) (by simp) ?_
    simp [h2, hwp, hwq, hwpq, h3, layC_zero, hws]
    refine wp_for 64 (fun k => ⟨[(2, .ptr (.l 0) 0), (3, .ptr (.l 1) 0), (4, .ptr (.l 2) 0), (6, .ptr (.l 3) 0), (7, .int .i64 k)], [layC p f, layC q g, layC 0 fun _ => 0, layC (p + q) fun i => if i < k then jnd p f g i else 0], []⟩) ?_ ?_ ?_
    · simp
    · intro k hk
      have hk1 : (k : Int) < 64 := by omega
      have hwk : IntKind.i64.wrap ((k : Int) + 1) = k + 1 := wrap_i64 (by omega) (by omega)
      simp [spec_JoinParts_L0, hk, hk1, layC_f hk, show 1 + k ≤ 64 by omega, hwu, show ¬ p < 0 by omega, jnd_op p f g (by omega) hf k, layC_set, hwk]
      exact layC_congr fun i _ => by by_cases h : i = k <;> by_cases h2 : i < k <;> simp [h, h2] <;> omega
    · simp [spec_JoinParts_L0]
      rw [show layC (p + q) (fun i => if i < 64 then jnd p f g i else 0) = layC (p + q) (jnd p f g) from layC_congr fun i hi => by simp [hi]]
      exact ret_pu (by simp) (by simp) (by simp)

/-- What two rows of layers give. -/
def jnP (P1 P2 : Nat → Int) (i : Nat) : Int := P1 i + P2 i
def jnF (P1 : Nat → Int) (F1 F2 : Nat → Nat → Nat) (i : Nat) : Nat → Nat := jnd (P1 i) (F1 i) (F2 i)
set_option maxRecDepth 10000 in
theorem joinShared_ok (n : Nat) (P1 : Nat → Int) (F1 : Nat → Nat → Nat) (P2 : Nat → Int) (F2 : Nat → Nat → Nat) (hP1 : ∀ i, -128 ≤ P1 i ∧ P1 i < 128) (hF1 : ∀ i j, F1 i j < 256) (hP2 : ∀ i, -128 ≤ P2 i ∧ P2 i < 128) (hF2 : ∀ i j, F2 i j < 256) (hc1 : lCode n P1 F1 = 0) (hc2 : lCode n P2 F2 = 0) (h8 : ¬ 8 < P1 0 + P2 0) :
    (∀ ro, Ct Try.prog ro 21 [.slx (.e 0) 0 n, .slx (.e 1) 0 n] [lays n P1 F1, lays n P2 F2] fun v E' L' => v = .tup [.slx (.l 0) 0 n, .int .i64 0] ∧ E' = [lays n P1 F1, lays n P2 F2] ∧ L' = [lays n (jnP P1 P2) (jnF P1 F1 F2)]) ∧
    (∀ ro, Ct Try.prog ro 22 [.slx (.e 0) 0 n, .slx (.e 1) 0 n] [lays n P1 F1, lays n P2 F2] fun v E' L' => v = .tup [.slx (.l 0) 0 n, .int .i64 0] ∧ E' = [lays n P1 F1, lays n P2 F2] ∧ L' = [lays n (jnP P1 P2) (jnF P1 F1 F2)]) := by
  obtain ⟨ha1, ⟨hn0, hn8⟩, hs1⟩ := lCode_ok hc1
  obtain ⟨ha2, _, hs2⟩ := lCode_ok hc2
  have hl1 := allLokB_iff.1 ha1
  have hl2 := allLokB_iff.1 ha2
  have a1 := l01All_ct n (by omega) P1 F1 hP1 hF1
  have a2 := l01All_ct n (by omega) P2 F2 hP2 hF2
  have b1 := areLayersX_ct n P1 F1 (by omega) hP1 hF1
  have b2 := areLayersX_ct n P2 F2 (by omega) hP2 hF2
  have k1 := l03Layers_ct n (by omega) P1 F1 hP1 hF1
  have k2 := l03Layers_ct n (by omega) P2 F2 hP2 hF2
  have c1 := layersCode_ct n (by omega) P1 F1 hP1 hF1
  have c2 := layersCode_ct n (by omega) P2 F2 hP2 hF2
  rw [ha1] at a1 b1
  rw [ha2] at a2 b2
  rw [hc1] at k1 c1
  rw [hc2] at k2 c2
  refine ⟨fun ro => ?_, fun ro => ?_⟩
  · refine ct_of spec_JoinShared_ok ?_
    simp [spec_JoinShared_F, spec_JoinShared_M, layC_zero]
    refine call_s [.e 0] a1 (by simp) ?_
    simp
    refine call_s [.e 1] a2 (by simp) ?_
    simp
    refine call_s [.e 0] k1 (by simp) ?_
    simp
    refine call_s [.e 1] k2 (by simp) ?_
    simp
    refine wp_forI n (fun k st => ∃ cap junk, k ≤ cap ∧ junk.length = (cap - k) * 65 ∧ puL junk ∧ st = ⟨[(0, .slx (.e 0) 0 n), (1, .slx (.e 1) 0 n), (8, .sl (.l 0) 0 k cap), (9, .int .i64 k)], [lays k (jnP P1 P2) (jnF P1 F1 F2) ++ junk], [lays n P1 F1, lays n P2 F2]⟩) ?_ ?_ ?_
    · exact ⟨0, [], by simp, by simp, by simp, by simp; rfl⟩
    · rintro k st hk ⟨cap, junk, hle, hj, hpj, rfl⟩
      have hk1 : (k : Int) < n := by omega
      have hwk : IntKind.i64.wrap ((k : Int) + 1) = k + 1 := wrap_i64 (by omega) (by omega)
      have hle65 : k * 65 + 65 ≤ n * 65 := by omega
      have hcall := specJoin_pc (P1 k) (P2 k) (F1 k) (F2 k) (hP1 k) (hF1 k) (hP2 k) (hF2 k) (hl1 k hk) (hl2 k hk)
      rw [hs1 k hk, hs2 k hk, if_neg h8, ← hs1 k hk, ← hs2 k hk] at hcall
      simp [spec_JoinShared_L0, hk1, hk, hle65, lays_at hk, layC_zero]
      refine calld_pc hcall (by simp) (by simp) ?_
      simp [layC_zero]
      refine app_ownT 1 (d := some 65) [8, 10, 62, 64] 0 k cap 1 (data := lays k (jnP P1 P2) (jnF P1 F1 F2)) (news := layC (P1 k + P2 k) (jnd (P1 k) (F1 k) (F2 k))) (junk := junk) (by simp [appNew, layC_zero]) (by simp) (by simp) (by simp) (by simp) (by simp [hj]) hle (by omega) (by omega) (by simp) (by simp) hpj (by simp) (by simp) (by simp) (by simp) (by simp) (by simp [puL.nb _ hpj]) ?_
      intro cap' junk' h1 h2 h3
      simp at h2
      simp [hwk]
      have hsn : lays k (jnP P1 P2) (jnF P1 F1 F2) ++ (layC (P1 k + P2 k) (jnd (P1 k) (F1 k) (F2 k)) ++ junk') = lays (k + 1) (jnP P1 P2) (jnF P1 F1 F2) ++ junk' := by rw [lays_snoc]; simp [jnP, jnF]
      first
      | exact ⟨cap', h1, junk', h2, h3, rfl, hsn⟩
      | exact ⟨puL.lt _ h3, cap', h1, junk', h2, h3, rfl, hsn⟩
    · rintro st ⟨cap, junk, hle, hj, hpj, rfl⟩
      simp [spec_JoinShared_L0]
      exact ret_new 0 (c := lays n (jnP P1 P2) (jnF P1 F1 F2)) (v' := .tup [.slx (.l 0) 0 n, .int .i64 0]) (.inr (by simp [V.hid, hidL, hle, kmap])) (by simp) ⟨junk, by simp⟩ (by simp) (by simp) (by simp)
  · have hp1 := fun k (hk : k < n) => (lok_iff.1 (hl1 k hk)).1
    have hp2 := fun k (hk : k < n) => (lok_iff.1 (hl2 k hk)).1
    have hz1 := lays_p (P := P1) (F := F1) (show 0 < n by omega)
    have hz2 := lays_p (P := P2) (F := F2) (show 0 < n by omega)
    rw [Nat.zero_mul] at hz1 hz2
    have hz1E : ∀ h, (lays n P1 F1)[0]'h = .int .i8 (P1 0) := fun h => by rw [List.getElem?_eq_getElem h] at hz1; exact Option.some.inj hz1
    have hz2E : ∀ h, (lays n P2 F2)[0]'h = .int .i8 (P2 0) := fun h => by rw [List.getElem?_eq_getElem h] at hz2; exact Option.some.inj hz2
    have hw0 : IntKind.i8.wrap (P1 0 + P2 0) = P1 0 + P2 0 := by have := hp1 0 (by omega); have := hp2 0 (by omega); exact wrap_i8 (by omega) (by omega)
    have h01 : (0 : Int) < n := by omega
    have h02 : 0 < n := by omega
    refine ct_of impl_JoinShared_ok ?_
    simp [impl_JoinShared_F, impl_JoinShared_M, layC_zero]
    refine call_s [.e 0] b1 (by simp) ?_
    simp
    refine call_s [.e 1] b2 (by simp) ?_
    simp
    refine call_s [.e 0] c1 (by simp) ?_
    simp
    refine call_s [.e 1] c2 (by simp) ?_
    simp [zrow_f3, fc_three]
    refine call_s [.l 0] (first3_ct false false false 0 0 4) (by simp) ?_
    simp [h01, h02, hz1, hz2, hz1E, hz2E, hw0, h8, layC_zero]
    refine wp_forI n (fun k st => ∃ cap junk, k ≤ cap ∧ junk.length = (cap - k) * 65 ∧ puL junk ∧ st = ⟨[(1, .slx (.e 1) 0 n), (9, .sl (.l 1) 0 k cap), (54, .slx (.e 0) 0 n), (55, .int .i64 n), (56, .int .i64 k)], [[.bool false, .int .i64 0, .bool false, .int .i64 0, .bool false, .int .i64 4], lays k (jnP P1 P2) (jnF P1 F1 F2) ++ junk], [lays n P1 F1, lays n P2 F2]⟩) ?_ ?_ ?_
    · exact ⟨0, [], by simp, by simp, by simp, by simp; rfl⟩
    · rintro k st hk ⟨cap, junk, hle, hj, hpj, rfl⟩
      have hk1 : (k : Int) < n := by omega
      have hwk : IntKind.i64.wrap ((k : Int) + 1) = k + 1 := wrap_i64 (by omega) (by omega)
      have hle65 : k * 65 + 65 ≤ n * 65 := by omega
      have hpk := hp1 k hk
      have hqk := hp2 k hk
      have hcall := joined_pc (P1 k) (P2 k) (F1 k) (F2 k) (by omega) (hF1 k)
      rw [wrap_i8 (by omega) (by omega)] at hcall
      simp [impl_JoinShared_L0, hk1, hk, hle65, lays_at hk, layC_zero]
      refine calld_pc hcall (by simp) (by simp) ?_
      simp [layC_zero]
      refine app_ownT 2 (d := some 69) [9, 11, 61, 68] 1 k cap 1 (data := lays k (jnP P1 P2) (jnF P1 F1 F2)) (news := layC (P1 k + P2 k) (jnd (P1 k) (F1 k) (F2 k))) (junk := junk) (by simp [appNew, layC_zero]) (by simp) (by simp) (by simp) (by simp) (by simp [hj]) hle (by omega) (by omega) (by simp) (by simp) hpj (by simp) (by simp) (by simp) (by simp) (by simp) (by simp [puL.nb _ hpj]) ?_
      intro cap' junk' h1 h2 h3
      simp at h2
      simp [hwk]
      have hsn : lays k (jnP P1 P2) (jnF P1 F1 F2) ++ (layC (P1 k + P2 k) (jnd (P1 k) (F1 k) (F2 k)) ++ junk') = lays (k + 1) (jnP P1 P2) (jnF P1 F1 F2) ++ junk' := by rw [lays_snoc]; simp [jnP, jnF]
      first
      | exact ⟨cap', h1, junk', h2, h3, rfl, hsn⟩
      | exact ⟨puL.lt _ h3, cap', h1, junk', h2, h3, rfl, hsn⟩
    · rintro st ⟨cap, junk, hle, hj, hpj, rfl⟩
      simp [impl_JoinShared_L0]
      exact ret_new 1 (c := lays n (jnP P1 P2) (jnF P1 F1 F2)) (v' := .tup [.slx (.l 0) 0 n, .int .i64 0]) (.inr (by simp [V.hid, hidL, hle, kmap])) (by simp) ⟨junk, by simp⟩ (by simp) (by simp) (by simp)
set_option maxRecDepth 10000 in
set_option maxHeartbeats 4000000 in
theorem joinShared_no (n1 n2 : Nat) (hn1 : n1 ≤ 1048576) (hn2 : n2 ≤ 1048576) (P1 : Nat → Int) (F1 : Nat → Nat → Nat) (P2 : Nat → Int) (F2 : Nat → Nat → Nat) (hP1 : ∀ i, -128 ≤ P1 i ∧ P1 i < 128) (hF1 : ∀ i j, F1 i j < 256) (hP2 : ∀ i, -128 ≤ P2 i ∧ P2 i < 128) (hF2 : ∀ i j, F2 i j < 256) (hc : ¬ jCode n1 P1 F1 n2 P2 F2 = 0) :
    (∀ ro, Ct Try.prog ro 21 [.slx (.e 0) 0 n1, .slx (.e 1) 0 n2] [lays n1 P1 F1, lays n2 P2 F2] fun v E' L' => v = .tup [.slx (.l 0) 0 0, .int .i64 (jCode n1 P1 F1 n2 P2 F2)] ∧ E' = [lays n1 P1 F1, lays n2 P2 F2] ∧ L' = [lays 0 (fun _ => 0) fun _ _ => 0]) ∧
    (∀ ro, Ct Try.prog ro 22 [.slx (.e 0) 0 n1, .slx (.e 1) 0 n2] [lays n1 P1 F1, lays n2 P2 F2] fun v E' L' => v = .tup [.nilsl, .int .i64 (jCode n1 P1 F1 n2 P2 F2)] ∧ E' = [lays n1 P1 F1, lays n2 P2 F2] ∧ L' = []) := by
  have a1 := l01All_ct n1 hn1 P1 F1 hP1 hF1
  have a2 := l01All_ct n2 hn2 P2 F2 hP2 hF2
  have b1 := areLayersX_ct n1 P1 F1 (by omega) hP1 hF1
  have b2 := areLayersX_ct n2 P2 F2 (by omega) hP2 hF2
  have k1 := l03Layers_ct n1 hn1 P1 F1 hP1 hF1
  have k2 := l03Layers_ct n2 hn2 P2 F2 hP2 hF2
  have c1 := layersCode_ct n1 hn1 P1 F1 hP1 hF1
  have c2 := layersCode_ct n2 hn2 P2 F2 hP2 hF2
  have hall : ∀ {n : Nat} {P : Nat → Int} {F : Nat → Nat → Nat}, lCode n P F = 0 → allLokB n P F = true := fun h => (lCode_ok h).1
  by_cases hA : allLokB n1 P1 F1 = true
  · by_cases hB : allLokB n2 P2 F2 = true
    · rw [hA] at a1 b1
      rw [hB] at a2 b2
      by_cases hc1 : lCode n1 P1 F1 = 0
      · by_cases hc2 : lCode n2 P2 F2 = 0
        · rw [hc1] at k1 c1
          rw [hc2] at k2 c2
          by_cases hn : n1 = n2
          · subst hn
            obtain ⟨_, ⟨hn0, hn8⟩, hs1⟩ := lCode_ok hc1
            obtain ⟨_, _, hs2⟩ := lCode_ok hc2
            have hl1 := allLokB_iff.1 hA
            have hl2 := allLokB_iff.1 hB
            have h8 : 8 < P1 0 + P2 0 := by
              refine Classical.byContradiction fun h => hc ?_
              simp [jCode, hA, hB, hc1, hc2, h]
            have hj : jCode n1 P1 F1 n1 P2 F2 = 3 := by simp [jCode, hA, hB, hc1, hc2, h8]
            rw [hj]
            have h01 : (0 : Int) < n1 := by omega
            have h02 : 0 < n1 := by omega
            refine ⟨fun ro => ?_, fun ro => ?_⟩
            · have hcall := specJoin_pc (P1 0) (P2 0) (F1 0) (F2 0) (hP1 0) (hF1 0) (hP2 0) (hF2 0) (hl1 0 h02) (hl2 0 h02)
              rw [if_pos h8] at hcall
              have hle65 : 65 ≤ n1 * 65 := by omega
              have hat1 := lays_at (P := P1) (F := F1) h02
              have hat2 := lays_at (P := P2) (F := F2) h02
              rw [Nat.zero_mul] at hat1 hat2
              simp at hat1 hat2
              refine ct_of spec_JoinShared_ok ?_
              simp [spec_JoinShared_F, spec_JoinShared_M, layC_zero]
              refine call_s [.e 0] a1 (by simp) ?_
              simp
              refine call_s [.e 1] a2 (by simp) ?_
              simp
              refine call_s [.e 0] k1 (by simp) ?_
              simp
              refine call_s [.e 1] k2 (by simp) ?_
              simp
              refine wp_forI n1 (fun k st => k = 0 ∧ st = ⟨[(0, .slx (.e 0) 0 n1), (1, .slx (.e 1) 0 n1), (8, .sl (.l 0) 0 0 0), (9, .int .i64 0)], [[]], [lays n1 P1 F1, lays n1 P2 F2]⟩) ?_ ?_ ?_
              · exact ⟨rfl, by simp [zrow]⟩
              · rintro k st hk ⟨rfl, rfl⟩
                simp [spec_JoinShared_L0, h01, h02, hle65, hat1, hat2, layC_zero]
                refine calld_pc hcall (by simp) (by simp) ?_
                simp [layC_zero]
                exact ret_new 2 (c := lays 0 (fun _ => 0) fun _ _ => 0) (v' := .tup [.slx (.l 0) 0 0, .int .i64 3]) (.inr (by simp [V.hid, hidL, kmap])) (by simp) ⟨[], by simp [lays, rows, zrow]⟩ (by simp) (by simp) (by simp)
              · rintro st ⟨h, _⟩; omega
            · have hp1 := (lok_iff.1 (hl1 0 h02)).1
              have hp2 := (lok_iff.1 (hl2 0 h02)).1
              have hz1 := lays_p (P := P1) (F := F1) h02
              have hz2 := lays_p (P := P2) (F := F2) h02
              rw [Nat.zero_mul] at hz1 hz2
              have hz1E : ∀ h, (lays n1 P1 F1)[0]'h = .int .i8 (P1 0) := fun h => by rw [List.getElem?_eq_getElem h] at hz1; exact Option.some.inj hz1
              have hz2E : ∀ h, (lays n1 P2 F2)[0]'h = .int .i8 (P2 0) := fun h => by rw [List.getElem?_eq_getElem h] at hz2; exact Option.some.inj hz2
              have hw0 : IntKind.i8.wrap (P1 0 + P2 0) = P1 0 + P2 0 := wrap_i8 (by omega) (by omega)
              refine ct_of impl_JoinShared_ok ?_
              simp [impl_JoinShared_F, impl_JoinShared_M, layC_zero]
              refine call_s [.e 0] b1 (by simp) ?_
              simp
              refine call_s [.e 1] b2 (by simp) ?_
              simp
              refine call_s [.e 0] c1 (by simp) ?_
              simp
              refine call_s [.e 1] c2 (by simp) ?_
              simp [zrow_f3, fc_three]
              refine call_s [.l 0] (first3_ct false false false 0 0 4) (by simp) ?_
              simp [h01, h02, hz1, hz2, hz1E, hz2E, hw0, h8, layC_zero]
              exact ret_pu (by simp) (by simp) (by simp)
          · have hj : jCode n1 P1 F1 n2 P2 F2 = 4 := by simp [jCode, hA, hB, hc1, hc2, hn]
            rw [hj]
            have hni : ¬ (n1 : Int) = n2 := by omega
            refine ⟨fun ro => ?_, fun ro => ?_⟩
            · refine ct_of spec_JoinShared_ok ?_
              simp [spec_JoinShared_F, spec_JoinShared_M, layC_zero]
              refine call_s [.e 0] a1 (by simp) ?_
              simp
              refine call_s [.e 1] a2 (by simp) ?_
              simp
              refine call_s [.e 0] k1 (by simp) ?_
              simp
              refine call_s [.e 1] k2 (by simp) ?_
              simp [hn, hni]
              exact ret_new 0 (c := lays 0 (fun _ => 0) fun _ _ => 0) (v' := .tup [.slx (.l 0) 0 0, .int .i64 4]) (.inr (by simp [V.hid, hidL, kmap])) (by simp) ⟨[], by simp [lays, rows, zrow]⟩ (by simp) (by simp) (by simp)
            · refine ct_of impl_JoinShared_ok ?_
              simp [impl_JoinShared_F, impl_JoinShared_M, layC_zero]
              refine call_s [.e 0] b1 (by simp) ?_
              simp
              refine call_s [.e 1] b2 (by simp) ?_
              simp
              refine call_s [.e 0] c1 (by simp) ?_
              simp
              refine call_s [.e 1] c2 (by simp) ?_
              simp [zrow_f3, fc_three, hn, hni]
              refine call_s [.l 0] (first3_ct false false true 0 0 4) (by simp) ?_
              simp
              exact ret_pu (by simp) (by simp) (by simp)
        · have hj : jCode n1 P1 F1 n2 P2 F2 = lCode n2 P2 F2 := by simp [jCode, hA, hB, hc1, hc2]
          rw [hj]
          rw [hc1] at k1 c1
          generalize lCode n2 P2 F2 = c at *
          refine ⟨fun ro => ?_, fun ro => ?_⟩
          · refine ct_of spec_JoinShared_ok ?_
            simp [spec_JoinShared_F, spec_JoinShared_M, layC_zero]
            refine call_s [.e 0] a1 (by simp) ?_
            simp
            refine call_s [.e 1] a2 (by simp) ?_
            simp
            refine call_s [.e 0] k1 (by simp) ?_
            simp
            refine call_s [.e 1] k2 (by simp) ?_
            simp [hc2]
            exact ret_new 0 (c := lays 0 (fun _ => 0) fun _ _ => 0) (v' := .tup [.slx (.l 0) 0 0, .int .i64 c]) (.inr (by simp [V.hid, hidL, kmap])) (by simp) ⟨[], by simp [lays, rows, zrow]⟩ (by simp) (by simp) (by simp)
          · refine ct_of impl_JoinShared_ok ?_
            simp [impl_JoinShared_F, impl_JoinShared_M, layC_zero]
            refine call_s [.e 0] b1 (by simp) ?_
            simp
            refine call_s [.e 1] b2 (by simp) ?_
            simp
            refine call_s [.e 0] c1 (by simp) ?_
            simp
            refine call_s [.e 1] c2 (by simp) ?_
            simp [zrow_f3, fc_three, hc2]
            refine call_s [.l 0] (first3_ct false true (!decide ((n1 : Int) = n2)) 0 c 4) (by simp) ?_
            simp [hc2]
            exact ret_pu (by simp) (by simp) (by simp)
      · have hj : jCode n1 P1 F1 n2 P2 F2 = lCode n1 P1 F1 := by simp [jCode, hA, hB, hc1]
        rw [hj]
        generalize lCode n1 P1 F1 = c at *
        generalize lCode n2 P2 F2 = d at *
        refine ⟨fun ro => ?_, fun ro => ?_⟩
        · refine ct_of spec_JoinShared_ok ?_
          simp [spec_JoinShared_F, spec_JoinShared_M, layC_zero]
          refine call_s [.e 0] a1 (by simp) ?_
          simp
          refine call_s [.e 1] a2 (by simp) ?_
          simp
          refine call_s [.e 0] k1 (by simp) ?_
          simp [hc1]
          exact ret_new 0 (c := lays 0 (fun _ => 0) fun _ _ => 0) (v' := .tup [.slx (.l 0) 0 0, .int .i64 c]) (.inr (by simp [V.hid, hidL, kmap])) (by simp) ⟨[], by simp [lays, rows, zrow]⟩ (by simp) (by simp) (by simp)
        · refine ct_of impl_JoinShared_ok ?_
          simp [impl_JoinShared_F, impl_JoinShared_M, layC_zero]
          refine call_s [.e 0] b1 (by simp) ?_
          simp
          refine call_s [.e 1] b2 (by simp) ?_
          simp
          refine call_s [.e 0] c1 (by simp) ?_
          simp
          refine call_s [.e 1] c2 (by simp) ?_
          simp [zrow_f3, fc_three, hc1]
          refine call_s [.l 0] (first3_ct true (!decide (d = 0)) (!decide ((n1 : Int) = n2)) c d 4) (by simp) ?_
          simp [hc1]
          exact ret_pu (by simp) (by simp) (by simp)
    · have hB' : allLokB n2 P2 F2 = false := by simpa using hB
      have hj : jCode n1 P1 F1 n2 P2 F2 = 1 := by simp [jCode, hB']
      rw [hj]
      rw [hA] at a1 b1
      rw [hB'] at a2 b2
      refine ⟨fun ro => ?_, fun ro => ?_⟩
      · refine ct_of spec_JoinShared_ok ?_
        simp [spec_JoinShared_F, spec_JoinShared_M, layC_zero]
        refine call_s [.e 0] a1 (by simp) ?_
        simp
        refine call_s [.e 1] a2 (by simp) ?_
        simp
        exact ret_new 0 (c := lays 0 (fun _ => 0) fun _ _ => 0) (v' := .tup [.slx (.l 0) 0 0, .int .i64 1]) (.inr (by simp [V.hid, hidL, kmap])) (by simp) ⟨[], by simp [lays, rows, zrow]⟩ (by simp) (by simp) (by simp)
      · refine ct_of impl_JoinShared_ok ?_
        simp [impl_JoinShared_F, impl_JoinShared_M, layC_zero]
        refine call_s [.e 0] b1 (by simp) ?_
        simp
        refine call_s [.e 1] b2 (by simp) ?_
        simp
        exact ret_pu (by simp) (by simp) (by simp)
  · have hA' : allLokB n1 P1 F1 = false := by simpa using hA
    have hj : jCode n1 P1 F1 n2 P2 F2 = 1 := by simp [jCode, hA']
    rw [hj]
    rw [hA'] at a1 b1
    refine ⟨fun ro => ?_, fun ro => ?_⟩
    · refine ct_of spec_JoinShared_ok ?_
      simp [spec_JoinShared_F, spec_JoinShared_M, layC_zero]
      refine call_s [.e 0] a1 (by simp) ?_
      simp
      exact ret_new 0 (c := lays 0 (fun _ => 0) fun _ _ => 0) (v' := .tup [.slx (.l 0) 0 0, .int .i64 1]) (.inr (by simp [V.hid, hidL, kmap])) (by simp) ⟨[], by simp [lays, rows, zrow]⟩ (by simp) (by simp) (by simp)
    · refine ct_of impl_JoinShared_ok ?_
      simp [impl_JoinShared_F, impl_JoinShared_M, layC_zero]
      refine call_s [.e 0] b1 (by simp) ?_
      simp
      exact ret_pu (by simp) (by simp) (by simp)

set_option maxRecDepth 10000 in
set_option maxHeartbeats 6000000 in
theorem lawJoinShared (E : List (List V)) (hE : ∀ c ∈ E, puL c) (A : V) (n1 : Nat) (P1 : Nat → Int) (F1 : Nat → Nat → Nat) (LA : LArg E A n1 P1 F1) (B : V) (n2 : Nat) (P2 : Nat → Int) (F2 : Nat → Nat → Nat) (LB : LArg E B n2 P2 F2) :
    Ct Try.prog true 4 [A, B] E fun v E' L' => v = .bool true ∧ E' = E ∧ L' = [] := by
  refine ct_of laws_FnExactJoinShared_ok ?_
  refine wp_seq_opq fun R hR => ?_
  simp [laws_FnExactJoinShared_F]
  subst hR
  refine wp_seq_opq fun R hR => ?_
  simp
  subst hR
  refine wp_seq_opq fun R hR => ?_
  simp
  refine LA.sz 1048576 (by omega) _ _ rfl ?_
  simp
  by_cases h1 : 1048576 < n1
  · subst hR
    refine wp_seq_opq fun R hR => ?_
    simp [h1]
    exact ret_pu (by simp) hE (by simp)
  · have g1 : ¬ (((1048576 - n1 : Nat) : Int) < 0) := by omega
    have hn1 : n1 ≤ 1048576 := by omega
    obtain ⟨d, hd⟩ : ∃ d, 1048576 - n1 = d := ⟨_, rfl⟩
    have hd0 : d ≤ 1048576 := by omega
    have hd1 : n1 + d = 1048576 := by omega
    rw [hd] at g1
    simp only [hd]
    clear hd
    subst hR
    refine wp_seq_opq fun R hR => ?_
    simp [h1, g1]
    subst hR
    refine wp_seq_opq fun R hR => ?_
    simp
    refine LB.sz d hd0 _ _ rfl ?_
    simp
    by_cases h2 : d < n2
    · subst hR
      refine wp_seq_opq fun R hR => ?_
      simp [h2]
      exact ret_pu (by simp) hE (by simp)
    have g2 : ¬ (((d - n2 : Nat) : Int) < 0) := by omega
    have hn2 : n2 ≤ 1048576 := by omega
    subst hR
    refine wp_seq_opq fun R hR => ?_
    simp [h2, g2]
    have heq1 := eqLayerS_ct n1 hn1 P1 F1
    have heq2 := eqLayerS_ct n2 hn2 P2 F2
    have ma := markLayerS_ct n1 1 (by omega) P1 F1
    obtain ⟨q, hq⟩ : ∃ q : Nat, ((1 : Nat) : Int) + 65 * (n1 : Int) = q := ⟨1 + 65 * n1, by omega⟩
    have mb := markLayerS_ct n2 q (by omega) P2 F2
    rw [hq] at ma
    have hMa : puL (lays n1 (mkP 1) (mkF 1)) := by simp
    have hMb : puL (lays n2 (mkP q) (mkF q)) := by simp
    have hzb : ¬ ((q : Int) + 65 * (n2 : Int) < 0) := by omega
    generalize lays n2 (mkP q) (mkF q) = Mb at *
    generalize ((q : Nat) : Int) + 65 * ((n2 : Nat) : Int) = zb at *
    by_cases hc : jCode n1 P1 F1 n2 P2 F2 = 0
    · obtain ⟨hc1, hc2, hnn, h8⟩ : lCode n1 P1 F1 = 0 ∧ lCode n2 P2 F2 = 0 ∧ n1 = n2 ∧ ¬ 8 < P1 0 + P2 0 := by
        unfold jCode at hc
        split at hc
        · split at hc
          · split at hc
            · split at hc
              · split at hc
                · cases hc
                · refine ⟨?_, ?_, ?_, ?_⟩ <;> assumption
              · cases hc
            · rename_i h; exact absurd hc h
          · rename_i h; exact absurd hc h
        · cases hc
      subst hnn
      obtain ⟨_, ⟨_, hn8⟩, _⟩ := lCode_ok hc1
      obtain ⟨k1, k2⟩ := joinShared_ok n1 P1 F1 P2 F2 LA.hP LA.hF LB.hP LB.hF hc1 hc2 h8
      have e1 := eqLayerS_ct n1 hn1 (jnP P1 P2) (jnF P1 F1 F2)
      have m2 := markLayerS_ct n1 1 (by omega) (jnP P1 P2) (jnF P1 F1 F2)
      have m3 := heldLayerS_ct n1 1 (by omega)
      have hM := hMa
      have hz : ¬ ((q : Int) < 0) := by omega
      rw [hq] at m2 m3
      generalize jnP P1 P2 = T1 at *
      generalize jnF P1 F1 F2 = T2 at *
      generalize lays n1 (mkP 1) (mkF 1) = M at *
      subst hR
      refine wp_seq_opq fun R hR => ?_
      simp
      refine LA.to hn1 _ _ rfl ?_
      simp
      refine LB.to hn2 _ _ rfl ?_
      simp
      refine call_g [.l 0, .l 1] k1 (by simp) (by simp) ?_
      simp
      subst hR
      refine wp_seq_opq fun R hR => ?_
      simp
      refine LA.to hn1 _ _ rfl ?_
      simp
      subst hR
      refine wp_seq_opq fun R hR => ?_
      simp
      refine LB.to hn2 _ _ rfl ?_
      simp
      subst hR
      refine wp_seq_opq fun R hR => ?_
      simp
      refine call_g [.l 3, .l 4] k2 (by simp) (by simp) ?_
      simp
      subst hR
      refine wp_seq_opq fun R hR => ?_
      simp
      refine call_s [.l 5, .l 2] e1 (by simp) ?_
      simp
      subst hR
      refine wp_seq_opq fun R hR => ?_
      simp
      refine LA.to hn1 _ _ rfl ?_
      simp
      refine call_s [.l 3, .l 6] heq1 (by simp) ?_
      simp
      subst hR
      refine wp_seq_opq fun R hR => ?_
      simp
      refine LB.to hn2 _ _ rfl ?_
      simp
      refine call_s [.l 4, .l 7] heq2 (by simp) ?_
      simp
      subst hR
      refine wp_seq_opq fun R hR => ?_
      simp
      subst hR
      refine wp_seq_opq fun R hR => ?_
      simp
      refine call_w [.l 3] ma (by simp) (by simpa using hMa) ?_
      simp
      subst hR
      refine wp_seq_opq fun R hR => ?_
      simp
      refine call_w [.l 4] mb (by simp) (by simpa using hMb) ?_
      simp
      subst hR
      refine wp_seq_opq fun R hR => ?_
      simp [hzb]
      refine call_s [.l 5, .l 2] e1 (by simp) ?_
      simp
      subst hR
      refine wp_seq_opq fun R hR => ?_
      simp
      subst hR
      refine wp_seq_opq fun R hR => ?_
      simp
      refine call_w [.l 5] m2 (by simp) (by simpa using hM) ?_
      simp
      subst hR
      refine wp_seq_opq fun R hR => ?_
      simp
      subst hR
      refine wp_seq_opq fun R hR => ?_
      simp
      refine call_s [.l 5] m3 (by simpa using hM) ?_
      simp
      subst hR
      refine wp_seq_opq fun R hR => ?_
      simp [hz]
      subst hR
      refine wp_seq_opq fun R hR => ?_
      simp
      subst hR
      refine wp_seq_opq fun R hR => ?_
      simp
      refine LA.to hn1 _ _ rfl ?_
      simp
      refine LB.to hn2 _ _ rfl ?_
      simp
      refine call_g [.l 8, .l 9] k2 (by simp) (by simp) ?_
      simp
      subst hR
      refine wp_seq_opq fun R hR => ?_
      simp
      refine call_s [.l 10, .l 2] e1 (by simp) ?_
      simp
      subst hR
      refine wp_seq_opq fun R hR => ?_
      simp
      subst hR
      refine wp_seq_opq fun R hR => ?_
      simp
      refine call_s [.l 5] m3 (by simpa using hM) ?_
      simp
      subst hR
      refine wp_seq_opq fun R hR => ?_
      simp [hz]
      subst hR
      refine wp_seq_opq fun R hR => ?_
      simp
      subst hR
      simp
      exact ret_pu (by simp) hE (by simp)
    · obtain ⟨k1, k2⟩ := joinShared_no n1 n2 hn1 hn2 P1 F1 P2 F2 LA.hP LA.hF LB.hP LB.hF hc
      have m2 := markNilLayerS_ct 1
      have m3 := heldNilLayerS_ct 1
      have hz : ¬ ((q : Int) < 0) := by omega
      generalize lays n1 (mkP 1) (mkF 1) = M at *
      generalize jCode n1 P1 F1 n2 P2 F2 = c at *
      subst hR
      refine wp_seq_opq fun R hR => ?_
      simp
      refine LA.to hn1 _ _ rfl ?_
      simp
      refine LB.to hn2 _ _ rfl ?_
      simp
      refine call_g [.l 0, .l 1] k1 (by simp) (by simp) ?_
      simp
      subst hR
      refine wp_seq_opq fun R hR => ?_
      simp
      refine LA.to hn1 _ _ rfl ?_
      simp
      subst hR
      refine wp_seq_opq fun R hR => ?_
      simp
      refine LB.to hn2 _ _ rfl ?_
      simp
      subst hR
      refine wp_seq_opq fun R hR => ?_
      simp
      refine call_s [.l 3, .l 4] k2 (by simp) ?_
      simp
      subst hR
      refine wp_seq_opq fun R hR => ?_
      simp
      refine call_s [.l 2] eqNilLayerS_ct (by simp) ?_
      simp
      subst hR
      refine wp_seq_opq fun R hR => ?_
      simp
      refine LA.to hn1 _ _ rfl ?_
      simp
      refine call_s [.l 3, .l 5] heq1 (by simp) ?_
      simp
      subst hR
      refine wp_seq_opq fun R hR => ?_
      simp
      refine LB.to hn2 _ _ rfl ?_
      simp
      refine call_s [.l 4, .l 6] heq2 (by simp) ?_
      simp
      subst hR
      refine wp_seq_opq fun R hR => ?_
      simp
      subst hR
      refine wp_seq_opq fun R hR => ?_
      simp
      refine call_w [.l 3] ma (by simp) (by simpa using hMa) ?_
      simp
      subst hR
      refine wp_seq_opq fun R hR => ?_
      simp
      refine call_w [.l 4] mb (by simp) (by simpa using hMb) ?_
      simp
      subst hR
      refine wp_seq_opq fun R hR => ?_
      simp [hzb]
      refine call_s [.l 2] eqNilLayerS_ct (by simp) ?_
      simp
      subst hR
      refine wp_seq_opq fun R hR => ?_
      simp
      subst hR
      refine wp_seq_opq fun R hR => ?_
      simp
      refine call_pc m2 (by simp) (by simp) ?_
      simp
      subst hR
      refine wp_seq_opq fun R hR => ?_
      simp
      subst hR
      refine wp_seq_opq fun R hR => ?_
      simp
      refine call_pc m3 (by simp) (by simp) ?_
      simp
      subst hR
      refine wp_seq_opq fun R hR => ?_
      simp [hz]
      subst hR
      refine wp_seq_opq fun R hR => ?_
      simp
      subst hR
      refine wp_seq_opq fun R hR => ?_
      simp
      refine LA.to hn1 _ _ rfl ?_
      simp
      refine LB.to hn2 _ _ rfl ?_
      simp
      refine call_s [.l 7, .l 8] k2 (by simp) ?_
      simp
      subst hR
      refine wp_seq_opq fun R hR => ?_
      simp
      refine call_s [.l 2] eqNilLayerS_ct (by simp) ?_
      simp
      subst hR
      refine wp_seq_opq fun R hR => ?_
      simp
      subst hR
      refine wp_seq_opq fun R hR => ?_
      simp
      refine call_pc m3 (by simp) (by simp) ?_
      simp
      subst hR
      refine wp_seq_opq fun R hR => ?_
      simp [hz]
      subst hR
      refine wp_seq_opq fun R hR => ?_
      simp
      subst hR
      simp
      exact ret_pu (by simp) hE (by simp)
end Go.Proofs.Yteidfholicaocaa
