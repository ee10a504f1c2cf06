/- A part of the proof library: names for blocks of memory, a small form of the code, and rules for walks over it. -/
import Derived.Test.YteidfholicaocaaT3b
import Derived.Test.YteidfholicaocaaAb32
import Derived.Test.YteidfholicaocaaL3ab
set_option linter.all false
namespace Go.Proofs.Yteidfholicaocaa
open Go.Ab
set_option maxHeartbeats 800000

def mkP (k : Nat) (i : Nat) : Int := mk8 (k + 65 * i)
def mkF (k : Nat) (i j : Nat) : Nat := mkB (k + 65 * i + 1 + j)

theorem markLayerS_ct (n k : Nat) (hn : 65 * n + k ≤ 100000000) (P : Nat → Int) (F : Nat → Nat → Nat) : Ct Try.prog false 19 [.slx (.e 0) 0 n, .int .i64 k] [lays n P F] fun v E' L' => v = .int .i64 ((k : Int) + 65 * (n : Int)) ∧ E' = [lays n (mkP k) (mkF k)] ∧ L' = [] := by
  refine ct_of laws_markLayerS_ok ?_
  simp [laws_markLayerS_F, laws_markLayerS_M]
  refine wp_for n (fun i => ⟨[(0, .slx (.e 0) 0 n), (1, .int .i64 ((k : Int) + 65 * (i : Int))), (5, .int .i64 i)], [], [lays n (fun a => if a < i then mkP k a else P a) (fun a j => if a < i then mkF k a j else F a j)]⟩) ?_ ?_ ?_
  · simp
  · intro i hi
    have hi1 : (i : Int) < n := by omega
    have hwi : IntKind.i64.wrap ((i : Int) + 1) = i + 1 := wrap_i64 (by omega) (by omega)
    obtain ⟨q, hq⟩ : ∃ q : Nat, q = k + 65 * i := ⟨_, rfl⟩
    have hq1 : ((k : Int) + 65 * (i : Int)) = (q : Int) := by omega
    have hq2 : (q : Int) + 1 + 64 = (k : Int) + 65 * ((i : Int) + 1) := by omega
    have hm : IntKind.i8.wrap (q : Int) = mkP k i := by rw [mkP, mk8, hq]
    have hwq : IntKind.i64.wrap ((q : Int) + 1) = (q : Int) + 1 := wrap_i64 (by omega) (by omega)
    have hset := fun (Q : Nat → Int) (G : Nat → Nat → Nat) => lays_setP (P := Q) (F := G) hi (p := mkP k i)
    have hle : i * 65 + 1 ≤ n * 65 := by omega
    simp [laws_markLayerS_L0, hi1, hi, hq1]
    simp [hm, hset, hle, hwq]
    refine wp_for 64 (fun j => ⟨[(0, .slx (.e 0) 0 n), (1, .int .i64 ((q : Int) + 1 + (j : Int))), (5, .int .i64 i), (6, .int .i64 j)], [], [lays n (fun a => if a < i + 1 then mkP k a else P a) (fun a l => if a < i ∨ (a = i ∧ l < j) then mkF k a l else F a l)]⟩) ?_ ?_ ?_
    · simp
      exact lays_congr (fun a _ => by by_cases e : a = i <;> by_cases e2 : a < i <;> simp [e, e2] <;> omega) (fun a _ j _ => by simp)
    · intro j hj
      have hj1 : (j : Int) < 64 := by omega
      have hwj : IntKind.i64.wrap ((j : Int) + 1) = j + 1 := wrap_i64 (by omega) (by omega)
      have hwr : IntKind.i64.wrap ((q : Int) + 1 + (j : Int) + 1) = (q : Int) + 1 + ((j : Int) + 1) := by rw [wrap_i64 (by omega) (by omega)]; omega
      have hmF : IntKind.u8.wrap ((q : Int) + 1 + (j : Int)) = (mkF k i j : Nat) := by rw [mkF, mkB, ← wrapN_u8]; congr 1; omega
      have hsetF := fun (Q : Nat → Int) (G : Nat → Nat → Nat) => lays_setF (P := Q) (F := G) hi hj (c := mkF k i j)
      have hle2 : i * 65 + (1 + (j + 1)) ≤ n * 65 := by omega
      have hle3 : i * 65 + 1 + j + 1 ≤ n * 65 := by omega
      simp [laws_markLayerS_L1, hi1, hi, hj1, hj]
      simp [hmF, hsetF, hle2, hle3, hwr, hwj, Nat.add_assoc]
      exact lays_congr (fun a _ => rfl) (fun a _ l _ => by by_cases e : a = i <;> by_cases e2 : l = j <;> by_cases e3 : a < i <;> by_cases e4 : l < j <;> simp [e, e2, e3, e4] <;> omega)
    · have he : lays n (fun a => if a < i + 1 then mkP k a else P a) (fun a l => if a < i ∨ (a = i ∧ l < 64) then mkF k a l else F a l) = lays n (fun a => if a < i + 1 then mkP k a else P a) (fun a l => if a < i + 1 then mkF k a l else F a l) := lays_congr (fun a _ => rfl) (fun a _ l hl => by by_cases e : a = i <;> by_cases e3 : a < i <;> simp [e, e3, hl] <;> omega)
      rw [he]
      simp [laws_markLayerS_L1, hwi, hq2]
  · have he : lays n (fun a => if a < n then mkP k a else P a) (fun a l => if a < n then mkF k a l else F a l) = lays n (mkP k) (mkF k) := lays_congr (fun a ha => by simp [ha]) (fun a ha l _ => by simp [ha])
    rw [he]
    simp [laws_markLayerS_L0]
    exact ret_pu (by simp) (by simp) (by simp)
theorem markNilLayerS_ct (k : Nat) : PC Try.prog 19 [.nilsl, .int .i64 k] (.int .i64 k) := by
  refine pc_of laws_markLayerS_ok (fun ro => ?_)
  simp [laws_markLayerS_F, laws_markLayerS_M]
  refine wp_for 0 (fun j => ⟨[(0, .nilsl), (1, .int .i64 k), (5, .int .i64 j)], [], []⟩) ?_ ?_ ?_
  · simp
  · intro j hj; omega
  · simp [laws_markLayerS_L0]
    exact ret_pu (by simp) (by simp) (by simp)

theorem heldLayerS_ct (n k : Nat) (hn : 65 * n + k ≤ 100000000) (ro : Bool) : Ct Try.prog ro 20 [.slx (.e 0) 0 n, .int .i64 k] [lays n (mkP k) (mkF k)] fun v E' L' => v = .int .i64 ((k : Int) + 65 * (n : Int)) ∧ E' = [lays n (mkP k) (mkF k)] ∧ L' = [] := by
  have hgp := fun i (hi : i < n) => lays_p (P := mkP k) (F := mkF k) hi
  have hgf := fun i j (hi : i < n) (hj : j < 64) => lays_f (P := mkP k) (F := mkF k) hi hj
  have hpu : puL (lays n (mkP k) (mkF k)) := by simp
  generalize lays n (mkP k) (mkF k) = row at *
  refine ct_of laws_heldLayerS_ok ?_
  simp [laws_heldLayerS_F, laws_heldLayerS_M]
  refine wp_for n (fun i => ⟨[(0, .slx (.e 0) 0 n), (1, .int .i64 ((k : Int) + 65 * (i : Int))), (5, .int .i64 i)], [], [row]⟩) ?_ ?_ ?_
  · simp
  · intro i hi
    have hi1 : (i : Int) < n := by omega
    have hwi : IntKind.i64.wrap ((i : Int) + 1) = i + 1 := wrap_i64 (by omega) (by omega)
    obtain ⟨q, hq⟩ : ∃ q : Nat, q = k + 65 * i := ⟨_, rfl⟩
    have hq1 : ((k : Int) + 65 * (i : Int)) = (q : Int) := by omega
    have hq2 : (q : Int) + 1 + 64 = (k : Int) + 65 * ((i : Int) + 1) := by omega
    have hm : IntKind.i8.wrap (q : Int) = mkP k i := by rw [mkP, mk8, hq]
    have hwq : IntKind.i64.wrap ((q : Int) + 1) = (q : Int) + 1 := wrap_i64 (by omega) (by omega)
    have h1 := hgp i hi
    simp [laws_heldLayerS_L0, hi1, hi, hq1]
    simp [h1]
    simp [hm, hwq]
    refine wp_for 64 (fun j => ⟨[(0, .slx (.e 0) 0 n), (1, .int .i64 ((q : Int) + 1 + (j : Int))), (5, .int .i64 i), (6, .int .i64 j)], [], [row]⟩) ?_ ?_ ?_
    · simp
    · intro j hj
      have hj1 : (j : Int) < 64 := by omega
      have hwj : IntKind.i64.wrap ((j : Int) + 1) = j + 1 := wrap_i64 (by omega) (by omega)
      have hwr : IntKind.i64.wrap ((q : Int) + 1 + (j : Int) + 1) = (q : Int) + 1 + ((j : Int) + 1) := by rw [wrap_i64 (by omega) (by omega)]; omega
      have hmF : IntKind.u8.wrap ((q : Int) + 1 + (j : Int)) = (mkF k i j : Nat) := by rw [mkF, mkB, ← wrapN_u8]; congr 1; omega
      have h2 := hgf i j hi hj
      rw [← Nat.add_assoc] at h2
      simp [laws_heldLayerS_L1, hi1, hi, hj1, hj]
      simp [h2]
      simp [hmF]
      simp [hwr, hwj]
    · simp [laws_heldLayerS_L1, hwi, hq2]
  · simp [laws_heldLayerS_L0]
    exact ret_pu (by simp) (by simpa using hpu) (by simp)
theorem heldNilLayerS_ct (k : Nat) : PC Try.prog 20 [.nilsl, .int .i64 k] (.int .i64 k) := by
  refine pc_of laws_heldLayerS_ok (fun ro => ?_)
  simp [laws_heldLayerS_F, laws_heldLayerS_M]
  refine wp_for 0 (fun j => ⟨[(0, .nilsl), (1, .int .i64 k), (5, .int .i64 j)], [], []⟩) ?_ ?_ ?_
  · simp
  · intro j hj; omega
  · simp [laws_heldLayerS_L0]
    exact ret_pu (by simp) (by simp) (by simp)

/-- A turned layer. -/
def trnF (f : Nat → Nat) : Nat → Nat := crr f fun k => (trn k : Int)
theorem carriedO_ct (off : Nat) (cs : List V) (p : Int) (f : Nat → Nat) (h0 : cs[off]? = some (.int .i8 p)) (hk' : ∀ k, k < 64 → cs[off + (1 + k)]? = some (.int .u8 (f k))) (hpu : puL cs) (ro : Bool) :
    Ct Try.prog ro 47 [.ptr (.e 0) off, .int .i64 0, .int .i64 0, .int .i64 0] [cs] fun v E' L' => v = lay p (trnF f) ∧ E' = [cs] ∧ L' = [] := by
  refine ct_of spec_l01Carried_ok ?_
  simp [spec_l01Carried_F, spec_l01Carried_M, layC_zero, h0]
  refine wp_for 64 (fun k => ⟨[(0, .ptr (.e 0) off), (1, .int .i64 0), (2, .int .i64 0), (3, .int .i64 0), (8, .ptr (.l 0) 0), (9, .ptr (.l 1) 0), (10, .int .i64 k)], [layC 0 fun _ => 0, layC p fun i => if i < k then trnF f i else 0], [cs]⟩) ?_ ?_ ?_
  · simp
  · intro k hk
    have hk1 : (k : Int) < 64 := by omega
    have hwk : IntKind.i64.wrap ((k : Int) + 1) = k + 1 := wrap_i64 (by omega) (by omega)
    have hm1 : trn k < 64 := by unfold trn; omega
    have hm2 : (trn k : Int) < 64 := by omega
    have hcr : trnF f k = f (trn k) := by simp [trnF, crr]
    have hg := hk' (trn k) hm1
    rw [← Nat.add_assoc] at hg
    simp [spec_l01Carried_L0, hk1]
    refine call_pc (from0_pc k hk 0 0) (by simp) (by simp) ?_
    generalize trn k = m at *
    simp [hm1, hm2, hk1]
    simp [hg, hm1, hm2, show 1 + k ≤ 64 by omega, layC_set, hwk, hk1]
    exact layC_congr fun i _ => by by_cases h : i = k <;> by_cases h2 : i < k <;> simp [h, h2, hcr] <;> omega
  · simp [spec_l01Carried_L0]
    rw [show layC p (fun i => if i < 64 then trnF f i else 0) = layC p (trnF f) from layC_congr fun i hi => by simp [hi]]
    exact ret_pu (by simp) (by simpa using hpu) (by simp)
theorem turnLayer_pc (p : Int) (f : Nat → Nat) (hp : -128 ≤ p ∧ p < 128) (hf : ∀ i, f i < 256) (h : lok p f = true) : PC Try.prog 50 [lay p f] (.tup [lay p (trnF f), .int .i64 0]) := by
  have hcl : ∀ i : Nat, i < 64 → ∀ ro, Ct Try.prog ro 102 [.int .i64 i, .ptr (.e 0) 0] [layC p f] fun v E' L' => v = .int .u8 (trnF f i) ∧ E' = [layC p f] ∧ L' = [] := fun i hi ro => by
    have hm : trn i < 64 := by unfold trn; omega
    have hm2 : (trn i : Int) < 64 := by omega
    refine ct_of impl_TurnLayer_1_ok ?_
    simp [impl_TurnLayer_1_F, impl_TurnLayer_1_M]
    refine call_pc (turned_pc i hi) (by simp) (by simp) ?_
    simp [hm, hm2, layC_f hm, show 1 + trn i ≤ 64 by omega]
    exact ret_pu (by simp) (by simp) (by simp [trnF, crr])
  refine pc_of impl_TurnLayer_ok (fun ro => ?_)
  simp [impl_TurnLayer_F, impl_TurnLayer_M, layC_zero]
  refine call_s [.l 0] (changed_ct (g := 102) (caps := [.ptr (.e 0) 0]) (E := [layC p f]) hp hf (by kernel_rfl) (by simp) (by simp) hcl) (by simp [h]) ?_
  simp [h]
  exact ret_pu (by simp) (by simp) (by simp)

theorem turnShared_ok (n : Nat) (P : Nat → Int) (F : Nat → Nat → Nat) (hP : ∀ i, -128 ≤ P i ∧ P i < 128) (hF : ∀ i j, F i j < 256) (hc : lCode n P F = 0) :
    (∀ ro, Ct Try.prog ro 15 [.slx (.e 0) 0 n] [lays n P F] fun v E' L' => v = .tup [.slx (.l 0) 0 n, .int .i64 0] ∧ E' = [lays n P F] ∧ L' = [lays n P fun i => trnF (F i)]) ∧
    (∀ ro, Ct Try.prog ro 17 [.slx (.e 0) 0 n] [lays n P F] fun v E' L' => v = .tup [.slx (.l 0) 0 n, .int .i64 0] ∧ E' = [lays n P F] ∧ L' = [lays n P fun i => trnF (F i)]) := by
  obtain ⟨hall, ⟨_, h8⟩, _⟩ := lCode_ok hc
  have hlok := allLokB_iff.1 hall
  have k1 := l03Layers_ct n (by omega) P F hP hF
  have k2 := layersCode_ct n (by omega) P F hP hF
  rw [hc] at k1 k2
  refine ⟨fun ro => ?_, fun ro => ?_⟩
  · refine ct_of spec_TurnShared_ok ?_
    simp [spec_TurnShared_F, spec_TurnShared_M, layC_zero]
    refine call_s [.e 0] k1 (by simp) ?_
    simp
    refine wp_forI n (fun k st => ∃ cap junk, k ≤ cap ∧ junk.length = (cap - k) * 65 ∧ puL junk ∧ st = ⟨[(0, .slx (.e 0) 0 n), (5, .sl (.l 0) 0 k cap), (6, .int .i64 k)], [lays k P (fun i => trnF (F i)) ++ junk], [lays n P F]⟩) ?_ ?_ ?_
    · exact ⟨0, [], by simp, by simp, by simp, by simp; rfl⟩
    · rintro k st hk ⟨cap, junk, hle, hj, hpj, rfl⟩
      have hk1 : (k : Int) < n := by omega
      have hwk : IntKind.i64.wrap ((k : Int) + 1) = k + 1 := wrap_i64 (by omega) (by omega)
      have hcall := carriedO_ct (k * 65) (lays n P F) (P k) (F k) (lays_p hk) (fun j hj => lays_f hk hj) (by simp)
      simp [spec_TurnShared_L0, hk1, hk, layC_zero]
      refine call_s [.e 0] hcall (by simp) ?_
      simp [layC_zero]
      refine app_ownT 1 (d := some 26) [5, 20, 25] 0 k cap 1 (data := lays k P (fun i => trnF (F i))) (news := layC (P k) (trnF (F k))) (junk := junk) (by simp [appNew, layC_zero]) (by simp) (by simp) (by simp) (by simp) (by simp [hj]) hle (by omega) (by omega) (by simp) (by simp) hpj (by simp) (by simp) (by simp) (by simp) (by simp) (by simp [puL.nb _ hpj]) ?_
      intro cap' junk' h1 h2 h3
      simp at h2
      simp [hwk]
      have hsn : lays k P (fun i => trnF (F i)) ++ (layC (P k) (trnF (F k)) ++ junk') = lays (k + 1) P (fun i => trnF (F i)) ++ junk' := by rw [lays_snoc]; simp
      first
      | exact ⟨cap', h1, junk', h2, h3, rfl, hsn⟩
      | exact ⟨puL.lt _ h3, cap', h1, junk', h2, h3, rfl, hsn⟩
    · rintro st ⟨cap, junk, hle, hj, hpj, rfl⟩
      simp [spec_TurnShared_L0]
      exact ret_new 0 (c := lays n P fun i => trnF (F i)) (v' := .tup [.slx (.l 0) 0 n, .int .i64 0]) (.inr (by simp [V.hid, hidL, hle, kmap])) (by simp) ⟨junk, by simp⟩ (by simp) (by simp) (by simp)
  · refine ct_of impl_TurnShared_ok ?_
    simp [impl_TurnShared_F, impl_TurnShared_M, layC_zero]
    refine call_s [.e 0] k2 (by simp) ?_
    simp
    refine wp_forI n (fun k st => ∃ cap junk, k ≤ cap ∧ junk.length = (cap - k) * 65 ∧ puL junk ∧ st = ⟨[(5, .sl (.l 0) 0 k cap), (16, .slx (.e 0) 0 n), (17, .int .i64 n), (18, .int .i64 k)], [lays k P (fun i => trnF (F i)) ++ junk], [lays n P F]⟩) ?_ ?_ ?_
    · exact ⟨0, [], by simp, by simp, by simp, by simp; rfl⟩
    · rintro k st hk ⟨cap, junk, hle, hj, hpj, rfl⟩
      have hk1 : (k : Int) < n := by omega
      have hwk : IntKind.i64.wrap ((k : Int) + 1) = k + 1 := wrap_i64 (by omega) (by omega)
      have hle65 : k * 65 + 65 ≤ n * 65 := by omega
      have hcall := turnLayer_pc (P k) (F k) (hP k) (hF k) (hlok k hk)
      simp [impl_TurnShared_L0, hk1, hk, hle65, lays_at hk, layC_zero]
      refine call_pc hcall (by simp) (by simp) ?_
      simp [layC_zero]
      refine app_ownT 1 (d := some 30) [5, 8, 27, 29] 0 k cap 1 (data := lays k P (fun i => trnF (F i))) (news := layC (P k) (trnF (F k))) (junk := junk) (by simp [appNew, layC_zero]) (by simp) (by simp) (by simp) (by simp) (by simp [hj]) hle (by omega) (by omega) (by simp) (by simp) hpj (by simp) (by simp) (by simp) (by simp) (by simp) (by simp [puL.nb _ hpj]) ?_
      intro cap' junk' h1 h2 h3
      simp at h2
      simp [hwk]
      have hsn : lays k P (fun i => trnF (F i)) ++ (layC (P k) (trnF (F k)) ++ junk') = lays (k + 1) P (fun i => trnF (F i)) ++ junk' := by rw [lays_snoc]; simp
      first
      | exact ⟨cap', h1, junk', h2, h3, rfl, hsn⟩
      | exact ⟨puL.lt _ h3, cap', h1, junk', h2, h3, rfl, hsn⟩
    · rintro st ⟨cap, junk, hle, hj, hpj, rfl⟩
      simp [impl_TurnShared_L0]
      exact ret_new 0 (c := lays n P fun i => trnF (F i)) (v' := .tup [.slx (.l 0) 0 n, .int .i64 0]) (.inr (by simp [V.hid, hidL, hle, kmap])) (by simp) ⟨junk, by simp⟩ (by simp) (by simp) (by simp)
theorem turnShared_no (n : Nat) (hn : n ≤ 1048576) (P : Nat → Int) (F : Nat → Nat → Nat) (hP : ∀ i, -128 ≤ P i ∧ P i < 128) (hF : ∀ i j, F i j < 256) (hc : ¬ lCode n P F = 0) :
    (∀ ro, Ct Try.prog ro 15 [.slx (.e 0) 0 n] [lays n P F] fun v E' L' => v = .tup [.slx (.l 0) 0 0, .int .i64 (lCode n P F)] ∧ E' = [lays n P F] ∧ L' = [lays 0 (fun _ => 0) fun _ _ => 0]) ∧
    (∀ ro, Ct Try.prog ro 17 [.slx (.e 0) 0 n] [lays n P F] fun v E' L' => v = .tup [.nilsl, .int .i64 (lCode n P F)] ∧ E' = [lays n P F] ∧ L' = []) := by
  have k1 := l03Layers_ct n hn P F hP hF
  have k2 := layersCode_ct n hn P F hP hF
  generalize lCode n P F = c at *
  refine ⟨fun ro => ?_, fun ro => ?_⟩
  · refine ct_of spec_TurnShared_ok ?_
    simp [spec_TurnShared_F, spec_TurnShared_M, layC_zero]
    refine call_s [.e 0] k1 (by simp) ?_
    simp [hc]
    exact ret_new 0 (c := lays 0 (fun _ => 0) fun _ _ => 0) (v' := .tup [.slx (.l 0) 0 0, .int .i64 c]) (.inr (by simp [V.hid, hidL, kmap])) (by simp) ⟨[], by simp [lays, rows, zrow]⟩ (by simp) (by simp) (by simp)
  · refine ct_of impl_TurnShared_ok ?_
    simp [impl_TurnShared_F, impl_TurnShared_M, layC_zero]
    refine call_s [.e 0] k2 (by simp) ?_
    simp [hc]
    exact ret_pu (by simp) (by simp) (by simp)

set_option maxRecDepth 10000 in
set_option maxHeartbeats 6000000 in
theorem lawTurnShared (E : List (List V)) (hE : ∀ c ∈ E, puL c) (A : V) (n : Nat) (P : Nat → Int) (F : Nat → Nat → Nat) (LA : LArg E A n P F) :
    Ct Try.prog true 3 [A] E fun v E' L' => v = .bool true ∧ E' = E ∧ L' = [] := by
  refine ct_of laws_FnExactTurnShared_ok ?_
  refine wp_seq_opq fun R hR => ?_
  simp [laws_FnExactTurnShared_F]
  subst hR
  refine wp_seq_opq fun R hR => ?_
  simp
  subst hR
  refine wp_seq_opq fun R hR => ?_
  simp
  refine LA.sz 1048576 (by omega) _ _ rfl ?_
  simp
  by_cases h1 : 1048576 < n
  · subst hR
    refine wp_seq_opq fun R hR => ?_
    simp [h1]
    exact ret_pu (by simp) hE (by simp)
  · have g1 : ¬ (((1048576 - n : Nat) : Int) < 0) := by omega
    have hn : n ≤ 1048576 := by omega
    have heq := eqLayerS_ct n hn P F
    have m1 := markLayerS_ct n 1 (by omega) P F
    have hM : puL (lays n (mkP 1) (mkF 1)) := by simp
    generalize 1048576 - n = d at *
    by_cases hc : lCode n P F = 0
    · obtain ⟨k1, k2⟩ := turnShared_ok n P F LA.hP LA.hF hc
      obtain ⟨_, ⟨_, h8⟩, _⟩ := lCode_ok hc
      have e1 := eqLayerS_ct n hn P (fun i => trnF (F i))
      have m2 := markLayerS_ct n 1 (by omega) P (fun i => trnF (F i))
      have m3 := heldLayerS_ct n 1 (by omega)
      have hz : ¬ (((1 : Nat) : Int) + 65 * ((n : Nat) : Int) < 0) := by omega
      generalize (fun i => trnF (F i)) = T at *
      generalize ((1 : Nat) : Int) + 65 * ((n : Nat) : Int) = z at *
      generalize lays n (mkP 1) (mkF 1) = M at *
      subst hR
      refine wp_seq_opq fun R hR => ?_
      simp [h1, g1]
      subst hR
      refine wp_seq_opq fun R hR => ?_
      simp
      refine LA.to hn _ _ rfl ?_
      simp
      refine call_g [.l 0] k1 (by simp) (by simp) ?_
      simp
      subst hR
      refine wp_seq_opq fun R hR => ?_
      simp
      refine LA.to hn _ _ rfl ?_
      simp
      subst hR
      refine wp_seq_opq fun R hR => ?_
      simp
      refine call_g [.l 2] k2 (by simp) (by simp) ?_
      simp
      subst hR
      refine wp_seq_opq fun R hR => ?_
      simp
      refine call_s [.l 3, .l 1] e1 (by simp) ?_
      simp
      subst hR
      refine wp_seq_opq fun R hR => ?_
      simp
      refine LA.to hn _ _ rfl ?_
      simp
      refine call_s [.l 2, .l 4] heq (by simp) ?_
      simp
      subst hR
      refine wp_seq_opq fun R hR => ?_
      simp
      subst hR
      refine wp_seq_opq fun R hR => ?_
      simp
      refine call_w [.l 2] m1 (by simp) (by simpa using hM) ?_
      simp
      subst hR
      refine wp_seq_opq fun R hR => ?_
      simp [hz]
      refine call_s [.l 3, .l 1] e1 (by simp) ?_
      simp
      subst hR
      refine wp_seq_opq fun R hR => ?_
      simp
      subst hR
      refine wp_seq_opq fun R hR => ?_
      simp
      refine call_w [.l 3] m2 (by simp) (by simpa using hM) ?_
      simp
      subst hR
      refine wp_seq_opq fun R hR => ?_
      simp
      subst hR
      refine wp_seq_opq fun R hR => ?_
      simp
      refine call_s [.l 3] m3 (by simpa using hM) ?_
      simp
      subst hR
      refine wp_seq_opq fun R hR => ?_
      simp [hz]
      subst hR
      refine wp_seq_opq fun R hR => ?_
      simp
      subst hR
      refine wp_seq_opq fun R hR => ?_
      simp
      refine LA.to hn _ _ rfl ?_
      simp
      refine call_g [.l 5] k2 (by simp) (by simp) ?_
      simp
      subst hR
      refine wp_seq_opq fun R hR => ?_
      simp
      refine call_s [.l 6, .l 1] e1 (by simp) ?_
      simp
      subst hR
      refine wp_seq_opq fun R hR => ?_
      simp
      subst hR
      refine wp_seq_opq fun R hR => ?_
      simp
      refine call_s [.l 3] m3 (by simpa using hM) ?_
      simp
      subst hR
      refine wp_seq_opq fun R hR => ?_
      simp [hz]
      subst hR
      refine wp_seq_opq fun R hR => ?_
      simp
      subst hR
      simp
      exact ret_pu (by simp) hE (by simp)
    · obtain ⟨k1, k2⟩ := turnShared_no n hn P F LA.hP LA.hF hc
      have m2 := markNilLayerS_ct 1
      have m3 := heldNilLayerS_ct 1
      have hz : ¬ (((1 : Nat) : Int) + 65 * ((n : Nat) : Int) < 0) := by omega
      generalize ((1 : Nat) : Int) + 65 * ((n : Nat) : Int) = z at *
      generalize lays n (mkP 1) (mkF 1) = M at *
      generalize lCode n P F = c at *
      subst hR
      refine wp_seq_opq fun R hR => ?_
      simp [h1, g1]
      subst hR
      refine wp_seq_opq fun R hR => ?_
      simp
      refine LA.to hn _ _ rfl ?_
      simp
      refine call_g [.l 0] k1 (by simp) (by simp) ?_
      simp
      subst hR
      refine wp_seq_opq fun R hR => ?_
      simp
      refine LA.to hn _ _ rfl ?_
      simp
      subst hR
      refine wp_seq_opq fun R hR => ?_
      simp
      refine call_s [.l 2] k2 (by simp) ?_
      simp
      subst hR
      refine wp_seq_opq fun R hR => ?_
      simp
      refine call_s [.l 1] eqNilLayerS_ct (by simp) ?_
      simp
      subst hR
      refine wp_seq_opq fun R hR => ?_
      simp
      refine LA.to hn _ _ rfl ?_
      simp
      refine call_s [.l 2, .l 3] heq (by simp) ?_
      simp
      subst hR
      refine wp_seq_opq fun R hR => ?_
      simp
      subst hR
      refine wp_seq_opq fun R hR => ?_
      simp
      refine call_w [.l 2] m1 (by simp) (by simpa using hM) ?_
      simp
      subst hR
      refine wp_seq_opq fun R hR => ?_
      simp [hz]
      refine call_s [.l 1] eqNilLayerS_ct (by simp) ?_
      simp
      subst hR
      refine wp_seq_opq fun R hR => ?_
      simp
      subst hR
      refine wp_seq_opq fun R hR => ?_
      simp
      refine call_pc m2 (by simp) (by simp) ?_
      simp
      subst hR
      refine wp_seq_opq fun R hR => ?_
      simp
      subst hR
      refine wp_seq_opq fun R hR => ?_
      simp
      refine call_pc m3 (by simp) (by simp) ?_
      simp
      subst hR
      refine wp_seq_opq fun R hR => ?_
      simp [hz]
      subst hR
      refine wp_seq_opq fun R hR => ?_
      simp
      subst hR
      refine wp_seq_opq fun R hR => ?_
      simp
      refine LA.to hn _ _ rfl ?_
      simp
      refine call_s [.l 4] k2 (by simp) ?_
      simp
      subst hR
      refine wp_seq_opq fun R hR => ?_
      simp
      refine call_s [.l 1] eqNilLayerS_ct (by simp) ?_
      simp
      subst hR
      refine wp_seq_opq fun R hR => ?_
      simp
      subst hR
      refine wp_seq_opq fun R hR => ?_
      simp
      refine call_pc m3 (by simp) (by simp) ?_
      simp
      subst hR
      refine wp_seq_opq fun R hR => ?_
      simp [hz]
      subst hR
      refine wp_seq_opq fun R hR => ?_
      simp
      subst hR
      simp
      exact ret_pu (by simp) hE (by simp)
end Go.Proofs.Yteidfholicaocaa
