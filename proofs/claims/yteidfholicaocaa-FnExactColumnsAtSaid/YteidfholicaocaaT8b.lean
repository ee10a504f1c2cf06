/- A part of the proof library: names for blocks of memory, a small form of the code, and rules for walks over it. -/
import Derived.Test.YteidfholicaocaaT3b
import Derived.Test.YteidfholicaocaaAb32
set_option linter.all false
namespace Go.Proofs.Yteidfholicaocaa
open Go.Ab
set_option maxHeartbeats 800000

def mkP (k : Nat) (i : Nat) : Int := mk8 (k + 65 * i)
def mkF (k : Nat) (i j : Nat) : Nat := mkB (k + 65 * i + 1 + j)

theorem markLayerS_ct (n k : Nat) (hn : 65 * n + k ≤ 100000000) (P : Nat → Int) (F : Nat → Nat → Nat) : Ct Try.prog false 19 [.slx (.e 0) 0 n, .int .i64 k] [lays n P F] fun v E' L' => v = .int .i64 ((k : Int) + 65 * (n : Int)) ∧ E' = [lays n (mkP k) (mkF k)] ∧ L' = [] := by
  refine ct_of laws_markLayerS_ok ?_
  simp [laws_markLayerS_F, laws_markLayerS_M]
  refine wp_for n (fun i => ⟨[(0, .slx (.e 0) 0 n), (1, .int .i64 ((k : Int) + 65 * (i : Int))), (5, .int .i64 i)], [], [lays n (fun a => if a < i then mkP k a else P a) (fun a j => if a < i then mkF k a j else F a j)]⟩) ?_ ?_ ?_
  · simp
  · intro i hi
    have hi1 : (i : Int) < n := by omega
    have hwi : IntKind.i64.wrap ((i : Int) + 1) = i + 1 := wrap_i64 (by omega) (by omega)
    obtain ⟨q, hq⟩ : ∃ q : Nat, q = k + 65 * i := ⟨_, rfl⟩
    have hq1 : ((k : Int) + 65 * (i : Int)) = (q : Int) := by omega
    have hq2 : (q : Int) + 1 + 64 = (k : Int) + 65 * ((i : Int) + 1) := by omega
    have hm : IntKind.i8.wrap (q : Int) = mkP k i := by rw [mkP, mk8, hq]
    have hwq : IntKind.i64.wrap ((q : Int) + 1) = (q : Int) + 1 := wrap_i64 (by omega) (by omega)
    have hset := fun (Q : Nat → Int) (G : Nat → Nat → Nat) => lays_setP (P := Q) (F := G) hi (p := mkP k i)
    have hle : i * 65 + 1 ≤ n * 65 := by omega
    simp [laws_markLayerS_L0, hi1, hi, hq1]
    simp [hm, hset, hle, hwq]
    refine wp_for 64 (fun j => ⟨[(0, .slx (.e 0) 0 n), (1, .int .i64 ((q : Int) + 1 + (j : Int))), (5, .int .i64 i), (6, .int .i64 j)], [], [lays n (fun a => if a < i + 1 then mkP k a else P a) (fun a l => if a < i ∨ (a = i ∧ l < j) then mkF k a l else F a l)]⟩) ?_ ?_ ?_
    · simp
      exact lays_congr (fun a _ => by by_cases e : a = i <;> by_cases e2 : a < i <;> simp [e, e2] <;> omega) (fun a _ j _ => by simp)
    · intro j hj
      have hj1 : (j : Int) < 64 := by omega
      have hwj : IntKind.i64.wrap ((j : Int) + 1) = j + 1 := wrap_i64 (by omega) (by omega)
      have hwr : IntKind.i64.wrap ((q : Int) + 1 + (j : Int) + 1) = (q : Int) + 1 + ((j : Int) + 1) := by rw [wrap_i64 (by omega) (by omega)]; omega
      have hmF : IntKind.u8.wrap ((q : Int) + 1 + (j : Int)) = (mkF k i j : Nat) := by rw [mkF, mkB, ← wrapN_u8]; congr 1; omega
      have hsetF := fun (Q : Nat → Int) (G : Nat → Nat → Nat) => lays_setF (P := Q) (F := G) hi hj (c := mkF k i j)
      have hle2 : i * 65 + (1 + (j + 1)) ≤ n * 65 := by omega
      have hle3 : i * 65 + 1 + j + 1 ≤ n * 65 := by omega
      simp [laws_markLayerS_L1, hi1, hi, hj1, hj]
      simp [hmF, hsetF, hle2, hle3, hwr, hwj, Nat.add_assoc]
      exact lays_congr (fun a _ => rfl) (fun a _ l _ => by by_cases e : a = i <;> by_cases e2 : l = j <;> by_cases e3 : a < i <;> by_cases e4 : l < j <;> simp [e, e2, e3, e4] <;> omega)
    · have he : lays n (fun a => if a < i + 1 then mkP k a else P a) (fun a l => if a < i ∨ (a = i ∧ l < 64) then mkF k a l else F a l) = lays n (fun a => if a < i + 1 then mkP k a else P a) (fun a l => if a < i + 1 then mkF k a l else F a l) := lays_congr (fun a _ => rfl) (fun a _ l hl => by by_cases e : a = i <;> by_cases e3 : a < i <;> simp [e, e3, hl] <;> omega)
      rw [he]
      simp [laws_markLayerS_L1, hwi, hq2]
  · have he : lays n (fun a => if a < n then mkP k a else P a) (fun a l => if a < n then mkF k a l else F a l) = lays n (mkP k) (mkF k) := lays_congr (fun a ha => by simp [ha]) (fun a ha l _ => by simp [ha])
    rw [he]
    simp [laws_markLayerS_L0]
    exact ret_pu (by simp) (by simp) (by simp)
theorem markNilLayerS_ct (k : Nat) : PC Try.prog 19 [.nilsl, .int .i64 k] (.int .i64 k) := by
  refine pc_of laws_markLayerS_ok (fun ro => ?_)
  simp [laws_markLayerS_F, laws_markLayerS_M]
  refine wp_for 0 (fun j => ⟨[(0, .nilsl), (1, .int .i64 k), (5, .int .i64 j)], [], []⟩) ?_ ?_ ?_
  · simp
  · intro j hj; omega
  · simp [laws_markLayerS_L0]
    exact ret_pu (by simp) (by simp) (by simp)

theorem heldLayerS_ct (n k : Nat) (hn : 65 * n + k ≤ 100000000) (ro : Bool) : Ct Try.prog ro 20 [.slx (.e 0) 0 n, .int .i64 k] [lays n (mkP k) (mkF k)] fun v E' L' => v = .int .i64 ((k : Int) + 65 * (n : Int)) ∧ E' = [lays n (mkP k) (mkF k)] ∧ L' = [] := by
  have hgp := fun i (hi : i < n) => lays_p (P := mkP k) (F := mkF k) hi
  have hgf := fun i j (hi : i < n) (hj : j < 64) => lays_f (P := mkP k) (F := mkF k) hi hj
  have hpu : puL (lays n (mkP k) (mkF k)) := by simp
  generalize lays n (mkP k) (mkF k) = row at *
  refine ct_of laws_heldLayerS_ok ?_
  simp [laws_heldLayerS_F, laws_heldLayerS_M]
  refine wp_for n (fun i => ⟨[(0, .slx (.e 0) 0 n), (1, .int .i64 ((k : Int) + 65 * (i : Int))), (5, .int .i64 i)], [], [row]⟩) ?_ ?_ ?_
  · simp
  · intro i hi
    have hi1 : (i : Int) < n := by omega
    have hwi : IntKind.i64.wrap ((i : Int) + 1) = i + 1 := wrap_i64 (by omega) (by omega)
    obtain ⟨q, hq⟩ : ∃ q : Nat, q = k + 65 * i := ⟨_, rfl⟩
    have hq1 : ((k : Int) + 65 * (i : Int)) = (q : Int) := by omega
    have hq2 : (q : Int) + 1 + 64 = (k : Int) + 65 * ((i : Int) + 1) := by omega
    have hm : IntKind.i8.wrap (q : Int) = mkP k i := by rw [mkP, mk8, hq]
    have hwq : IntKind.i64.wrap ((q : Int) + 1) = (q : Int) + 1 := wrap_i64 (by omega) (by omega)
    have h1 := hgp i hi
    simp [laws_heldLayerS_L0, hi1, hi, hq1]
    simp [h1]
    simp [hm, hwq]
    refine wp_for 64 (fun j => ⟨[(0, .slx (.e 0) 0 n), (1, .int .i64 ((q : Int) + 1 + (j : Int))), (5, .int .i64 i), (6, .int .i64 j)], [], [row]⟩) ?_ ?_ ?_
    · simp
    · intro j hj
      have hj1 : (j : Int) < 64 := by omega
      have hwj : IntKind.i64.wrap ((j : Int) + 1) = j + 1 := wrap_i64 (by omega) (by omega)
      have hwr : IntKind.i64.wrap ((q : Int) + 1 + (j : Int) + 1) = (q : Int) + 1 + ((j : Int) + 1) := by rw [wrap_i64 (by omega) (by omega)]; omega
      have hmF : IntKind.u8.wrap ((q : Int) + 1 + (j : Int)) = (mkF k i j : Nat) := by rw [mkF, mkB, ← wrapN_u8]; congr 1; omega
      have h2 := hgf i j hi hj
      rw [← Nat.add_assoc] at h2
      simp [laws_heldLayerS_L1, hi1, hi, hj1, hj]
      simp [h2]
      simp [hmF]
      simp [hwr, hwj]
    · simp [laws_heldLayerS_L1, hwi, hq2]
  · simp [laws_heldLayerS_L0]
    exact ret_pu (by simp) (by simpa using hpu) (by simp)
theorem heldNilLayerS_ct (k : Nat) : PC Try.prog 20 [.nilsl, .int .i64 k] (.int .i64 k) := by
  refine pc_of laws_heldLayerS_ok (fun ro => ?_)
  simp [laws_heldLayerS_F, laws_heldLayerS_M]
  refine wp_for 0 (fun j => ⟨[(0, .nilsl), (1, .int .i64 k), (5, .int .i64 j)], [], []⟩) ?_ ?_ ?_
  · simp
  · intro j hj; omega
  · simp [laws_heldLayerS_L0]
    exact ret_pu (by simp) (by simp) (by simp)

end Go.Proofs.Yteidfholicaocaa
