/- A part of the proof library: names for blocks of memory, a small form of the code, and rules for walks over it. -/
import Derived.Test.YteidfholicaocaaC1b
import Derived.Test.YteidfholicaocaaAb30
set_option linter.all false
namespace Go.Proofs.Yteidfholicaocaa
open Go.Ab
set_option maxHeartbeats 800000

def mk8 (x : Nat) : Int := IntKind.i8.wrap (x : Int)
def mkB (x : Nat) : Nat := x % 256




theorem eqByteS_ct (n : Nat) (hn : n ≤ 1048576) (F : Nat → Nat) (ro : Bool) : Ct Try.prog ro 43 [.slx (.e 0) 0 n, .slx (.e 1) 0 n] [byt n F, byt n F] fun v E' L' => v = .bool true ∧ E' = [byt n F, byt n F] ∧ L' = [] := by
  refine ct_of laws_eqByteS_ok ?_
  simp [laws_eqByteS_F, laws_eqByteS_M]
  refine wp_for n (fun k => ⟨[(0, .slx (.e 0) 0 n), (1, .slx (.e 1) 0 n), (5, .int .i64 k)], [], [byt n F, byt n F]⟩) ?_ ?_ ?_
  · simp
  · intro k hk
    have hk1 : (k : Int) < n := by omega
    have hwk : IntKind.i64.wrap ((k : Int) + 1) = k + 1 := wrap_i64 (by omega) (by omega)
    simp [laws_eqByteS_L0, hk1, hk, hwk]
  · simp [laws_eqByteS_L0]
    exact ret_pu (by simp) (by simp) (by simp)
theorem eqNilByteS_ct (ro : Bool) : Ct Try.prog ro 43 [.nilsl, .slx (.e 0) 0 0] [byt 0 fun _ => 0] fun v E' L' => v = .bool true ∧ E' = [byt 0 fun _ => 0] ∧ L' = [] := by
  refine ct_of laws_eqByteS_ok ?_
  simp [laws_eqByteS_F, laws_eqByteS_M]
  refine wp_for 0 (fun k => ⟨[(0, .nilsl), (1, .slx (.e 0) 0 0), (5, .int .i64 k)], [], [byt 0 fun _ => 0]⟩) ?_ ?_ ?_
  · simp
  · intro k hk; omega
  · simp [laws_eqByteS_L0]
    exact ret_pu (by simp) (by simp) (by simp)

theorem markByteS_ct (n k : Nat) (hn : n + k ≤ 2000000) (F : Nat → Nat) : Ct Try.prog false 44 [.slx (.e 0) 0 n, .int .i64 k] [byt n F] fun v E' L' => v = .int .i64 ((k : Int) + (n : Int)) ∧ E' = [byt n fun i => mkB (k + i)] ∧ L' = [] := by
  refine ct_of laws_markByteS_ok ?_
  simp [laws_markByteS_F, laws_markByteS_M]
  refine wp_for n (fun j => ⟨[(0, .slx (.e 0) 0 n), (1, .int .i64 ((k : Int) + (j : Int))), (5, .int .i64 j)], [], [byt n fun i => if i < j then mkB (k + i) else F i]⟩) ?_ ?_ ?_
  · simp
  · intro j hj
    have hj1 : (j : Int) < n := by omega
    have hwj : IntKind.i64.wrap ((j : Int) + 1) = j + 1 := wrap_i64 (by omega) (by omega)
    have hwk : IntKind.i64.wrap ((k : Int) + (j : Int) + 1) = (k : Int) + ((j : Int) + 1) := by rw [wrap_i64 (by omega) (by omega)]; omega
    have hm : IntKind.u8.wrap ((k : Int) + (j : Int)) = (mkB (k + j) : Nat) := by rw [mkB, ← wrapN_u8]; simp
    simp [laws_markByteS_L0, hj1, hj]
    simp [hwj, hwk, hm, byt_set, show j + 1 ≤ n from hj]
    refine byt_congr fun i _ => ?_
    by_cases e : i = j <;> by_cases e2 : i < j <;> simp [e, e2] <;> omega
  · have hend : (byt n fun i => if i < n then mkB (k + i) else F i) = byt n fun i => mkB (k + i) := byt_congr fun i hi => by simp [hi]
    rw [hend]
    simp [laws_markByteS_L0]
    exact ret_pu (by simp) (by simp) (by simp)
theorem markNilByteS_ct (k : Nat) : PC Try.prog 44 [.nilsl, .int .i64 k] (.int .i64 k) := by
  refine pc_of laws_markByteS_ok (fun ro => ?_)
  simp [laws_markByteS_F, laws_markByteS_M]
  refine wp_for 0 (fun j => ⟨[(0, .nilsl), (1, .int .i64 k), (5, .int .i64 j)], [], []⟩) ?_ ?_ ?_
  · simp
  · intro j hj; omega
  · simp [laws_markByteS_L0]
    exact ret_pu (by simp) (by simp) (by simp)

theorem heldByteS_ct (n k : Nat) (hn : n + k ≤ 2000000) (ro : Bool) : Ct Try.prog ro 45 [.slx (.e 0) 0 n, .int .i64 k] [byt n fun i => mkB (k + i)] fun v E' L' => v = .int .i64 ((k : Int) + (n : Int)) ∧ E' = [byt n fun i => mkB (k + i)] ∧ L' = [] := by
  refine ct_of laws_heldByteS_ok ?_
  simp [laws_heldByteS_F, laws_heldByteS_M]
  refine wp_for n (fun j => ⟨[(0, .slx (.e 0) 0 n), (1, .int .i64 ((k : Int) + (j : Int))), (5, .int .i64 j)], [], [byt n fun i => mkB (k + i)]⟩) ?_ ?_ ?_
  · simp
  · intro j hj
    have hj1 : (j : Int) < n := by omega
    have hwj : IntKind.i64.wrap ((j : Int) + 1) = j + 1 := wrap_i64 (by omega) (by omega)
    have hwk : IntKind.i64.wrap ((k : Int) + (j : Int) + 1) = (k : Int) + ((j : Int) + 1) := by rw [wrap_i64 (by omega) (by omega)]; omega
    have hm : IntKind.u8.wrap ((k : Int) + (j : Int)) = (mkB (k + j) : Nat) := by rw [mkB, ← wrapN_u8]; simp
    have hget : (byt n fun i => mkB (k + i))[j]? = some (.int .u8 (mkB (k + j) : Nat)) := byt_get hj
    generalize (byt n fun i => mkB (k + i)) = row at *
    simp [laws_heldByteS_L0, hj1]
    simp [hget]
    simp [hm]
    simp [hwj, hwk]
  · have hp : puL (byt n fun i => mkB (k + i)) := byt_pu
    generalize (byt n fun i => mkB (k + i)) = row at *
    simp [laws_heldByteS_L0]
    exact ret_pu (by simp) (by simpa using hp) (by simp)
theorem heldNilByteS_ct (k : Nat) : PC Try.prog 45 [.nilsl, .int .i64 k] (.int .i64 k) := by
  refine pc_of laws_heldByteS_ok (fun ro => ?_)
  simp [laws_heldByteS_F, laws_heldByteS_M]
  refine wp_for 0 (fun j => ⟨[(0, .nilsl), (1, .int .i64 k), (5, .int .i64 j)], [], []⟩) ?_ ?_ ?_
  · simp
  · intro j hj; omega
  · simp [laws_heldByteS_L0]
    exact ret_pu (by simp) (by simp) (by simp)
end Go.Proofs.Yteidfholicaocaa
