/- A part of the proof library: names for blocks of memory, a small form of the code, and rules for walks over it. -/
import Derived.Test.YtpajbcifaicpoaaC4f
import Derived.Test.YtpajbcifaicpoaaAb24
set_option linter.all false
namespace Go.Proofs.Ytpajbcifaicpoaa
open Go.Ab
set_option maxHeartbeats 400000

/-- The cells of layers. -/
def lays (n : Nat) (P : Nat → Int) (F : Nat → Nat → Nat) : List V := rows n fun i => layC (P i) (F i)
section
variable {n : Nat} {P : Nat → Int} {F : Nat → Nat → Nat}
@[simp] theorem lays_len : (lays n P F).length = n * 65 := rows_len fun i _ => by simp
@[simp] theorem lays_pu : puL (lays n P F) := rows_pu fun i => by simp
@[simp] theorem lays_one : (∀ v, v ∈ lays n P F → V.one v = true) ↔ True := iff_true_intro (rows_one fun i => layC_one.2 trivial)
@[simp] theorem lays_eo {m : Nat} : eoL m (lays n P F) := puL.eo _ lays_pu
@[simp] theorem lays_lt {m : Nat} : ltL m (lays n P F) := puL.lt _ lays_pu
@[simp] theorem lays_ren {g : Nm → Nm} : renL g (lays n P F) = lays n P F := puL.ren _ lays_pu
theorem lays_at {k : Nat} (hk : k < n) : ((lays n P F).drop (k * 65)).take 65 = layC (P k) (F k) := rows_at (fun i _ => by simp) hk
theorem lays_p {k : Nat} (hk : k < n) : (lays n P F)[k * 65]? = some (.int .i8 (P k)) := by
  have := rows_get (n := n) (m := 65) (g := fun i => layC (P i) (F i)) (fun i _ => by simp) hk (j := 0) (by omega)
  simpa [lays] using this
theorem lays_f {k j : Nat} (hk : k < n) (hj : j < 64) : (lays n P F)[k * 65 + (1 + j)]? = some (.int .u8 (F k j)) := by
  have := rows_get (n := n) (m := 65) (g := fun i => layC (P i) (F i)) (fun i _ => by simp) hk (j := 1 + j) (by omega)
  rw [lays, this, layC_f hj]
end

def allLok (n : Nat) (P : Nat → Int) (F : Nat → Nat → Nat) : Prop := ∀ i, i < n → lok (P i) (F i) = true
open Classical in
noncomputable def allLokB (n : Nat) (P : Nat → Int) (F : Nat → Nat → Nat) : Bool := decide (allLok n P F)
theorem allLokB_iff {n : Nat} {P : Nat → Int} {F : Nat → Nat → Nat} : allLokB n P F = true ↔ allLok n P F := by simp [allLokB]

theorem fc_two {a b : Bool} {c d : Int} : fc [(a, c), (b, d)] = [.bool a, .int .i64 c, .bool b, .int .i64 d] := rfl
theorem fc_three {a b e : Bool} {c d g : Int} : fc [(a, c), (b, d), (e, g)] = [.bool a, .int .i64 c, .bool b, .int .i64 d, .bool e, .int .i64 g] := rfl
theorem zrow_f2 : zrow [.bool false, .int .i64 0] 2 = fc [(false, 0), (false, 0)] := rfl
theorem zrow_f3 : zrow [.bool false, .int .i64 0] 3 = fc [(false, 0), (false, 0), (false, 0)] := rfl
end Go.Proofs.Ytpajbcifaicpoaa
