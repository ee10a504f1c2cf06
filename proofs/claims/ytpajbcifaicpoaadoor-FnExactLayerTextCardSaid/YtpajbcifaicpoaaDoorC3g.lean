/- A part of the proof library: names for blocks of memory, a small form of the code, and rules for walks over it. -/
import Derived.Test.YtpajbcifaicpoaaDoorC2g
set_option linter.all false
namespace Go.Proofs.YtpajbcifaicpoaaDoor
open Go.Ab
set_option maxHeartbeats 400000

theorem eqByteA64_pc (f : Nat → Nat) : PC Tryd.prog 43 [.agg (byt 64 f), .agg (byt 64 f)] (.bool true) := by
  refine pc_of laws_eqByteA64_ok (fun ro => ?_)
  simp [laws_eqByteA64_F, laws_eqByteA64_M]
  refine wp_for 64 (fun k => ⟨[(2, .ptr (.l 0) 0), (3, .ptr (.l 1) 0), (5, .int .i64 k)], [byt 64 f, byt 64 f], []⟩) ?_ ?_ ?_
  · simp
  · intro k hk
    have hk1 : (k : Int) < 64 := by omega
    have hwk : IntKind.i64.wrap ((k : Int) + 1) = k + 1 := wrap_i64 (by omega) (by omega)
    simp [laws_eqByteA64_L0, hk1, hk, hwk]
  · simp [laws_eqByteA64_L0]
    exact ret_pu (by simp) (by simp) (by simp)

theorem eqLayer_pc (p : Int) (f : Nat → Nat) : PC Tryd.prog 20 [lay p f, lay p f] (.bool true) := by
  refine pc_of laws_eqLayer_ok (fun ro => ?_)
  simp [laws_eqLayer_F, laws_eqLayer_M]
  refine call_pc (eqByteA64_pc f) (by simp) (by simp) ?_
  simp
  exact ret_pu (by simp) (by simp) (by simp)

theorem eqByteA6_pc (f : Nat → Nat) : PC Tryd.prog 39 [.agg (byt 6 f), .agg (byt 6 f)] (.bool true) := by
  refine pc_of laws_eqByteA6_ok (fun ro => ?_)
  simp [laws_eqByteA6_F, laws_eqByteA6_M]
  refine wp_for 6 (fun k => ⟨[(2, .ptr (.l 0) 0), (3, .ptr (.l 1) 0), (5, .int .i64 k)], [byt 6 f, byt 6 f], []⟩) ?_ ?_ ?_
  · simp
  · intro k hk
    have hk1 : (k : Int) < 6 := by omega
    have hwk : IntKind.i64.wrap ((k : Int) + 1) = k + 1 := wrap_i64 (by omega) (by omega)
    simp [laws_eqByteA6_L0, hk1, hk, hwk]
  · simp [laws_eqByteA6_L0]
    exact ret_pu (by simp) (by simp) (by simp)

theorem eqScheme_pc (s p : Int) (w b : Nat → Nat) : PC Tryd.prog 17 [sch s p w b, sch s p w b] (.bool true) := by
  refine pc_of laws_eqScheme_ok (fun ro => ?_)
  simp [laws_eqScheme_F, laws_eqScheme_M]
  refine call_pc (eqByteA6_pc w) (by simp) (by simp) ?_
  simp
  refine call_pc (eqByteA6_pc b) (by simp) (by simp) ?_
  simp
  exact ret_pu (by simp) (by simp) (by simp)

/-- The cells of faults; the code of the first. -/
def fc (l : List (Bool × Int)) : List V := l.flatMap fun x => [.bool x.1, .int .i64 x.2]
def firstCode : List (Bool × Int) → Int
  | [] => 0
  | (b, c) :: l => if b then c else firstCode l
theorem fc_len : ∀ l : List (Bool × Int), (fc l).length = 2 * l.length
  | [] => rfl
  | x :: l => by simp only [fc, List.flatMap_cons, List.length_append, List.length_cons, List.length_nil]; rw [show (List.flatMap (fun x : Bool × Int => [V.bool x.1, V.int .i64 x.2]) l) = fc l from rfl, fc_len l]; omega
theorem fc_at : ∀ (l : List (Bool × Int)) (k : Nat), k < l.length → ((fc l).drop (2 * k)).take 2 = [.bool (l.getD k (false, 0)).1, .int .i64 (l.getD k (false, 0)).2]
  | [], k, h => by simp at h
  | x :: l, 0, _ => rfl
  | x :: l, k + 1, h => by
    have := fc_at l k (by simpa using h)
    rw [show 2 * (k + 1) = 2 * k + 1 + 1 by omega]
    simpa [fc] using this
theorem fc_pu : ∀ l : List (Bool × Int), puL (fc l)
  | [] => by simp [fc]
  | x :: l => by have := fc_pu l; simpa [fc] using this
theorem fc_one : ∀ (l : List (Bool × Int)), ∀ v ∈ fc l, V.one v = true
  | [], v, h => by simp [fc] at h
  | x :: l, v, h => by
    simp only [fc, List.flatMap_cons, List.mem_append, List.mem_cons, List.not_mem_nil, or_false] at h
    rcases h with (rfl | rfl) | h
    · rfl
    · rfl
    · exact fc_one l v h
theorem firstCode_all : ∀ (l : List (Bool × Int)), (∀ k, k < l.length → (l.getD k (false, 0)).1 = false) → firstCode l = 0
  | [], _ => rfl
  | (b, c) :: l, h => by
    have h0 := h 0 (by simp)
    simp at h0
    subst h0
    simp only [firstCode, Bool.false_eq_true, if_false]
    exact firstCode_all l fun k hk => by simpa using h (k + 1) (by simpa using hk)
theorem firstCode_at : ∀ (l : List (Bool × Int)) (k : Nat), k < l.length → (∀ j, j < k → (l.getD j (false, 0)).1 = false) → (l.getD k (false, 0)).1 = true → firstCode l = (l.getD k (false, 0)).2
  | [], k, h, _, _ => by simp at h
  | (b, c) :: l, 0, _, _, h => by simp at h; subst h; simp [firstCode]
  | (b, c) :: l, k + 1, h, ha, hb => by
    have h0 := ha 0 (by omega)
    simp at h0
    subst h0
    simp only [firstCode, Bool.false_eq_true, if_false]
    have := firstCode_at l k (by simpa using h) (fun j hj => by simpa using ha (j + 1) (by omega)) (by simpa using hb)
    simpa using this

theorem fc_one' (l : List (Bool × Int)) : (∀ v, v ∈ fc l → V.one v = true) ↔ True := iff_true_intro (fc_one l)



end Go.Proofs.YtpajbcifaicpoaaDoor
