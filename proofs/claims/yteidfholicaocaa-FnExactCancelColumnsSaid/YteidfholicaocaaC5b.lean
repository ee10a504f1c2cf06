/- A part of the proof library: names for blocks of memory, a small form of the code, and rules for walks over it. -/
import Derived.Test.YteidfholicaocaaC4b
import Derived.Test.YteidfholicaocaaAb24
set_option linter.all false
namespace Go.Proofs.Yteidfholicaocaa
open Go.Ab
set_option maxHeartbeats 400000

/-- The cells of layers. -/
def lays (n : Nat) (P : Nat → Int) (F : Nat → Nat → Nat) : List V := rows n fun i => layC (P i) (F i)
section
variable {n : Nat} {P : Nat → Int} {F : Nat → Nat → Nat}
@[simp] theorem lays_len : (lays n P F).length = n * 65 := rows_len fun i _ => by simp
@[simp] theorem lays_pu : puL (lays n P F) := rows_pu fun i => by simp
@[simp] theorem lays_one : (∀ v, v ∈ lays n P F → V.one v = true) ↔ True := iff_true_intro (rows_one fun i => layC_one.2 trivial)
@[simp] theorem lays_eo {m : Nat} : eoL m (lays n P F) := puL.eo _ lays_pu
@[simp] theorem lays_lt {m : Nat} : ltL m (lays n P F) := puL.lt _ lays_pu
@[simp] theorem lays_ren {g : Nm → Nm} : renL g (lays n P F) = lays n P F := puL.ren _ lays_pu
theorem lays_at {k : Nat} (hk : k < n) : ((lays n P F).drop (k * 65)).take 65 = layC (P k) (F k) := rows_at (fun i _ => by simp) hk
theorem lays_p {k : Nat} (hk : k < n) : (lays n P F)[k * 65]? = some (.int .i8 (P k)) := by
  have := rows_get (n := n) (m := 65) (g := fun i => layC (P i) (F i)) (fun i _ => by simp) hk (j := 0) (by omega)
  simpa [lays] using this
theorem lays_f {k j : Nat} (hk : k < n) (hj : j < 64) : (lays n P F)[k * 65 + (1 + j)]? = some (.int .u8 (F k j)) := by
  have := rows_get (n := n) (m := 65) (g := fun i => layC (P i) (F i)) (fun i _ => by simp) hk (j := 1 + j) (by omega)
  rw [lays, this, layC_f hj]
end

def allLok (n : Nat) (P : Nat → Int) (F : Nat → Nat → Nat) : Prop := ∀ i, i < n → lok (P i) (F i) = true
open Classical in
noncomputable def allLokB (n : Nat) (P : Nat → Int) (F : Nat → Nat → Nat) : Bool := decide (allLok n P F)
theorem allLokB_iff {n : Nat} {P : Nat → Int} {F : Nat → Nat → Nat} : allLokB n P F = true ↔ allLok n P F := by simp [allLokB]

theorem areLayers_ct (n : Nat) (P : Nat → Int) (F : Nat → Nat → Nat) (hn : n < 100000000) (hP : ∀ i, -128 ≤ P i ∧ P i < 128) (hF : ∀ i j, F i j < 256) (c : Nat) (ro : Bool) : Ct Try.prog ro 54 [.sl (.e 0) 0 n c] [lays n P F] fun v E' L' => v = .bool (allLokB n P F) ∧ E' = [lays n P F] ∧ L' = [] := by
  refine ct_of impl_areLayers_ok ?_
  simp [impl_areLayers_F, impl_areLayers_M, layC_zero]
  refine wp_forR n (fun k => ⟨[(5, .sl (.e 0) 0 n c), (6, .int .i64 n), (7, .int .i64 k)], [], [lays n P F]⟩) (fun k => lok (P k) (F k) = true) ?_ ?_ ?_
  · intro k hk hg
    have hk1 : (k : Int) < n := by omega
    have hwk : IntKind.i64.wrap ((k : Int) + 1) = k + 1 := wrap_i64 (by omega) (by omega)
    have hle : k * 65 + 65 ≤ n * 65 := by omega
    simp [impl_areLayers_L0, hk1, hk, hle, lays_at hk, layC_zero]
    refine call_pc (implValidLayer_pc (P k) (F k) (hP k) (hF k)) (by simp) (by simp) ?_
    simp [hg, hwk]
  · intro k hk hg hb
    have hk1 : (k : Int) < n := by omega
    have hle : k * 65 + 65 ≤ n * 65 := by omega
    have hg' : lok (P k) (F k) = false := by simpa using hg
    simp [impl_areLayers_L0, hk1, hk, hle, lays_at hk, layC_zero]
    refine call_pc (implValidLayer_pc (P k) (F k) (hP k) (hF k)) (by simp) (by simp) ?_
    simp [hg']
    exact ret_pu (by simp) (by simp) ⟨by rw [Bool.eq_false_iff.2 fun h => hg (allLokB_iff.1 h k hk)], rfl, rfl⟩
  · intro hall
    simp [impl_areLayers_L0]
    exact ret_pu (by simp) (by simp) ⟨by rw [allLokB_iff.2 hall], rfl, rfl⟩

/-- Two layers. -/
def two {α : Type} (a b : α) (i : Nat) : α := if i = 0 then a else b
theorem lays_two {p q : Int} {f g : Nat → Nat} : lays 2 (two p q) (two f g) = layC p f ++ layC q g := by
  rw [lays, rows_succ, rows_succ, rows_zero, List.nil_append]; rfl
theorem lays_put {p q : Int} {f g : Nat → Nat} : putl (putl (zrow (layC 0 fun _ => 0) 2) 0 (layC p f)) 65 (layC q g) = layC p f ++ layC q g := put_two (by simp) (by simp) (by simp)
theorem two_all {p q : Int} {f g : Nat → Nat} : allLokB 2 (two p q) (two f g) = (lok p f && lok q g) := by
  rw [Bool.eq_iff_iff, allLokB_iff, Bool.and_eq_true]
  constructor
  · exact fun h => ⟨h 0 (by omega), h 1 (by omega)⟩
  · rintro ⟨h1, h2⟩ i hi
    rcases Nat.lt_or_ge i 1 with h | h
    · have : i = 0 := by omega
      subst this; exact h1
    · have : i = 1 := by omega
      subst this; exact h2
theorem areTwo_ct (p q : Int) (f g : Nat → Nat) (hp : -128 ≤ p ∧ p < 128) (hf : ∀ i, f i < 256) (hq : -128 ≤ q ∧ q < 128) (hg : ∀ i, g i < 256) (ro : Bool) : Ct Try.prog ro 54 [.sl (.e 0) 0 2 2] [layC p f ++ layC q g] fun v E' L' => v = .bool (lok p f && lok q g) ∧ E' = [layC p f ++ layC q g] ∧ L' = [] := by
  have := areLayers_ct 2 (two p q) (two f g) (by omega) (fun i => by unfold two; split <;> assumption) (fun i j => by unfold two; split; exact hf j; exact hg j) 2 ro
  rw [lays_two, two_all] at this
  exact this
theorem fc_two {a b : Bool} {c d : Int} : fc [(a, c), (b, d)] = [.bool a, .int .i64 c, .bool b, .int .i64 d] := rfl
theorem fc_three {a b e : Bool} {c d g : Int} : fc [(a, c), (b, d), (e, g)] = [.bool a, .int .i64 c, .bool b, .int .i64 d, .bool e, .int .i64 g] := rfl
theorem zrow_f2 : zrow [.bool false, .int .i64 0] 2 = fc [(false, 0), (false, 0)] := rfl
theorem zrow_f3 : zrow [.bool false, .int .i64 0] 3 = fc [(false, 0), (false, 0), (false, 0)] := rfl
theorem first2_ct (a b : Bool) (c d : Int) (ro : Bool) : Ct Try.prog ro 55 [.sl (.e 0) 0 2 2] [[.bool a, .int .i64 c, .bool b, .int .i64 d]] (fun v E' L' => v = .int .i64 (if a then c else if b then d else 0) ∧ E' = [[.bool a, .int .i64 c, .bool b, .int .i64 d]] ∧ L' = []) := firstOf_ct [(a, c), (b, d)] (by simp) ro
theorem first3_ct (a b e : Bool) (c d g : Int) (ro : Bool) : Ct Try.prog ro 55 [.sl (.e 0) 0 3 3] [[.bool a, .int .i64 c, .bool b, .int .i64 d, .bool e, .int .i64 g]] (fun v E' L' => v = .int .i64 (if a then c else if b then d else if e then g else 0) ∧ E' = [[.bool a, .int .i64 c, .bool b, .int .i64 d, .bool e, .int .i64 g]] ∧ L' = []) := firstOf_ct [(a, c), (b, d), (e, g)] (by simp) ro
end Go.Proofs.Yteidfholicaocaa
