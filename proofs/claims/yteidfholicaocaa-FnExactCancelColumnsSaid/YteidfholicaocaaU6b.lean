/- A part of the proof library: names for blocks of memory, a small form of the code, and rules for walks over it. -/
import Derived.Test.YteidfholicaocaaC6b
import Derived.Test.YteidfholicaocaaAb32
set_option linter.all false
namespace Go.Proofs.Yteidfholicaocaa
open Go.Ab
set_option linter.all false
set_option maxHeartbeats 800000

/-- The row of a share: the columns' bits at i. -/
def rowN (n : Nat) (f : Nat → Nat) (i : Nat) : Nat := pic n fun k => (f k).testBit i
theorem rowN_step {f : Nat → Nat} {k i : Nat} (hk : k < 8) (hf : f k < 256) : orI .u8 (rowN k f i : Int) (shlI .u8 (andI .u8 (shrI .u8 (f k : Int) (i : Int)) 1) (k : Int)) = (rowN (k + 1) f i : Int) := take8 (F := fun k => (f k).testBit i) hf i hk rfl

theorem l02From_ct (sh n : Nat) (hs : sh ≤ 6) (hn : n ≤ 8) (f g : Nat → Nat) (hf : ∀ k, k < n → f k < 256) (hg : ∀ k, k < n → g k < 256) (ro : Bool) :
    Ct Try.prog ro 88 [.int .i8 sh, .slx (.e 0) 0 n, .slx (.e 1) 0 n] [byt n f, byt n g] fun v E' L' => v = sch sh n (fun i => if i < sh then rowN n f i else 0) (fun i => if i < sh then rowN n g i else 0) ∧ E' = [byt n f, byt n g] ∧ L' = [] := by
  refine ct_of spec_l02From_ok ?_
  have hw1 : IntKind.i8.wrap (n : Int) = n := wrap_i8 (by omega) (by omega)
  have hws : IntKind.i64.wrap (sh : Int) = sh := wrap_i64 (by omega) (by omega)
  simp [spec_l02From_F, spec_l02From_M, schC_zero, hw1]
  refine wp_for n (fun k => ⟨[(0, .int .i8 sh), (1, .slx (.e 0) 0 n), (2, .slx (.e 1) 0 n), (6, .ptr (.l 0) 0), (7, .ptr (.l 1) 0), (8, .int .i64 k)], [schC 0 0 (fun _ => 0) fun _ => 0, schC sh n (fun i => if i < sh then rowN k f i else 0) fun i => if i < sh then rowN k g i else 0], [byt n f, byt n g]⟩) ?_ ?_ ?_
  · simp [rowN, pic]
  · intro k hk
    have hk1 : (k : Int) < n := by omega
    have hk8 : k < 8 := by omega
    have hwk : IntKind.i64.wrap ((k : Int) + 1) = k + 1 := wrap_i64 (by omega) (by omega)
    have hwu : IntKind.u64.wrap (k : Int) = k := wrap_u64 (by omega) (by omega)
    have hgf := byt_get (f := f) hk
    have hgg := byt_get (f := g) hk
    simp [spec_l02From_L0, hk1]
    refine wp_for sh (fun i => ⟨[(0, .int .i8 sh), (1, .slx (.e 0) 0 n), (2, .slx (.e 1) 0 n), (6, .ptr (.l 0) 0), (7, .ptr (.l 1) 0), (8, .int .i64 k), (9, .int .i64 i)], [schC 0 0 (fun _ => 0) fun _ => 0, schC sh n (fun j => if j < i then rowN (k + 1) f j else if j < sh then rowN k f j else 0) fun j => if j < i then rowN (k + 1) g j else if j < sh then rowN k g j else 0], [byt n f, byt n g]⟩) ?_ ?_ ?_
    · simp
    · intro i hi
      have hi1 : (i : Int) < sh := by omega
      have hi6 : i < 6 := by omega
      have hi61 : (i : Int) < 6 := by omega
      have hwi : IntKind.i64.wrap ((i : Int) + 1) = i + 1 := wrap_i64 (by omega) (by omega)
      have hwui : IntKind.u64.wrap (i : Int) = i := wrap_u64 (by omega) (by omega)
      have st1 := rowN_step (i := i) hk8 (hf k hk)
      have st2 := rowN_step (i := i) hk8 (hg k hk)
      simp [spec_l02From_L1, hws, hi1, hi, hk1, hk, hi6, hi61, hwui, hwu, hgf, hgg, schC_w hi6, schC_b hi6, schC_setw hi6, schC_setb, st1, st2, hwi, show 2 + i ≤ 13 by omega, show 8 + i ≤ 13 by omega]
      exact schC_congr (fun j _ => by by_cases e : j = i <;> by_cases e2 : j < i <;> simp [e, e2] <;> omega) (fun j _ => by by_cases e : j = i <;> by_cases e2 : j < i <;> simp [e, e2] <;> omega)
    · simp [spec_l02From_L1, hws, hwk]
      exact schC_congr (fun j _ => by by_cases e : j < sh <;> simp [e]) (fun j _ => by by_cases e : j < sh <;> simp [e])
  · simp [spec_l02From_L0]
    exact ret_pu (by simp) (by simp) (by simp)
theorem rowsOf_ct (n : Nat) (hn : n ≤ 8) (s p : Int) (w b f : Nat → Nat) (hf : ∀ k, k < n → f k < 256) (x : Bool) :
    Ct Try.prog false 92 [.ptr (.e 0) 0, .slx (.e 1) 0 n, .bool x] [schC s p w b, byt n f] fun v E' L' => v = .tup [] ∧ E' = [schC s p (if x then w else rowN n f) (if x then rowN n f else b), byt n f] ∧ L' = [] := by
  refine ct_of impl_Scheme_rowsOf_ok ?_
  have hz : rl [(6, .int .u8 0)] = byt 6 fun _ => 0 := rfl
  simp [impl_Scheme_rowsOf_F, impl_Scheme_rowsOf_M]
  refine call_f [.e 0] (L2 := []) (rows_ct s p w b x false) (by simp) (by simp) ?_
  cases x
  · simp [hz]
    refine wp_for n (fun k => ⟨[(6, .ptr (.e 0) 2), (16, .slx (.e 1) 0 n), (17, .int .i64 n), (18, .int .i64 k)], [], [schC s p (rowN k f) b, byt n f]⟩) ?_ ?_ ?_
    · simp; exact schC_congr (fun _ _ => rfl) (fun _ _ => rfl)
    · intro k hk
      have hk1 : (k : Int) < n := by omega
      have hk8 : k < 8 := by omega
      have hwk : IntKind.i64.wrap ((k : Int) + 1) = k + 1 := wrap_i64 (by omega) (by omega)
      have hgf := byt_get (f := f) hk
      simp [impl_Scheme_rowsOf_L0, hk1, hk, hgf]
      refine wp_for 6 (fun i => ⟨[(6, .ptr (.e 0) 2), (7, .int .i64 k), (8, .int .u8 (f k)), (16, .slx (.e 1) 0 n), (17, .int .i64 n), (18, .int .i64 k), (23, .int .i64 i)], [], [schC s p (fun j => if j < i then rowN (k + 1) f j else rowN k f j) b, byt n f]⟩) ?_ ?_ ?_
      · simp
      · intro i hi6
        have hi61 : (i : Int) < 6 := by omega
        have hwi : IntKind.i64.wrap ((i : Int) + 1) = i + 1 := wrap_i64 (by omega) (by omega)
        have st1 := rowN_step (i := i) hk8 (hf k hk)
        simp [impl_Scheme_rowsOf_L1, hk1, hk, hi6, hi61, hgf, schC_w hi6, schC_b hi6, schC_setw hi6, schC_setb, st1, hwi, show 2 + i ≤ 13 by omega, show 8 + i ≤ 13 by omega]
        exact schC_congr (fun j _ => by by_cases e : j = i <;> by_cases e2 : j < i <;> simp [e, e2] <;> omega) (fun j _ => by by_cases e : j = i <;> by_cases e2 : j < i <;> simp [e, e2] <;> omega)
      · simp [impl_Scheme_rowsOf_L1, hwk]
        exact schC_congr (fun j hj => by simp [hj]) (fun j hj => by simp [hj])
    · simp [impl_Scheme_rowsOf_L0]
      exact ret_pu (by simp) (by simp) (by simp)
  · simp [hz]
    refine wp_for n (fun k => ⟨[(6, .ptr (.e 0) 8), (16, .slx (.e 1) 0 n), (17, .int .i64 n), (18, .int .i64 k)], [], [schC s p w (rowN k f), byt n f]⟩) ?_ ?_ ?_
    · simp; exact schC_congr (fun _ _ => rfl) (fun _ _ => rfl)
    · intro k hk
      have hk1 : (k : Int) < n := by omega
      have hk8 : k < 8 := by omega
      have hwk : IntKind.i64.wrap ((k : Int) + 1) = k + 1 := wrap_i64 (by omega) (by omega)
      have hgf := byt_get (f := f) hk
      simp [impl_Scheme_rowsOf_L0, hk1, hk, hgf]
      refine wp_for 6 (fun i => ⟨[(6, .ptr (.e 0) 8), (7, .int .i64 k), (8, .int .u8 (f k)), (16, .slx (.e 1) 0 n), (17, .int .i64 n), (18, .int .i64 k), (23, .int .i64 i)], [], [schC s p w fun j => if j < i then rowN (k + 1) f j else rowN k f j, byt n f]⟩) ?_ ?_ ?_
      · simp
      · intro i hi6
        have hi61 : (i : Int) < 6 := by omega
        have hwi : IntKind.i64.wrap ((i : Int) + 1) = i + 1 := wrap_i64 (by omega) (by omega)
        have st1 := rowN_step (i := i) hk8 (hf k hk)
        simp [impl_Scheme_rowsOf_L1, hk1, hk, hi6, hi61, hgf, schC_w hi6, schC_b hi6, schC_setw hi6, schC_setb, st1, hwi, show 2 + i ≤ 13 by omega, show 8 + i ≤ 13 by omega]
        exact schC_congr (fun j _ => by by_cases e : j = i <;> by_cases e2 : j < i <;> simp [e, e2] <;> omega) (fun j _ => by by_cases e : j = i <;> by_cases e2 : j < i <;> simp [e, e2] <;> omega)
      · simp [impl_Scheme_rowsOf_L1, hwk]
        exact schC_congr (fun j hj => by simp [hj]) (fun j hj => by simp [hj])
    · simp [impl_Scheme_rowsOf_L0]
      exact ret_pu (by simp) (by simp) (by simp)
end Go.Proofs.Yteidfholicaocaa
