/- A part of the proof library: names for blocks of memory, a small form of the code, and rules for walks over it. -/
import Derived.Test.YteidfholicaocaaC6b
import Derived.Test.YteidfholicaocaaAb30
set_option linter.all false
namespace Go.Proofs.Yteidfholicaocaa
open Go.Ab
set_option maxHeartbeats 800000

theorem l02Column_ct (s p : Int) (w b : Nat → Nat) (hw : ∀ i, w i < 256) (hb : ∀ i, b i < 256) (set : Nat) (hset : set < 256) (x : Bool) (k : Nat) (hk : k < 8) (ro : Bool) : Ct Try.prog ro 129 [.ptr (.e 0) 0, .int .u8 set, .bool x, .int .i64 k] [schC s p w b] fun v E' L' => v = .int .u8 (colN 6 set (rws x w b) k) ∧ E' = [schC s p w b] ∧ L' = [] := by
  have hr := rws_lt (x := x) hw hb
  have hz : rl [(6, .int .u8 0)] = byt 6 fun _ => 0 := byt_zero
  have huk : IntKind.u64.wrap (k : Int) = k := wrap_u64 (by omega) (by omega)
  refine ct_of spec_l02Column_ok ?_
  simp [spec_l02Column_F, spec_l02Column_M, hz]
  refine call_s [.e 0] (l02Rows_ct s p w b x) (by simp) ?_
  simp
  refine wp_for 6 (fun i => ⟨[(1, .int .u8 set), (3, .int .i64 k), (9, .ptr (.l 0) 0), (10, .int .u8 (pic i fun j => (rws x w b j).testBit k)), (11, .int .i64 i)], [byt 6 (rws x w b)], [schC s p w b]⟩) ?_ ?_ ?_
  · simp [pic]
  · intro i hi
    have hi1 : (i : Int) < 6 := by omega
    have hwi : IntKind.i64.wrap ((i : Int) + 1) = i + 1 := wrap_i64 (by omega) (by omega)
    have hui : IntKind.u64.wrap (i : Int) = i := wrap_u64 (by omega) (by omega)
    have hst := take8 (F := fun j => (rws x w b j).testBit k) (hr i) k (show i < 8 by omega) rfl
    simp [spec_l02Column_L0, hi, hi1, huk, hui, hwi, hst]
  · have hpl : pic 6 (fun j => (rws x w b j).testBit k) < 256 := Nat.lt_of_lt_of_le (pic_lt _ _) (by decide)
    have han := and8 hpl hset
    rw [colN_and] at han
    simp [spec_l02Column_L0, han]
    exact ret_pu (by simp) (by simp) (by simp)

theorem l02Columns_ct (s : Int) (p : Nat) (w b : Nat → Nat) (hp : p ≤ 8) (hw : ∀ i, w i < 256) (hb : ∀ i, b i < 256) (set : Nat) (hset : set < 256) (x : Bool) (ro : Bool) : Ct Try.prog ro 85 [.ptr (.e 0) 0, .int .u8 set, .bool x] [schC s p w b] fun v E' L' => v = .agg (arr .i8 64 (colh (colN 6 set (rws x w b)) p)) ∧ E' = [schC s p w b] ∧ L' = [] := by
  have hz : rl [(64, .int .i8 0)] = arr .i8 64 fun _ => 0 := arr_zero
  have hwp : IntKind.i64.wrap (p : Int) = p := wrap_i64 (by omega) (by omega)
  refine ct_of spec_l02Columns_ok ?_
  simp [spec_l02Columns_F, spec_l02Columns_M, hz]
  refine wp_for p (fun k => ⟨[(0, .ptr (.e 0) 0), (1, .int .u8 set), (2, .bool x), (6, .ptr (.l 0) 0), (7, .ptr (.l 1) 0), (8, .int .i64 k)], [arr .i8 64 fun _ => 0, arr .i8 64 (colh (colN 6 set (rws x w b)) k)], [schC s p w b]⟩) ?_ ?_ ?_
  · simp; rfl
  · intro k hk
    have hk1 : (k : Int) < p := by omega
    have hwk : IntKind.i64.wrap ((k : Int) + 1) = k + 1 := wrap_i64 (by omega) (by omega)
    have hc : colN 6 set (rws x w b) k < 64 := colN_lt
    have hcall := l02Column_ct s p w b hw hb set hset x k (by omega)
    have hh : colh (colN 6 set (rws x w b)) (k + 1) = fun v => if v = colN 6 set (rws x w b) k then colh (colN 6 set (rws x w b)) k v + 1 else colh (colN 6 set (rws x w b)) k v := rfl
    have hl := colh_le (colN 6 set (rws x w b)) (colN 6 set (rws x w b) k) k
    rw [hh]
    generalize colh (colN 6 set (rws x w b)) k = h at *
    generalize colN 6 set (rws x w b) k = c at *
    have hw8 : IntKind.i8.wrap (h c + 1) = h c + 1 := wrap_i8 (by omega) (by omega)
    simp [spec_l02Columns_L0, hk1, hwp]
    refine call_s [.e 0] hcall (by simp) ?_
    simp [hc, show (c : Int) < 64 by omega, show c ≤ 63 by omega, hw8, hwk, arr_set]
    exact arr_congr fun i _ => by by_cases e : i = c <;> simp [e]
  · simp [spec_l02Columns_L0, hwp]
    exact ret_pu (by simp) (by simp) (by simp)

theorem columnsOf_ct (n off cap : Nat) (hn : n ≤ 8) (cs : List V) (r : Nat → Nat) (hr : ∀ i, r i < 256) (hcs : ∀ i, i < n → cs[off + i]? = some (.int .u8 (r i))) (hpu : puL cs) (p : Nat) (hp : p ≤ 8) (set : Nat) (hset : set < 256) (ro : Bool) :
    Ct Try.prog ro 138 [.sl (.e 0) off n cap, .int .i8 p, .int .u8 set] [cs] fun v E' L' => v = .sl (.l 0) 0 p p ∧ E' = [cs] ∧ L' = [byt p (colN n set r)] := by
  refine ct_of impl_columnsOf_ok ?_
  have hz : zrow [V.int .u8 0] p = byt p fun _ => 0 := by
    simp [zrow, byt, tab, Nat.mod_one]
  simp [impl_columnsOf_F, impl_columnsOf_M, hp, show (p : Int) ≤ 9223372036854775807 by omega, show (p : Int) ≤ 281474976710656 by omega, hz]
  refine wp_for n (fun i => ⟨[(2, .int .u8 set), (7, .sl (.l 0) 0 p p), (13, .sl (.e 0) off n cap), (14, .int .i64 n), (15, .int .i64 i)], [byt p (colN i set r)], [cs]⟩) ?_ ?_ ?_
  · simp; exact byt_congr fun k _ => by simp [colN, pic]
  · intro i hi
    have hi1 : (i : Int) < n := by omega
    have hwi : IntKind.i64.wrap ((i : Int) + 1) = i + 1 := wrap_i64 (by omega) (by omega)
    cases ht : set.testBit i
    · have hbit := bit8_f hset ht
      simp [impl_columnsOf_L0, hi, hi1, hcs i hi, hbit, hwi]
      exact byt_congr fun k _ => by simp [colN, pic, ht]
    · have hbit := bit8_t hset ht
      simp [impl_columnsOf_L0, hi, hi1, hcs i hi, hbit]
      refine wp_for p (fun k => ⟨[(2, .int .u8 set), (7, .sl (.l 0) 0 p p), (8, .int .i64 i), (9, .int .u8 (r i)), (13, .sl (.e 0) off n cap), (14, .int .i64 n), (15, .int .i64 i), (26, .int .i64 p), (27, .int .i64 k)], [byt p fun j => if j < k then colN (i + 1) set r j else colN i set r j], [cs]⟩) ?_ ?_ ?_
      · simp
      · intro k hk
        have hk1 : (k : Int) < p := by omega
        have hwk : IntKind.i64.wrap ((k : Int) + 1) = k + 1 := wrap_i64 (by omega) (by omega)
        have hst : orI .u8 (colN i set r k : Int) (shlI .u8 (andI .u8 (shrI .u8 (r i : Int) (k : Int)) 1) (i : Int)) = (colN (i + 1) set r k : Int) := take8 (F := fun j => set.testBit j && (r j).testBit k) (hr i) k (by omega) (by simp [ht])
        simp [impl_columnsOf_L1, hk, hk1, hst, hwk, byt_set, hi, show k + 1 ≤ p from hk]
        exact byt_congr fun j _ => by by_cases e : j = k <;> by_cases e2 : j < k <;> simp [e, e2] <;> omega
      · simp [impl_columnsOf_L1, hwi]
        exact byt_congr fun j hj => by simp [hj]
  · simp [impl_columnsOf_L0]
    exact ret_new 0 (c := byt p (colN n set r)) (v' := .sl (.l 0) 0 p p) (.inl (by simp [kmap])) (by simp) ⟨[], by simp⟩ (by simp) (by simpa using hpu) (by simp)

theorem columns_ct (s : Int) (p : Nat) (w b : Nat → Nat) (hp : p ≤ 8) (hw : ∀ i, w i < 256) (hb : ∀ i, b i < 256) (set : Nat) (hset : set < 256) (x : Bool) (ro : Bool) : Ct Try.prog ro 132 [sch s p w b, .int .u8 set, .bool x] [] fun v E' L' => v = .sl (.l 0) 0 p p ∧ E' = [] ∧ L' = [byt p (colN 6 set (rws x w b))] := by
  have hr := rws_lt (x := x) hw hb
  have h1 := columnsOf_ct 6 (if x then 8 else 2) 6 (by omega) (schC s p w b) (rws x w b) hr (fun i hi => by cases x <;> simp [rws, schC_w hi, schC_b hi]) (by simp) p hp set hset
  refine ct_of impl_Scheme_columns_ok ?_
  simp [impl_Scheme_columns_F, impl_Scheme_columns_M]
  refine calld_r [.l 0] (L2 := []) (rows_ct s p w b x) (by simp) (by simp) ?_
  simp
  refine calld_r [.l 0] h1 (by simp) (by simp) ?_
  simp
  exact ret_new 1 (c := byt p (colN 6 set (rws x w b))) (v' := .sl (.l 0) 0 p p) (.inl (by simp [kmap])) (by simp) ⟨[], by simp⟩ (by simp) (by simp) (by simp)
end Go.Proofs.Yteidfholicaocaa
