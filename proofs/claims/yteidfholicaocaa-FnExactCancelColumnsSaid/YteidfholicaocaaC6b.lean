/- A part of the proof library: names for blocks of memory, a small form of the code, and rules for walks over it. -/
import Derived.Test.YteidfholicaocaaC5b
import Derived.Test.YteidfholicaocaaAb25
set_option linter.all false
namespace Go.Proofs.Yteidfholicaocaa
open Go.Ab
set_option maxHeartbeats 800000

/-- The parts of the first shares of a set. -/
def oall (set : Nat) (r : Nat → Nat) : Nat → Nat
  | 0 => 0
  | k + 1 => if set.testBit k then oall set r k ||| r k else oall set r k
theorem oall_lt {set : Nat} {r : Nat → Nat} (hr : ∀ i, r i < 256) : ∀ k, oall set r k < 256
  | 0 => by simp [oall]
  | k + 1 => by
    simp only [oall]
    split
    · exact or_lt8 (oall_lt hr k) (hr k)
    · exact oall_lt hr k
def rws (x : Bool) (w b : Nat → Nat) : Nat → Nat := if x then b else w
theorem rws_lt {x : Bool} {w b : Nat → Nat} (hw : ∀ i, w i < 256) (hb : ∀ i, b i < 256) (i : Nat) : rws x w b i < 256 := by unfold rws; split; exact hb i; exact hw i
def wgt (set : Nat) (x : Bool) (w b : Nat → Nat) : Nat := cnt 64 (oall set (rws x w b) 6)

theorem rows_ct (s p : Int) (w b : Nat → Nat) (x : Bool) (ro : Bool) : Ct Try.prog ro 136 [.ptr (.e 0) 0, .bool x] [schC s p w b] fun v E' L' => v = .ptr (.e 0) (if x then 8 else 2) ∧ E' = [schC s p w b] ∧ L' = [] := by
  refine ct_of impl_Scheme_rows_ok ?_
  cases x
  · simp [impl_Scheme_rows_F, impl_Scheme_rows_M]
    exact ret_eo 1 (by simp) (by simp) (by simp)
  · simp [impl_Scheme_rows_F, impl_Scheme_rows_M]
    exact ret_eo 1 (by simp) (by simp) (by simp)

theorem weight_pc (s p : Int) (w b : Nat → Nat) (hw : ∀ i, w i < 256) (hb : ∀ i, b i < 256) (set : Nat) (hset : set < 256) (x : Bool) : PC Try.prog 116 [sch s p w b, .int .u8 set, .bool x] (.int .i64 (wgt set x w b)) := by
  have hr := rws_lt (x := x) hw hb
  have hol := oall_lt (set := set) hr
  have hfin := onesCount8_pc (oall set (rws x w b) 6) (hol 6)
  refine pc_of impl_Scheme_weight_ok (fun ro => ?_)
  simp [impl_Scheme_weight_F, impl_Scheme_weight_M]
  refine call_v [.l 0] (rows_ct s p w b x) (by simp) ?_
  simp
  refine wp_for 6 (fun k => ⟨[(1, .int .u8 set), (7, .int .u8 (oall set (rws x w b) k)), (11, .ptr (.l 0) (if x then 8 else 2)), (12, .int .i64 k)], [schC s p w b], []⟩) ?_ ?_ ?_
  · simp [oall]
  · intro k hk
    have hk1 : (k : Int) < 6 := by omega
    have hwk : IntKind.i64.wrap ((k : Int) + 1) = k + 1 := wrap_i64 (by omega) (by omega)
    have hor := or8 (hol k) (hr k)
    have hsh : shrI .u8 (set : Int) (k : Int) = ((set / 2 ^ k : Nat) : Int) := shr8 hset
    have han : andI .u8 ((set / 2 ^ k : Nat) : Int) 1 = ((set / 2 ^ k % 2 : Nat) : Int) := and8_one (div_lt hset)
    have hbit : decide (((set / 2 ^ k % 2 : Nat) : Int) = 1) = set.testBit k := dec_bit
    have hnext : oall set (rws x w b) (k + 1) = if set.testBit k then oall set (rws x w b) k ||| rws x w b k else oall set (rws x w b) k := rfl
    rw [hnext]
    generalize oall set (rws x w b) k = o at hor
    generalize set / 2 ^ k = sk at hsh han hbit
    cases x
    · have e : rws false w b k = w k := rfl
      rw [e] at hor ⊢
      cases ht : set.testBit k
      · rw [ht] at hbit
        simp only [decide_eq_false_iff_not] at hbit
        generalize sk % 2 = s2 at han hbit
        simp [impl_Scheme_weight_L0, hk, hk1, schC_w hk, hsh, han, hbit, hwk, show 2 + k ≤ 13 by omega]
      · rw [ht] at hbit
        simp only [decide_eq_true_eq] at hbit
        rw [hbit] at han
        simp [impl_Scheme_weight_L0, hk, hk1, schC_w hk, hsh, han, hor, hwk, show 2 + k ≤ 13 by omega]
    · have e : rws true w b k = b k := rfl
      rw [e] at hor ⊢
      cases ht : set.testBit k
      · rw [ht] at hbit
        simp only [decide_eq_false_iff_not] at hbit
        generalize sk % 2 = s2 at han hbit
        simp [impl_Scheme_weight_L0, hk, hk1, schC_b hk, hsh, han, hbit, hwk, show 8 + k ≤ 13 by omega]
      · rw [ht] at hbit
        simp only [decide_eq_true_eq] at hbit
        rw [hbit] at han
        simp [impl_Scheme_weight_L0, hk, hk1, schC_b hk, hsh, han, hor, hwk, show 8 + k ≤ 13 by omega]
  · simp [impl_Scheme_weight_L0]
    refine call_pc hfin (by simp) (by simp) ?_
    simp
    exact ret_pu (by simp) (by simp) (by simp [wgt])

theorem l02Rows_ct (s p : Int) (w b : Nat → Nat) (x : Bool) (ro : Bool) : Ct Try.prog ro 144 [.ptr (.e 0) 0, .bool x] [schC s p w b] fun v E' L' => v = .agg (byt 6 (rws x w b)) ∧ E' = [schC s p w b] ∧ L' = [] := by
  refine ct_of spec_l02Rows_ok ?_
  have hz : rl [(6, .int .u8 0)] = byt 6 fun _ => 0 := byt_zero
  cases x
  · simp [spec_l02Rows_F, spec_l02Rows_M, hz]
    exact ret_pu (by simp) (by simp) (by simp [rws])
  · simp [spec_l02Rows_F, spec_l02Rows_M, hz]
    exact ret_pu (by simp) (by simp) (by simp [rws])

theorem l02Weight_ct (s p : Int) (w b : Nat → Nat) (hw : ∀ i, w i < 256) (hb : ∀ i, b i < 256) (set : Nat) (hset : set < 256) (x : Bool) (ro : Bool) : Ct Try.prog ro 143 [.ptr (.e 0) 0, .int .u8 set, .bool x] [schC s p w b] fun v E' L' => v = .int .i64 (wgt set x w b) ∧ E' = [schC s p w b] ∧ L' = [] := by
  have hr := rws_lt (x := x) hw hb
  have hol := oall_lt (set := set) hr
  have hfin := l01Count_pc (oall set (rws x w b) 6) (by have := hol 6; omega)
  have hz : rl [(6, .int .u8 0)] = byt 6 fun _ => 0 := byt_zero
  refine ct_of spec_l02Weight_ok ?_
  simp [spec_l02Weight_F, spec_l02Weight_M, hz]
  refine call_s [.e 0] (l02Rows_ct s p w b x) (by simp) ?_
  simp
  refine wp_for 6 (fun k => ⟨[(1, .int .u8 set), (7, .ptr (.l 0) 0), (8, .int .u8 (oall set (rws x w b) k)), (9, .int .i64 k)], [byt 6 (rws x w b)], [schC s p w b]⟩) ?_ ?_ ?_
  · simp [oall]
  · intro k hk
    have hk1 : (k : Int) < 6 := by omega
    have hwk : IntKind.i64.wrap ((k : Int) + 1) = k + 1 := wrap_i64 (by omega) (by omega)
    have huk : IntKind.u64.wrap (k : Int) = k := wrap_u64 (by omega) (by omega)
    have hor := or8 (hol k) (hr k)
    have hsh : shrI .u8 (set : Int) (k : Int) = ((set / 2 ^ k : Nat) : Int) := shr8 hset
    have han : andI .u8 ((set / 2 ^ k : Nat) : Int) 1 = ((set / 2 ^ k % 2 : Nat) : Int) := and8_one (div_lt hset)
    have hbit : decide (((set / 2 ^ k % 2 : Nat) : Int) = 1) = set.testBit k := dec_bit
    have hnext : oall set (rws x w b) (k + 1) = if set.testBit k then oall set (rws x w b) k ||| rws x w b k else oall set (rws x w b) k := rfl
    rw [hnext]
    generalize oall set (rws x w b) k = o at hor
    generalize set / 2 ^ k = sk at hsh han hbit
    cases ht : set.testBit k
    · rw [ht] at hbit
      simp only [decide_eq_false_iff_not] at hbit
      generalize sk % 2 = s2 at han hbit
      simp [spec_l02Weight_L0, hk, hk1, huk, hsh, han, hbit, hwk]
    · rw [ht] at hbit
      simp only [decide_eq_true_eq] at hbit
      rw [hbit] at han
      simp [spec_l02Weight_L0, hk, hk1, huk, hsh, han, hor, hwk]
  · have hwo : IntKind.u64.wrap (oall set (rws x w b) 6 : Int) = oall set (rws x w b) 6 := by have := hol 6; exact wrap_u64 (by omega) (by omega)
    simp [spec_l02Weight_L0, hwo]
    refine call_pc hfin (by simp) (by simp) ?_
    simp
    exact ret_pu (by simp) (by simp) (by simp [wgt])

theorem all_pc (s p : Int) (w b : Nat → Nat) (hs : 0 ≤ s) : PC Try.prog 90 [sch s p w b] (.int .u8 (IntKind.u8.wrap (shlI .u8 1 s - 1))) := by
  refine pc_of impl_Scheme_all_ok (fun ro => ?_)
  simp [impl_Scheme_all_F, impl_Scheme_all_M, show ¬ s < 0 by omega]
  exact ret_pu (by simp) (by simp) (by simp)

theorem isSet_pc (s p : Int) (w b : Nat → Nat) (set : Nat) (hset : set < 256) : ∃ x, PC Try.prog 114 [sch s p w b, .int .u8 set] (.bool x) ∧ (1 ≤ s ∧ s ≤ 6 → x = decide (set < 2 ^ s.toNat)) := by
  by_cases h : 0 ≤ s
  · refine ⟨decide (ancI .u8 set (IntKind.u8.wrap (shlI .u8 1 s - 1)) = 0), ?_, ?_⟩
    · refine pc_of impl_Scheme_isSet_ok (fun ro => ?_)
      simp [impl_Scheme_isSet_F, impl_Scheme_isSet_M, h]
      refine call_pc (all_pc s p w b h) (by simp) (by simp) ?_
      simp
      exact ret_pu (by simp) (by simp) (by simp)
    · intro h6
      obtain ⟨m, rfl⟩ := Int.eq_ofNat_of_zero_le h
      have hw8 : ∀ k : Fin 9, IntKind.u8.wrap (shlI .u8 1 (k.val : Int) - 1) = ((2 ^ k.val - 1 : Nat) : Int) := by decide +kernel
      have hmk := hw8 ⟨m, by omega⟩
      simp only at hmk
      have hm : 2 ^ m - 1 < 256 := by
        have : 2 ^ m ≤ 2 ^ 8 := Nat.pow_le_pow_right (by decide) (by omega)
        omega
      have hz := anc_zero set m hset (by omega)
      rw [hmk, anc8 hset hm]
      congr 1
      simp only [Int.toNat_natCast]
      exact propext ⟨fun h => hz.1 (by omega), fun h => by have := hz.2 h; omega⟩
  · refine ⟨false, ?_, fun h6 => by omega⟩
    refine pc_of impl_Scheme_isSet_ok (fun ro => ?_)
    simp [impl_Scheme_isSet_F, impl_Scheme_isSet_M, h]
    exact ret_pu (by simp) (by simp) (by simp)

/-- The code of a scheme and a set. -/
noncomputable def sCode (s p : Int) (w b : Nat → Nat) (set : Nat) : Int := if sok s p w b = true then (if set < 2 ^ s.toNat then 0 else 2) else 1

theorem setCode_pc (s p : Int) (w b : Nat → Nat) (hs : -128 ≤ s ∧ s < 128) (hp : -128 ≤ p ∧ p < 128) (hw : ∀ i, w i < 256) (hb : ∀ i, b i < 256) (set : Nat) (hset : set < 256) : PC Try.prog 78 [sch s p w b, .int .u8 set] (.int .i64 (sCode s p w b set)) := by
  obtain ⟨x, hx, hx6⟩ := isSet_pc s p w b set hset
  refine pc_of impl_setCode_ok (fun ro => ?_)
  simp [impl_setCode_F, impl_setCode_M]
  refine calld_pc (implValidScheme_pc s p w b hs hp hw hb) (by simp) (by simp) ?_
  simp
  refine calld_pc hx (by simp) (by simp) ?_
  simp [zrow_f2, fc_two]
  refine calld_s [.l 1] (first2_ct (!sok s p w b) (!x) 1 2) (by simp) ?_
  simp
  refine ret_pu (by simp) (by simp) ⟨?_, rfl, rfl⟩
  unfold sCode
  by_cases h : sok s p w b = true
  · have := hx6 (sok_iff.1 h).1
    by_cases h2 : set < 2 ^ s.toNat <;> simp [h, this, h2]
  · have h : sok s p w b = false := by simpa using h
    simp [h]

theorem l02Asked_ct (s p : Int) (w b : Nat → Nat) (hs : -128 ≤ s ∧ s < 128) (hp : -128 ≤ p ∧ p < 128) (hw : ∀ i, w i < 256) (hb : ∀ i, b i < 256) (set : Nat) (hset : set < 256) (ro : Bool) : Ct Try.prog ro 76 [.ptr (.e 0) 0, .int .u8 set] [schC s p w b] fun v E' L' => v = .int .i64 (sCode s p w b set) ∧ E' = [schC s p w b] ∧ L' = [] := by
  refine ct_of spec_l02Asked_ok ?_
  simp [spec_l02Asked_F, spec_l02Asked_M]
  refine call_s [.e 0] (l02Ok_ct s p w b hs hp hw hb) (by simp) ?_
  by_cases h : sok s p w b = true
  · have h6 := (sok_iff.1 h).1
    have hu : IntKind.u64.wrap s = s := wrap_u64 (by omega) (by omega)
    have hc : sCode s p w b set = if set < 2 ^ s.toNat then 0 else 2 := by unfold sCode; rw [if_pos h]
    obtain ⟨m, rfl⟩ := Int.eq_ofNat_of_zero_le (show 0 ≤ s by omega)
    have hsh : shrI .u8 (set : Int) (m : Int) = ((set / 2 ^ m : Nat) : Int) := shr8 hset
    have hz : set / 2 ^ m = 0 ↔ set < 2 ^ m := by
      constructor
      · intro h0
        rcases Nat.lt_or_ge set (2 ^ m) with h | h
        · exact h
        · have := Nat.div_pos h (Nat.pow_pos (by decide) : 0 < 2 ^ m); omega
      · exact Nat.div_eq_of_lt
    simp only [Int.toNat_natCast] at hc
    generalize set / 2 ^ m = o at hsh hz
    by_cases h2 : set < 2 ^ m
    · have ho := hz.2 h2
      subst ho
      rw [if_pos h2] at hc
      simp at hsh
      simp [h, hu, hsh]
      exact ret_pu (by simp) (by simp) ⟨by rw [hc], rfl, rfl⟩
    · have ho : ¬ o = 0 := fun h => h2 (hz.1 h)
      rw [if_neg h2] at hc
      simp [h, hu, hsh, ho]
      exact ret_pu (by simp) (by simp) ⟨by rw [hc], rfl, rfl⟩
  · have h : sok s p w b = false := by simpa using h
    simp [h]
    exact ret_pu (by simp) (by simp) (by simp [sCode, h])
end Go.Proofs.Yteidfholicaocaa
