/- A part of the proof library: names for blocks of memory, a small form of the code, and rules for walks over it. -/
import Derived.Test.YteidfholicaocaaL3db
set_option linter.all false
namespace Go.Proofs.Yteidfholicaocaa
open Go.Ab
set_option maxHeartbeats 800000

theorem oall_stop {set : Nat} {r : Nat → Nat} {m : Nat} (h : ∀ i, m ≤ i → i < 6 → r i = 0) : ∀ j, m + j ≤ 6 → oall set r (m + j) = oall set r m
  | 0, _ => rfl
  | j + 1, hj => by
    rw [← Nat.add_assoc, oall, oall_stop h j (by omega), h (m + j) (by omega) (by omega)]
    simp
theorem sok_zero {s p : Int} {w b : Nat → Nat} (h : sok s p w b = true) {m : Nat} (hm : s = m) : ∀ i, m ≤ i → i < 6 → w i = 0 ∧ b i = 0 := fun i hi h6 => by
  have := ((sok_iff.1 h).2.2 i h6).2 (by omega)
  simpa using this
theorem wgt_to {s p : Int} {w b : Nat → Nat} (h : sok s p w b = true) {m : Nat} (hm : s = m) (set : Nat) (x : Bool) : wgt set x w b = cnt 64 (oall set (rws x w b) m) := by
  have h6 := (sok_iff.1 h).1
  obtain ⟨j, hj⟩ := Nat.exists_eq_add_of_le (show m ≤ 6 by omega)
  unfold wgt
  rw [hj, oall_stop (fun i hi h6 => by have := sok_zero h hm i hi h6; unfold rws; split; exact this.2; exact this.1) j (by omega)]

theorem sees_pc (s p : Int) (w b : Nat → Nat) (hw : ∀ i, w i < 256) (hb : ∀ i, b i < 256) (set : Nat) (hset : set < 256) : PC Try.prog 115 [sch s p w b, .int .u8 set] (.bool (decide (wgt set false w b < wgt set true w b))) := by
  have e1 : wgt set true w b ≤ 64 := cnt_le _ _
  have e2 : wgt set false w b ≤ 64 := cnt_le _ _
  have hg := gap_pc s p w b hw hb set hset
  rw [wrap_i64 (by omega) (by omega)] at hg
  have hd : decide (0 < (wgt set true w b : Int) - wgt set false w b) = decide (wgt set false w b < wgt set true w b) := by
    congr 1; exact propext ⟨fun h => by omega, fun h => by omega⟩
  rw [← hd]
  generalize (wgt set true w b : Int) - wgt set false w b = d at hg
  refine pc_of impl_Scheme_sees_ok (fun ro => ?_)
  simp [impl_Scheme_sees_F, impl_Scheme_sees_M]
  refine call_pc hg (by simp) (by simp) ?_
  simp
  exact ret_pu (by simp) (by simp) (by simp)

theorem l03Sees_ct (s p : Int) (w b : Nat → Nat) (hw : ∀ i, w i < 256) (hb : ∀ i, b i < 256) (h : sok s p w b = true) (set : Nat) (hset : set < 256) (ro : Bool) : Ct Try.prog ro 66 [.ptr (.e 0) 0, .int .u8 set] [schC s p w b] fun v E' L' => v = .tup [.int .i64 (wgt set false w b), .int .i64 (wgt set true w b)] ∧ E' = [schC s p w b] ∧ L' = [] := by
  have h6 := (sok_iff.1 h).1
  obtain ⟨m, hm⟩ := Int.eq_ofNat_of_zero_le (show 0 ≤ s by omega)
  rw [wgt_to h hm, wgt_to h hm]
  subst hm
  have hwm : IntKind.i64.wrap (m : Int) = m := wrap_i64 (by omega) (by omega)
  have hr0 : ∀ i, rws false w b i < 256 := rws_lt hw hb
  have hr1 : ∀ i, rws true w b i < 256 := rws_lt hw hb
  have ho0 := oall_lt (set := set) hr0
  have ho1 := oall_lt (set := set) hr1
  have f0 := l01Count_pc (oall set (rws false w b) m) (by have := ho0 m; omega)
  have f1 := l01Count_pc (oall set (rws true w b) m) (by have := ho1 m; omega)
  refine ct_of spec_l03Sees_ok ?_
  simp [spec_l03Sees_F, spec_l03Sees_M]
  refine wp_for m (fun k => ⟨[(0, .ptr (.e 0) 0), (1, .int .u8 set), (6, .int .u8 (oall set (rws false w b) k)), (7, .int .u8 (oall set (rws true w b) k)), (8, .int .i64 k)], [], [schC m p w b]⟩) ?_ ?_ ?_
  · simp [oall]
  · intro k hk
    have hk1 : (k : Int) < m := by omega
    have hk6 : k < 6 := by omega
    have hk7 : (k : Int) < 6 := by omega
    have hwk : IntKind.i64.wrap ((k : Int) + 1) = k + 1 := wrap_i64 (by omega) (by omega)
    have huk : IntKind.u64.wrap (k : Int) = k := wrap_u64 (by omega) (by omega)
    have hor0 : orI .u8 (oall set (rws false w b) k : Int) (w k : Int) = ((oall set (rws false w b) k ||| w k : Nat) : Int) := or8 (ho0 k) (hw k)
    have hor1 : orI .u8 (oall set (rws true w b) k : Int) (b k : Int) = ((oall set (rws true w b) k ||| b k : Nat) : Int) := or8 (ho1 k) (hb k)
    have hsh : shrI .u8 (set : Int) (k : Int) = ((set / 2 ^ k : Nat) : Int) := shr8 hset
    have han : andI .u8 ((set / 2 ^ k : Nat) : Int) 1 = ((set / 2 ^ k % 2 : Nat) : Int) := and8_one (div_lt hset)
    have hbit : decide (((set / 2 ^ k % 2 : Nat) : Int) = 1) = set.testBit k := dec_bit
    have hn0 : oall set (rws false w b) (k + 1) = if set.testBit k then oall set (rws false w b) k ||| w k else oall set (rws false w b) k := rfl
    have hn1 : oall set (rws true w b) (k + 1) = if set.testBit k then oall set (rws true w b) k ||| b k else oall set (rws true w b) k := rfl
    rw [hn0, hn1]
    generalize oall set (rws false w b) k = o0 at hor0
    generalize oall set (rws true w b) k = o1 at hor1
    generalize set / 2 ^ k = sk at hsh han hbit
    cases ht : set.testBit k
    · rw [ht] at hbit
      simp only [decide_eq_false_iff_not] at hbit
      generalize sk % 2 = s2 at han hbit
      simp [spec_l03Sees_L0, hwm, hk1, huk, hsh, han, hbit, hwk]
    · rw [ht] at hbit
      simp only [decide_eq_true_eq] at hbit
      rw [hbit] at han
      simp [spec_l03Sees_L0, hwm, hk1, hk6, hk7, schC_w hk6, schC_b hk6, huk, hsh, han, hor0, hor1, hwk, show 2 + k ≤ 13 by omega, show 8 + k ≤ 13 by omega]
  · have w0 : IntKind.u64.wrap (oall set (rws false w b) m : Int) = oall set (rws false w b) m := by have := ho0 m; exact wrap_u64 (by omega) (by omega)
    have w1 : IntKind.u64.wrap (oall set (rws true w b) m : Int) = oall set (rws true w b) m := by have := ho1 m; exact wrap_u64 (by omega) (by omega)
    simp [spec_l03Sees_L0, hwm, w0]
    refine call_pc f0 (by simp) (by simp) ?_
    simp [w1]
    refine call_pc f1 (by simp) (by simp) ?_
    simp
    exact ret_pu (by simp) (by simp) (by simp)

theorem l03Set_ct (s p : Int) (w b : Nat → Nat) (hs : 1 ≤ s ∧ s ≤ 6) (set : Nat) (hset : set < 256) (ro : Bool) : Ct Try.prog ro 65 [.ptr (.e 0) 0, .int .u8 set] [schC s p w b] fun v E' L' => v = .bool (!decide (set = 0) && decide (set < 2 ^ s.toNat)) ∧ E' = [schC s p w b] ∧ L' = [] := by
  have hu : IntKind.u64.wrap s = s := wrap_u64 (by omega) (by omega)
  obtain ⟨m, rfl⟩ := Int.eq_ofNat_of_zero_le (show 0 ≤ s by omega)
  have hsh : shrI .u8 (set : Int) (m : Int) = ((set / 2 ^ m : Nat) : Int) := shr8 hset
  have hz : set / 2 ^ m = 0 ↔ set < 2 ^ m := by
    constructor
    · intro h0
      rcases Nat.lt_or_ge set (2 ^ m) with h | h
      · exact h
      · have := Nat.div_pos h (Nat.pow_pos (by decide) : 0 < 2 ^ m); omega
    · exact Nat.div_eq_of_lt
  generalize set / 2 ^ m = o at hsh hz
  refine ct_of spec_l03Set_ok ?_
  by_cases h0 : set = 0
  · simp [spec_l03Set_F, spec_l03Set_M, h0]
    exact ret_pu (by simp) (by simp) (by simp [h0])
  · have hd : decide (o = 0) = decide (set < 2 ^ m) := by congr 1; exact propext hz
    simp [spec_l03Set_F, spec_l03Set_M, h0, hu, hsh]
    exact ret_pu (by simp) (by simp) ⟨by rw [hd], rfl, rfl⟩

end Go.Proofs.Yteidfholicaocaa
