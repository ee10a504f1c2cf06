/- A part of the proof library: names for blocks of memory, a small form of the code, and rules for walks over it. -/
import Derived.Test.YtmdemhfmhlnlgaaL3da
set_option linter.all false
namespace Go.Proofs.Ytmdemhfmhlnlgaa
open Go.Ab
set_option maxHeartbeats 800000

theorem oall_stop {set : Nat} {r : Nat → Nat} {m : Nat} (h : ∀ i, m ≤ i → i < 6 → r i = 0) : ∀ j, m + j ≤ 6 → oall set r (m + j) = oall set r m
  | 0, _ => rfl
  | j + 1, hj => by
    rw [← Nat.add_assoc, oall, oall_stop h j (by omega), h (m + j) (by omega) (by omega)]
    simp
theorem sok_zero {s p : Int} {w b : Nat → Nat} (h : sok s p w b = true) {m : Nat} (hm : s = m) : ∀ i, m ≤ i → i < 6 → w i = 0 ∧ b i = 0 := fun i hi h6 => by
  have := ((sok_iff.1 h).2.2 i h6).2 (by omega)
  simpa using this
theorem wgt_to {s p : Int} {w b : Nat → Nat} (h : sok s p w b = true) {m : Nat} (hm : s = m) (set : Nat) (x : Bool) : wgt set x w b = cnt 64 (oall set (rws x w b) m) := by
  have h6 := (sok_iff.1 h).1
  obtain ⟨j, hj⟩ := Nat.exists_eq_add_of_le (show m ≤ 6 by omega)
  unfold wgt
  rw [hj, oall_stop (fun i hi h6 => by have := sok_zero h hm i hi h6; unfold rws; split; exact this.2; exact this.1) j (by omega)]

theorem sees_pc (s p : Int) (w b : Nat → Nat) (hw : ∀ i, w i < 256) (hb : ∀ i, b i < 256) (set : Nat) (hset : set < 256) : PC Try.prog 109 [sch s p w b, .int .u8 set] (.bool (decide (wgt set false w b < wgt set true w b))) := by
  have e1 : wgt set true w b ≤ 64 := cnt_le _ _
  have e2 : wgt set false w b ≤ 64 := cnt_le _ _
  have hg := gap_pc s p w b hw hb set hset
  rw [wrap_i64 (by omega) (by omega)] at hg
  have hd : decide (0 < (wgt set true w b : Int) - wgt set false w b) = decide (wgt set false w b < wgt set true w b) := by
    congr 1; exact propext ⟨fun h => by omega, fun h => by omega⟩
  rw [← hd]
  generalize (wgt set true w b : Int) - wgt set false w b = d at hg
  refine pc_of impl_Scheme_sees_ok (fun ro => ?_)
  simp [impl_Scheme_sees_F, impl_Scheme_sees_M]
  refine call_pc hg (by simp) (by simp) ?_
  simp
  exact ret_pu (by simp) (by simp) (by simp)

end Go.Proofs.Ytmdemhfmhlnlgaa
