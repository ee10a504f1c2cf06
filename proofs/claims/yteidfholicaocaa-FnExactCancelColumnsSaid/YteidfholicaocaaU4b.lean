/- A part of the proof library: names for blocks of memory, a small form of the code, and rules for walks over it. -/
import Derived.Test.YteidfholicaocaaU3b
import Derived.Test.YteidfholicaocaaM2b
set_option linter.all false
namespace Go.Proofs.Yteidfholicaocaa
open Go.Ab
set_option linter.all false
theorem sortedColumns_ct (s : Int) (p : Nat) (w b : Nat → Nat) (h0 : 0 < p) (hp : p ≤ 8) (hw : ∀ i, w i < 256) (hb : ∀ i, b i < 256) (set : Nat) (hset : set < 256) (x : Bool) (ro : Bool) : Ct Try.prog ro 89 [sch s p w b, .int .u8 set, .bool x] [] fun v E' L' => v = .slx (.l 0) 0 p ∧ E' = [] ∧ L' = [byt p (srt p (colN 6 set (rws x w b)))] := by
  have h1 := columns_ct s p w b hp hw hb set hset x
  have h2 := values_ct 0 p p (byt p (colN 6 set (rws x w b))) (by simp)
  have h3 := sorted_ct p 0 p h0 hp (byt p (colN 6 set (rws x w b))) (by simp) (colN 6 set (rws x w b)) (fun i hi => by rw [Nat.zero_add]; exact byt_get hi)
  generalize colN 6 set (rws x w b) = c at *
  refine ct_of impl_Scheme_sortedColumns_ok ?_
  simp [impl_Scheme_sortedColumns_F, impl_Scheme_sortedColumns_M]
  refine call_rE [] (L2 := [byt p c]) h1 (sigOk_mk (by simp) rfl (by simp)) (by simp) (by simp) (by simp) ?_
  simp [nmap]
  refine call_rL [.l 1] h2 (sigOk_mk (by simp) rfl (by simp [St.blk])) (by simp [nmap]) (by simp) ?_
  simp [nmap, V.ren]
  refine call_rE [.l 2, .l 1] (L2 := [byt p (srt p c)]) h3 (sigOk_mk (by simp) rfl (by simp [St.blk, nmap])) (by simp [nmap]) (by simp [eoL, V.eo]) (by simp) ?_
  simp [nmap]
  exact ret_new 3 (c := byt p (srt p c)) (v' := .slx (.l 0) 0 p) (.inl (by simp [kmap])) (by simp) ⟨[], by simp⟩ (by simp) (by simp) (by simp)
def eqN : Nat → (Nat → Nat) → (Nat → Nat) → Bool
  | 0, _, _ => true
  | n + 1, f, g => eqN n f g && decide (f n = g n)
theorem eqN_iff {f g : Nat → Nat} : ∀ {n : Nat}, eqN n f g = true ↔ ∀ k, k < n → f k = g k
  | 0 => by simp [eqN]
  | n + 1 => by
    simp only [eqN, Bool.and_eq_true, eqN_iff, decide_eq_true_eq]
    exact ⟨fun ⟨h1, h2⟩ k hk => by
      rcases Nat.lt_succ_iff_lt_or_eq.1 hk with h | rfl
      · exact h1 k h
      · exact h2, fun h => ⟨fun k hk => h k (by omega), h n (by omega)⟩⟩
theorem equal_ct (n : Nat) (hn : n ≤ 1048576) (f g : Nat → Nat) (ro : Bool) : Ct Try.prog ro 124 [.slx (.e 0) 0 n, .slx (.e 1) 0 n] [byt n f, byt n g] fun v E' L' => v = .bool (eqN n f g) ∧ E' = [byt n f, byt n g] ∧ L' = [] := by
  refine ct_of slices_Equal___uint8_uint8__ok ?_
  simp [slices_Equal___uint8_uint8__F, slices_Equal___uint8_uint8__M]
  refine wp_forR n (fun k => ⟨[(0, .slx (.e 0) 0 n), (1, .slx (.e 1) 0 n), (12, .int .i64 n), (13, .int .i64 k)], [], [byt n f, byt n g]⟩) (fun k => f k = g k) ?_ ?_ ?_
  · intro k hk hg
    have hk1 : (k : Int) < n := by omega
    have hwk : IntKind.i64.wrap ((k : Int) + 1) = k + 1 := wrap_i64 (by omega) (by omega)
    have h1 := byt_get (f := f) hk
    have h2 := byt_get (f := g) hk
    simp [slices_Equal___uint8_uint8__L0, hk1, hk, h1, h2, hg, hwk]
  · intro k hk hg _
    have hk1 : (k : Int) < n := by omega
    have h1 := byt_get (f := f) hk
    have h2 := byt_get (f := g) hk
    have he : eqN n f g = false := by
      cases h : eqN n f g
      · rfl
      · exact absurd (eqN_iff.1 h k hk) hg
    have hg' : ¬ ((f k : Int) = (g k : Int)) := by omega
    simp [slices_Equal___uint8_uint8__L0, hk1, hk, h1, h2, hg, hg', he]
    exact ret_pu (by simp) (by simp) (by simp)
  · intro h
    have he : eqN n f g = true := eqN_iff.2 h
    simp [slices_Equal___uint8_uint8__L0, he]
    exact ret_pu (by simp) (by simp) (by simp)
theorem learnsNothing_pc (s : Int) (p : Nat) (w b : Nat → Nat) (h0 : 0 < p) (hp : p ≤ 8) (hw : ∀ i, w i < 256) (hb : ∀ i, b i < 256) (set : Nat) (hset : set < 256) : PC Try.prog 79 [sch s p w b, .int .u8 set] (.bool (eqN p (srt p (colN 6 set w)) (srt p (colN 6 set b)))) := by
  have h1 := sortedColumns_ct s p w b h0 hp hw hb set hset false
  have h2 := sortedColumns_ct s p w b h0 hp hw hb set hset true
  rw [show rws false w b = w from rfl] at h1
  rw [show rws true w b = b from rfl] at h2
  have h3 := equal_ct p (by omega) (srt p (colN 6 set w)) (srt p (colN 6 set b))
  generalize srt p (colN 6 set w) = f at *
  generalize srt p (colN 6 set b) = g at *
  refine pc_of impl_Scheme_learnsNothing_ok (fun ro => ?_)
  simp [impl_Scheme_learnsNothing_F, impl_Scheme_learnsNothing_M]
  refine calld_r [] h1 (by simp) (by simp) ?_
  simp
  refine calld_r [] h2 (by simp) (by simp) ?_
  simp
  refine calld_r [.l 1, .l 2] (L2 := []) h3 (by simp) (by simp) ?_
  simp
  exact ret_pu (by simp) (by simp) (by simp)
end Go.Proofs.Yteidfholicaocaa
