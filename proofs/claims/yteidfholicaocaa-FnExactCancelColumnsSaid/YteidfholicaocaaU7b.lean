/- A part of the proof library: names for blocks of memory, a small form of the code, and rules for walks over it. -/
import Derived.Test.YteidfholicaocaaU6b
import Derived.Test.YteidfholicaocaaAb36
set_option linter.all false
namespace Go.Proofs.Yteidfholicaocaa
open Go.Ab
set_option linter.all false
set_option maxHeartbeats 800000

theorem l02Listed_ct (F : Nat → Int) (n : Nat) (hn : n ≤ 64) (f : Nat → Nat) (hsd : Sd n f) (hf : ∀ k, k < n → f k < 64) (hF : ∀ c, c < 64 → F c = colh f n c) (ro : Bool) :
    Ct Try.prog ro 87 [.agg (arr .i8 64 F)] [] fun v E' L' => v = .slx (.l 0) 0 n ∧ E' = [] ∧ L' = [byt n f] := by
  refine ct_of spec_l02Listed_ok ?_
  simp [spec_l02Listed_F, spec_l02Listed_M]
  refine wp_forI 64 (fun c st => ∃ cap junk, clt f n c ≤ cap ∧ junk.length = cap - clt f n c ∧ puL junk ∧ st = ⟨[(1, .ptr (.l 0) 0), (3, .sl (.l 1) 0 (clt f n c) cap), (4, .int .i64 c)], [arr .i8 64 F, byt (clt f n c) f ++ junk], []⟩) ?_ ?_ ?_
  · exact ⟨0, [], by simp [clt_zero], by simp [clt_zero], by simp, by simp [clt_zero]; rfl⟩
  · rintro c st hc ⟨cap, junk, hle, hj, hpj, rfl⟩
    have hc1 : (c : Int) < 64 := by omega
    have hwc : IntKind.i64.wrap ((c : Int) + 1) = c + 1 := wrap_i64 (by omega) (by omega)
    have hw8 : IntKind.u8.wrap (c : Int) = c := wrap_u8 (by omega) (by omega)
    have hsu := clt_succ f c n
    have hle2 := clt_le f c n
    have hle3 := clt_le f (c + 1) n
    have hFc := hF c hc
    have hget := arr_get (k := .i8) (F := F) hc
    obtain ⟨q, hq⟩ := Int.eq_ofNat_of_zero_le (colh_le f c n).1
    rw [hq] at hsu hFc
    have hsum : clt f n (c + 1) = clt f n c + q := by omega
    have hpos : ∀ j, j < q → f (clt f n c + j) = c := fun j hj => by
      have hlt : clt f n c + j < n := by omega
      have a1 := (clt_sd c hsd _ hlt)
      have a2 := (clt_sd (c + 1) hsd _ hlt)
      omega
    rw [hsum]
    generalize clt f n c = m at *
    simp [spec_l02Listed_L0, hc1]
    refine wp_forI q (fun k st => ∃ cap junk, m + k ≤ cap ∧ junk.length = cap - (m + k) ∧ puL junk ∧ st = ⟨[(1, .ptr (.l 0) 0), (3, .sl (.l 1) 0 (m + k) cap), (4, .int .i64 c), (5, .int .i8 k)], [arr .i8 64 F, byt (m + k) f ++ junk], []⟩) ?_ ?_ ?_
    · exact ⟨cap, junk, by simpa using hle, by simpa using hj, hpj, by simp⟩
    · rintro k st hk ⟨cap, junk, hle, hj, hpj, rfl⟩
      have hk1 : (k : Int) < q := by omega
      have hwk : IntKind.i8.wrap ((k : Int) + 1) = k + 1 := wrap_i8 (by omega) (by omega)
      have hat := hpos k hk
      rw [show m + (k + 1) = m + k + 1 by omega]
      have ht : m + k ≤ 64 := by omega
      generalize m + k = t at *
      simp [spec_l02Listed_L1, hc1, hc, hget, hFc, hk1, hw8]
      refine app_ownT 2 (d := some 22) [3, 18, 21] 1 t cap 1 (data := byt t f) (news := [.int .u8 c]) (junk := junk) (by simp [appNew]) (by simp) (by simp) (by simp) (by simp) (by simp [hj]) hle (by omega) (by omega) (by simp) (by simp) hpj (by simp) (by simp) (by simp) (by simp) (by simp) (by simp [puL.nb _ hpj]) ?_
      intro cap' junk' h1 h2 h3
      simp at h2
      simp [hwk, puL.lt _ h3]
      exact ⟨cap', h1, junk', h2, h3, rfl, by rw [byt_snoc, hat]; simp⟩
    · rintro st ⟨cap, junk, hle, hj, hpj, rfl⟩
      simp [spec_l02Listed_L1, hc1, hc, hget, hFc, hwc]
      exact ⟨cap, hle, junk, hj, hpj, rfl, rfl⟩
  · rintro st ⟨cap, junk, hle, hj, hpj, rfl⟩
    rw [clt_all hf] at *
    simp [spec_l02Listed_L0]
    exact ret_new 1 (c := byt n f) (v' := .slx (.l 0) 0 n) (.inr (by simp [V.hid, hle, kmap])) (by simp) ⟨junk, by simp⟩ (by simp) (by simp) (by simp)
end Go.Proofs.Yteidfholicaocaa
