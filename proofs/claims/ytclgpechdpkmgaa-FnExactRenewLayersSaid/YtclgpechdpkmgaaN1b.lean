/- A part of the proof library: names for blocks of memory, a small form of the code, and rules for walks over it. -/
import Derived.Test.YtclgpechdpkmgaaS1b
set_option linter.all false
namespace Go.Proofs.Ytclgpechdpkmgaa
open Go.Ab
set_option maxHeartbeats 800000

/-- The next seed; the number drawn. -/
def nxt (s : Int) : Int := IntKind.u32.wrap (IntKind.u32.wrap (1664525 * s) + 1013904223)
def drw (s n : Int) : Int := (IntKind.i64.wrap (shrI .u32 (nxt s) 16)).tmod n

theorem draw_ct (s n : Int) (hn : n ≠ 0) : Ct Try.prog false 111 [.ptr (.e 0) 0, .int .i64 n] [[.int .u32 s]] (fun v E' L' => v = .int .i64 (drw s n) ∧ E' = [[.int .u32 (nxt s)]] ∧ L' = []) := by
  refine ct_of impl_draw_ok ?_
  simp [impl_draw_F, impl_draw_M, hn]
  exact ret_pu (by simp) (by simp) (by simp [drw, nxt])
theorem l03Number_pc (s n : Int) (hn : n ≠ 0) : PC Try.prog 110 [.int .u32 s, .int .i64 n] (.tup [.int .i64 (drw s n), .int .u32 (nxt s)]) := by
  refine pc_of spec_l03Number_ok (fun ro => ?_)
  simp [spec_l03Number_F, spec_l03Number_M, hn]
  exact ret_pu (by simp) (by simp) (by simp [drw, nxt])

theorem drw_range (s : Int) (n : Nat) (hn : 1 ≤ n) : ∃ k : Nat, drw s n = k ∧ k < n := by
  have h0 : ∀ x : Int, 0 ≤ IntKind.u32.wrap x ∧ IntKind.u32.wrap x < 4294967296 := fun x => by
    unfold IntKind.wrap; simp only [IntKind.bits, IntKind.signed, Bool.false_and, Bool.false_eq_true, if_false]; omega
  obtain ⟨h1, h2⟩ := h0 (IntKind.u32.wrap (1664525 * s) + 1013904223)
  have hx : nxt s = IntKind.u32.wrap (IntKind.u32.wrap (1664525 * s) + 1013904223) := rfl
  rw [← hx] at h1 h2
  obtain ⟨m, hm⟩ := Int.eq_ofNat_of_zero_le h1
  have hm2 : m < 2 ^ 32 := by omega
  have hs : shrI .u32 (nxt s) 16 = ((m / 2 ^ 16 : Nat) : Int) := by rw [hm]; exact shrI_n (k := .u32) (n := 16) hm2
  have hd : m / 2 ^ 16 < 2 ^ 16 := by omega
  refine ⟨m / 2 ^ 16 % n, ?_, Nat.mod_lt _ (by omega)⟩
  unfold drw
  rw [hs, wrap_i64 (by omega) (by omega)]
  rw [Int.tmod_eq_emod_of_nonneg (by omega)]
  rfl

def swp (F : Nat → Int) (i k : Nat) : Nat → Int := fun x => if x = i then F k else if x = k then F i else F x
def shufS (s : Int) : Nat → Int
  | 0 => s
  | j + 1 => nxt (shufS s j)
def shufF (n : Nat) (s : Int) : Nat → Nat → Int
  | 0 => fun i => i
  | j + 1 => swp (shufF n s j) (n - 1 - j) (drw (shufS s j) ((n - 1 - j + 1 : Nat) : Int)).toNat

theorem swp_eq (F : Nat → Int) (i k n : Nat) : (arr .i8 n fun j => if j = k then F i else if j = i then F k else F j) = arr .i8 n (swp F i k) :=
  arr_congr fun x _ => by
    unfold swp
    by_cases h1 : x = k
    · by_cases h2 : x = i
      · subst h1; subst h2; simp
      · simp [h1, h2]
        intro h; subst h; exact absurd h1 h2
    · simp [h1]

theorem drawOrder_ct (n : Nat) (hn : 1 ≤ n ∧ n ≤ 8) (s : Int) : Ct Try.prog false 63 [.ptr (.e 0) 0, .int .i8 n] [[.int .u32 s]] fun v E' L' => v = .slx (.l 0) 0 n ∧ E' = [[.int .u32 (shufS s (n - 1))]] ∧ L' = [arr .i8 n (shufF n s (n - 1))] := by
  refine ct_of impl_drawOrder_ok ?_
  simp [impl_drawOrder_F, impl_drawOrder_M]
  refine wp_forI n (fun k st => ∃ cap junk, k ≤ cap ∧ junk.length = cap - k ∧ puL junk ∧ st = ⟨[(0, .ptr (.e 0) 0), (1, .int .i8 n), (5, .sl (.l 0) 0 k cap), (10, .int .i8 n), (11, .int .i8 k)], [arr .i8 k (fun i => (i : Int)) ++ junk], [[.int .u32 s]]⟩) ?_ ?_ ?_
  · exact ⟨0, [], by omega, rfl, by simp, by simp; rfl⟩
  · rintro k st hk ⟨cap, junk, hle, hj, hpj, rfl⟩
    have hk1 : (k : Int) < n := by omega
    have hwk : IntKind.i8.wrap ((k : Int) + 1) = k + 1 := wrap_i8 (by omega) (by omega)
    simp [impl_drawOrder_L0, hk1]
    refine app_own (d := some 17) [5, 14] 0 k cap 1 (data := arr .i8 k fun i => (i : Int)) (news := [.int .i8 k]) (junk := junk) (by simp [appNew]) (by simp) (by simp) (by simp) (by simp) (by simp [hj]) hle (by omega) (by omega) (by simp) (by simp) hpj (by simp) (by simp) (by simp) (by simp [puL.nb _ hpj]) ?_
    intro cap' junk' h1 h2 h3
    simp at h2
    simp [hwk]
    exact ⟨puL.lt _ h3, cap', h1, junk', h2, h3, rfl, by rw [arr_snoc]; simp⟩
  · rintro st ⟨cap, junk, hle, hj, hpj, rfl⟩
    have hw1 : IntKind.i8.wrap ((n : Int) - 1) = ((n - 1 : Nat) : Int) := by rw [wrap_i8 (by omega) (by omega)]; omega
    simp [impl_drawOrder_L0, hw1]
    refine wp_for (n - 1) (fun j => ⟨[(0, .ptr (.e 0) 0), (5, .sl (.l 0) 0 n cap), (7, .int .i8 ((n - 1 - j : Nat) : Int))], [arr .i8 n (shufF n s j) ++ junk], [[.int .u32 (shufS s j)]]⟩) ?_ ?_ ?_
    · simp; exact ⟨rfl, rfl⟩
    · intro j hj1
      obtain ⟨q, hq⟩ : ∃ q, n - 1 - j = q + 1 := ⟨n - 1 - j - 1, by omega⟩
      have hq2 : n - 1 - (j + 1) = q := by omega
      have hF : shufF n s (j + 1) = swp (shufF n s j) (q + 1) (drw (shufS s j) ((q + 1 + 1 : Nat) : Int)).toNat := by rw [← hq]; rfl
      have hS : shufS s (j + 1) = nxt (shufS s j) := rfl
      obtain ⟨k, hk, hkn⟩ := drw_range (shufS s j) (q + 1 + 1) (by omega)
      have hdr := draw_ct (shufS s j) ((q + 1 + 1 : Nat) : Int) (by omega)
      rw [hF, hS, hk, Int.toNat_natCast]
      rw [hk] at hdr
      simp only [hq, hq2]
      generalize shufF n s j = F
      generalize nxt (shufS s j) = s2 at *
      generalize shufS s j = s1 at *
      have hw64 : IntKind.i64.wrap ((q : Int) + 1) = (q : Int) + 1 := wrap_i64 (by omega) (by omega)
      have hw64b : IntKind.i64.wrap ((q : Int) + 1 + 1) = ((q + 1 + 1 : Nat) : Int) := by rw [wrap_i64 (by omega) (by omega)]; omega
      have hw8 : IntKind.i8.wrap (q : Int) = q := wrap_i8 (by omega) (by omega)
      have hq8 : q + 1 < n := by omega
      have hkn2 : k < n := by omega
      have hkq : (k : Int) < n := by omega
      have hqq : (q : Int) + 1 < n := by omega
      have h1q : (1 : Int) ≤ (q : Int) + 1 := by omega
      simp [impl_drawOrder_L1, hw64, hw64b, h1q]
      refine call_f [.e 0] (L2 := []) hdr (by simp) (by simp) ?_
      have h0q : (0 : Int) ≤ (q : Int) + 1 := by omega
      simp [arr_app_getE hkn2, arr_app_getE hq8, hkq, hqq, h0q, arr_app_set hkn2, arr_app_set hq8, hw8, show k + 1 ≤ n + junk.length by omega, show k < n + junk.length by omega, show q + 1 + 1 ≤ n + junk.length by omega, show q + 1 < n + junk.length by omega]
      exact swp_eq F (q + 1) k n
    · simp [impl_drawOrder_L1]
      exact ret_new 0 (c := arr .i8 n (shufF n s (n - 1))) (v' := .slx (.l 0) 0 n) (.inr (by simp [V.hid, hle, kmap])) (by simp) ⟨junk, by simp⟩ (by simp) (by simp) (by simp)

theorem l03Order_ct (n : Nat) (hn : 1 ≤ n ∧ n ≤ 8) (s : Int) (ro : Bool) : Ct Try.prog ro 58 [.int .u32 s, .int .i64 n] [] fun v E' L' => v = .tup [.slx (.l 0) 0 n, .int .u32 (shufS s (n - 1))] ∧ E' = [] ∧ L' = [arr .i8 n (shufF n s (n - 1))] := by
  refine ct_of spec_l03Order_ok ?_
  simp [spec_l03Order_F, spec_l03Order_M]
  refine wp_forI n (fun k st => ∃ cap junk, k ≤ cap ∧ junk.length = cap - k ∧ puL junk ∧ st = ⟨[(0, .int .u32 s), (1, .int .i64 n), (6, .sl (.l 0) 0 k cap), (7, .int .i64 k)], [arr .i8 k (fun i => (i : Int)) ++ junk], []⟩) ?_ ?_ ?_
  · exact ⟨0, [], by omega, rfl, by simp, by simp; rfl⟩
  · rintro k st hk ⟨cap, junk, hle, hj, hpj, rfl⟩
    have hk1 : (k : Int) < n := by omega
    have hwk : IntKind.i64.wrap ((k : Int) + 1) = k + 1 := wrap_i64 (by omega) (by omega)
    have hw8 : IntKind.i8.wrap (k : Int) = k := wrap_i8 (by omega) (by omega)
    simp [spec_l03Order_L0, hk1, hw8]
    refine app_own (d := some 22) [6, 18] 0 k cap 1 (data := arr .i8 k fun i => (i : Int)) (news := [.int .i8 k]) (junk := junk) (by simp [appNew]) (by simp) (by simp) (by simp) (by simp) (by simp [hj]) hle (by omega) (by omega) (by simp) (by simp) hpj (by simp) (by simp) (by simp) (by simp [puL.nb _ hpj]) ?_
    intro cap' junk' h1 h2 h3
    simp at h2
    simp [hwk]
    exact ⟨puL.lt _ h3, cap', h1, junk', h2, h3, rfl, by rw [arr_snoc]; simp⟩
  · rintro st ⟨cap, junk, hle, hj, hpj, rfl⟩
    have hw1 : IntKind.i64.wrap ((n : Int) - 1) = ((n - 1 : Nat) : Int) := by rw [wrap_i64 (by omega) (by omega)]; omega
    simp [spec_l03Order_L0, hw1]
    refine wp_for (n - 1) (fun j => ⟨[(0, .int .u32 (shufS s j)), (6, .sl (.l 0) 0 n cap), (8, .int .i64 ((n - 1 - j : Nat) : Int))], [arr .i8 n (shufF n s j) ++ junk], []⟩) ?_ ?_ ?_
    · simp; exact ⟨rfl, rfl⟩
    · intro j hj1
      obtain ⟨q, hq⟩ : ∃ q, n - 1 - j = q + 1 := ⟨n - 1 - j - 1, by omega⟩
      have hq2 : n - 1 - (j + 1) = q := by omega
      have hF : shufF n s (j + 1) = swp (shufF n s j) (q + 1) (drw (shufS s j) ((q + 1 + 1 : Nat) : Int)).toNat := by rw [← hq]; rfl
      have hS : shufS s (j + 1) = nxt (shufS s j) := rfl
      obtain ⟨k, hk, hkn⟩ := drw_range (shufS s j) (q + 1 + 1) (by omega)
      have hdr := l03Number_pc (shufS s j) ((q + 1 + 1 : Nat) : Int) (by omega)
      rw [hF, hS, hk, Int.toNat_natCast]
      rw [hk] at hdr
      simp only [hq, hq2]
      generalize shufF n s j = F
      generalize nxt (shufS s j) = s2 at *
      generalize shufS s j = s1 at *
      have hw64b : IntKind.i64.wrap ((q : Int) + 1 + 1) = ((q + 1 + 1 : Nat) : Int) := by rw [wrap_i64 (by omega) (by omega)]; omega
      have hw64 : IntKind.i64.wrap (q : Int) = q := wrap_i64 (by omega) (by omega)
      have hq8 : q + 1 < n := by omega
      have hkn2 : k < n := by omega
      have hkq : (k : Int) < n := by omega
      have hqq : (q : Int) + 1 < n := by omega
      have h1q : (1 : Int) ≤ (q : Int) + 1 := by omega
      have h0q : (0 : Int) ≤ (q : Int) + 1 := by omega
      simp [spec_l03Order_L1, hw64b, h1q]
      refine call_pc hdr (by simp) (by simp) ?_
      simp [arr_app_getE hkn2, arr_app_getE hq8, hkq, hqq, h0q, arr_app_set hkn2, arr_app_set hq8, hw64, show k + 1 ≤ n + junk.length by omega, show k < n + junk.length by omega, show q + 1 + 1 ≤ n + junk.length by omega, show q + 1 < n + junk.length by omega]
      exact arr_congr fun x _ => rfl
    · simp [spec_l03Order_L1]
      exact ret_new 0 (c := arr .i8 n (shufF n s (n - 1))) (v' := .tup [.slx (.l 0) 0 n, .int .u32 (shufS s (n - 1))]) (.inr (by simp [V.hid, hidL, hle, kmap])) (by simp) ⟨junk, by simp⟩ (by simp) (by simp) (by simp)


end Go.Proofs.Ytclgpechdpkmgaa
