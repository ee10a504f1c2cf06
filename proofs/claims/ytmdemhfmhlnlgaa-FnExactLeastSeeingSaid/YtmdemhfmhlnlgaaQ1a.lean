/- A part of the proof library: names for blocks of memory, a small form of the code, and rules for walks over it. -/
import Derived.Test.YtmdemhfmhlnlgaaM3a
import Derived.Test.YtmdemhfmhlnlgaaS1a
set_option linter.all false
namespace Go.Proofs.Ytmdemhfmhlnlgaa
open Go.Ab
set_option maxHeartbeats 800000

/-- Those below n that a test lets by. -/
def selB (b : Nat → Bool) : Nat → List Nat
  | 0 => []
  | k + 1 => if b k = true then selB b k ++ [k] else selB b k
theorem selB_len (b : Nat → Bool) : ∀ n, (selB b n).length ≤ n
  | 0 => by simp [selB]
  | n + 1 => by have := selB_len b n; simp only [selB]; split <;> simp <;> omega
theorem selB_ext (b : Nat → Bool) (n : Nat) : ∀ j, ∃ l, selB b (n + j) = selB b n ++ l
  | 0 => ⟨[], by simp⟩
  | j + 1 => by
    obtain ⟨l, hl⟩ := selB_ext b n j
    rw [← Nat.add_assoc, selB, hl]
    split
    · exact ⟨l ++ [n + j], by simp⟩
    · exact ⟨l, rfl⟩
theorem selB_at {b : Nat → Bool} {n k : Nat} (hk : k < n) (hb : b k = true) : (selB b n).getD (selB b k).length 0 = k := by
  obtain ⟨j, rfl⟩ := Nat.exists_eq_add_of_le (show k + 1 ≤ n by omega)
  obtain ⟨l, hl⟩ := selB_ext b (k + 1) j
  rw [hl, selB, if_pos hb]
  simp [List.getD]

/-- None of the first j is in the family and within the set. -/
def lfl (fam set : Nat) : Nat → Bool
  | 0 => true
  | j + 1 => if decide (ancI .i64 (j : Int) (set : Int) = 0) && fam.testBit j then false else lfl fam set j
/-- The least sets of a family. -/
def lst (fam : Nat) : Nat → Bool := fun k => fam.testBit k && lfl fam k k
def lstL (fam : Nat) : List Nat := selB (lst fam) 64
def lstF (fam : Nat) : Nat → Nat := fun i => (lstL fam).getD i 0

theorem l02Least_ct (fam : Nat) (hf : fam < 18446744073709551616) (ro : Bool) : Ct Try.prog ro 97 [.int .u64 fam] [] fun v E' L' => v = .slx (.l 0) 0 (lstL fam).length ∧ E' = [] ∧ L' = [byt (lstL fam).length (lstF fam)] := by
  refine ct_of spec_l02Least_ok ?_
  simp [spec_l02Least_F, spec_l02Least_M]
  refine wp_forI 64 (fun k st => ∃ cap junk, (selB (lst fam) k).length ≤ cap ∧ junk.length = cap - (selB (lst fam) k).length ∧ puL junk ∧ st = ⟨[(0, .int .u64 fam), (3, .sl (.l 0) 0 (selB (lst fam) k).length cap), (4, .int .i64 k)], [byt (selB (lst fam) k).length (lstF fam) ++ junk], []⟩) ?_ ?_ ?_
  · exact ⟨0, [], by simp [selB], by simp [selB], by simp, by simp [selB]; rfl⟩
  · rintro k st hk ⟨cap, junk, hle, hj, hpj, rfl⟩
    have hk1 : (k : Int) < 64 := by omega
    have hwk : IntKind.i64.wrap ((k : Int) + 1) = k + 1 := wrap_i64 (by omega) (by omega)
    have hwu : IntKind.u64.wrap (k : Int) = k := wrap_u64 (by omega) (by omega)
    have hw8 : IntKind.u8.wrap (k : Int) = k := wrap_u8 (by omega) (by omega)
    have hck := selB_len (lst fam) k
    have hat : lst fam k = true → lstF fam (selB (lst fam) k).length = k := fun h => selB_at hk h
    have hnt : lst fam k = true → selB (lst fam) (k + 1) = selB (lst fam) k ++ [k] := fun h => by simp [selB, h]
    have hnf : lst fam k = false → selB (lst fam) (k + 1) = selB (lst fam) k := fun h => by simp [selB, h]
    have hlst : lst fam k = (fam.testBit k && lfl fam k k) := rfl
    generalize hc : (selB (lst fam) k).length = c at *
    cases hb : fam.testBit k
    · have hbit := bit64_f hf hb
      rw [hnf (by rw [hlst, hb]; rfl), hc]
      simp [spec_l02Least_L0, hk1, hwu, hbit, hwk]
      exact ⟨cap, hle, junk, hj, hpj, by simp⟩
    · have hbit := bit64_t hf hb
      simp [spec_l02Least_L0, hk1, hwu, hbit]
      refine wp_for k (fun j => ⟨[(0, .int .u64 fam), (3, .sl (.l 0) 0 c cap), (4, .int .i64 k), (5, .bool (lfl fam k j)), (6, .int .i64 j)], [byt c (lstF fam) ++ junk], []⟩) ?_ ?_ ?_
      · simp [lfl]
      · intro j hj2
        have hj1 : (j : Int) < k := by omega
        have hwj : IntKind.i64.wrap ((j : Int) + 1) = j + 1 := wrap_i64 (by omega) (by omega)
        have hwuj : IntKind.u64.wrap (j : Int) = j := wrap_u64 (by omega) (by omega)
        have hnx : lfl fam k (j + 1) = if decide (ancI .i64 (j : Int) (k : Int) = 0) && fam.testBit j then false else lfl fam k j := rfl
        rw [hnx]
        by_cases g1 : ancI .i64 (j : Int) (k : Int) = 0
        · cases hb2 : fam.testBit j
          · have hbit2 := bit64_f hf hb2
            simp [spec_l02Least_L1, hj1, g1, hwuj, hbit2, hwj]
          · have hbit2 := bit64_t hf hb2
            simp [spec_l02Least_L1, hj1, g1, hwuj, hbit2, hwj]
        · simp [spec_l02Least_L1, hj1, g1, hwj]
      · cases hl : lfl fam k k
        · rw [hnf (by rw [hlst, hb, hl]; rfl), hc]
          simp [spec_l02Least_L1, hwk]
          exact ⟨cap, hle, junk, hj, hpj, by simp⟩
        · have hlt : lst fam k = true := by rw [hlst, hb, hl]; rfl
          have hF := hat hlt
          rw [hnt hlt]
          simp only [List.length_append, List.length_cons, List.length_nil, Nat.zero_add, hc]
          simp [spec_l02Least_L1, hw8]
          refine app_ownT 1 (d := some 40) [3, 36, 39] 0 c cap 1 (data := byt c (lstF fam)) (news := [.int .u8 k]) (junk := junk) (by simp [appNew]) (by simp) (by simp) (by simp) (by simp) (by simp [hj]) hle (by omega) (by omega) (by simp) (by simp) hpj (by simp) (by simp) (by simp) (by simp) (by simp) (by simp [puL.nb _ hpj]) ?_
          intro cap' junk' h1 h2 h3
          simp at h2
          simp [hwk]
          exact ⟨cap', h1, junk', h2, h3, rfl, by rw [byt_snoc, hF]; simp⟩
  · rintro st ⟨cap, junk, hle, hj, hpj, rfl⟩
    simp [spec_l02Least_L0]
    exact ret_new 0 (c := byt (lstL fam).length (lstF fam)) (v' := .slx (.l 0) 0 (lstL fam).length) (.inr (by simp only [lstL]; simp [V.hid, hle, kmap])) (by simp) ⟨junk, by simp [lstL]⟩ (by simp) (by simp) (by simp)
theorem leastSets_ct (fam : Nat) (hf : fam < 18446744073709551616) (ro : Bool) : Ct Try.prog ro 98 [.int .u64 fam] [] fun v E' L' => v = .slx (.l 0) 0 (lstL fam).length ∧ E' = [] ∧ L' = [byt (lstL fam).length (lstF fam)] := by
  refine ct_of impl_leastSets_ok ?_
  simp [impl_leastSets_F, impl_leastSets_M]
  refine wp_forI 64 (fun k st => ∃ cap junk, (selB (lst fam) k).length ≤ cap ∧ junk.length = cap - (selB (lst fam) k).length ∧ puL junk ∧ st = ⟨[(0, .int .u64 fam), (3, .sl (.l 0) 0 (selB (lst fam) k).length cap), (8, .int .i64 k)], [byt (selB (lst fam) k).length (lstF fam) ++ junk], []⟩) ?_ ?_ ?_
  · exact ⟨0, [], by simp [selB], by simp [selB], by simp, by simp [selB]; rfl⟩
  · rintro k st hk ⟨cap, junk, hle, hj, hpj, rfl⟩
    have hk1 : (k : Int) < 64 := by omega
    have hwk : IntKind.i64.wrap ((k : Int) + 1) = k + 1 := wrap_i64 (by omega) (by omega)
    have hwu : IntKind.u64.wrap (k : Int) = k := wrap_u64 (by omega) (by omega)
    have hw8 : IntKind.u8.wrap (k : Int) = k := wrap_u8 (by omega) (by omega)
    have hck := selB_len (lst fam) k
    have hat : lst fam k = true → lstF fam (selB (lst fam) k).length = k := fun h => selB_at hk h
    have hnt : lst fam k = true → selB (lst fam) (k + 1) = selB (lst fam) k ++ [k] := fun h => by simp [selB, h]
    have hnf : lst fam k = false → selB (lst fam) (k + 1) = selB (lst fam) k := fun h => by simp [selB, h]
    have hlst : lst fam k = (fam.testBit k && lfl fam k k) := rfl
    generalize hc : (selB (lst fam) k).length = c at *
    cases hb : fam.testBit k
    · have hbit := bit64_f hf hb
      rw [hnf (by rw [hlst, hb]; rfl), hc]
      simp [impl_leastSets_L0, hk1, hwu, hbit, hwk]
      exact ⟨cap, hle, junk, hj, hpj, by simp⟩
    · have hbit := bit64_t hf hb
      simp [impl_leastSets_L0, hk1, hwu, hbit]
      refine wp_for k (fun j => ⟨[(0, .int .u64 fam), (3, .sl (.l 0) 0 c cap), (4, .int .i64 k), (5, .bool (lfl fam k j)), (8, .int .i64 k), (16, .int .i64 k), (17, .int .i64 j)], [byt c (lstF fam) ++ junk], []⟩) ?_ ?_ ?_
      · simp [lfl]
      · intro j hj2
        have hj1 : (j : Int) < k := by omega
        have hwj : IntKind.i64.wrap ((j : Int) + 1) = j + 1 := wrap_i64 (by omega) (by omega)
        have hwuj : IntKind.u64.wrap (j : Int) = j := wrap_u64 (by omega) (by omega)
        have hnx : lfl fam k (j + 1) = if decide (ancI .i64 (j : Int) (k : Int) = 0) && fam.testBit j then false else lfl fam k j := rfl
        rw [hnx]
        by_cases g1 : ancI .i64 (j : Int) (k : Int) = 0
        · cases hb2 : fam.testBit j
          · have hbit2 := bit64_f hf hb2
            simp [impl_leastSets_L1, hj1, g1, hwuj, hbit2, hwj]
          · have hbit2 := bit64_t hf hb2
            simp [impl_leastSets_L1, hj1, g1, hwuj, hbit2, hwj]
        · simp [impl_leastSets_L1, hj1, g1, hwj]
      · cases hl : lfl fam k k
        · rw [hnf (by rw [hlst, hb, hl]; rfl), hc]
          simp [impl_leastSets_L1, hwk]
          exact ⟨cap, hle, junk, hj, hpj, by simp⟩
        · have hlt : lst fam k = true := by rw [hlst, hb, hl]; rfl
          have hF := hat hlt
          rw [hnt hlt]
          simp only [List.length_append, List.length_cons, List.length_nil, Nat.zero_add, hc]
          simp [impl_leastSets_L1, hw8]
          refine app_ownT 1 (d := some 37) [3, 33, 36] 0 c cap 1 (data := byt c (lstF fam)) (news := [.int .u8 k]) (junk := junk) (by simp [appNew]) (by simp) (by simp) (by simp) (by simp) (by simp [hj]) hle (by omega) (by omega) (by simp) (by simp) hpj (by simp) (by simp) (by simp) (by simp) (by simp) (by simp [puL.nb _ hpj]) ?_
          intro cap' junk' h1 h2 h3
          simp at h2
          simp [hwk]
          exact ⟨cap', h1, junk', h2, h3, rfl, by rw [byt_snoc, hF]; simp⟩
  · rintro st ⟨cap, junk, hle, hj, hpj, rfl⟩
    simp [impl_leastSets_L0]
    exact ret_new 0 (c := byt (lstL fam).length (lstF fam)) (v' := .slx (.l 0) 0 (lstL fam).length) (.inr (by simp only [lstL]; simp [V.hid, hle, kmap])) (by simp) ⟨junk, by simp [lstL]⟩ (by simp) (by simp) (by simp)

theorem leastSeeing_ok (m p : Nat) (hm : m ≤ 6) (hp : p ≤ 8) (w b : Nat → Nat) (hw : ∀ i, w i < 256) (hb : ∀ i, b i < 256) (hok : sok m p w b = true) :
    ∃ n f, n ≤ 64 ∧ (∀ ro, Ct Try.prog ro 52 [sch m p w b] [] fun v E' L' => v = .tup [.slx (.l 0) 0 n, .int .i64 0] ∧ E' = [] ∧ L' = [byt n f]) ∧
      (∀ ro, Ct Try.prog ro 53 [sch m p w b] [] fun v E' L' => v = .tup [.slx (.l 0) 0 n, .int .i64 0] ∧ E' = [] ∧ L' = [byt n f]) := by
  have k1 := l02Ok_ct m p w b (by omega) (by omega) hw hb
  have k2 := implValidScheme_pc m p w b (by omega) (by omega) hw hb
  rw [hok] at k1 k2
  have k3 := l02Sets_ct m p hm hp w b hw hb
  have k4 := seeing_pc m hm p w b hw hb
  have hlt : pic (2 ^ m) (seeB w b) < 18446744073709551616 := pic_lt64 _ (pow_bits hm)
  have k5 := l02Least_ct _ hlt
  have k6 := leastSets_ct _ hlt
  generalize pic (2 ^ m) (blindB p w b) = bl at *
  generalize pic (2 ^ m) (seeB w b) = fam at *
  refine ⟨(lstL fam).length, lstF fam, selB_len _ _, fun ro => ?_, fun ro => ?_⟩
  · refine ct_of spec_LeastSeeing_ok ?_
    simp [spec_LeastSeeing_F, spec_LeastSeeing_M]
    refine call_s [.l 0] k1 (by simp) ?_
    simp
    refine call_s [.l 0] k3 (by simp) ?_
    simp
    refine call_g [] k5 (by simp) (by simp) ?_
    simp
    exact ret_new 1 (c := byt (lstL fam).length (lstF fam)) (v' := .tup [.slx (.l 0) 0 (lstL fam).length, .int .i64 0]) (.inl (by simp [kmap])) (by simp) ⟨[], by simp⟩ (by simp) (by simp) (by simp)
  · refine ct_of impl_LeastSeeing_ok ?_
    simp [impl_LeastSeeing_F, impl_LeastSeeing_M]
    refine call_pc k2 (by simp) (by simp) ?_
    simp
    refine call_pc k4 (by simp) (by simp) ?_
    simp
    refine call_g [] k6 (by simp) (by simp) ?_
    simp
    exact ret_new 1 (c := byt (lstL fam).length (lstF fam)) (v' := .tup [.slx (.l 0) 0 (lstL fam).length, .int .i64 0]) (.inl (by simp [kmap])) (by simp) ⟨[], by simp⟩ (by simp) (by simp) (by simp)
theorem leastSeeing_no (s p : Int) (w b : Nat → Nat) (hs : -128 ≤ s ∧ s < 128) (hp : -128 ≤ p ∧ p < 128) (hw : ∀ i, w i < 256) (hb : ∀ i, b i < 256) (hok : sok s p w b = false) :
    (∀ ro, Ct Try.prog ro 52 [sch s p w b] [] fun v E' L' => v = .tup [.slx (.l 0) 0 0, .int .i64 1] ∧ E' = [] ∧ L' = [byt 0 fun _ => 0]) ∧
      PC Try.prog 53 [sch s p w b] (.tup [.nilsl, .int .i64 1]) := by
  have k1 := l02Ok_ct s p w b hs hp hw hb
  have k2 := implValidScheme_pc s p w b hs hp hw hb
  rw [hok] at k1 k2
  refine ⟨fun ro => ?_, ?_⟩
  · refine ct_of spec_LeastSeeing_ok ?_
    simp [spec_LeastSeeing_F, spec_LeastSeeing_M]
    refine call_s [.l 0] k1 (by simp) ?_
    simp
    exact ret_new 1 (c := byt 0 fun _ => 0) (v' := .tup [.slx (.l 0) 0 0, .int .i64 1]) (.inr (by simp [V.hid, hidL, kmap])) (by simp) ⟨[], by simp [byt, tab, zrow]⟩ (by simp) (by simp) (by simp)
  · refine pc_of impl_LeastSeeing_ok (fun ro => ?_)
    simp [impl_LeastSeeing_F, impl_LeastSeeing_M]
    refine call_pc k2 (by simp) (by simp) ?_
    simp
    exact ret_pu (by simp) (by simp) (by simp)

set_option maxRecDepth 10000 in
set_option maxHeartbeats 6000000 in
theorem lawLeastSeeing (s p : Int) (w b : Nat → Nat) (hs : -128 ≤ s ∧ s < 128) (hp : -128 ≤ p ∧ p < 128) (hw : ∀ i, w i < 256) (hb : ∀ i, b i < 256) : PC Try.prog 14 [sch s p w b] (.bool true) := by
  refine pc_of laws_FnExactLeastSeeing_ok (fun ro => ?_)
  cases hok : sok s p w b
  · obtain ⟨h1, h2⟩ := leastSeeing_no s p w b hs hp hw hb hok
    have e2 := markNilByteS_ct 1
    have e3 := heldNilByteS_ct 1
    simp [laws_FnExactLeastSeeing_F, laws_FnExactLeastSeeing_M]
    refine call_pc (toScheme_pc s p w b) (by simp) (by simp) ?_
    simp
    refine call_g [] h1 (by simp) (by simp) ?_
    simp
    refine call_pc (toScheme_pc s p w b) (by simp) (by simp) ?_
    simp
    refine call_pc h2 (by simp) (by simp) ?_
    simp
    refine call_s [.l 1] eqNilByteS_ct (by simp) ?_
    simp
    refine call_pc e2 (by simp) (by simp) ?_
    simp
    refine call_pc e3 (by simp) (by simp) ?_
    simp
    refine call_pc (toScheme_pc s p w b) (by simp) (by simp) ?_
    simp
    refine call_pc h2 (by simp) (by simp) ?_
    simp
    refine call_s [.l 1] eqNilByteS_ct (by simp) ?_
    simp
    refine call_pc e3 (by simp) (by simp) ?_
    simp
    exact ret_pu (by simp) (by simp) (by simp)
  · obtain ⟨g1, g2, _⟩ := sok_iff.1 hok
    obtain ⟨m, rfl⟩ := Int.eq_ofNat_of_zero_le (show 0 ≤ s by omega)
    obtain ⟨q, rfl⟩ := Int.eq_ofNat_of_zero_le (show 0 ≤ p by omega)
    obtain ⟨n, f, hn, h1, h2⟩ := leastSeeing_ok m q (by omega) (by omega) w b hw hb hok
    have e1 := eqByteS_ct n (by omega) f
    have e2 := markByteS_ct n 1 (by omega) f
    have e3 := heldByteS_ct n 1 (by omega)
    have hz : ¬ (((1 : Nat) : Int) + (n : Int) < 0) := by omega
    generalize ((1 : Nat) : Int) + (n : Int) = z at *
    have hrow : puL (byt n fun i => mkB (1 + i)) := byt_pu
    simp [laws_FnExactLeastSeeing_F, laws_FnExactLeastSeeing_M]
    refine call_pc (toScheme_pc m q w b) (by simp) (by simp) ?_
    simp
    refine call_g [] h1 (by simp) (by simp) ?_
    simp
    refine call_pc (toScheme_pc m q w b) (by simp) (by simp) ?_
    simp
    refine call_g [] h2 (by simp) (by simp) ?_
    simp
    refine call_s [.l 2, .l 1] e1 (by simp) ?_
    simp
    generalize (byt n fun i => mkB (1 + i)) = row at *
    refine call_w [.l 2] e2 (by simp) (by simpa using hrow) ?_
    simp
    refine call_s [.l 2] e3 (by simpa using hrow) ?_
    simp [hz]
    refine call_pc (toScheme_pc m q w b) (by simp) (by simp) ?_
    simp
    refine call_g [] h2 (by simp) (by simp) ?_
    simp
    refine call_s [.l 3, .l 1] e1 (by simp) ?_
    simp
    refine call_s [.l 2] e3 (by simpa using hrow) ?_
    simp [hz]
    exact ret_pu (by simp) (by simp) (by simp)
end Go.Proofs.Ytmdemhfmhlnlgaa
