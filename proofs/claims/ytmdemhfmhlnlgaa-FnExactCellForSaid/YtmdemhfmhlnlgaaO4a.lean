/- A part of the proof library: names for blocks of memory, a small form of the code, and rules for walks over it. -/
import Derived.Test.YtmdemhfmhlnlgaaO3a
set_option linter.all false
namespace Go.Proofs.Ytmdemhfmhlnlgaa
open Go.Ab
set_option maxHeartbeats 800000

def cellG (len : Nat) (F : Nat → Int) (r : Nat → Nat) : Nat → Nat := fun i => reoB len F (r i)
theorem l03Cell_ct (len : Nat) (hl : len ≤ 8) (F : Nat → Int) (hF : ∀ i, i < len → 0 ≤ F i) (hF2 : ∀ i, F i < 128) (m : Nat) (hm : m ≤ 6) (p : Int) (w b : Nat → Nat) (hw : ∀ i, w i < 256) (hb : ∀ i, b i < 256) (x : Bool) (ro : Bool) :
    Ct Try.prog ro 92 [.ptr (.e 0) 0, .bool x, .slx (.e 1) 0 len] [schC m p w b, arr .i8 len F] fun v E' L' => v = .slx (.l 0) 0 m ∧ E' = [schC m p w b, arr .i8 len F] ∧ L' = [byt m (cellG len F (rws x w b))] := by
  have hwm : IntKind.i64.wrap (m : Int) = m := wrap_i64 (by omega) (by omega)
  refine ct_of spec_l03Cell_ok ?_
  simp [spec_l03Cell_F, spec_l03Cell_M]
  refine wp_forI m (fun k st => ∃ cap junk, k ≤ cap ∧ junk.length = cap - k ∧ puL junk ∧ st = ⟨[(0, .ptr (.e 0) 0), (1, .bool x), (2, .slx (.e 1) 0 len), (7, .sl (.l 0) 0 k cap), (8, .int .i64 k)], [byt k (cellG len F (rws x w b)) ++ junk], [schC m p w b, arr .i8 len F]⟩) ?_ ?_ ?_
  · exact ⟨0, [], by omega, rfl, by simp, by simp; rfl⟩
  · rintro k st hk ⟨cap, junk, hle, hj, hpj, rfl⟩
    have hk1 : (k : Int) < m := by omega
    have hk6 : k < 6 := by omega
    have hk61 : (k : Int) < 6 := by omega
    have hwk : IntKind.i64.wrap ((k : Int) + 1) = k + 1 := wrap_i64 (by omega) (by omega)
    have hcall := l01Reordered_ct len hl F hF hF2 (rws x w b k) (rws_lt hw hb k)
    have hG : reoB len F (rws x w b k) = cellG len F (rws x w b) k := rfl
    rw [hG] at hcall
    cases x
    · have e : rws false w b k = w k := rfl
      rw [e] at hcall
      simp [spec_l03Cell_L0, hwm, hk1, hk6, hk61, schC_w hk6, schC_b hk6, show 2 + k ≤ 13 by omega, show 8 + k ≤ 13 by omega]
      refine call_s [.e 1] hcall (by simp) ?_
      simp
      refine app_own (d := some 38) [7, 33] 0 k cap 1 (data := byt k (cellG len F (rws false w b))) (news := [.int .u8 (cellG len F (rws false w b) k)]) (junk := junk) (by simp [appNew]) (by simp) (by simp) (by simp) (by simp) (by simp [hj]) hle (by omega) (by omega) (by simp) (by simp) hpj (by simp) (by simp) (by simp) (by simp [puL.nb _ hpj]) ?_
      intro cap' junk' h1 h2 h3
      simp at h2
      simp [hwk]
      exact ⟨puL.lt _ h3, cap', h1, junk', h2, h3, rfl, by rw [byt_snoc]; simp⟩
    · have e : rws true w b k = b k := rfl
      rw [e] at hcall
      simp [spec_l03Cell_L0, hwm, hk1, hk6, hk61, schC_w hk6, schC_b hk6, show 2 + k ≤ 13 by omega, show 8 + k ≤ 13 by omega]
      refine call_s [.e 1] hcall (by simp) ?_
      simp
      refine app_own (d := some 38) [7, 33] 0 k cap 1 (data := byt k (cellG len F (rws true w b))) (news := [.int .u8 (cellG len F (rws true w b) k)]) (junk := junk) (by simp [appNew]) (by simp) (by simp) (by simp) (by simp) (by simp [hj]) hle (by omega) (by omega) (by simp) (by simp) hpj (by simp) (by simp) (by simp) (by simp [puL.nb _ hpj]) ?_
      intro cap' junk' h1 h2 h3
      simp at h2
      simp [hwk]
      exact ⟨puL.lt _ h3, cap', h1, junk', h2, h3, rfl, by rw [byt_snoc]; simp⟩
  · rintro st ⟨cap, junk, hle, hj, hpj, rfl⟩
    simp [spec_l03Cell_L0, hwm]
    exact ret_new 0 (c := byt m (cellG len F (rws x w b))) (v' := .slx (.l 0) 0 m) (.inr (by simp [V.hid, hle, kmap])) (by simp) ⟨junk, by simp⟩ (by simp) (by simp) (by simp)

theorem cellFor_ok (len : Nat) (hl : len ≤ 1048576) (F : Nat → Int) (hF : ∀ i, -128 ≤ F i ∧ F i < 128) (m : Nat) (p : Int) (w b : Nat → Nat) (hp : -128 ≤ p ∧ p < 128) (hw : ∀ i, w i < 256) (hb : ∀ i, b i < 256) (hok : sok m p w b = true) (ho : OrdP F len p) (x : Bool) :
    (∀ ro, Ct Try.prog ro 45 [sch m p w b, .bool x, .slx (.e 0) 0 len] [arr .i8 len F] fun v E' L' => v = .tup [.slx (.l 0) 0 m, .int .i64 0] ∧ E' = [arr .i8 len F] ∧ L' = [byt m (cellG len F (rws x w b))]) ∧
    (∀ ro, Ct Try.prog ro 46 [sch m p w b, .bool x, .slx (.e 0) 0 len] [arr .i8 len F] fun v E' L' => v = .tup [.slx (.l 0) 0 m, .int .i64 0] ∧ E' = [arr .i8 len F] ∧ L' = [byt m (cellG len F (rws x w b))]) := by
  obtain ⟨h1, h2, _⟩ := sok_iff.1 hok
  have k1 := specValidScheme_pc m p w b (by omega) hp hw hb
  have k2 := l01Order_ct len hl F hF p hp
  have k3 := implValidScheme_pc m p w b (by omega) hp hw hb
  have k4 := isOrder_ct len hl F hF p hp
  have hw1 : IntKind.i64.wrap p = p := wrap_i64 (by omega) (by omega)
  rw [hok] at k1 k3
  rw [ordB_iff.2 ho] at k2 k4
  have hlen := ho.2
  have hl8 : len ≤ 8 := by omega
  have h0 : ∀ i, i < len → 0 ≤ F i := fun i hi => (ho.1 i hi).1
  have hm : m ≤ 6 := by omega
  refine ⟨fun ro => ?_, fun ro => ?_⟩
  · have k5 := l03Cell_ct len hl8 F h0 (fun i => (hF i).2) m hm p w b hw hb x
    refine ct_of spec_CellFor_ok ?_
    simp [spec_CellFor_F, spec_CellFor_M]
    refine call_pc k1 (by simp) (by simp) ?_
    simp [hw1]
    refine call_s [.e 0] k2 (by simp) ?_
    simp
    refine call_rE [.l 0, .e 0] k5 (sigOk_mk (by simp) (by simp) (by simp)) (by simp) (by simp) (by simp) ?_
    simp
    exact ret_new 1 (c := byt m (cellG len F (rws x w b))) (v' := .tup [.slx (.l 0) 0 m, .int .i64 0]) (.inl (by simp [kmap])) (by simp) ⟨[], by simp⟩ (by simp) (by simp) (by simp)
  · refine ct_of impl_CellFor_ok ?_
    simp [impl_CellFor_F, impl_CellFor_M]
    refine calld_pc k3 (by simp) (by simp) ?_
    simp
    refine calld_r [.e 0] (L2 := []) k4 (by simp) (by simp) ?_
    simp [zrow_f2, fc_two]
    refine calld_s [.l 1] (first2_ct false false 1 2) (by simp) ?_
    simp
    refine calld_r [.l 0] (L2 := []) (rows_ct m p w b x) (by simp) (by simp) ?_
    simp [show (m : Int) ≤ 6 by omega]
    refine wp_forI m (fun k st => ∃ cap junk, k ≤ cap ∧ junk.length = cap - k ∧ puL junk ∧ st = ⟨[(2, .slx (.e 0) 0 len), (9, .sl (.l 2) 0 k cap), (33, .sl (.l 0) (if x = true then 8 else 2) m 6), (34, .int .i64 m), (35, .int .i64 k)], [schC m p w b, [.bool false, .int .i64 1, .bool false, .int .i64 2], byt k (cellG len F (rws x w b)) ++ junk], [arr .i8 len F]⟩) ?_ ?_ ?_
    · exact ⟨0, [], by omega, rfl, by simp, by simp; rfl⟩
    · rintro k st hk ⟨cap, junk, hle, hj, hpj, rfl⟩
      have hk1 : (k : Int) < m := by omega
      have hk6 : k < 6 := by omega
      have hwk : IntKind.i64.wrap ((k : Int) + 1) = k + 1 := wrap_i64 (by omega) (by omega)
      have hcall := reorder_ct len hl8 F h0 (rws x w b k) (rws_lt hw hb k)
      have hG : reoB len F (rws x w b k) = cellG len F (rws x w b) k := rfl
      rw [hG] at hcall
      have hget : (schC m p w b)[(if x = true then 8 else 2) + k]? = some (.int .u8 (rws x w b k)) := by cases x <;> simp [rws, schC_w hk6, schC_b hk6]
      generalize (if x = true then 8 else 2) = off at *
      generalize rws x w b = r at *
      simp [impl_CellFor_L0, hk1, hk]
      simp [hget]
      refine call_s [.e 0] hcall (by simp) ?_
      simp
      refine app_own (d := some 44) [9, 39] 2 k cap 1 (data := byt k (cellG len F r)) (news := [.int .u8 (cellG len F r k)]) (junk := junk) (by simp [appNew]) (by simp) (by simp) (by simp) (by simp) (by simp [hj]) hle (by omega) (by omega) (by simp) (by simp) hpj (by simp) (by simp) (by simp) (by simp [puL.nb _ hpj]) ?_
      intro cap' junk' h1 h2 h3
      simp at h2
      simp [hwk]
      exact ⟨puL.lt _ h3, cap', h1, junk', h2, h3, rfl, by rw [byt_snoc]; simp⟩
    · rintro st ⟨cap, junk, hle, hj, hpj, rfl⟩
      simp [impl_CellFor_L0]
      exact ret_new 2 (c := byt m (cellG len F (rws x w b))) (v' := .tup [.slx (.l 0) 0 m, .int .i64 0]) (.inr (by simp [V.hid, hidL, hle, kmap])) (by simp) ⟨junk, by simp⟩ (by simp) (by simp) (by simp)
theorem cellFor_no (len : Nat) (hl : len ≤ 1048576) (F : Nat → Int) (hF : ∀ i, -128 ≤ F i ∧ F i < 128) (s p : Int) (w b : Nat → Nat) (hs : -128 ≤ s ∧ s < 128) (hp : -128 ≤ p ∧ p < 128) (hw : ∀ i, w i < 256) (hb : ∀ i, b i < 256) (x : Bool) (c : Int)
    (hc : (sok s p w b = false ∧ c = 1) ∨ (sok s p w b = true ∧ ordB F len p = false ∧ c = 2)) :
    (∀ ro, Ct Try.prog ro 45 [sch s p w b, .bool x, .slx (.e 0) 0 len] [arr .i8 len F] fun v E' L' => v = .tup [.slx (.l 0) 0 0, .int .i64 c] ∧ E' = [arr .i8 len F] ∧ L' = [byt 0 fun _ => 0]) ∧
    (∀ ro, Ct Try.prog ro 46 [sch s p w b, .bool x, .slx (.e 0) 0 len] [arr .i8 len F] fun v E' L' => v = .tup [.nilsl, .int .i64 c] ∧ E' = [arr .i8 len F] ∧ L' = []) := by
  have k1 := specValidScheme_pc s p w b hs hp hw hb
  have k2 := l01Order_ct len hl F hF p hp
  have k3 := implValidScheme_pc s p w b hs hp hw hb
  have k4 := isOrder_ct len hl F hF p hp
  have hw1 : IntKind.i64.wrap p = p := wrap_i64 (by omega) (by omega)
  refine ⟨fun ro => ?_, fun ro => ?_⟩
  · refine ct_of spec_CellFor_ok ?_
    simp [spec_CellFor_F, spec_CellFor_M]
    refine call_pc k1 (by simp) (by simp) ?_
    rcases hc with ⟨h1, rfl⟩ | ⟨h1, h2, rfl⟩
    · simp [h1]
      exact ret_new 1 (c := byt 0 fun _ => 0) (v' := .tup [.slx (.l 0) 0 0, .int .i64 1]) (.inr (by simp [V.hid, hidL, kmap])) (by simp) ⟨[], by simp [byt, tab, zrow]⟩ (by simp) (by simp) (by simp)
    · rw [h2] at k2
      simp [h1, hw1]
      refine call_s [.e 0] k2 (by simp) ?_
      simp
      exact ret_new 1 (c := byt 0 fun _ => 0) (v' := .tup [.slx (.l 0) 0 0, .int .i64 2]) (.inr (by simp [V.hid, hidL, kmap])) (by simp) ⟨[], by simp [byt, tab, zrow]⟩ (by simp) (by simp) (by simp)
  · refine ct_of impl_CellFor_ok ?_
    simp [impl_CellFor_F, impl_CellFor_M]
    refine calld_pc k3 (by simp) (by simp) ?_
    simp
    refine calld_r [.e 0] (L2 := []) k4 (by simp) (by simp) ?_
    simp [zrow_f2, fc_two]
    refine calld_s [.l 1] (first2_ct (!sok s p w b) (!ordB F len p) 1 2) (by simp) ?_
    rcases hc with ⟨h1, rfl⟩ | ⟨h1, h2, rfl⟩
    · simp [h1]
      exact ret_pu (by simp) (by simp) (by simp)
    · simp [h1, h2]
      exact ret_pu (by simp) (by simp) (by simp)

set_option maxRecDepth 10000 in
set_option maxHeartbeats 6000000 in
theorem lawCellFor (s p : Int) (w b : Nat → Nat) (hs : -128 ≤ s ∧ s < 128) (hp : -128 ≤ p ∧ p < 128) (hw : ∀ i, w i < 256) (hb : ∀ i, b i < 256) (x : Bool) (n off : Nat) (F : Nat → Int) (hF : ∀ i, -128 ≤ F i ∧ F i < 128) (cs : List V) (hcs : ∀ i, i < n → cs[off + i]? = some (.int .i8 (F i))) (hpu : puL cs) : Ct Try.prog true 12 [sch s p w b, .bool x, .slx (.e 0) off n] [cs] fun v E' L' => v = .bool true ∧ E' = [cs] ∧ L' = [] := by
  refine ct_of laws_FnExactCellFor_ok ?_
  by_cases hn : n ≤ 1048576
  · have hto := (toInt8S_ct n off hn F cs hcs hpu)
    have heq := eqInt8S_ct n hn F
    have hmk := markInt8S_ct n 1 (by omega) F
    have hn1 : ¬ (1048576 : Int) < (n : Nat) := by omega
    have hz0 : ¬ (((1 : Nat) : Int) + ((n : Nat) : Int) < 0) := by omega
    generalize hza : ((1 : Nat) : Int) + ((n : Nat) : Int) = za at *
    have hrow : puL (arr .i8 n fun i => mk8 (1 + i)) := arr_pu
    by_cases hg : sok s p w b = true ∧ ordB F n p = true
    · obtain ⟨h1, h2⟩ := hg
      obtain ⟨hs6, _, _⟩ := sok_iff.1 h1
      obtain ⟨m, rfl⟩ := Int.eq_ofNat_of_zero_le (show 0 ≤ s by omega)
      obtain ⟨k1, k2⟩ := cellFor_ok n hn F hF m p w b hp hw hb h1 (ordB_iff.1 h2) x
      have e1 := eqByteS_ct m (by omega) (cellG n F (rws x w b))
      have e2 := markByteS_ct m 1 (by omega) (cellG n F (rws x w b))
      have e3 := heldByteS_ct m 1 (by omega)
      have hzm : ¬ (((1 : Nat) : Int) + ((m : Nat) : Int) < 0) := by omega
      have hrb : puL (byt m fun i => mkB (1 + i)) := byt_pu
      generalize cellG n F (rws x w b) = G at *
      generalize ((1 : Nat) : Int) + ((m : Nat) : Int) = zb at *
      simp [laws_FnExactCellFor_F, laws_FnExactCellFor_M, hn1]
      refine call_pc (toScheme_pc m p w b) (by simp) (by simp) ?_
      simp
      refine call_g [.e 0] hto (by simpa using hpu) (by simp) ?_
      simp
      refine call_g [.l 1] k1 (by simp) (by simp) ?_
      simp
      refine call_g [.e 0] hto (by simpa using hpu) (by simp) ?_
      simp
      refine call_pc (toScheme_pc m p w b) (by simp) (by simp) ?_
      simp
      refine call_g [.l 3] k2 (by simp) (by simp) ?_
      simp
      refine call_s [.l 4, .l 2] e1 (by simp) ?_
      simp
      refine call_g [.e 0] hto (by simpa using hpu) (by simp) ?_
      simp
      refine call_s [.l 3, .l 5] heq (by simp) ?_
      simp
      generalize (arr .i8 n fun i => mk8 (1 + i)) = row at *
      refine call_w [.l 3] hmk (by simp) (by simpa using hrow) ?_
      simp [hz0]
      refine call_s [.l 4, .l 2] e1 (by simp) ?_
      simp
      generalize (byt m fun i => mkB (1 + i)) = rob at *
      refine call_w [.l 4] e2 (by simp) (by simpa using hrb) ?_
      simp
      refine call_s [.l 4] e3 (by simpa using hrb) ?_
      simp [hzm]
      refine call_pc (toScheme_pc m p w b) (by simp) (by simp) ?_
      simp
      refine call_g [.e 0] hto (by simpa using hpu) (by simp) ?_
      simp
      refine call_g [.l 6] k2 (by simp) (by simp) ?_
      simp
      refine call_s [.l 7, .l 2] e1 (by simp) ?_
      simp
      refine call_s [.l 4] e3 (by simpa using hrb) ?_
      simp [hzm]
      exact ret_pu (by simp) (by simpa using hpu) (by simp)
    · obtain ⟨c, hc⟩ : ∃ c : Int, (sok s p w b = false ∧ c = 1) ∨ (sok s p w b = true ∧ ordB F n p = false ∧ c = 2) := by
        cases h1 : sok s p w b
        · exact ⟨1, .inl ⟨rfl, rfl⟩⟩
        · refine ⟨2, .inr ⟨rfl, ?_, rfl⟩⟩
          cases h2 : ordB F n p
          · rfl
          · exact absurd ⟨h1, h2⟩ hg
      obtain ⟨k1, k2⟩ := cellFor_no n hn F hF s p w b hs hp hw hb x c hc
      have e2 := markNilByteS_ct 1
      have e3 := heldNilByteS_ct 1
      simp [laws_FnExactCellFor_F, laws_FnExactCellFor_M, hn1]
      refine call_pc (toScheme_pc s p w b) (by simp) (by simp) ?_
      simp
      refine call_g [.e 0] hto (by simpa using hpu) (by simp) ?_
      simp
      refine call_g [.l 1] k1 (by simp) (by simp) ?_
      simp
      refine call_g [.e 0] hto (by simpa using hpu) (by simp) ?_
      simp
      refine call_pc (toScheme_pc s p w b) (by simp) (by simp) ?_
      simp
      refine call_g [.l 3] (L2 := []) k2 (by simp) (by simp) ?_
      simp
      refine call_s [.l 2] eqNilByteS_ct (by simp) ?_
      simp
      refine call_g [.e 0] hto (by simpa using hpu) (by simp) ?_
      simp
      refine call_s [.l 3, .l 4] heq (by simp) ?_
      simp
      generalize (arr .i8 n fun i => mk8 (1 + i)) = row at *
      refine call_w [.l 3] hmk (by simp) (by simpa using hrow) ?_
      simp [hz0]
      refine call_s [.l 2] eqNilByteS_ct (by simp) ?_
      simp
      refine call_pc e2 (by simp) (by simp) ?_
      simp
      refine call_pc e3 (by simp) (by simp) ?_
      simp
      refine call_pc (toScheme_pc s p w b) (by simp) (by simp) ?_
      simp
      refine call_g [.e 0] hto (by simpa using hpu) (by simp) ?_
      simp
      refine call_g [.l 5] (L2 := []) k2 (by simp) (by simp) ?_
      simp
      refine call_s [.l 2] eqNilByteS_ct (by simp) ?_
      simp
      refine call_pc e3 (by simp) (by simp) ?_
      simp
      exact ret_pu (by simp) (by simpa using hpu) (by simp)
  · first
    | exact absurd (Nat.zero_le _) hn
    | have hn1 : (1048576 : Int) < (n : Nat) := by omega
      simp [laws_FnExactCellFor_F, laws_FnExactCellFor_M, hn1]
      exact ret_pu (by simp) (by simpa using hpu) (by simp)
set_option maxRecDepth 10000 in
set_option maxHeartbeats 6000000 in
theorem lawCellForNil (s p : Int) (w b : Nat → Nat) (hs : -128 ≤ s ∧ s < 128) (hp : -128 ≤ p ∧ p < 128) (hw : ∀ i, w i < 256) (hb : ∀ i, b i < 256) (x : Bool)  : Ct Try.prog true 12 [sch s p w b, .bool x, .nilsl] [] fun v E' L' => v = .bool true ∧ E' = [] ∧ L' = [] := by
  refine ct_of laws_FnExactCellFor_ok ?_
  by_cases hn : 0 ≤ 1048576
  · have hto := toInt8SNil_ct
    have heq := eqInt8S_ct 0 hn (fun _ => (0 : Int))
    have hmk := markInt8S_ct 0 1 (by omega) (fun _ => (0 : Int))
    have hn1 : ¬ (1048576 : Int) < (0 : Nat) := by omega
    have hz0 : ¬ (((1 : Nat) : Int) + ((0 : Nat) : Int) < 0) := by omega
    generalize hza : ((1 : Nat) : Int) + ((0 : Nat) : Int) = za at *
    have hrow : puL (arr .i8 0 fun i => mk8 (1 + i)) := arr_pu
    by_cases hg : sok s p w b = true ∧ ordB (fun _ => (0 : Int)) 0 p = true
    · obtain ⟨h1, h2⟩ := hg
      obtain ⟨hs6, _, _⟩ := sok_iff.1 h1
      obtain ⟨m, rfl⟩ := Int.eq_ofNat_of_zero_le (show 0 ≤ s by omega)
      obtain ⟨k1, k2⟩ := cellFor_ok 0 hn (fun _ => (0 : Int)) (fun _ => by omega) m p w b hp hw hb h1 (ordB_iff.1 h2) x
      have e1 := eqByteS_ct m (by omega) (cellG 0 (fun _ => (0 : Int)) (rws x w b))
      have e2 := markByteS_ct m 1 (by omega) (cellG 0 (fun _ => (0 : Int)) (rws x w b))
      have e3 := heldByteS_ct m 1 (by omega)
      have hzm : ¬ (((1 : Nat) : Int) + ((m : Nat) : Int) < 0) := by omega
      have hrb : puL (byt m fun i => mkB (1 + i)) := byt_pu
      generalize cellG 0 (fun _ => (0 : Int)) (rws x w b) = G at *
      generalize ((1 : Nat) : Int) + ((m : Nat) : Int) = zb at *
      simp [laws_FnExactCellFor_F, laws_FnExactCellFor_M, hn1]
      refine call_pc (toScheme_pc m p w b) (by simp) (by simp) ?_
      simp
      refine call_g [] hto (by simp) (by simp) ?_
      simp
      refine call_g [.l 1] k1 (by simp) (by simp) ?_
      simp
      refine call_g [] hto (by simp) (by simp) ?_
      simp
      refine call_pc (toScheme_pc m p w b) (by simp) (by simp) ?_
      simp
      refine call_g [.l 3] k2 (by simp) (by simp) ?_
      simp
      refine call_s [.l 4, .l 2] e1 (by simp) ?_
      simp
      refine call_g [] hto (by simp) (by simp) ?_
      simp
      refine call_s [.l 3, .l 5] heq (by simp) ?_
      simp
      generalize (arr .i8 0 fun i => mk8 (1 + i)) = row at *
      refine call_w [.l 3] hmk (by simp) (by simpa using hrow) ?_
      simp [hz0]
      refine call_s [.l 4, .l 2] e1 (by simp) ?_
      simp
      generalize (byt m fun i => mkB (1 + i)) = rob at *
      refine call_w [.l 4] e2 (by simp) (by simpa using hrb) ?_
      simp
      refine call_s [.l 4] e3 (by simpa using hrb) ?_
      simp [hzm]
      refine call_pc (toScheme_pc m p w b) (by simp) (by simp) ?_
      simp
      refine call_g [] hto (by simp) (by simp) ?_
      simp
      refine call_g [.l 6] k2 (by simp) (by simp) ?_
      simp
      refine call_s [.l 7, .l 2] e1 (by simp) ?_
      simp
      refine call_s [.l 4] e3 (by simpa using hrb) ?_
      simp [hzm]
      exact ret_pu (by simp) (by simp) (by simp)
    · obtain ⟨c, hc⟩ : ∃ c : Int, (sok s p w b = false ∧ c = 1) ∨ (sok s p w b = true ∧ ordB (fun _ => (0 : Int)) 0 p = false ∧ c = 2) := by
        cases h1 : sok s p w b
        · exact ⟨1, .inl ⟨rfl, rfl⟩⟩
        · refine ⟨2, .inr ⟨rfl, ?_, rfl⟩⟩
          cases h2 : ordB (fun _ => (0 : Int)) 0 p
          · rfl
          · exact absurd ⟨h1, h2⟩ hg
      obtain ⟨k1, k2⟩ := cellFor_no 0 hn (fun _ => (0 : Int)) (fun _ => by omega) s p w b hs hp hw hb x c hc
      have e2 := markNilByteS_ct 1
      have e3 := heldNilByteS_ct 1
      simp [laws_FnExactCellFor_F, laws_FnExactCellFor_M, hn1]
      refine call_pc (toScheme_pc s p w b) (by simp) (by simp) ?_
      simp
      refine call_g [] hto (by simp) (by simp) ?_
      simp
      refine call_g [.l 1] k1 (by simp) (by simp) ?_
      simp
      refine call_g [] hto (by simp) (by simp) ?_
      simp
      refine call_pc (toScheme_pc s p w b) (by simp) (by simp) ?_
      simp
      refine call_g [.l 3] (L2 := []) k2 (by simp) (by simp) ?_
      simp
      refine call_s [.l 2] eqNilByteS_ct (by simp) ?_
      simp
      refine call_g [] hto (by simp) (by simp) ?_
      simp
      refine call_s [.l 3, .l 4] heq (by simp) ?_
      simp
      generalize (arr .i8 0 fun i => mk8 (1 + i)) = row at *
      refine call_w [.l 3] hmk (by simp) (by simpa using hrow) ?_
      simp [hz0]
      refine call_s [.l 2] eqNilByteS_ct (by simp) ?_
      simp
      refine call_pc e2 (by simp) (by simp) ?_
      simp
      refine call_pc e3 (by simp) (by simp) ?_
      simp
      refine call_pc (toScheme_pc s p w b) (by simp) (by simp) ?_
      simp
      refine call_g [] hto (by simp) (by simp) ?_
      simp
      refine call_g [.l 5] (L2 := []) k2 (by simp) (by simp) ?_
      simp
      refine call_s [.l 2] eqNilByteS_ct (by simp) ?_
      simp
      refine call_pc e3 (by simp) (by simp) ?_
      simp
      exact ret_pu (by simp) (by simp) (by simp)
  · first
    | exact absurd (Nat.zero_le _) hn
    | have hn1 : (1048576 : Int) < (0 : Nat) := by omega
      simp [laws_FnExactCellFor_F, laws_FnExactCellFor_M, hn1]
      exact ret_pu (by simp) (by simp) (by simp)
end Go.Proofs.Ytmdemhfmhlnlgaa
