/- A part of the proof library: names for blocks of memory, a small form of the code, and rules for walks over it. -/
import Derived.Test.YtclgpechdpkmgaaT4b
import Derived.Test.YtclgpechdpkmgaaT5b
import Derived.Test.YtclgpechdpkmgaaN1b
set_option linter.all false
namespace Go.Proofs.Ytclgpechdpkmgaa
open Go.Ab
set_option maxHeartbeats 800000

/-- The order drawn from a seed; the seed left. -/
def ord (m : Nat) (s : Int) : Nat → Int := fun i => if i < m then shufF m s (m - 1) i else 0
def nx (m : Nat) (s : Int) : Int := shufS s (m - 1)
theorem shufF_range (n : Nat) (hn : 1 ≤ n) (s : Int) : ∀ j, j < n → ∀ i, i < n → 0 ≤ shufF n s j i ∧ shufF n s j i < n
  | 0, _, i, hi => by simp only [shufF]; omega
  | j + 1, hj, i, hi => by
    obtain ⟨k, hk, hkn⟩ := drw_range (shufS s j) (n - 1 - j + 1) (by omega)
    have ih := shufF_range n hn s j (by omega)
    simp only [shufF, swp, hk, Int.toNat_natCast]
    split
    · exact ih k (by omega)
    · split
      · exact ih _ (by omega)
      · exact ih i hi
theorem ord_range (m : Nat) (hm : 1 ≤ m ∧ m ≤ 8) (s : Int) (i : Nat) : 0 ≤ ord m s i ∧ ord m s i < 128 := by
  unfold ord
  split
  · rename_i h; have := shufF_range m hm.1 s (m - 1) (by omega) i h; omega
  · omega
theorem ord_arr (m : Nat) (s : Int) : arr .i8 m (shufF m s (m - 1)) = arr .i8 m (ord m s) := arr_congr fun i hi => by simp [ord, hi]
/-- The seed ahead of a round; the cells reordered. -/
def sd (m : Nat) (s : Int) : Nat → Int
  | 0 => s
  | j + 1 => nx m (sd m s j)
def rnF (m : Nat) (s : Int) (F : Nat → Nat → Nat) (i l : Nat) : Nat := reoB m (ord m (sd m s l)) (F i l)

theorem laj_get {n : Nat} {P : Nat → Int} {F : Nat → Nat → Nat} {junk : List V} {k j : Nat} (hk : k < n) (hj : j < 64) : (lays n P F ++ junk)[k * 65 + (1 + j)]? = some (.int .u8 (F k j)) := by
  rw [List.getElem?_append_left (by simp; omega)]; exact lays_f hk hj
theorem laj_set {n : Nat} {P : Nat → Int} {F : Nat → Nat → Nat} {junk : List V} {k j : Nat} (hk : k < n) (hj : j < 64) {c : Nat} : (lays n P F ++ junk).set (k * 65 + (1 + j)) (.int .u8 c) = lays n P (fun i l => if i = k ∧ l = j then c else F i l) ++ junk := by
  rw [List.set_append_left _ _ (by simp; omega), lays_setF hk hj]

theorem clone_ct (n : Nat) (hn : n ≤ 1048576) (P : Nat → Int) (F : Nat → Nat → Nat) (ro : Bool) : Ct Try.prog ro 62 [.slx (.e 0) 0 n] [lays n P F] fun v E' L' => v = .slx (.l 0) 0 n ∧ E' = [lays n P F] ∧ L' = [lays n P F] := by
  have htk : (lays n P F).take (n * 65) = lays n P F := List.take_of_length_le (by simp)
  refine ct_of slices_Clone___impl_Layer_impl_Layer__ok ?_
  simp [slices_Clone___impl_Layer_impl_Layer__F, slices_Clone___impl_Layer_impl_Layer__M, layC_zero]
  refine app_ownT 1 (d := some 7) [5] 0 0 0 n (data := []) (news := lays n P F) (junk := []) (by simp [appNew, htk]) (by simp) (by simp) (by simp [zrow]) (by simp) (by simp) (by simp) (by omega) (by omega) (by simp) (by simp) (by simp) (by simp) (by simp) (by simp) (by simp) (by simp) (by simp [zrow]) ?_
  intro cap' junk' h1 h2 h3
  simp at h1
  simp
  exact ret_new 0 (c := lays n P F) (v' := .slx (.l 0) 0 n) (.inr (by simp [V.hid, h1, kmap])) (by simp) ⟨junk', by simp⟩ (by simp) (by simp) (by simp)

theorem renew_ok (m : Nat) (s : Int) (w b : Nat → Nat) (hs : -128 ≤ s ∧ s < 128) (hm : 1 ≤ m ∧ m ≤ 8) (hw : ∀ i, w i < 256) (hb : ∀ i, b i < 256) (n : Nat) (hn : n ≤ 8) (P : Nat → Int) (F : Nat → Nat → Nat) (hP : ∀ i, -128 ≤ P i ∧ P i < 128) (hF : ∀ i j, F i j < 256) (seed : Int) (hc : bCode s m w b n P F = 0) :
    (∀ ro, Ct Try.prog ro 23 [sch s m w b, .slx (.e 0) 0 n, .int .u32 seed] [lays n P F] fun v E' L' => v = .tup [.slx (.l 0) 0 n, .int .u32 (sd m seed 64), .int .i64 0] ∧ E' = [lays n P F] ∧ L' = [lays n P (rnF m seed F)]) ∧
    (∀ ro, Ct Try.prog ro 25 [sch s m w b, .slx (.e 0) 0 n, .int .u32 seed] [lays n P F] fun v E' L' => v = .tup [.slx (.l 0) 0 n, .int .u32 (sd m seed 64), .int .i64 0] ∧ E' = [lays n P F] ∧ L' = [lays n P (rnF m seed F)]) := by
  have k1 := l03Both_ct s m w b hs (by omega) hw hb n (by omega) P F hP hF
  have k2 := sharedCode_ct s m w b hs (by omega) hw hb n (by omega) P F hP hF
  rw [hc] at k1 k2
  have k3 := clone_ct n (by omega) P F
  have htk : (lays n P F).take (n * 65) = lays n P F := List.take_of_length_le (by simp)
  have hwm : IntKind.i64.wrap (m : Int) = m := wrap_i64 (by omega) (by omega)
  refine ⟨fun ro => ?_, fun ro => ?_⟩
  · refine ct_of spec_RenewLayers_ok ?_
    simp [spec_RenewLayers_F, spec_RenewLayers_M, layC_zero]
    refine call_rE [.l 0, .e 0] (L2 := []) k1 (sigOk_mk (by simp) (by simp) (by simp)) (by simp) (by simp) (by simp) ?_
    simp [layC_zero]
    refine app_ownT 2 (d := some 23) [21] 1 0 0 n (data := []) (news := lays n P F) (junk := []) (by simp [appNew, htk]) (by simp) (by simp) (by simp [zrow]) (by simp) (by simp) (by simp) (by omega) (by omega) (by simp) (by simp) (by simp) (by simp) (by simp) (by simp) (by simp) (by simp) (by simp [zrow]) ?_
    intro cap junk h1 h2 h3
    simp at h1 h2
    have hlt : ltL 2 junk := puL.lt _ h3
    simp
    refine wp_for 64 (fun j => ⟨[(2, .int .u32 (sd m seed j)), (3, .ptr (.l 0) 0), (10, .sl (.l 1) 0 n cap), (11, .int .i64 j)], [schC s m w b, lays n P (fun i l => if l < j then rnF m seed F i l else F i l) ++ junk], [lays n P F]⟩) ?_ ?_ ?_
    · simp [sd]
    · intro j hj
      have hj1 : (j : Int) < 64 := by omega
      have hwj : IntKind.i64.wrap ((j : Int) + 1) = j + 1 := wrap_i64 (by omega) (by omega)
      have ho := l03Order_ct m hm (sd m seed j)
      rw [ord_arr] at ho
      have hnx : shufS (sd m seed j) (m - 1) = sd m seed (j + 1) := rfl
      rw [hnx] at ho
      have hr := ord_range m hm (sd m seed j)
      simp [spec_RenewLayers_L0, hj1, hwm]
      refine call_g [] ho (by simp) (by simp) ?_
      have hG : ∀ k, reoB m (ord m (sd m seed j)) (F k j) = rnF m seed F k j := fun _ => rfl
      have hcall := fun k => l01Reordered_ct m hm.2 (ord m (sd m seed j)) (fun i _ => (hr i).1) (fun i => (hr i).2) (F k j) (hF k j)
      simp only [hG] at hcall
      generalize sd m seed (j + 1) = s2 at *
      generalize ord m (sd m seed j) = O at *
      simp
      refine wp_for n (fun k => ⟨[(2, .int .u32 s2), (3, .ptr (.l 0) 0), (10, .sl (.l 1) 0 n cap), (11, .int .i64 j), (12, .slx (.l 2) 0 m), (14, .int .i64 k)], [schC s m w b, lays n P (fun i l => if l < j ∨ (l = j ∧ i < k) then rnF m seed F i l else F i l) ++ junk, arr .i8 m O], [lays n P F]⟩) ?_ ?_ ?_
      · simp
      · intro k hk
        have hk1 : (k : Int) < n := by omega
        have hwk : IntKind.i64.wrap ((k : Int) + 1) = k + 1 := wrap_i64 (by omega) (by omega)
        have hget := fun (G : Nat → Nat → Nat) => laj_get (P := P) (F := G) (junk := junk) hk hj
        have hset := fun (G : Nat → Nat → Nat) => laj_set (P := P) (F := G) (junk := junk) hk hj (c := rnF m seed F k j)
        have hb1 : k * 65 + 1 + j + 1 ≤ n * 65 + junk.length := by omega
        have hb2 : k * 65 + (1 + (j + 1)) ≤ n * 65 + junk.length := by omega
        have hb3 : k * 65 + (1 + j) < n * 65 + junk.length := by omega
        have hcl := hcall k
        simp [spec_RenewLayers_L1, hk1, hk, hj1, hj]
        simp [hget, Nat.add_assoc]
        refine calll_s [.l 2] hcl (by simp) ?_
        simp [hk1, hk, hj1, hj, hb1, hb2, hb3, hset, Nat.add_assoc, hwk]
        exact lays_congr (fun _ _ => rfl) (fun i _ l _ => by by_cases e1 : i = k <;> by_cases e2 : l = j <;> by_cases e3 : l < j <;> by_cases e4 : i < k <;> simp [e1, e2, e3, e4] <;> omega)
      · have he : lays n P (fun i l => if l < j ∨ (l = j ∧ i < n) then rnF m seed F i l else F i l) = lays n P (fun i l => if l < j + 1 then rnF m seed F i l else F i l) := lays_congr (fun _ _ => rfl) (fun i hi l _ => by by_cases e2 : l = j <;> by_cases e3 : l < j <;> simp [e2, e3, hi] <;> omega)
        rw [he]
        simp [spec_RenewLayers_L1, hwj, hlt]
    · have he : lays n P (fun i l => if l < 64 then rnF m seed F i l else F i l) = lays n P (rnF m seed F) := lays_congr (fun _ _ => rfl) (fun i _ l hl => by simp [hl])
      rw [he]
      generalize sd m seed 64 = s2
      simp [spec_RenewLayers_L0]
      exact ret_new 1 (c := lays n P (rnF m seed F)) (v' := .tup [.slx (.l 0) 0 n, .int .u32 s2, .int .i64 0]) (.inr (by simp [V.hid, hidL, h1, kmap])) (by simp) ⟨junk, by simp⟩ (by simp) (by simp) (by simp)
  · refine ct_of impl_RenewLayers_ok ?_
    simp [impl_RenewLayers_F, impl_RenewLayers_M, layC_zero]
    refine call_s [.e 0] k2 (by simp) ?_
    simp
    refine call_g [.e 0] k3 (by simp) (by simp) ?_
    simp
    refine wp_for 64 (fun j => ⟨[(1, .slx (.e 0) 0 n), (3, .ptr (.l 0) 0), (5, .ptr (.l 1) 0), (10, .slx (.l 2) 0 n), (22, .int .i64 j)], [schC s m w b, [.int .u32 (sd m seed j)], lays n P (fun i l => if l < j then rnF m seed F i l else F i l)], [lays n P F]⟩) ?_ ?_ ?_
    · simp [sd]
    · intro j hj
      have hj1 : (j : Int) < 64 := by omega
      have hwj : IntKind.i64.wrap ((j : Int) + 1) = j + 1 := wrap_i64 (by omega) (by omega)
      have ho := drawOrder_ct m hm (sd m seed j)
      rw [ord_arr] at ho
      have hnx : shufS (sd m seed j) (m - 1) = sd m seed (j + 1) := rfl
      rw [hnx] at ho
      have hr := ord_range m hm (sd m seed j)
      simp [impl_RenewLayers_L0, hj1]
      refine call_wg [.l 1] ho (by simp) (by simp) (by simp) ?_
      have hG : ∀ k, reoB m (ord m (sd m seed j)) (F k j) = rnF m seed F k j := fun _ => rfl
      have hcall := fun k => reorder_ct m hm.2 (ord m (sd m seed j)) (fun i _ => (hr i).1) (F k j) (hF k j)
      simp only [hG] at hcall
      generalize sd m seed (j + 1) = s2 at *
      generalize ord m (sd m seed j) = O at *
      simp
      refine wp_for n (fun k => ⟨[(1, .slx (.e 0) 0 n), (3, .ptr (.l 0) 0), (5, .ptr (.l 1) 0), (10, .slx (.l 2) 0 n), (11, .int .i64 j), (12, .slx (.l 3) 0 m), (22, .int .i64 j), (29, .int .i64 n), (30, .int .i64 k)], [schC s m w b, [.int .u32 s2], lays n P (fun i l => if l < j ∨ (l = j ∧ i < k) then rnF m seed F i l else F i l), arr .i8 m O], [lays n P F]⟩) ?_ ?_ ?_
      · simp
      · intro k hk
        have hk1 : (k : Int) < n := by omega
        have hwk : IntKind.i64.wrap ((k : Int) + 1) = k + 1 := wrap_i64 (by omega) (by omega)
        have hget := lays_f (P := P) (F := F) hk hj
        have hset := fun (G : Nat → Nat → Nat) => lays_setF (P := P) (F := G) hk hj (c := rnF m seed F k j)
        have hb1 : k * 65 + 1 + j + 1 ≤ n * 65 := by omega
        have hb2 : k * 65 + (1 + (j + 1)) ≤ n * 65 := by omega
        have hb3 : k * 65 + (1 + j) < n * 65 := by omega
        have hcl := hcall k
        simp [impl_RenewLayers_L1, hk1, hk, hj1, hj]
        simp [hget, Nat.add_assoc]
        refine calll_s [.l 3] hcl (by simp) ?_
        simp [hk1, hk, hj1, hj, hb1, hb2, hb3, hset, Nat.add_assoc, hwk]
        exact lays_congr (fun _ _ => rfl) (fun i _ l _ => by by_cases e1 : i = k <;> by_cases e2 : l = j <;> by_cases e3 : l < j <;> by_cases e4 : i < k <;> simp [e1, e2, e3, e4] <;> omega)
      · have he : lays n P (fun i l => if l < j ∨ (l = j ∧ i < n) then rnF m seed F i l else F i l) = lays n P (fun i l => if l < j + 1 then rnF m seed F i l else F i l) := lays_congr (fun _ _ => rfl) (fun i hi l _ => by by_cases e2 : l = j <;> by_cases e3 : l < j <;> simp [e2, e3, hi] <;> omega)
        rw [he]
        simp [impl_RenewLayers_L1, hwj]
    · have he : lays n P (fun i l => if l < 64 then rnF m seed F i l else F i l) = lays n P (rnF m seed F) := lays_congr (fun _ _ => rfl) (fun i _ l hl => by simp [hl])
      rw [he]
      generalize sd m seed 64 = s2
      simp [impl_RenewLayers_L0]
      exact ret_new 2 (c := lays n P (rnF m seed F)) (v' := .tup [.slx (.l 0) 0 n, .int .u32 s2, .int .i64 0]) (.inl (by simp [kmap])) (by simp) ⟨[], by simp⟩ (by simp) (by simp) (by simp)
theorem renew_no (s p : Int) (w b : Nat → Nat) (hs : -128 ≤ s ∧ s < 128) (hp : -128 ≤ p ∧ p < 128) (hw : ∀ i, w i < 256) (hb : ∀ i, b i < 256) (n : Nat) (hn : n ≤ 1048576) (P : Nat → Int) (F : Nat → Nat → Nat) (hP : ∀ i, -128 ≤ P i ∧ P i < 128) (hF : ∀ i j, F i j < 256) (seed : Int) (hc : ¬ bCode s p w b n P F = 0) :
    (∀ ro, Ct Try.prog ro 23 [sch s p w b, .slx (.e 0) 0 n, .int .u32 seed] [lays n P F] fun v E' L' => v = .tup [.slx (.l 0) 0 0, .int .u32 0, .int .i64 (bCode s p w b n P F)] ∧ E' = [lays n P F] ∧ L' = [lays 0 (fun _ => 0) fun _ _ => 0]) ∧
    (∀ ro, Ct Try.prog ro 25 [sch s p w b, .slx (.e 0) 0 n, .int .u32 seed] [lays n P F] fun v E' L' => v = .tup [.nilsl, .int .u32 0, .int .i64 (bCode s p w b n P F)] ∧ E' = [lays n P F] ∧ L' = []) := by
  have k1 := l03Both_ct s p w b hs hp hw hb n hn P F hP hF
  have k2 := sharedCode_ct s p w b hs hp hw hb n hn P F hP hF
  generalize bCode s p w b n P F = c at *
  refine ⟨fun ro => ?_, fun ro => ?_⟩
  · refine ct_of spec_RenewLayers_ok ?_
    simp [spec_RenewLayers_F, spec_RenewLayers_M, layC_zero]
    refine call_rE [.l 0, .e 0] (L2 := []) k1 (sigOk_mk (by simp) (by simp) (by simp)) (by simp) (by simp) (by simp) ?_
    simp [hc]
    exact ret_new 1 (c := lays 0 (fun _ => 0) fun _ _ => 0) (v' := .tup [.slx (.l 0) 0 0, .int .u32 0, .int .i64 c]) (.inr (by simp [V.hid, hidL, kmap])) (by simp) ⟨[], by simp [lays, rows, zrow]⟩ (by simp) (by simp) (by simp)
  · refine ct_of impl_RenewLayers_ok ?_
    simp [impl_RenewLayers_F, impl_RenewLayers_M, layC_zero]
    refine call_s [.e 0] k2 (by simp) ?_
    simp [hc]
    exact ret_pu (by simp) (by simp) (by simp)

set_option maxRecDepth 10000 in
set_option maxHeartbeats 6000000 in
theorem lawRenewLayers (E : List (List V)) (hE : ∀ c ∈ E, puL c) (s p : Int) (w b : Nat → Nat) (hs : -128 ≤ s ∧ s < 128) (hp : -128 ≤ p ∧ p < 128) (hw : ∀ i, w i < 256) (hb : ∀ i, b i < 256) (A : V) (n : Nat) (P : Nat → Int) (F : Nat → Nat → Nat) (LA : LArg E A n P F) (seed : Nat) (_hseed : seed < 4294967296) :
    Ct Try.prog true 5 [sch s p w b, A, .int .u32 seed] E fun v E' L' => v = .bool true ∧ E' = E ∧ L' = [] := by
  have kS := toScheme_pc s p w b
  refine ct_of laws_FnExactRenewLayers_ok ?_
  refine wp_seq_opq fun R hR => ?_
  simp [laws_FnExactRenewLayers_F]
  subst hR
  refine wp_seq_opq fun R hR => ?_
  simp
  subst hR
  refine wp_seq_opq fun R hR => ?_
  simp
  refine LA.sz 1048576 (by omega) _ _ rfl ?_
  simp
  by_cases h1 : 1048576 < n
  · subst hR
    refine wp_seq_opq fun R hR => ?_
    simp [h1]
    exact ret_pu (by simp) hE (by simp)
  · have g1 : ¬ (((1048576 - n : Nat) : Int) < 0) := by omega
    have hn : n ≤ 1048576 := by omega
    have heq := eqLayerS_ct n hn P F
    have m1 := markLayerS_ct n 1 (by omega) P F
    have hM : puL (lays n (mkP 1) (mkF 1)) := by simp
    generalize 1048576 - n = d at *
    by_cases hc : bCode s p w b n P F = 0
    · obtain ⟨hok, _, hns, _⟩ := bCode_ok hc
      have h6 := (sok_iff.1 hok).1
      have hp8 := (sok_iff.1 hok).2.1
      obtain ⟨m, rfl⟩ := Int.eq_ofNat_of_zero_le (show 0 ≤ p by omega)
      have h8 : n ≤ 8 := by omega
      obtain ⟨k1, k2⟩ := renew_ok m s w b hs (by omega) hw hb n h8 P F LA.hP LA.hF seed hc
      have e1 := eqLayerS_ct n hn P (rnF m seed F)
      have m2 := markLayerS_ct n 1 (by omega) P (rnF m seed F)
      have m3 := heldLayerS_ct n 1 (by omega)
      have hz : ¬ (((1 : Nat) : Int) + 65 * ((n : Nat) : Int) < 0) := by omega
      generalize rnF m seed F = T at *
      generalize sd m seed 64 = s2 at *
      generalize ((1 : Nat) : Int) + 65 * ((n : Nat) : Int) = z at *
      generalize lays n (mkP 1) (mkF 1) = M at *
      subst hR
      refine wp_seq_opq fun R hR => ?_
      simp [h1, g1]
      subst hR
      refine wp_seq_opq fun R hR => ?_
      simp
      refine call_pc kS (by simp) (by simp) ?_
      simp
      refine LA.to hn _ _ rfl ?_
      simp
      refine call_g [.l 1] k1 (by simp) (by simp) ?_
      simp
      subst hR
      refine wp_seq_opq fun R hR => ?_
      simp
      refine LA.to hn _ _ rfl ?_
      simp
      subst hR
      refine wp_seq_opq fun R hR => ?_
      simp
      refine call_pc kS (by simp) (by simp) ?_
      simp
      refine call_g [.l 3] k2 (by simp) (by simp) ?_
      simp
      subst hR
      refine wp_seq_opq fun R hR => ?_
      simp
      refine call_s [.l 4, .l 2] e1 (by simp) ?_
      simp
      subst hR
      refine wp_seq_opq fun R hR => ?_
      simp
      refine LA.to hn _ _ rfl ?_
      simp
      refine call_s [.l 3, .l 5] heq (by simp) ?_
      simp
      subst hR
      refine wp_seq_opq fun R hR => ?_
      simp
      subst hR
      refine wp_seq_opq fun R hR => ?_
      simp
      refine call_w [.l 3] m1 (by simp) (by simpa using hM) ?_
      simp
      subst hR
      refine wp_seq_opq fun R hR => ?_
      simp [hz]
      refine call_s [.l 4, .l 2] e1 (by simp) ?_
      simp
      subst hR
      refine wp_seq_opq fun R hR => ?_
      simp
      subst hR
      refine wp_seq_opq fun R hR => ?_
      simp
      refine call_w [.l 4] m2 (by simp) (by simpa using hM) ?_
      simp
      subst hR
      refine wp_seq_opq fun R hR => ?_
      simp
      subst hR
      refine wp_seq_opq fun R hR => ?_
      simp
      refine call_s [.l 4] m3 (by simpa using hM) ?_
      simp
      subst hR
      refine wp_seq_opq fun R hR => ?_
      simp [hz]
      subst hR
      refine wp_seq_opq fun R hR => ?_
      simp
      subst hR
      refine wp_seq_opq fun R hR => ?_
      simp
      refine call_pc kS (by simp) (by simp) ?_
      simp
      refine LA.to hn _ _ rfl ?_
      simp
      refine call_g [.l 6] k2 (by simp) (by simp) ?_
      simp
      subst hR
      refine wp_seq_opq fun R hR => ?_
      simp
      refine call_s [.l 7, .l 2] e1 (by simp) ?_
      simp
      subst hR
      refine wp_seq_opq fun R hR => ?_
      simp
      subst hR
      refine wp_seq_opq fun R hR => ?_
      simp
      refine call_s [.l 4] m3 (by simpa using hM) ?_
      simp
      subst hR
      refine wp_seq_opq fun R hR => ?_
      simp [hz]
      subst hR
      refine wp_seq_opq fun R hR => ?_
      simp
      subst hR
      simp
      exact ret_pu (by simp) hE (by simp)
    · obtain ⟨k1, k2⟩ := renew_no s p w b hs hp hw hb n hn P F LA.hP LA.hF seed hc
      have m2 := markNilLayerS_ct 1
      have m3 := heldNilLayerS_ct 1
      have hz : ¬ (((1 : Nat) : Int) + 65 * ((n : Nat) : Int) < 0) := by omega
      generalize ((1 : Nat) : Int) + 65 * ((n : Nat) : Int) = z at *
      generalize lays n (mkP 1) (mkF 1) = M at *
      generalize bCode s p w b n P F = c at *
      subst hR
      refine wp_seq_opq fun R hR => ?_
      simp [h1, g1]
      subst hR
      refine wp_seq_opq fun R hR => ?_
      simp
      refine call_pc kS (by simp) (by simp) ?_
      simp
      refine LA.to hn _ _ rfl ?_
      simp
      refine call_g [.l 1] k1 (by simp) (by simp) ?_
      simp
      subst hR
      refine wp_seq_opq fun R hR => ?_
      simp
      refine LA.to hn _ _ rfl ?_
      simp
      subst hR
      refine wp_seq_opq fun R hR => ?_
      simp
      refine call_pc kS (by simp) (by simp) ?_
      simp
      refine call_s [.l 3] k2 (by simp) ?_
      simp
      subst hR
      refine wp_seq_opq fun R hR => ?_
      simp
      refine call_s [.l 2] eqNilLayerS_ct (by simp) ?_
      simp
      subst hR
      refine wp_seq_opq fun R hR => ?_
      simp
      refine LA.to hn _ _ rfl ?_
      simp
      refine call_s [.l 3, .l 4] heq (by simp) ?_
      simp
      subst hR
      refine wp_seq_opq fun R hR => ?_
      simp
      subst hR
      refine wp_seq_opq fun R hR => ?_
      simp
      refine call_w [.l 3] m1 (by simp) (by simpa using hM) ?_
      simp
      subst hR
      refine wp_seq_opq fun R hR => ?_
      simp [hz]
      refine call_s [.l 2] eqNilLayerS_ct (by simp) ?_
      simp
      subst hR
      refine wp_seq_opq fun R hR => ?_
      simp
      subst hR
      refine wp_seq_opq fun R hR => ?_
      simp
      refine call_pc m2 (by simp) (by simp) ?_
      simp
      subst hR
      refine wp_seq_opq fun R hR => ?_
      simp
      subst hR
      refine wp_seq_opq fun R hR => ?_
      simp
      refine call_pc m3 (by simp) (by simp) ?_
      simp
      subst hR
      refine wp_seq_opq fun R hR => ?_
      simp [hz]
      subst hR
      refine wp_seq_opq fun R hR => ?_
      simp
      subst hR
      refine wp_seq_opq fun R hR => ?_
      simp
      refine call_pc kS (by simp) (by simp) ?_
      simp
      refine LA.to hn _ _ rfl ?_
      simp
      refine call_s [.l 5] k2 (by simp) ?_
      simp
      subst hR
      refine wp_seq_opq fun R hR => ?_
      simp
      refine call_s [.l 2] eqNilLayerS_ct (by simp) ?_
      simp
      subst hR
      refine wp_seq_opq fun R hR => ?_
      simp
      subst hR
      refine wp_seq_opq fun R hR => ?_
      simp
      refine call_pc m3 (by simp) (by simp) ?_
      simp
      subst hR
      refine wp_seq_opq fun R hR => ?_
      simp [hz]
      subst hR
      refine wp_seq_opq fun R hR => ?_
      simp
      subst hR
      simp
      exact ret_pu (by simp) hE (by simp)
end Go.Proofs.Ytclgpechdpkmgaa
