/- A part of the proof library: names for blocks of memory, a small form of the code, and rules for walks over it. -/
import Derived.Test.YteidfholicaocaaW3b
set_option linter.all false
namespace Go.Proofs.Yteidfholicaocaa
open Go.Ab
set_option linter.all false
set_option maxHeartbeats 800000

/-- How many columns are left, and which. -/
def lsN (f g : Nat → Nat) (p : Nat) : Nat := (lsS f (upto g p) p).2.length
def lsF (f g : Nat → Nat) (p : Nat) : Nat → Nat := fun i => (lsS f (upto g p) p).2.getD i 0
theorem ls_sd {f : Nat → Nat} {p : Nat} (hf : Sd p f) (g : Nat → Nat) : Sd (lsN f g p) (lsF f g p) := sd_getD (lsS_sd hf _ p (Nat.le_refl _))
theorem ls_colh (f g : Nat → Nat) (p v : Nat) : colh (lsF f g p) (lsN f g p) v = colh f p v - min (colh f p v) (colh g p v) := by
  have h1 := colh_count (lsF f g p) v (lsN f g p)
  have h2 := upto_getD (lsS f (upto g p) p).2
  have h3 := (lsS_count f (upto g p) v p).2
  have h4 := colh_count f v p
  have h5 := colh_count g v p
  rw [show upto (lsF f g p) (lsN f g p) = (lsS f (upto g p) p).2 from h2, h3] at h1
  omega
theorem ls_le (f g : Nat → Nat) (p : Nat) : lsN f g p ≤ p := (lsS_len f (upto g p) p).2.1
theorem ls_same (f g : Nat → Nat) (p : Nat) : lsN f g p = lsN g f p := by
  have h1 := (lsS_len f (upto g p) p).2.2
  have hp : ((lsS f (upto g p) p).1).Perm (lsS g (upto f p) p).2 := List.perm_iff_count.2 fun v => by
    rw [(lsS_count f (upto g p) v p).1, (lsS_count g (upto f p) v p).2]
  have h2 := hp.length_eq
  rw [upto_length] at h1
  unfold lsN
  omega
theorem ls_bound {f : Nat → Nat} {p B : Nat} (hf : ∀ k, k < p → f k < B) (g : Nat → Nat) (k : Nat) (hk : k < lsN f g p) : lsF f g p k < B := by
  have hm : lsF f g p k ∈ (lsS f (upto g p) p).2 := by
    unfold lsF lsN at *
    simp only [List.getD, List.getElem?_eq_getElem hk, Option.getD_some]
    exact List.getElem_mem hk
  obtain ⟨j, hj, e⟩ := lsS_mem f (upto g p) p _ hm
  rw [e]; exact hf j hj

theorem l00Min_pc (a b : Int) : PC Try.prog 86 [.int .i64 a, .int .i64 b] (.int .i64 (min a b)) := by
  refine pc_of spec_l00Min_ok (fun ro => ?_)
  by_cases h : a < b
  · have e : min a b = a := by omega
    simp [spec_l00Min_F, spec_l00Min_M, h, e]
    exact ret_pu (by simp) (by simp) (by simp)
  · have e : min a b = b := by omega
    simp [spec_l00Min_F, spec_l00Min_M, h, e]
    exact ret_pu (by simp) (by simp) (by simp)
theorem cancel_spec (m : Nat) (hm : m ≤ 6) (p : Nat) (h0 : 0 < p) (hp : p ≤ 8) (w b : Nat → Nat) (hw : ∀ i, w i < 256) (hb : ∀ i, b i < 256) (hok : sok m p w b = true) (f g : Nat → Nat) (hef : f = srt p (colN 6 63 w)) (heg : g = srt p (colN 6 63 b)) :
    PC Try.prog 39 [sch m p w b] (if lsN f g p = 0 then .tup [sch 0 0 (fun _ => 0) fun _ => 0, .int .i64 4] else .tup [sch m (lsN f g p) (rowN (lsN f g p) (lsF f g p)) (rowN (lsN f g p) (lsF g f p)), .int .i64 0]) := by
  have k1 := l02Ok_ct m p w b (by omega) (by omega) hw hb
  rw [hok] at k1
  have k2 := l02Columns_ct m p w b hp hw hb 63 (by omega) false
  have k3 := l02Columns_ct m p w b hp hw hb 63 (by omega) true
  rw [show rws false w b = w from rfl] at k2
  rw [show rws true w b = b from rfl] at k3
  obtain ⟨zw, zb⟩ := sok_zero2 hok
  have sf : Sd p f := hef ▸ srt_sd _ _
  have sg : Sd p g := heg ▸ srt_sd _ _
  have cf : ∀ v, colh (colN 6 63 w) p v = colh f p v := fun v => by rw [hef, colh_srt]
  have cg : ∀ v, colh (colN 6 63 b) p v = colh g p v := fun v => by rw [heg, colh_srt]
  have bf : ∀ k, k < p → f k < 64 := fun k hk => by rw [hef]; exact srt_bound (fun k _ => colN_lt) hk
  have bg : ∀ k, k < p → g k < 64 := fun k hk => by rw [heg]; exact srt_bound (fun k _ => colN_lt) hk
  have mf : ∀ k, k < p → f k < 2 ^ m := fun k hk => by rw [hef]; exact srt_bound (fun k _ => colN_bound zw k) hk
  have mg : ∀ k, k < p → g k < 2 ^ m := fun k hk => by rw [heg]; exact srt_bound (fun k _ => colN_bound zb k) hk
  have hsame := ls_same f g p
  have k4 := l02Listed_ct (fun c => colh f p c - min (colh f p c) (colh g p c)) (lsN f g p) (Nat.le_trans (ls_le f g p) (by omega)) (lsF f g p) (ls_sd sf g) (fun k hk => ls_bound bf g k hk) (fun c _ => (ls_colh f g p c).symm)
  have k5 := l02Listed_ct (fun c => colh g p c - min (colh f p c) (colh g p c)) (lsN g f p) (Nat.le_trans (ls_le g f p) (by omega)) (lsF g f p) (ls_sd sg f) (fun k hk => ls_bound bg f k hk) (fun c _ => by rw [ls_colh g f p c]; congr 1; omega)
  have k6 := l02From_ct m (lsN f g p) hm (Nat.le_trans (ls_le f g p) hp) (lsF f g p) (lsF g f p) (fun k hk => Nat.lt_trans (ls_bound bf g k hk) (by decide)) (fun k hk => Nat.lt_trans (ls_bound bg f k (hsame ▸ hk)) (by decide))
  have hv : sch m (lsN f g p) (fun i => if i < m then rowN (lsN f g p) (lsF f g p) i else 0) (fun i => if i < m then rowN (lsN f g p) (lsF g f p) i else 0) = sch m (lsN f g p) (rowN (lsN f g p) (lsF f g p)) (rowN (lsN f g p) (lsF g f p)) :=
    congrArg V.agg (schC_congr (fun i _ => by by_cases h : i < m <;> simp [h]; exact (rowN_zero (fun k hk => ls_bound mf g k hk) (by omega)).symm) (fun i _ => by by_cases h : i < m <;> simp [h]; exact (rowN_zero (fun k hk => ls_bound mg f k (hsame ▸ hk)) (by omega)).symm))
  rw [hv] at k6
  rw [← hsame] at k5
  have hq := ls_le f g p
  generalize hrow1 : rowN (lsN f g p) (lsF f g p) = W' at *
  generalize hrow2 : rowN (lsN f g p) (lsF g f p) = B' at *
  generalize lsF f g p = o1 at *
  generalize lsF g f p = o2 at *
  generalize lsN f g p = q at *
  have ecw : colh (colN 6 63 w) p = colh f p := funext cf
  have ecb : colh (colN 6 63 b) p = colh g p := funext cg
  rw [ecw] at k2
  rw [ecb] at k3
  have lf := fun v => colh_le f v p
  have lg := fun v => colh_le g v p
  generalize colh f p = F at *
  generalize colh g p = G at *
  have hz : rl [(64, .int .i8 0)] = arr .i8 64 fun _ => 0 := arr_zero
  refine pc_of spec_CancelColumns_ok (fun ro => ?_)
  simp only [spec_CancelColumns_F, spec_CancelColumns_M]
  refine wp_seq_opq fun R hR => ?_
  simp [schC_zero]
  subst hR
  refine wp_seq_opq fun R hR => ?_
  simp [schC_zero]
  refine call_s [.l 0] k1 (by simp) ?_
  simp
  subst hR
  refine wp_seq_opq fun R hR => ?_
  simp
  refine call_s [.l 0] k2 (by simp) ?_
  simp [hz]
  subst hR
  refine wp_seq_opq fun R hR => ?_
  simp
  refine call_s [.l 0] k3 (by simp) ?_
  simp [hz]
  subst hR
  refine wp_seq_opq fun R hR => ?_
  simp
  refine wp_for 64 (fun i => ⟨[(1, .ptr (.l 0) 0), (2, .ptr (.l 1) 0), (4, .ptr (.l 2) 0), (5, .ptr (.l 3) 0), (6, .int .i64 i)], [schC m p w b, schC 0 0 (fun _ => 0) fun _ => 0, arr .i8 64 (fun c => if c < i then F c - min (F c) (G c) else F c), arr .i8 64 fun c => if c < i then G c - min (F c) (G c) else G c], []⟩) ?_ ?_ ?_
  · simp
  · intro i hi
    have hi1 : (i : Int) < 64 := by omega
    have hwi : IntKind.i64.wrap ((i : Int) + 1) = i + 1 := wrap_i64 (by omega) (by omega)
    have f1 := lf i
    have g1 := lg i
    have wf : IntKind.i64.wrap (F i) = F i := wrap_i64 (by omega) (by omega)
    have wg : IntKind.i64.wrap (G i) = G i := wrap_i64 (by omega) (by omega)
    have hmin := l00Min_pc (F i) (G i)
    have wm : IntKind.i8.wrap (min (F i) (G i)) = min (F i) (G i) := wrap_i8 (by omega) (by omega)
    have w1 : IntKind.i8.wrap (F i - min (F i) (G i)) = F i - min (F i) (G i) := wrap_i8 (by omega) (by omega)
    have w2 : IntKind.i8.wrap (G i - min (F i) (G i)) = G i - min (F i) (G i) := wrap_i8 (by omega) (by omega)
    simp [spec_CancelColumns_L0, hi1, hi, arr_get, wf, wg]
    refine calld_pc hmin (by simp) (by simp) ?_
    simp [wm, hi, hi1, arr_get, arr_set, w1, w2, hwi, show i ≤ 63 by omega]
    exact ⟨arr_congr fun c _ => by by_cases e : c = i <;> by_cases e2 : c < i <;> simp [e, e2] <;> omega, arr_congr fun c _ => by by_cases e : c = i <;> by_cases e2 : c < i <;> simp [e, e2] <;> omega⟩
  · simp [spec_CancelColumns_L0]
    have e1 : (arr .i8 64 fun c => if c < 64 then F c - min (F c) (G c) else F c) = arr .i8 64 fun c => F c - min (F c) (G c) := arr_congr fun c hc => by simp [hc]
    have e2 : (arr .i8 64 fun c => if c < 64 then G c - min (F c) (G c) else G c) = arr .i8 64 fun c => G c - min (F c) (G c) := arr_congr fun c hc => by simp [hc]
    rw [e1, e2]
    generalize (fun c => F c - min (F c) (G c)) = DF at *
    generalize (fun c => G c - min (F c) (G c)) = DG at *
    subst hR
    refine wp_seq_opq fun R hR => ?_
    simp
    refine call_g [] k4 (by simp) (by simp) ?_
    simp
    subst hR
    by_cases hq0 : q = 0
    · subst hq0
      refine wp_seq_opq fun R hR => ?_
      simp [schC_zero]
      exact ret_pu (by simp) (by simp) (by simp)
    · have hq1 : ¬ (q : Int) = 0 := by omega
      refine wp_seq_opq fun R hR => ?_
      simp [hq0, hq1]
      subst hR
      refine wp_seq_opq fun R hR => ?_
      simp
      refine calld_r [] k5 (by simp) (by simp) ?_
      simp
      refine calld_r [.l 4, .l 5] (L2 := []) k6 (by simp) (by simp) ?_
      simp
      subst hR
      simp
      exact ret_pu (by simp) (by simp) (by simp [hq0])
theorem cancel_impl (m : Nat) (hm : m ≤ 6) (p : Nat) (h0 : 0 < p) (hp : p ≤ 8) (w b : Nat → Nat) (hw : ∀ i, w i < 256) (hb : ∀ i, b i < 256) (hok : sok m p w b = true) (f g : Nat → Nat) (hef : f = srt p (colN 6 63 w)) (heg : g = srt p (colN 6 63 b)) :
    PC Try.prog 40 [sch m p w b] (if lsN f g p = 0 then .tup [sch 0 0 (fun _ => 0) fun _ => 0, .int .i64 4] else .tup [sch m (lsN f g p) (rowN (lsN f g p) (lsF f g p)) (rowN (lsN f g p) (lsF g f p)), .int .i64 0]) := by
  have k1 := implValidScheme_pc m p w b (by omega) (by omega) hw hb
  rw [hok] at k1
  obtain ⟨zw, zb⟩ := sok_zero2 hok
  have k0 := all_pc m p w b (by omega)
  have ev := all_val ⟨m, by omega⟩
  simp only at ev
  rw [ev] at k0
  have k2 := sortedColumns_ct m p w b h0 hp hw hb (2 ^ m - 1) (all_lt ⟨m, by omega⟩) false
  have k3 := sortedColumns_ct m p w b h0 hp hw hb (2 ^ m - 1) (all_lt ⟨m, by omega⟩) true
  rw [show rws false w b = w from rfl, show colN 6 (2 ^ m - 1) w = colN 6 63 w from funext (colN_all hm zw), ← hef] at k2
  rw [show rws true w b = b from rfl, show colN 6 (2 ^ m - 1) b = colN 6 63 b from funext (colN_all hm zb), ← heg] at k3
  have bf : ∀ k, k < p → f k < 256 := fun k hk => by rw [hef]; exact srt_bound (fun k _ => colN_lt8 (by omega)) hk
  have bg : ∀ k, k < p → g k < 256 := fun k hk => by rw [heg]; exact srt_bound (fun k _ => colN_lt8 (by omega)) hk
  have k4 : ∀ ro, Ct Try.prog ro 91 [.slx (.e 0) 0 p, .slx (.e 1) 0 p] [byt p f, byt p g] fun v E' L' => v = .slx (.l 0) 0 (lsN f g p) ∧ E' = [byt p f, byt p g] ∧ L' = [byt (lsN f g p) (lsF f g p)] := lessColumns_ct p p h0 (by omega) (by omega) f g
  have k5 : ∀ ro, Ct Try.prog ro 91 [.slx (.e 0) 0 p, .slx (.e 1) 0 p] [byt p g, byt p f] fun v E' L' => v = .slx (.l 0) 0 (lsN g f p) ∧ E' = [byt p g, byt p f] ∧ L' = [byt (lsN g f p) (lsF g f p)] := lessColumns_ct p p h0 (by omega) (by omega) g f
  have hsame := ls_same f g p
  have hq := ls_le f g p
  have k6 := rowsOf_ct (lsN f g p) (Nat.le_trans hq hp) m (lsN f g p) w b (lsF f g p) (fun k hk => ls_bound bf g k hk) false
  have k7 := rowsOf_ct (lsN f g p) (Nat.le_trans hq hp) m (lsN f g p) (rowN (lsN f g p) (lsF f g p)) b (lsF g f p) (fun k hk => ls_bound bg f k (hsame ▸ hk)) true
  rw [← hsame] at k5
  have hwq : IntKind.i8.wrap ((lsN f g p : Nat) : Int) = (lsN f g p : Nat) := wrap_i8 (by omega) (by omega)
  generalize rowN (lsN f g p) (lsF f g p) = W' at *
  generalize rowN (lsN f g p) (lsF g f p) = B' at *
  generalize lsF f g p = o1 at *
  generalize lsF g f p = o2 at *
  generalize lsN f g p = q at *
  generalize 2 ^ m - 1 = a at *
  refine pc_of impl_CancelColumns_ok (fun ro => ?_)
  simp only [impl_CancelColumns_F, impl_CancelColumns_M]
  refine wp_seq_opq fun R hR => ?_
  simp [schC_zero]
  subst hR
  refine wp_seq_opq fun R hR => ?_
  simp [schC_zero]
  refine call_pc k1 (by simp) (by simp) ?_
  simp
  subst hR
  refine wp_seq_opq fun R hR => ?_
  simp
  refine calld_pc k0 (by simp) (by simp) ?_
  simp
  refine calld_r [] k2 (by simp) (by simp) ?_
  simp
  refine calld_pc k0 (by simp) (by simp) ?_
  simp
  refine calld_r [] k3 (by simp) (by simp) ?_
  simp
  subst hR
  refine wp_seq_opq fun R hR => ?_
  simp
  refine call_rE [.l 2, .l 3] (L2 := [byt q o1]) k4 (sigOk_mk (by simp) (by simp) (by simp [St.blk])) (by simp [nmap]) (by simp) (by simp) ?_
  simp
  refine call_rE [.l 3, .l 2] (L2 := [byt q o2]) k5 (sigOk_mk (by simp) (by simp) (by simp [St.blk])) (by simp [nmap]) (by simp) (by simp) ?_
  simp
  subst hR
  by_cases hq0 : q = 0
  · subst hq0
    refine wp_seq_opq fun R hR => ?_
    simp [schC_zero]
    exact ret_pu (by simp) (by simp) (by simp)
  · have hq1 : ¬ (q : Int) = 0 := by omega
    refine wp_seq_opq fun R hR => ?_
    simp [hq0, hq1]
    subst hR
    refine wp_seq_opq fun R hR => ?_
    simp [hwq]
    subst hR
    refine wp_seq_opq fun R hR => ?_
    simp
    refine call_w [.l 0, .l 4] k6 rfl (by simp) ?_
    simp
    subst hR
    refine wp_seq_opq fun R hR => ?_
    simp
    refine call_w [.l 0, .l 5] k7 rfl (by simp) ?_
    simp
    subst hR
    simp
    exact ret_pu (by simp) (by simp) (by simp [hq0])
theorem cancel_both (s p : Int) (w b : Nat → Nat) (hs : -128 ≤ s ∧ s < 128) (hp : -128 ≤ p ∧ p < 128) (hw : ∀ i, w i < 256) (hb : ∀ i, b i < 256) :
    ∃ (s' p' : Int) (w' b' : Nat → Nat) (c : Int), PC Try.prog 39 [sch s p w b] (.tup [sch s' p' w' b', .int .i64 c]) ∧ PC Try.prog 40 [sch s p w b] (.tup [sch s' p' w' b', .int .i64 c]) := by
  cases hok : sok s p w b
  · have k1 := l02Ok_ct s p w b hs hp hw hb
    have k2 := implValidScheme_pc s p w b hs hp hw hb
    rw [hok] at k1 k2
    refine ⟨0, 0, fun _ => 0, fun _ => 0, 1, ?_, ?_⟩
    · refine pc_of spec_CancelColumns_ok (fun ro => ?_)
      simp only [spec_CancelColumns_F, spec_CancelColumns_M]
      refine wp_seq_opq fun R hR => ?_
      simp [schC_zero]
      subst hR
      refine wp_seq_opq fun R hR => ?_
      simp [schC_zero]
      refine call_s [.l 0] k1 (by simp) ?_
      simp
      exact ret_pu (by simp) (by simp) (by simp)
    · refine pc_of impl_CancelColumns_ok (fun ro => ?_)
      simp only [impl_CancelColumns_F, impl_CancelColumns_M]
      refine wp_seq_opq fun R hR => ?_
      simp [schC_zero]
      subst hR
      refine wp_seq_opq fun R hR => ?_
      simp [schC_zero]
      refine call_pc k2 (by simp) (by simp) ?_
      simp
      exact ret_pu (by simp) (by simp) (by simp)
  · obtain ⟨h1, h2, _⟩ := sok_iff.1 hok
    obtain ⟨m, rfl⟩ := Int.eq_ofNat_of_zero_le (show 0 ≤ s by omega)
    obtain ⟨q, rfl⟩ := Int.eq_ofNat_of_zero_le (show 0 ≤ p by omega)
    have a1 := cancel_spec m (by omega) q (by omega) (by omega) w b hw hb hok _ _ rfl rfl
    have a2 := cancel_impl m (by omega) q (by omega) (by omega) w b hw hb hok _ _ rfl rfl
    by_cases hq : lsN (srt q (colN 6 63 w)) (srt q (colN 6 63 b)) q = 0
    · rw [if_pos hq] at a1 a2
      exact ⟨_, _, _, _, _, a1, a2⟩
    · rw [if_neg hq] at a1 a2
      exact ⟨_, _, _, _, _, a1, a2⟩
theorem lawCancelColumns (s p : Int) (w b : Nat → Nat) (hs : -128 ≤ s ∧ s < 128) (hp : -128 ≤ p ∧ p < 128) (hw : ∀ i, w i < 256) (hb : ∀ i, b i < 256) : PC Try.prog 12 [sch s p w b] (.bool true) := by
  obtain ⟨s', p', w', b', c, h1, h2⟩ := cancel_both s p w b hs hp hw hb
  refine pc_of laws_FnExactCancelColumns_ok (fun ro => ?_)
  simp [laws_FnExactCancelColumns_F, laws_FnExactCancelColumns_M, schC_zero]
  refine call_pc (toScheme_pc s p w b) (by simp) (by simp) ?_
  simp
  refine call_pc h1 (by simp) (by simp) ?_
  simp
  refine call_pc (toScheme_pc s p w b) (by simp) (by simp) ?_
  simp
  refine call_pc h2 (by simp) (by simp) ?_
  simp
  refine call_pc (eqScheme_pc s' p' w' b') (by simp) (by simp) ?_
  simp
  exact ret_pu (by simp) (by simp) (by simp)
end Go.Proofs.Yteidfholicaocaa
