/- A part of the proof library: names for blocks of memory, a small form of the code, and rules for walks over it. -/
import Derived.Test.YteidfholicaocaaU4b
import Derived.Test.YteidfholicaocaaT8b
set_option linter.all false
namespace Go.Proofs.Yteidfholicaocaa
open Go.Ab
set_option linter.all false
set_option maxHeartbeats 800000

theorem l03Rows_ct (n : Nat) (hn : n ≤ 8) (P : Nat → Int) (F : Nat → Nat → Nat) (c : Nat) (hc : c < 64) (ro : Bool) : Ct Try.prog ro 95 [.slx (.e 0) 0 n, .int .i64 c] [lays n P F] fun v E' L' => v = .slx (.l 0) 0 n ∧ E' = [lays n P F] ∧ L' = [byt n fun i => F i c] := by
  refine ct_of spec_l03Rows_ok ?_
  have hc1 : (c : Int) < 64 := by omega
  simp [spec_l03Rows_F, spec_l03Rows_M]
  refine wp_forI n (fun k st => ∃ cap junk, k ≤ cap ∧ junk.length = cap - k ∧ puL junk ∧ st = ⟨[(0, .slx (.e 0) 0 n), (1, .int .i64 c), (5, .sl (.l 0) 0 k cap), (6, .int .i64 k)], [(byt k fun i => F i c) ++ junk], [lays n P F]⟩) ?_ ?_ ?_
  · exact ⟨0, [], by simp, by simp, by simp, by simp; rfl⟩
  · rintro k st hk ⟨cap, junk, hle, hj, hpj, rfl⟩
    have hk1 : (k : Int) < n := by omega
    have hwk : IntKind.i64.wrap ((k : Int) + 1) = k + 1 := wrap_i64 (by omega) (by omega)
    have hle65 : k * 65 + 65 ≤ n * 65 := by omega
    have hf := lays_f (P := P) (F := F) hk hc
    rw [← Nat.add_assoc] at hf
    simp [spec_l03Rows_L0, hk1, hk, hc1, hc, hle65, hf]
    refine app_ownT 1 (d := some 23) [5, 14, 22] 0 k cap 1 (data := byt k fun i => F i c) (news := [.int .u8 (F k c)]) (junk := junk) (by simp [appNew]) (by simp) (by simp) (by simp) (by simp) (by simp [hj]) hle (by omega) (by omega) (by simp) (by simp) hpj (by simp) (by simp) (by simp) (by simp) (by simp) (by simp [puL.nb _ hpj]) ?_
    intro cap' junk' h1 h2 h3
    simp at h2
    simp [hwk, puL.lt _ h3]
    exact ⟨cap', h1, junk', h2, h3, rfl, by rw [byt_snoc]; simp⟩
  · rintro st ⟨cap, junk, hle, hj, hpj, rfl⟩
    simp [spec_l03Rows_L0]
    exact ret_new 0 (c := byt n fun i => F i c) (v' := .slx (.l 0) 0 n) (.inr (by simp [V.hid, hle, kmap])) (by simp) ⟨junk, by simp⟩ (by simp) (by simp) (by simp)
theorem colN_255 {n : Nat} (hn : n ≤ 8) (r : Nat → Nat) (k : Nat) : colN n 255 r k = pic n fun i => (r i).testBit k :=
  pic_congr fun i hi => by rw [show 255 = 2 ^ 8 - 1 from rfl, Nat.testBit_two_pow_sub_one]; simp; omega
theorem l03Sorted_ct (n : Nat) (h0 : 0 < n) (hn : n ≤ 1000) (g : Nat → Nat) (ro : Bool) : Ct Try.prog ro 137 [.slx (.e 0) 0 n] [byt n g] fun v E' L' => v = .slx (.l 0) 0 n ∧ E' = [byt n g] ∧ L' = [byt n (srt n g)] := by
  refine ct_of spec_l03Sorted_ok ?_
  simp only [spec_l03Sorted_F, spec_l03Sorted_M]
  refine wp_seq_opq fun R hR => ?_
  simp
  subst hR
  refine wp_seq_opq fun R hR => ?_
  simp
  refine app_ownT 1 (d := some 9) [7] 0 0 0 n (data := []) (news := byt n g) (junk := []) (by simp [appNew]) (by simp) (by simp) (by simp [zrow]) (by simp) (by simp) (by omega) (by omega) (by omega) (by simp) (by simp) (by simp) (by simp) (by simp) (by simp) (by simp) (by simp) (by simp [zrow]) ?_
  intro cap junk h1 h2 h3
  simp at h1 h2
  simp
  subst hR
  simp
  refine wp_for (n - 1) (fun k => ⟨[(3, .sl (.l 0) 0 n cap), (4, .int .i64 ((k : Int) + 1))], [byt n (srt (k + 1) g) ++ junk], [byt n g]⟩) ?_ ?_ ?_
  · simp [srt, insF]
  · intro k hk
    have hk1 : (k : Int) + 1 < n := by omega
    have hk2 : k + 1 < n := by omega
    have hwk : IntKind.i64.wrap ((k : Int) + 1 + 1) = (k : Int) + 1 + 1 := wrap_i64 (by omega) (by omega)
    have hget := byt_app_get (f := srt (k + 1) g) (l := junk) hk2
    have hk0 : (0 : Int) ≤ (k : Int) + 1 := by omega
    have hsr : srt (k + 1 + 1) g = insF (k + 1) (srt (k + 1) g) := rfl
    rw [hsr]
    generalize srt (k + 1) g = u at *
    simp [spec_l03Sorted_L0, hk1, hk2, hget, hk0]
    refine ⟨fun j s' => j ≤ k + 1 ∧ ∃ h, s' = ⟨[(3, .sl (.l 0) 0 n cap), (4, .int .i64 ((k : Int) + 1)), (5, .int .u8 (u (k + 1))), (6, .int .i64 j)], [byt n h ++ junk], [byt n g]⟩ ∧ insF j (fun i => if i = j then u (k + 1) else h i) = insF (k + 1) u, k + 1, ⟨Nat.le_refl _, u, by simp, congrArg (insF (k + 1)) (funext fun i => by by_cases e : i = k + 1 <;> simp [e])⟩, ?_⟩
    rintro j s' ⟨hj, h, rfl, hf⟩
    have hjn : j < n := by omega
    have hjn1 : (j : Int) < n := by omega
    have hset := fun (x : Nat) => byt_app_set (f := h) (l := junk) (x := x) hjn
    have hcl : n + junk.length = cap := by omega
    cases j with
    | zero =>
      simp [spec_l03Sorted_L1, hwk, h0, byt_set, show 1 ≤ n + junk.length by omega]
      exact byt_congr fun i _ => by rw [← hf]; simp [insF]
    | succ j =>
      have hj1 : (j : Int) + 1 < n := by omega
      have hj2 : (j : Int) < n := by omega
      have hj4 : j < n := by omega
      have hj5 : (0 : Int) ≤ (j : Int) + 1 := by omega
      have hwj : IntKind.i64.wrap (j : Int) = j := wrap_i64 (by omega) (by omega)
      have hge2 := byt_app_get (f := h) (l := junk) hj4
      by_cases hlt : u (k + 1) < h j
      · simp [spec_l03Sorted_L1, hj1, hj2, hjn, hj4, hj5, hwj, hge2, hlt, byt_set, show j + 1 + 1 ≤ n + junk.length by omega]
        refine ⟨j, by omega, by omega, fun i => if i = j + 1 then h j else h i, by simp, ?_⟩
        rw [← hf]
        simp only [insF]
        rw [if_pos (by simpa using hlt)]
        congr 1
        funext i
        simp only [swpF, Nat.add_sub_cancel]
        by_cases e1 : i = j <;> by_cases e2 : i = j + 1 <;> simp [e1, e2] <;> omega
      · simp [spec_l03Sorted_L1, hj1, hj2, hjn, hj4, hj5, hwj, hge2, hlt, hwk, byt_set, show j + 1 + 1 ≤ n + junk.length by omega]
        refine byt_congr fun i _ => ?_
        have e : insF (j + 1) (fun i => if i = j + 1 then u (k + 1) else h i) = fun i => if i = j + 1 then u (k + 1) else h i := if_neg (by simpa using hlt)
        rw [← hf, e]
  · simp [spec_l03Sorted_L0, show ¬ (((n - 1 : Nat) : Int) + 1 < n) by omega]
    rw [show n - 1 + 1 = n by omega]
    exact ret_new 0 (c := byt n (srt n g)) (v' := .slx (.l 0) 0 n) (.inr (by simp [V.hid, h1, kmap])) (by simp) ⟨junk, by simp⟩ (by simp) (by simp) (by simp)
theorem l03Columns_ct (n p : Nat) (h0 : 0 < p) (hn : n ≤ 8) (hp : p ≤ 8) (r : Nat → Nat) (hr : ∀ i, r i < 256) (ro : Bool) : Ct Try.prog ro 94 [.slx (.e 0) 0 n, .int .i64 p] [byt n r] fun v E' L' => v = .slx (.l 0) 0 p ∧ E' = [byt n r] ∧ L' = [byt p (srt p (colN n 255 r))] := by
  rw [show colN n 255 r = fun k => pic n fun i => (r i).testBit k from funext (colN_255 hn r)]
  have hcall := l03Sorted_ct p h0 (by omega) (fun k => pic n fun i => (r i).testBit k)
  refine ct_of spec_l03Columns_ok ?_
  simp [spec_l03Columns_F, spec_l03Columns_M]
  refine wp_forI p (fun k st => ∃ cap junk, k ≤ cap ∧ junk.length = cap - k ∧ puL junk ∧ st = ⟨[(0, .slx (.e 0) 0 n), (1, .int .i64 p), (5, .sl (.l 0) 0 k cap), (6, .int .i64 k)], [(byt k fun k => pic n fun i => (r i).testBit k) ++ junk], [byt n r]⟩) ?_ ?_ ?_
  · exact ⟨0, [], by simp, by simp, by simp, by simp; rfl⟩
  · rintro k st hk ⟨cap, junk, hle, hj, hpj, rfl⟩
    have hk1 : (k : Int) < p := by omega
    have hwk : IntKind.i64.wrap ((k : Int) + 1) = k + 1 := wrap_i64 (by omega) (by omega)
    have hwu : IntKind.u64.wrap (k : Int) = k := wrap_u64 (by omega) (by omega)
    simp [spec_l03Columns_L0, hk1]
    refine wp_for n (fun i => ⟨[(0, .slx (.e 0) 0 n), (1, .int .i64 p), (5, .sl (.l 0) 0 k cap), (6, .int .i64 k), (7, .int .u8 (pic i fun i => (r i).testBit k)), (8, .int .i64 i)], [(byt k fun k => pic n fun i => (r i).testBit k) ++ junk], [byt n r]⟩) ?_ ?_ ?_
    · simp [pic]
    · intro i hi
      have hi1 : (i : Int) < n := by omega
      have hwi : IntKind.i64.wrap ((i : Int) + 1) = i + 1 := wrap_i64 (by omega) (by omega)
      have hwui : IntKind.u64.wrap (i : Int) = i := wrap_u64 (by omega) (by omega)
      have hg := byt_get (f := r) hi
      have hst := take8 (F := fun i => (r i).testBit k) (hr i) k (show i < 8 by omega) rfl
      simp [spec_l03Columns_L1, hi1, hi, hg, hwu, hwui, hst, hwi]
    · simp [spec_l03Columns_L1]
      refine app_ownT 1 (d := some 37) [5, 34, 36] 0 k cap 1 (data := byt k fun k => pic n fun i => (r i).testBit k) (news := [.int .u8 (pic n fun i => (r i).testBit k : Nat)]) (junk := junk) (by simp [appNew]) (by simp) (by simp) (by simp) (by simp) (by simp [hj]) hle (by omega) (by omega) (by simp) (by simp) hpj (by simp) (by simp) (by simp) (by simp) (by simp) (by simp [puL.nb _ hpj]) ?_
      intro cap' junk' h1 h2 h3
      simp at h2
      simp [hwk, puL.lt _ h3]
      exact ⟨cap', h1, junk', h2, h3, rfl, by rw [byt_snoc]; simp⟩
  · rintro st ⟨cap, junk, hle, hj, hpj, rfl⟩
    simp [spec_l03Columns_L0]
    generalize srt p (fun k => pic n fun i => (r i).testBit k) = g at *
    refine call_rX [.l 0] (L2 := [byt p g]) hcall (sigOk_mkR (by simp) (by simp) (by simp)) (by simp [hidL, V.hid, hle]) (by simp) (by simp) ?_
    simp
    exact ret_new 1 (c := byt p g) (v' := .slx (.l 0) 0 p) (.inl (by simp [kmap])) (by simp) ⟨[], by simp⟩ (by simp) (by simp) (by simp)
theorem columnsAt_ct (n p : Nat) (h0 : 0 < n) (hn : n ≤ 8) (hp0 : 0 < p) (hp : p ≤ 8) (P : Nat → Int) (F : Nat → Nat → Nat) (hP : P 0 = p) (hF : ∀ i j, F i j < 256) (c : Nat) (hc : c < 64) (ro : Bool) :
    Ct Try.prog ro 97 [.slx (.e 0) 0 n, .int .i64 c] [lays n P F] fun v E' L' => v = .slx (.l 0) 0 p ∧ E' = [lays n P F] ∧ L' = [byt p (srt p (colN n 255 fun i => F i c))] := by
  have hc1 : (c : Int) < 64 := by omega
  have hp1 := lays_p (P := P) (F := F) h0
  rw [Nat.zero_mul, hP] at hp1
  have hp1E : ∀ h, (lays n P F)[0]'h = .int .i8 p := fun h => by rw [List.getElem?_eq_getElem h] at hp1; exact Option.some.inj hp1
  refine ct_of impl_columnsAt_ok ?_
  simp [impl_columnsAt_F, impl_columnsAt_M]
  refine wp_forI n (fun k st => ∃ cap junk, k ≤ cap ∧ junk.length = cap - k ∧ puL junk ∧ st = ⟨[(0, .slx (.e 0) 0 n), (1, .int .i64 c), (5, .sl (.l 0) 0 k cap), (9, .slx (.e 0) 0 n), (10, .int .i64 n), (11, .int .i64 k)], [(byt k fun i => F i c) ++ junk], [lays n P F]⟩) ?_ ?_ ?_
  · exact ⟨0, [], by simp, by simp, by simp, by simp; rfl⟩
  · rintro k st hk ⟨cap, junk, hle, hj, hpj, rfl⟩
    have hk1 : (k : Int) < n := by omega
    have hwk : IntKind.i64.wrap ((k : Int) + 1) = k + 1 := wrap_i64 (by omega) (by omega)
    have hle65 : k * 65 + 65 ≤ n * 65 := by omega
    simp [impl_columnsAt_L0, hk1, hk, hle65, lays_at hk, layC_zero, hc1, hc, layC_f hc]
    refine app_ownT 1 (d := some 21) [5, 7, 15, 17, 18, 20] 0 k cap 1 (data := byt k fun i => F i c) (news := [.int .u8 (F k c)]) (junk := junk) (by simp [appNew]) (by simp) (by simp) (by simp) (by simp) (by simp [hj]) hle (by omega) (by omega) (by simp) (by simp) hpj (by simp) (by simp) (by simp) (by simp) (by simp) (by simp [puL.nb _ hpj]) ?_
    intro cap' junk' h1 h2 h3
    simp at h2
    simp [hwk, puL.lt _ h3]
    exact ⟨cap', h1, junk', h2, h3, rfl, by rw [byt_snoc]; simp⟩
  · rintro st ⟨cap, junk, hle, hj, hpj, rfl⟩
    have hpu : puL ((byt n fun i => F i c) ++ junk) := by simp [puL_append, hpj]
    have k1 := columnsOf_ct n 0 cap hn ((byt n fun i => F i c) ++ junk) (fun i => F i c) (fun i => hF i c) (fun i hi => by rw [Nat.zero_add]; exact byt_app_get hi) hpu p hp 255 (by omega)
    have k2 := values_ct 0 p p (byt p (colN n 255 fun i => F i c)) (by simp)
    have k3 := sorted_ct p 0 p hp0 hp (byt p (colN n 255 fun i => F i c)) (by simp) (colN n 255 fun i => F i c) (fun i hi => by rw [Nat.zero_add]; exact byt_get hi)
    generalize (colN n 255 fun i => F i c) = q at *
    simp [impl_columnsAt_L0, h0, hp1, hp1E, show (0 : Int) < n by omega]
    generalize ((byt n fun i => F i c) ++ junk) = row at *
    refine call_rE [.l 0] (L2 := [byt p q]) k1 (sigOk_mk (by simp) rfl (by simp [St.blk, puL.ren _ hpu, puL.eo _ hpu])) (by simp [nmap]) (by simp [eoL, V.eo]) (by simp) ?_
    simp [nmap]
    refine call_rL [.l 1] k2 (sigOk_mk (by simp) rfl (by simp [St.blk])) (by simp [nmap]) (by simp) ?_
    simp [nmap, V.ren]
    refine call_rE [.l 2, .l 1] (L2 := [byt p (srt p q)]) k3 (sigOk_mk (by simp) rfl (by simp [St.blk, nmap])) (by simp [nmap]) (by simp [eoL, V.eo]) (by simp) ?_
    simp [nmap]
    exact ret_new 3 (c := byt p (srt p q)) (v' := .slx (.l 0) 0 p) (.inl (by simp [kmap])) (by simp) ⟨[], by simp⟩ (by simp) (by simp) (by simp)
end Go.Proofs.Yteidfholicaocaa
