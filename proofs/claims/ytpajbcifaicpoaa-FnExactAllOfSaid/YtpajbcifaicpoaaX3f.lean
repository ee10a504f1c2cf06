/- A part of the proof library: names for blocks of memory, a small form of the code, and rules for walks over it. -/
import Derived.Test.YtpajbcifaicpoaaX2f
set_option linter.all false
namespace Go.Proofs.Ytpajbcifaicpoaa
open Go.Ab
set_option linter.all false
set_option maxHeartbeats 800000

def BInv (m n H c : Nat) (st : St) : Prop :=
  ∃ mm v0 v1, st = ⟨[(2, .ptr (.l 0) 0), (4, .ptr (.l 1) 0), (5, .ptr (.l 2) 0), (20, .int .i64 n), (21, .int .i64 c)], mm, []⟩ ∧ mm[0]? = some (schC 0 0 (fun _ => 0) fun _ => 0) ∧ mm[1]? = some (schC m H (fun _ => 0) fun _ => 0) ∧ mm[2]? = some [v0, v1] ∧ Col mm v0 (parL false c) ∧ Col mm v1 (parL true c) ∧ (∀ b, blkOf v0 = some b → blkOf v1 = some b → False) ∧ ltC mm.length mm

theorem onesCount_pc (n : Nat) (hn : n < 18446744073709551616) : PC Try.prog 20 [.int .u64 n] (.int .i64 (cnt 64 n)) := by
  have h := onesCount64_pc n hn
  refine pc_of math_bits_OnesCount_ok (fun ro => ?_)
  simp [math_bits_OnesCount_F, math_bits_OnesCount_M]
  refine call_pc h (by simp) (by simp) ?_
  simp
  exact ret_pu (by simp) (by simp) (by simp)

theorem allOf_step (ro : Bool) (Q : Ex → St → Prop) (m n H c : Nat) (hn : n ≤ 16) (hc : c < n) (st : St) (h : BInv m n H c st) : MC.wp Try.prog ro allL0 (thenE (BInv m n H (c + 1)) Q) st := by
  obtain ⟨mm, v0, v1, rfl, hm0, hm1, hm2, hc0, hc1, hap, hlt⟩ := h
  have hc11 : (c : Int) < n := by omega
  have hwc : IntKind.i64.wrap ((c : Int) + 1) = c + 1 := wrap_i64 (by omega) (by omega)
  have hwu : IntKind.u64.wrap (c : Int) = c := wrap_u64 (by omega) (by omega)
  have hw8 : IntKind.u8.wrap (c : Int) = c := wrap_u8 (by omega) (by omega)
  have hcnt := onesCount_pc c (by omega)
  have hn0 := parL_len false c
  have hn1 := parL_len true c
  have e0 : parL false (c + 1) = if decide (cnt 64 c % 2 = 1) = false then parL false c ++ [c] else parL false c := rfl
  have e1 : parL true (c + 1) = if decide (cnt 64 c % 2 = 1) = true then parL true c ++ [c] else parL true c := rfl
  have hlen : 2 < mm.length := (List.getElem?_eq_some_iff.1 hm2).1
  generalize cnt 64 c = b at *
  unfold allL0
  refine wp_seq_opq fun R hR => ?_
  simp [hc11]
  subst hR
  refine wp_seq_opq fun R hR => ?_
  simp
  subst hR
  refine wp_seq_opq fun R hR => ?_
  rw [wp_block_]
  refine wp_seq_opq fun R2 hR2 => ?_
  simp
  subst hR2
  refine wp_seq_opq fun R2 hR2 => ?_
  simp [hwu]
  refine call_pc hcnt (by simp) (by simp) ?_
  by_cases hb : b % 2 = 1
  · have htm : (b : Int).tmod 2 = 1 := by rw [Int.tmod_eq_emod_of_nonneg (by omega)]; omega
    simp [htm]
    subst hR2
    simp [hm2, hw8]
    refine app_col hc1 (by omega) (by omega) fun v' mm' hcol hk => ?_
    have hl2 := hk.low 2 (by omega)
    rw [hm2] at hl2
    obtain ⟨ho2, hoap⟩ := hk.cols v0 _ hc0 (fun b e1 e2 => hap b e2 e1)
    have hlen' := hk.len
    have lv0 := V.lt.mono' (Nat.le_of_lt hlen') _ hc0.lt
    have lv1 := V.lt.mono' (Nat.le_of_lt hlen') _ hc1.lt
    have lv' := hcol.lt
    have ov' := hcol.one
    have o0 := hc0.one
    have o1 := hc1.one
    have hltC := hk.ltC hlt
    obtain ⟨b', k', cap', rfl⟩ := hcol.sl
    simp only [V.lt] at lv'
    refine wkK_same ?_ (by simp) hltC ?_
    · simp [ltT, V.lt, lv0, lv1, lv']
      omega
    · simp [hl2, ov']
      subst hR
      simp [hwc]
      refine ⟨mm'.set 2 [v0, .sl (.l b') 0 k' cap'], v0, .sl (.l b') 0 k' cap', by simp, ?_, ?_, ?_, ?_, ?_, fun b e1 e2 => hoap b e2 e1, ?_⟩
      · rw [List.getElem?_set_ne (by omega), hk.low 0 (by omega)]; exact hm0
      · rw [List.getElem?_set_ne (by omega), hk.low 1 (by omega)]; exact hm1
      · rw [List.getElem?_set_self (by omega)]
      · rw [e0]; simp [hb]; exact ho2.set _
      · rw [e1]; simp [hb]; exact hcol.set _
      · rw [List.length_set, ltC_iff]
        intro x hx
        rcases List.mem_or_eq_of_mem_set hx with hx | rfl
        · exact ltC_iff.1 hltC x hx
        · simp [ltL, lv0, lv1, lv']
  · have htm : (b : Int).tmod 2 = 0 := by rw [Int.tmod_eq_emod_of_nonneg (by omega)]; omega
    simp [htm]
    subst hR2
    simp [hm2, hw8]
    refine app_col hc0 (by omega) (by omega) fun v' mm' hcol hk => ?_
    have hl2 := hk.low 2 (by omega)
    rw [hm2] at hl2
    obtain ⟨ho2, hoap⟩ := hk.cols v1 _ hc1 (fun b e1 e2 => hap b e1 e2)
    have hlen' := hk.len
    have lv0 := V.lt.mono' (Nat.le_of_lt hlen') _ hc0.lt
    have lv1 := V.lt.mono' (Nat.le_of_lt hlen') _ hc1.lt
    have lv' := hcol.lt
    have ov' := hcol.one
    have o0 := hc0.one
    have o1 := hc1.one
    have hltC := hk.ltC hlt
    obtain ⟨b', k', cap', rfl⟩ := hcol.sl
    simp only [V.lt] at lv'
    refine wkK_same ?_ (by simp) hltC ?_
    · simp [ltT, V.lt, lv0, lv1, lv']
      omega
    · simp [hl2, ov']
      subst hR
      simp [hwc]
      refine ⟨mm'.set 2 [.sl (.l b') 0 k' cap', v1], .sl (.l b') 0 k' cap', v1, by simp, ?_, ?_, ?_, ?_, ?_, fun b e1 e2 => hoap b e1 e2, ?_⟩
      · rw [List.getElem?_set_ne (by omega), hk.low 0 (by omega)]; exact hm0
      · rw [List.getElem?_set_ne (by omega), hk.low 1 (by omega)]; exact hm1
      · rw [List.getElem?_set_self (by omega)]
      · rw [e0]; simp [hb]; exact hcol.set _
      · rw [e1]; simp [hb]; exact ho2.set _
      · rw [List.length_set, ltC_iff]
        intro x hx
        rcases List.mem_or_eq_of_mem_set hx with hx | rfl
        · exact ltC_iff.1 hltC x hx
        · simp [ltL, lv0, lv1, lv']

theorem rowsOfS_ct (n cap : Nat) (hn : n ≤ 8) (s p : Int) (w b f : Nat → Nat) (tl : List V) (htl : puL tl) (hf : ∀ k, k < n → f k < 256) (x : Bool) :
    Ct Try.prog false 21 [.ptr (.e 0) 0, .sl (.e 1) 0 n cap, .bool x] [schC s p w b, byt n f ++ tl] fun v E' L' => v = .tup [] ∧ E' = [schC s p (if x then w else rowN n f) (if x then rowN n f else b), byt n f ++ tl] ∧ L' = [] := by
  refine ct_of impl_Scheme_rowsOf_ok ?_
  have hz : rl [(6, .int .u8 0)] = byt 6 fun _ => 0 := rfl
  have hpu : puL (byt n f ++ tl) := by simp [puL_append, htl]
  have hget : ∀ k, k < n → (byt n f ++ tl)[k]? = some (.int .u8 (f k)) := fun k hk => byt_app_get hk
  generalize byt n f ++ tl = row at *
  simp [impl_Scheme_rowsOf_F, impl_Scheme_rowsOf_M]
  refine call_f [.e 0] (L2 := []) (rows_ct s p w b x false) (by simp) (by simp) ?_
  cases x
  · simp [hz]
    refine wp_for n (fun k => ⟨[(6, .ptr (.e 0) 2), (16, .sl (.e 1) 0 n cap), (17, .int .i64 n), (18, .int .i64 k)], [], [schC s p (rowN k f) b, row]⟩) ?_ ?_ ?_
    · simp; exact schC_congr (fun _ _ => rfl) (fun _ _ => rfl)
    · intro k hk
      have hk1 : (k : Int) < n := by omega
      have hk8 : k < 8 := by omega
      have hwk : IntKind.i64.wrap ((k : Int) + 1) = k + 1 := wrap_i64 (by omega) (by omega)
      have hgf := hget k hk
      simp [impl_Scheme_rowsOf_L0, hk1, hk, hgf]
      refine wp_for 6 (fun i => ⟨[(6, .ptr (.e 0) 2), (7, .int .i64 k), (8, .int .u8 (f k)), (16, .sl (.e 1) 0 n cap), (17, .int .i64 n), (18, .int .i64 k), (23, .int .i64 i)], [], [schC s p (fun j => if j < i then rowN (k + 1) f j else rowN k f j) b, row]⟩) ?_ ?_ ?_
      · simp
      · intro i hi6
        have hi61 : (i : Int) < 6 := by omega
        have hwi : IntKind.i64.wrap ((i : Int) + 1) = i + 1 := wrap_i64 (by omega) (by omega)
        have st1 := rowN_step (i := i) hk8 (hf k hk)
        simp [impl_Scheme_rowsOf_L1, hk1, hk, hi6, hi61, hgf, schC_w hi6, schC_b hi6, schC_setw hi6, schC_setb, st1, hwi, show 2 + i ≤ 13 by omega, show 8 + i ≤ 13 by omega]
        exact schC_congr (fun j _ => by by_cases e : j = i <;> by_cases e2 : j < i <;> simp [e, e2] <;> omega) (fun j _ => by by_cases e : j = i <;> by_cases e2 : j < i <;> simp [e, e2] <;> omega)
      · simp [impl_Scheme_rowsOf_L1, hwk]
        exact schC_congr (fun j hj => by simp [hj]) (fun j hj => by simp [hj])
    · simp [impl_Scheme_rowsOf_L0]
      exact ret_pu (by simp) (by simpa using hpu) (by simp)
  · simp [hz]
    refine wp_for n (fun k => ⟨[(6, .ptr (.e 0) 8), (16, .sl (.e 1) 0 n cap), (17, .int .i64 n), (18, .int .i64 k)], [], [schC s p w (rowN k f), row]⟩) ?_ ?_ ?_
    · simp; exact schC_congr (fun _ _ => rfl) (fun _ _ => rfl)
    · intro k hk
      have hk1 : (k : Int) < n := by omega
      have hk8 : k < 8 := by omega
      have hwk : IntKind.i64.wrap ((k : Int) + 1) = k + 1 := wrap_i64 (by omega) (by omega)
      have hgf := hget k hk
      simp [impl_Scheme_rowsOf_L0, hk1, hk, hgf]
      refine wp_for 6 (fun i => ⟨[(6, .ptr (.e 0) 8), (7, .int .i64 k), (8, .int .u8 (f k)), (16, .sl (.e 1) 0 n cap), (17, .int .i64 n), (18, .int .i64 k), (23, .int .i64 i)], [], [schC s p w fun j => if j < i then rowN (k + 1) f j else rowN k f j, row]⟩) ?_ ?_ ?_
      · simp
      · intro i hi6
        have hi61 : (i : Int) < 6 := by omega
        have hwi : IntKind.i64.wrap ((i : Int) + 1) = i + 1 := wrap_i64 (by omega) (by omega)
        have st1 := rowN_step (i := i) hk8 (hf k hk)
        simp [impl_Scheme_rowsOf_L1, hk1, hk, hi6, hi61, hgf, schC_w hi6, schC_b hi6, schC_setw hi6, schC_setb, st1, hwi, show 2 + i ≤ 13 by omega, show 8 + i ≤ 13 by omega]
        exact schC_congr (fun j _ => by by_cases e : j = i <;> by_cases e2 : j < i <;> simp [e, e2] <;> omega) (fun j _ => by by_cases e : j = i <;> by_cases e2 : j < i <;> simp [e, e2] <;> omega)
      · simp [impl_Scheme_rowsOf_L1, hwk]
        exact schC_congr (fun j hj => by simp [hj]) (fun j hj => by simp [hj])
    · simp [impl_Scheme_rowsOf_L0]
      exact ret_pu (by simp) (by simpa using hpu) (by simp)
theorem allOf_impl (m : Nat) (h2 : 2 ≤ m) (h4 : m ≤ 4) : PC Try.prog 9 [.int .i64 m] (.tup [sch m (2 ^ (m - 1) : Nat) (rowN (2 ^ (m - 1)) fun i => (parL false (2 ^ m)).getD i 0) (rowN (2 ^ (m - 1)) fun i => (parL true (2 ^ m)).getD i 0), .int .i64 0]) := by
  have k0 := within_pc (m : Int) 2 4
  rw [show decide ((2 : Int) ≤ (m : Int) ∧ (m : Int) ≤ 4) = true by simp; omega] at k0
  have hN := shl_i64 ⟨m, by omega⟩
  simp only at hN
  have hN16 : 2 ^ m ≤ 16 := show 2 ^ m ≤ 2 ^ 4 from Nat.pow_le_pow_right (by decide) h4
  have hw8 : IntKind.i8.wrap (m : Int) = m := wrap_i8 (by omega) (by omega)
  have hwm : IntKind.i64.wrap ((m : Int) - 1) = ((m - 1 : Nat) : Int) := by rw [wrap_i64 (by omega) (by omega)]; omega
  have hsh : shlI .i8 1 ((m - 1 : Nat) : Int) = ((2 ^ (m - 1) : Nat) : Int) := by
    have key : ∀ m : Fin 4, shlI .i8 1 (m.val : Int) = ((2 ^ m.val : Nat) : Int) := by decide +kernel
    exact key ⟨m - 1, by omega⟩
  have hhf : ∀ b, (parL b (2 ^ m)).length = 2 ^ (m - 1) := fun b => by
    have := parL_half ⟨m - 2, by omega⟩ b
    simpa [show m - 2 + 2 = m by omega, show m - 2 + 1 = m - 1 by omega] using this
  have hlt : ∀ b, ∀ x ∈ parL b (2 ^ m), x < 2 ^ m := fun b => parL_lt b _
  have hpos : 0 < 2 ^ (m - 1) := Nat.pow_pos (by decide)
  have hH8 : 2 ^ (m - 1) ≤ 8 := show 2 ^ (m - 1) ≤ 2 ^ 3 from Nat.pow_le_pow_right (by decide) (by omega)
  refine pc_of allF_ok (fun ro => ?_)
  simp only [allF, allM]
  generalize 2 ^ (m - 1) = H at *
  generalize hn2 : 2 ^ m = n at *
  refine wp_seq_opq fun R hR => ?_
  simp [schC_zero]
  subst hR
  refine wp_seq_opq fun R hR => ?_
  simp [schC_zero]
  refine call_pc k0 (by simp) (by simp) ?_
  simp
  subst hR
  refine wp_seq_opq fun R hR => ?_
  simp [schC_zero, hw8, hwm, hsh]
  subst hR
  refine wp_seq_opq fun R hR => ?_
  simp
  subst hR
  refine wp_seq_opq fun R hR => ?_
  simp [hN]
  refine wp_forI n (BInv m n H) ?_ (fun c st hc h => allOf_step ro _ m n H c hN16 hc st h) ?_
  · exact ⟨[schC 0 0 (fun _ => 0) fun _ => 0, schC m H (fun _ => 0) fun _ => 0, [.nilsl, .nilsl]], .nilsl, .nilsl, by simp, rfl, rfl, rfl, .inl ⟨rfl, rfl⟩, .inl ⟨rfl, rfl⟩, by simp [blkOf], by simp [ltC, ltL, V.lt]⟩
  · rintro st ⟨mm, v0, v1, rfl, hm0, hm1, hm2, hc0, hc1, hap, hltC⟩
    have hl0 := hhf false
    have hl1 := hhf true
    have g0 := intl_getD (parL false n)
    have g1 := intl_getD (parL true n)
    rw [hl0] at g0
    rw [hl1] at g1
    have ab : ∀ b k, k < H → (parL b n).getD k 0 < 256 := fun b k hk => by
      have := hlt b ((parL b n).getD k 0) (by simp [List.getD, hhf, hk])
      omega
    have a0 := ab false
    have a1 := ab true
    obtain ⟨f0, hf0⟩ : ∃ f0 : Nat → Nat, f0 = fun i => (parL false n).getD i 0 := ⟨_, rfl⟩
    obtain ⟨f1, hf1⟩ : ∃ f1 : Nat → Nat, f1 = fun i => (parL true n).getD i 0 := ⟨_, rfl⟩
    have a0 : ∀ k, k < H → f0 k < 256 := fun k hk => by rw [hf0]; exact ab false k hk
    have a1 : ∀ k, k < H → f1 k < 256 := fun k hk => by rw [hf1]; exact ab true k hk
    rw [← hf0] at g0 hR
    rw [← hf1] at g1 hR
    rcases hc0 with ⟨_, h⟩ | ⟨b0, cap0, junk0, hb03, rfl, hle0, hmb0, hj0, hp0⟩
    · rw [h] at hl0; simp at hl0; omega
    rcases hc1 with ⟨_, h⟩ | ⟨b1, cap1, junk1, hb13, rfl, hle1, hmb1, hj1, hp1⟩
    · rw [h] at hl1; simp at hl1; omega
    have hne : b0 ≠ b1 := fun e => hap b0 rfl (by rw [e]; rfl)
    rw [← g0] at hmb0
    rw [← g1] at hmb1
    rw [hl0] at hm2
    rw [hl1] at hm2
    have k4 := rowsOfS_ct H cap0 hH8 m H (fun _ => 0) (fun _ => 0) f0 junk0 hp0 a0 false
    have k5 := rowsOfS_ct H cap1 hH8 m H (rowN H f0) (fun _ => 0) f1 junk1 hp1 a1 true
    have p0 : puL (byt H f0 ++ junk0) := by simp [puL_append, hp0]
    have p1 : puL (byt H f1 ++ junk1) := by simp [puL_append, hp1]
    generalize byt H f0 ++ junk0 = row0 at *
    generalize byt H f1 ++ junk1 = row1 at *
    have hlen := (List.getElem?_eq_some_iff.1 hm2).1
    have hlb0 := (List.getElem?_eq_some_iff.1 hmb0).1
    unfold allL0
    simp
    subst hR
    refine wp_seq_opq fun R hR => ?_
    simp [hm2]
    refine call_w [.l 1, .l b0] k4 rfl (by simp [hm1, hmb0, p0, show ¬ 1 = b0 by omega]) ?_
    simp
    subst hR
    refine wp_seq_opq fun R hR => ?_
    have q2 : ((mm.set 1 (schC m H (rowN H f0) fun _ => 0)).set b0 row0)[2]? = some [.sl (.l b0) 0 H cap0, .sl (.l b1) 0 H cap1] := by
      rw [List.getElem?_set_ne (by omega), List.getElem?_set_ne (by omega)]; exact hm2
    have q1 : ((mm.set 1 (schC m H (rowN H f0) fun _ => 0)).set b0 row0)[1]? = some (schC m H (rowN H f0) fun _ => 0) := by
      rw [List.getElem?_set_ne (by omega), List.getElem?_set_self (by omega)]
    have q0 : ((mm.set 1 (schC m H (rowN H f0) fun _ => 0)).set b0 row0)[0]? = some (schC 0 0 (fun _ => 0) fun _ => 0) := by
      rw [List.getElem?_set_ne (by omega), List.getElem?_set_ne (by omega)]; exact hm0
    have qb : ((mm.set 1 (schC m H (rowN H f0) fun _ => 0)).set b0 row0)[b1]? = some row1 := by
      rw [List.getElem?_set_ne hne, List.getElem?_set_ne (by omega)]; exact hmb1
    generalize (mm.set 1 (schC m H (rowN H f0) fun _ => 0)).set b0 row0 = mm2 at *
    simp [q2]
    refine call_w [.l 1, .l b1] k5 rfl (by simp [q1, qb, p1, show ¬ 1 = b1 by omega]) ?_
    simp
    subst hR
    have r1 : ((mm2.set 1 (schC m H (rowN H f0) (rowN H f1))).set b1 row1)[1]? = some (schC m H (rowN H f0) (rowN H f1)) := by
      rw [List.getElem?_set_ne (by omega), List.getElem?_set_self (List.getElem?_eq_some_iff.1 q1).1]
    have r0 : ((mm2.set 1 (schC m H (rowN H f0) (rowN H f1))).set b1 row1)[0]? = some (schC 0 0 (fun _ => 0) fun _ => 0) := by
      rw [List.getElem?_set_ne (by omega), List.getElem?_set_ne (by omega)]; exact q0
    generalize (mm2.set 1 (schC m H (rowN H f0) (rowN H f1))).set b1 row1 = mm3 at *
    have hl3 := (List.getElem?_eq_some_iff.1 r0).1
    simp [r1, r0, List.getElem?_set_self hl3]
    exact ret_pu (by simp) (by simp) (by simp)
theorem allOf_no (m : Int) (h : ¬ (2 ≤ m ∧ m ≤ 4)) : PC Try.prog 8 [.int .i64 m] (.tup [sch 0 0 (fun _ => 0) (fun _ => 0), .int .i64 2]) ∧ PC Try.prog 9 [.int .i64 m] (.tup [sch 0 0 (fun _ => 0) (fun _ => 0), .int .i64 2]) := by
  have k0 := within_pc m 2 4
  have k1 := l00In_pc m 2 4
  rw [show decide ((2 : Int) ≤ m ∧ m ≤ 4) = false by simp only [decide_eq_false_iff_not]; exact h] at k0 k1
  refine ⟨?_, ?_⟩
  · refine pc_of spec_AllOf_ok (fun ro => ?_)
    simp only [spec_AllOf_F, spec_AllOf_M]
    refine wp_seq_opq fun R hR => ?_
    simp [schC_zero]
    subst hR
    refine wp_seq_opq fun R hR => ?_
    simp [schC_zero]
    refine call_pc k1 (by simp) (by simp) ?_
    simp
    exact ret_pu (by simp) (by simp) (by simp)
  · refine pc_of allF_ok (fun ro => ?_)
    simp only [allF, allM]
    refine wp_seq_opq fun R hR => ?_
    simp [schC_zero]
    subst hR
    refine wp_seq_opq fun R hR => ?_
    simp [schC_zero]
    refine call_pc k0 (by simp) (by simp) ?_
    simp
    exact ret_pu (by simp) (by simp) (by simp)
theorem allOf_both (m : Int) : ∃ (s p : Int) (w b : Nat → Nat) (c : Int), PC Try.prog 8 [.int .i64 m] (.tup [sch s p w b, .int .i64 c]) ∧ PC Try.prog 9 [.int .i64 m] (.tup [sch s p w b, .int .i64 c]) := by
  by_cases h : 2 ≤ m ∧ m ≤ 4
  · obtain ⟨k, rfl⟩ := Int.eq_ofNat_of_zero_le (show 0 ≤ m by omega)
    exact ⟨_, _, _, _, _, allOf_spec k (by omega) (by omega), allOf_impl k (by omega) (by omega)⟩
  · exact ⟨_, _, _, _, _, allOf_no m h⟩
theorem lawAllOf (m : Int) (_ : -9223372036854775808 ≤ m ∧ m ≤ 9223372036854775807) : PC Try.prog 4 [.int .i64 m] (.bool true) := by
  obtain ⟨s, p, w, b, c, h1, h2⟩ := allOf_both m
  refine pc_of laws_FnExactAllOf_ok (fun ro => ?_)
  simp [laws_FnExactAllOf_F, laws_FnExactAllOf_M, schC_zero]
  refine call_pc h1 (by simp) (by simp) ?_
  simp
  refine call_pc h2 (by simp) (by simp) ?_
  simp
  refine call_pc (eqScheme_pc s p w b) (by simp) (by simp) ?_
  simp
  exact ret_pu (by simp) (by simp) (by simp)
end Go.Proofs.Ytpajbcifaicpoaa
