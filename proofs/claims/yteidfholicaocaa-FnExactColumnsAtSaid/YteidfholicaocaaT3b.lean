/- A part of the proof library: names for blocks of memory, a small form of the code, and rules for walks over it. -/
import Derived.Test.YteidfholicaocaaT2b
set_option linter.all false
namespace Go.Proofs.Yteidfholicaocaa
open Go.Ab
set_option maxHeartbeats 800000

/-- The shares of a set, below n. -/
def sel (set : Nat) : Nat → List Nat
  | 0 => []
  | k + 1 => if set.testBit k then sel set k ++ [k] else sel set k
theorem sel_len (set : Nat) : ∀ n, (sel set n).length ≤ n
  | 0 => by simp [sel]
  | n + 1 => by have := sel_len set n; simp only [sel]; split <;> simp <;> omega
theorem sel_ext (set : Nat) (n : Nat) : ∀ j, ∃ l, sel set (n + j) = sel set n ++ l
  | 0 => ⟨[], by simp⟩
  | j + 1 => by
    obtain ⟨l, hl⟩ := sel_ext set n j
    rw [← Nat.add_assoc, sel, hl]
    split
    · exact ⟨l ++ [n + j], by simp⟩
    · exact ⟨l, rfl⟩
theorem sel_at {set n k : Nat} (hk : k < n) (hb : set.testBit k = true) : (sel set n).getD (sel set k).length 0 = k := by
  obtain ⟨j, rfl⟩ := Nat.exists_eq_add_of_le (show k + 1 ≤ n by omega)
  obtain ⟨l, hl⟩ := sel_ext set (k + 1) j
  rw [hl, sel, if_pos hb]
  simp [List.getD]
theorem sel_mem {set n x : Nat} (h : x ∈ sel set n) : x < n ∧ set.testBit x = true := by
  induction n with
  | zero => simp [sel] at h
  | succ n ih =>
    simp only [sel] at h
    split at h
    · rename_i hb
      rcases List.mem_append.1 h with h | h
      · have := ih h; exact ⟨by omega, this.2⟩
      · simp at h; subst h; exact ⟨by omega, hb⟩
    · have := ih h; exact ⟨by omega, this.2⟩
theorem sel_pos {set n : Nat} (h0 : set ≠ 0) (hn : set < 2 ^ n) : 0 < (sel set n).length := by
  have hex : ∃ k, k < n ∧ set.testBit k = true := by
    refine Classical.byContradiction fun hno => h0 ?_
    apply Nat.eq_of_testBit_eq
    intro i
    rw [Nat.zero_testBit]
    cases hb : set.testBit i
    · rfl
    · exfalso
      refine hno ⟨i, ?_, hb⟩
      rcases Nat.lt_or_ge i n with h | h
      · exact h
      · rw [Nat.testBit_lt_two_pow (Nat.lt_of_lt_of_le hn (Nat.pow_le_pow_right (by decide) h))] at hb; cases hb
  obtain ⟨k, hk, hb⟩ := hex
  obtain ⟨j, rfl⟩ := Nat.exists_eq_add_of_le (show k + 1 ≤ n by omega)
  obtain ⟨l, hl⟩ := sel_ext set (k + 1) j
  rw [hl, sel, if_pos hb]
  simp
  omega
/-- The layers of the shares of a set. -/
def selP (set n : Nat) (P : Nat → Int) : Nat → Int := fun i => P ((sel set n).getD i 0)
def selF (set n : Nat) (F : Nat → Nat → Nat) : Nat → Nat → Nat := fun i => F ((sel set n).getD i 0)
/-- The stack of a set. -/
def stkS (set n : Nat) (F : Nat → Nat → Nat) : Nat → Nat := fun j => stkB (selF set n F) j (sel set n).length

theorem l03Stack_ct (n : Nat) (hn : n ≤ 8) (P : Nat → Int) (F : Nat → Nat → Nat) (hF : ∀ i j, F i j < 256) (set : Nat) (hs : set < 256) (hc : 0 < (sel set n).length) (ro : Bool) : Ct Try.prog ro 67 [.slx (.e 0) 0 n, .int .u8 set] [lays n P F] fun v E' L' => v = lay (selP set n P 0) (stkS set n F) ∧ E' = [lays n P F] ∧ L' = [] := by
  have hsl := sel_len set n
  have hcall := (l01Stack_ct (sel set n).length (by omega) hc (selP set n P) (selF set n F) (fun i j => hF _ j))
  refine ct_of spec_l03Stack_ok ?_
  simp [spec_l03Stack_F, spec_l03Stack_M, layC_zero]
  refine wp_forI n (fun k st => ∃ cap junk, (sel set k).length ≤ cap ∧ junk.length = (cap - (sel set k).length) * 65 ∧ puL junk ∧ st = ⟨[(0, .slx (.e 0) 0 n), (1, .int .u8 set), (4, .ptr (.l 0) 0), (5, .sl (.l 1) 0 (sel set k).length cap), (6, .int .i64 k)], [layC 0 fun _ => 0, lays (sel set k).length (selP set n P) (selF set n F) ++ junk], [lays n P F]⟩) ?_ ?_ ?_
  · exact ⟨0, [], by simp [sel], by simp [sel], by simp, by simp [sel]; rfl⟩
  · rintro k st hk ⟨cap, junk, hle, hj, hpj, rfl⟩
    have hk1 : (k : Int) < n := by omega
    have hwk : IntKind.i64.wrap ((k : Int) + 1) = k + 1 := wrap_i64 (by omega) (by omega)
    have hwu : IntKind.u64.wrap (k : Int) = k := wrap_u64 (by omega) (by omega)
    have hle65 : k * 65 + 65 ≤ n * 65 := by omega
    have hck := sel_len set k
    cases hb : set.testBit k
    · have hbit := bit8_f hs hb
      have hnx : sel set (k + 1) = sel set k := by simp [sel, hb]
      rw [hnx]
      simp [spec_l03Stack_L0, hk1, hk, hle65, lays_at hk, layC_zero, hwu, hbit, hwk]
      first
      | exact ⟨cap, hle, junk, hj, hpj, by simp⟩
      | exact ⟨puL.lt _ hpj, cap, hle, junk, hj, hpj, by simp⟩
    · have hbit := bit8_t hs hb
      have hnx : sel set (k + 1) = sel set k ++ [k] := by simp [sel, hb]
      have hat := sel_at hk hb
      have hP : selP set n P (sel set k).length = P k := by simp only [selP, hat]
      have hFk : selF set n F (sel set k).length = F k := by simp only [selF, hat]
      rw [hnx]
      simp only [List.length_append, List.length_cons, List.length_nil, Nat.zero_add]
      generalize (sel set k).length = c at *
      simp [spec_l03Stack_L0, hk1, hk, hle65, lays_at hk, layC_zero, hwu, hbit]
      refine app_ownT 2 (d := some 26) [5, 20, 25] 1 c cap 1 (data := lays c (selP set n P) (selF set n F)) (news := layC (P k) (F k)) (junk := junk) (by simp [appNew]) (by simp) (by simp) (by simp) (by simp) (by simp [hj]) hle (by omega) (by omega) (by simp) (by simp) hpj (by simp) (by simp) (by simp) (by simp) (by simp) (by simp [puL.nb _ hpj]) ?_
      intro cap' junk' h1 h2 h3
      simp at h2
      simp [hwk]
      have hsn : lays c (selP set n P) (selF set n F) ++ (layC (P k) (F k) ++ junk') = lays (c + 1) (selP set n P) (selF set n F) ++ junk' := by rw [lays_snoc, hP, hFk]; simp
      first
      | exact ⟨cap', h1, junk', h2, h3, rfl, hsn⟩
      | exact ⟨puL.lt _ h3, cap', h1, junk', h2, h3, rfl, hsn⟩
  · rintro st ⟨cap, junk, hle, hj, hpj, rfl⟩
    simp [spec_l03Stack_L0]
    refine call_rX [.l 1] (L2 := []) hcall (sigOk_mkR (by simp) (by simp) (by simp)) (by simp [hidL, V.hid, hle]) (by simp) (by simp) ?_
    simp
    exact ret_pu (by simp) (by simp) ⟨rfl, rfl, rfl⟩
theorem stackOf_ct (n : Nat) (hn : n ≤ 8) (P : Nat → Int) (F : Nat → Nat → Nat) (hF : ∀ i j, F i j < 256) (set : Nat) (hs : set < 256) (hc : 0 < (sel set n).length) (ro : Bool) : Ct Try.prog ro 70 [.slx (.e 0) 0 n, .int .u8 set] [lays n P F] fun v E' L' => v = lay (selP set n P 0) (stkS set n F) ∧ E' = [lays n P F] ∧ L' = [] := by
  have hsl := sel_len set n
  have hcall := (stack_ct (sel set n).length (by omega) hc (selP set n P) (selF set n F) (fun i j => hF _ j))
  refine ct_of impl_stackOf_ok ?_
  simp [impl_stackOf_F, impl_stackOf_M, layC_zero]
  refine wp_forI n (fun k st => ∃ cap junk, (sel set k).length ≤ cap ∧ junk.length = (cap - (sel set k).length) * 65 ∧ puL junk ∧ st = ⟨[(1, .int .u8 set), (4, .ptr (.l 0) 0), (5, .sl (.l 1) 0 (sel set k).length cap), (9, .slx (.e 0) 0 n), (10, .int .i64 n), (11, .int .i64 k)], [layC 0 fun _ => 0, lays (sel set k).length (selP set n P) (selF set n F) ++ junk], [lays n P F]⟩) ?_ ?_ ?_
  · exact ⟨0, [], by simp [sel], by simp [sel], by simp, by simp [sel]; rfl⟩
  · rintro k st hk ⟨cap, junk, hle, hj, hpj, rfl⟩
    have hk1 : (k : Int) < n := by omega
    have hwk : IntKind.i64.wrap ((k : Int) + 1) = k + 1 := wrap_i64 (by omega) (by omega)
    have hwu : IntKind.u64.wrap (k : Int) = k := wrap_u64 (by omega) (by omega)
    have hle65 : k * 65 + 65 ≤ n * 65 := by omega
    have hck := sel_len set k
    cases hb : set.testBit k
    · have hbit := bit8_f hs hb
      have hnx : sel set (k + 1) = sel set k := by simp [sel, hb]
      rw [hnx]
      simp [impl_stackOf_L0, hk1, hk, hle65, lays_at hk, layC_zero, hwu, hbit, hwk]
      first
      | exact ⟨cap, hle, junk, hj, hpj, by simp⟩
      | exact ⟨puL.lt _ hpj, cap, hle, junk, hj, hpj, by simp⟩
    · have hbit := bit8_t hs hb
      have hnx : sel set (k + 1) = sel set k ++ [k] := by simp [sel, hb]
      have hat := sel_at hk hb
      have hP : selP set n P (sel set k).length = P k := by simp only [selP, hat]
      have hFk : selF set n F (sel set k).length = F k := by simp only [selF, hat]
      rw [hnx]
      simp only [List.length_append, List.length_cons, List.length_nil, Nat.zero_add]
      generalize (sel set k).length = c at *
      simp [impl_stackOf_L0, hk1, hk, hle65, lays_at hk, layC_zero, hwu, hbit]
      refine app_ownT 4 (d := some 24) [5, 21] 1 c cap 1 (data := lays c (selP set n P) (selF set n F)) (news := layC (P k) (F k)) (junk := junk) (by simp [appNew]) (by simp) (by simp) (by simp) (by simp) (by simp [hj]) hle (by omega) (by omega) (by simp) (by simp) hpj (by simp) (by simp) (by simp) (by simp) (by simp) (by simp [puL.nb _ hpj]) ?_
      intro cap' junk' h1 h2 h3
      simp at h2
      simp [hwk]
      have hsn : lays c (selP set n P) (selF set n F) ++ (layC (P k) (F k) ++ junk') = lays (c + 1) (selP set n P) (selF set n F) ++ junk' := by rw [lays_snoc, hP, hFk]; simp
      first
      | exact ⟨cap', h1, junk', h2, h3, rfl, hsn⟩
      | exact ⟨puL.lt _ h3, cap', h1, junk', h2, h3, rfl, hsn⟩
  · rintro st ⟨cap, junk, hle, hj, hpj, rfl⟩
    simp [impl_stackOf_L0]
    refine call_rX [.l 1] (L2 := []) hcall (sigOk_mkR (by simp) (by simp) (by simp)) (by simp [hidL, V.hid, hle]) (by simp) (by simp) ?_
    simp
    exact ret_pu (by simp) (by simp) ⟨rfl, rfl, rfl⟩

theorem l03Layers_ct (n : Nat) (hn : n ≤ 1048576) (P : Nat → Int) (F : Nat → Nat → Nat) (hP : ∀ i, -128 ≤ P i ∧ P i < 128) (hF : ∀ i j, F i j < 256) (ro : Bool) : Ct Try.prog ro 46 [.slx (.e 0) 0 n] [lays n P F] fun v E' L' => v = .int .i64 (lCode n P F) ∧ E' = [lays n P F] ∧ L' = [] := by
  have k1 := l01All_ct n hn P F hP hF
  have k2 := l00In_pc (n : Int) 1 8
  have hd : decide (1 ≤ (n : Int) ∧ (n : Int) ≤ 8) = decide (1 ≤ n ∧ n ≤ 8) := by congr 1; exact propext ⟨fun h => by omega, fun h => by omega⟩
  rw [hd] at k2
  have hl : lCode n P F = (if allLokB n P F = true then (if decide (1 ≤ n ∧ n ≤ 8) = true then (if sameP n P (P 0) = true then 0 else 4) else 2) else 1) := by simp [lCode]
  rw [hl]
  refine ct_of spec_l03Layers_ok ?_
  simp [spec_l03Layers_F, spec_l03Layers_M]
  refine call_s [.e 0] k1 (by simp) ?_
  cases ha : allLokB n P F
  · simp
    exact ret_pu (by simp) (by simp) (by simp)
  · simp
    refine call_pc k2 (by simp) (by simp) ?_
    by_cases h8 : 1 ≤ n ∧ n ≤ 8
    · have h0 : 0 < n := by omega
      have h01 : (0 : Int) < n := by omega
      have hp0 := lays_p (P := P) (F := F) h0
      rw [Nat.zero_mul] at hp0
      have hp0E : ∀ h, (lays n P F)[0]'h = .int .i8 (P 0) := fun h => by rw [List.getElem?_eq_getElem h] at hp0; exact Option.some.inj hp0
      rw [show decide (1 ≤ n ∧ n ≤ 8) = true by simp [h8]]
      simp
      refine wp_forR n (fun k => ⟨[(0, .slx (.e 0) 0 n), (3, .int .i64 k)], [], [lays n P F]⟩) (fun k => P k = P 0) ?_ ?_ ?_
      · intro k hk hg
        have hk1 : (k : Int) < n := by omega
        have hwk : IntKind.i64.wrap ((k : Int) + 1) = k + 1 := wrap_i64 (by omega) (by omega)
        simp [spec_l03Layers_L0, hk1, hk, h01, h0, lays_p hk, lays_pE hk, hp0E, hg]
        simp [hwk]
      · intro k hk hg _
        have hk1 : (k : Int) < n := by omega
        have hno : sameP n P (P 0) = false := Bool.eq_false_iff.2 fun h => hg (sameP_iff.1 h k hk)
        rw [hno]
        simp [spec_l03Layers_L0, hk1, hk, h01, h0, lays_p hk, lays_pE hk, hp0E, hg]
        exact ret_pu (by simp) (by simp) (by simp [h8])
      · intro hall
        rw [sameP_iff.2 hall]
        simp [spec_l03Layers_L0]
        exact ret_pu (by simp) (by simp) (by simp [h8])
    · rw [show decide (1 ≤ n ∧ n ≤ 8) = false by simp only [decide_eq_false_iff_not]; exact h8]
      simp
      exact ret_pu (by simp) (by simp) (by simp; exact fun a b => absurd ⟨a, b⟩ h8)

theorem lCode_ok {n : Nat} {P : Nat → Int} {F : Nat → Nat → Nat} (h : lCode n P F = 0) : allLokB n P F = true ∧ (1 ≤ n ∧ n ≤ 8) ∧ ∀ i, i < n → P i = P 0 := by
  unfold lCode at h
  split at h
  · rename_i h1
    split at h
    · rename_i h2
      split at h
      · rename_i h3; exact ⟨h1, h2, sameP_iff.1 h3⟩
      · cases h
    · cases h
  · cases h


end Go.Proofs.Yteidfholicaocaa
