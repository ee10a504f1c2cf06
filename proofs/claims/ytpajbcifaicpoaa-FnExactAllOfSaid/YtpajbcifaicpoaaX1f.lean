/- A part of the proof library: names for blocks of memory, a small form of the code, and rules for walks over it. -/
import Derived.Test.YtpajbcifaicpoaaU6f
import Derived.Test.YtpajbcifaicpoaaM1f
set_option linter.all false
namespace Go.Proofs.Ytpajbcifaicpoaa
open Go.Ab
set_option linter.all false
set_option maxHeartbeats 800000

/-- The numbers below n with an odd (even) number of bits. -/
def parL (b : Bool) : Nat → List Nat
  | 0 => []
  | k + 1 => if decide (cnt 64 k % 2 = 1) = b then parL b k ++ [k] else parL b k
theorem parL_len (b : Bool) : ∀ n, (parL b n).length ≤ n
  | 0 => by simp [parL]
  | n + 1 => by have := parL_len b n; simp only [parL]; split <;> simp <;> omega
theorem parL_half : ∀ m : Fin 3, ∀ b, (parL b (2 ^ (m.val + 2))).length = 2 ^ (m.val + 1) := by decide +kernel
theorem parL_lt : ∀ (b : Bool) (n : Nat), ∀ x ∈ parL b n, x < n
  | b, 0, x, h => by simp [parL] at h
  | b, n + 1, x, h => by
    simp only [parL] at h
    split at h
    · rcases List.mem_append.1 h with h | h
      · have := parL_lt b n x h; omega
      · simp at h; omega
    · have := parL_lt b n x h; omega
def intl (l : List Nat) : List V := l.map fun x : Nat => V.int .u8 (x : Int)
@[simp] theorem intl_len {l : List Nat} : (intl l).length = l.length := by simp [intl]
@[simp] theorem intl_pu {l : List Nat} : puL (intl l) := by
  unfold intl
  induction l with
  | nil => simp [puL]
  | cons a l ih => exact ⟨by simp [V.pu], ih⟩
@[simp] theorem intl_lt {l : List Nat} {k : Nat} : ltL k (intl l) := puL.lt _ intl_pu
@[simp] theorem intl_nb {l : List Nat} {b k : Nat} : nbL b k (intl l) := puL.nb _ intl_pu
@[simp] theorem intl_ren {l : List Nat} {g : Nm → Nm} : renL g (intl l) = intl l := puL.ren _ intl_pu
@[simp] theorem intl_eo {l : List Nat} {k : Nat} : eoL k (intl l) := puL.eo _ intl_pu
theorem intl_app {a b : List Nat} : intl (a ++ b) = intl a ++ intl b := by simp [intl]
theorem intl_getD (l : List Nat) : byt l.length (fun i => l.getD i 0) = intl l := by
  apply List.ext_getElem?
  intro i
  by_cases h : i < l.length
  · rw [byt_get h]; simp [List.getD, h, intl]
  · rw [List.getElem?_eq_none (by simpa using h), List.getElem?_eq_none (by simpa using h)]
theorem rowN_zero {n : Nat} {f : Nat → Nat} {m i : Nat} (hf : ∀ k, k < n → f k < 2 ^ m) (hi : m ≤ i) : rowN n f i = 0 := by
  apply Nat.eq_of_testBit_eq
  intro k
  rw [rowN, pic_testBit, Nat.zero_testBit]
  by_cases hk : k < n
  · rw [Nat.testBit_lt_two_pow (Nat.lt_of_lt_of_le (hf k hk) (Nat.pow_le_pow_right (by decide) hi)), Bool.and_false]
  · simp [hk]
theorem shl_i64 : ∀ m : Fin 5, shlI .i64 1 (m.val : Int) = ((2 ^ m.val : Nat) : Int) := by decide +kernel

def AInv (m c : Nat) (st : St) : Prop :=
  ∃ cap0 junk0 cap1 junk1, ((parL false c).length ≤ cap0 ∧ junk0.length = cap0 - (parL false c).length ∧ puL junk0) ∧ ((parL true c).length ≤ cap1 ∧ junk1.length = cap1 - (parL true c).length ∧ puL junk1) ∧ st = ⟨[(0, .int .i64 m), (2, .ptr (.l 0) 0), (4, .sl (.l 1) 0 (parL false c).length cap0), (5, .sl (.l 2) 0 (parL true c).length cap1), (6, .int .i64 c)], [schC 0 0 (fun _ => 0) fun _ => 0, intl (parL false c) ++ junk0, intl (parL true c) ++ junk1], []⟩
theorem AInv.next {m c : Nat} {st : St} {l0 l1 : List Nat} {cap0 cap1 : Nat} {junk0 junk1 : List V} (e0 : parL false (c + 1) = l0) (e1 : parL true (c + 1) = l1) (h0 : l0.length ≤ cap0 ∧ junk0.length = cap0 - l0.length ∧ puL junk0) (h1 : l1.length ≤ cap1 ∧ junk1.length = cap1 - l1.length ∧ puL junk1)
    (hs : st = ⟨[(0, .int .i64 m), (2, .ptr (.l 0) 0), (4, .sl (.l 1) 0 l0.length cap0), (5, .sl (.l 2) 0 l1.length cap1), (6, .int .i64 ((c : Int) + 1))], [schC 0 0 (fun _ => 0) fun _ => 0, intl l0 ++ junk0, intl l1 ++ junk1], []⟩) : AInv m (c + 1) st := by
  subst e0; subst e1
  exact ⟨cap0, junk0, cap1, junk1, h0, h1, by rw [hs]; simp⟩
theorem allOf_spec (m : Nat) (h2 : 2 ≤ m) (h4 : m ≤ 4) : PC Try.prog 8 [.int .i64 m] (.tup [sch m (2 ^ (m - 1) : Nat) (rowN (2 ^ (m - 1)) fun i => (parL false (2 ^ m)).getD i 0) (rowN (2 ^ (m - 1)) fun i => (parL true (2 ^ m)).getD i 0), .int .i64 0]) := by
  have k0 := l00In_pc (m : Int) 2 4
  rw [show decide ((2 : Int) ≤ (m : Int) ∧ (m : Int) ≤ 4) = true by simp; omega] at k0
  have hN := shl_i64 ⟨m, by omega⟩
  simp only at hN
  have hN16 : 2 ^ m ≤ 16 := show 2 ^ m ≤ 2 ^ 4 from Nat.pow_le_pow_right (by decide) h4
  have hwm : IntKind.u64.wrap (m : Int) = m := wrap_u64 (by omega) (by omega)
  have hhf : ∀ b, (parL b (2 ^ m)).length = 2 ^ (m - 1) := fun b => by
    have := parL_half ⟨m - 2, by omega⟩ b
    simpa [show m - 2 + 2 = m by omega, show m - 2 + 1 = m - 1 by omega] using this
  have hlt : ∀ b, ∀ x ∈ parL b (2 ^ m), x < 2 ^ m := fun b => parL_lt b _
  refine pc_of spec_AllOf_ok (fun ro => ?_)
  simp only [spec_AllOf_F, spec_AllOf_M]
  refine wp_seq_opq fun R hR => ?_
  simp [schC_zero]
  subst hR
  refine wp_seq_opq fun R hR => ?_
  simp [schC_zero]
  refine call_pc k0 (by simp) (by simp) ?_
  simp
  subst hR
  refine wp_seq_opq fun R hR => ?_
  simp
  subst hR
  refine wp_seq_opq fun R hR => ?_
  simp
  subst hR
  generalize hH : 2 ^ (m - 1) = H at *
  generalize hn2 : 2 ^ m = n at *
  refine wp_seq_opq fun R hR => ?_
  simp
  refine wp_forI n (AInv m) ?_ ?_ ?_
  · exact ⟨0, [], 0, [], by simp [parL], by simp [parL], by simp [parL, intl, zrow]⟩
  · rintro c st hc ⟨cap0, junk0, cap1, junk1, ⟨hle0, hj0, hp0⟩, ⟨hle1, hj1, hp1⟩, rfl⟩
    have hc1 : (c : Int) < n := by omega
    have hwc : IntKind.i64.wrap ((c : Int) + 1) = c + 1 := wrap_i64 (by omega) (by omega)
    have hwu : IntKind.u64.wrap (c : Int) = c := wrap_u64 (by omega) (by omega)
    have hw8 : IntKind.u8.wrap (c : Int) = c := wrap_u8 (by omega) (by omega)
    have hcnt := l01Count_pc c (by omega)
    have hn0 := parL_len false c
    have hn1 := parL_len true c
    have e0 : parL false (c + 1) = if decide (cnt 64 c % 2 = 1) = false then parL false c ++ [c] else parL false c := rfl
    have e1 : parL true (c + 1) = if decide (cnt 64 c % 2 = 1) = true then parL true c ++ [c] else parL true c := rfl
    have hnx := fun (st : St) l0 l1 cap0 cap1 junk0 junk1 => @AInv.next m c st l0 l1 cap0 cap1 junk0 junk1
    rw [e0, e1] at hnx
    generalize parL false c = l0 at *
    generalize parL true c = l1 at *
    have hcl := cnt_le c 64
    generalize cnt 64 c = b at *
    simp [spec_AllOf_L0, hwm, hN, hc1, hwu]
    refine call_pc hcnt (by simp) (by simp) ?_
    by_cases hb : b % 2 = 1
    · have htm : (b : Int).tmod 2 = 1 := by rw [Int.tmod_eq_emod_of_nonneg (by omega)]; omega
      simp [htm, hw8]
      refine app_ownT 3 (d := some 34) [5, 30, 33] 2 l1.length cap1 1 (data := intl l1) (news := [.int .u8 c]) (junk := junk1) (by simp [appNew]) (by simp) (by simp) (by simp) (by simp) (by simp [hj1]) hle1 (by omega) (by omega) (by simp) (by simp) hp1 (by simp) (by simp) (by simp) (by simp) (by simp) (by simp [puL.nb _ hp0, puL.nb _ hp1]) ?_
      intro cap' junk' h1 h2 h3
      simp at h2
      simp [hwc, puL.lt _ h3, puL.lt _ hp0]
      exact hnx _ l0 (l1 ++ [c]) cap0 cap' junk0 junk' (by simp [hb]) (by simp [hb]) ⟨hle0, hj0, hp0⟩ ⟨by simpa using h1, by simpa using h2, h3⟩ (by rw [intl_app, List.append_assoc]; simp [intl])
    · have htm : (b : Int).tmod 2 = 0 := by rw [Int.tmod_eq_emod_of_nonneg (by omega)]; omega
      simp [htm, hw8]
      refine app_ownT 3 (d := some 29) [4, 25, 28] 1 l0.length cap0 1 (data := intl l0) (news := [.int .u8 c]) (junk := junk0) (by simp [appNew]) (by simp) (by simp) (by simp) (by simp) (by simp [hj0]) hle0 (by omega) (by omega) (by simp) (by simp) hp0 (by simp) (by simp) (by simp) (by simp) (by simp) (by simp [puL.nb _ hp0, puL.nb _ hp1]) ?_
      intro cap' junk' h1 h2 h3
      simp at h2
      simp [hwc, puL.lt _ h3, puL.lt _ hp1]
      exact hnx _ (l0 ++ [c]) l1 cap' cap1 junk' junk1 (by simp [hb]) (by simp [hb]) ⟨by simpa using h1, by simpa using h2, h3⟩ ⟨hle1, hj1, hp1⟩ (by rw [intl_app, List.append_assoc]; simp [intl])
  · rintro st ⟨cap0, junk0, cap1, junk1, ⟨hle0, hj0, hp0⟩, ⟨hle1, hj1, hp1⟩, rfl⟩
    simp [spec_AllOf_L0, hwm, hN]
    subst hR
    rw [hhf, hhf] at *
    have g0 := intl_getD (parL false n)
    have g1 := intl_getD (parL true n)
    rw [hhf] at g0 g1
    have ab : ∀ b k, k < H → (parL b n).getD k 0 < 2 ^ m := fun b k hk => by
      have := hlt b ((parL b n).getD k 0) (by simp [List.getD, hhf, hk])
      omega
    have hm16 : ∀ k, k < 2 ^ m → k < 256 := fun k hk => by omega
    have hH8 : H ≤ 8 := by rw [← hH]; exact show 2 ^ (m - 1) ≤ 2 ^ 3 from Nat.pow_le_pow_right (by decide) (by omega)
    have k6 := l02From_ct m H (by omega) hH8 (fun i => (parL false n).getD i 0) (fun i => (parL true n).getD i 0) (fun k hk => hm16 _ (ab false k hk)) (fun k hk => hm16 _ (ab true k hk))
    rw [g0, g1] at k6
    have hv : sch m H (fun i => if i < m then rowN H (fun i => (parL false n).getD i 0) i else 0) (fun i => if i < m then rowN H (fun i => (parL true n).getD i 0) i else 0) = sch m H (rowN H fun i => (parL false n).getD i 0) (rowN H fun i => (parL true n).getD i 0) :=
      congrArg V.agg (schC_congr (fun i _ => by by_cases h : i < m <;> simp [h]; exact (rowN_zero (ab false) (by omega)).symm) (fun i _ => by by_cases h : i < m <;> simp [h]; exact (rowN_zero (ab true) (by omega)).symm))
    rw [hv] at k6
    have hw1 : IntKind.i8.wrap (m : Int) = m := wrap_i8 (by omega) (by omega)
    generalize (rowN H fun i => (parL false n).getD i 0) = W at *
    generalize (rowN H fun i => (parL true n).getD i 0) = B at *
    generalize parL false n = l0 at *
    generalize parL true n = l1 at *
    simp [hw1]
    refine call_rX [.l 1, .l 2] (L2 := []) k6 (sigOk_mkR (by simp) (by simp) (by simp)) (by simp [hidL, V.hid, hle0, hle1]) (by simp) (by simp) ?_
    simp
    exact ret_pu (by simp) (by simp) (by simp)
end Go.Proofs.Ytpajbcifaicpoaa
