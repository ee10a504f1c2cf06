/- A part of the proof library: names for blocks of memory, a small form of the code, and rules for walks over it. -/
import Derived.Test.YteidfholicaocaaU2b
import Derived.Test.YteidfholicaocaaS1b
import Derived.Test.YteidfholicaocaaAb36
set_option linter.all false
namespace Go.Proofs.Yteidfholicaocaa
open Go.Ab
set_option linter.all false

theorem isNaN_pc (x : Nat) : PC Try.prog 167 [.int .u8 x] (.bool false) := by
  refine pc_of cmp_isNaN_uint8__ok (fun ro => ?_)
  simp [cmp_isNaN_uint8__F, cmp_isNaN_uint8__M]
  exact ret_pu (by simp) (by simp) (by simp)
theorem less_pc (x y : Nat) : PC Try.prog 157 [.int .u8 x, .int .u8 y] (.bool (decide (x < y))) := by
  refine pc_of cmp_Less_uint8__ok (fun ro => ?_)
  simp [cmp_Less_uint8__F, cmp_Less_uint8__M]
  refine call_pc (isNaN_pc x) (by simp) (by simp) ?_
  simp
  exact ret_pu (by simp) (by simp) (by simp)

theorem insertion_ct (n : Nat) (h0 : 0 < n) (hn : n ≤ 1048576) (g : Nat → Nat) : Ct Try.prog false 151 [.slx (.e 0) 0 n, .int .i64 0, .int .i64 n] [byt n g] fun v E' L' => v = .tup [] ∧ E' = [byt n (srt n g)] ∧ L' = [] := by
  refine ct_of slices_insertionSortOrdered_uint8__ok ?_
  have hw1 : IntKind.i64.wrap 1 = 1 := wrap_i64 (by omega) (by omega)
  simp [slices_insertionSortOrdered_uint8__F, slices_insertionSortOrdered_uint8__M, hw1]
  refine wp_for (n - 1) (fun k => ⟨[(0, .slx (.e 0) 0 n), (1, .int .i64 0), (2, .int .i64 n), (6, .int .i64 ((k : Int) + 1))], [], [byt n (srt (k + 1) g)]⟩) ?_ ?_ ?_
  · simp [srt, insF]
  · intro k hk
    have hk1 : (k : Int) + 1 < n := by omega
    have hwk : IntKind.i64.wrap ((k : Int) + 1 + 1) = (k : Int) + 1 + 1 := wrap_i64 (by omega) (by omega)
    simp [slices_insertionSortOrdered_uint8__L0, hk1]
    refine ⟨fun j s' => j ≤ k + 1 ∧ ∃ f, s' = ⟨[(0, .slx (.e 0) 0 n), (1, .int .i64 0), (2, .int .i64 n), (6, .int .i64 ((k : Int) + 1)), (7, .int .i64 j)], [], [byt n f]⟩ ∧ insF j f = srt (k + 1 + 1) g, k + 1, ⟨Nat.le_refl _, srt (k + 1) g, by simp, rfl⟩, ?_⟩
    rintro j s' ⟨hj, f, rfl, hf⟩
    cases j with
    | zero =>
      simp [slices_insertionSortOrdered_uint8__L1, hwk]
      exact byt_congr fun i _ => by rw [← hf]; rfl
    | succ j =>
      have hj1 : (j : Int) + 1 < n := by omega
      have hj2 : (j : Int) < n := by omega
      have hj3 : j + 1 < n := by omega
      have hj4 : j < n := by omega
      have hj5 : (0 : Int) ≤ (j : Int) + 1 := by omega
      have hwj : IntKind.i64.wrap (j : Int) = j := wrap_i64 (by omega) (by omega)
      have hge := byt_get (f := f) hj3
      have hge2 := byt_get (f := f) hj4
      by_cases hlt : f (j + 1) < f j
      · simp [slices_insertionSortOrdered_uint8__L1, hj1, hj2, hj3, hj4, hj5, hwj, hge, hge2]
        refine calll_pc (less_pc _ _) (by simp) (by simp) ?_
        simp [hlt, hj1, hj2, hj3, hj4, hj5, hwj, hge, hge2, byt_set, show j + 1 + 1 ≤ n by omega, show j + 1 ≤ n by omega]
        refine ⟨j, by omega, by omega, swpF f (j + 1), ?_, ?_⟩
        · refine ⟨by trivial, byt_congr fun i _ => ?_⟩
          simp only [swpF, Nat.add_sub_cancel]
          by_cases e1 : i = j <;> by_cases e2 : i = j + 1 <;> simp [e1, e2] <;> omega
        · rw [← hf]
          simp only [insF, if_pos hlt]
      · simp [slices_insertionSortOrdered_uint8__L1, hj1, hj2, hj3, hj4, hj5, hwj, hge, hge2]
        refine calll_pc (less_pc _ _) (by simp) (by simp) ?_
        simp [hlt, hwk]
        exact byt_congr fun i _ => by rw [← hf]; simp only [insF, if_neg hlt]
  · simp [slices_insertionSortOrdered_uint8__L0, show ¬ (((n - 1 : Nat) : Int) + 1 < n) by omega]
    rw [show n - 1 + 1 = n by omega]
    exact ret_pu (by simp) (by simp) (by simp)

def lenN (n : Nat) : Int := [0, 1, 2, 2, 3, 3, 3, 3, 4].getD n 0
def lenTab : ByteArray := ⟨((List.range 256).map fun i => UInt8.ofNat (if i = 0 then 0 else Nat.log2 i + 1)).toArray⟩
def lz (t : ByteArray) : MC :=
    (.seq (.reg none [
      ⟨(some 19), .mov (.t 2), none⟩,
      ⟨(some 20), .mov (.t 0), none⟩,
      ⟨(some 21), .conv .u8 (.t 20), none⟩,
      ⟨(some 22), .ixS (.c (.str t)) (.t 21), none⟩,
      ⟨(some 23), .conv .i64 (.t 22), none⟩,
      ⟨(some 24), .bin .add (.t 19) (.t 23), none⟩,
      ⟨(some 2), .mov (.t 24), none⟩] (some [2]) none)
    .ret)
def lzM (t : ByteArray) : MC :=
  (.seq (.reg none [
      ⟨(some 2), .mov (.c (.int .i64 0)), none⟩] (some [0, 2]) none)
    (.seq (.seq (.reg none [
      ⟨(some 3), .mov (.t 0), none⟩,
      ⟨(some 4), .bin .geq (.t 3) (.c (.int .u64 4294967296)), none⟩] (some [0, 2, 4]) none)
    (.cond (.t 4) (.seq (.reg none [
      ⟨(some 5), .mov (.t 0), none⟩,
      ⟨(some 6), .bin .shr (.t 5) (.c (.int .u64 32)), none⟩,
      ⟨(some 0), .mov (.t 6), none⟩] (some [0]) none)
    (.reg none [
      ⟨(some 2), .mov (.c (.int .i64 32)), none⟩] (some [0, 2]) none))
    .skip))
    (.seq (.seq (.reg none [
      ⟨(some 7), .mov (.t 0), none⟩,
      ⟨(some 8), .bin .geq (.t 7) (.c (.int .u64 65536)), none⟩] (some [0, 2, 8]) none)
    (.cond (.t 8) (.seq (.reg none [
      ⟨(some 9), .mov (.t 0), none⟩,
      ⟨(some 10), .bin .shr (.t 9) (.c (.int .u64 16)), none⟩,
      ⟨(some 0), .mov (.t 10), none⟩] (some [0, 2]) none)
    (.reg none [
      ⟨(some 11), .mov (.t 2), none⟩,
      ⟨(some 12), .bin .add (.t 11) (.c (.int .i64 16)), none⟩,
      ⟨(some 2), .mov (.t 12), none⟩] (some [0, 2]) none))
    .skip))
    (.seq (.seq (.reg none [
      ⟨(some 13), .mov (.t 0), none⟩,
      ⟨(some 14), .bin .geq (.t 13) (.c (.int .u64 256)), none⟩] (some [0, 2, 14]) none)
    (.cond (.t 14) (.seq (.reg none [
      ⟨(some 15), .mov (.t 0), none⟩,
      ⟨(some 16), .bin .shr (.t 15) (.c (.int .u64 8)), none⟩,
      ⟨(some 0), .mov (.t 16), none⟩] (some [0, 2]) none)
    (.reg none [
      ⟨(some 17), .mov (.t 2), none⟩,
      ⟨(some 18), .bin .add (.t 17) (.c (.int .i64 8)), none⟩,
      ⟨(some 2), .mov (.t 18), none⟩] (some [0, 2]) none))
    .skip)) (lz t)))))
theorem lz_eq : math_bits_Len64_F.body = lzM lenTab := by kernel_rfl
theorem lz_res : math_bits_Len64_F.res = [.t 2] := rfl
theorem lenTab_get : ∀ n : Fin 9, (lenTab.data[n.val]?).map (fun u => (u.toNat : Int)) = some (lenN n.val) := by decide +kernel
theorem lenTab_size : lenTab.size = 256 := by kernel_rfl
theorem lenN_le : ∀ n : Fin 9, 0 ≤ lenN n.val ∧ lenN n.val ≤ 4 := by decide
theorem len64_pc (n : Nat) (hn : n ≤ 8) : PC Try.prog 161 [.int .u64 n] (.int .i64 (lenN n)) := by
  refine pc_of math_bits_Len64_ok (fun ro => ?_)
  rw [lz_eq, lz_res]
  have hg := lenTab_get ⟨n, by omega⟩
  have hs := lenTab_size
  have hl := lenN_le ⟨n, by omega⟩
  simp only at hg hl
  generalize lenTab = t at hg hs
  generalize lenN n = c at hg hl
  obtain ⟨u, hu, huc⟩ : ∃ u, t.data[n]? = some u ∧ (u.toNat : Int) = c := by
    cases h : t.data[n]? with
    | none => rw [h] at hg; simp at hg
    | some u => rw [h] at hg; simp at hg; exact ⟨u, rfl, hg⟩
  have hw : IntKind.i64.wrap c = c := wrap_i64 (by omega) (by omega)
  have hw8 : IntKind.u8.wrap (n : Int) = n := wrap_u8 (by omega) (by omega)
  simp [lzM, lz, show ¬ (4294967296 ≤ (n : Int)) by omega, show ¬ (65536 ≤ (n : Int)) by omega, show ¬ (256 ≤ (n : Int)) by omega, hw8, hu, huc, hw]
  exact ret_pu (by simp) (by simp) (by simp)
theorem len_pc (n : Nat) (hn : n ≤ 8) : PC Try.prog 150 [.int .u64 n] (.int .i64 (lenN n)) := by
  refine pc_of math_bits_Len_ok (fun ro => ?_)
  simp [math_bits_Len_F, math_bits_Len_M]
  refine call_pc (len64_pc n hn) (by simp) (by simp) ?_
  simp
  exact ret_pu (by simp) (by simp) (by simp)
theorem pdqsort_ct (n : Nat) (h0 : 0 < n) (hn : n ≤ 8) (g : Nat → Nat) (lim : Int) : Ct Try.prog false 149 [.slx (.e 0) 0 n, .int .i64 0, .int .i64 n, .int .i64 lim] [byt n g] fun v E' L' => v = .tup [] ∧ E' = [byt n (srt n g)] ∧ L' = [] := by
  refine ct_of slices_pdqsortOrdered_uint8__ok ?_
  have hw : IntKind.i64.wrap (n : Int) = n := wrap_i64 (by omega) (by omega)
  simp only [slices_pdqsortOrdered_uint8__F, slices_pdqsortOrdered_uint8__M]
  simp
  refine wp_for 0 (fun _ => _) rfl (fun k hk => by omega) ?_
  unfold slices_pdqsortOrdered_uint8__L0
  rw [wp_block_]
  refine wp_seq_opq fun R hR => ?_
  simp [hw]
  subst hR
  refine wp_seq_opq fun R hR => ?_
  simp [show (n : Int) ≤ 12 by omega]
  refine call_f [.e 0] (L2 := []) (insertion_ct n h0 (by omega) g) (by simp) (by simp) ?_
  simp
  exact ret_pu (by simp) (by simp) (by simp)
theorem sort_ct (n : Nat) (h0 : 0 < n) (hn : n ≤ 8) (g : Nat → Nat) : Ct Try.prog false 146 [.slx (.e 0) 0 n] [byt n g] fun v E' L' => v = .tup [] ∧ E' = [byt n (srt n g)] ∧ L' = [] := by
  refine ct_of slices_Sort___uint8_uint8__ok ?_
  have hw : IntKind.u64.wrap (n : Int) = n := wrap_u64 (by omega) (by omega)
  simp [slices_Sort___uint8_uint8__F, slices_Sort___uint8_uint8__M, hw]
  refine call_pc (len_pc n hn) (by simp) (by simp) ?_
  simp
  refine call_f [.e 0] (L2 := []) (pdqsort_ct n h0 hn g (lenN n)) (by simp) (by simp) ?_
  simp
  exact ret_pu (by simp) (by simp) (by simp)

section
variable {P : Go.Program} {ro : Bool}
/-- A call that only reads, where the blocks name each other. -/
theorem call_rL {f : FuncId} (sig : List Nm) {args vs : List V} {E L2 : List (List V)} {v : V} {s : St} {K : V → St → Prop} (h : ∀ ro, Ct P ro f args E fun v' E' L' => v' = v ∧ E' = E ∧ L' = L2) (hE : SigOk s.blk sig s.m.length E) (hvs : vs = renL (nmap sig s.m.length) args) (ha : eoL sig.length args) (hK : K (v.ren (nmap sig s.m.length)) { s with m := s.m ++ L2.map (renL (nmap sig s.m.length)) }) : callWp P ro f vs s K := by
  refine .inr ⟨sig, args, E, _, hE.first, .inl hvs, ha, h true, ?_⟩
  rintro v' E' L' ⟨rfl, rfl, rfl⟩
  have h8 : s.setBlks sig [] = s := by cases sig <;> simp [St.setBlks]
  simp only [St.after, List.map_nil, h8]
  exact hK
end

theorem values_ct (off n cap : Nat) (cs : List V) (hcs : puL cs) (ro : Bool) : Ct Try.prog ro 131 [.sl (.e 0) off n cap] [cs] fun v E' L' => v = .fn 147 [] [.ptr (.l 0) 0] ∧ E' = [cs] ∧ L' = [[.sl (.e 0) off n cap]] := by
  refine ct_of slices_Values___uint8_uint8__ok ?_
  simp [slices_Values___uint8_uint8__F, slices_Values___uint8_uint8__M]
  refine ⟨[0], .fn 147 [] [.ptr (.l 0) 0], [cs], [[.sl (.e 0) off n cap]], by simp, .inl ?_, ?_, rfl, ?_, ?_, ?_, ?_, rfl, rfl, rfl⟩
  · simp [V.ren, renL, kmap]
  · simp [puL.ren _ hcs]
  · intro i k c h1 h2
    cases i with
    | zero => simp at h1 h2; subst h1; subst h2; exact ⟨[], by simp [V.ren, renL, kmap]⟩
    | succ i => simp at h1
  · simp [V.lt, ltL]
  · intro c hc
    simp at hc; subst hc; exact puL.lt _ hcs
  · intro c hc
    simp at hc; subst hc; simp [V.lt, ltL]

theorem collect_ct (n off cap : Nat) (h0 : 0 < n) (hn : n ≤ 1048576) (cs : List V) (hp : puL cs) (g : Nat → Nat) (hcs : ∀ i, i < n → cs[off + i]? = some (.int .u8 (g i))) (ro : Bool) :
    Ct Try.prog ro 145 [.fn 147 [] [.ptr (.e 0) 0]] [[.sl (.e 1) off n cap], cs] fun v E' L' => v = .slx (.l 0) 0 n ∧ E' = [[.sl (.e 1) off n cap], cs] ∧ L' = [byt n g] := by
  refine ct_of slices_Collect_uint8__ok ?_
  simp [slices_Collect_uint8__F, slices_Collect_uint8__M]
  refine call_rE [.e 0, .e 1] (appendSeq_ct n off cap h0 hn cs g hcs) ?_ ?_ ?_ (by simp) ?_
  · refine sigOk_mk (by simp) rfl ?_
    simp [nmap, puL.ren _ hp, St.blk]
    exact puL.eo _ hp
  · simp [nmap]
  · simp [eoL, V.eo]
  · simp [nmap]
    refine ret_new_E 2 0 (c := byt n g) (v' := .slx (.l 0) 0 n) (.inl (by simp [kmap])) (by simp) ⟨[], by simp⟩ (by simp) ?_ (by simp)
    intro c hc
    simp at hc
    rcases hc with rfl | rfl
    · simp [eoL, V.eo]
    · exact puL.eo _ hp
theorem sorted_ct (n off cap : Nat) (h0 : 0 < n) (hn : n ≤ 8) (cs : List V) (hp : puL cs) (g : Nat → Nat) (hcs : ∀ i, i < n → cs[off + i]? = some (.int .u8 (g i))) (ro : Bool) :
    Ct Try.prog ro 130 [.fn 147 [] [.ptr (.e 0) 0]] [[.sl (.e 1) off n cap], cs] fun v E' L' => v = .slx (.l 0) 0 n ∧ E' = [[.sl (.e 1) off n cap], cs] ∧ L' = [byt n (srt n g)] := by
  refine ct_of slices_Sorted_uint8__ok ?_
  simp [slices_Sorted_uint8__F, slices_Sorted_uint8__M]
  refine call_rE [.e 0, .e 1] (collect_ct n off cap h0 (by omega) cs hp g hcs) ?_ ?_ ?_ (by simp) ?_
  · refine sigOk_mk (by simp) rfl ?_
    simp [nmap, puL.ren _ hp, St.blk]
    exact puL.eo _ hp
  · simp [nmap]
  · simp [eoL, V.eo]
  · simp [nmap]
    refine call_w [.l 0] (sort_ct n h0 hn g) rfl (by simp) ?_
    simp
    refine ret_new_E 2 0 (c := byt n (srt n g)) (v' := .slx (.l 0) 0 n) (.inl (by simp [kmap])) (by simp) ⟨[], by simp⟩ (by simp) ?_ (by simp)
    intro c hc
    simp at hc
    rcases hc with rfl | rfl
    · simp [eoL, V.eo]
    · exact puL.eo _ hp
end Go.Proofs.Yteidfholicaocaa
