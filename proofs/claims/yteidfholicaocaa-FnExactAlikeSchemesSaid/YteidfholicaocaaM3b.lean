/- A part of the proof library: names for blocks of memory, a small form of the code, and rules for walks over it. -/
import Derived.Test.YteidfholicaocaaM2b
import Derived.Test.YteidfholicaocaaL3eb
set_option linter.all false
namespace Go.Proofs.Yteidfholicaocaa
open Go.Ab
set_option maxHeartbeats 800000




theorem nums_map (k : IntKind) : ∀ l : List Int, nums (List.replicate l.length k) (l.map (V.int k)) = some l
  | [] => rfl
  | n :: l => by simp [nums, List.replicate_succ, nums_map k l]
theorem nums_arr (k : IntKind) (n : Nat) (F : Nat → Int) : nums (List.replicate n k) (arr k n F) = some ((List.range n).map F) := by
  have := nums_map k ((List.range n).map F)
  simpa [arr, tab, Function.comp_def] using this
open Classical in
/-- A set learns nothing. -/
noncomputable def blindB (p : Nat) (w b : Nat → Nat) (set : Nat) : Bool := decide (∀ v, v < 64 → colh (colN 6 set b) p v = colh (colN 6 set w) p v)
theorem l02Blind_ct (s : Int) (p : Nat) (w b : Nat → Nat) (hp : p ≤ 8) (hw : ∀ i, w i < 256) (hb : ∀ i, b i < 256) (set : Nat) (hset : set < 256) (ro : Bool) : Ct Try.prog ro 77 [.ptr (.e 0) 0, .int .u8 set] [schC s p w b] fun v E' L' => v = .bool (blindB p w b set) ∧ E' = [schC s p w b] ∧ L' = [] := by
  have h1 := l02Columns_ct s p w b hp hw hb set hset true
  have h2 := l02Columns_ct s p w b hp hw hb set hset false
  have e1 : rws true w b = b := rfl
  have e2 : rws false w b = w := rfl
  rw [e1] at h1
  rw [e2] at h2
  have hbl : decide ((List.range 64).map (colh (colN 6 set b) p) = (List.range 64).map (colh (colN 6 set w) p)) = blindB p w b set := by
    unfold blindB
    simp only [decide_eq_decide]
    rw [List.map_inj_left]
    simp
  have n1 := nums_arr .i8 64 (colh (colN 6 set b) p)
  have n2 := nums_arr .i8 64 (colh (colN 6 set w) p)
  rw [← hbl]
  generalize colh (colN 6 set b) p = f at *
  generalize colh (colN 6 set w) p = g at *
  refine ct_of spec_l02Blind_ok ?_
  rw [show spec_l02Blind_F.body = spec_l02Blind_M from rfl, show spec_l02Blind_F.res = [.t 4] from rfl]
  unfold spec_l02Blind_M
  generalize List.replicate 64 IntKind.i8 = ks at *
  generalize (List.range 64).map f = lf at *
  generalize (List.range 64).map g = lg at *
  simp
  refine call_s [.e 0] h1 (by simp) ?_
  simp
  refine call_s [.e 0] h2 (by simp) ?_
  simp [n1, n2]
  exact ret_pu (by simp) (by simp) (by simp)

theorem pow_bits {m : Nat} (h : m ≤ 6) : 2 ^ m ≤ 64 := show 2 ^ m ≤ 2 ^ 6 from Nat.pow_le_pow_right (by decide) h
theorem shl_one_i64 {m : Nat} (h : m ≤ 6) : shlI .i64 1 (m : Int) = ((2 ^ m : Nat) : Int) := by
  have key : ∀ m : Fin 7, shlI .i64 1 (m.val : Int) = ((2 ^ m.val : Nat) : Int) := by decide +kernel
  exact key ⟨m, by omega⟩
theorem step64 {F : Nat → Bool} {k : Nat} (hk : k < 64) (hF : F k = true) : orI .u64 (pic k F : Int) (shlI .u64 1 (k : Int)) = (pic (k + 1) F : Int) := by
  have := pic_step64 (F := F) hk
  rw [if_pos hF] at this
  rw [shl64_one hk]; exact this
theorem stay64 {F : Nat → Bool} {k : Nat} (hF : F k = false) : pic (k + 1) F = pic k F := by simp [pic, hF]

theorem sets_pc {g : FuncId} {fs : List V} {F : Nat → Bool} (m : Nat) (hm : m ≤ 6) (p : Int) (w b : Nat → Nat) (hg : hasBody Try.prog g = true) (hfs : puL fs) (h : ∀ i : Nat, i < 2 ^ m → PC Try.prog g (fs ++ [.int .u8 i]) (.bool (F i))) :
    PC Try.prog 126 [sch m p w b, .fn g fs []] (.int .u64 (pic (2 ^ m) F)) := by
  refine pc_of impl_Scheme_sets_ok (fun ro => ?_)
  have hN := shl_one_i64 hm
  have hN64 := pow_bits hm
  generalize 2 ^ m = N at *
  simp [impl_Scheme_sets_F, impl_Scheme_sets_M, hN]
  refine wp_for N (fun k => ⟨[(1, .fn g fs []), (5, .int .u64 (pic k F)), (9, .int .i64 N), (10, .int .i64 k)], [schC m p w b], []⟩) ?_ ?_ ?_
  · simp [pic]
  · intro k hk
    have hk1 : (k : Int) < N := by omega
    have hwk : IntKind.i64.wrap ((k : Int) + 1) = k + 1 := wrap_i64 (by omega) (by omega)
    have hw8 : IntKind.u8.wrap (k : Int) = k := wrap_u8 (by omega) (by omega)
    simp [impl_Scheme_sets_L0, hk1, hw8]
    refine ⟨hg, call_pc (h k hk) (by simp [puL_append, hfs]) (by simp) ?_⟩
    cases hF : F k
    · simp [hwk, stay64 hF]
    · simp [hwk, step64 (show k < 64 by omega) hF]
  · simp [impl_Scheme_sets_L0]
    exact ret_pu (by simp) (by simp) (by simp)

def seeB (w b : Nat → Nat) (set : Nat) : Bool := decide (wgt set false w b < wgt set true w b)

theorem seeing_pc (m : Nat) (hm : m ≤ 6) (p : Int) (w b : Nat → Nat) (hw : ∀ i, w i < 256) (hb : ∀ i, b i < 256) : PC Try.prog 127 [sch m p w b] (.int .u64 (pic (2 ^ m) (seeB w b))) := by
  have h64 := pow_bits hm
  have h := sets_pc (g := 115) (fs := [sch m p w b]) (F := seeB w b) m hm p w b (by kernel_rfl) (by simp) (fun i hi => sees_pc m p w b hw hb i (by omega))
  refine pc_of impl_Scheme_seeing_ok (fun ro => ?_)
  generalize pic (2 ^ m) (seeB w b) = q at *
  simp [impl_Scheme_seeing_F, impl_Scheme_seeing_M]
  refine call_pc h (by simp) (by simp) ?_
  simp
  exact ret_pu (by simp) (by simp) (by simp)

theorem l02Sets_ct (m p : Nat) (hm : m ≤ 6) (hp : p ≤ 8) (w b : Nat → Nat) (hw : ∀ i, w i < 256) (hb : ∀ i, b i < 256) (ro : Bool) : Ct Try.prog ro 81 [.ptr (.e 0) 0] [schC m p w b] fun v E' L' => v = .tup [.int .u64 (pic (2 ^ m) (seeB w b)), .int .u64 (pic (2 ^ m) (blindB p w b))] ∧ E' = [schC m p w b] ∧ L' = [] := by
  have hN := shl_one_i64 hm
  have hN64 := pow_bits hm
  have hum : IntKind.u64.wrap (m : Int) = m := wrap_u64 (by omega) (by omega)
  refine ct_of spec_l02Sets_ok ?_
  generalize 2 ^ m = N at *
  simp [spec_l02Sets_F, spec_l02Sets_M]
  refine wp_for N (fun k => ⟨[(0, .ptr (.e 0) 0), (4, .int .u64 (pic k (seeB w b))), (5, .int .u64 (pic k (blindB p w b))), (6, .int .i64 k)], [], [schC m p w b]⟩) ?_ ?_ ?_
  · simp [pic]
  · intro k hk
    have hk1 : (k : Int) < N := by omega
    have hwk : IntKind.i64.wrap ((k : Int) + 1) = k + 1 := wrap_i64 (by omega) (by omega)
    have hw8 : IntKind.u8.wrap (k : Int) = k := wrap_u8 (by omega) (by omega)
    have huk : IntKind.u64.wrap (k : Int) = k := wrap_u64 (by omega) (by omega)
    have e1 : wgt k true w b ≤ 64 := cnt_le _ _
    have e2 : wgt k false w b ≤ 64 := cnt_le _ _
    have hg := l02Gap_ct m p w b hw hb k (by omega)
    rw [wrap_i64 (by omega) (by omega)] at hg
    have hd : decide (0 < (wgt k true w b : Int) - wgt k false w b) = seeB w b k := by
      unfold seeB; congr 1; exact propext ⟨fun h => by omega, fun h => by omega⟩
    have hbl := l02Blind_ct m p w b hp hw hb k (by omega)
    generalize (wgt k true w b : Int) - wgt k false w b = d at hg hd
    simp [spec_l02Sets_L0, hum, hN, hk1, hw8]
    refine call_s [.e 0] hg (by simp) ?_
    cases hF : seeB w b k
    · rw [hF] at hd
      simp only [decide_eq_false_iff_not] at hd
      simp [hd, hw8]
      refine call_s [.e 0] hbl (by simp) ?_
      cases hG : blindB p w b k
      · simp [hwk, stay64 hF, stay64 hG]
      · simp [hwk, huk, stay64 hF, step64 (show k < 64 by omega) hG]
    · rw [hF] at hd
      simp only [decide_eq_true_eq] at hd
      simp [hd, hw8, huk, step64 (show k < 64 by omega) hF]
      refine call_s [.e 0] hbl (by simp) ?_
      cases hG : blindB p w b k
      · simp [hwk, stay64 hG]
      · simp [hwk, huk, step64 (show k < 64 by omega) hG]
  · simp [spec_l02Sets_L0, hum, hN]
    exact ret_pu (by simp) (by simp) (by simp)


end Go.Proofs.Yteidfholicaocaa
