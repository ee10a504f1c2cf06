/- The law FnExactRenewLayers answers true at every input of its types; there are no conditions. -/
import Derived.Test.YtclgpechdpkmgaaRows
import Derived.Test.YtclgpechdpkmgaaT6b
import Derived.WalkKit
import Derived.ProofKit
import Derived.OpenShut
import Derived.ShutString
import Derived.ChangeOld
import Derived.Below
import Derived.SizedLaws
import Derived.Test.YtclgpechdpkmgaaAb31
set_option linter.all false
namespace Go.Proofs.Ytclgpechdpkmgaa.fnExactRenewLayers
open Go.ChangeShapes Go.WideShapes Go.ChangeAt Go.RowKit
open Go.Ab
theorem own : ownKnob Try.prog.godebug = none := by kernel_rfl
theorem laidOut : laidOutB Try.prog = true := by kernel_rfl
set_option maxRecDepth 100000 in
theorem lifted (os : Os) (started : os.Started) (H : Type) (enc : TypeId × Value → H) :
    ReturnsInHanded {} Try.checked os 5 .any (Rows.fnExactRenewLayersSpec.pre6 enc Try.prog Try.f5 Rows.fnExactRenewLayersRow.domain false) (Rows.fnExactRenewLayersSpec.post enc Try.prog Try.f5 false true false false) := by
  refine returnsInHanded_of_change_sized (C := Try.checked) own started (by kernel_rfl) Try.func5
    (ChangeSpec.witness6 (enc := enc) (C := Try.checked) false ⟨#[], #[.agg (List.toArray (.int .i8 0 :: .int .i8 0 :: List.replicate 12 (.int .u8 0))), .slice none 0 0, .int .u32 0], []⟩ 8 (by kernel_rfl) (by kernel_rfl) (by kernel_rfl) (by kernel_rfl)) ?_
  intro W base args ds gs before hval0 hW hcnd hsz0 _
  have hval : ∀ (j : Nat) t v, Try.f5.params[j]? = some t → args[j]? = some v → Value.okWide Try.prog W .any base t v := hval0
  have hW' := hW
  obtain ⟨p, q, hA0, hV, rfl, hfz, hnd⟩ := hW
  have hA : DataW.TrodAll enc Try.prog W 0 (fun _ => true) true Try.f5.params.toList args.toList ds p := hA0
  rw [Try.params5] at hA hval
  have hA1 := hA
  obtain ⟨v0, vs0, d0, ds0, pl0, ql0, hg0, rfl, rfl, h0, rr0⟩ := trodAll_cons hA
  obtain ⟨v1, vs1, d1, ds1, pl1, ql1, hg1, rfl, rfl, h1, rr1⟩ := trodAll_cons rr0
  obtain ⟨v2, vs2, d2, ds2, pl2, ql2, hg2, rfl, rfl, h2, rr2⟩ := trodAll_cons rr1
  obtain ⟨rfl, rfl, rfl⟩ := trodAll_nil rr2
  obtain rfl : args = #[v0, v1, v2] := by cases args; simp_all
  obtain ⟨rfl, rfl⟩ := trodVars_none hV
  obtain ⟨s0, p0, f0, g0, r0, a0, b0, c0, d0⟩ := okw_scheme Try.underlying36 rfl (by kernel_rfl) (by kernel_rfl) (hval 0 36 v0 rfl rfl)
  obtain ⟨n2, rfl, l2, u2⟩ := okw_int Try.underlying37 (hval 2 37 v2 rfl rfl)
  obtain ⟨m2, rfl⟩ := Int.eq_ofNat_of_zero_le (show 0 ≤ n2 by simpa only [u32_min] using l2)
  clear hA0 hval0 hsz0
  have fin : Calls Try.prog 5 (List.toArray [v0, v1, .int .u32 m2]) W fun e W' => e = .returned (.bool true) ∧ Below W.heap.size W W' := by
    rcases open_lays Try.underlying22 Try.underlying73 (by kernel_rfl) rfl Try.underlying33 (by kernel_rfl) rfl Try.underlying67 (by kernel_rfl) Try.underlying5 (by kernel_rfl) (hval 1 22 v1 rfl rfl) h1 with rfl | ⟨bX, offX, lenX, capX, pX, gX, rfl, hleX, hhX, hrowX, hpX, hgX, hzX⟩
    · exact law_calls (lawRenewLayers [] (by simp) s0 p0 f0 g0 a0 b0 c0 d0 .nilsl 0 (fun _ => 0) (fun _ _ => 0) (LArg.nil _) m2 (by rw [u32_max] at u2; omega)) (fun _ _ _ h => h.1) rfl (Cn.triv W) (by simp [Rho.get, V.R_int, V.R_nilsl, V.R_slx, r0])
    · exact law_calls (lawRenewLayers [blkV W bX] (by simp [blkV_pu]) s0 p0 f0 g0 a0 b0 c0 d0 (.slx (.e 0) offX lenX) lenX pX gX (LArg.at_ _ 0 offX lenX hzX pX gX hpX hgX (blkV W bX) rfl hrowX (blkV_pu W bX)) m2 (by rw [u32_max] at u2; omega)) (fun _ _ _ h => h.1) (r := ⟨[bX], fun _ => none⟩) rfl (Cn.blocks W [bX] (by simp) (by simpa using hhX)) (by simp [Rho.get, V.R_int, V.R_nilsl, V.R_slx, r0, hleX])
  refine fin.mono fun e W' ⟨he, bel⟩ => ?_
  subst he
  exact ⟨_, rfl, _, _, _, [], _, [], hW', trodAll_mk1 (shut_bool Try.underlying4 _), trodAll_below laidOut bel (by kernel_rfl) hA1 (fun x hx => hW'.lt x (by simpa using hx)), rfl, bel.frame _, fun h => by cases h⟩
theorem over : Rows.fnExactRenewLayersRow.holds Try.pinned (OpenSpec.ofChange Rows.fnExactRenewLayersSpec) :=
  OpenClaim.holds_of_wide 5 Try.f5 rfl rfl rfl rfl rfl rfl rfl ⟨rfl, rfl, rfl, rfl, rfl⟩ rfl rfl rfl rfl rfl (by kernel_rfl) Try.func5 (by kernel_rfl)
    (of_decide_eq_true (by kernel_rfl)) (by unfold Func.isWrapper; first | (rw [if_pos (by decide +kernel)]; kernel_rfl) | (rw [if_neg (by decide +kernel)]; exact ⟨rfl, rfl⟩))
    (fun os started H enc _ => lifted os started H enc)
theorem proved : Rows.FnExactRenewLayersSaid := over
#print axioms proved
end Go.Proofs.Ytclgpechdpkmgaa.fnExactRenewLayers
