/- The law FnExactShiftLayer answers true at every input of its types; there are no conditions. -/
import Derived.Test.YtbajijligpkepaaRows
import Derived.Test.YtbajijligpkepaaL3br3
import Derived.WalkKit
import Derived.ProofKit
import Derived.OpenShut
import Derived.ShutString
import Derived.ChangeOld
import Derived.Below
import Derived.SizedLaws
set_option linter.all false
namespace Go.Proofs.Ytbajijligpkepaa.fnExactShiftLayer
open Go.ChangeShapes Go.WideShapes Go.ChangeAt Go.RowKit
open Go.Ab
theorem own : ownKnob Try.prog.godebug = none := by kernel_rfl
theorem laidOut : laidOutB Try.prog = true := by kernel_rfl
set_option maxRecDepth 100000 in
theorem lifted (os : Os) (started : os.Started) (H : Type) (enc : TypeId × Value → H) :
    ReturnsInHanded {} Try.checked os 13 .any (Rows.fnExactShiftLayerSpec.pre6 enc Try.prog Try.f13 Rows.fnExactShiftLayerRow.domain false) (Rows.fnExactShiftLayerSpec.post enc Try.prog Try.f13 false true false false) := by
  refine returnsInHanded_of_change_sized (C := Try.checked) own started (by kernel_rfl) Try.func13
    (ChangeSpec.witness6 (enc := enc) (C := Try.checked) false ⟨#[], #[.agg (List.toArray (.int .i8 0 :: List.replicate 64 (.int .u8 0))), .int .i64 0, .int .i64 0], []⟩ 8 (by kernel_rfl) (by kernel_rfl) (by kernel_rfl) (by kernel_rfl)) ?_
  intro W base args ds gs before hval0 hW hcnd hsz0 _
  have hval : ∀ (j : Nat) t v, Try.f13.params[j]? = some t → args[j]? = some v → Value.okWide Try.prog W .any base t v := hval0
  have hW' := hW
  obtain ⟨p, q, hA0, hV, rfl, hfz, hnd⟩ := hW
  have hA : DataW.TrodAll enc Try.prog W 0 (fun _ => true) true Try.f13.params.toList args.toList ds p := hA0
  rw [Try.params13] at hA hval
  have hA1 := hA
  obtain ⟨v0, vs0, d0, ds0, pl0, ql0, hg0, rfl, rfl, h0, rr0⟩ := trodAll_cons hA
  obtain ⟨v1, vs1, d1, ds1, pl1, ql1, hg1, rfl, rfl, h1, rr1⟩ := trodAll_cons rr0
  obtain ⟨v2, vs2, d2, ds2, pl2, ql2, hg2, rfl, rfl, h2, rr2⟩ := trodAll_cons rr1
  obtain ⟨rfl, rfl, rfl⟩ := trodAll_nil rr2
  obtain rfl : args = #[v0, v1, v2] := by cases args; simp_all
  obtain ⟨rfl, rfl⟩ := trodVars_none hV
  obtain ⟨p0, f0, r0, a0, b0⟩ := okw_layer Try.underlying25 rfl (by kernel_rfl) (by kernel_rfl) (hval 0 25 v0 rfl rfl)
  obtain ⟨n1, rfl, l1, u1⟩ := okw_int Try.underlying2 (hval 1 2 v1 rfl rfl)
  obtain ⟨n2, rfl, l2, u2⟩ := okw_int Try.underlying2 (hval 2 2 v2 rfl rfl)
  clear hA0 hval0 hsz0
  refine (law_pc (lawShiftLayer p0 f0 a0 b0 n1 (by rw [i64_min] at l1; rw [i64_max] at u1; omega) n2 (by rw [i64_min] at l2; rw [i64_max] at u2; omega)) (xs := [v0, .int .i64 n1, .int .i64 n2]) (by simp [V.R_int, r0])).mono fun e W' ⟨he, bel⟩ => ?_
  subst he
  exact ⟨_, rfl, _, _, _, [], _, [], hW', trodAll_mk1 (shut_bool Try.underlying4 _), trodAll_below laidOut bel (by kernel_rfl) hA1 (fun x hx => hW'.lt x (by simpa using hx)), rfl, bel.frame _, fun h => by cases h⟩
theorem over : Rows.fnExactShiftLayerRow.holds Try.pinned (OpenSpec.ofChange Rows.fnExactShiftLayerSpec) :=
  OpenClaim.holds_of_wide 13 Try.f13 rfl rfl rfl rfl rfl rfl rfl ⟨rfl, rfl, rfl, rfl, rfl⟩ rfl rfl rfl rfl rfl (by kernel_rfl) Try.func13 (by kernel_rfl)
    (of_decide_eq_true (by kernel_rfl)) (by unfold Func.isWrapper; first | (rw [if_pos (by decide +kernel)]; kernel_rfl) | (rw [if_neg (by decide +kernel)]; exact ⟨rfl, rfl⟩))
    (fun os started H enc _ => lifted os started H enc)
theorem proved : Rows.FnExactShiftLayerSaid := over
#print axioms proved
end Go.Proofs.Ytbajijligpkepaa.fnExactShiftLayer
