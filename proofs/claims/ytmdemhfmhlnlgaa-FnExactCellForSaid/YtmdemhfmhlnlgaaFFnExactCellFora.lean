/- The law FnExactCellFor answers true at every input of its types; there are no conditions. -/
import Derived.Test.YtmdemhfmhlnlgaaRows
import Derived.Test.YtmdemhfmhlnlgaaO4a
import Derived.WalkKit
import Derived.ProofKit
import Derived.OpenShut
import Derived.ShutString
import Derived.ChangeOld
import Derived.Below
import Derived.SizedLaws
import Derived.Test.YtmdemhfmhlnlgaaAb31
set_option linter.all false
namespace Go.Proofs.Ytmdemhfmhlnlgaa.fnExactCellFor
open Go.ChangeShapes Go.WideShapes Go.ChangeAt Go.RowKit
open Go.Ab
theorem own : ownKnob Try.prog.godebug = none := by kernel_rfl
theorem laidOut : laidOutB Try.prog = true := by kernel_rfl
set_option maxRecDepth 100000 in
theorem lifted (os : Os) (started : os.Started) (H : Type) (enc : TypeId × Value → H) :
    ReturnsInHanded {} Try.checked os 12 .any (Rows.fnExactCellForSpec.pre6 enc Try.prog Try.f12 Rows.fnExactCellForRow.domain false) (Rows.fnExactCellForSpec.post enc Try.prog Try.f12 false true false false) := by
  refine returnsInHanded_of_change_sized (C := Try.checked) own started (by kernel_rfl) Try.func12
    (ChangeSpec.witness6 (enc := enc) (C := Try.checked) false ⟨#[], #[.agg (List.toArray (.int .i8 0 :: .int .i8 0 :: List.replicate 12 (.int .u8 0))), .bool false, .slice none 0 0], []⟩ 8 (by kernel_rfl) (by kernel_rfl) (by kernel_rfl) (by kernel_rfl)) ?_
  intro W base args ds gs before hval0 hW hcnd hsz0 _
  have hval : ∀ (j : Nat) t v, Try.f12.params[j]? = some t → args[j]? = some v → Value.okWide Try.prog W .any base t v := hval0
  have hW' := hW
  obtain ⟨p, q, hA0, hV, rfl, hfz, hnd⟩ := hW
  have hA : DataW.TrodAll enc Try.prog W 0 (fun _ => true) true Try.f12.params.toList args.toList ds p := hA0
  rw [Try.params12] at hA hval
  have hA1 := hA
  obtain ⟨v0, vs0, d0, ds0, pl0, ql0, hg0, rfl, rfl, h0, rr0⟩ := trodAll_cons hA
  obtain ⟨v1, vs1, d1, ds1, pl1, ql1, hg1, rfl, rfl, h1, rr1⟩ := trodAll_cons rr0
  obtain ⟨v2, vs2, d2, ds2, pl2, ql2, hg2, rfl, rfl, h2, rr2⟩ := trodAll_cons rr1
  obtain ⟨rfl, rfl, rfl⟩ := trodAll_nil rr2
  obtain rfl : args = #[v0, v1, v2] := by cases args; simp_all
  obtain ⟨rfl, rfl⟩ := trodVars_none hV
  obtain ⟨s0, p0, f0, g0, r0, a0, b0, c0, d0⟩ := okw_scheme Try.underlying47 rfl (by kernel_rfl) (by kernel_rfl) (hval 0 47 v0 rfl rfl)
  obtain ⟨x1, rfl⟩ := okw_bool Try.underlying4 (hval 1 4 v1 rfl rfl)
  clear hA0 hval0 hsz0
  have fin : Calls Try.prog 12 (List.toArray [v0, .bool x1, v2]) W fun e W' => e = .returned (.bool true) ∧ Below W.heap.size W W' := by
    rcases open_i8s Try.underlying33 Try.underlying39 (by kernel_rfl) (hval 2 33 v2 rfl rfl) h2 with rfl | ⟨b, off, len, cap, F, rfl, hle, hh, hrow, hr⟩
    · exact law_calls (lawCellForNil s0 p0 f0 g0 a0 b0 c0 d0 x1 ) (fun _ _ _ h => h.1) rfl (Cn.triv W) (by simp [Rho.get, V.R_bool, V.R_nilsl, V.R_slx, r0])
    · exact law_calls (lawCellFor s0 p0 f0 g0 a0 b0 c0 d0 x1 len off F hr (blkV W b) hrow (blkV_pu W b)) (fun _ _ _ h => h.1) (r := ⟨[b], fun _ => none⟩) rfl (Cn.blocks W [b] (by simp) (by simpa using hh)) (by simp [Rho.get, V.R_bool, V.R_nilsl, V.R_slx, r0, hle])
  refine fin.mono fun e W' ⟨he, bel⟩ => ?_
  subst he
  exact ⟨_, rfl, _, _, _, [], _, [], hW', trodAll_mk1 (shut_bool Try.underlying4 _), trodAll_below laidOut bel (by kernel_rfl) hA1 (fun x hx => hW'.lt x (by simpa using hx)), rfl, bel.frame _, fun h => by cases h⟩
theorem over : Rows.fnExactCellForRow.holds Try.pinned (OpenSpec.ofChange Rows.fnExactCellForSpec) :=
  OpenClaim.holds_of_wide 12 Try.f12 rfl rfl rfl rfl rfl rfl rfl ⟨rfl, rfl, rfl, rfl, rfl⟩ rfl rfl rfl rfl rfl (by kernel_rfl) Try.func12 (by kernel_rfl)
    (of_decide_eq_true (by kernel_rfl)) (by unfold Func.isWrapper; first | (rw [if_pos (by decide +kernel)]; kernel_rfl) | (rw [if_neg (by decide +kernel)]; exact ⟨rfl, rfl⟩))
    (fun os started H enc _ => lifted os started H enc)
theorem proved : Rows.FnExactCellForSaid := over
#print axioms proved
end Go.Proofs.Ytmdemhfmhlnlgaa.fnExactCellFor
