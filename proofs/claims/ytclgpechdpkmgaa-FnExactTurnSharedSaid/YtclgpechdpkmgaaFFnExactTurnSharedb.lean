/- The law FnExactTurnShared answers true at every input of its types; there are no conditions. -/
import Derived.Test.YtclgpechdpkmgaaRows
import Derived.Test.YtclgpechdpkmgaaT5b
import Derived.WalkKit
import Derived.ProofKit
import Derived.OpenShut
import Derived.ShutString
import Derived.ChangeOld
import Derived.Below
import Derived.SizedLaws
import Derived.Test.YtclgpechdpkmgaaAb31
set_option linter.all false
namespace Go.Proofs.Ytclgpechdpkmgaa.fnExactTurnShared
open Go.ChangeShapes Go.WideShapes Go.ChangeAt Go.RowKit
open Go.Ab
theorem own : ownKnob Try.prog.godebug = none := by kernel_rfl
theorem laidOut : laidOutB Try.prog = true := by kernel_rfl
set_option maxRecDepth 100000 in
theorem lifted (os : Os) (started : os.Started) (H : Type) (enc : TypeId × Value → H) :
    ReturnsInHanded {} Try.checked os 3 .any (Rows.fnExactTurnSharedSpec.pre6 enc Try.prog Try.f3 Rows.fnExactTurnSharedRow.domain false) (Rows.fnExactTurnSharedSpec.post enc Try.prog Try.f3 false true false false) := by
  refine returnsInHanded_of_change_sized (C := Try.checked) own started (by kernel_rfl) Try.func3
    (ChangeSpec.witness6 (enc := enc) (C := Try.checked) false ⟨#[], #[.slice none 0 0], []⟩ 8 (by kernel_rfl) (by kernel_rfl) (by kernel_rfl) (by kernel_rfl)) ?_
  intro W base args ds gs before hval0 hW hcnd hsz0 _
  have hval : ∀ (j : Nat) t v, Try.f3.params[j]? = some t → args[j]? = some v → Value.okWide Try.prog W .any base t v := hval0
  have hW' := hW
  obtain ⟨p, q, hA0, hV, rfl, hfz, hnd⟩ := hW
  have hA : DataW.TrodAll enc Try.prog W 0 (fun _ => true) true Try.f3.params.toList args.toList ds p := hA0
  rw [Try.params3] at hA hval
  have hA1 := hA
  obtain ⟨v0, vs0, d0, ds0, pl0, ql0, hg0, rfl, rfl, h0, rr0⟩ := trodAll_cons hA
  obtain ⟨rfl, rfl, rfl⟩ := trodAll_nil rr0
  obtain rfl : args = #[v0] := by cases args; simp_all
  obtain ⟨rfl, rfl⟩ := trodVars_none hV
  clear hA0 hval0 hsz0
  have fin : Calls Try.prog 3 (List.toArray [v0]) W fun e W' => e = .returned (.bool true) ∧ Below W.heap.size W W' := by
    rcases open_lays Try.underlying22 Try.underlying73 (by kernel_rfl) rfl Try.underlying33 (by kernel_rfl) rfl Try.underlying67 (by kernel_rfl) Try.underlying5 (by kernel_rfl) (hval 0 22 v0 rfl rfl) h0 with rfl | ⟨bX, offX, lenX, capX, pX, gX, rfl, hleX, hhX, hrowX, hpX, hgX, hzX⟩
    · exact law_calls (lawTurnShared [] (by simp) .nilsl 0 (fun _ => 0) (fun _ _ => 0) (LArg.nil _)) (fun _ _ _ h => h.1) rfl (Cn.triv W) (by simp [Rho.get, V.R_nilsl, V.R_slx])
    · exact law_calls (lawTurnShared [blkV W bX] (by simp [blkV_pu]) (.slx (.e 0) offX lenX) lenX pX gX (LArg.at_ _ 0 offX lenX hzX pX gX hpX hgX (blkV W bX) rfl hrowX (blkV_pu W bX))) (fun _ _ _ h => h.1) (r := ⟨[bX], fun _ => none⟩) rfl (Cn.blocks W [bX] (by simp) (by simpa using hhX)) (by simp [Rho.get, V.R_nilsl, V.R_slx, hleX])
  refine fin.mono fun e W' ⟨he, bel⟩ => ?_
  subst he
  exact ⟨_, rfl, _, _, _, [], _, [], hW', trodAll_mk1 (shut_bool Try.underlying4 _), trodAll_below laidOut bel (by kernel_rfl) hA1 (fun x hx => hW'.lt x (by simpa using hx)), rfl, bel.frame _, fun h => by cases h⟩
theorem over : Rows.fnExactTurnSharedRow.holds Try.pinned (OpenSpec.ofChange Rows.fnExactTurnSharedSpec) :=
  OpenClaim.holds_of_wide 3 Try.f3 rfl rfl rfl rfl rfl rfl rfl ⟨rfl, rfl, rfl, rfl, rfl⟩ rfl rfl rfl rfl rfl (by kernel_rfl) Try.func3 (by kernel_rfl)
    (of_decide_eq_true (by kernel_rfl)) (by unfold Func.isWrapper; first | (rw [if_pos (by decide +kernel)]; kernel_rfl) | (rw [if_neg (by decide +kernel)]; exact ⟨rfl, rfl⟩))
    (fun os started H enc _ => lifted os started H enc)
theorem proved : Rows.FnExactTurnSharedSaid := over
#print axioms proved
end Go.Proofs.Ytclgpechdpkmgaa.fnExactTurnShared
