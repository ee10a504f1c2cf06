/- The law FnExactJoinShared answers true at every input of its types; there are no conditions. -/
import Derived.Test.YteidfholicaocaaRows
import Derived.Test.YteidfholicaocaaT7b
import Derived.WalkKit
import Derived.ProofKit
import Derived.OpenShut
import Derived.ShutString
import Derived.ChangeOld
import Derived.Below
import Derived.SizedLaws
import Derived.Test.YteidfholicaocaaAb31
set_option linter.all false
namespace Go.Proofs.Yteidfholicaocaa.fnExactJoinShared
open Go.ChangeShapes Go.WideShapes Go.ChangeAt Go.RowKit
open Go.Ab
theorem own : ownKnob Try.prog.godebug = none := by kernel_rfl
theorem laidOut : laidOutB Try.prog = true := by kernel_rfl
set_option maxRecDepth 100000 in
theorem lifted (os : Os) (started : os.Started) (H : Type) (enc : TypeId × Value → H) :
    ReturnsInHanded {} Try.checked os 4 .any (Rows.fnExactJoinSharedSpec.pre6 enc Try.prog Try.f4 Rows.fnExactJoinSharedRow.domain false) (Rows.fnExactJoinSharedSpec.post enc Try.prog Try.f4 false true false false) := by
  refine returnsInHanded_of_change_sized (C := Try.checked) own started (by kernel_rfl) Try.func4
    (ChangeSpec.witness6 (enc := enc) (C := Try.checked) false ⟨#[], #[.slice none 0 0, .slice none 0 0], []⟩ 8 (by kernel_rfl) (by kernel_rfl) (by kernel_rfl) (by kernel_rfl)) ?_
  intro W base args ds gs before hval0 hW hcnd hsz0 _
  have hval : ∀ (j : Nat) t v, Try.f4.params[j]? = some t → args[j]? = some v → Value.okWide Try.prog W .any base t v := hval0
  have hW' := hW
  obtain ⟨p, q, hA0, hV, rfl, hfz, hnd⟩ := hW
  have hA : DataW.TrodAll enc Try.prog W 0 (fun _ => true) true Try.f4.params.toList args.toList ds p := hA0
  rw [Try.params4] at hA hval
  have hA1 := hA
  obtain ⟨v0, vs0, d0, ds0, pl0, ql0, hg0, rfl, rfl, h0, rr0⟩ := trodAll_cons hA
  obtain ⟨v1, vs1, d1, ds1, pl1, ql1, hg1, rfl, rfl, h1, rr1⟩ := trodAll_cons rr0
  obtain ⟨rfl, rfl, rfl⟩ := trodAll_nil rr1
  obtain rfl : args = #[v0, v1] := by cases args; simp_all
  obtain ⟨rfl, rfl⟩ := trodVars_none hV
  clear hA0 hval0 hsz0
  have fin : Calls Try.prog 4 (List.toArray [v0, v1]) W fun e W' => e = .returned (.bool true) ∧ Below W.heap.size W W' := by
    rcases open_lays Try.underlying22 Try.underlying73 (by kernel_rfl) rfl Try.underlying33 (by kernel_rfl) rfl Try.underlying67 (by kernel_rfl) Try.underlying5 (by kernel_rfl) (hval 0 22 v0 rfl rfl) h0 with rfl | ⟨bX, offX, lenX, capX, pX, gX, rfl, hleX, hhX, hrowX, hpX, hgX, hzX⟩ <;> rcases open_lays Try.underlying22 Try.underlying73 (by kernel_rfl) rfl Try.underlying33 (by kernel_rfl) rfl Try.underlying67 (by kernel_rfl) Try.underlying5 (by kernel_rfl) (hval 1 22 v1 rfl rfl) h1 with rfl | ⟨bY, offY, lenY, capY, pY, gY, rfl, hleY, hhY, hrowY, hpY, hgY, hzY⟩
    · exact law_calls (lawJoinShared [] (by simp) .nilsl 0 (fun _ => 0) (fun _ _ => 0) (LArg.nil _) .nilsl 0 (fun _ => 0) (fun _ _ => 0) (LArg.nil _)) (fun _ _ _ h => h.1) rfl (Cn.triv W) (by simp [Rho.get, V.R_nilsl, V.R_slx])
    · exact law_calls (lawJoinShared [blkV W bY] (by simp [blkV_pu]) .nilsl 0 (fun _ => 0) (fun _ _ => 0) (LArg.nil _) (.slx (.e 0) offY lenY) lenY pY gY (LArg.at_ _ 0 offY lenY hzY pY gY hpY hgY (blkV W bY) rfl hrowY (blkV_pu W bY))) (fun _ _ _ h => h.1) (r := ⟨[bY], fun _ => none⟩) rfl (Cn.blocks W [bY] (by simp) (by simpa using hhY)) (by simp [Rho.get, V.R_nilsl, V.R_slx, hleY])
    · exact law_calls (lawJoinShared [blkV W bX] (by simp [blkV_pu]) (.slx (.e 0) offX lenX) lenX pX gX (LArg.at_ _ 0 offX lenX hzX pX gX hpX hgX (blkV W bX) rfl hrowX (blkV_pu W bX)) .nilsl 0 (fun _ => 0) (fun _ _ => 0) (LArg.nil _)) (fun _ _ _ h => h.1) (r := ⟨[bX], fun _ => none⟩) rfl (Cn.blocks W [bX] (by simp) (by simpa using hhX)) (by simp [Rho.get, V.R_nilsl, V.R_slx, hleX])
    · by_cases hb : bX = bY
      · subst hb
        exact law_calls (lawJoinShared [blkV W bX] (by simp [blkV_pu]) (.slx (.e 0) offX lenX) lenX pX gX (LArg.at_ _ 0 offX lenX hzX pX gX hpX hgX (blkV W bX) rfl hrowX (blkV_pu W bX)) (.slx (.e 0) offY lenY) lenY pY gY (LArg.at_ _ 0 offY lenY hzY pY gY hpY hgY (blkV W bX) rfl hrowY (blkV_pu W bX))) (fun _ _ _ h => h.1) (r := ⟨[bX], fun _ => none⟩) rfl (Cn.blocks W [bX] (by simp) (by simpa using hhX)) (by simp [Rho.get, V.R_nilsl, V.R_slx, hleX, hleY])
      · exact law_calls (lawJoinShared [blkV W bX, blkV W bY] (by simp [blkV_pu]) (.slx (.e 0) offX lenX) lenX pX gX (LArg.at_ _ 0 offX lenX hzX pX gX hpX hgX (blkV W bX) rfl hrowX (blkV_pu W bX)) (.slx (.e 1) offY lenY) lenY pY gY (LArg.at_ _ 1 offY lenY hzY pY gY hpY hgY (blkV W bY) rfl hrowY (blkV_pu W bY))) (fun _ _ _ h => h.1) (r := ⟨[bX, bY], fun _ => none⟩) rfl (Cn.blocks W [bX, bY] (by simpa using hb) (by intro b hb'; simp at hb'; rcases hb' with rfl | rfl; exact hhX; exact hhY)) (by simp [Rho.get, V.R_nilsl, V.R_slx, hleX, hleY])
  refine fin.mono fun e W' ⟨he, bel⟩ => ?_
  subst he
  exact ⟨_, rfl, _, _, _, [], _, [], hW', trodAll_mk1 (shut_bool Try.underlying4 _), trodAll_below laidOut bel (by kernel_rfl) hA1 (fun x hx => hW'.lt x (by simpa using hx)), rfl, bel.frame _, fun h => by cases h⟩
theorem over : Rows.fnExactJoinSharedRow.holds Try.pinned (OpenSpec.ofChange Rows.fnExactJoinSharedSpec) :=
  OpenClaim.holds_of_wide 4 Try.f4 rfl rfl rfl rfl rfl rfl rfl ⟨rfl, rfl, rfl, rfl, rfl⟩ rfl rfl rfl rfl rfl (by kernel_rfl) Try.func4 (by kernel_rfl)
    (of_decide_eq_true (by kernel_rfl)) (by unfold Func.isWrapper; first | (rw [if_pos (by decide +kernel)]; kernel_rfl) | (rw [if_neg (by decide +kernel)]; exact ⟨rfl, rfl⟩))
    (fun os started H enc _ => lifted os started H enc)
theorem proved : Rows.FnExactJoinSharedSaid := over
#print axioms proved
end Go.Proofs.Yteidfholicaocaa.fnExactJoinShared
