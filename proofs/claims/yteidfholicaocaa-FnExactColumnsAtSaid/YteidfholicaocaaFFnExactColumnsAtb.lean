/- The law FnExactColumnsAt answers true at every input of its types; there are no conditions. -/
import Derived.Test.YteidfholicaocaaRows
import Derived.Test.YteidfholicaocaaV2b
import Derived.WalkKit
import Derived.ProofKit
import Derived.OpenShut
import Derived.ShutString
import Derived.ChangeOld
import Derived.Below
import Derived.SizedLaws
import Derived.Test.YteidfholicaocaaAb31
set_option linter.all false
namespace Go.Proofs.Yteidfholicaocaa.fnExactColumnsAt
open Go.ChangeShapes Go.WideShapes Go.ChangeAt Go.RowKit
open Go.Ab
theorem own : ownKnob Try.prog.godebug = none := by kernel_rfl
theorem laidOut : laidOutB Try.prog = true := by kernel_rfl
set_option maxRecDepth 100000 in
theorem lifted (os : Os) (started : os.Started) (H : Type) (enc : TypeId × Value → H) :
    ReturnsInHanded {} Try.checked os 13 .any (Rows.fnExactColumnsAtSpec.pre6 enc Try.prog Try.f13 Rows.fnExactColumnsAtRow.domain false) (Rows.fnExactColumnsAtSpec.post enc Try.prog Try.f13 false true false false) := by
  refine returnsInHanded_of_change_sized (C := Try.checked) own started (by kernel_rfl) Try.func13
    (ChangeSpec.witness6 (enc := enc) (C := Try.checked) false ⟨#[], #[.slice none 0 0, .int .i64 0], []⟩ 8 (by kernel_rfl) (by kernel_rfl) (by kernel_rfl) (by kernel_rfl)) ?_
  intro W base args ds gs before hval0 hW hcnd hsz0 _
  have hval : ∀ (j : Nat) t v, Try.f13.params[j]? = some t → args[j]? = some v → Value.okWide Try.prog W .any base t v := hval0
  have hW' := hW
  obtain ⟨p, q, hA0, hV, rfl, hfz, hnd⟩ := hW
  have hA : DataW.TrodAll enc Try.prog W 0 (fun _ => true) true Try.f13.params.toList args.toList ds p := hA0
  rw [Try.params13] at hA hval
  have hA1 := hA
  obtain ⟨v0, vs0, d0, ds0, pl0, ql0, hg0, rfl, rfl, h0, rr0⟩ := trodAll_cons hA
  obtain ⟨v1, vs1, d1, ds1, pl1, ql1, hg1, rfl, rfl, h1, rr1⟩ := trodAll_cons rr0
  obtain ⟨rfl, rfl, rfl⟩ := trodAll_nil rr1
  obtain rfl : args = #[v0, v1] := by cases args; simp_all
  obtain ⟨rfl, rfl⟩ := trodVars_none hV
  obtain ⟨n1, rfl, l1, u1⟩ := okw_int Try.underlying2 (hval 1 2 v1 rfl rfl)
  clear hA0 hval0 hsz0
  have fin : Calls Try.prog 13 (List.toArray [v0, .int .i64 n1]) W fun e W' => e = .returned (.bool true) ∧ Below W.heap.size W W' := by
    rcases open_lays Try.underlying22 Try.underlying73 (by kernel_rfl) rfl Try.underlying33 (by kernel_rfl) rfl Try.underlying67 (by kernel_rfl) Try.underlying5 (by kernel_rfl) (hval 0 22 v0 rfl rfl) h0 with rfl | ⟨bX, offX, lenX, capX, pX, gX, rfl, hleX, hhX, hrowX, hpX, hgX, hzX⟩
    · exact law_calls (lawColumnsAt [] (by simp) .nilsl 0 (fun _ => 0) (fun _ _ => 0) (LArg.nil _) n1 (by rw [i64_min] at l1; rw [i64_max] at u1; omega)) (fun _ _ _ h => h.1) rfl (Cn.triv W) (by simp [Rho.get, V.R_int, V.R_nilsl, V.R_slx])
    · exact law_calls (lawColumnsAt [blkV W bX] (by simp [blkV_pu]) (.slx (.e 0) offX lenX) lenX pX gX (LArg.at_ _ 0 offX lenX hzX pX gX hpX hgX (blkV W bX) rfl hrowX (blkV_pu W bX)) n1 (by rw [i64_min] at l1; rw [i64_max] at u1; omega)) (fun _ _ _ h => h.1) (r := ⟨[bX], fun _ => none⟩) rfl (Cn.blocks W [bX] (by simp) (by simpa using hhX)) (by simp [Rho.get, V.R_int, V.R_nilsl, V.R_slx, hleX])
  refine fin.mono fun e W' ⟨he, bel⟩ => ?_
  subst he
  exact ⟨_, rfl, _, _, _, [], _, [], hW', trodAll_mk1 (shut_bool Try.underlying4 _), trodAll_below laidOut bel (by kernel_rfl) hA1 (fun x hx => hW'.lt x (by simpa using hx)), rfl, bel.frame _, fun h => by cases h⟩
theorem over : Rows.fnExactColumnsAtRow.holds Try.pinned (OpenSpec.ofChange Rows.fnExactColumnsAtSpec) :=
  OpenClaim.holds_of_wide 13 Try.f13 rfl rfl rfl rfl rfl rfl rfl ⟨rfl, rfl, rfl, rfl, rfl⟩ rfl rfl rfl rfl rfl (by kernel_rfl) Try.func13 (by kernel_rfl)
    (of_decide_eq_true (by kernel_rfl)) (by unfold Func.isWrapper; first | (rw [if_pos (by decide +kernel)]; kernel_rfl) | (rw [if_neg (by decide +kernel)]; exact ⟨rfl, rfl⟩))
    (fun os started H enc _ => lifted os started H enc)
theorem proved : Rows.FnExactColumnsAtSaid := over
#print axioms proved
end Go.Proofs.Yteidfholicaocaa.fnExactColumnsAt
