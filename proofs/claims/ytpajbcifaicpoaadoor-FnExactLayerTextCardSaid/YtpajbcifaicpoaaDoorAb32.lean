/- A part of the proof library: names for blocks of memory, a small form of the code, and rules for walks over it. -/
import Derived.Test.YtpajbcifaicpoaaDoorAb31
set_option linter.all false
/-! Running one piece at a time: what follows is kept shut. -/
namespace Go.Ab
set_option maxHeartbeats 800000

attribute [simp] nlqV

theorem wp_opq {P : Go.Program} {ro : Bool} {ps : List (Nat × Nat)} {ops : List MO} {kill : Option (List Nat)} {tr : Option Nat} {Q : Ex → St → Prop} {s : St} (h : ∀ K : List Mm → St → Prop, K = (fun As s' => mmOk ps As ∧ fin kill tr (Q .n) s') → wmO P ro K ops s []) : MC.wp P ro (.reg (some ps) ops kill tr) Q s :=
  (wmO_iff (K := fun As s' => pairsOk ps As ∧ fin kill tr (Q .n) s') (K' := fun As s' => mmOk ps As ∧ fin kill tr (Q .n) s') (fun As s' => by rw [pairs_mm]) ops s []).2 (h _ rfl)
theorem wp_seq_opq {P : Go.Program} {ro : Bool} {a b : MC} {Q : Ex → St → Prop} {s : St} (h : ∀ R : St → Prop, R = b.wp P ro Q → a.wp P ro (thenE R Q) s) : MC.wp P ro (.seq a b) Q s := h _ rfl

theorem wmO_app {P : Go.Program} {ro : Bool} {K : List Mm → St → Prop} : ∀ (l1 l2 : List MO) (s : St) (acc : List Mm), wmO P ro K (l1 ++ l2) s acc = wmO P ro (fun As s' => wmO P ro K l2 s' As.reverse) l1 s acc
  | [], l2, s, acc => by simp [wmO]
  | o :: l1, l2, s, acc => by
    have e : ∀ s' acc', wmO P ro K (l1 ++ l2) s' acc' = wmO P ro (fun As s' => wmO P ro K l2 s' As.reverse) l1 s' acc' := fun s' acc' => wmO_app l1 l2 s' acc'
    simp only [List.cons_append, wmO, e]
theorem wmO_cut (i : Nat) {P : Go.Program} {ro : Bool} {K : List Mm → St → Prop} {ops : List MO} {s : St} {acc : List Mm} (h : ∀ R : St → List Mm → Prop, R = (fun s' acc' => wmO P ro K (ops.drop i) s' acc') → wmO P ro (fun As s' => R s' As.reverse) (ops.take i) s acc) : wmO P ro K ops s acc := by
  have := h _ rfl
  rw [← wmO_app, List.take_append_drop] at this
  exact this

end Go.Ab
