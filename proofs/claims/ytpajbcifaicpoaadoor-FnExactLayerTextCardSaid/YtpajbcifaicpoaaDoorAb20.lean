/- A part of the proof library: names for blocks of memory, a small form of the code, and rules for walks over it. -/
import Derived.Test.YtpajbcifaicpoaaDoorAb19
import Derived.ProofKit
import Derived.OpenShut
import Derived.SizedLaws
set_option linter.all false
namespace Go.Ab
open Go.ChangeShapes Go.WideShapes Go.ChangeAt Go.RowKit

theorem Cn.triv (W : World) : Cn true W ⟨[], fun _ => none⟩ (mE [] []) W := by
  refine ⟨?_, ?_, ?_, by simp, ?_, by simp, ?_, fun _ _ _ => rfl, Nat.le_refl _, rfl, rfl, rfl⟩
  · intro n b h; cases n <;> simp [Rho.get] at h
  · intro k cs h; simp [mE] at h
  · intro k cs h; simp [mE] at h
  · intro i j b h; simp at h
  · intro k b h; simp at h

/-- **A law, out of its contract**: it answers true, and of the old memory nothing has turned. -/
theorem law_calls {P : Program} {f : FuncId} {args : List V} {E : List (List V)} {Post : V → List (List V) → List (List V) → Prop} (h : Ct P true f args E Post) (hp : ∀ v E' L', Post v E' L' → v = .bool true) {W : World} {r : Rho} {xs : List Value}
    (hrl : r.l = fun _ => none) (hC : Cn true W r (mE E []) W) (hxs : RL r args xs) : Calls P f (List.toArray xs) W fun e W' => e = .returned (.bool true) ∧ Below W.heap.size W W' := by
  refine (h W r W xs hrl hC hxs).mono ?_
  rintro e W' ⟨x, r', v, E', L', rfl, _, hpost, hR, hC'⟩
  rw [hp v E' L' hpost, V.R_bool] at hR
  subst hR
  exact ⟨rfl, hC'.os, hC'.tape, hC'.output, hC'.size, fun k hk => hC'.frame k hk (.inl rfl)⟩

theorem law_pc {P : Program} {f : FuncId} {args : List V} (h : PC P f args (.bool true)) {W : World} {xs : List Value} (hxs : RL ⟨[], fun _ => none⟩ args xs) : Calls P f (List.toArray xs) W fun e W' => e = .returned (.bool true) ∧ Below W.heap.size W W' :=
  law_calls (h true) (fun _ _ _ hp => hp.1) rfl (Cn.triv W) hxs

/-- The arguments read behind the call as they did before. -/
theorem trodAll_below {H : Type} {enc : TypeId × Value → H} {P : Program} (hl : laidOutB P = true) {W W' : World} (hb : Below W.heap.size W W') : ∀ {ts : List TypeId} {vs : List Value} {ds : List (DataW H)} {ps : List MemPlace}, (ts.all fun t => P.readableRec t && decide (t < P.types.size)) = true →
    DataW.TrodAll enc P W 0 (fun _ => true) true ts vs ds ps → (∀ x ∈ ps, x.block < W.heap.size) → DataW.TrodAll enc P W' 0 (fun b => decide (b < W.heap.size)) true ts vs ds ps
  | [], vs, ds, ps, _, h, _ => by
    obtain ⟨rfl, rfl, rfl⟩ := trodAll_nil h
    exact trodAll_mk0
  | t :: ts, vs, ds, ps, ht, h, hp => by
    simp only [List.all_cons, Bool.and_eq_true, decide_eq_true_eq] at ht
    obtain ⟨v, vs', d, ds', p, q, rfl, rfl, rfl, h1, h2⟩ := trodAll_cons h
    exact trodAll_cons_mk (Below.trod hl ht.1.1 ht.1.2 h1 hb (fun x hx => hp x (by simp [hx]))) (trodAll_below hl hb ht.2 h2 (fun x hx => hp x (by simp [hx])))

/-! ### The arguments, opened -/

theorem okw_int {P : Program} {w : World} {r : Reach} {b : Nat} {t : TypeId} {k : IntKind} {v : Value} (ht : P.underlying t = some (.int k)) (h : Value.okWide P w r b t v) : ∃ n, v = .int k n ∧ k.min ≤ n ∧ n ≤ k.max := by
  simp only [Value.okWide, ht, Cell.okWide] at h
  cases v <;> simp [Cell.ok, ht] at h
  case int k' n => obtain ⟨rfl, h1⟩ := h; exact ⟨n, rfl, h1.1, h1.2⟩

theorem okw_bool {P : Program} {w : World} {r : Reach} {b : Nat} {t : TypeId} {v : Value} (ht : P.underlying t = some .bool) (h : Value.okWide P w r b t v) : ∃ x, v = .bool x := by
  simp only [Value.okWide, ht, Cell.okWide] at h
  cases v <;> simp [Cell.ok, ht] at h
  case bool x => exact ⟨x, rfl⟩

theorem okw_string {P : Program} {w : World} {r : Reach} {b : Nat} {t : TypeId} {v : Value} (ht : P.underlying t = some .string) (h : Value.okWide P w r b t v) : ∃ x : ByteArray, v = .string x ∧ (x.size : Int) ≤ 9223372036854775807 := by
  simp only [Value.okWide, ht, Cell.okWide] at h
  cases v <;> simp [Cell.ok, ht] at h
  case string x => exact ⟨x, rfl, h⟩

def kindsOf (P : Program) : List TypeId → Option (List IntKind)
  | [] => some []
  | t :: ts => match P.underlying t, kindsOf P ts with
    | some (.int k), some ks => some (k :: ks)
    | _, _ => none

theorem kindsOf_len {P : Program} : ∀ {ts : List TypeId} {ks : List IntKind}, kindsOf P ts = some ks → ks.length = ts.length
  | [], ks, h => by simp only [kindsOf] at h; cases h; rfl
  | t :: ts, ks, h => by
    simp only [kindsOf] at h
    split at h <;> cases h
    rename_i h1 h2
    simp [kindsOf_len h2]

theorem kindsOf_at {P : Program} : ∀ {ts : List TypeId} {ks : List IntKind}, kindsOf P ts = some ks → ∀ (i : Nat) (t : TypeId), ts[i]? = some t → ∃ k, ks[i]? = some k ∧ P.underlying t = some (.int k)
  | [], ks, _, i, t, ht => by simp at ht
  | t' :: ts, ks, h, i, t, ht => by
    simp only [kindsOf] at h
    split at h <;> cases h
    rename_i h1 h2
    cases i with
    | zero => simp at ht; subst ht; exact ⟨_, rfl, h1⟩
    | succ i => simp at ht; simpa using kindsOf_at h2 i t ht

/-- A struct or an array whose cells are whole numbers. -/
theorem okw_cells {P : Program} {w : World} {r : Reach} {b : Nat} {t : TypeId} {d : TypeDesc} {ks : List IntKind} {v : Value} (ht : P.underlying t = some d) (hd : isAggD d = true) (hk : (P.cellTypes P.depth t).bind (kindsOf P) = some ks) (hn : P.cellsOf t = ks.length) (h : Value.okWide P w r b t v) :
    ∃ ns : List Int, v = .agg (List.toArray (List.zipWith Value.int ks ns)) ∧ ns.length = ks.length ∧ ∀ (i : Nat) (k : IntKind) (n : Int), ks[i]? = some k → ns[i]? = some n → k.min ≤ n ∧ n ≤ k.max := by
  have h' : ∃ cs, v = .agg cs ∧ cs.size = P.cellsOf t ∧ Row.okWide P w r b t cs := by
    unfold Value.okWide at h
    rw [ht] at h
    cases d <;> simp [isAggD] at hd <;> exact h
  obtain ⟨cs, rfl, hsz, ts, hts, ⟨n, hmul⟩, hall⟩ := h'
  rw [hts] at hk
  simp only [Option.bind_some] at hk
  have hl := kindsOf_len hk
  rw [hn] at hsz
  have key : ∀ (i : Nat) (x : Value), cs.toList[i]? = some x → ∃ (k : IntKind) (m : Int), ks[i]? = some k ∧ x = Value.int k m ∧ k.min ≤ m ∧ m ≤ k.max := by
    intro i x hx
    have hlt : i < cs.toList.length := by
      rcases Nat.lt_or_ge i cs.toList.length with h1 | h1
      · exact h1
      · rw [List.getElem?_eq_none h1] at hx; cases hx
    simp at hlt
    obtain ⟨u, hu, hc⟩ := hall i x (by simpa using hx)
    rw [Nat.mod_eq_of_lt (by omega)] at hu
    obtain ⟨k, hk1, hk2⟩ := kindsOf_at hk i u hu
    simp only [Cell.okWide, hk2] at hc
    cases x <;> simp [Cell.ok, hk2] at hc
    case int k' m => obtain ⟨rfl, h1⟩ := hc; exact ⟨_, m, hk1, rfl, h1.1, h1.2⟩
  have gen : ∀ (l : List Value) (ks : List IntKind), l.length = ks.length → (∀ (i : Nat) (x : Value), l[i]? = some x → ∃ (k : IntKind) (m : Int), ks[i]? = some k ∧ x = Value.int k m ∧ k.min ≤ m ∧ m ≤ k.max) →
      ∃ ns : List Int, l = List.zipWith Value.int ks ns ∧ ns.length = ks.length ∧ ∀ (i : Nat) (k : IntKind) (n : Int), ks[i]? = some k → ns[i]? = some n → k.min ≤ n ∧ n ≤ k.max := by
    intro l
    induction l with
    | nil =>
      intro ks h1 _
      cases ks with
      | nil => exact ⟨[], by simp, rfl, fun i k n h => by simp at h⟩
      | cons k ks => simp at h1
    | cons x l ih =>
      intro ks h1 h2
      cases ks with
      | nil => simp at h1
      | cons k ks =>
        obtain ⟨ns, e1, e2, e3⟩ := ih ks (by simpa using h1) (fun i y hy => by simpa using h2 (i + 1) y (by simpa using hy))
        obtain ⟨k', m, g1, g2, g3⟩ := h2 0 x rfl
        simp at g1
        subst g1
        refine ⟨m :: ns, by simp [e1, g2], by simp [e2], fun i k n hk hn => ?_⟩
        cases i with
        | zero => simp at hk hn; subst hk; subst hn; exact g3
        | succ i => simp at hk hn; exact e3 i k n hk hn
  obtain ⟨ns, e1, e2, e3⟩ := gen cs.toList ks (by simp; omega) key
  exact ⟨ns, by rw [← e1], e2, e3⟩
end Go.Ab
