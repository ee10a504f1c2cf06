/- A part of the proof library: names for blocks of memory, a small form of the code, and rules for walks over it. -/
import Derived.Test.YtpajbcifaicpoaaDoorAb3
set_option linter.all false
namespace Go.Ab

def compX : Operand → Option X
  | .tmp t => some (.t t)
  | .const (.int k n) => some (.c (.int k n))
  | .const (.bool b) => some (.c (.bool b))
  | .const (.string b) => some (.c (.str b))
  | .const (.slice none 0 0) => some (.c .nilsl)
  | .const (.pointer none) => some (.c .nilptr)
  | .const .nilFunc => some (.c (.raw .nilFunc))
  | .const _ => none
  | .func f => some (.c (.fn f [] []))
  | .global _ => none

def compXs : List Operand → Option (List X)
  | [] => some []
  | o :: os => match compX o, compXs os with | some x, some xs => some (x :: xs) | _, _ => none

def aggO (P : Program) (t : TypeId) : Option (Option Nat) :=
  match P.underlying t, P.info? t with
  | some (.struct _), some i => some (some i.size)
  | some (.array _ _), some i => some (some i.size)
  | some .invalid, _ => none
  | some _, some _ => some none
  | _, _ => none

def isAggD : TypeDesc → Bool
  | .struct _ | .array _ _ => true
  | _ => false

def szO (P : Program) (t : TypeId) : Option Nat := (P.info? t).map (·.size)

def scalV : Value → Option V
  | .int k n => some (.int k n)
  | .bool b => some (.bool b)
  | .string s => some (.str s)
  | .slice none 0 0 => some .nilsl
  | .pointer none => some .nilptr
  | _ => none

def scalVs : List Value → Option (List V)
  | [] => some []
  | o :: os => match scalV o, scalVs os with | some x, some xs => some (x :: xs) | _, _ => none

/-- The cells of a type's zero. -/
def zeroC (P : Program) (t : TypeId) : Option (List V) :=
  match P.info? t with
  | some i => match i.zero with
    | some (.agg cs) => scalVs cs.toList
    | some v => match scalV v with | some u => some [u] | none => none
    | none => none
  | none => none

def optX : Option Operand → Option (Option X)
  | none => some none
  | some o => match compX o with | some x => some (some x) | none => none

section
variable {ro : Bool} {W w : World} {r : Rho} {s : Fs} {a : Act} {P : Program}

/-- The slots that the state names hold what it says. -/
def RT (r : Rho) (t : Nat → Option V) (a : Act) : Prop := ∀ k v, t k = some v → V.R r v (a.tmps.getD k undef)

theorem compX_sound {o : Operand} {x : X} (h : compX o = some x) (hT : RT r s.t a) {v : V} (hv : x.ev s = some v) : V.R r v (a.eval o) := by
  unfold compX at h
  split at h <;> (try cases h) <;> simp only [X.ev] at hv
  · exact hT _ _ hv
  all_goals (cases hv; simp [V.R, Act.eval])

theorem compXs_sound (hT : RT r s.t a) : ∀ {os : List Operand} {xs : List X} (_ : compXs os = some xs) {vs : List V} (_ : evs s xs = some vs), RL r vs (os.map a.eval)
  | [], xs, h, vs, hv => by simp only [compXs] at h; cases h; simp only [evs] at hv; cases hv; simp
  | o :: os, xs, h, vs, hv => by
    simp only [compXs] at h
    split at h <;> cases h
    rename_i x xs hx hxs
    simp only [evs] at hv
    split at hv <;> cases hv
    rename_i v vs hv1 hv2
    simp [compX_sound hx hT hv1, compXs_sound hT hxs hv2]

theorem run_isAgg (w : World) {t : TypeId} {d : TypeDesc} (h : P.underlying t = some d) :
    (isAgg t).run P w = .ok (isAggD d) w := by
  unfold isAgg underlying
  simp only [Sem.run_bind, run_program, Result.andThen_ok, h]
  cases d <;> rfl

theorem run_sizeOf (w : World) {t : TypeId} {n : Nat} (h : szO P t = some n) : (sizeOf t).run P w = .ok n w := by
  unfold szO at h
  cases hq : P.info? t with
  | none => simp [hq] at h
  | some i => simp [hq] at h; simp [sizeOf, typeInfo, hq, h]

theorem run_underlying' (w : World) {t : TypeId} {d : TypeDesc} (h : P.underlying t = some d) : (underlying t).run P w = .ok d w := by
  simp [underlying, h]

/-- Cells read in a row. -/
theorem run_loadCellsFrom (w : World) (b off : Nat) (l : List Value) : ∀ (i : Nat) (acc : Array Value),
    (∀ j v, l[j]? = some v → w.cell? ⟨b, off + (i + j), none⟩ = some v) → (loadCellsFrom ⟨b, off, none⟩ i l.length acc).run P w = .ok (acc ++ l.toArray) w := by
  induction l with
  | nil => intro i acc _; simp [loadCellsFrom]
  | cons v l ih =>
    intro i acc h
    have h0 := h 0 v rfl
    have hadd : (⟨b, off, none⟩ : Addr).add i = ⟨b, off + (i + 0), none⟩ := by
      unfold Addr.add; split <;> simp_all
    simp only [List.length_cons, loadCellsFrom, Sem.run_bind, run_load, hadd, h0, Result.andThen_ok]
    rw [ih (i + 1) (acc.push v) (fun j u hj => by
      have := h (j + 1) u hj
      rw [show i + 1 + j = i + (j + 1) by omega]
      exact this)]
    simp

theorem run_loadCells' (w : World) (b off : Nat) (l : List Value) (n : Nat) (hn : l.length = n) (h : ∀ j v, l[j]? = some v → w.cell? ⟨b, off + j, none⟩ = some v) :
    (loadCells ⟨b, off, none⟩ n).run P w = .ok l.toArray w := by
  subst hn
  have := run_loadCellsFrom (P := P) w b off l 0 #[] (fun j v hj => by simpa using h j v hj)
  simpa [loadCells] using this

theorem aggO_some {t : TypeId} {g : Option Nat} (h : aggO P t = some g) :
    (∃ n d, g = some n ∧ P.underlying t = some d ∧ szO P t = some n ∧ isAggD d = true) ∨
    (∃ d, g = none ∧ P.underlying t = some d ∧ isAggD d = false) := by
  unfold aggO at h
  split at h
  · rename_i hu hi; cases h; exact .inl ⟨_, _, rfl, hu, by simp [szO, hi], rfl⟩
  · rename_i hu hi; cases h; exact .inl ⟨_, _, rfl, hu, by simp [szO, hi], rfl⟩
  · cases h
  · rename_i d i h1 h2 h3 hu hi
    cases h
    refine .inr ⟨_, rfl, hu, ?_⟩
    cases d <;> simp_all [isAggD]
  · cases h

/-- A block's cells, as the world holds them. -/
theorem rd_sound (hC : Cn ro W r s.m w) {n : Nm} {cs : List V} (hb : s.m n = some cs) {b : Nat} (hr : r.get n = some b) {t : TypeId} {g : Option Nat} (hg : aggO P t = some g)
    {off : Nat} {v : V} (hv : rd (isE n) cs off g = some v) : ∃ x, (loadVar t ⟨b, off, none⟩).run P w = .ok x w ∧ V.R r v x := by
  obtain ⟨b', xs, ts, ty, fr, h1, h2, h3⟩ := hC.blk_at hb
  rw [hr] at h1; cases h1
  rcases aggO_some hg with ⟨m, d, rfl, hu, hs, hd⟩ | ⟨d, rfl, hu, hd⟩
  · simp only [rd] at hv
    split at hv
    · rename_i hlen
      cases hv
      have hl := h3.length
      refine ⟨.agg (((xs.drop off).take m).toArray), ?_, ?_⟩
      · have hlc := run_loadCells' (P := P) w b off ((xs.drop off).take m) m (by simp; omega) (fun j u hj => by
          have hjm : j < m := by
            rcases Nat.lt_or_ge j m with h | h
            · exact h
            · rw [List.getElem?_eq_none (by simp; omega)] at hj; cases hj
          rw [List.getElem?_take_of_lt hjm, List.getElem?_drop] at hj
          simp only [World.cell?, h2, List.getElem?_toArray, getElem?_pre hj]; rfl)
        simp only [loadVar, Sem.run_bind, run_isAgg w hu, hd, Result.andThen_ok, if_true, run_sizeOf w hs, hlc]
        rfl
      · rw [V.R_agg]
        refine ⟨_, rfl, (h3.drop off).take m, ?_⟩
        intro y hy
        have hyx : y ∈ xs := List.mem_of_mem_drop (List.mem_of_mem_take hy)
        cases n with
        | e k =>
          rcases hlen.2 rfl with h1 | h1
          · exact RL.ones h1 h3 y hyx
          · exact RL.ones h1 ((h3.drop off).take m) y hy
        | l k =>
          obtain ⟨b', ys, zs, ty', g1, ⟨fr', g2, _⟩, g3, g4⟩ := hC.lb k cs hb
          rw [show r.l k = some b from hr] at g1; cases g1
          rw [h2] at g2
          simp only [Option.some.injEq, Obj.cells.injEq] at g2
          have hcat : xs ++ ts = ys ++ zs := by have := congrArg Array.toList g2.1; simpa using this
          have : xs = ys := (List.append_inj hcat (by rw [hl, g3.length])).1
          subst this
          exact g4 y hyx
    · cases hv
  · simp only [rd] at hv
    obtain ⟨x, hx, hR⟩ := hC.cell hb hr hv
    refine ⟨x, ?_, hR⟩
    simp only [loadVar, Sem.run_bind, run_isAgg w hu, hd, Result.andThen_ok, Bool.false_eq_true, if_false, run_load, hx]

theorem rd_part (w : World) {cs : List V} {xs : List Value} (h : RL r cs xs) (hone : ∀ y ∈ xs, Value.oneCell' y = true) {t : TypeId} {g : Option Nat} (hg : aggO P t = some g)
    {off : Nat} {v : V} (hv : rd false cs off g = some v) : ∃ x, (part t (List.toArray xs) off).run P w = .ok x w ∧ V.R r v x := by
  rcases aggO_some hg with ⟨m, d, rfl, hu, hs, hd⟩ | ⟨d, rfl, hu, hd⟩
  · simp only [rd] at hv
    split at hv
    · cases hv
      refine ⟨.agg (((xs.drop off).take m).toArray), ?_, ?_⟩
      · simp only [part, Sem.run_bind, run_isAgg w hu, hd, Result.andThen_ok, if_true, run_sizeOf w hs]
        simp [List.extract_eq_take_drop]
      · rw [V.R_agg]
        exact ⟨_, rfl, (h.drop off).take m, fun y hy => hone y (List.mem_of_mem_drop (List.mem_of_mem_take hy))⟩
    · cases hv
  · simp only [rd] at hv
    obtain ⟨x, hx, hR⟩ := h.get hv
    refine ⟨x, ?_, hR⟩
    simp only [part, Sem.run_bind, run_isAgg w hu, hd, Result.andThen_ok, Bool.false_eq_true, if_false]
    simp [hx]
end
end Go.Ab
