/- A part of the proof library: names for blocks of memory, a small form of the code, and rules for walks over it. -/
import Derived.Test.YtpajbcifaicpoaaDoorAb7
set_option linter.all false
namespace Go.Ab

/-- The cells of n elements with the zero z. -/
def zrow (z : List V) (n : Nat) : List V := (List.range (n * z.length)).map fun i => z.getD (i % z.length) (.bool false)

def okW (ro : Bool) : Nm → Bool
  | .e _ => !ro
  | .l _ => true

/-- One operation, but for calls and append. -/
def MOp.ex (ro : Bool) (s : St) (d : Option Nat) : MOp → Option St
  | .new z => some (St.put { s with m := s.m ++ [z] } d (.ptr (.l s.m.length) 0))
  | .box x => match x.ev s.f with
    | some v => if v.part = true then some (St.put { s with m := s.m ++ [v.cells] } d (.ptr (.l s.m.length) 0)) else none
    | none => none
  | .bldS z len ps => match fillV s.f (zrow z len) ps with
    | some cs => some (St.put { s with m := s.m ++ [cs] } d (.sl (.l s.m.length) 0 len len))
    | none => none
  | .mks z bytes l c => match l.ev s.f, c.ev s.f with
    | some (.int _ l), some (.int _ c) => if 0 ≤ l ∧ l ≤ c ∧ c ≤ 9223372036854775807 ∧ (bytes : Int) * c ≤ 2 ^ 48 then
        some (St.put { s with m := s.m ++ [zrow z c.toNat] } d (.sl (.l s.m.length) 0 l.toNat c.toNat)) else none
    | _, _ => none
  | .store n x y => match x.ev s.f, y.ev s.f with
    | some (.ptr nm off), some v => match s.blk nm with
      | some cs => if v.cells.length = n ∧ off + n ≤ cs.length ∧ v.part = true ∧ okW ro nm = true then some (St.drop (s.setBlk nm (putl cs off v.cells)) d) else none
      | none => none
    | _, _ => none
  | .call .. | .callv .. | .app .. | .cpy .. => none
  | o => match o.q s.f with | some v => some (s.put d v) | none => none

/-- What one operation of a region needs and does. -/
structure Sm where
  us : List (Nat × Option V)
  rs : List (Nm × Option (List V))
  nw : List Nat
  ch : List (Nm × List V)
  d : Option Nat
  val : Option V

def chL : List (Nm × List V) → Nm → Option (List V)
  | [], _ => none
  | (n, c) :: t, k => if n = k then some c else chL t k

structure Sm.pre (A : Sm) (σ : Fs) : Prop where
  us : ∀ p ∈ A.us, σ.t p.1 = p.2
  rs : ∀ p ∈ A.rs, σ.m p.1 = p.2
  nw : ∀ k ∈ A.nw, σ.m (.l k) = none

def Sm.app (A : Sm) (σ : Fs) : Fs :=
  ⟨fun k => if A.d = some k then A.val else σ.t k, fun n => match chL A.ch n with | some c => some c | none => σ.m n⟩

/-- The world, the slots and the naming fit the state. -/
structure RelF (ro : Bool) (W : World) (N : Nat) (r : Rho) (σ : Fs) (a : Act) (w : World) : Prop where
  t : RT r σ.t a
  c : Cn ro W r σ.m w
  n : N ≤ a.tmps.size
  d : a.defers = []

/-- The operation does what its summary says, wherever what it needs is there. -/
def Does (P : Program) (ro : Bool) (N : Nat) (o : Oper) (A : Sm) : Prop :=
  ∀ (W : World) (r : Rho) (σ : Fs) (a : Act) (w : World) (K : Act → World → Prop) (Q : Exit → Act → World → Prop), RelF ro W N r σ a w → A.pre σ →
    (∀ r' a' w', r.Sub r' → r'.e = r.e → RelF ro W N r' (A.app σ) a' w' → K a' w') → o.wp P a w K Q

def MOp.touch (s : St) : MOp → List Nm
  | .new _ | .box _ | .bldS .. | .mks .. => [.l s.m.length]
  | .store _ x _ => V.nmOf (x.ev s.f)
  | _ => []

def MOp.news (s : St) : MOp → List Nat
  | .new _ | .box _ | .bldS .. | .mks .. => [s.m.length]
  | _ => []

def MOp.looks (s : St) : MOp → List Nm
  | .store _ x _ => V.nmOf (x.ev s.f)
  | o => o.reads s.f

def Sm.of (o : MOp) (d : Option Nat) (s s' : St) : Sm :=
  { us := o.slots.map fun k => (k, lk s.t k), rs := (o.looks s).map fun n => (n, s.blk n), nw := o.news s, ch := (o.touch s).map fun n => (n, (s'.blk n).getD []), d := d, val := match d with | some k => lk s'.t k | none => none }

section
variable {ro : Bool} {W w : World} {r : Rho} {s s' : St} {σ : Fs} {a : Act} {P : Program} {N : Nat}

theorem RT.put (h : RT r σ.t a) {d : Option Nat} (hd : ∀ k, d = some k → k < a.tmps.size) {v : Option V} {x : Value} (hR : ∀ u, v = some u → V.R r u x) :
    RT r (fun k => if d = some k then v else σ.t k) (a.put d x) := by
  intro k u hk
  cases d with
  | none => simp at hk; exact h k u hk
  | some j =>
    simp only [Act.put, Option.some.injEq] at *
    by_cases hjk : j = k
    · subst hjk
      simp at hk
      have := hd j rfl
      simp only [Array.getD_eq_getD_getElem?]
      rw [Array.getElem?_setIfInBounds_self_of_lt this]
      exact hR u hk
    · rw [if_neg hjk] at hk
      have := h k u hk
      simp only [Array.getD_eq_getD_getElem?] at *
      rw [Array.getElem?_setIfInBounds_ne hjk]
      exact this

theorem RT.mono {r' : Rho} {t : Nat → Option V} (h : RT r t a) (hs : r.Sub r') : RT r' t a := fun k v hk => V.R.mono hs _ _ (h k v hk)

theorem Act.put_size (a : Act) (d : Option Nat) (x : Value) : (a.put d x).tmps.size = a.tmps.size := by cases d <;> simp [Act.put]
theorem Act.put_def (a : Act) (d : Option Nat) (x : Value) : (a.put d x).defers = a.defers := by cases d <;> rfl

theorem app_q (A : Sm) (hch : A.ch = []) (σ : Fs) : (A.app σ).m = σ.m := by
  funext n; simp [Sm.app, hch, chL]

/-- The cells of a value, as the model has them. -/
theorem part_cells {v : V} {x : Value} (hp : v.part = true) (hR : V.R r v x) : ∃ us, x.cells = List.toArray us ∧ RL r v.cells us ∧ ∀ y ∈ us, Value.oneCell' y = true := by
  cases v with
  | agg vs =>
    rw [V.R_agg] at hR
    obtain ⟨us, he, h1, h2⟩ := hR
    exact ⟨us, by rw [he]; rfl, h1, h2⟩
  | tup vs => simp [V.part, V.one] at hp
  | _ =>
    have hone' := V.one_R (by simpa [V.part] using hp) hR
    refine ⟨[x], ?_, by simpa [V.cells] using hR, by simpa using hone'⟩
    cases x <;> first | rfl | (simp [Value.oneCell'] at hone')

def wsets (w : World) (b off : Nat) : List Value → World
  | [] => w
  | u :: us => wsets (w.setCell ⟨b, off, none⟩ u) b (off + 1) us

theorem putl_length : ∀ (vs cs : List V) (off : Nat), (putl cs off vs).length = cs.length
  | [], _, _ => rfl
  | v :: vs, cs, off => by rw [putl, putl_length vs]; simp

theorem Mem.set_set (m : Mem) (n : Nm) (c d : List V) : (m.set n c).set n d = m.set n d := by
  funext n'; simp only [Mem.set]; split <;> rfl
theorem Mem.set_self (m : Mem) (n : Nm) (c : List V) : m.set n c n = some c := by simp [Mem.set]

theorem store_cells {n : Nm} {b : Nat} (hro : okW ro n = true) (hr : r.get n = some b) : ∀ (us : List Value) (vs cs : List V) (off : Nat) (w : World) (m : Mem) (i j : Nat), Cn ro W r m w → m n = some cs → RL r vs us → (∀ y ∈ us, Value.oneCell' y = true) →
    off + vs.length ≤ cs.length → off = j + i → (storeCells ⟨b, j, none⟩ us i).run P w = .ok () (wsets w b off us) ∧ Cn ro W r (m.set n (putl cs off vs)) (wsets w b off us)
  | [], vs, cs, off, w, m, i, j, hC, hm, hR, _, _, _ => by
    cases vs with
    | nil =>
      refine ⟨rfl, ?_⟩
      have : m.set n (putl cs off []) = m := by funext n'; simp only [Mem.set, putl]; split <;> simp_all
      rw [this]
      exact hC
    | cons v vs => simp [RL] at hR
  | u :: us, vs, cs, off, w, m, i, j, hC, hm, hR, hone, hle, hoff => by
    cases vs with
    | nil => simp at hR
    | cons v vs =>
      simp only [RL_cons_cons] at hR
      simp only [List.length_cons] at hle
      have hk : off < cs.length := by omega
      have hro' : ro = true → ∃ k, n = .l k := fun h => by
        cases n with
        | e k => simp [okW, h] at hro
        | l k => exact ⟨k, rfl⟩
      obtain ⟨x, hx, _⟩ := hC.cell hm hr (List.getElem?_eq_getElem hk)
      have hC' := hC.setCell hm hro' hr hk hR.1 (hone u (by simp))
      have ih := store_cells hro hr us vs (cs.set off v) (off + 1) (w.setCell ⟨b, off, none⟩ u) (m.set n (cs.set off v)) (i + 1) j hC' (Mem.set_self _ _ _) hR.2 (fun y hy => hone y (by simp [hy])) (by simp; omega) (by omega)
      refine ⟨?_, ?_⟩
      · simp only [storeCells, Sem.run_bind, addr_add]
        rw [show j + i = off from hoff.symm, run_store _ _ _ _ _ (hone u (by simp)), hx]
        simp only [hC.unfrozen hm hro' hr off hk, Bool.false_eq_true, if_false, Result.andThen_ok]
        exact ih.1
      · have := ih.2
        rw [Mem.set_set] at this
        exact this

theorem zrow_sound {z : List V} {zs : List Value} (h : RL r z zs) (hone : ∀ y ∈ zs, Value.oneCell' y = true) (n : Nat) : RL r (zrow z n) ((List.range (n * zs.length)).map fun i => zs.toArray[i % zs.length]!) ∧ ∀ y ∈ ((List.range (n * zs.length)).map fun i => zs.toArray[i % zs.length]!), Value.oneCell' y = true := by
  have hl := h.length
  have key : ∀ i, i < n * zs.length → ∃ (v : V) (x : Value), z[i % z.length]? = some v ∧ zs[i % zs.length]? = some x ∧ V.R r v x := fun i hi => by
    have hz : 0 < zs.length := by
      rcases Nat.eq_zero_or_pos zs.length with h0 | h0
      · rw [h0] at hi; omega
      · exact h0
    have hlt : i % zs.length < zs.length := Nat.mod_lt _ hz
    rw [← hl]
    obtain ⟨x, hx, hR⟩ := h.get (List.getElem?_eq_getElem (show i % zs.length < z.length by omega))
    exact ⟨_, x, List.getElem?_eq_getElem (by omega), hx, hR⟩
  have gen : ∀ (l : List Nat), (∀ i ∈ l, i < n * zs.length) → RL r (l.map fun i => z.getD (i % z.length) (.bool false)) (l.map fun i => zs.toArray[i % zs.length]!) ∧ ∀ y ∈ (l.map fun i => zs.toArray[i % zs.length]!), Value.oneCell' y = true := by
    intro l
    induction l with
    | nil => intro _; simp
    | cons i l ih =>
      intro hl'
      obtain ⟨v, x, h1, h2, h3⟩ := key i (hl' i (by simp))
      obtain ⟨g1, g2⟩ := ih (fun j hj => hl' j (by simp [hj]))
      have e1 : z.getD (i % z.length) (.bool false) = v := by rw [List.getD_eq_getElem?_getD, h1]; rfl
      have e2 : zs.toArray[i % zs.length]! = x := by
        rw [getElem!_def, List.getElem?_toArray, h2]
      refine ⟨?_, ?_⟩
      · simp only [List.map_cons, RL_cons_cons, e1, e2]
        exact ⟨h3, g1⟩
      · intro y hy
        simp only [List.map_cons, List.mem_cons, e2] at hy
        rcases hy with e | hy
        · subst e; exact hone _ (List.mem_of_getElem? h2)
        · exact g2 y hy
  have := gen (List.range (n * zs.length)) (fun i hi => by simpa using hi)
  refine ⟨?_, this.2⟩
  unfold zrow
  rw [← hl]
  have h1 := this.1
  rw [← hl] at h1
  exact h1
end
end Go.Ab
