/- A part of the proof library: names for blocks of memory, a small form of the code, and rules for walks over it. -/
import Derived.Calls
import Derived.Tactics
import Derived.Laws.Sem
import Derived.Deep.Quiet
set_option linter.all false
namespace Go.Ab

/-- The name of a block of memory: one that came in (e), one of the call's own (l). -/
inductive Nm where
  | e (k : Nat) | l (k : Nat)
  deriving DecidableEq, Repr

inductive V where
  | int (k : IntKind) (n : Int)
  | bool (b : Bool)
  | str (s : ByteArray)
  | ptr (n : Nm) (off : Nat)
  | nilptr
  | sl (n : Nm) (off len cap : Nat)
  | nilsl
  | slx (n : Nm) (off len : Nat)
  | fn (f : FuncId) (first cap : List V)
  | agg (cs : List V)
  | tup (vs : List V)
  | raw (v : Value)

structure Rho where
  e : List Nat
  l : Nat → Option Nat

def Rho.get (r : Rho) : Nm → Option Nat
  | .e k => r.e[k]?
  | .l k => r.l k

mutual
def V.R (r : Rho) : V → Value → Prop
  | .int k n, x => x = .int k n
  | .bool b, x => x = .bool b
  | .str s, x => x = .string s
  | .ptr n off, x => ∃ b, r.get n = some b ∧ x = .pointer (some ⟨b, off, none⟩)
  | .nilptr, x => x = .pointer none
  | .sl n off len cap, x => ∃ b, r.get n = some b ∧ x = .slice (some ⟨b, off, none⟩) len cap
  | .nilsl, x => x = .slice none 0 0
  | .slx n off len, x => ∃ b cap, r.get n = some b ∧ x = .slice (some ⟨b, off, none⟩) len cap ∧ len ≤ cap
  | .fn f first cap, x => ∃ xs ys, x = .func (.func f) (List.toArray xs) (List.toArray ys) ∧ RL r first xs ∧ RL r cap ys
  | .agg cs, x => ∃ xs, x = .agg (List.toArray xs) ∧ RL r cs xs ∧ ∀ y ∈ xs, Value.oneCell' y = true
  | .tup cs, x => ∃ xs, x = .tuple (List.toArray xs) ∧ RL r cs xs
  | .raw v, x => x = v
def RL (r : Rho) : List V → List Value → Prop
  | [], xs => xs = []
  | v :: vs, xs => ∃ x ys, xs = x :: ys ∧ V.R r v x ∧ RL r vs ys
end

/-- A map of names that keeps what is named: every name of the first naming means the same in the second. -/
def Rho.Sub (r r' : Rho) : Prop := ∀ n b, r.get n = some b → r'.get n = some b
theorem Rho.Sub.refl (r : Rho) : r.Sub r := fun _ _ h => h
theorem Rho.Sub.trans {a b c : Rho} (h : a.Sub b) (k : b.Sub c) : a.Sub c := fun n x hx => k n x (h n x hx)

mutual
theorem V.R.mono {r r' : Rho} (h : r.Sub r') : ∀ (v : V) (x : Value), V.R r v x → V.R r' v x
  | .int .., _, hx => by simpa only [V.R] using hx
  | .bool _, _, hx => by simpa only [V.R] using hx
  | .str _, _, hx => by simpa only [V.R] using hx
  | .ptr .., _, hx => by simp only [V.R] at *; obtain ⟨b, hb, e⟩ := hx; exact ⟨b, h _ _ hb, e⟩
  | .nilptr, _, hx => by simpa only [V.R] using hx
  | .sl .., _, hx => by simp only [V.R] at *; obtain ⟨b, hb, e⟩ := hx; exact ⟨b, h _ _ hb, e⟩
  | .nilsl, _, hx => by simpa only [V.R] using hx
  | .slx .., _, hx => by simp only [V.R] at *; obtain ⟨b, cap, hb, e⟩ := hx; exact ⟨b, cap, h _ _ hb, e⟩
  | .fn _ a b, _, hx => by simp only [V.R] at *; obtain ⟨xs, ys, e, h1, h2⟩ := hx; exact ⟨xs, ys, e, RL.mono h a xs h1, RL.mono h b ys h2⟩
  | .agg a, _, hx => by simp only [V.R] at *; obtain ⟨xs, e, h1, h2⟩ := hx; exact ⟨xs, e, RL.mono h a xs h1, h2⟩
  | .tup a, _, hx => by simp only [V.R] at *; obtain ⟨xs, e, h1⟩ := hx; exact ⟨xs, e, RL.mono h a xs h1⟩
  | .raw _, _, hx => by simpa only [V.R] using hx
theorem RL.mono {r r' : Rho} (h : r.Sub r') : ∀ (vs : List V) (xs : List Value), RL r vs xs → RL r' vs xs
  | [], _, hx => by simpa only [RL] using hx
  | v :: vs, _, hx => by simp only [RL] at *; obtain ⟨x, ys, e, h1, h2⟩ := hx; exact ⟨x, ys, e, V.R.mono h v x h1, RL.mono h vs ys h2⟩
end

@[simp] theorem RL_nil {r : Rho} {xs : List Value} : RL r [] xs ↔ xs = [] := by simp [RL]
theorem RL_cons {r : Rho} {v : V} {vs : List V} {xs : List Value} : RL r (v :: vs) xs ↔ ∃ x ys, xs = x :: ys ∧ V.R r v x ∧ RL r vs ys := by simp [RL]
@[simp] theorem RL_cons_cons {r : Rho} {v : V} {vs : List V} {x : Value} {xs : List Value} : RL r (v :: vs) (x :: xs) ↔ V.R r v x ∧ RL r vs xs := by
  rw [RL_cons]; constructor
  · rintro ⟨x', ys, e, h1, h2⟩; cases e; exact ⟨h1, h2⟩
  · rintro ⟨h1, h2⟩; exact ⟨x, xs, rfl, h1, h2⟩

theorem RL.length {r : Rho} : ∀ {vs : List V} {xs : List Value}, RL r vs xs → xs.length = vs.length
  | [], _, h => by simp only [RL] at h; simp [h]
  | v :: vs, _, h => by
    rw [RL_cons] at h; obtain ⟨x, ys, rfl, _, h2⟩ := h
    simp [RL.length h2]

theorem RL.get {r : Rho} : ∀ {vs : List V} {xs : List Value}, RL r vs xs → ∀ {k : Nat} {v : V}, vs[k]? = some v → ∃ x, xs[k]? = some x ∧ V.R r v x
  | [], _, _, k, v, hk => by simp at hk
  | u :: vs, _, h, k, v, hk => by
    rw [RL_cons] at h; obtain ⟨x, ys, rfl, h1, h2⟩ := h
    cases k with
    | zero => simp at hk; subst hk; exact ⟨x, rfl, h1⟩
    | succ k => simp at hk; simpa using RL.get h2 hk

theorem RL.set {r : Rho} : ∀ {vs : List V} {xs : List Value}, RL r vs xs → ∀ (k : Nat) {v : V} {x : Value}, V.R r v x → RL r (vs.set k v) (xs.set k x)
  | [], _, h, k, v, x, _ => by simp only [RL] at h; subst h; simp
  | u :: vs, _, h, k, v, x, hx => by
    rw [RL_cons] at h; obtain ⟨y, ys, rfl, h1, h2⟩ := h
    cases k with
    | zero => simp [hx, h2]
    | succ k => simp [h1, RL.set h2 k hx]

theorem RL.append {r : Rho} : ∀ {vs : List V} {xs : List Value} {us : List V} {ys : List Value}, RL r vs xs → RL r us ys → RL r (vs ++ us) (xs ++ ys)
  | [], _, _, _, h, k => by simp only [RL] at h; subst h; simpa using k
  | u :: vs, _, _, _, h, k => by
    rw [RL_cons] at h; obtain ⟨y, ys, rfl, h1, h2⟩ := h
    simp [h1, RL.append h2 k]

theorem RL.take {r : Rho} : ∀ {vs : List V} {xs : List Value}, RL r vs xs → ∀ n, RL r (vs.take n) (xs.take n)
  | [], _, h, n => by simp only [RL] at h; subst h; simp
  | u :: vs, _, h, n => by
    rw [RL_cons] at h; obtain ⟨y, ys, rfl, h1, h2⟩ := h
    cases n with
    | zero => simp
    | succ n => simp [h1, RL.take h2 n]

theorem RL.drop {r : Rho} : ∀ {vs : List V} {xs : List Value}, RL r vs xs → ∀ n, RL r (vs.drop n) (xs.drop n)
  | [], _, h, n => by simp only [RL] at h; subst h; simp
  | u :: vs, _, h, n => by
    have h' := h
    rw [RL_cons] at h; obtain ⟨y, ys, rfl, h1, h2⟩ := h
    cases n with
    | zero => simpa using h'
    | succ n => simp [RL.drop h2 n]

theorem RL.map {r : Rho} {α : Type} {f : α → V} {g : α → Value} (h : ∀ a, V.R r (f a) (g a)) : ∀ (l : List α), RL r (l.map f) (l.map g)
  | [] => by simp
  | a :: l => by simp [h a, RL.map h l]

theorem RL.map_iff {r : Rho} {α : Type} {f : α → V} {g : α → Value} (h : ∀ a x, V.R r (f a) x ↔ x = g a) : ∀ {l : List α} {xs : List Value}, RL r (l.map f) xs ↔ xs = l.map g
  | [], xs => by simp
  | a :: l, xs => by
    rw [List.map_cons, RL_cons, List.map_cons]
    constructor
    · rintro ⟨x, ys, rfl, h1, h2⟩
      rw [(h a x).1 h1, (RL.map_iff h).1 h2]
    · rintro rfl
      exact ⟨_, _, rfl, (h a _).2 rfl, (RL.map_iff h).2 rfl⟩

/-- A value that reads as v reads as nothing else. -/
theorem V.R_int {r : Rho} {k : IntKind} {n : Int} {x : Value} : V.R r (.int k n) x ↔ x = .int k n := by simp [V.R]
theorem V.R_bool {r : Rho} {b : Bool} {x : Value} : V.R r (.bool b) x ↔ x = .bool b := by simp [V.R]
theorem V.R_str {r : Rho} {s : ByteArray} {x : Value} : V.R r (.str s) x ↔ x = .string s := by simp [V.R]
theorem V.R_raw {r : Rho} {s : Value} {x : Value} : V.R r (.raw s) x ↔ x = s := by simp [V.R]
theorem V.R_agg {r : Rho} {cs : List V} {x : Value} : V.R r (.agg cs) x ↔ ∃ xs, x = .agg (List.toArray xs) ∧ RL r cs xs ∧ ∀ y ∈ xs, Value.oneCell' y = true := by simp [V.R]
theorem V.R_tup {r : Rho} {cs : List V} {x : Value} : V.R r (.tup cs) x ↔ ∃ xs, x = .tuple (List.toArray xs) ∧ RL r cs xs := by simp [V.R]
theorem V.R_ptr {r : Rho} {n : Nm} {off : Nat} {x : Value} : V.R r (.ptr n off) x ↔ ∃ b, r.get n = some b ∧ x = .pointer (some ⟨b, off, none⟩) := by simp [V.R]
theorem V.R_sl {r : Rho} {n : Nm} {off len cap : Nat} {x : Value} : V.R r (.sl n off len cap) x ↔ ∃ b, r.get n = some b ∧ x = .slice (some ⟨b, off, none⟩) len cap := by simp [V.R]
theorem V.R_slx {r : Rho} {n : Nm} {off len : Nat} {x : Value} : V.R r (.slx n off len) x ↔ ∃ b cap, r.get n = some b ∧ x = .slice (some ⟨b, off, none⟩) len cap ∧ len ≤ cap := by simp [V.R]
theorem V.R_nilsl {r : Rho} {x : Value} : V.R r .nilsl x ↔ x = .slice none 0 0 := by simp [V.R]
theorem V.R_nilptr {r : Rho} {x : Value} : V.R r .nilptr x ↔ x = .pointer none := by simp [V.R]
theorem V.R_fn {r : Rho} {f : FuncId} {a b : List V} {x : Value} : V.R r (.fn f a b) x ↔ ∃ xs ys, x = .func (.func f) (List.toArray xs) (List.toArray ys) ∧ RL r a xs ∧ RL r b ys := by simp [V.R]

/-- A value of one cell. -/
def V.one : V → Bool
  | .agg _ | .tup _ => false
  | .raw v => v.oneCell'
  | _ => true

theorem V.one_R {r : Rho} {v : V} {x : Value} (h : v.one = true) (hR : V.R r v x) : x.oneCell' = true := by
  cases v <;> simp only [V.R] at hR <;> first
    | (subst hR; rfl)
    | (obtain ⟨b, _, e⟩ := hR; subst e; rfl)
    | (obtain ⟨_, _, e, _⟩ := hR; subst e; rfl)
    | (obtain ⟨_, _, _, e, _⟩ := hR; subst e; rfl)
    | (subst hR; exact h)
    | cases h

theorem RL.ones {r : Rho} : ∀ {vs : List V} {xs : List Value}, (∀ v ∈ vs, V.one v = true) → RL r vs xs → ∀ y ∈ xs, Value.oneCell' y = true
  | [], _, _, h => by simp only [RL] at h; subst h; simp
  | v :: vs, _, ha, h => by
    rw [RL_cons] at h; obtain ⟨x, ys, rfl, h1, h2⟩ := h
    intro y hy
    rcases List.mem_cons.1 hy with e | hy
    · subst e; exact V.one_R (ha v (by simp)) h1
    · exact RL.ones (fun u hu => ha u (by simp [hu])) h2 y hy

/-! ### The slots -/

def lk : List (Nat × V) → Nat → Option V
  | [], _ => none
  | (j, v) :: t, k => if j = k then some v else lk t k

def sv : List (Nat × V) → Nat → V → List (Nat × V)
  | [], k, v => [(k, v)]
  | (j, u) :: t, k, v => if k < j then (k, v) :: (j, u) :: t else if j = k then (k, v) :: t else (j, u) :: sv t k v

/-- The slots without those of the list. -/
def kl : List (Nat × V) → List Nat → List (Nat × V)
  | [], _ => []
  | (j, u) :: t, ks => if ks.contains j then kl t ks else (j, u) :: kl t ks

theorem lk_sv (t : List (Nat × V)) (k : Nat) (v : V) (j : Nat) : lk (sv t k v) j = if k = j then some v else lk t j := by
  induction t with
  | nil => simp [sv, lk]
  | cons p t ih =>
    obtain ⟨i, u⟩ := p
    simp only [sv]
    by_cases h1 : k < i
    · simp [h1, lk]
    · by_cases h2 : i = k
      · subst h2
        simp only [Nat.lt_irrefl, if_false, if_true, lk]
        split <;> rfl
      · simp only [h1, h2, if_false, lk, ih]
        by_cases h3 : i = j
        · subst h3
          have : ¬ k = i := fun e => h2 e.symm
          simp [this]
        · simp [h3]

theorem lk_kl (t : List (Nat × V)) (ks : List Nat) (j : Nat) (v : V) (h : lk (kl t ks) j = some v) : lk t j = some v := by
  induction t with
  | nil => simp [kl, lk] at h
  | cons p t ih =>
    obtain ⟨i, u⟩ := p
    simp only [kl] at h
    simp only [lk]
    split at h
    · rename_i hc
      by_cases e : i = j
      · subst e
        exfalso
        have : ∀ t : List (Nat × V), lk (kl t ks) i ≠ some v := by
          intro t
          induction t with
          | nil => simp [kl, lk]
          | cons q t ih2 =>
            obtain ⟨i', u'⟩ := q
            simp only [kl]
            split
            · exact ih2
            · rename_i hnc
              simp only [lk]
              split
              · rename_i e2; subst e2; exact absurd hc hnc
              · exact ih2
        exact this t h
      · simp [e, ih h]
    · simp only [lk] at h
      by_cases e : i = j
      · simp [e] at h ⊢; exact h
      · simp [e] at h ⊢; exact ih h

/-- The slots of the list alone. -/
def kp : List (Nat × V) → List Nat → List (Nat × V)
  | [], _ => []
  | (j, u) :: t, ks => if ks.contains j then (j, u) :: kp t ks else kp t ks

theorem lk_kp (t : List (Nat × V)) (ks : List Nat) (j : Nat) (v : V) (h : lk (kp t ks) j = some v) : lk t j = some v := by
  induction t with
  | nil => simp [kp, lk] at h
  | cons p t ih =>
    obtain ⟨i, u⟩ := p
    simp only [kp] at h
    split at h
    · simp only [lk] at *
      by_cases e : i = j
      · simp [e] at h ⊢; exact h
      · simp [e] at h ⊢; exact ih h
    · rename_i hc
      simp only [lk]
      by_cases e : i = j
      · subst e
        exfalso
        have : ∀ t : List (Nat × V), lk (kp t ks) i ≠ some v := by
          intro t
          induction t with
          | nil => simp [kp, lk]
          | cons q t ih2 =>
            obtain ⟨i', u'⟩ := q
            simp only [kp]
            split
            · rename_i hc2
              simp only [lk]
              split
              · rename_i e2; subst e2; exact absurd hc2 hc
              · exact ih2
            · exact ih2
        exact this t h
      · simp [e, ih h]

end Go.Ab
