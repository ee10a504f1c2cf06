/- A part of the proof library: names for blocks of memory, a small form of the code, and rules for walks over it. -/
import Derived.Test.YtpajbcifaicpoaaDoorAb28
set_option linter.all false
namespace Go.Ab

/-- One operation of a region that goes in order. -/
def MOp.wp (P : Program) (ro : Bool) (s : St) (d : Option Nat) (K : St → Prop) : MOp → Prop
  | .call f xs => match evs s.f xs with
    | some vs => callWp P ro f vs s fun v s' => K (s'.put d v)
    | none => False
  | .callv x xs => match x.ev s.f, evs s.f xs with
    | some (.fn f fs cs), some vs => hasBody P f = true ∧ callWp P ro f (fs ++ vs ++ cs) s fun v s' => K (s'.put d v)
    | _, _ => False
  | .app z bytes isStr x y => match x.ev s.f, y.ev s.f with
    | some xv, some yv => appWp ro z bytes isStr xv yv s fun v s' => WkK K (s'.put d v)
    | _, _ => False
  | o => match o.ex ro s d with
    | some s' => K s'
    | none => False

def wpO (P : Program) (ro : Bool) (K : St → Prop) : List MO → St → Prop
  | [], s => K s
  | o :: rest, s => match o.g with
    | none => o.o.wp P ro s o.d (wpO P ro K rest)
    | some (k, want) => match lk s.t k with
      | some (.bool b) => if b = want then o.o.wp P ro s o.d (wpO P ro K rest) else wpO P ro K rest (s.put o.d (.tup []))
      | some (.tup _) => wpO P ro K rest (s.put o.d (.tup []))
      | _ => False

/-- A call in a region that draws its order: one outcome. -/
def callD (P : Program) (ro : Bool) (f : FuncId) (vs : List V) (s : St) (K : List Nm → V → St → List (List V) → List (List V) → Prop) : Prop :=
  ∃ (sig : List Nm) (args : List V) (E : List (List V)) (ro' : Bool) (v : V) (E' L' : List (List V)),
    SigOk s.blk sig s.m.length E ∧ vs = renL (nmap sig s.m.length) args ∧ eoL sig.length args ∧
      ((roFits ro ro' sig = true ∧ Ct P ro' f args E (fun v1 E1 L1 => v1 = v ∧ E1 = E' ∧ L1 = L') ∧ E'.length = E.length) ∨ (E' = [] ∧ Ct P true f args E (fun v1 _ L1 => v1 = v ∧ L1 = L'))) ∧ K sig (v.ren (nmap sig s.m.length)) (s.after sig (nmap sig s.m.length) E' L') E' L'

def callSm (s : St) (xs : List Nat) (sig : List Nm) (d : Option Nat) (v : V) (E' L' : List (List V)) : Sm :=
  { us := xs.map fun k => (k, lk s.t k), rs := sig.map fun n => (n, s.blk n), nw := List.range' s.m.length L'.length, ch := callCh sig s.m.length E' L', d := d, val := some v }

/-- One operation of a region that draws its order. -/
def MOp.wd (P : Program) (ro : Bool) (s : St) (d : Option Nat) (K : Sm → St → Prop) : MOp → Prop
  | .call f xs => match evs s.f xs with
    | some vs => callD P ro f vs s fun sig v s' E' L' => K (callSm s (X.sls xs) sig d v E' L') (s'.put d v)
    | none => False
  | .callv .. | .app .. => False
  | o => match o.ex ro s d with
    | some s' => K (Sm.of o d s s') s'
    | none => False

def gSm (s : St) (k : Nat) (d : Option Nat) : Sm := { us := [(k, lk s.t k)], rs := [], nw := [], ch := [], d := d, val := some (.tup []) }
def Sm.guard (s : St) (k : Nat) (A : Sm) : Sm := { A with us := (k, lk s.t k) :: A.us }

def wdO (P : Program) (ro : Bool) (K : List Sm → St → Prop) : List MO → St → List Sm → Prop
  | [], s, acc => K acc.reverse s
  | o :: rest, s, acc => match o.g with
    | none => o.o.wd P ro s o.d fun A s' => wdO P ro K rest s' (A :: acc)
    | some (k, want) => match lk s.t k with
      | some (.bool b) => if b = want then o.o.wd P ro s o.d fun A s' => wdO P ro K rest s' (Sm.guard s k A :: acc) else wdO P ro K rest (s.put o.d (.tup [])) (gSm s k o.d :: acc)
      | some (.tup _) => wdO P ro K rest (s.put o.d (.tup [])) (gSm s k o.d :: acc)
      | _ => False

/-! ### Two operations that may change places -/

def nmIn (n : Nm) : List Nm → Bool
  | [] => false
  | k :: ks => decide (n = k) || nmIn n ks
def natIn (n : Nat) : List Nat → Bool
  | [] => false
  | k :: ks => decide (n = k) || natIn n ks

theorem nmIn_iff {n : Nm} : ∀ {l : List Nm}, nmIn n l = true ↔ n ∈ l
  | [] => by simp [nmIn]
  | k :: l => by simp [nmIn, nmIn_iff (l := l)]
theorem natIn_iff {n : Nat} : ∀ {l : List Nat}, natIn n l = true ↔ n ∈ l
  | [] => by simp [natIn]
  | k :: l => by simp [natIn, natIn_iff (l := l)]

/-- What A changes, B neither looks at nor makes nor changes. -/
def memApart1 (ch : List (Nm × List V)) (rs : List (Nm × Option (List V))) (nw : List Nat) : Bool :=
  match ch with
  | [] => true
  | (n, _) :: t => !nmIn n (rs.map (·.1)) && !nmIn n (nw.map .l) && memApart1 t rs nw
def chApart : List (Nm × List V) → List (Nm × List V) → Bool
  | [], _ => true
  | (n, _) :: t, ch => !nmIn n (ch.map (·.1)) && chApart t ch
def Sm.memApart (A B : Sm) : Bool := memApart1 A.ch B.rs B.nw && memApart1 B.ch A.rs A.nw && chApart A.ch B.ch

structure Apart (A B : Sm) : Prop where
  u1 : ∀ p ∈ B.us, A.d ≠ some p.1
  u2 : ∀ p ∈ A.us, B.d ≠ some p.1
  d : ∀ k, A.d = some k → B.d ≠ some k
  m : A.memApart B = true

theorem memApart1_spec {ch : List (Nm × List V)} {rs : List (Nm × Option (List V))} {nw : List Nat} (h : memApart1 ch rs nw = true) : (∀ p ∈ rs, chL ch p.1 = none) ∧ ∀ k ∈ nw, chL ch (.l k) = none := by
  induction ch with
  | nil => simp [chL]
  | cons q ch ih =>
    obtain ⟨n, c⟩ := q
    simp only [memApart1, Bool.and_eq_true, Bool.not_eq_true'] at h
    obtain ⟨⟨h1, h2⟩, h3⟩ := h
    obtain ⟨g1, g2⟩ := ih h3
    have h1' : ¬ n ∈ rs.map (·.1) := fun hm => by rw [nmIn_iff.2 hm] at h1; cases h1
    have h2' : ¬ n ∈ nw.map Nm.l := fun hm => by rw [nmIn_iff.2 hm] at h2; cases h2
    refine ⟨fun p hp => ?_, fun k hk => ?_⟩
    · simp only [chL]; rw [if_neg (fun e => h1' (List.mem_map.2 ⟨p, hp, e.symm⟩))]; exact g1 p hp
    · simp only [chL]; rw [if_neg (fun e => h2' (List.mem_map.2 ⟨k, hk, e.symm⟩))]; exact g2 k hk

theorem chL_mem {ch : List (Nm × List V)} {n : Nm} {c : List V} (h : chL ch n = some c) : n ∈ ch.map (·.1) := by
  induction ch with
  | nil => simp [chL] at h
  | cons q ch ih =>
    obtain ⟨k, c'⟩ := q
    simp only [chL] at h
    split at h
    · rename_i e; simp [e]
    · simp [ih h]

theorem chApart_spec {a b : List (Nm × List V)} (h : chApart a b = true) (n : Nm) : chL a n = none ∨ chL b n = none := by
  induction a with
  | nil => simp [chL]
  | cons q a ih =>
    obtain ⟨k, c⟩ := q
    simp only [chApart, Bool.and_eq_true, Bool.not_eq_true'] at h
    obtain ⟨h1, h2⟩ := h
    by_cases e : k = n
    · subst e
      right
      cases hb : chL b k with
      | none => rfl
      | some c' => rw [nmIn_iff.2 (chL_mem hb)] at h1; cases h1
    · simp only [chL, if_neg e]; exact ih h2

theorem Apart.swap {A B : Sm} {σ : Fs} (h : Apart A B) (hA : A.pre σ) (hB : B.pre (A.app σ)) : B.pre σ ∧ A.pre (B.app σ) ∧ A.app (B.app σ) = B.app (A.app σ) := by
  have hm := h.m
  simp only [Sm.memApart, Bool.and_eq_true] at hm
  obtain ⟨⟨h1, h2⟩, h3⟩ := hm
  obtain ⟨a1, a2⟩ := memApart1_spec h1
  obtain ⟨b1, b2⟩ := memApart1_spec h2
  refine ⟨⟨?_, ?_, ?_⟩, ⟨?_, ?_, ?_⟩, ?_⟩
  · intro p hp
    have := hB.us p hp
    simp only [Sm.app] at this
    rwa [if_neg (h.u1 p hp)] at this
  · intro p hp
    have := hB.rs p hp
    simp only [Sm.app, a1 p hp] at this
    exact this
  · intro k hk
    have := hB.nw k hk
    simp only [Sm.app, a2 k hk] at this
    exact this
  · intro p hp
    simp only [Sm.app]
    rw [if_neg (h.u2 p hp)]
    exact hA.us p hp
  · intro p hp
    simp only [Sm.app, b1 p hp]
    exact hA.rs p hp
  · intro k hk
    simp only [Sm.app, b2 k hk]
    exact hA.nw k hk
  · simp only [Sm.app, Fs.mk.injEq]
    refine ⟨?_, ?_⟩
    · funext k
      by_cases hA : A.d = some k
      · rw [if_pos hA, if_neg (h.d k hA), if_pos hA]
      · by_cases hB : B.d = some k
        · simp [hA, hB]
        · simp [hA, hB]
    · funext n
      rcases chApart_spec h3 n with e | e
      · simp only [e]
      · simp only [e]

/-! ### Any order -/

def Chain (A : Nat → Sm) : List Nat → Fs → Fs → Prop
  | [], σ, τ => σ = τ
  | i :: l, σ, τ => (A i).pre σ ∧ Chain A l ((A i).app σ) τ

theorem Chain.first {A : Nat → Sm} {i : Nat} {post : List Nat} {τ : Fs} : ∀ (pre : List Nat) (σ : Fs), (∀ j ∈ pre, Apart (A j) (A i)) → Chain A (pre ++ i :: post) σ τ → (A i).pre σ ∧ Chain A (pre ++ post) ((A i).app σ) τ
  | [], σ, _, h => h
  | j :: pre, σ, hap, h => by
    simp only [List.cons_append, Chain] at h
    obtain ⟨h1, h2⟩ := h
    obtain ⟨g1, g2⟩ := Chain.first pre _ (fun k hk => hap k (by simp [hk])) h2
    obtain ⟨p1, p2, p3⟩ := (hap j (by simp)).swap h1 g1
    refine ⟨p1, ?_⟩
    simp only [List.cons_append, Chain]
    rw [p3]
    exact ⟨p2, g2⟩

section
variable {ro : Bool} {W w : World} {r : Rho} {σ τ : Fs} {a : Act} {P : Program} {N : Nat} {ops : Array Oper}

/-- The operation in its region: what its guard says is part of it. -/
def DoesIn (P : Program) (ro : Bool) (N : Nat) (ops : Array Oper) (o : Oper) (A : Sm) : Prop :=
  ∀ (W : World) (r : Rho) (σ : Fs) (a : Act) (w : World) (K : Act → World → Prop) (Q : Exit → Act → World → Prop), RelF ro W N r σ a w → A.pre σ →
    (∀ r' a' w', r.Sub r' → r'.e = r.e → RelF ro W N r' (A.app σ) a' w' → K a' w') → (if Region.wanted o (yielded ops a.tmps) then o.wp P a w K Q else K (a.put o.dst undef) w)

def rem (n : Nat) (listed : Array Bool) : List Nat := (List.range n).filter fun i => !listed.getD i true

theorem wpAny_chain {A : Nat → Sm} (hback : ∀ i o, ops[i]? = some o → ∀ e ∈ o.after, Region.binds .any e = true → e.on < i) (hdo : ∀ i o, ops[i]? = some o → DoesIn P ro N ops o (A i))
    (hap : ∀ i o j, ops[i]? = some o → j < i → (∀ e ∈ o.after, Region.binds .any e = true → e.on ≠ j) → Apart (A j) (A i)) {Q : Exit → Act → World → Prop} {r0 : Rho}
    (hQ : ∀ r a w, r0.e = r.e → RelF ro W N r τ a w → Q .normal a w) : ∀ (fuel : Nat) (listed : Array Bool) (σ : Fs) (r : Rho) (a : Act) (w : World), listed.size = ops.size → (rem ops.size listed).length ≤ fuel → r0.e = r.e → RelF ro W N r σ a w →
    Chain A (rem ops.size listed) σ τ → wpAny P .any ops Q fuel listed a w := by
  have hreadyrem : ∀ (listed : Array Bool) (i : Nat), i ∈ Region.ready .any ops listed → i ∈ rem ops.size listed ∧ ∃ o, ops[i]? = some o ∧ ∀ e ∈ o.after, Region.binds .any e = true → listed.getD e.on false = true := by
    intro listed i hi
    obtain ⟨h1, o, h2, h3⟩ := mem_ready.1 hi
    refine ⟨?_, o, h2, h3⟩
    simp only [rem, List.mem_filter, List.mem_range]
    refine ⟨?_, by simp [h1]⟩
    rcases Nat.lt_or_ge i ops.size with h | h
    · exact h
    · rw [Array.getElem?_eq_none h] at h2; cases h2
  have hnone : ∀ (listed : Array Bool), listed.size = ops.size → Region.ready .any ops listed = [] → rem ops.size listed = [] := by
    intro listed hsz hr
    refine Classical.byContradiction fun hne => ?_
    -- the least that is left is ready
    obtain ⟨i, l, hil⟩ := List.exists_cons_of_ne_nil hne
    have hi : i ∈ rem ops.size listed := by rw [hil]; simp
    have hmin : ∀ j, j < i → listed.getD j true = true := fun j hj => by
      refine Classical.byContradiction fun hnj => ?_
      have hj' : j ∈ rem ops.size listed := by
        simp only [rem, List.mem_filter, List.mem_range] at hi ⊢
        exact ⟨by omega, by simpa using hnj⟩
      have hsorted : (rem ops.size listed).Pairwise (· < ·) := List.Pairwise.filter _ List.pairwise_lt_range
      rw [hil] at hsorted hj'
      rcases List.mem_cons.1 hj' with e | hm
      · omega
      · have := (List.pairwise_cons.1 hsorted).1 j hm; omega
    simp only [rem, List.mem_filter, List.mem_range] at hi
    have hlt := hi.1
    have ho : ops[i]? = some ops[i] := Array.getElem?_eq_getElem hlt
    have : i ∈ Region.ready .any ops listed := mem_ready.2 ⟨by simpa using hi.2, ops[i], ho, fun e he hb => by
      have hlt' := hback i _ ho e he hb
      have := hmin e.on hlt'
      rw [Array.getD_eq_getD_getElem?] at this ⊢
      have hin : e.on < listed.size := by omega
      rw [Array.getElem?_eq_getElem hin] at this ⊢
      exact this⟩
    rw [hr] at this; cases this
  intro fuel
  induction fuel with
  | zero =>
    intro listed σ r a w hsz hlen hr0 hrel hch
    have hnil : rem ops.size listed = [] := List.length_eq_zero_iff.1 (by omega)
    rw [hnil] at hch
    have : σ = τ := hch
    subst this
    refine ⟨?_, hQ r a w hr0 hrel⟩
    cases hrd : Region.ready .any ops listed with
    | nil => rfl
    | cons i l =>
      have := (hreadyrem listed i (by rw [hrd]; simp)).1
      rw [hnil] at this; cases this
  | succ fuel ih =>
    intro listed σ r a w hsz hlen hr0 hrel hch
    refine ⟨fun hrd => ?_, fun i hi => ?_⟩
    · have hnil := hnone listed hsz hrd
      rw [hnil] at hch
      have : σ = τ := hch
      subst this
      exact hQ r a w hr0 hrel
    · obtain ⟨hmem, o, ho, hedges⟩ := hreadyrem listed i hi
      obtain ⟨pre, post, hsplit⟩ := List.append_of_mem hmem
      have hpw : (rem ops.size listed).Pairwise (· < ·) := List.Pairwise.filter _ List.pairwise_lt_range
      have hpre : ∀ j ∈ pre, j < i := fun j hj => by
        rw [hsplit] at hpw
        exact (List.pairwise_append.1 hpw).2.2 j hj i (by simp)
      have hunl : ∀ j ∈ pre, listed.getD j true = false := fun j hj => by
        have : j ∈ rem ops.size listed := by rw [hsplit]; simp [hj]
        simp only [rem, List.mem_filter] at this
        simpa using this.2
      have happ : ∀ j ∈ pre, Apart (A j) (A i) := fun j hj => hap i o j ho (hpre j hj) (fun e he hb heq => by
        have h1 := hedges e he hb
        have h2 := hunl j hj
        rw [heq] at h1
        rw [Array.getD_eq_getD_getElem?] at h1 h2
        cases hx : listed[j]? with
        | none => rw [hx] at h1; cases h1
        | some b => rw [hx] at h1 h2; simp at h1 h2; rw [h1] at h2; cases h2)
      rw [hsplit] at hch
      obtain ⟨g1, g2⟩ := Chain.first pre σ happ hch
      have hrem : rem ops.size (listed.setIfInBounds i true) = pre ++ post := by
        have hnd : (rem ops.size listed).Nodup := hpw.imp (fun h => Nat.ne_of_lt h)
        rw [hsplit] at hnd
        have hset : ∀ k, (listed.setIfInBounds i true).getD k true = (if k = i then true else listed.getD k true) := fun k => by
          rw [Array.getD_eq_getD_getElem?, Array.getD_eq_getD_getElem?]
          by_cases hki : k = i
          · subst hki
            rw [if_pos rfl]
            rcases Nat.lt_or_ge k listed.size with h | h
            · rw [Array.getElem?_setIfInBounds_self_of_lt h]; rfl
            · rw [Array.getElem?_eq_none (by simp; exact h)]; rfl
          · rw [if_neg hki, Array.getElem?_setIfInBounds_ne (fun e => hki e.symm)]
        have : rem ops.size (listed.setIfInBounds i true) = (rem ops.size listed).filter fun k => !decide (k = i) := by
          unfold rem
          rw [List.filter_filter]
          congr 1
          funext k
          rw [hset]
          by_cases hki : k = i
          · simp [hki]
          · simp [hki]
        rw [this, hsplit, List.filter_append, List.filter_cons]
        have hni : i ∉ pre ∧ i ∉ post := by
          rw [List.nodup_append] at hnd
          obtain ⟨_, h2, h3⟩ := hnd
          exact ⟨fun h => h3 i h i (by simp) rfl, (List.nodup_cons.1 h2).1⟩
        have hall : ∀ l : List Nat, i ∉ l → l.filter (fun k => !decide (k = i)) = l := fun l hl => by
          rw [List.filter_eq_self]
          intro k hk
          have : k ≠ i := fun e => hl (e ▸ hk)
          simp [this]
        rw [hall pre hni.1, hall post hni.2]
        simp
      unfold wpOp
      simp only [ho]
      have hd := hdo i o ho W r σ a w (wpAny P .any ops Q fuel (listed.setIfInBounds i true)) Q hrel g1 (fun r' a' w' hsub he hrel' => by
        refine ih (listed.setIfInBounds i true) ((A i).app σ) r' a' w' (by simp [hsz]) ?_ (hr0.trans he.symm) hrel' (by rw [hrem]; exact g2)
        rw [hrem]
        rw [hsplit] at hlen
        simp at hlen ⊢
        omega)
      split
      · rename_i hw
        rw [if_pos hw] at hd
        exact .inl hd
      · rename_i hw
        rw [if_neg hw] at hd
        exact hd
end
end Go.Ab
