/- A part of the proof library: names for blocks of memory, a small form of the code, and rules for walks over it. -/
import Derived.Test.YtpajbcifaicpoaaDoorAb1
set_option linter.all false
namespace Go.Ab

theorem nodup_inj {l : List Nat} (h : l.Nodup) : ∀ {i j b : Nat}, l[i]? = some b → l[j]? = some b → i = j := by
  induction l with
  | nil => intro i j b h1; simp at h1
  | cons a l ih =>
    obtain ⟨hn, hl⟩ := List.nodup_cons.1 h
    intro i j b h1 h2
    cases i with
    | zero =>
      cases j with
      | zero => rfl
      | succ j => simp at h1 h2; subst h1; exact absurd (List.mem_of_getElem? h2) hn
    | succ i =>
      cases j with
      | zero => simp at h1 h2; subst h2; exact absurd (List.mem_of_getElem? h1) hn
      | succ j => simp at h1 h2; rw [ih hl h1 h2]

/-- Memory by names. -/
abbrev Mem := Nm → Option (List V)

/-- No cell of so many is frozen: none at all, or what lies behind them. -/
def Tl (fr : Nat × Nat) (n : Nat) : Prop := fr = (0, 0) ∨ n ≤ fr.1
/-- A block with these cells, none of them frozen. -/
def BlkAt (w : World) (b : Nat) (l : List Value) (ty : TypeId) : Prop := ∃ fr : Nat × Nat, w.heap[b]? = some (Obj.cells (List.toArray l) ty fr) ∧ Tl fr l.length
theorem BlkAt.new {w : World} {b : Nat} {l : List Value} {ty : TypeId} (h : w.heap[b]? = some (Obj.cells (List.toArray l) ty (0, 0))) : BlkAt w b l ty := ⟨_, h, .inl rfl⟩
theorem BlkAt.of {w w' : World} {b : Nat} {l : List Value} {ty : TypeId} (h : BlkAt w b l ty) (e : w'.heap[b]? = w.heap[b]?) : BlkAt w' b l ty := by
  obtain ⟨fr, h1, h2⟩ := h
  exact ⟨fr, e.trans h1, h2⟩

/-- How the world lies to the naming: what is named reads as the memory says (each block's first cells; there may be more behind them); all other old blocks are as they were in W. -/
structure Cn (ro : Bool) (W : World) (r : Rho) (m : Mem) (w : World) : Prop where
  nm : ∀ n b, r.get n = some b → m n ≠ none
  eb : ∀ (k : Nat) (cs : List V), m (.e k) = some cs → ∃ (b : Nat) (xs ys : List Value) (ty : TypeId) (fr : Nat × Nat), r.e[k]? = some b ∧ w.heap[b]? = some (Obj.cells (List.toArray (xs ++ ys)) ty fr) ∧ RL r cs xs ∧ (ro = false → Tl fr (xs ++ ys).length ∧ ∀ y ∈ xs, Value.oneCell' y = true)
  lb : ∀ (k : Nat) (cs : List V), m (.l k) = some cs → ∃ (b : Nat) (xs ys : List Value) (ty : TypeId), r.l k = some b ∧ BlkAt w b (xs ++ ys) ty ∧ RL r cs xs ∧ ∀ y ∈ xs, Value.oneCell' y = true
  ed : List.Nodup r.e
  ld : ∀ i j b, r.l i = some b → r.l j = some b → i = j
  elt : ∀ b ∈ r.e, b < W.heap.size
  lge : ∀ k b, r.l k = some b → W.heap.size ≤ b
  frame : ∀ b, b < W.heap.size → (ro = true ∨ b ∉ r.e) → w.heap[b]? = W.heap[b]?
  size : W.heap.size ≤ w.heap.size
  os : w.os = W.os
  tape : w.tape = W.tape
  output : w.output = W.output

def Mem.set (m : Mem) (n : Nm) (cs : List V) : Mem := fun n' => if n' = n then some cs else m n'

section
variable {ro : Bool} {W w : World} {r : Rho} {m : Mem}

theorem Cn.blk_at (h : Cn ro W r m w) {n : Nm} {cs : List V} (hb : m n = some cs) :
    ∃ (b : Nat) (xs ys : List Value) (ty : TypeId) (fr : Nat × Nat), r.get n = some b ∧ w.heap[b]? = some (Obj.cells (List.toArray (xs ++ ys)) ty fr) ∧ RL r cs xs := by
  cases n with
  | e k => obtain ⟨b, xs, ys, ty, fr, h1, h2, h3, _⟩ := h.eb k cs hb; exact ⟨b, xs, ys, ty, fr, h1, h2, h3⟩
  | l k => obtain ⟨b, xs, ys, ty, h1, ⟨fr, h2, _⟩, h3, _⟩ := h.lb k cs hb; exact ⟨b, xs, ys, ty, fr, h1, h2, h3⟩

theorem getElem?_pre {α : Type} {xs ys : List α} {k : Nat} {x : α} (h : xs[k]? = some x) : (xs ++ ys)[k]? = some x := by
  obtain ⟨hlt, hv⟩ := List.getElem?_eq_some_iff.1 h
  rw [List.getElem?_append_left hlt, h]

/-- One cell of a block. -/
theorem Cn.cell (h : Cn ro W r m w) {n : Nm} {cs : List V} (hb : m n = some cs) {b : Nat} (hr : r.get n = some b) {k : Nat} {v : V} (hk : cs[k]? = some v) :
    ∃ x, w.cell? ⟨b, k, none⟩ = some x ∧ V.R r v x := by
  obtain ⟨b', xs, ys, ty, fr, h1, h2, h3⟩ := h.blk_at hb
  rw [hr] at h1; cases h1
  obtain ⟨x, hx, hR⟩ := h3.get hk
  exact ⟨x, by simp only [World.cell?, h2, List.getElem?_toArray, getElem?_pre hx]; rfl, hR⟩

theorem Cn.inj (h : Cn ro W r m w) {n n' : Nm} {b : Nat} (h1 : r.get n = some b) (h2 : r.get n' = some b) : n = n' := by
  cases n with
  | e k => cases n' with
    | e k' =>
      simp only [Rho.get] at *
      rw [nodup_inj h.ed h1 h2]
    | l k' =>
      simp only [Rho.get] at *
      have a1 := h.elt b (List.mem_of_getElem? h1)
      have a2 := h.lge _ b h2
      omega
  | l k => cases n' with
    | e k' =>
      simp only [Rho.get] at *
      have a1 := h.elt b (List.mem_of_getElem? h2)
      have a2 := h.lge _ b h1
      omega
    | l k' =>
      simp only [Rho.get] at *
      rw [h.ld _ _ _ h1 h2]

theorem Cn.lt_size (h : Cn ro W r m w) {n : Nm} {b : Nat} (h1 : r.get n = some b) : b < w.heap.size := by
  cases hm : m n with
  | none => exact absurd hm (h.nm n b h1)
  | some cs =>
    obtain ⟨b', xs, ys, ty, fr, g1, g2, _⟩ := h.blk_at hm
    rw [h1] at g1; cases g1
    rcases Nat.lt_or_ge b w.heap.size with hh | hh
    · exact hh
    · rw [Array.getElem?_eq_none hh] at g2; cases g2

theorem Cn.drew (h : Cn ro W r m w) (n : Nat) : Cn ro W r m { w with drawn := n } :=
  ⟨h.nm, h.eb, h.lb, h.ed, h.ld, h.elt, h.lge, h.frame, h.size, h.os, h.tape, h.output⟩

/-- The naming with one more block of the call's own. -/
def Rho.add (r : Rho) (k : Nat) (b : Nat) : Rho := { r with l := fun j => if j = k then some b else r.l j }

theorem Rho.add_sub {r : Rho} {k : Nat} (b : Nat) (h : r.l k = none) : r.Sub (r.add k b) := by
  intro n b' hb
  cases n with
  | e j => exact hb
  | l j =>
    simp only [Rho.get, Rho.add] at *
    by_cases hj : j = k
    · subst hj; rw [h] at hb; cases hb
    · simp [hj, hb]

theorem Cn.free (h : Cn ro W r m w) {k : Nat} (hk : m (.l k) = none) : r.l k = none := by
  cases hr : r.l k with
  | none => rfl
  | some b => exact absurd hk (h.nm (.l k) b hr)

theorem Cn.alloc (h : Cn ro W r m w) {k : Nat} (hk : m (.l k) = none) {cs : List V} {xs : List Value} (ys : List Value) (hR : RL r cs xs) (hone : ∀ y ∈ xs, Value.oneCell' y = true) (ty : TypeId) :
    Cn ro W (r.add k w.heap.size) (m.set (.l k) cs) { w with heap := w.heap.push (Obj.cells (List.toArray (xs ++ ys)) ty) } := by
  have hs := Rho.add_sub w.heap.size (h.free hk)
  have hold : ∀ b, b < w.heap.size → (w.heap.push (Obj.cells (List.toArray (xs ++ ys)) ty))[b]? = w.heap[b]? := fun b hb => by
    rw [Array.getElem?_push, if_neg (Nat.ne_of_lt hb)]
  refine ⟨?_, ?_, ?_, h.ed, ?_, h.elt, ?_, ?_, ?_, h.os, h.tape, h.output⟩
  · intro n b hb
    simp only [Mem.set]
    split
    · simp
    · rename_i hne
      cases n with
      | e j => exact h.nm (.e j) b hb
      | l j =>
        simp only [Rho.get, Rho.add] at hb
        rw [if_neg (fun e => hne (by rw [e]))] at hb
        exact h.nm (.l j) b hb
  · intro j cs' hj
    simp only [Mem.set] at hj
    rw [if_neg (by simp)] at hj
    obtain ⟨b, us, vs, ty', fr, h1, h2, h3, h4⟩ := h.eb j cs' hj
    exact ⟨b, us, vs, ty', fr, h1, by rw [hold b (h.lt_size (n := .e j) h1)]; exact h2, RL.mono hs _ _ h3, h4⟩
  · intro j cs' hj
    simp only [Mem.set] at hj
    by_cases hjk : j = k
    · subst hjk
      rw [if_pos rfl] at hj
      cases hj
      exact ⟨w.heap.size, xs, ys, ty, by simp [Rho.add], .new (by simp), RL.mono hs _ _ hR, hone⟩
    · rw [if_neg (fun e => hjk (by cases e; rfl))] at hj
      obtain ⟨b, us, vs, ty', h1, h2, h3, h4⟩ := h.lb j cs' hj
      exact ⟨b, us, vs, ty', hs (.l j) b h1, h2.of (hold b (h.lt_size (n := .l j) h1)), RL.mono hs _ _ h3, h4⟩
  · intro i j b hi hj
    simp only [Rho.add] at hi hj
    by_cases hik : i = k
    · by_cases hjk : j = k
      · rw [hik, hjk]
      · rw [if_pos hik] at hi; rw [if_neg hjk] at hj
        cases hi
        have := h.lt_size (n := .l j) hj
        omega
    · by_cases hjk : j = k
      · rw [if_neg hik] at hi; rw [if_pos hjk] at hj
        cases hj
        have := h.lt_size (n := .l i) hi
        omega
      · rw [if_neg hik] at hi; rw [if_neg hjk] at hj
        exact h.ld i j b hi hj
  · intro j b hb
    simp only [Rho.add] at hb
    by_cases hjk : j = k
    · rw [if_pos hjk] at hb; cases hb; exact h.size
    · rw [if_neg hjk] at hb; exact h.lge j b hb
  · intro b hb hn
    rw [show (World.heap { w with heap := w.heap.push (Obj.cells (List.toArray (xs ++ ys)) ty) })[b]? = w.heap[b]? from hold b (Nat.lt_of_lt_of_le hb h.size)]
    exact h.frame b hb hn
  · simp only [Array.size_push]; have := h.size; omega

theorem Cn.setCell (h : Cn ro W r m w) {n : Nm} {cs : List V} (hb : m n = some cs) (hro : ro = true → ∃ k, n = .l k) {b : Nat} (hr : r.get n = some b) {k : Nat} (hk : k < cs.length) {v : V} {x : Value} (hR : V.R r v x) (hone : Value.oneCell' x = true) :
    Cn ro W r (m.set n (cs.set k v)) (w.setCell ⟨b, k, none⟩ x) := by
  have hother : ∀ b', b' ≠ b → (w.setCell ⟨b, k, none⟩ x).heap[b']? = w.heap[b']? := fun b' hne => by
    simp only [World.setCell, Array.getElem?_modify]
    rw [if_neg (Ne.symm hne)]
  have hthis : ∀ xs ys ty fr, xs.length = cs.length → w.heap[b]? = some (Obj.cells (List.toArray (xs ++ ys)) ty fr) → (w.setCell ⟨b, k, none⟩ x).heap[b]? = some (Obj.cells (List.toArray (xs.set k x ++ ys)) ty fr) := fun xs ys ty fr hl hh => by
    simp only [World.setCell, Array.getElem?_modify, hh, if_true]
    simp [hl, hk]
  have hsz : (w.setCell ⟨b, k, none⟩ x).heap.size = w.heap.size := by simp [World.setCell]
  refine ⟨?_, ?_, ?_, h.ed, h.ld, h.elt, h.lge, ?_, by rw [hsz]; exact h.size, h.os, h.tape, h.output⟩
  · intro n' b' hb'
    simp only [Mem.set]
    split
    · simp
    · exact h.nm n' b' hb'
  · intro j cs' hj
    simp only [Mem.set] at hj
    by_cases hjn : Nm.e j = n
    · subst hjn
      rw [if_pos rfl] at hj; cases hj
      obtain ⟨b', us, vs, ty', fr, h1, h2, h3, h4⟩ := h.eb j cs hb
      rw [show r.e[j]? = some b from hr] at h1; cases h1
      refine ⟨b, _, vs, ty', fr, hr, hthis _ _ _ _ h3.length h2, h3.set k hR, fun hh => ⟨by simpa using (h4 hh).1, fun y hy => ?_⟩⟩
      rcases List.mem_or_eq_of_mem_set hy with hy | hy
      · exact (h4 hh).2 y hy
      · subst hy; exact hone
    · rw [if_neg hjn] at hj
      obtain ⟨b', us, vs, ty', fr, h1, h2, h3, h4⟩ := h.eb j cs' hj
      refine ⟨b', us, vs, ty', fr, h1, ?_, h3, h4⟩
      rw [hother b' (fun e => by subst e; exact hjn (h.inj (n := .e j) h1 hr))]
      exact h2
  · intro j cs' hj
    simp only [Mem.set] at hj
    by_cases hjn : Nm.l j = n
    · subst hjn
      rw [if_pos rfl] at hj; cases hj
      obtain ⟨b', us, vs, ty', h1, ⟨fr, h2, hfr⟩, h3, h4⟩ := h.lb j cs hb
      rw [show r.l j = some b from hr] at h1; cases h1
      refine ⟨b, _, vs, ty', hr, ⟨fr, hthis _ _ _ _ h3.length h2, by simpa using hfr⟩, h3.set k hR, fun y hy => ?_⟩
      rcases List.mem_or_eq_of_mem_set hy with hy | hy
      · exact h4 y hy
      · subst hy; exact hone
    · rw [if_neg hjn] at hj
      obtain ⟨b', us, vs, ty', h1, h2, h3, h4⟩ := h.lb j cs' hj
      exact ⟨b', us, vs, ty', h1, h2.of (hother b' (fun e => by subst e; exact hjn (h.inj (n := .l j) h1 hr))), h3, h4⟩
  · intro b' hb' hn
    have hne : b' ≠ b := fun e => by
      subst e
      cases n with
      | e i =>
        rcases hn with hn | hn
        · obtain ⟨k, hk⟩ := hro hn; cases hk
        · exact hn (List.mem_of_getElem? (show r.e[i]? = some b' from hr))
      | l i => have := h.lge i b' hr; omega
    rw [hother b' hne]
    exact h.frame b' hb' hn

/-- A store into a block is let through. -/
theorem Cn.unfrozen (h : Cn ro W r m w) {n : Nm} {cs : List V} (hb : m n = some cs) (hro : ro = true → ∃ k, n = .l k) {b : Nat} (hr : r.get n = some b) (k : Nat) (hk : k < cs.length) :
    w.frozen? ⟨b, k, none⟩ = false := by
  cases n with
  | e i =>
    obtain ⟨b', us, vs, ty', fr, h1, h2, h3, h4⟩ := h.eb i cs hb
    rw [show r.e[i]? = some b from hr] at h1; cases h1
    have hl := h3.length
    have hT : Tl fr (us ++ vs).length := (h4 (by cases ro with | true => obtain ⟨k, hk⟩ := hro rfl; cases hk | false => rfl)).1
    obtain ⟨f1, f2⟩ := fr
    rcases hT with hT | hT
    · cases hT; simp [World.frozen?, h2]
    · simp at hT; simp [World.frozen?, h2]; omega
  | l i =>
    obtain ⟨b', us, vs, ty', h1, ⟨fr, h2, hT⟩, h3, _⟩ := h.lb i cs hb
    rw [show r.l i = some b from hr] at h1; cases h1
    have hl := h3.length
    obtain ⟨f1, f2⟩ := fr
    rcases hT with hT | hT
    · cases hT; simp [World.frozen?, h2]
    · simp at hT; simp [World.frozen?, h2]; omega

/-- What lies behind an own block is marked as frozen. -/
theorem Cn.endfz (h : Cn ro W r m w) {k b : Nat} (hr : r.l k = some b) {c : Array Value} {ty : TypeId} (hb : w.heap[b]? = some (Obj.cells c ty (0, 0))) : Cn ro W r m (w.freeze ⟨b, c.size, none⟩ 1) := by
  have hother : ∀ b', b' ≠ b → (w.freeze ⟨b, c.size, none⟩ 1).heap[b']? = w.heap[b']? := fun b' hne => by
    simp only [World.freeze, Nat.one_ne_zero, if_false, Array.getElem?_modify]
    rw [if_neg (Ne.symm hne)]
  have hthis : (w.freeze ⟨b, c.size, none⟩ 1).heap[b]? = some (Obj.cells c ty (c.size, c.size + 1)) := by
    simp only [World.freeze, Nat.one_ne_zero, if_false, Array.getElem?_modify, hb, if_true]
    simp
  have hsz : (w.freeze ⟨b, c.size, none⟩ 1).heap.size = w.heap.size := by simp [World.freeze]
  refine ⟨h.nm, ?_, ?_, h.ed, h.ld, h.elt, h.lge, ?_, by rw [hsz]; exact h.size, h.os, h.tape, h.output⟩
  · intro j cs hj
    obtain ⟨b', us, vs, ty', fr, h1, h2, h3, h4⟩ := h.eb j cs hj
    refine ⟨b', us, vs, ty', fr, h1, ?_, h3, h4⟩
    rw [hother b' (fun e => by subst e; have := h.inj (n := .e j) (n' := .l k) h1 hr; cases this)]
    exact h2
  · intro j cs hj
    obtain ⟨b', us, vs, ty', h1, h2, h3, h4⟩ := h.lb j cs hj
    by_cases e : b' = b
    · subst e
      obtain ⟨fr, g1, g2⟩ := h2
      rw [hb] at g1
      simp only [Option.some.injEq, Obj.cells.injEq] at g1
      obtain ⟨rfl, rfl, rfl⟩ := g1
      exact ⟨b', us, vs, ty, h1, ⟨_, hthis, .inr (by simp)⟩, h3, h4⟩
    · exact ⟨b', us, vs, ty', h1, h2.of (hother b' e), h3, h4⟩
  · intro b' hb' hn
    rw [hother b' (fun e => by subst e; have := h.lge k b' hr; omega)]
    exact h.frame b' hb' hn

/-- Names are forgotten. -/
theorem Cn.forget (h : Cn ro W r m w) {r' : Rho} {m' : Mem} (he : r'.e = r.e) (hsub : ∀ k b, r'.l k = some b → r.l k = some b)
    (hE : ∀ k cs, m' (.e k) = some cs → ∃ cs0, m (.e k) = some cs0 ∧ ∀ xs, RL r cs0 xs → ∃ ys zs, xs = ys ++ zs ∧ RL r' cs ys)
    (hM : ∀ k cs, m' (.l k) = some cs → (∃ b, r'.l k = some b) ∧ ∃ cs0, m (.l k) = some cs0 ∧ ∀ xs, RL r cs0 xs → ∃ ys zs, xs = ys ++ zs ∧ RL r' cs ys)
    (hn : ∀ n b, r'.get n = some b → m' n ≠ none) : Cn ro W r' m' w := by
  refine ⟨hn, ?_, ?_, by rw [he]; exact h.ed, fun i j b hi hj => h.ld i j b (hsub _ _ hi) (hsub _ _ hj), by rw [he]; exact h.elt, fun k b hb => h.lge k b (hsub _ _ hb), by rw [he]; exact h.frame, h.size, h.os, h.tape, h.output⟩
  · intro k cs hk
    obtain ⟨cs0, h0, hR⟩ := hE k cs hk
    obtain ⟨b, us, vs, ty, fr, h1, h2, h3, h4⟩ := h.eb k cs0 h0
    obtain ⟨ys, zs, rfl, h5⟩ := hR us h3
    exact ⟨b, ys, zs ++ vs, ty, fr, by rw [he]; exact h1, by rw [h2, List.append_assoc], h5, fun hh => ⟨by rw [← List.append_assoc]; exact (h4 hh).1, fun y hy => (h4 hh).2 y (by simp [hy])⟩⟩
  · intro k cs hk
    obtain ⟨⟨b', hb'⟩, cs0, h0, hR⟩ := hM k cs hk
    obtain ⟨b, us, vs, ty, h1, h2, h3, h4⟩ := h.lb k cs0 h0
    rw [hsub _ _ hb'] at h1; cases h1
    obtain ⟨ys, zs, rfl, h5⟩ := hR us h3
    exact ⟨b', ys, zs ++ vs, ty, hb', by rw [← List.append_assoc]; exact h2, h5, fun y hy => h4 y (by simp [hy])⟩
end
end Go.Ab
