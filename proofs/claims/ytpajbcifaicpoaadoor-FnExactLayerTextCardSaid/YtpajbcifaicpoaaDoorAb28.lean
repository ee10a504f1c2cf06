/- A part of the proof library: names for blocks of memory, a small form of the code, and rules for walks over it. -/
import Derived.Test.YtpajbcifaicpoaaDoorAb12
set_option linter.all false
namespace Go.Ab

mutual
/-- Every name of the call's own in the value is below n. -/
def V.lt (n : Nat) : V → Prop
  | .ptr (.l i) _ => i < n
  | .sl (.l i) _ _ _ => i < n
  | .slx (.l i) _ _ => i < n
  | .fn _ a b => ltL n a ∧ ltL n b
  | .agg cs => ltL n cs
  | .tup cs => ltL n cs
  | _ => True
def ltL (n : Nat) : List V → Prop
  | [] => True
  | v :: vs => V.lt n v ∧ ltL n vs
end

theorem ltL_iff (n : Nat) : ∀ l : List V, ltL n l ↔ ∀ v ∈ l, V.lt n v
  | [] => by simp [ltL]
  | v :: l => by simp [ltL, ltL_iff n l]

mutual
theorem V.R.cut {r r' : Rho} {n : Nat} (h : ∀ nm b, (∀ k, nm = .l k → k < n) → r.get nm = some b → r'.get nm = some b) : ∀ (v : V) (x : Value), v.lt n → V.R r v x → V.R r' v x
  | .int .., _, _, hx => by simpa only [V.R] using hx
  | .bool _, _, _, hx => by simpa only [V.R] using hx
  | .str _, _, _, hx => by simpa only [V.R] using hx
  | .ptr (.e i) _, _, _, hx => by simp only [V.R] at *; obtain ⟨b, hb, e⟩ := hx; exact ⟨b, h _ _ (fun k hk => by cases hk) hb, e⟩
  | .ptr (.l i) _, _, hl, hx => by simp only [V.R, V.lt] at *; obtain ⟨b, hb, e⟩ := hx; exact ⟨b, h _ _ (fun k hk => by cases hk; exact hl) hb, e⟩
  | .nilptr, _, _, hx => by simpa only [V.R] using hx
  | .sl (.e i) _ _ _, _, _, hx => by simp only [V.R] at *; obtain ⟨b, hb, e⟩ := hx; exact ⟨b, h _ _ (fun k hk => by cases hk) hb, e⟩
  | .sl (.l i) _ _ _, _, hl, hx => by simp only [V.R, V.lt] at *; obtain ⟨b, hb, e⟩ := hx; exact ⟨b, h _ _ (fun k hk => by cases hk; exact hl) hb, e⟩
  | .nilsl, _, _, hx => by simpa only [V.R] using hx
  | .slx (.e i) _ _, _, _, hx => by simp only [V.R] at *; obtain ⟨b, cap, hb, e⟩ := hx; exact ⟨b, cap, h _ _ (fun k hk => by cases hk) hb, e⟩
  | .slx (.l i) _ _, _, hl, hx => by simp only [V.R, V.lt] at *; obtain ⟨b, cap, hb, e⟩ := hx; exact ⟨b, cap, h _ _ (fun k hk => by cases hk; exact hl) hb, e⟩
  | .fn _ a b, _, hl, hx => by simp only [V.R, V.lt] at *; obtain ⟨xs, ys, e, h1, h2⟩ := hx; exact ⟨xs, ys, e, RL.cut h a xs hl.1 h1, RL.cut h b ys hl.2 h2⟩
  | .agg a, _, hl, hx => by simp only [V.R, V.lt] at *; obtain ⟨xs, e, h1, h2⟩ := hx; exact ⟨xs, e, RL.cut h a xs hl h1, h2⟩
  | .tup a, _, hl, hx => by simp only [V.R, V.lt] at *; obtain ⟨xs, e, h1⟩ := hx; exact ⟨xs, e, RL.cut h a xs hl h1⟩
  | .raw _, _, _, hx => by simpa only [V.R] using hx
theorem RL.cut {r r' : Rho} {n : Nat} (h : ∀ nm b, (∀ k, nm = .l k → k < n) → r.get nm = some b → r'.get nm = some b) : ∀ (vs : List V) (xs : List Value), ltL n vs → RL r vs xs → RL r' vs xs
  | [], _, _, hx => by simpa only [RL] using hx
  | v :: vs, _, hl, hx => by simp only [RL, ltL] at *; obtain ⟨x, ys, e, h1, h2⟩ := hx; exact ⟨x, ys, e, V.R.cut h v x hl.1 h1, RL.cut h vs ys hl.2 h2⟩
end

mutual
theorem V.R.reix {r r' : Rho} {g : Nm → Nm} {n : Nat} (h : ∀ nm b, (∀ k, nm = .l k → k < n) → r.get (g nm) = some b → r'.get nm = some b) : ∀ (v : V) (x : Value), v.lt n → V.R r (v.ren g) x → V.R r' v x
  | .int .., _, _, hx => by simpa only [V.R, V.ren] using hx
  | .bool _, _, _, hx => by simpa only [V.R, V.ren] using hx
  | .str _, _, _, hx => by simpa only [V.R, V.ren] using hx
  | .ptr (.e i) _, _, _, hx => by simp only [V.R, V.ren] at *; obtain ⟨b, hb, e⟩ := hx; exact ⟨b, h _ _ (fun k hk => by cases hk) hb, e⟩
  | .ptr (.l i) _, _, hl, hx => by simp only [V.R, V.lt, V.ren] at *; obtain ⟨b, hb, e⟩ := hx; exact ⟨b, h _ _ (fun k hk => by cases hk; exact hl) hb, e⟩
  | .nilptr, _, _, hx => by simpa only [V.R, V.ren] using hx
  | .sl (.e i) _ _ _, _, _, hx => by simp only [V.R, V.ren] at *; obtain ⟨b, hb, e⟩ := hx; exact ⟨b, h _ _ (fun k hk => by cases hk) hb, e⟩
  | .sl (.l i) _ _ _, _, hl, hx => by simp only [V.R, V.lt, V.ren] at *; obtain ⟨b, hb, e⟩ := hx; exact ⟨b, h _ _ (fun k hk => by cases hk; exact hl) hb, e⟩
  | .nilsl, _, _, hx => by simpa only [V.R, V.ren] using hx
  | .slx (.e i) _ _, _, _, hx => by simp only [V.R, V.ren] at *; obtain ⟨b, cap, hb, e⟩ := hx; exact ⟨b, cap, h _ _ (fun k hk => by cases hk) hb, e⟩
  | .slx (.l i) _ _, _, hl, hx => by simp only [V.R, V.lt, V.ren] at *; obtain ⟨b, cap, hb, e⟩ := hx; exact ⟨b, cap, h _ _ (fun k hk => by cases hk; exact hl) hb, e⟩
  | .fn _ a b, _, hl, hx => by simp only [V.R, V.lt, V.ren] at *; obtain ⟨xs, ys, e, h1, h2⟩ := hx; exact ⟨xs, ys, e, RL.reix h a xs hl.1 h1, RL.reix h b ys hl.2 h2⟩
  | .agg a, _, hl, hx => by simp only [V.R, V.lt, V.ren] at *; obtain ⟨xs, e, h1, h2⟩ := hx; exact ⟨xs, e, RL.reix h a xs hl h1, h2⟩
  | .tup a, _, hl, hx => by simp only [V.R, V.lt, V.ren] at *; obtain ⟨xs, e, h1⟩ := hx; exact ⟨xs, e, RL.reix h a xs hl h1⟩
  | .raw _, _, _, hx => by simpa only [V.R, V.ren] using hx
theorem RL.reix {r r' : Rho} {g : Nm → Nm} {n : Nat} (h : ∀ nm b, (∀ k, nm = .l k → k < n) → r.get (g nm) = some b → r'.get nm = some b) : ∀ (vs : List V) (xs : List Value), ltL n vs → RL r (renL g vs) xs → RL r' vs xs
  | [], _, _, hx => by simpa only [RL, renL] using hx
  | v :: vs, _, hl, hx => by simp only [RL, ltL, renL] at *; obtain ⟨x, ys, e, h1, h2⟩ := hx; exact ⟨x, ys, e, V.R.reix h v x hl.1 h1, RL.reix h vs ys hl.2 h2⟩
end

def kmap (ks : List Nat) : Nm → Nm
  | .e i => .e i
  | .l i => match ks[i]? with | some k => .l k | none => .l i

section
variable {ro : Bool} {W w : World} {r : Rho} {s : St} {σ : Fs} {a : Act} {P : Program} {N : Nat}

theorem Cn.reix {m : Mem} (h : Cn ro W r m w) {E' L' : List (List V)} {ks : List Nat} (hd : ks.Nodup) (hE : ∀ k, m (.e k) = (E'.map (renL (kmap ks)))[k]?) (hlen : L'.length = ks.length)
    (hL : ∀ (i k : Nat) (c : List V), ks[i]? = some k → L'[i]? = some c → ∃ tail, m (.l k) = some (renL (kmap ks) c ++ tail)) (hE2 : ∀ c ∈ E', ltL ks.length c) (hL2 : ∀ c ∈ L', ltL ks.length c) :
    Cn ro W ⟨r.e, fun i => (ks[i]?).bind r.l⟩ (mE E' L') w ∧ ∀ nm b, (∀ k, nm = .l k → k < ks.length) → r.get (kmap ks nm) = some b → (⟨r.e, fun i => (ks[i]?).bind r.l⟩ : Rho).get nm = some b := by
  have hre : ∀ nm b, (∀ k, nm = .l k → k < ks.length) → r.get (kmap ks nm) = some b → (⟨r.e, fun i => (ks[i]?).bind r.l⟩ : Rho).get nm = some b := by
    intro nm b hlt hb
    cases nm with
    | e i => exact hb
    | l i =>
      have := hlt i rfl
      simp only [kmap, List.getElem?_eq_getElem this] at hb
      simp only [Rho.get, List.getElem?_eq_getElem this, Option.bind_some]
      exact hb
  refine ⟨⟨?_, ?_, ?_, h.ed, ?_, h.elt, ?_, h.frame, h.size, h.os, h.tape, h.output⟩, hre⟩
  · intro n b hb
    cases n with
    | e i =>
      have := h.nm (.e i) b hb
      rw [hE] at this
      simp only [mE]
      intro hn
      apply this
      simp [hn]
    | l i =>
      simp only [Rho.get] at hb
      simp only [mE]
      cases hk : ks[i]? with
      | none => rw [hk] at hb; cases hb
      | some k =>
        have hi : i < L'.length := by
          rw [hlen]
          rcases Nat.lt_or_ge i ks.length with h1 | h1
          · exact h1
          · rw [List.getElem?_eq_none h1] at hk; cases hk
        rw [List.getElem?_eq_getElem hi]; simp
  · intro k cs hk
    simp only [mE] at hk
    have hm : m (.e k) = some (renL (kmap ks) cs) := by rw [hE]; simp [hk]
    obtain ⟨b, xs, ys, ty, fr, h1, h2, h3, h4⟩ := h.eb k _ hm
    exact ⟨b, xs, ys, ty, fr, h1, h2, RL.reix hre cs xs (hE2 cs (List.mem_of_getElem? hk)) h3, h4⟩
  · intro i cs hi
    simp only [mE] at hi
    have hlt : i < ks.length := by
      rw [← hlen]
      rcases Nat.lt_or_ge i L'.length with h1 | h1
      · exact h1
      · rw [List.getElem?_eq_none h1] at hi; cases hi
    obtain ⟨tail, hm⟩ := hL i ks[i] cs (List.getElem?_eq_getElem hlt) hi
    obtain ⟨b, xs, ys, ty, h1, h2, h3, h4⟩ := h.lb _ _ hm
    -- the tail is forgotten
    have hx : ∃ us vs, xs = us ++ vs ∧ RL r (renL (kmap ks) cs) us := by
      refine ⟨xs.take (renL (kmap ks) cs).length, xs.drop (renL (kmap ks) cs).length, by simp, ?_⟩
      have := h3.take (renL (kmap ks) cs).length
      simpa using this
    obtain ⟨us, vs, rfl, hR⟩ := hx
    exact ⟨b, us, vs ++ ys, ty, by simp only [List.getElem?_eq_getElem hlt, Option.bind_some]; exact h1, by rw [← List.append_assoc]; exact h2, RL.reix hre cs us (hL2 cs (List.mem_of_getElem? hi)) hR, fun y hy => h4 y (by simp [hy])⟩
  · intro i j b hi hj
    simp only at hi hj
    cases hki : ks[i]? with
    | none => rw [hki] at hi; cases hi
    | some k =>
      cases hkj : ks[j]? with
      | none => rw [hkj] at hj; cases hj
      | some k' =>
        rw [hki] at hi; rw [hkj] at hj
        have := h.ld k k' b hi hj
        subst this
        exact nodup_inj hd hki hkj
  · intro i b hi
    simp only at hi
    cases hki : ks[i]? with
    | none => rw [hki] at hi; cases hi
    | some k => rw [hki] at hi; exact h.lge k b hi

/-- The state, told in other names, or with less: the own blocks 'ks' stay, in this order. -/
def Wk (s s' : St) : Prop :=
  ∃ ks : List Nat, ks.Nodup ∧ (∀ k v, lk s'.t k = some v → ∃ u, lk s.t k = some u ∧ (u = v.ren (kmap ks) ∨ u.hid = v.ren (kmap ks)) ∧ v.lt ks.length) ∧
    s.e = s'.e.map (renL (kmap ks)) ∧ s'.m.length = ks.length ∧
    (∀ (i k : Nat) (c : List V), ks[i]? = some k → s'.m[i]? = some c → ∃ tail, s.m[k]? = some (renL (kmap ks) c ++ tail)) ∧ (∀ c ∈ s'.e, ltL ks.length c) ∧ (∀ c ∈ s'.m, ltL ks.length c)

def WkK (K : St → Prop) (s : St) : Prop := ∃ s', Wk s s' ∧ K s'

theorem wk_sound {s s' : St} (hrel : RelF ro W N r s.f a w) (h : Wk s s') : ∃ r', r'.e = r.e ∧ RelF ro W N r' s'.f a w := by
  obtain ⟨ks, hd, ht, hE, hlen, hL, hE2, hL2⟩ := h
  obtain ⟨h1, h2⟩ := Cn.reix (m := s.blk) (E' := s'.e) (L' := s'.m) hrel.c hd (fun k => by simp [St.blk, hE]) hlen (fun i k c hi hc => hL i k c hi hc) hE2 hL2
  refine ⟨⟨r.e, fun i => (ks[i]?).bind r.l⟩, rfl, ⟨?_, ?_, hrel.n, hrel.d⟩⟩
  · intro k v hk
    obtain ⟨u, hu, hor, hlt⟩ := ht k v hk
    have hR := hrel.t k u hu
    refine V.R.reix h2 v _ hlt ?_
    rcases hor with e | e
    · rw [← e]; exact hR
    · rw [← e]; exact V.R.hid u _ hR
  · have : s'.f.m = mE s'.e s'.m := by funext n; cases n <;> rfl
    rw [this]; exact h1
end
end Go.Ab
