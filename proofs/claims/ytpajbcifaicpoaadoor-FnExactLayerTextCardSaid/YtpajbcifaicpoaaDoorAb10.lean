/- A part of the proof library: names for blocks of memory, a small form of the code, and rules for walks over it. -/
import Derived.Test.YtpajbcifaicpoaaDoorAb9
set_option linter.all false
namespace Go.Ab

mutual
/-- A value under other names. -/
def V.ren (g : Nm → Nm) : V → V
  | .int k n => .int k n
  | .bool b => .bool b
  | .str s => .str s
  | .ptr n o => .ptr (g n) o
  | .nilptr => .nilptr
  | .sl n o l c => .sl (g n) o l c
  | .nilsl => .nilsl
  | .slx n o l => .slx (g n) o l
  | .fn f a b => .fn f (renL g a) (renL g b)
  | .agg cs => .agg (renL g cs)
  | .tup cs => .tup (renL g cs)
  | .raw v => .raw v
def renL (g : Nm → Nm) : List V → List V
  | [] => []
  | v :: vs => V.ren g v :: renL g vs
end

theorem renL_map (g : Nm → Nm) : ∀ l : List V, renL g l = l.map (V.ren g)
  | [] => rfl
  | v :: l => by simp [renL, renL_map g l]

mutual
/-- The value names blocks that came in alone, the first n of them. -/
def V.eo (n : Nat) : V → Prop
  | .ptr (.e i) _ => i < n
  | .ptr (.l _) _ => False
  | .sl (.e i) _ _ _ => i < n
  | .sl (.l _) _ _ _ => False
  | .slx (.e i) _ _ => i < n
  | .slx (.l _) _ _ => False
  | .fn _ a b => eoL n a ∧ eoL n b
  | .agg cs => eoL n cs
  | .tup cs => eoL n cs
  | _ => True
def eoL (n : Nat) : List V → Prop
  | [] => True
  | v :: vs => V.eo n v ∧ eoL n vs
end

theorem eoL_iff (n : Nat) : ∀ l : List V, eoL n l ↔ ∀ v ∈ l, V.eo n v
  | [] => by simp [eoL]
  | v :: l => by simp [eoL, eoL_iff n l]

mutual
theorem V.R.ren {r r' : Rho} {g : Nm → Nm} (h : ∀ n b, r.get n = some b → r'.get (g n) = some b) : ∀ (v : V) (x : Value), V.R r v x → V.R r' (v.ren g) x
  | .int .., _, hx => by simpa only [V.R, V.ren] using hx
  | .bool _, _, hx => by simpa only [V.R, V.ren] using hx
  | .str _, _, hx => by simpa only [V.R, V.ren] using hx
  | .ptr .., _, hx => by simp only [V.R, V.ren] at *; obtain ⟨b, hb, e⟩ := hx; exact ⟨b, h _ _ hb, e⟩
  | .nilptr, _, hx => by simpa only [V.R, V.ren] using hx
  | .sl .., _, hx => by simp only [V.R, V.ren] at *; obtain ⟨b, hb, e⟩ := hx; exact ⟨b, h _ _ hb, e⟩
  | .nilsl, _, hx => by simpa only [V.R, V.ren] using hx
  | .slx .., _, hx => by simp only [V.R, V.ren] at *; obtain ⟨b, cap, hb, e⟩ := hx; exact ⟨b, cap, h _ _ hb, e⟩
  | .fn _ a b, _, hx => by simp only [V.R, V.ren] at *; obtain ⟨xs, ys, e, h1, h2⟩ := hx; exact ⟨xs, ys, e, RL.ren h a xs h1, RL.ren h b ys h2⟩
  | .agg a, _, hx => by simp only [V.R, V.ren] at *; obtain ⟨xs, e, h1, h2⟩ := hx; exact ⟨xs, e, RL.ren h a xs h1, h2⟩
  | .tup a, _, hx => by simp only [V.R, V.ren] at *; obtain ⟨xs, e, h1⟩ := hx; exact ⟨xs, e, RL.ren h a xs h1⟩
  | .raw _, _, hx => by simpa only [V.R, V.ren] using hx
theorem RL.ren {r r' : Rho} {g : Nm → Nm} (h : ∀ n b, r.get n = some b → r'.get (g n) = some b) : ∀ (vs : List V) (xs : List Value), RL r vs xs → RL r' (renL g vs) xs
  | [], _, hx => by simpa only [RL, renL] using hx
  | v :: vs, _, hx => by simp only [RL, renL] at *; obtain ⟨x, ys, e, h1, h2⟩ := hx; exact ⟨x, ys, e, V.R.ren h v x h1, RL.ren h vs ys h2⟩
end

mutual
theorem V.R.unren {r r' : Rho} {g : Nm → Nm} {n : Nat} (h : ∀ i b, i < n → r'.get (g (.e i)) = some b → r.get (.e i) = some b) : ∀ (v : V) (x : Value), v.eo n → V.R r' (v.ren g) x → V.R r v x
  | .int .., _, _, hx => by simpa only [V.R, V.ren] using hx
  | .bool _, _, _, hx => by simpa only [V.R, V.ren] using hx
  | .str _, _, _, hx => by simpa only [V.R, V.ren] using hx
  | .ptr (.e i) _, _, he, hx => by simp only [V.R, V.ren] at *; obtain ⟨b, hb, e⟩ := hx; exact ⟨b, h _ _ he hb, e⟩
  | .ptr (.l i) _, _, he, _ => by simp [V.eo] at he
  | .nilptr, _, _, hx => by simpa only [V.R, V.ren] using hx
  | .sl (.e i) _ _ _, _, he, hx => by simp only [V.R, V.ren] at *; obtain ⟨b, hb, e⟩ := hx; exact ⟨b, h _ _ he hb, e⟩
  | .sl (.l i) _ _ _, _, he, _ => by simp [V.eo] at he
  | .nilsl, _, _, hx => by simpa only [V.R, V.ren] using hx
  | .slx (.e i) _ _, _, he, hx => by simp only [V.R, V.ren] at *; obtain ⟨b, cap, hb, e⟩ := hx; exact ⟨b, cap, h _ _ he hb, e⟩
  | .slx (.l i) _ _, _, he, _ => by simp [V.eo] at he
  | .fn _ a b, _, he, hx => by simp only [V.R, V.ren, V.eo] at *; obtain ⟨xs, ys, e, h1, h2⟩ := hx; exact ⟨xs, ys, e, RL.unren h a xs he.1 h1, RL.unren h b ys he.2 h2⟩
  | .agg a, _, he, hx => by simp only [V.R, V.ren, V.eo] at *; obtain ⟨xs, e, h1, h2⟩ := hx; exact ⟨xs, e, RL.unren h a xs he h1, h2⟩
  | .tup a, _, he, hx => by simp only [V.R, V.ren, V.eo] at *; obtain ⟨xs, e, h1⟩ := hx; exact ⟨xs, e, RL.unren h a xs he h1⟩
  | .raw _, _, _, hx => by simpa only [V.R, V.ren] using hx
theorem RL.unren {r r' : Rho} {g : Nm → Nm} {n : Nat} (h : ∀ i b, i < n → r'.get (g (.e i)) = some b → r.get (.e i) = some b) : ∀ (vs : List V) (xs : List Value), eoL n vs → RL r' (renL g vs) xs → RL r vs xs
  | [], _, _, hx => by simpa only [RL, renL] using hx
  | v :: vs, _, he, hx => by simp only [RL, renL, eoL] at *; obtain ⟨x, ys, e, h1, h2⟩ := hx; exact ⟨x, ys, e, V.R.unren h v x he.1 h1, RL.unren h vs ys he.2 h2⟩
end

mutual
/-- A slice's capacity is forgotten. -/
def V.hid : V → V
  | .sl n o len cap => if len ≤ cap then .slx n o len else .sl n o len cap
  | .tup vs => .tup (hidL vs)
  | v => v
def hidL : List V → List V
  | [] => []
  | v :: vs => V.hid v :: hidL vs
end
mutual
theorem V.R.hid {r : Rho} : ∀ (v : V) (x : Value), V.R r v x → V.R r v.hid x
  | .int .., _, hx => by simpa only [V.hid] using hx
  | .bool _, _, hx => by simpa only [V.hid] using hx
  | .str _, _, hx => by simpa only [V.hid] using hx
  | .ptr .., _, hx => by simpa only [V.hid] using hx
  | .nilptr, _, hx => by simpa only [V.hid] using hx
  | .sl n o len cap, x, hx => by
    simp only [V.hid]
    split
    · rename_i hle
      simp only [V.R] at *; obtain ⟨b, hb, e⟩ := hx; exact ⟨b, cap, hb, e, hle⟩
    · exact hx
  | .nilsl, _, hx => by simpa only [V.hid] using hx
  | .slx .., _, hx => by simpa only [V.hid] using hx
  | .fn .., _, hx => by simpa only [V.hid] using hx
  | .agg _, _, hx => by simpa only [V.hid] using hx
  | .tup a, _, hx => by simp only [V.R, V.hid] at *; obtain ⟨xs, e, h1⟩ := hx; exact ⟨xs, e, RL.hid a xs h1⟩
  | .raw _, _, hx => by simpa only [V.hid] using hx
theorem RL.hid {r : Rho} : ∀ (vs : List V) (xs : List Value), RL r vs xs → RL r (hidL vs) xs
  | [], _, hx => by simpa only [RL, hidL] using hx
  | v :: vs, _, hx => by simp only [RL, hidL] at *; obtain ⟨x, ys, e, h1, h2⟩ := hx; exact ⟨x, ys, e, V.R.hid v x h1, RL.hid vs ys h2⟩
end

/-- Memory out of two lists. -/
def mE (E L : List (List V)) : Mem
  | .e k => E[k]?
  | .l k => L[k]?

/-- **A contract**: called with these arguments, where the blocks that came in hold this, the function returns a value, and leaves the blocks and new ones as 'Post' says; nothing else has changed. -/
def Ct (P : Program) (ro : Bool) (f : FuncId) (args : List V) (E : List (List V)) (Post : V → List (List V) → List (List V) → Prop) : Prop :=
  ∀ (W : World) (r : Rho) (w : World) (xs : List Value), r.l = (fun _ => none) → Cn ro W r (mE E []) w → RL r args xs →
    Calls P f (List.toArray xs) w (fun e w' => ∃ (x : Value) (r' : Rho) (v : V) (E' L' : List (List V)), e = .returned x ∧ r'.e = r.e ∧ Post v E' L' ∧ V.R r' v x ∧ Cn ro W r' (mE E' L') w')

def nmap (sig : List Nm) (base : Nat) : Nm → Nm
  | .e i => sig.getD i (.e i)
  | .l k => .l (base + k)

def newL (b : Nat) : List (List V) → List (Nm × List V)
  | [] => []
  | c :: cs => (.l b, c) :: newL (b + 1) cs

theorem chL_newL_l : ∀ (L : List (List V)) (b k : Nat), chL (newL b L) (.l k) = if b ≤ k then L[k - b]? else none
  | [], b, k => by simp [newL, chL]
  | c :: L, b, k => by
    simp only [newL, chL, chL_newL_l L (b + 1) k, Nm.l.injEq]
    by_cases h : b = k
    · subst h; simp
    · rw [if_neg h]
      by_cases h1 : b + 1 ≤ k
      · rw [if_pos h1, if_pos (by omega), show k - b = (k - (b + 1)) + 1 by omega]; simp
      · rw [if_neg h1, if_neg (by omega)]

theorem chL_newL_e : ∀ (L : List (List V)) (b k : Nat), chL (newL b L) (.e k) = none
  | [], b, k => by simp [newL, chL]
  | c :: L, b, k => by simp [newL, chL, chL_newL_e L (b + 1) k]

theorem chL_append (a b : List (Nm × List V)) (n : Nm) : chL (a ++ b) n = match chL a n with | some c => some c | none => chL b n := by
  induction a with
  | nil => simp [chL]
  | cons p a ih =>
    obtain ⟨k, c⟩ := p
    simp only [List.cons_append, chL]
    by_cases h : k = n
    · simp [h]
    · rw [if_neg h, if_neg h, ih]

theorem chL_zip_none : ∀ (sig : List Nm) (E : List (List V)) (n : Nm), n ∉ sig → chL (sig.zip E) n = none
  | [], _, _, _ => by simp [chL]
  | s :: sig, [], n, _ => by simp [chL]
  | s :: sig, c :: E, n, h => by
    simp only [List.zip_cons_cons, chL]
    rw [if_neg (fun e => h (by simp [e]))]
    exact chL_zip_none sig E n (fun hm => h (by simp [hm]))

theorem chL_zip_some : ∀ (sig : List Nm) (E : List (List V)) (i : Nat) (n : Nm) (c : List V), sig.Nodup → sig[i]? = some n → E[i]? = some c → chL (sig.zip E) n = some c
  | [], _, i, n, c, _, h, _ => by simp at h
  | s :: sig, [], i, n, c, _, _, h => by simp at h
  | s :: sig, c' :: E, i, n, c, hd, h1, h2 => by
    simp only [List.zip_cons_cons, chL]
    obtain ⟨hs, hd'⟩ := List.nodup_cons.1 hd
    cases i with
    | zero => simp at h1 h2; subst h1; subst h2; simp
    | succ i =>
      simp at h1 h2
      rw [if_neg (fun e => hs (by rw [e]; exact List.mem_of_getElem? h1))]
      exact chL_zip_some sig E i n c hd' h1 h2

/-- Whether a contract at 'ro'' serves for the blocks 'sig' where the caller's are at 'ro'. -/
def roFits (ro ro' : Bool) (sig : List Nm) : Bool :=
  match ro' with
  | false => !ro || sig.all fun n => !isE n
  | true => ro && sig.all isE

def calleeRho (r : Rho) (sig : List Nm) : Rho := ⟨sig.map fun n => (r.get n).getD 0, fun _ => none⟩

def callRho (r : Rho) (r0 : Rho) (base : Nat) : Rho := ⟨r.e, fun k => match r.l k with | some b => some b | none => if base ≤ k then r0.l (k - base) else none⟩

/-- The blocks of the call, in the caller's memory. -/
structure SigOk (m : Mem) (sig : List Nm) (base : Nat) (E : List (List V)) : Prop where
  d : sig.Nodup
  len : E.length = sig.length
  at_ : ∀ (i : Nat) (n : Nm), sig[i]? = some n → ∃ c, E[i]? = some c ∧ m n = some (renL (nmap sig base) c) ∧ eoL sig.length c

section
variable {ro ro' : Bool} {W w w' : World} {r r0 : Rho} {m : Mem} {sig : List Nm} {E E' L' : List (List V)} {base : Nat}

theorem sig_get (hC : Cn ro W r m w) (hE : SigOk m sig base E) {i : Nat} {n : Nm} (h : sig[i]? = some n) : ∃ b, r.get n = some b ∧ (calleeRho r sig).e[i]? = some b := by
  obtain ⟨c, _, h1, _⟩ := hE.at_ i n h
  obtain ⟨b, _, _, _, _, hb, _⟩ := hC.blk_at h1
  exact ⟨b, hb, by simp [calleeRho, h, hb]⟩

theorem callee_unren (hC : Cn ro W r m w) (hE : SigOk m sig base E) : ∀ i b, i < sig.length → r.get (nmap sig base (.e i)) = some b → (calleeRho r sig).get (.e i) = some b := by
  intro i b hi hb
  have hs : sig[i]? = some sig[i] := List.getElem?_eq_getElem hi
  obtain ⟨b', h1, h2⟩ := sig_get hC hE hs
  simp only [nmap, List.getD_eq_getElem?_getD, hs, Option.getD_some] at hb
  rw [hb] at h1; cases h1
  exact h2

theorem Cn.callee (hC : Cn ro W r m w) (hE : SigOk m sig base E) (hro : ro' = true ∨ roFits ro ro' sig = true) : Cn ro' w (calleeRho r sig) (mE E []) w := by
  have hget : ∀ (i b : Nat), (calleeRho r sig).e[i]? = some b → ∃ n, sig[i]? = some n ∧ r.get n = some b := fun i b hb => by
    simp only [calleeRho, List.getElem?_map] at hb
    cases hs : sig[i]? with
    | none => simp [hs] at hb
    | some n =>
      obtain ⟨b', h1, _⟩ := sig_get hC hE hs
      simp [hs, h1] at hb
      subst hb
      exact ⟨n, rfl, h1⟩
  refine ⟨?_, ?_, ?_, ?_, ?_, ?_, ?_, fun _ _ _ => rfl, Nat.le_refl _, rfl, rfl, rfl⟩
  · intro n b hb
    cases n with
    | e i =>
      obtain ⟨n, hs, _⟩ := hget i b hb
      obtain ⟨c, h2, _⟩ := hE.at_ i n hs
      simp [mE, h2]
    | l k => simp [Rho.get, calleeRho] at hb
  · intro i cs hi
    simp only [mE] at hi
    have hlt : i < sig.length := by
      rw [← hE.len]
      rcases Nat.lt_or_ge i E.length with h | h
      · exact h
      · rw [List.getElem?_eq_none h] at hi; cases hi
    have hs : sig[i]? = some sig[i] := List.getElem?_eq_getElem hlt
    obtain ⟨c, h2, h1, heo⟩ := hE.at_ i _ hs
    rw [hi] at h2; cases h2
    obtain ⟨b, hb1, hb2⟩ := sig_get hC hE hs
    have hun := callee_unren hC hE
    generalize hn : sig[i] = n at *
    cases n with
    | e k =>
      obtain ⟨b', xs, ys, ty, fr, g1, g2, g3, g4⟩ := hC.eb k _ h1
      rw [show r.e[k]? = some b from hb1] at g1; cases g1
      refine ⟨b, xs, ys, ty, fr, hb2, g2, RL.unren hun cs xs heo g3, fun h => g4 ?_⟩
      subst h
      rcases hro with hro | hro
      · cases hro
      simp only [roFits, Bool.or_eq_true, Bool.not_eq_true', List.all_eq_true] at hro
      rcases hro with hro | hro
      · exact hro
      · have := hro (.e k) (List.mem_of_getElem? hs)
        simp [isE] at this
    | l k =>
      obtain ⟨b', xs, ys, ty, g1, ⟨fr, g2, gT⟩, g3, g4⟩ := hC.lb k _ h1
      rw [show r.l k = some b from hb1] at g1; cases g1
      exact ⟨b, xs, ys, ty, fr, hb2, g2, RL.unren hun cs xs heo g3, fun _ => ⟨gT, g4⟩⟩
  · intro k cs hk; simp [mE] at hk
  · have : ∀ (l : List Nm), l.Nodup → (∀ n ∈ l, ∃ b, r.get n = some b) → (l.map fun n => (r.get n).getD 0).Nodup := by
      intro l
      induction l with
      | nil => intro _ _; simp
      | cons n l ih =>
        intro hd hg
        obtain ⟨h1, h2⟩ := List.nodup_cons.1 hd
        rw [List.map_cons, List.nodup_cons]
        refine ⟨?_, ih h2 (fun n hn => hg n (by simp [hn]))⟩
        intro hmem
        obtain ⟨n', hn', he⟩ := List.mem_map.1 hmem
        obtain ⟨b, hb⟩ := hg n (by simp)
        obtain ⟨b', hb'⟩ := hg n' (by simp [hn'])
        simp only [hb, hb', Option.getD_some] at he
        subst he
        have := hC.inj hb hb'
        subst this
        exact h1 hn'
    exact this sig hE.d (fun n hn => by
      obtain ⟨i, hi⟩ := List.getElem?_of_mem hn
      obtain ⟨b, hb, _⟩ := sig_get hC hE hi
      exact ⟨b, hb⟩)
  · intro i j b hi; simp [calleeRho] at hi
  · intro b hb
    obtain ⟨i, hi⟩ := List.getElem?_of_mem hb
    obtain ⟨n, _, h2⟩ := hget i b hi
    exact hC.lt_size h2
  · intro k b hb; simp [calleeRho] at hb

/-- What the call has left, in the caller's names. -/
def callCh (sig : List Nm) (base : Nat) (E' L' : List (List V)) : List (Nm × List V) :=
  sig.zip (E'.map (renL (nmap sig base))) ++ newL base (L'.map (renL (nmap sig base)))

theorem callCh_sig (hd : sig.Nodup) {i : Nat} {n : Nm} {c : List V} (h1 : sig[i]? = some n) (h2 : E'[i]? = some c) : chL (callCh sig base E' L') n = some (renL (nmap sig base) c) := by
  unfold callCh
  rw [chL_append, chL_zip_some sig _ i n (renL (nmap sig base) c) hd h1 (by simp [h2])]

theorem callCh_e {k : Nat} (h : Nm.e k ∉ sig) : chL (callCh sig base E' L') (.e k) = none := by
  unfold callCh
  rw [chL_append, chL_zip_none _ _ _ h, chL_newL_e]

theorem callCh_l {k : Nat} (h : Nm.l k ∉ sig) : chL (callCh sig base E' L') (.l k) = if base ≤ k then (L'[k - base]?).map (renL (nmap sig base)) else none := by
  unfold callCh
  rw [chL_append, chL_zip_none _ _ _ h, chL_newL_l]
  simp

/-- **Behind a call the caller's memory is as the contract says.** -/
theorem Cn.back (hC : Cn ro W r m w) (hE : SigOk m sig base E) (hro : roFits ro ro' sig = true) (hfree : ∀ j, j < L'.length → m (.l (base + j)) = none)
    (hC' : Cn ro' w r0 (mE E' L') w') (he : r0.e = (calleeRho r sig).e) :
    Cn ro W (callRho r r0 base) (fun n => match chL (callCh sig base E' L') n with | some c => some c | none => m n) w' ∧ r.Sub (callRho r r0 base) ∧
      (∀ n b, r0.get n = some b → (callRho r r0 base).get (nmap sig base n) = some b) := by
  have hE'len : ∀ i n, sig[i]? = some n → ∃ c, E'[i]? = some c := fun i n hs => by
    obtain ⟨b, _, h2⟩ := sig_get hC hE hs
    have := hC'.nm (.e i) b (by simp only [Rho.get, he]; exact h2)
    simp only [mE] at this
    cases hh : E'[i]? with
    | none => exact absurd hh this
    | some c => exact ⟨c, hh⟩
  have hnew : ∀ j b, r0.l j = some b → j < L'.length ∧ w.heap.size ≤ b := fun j b hb => by
    have := hC'.nm (.l j) b hb
    simp only [mE] at this
    refine ⟨?_, hC'.lge j b hb⟩
    rcases Nat.lt_or_ge j L'.length with h | h
    · exact h
    · exact absurd (List.getElem?_eq_none h) this
  have hlfree : ∀ j, j < L'.length → r.l (base + j) = none := fun j hj => hC.free (hfree j hj)
  have hsub : r.Sub (callRho r r0 base) := fun n b hb => by
    cases n with
    | e k => exact hb
    | l k => simp only [Rho.get, callRho] at *; rw [hb]
  have hren : ∀ n b, r0.get n = some b → (callRho r r0 base).get (nmap sig base n) = some b := fun n b hb => by
    cases n with
    | e i =>
      simp only [Rho.get, he] at hb
      have hlt : i < sig.length := by
        rcases Nat.lt_or_ge i sig.length with h | h
        · exact h
        · rw [List.getElem?_eq_none (by simp [calleeRho]; exact h)] at hb; cases hb
      have hs : sig[i]? = some sig[i] := List.getElem?_eq_getElem hlt
      obtain ⟨b', h1, h2⟩ := sig_get hC hE hs
      rw [hb] at h2; cases h2
      simp only [nmap, List.getD_eq_getElem?_getD, hs, Option.getD_some]
      exact hsub _ _ h1
    | l j =>
      simp only [Rho.get] at hb
      obtain ⟨hj, _⟩ := hnew j b hb
      simp only [nmap, Rho.get, callRho, hlfree j hj]
      rw [if_pos (by omega), show base + j - base = j by omega]
      exact hb
  -- the heap at names outside the call's blocks
  have hsame : ∀ n b, r.get n = some b → n ∉ sig → w'.heap[b]? = w.heap[b]? := fun n b hb hn => by
    refine hC'.frame b (hC.lt_size hb) (.inr ?_)
    rw [he]
    intro hmem
    obtain ⟨i, hi⟩ := List.getElem?_of_mem hmem
    have hlt : i < sig.length := by
      rcases Nat.lt_or_ge i sig.length with h | h
      · exact h
      · rw [List.getElem?_eq_none (by simp [calleeRho]; exact h)] at hi; cases hi
    have hs : sig[i]? = some sig[i] := List.getElem?_eq_getElem hlt
    obtain ⟨b', h1, h2⟩ := sig_get hC hE hs
    rw [hi] at h2; cases h2
    have := hC.inj hb h1
    subst this
    exact hn (List.getElem_mem hlt)
  have hshi : ∀ k, r.l k = none → ∀ b, (callRho r r0 base).l k = some b → base ≤ k ∧ r0.l (k - base) = some b := fun k hk b hb => by
    simp only [callRho, hk] at hb
    split at hb
    · rename_i h; exact ⟨h, hb⟩
    · cases hb
  refine ⟨⟨?_, ?_, ?_, hC.ed, ?_, hC.elt, ?_, ?_, Nat.le_trans hC.size hC'.size, hC'.os.trans hC.os, hC'.tape.trans hC.tape, hC'.output.trans hC.output⟩, hsub, hren⟩
  · intro n b hb
    by_cases hs : n ∈ sig
    · obtain ⟨i, hi⟩ := List.getElem?_of_mem hs
      obtain ⟨c, hc⟩ := hE'len i n hi
      simp [callCh_sig hE.d hi hc]
    · cases n with
      | e k => simp only [callCh_e hs]; exact hC.nm (.e k) b hb
      | l k =>
        cases hk : r.l k with
        | some b' =>
          have hm := hC.nm (.l k) b' hk
          simp only [callCh_l hs]
          split
          · simp
          · exact hm
        | none =>
          obtain ⟨h1, h2⟩ := hshi k hk b hb
          obtain ⟨h3, _⟩ := hnew _ _ h2
          simp only [callCh_l hs, if_pos h1, List.getElem?_eq_getElem h3]
          simp
  · intro k cs hk
    by_cases hs : Nm.e k ∈ sig
    · obtain ⟨i, hi⟩ := List.getElem?_of_mem hs
      obtain ⟨c, hc⟩ := hE'len i _ hi
      simp only [callCh_sig hE.d hi hc, Option.some.injEq] at hk
      subst hk
      obtain ⟨b, hb1, hb2⟩ := sig_get hC hE hi
      obtain ⟨b', xs, ys, ty, fr, g1, g2, g3, g4⟩ := hC'.eb i c hc
      rw [he, hb2] at g1; cases g1
      refine ⟨b, xs, ys, ty, fr, hb1, g2, RL.ren hren c xs g3, fun h => ?_⟩
      subst h
      cases ro' with
      | false => exact g4 rfl
      | true => simp [roFits] at hro
    · simp only [callCh_e hs] at hk
      obtain ⟨b, xs, ys, ty, fr, g1, g2, g3, g4⟩ := hC.eb k cs hk
      exact ⟨b, xs, ys, ty, fr, g1, by rw [hsame (.e k) b g1 hs]; exact g2, RL.mono hsub _ _ g3, g4⟩
  · intro k cs hk
    by_cases hs : Nm.l k ∈ sig
    · obtain ⟨i, hi⟩ := List.getElem?_of_mem hs
      obtain ⟨c, hc⟩ := hE'len i _ hi
      simp only [callCh_sig hE.d hi hc, Option.some.injEq] at hk
      subst hk
      obtain ⟨b, hb1, hb2⟩ := sig_get hC hE hi
      obtain ⟨b', xs, ys, ty, fr, g1, g2, g3, g4⟩ := hC'.eb i c hc
      rw [he, hb2] at g1; cases g1
      have hro'f : ro' = false := by
        cases ro' with
        | false => rfl
        | true =>
          simp only [roFits, Bool.and_eq_true, List.all_eq_true] at hro
          have := hro.2 _ hs
          simp [isE] at this
      obtain ⟨e0, hones⟩ := g4 hro'f
      exact ⟨b, xs, ys, ty, hsub (.l k) b hb1, ⟨fr, g2, e0⟩, RL.ren hren c xs g3, hones⟩
    · simp only [callCh_l hs] at hk
      split at hk
      · rename_i c hc
        cases hk
        split at hc
        · rename_i hbk
          cases hL : L'[k - base]? with
          | none => rw [hL] at hc; cases hc
          | some c0 =>
            rw [hL] at hc
            simp only [Option.map_some, Option.some.injEq] at hc
            subst hc
            have hlt : k - base < L'.length := by
              rcases Nat.lt_or_ge (k - base) L'.length with h | h
              · exact h
              · rw [List.getElem?_eq_none h] at hL; cases hL
            obtain ⟨b, xs, ys, ty, g1, g2, g3, g4⟩ := hC'.lb (k - base) c0 hL
            have := hren (.l (k - base)) b g1
            simp only [nmap, show base + (k - base) = k by omega] at this
            exact ⟨b, xs, ys, ty, this, g2, RL.ren hren c0 xs g3, g4⟩
        · cases hc
      · obtain ⟨b, xs, ys, ty, g1, g2, g3, g4⟩ := hC.lb k cs hk
        exact ⟨b, xs, ys, ty, hsub (.l k) b g1, g2.of (hsame (.l k) b g1 hs), RL.mono hsub _ _ g3, g4⟩
  · intro i j b hi hj
    cases hri : r.l i with
    | some b1 =>
      have e1 : b1 = b := by simp only [callRho, hri] at hi; cases hi; rfl
      subst e1
      cases hrj : r.l j with
      | some b2 =>
        have e2 : b2 = b1 := by simp only [callRho, hrj] at hj; cases hj; rfl
        subst e2
        exact hC.ld i j b2 hri hrj
      | none =>
        obtain ⟨_, h2⟩ := hshi j hrj b1 hj
        have := (hnew _ _ h2).2
        have := hC.lt_size (n := .l i) hri
        omega
    | none =>
      obtain ⟨h1, h2⟩ := hshi i hri b hi
      cases hrj : r.l j with
      | some b2 =>
        have e2 : b2 = b := by simp only [callRho, hrj] at hj; cases hj; rfl
        subst e2
        have := (hnew _ _ h2).2
        have := hC.lt_size (n := .l j) hrj
        omega
      | none =>
        obtain ⟨h3, h4⟩ := hshi j hrj b hj
        have := hC'.ld _ _ b h2 h4
        omega
  · intro k b hb
    cases hk : r.l k with
    | some b' =>
      have e1 : b' = b := by simp only [callRho, hk] at hb; cases hb; rfl
      subst e1
      exact hC.lge k b' hk
    | none =>
      obtain ⟨_, h2⟩ := hshi k hk b hb
      have := (hnew _ _ h2).2
      have := hC.size
      omega
  · intro b hb hn
    rw [hC'.frame b (Nat.lt_of_lt_of_le hb hC.size) ?_]
    · exact hC.frame b hb hn
    · cases hro'' : ro' with
      | true => exact .inl rfl
      | false =>
        right
        rw [he]
        intro hmem
        obtain ⟨i, hi⟩ := List.getElem?_of_mem hmem
        have hlt : i < sig.length := by
          rcases Nat.lt_or_ge i sig.length with h | h
          · exact h
          · rw [List.getElem?_eq_none (by simp [calleeRho]; exact h)] at hi; cases hi
        have hs : sig[i]? = some sig[i] := List.getElem?_eq_getElem hlt
        obtain ⟨b', h1, h2⟩ := sig_get hC hE hs
        rw [hi] at h2; cases h2
        have hmem' : sig[i] ∈ sig := List.getElem_mem hlt
        generalize sig[i] = n at *
        cases n with
        | e k =>
          rcases hn with hn | hn
          · subst hn; subst hro''
            simp only [roFits, Bool.or_eq_true, List.all_eq_true] at hro
            rcases hro with hro | hro
            · simp at hro
            · have := hro _ hmem'; simp [isE] at this
          · exact hn (List.mem_of_getElem? (show r.e[k]? = some b from h1))
        | l k => have := hC.lge k b h1; omega

/-- The blocks of a call that only reads: their first cells. -/
structure SigOkR (m : Mem) (sig : List Nm) (base : Nat) (E : List (List V)) : Prop where
  d : sig.Nodup
  len : E.length = sig.length
  at_ : ∀ (i : Nat) (n : Nm), sig[i]? = some n → ∃ c tail, E[i]? = some c ∧ m n = some (renL (nmap sig base) c ++ tail) ∧ eoL sig.length c
theorem SigOk.first {m : Mem} {sig : List Nm} {base : Nat} {E : List (List V)} (h : SigOk m sig base E) : SigOkR m sig base E :=
  ⟨h.d, h.len, fun i n hi => let ⟨c, h1, h2, h3⟩ := h.at_ i n hi; ⟨c, [], h1, by rw [List.append_nil]; exact h2, h3⟩⟩
theorem sig_getR (hC : Cn ro W r m w) (hE : SigOkR m sig base E) {i : Nat} {n : Nm} (h : sig[i]? = some n) : ∃ b, r.get n = some b ∧ (calleeRho r sig).e[i]? = some b := by
  obtain ⟨c, tail, _, h1, _⟩ := hE.at_ i n h
  obtain ⟨b, _, _, _, _, hb, _⟩ := hC.blk_at h1
  exact ⟨b, hb, by simp [calleeRho, h, hb]⟩
theorem callee_unrenR (hC : Cn ro W r m w) (hE : SigOkR m sig base E) : ∀ i b, i < sig.length → r.get (nmap sig base (.e i)) = some b → (calleeRho r sig).get (.e i) = some b := by
  intro i b hi hb
  have hs : sig[i]? = some sig[i] := List.getElem?_eq_getElem hi
  obtain ⟨b', h1, h2⟩ := sig_getR hC hE hs
  simp only [nmap, List.getD_eq_getElem?_getD, hs, Option.getD_some] at hb
  rw [hb] at h1; cases h1
  exact h2
theorem Cn.calleeR (hC : Cn ro W r m w) (hE : SigOkR m sig base E) : Cn true w (calleeRho r sig) (mE E []) w := by
  have hget : ∀ (i b : Nat), (calleeRho r sig).e[i]? = some b → ∃ n, sig[i]? = some n ∧ r.get n = some b := fun i b hb => by
    simp only [calleeRho, List.getElem?_map] at hb
    cases hs : sig[i]? with
    | none => simp [hs] at hb
    | some n =>
      obtain ⟨b', h1, _⟩ := sig_getR hC hE hs
      simp [hs, h1] at hb
      subst hb
      exact ⟨n, rfl, h1⟩
  refine ⟨?_, ?_, ?_, ?_, ?_, ?_, ?_, fun _ _ _ => rfl, Nat.le_refl _, rfl, rfl, rfl⟩
  · intro n b hb
    cases n with
    | e i =>
      obtain ⟨n, hs, _⟩ := hget i b hb
      obtain ⟨c, _, h2, _⟩ := hE.at_ i n hs
      simp [mE, h2]
    | l k => simp [Rho.get, calleeRho] at hb
  · intro i cs hi
    simp only [mE] at hi
    have hlt : i < sig.length := by
      rw [← hE.len]
      rcases Nat.lt_or_ge i E.length with h | h
      · exact h
      · rw [List.getElem?_eq_none h] at hi; cases hi
    have hs : sig[i]? = some sig[i] := List.getElem?_eq_getElem hlt
    obtain ⟨c, tail, h2, h1, heo⟩ := hE.at_ i _ hs
    rw [hi] at h2; cases h2
    obtain ⟨b, hb1, hb2⟩ := sig_getR hC hE hs
    have hun := callee_unrenR hC hE
    obtain ⟨b', xs, ys, ty, fr, g1, g2, g3⟩ := hC.blk_at h1
    rw [hb1] at g1; cases g1
    have hR := g3.take (renL (nmap sig base) cs).length
    rw [List.take_left] at hR
    refine ⟨b, xs.take (renL (nmap sig base) cs).length, xs.drop (renL (nmap sig base) cs).length ++ ys, ty, fr, hb2, ?_, RL.unren hun cs _ heo hR, fun h => by cases h⟩
    rw [← List.append_assoc, List.take_append_drop]
    exact g2
  · intro k cs hk; simp [mE] at hk
  · have : ∀ (l : List Nm), l.Nodup → (∀ n ∈ l, ∃ b, r.get n = some b) → (l.map fun n => (r.get n).getD 0).Nodup := by
      intro l
      induction l with
      | nil => intro _ _; simp
      | cons n l ih =>
        intro hd hg
        obtain ⟨h1, h2⟩ := List.nodup_cons.1 hd
        rw [List.map_cons, List.nodup_cons]
        refine ⟨?_, ih h2 (fun n hn => hg n (by simp [hn]))⟩
        intro hmem
        obtain ⟨n', hn', he⟩ := List.mem_map.1 hmem
        obtain ⟨b, hb⟩ := hg n (by simp)
        obtain ⟨b', hb'⟩ := hg n' (by simp [hn'])
        simp only [hb, hb', Option.getD_some] at he
        subst he
        have := hC.inj hb hb'
        subst this
        exact h1 hn'
    exact this sig hE.d (fun n hn => by
      obtain ⟨i, hi⟩ := List.getElem?_of_mem hn
      obtain ⟨b, hb, _⟩ := sig_getR hC hE hi
      exact ⟨b, hb⟩)
  · intro i j b hi; simp [calleeRho] at hi
  · intro b hb
    obtain ⟨i, hi⟩ := List.getElem?_of_mem hb
    obtain ⟨n, _, h2⟩ := hget i b hi
    exact hC.lt_size h2
  · intro k b hb; simp [calleeRho] at hb

/-- **Behind a call that only reads, the caller's memory is as it was, and there are new blocks.** -/
theorem Cn.backR (hC : Cn ro W r m w) (hE : SigOkR m sig base E) (hfree : ∀ j, j < L'.length → m (.l (base + j)) = none)
    (hC' : Cn true w r0 (mE E' L') w') (he : r0.e = (calleeRho r sig).e) :
    Cn ro W (callRho r r0 base) (fun n => match chL (callCh sig base [] L') n with | some c => some c | none => m n) w' ∧ r.Sub (callRho r r0 base) ∧
      (∀ n b, r0.get n = some b → (callRho r r0 base).get (nmap sig base n) = some b) := by
  have hch : callCh sig base [] L' = newL base (L'.map (renL (nmap sig base))) := by simp [callCh]
  rw [hch]
  have hnew : ∀ j b, r0.l j = some b → j < L'.length ∧ w.heap.size ≤ b := fun j b hb => by
    have := hC'.nm (.l j) b hb
    simp only [mE] at this
    refine ⟨?_, hC'.lge j b hb⟩
    rcases Nat.lt_or_ge j L'.length with h | h
    · exact h
    · exact absurd (List.getElem?_eq_none h) this
  have hlfree : ∀ j, j < L'.length → r.l (base + j) = none := fun j hj => hC.free (hfree j hj)
  have hsub : r.Sub (callRho r r0 base) := fun n b hb => by
    cases n with
    | e k => exact hb
    | l k => simp only [Rho.get, callRho] at *; rw [hb]
  have hren : ∀ n b, r0.get n = some b → (callRho r r0 base).get (nmap sig base n) = some b := fun n b hb => by
    cases n with
    | e i =>
      simp only [Rho.get, he] at hb
      have hlt : i < sig.length := by
        rcases Nat.lt_or_ge i sig.length with h | h
        · exact h
        · rw [List.getElem?_eq_none (by simp [calleeRho]; exact h)] at hb; cases hb
      have hs : sig[i]? = some sig[i] := List.getElem?_eq_getElem hlt
      obtain ⟨b', h1, h2⟩ := sig_getR hC hE hs
      rw [hb] at h2; cases h2
      simp only [nmap, List.getD_eq_getElem?_getD, hs, Option.getD_some]
      exact hsub _ _ h1
    | l j =>
      simp only [Rho.get] at hb
      obtain ⟨hj, _⟩ := hnew j b hb
      simp only [nmap, Rho.get, callRho, hlfree j hj]
      rw [if_pos (by omega), show base + j - base = j by omega]
      exact hb
  have hsame : ∀ n b, r.get n = some b → w'.heap[b]? = w.heap[b]? := fun n b hb => hC'.frame b (hC.lt_size hb) (.inl rfl)
  have hshi : ∀ k, r.l k = none → ∀ b, (callRho r r0 base).l k = some b → base ≤ k ∧ r0.l (k - base) = some b := fun k hk b hb => by
    simp only [callRho, hk] at hb
    split at hb
    · rename_i h; exact ⟨h, hb⟩
    · cases hb
  refine ⟨⟨?_, ?_, ?_, hC.ed, ?_, hC.elt, ?_, ?_, Nat.le_trans hC.size hC'.size, hC'.os.trans hC.os, hC'.tape.trans hC.tape, hC'.output.trans hC.output⟩, hsub, hren⟩
  · intro n b hb
    cases n with
    | e k => simp only [chL_newL_e]; exact hC.nm (.e k) b hb
    | l k =>
      cases hk : r.l k with
      | some b' =>
        have hm := hC.nm (.l k) b' hk
        simp only [chL_newL_l]
        split
        · simp
        · exact hm
      | none =>
        obtain ⟨h1, h2⟩ := hshi k hk b hb
        obtain ⟨h3, _⟩ := hnew _ _ h2
        simp only [chL_newL_l, if_pos h1]
        simp [List.getElem?_eq_getElem h3]
  · intro k cs hk
    simp only [chL_newL_e] at hk
    obtain ⟨b, xs, ys, ty, fr, g1, g2, g3, g4⟩ := hC.eb k cs hk
    exact ⟨b, xs, ys, ty, fr, g1, by rw [hsame (.e k) b g1]; exact g2, RL.mono hsub _ _ g3, g4⟩
  · intro k cs hk
    simp only [chL_newL_l] at hk
    split at hk
    · rename_i c hc
      cases hk
      split at hc
      · rename_i hbk
        cases hL : L'[k - base]? with
        | none => simp [hL] at hc
        | some c0 =>
          simp only [List.getElem?_map, hL, Option.map_some, Option.some.injEq] at hc
          subst hc
          obtain ⟨b, xs, ys, ty, g1, g2, g3, g4⟩ := hC'.lb (k - base) c0 hL
          have := hren (.l (k - base)) b g1
          simp only [nmap, show base + (k - base) = k by omega] at this
          exact ⟨b, xs, ys, ty, this, g2, RL.ren hren c0 xs g3, g4⟩
      · cases hc
    · obtain ⟨b, xs, ys, ty, g1, g2, g3, g4⟩ := hC.lb k cs hk
      exact ⟨b, xs, ys, ty, hsub (.l k) b g1, g2.of (hsame (.l k) b g1), RL.mono hsub _ _ g3, g4⟩
  · intro i j b hi hj
    cases hri : r.l i with
    | some b1 =>
      have e1 : b1 = b := by simp only [callRho, hri] at hi; cases hi; rfl
      subst e1
      cases hrj : r.l j with
      | some b2 =>
        have e2 : b2 = b1 := by simp only [callRho, hrj] at hj; cases hj; rfl
        subst e2
        exact hC.ld i j b2 hri hrj
      | none =>
        obtain ⟨_, h2⟩ := hshi j hrj b1 hj
        have := (hnew _ _ h2).2
        have := hC.lt_size (n := .l i) hri
        omega
    | none =>
      obtain ⟨h1, h2⟩ := hshi i hri b hi
      cases hrj : r.l j with
      | some b2 =>
        have e2 : b2 = b := by simp only [callRho, hrj] at hj; cases hj; rfl
        subst e2
        have := (hnew _ _ h2).2
        have := hC.lt_size (n := .l j) hrj
        omega
      | none =>
        obtain ⟨h3, h4⟩ := hshi j hrj b hj
        have := hC'.ld _ _ b h2 h4
        omega
  · intro k b hb
    cases hk : r.l k with
    | some b' =>
      have e1 : b' = b := by simp only [callRho, hk] at hb; cases hb; rfl
      subst e1
      exact hC.lge k b' hk
    | none =>
      obtain ⟨_, h2⟩ := hshi k hk b hb
      have := (hnew _ _ h2).2
      have := hC.size
      omega
  · intro b hb hn
    rw [hC'.frame b (Nat.lt_of_lt_of_le hb hC.size) (.inl rfl)]
    exact hC.frame b hb hn
end
end Go.Ab
