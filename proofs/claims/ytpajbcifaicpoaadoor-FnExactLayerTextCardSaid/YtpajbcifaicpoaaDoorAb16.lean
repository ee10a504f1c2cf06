/- A part of the proof library: names for blocks of memory, a small form of the code, and rules for walks over it. -/
import Derived.Test.YtpajbcifaicpoaaDoorAb34
set_option linter.all false
namespace Go.Ab

inductive Ex where
  | n | x (id : Nat) | r

def St.kill (s : St) (ks : Option (List Nat)) : St := match ks with | none => s | some ks => { s with t := kp s.t ks }

structure TruncOk (n : Nat) (s : St) : Prop where
  t : ∀ p ∈ s.t, p.2.lt n
  e : ∀ cs ∈ s.e, ltL n cs
  m : ∀ cs ∈ s.m.take n, ltL n cs

def fin (kill : Option (List Nat)) (tr : Option Nat) (K : St → Prop) (s : St) : Prop :=
  match tr with
  | none => K (s.kill kill)
  | some n => TruncOk n (s.kill kill) ∧ K { s.kill kill with m := (s.kill kill).m.take n }

def thenE (K : St → Prop) (Q : Ex → St → Prop) : Ex → St → Prop
  | .n, s => K s
  | .x id, s => Q (.x id) s
  | .r, s => Q .r s

def inB (id : Nat) (Q : Ex → St → Prop) : Ex → St → Prop
  | .n, s => Q .n s
  | .x k, s => if k = id then Q .n s else Q (.x k) s
  | .r, s => Q .r s

def MC.wp (P : Program) (ro : Bool) : MC → (Ex → St → Prop) → St → Prop
  | .skip, Q, s => Q .n s
  | .reg none ops kill tr, Q, s => wpO P ro (fin kill tr (Q .n)) ops s
  | .reg (some ps) ops kill tr, Q, s => wdO P ro (fun As s' => pairsOk ps As ∧ fin kill tr (Q .n) s') ops s []
  | .regT _ ps pre tail kill tr, Q, s => wdO P ro (fun As s' => pairsOk ps As ∧ wpO P ro (fin kill tr (Q .n)) tail s') pre s []
  | .seq a b, Q, s => a.wp P ro (thenE (b.wp P ro Q) Q) s
  | .cond c a b, Q, s => match c.ev s.f with
    | some (.bool v) => if v = true then a.wp P ro Q s else b.wp P ro Q s
    | _ => False
  | .block id b, Q, s => b.wp P ro (inB id Q) s
  | .loop b, Q, s => ∃ (I : Nat → St → Prop) (n : Nat), I n s ∧ ∀ n s, I n s → b.wp P ro (thenE (fun s' => ∃ n', n' < n ∧ I n' s') Q) s
  | .exit id, Q, s => Q (.x id) s
  | .ret, Q, s => Q .r s

def MC.strip : MC → MC
  | .skip => .skip
  | .reg d ops _ _ => .reg d ops none none
  | .regT k ps pre tail _ _ => .regT k ps pre tail none none
  | .seq a b => .seq a.strip b.strip
  | .cond c a b => .cond c a.strip b.strip
  | .block id b => .block id b.strip
  | .loop b => .loop b.strip
  | .exit id => .exit id
  | .ret => .ret

def isApp : MOp → Bool
  | .app .. => true
  | _ => false
def backAll (ops : Array Oper) : Bool := (List.range ops.size).all fun i => match ops[i]? with | some o => edgesBack i o | none => true
def edgeB (ops : Array Oper) (i j : Nat) : Bool := match ops[i]? with | some o => edgeTo o j | none => false
def sinkB (ops : Array Oper) (k : Nat) : Bool := (List.range k).all fun j => (List.range (k + 1)).any fun i => decide (j < i) && edgeB ops i j
def nextB (ops : Array Oper) (k : Nat) : Bool := (List.range ops.size).all fun i => !decide (k < i) || edgeB ops i (i - 1)
/-- Where the forced rest of a region begins: at its append. -/
def tailAt (ops : Array Oper) (ms : List MO) : Option Nat :=
  match ms.findIdx? fun m => isApp m.o with
  | some k => if k < ops.size ∧ (backAll ops && sinkB ops k && nextB ops k) = true then some k else none
  | none => none

def compC (P : Program) (N : Nat) : Code → Option MC
  | .skip => some .skip
  | .region _ ops draw => match compOs P N ops ops.toList with
    | none => none
    | some ms => if draw then (if P.follows .mixedOrders then match tailAt ops ms with
      | some k => match pairsOf (ms.take k) 0 (ops.toList.take k) (ms.take k) with | some ps => some (.regT k ps (ms.take k) (ms.drop k) none none) | none => none
      | none => match pairsOf ms 0 ops.toList ms with | some ps => some (.reg (some ps) ms none none) | none => none else none) else some (.reg none ms none none)
  | .seq a b => match compC P N a, compC P N b with | some x, some y => some (.seq x y) | _, _ => none
  | .cond c a b => match compX c, compC P N a, compC P N b with | some c, some x, some y => some (.cond c x y) | _, _, _ => none
  | .block id b => match compC P N b with | some x => some (.block id x) | none => none
  | .loop b => match compC P N b with | some x => some (.loop x) | none => none
  | .exit id => some (.exit id)
  | .ret => some .ret
  | _ => none

section
variable {ro : Bool} {W w : World} {r : Rho} {s : St} {σ : Fs} {a : Act} {P : Program} {N : Nat} {ops : Array Oper}

theorem lk_mem {t : List (Nat × V)} {k : Nat} {v : V} (h : lk t k = some v) : (k, v) ∈ t := by
  induction t with
  | nil => simp [lk] at h
  | cons p t ih =>
    obtain ⟨j, u⟩ := p
    simp only [lk] at h
    split at h
    · rename_i e; cases h; subst e; simp
    · simp [ih h]

theorem kill_sound {ks : Option (List Nat)} (hrel : RelF ro W N r s.f a w) : RelF ro W N r (s.kill ks).f a w := by
  cases ks with
  | none => exact hrel
  | some ks => exact ⟨fun k v hk => hrel.t k v (lk_kp s.t ks k v hk), hrel.c, hrel.n, hrel.d⟩

theorem trunc_sound {n : Nat} (hrel : RelF ro W N r s.f a w) (h : TruncOk n s) : ∃ r', r'.e = r.e ∧ RelF ro W N r' (St.f { s with m := s.m.take n }) a w := by
  refine ⟨⟨r.e, fun k => if k < n then r.l k else none⟩, rfl, ?_, ?_, hrel.n, hrel.d⟩
  · intro k v hk
    refine V.R.cut (r := r) (n := n) (fun nm b hlt hb => ?_) v _ (h.t (k, v) (lk_mem hk)) (hrel.t k v hk)
    cases nm with
    | e i => exact hb
    | l i => simp only [Rho.get]; rw [if_pos (hlt i rfl)]; exact hb
  · have hcut : ∀ cs xs, ltL n cs → RL r cs xs → RL ⟨r.e, fun k => if k < n then r.l k else none⟩ cs xs := fun cs xs hl hx => RL.cut (r := r) (n := n) (fun nm b hlt hb => by
      cases nm with
      | e i => exact hb
      | l i => simp only [Rho.get]; rw [if_pos (hlt i rfl)]; exact hb) cs xs hl hx
    refine hrel.c.forget rfl (fun k b hb => ?_) ?_ ?_ ?_
    · simp only at hb; split at hb
      · exact hb
      · cases hb
    · intro k cs hk
      refine ⟨cs, hk, fun xs hx => ⟨xs, [], by simp, hcut cs xs (h.e cs ?_) hx⟩⟩
      exact List.mem_of_getElem? (show s.e[k]? = some cs from hk)
    · intro k cs hk
      have hk' : (s.m.take n)[k]? = some cs := hk
      have hlt : k < n := by
        rcases Nat.lt_or_ge k n with h1 | h1
        · exact h1
        · rw [List.getElem?_eq_none (by simp; omega)] at hk'; cases hk'
      rw [List.getElem?_take_of_lt hlt] at hk'
      obtain ⟨b, _, _, _, hb, _⟩ := hrel.c.lb k cs hk'
      refine ⟨⟨b, by simp only; rw [if_pos hlt]; exact hb⟩, cs, hk', fun xs hx => ⟨xs, [], by simp, hcut cs xs (h.m cs ?_) hx⟩⟩
      exact List.mem_of_getElem? (show (s.m.take n)[k]? = some cs by rw [List.getElem?_take_of_lt hlt]; exact hk')
    · intro nm b hb
      cases nm with
      | e i => exact hrel.c.nm (.e i) b hb
      | l i =>
        simp only [Rho.get] at hb
        split at hb
        · rename_i hlt
          have := hrel.c.nm (.l i) b hb
          simp only [St.f, St.blk] at this ⊢
          rw [List.getElem?_take_of_lt hlt]
          exact this
        · cases hb

theorem fin_sound {kill : Option (List Nat)} {tr : Option Nat} {K : St → Prop} (hrel : RelF ro W N r s.f a w) (h : fin kill tr K s) : ∃ s' r', r'.e = r.e ∧ RelF ro W N r' s'.f a w ∧ K s' := by
  unfold fin at h
  split at h
  · exact ⟨_, r, rfl, kill_sound hrel, h⟩
  · obtain ⟨h1, h2⟩ := h
    obtain ⟨r', he, hr⟩ := trunc_sound (kill_sound hrel) h1
    exact ⟨_, r', he, hr, h2⟩

def QC (ro : Bool) (W : World) (N : Nat) (re : List Nat) (Q : Ex → St → Prop) (e : Exit) (a : Act) (w : World) : Prop :=
  ∃ s r, r.e = re ∧ RelF ro W N r s.f a w ∧ match e with
    | .normal => Q .n s
    | .exit id => Q (.x id) s
    | .ret => Q .r s
    | _ => False

theorem chain_of : ∀ (As : List Sm) (off : Nat) (σ τ : Fs) (A : Nat → Sm), (∀ i B, As[i]? = some B → A (off + i) = B) → ChainL As σ τ → Chain A (List.range' off As.length) σ τ
  | [], off, σ, τ, A, _, h => by have e : σ = τ := h; subst e; rfl
  | B :: As, off, σ, τ, A, hA, h => by
    simp only [ChainL] at h
    have hB := hA 0 B rfl
    simp only [Nat.add_zero] at hB
    simp only [List.length_cons, List.range'_succ, Chain]
    rw [hB]
    exact ⟨h.1, chain_of As (off + 1) _ τ A (fun i C hi => by
      have := hA (i + 1) C (by simpa using hi)
      rw [show off + 1 + i = off + (i + 1) by omega]; exact this) h.2⟩

/-- A loop whose measure is a number that the relation bears. -/
theorem wp_loop_n {c : Code} {Q : Exit → Act → World → Prop} (J : Nat → Act → World → Prop) (hstep : ∀ n a w, J n a w → c.wp P (Exit.then (fun a' w' => ∃ n', n' < n ∧ J n' a' w') Q) a w) (n : Nat) (a : Act) (w : World) (h0 : J n a w) : (Code.loop c).wp P Q a w := by
  intro b k cs
  have key : ∀ n a w, J n a w → ∃ e a' w', Q e a' w' ∧ Arrives P (lone (b.at a (.code c :: .inLoop c :: k)) cs w) b k cs e a' w' := by
    intro n
    induction n using Nat.strongRecOn with
    | _ n ih =>
      intro a w hJ
      obtain ⟨e, a₁, w₁, hq, harr⟩ := hstep n a w hJ b (.inLoop c :: k) cs
      cases e with
      | normal =>
        obtain ⟨n', hlt, hJ'⟩ := hq
        obtain ⟨e₂, a₂, w₂, hq₂, harr₂⟩ := ih n' hlt a₁ w₁ hJ'
        exact ⟨e₂, a₂, w₂, hq₂, .of_steps (Steps.trans harr (.one step_inLoop)) harr₂⟩
      | exit id => exact ⟨_, a₁, w₁, hq, .pass (x := .inLoop c) rfl (fun _ _ => .inl (by simp)) harr⟩
      | goto l => exact ⟨_, a₁, w₁, hq, .pass (x := .inLoop c) rfl (fun _ _ => .inl (by simp)) harr⟩
      | ret => exact ⟨_, a₁, w₁, hq, .pass (x := .inLoop c) rfl (fun _ _ => .inl (by simp)) harr⟩
      | panic ch => exact ⟨_, a₁, w₁, hq, .pass (x := .inLoop c) rfl (fun _ _ => .inl (by simp)) harr⟩
      | outgrown => exact ⟨_, a₁, w₁, hq, .pass (x := .inLoop c) rfl (fun _ _ => .inl (by simp)) harr⟩
  obtain ⟨e, a', w', hq, harr⟩ := key n a w h0
  exact ⟨e, a', w', hq, .of_steps (.one step_loop) harr⟩

/-- **A region that draws its order.** -/
theorem draw_sound {id : Nat} {ms : List MO} {ps : List (Nat × Nat)} (hm : P.follows .mixedOrders = true) (hc : compOs P N ops ops.toList = some ms) (hps : pairsOf ms 0 ops.toList ms = some ps) {kill : Option (List Nat)} {tr : Option Nat} {Q : Ex → St → Prop} (hrel : RelF ro W N r s.f a w)
    (h : wdO P ro (fun As s' => pairsOk ps As ∧ fin kill tr (Q .n) s') ms s []) : (Code.region id ops true).wp P (QC ro W N r.e Q) a w := by
  obtain ⟨As, s', ⟨hpo, hfin⟩, hch, hgood⟩ := wdO_sound ops.toList ms s [] hc h
  simp only [List.reverse_nil, List.nil_append] at hpo
  have hlen := hgood.len
  have hat : ∀ (i : Nat) (o : Oper), ops[i]? = some o → ∃ m A, ms[i]? = some m ∧ As[i]? = some A ∧ DoesIn P ro N ops o A ∧ OpA m A := fun i o ho => hgood.at_ (by simpa using ho)
  let A : Nat → Sm := fun i => As.getD i (gSm s 0 none)
  have hAi : ∀ i B, As[i]? = some B → A i = B := fun i B hi => by simp [A, List.getD_eq_getElem?_getD, hi]
  have hrelD : RelF ro W N r s.f a { w with drawn := w.drawn + 1 } := ⟨hrel.t, hrel.c.drew _, hrel.n, hrel.d⟩
  have hspec : ∀ (i : Nat) (o : Oper) (m : MO), ops[i]? = some o → ms[i]? = some m → edgesBack i o = true ∧ ∀ (j : Nat) (x : MO), ms[j]? = some x → j < i → edgeTo o j = false → x.apart m = true ∧ (x.quietPair m = true ∨ (j, i) ∈ ps) := fun i o m ho hmm => by
    have := pairsOf_spec ops.toList ms 0 hps i o m (by simpa using ho) hmm
    simpa using this
  refine wp_region_any hm (wpAny_chain (ro := ro) (N := N) (W := W) (A := A) (τ := s'.f) (r0 := r) ?_ ?_ ?_ ?_ _ _ s.f r a _ (by simp) ?_ rfl hrelD ?_)
  · intro i o ho e he hb
    obtain ⟨m, B, h1, _⟩ := hat i o ho
    have := (hspec i o m ho h1).1
    simp only [edgesBack, List.all_eq_true] at this
    have := this e (by simpa using he)
    simpa [hb] using this
  · intro i o ho
    obtain ⟨m, B, _, h2, h3, _⟩ := hat i o ho
    rw [hAi i B h2]; exact h3
  · intro i o j ho hj hno
    obtain ⟨m, B, h1, h2, _, h4⟩ := hat i o ho
    have hilt : i < ops.size := by
      rcases Nat.lt_or_ge i ops.size with h | h
      · exact h
      · rw [Array.getElem?_eq_none h] at ho; cases ho
    obtain ⟨x, C, g1, g2, _, g4⟩ := hat j ops[j] (Array.getElem?_eq_getElem (by omega))
    have hedge : edgeTo o j = false := by
      cases hh : edgeTo o j with
      | false => rfl
      | true =>
        simp only [edgeTo, List.any_eq_true] at hh
        obtain ⟨e, he, hb⟩ := hh
        simp only [Bool.and_eq_true, decide_eq_true_eq] at hb
        exact absurd hb.2 (hno e (by simpa using he) hb.1)
    obtain ⟨hap, hq⟩ := (hspec i o m ho h1).2 j x g1 hj hedge
    rw [hAi i B h2, hAi j C g2]
    exact apart_of g4 h4 hap (hq.imp (fun h => h) (fun hm => pairsOk_mem hpo hm g2 h2))
  · intro r1 a1 w1 he hr1
    obtain ⟨s2, r2, e2, hr2, hk⟩ := fin_sound hr1 hfin
    exact ⟨s2, r2, e2.trans he.symm, hr2, hk⟩
  · simp only [rem]
    exact Nat.le_trans (List.length_filter_le _ _) (by simp)
  · have : rem ops.size (Array.replicate ops.size false) = List.range' 0 As.length := by
      rw [hlen]
      simp only [rem, Array.length_toList]
      rw [← List.range_eq_range', List.filter_eq_self]
      intro i hi
      simp at hi
      simp [Array.getD_eq_getD_getElem?, hi]
    rw [this]
    exact chain_of As 0 _ _ A (fun i B hi => by simpa using hAi i B hi) hch

theorem edgeB_iff {ops : Array Oper} {i j : Nat} (h : edgeB ops i j = true) : edge ops i j := by
  unfold edgeB at h
  split at h
  · rename_i o ho
    simp only [edgeTo, List.any_eq_true] at h
    obtain ⟨e, he, hb⟩ := h
    simp only [Bool.and_eq_true, decide_eq_true_eq] at hb
    exact ⟨o, ho, e, by simpa using he, hb.1, hb.2⟩
  · cases h
theorem compOs_split {P : Program} {N : Nat} {ops : Array Oper} : ∀ (k : Nat) (l : List Oper) (ms : List MO), compOs P N ops l = some ms → compOs P N ops (l.take k) = some (ms.take k) ∧ compOs P N ops (l.drop k) = some (ms.drop k)
  | 0, l, ms, h => by simp [compOs, h]
  | k + 1, [], ms, h => by simp only [compOs, Option.some.injEq] at h; subst h; simp [compOs]
  | k + 1, o :: l, ms, h => by
    simp only [compOs] at h
    split at h
    · rename_i m ms' hm hms
      cases h
      obtain ⟨h1, h2⟩ := compOs_split k l ms' hms
      simp only [List.take_succ_cons, List.drop_succ_cons, compOs, hm, h1, h2, and_self]
    · cases h

/-- **A region that draws its order and ends in order.** -/
theorem draw_soundT {id : Nat} {ms : List MO} {ps : List (Nat × Nat)} {k : Nat} (hm : P.follows .mixedOrders = true) (hc : compOs P N ops ops.toList = some ms) (ht : tailAt ops ms = some k) (hps : pairsOf (ms.take k) 0 (ops.toList.take k) (ms.take k) = some ps) {kill : Option (List Nat)} {tr : Option Nat} {Q : Ex → St → Prop} (hrel : RelF ro W N r s.f a w)
    (h : wdO P ro (fun As s' => pairsOk ps As ∧ wpO P ro (fin kill tr (Q .n)) (ms.drop k) s') (ms.take k) s []) : (Code.region id ops true).wp P (QC ro W N r.e Q) a w := by
  unfold tailAt at ht
  split at ht
  · rename_i k' _
    split at ht
    · rename_i hb
      cases ht
      obtain ⟨hk, hb⟩ := hb
      simp only [Bool.and_eq_true] at hb
      obtain ⟨⟨hback, hsink⟩, hnext⟩ := hb
      obtain ⟨c1, c2⟩ := compOs_split k ops.toList ms hc
      obtain ⟨As, s', ⟨hpo, hwp⟩, hch, hgood⟩ := wdO_sound (ops.toList.take k) (ms.take k) s [] c1 h
      simp only [List.reverse_nil, List.nil_append] at hpo
      have hlen := hgood.len
      have htk : ∀ i, i < k → (ops.toList.take k)[i]? = ops[i]? := fun i hi => by rw [List.getElem?_take_of_lt hi]; simp
      have hat : ∀ (i : Nat) (o : Oper), i < k → ops[i]? = some o → ∃ m A, (ms.take k)[i]? = some m ∧ As[i]? = some A ∧ DoesIn P ro N ops o A ∧ OpA m A := fun i o hi ho => hgood.at_ (by rw [htk i hi]; exact ho)
      let A : Nat → Sm := fun i => As.getD i (gSm s 0 none)
      have hAi : ∀ i B, As[i]? = some B → A i = B := fun i B hi => by simp [A, List.getD_eq_getElem?_getD, hi]
      have hrelD : RelF ro W N r s.f a { w with drawn := w.drawn + 1 } := ⟨hrel.t, hrel.c.drew _, hrel.n, hrel.d⟩
      have hspec : ∀ (i : Nat) (o : Oper) (m : MO), i < k → ops[i]? = some o → (ms.take k)[i]? = some m → edgesBack i o = true ∧ ∀ (j : Nat) (x : MO), (ms.take k)[j]? = some x → j < i → edgeTo o j = false → x.apart m = true ∧ (x.quietPair m = true ∨ (j, i) ∈ ps) := fun i o m hi ho hmm => by
        have := pairsOf_spec (ops.toList.take k) (ms.take k) 0 hps i o m (by rw [htk i hi]; exact ho) hmm
        simpa using this
      refine wp_region_any hm (wpAny_chainT (ro := ro) (N := N) (W := W) (A := A) (k := k) (K := fin kill tr (Q .n)) (s := s') (ms := ms.drop k) (r0 := r) hk ?_ ?_ ?_ ?_ ?_ c2 hwp ?_ _ _ s.f r a _ (by simp) ?_ (fun i h1 h2 => by simp [Array.getD_eq_getD_getElem?, h2]) (fun i hi j _ => ?_) rfl hrelD ?_)
      · intro i o ho e he hb
        have hi : i < ops.size := by
          rcases Nat.lt_or_ge i ops.size with h | h
          · exact h
          · rw [Array.getElem?_eq_none h] at ho; cases ho
        have := List.all_eq_true.1 hback i (by simp [hi])
        simp only [ho, edgesBack, List.all_eq_true] at this
        have := this e (by simpa using he)
        simpa [hb] using this
      · intro i o hi ho
        obtain ⟨m, B, _, h2, h3, _⟩ := hat i o hi ho
        rw [hAi i B h2]; exact h3
      · intro i o j hi ho hj hno
        obtain ⟨m, B, h1, h2, _, h4⟩ := hat i o hi ho
        obtain ⟨x, C, g1, g2, _, g4⟩ := hat j ops[j] (by omega) (Array.getElem?_eq_getElem (by omega))
        have hedge : edgeTo o j = false := by
          cases hh : edgeTo o j with
          | false => rfl
          | true =>
            simp only [edgeTo, List.any_eq_true] at hh
            obtain ⟨e, he, hb⟩ := hh
            simp only [Bool.and_eq_true, decide_eq_true_eq] at hb
            exact absurd hb.2 (hno e (by simpa using he) hb.1)
        obtain ⟨hap, hq⟩ := (hspec i o m hi ho h1).2 j x g1 hj hedge
        rw [hAi i B h2, hAi j C g2]
        exact apart_of g4 h4 hap (hq.imp (fun h => h) (fun hm => pairsOk_mem hpo hm g2 h2))
      · intro j hj
        have := List.all_eq_true.1 hsink j (by simp [hj])
        obtain ⟨i, hi, hb⟩ := List.any_eq_true.1 this
        simp only [Bool.and_eq_true, decide_eq_true_eq, List.mem_range] at hb hi
        exact ⟨i, hb.1, by omega, edgeB_iff hb.2⟩
      · intro i h1 h2
        have := List.all_eq_true.1 hnext i (by simp [h2])
        simp only [Bool.or_eq_true, Bool.not_eq_true', decide_eq_false_iff_not] at this
        exact this.elim (fun h => absurd h1 h) edgeB_iff
      · intro s1 r1 a1 w1 hK he hr1
        obtain ⟨s2, r2, e2, hr2, hk2⟩ := fin_sound hr1 hK
        exact ⟨s2, r2, e2.trans he.symm, hr2, hk2⟩
      · have : (rem k (Array.replicate ops.size false)).length ≤ k := by
          simp only [rem]; exact Nat.le_trans (List.length_filter_le _ _) (by simp)
        omega
      · rw [Array.getD_eq_getD_getElem?] at hi
        rcases Nat.lt_or_ge i ops.size with h | h
        · simp [h] at hi
        · simp [h] at hi
      · have : rem k (Array.replicate ops.size false) = List.range' 0 As.length := by
          rw [hlen]
          have hl : (ops.toList.take k).length = k := by simp; omega
          rw [hl]
          simp only [rem]
          rw [← List.range_eq_range', List.filter_eq_self]
          intro i hi
          simp at hi
          have : i < ops.size := by omega
          simp [Array.getD_eq_getD_getElem?, this]
        rw [this]
        exact chain_of As 0 _ _ A (fun i B hi => by simpa using hAi i B hi) hch
    · cases ht
  · cases ht

/-- **The model's code does what the small code says.** -/
theorem code_sound : ∀ (c : Code) (m : MC), compC P N c = some m.strip → ∀ (Q : Ex → St → Prop) (s : St) (r : Rho) (a : Act) (w : World), RelF ro W N r s.f a w → m.wp P ro Q s → c.wp P (QC ro W N r.e Q) a w := by
  intro c
  induction c with
  | skip =>
    intro m hc Q s r a w hrel h
    simp only [compC, Option.some.injEq] at hc
    cases m <;> simp [MC.strip] at hc
    exact wp_skip ⟨s, r, rfl, hrel, h⟩
  | region id ops draw =>
    intro m hc Q s r a w hrel h
    simp only [compC] at hc
    split at hc
    · cases hc
    · rename_i ms hms
      split at hc
      · rename_i hdraw
        subst hdraw
        split at hc
        · rename_i hmix
          split at hc
          · rename_i k hk
            split at hc
            · rename_i ps hps
              cases m <;> simp [MC.strip] at hc
              obtain ⟨rfl, rfl, rfl, rfl⟩ := hc
              exact draw_soundT hmix hms hk hps hrel h
            · cases hc
          · split at hc
            · rename_i ps hps
              cases m <;> simp [MC.strip] at hc
              obtain ⟨rfl, rfl⟩ := hc
              exact draw_sound hmix hms hps hrel h
            · cases hc
        · cases hc
      · rename_i hdraw
        have hdf : draw = false := by simpa using hdraw
        subst hdf
        cases m <;> simp [MC.strip] at hc
        obtain ⟨rfl, rfl⟩ := hc
        refine wp_region_list (wpO_sound ops.toList ms s r a w hms hrel h (fun s' r' a' w' hk he hr => ?_))
        obtain ⟨s2, r2, e2, hr2, hk2⟩ := fin_sound hr hk
        exact ⟨s2, r2, e2.trans he, hr2, hk2⟩
  | seq x y ihx ihy =>
    intro m hc Q s r a w hrel h
    simp only [compC] at hc
    split at hc
    · rename_i mx my hx hy
      cases m <;> simp [MC.strip] at hc
      rename_i m1 m2
      obtain ⟨rfl, rfl⟩ := hc
      refine wp_seq (Code.wp_mono (fun e a' w' hq => ?_) (ihx m1 hx _ s r a w hrel h))
      obtain ⟨s', r', he, hr, hq⟩ := hq
      cases e with
      | normal =>
        simp only [thenE] at hq
        have := ihy m2 hy Q s' r' a' w' hr hq
        rw [he] at this
        exact this
      | exit id => exact ⟨s', r', he, hr, hq⟩
      | ret => exact ⟨s', r', he, hr, hq⟩
      | _ => exact hq.elim
    · cases hc
  | cond c x y ihx ihy =>
    intro m hc Q s r a w hrel h
    simp only [compC] at hc
    split at hc
    · rename_i c' mx my hcx hx hy
      cases m <;> simp [MC.strip] at hc
      rename_i c0 m1 m2
      obtain ⟨rfl, rfl, rfl⟩ := hc
      simp only [MC.wp] at h
      split at h
      · rename_i v hv
        have hR := compX_sound hcx hrel.t hv
        rw [V.R_bool] at hR
        refine wp_cond hR ?_
        split at h
        · rename_i hvt
          rw [if_pos hvt]
          exact ihx m1 hx Q s r a w hrel h
        · rename_i hvt
          rw [if_neg hvt]
          exact ihy m2 hy Q s r a w hrel h
      · exact h.elim
    · cases hc
  | block id x ih =>
    intro m hc Q s r a w hrel h
    simp only [compC] at hc
    split at hc
    · rename_i mx hx
      cases m <;> simp [MC.strip] at hc
      rename_i id' m1
      obtain ⟨rfl, rfl⟩ := hc
      refine wp_block (Code.wp_mono (fun e a' w' hq => ?_) (ih m1 hx _ s r a w hrel h))
      obtain ⟨s', r', he, hr, hq⟩ := hq
      cases e with
      | normal => exact ⟨s', r', he, hr, hq⟩
      | exit k =>
        simp only [inB] at hq
        simp only [Exit.inBlock]
        split
        · rename_i hk; rw [if_pos hk] at hq; exact ⟨s', r', he, hr, hq⟩
        · rename_i hk; rw [if_neg hk] at hq; exact ⟨s', r', he, hr, hq⟩
      | ret => exact ⟨s', r', he, hr, hq⟩
      | _ => exact hq.elim
    · cases hc
  | loop x ih =>
    intro m hc Q s r a w hrel h
    simp only [compC] at hc
    split at hc
    · rename_i mx hx
      cases m <;> simp [MC.strip] at hc
      rename_i m1
      subst hc
      simp only [MC.wp] at h
      obtain ⟨I, n0, h0, hstep⟩ := h
      refine wp_loop_n (fun n a w => ∃ s r1, r1.e = r.e ∧ RelF ro W N r1 s.f a w ∧ I n s) ?_ n0 a w ⟨s, r, rfl, hrel, h0⟩
      rintro n a w ⟨s1, r1, he1, hr1, hI⟩
      refine Code.wp_mono (fun e a' w' hq => ?_) (ih m1 hx _ s1 r1 a w hr1 (hstep n s1 hI))
      obtain ⟨s', r', he, hr, hq⟩ := hq
      rw [he1] at he
      cases e with
      | normal =>
        simp only [thenE] at hq
        obtain ⟨n', hlt, hI'⟩ := hq
        exact ⟨n', hlt, s', r', he, hr, hI'⟩
      | exit id => exact ⟨s', r', he, hr, hq⟩
      | ret => exact ⟨s', r', he, hr, hq⟩
      | _ => exact hq.elim
    · cases hc
  | exit id =>
    intro m hc Q s r a w hrel h
    simp only [compC, Option.some.injEq] at hc
    cases m <;> simp [MC.strip] at hc
    subst hc
    exact wp_exit ⟨s, r, rfl, hrel, h⟩
  | ret =>
    intro m hc Q s r a w hrel h
    simp only [compC, Option.some.injEq] at hc
    cases m <;> simp [MC.strip] at hc
    exact wp_ret ⟨s, r, rfl, hrel, h⟩
  | _ => intro m hc; simp [compC] at hc
end
end Go.Ab
