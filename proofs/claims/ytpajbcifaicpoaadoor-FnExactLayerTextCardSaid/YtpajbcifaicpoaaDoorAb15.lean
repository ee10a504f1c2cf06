/- A part of the proof library: names for blocks of memory, a small form of the code, and rules for walks over it. -/
import Derived.Test.YtpajbcifaicpoaaDoorAb14
set_option linter.all false
namespace Go.Ab

/-- It looks at no memory and makes none. -/
def MOp.pure : MOp → Bool
  | .load .. | .toStr _ | .new _ | .box _ | .bldS .. | .store .. | .mks .. | .app .. | .cpy .. | .call .. | .callv .. => false
  | _ => true
/-- It changes no memory and makes none. -/
def MOp.still : MOp → Bool
  | .new _ | .box _ | .bldS .. | .store .. | .mks .. | .app .. | .cpy .. | .call .. | .callv .. => false
  | _ => true

def MO.slots (m : MO) : List Nat := (match m.g with | some (k, _) => [k] | none => []) ++ m.o.slots

def dIn (d : Option Nat) (l : List Nat) : Bool := match d with | some k => natIn k l | none => false
def MO.apart (x y : MO) : Bool := !dIn x.d y.slots && !dIn y.d x.slots && (match x.d, y.d with | some i, some j => !decide (i = j) | _, _ => true)
def MO.quietPair (x y : MO) : Bool := (x.o.still && y.o.still) || x.o.pure || y.o.pure

def edgeTo (o : Oper) (j : Nat) : Bool := o.after.toList.any fun e => Region.binds .any e && decide (e.on = j)
def edgesBack (i : Nat) (o : Oper) : Bool := o.after.toList.all fun e => !Region.binds .any e || decide (e.on < i)

/-- The pairs (j, i), j ahead of i, whose memory is to be held apart; none if two operations without an edge meet in a slot. -/
def pairsRow (o : Oper) (m : MO) (i : Nat) : Nat → List MO → Option (List (Nat × Nat))
  | _, [] => some []
  | j, x :: xs => if i ≤ j then some [] else
    match pairsRow o m i (j + 1) xs with
    | none => none
    | some ps => if edgeTo o j then some ps else if x.apart m then (if x.quietPair m then some ps else some ((j, i) :: ps)) else none

def pairsOf (ms : List MO) : Nat → List Oper → List MO → Option (List (Nat × Nat))
  | _, [], _ => some []
  | _, _, [] => some []
  | i, o :: os, m :: rest => if edgesBack i o then
      match pairsRow o m i 0 ms, pairsOf ms (i + 1) os rest with
      | some a, some b => some (a ++ b)
      | _, _ => none
    else none

def pairsOk : List (Nat × Nat) → List Sm → Prop
  | [], _ => True
  | (j, i) :: ps, As => (match As[j]?, As[i]? with | some A, some B => A.memApart B = true | _, _ => False) ∧ pairsOk ps As

theorem pairsOk_mem {ps : List (Nat × Nat)} {As : List Sm} (h : pairsOk ps As) {j i : Nat} (hm : (j, i) ∈ ps) {A B : Sm} (hA : As[j]? = some A) (hB : As[i]? = some B) : A.memApart B = true := by
  induction ps with
  | nil => cases hm
  | cons p ps ih =>
    obtain ⟨j', i'⟩ := p
    simp only [pairsOk] at h
    rcases List.mem_cons.1 hm with e | hm
    · cases e
      have := h.1
      simp only [hA, hB] at this
      exact this
    · exact ih h.2 hm

theorem pairsRow_spec {o : Oper} {m : MO} {i : Nat} : ∀ (xs : List MO) (k : Nat) {ps : List (Nat × Nat)}, pairsRow o m i k xs = some ps → ∀ (j : Nat) (x : MO), xs[j]? = some x → k + j < i → edgeTo o (k + j) = false → x.apart m = true ∧ (x.quietPair m = true ∨ (k + j, i) ∈ ps)
  | [], k, ps, h, j, x, hx, hj, he => by simp at hx
  | y :: xs, k, ps, h, j, x, hx, hj, he => by
    simp only [pairsRow] at h
    rw [if_neg (by omega)] at h
    split at h
    · cases h
    · rename_i ps' hps
      cases j with
      | zero =>
        simp at hx; subst hx
        simp only [Nat.add_zero] at he ⊢
        rw [if_neg (by simp [he])] at h
        split at h
        · rename_i hap
          split at h
          · rename_i hq; exact ⟨hap, .inl hq⟩
          · cases h; exact ⟨hap, .inr (by simp)⟩
        · cases h
      | succ j =>
        simp at hx
        have hsub : ∀ q, q ∈ ps' → q ∈ ps := by
          intro q hq
          split at h
          · cases h; exact hq
          · split at h
            · split at h
              · cases h; exact hq
              · cases h; simp [hq]
            · cases h
        have := pairsRow_spec xs (k + 1) hps j x hx (by omega) (by rw [show k + 1 + j = k + (j + 1) by omega]; exact he)
        rw [show k + 1 + j = k + (j + 1) by omega] at this
        exact ⟨this.1, this.2.imp id (hsub _)⟩

theorem pairsOf_spec {ms : List MO} : ∀ (os : List Oper) (rest : List MO) (k : Nat) {ps : List (Nat × Nat)}, pairsOf ms k os rest = some ps → ∀ (i : Nat) (o : Oper) (m : MO), os[i]? = some o → rest[i]? = some m →
    edgesBack (k + i) o = true ∧ ∀ (j : Nat) (x : MO), ms[j]? = some x → j < k + i → edgeTo o j = false → x.apart m = true ∧ (x.quietPair m = true ∨ (j, k + i) ∈ ps)
  | [], rest, k, ps, h, i, o, m, ho, hm => by simp at ho
  | o' :: os, [], k, ps, h, i, o, m, ho, hm => by simp at hm
  | o' :: os, m' :: rest, k, ps, h, i, o, m, ho, hm => by
    simp only [pairsOf] at h
    split at h
    · rename_i hb
      split at h
      · rename_i a b ha hb'
        cases h
        cases i with
        | zero =>
          simp at ho hm; subst ho; subst hm
          refine ⟨hb, fun j x hx hj he => ?_⟩
          have := pairsRow_spec ms 0 ha j x hx (by omega) (by simpa using he)
          simp only [Nat.zero_add, Nat.add_zero] at this ⊢
          exact ⟨this.1, this.2.imp id (fun h => by simp [h])⟩
        | succ i =>
          simp at ho hm
          have := pairsOf_spec os rest (k + 1) hb' i o m ho hm
          rw [show k + 1 + i = k + (i + 1) by omega] at this
          refine ⟨this.1, fun j x hx hj he => ?_⟩
          have h2 := this.2 j x hx hj he
          exact ⟨h2.1, h2.2.imp id (fun h => by simp [h])⟩
      · cases h
    · cases h

structure OpA (m : MO) (A : Sm) : Prop where
  d : A.d = m.d
  us : ∀ p ∈ A.us, p.1 ∈ m.slots
  still : m.o.still = true → A.ch = [] ∧ A.nw = []
  pure : m.o.pure = true → A.rs = []

theorem pure_still {m : MOp} (h : m.pure = true) : m.still = true := by cases m <;> simp_all [MOp.pure, MOp.still]

theorem apart_of {x y : MO} {A B : Sm} (hA : OpA x A) (hB : OpA y B) (hap : x.apart y = true) (hm : x.quietPair y = true ∨ A.memApart B = true) : Apart A B := by
  simp only [MO.apart, Bool.and_eq_true, Bool.not_eq_true'] at hap
  obtain ⟨⟨h1, h2⟩, h3⟩ := hap
  refine ⟨fun p hp e => ?_, fun p hp e => ?_, fun k hk e => ?_, ?_⟩
  · rw [hA.d] at e
    rw [e] at h1
    simp only [dIn] at h1
    rw [natIn_iff.2 (hB.us p hp)] at h1; cases h1
  · rw [hB.d] at e
    rw [e] at h2
    simp only [dIn] at h2
    rw [natIn_iff.2 (hA.us p hp)] at h2; cases h2
  · rw [hA.d] at hk; rw [hB.d] at e
    rw [hk, e] at h3
    simp at h3
  · rcases hm with hq | hm
    · have nochA : A.ch = [] → B.nw = [] → A.nw = [] → B.ch = [] → A.memApart B = true := fun a1 a2 a3 a4 => by simp [Sm.memApart, a1, a4, memApart1, chApart]
      simp only [MO.quietPair, Bool.or_eq_true, Bool.and_eq_true] at hq
      rcases hq with (⟨q1, q2⟩ | q1) | q2
      · exact nochA (hA.still q1).1 (hB.still q2).2 (hA.still q1).2 (hB.still q2).1
      · have a := hA.still (pure_still q1)
        have ar := hA.pure q1
        have : memApart1 B.ch [] [] = true := by
          generalize B.ch = l
          induction l with
          | nil => rfl
          | cons q l ih => obtain ⟨n, c⟩ := q; simp [memApart1, nmIn, ih]
        simp [Sm.memApart, a.1, a.2, ar, memApart1, chApart, this]
      · have b := hB.still (pure_still q2)
        have br := hB.pure q2
        have h1 : ∀ l : List (Nm × List V), memApart1 l [] [] = true := fun l => by
          induction l with
          | nil => rfl
          | cons q l ih => obtain ⟨n, c⟩ := q; simp [memApart1, nmIn, ih]
        have h2 : ∀ l : List (Nm × List V), chApart l [] = true := fun l => by
          induction l with
          | nil => rfl
          | cons q l ih => obtain ⟨n, c⟩ := q; simp [chApart, nmIn, ih]
        simp [Sm.memApart, b.1, b.2, br, memApart1, h1, h2]
    · exact hm

section
variable {ro : Bool} {W w : World} {r : Rho} {s : St} {σ : Fs} {a : Act} {P : Program} {N : Nat} {ops : Array Oper}

def ChainL : List Sm → Fs → Fs → Prop
  | [], σ, τ => σ = τ
  | A :: l, σ, τ => A.pre σ ∧ ChainL l (A.app σ) τ

def Good (P : Program) (ro : Bool) (N : Nat) (ops : Array Oper) : List Oper → List MO → List Sm → Prop
  | o :: l, m :: ms, A :: As => DoesIn P ro N ops o A ∧ OpA m A ∧ Good P ro N ops l ms As
  | [], [], [] => True
  | _, _, _ => False

theorem Good.at_ : ∀ {l : List Oper} {ms : List MO} {As : List Sm}, Good P ro N ops l ms As → ∀ {i : Nat} {o : Oper}, l[i]? = some o → ∃ m A, ms[i]? = some m ∧ As[i]? = some A ∧ DoesIn P ro N ops o A ∧ OpA m A
  | o :: l, m :: ms, A :: As, h, i, o', ho => by
    simp only [Good] at h
    cases i with
    | zero => simp at ho; subst ho; exact ⟨m, A, rfl, rfl, h.1, h.2.1⟩
    | succ i => simp at ho; simpa using Good.at_ h.2.2 ho
  | [], [], [], _, i, o', ho => by simp at ho
  | [], [], _ :: _, h, _, _, _ => by simp [Good] at h
  | [], _ :: _, [], h, _, _, _ => by simp [Good] at h
  | [], _ :: _, _ :: _, h, _, _, _ => by simp [Good] at h
  | _ :: _, [], [], h, _, _, _ => by simp [Good] at h
  | _ :: _, [], _ :: _, h, _, _, _ => by simp [Good] at h
  | _ :: _, _ :: _, [], h, _, _, _ => by simp [Good] at h

theorem Good.len : ∀ {l : List Oper} {ms : List MO} {As : List Sm}, Good P ro N ops l ms As → As.length = l.length
  | o :: l, m :: ms, A :: As, h => by simp only [Good] at h; simp [Good.len h.2.2]
  | [], [], [], _ => rfl
  | [], [], _ :: _, h => by simp [Good] at h
  | [], _ :: _, [], h => by simp [Good] at h
  | [], _ :: _, _ :: _, h => by simp [Good] at h
  | _ :: _, [], [], h => by simp [Good] at h
  | _ :: _, [], _ :: _, h => by simp [Good] at h
  | _ :: _, _ :: _, [], h => by simp [Good] at h

theorem ex_OpA {m : MO} {s' : St} (hex : m.o.ex ro s m.d = some s') (hg : m.g = none) : OpA m (Sm.of m.o m.d s s') := by
  refine ⟨rfl, fun p hp => ?_, fun h => ?_, fun h => ?_⟩
  · simp only [Sm.of, List.mem_map] at hp
    obtain ⟨k, hk, rfl⟩ := hp
    simp [MO.slots, hk]
  · obtain ⟨d, o, g⟩ := m
    cases o <;> simp [MOp.still] at h <;> exact ⟨rfl, rfl⟩
  · obtain ⟨d, o, g⟩ := m
    cases o <;> simp [MOp.pure] at h <;> rfl

theorem wd_plain {o : Oper} {m : MO} (hc : compOp P o.op = some m.o) (hmd : m.d = o.dst) (hd : ∀ j, o.dst = some j → j < N) {K : Sm → St → Prop} {s' : St} (hs' : m.o.ex ro s m.d = some s') (h : K (Sm.of m.o m.d s s') s') :
    ∃ A s', K A s' ∧ Does P ro N o A ∧ A.pre s.f ∧ A.app s.f = s'.f ∧ (A.d = m.d) ∧ (∀ p ∈ A.us, p.1 ∈ m.o.slots) ∧ (m.o.still = true → A.ch = [] ∧ A.nw = []) ∧ (m.o.pure = true → A.rs = []) := by
  have hop := ex_OpA (m := ⟨m.d, m.o, none⟩) hs' rfl
  refine ⟨_, s', h, ?_, of_pre hs', of_app hs', hop.d, fun p hp => by simpa [MO.slots] using hop.us p hp, hop.still, hop.pure⟩
  rw [hmd] at hs' ⊢
  exact ex_sound hc hd hs'

/-- One operation of a region that draws its order. -/
theorem wd_op_sound {o : Oper} {m : MO} (hc : compOp P o.op = some m.o) (hmd : m.d = o.dst) (hd : ∀ j, o.dst = some j → j < N) {K : Sm → St → Prop} (h : m.o.wd P ro s m.d K) :
    ∃ A s', K A s' ∧ Does P ro N o A ∧ A.pre s.f ∧ A.app s.f = s'.f ∧ (A.d = m.d) ∧ (∀ p ∈ A.us, p.1 ∈ m.o.slots) ∧ (m.o.still = true → A.ch = [] ∧ A.nw = []) ∧ (m.o.pure = true → A.rs = []) := by
  have plain : ∀ (_ : m.o.wd P ro s m.d K = match m.o.ex ro s m.d with | some s' => K (Sm.of m.o m.d s s') s' | none => False), ∃ A s', K A s' ∧ Does P ro N o A ∧ A.pre s.f ∧ A.app s.f = s'.f ∧ (A.d = m.d) ∧ (∀ p ∈ A.us, p.1 ∈ m.o.slots) ∧ (m.o.still = true → A.ch = [] ∧ A.nw = []) ∧ (m.o.pure = true → A.rs = []) := fun he => by
    rw [he] at h
    split at h
    · rename_i s' hs'
      exact wd_plain hc hmd hd hs' h
    · exact h.elim
  obtain ⟨d, mo, g⟩ := m
  simp only at hc hmd h plain ⊢
  cases mo with
  | call f xs =>
    simp only [MOp.wd] at h
    split at h
    · rename_i vs hvs
      obtain ⟨sig, args, E, ro', v, E', L', hE, hargs, heo, hor, hk⟩ := h
      subst hargs
      obtain ⟨c, ho, hcal, hb, hxs⟩ := comp_call hc
      refine ⟨_, _, hk, ?_, ?_, ?_, rfl, ?_, fun h => by simp [MOp.still] at h, fun h => by simp [MOp.pure] at h⟩
      · intro W r σ a w K' Q hrel hpre hK
        have hvσ : evs σ xs = some (renL (nmap sig s.m.length) args) := by
          rw [evs_congr (s := s.f) (fun k hk => by
            have := hpre.us (k, lk s.t k) (by simp only [callSm, List.mem_map]; exact ⟨k, hk, rfl⟩)
            exact this)]
          exact hvs
        obtain ⟨ys, hrun, hys⟩ := run_call (w := w) ho hcal hb hxs hrel.t hvσ
        have hEσ : SigOk σ.m sig s.m.length E := ⟨hE.d, hE.len, fun i n hi => by
          obtain ⟨c', h1, h2, h3⟩ := hE.at_ i n hi
          refine ⟨c', h1, ?_, h3⟩
          have := hpre.rs (n, s.blk n) (by simp only [callSm, List.mem_map]; exact ⟨n, List.mem_of_getElem? hi, rfl⟩)
          rw [this]; exact h2⟩
        rcases hor with ⟨hro, hct, hlen⟩ | ⟨hE0, hct⟩
        · refine call_sem hd hrel hrun hEσ hro hys heo hct ?_ ?_
          · rintro v' E1 L1 ⟨rfl, rfl, rfl⟩ j hj
            exact hpre.nw (s.m.length + j) (by simp only [callSm, List.mem_range'_1]; omega)
          · rintro v' E1 L1 r' a' w' ⟨rfl, rfl, rfl⟩ hsub he hrel'
            refine hK r' a' w' hsub he ?_
            have : (callSm s (X.sls xs) sig d (v'.ren (nmap sig s.m.length)) E1 L1).app σ = ⟨fun k => if o.dst = some k then some (v'.ren (nmap sig s.m.length)) else σ.t k, fun n => match chL (callCh sig s.m.length E1 L1) n with | some c => some c | none => σ.m n⟩ :=
              app_eq (fun k => by simp only [callSm, hmd]) (fun n => rfl)
            rw [this]
            exact hrel'
        · subst hE0
          refine call_semR hd hrel hrun hEσ.first hys heo hct ?_ ?_
          · rintro v' E1 L1 ⟨rfl, rfl⟩ j hj
            exact hpre.nw (s.m.length + j) (by simp only [callSm, List.mem_range'_1]; omega)
          · rintro v' E1 L1 r' a' w' ⟨rfl, rfl⟩ hsub he hrel'
            refine hK r' a' w' hsub he ?_
            have : (callSm s (X.sls xs) sig d (v'.ren (nmap sig s.m.length)) [] L1).app σ = ⟨fun k => if o.dst = some k then some (v'.ren (nmap sig s.m.length)) else σ.t k, fun n => match chL (callCh sig s.m.length [] L1) n with | some c => some c | none => σ.m n⟩ :=
              app_eq (fun k => by simp only [callSm, hmd]) (fun n => rfl)
            rw [this]
            exact hrel'
      · refine ⟨fun p hp => ?_, fun p hp => ?_, fun k hk => ?_⟩
        · simp only [callSm, List.mem_map] at hp; obtain ⟨k, _, rfl⟩ := hp; rfl
        · simp only [callSm, List.mem_map] at hp; obtain ⟨k, _, rfl⟩ := hp; rfl
        · simp only [callSm, List.mem_range'_1] at hk
          simp only [St.f, St.blk]
          rw [List.getElem?_eq_none hk.1]
      · rw [put_f, after_blk hE]
        have ht : (s.after sig (nmap sig s.m.length) E' L').t = s.t := by simp [St.after, setBlks_t]
        rw [ht]
        exact app_eq (fun k => rfl) (fun n => rfl)
      · intro p hp
        simp only [callSm, List.mem_map] at hp
        obtain ⟨k, hk, rfl⟩ := hp
        simpa [MOp.slots] using hk
    · exact h.elim
  | callv x xs => simp [MOp.wd] at h
  | app z b i x y => simp [MOp.wd] at h
  | _ => exact plain rfl

theorem Does.in_ {o : Oper} {A : Sm} (h : Does P ro N o A) (hg : o.guard = none) : DoesIn P ro N ops o A := by
  intro W r σ a w K Q hrel hpre hK
  rw [wanted_none hg, if_pos rfl]
  exact h W r σ a w K Q hrel hpre hK

theorem wdO_sound {K : List Sm → St → Prop} : ∀ (l : List Oper) (ms : List MO) (s : St) (acc : List Sm), compOs P N ops l = some ms → wdO P ro K ms s acc → ∃ As s', K (acc.reverse ++ As) s' ∧ ChainL As s.f s'.f ∧ Good P ro N ops l ms As
  | [], ms, s, acc, hc, h => by
    simp only [compOs] at hc; cases hc
    exact ⟨[], s, by simpa [wdO] using h, rfl, trivial⟩
  | o :: l, ms, s, acc, hc, h => by
    simp only [compOs] at hc
    split at hc
    · rename_i m ms' hm hms
      cases hc
      obtain ⟨h1, h2, h3, h4⟩ := compO_some hm
      simp only [wdO] at h
      rcases h4 with ⟨hg, hmg⟩ | ⟨j, b, k, hg, hk, hmg⟩
      · simp only [hmg] at h
        obtain ⟨A, s', hk', hdo, hpre, happ, hAd, hus, hst, hpu⟩ := wd_op_sound h1 h2 h3 h
        obtain ⟨As, s2, g1, g2, g3⟩ := wdO_sound l ms' s' (A :: acc) hms hk'
        refine ⟨A :: As, s2, by simpa using g1, ⟨hpre, by rw [happ]; exact g2⟩, hdo.in_ hg, ⟨hAd, fun p hp => ?_, hst, hpu⟩, g3⟩
        simp [MO.slots, hus p hp]
      · simp only [hmg] at h
        split at h
        · rename_i b' hlk
          split at h
          · rename_i hb
            obtain ⟨A, s', hk', hdo, hpre, happ, hAd, hus, hst, hpu⟩ := wd_op_sound h1 h2 h3 h
            obtain ⟨As, s2, g1, g2, g3⟩ := wdO_sound l ms' s' (Sm.guard s k A :: acc) hms hk'
            refine ⟨Sm.guard s k A :: As, s2, by simpa using g1, ⟨⟨fun p hp => ?_, hpre.rs, hpre.nw⟩, by
              show ChainL As (A.app s.f) _
              rw [happ]; exact g2⟩, ?_, ⟨hAd, fun p hp => ?_, hst, hpu⟩, g3⟩
            · simp only [Sm.guard, List.mem_cons] at hp
              rcases hp with e | hp
              · subst e; rfl
              · exact hpre.us p hp
            · intro W r σ a w K Q hrel hpre' hK
              have hσ : σ.t k = some (.bool b') := by
                have := hpre'.us (k, lk s.t k) (by simp [Sm.guard])
                rw [this]; exact hlk
              rw [wanted_of hg hk hrel.t hσ, if_pos (by simp [hb])]
              exact hdo W r σ a w K Q hrel ⟨fun p hp => hpre'.us p (by simp [Sm.guard, hp]), hpre'.rs, hpre'.nw⟩ hK
            · simp only [Sm.guard, List.mem_cons] at hp
              rcases hp with e | hp
              · subst e; simp [MO.slots, hmg]
              · simp [MO.slots, hus p hp]
          · rename_i hb
            obtain ⟨As, s2, g1, g2, g3⟩ := wdO_sound l ms' (s.put m.d (.tup [])) (gSm s k m.d :: acc) hms h
            refine ⟨gSm s k m.d :: As, s2, by simpa using g1, ⟨⟨fun p hp => ?_, fun p hp => ?_, fun p hp => ?_⟩, ?_⟩, ?_, ⟨rfl, fun p hp => ?_, fun _ => ⟨rfl, rfl⟩, fun _ => rfl⟩, g3⟩
            · simp only [gSm, List.mem_singleton] at hp; subst hp; rfl
            · simp [gSm] at hp
            · simp [gSm] at hp
            · have : (gSm s k m.d).app s.f = (s.put m.d (.tup [])).f := by
                rw [put_f]
                exact app_eq (fun j => rfl) (fun n => by simp only [gSm, chL]; rfl)
              rw [this]; exact g2
            · intro W r σ a w K Q hrel hpre' hK
              have hσ := hpre'.us (k, lk s.t k) (by simp [gSm])
              rw [wanted_of hg hk hrel.t (hσ.trans hlk), if_neg (by simp [hb])]
              refine hK r _ _ (Rho.Sub.refl r) rfl ⟨?_, ?_, by rw [Act.put_size]; exact hrel.n, by rw [Act.put_def]; exact hrel.d⟩
              · show RT r (fun j => if m.d = some j then some (.tup []) else σ.t j) _
                rw [h2]
                exact RT.put hrel.t (fun j hj => Nat.lt_of_lt_of_le (h3 j hj) hrel.n) (fun u hu => by cases hu; exact undef_R)
              · have : ((gSm s k m.d).app σ).m = σ.m := app_q _ rfl σ
                rw [this]; exact hrel.c
            · simp only [gSm, List.mem_singleton] at hp; subst hp; simp [MO.slots, hmg]
        · rename_i cs hlk
          obtain ⟨As, s2, g1, g2, g3⟩ := wdO_sound l ms' (s.put m.d (.tup [])) (gSm s k m.d :: acc) hms h
          refine ⟨gSm s k m.d :: As, s2, by simpa using g1, ⟨⟨fun p hp => ?_, fun p hp => ?_, fun p hp => ?_⟩, ?_⟩, ?_, ⟨rfl, fun p hp => ?_, fun _ => ⟨rfl, rfl⟩, fun _ => rfl⟩, g3⟩
          · simp only [gSm, List.mem_singleton] at hp; subst hp; rfl
          · simp [gSm] at hp
          · simp [gSm] at hp
          · have : (gSm s k m.d).app s.f = (s.put m.d (.tup [])).f := by
              rw [put_f]
              exact app_eq (fun j => rfl) (fun n => by simp only [gSm, chL]; rfl)
            rw [this]; exact g2
          · intro W r σ a w K Q hrel hpre' hK
            have hσ := hpre'.us (k, lk s.t k) (by simp [gSm])
            rw [wanted_tup hg hk hrel.t (hσ.trans hlk), if_neg (by simp)]
            refine hK r _ _ (Rho.Sub.refl r) rfl ⟨?_, ?_, by rw [Act.put_size]; exact hrel.n, by rw [Act.put_def]; exact hrel.d⟩
            · show RT r (fun j => if m.d = some j then some (.tup []) else σ.t j) _
              rw [h2]
              exact RT.put hrel.t (fun j hj => Nat.lt_of_lt_of_le (h3 j hj) hrel.n) (fun u hu => by cases hu; exact undef_R)
            · have : ((gSm s k m.d).app σ).m = σ.m := app_q _ rfl σ
              rw [this]; exact hrel.c
          · simp only [gSm, List.mem_singleton] at hp; subst hp; simp [MO.slots, hmg]
        · exact h.elim
    · cases hc
end
end Go.Ab
