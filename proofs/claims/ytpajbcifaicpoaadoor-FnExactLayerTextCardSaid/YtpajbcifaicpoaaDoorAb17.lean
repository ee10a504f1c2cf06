/- A part of the proof library: names for blocks of memory, a small form of the code, and rules for walks over it. -/
import Derived.Test.YtpajbcifaicpoaaDoorAb16
set_option linter.all false
namespace Go.Ab

/-- What is left at the end of a function, in the contract's words: the call's own blocks 'ks' are handed out. -/
def RetOk (Post : V → List (List V) → List (List V) → Prop) (s : St) (v : V) : Prop :=
  ∃ (ks : List Nat) (v' : V) (E' L' : List (List V)), ks.Nodup ∧ (v = v'.ren (kmap ks) ∨ v.hid = v'.ren (kmap ks)) ∧ s.e = E'.map (renL (kmap ks)) ∧ L'.length = ks.length ∧
    (∀ (i k : Nat) (c : List V), ks[i]? = some k → L'[i]? = some c → ∃ tail, s.m[k]? = some (renL (kmap ks) c ++ tail)) ∧ v'.lt ks.length ∧ (∀ c ∈ E', ltL ks.length c) ∧ (∀ c ∈ L', ltL ks.length c) ∧ Post v' E' L'

inductive MRes where
  | t (k : Nat)
  | c (k : Nat) (g : Option Nat)

def resV (s : St) : List MRes → Option (List V)
  | [] => some []
  | .t k :: rs => match lk s.t k, resV s rs with | some v, some vs => some (v :: vs) | _, _ => none
  | .c k g :: rs => match lk s.t k with
    | some (.ptr n off) => match s.blk n with
      | some cs => match rd (isE n) cs off g, resV s rs with | some v, some vs => some (v :: vs) | _, _ => none
      | none => none
    | _ => none

def retV : List V → V
  | [v] => v
  | vs => .tup vs

def compRes (P : Program) : List ResultVar → Option (List MRes)
  | [] => some []
  | .tmp t :: rs => match compRes P rs with | some xs => some (.t t :: xs) | none => none
  | .cell a t :: rs => match aggO P t, compRes P rs with | some g, some xs => some (.c a g :: xs) | _, _ => none

structure MF where
  n : Nat
  res : List MRes
  body : MC

structure OkF (P : Program) (f : FuncId) (mf : MF) (fn : Func) (c : Code) : Prop where
  at_ : P.funcs[f]? = some fn
  body : Func.body fn = some c
  n : Func.ntmps fn = mf.n
  res : compRes P (Func.results fn).toList = some mf.res
  code : compC P mf.n c = some mf.body.strip

def zipT : Nat → List V → List (Nat × V)
  | _, [] => []
  | k, v :: vs => (k, v) :: zipT (k + 1) vs

section
variable {ro : Bool} {W w : World} {r : Rho} {s : St} {a : Act} {P : Program} {N : Nat}

theorem res_sound (f : ResultVar → Sem Value) (hf1 : ∀ t, f (.tmp t) = pure (a.tmps.getD t undef)) (hf2 : ∀ p t, f (.cell p t) = (do loadVar t (← asAddr (a.tmps.getD p undef)) : Sem Value)) (hrel : RelF ro W N r s.f a w) : ∀ (l : List ResultVar) (ms : List MRes) (vs : List V), compRes P l = some ms → resV s ms = some vs →
    ∃ xs : List Value, (l.mapM f).run P w = .ok xs w ∧ RL r vs xs
  | [], ms, vs, h, hv => by
    simp only [compRes] at h; cases h
    simp only [resV] at hv; cases hv
    exact ⟨[], rfl, by simp⟩
  | .tmp t :: l, ms, vs, h, hv => by
    simp only [compRes] at h
    split at h <;> cases h
    rename_i ms' hms
    simp only [resV] at hv
    split at hv <;> cases hv
    rename_i v vs' h1 h2
    obtain ⟨xs, g1, g2⟩ := res_sound f hf1 hf2 hrel l ms' vs' hms h2
    refine ⟨_ :: xs, ?_, RL_cons_cons.2 ⟨hrel.t t v h1, g2⟩⟩
    rw [List.mapM_cons, hf1]
    simp only [Sem.run_bind, Sem.run_pure, Result.andThen_ok, g1]
  | .cell p t :: l, ms, vs, h, hv => by
    simp only [compRes] at h
    split at h <;> cases h
    rename_i g ms' hg hms
    simp only [resV] at hv
    split at hv
    · rename_i n off hlk
      split at hv
      · rename_i cs hcs
        split at hv <;> cases hv
        rename_i v vs' h1 h2
        obtain ⟨xs, g1, g2⟩ := res_sound f hf1 hf2 hrel l ms' vs' hms h2
        have hR := hrel.t p _ hlk
        rw [V.R_ptr] at hR
        obtain ⟨b, hb, hx⟩ := hR
        obtain ⟨u, hu, hRu⟩ := rd_sound (P := P) (s := s.f) hrel.c hcs hb hg h1
        refine ⟨u :: xs, ?_, RL_cons_cons.2 ⟨hRu, g2⟩⟩
        rw [List.mapM_cons, hf2]
        have e1 : (asAddr (a.tmps.getD p undef)).run P w = .ok ⟨b, off, none⟩ w := by rw [hx]; rfl
        simp only [Sem.run_bind, Sem.run_pure, Result.andThen_ok, e1, hu, g1]
      · cases hv
    · cases hv

theorem retV_R {vs : List V} {xs : List Value} (h : RL r vs xs) : V.R r (retV vs) (if h : (List.toArray xs).size = 1 then (List.toArray xs)[0] else .tuple (List.toArray xs)) := by
  match vs, h with
  | [], h => simp only [RL] at h; subst h; simp [retV, V.R]
  | [v], h =>
    rw [RL_cons] at h
    obtain ⟨x, ys, rfl, h1, h2⟩ := h
    simp only [RL] at h2; subst h2
    simpa [retV] using h1
  | v :: u :: vs, h =>
    have hl := h.length
    rw [dif_neg (by simp [hl])]
    exact V.R_tup.2 ⟨xs, rfl, h⟩

theorem zipT_lk : ∀ (vs : List V) (off k : Nat) (v : V), lk (zipT off vs) k = some v → off ≤ k ∧ vs[k - off]? = some v
  | [], off, k, v, h => by simp [zipT, lk] at h
  | u :: vs, off, k, v, h => by
    simp only [zipT, lk] at h
    split at h
    · rename_i e; cases h; subst e; simp
    · rename_i hne
      obtain ⟨h1, h2⟩ := zipT_lk vs (off + 1) k v h
      refine ⟨by omega, ?_⟩
      rw [show k - off = (k - (off + 1)) + 1 by omega]
      simpa using h2

/-- What a body has to come to. -/
def endQ (res : List MRes) (Post : V → List (List V) → List (List V) → Prop) : Ex → St → Prop
  | .x _, _ => False
  | .n, s => ∃ vs, resV s res = some vs ∧ RetOk Post s (retV vs)
  | .r, s => ∃ vs, resV s res = some vs ∧ RetOk Post s (retV vs)

/-- **A function's contract, out of its small code.** -/
theorem ct_of {f : FuncId} {mf : MF} {fn : Func} {c : Code} (hf : OkF P f mf fn c) {args : List V} {E : List (List V)} {Post : V → List (List V) → List (List V) → Prop}
    (h : mf.body.wp P ro (endQ mf.res Post) ⟨zipT 0 args, [], E⟩) : Ct P ro f args E Post := by
  intro W r w xs hrl hC hxs
  have hlen := hxs.length
  refine calls_of_wp hf.at_ hf.body ?_
  have hrel : RelF ro W mf.n r (St.f ⟨zipT 0 args, [], E⟩) { tmps := List.toArray xs ++ Array.replicate (fn.ntmps - (List.toArray xs).size) undef, defers := [] } w := by
    refine ⟨?_, ?_, ?_, rfl⟩
    · intro k v hk
      obtain ⟨_, h2⟩ := zipT_lk args 0 k v hk
      simp only [Nat.sub_zero] at h2
      obtain ⟨x, hx, hR⟩ := hxs.get h2
      have hlt : k < xs.length := by
        rcases Nat.lt_or_ge k xs.length with h1 | h1
        · exact h1
        · rw [List.getElem?_eq_none h1] at hx; cases hx
      rw [Array.getD_eq_getD_getElem?, Array.getElem?_append_left (by simpa using hlt), List.getElem?_toArray, hx]
      exact hR
    · have : (St.f ⟨zipT 0 args, [], E⟩).m = mE E [] := by
        funext n; cases n <;> rfl
      rw [this]; exact hC
    · rw [← hf.n]; simp; omega
  refine Code.wp_mono (fun e a' w' hq => ?_) (code_sound c mf.body hf.code (endQ mf.res Post) _ r _ w hrel h)
  obtain ⟨s', r', he, hr, hq⟩ := hq
  have done : (∃ vs, resV s' mf.res = some vs ∧ RetOk Post s' (retV vs)) → a'.defers = [] ∧ ∃ v, (results fn a'.tmps).run P w' = .ok v w' ∧
      ∃ (x : Value) (r' : Rho) (v1 : V) (E' L' : List (List V)), Ending.returned v = .returned x ∧ r'.e = r.e ∧ Post v1 E' L' ∧ V.R r' v1 x ∧ Cn ro W r' (mE E' L') w' := by
    rintro ⟨vs, hvs, ks, v', E', L', hkd, hv, hE, hL1, hL2, hlt, hE3, hL3, hp⟩
    obtain ⟨hC', hre⟩ := hr.c.reix hkd (fun k => by
      show s'.e[k]? = _
      rw [hE]) hL1 hL2 hE3 hL3
    obtain ⟨ys, hrun, hRL⟩ := res_sound (P := P) (fun | .tmp t => pure (a'.tmps.getD t undef) | .cell p t => do loadVar t (← asAddr (a'.tmps.getD p undef))) (fun _ => rfl) (fun _ _ => rfl) hr fn.results.toList mf.res vs hf.res hvs
    have hRv := retV_R hRL
    have hrun' : (results fn a'.tmps).run P w' = .ok (if h : (List.toArray ys).size = 1 then (List.toArray ys)[0] else .tuple (List.toArray ys)) w' := by
      unfold results
      rw [Sem.run_bind, Array.mapM_eq_mapM_toList, Sem.run_map]
      exact (congrArg (fun x : Result (List Value) => (x.andThen fun a w => Result.ok a.toArray w).andThen fun a w => Sem.run P (pure (if h : a.size = 1 then a[0] else Value.tuple a)) w) hrun)
    refine ⟨hr.d, (if h : (List.toArray ys).size = 1 then (List.toArray ys)[0] else .tuple (List.toArray ys)), ?_, _, ⟨r'.e, fun i => (ks[i]?).bind r'.l⟩, v', E', L', rfl, he, hp, ?_, hC'⟩
    · exact hrun'
    · rcases hv with hv | hv
      · rw [hv] at hRv
        exact V.R.reix hre v' _ hlt hRv
      · have := V.R.hid _ _ hRv
        rw [hv] at this
        exact V.R.reix hre v' _ hlt this
  cases e with
  | normal => exact done hq
  | ret => exact done hq
  | exit id => exact hq.elim
  | _ => exact hq.elim
end
end Go.Ab
