/- A part of the proof library: names for blocks of memory, a small form of the code, and rules for walks over it. -/
import Derived.Test.YtpajbcifaicpoaaDoorAb10
set_option linter.all false
namespace Go.Ab

def St.setBlks (s : St) : List Nm → List (List V) → St
  | n :: ns, c :: cs => (s.setBlk n c).setBlks ns cs
  | _, _ => s

/-- The state behind a call. -/
def St.after (s : St) (sig : List Nm) (g : Nm → Nm) (E' L' : List (List V)) : St :=
  let s1 := s.setBlks sig (E'.map (renL g))
  { s1 with m := s1.m ++ L'.map (renL g) }

/-- What a call is met with. -/
def callWp0 (P : Program) (ro : Bool) (f : FuncId) (vs : List V) (s : St) (K : V → St → Prop) : Prop :=
  ∃ (sig : List Nm) (args : List V) (E : List (List V)) (ro' : Bool) (Post : V → List (List V) → List (List V) → Prop),
    SigOk s.blk sig s.m.length E ∧ roFits ro ro' sig = true ∧ vs = renL (nmap sig s.m.length) args ∧ eoL sig.length args ∧ Ct P ro' f args E Post ∧
      ∀ v E' L', Post v E' L' → E'.length = E.length ∧ K (v.ren (nmap sig s.m.length)) (s.after sig (nmap sig s.m.length) E' L')

/-- A call that only reads. -/
def callWpR (P : Program) (f : FuncId) (vs : List V) (s : St) (K : V → St → Prop) : Prop :=
  ∃ (sig : List Nm) (args : List V) (E : List (List V)) (Post : V → List (List V) → List (List V) → Prop),
    SigOkR s.blk sig s.m.length E ∧ (vs = renL (nmap sig s.m.length) args ∨ hidL vs = renL (nmap sig s.m.length) args) ∧ eoL sig.length args ∧ Ct P true f args E Post ∧
      ∀ v E' L', Post v E' L' → K (v.ren (nmap sig s.m.length)) (s.after sig (nmap sig s.m.length) [] L')
def callWp (P : Program) (ro : Bool) (f : FuncId) (vs : List V) (s : St) (K : V → St → Prop) : Prop := callWp0 P ro f vs s K ∨ callWpR P f vs s K

section
variable {ro ro' : Bool} {W w : World} {r : Rho} {s : St} {σ : Fs} {a : Act} {P : Program} {N : Nat} {sig : List Nm} {E E' L' : List (List V)} {base : Nat}

theorem callFunc_run {f : FuncId} (h : hasBody P f = true) (args : Array Value) (w : World) : (callFunc f args).run P w = .ok (.enter f args) w := by
  unfold hasBody at h
  cases hf : P.funcs[f]? with
  | none => simp [hf] at h
  | some fn =>
    simp only [hf, Bool.and_eq_true, Bool.not_eq_true'] at h
    unfold callFunc
    simp only [Sem.run_bind, run_program, Result.andThen_ok, hf]
    rw [if_neg (by simp [h.2]), if_neg (by cases hb : fn.body <;> simp_all)]
    rfl

theorem comp_call {op : Op} {f : FuncId} {xs : List X} (h : compOp P op = some (.call f xs)) : ∃ c, op = .call c ∧ c.callee = .value (.func f) ∧ hasBody P f = true ∧ compXs c.args.toList = some xs := by
  cases op <;> simp only [compOp] at h
  case call c =>
    refine ⟨c, rfl, ?_⟩
    simp only [compCall] at h
    split at h
    · rename_i f' hc
      split at h
      · rename_i hb
        split at h <;> cases h
        exact ⟨hc, hb, by assumption⟩
      · cases h
    · split at h <;> cases h
    · cases h
    · repeat' (first | contradiction | (cases h; done) | split at h)
  all_goals first | (cases h; done) | (repeat' (first | contradiction | (cases h; done) | split at h))

theorem comp_callv {op : Op} {x : X} {xs : List X} (h : compOp P op = some (.callv x xs)) : ∃ c y, op = .call c ∧ c.callee = .value y ∧ compX y = some x ∧ compXs c.args.toList = some xs := by
  cases op <;> simp only [compOp] at h
  case call c =>
    simp only [compCall] at h
    split at h
    · split at h
      · split at h <;> cases h
      · cases h
    · rename_i y hne hc
      split at h <;> cases h
      exact ⟨c, y, rfl, hc, by assumption, by assumption⟩
    · cases h
    · repeat' (first | contradiction | (cases h; done) | split at h)
  all_goals first | (cases h; done) | (repeat' (first | contradiction | (cases h; done) | split at h))

/-- A call, from the run of its operation on. -/
theorem call_sem {o : Oper} {f : FuncId} {args : List V} {Post : V → List (List V) → List (List V) → Prop} (hd : ∀ j, o.dst = some j → j < N) (hrel : RelF ro W N r σ a w) {xs : List Value}
    (hrun : (execOp a.eval o).run P w = .ok (.enter f (List.toArray xs)) w) (hE : SigOk σ.m sig base E) (hro : roFits ro ro' sig = true) (hvs : RL r (renL (nmap sig base) args) xs) (heo : eoL sig.length args)
    (hct : Ct P ro' f args E Post) (hfree : ∀ v E' L', Post v E' L' → ∀ j, j < L'.length → σ.m (.l (base + j)) = none) {K : Act → World → Prop} {Q : Exit → Act → World → Prop}
    (hK : ∀ v E' L' r' a' w', Post v E' L' → r.Sub r' → r'.e = r.e →
      RelF ro W N r' ⟨fun k => if o.dst = some k then some (v.ren (nmap sig base)) else σ.t k, fun n => match chL (callCh sig base E' L') n with | some c => some c | none => σ.m n⟩ a' w' → K a' w') : o.wp P a w K Q := by
  unfold Oper.wp
  rw [hrun]
  simp only [Oper.upon]
  have hargs := RL.unren (r := calleeRho r sig) (r' := r) (g := nmap sig base) (callee_unren hrel.c hE) args xs heo hvs
  refine (hct w (calleeRho r sig) w xs rfl (hrel.c.callee hE (.inr hro)) hargs).mono ?_
  rintro e w' ⟨x, r0, v, E', L', rfl, he, hp, hR, hC'⟩
  obtain ⟨h1, h2, h3⟩ := hrel.c.back hE hro (hfree v E' L' hp) hC' he
  refine hK v E' L' (callRho r r0 base) _ _ hp h2 rfl ⟨?_, h1, ?_, ?_⟩
  · exact RT.put (v := some (v.ren (nmap sig base))) (RT.mono hrel.t h2) (fun j hj => Nat.lt_of_lt_of_le (hd j hj) hrel.n) (fun u hu => by cases hu; exact V.R.ren h3 v x hR)
  · rw [Act.put_size]; exact hrel.n
  · rw [Act.put_def]; exact hrel.d

/-- A call that only reads. -/
theorem call_semR {o : Oper} {f : FuncId} {args : List V} {Post : V → List (List V) → List (List V) → Prop} (hd : ∀ j, o.dst = some j → j < N) (hrel : RelF ro W N r σ a w) {xs : List Value}
    (hrun : (execOp a.eval o).run P w = .ok (.enter f (List.toArray xs)) w) (hE : SigOkR σ.m sig base E) (hvs : RL r (renL (nmap sig base) args) xs) (heo : eoL sig.length args)
    (hct : Ct P true f args E Post) (hfree : ∀ v E' L', Post v E' L' → ∀ j, j < L'.length → σ.m (.l (base + j)) = none) {K : Act → World → Prop} {Q : Exit → Act → World → Prop}
    (hK : ∀ v E' L' r' a' w', Post v E' L' → r.Sub r' → r'.e = r.e →
      RelF ro W N r' ⟨fun k => if o.dst = some k then some (v.ren (nmap sig base)) else σ.t k, fun n => match chL (callCh sig base [] L') n with | some c => some c | none => σ.m n⟩ a' w' → K a' w') : o.wp P a w K Q := by
  unfold Oper.wp
  rw [hrun]
  simp only [Oper.upon]
  have hargs := RL.unren (r := calleeRho r sig) (r' := r) (g := nmap sig base) (callee_unrenR hrel.c hE) args xs heo hvs
  refine (hct w (calleeRho r sig) w xs rfl (hrel.c.calleeR hE) hargs).mono ?_
  rintro e w' ⟨x, r0, v, E', L', rfl, he, hp, hR, hC'⟩
  obtain ⟨h1, h2, h3⟩ := hrel.c.backR hE (hfree v E' L' hp) hC' he
  refine hK v E' L' (callRho r r0 base) _ _ hp h2 rfl ⟨?_, h1, ?_, ?_⟩
  · exact RT.put (v := some (v.ren (nmap sig base))) (RT.mono hrel.t h2) (fun j hj => Nat.lt_of_lt_of_le (hd j hj) hrel.n) (fun u hu => by cases hu; exact V.R.ren h3 v x hR)
  · rw [Act.put_size]; exact hrel.n
  · rw [Act.put_def]; exact hrel.d

theorem run_call {o : Oper} {c : Call} {f : FuncId} {xs : List X} {vs : List V} (ho : o.op = .call c) (hcal : c.callee = .value (.func f)) (hb : hasBody P f = true) (hxs : compXs c.args.toList = some xs) (hT : RT r σ.t a)
    (hev : evs σ xs = some vs) : ∃ ys : List Value, (execOp a.eval o).run P w = .ok (.enter f (List.toArray ys)) w ∧ RL r vs ys := by
  refine ⟨c.args.toList.map a.eval, ?_, compXs_sound hT hxs hev⟩
  simp only [execOp, ho, resolve, hcal, Act.eval, Deferred.ofValue, Sem.run_bind, Sem.run_pure, Result.andThen_ok, invoke, callFunc_run hb]
  congr 2
  exact Array.ext' (by simp)

theorem run_callv {o : Oper} {c : Call} {y : Operand} {x : X} {f : FuncId} {fs cs : List V} {xs : List X} {vs : List V} (ho : o.op = .call c) (hcal : c.callee = .value y) (hx : compX y = some x) (hb : hasBody P f = true)
    (hxs : compXs c.args.toList = some xs) (hT : RT r σ.t a) (hxe : x.ev σ = some (.fn f fs cs)) (hev : evs σ xs = some vs) :
    ∃ ys : List Value, (execOp a.eval o).run P w = .ok (.enter f (List.toArray ys)) w ∧ RL r (fs ++ vs ++ cs) ys := by
  have hR := compX_sound hx hT hxe
  rw [V.R_fn] at hR
  obtain ⟨us, ws, he, h1, h2⟩ := hR
  refine ⟨us ++ c.args.toList.map a.eval ++ ws, ?_, (h1.append (compXs_sound hT hxs hev)).append h2⟩
  simp only [execOp, ho, resolve, hcal, he, Deferred.ofValue, Sem.run_bind, Sem.run_pure, Result.andThen_ok, invoke, callFunc_run hb]
  congr 2
  exact Array.ext' (by simp)

theorem setBlk_setE (s : St) (n : Nm) (c : List V) : (s.setBlk n c).t = s.t := by cases n <;> rfl
theorem setBlks_t : ∀ (ns : List Nm) (cs : List (List V)) (s : St), (s.setBlks ns cs).t = s.t
  | [], cs, s => by simp [St.setBlks]
  | n :: ns, [], s => by simp [St.setBlks]
  | n :: ns, c :: cs, s => by simp only [St.setBlks]; rw [setBlks_t ns cs, setBlk_setE]
theorem setBlk_len (s : St) (n : Nm) (c : List V) : (s.setBlk n c).m.length = s.m.length := by cases n <;> simp [St.setBlk]
theorem setBlks_len : ∀ (ns : List Nm) (cs : List (List V)) (s : St), (s.setBlks ns cs).m.length = s.m.length
  | [], cs, s => by simp [St.setBlks]
  | n :: ns, [], s => by simp [St.setBlks]
  | n :: ns, c :: cs, s => by simp only [St.setBlks]; rw [setBlks_len ns cs, setBlk_len]

theorem setBlks_blk : ∀ (ns : List Nm) (cs : List (List V)) (s : St), ns.Nodup → (∀ n ∈ ns, s.blk n ≠ none) → (s.setBlks ns cs).blk = fun n => match chL (ns.zip cs) n with | some c => some c | none => s.blk n
  | [], cs, s, _, _ => by simp [St.setBlks, chL]
  | n :: ns, [], s, _, _ => by simp [St.setBlks, chL]
  | n :: ns, c :: cs, s, hd, hs => by
    obtain ⟨h1, h2⟩ := List.nodup_cons.1 hd
    simp only [St.setBlks]
    have hn : s.blk n ≠ none := hs n (by simp)
    cases hsn : s.blk n with
    | none => exact absurd hsn hn
    | some c0 =>
      have hb := blk_setBlk s (ds := c) hsn
      rw [setBlks_blk ns cs (s.setBlk n c) h2 (fun n' hn' => by
        rw [hb]; simp only [Mem.set]; split
        · simp
        · exact hs n' (by simp [hn']))]
      funext n'
      simp only [List.zip_cons_cons, chL, hb, Mem.set]
      by_cases h : n = n'
      · subst h
        rw [chL_zip_none ns cs n h1]
        simp
      · rw [if_neg h, if_neg (fun e => h e.symm)]

theorem blk_pushs (s : St) (L : List (List V)) : St.blk { s with m := s.m ++ L } = fun n => match chL (newL s.m.length L) n with | some c => some c | none => s.blk n := by
  funext n
  cases n with
  | e k => simp [St.blk, chL_newL_e]
  | l k =>
    simp only [St.blk, chL_newL_l]
    by_cases h : s.m.length ≤ k
    · rw [if_pos h, List.getElem?_append_right h, List.getElem?_eq_none h]
      cases L[k - s.m.length]? <;> rfl
    · rw [if_neg h, List.getElem?_append_left (by omega)]

theorem after_blk (hE : SigOk s.blk sig s.m.length E) : (s.after sig (nmap sig s.m.length) E' L').blk = fun n => match chL (callCh sig s.m.length E' L') n with | some c => some c | none => s.blk n := by
  unfold St.after
  simp only []
  rw [blk_pushs, setBlks_len, setBlks_blk _ _ _ hE.d (fun n hn => by
    obtain ⟨i, hi⟩ := List.getElem?_of_mem hn
    obtain ⟨c, _, h2, _⟩ := hE.at_ i n hi
    simp [h2])]
  funext n
  unfold callCh
  rw [chL_append]
  cases h1 : chL (sig.zip (E'.map (renL (nmap sig s.m.length)))) n with
  | none => simp only [h1]
  | some c =>
    cases n with
    | e k => simp [chL_newL_e, h1]
    | l k =>
      simp only [chL_newL_l]
      by_cases hk : s.m.length ≤ k
      · -- a name of the call's blocks lies below
        exfalso
        have hmem : Nm.l k ∈ sig := by
          have : ∀ (a : List Nm) (b : List (List V)), chL (a.zip b) (.l k) ≠ none → Nm.l k ∈ a := by
            intro a b hne
            refine Classical.byContradiction fun hnot => hne (chL_zip_none a b _ hnot)
          exact this _ _ (by rw [h1]; simp)
        obtain ⟨i, hi⟩ := List.getElem?_of_mem hmem
        obtain ⟨c', _, h2, _⟩ := hE.at_ i _ hi
        simp only [St.blk] at h2
        rw [List.getElem?_eq_none hk] at h2; cases h2
      · rw [if_neg hk]; simp [h1]

theorem after_blkN : (s.after sig (nmap sig s.m.length) [] L').blk = fun n => match chL (callCh sig s.m.length [] L') n with | some c => some c | none => s.blk n := by
  have h8 : s.setBlks sig [] = s := by cases sig <;> rfl
  unfold St.after
  simp only [List.map_nil, h8]
  rw [blk_pushs]
  have : callCh sig s.m.length [] L' = newL s.m.length (L'.map (renL (nmap sig s.m.length))) := by simp [callCh]
  rw [this]
/-- **A call in a region that goes in order.** -/
theorem callWp_sound {o : Oper} {f : FuncId} {vs : List V} {K : V → St → Prop} (hd : ∀ j, o.dst = some j → j < N) (hrel : RelF ro W N r s.f a w) {ys : List Value} (hrun : (execOp a.eval o).run P w = .ok (.enter f (List.toArray ys)) w) (hys : RL r vs ys)
    (h : callWp P ro f vs s K) {K' : Act → World → Prop} {Q : Exit → Act → World → Prop} (hK : ∀ v s' r' a' w', K v s' → s'.t = s.t → r.Sub r' → r'.e = r.e → RelF ro W N r' (s'.put o.dst v).f a' w' → K' a' w') : o.wp P a w K' Q := by
  rcases h with ⟨sig, args, E, ro', Post, hE, hro, hvs, heo, hct, hpost⟩ | ⟨sig, args, E, Post, hE, hvs, heo, hct, hpost⟩
  · subst hvs
    refine call_sem hd hrel hrun hE hro hys heo hct ?_ ?_
    · intro v E' L' _ j hj
      simp [St.f, St.blk]
    · intro v E' L' r' a' w' hp hsub he hrel'
      obtain ⟨_, hk⟩ := hpost v E' L' hp
      refine hK _ _ r' a' w' hk (by simp [St.after, setBlks_t]) hsub he ?_
      have : ((s.after sig (nmap sig s.m.length) E' L').put o.dst (v.ren (nmap sig s.m.length))).f = ⟨fun k => if o.dst = some k then some (v.ren (nmap sig s.m.length)) else s.f.t k, fun n => match chL (callCh sig s.m.length E' L') n with | some c => some c | none => s.f.m n⟩ := by
        rw [put_f, after_blk hE]
        have ht : (s.after sig (nmap sig s.m.length) E' L').t = s.t := by simp [St.after, setBlks_t]
        rw [ht]
        rfl
      rw [this]
      exact hrel'
  · have hys' : RL r (renL (nmap sig s.m.length) args) ys := by
      rcases hvs with e | e
      · rw [← e]; exact hys
      · rw [← e]; exact RL.hid _ _ hys
    refine call_semR hd hrel hrun hE hys' heo hct ?_ ?_
    · intro v E' L' _ j hj
      simp [St.f, St.blk]
    · intro v E' L' r' a' w' hp hsub he hrel'
      have hk := hpost v E' L' hp
      refine hK _ _ r' a' w' hk (by simp [St.after, setBlks_t]) hsub he ?_
      have : ((s.after sig (nmap sig s.m.length) [] L').put o.dst (v.ren (nmap sig s.m.length))).f = ⟨fun k => if o.dst = some k then some (v.ren (nmap sig s.m.length)) else s.f.t k, fun n => match chL (callCh sig s.m.length [] L') n with | some c => some c | none => s.f.m n⟩ := by
        rw [put_f, after_blkN]
        have ht : (s.after sig (nmap sig s.m.length) [] L').t = s.t := by simp [St.after, setBlks_t]
        rw [ht]
        rfl
      rw [this]
      exact hrel'
end
end Go.Ab
