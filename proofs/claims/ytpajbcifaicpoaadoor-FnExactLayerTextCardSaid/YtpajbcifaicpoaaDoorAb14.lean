/- A part of the proof library: names for blocks of memory, a small form of the code, and rules for walks over it. -/
import Derived.Test.YtpajbcifaicpoaaDoorAb13
set_option linter.all false
namespace Go.Ab

/-! ### The small code of a region, held against the model's -/

def dOk (N : Nat) : Option Nat → Bool
  | some d => decide (d < N)
  | none => true

def compO (P : Program) (N : Nat) (ops : Array Oper) (o : Oper) : Option MO :=
  match compOp P o.op with
  | none => none
  | some m =>
    if dOk N o.dst then
      match o.guard with
      | none => some ⟨o.dst, m, none⟩
      | some (j, b) => match (ops[j]?).bind (·.dst) with
        | some k => some ⟨o.dst, m, some (k, b)⟩
        | none => none
    else none

def compOs (P : Program) (N : Nat) (ops : Array Oper) : List Oper → Option (List MO)
  | [] => some []
  | o :: os => match compO P N ops o, compOs P N ops os with
    | some m, some ms => some (m :: ms)
    | _, _ => none

theorem compO_some {P : Program} {N : Nat} {ops : Array Oper} {o : Oper} {m : MO} (h : compO P N ops o = some m) : compOp P o.op = some m.o ∧ m.d = o.dst ∧ (∀ j, o.dst = some j → j < N) ∧
    ((o.guard = none ∧ m.g = none) ∨ ∃ j b k, o.guard = some (j, b) ∧ (ops[j]?).bind (·.dst) = some k ∧ m.g = some (k, b)) := by
  unfold compO at h
  split at h
  · cases h
  · rename_i m' hm
    split at h
    · rename_i hd
      have hd' : ∀ j, o.dst = some j → j < N := fun j hj => by rw [hj] at hd; simpa [dOk] using hd
      split at h
      · rename_i hg
        cases h
        exact ⟨hm, rfl, hd', .inl ⟨hg, rfl⟩⟩
      · rename_i j b hg
        split at h
        · rename_i k hk
          cases h
          exact ⟨hm, rfl, hd', .inr ⟨j, b, k, hg, hk, rfl⟩⟩
        · cases h
    · cases h

section
variable {ro : Bool} {W w : World} {r : Rho} {s : St} {σ : Fs} {a : Act} {P : Program} {N : Nat} {ops : Array Oper}

/-- What a guard reads. -/
theorem wanted_of {o : Oper} {j k : Nat} {b want : Bool} (hg : o.guard = some (j, want)) (hk : (ops[j]?).bind (·.dst) = some k) (hT : RT r σ.t a) (hlk : σ.t k = some (.bool b)) :
    Region.wanted o (yielded ops a.tmps) = decide (b = want) := by
  have h := hT k _ hlk
  rw [V.R_bool, Array.getD_eq_getD_getElem?] at h
  have hy : yielded ops a.tmps j = some b := by
    unfold yielded
    rw [hk]
    simp only [Option.bind_some]
    cases hx : a.tmps[k]? with
    | none => rw [hx] at h; simp [undef] at h
    | some x => rw [hx] at h; simp at h; rw [h]
  simp only [Region.wanted, hg, hy]
  cases b <;> cases want <;> rfl

theorem wanted_tup {o : Oper} {j k : Nat} {cs : List V} {want : Bool} (hg : o.guard = some (j, want)) (hk : (ops[j]?).bind (·.dst) = some k) (hT : RT r σ.t a) (hlk : σ.t k = some (.tup cs)) :
    Region.wanted o (yielded ops a.tmps) = false := by
  have h := hT k _ hlk
  rw [V.R_tup, Array.getD_eq_getD_getElem?] at h
  obtain ⟨xs, h, _⟩ := h
  have hy : yielded ops a.tmps j = none := by
    unfold yielded
    rw [hk]
    simp only [Option.bind_some]
    cases hx : a.tmps[k]? with
    | none => rfl
    | some x => rw [hx] at h; simp at h; rw [h]
  simp only [Region.wanted, hg, hy]
  rfl
theorem undef_R : V.R r (.tup []) undef := V.R_tup.2 ⟨[], rfl, by simp⟩

theorem wanted_none {o : Oper} (hg : o.guard = none) : Region.wanted o (yielded ops a.tmps) = true := by simp [Region.wanted, hg]

/-- What a summary says of the state that it was taken from. -/
theorem of_pre {mo : MOp} {d : Option Nat} {s' : St} (hex : mo.ex ro s d = some s') : (Sm.of mo d s s').pre s.f := by
  refine ⟨fun p hp => ?_, fun p hp => ?_, fun k hk => ?_⟩
  · simp only [Sm.of, List.mem_map] at hp; obtain ⟨k, _, rfl⟩ := hp; rfl
  · simp only [Sm.of, List.mem_map] at hp; obtain ⟨k, _, rfl⟩ := hp; rfl
  · simp only [Sm.of] at hk
    cases mo <;> simp only [MOp.news, List.mem_singleton, List.not_mem_nil] at hk <;> (subst hk; simp [St.f, St.blk])

theorem app_eq {A : Sm} {σ : Fs} {t' : Nat → Option V} {m' : Mem} (ht : ∀ k, (if A.d = some k then A.val else σ.t k) = t' k) (hm : ∀ n, (match chL A.ch n with | some c => some c | none => σ.m n) = m' n) : A.app σ = ⟨t', m'⟩ := by
  unfold Sm.app
  congr 1
  · exact funext ht
  · exact funext hm

theorem chL_one' (n k : Nm) (c : List V) (x : Option (List V)) : (match chL [(n, c)] k with | some c => some c | none => x) = if k = n then some c else x := by
  simp only [chL]
  by_cases h : n = k
  · subst h; simp
  · rw [if_neg h, if_neg (fun e : k = n => h e.symm)]

theorem of_app {mo : MOp} {d : Option Nat} {s' : St} (hex : mo.ex ro s d = some s') : (Sm.of mo d s s').app s.f = s'.f := by
  have key : ∀ (s1 : St) (v : V), s1.t = s.t → s' = s1.put d v → (∀ n, (match chL ((mo.touch s).map fun n => (n, (s'.blk n).getD [])) n with | some c => some c | none => s.blk n) = s1.blk n) → (Sm.of mo d s s').app s.f = s'.f := by
    intro s1 v ht he hb
    subst he
    rw [put_f]
    refine app_eq (fun k => ?_) hb
    by_cases hk : d = some k
    · subst hk; simp [Sm.of, lk_put]
    · rw [if_neg (show ¬ (Sm.of mo d s (s1.put d v)).d = some k from hk), if_neg hk, ht]
      rfl
  have hpush : ∀ (cs : List V) (v : V) (n : Nm), (match chL ([(Nm.l s.m.length, ((St.put { s with m := s.m ++ [cs] } d v).blk (.l s.m.length)).getD [])]) n with | some c => some c | none => s.blk n) = St.blk { s with m := s.m ++ [cs] } n := fun cs v n => by
    rw [chL_one', put_blk, blk_push]
    simp [Mem.set]
  cases mo with
  | new z => simp only [MOp.ex, Option.some.injEq] at hex; exact key { s with m := s.m ++ [z] } _ rfl hex.symm (fun n => by subst hex; exact hpush _ _ n)
  | box x =>
    simp only [MOp.ex] at hex
    split at hex
    · rename_i v hv
      split at hex
      · simp only [Option.some.injEq] at hex; exact key { s with m := s.m ++ [v.cells] } _ rfl hex.symm (fun n => by subst hex; exact hpush _ _ n)
      · cases hex
    · cases hex
  | bldS z len ps =>
    simp only [MOp.ex] at hex
    split at hex
    · rename_i cs hcs
      simp only [Option.some.injEq] at hex; exact key { s with m := s.m ++ [cs] } _ rfl hex.symm (fun n => by subst hex; exact hpush _ _ n)
    · cases hex
  | mks z b l c =>
    simp only [MOp.ex] at hex
    split at hex
    · split at hex
      · simp only [Option.some.injEq] at hex; exact key { s with m := s.m ++ [zrow z _] } _ rfl hex.symm (fun n => by subst hex; exact hpush _ _ n)
      · cases hex
    · cases hex
  | store n x y =>
    simp only [MOp.ex] at hex
    split at hex
    · rename_i nm off v hx hy
      split at hex
      · rename_i cs hcs
        split at hex
        · simp only [Option.some.injEq] at hex
          have ht : (s.setBlk nm (putl cs off v.cells)).t = s.t := setBlk_setE _ _ _
          subst hex
          rw [drop_f]
          refine app_eq (fun k => ?_) (fun n' => ?_)
          · by_cases hk : d = some k
            · subst hk; simp [Sm.of, St.drop, lk_kl1]
            · rw [if_neg (show ¬ (Sm.of (MOp.store n x y) d s (St.drop (s.setBlk nm (putl cs off v.cells)) d)).d = some k from hk), if_neg hk, ht]
              rfl
          · show (match chL ((V.nmOf (x.ev s.f)).map fun n => (n, ((St.drop (s.setBlk nm (putl cs off v.cells)) d).blk n).getD [])) n' with | some c => some c | none => s.blk n') = _
            rw [hx]
            simp only [V.nmOf, List.map_cons, List.map_nil, drop_blk, blk_setBlk s hcs, Mem.set_self, Option.getD_some, chL_one']
            rfl
        · cases hex
      · cases hex
    · cases hex
  | call f xs => simp [MOp.ex] at hex
  | callv x xs => simp [MOp.ex] at hex
  | app z b i x y => simp [MOp.ex] at hex
  | cpy z i x y => simp [MOp.ex] at hex
  | _ =>
    simp only [MOp.ex] at hex
    split at hex
    · cases hex
      exact key s _ rfl rfl (fun n => by simp [MOp.touch, chL])
    · cases hex

/-- One operation in order. -/
theorem wp_op_sound {o : Oper} {m : MOp} (hc : compOp P o.op = some m) (hd : ∀ j, o.dst = some j → j < N) (hrel : RelF ro W N r s.f a w) {K : St → Prop} (h : m.wp P ro s o.dst K) {K' : Act → World → Prop} {Q : Exit → Act → World → Prop}
    (hK : ∀ s' r' a' w', K s' → r'.e = r.e → RelF ro W N r' s'.f a' w' → K' a' w') : o.wp P a w K' Q := by
  have plain : ∀ (_ : m.wp P ro s o.dst K = match m.ex ro s o.dst with | some s' => K s' | none => False), o.wp P a w K' Q := fun he => by
    rw [he] at h
    split at h
    · rename_i s' hs'
      refine ex_sound hc hd hs' W r s.f a w K' Q hrel (of_pre hs') (fun r' a' w' h1 h2 h3 => ?_)
      rw [of_app hs'] at h3
      exact hK s' r' a' w' h h2 h3
    · exact h.elim
  cases m with
  | call f xs =>
    simp only [MOp.wp] at h
    split at h
    · rename_i vs hvs
      obtain ⟨c, ho, hcal, hb, hxs⟩ := comp_call hc
      obtain ⟨ys, hrun, hys⟩ := run_call (w := w) ho hcal hb hxs hrel.t hvs
      exact callWp_sound hd hrel hrun hys h (fun v s' r' a' w' hk _ h1 h2 h3 => hK _ r' a' w' hk h2 h3)
    · exact h.elim
  | callv x xs =>
    simp only [MOp.wp] at h
    split at h
    · rename_i f fs cs vs hx hvs
      obtain ⟨hb, h⟩ := h
      obtain ⟨c, y, ho, hcal, hy, hxs⟩ := comp_callv hc
      obtain ⟨ys, hrun, hys⟩ := run_callv (w := w) ho hcal hy hb hxs hrel.t hx hvs
      exact callWp_sound hd hrel hrun hys h (fun v s' r' a' w' hk _ h1 h2 h3 => hK _ r' a' w' hk h2 h3)
    · exact h.elim
  | app z bytes isStr x y =>
    simp only [MOp.wp] at h
    split at h
    · rename_i xv yv hx hy
      refine app_sound hc hd hrel hx hy h (fun v s' r' a' w' hk _ h1 h2 h3 => ?_)
      obtain ⟨s2, hwk, hk2⟩ := hk
      obtain ⟨r2, e2, hr2⟩ := wk_sound h3 hwk
      exact hK s2 r2 a' w' hk2 (e2.trans h2) hr2
    · exact h.elim
  | _ => exact plain rfl

theorem drop_sound {d : Option Nat} (hrel : RelF ro W N r s.f a w) : RelF ro W N r (s.drop d).f (a.put d undef) w := by
  rw [drop_f]
  refine ⟨?_, hrel.c, by rw [Act.put_size]; exact hrel.n, by rw [Act.put_def]; exact hrel.d⟩
  intro k v hk
  simp only at hk
  split at hk
  · cases hk
  · rename_i hne
    have := hrel.t k v hk
    cases d with
    | none => exact this
    | some j =>
      simp only [Act.put, Array.getD_eq_getD_getElem?] at *
      rw [Array.getElem?_setIfInBounds_ne (fun e => hne (by rw [e]))]
      exact this

theorem undef_sound {d : Option Nat} (hd : ∀ j, d = some j → j < N) (hrel : RelF ro W N r s.f a w) : RelF ro W N r (s.put d (.tup [])).f (a.put d undef) w := by
  rw [put_f]
  exact ⟨RT.put (v := some (.tup [])) hrel.t (fun j hj => Nat.lt_of_lt_of_le (hd j hj) hrel.n) (fun u hu => by cases hu; exact undef_R), hrel.c, by rw [Act.put_size]; exact hrel.n, by rw [Act.put_def]; exact hrel.d⟩

theorem wpO_sound {Q : Exit → Act → World → Prop} {K : St → Prop} : ∀ (l : List Oper) (ms : List MO) (s : St) (r : Rho) (a : Act) (w : World), compOs P N ops l = some ms → RelF ro W N r s.f a w → wpO P ro K ms s →
    (∀ s' r' a' w', K s' → r'.e = r.e → RelF ro W N r' s'.f a' w' → Q .normal a' w') → wpList P ops Q l a w
  | [], ms, s, r, a, w, hc, hrel, h, hK => by
    simp only [compOs] at hc; cases hc
    exact hK s r a w h rfl hrel
  | o :: l, ms, s, r, a, w, hc, hrel, h, hK => by
    simp only [compOs] at hc
    split at hc
    · rename_i m ms' hm hms
      cases hc
      obtain ⟨h1, h2, h3, h4⟩ := compO_some hm
      simp only [wpO] at h
      simp only [wpList]
      rcases h4 with ⟨hg, hmg⟩ | ⟨j, b, k, hg, hk, hmg⟩
      · rw [wanted_none hg, if_pos rfl]
        simp only [hmg, h2] at h
        exact .inl (wp_op_sound h1 h3 hrel h (fun s' r' a' w' hk he hr => wpO_sound l ms' s' r' a' w' hms hr hk (fun s2 r2 a2 w2 hk2 he2 hr2 => hK s2 r2 a2 w2 hk2 (he2.trans he) hr2)))
      · simp only [hmg, h2] at h
        split at h
        · rename_i b' hlk
          rw [wanted_of hg hk hrel.t (b := b') hlk]
          split at h
          · rename_i hb
            rw [if_pos (by simp [hb])]
            exact .inl (wp_op_sound h1 h3 hrel h (fun s' r' a' w' hk he hr => wpO_sound l ms' s' r' a' w' hms hr hk (fun s2 r2 a2 w2 hk2 he2 hr2 => hK s2 r2 a2 w2 hk2 (he2.trans he) hr2)))
          · rename_i hb
            rw [if_neg (by simp [hb])]
            exact wpO_sound l ms' (s.put o.dst (.tup [])) r _ w hms (undef_sound h3 hrel) h hK
        · rename_i cs hlk
          rw [wanted_tup hg hk hrel.t hlk, if_neg (by simp)]
          exact wpO_sound l ms' (s.put o.dst (.tup [])) r _ w hms (undef_sound h3 hrel) h hK
        · exact h.elim
    · cases hc
end
end Go.Ab
