/- A part of the proof library: names for blocks of memory, a small form of the code, and rules for walks over it. -/
import Derived.Test.YtpajbcifaicpoaaDoorAb17
set_option linter.all false
namespace Go.Ab

def rl : List (Nat × V) → List V
  | [] => []
  | (n, v) :: t => List.replicate n v ++ rl t

def bodyOf (fn : Func) : Code := (Func.body fn).getD .skip

section
variable {P : Program} {ro : Bool} {Q : Ex → St → Prop} {s : St} {K : St → Prop}

theorem wp_skip_ : MC.wp P ro .skip Q s = Q .n s := rfl
theorem wp_reg_ {ops : List MO} {k : Option (List Nat)} {tr : Option Nat} : MC.wp P ro (.reg none ops k tr) Q s = wpO P ro (fin k tr (Q .n)) ops s := rfl
theorem wp_regd_ {ps : List (Nat × Nat)} {ops : List MO} {k : Option (List Nat)} {tr : Option Nat} : MC.wp P ro (.reg (some ps) ops k tr) Q s = wdO P ro (fun As s' => pairsOk ps As ∧ fin k tr (Q .n) s') ops s [] := rfl
theorem wp_seq_ {a b : MC} : MC.wp P ro (.seq a b) Q s = a.wp P ro (thenE (b.wp P ro Q) Q) s := rfl
theorem wp_block_ {id : Nat} {b : MC} : MC.wp P ro (.block id b) Q s = b.wp P ro (inB id Q) s := rfl
theorem wp_exit_ {id : Nat} : MC.wp P ro (.exit id) Q s = Q (.x id) s := rfl
theorem wp_ret_ : MC.wp P ro .ret Q s = Q .r s := rfl
theorem wp_cond_ {c : X} {a b : MC} : MC.wp P ro (.cond c a b) Q s = match c.ev s.f with
    | some (.bool v) => if v = true then a.wp P ro Q s else b.wp P ro Q s
    | _ => False := rfl

theorem thenE_n {Q' : Ex → St → Prop} : thenE K Q' .n s = K s := rfl
theorem thenE_x {Q' : Ex → St → Prop} {id : Nat} : thenE K Q' (.x id) s = Q' (.x id) s := rfl
theorem thenE_r {Q' : Ex → St → Prop} : thenE K Q' .r s = Q' .r s := rfl
theorem inB_n {id : Nat} : inB id Q .n s = Q .n s := rfl
theorem inB_x {id k : Nat} : inB id Q (.x k) s = if k = id then Q .n s else Q (.x k) s := rfl
theorem inB_r {id : Nat} : inB id Q .r s = Q .r s := rfl
theorem fin_k {k : Option (List Nat)} : fin k none K s = K (s.kill k) := rfl
theorem fin_tr {k : Option (List Nat)} {n : Nat} : fin k (some n) K s = (TruncOk n (s.kill k) ∧ K { s.kill k with m := (s.kill k).m.take n }) := rfl
theorem kill_some {ks : List Nat} {t : List (Nat × V)} {m e : List (List V)} : St.kill ⟨t, m, e⟩ (some ks) = ⟨kp t ks, m, e⟩ := rfl
theorem kill_none : St.kill s none = s := rfl

theorem wpO_nil : wpO P ro K [] s = K s := rfl
theorem wpO_cons {d : Option Nat} {o : MOp} {rest : List MO} : wpO P ro K (⟨d, o, none⟩ :: rest) s = o.wp P ro s d (wpO P ro K rest) := rfl
theorem wpO_g {d : Option Nat} {o : MOp} {k : Nat} {b : Bool} {rest : List MO} : wpO P ro K (⟨d, o, some (k, b)⟩ :: rest) s = match lk s.t k with
      | some (.bool v) => if v = b then o.wp P ro s d (wpO P ro K rest) else wpO P ro K rest (s.put d (.tup []))
      | some (.tup _) => wpO P ro K rest (s.put d (.tup []))
      | _ => False := rfl

theorem callWp_mono {f : FuncId} {vs : List V} {K K' : V → St → Prop} (h : ∀ v s, K v s → K' v s) (hh : callWp P ro f vs s K) : callWp P ro f vs s K' := by
  rcases hh with ⟨sig, args, E, ro', Post, h1, h2, h3, h4, h5, h6⟩ | ⟨sig, args, E, Post, h1, h3, h4, h5, h6⟩
  · exact .inl ⟨sig, args, E, ro', Post, h1, h2, h3, h4, h5, fun v E' L' hp => ⟨(h6 v E' L' hp).1, h _ _ (h6 v E' L' hp).2⟩⟩
  · exact .inr ⟨sig, args, E, Post, h1, h3, h4, h5, fun v E' L' hp => h _ _ (h6 v E' L' hp)⟩

theorem appGrow_mono {z : List V} {b : Nat} {old news : List V} {need : Nat} {K K' : V → St → Prop} (h : ∀ v s, K v s → K' v s) (hh : appGrow s z b old news need K) : appGrow s z b old news need K' :=
  ⟨hh.1, hh.2.1, fun nc h1 h2 => h _ _ (hh.2.2 nc h1 h2)⟩

theorem appWp_mono {z : List V} {b : Nat} {isStr : Bool} {x y : V} {K K' : V → St → Prop} (h : ∀ v s, K v s → K' v s) (hh : appWp ro z b isStr x y s K) : appWp ro z b isStr x y s K' := by
  unfold appWp at *
  split
  · rename_i e; rw [e] at hh; exact hh
  · rename_i k news e
    rw [e] at hh
    refine ⟨hh.1, ?_⟩
    have hh := hh.2
    cases x <;> simp only at hh ⊢ <;> try exact hh
    case nilsl =>
      split
      · rename_i h0; rw [if_pos h0] at hh; exact h _ _ hh
      · rename_i h0; rw [if_neg h0] at hh; exact appGrow_mono h hh
    case sl n o len cap =>
      split
      · rename_i e2; rw [e2] at hh; exact hh
      · rename_i cs e2
        rw [e2] at hh
        simp only at hh
        split
        · rename_i h0; rw [if_pos h0] at hh; exact ⟨hh.1, hh.2.1, h _ _ hh.2.2⟩
        · rename_i h0; rw [if_neg h0] at hh; exact ⟨hh.1, hh.2.1, appGrow_mono h hh.2.2⟩
    case str bs =>
      split
      · rename_i h0; rw [if_pos h0] at hh; exact appGrow_mono h hh
      · rename_i h0; rw [if_neg h0] at hh; exact hh

theorem opwp_mono {o : MOp} {d : Option Nat} {K K' : St → Prop} (h : ∀ s, K s → K' s) (hh : o.wp P ro s d K) : o.wp P ro s d K' := by
  cases o <;> simp only [MOp.wp] at hh ⊢
  case call f xs =>
    split
    · rename_i vs e; rw [e] at hh; exact callWp_mono (fun v s hk => h _ hk) hh
    · rename_i e; rw [e] at hh; exact hh
  case callv x xs =>
    split
    · rename_i f fs cs vs e1 e2; rw [e1, e2] at hh; exact ⟨hh.1, callWp_mono (fun v s hk => h _ hk) hh.2⟩
    · rename_i e
      split at hh
      · rename_i e1 e2; exact (e _ _ _ _ e1 e2).elim
      · exact hh
  case app z b i x y =>
    split
    · rename_i xv yv e1 e2; rw [e1, e2] at hh; exact appWp_mono (fun v s ⟨s2, g1, g2⟩ => ⟨s2, g1, h _ g2⟩) hh
    · rename_i e
      split at hh
      · rename_i e1 e2; exact (e _ _ e1 e2).elim
      · exact hh
  all_goals
    split
    · rename_i e; rw [e] at hh; exact h _ hh
    · rename_i e; rw [e] at hh; exact hh

theorem wpO_mono {K K' : St → Prop} (h : ∀ s, K s → K' s) : ∀ (l : List MO) (s : St), wpO P ro K l s → wpO P ro K' l s
  | [], s, hh => h s hh
  | o :: l, s, hh => by
    simp only [wpO] at hh ⊢
    split
    · rename_i e; rw [e] at hh; exact opwp_mono (wpO_mono h l) hh
    · rename_i k b e
      rw [e] at hh
      simp only at hh
      split
      · rename_i v e2
        rw [e2] at hh
        simp only at hh
        split
        · rename_i h0; rw [if_pos h0] at hh; exact opwp_mono (wpO_mono h l) hh
        · rename_i h0; rw [if_neg h0] at hh; exact wpO_mono h l _ hh
      · rename_i vs e2
        rw [e2] at hh
        exact wpO_mono h l _ hh
      · rename_i e2 e3
        split at hh
        · rename_i v e4; exact (e2 v e4).elim
        · rename_i v e4; exact (e3 v e4).elim
        · exact hh

theorem wdop_mono {o : MOp} {d : Option Nat} {K K' : Sm → St → Prop} (h : ∀ A s, K A s → K' A s) (hh : o.wd P ro s d K) : o.wd P ro s d K' := by
  cases o <;> simp only [MOp.wd] at hh ⊢
  case call f xs =>
    split
    · rename_i vs e
      rw [e] at hh
      obtain ⟨sig, args, E, ro', v, E', L', h1, h2, h3, h4, h7⟩ := hh
      exact ⟨sig, args, E, ro', v, E', L', h1, h2, h3, h4, h _ _ h7⟩
    · rename_i e; rw [e] at hh; exact hh
  all_goals first
    | exact hh
    | (split
       · rename_i e; rw [e] at hh; exact h _ _ hh
       · rename_i e; rw [e] at hh; exact hh)

theorem wdO_mono {K K' : List Sm → St → Prop} (h : ∀ As s, K As s → K' As s) : ∀ (l : List MO) (s : St) (acc : List Sm), wdO P ro K l s acc → wdO P ro K' l s acc
  | [], s, acc, hh => h _ s hh
  | o :: l, s, acc, hh => by
    simp only [wdO] at hh ⊢
    split
    · rename_i e; rw [e] at hh; exact wdop_mono (fun A s => wdO_mono h l s _) hh
    · rename_i k b e
      rw [e] at hh
      simp only at hh
      split
      · rename_i v e2
        rw [e2] at hh
        simp only at hh
        split
        · rename_i h0; rw [if_pos h0] at hh; exact wdop_mono (fun A s => wdO_mono h l s _) hh
        · rename_i h0; rw [if_neg h0] at hh; exact wdO_mono h l _ _ hh
      · rename_i vs e2
        rw [e2] at hh
        exact wdO_mono h l _ _ hh
      · rename_i e2 e3
        split at hh
        · rename_i v e4; exact (e2 v e4).elim
        · rename_i v e4; exact (e3 v e4).elim
        · exact hh

theorem fin_mono {k : Option (List Nat)} {tr : Option Nat} {K K' : St → Prop} (h : ∀ s, K s → K' s) (hh : fin k tr K s) : fin k tr K' s := by
  cases tr with
  | none => exact h _ hh
  | some n => exact ⟨hh.1, h _ hh.2⟩

theorem wp_mono_ : ∀ (c : MC) (Q Q' : Ex → St → Prop) (s : St), (∀ e s, Q e s → Q' e s) → c.wp P ro Q s → c.wp P ro Q' s := by
  intro c
  induction c with
  | skip => intro Q Q' s h hh; exact h _ _ hh
  | reg d ops k tr =>
    intro Q Q' s h hh
    cases d with
    | none => exact wpO_mono (fun s => fin_mono (h .n)) ops s hh
    | some ps => exact wdO_mono (fun As s hk => ⟨hk.1, fin_mono (h .n) hk.2⟩) ops s [] hh
  | regT k ps pre tail kl tr =>
    intro Q Q' s h hh
    exact wdO_mono (fun As s hk => ⟨hk.1, wpO_mono (fun s => fin_mono (h .n)) tail s hk.2⟩) pre s [] hh
  | seq a b iha ihb =>
    intro Q Q' s h hh
    refine iha _ _ s (fun e s hq => ?_) hh
    cases e with
    | n => exact ihb _ _ s h hq
    | x id => exact h _ _ hq
    | r => exact h _ _ hq
  | cond c a b iha ihb =>
    intro Q Q' s h hh
    simp only [MC.wp] at hh ⊢
    split
    · rename_i v e
      rw [e] at hh
      simp only at hh
      split
      · rename_i h0; rw [if_pos h0] at hh; exact iha _ _ s h hh
      · rename_i h0; rw [if_neg h0] at hh; exact ihb _ _ s h hh
    · rename_i e
      split at hh
      · rename_i v e2; exact (e v e2).elim
      · exact hh
  | block id b ih =>
    intro Q Q' s h hh
    refine ih _ _ s (fun e s hq => ?_) hh
    cases e with
    | n => exact h _ _ hq
    | x k =>
      simp only [inB] at hq ⊢
      split
      · rename_i h0; rw [if_pos h0] at hq; exact h _ _ hq
      · rename_i h0; rw [if_neg h0] at hq; exact h _ _ hq
    | r => exact h _ _ hq
  | loop b ih =>
    intro Q Q' s h hh
    obtain ⟨I, n, h0, hs⟩ := hh
    refine ⟨I, n, h0, fun n s hI => ih _ _ s (fun e s hq => ?_) (hs n s hI)⟩
    cases e with
    | n => exact hq
    | x id => exact h _ _ hq
    | r => exact h _ _ hq
  | exit id => intro Q Q' s h hh; exact h _ _ hh
  | ret => intro Q Q' s h hh; exact h _ _ hh


/-- A call in a region whose order makes no difference to memory. -/
def callL (P : Program) (ro : Bool) (f : FuncId) (vs : List V) (s : St) (K : V → St → Prop) : Prop := callD P ro f vs s fun _ v s' _ _ => K v s'

def MOp.wl (P : Program) (ro : Bool) (s : St) (d : Option Nat) (K : St → Prop) : MOp → Prop
  | .call f xs => match evs s.f xs with
    | some vs => callL P ro f vs s fun v s' => K (s'.put d v)
    | none => False
  | .callv .. | .app .. => False
  | o => match o.ex ro s d with
    | some s' => K s'
    | none => False

def wlO (P : Program) (ro : Bool) (K : St → Prop) : List MO → St → Prop
  | [], s => K s
  | o :: rest, s => match o.g with
    | none => o.o.wl P ro s o.d (wlO P ro K rest)
    | some (k, want) => match lk s.t k with
      | some (.bool b) => if b = want then o.o.wl P ro s o.d (wlO P ro K rest) else wlO P ro K rest (s.put o.d (.tup []))
      | some (.tup _) => wlO P ro K rest (s.put o.d (.tup []))
      | _ => False

theorem wl_iff {o : MOp} {d : Option Nat} {K : Sm → St → Prop} {K' : St → Prop} (h : ∀ A s, K A s ↔ K' s) : o.wd P ro s d K ↔ o.wl P ro s d K' := by
  cases o <;> simp only [MOp.wd, MOp.wl] <;> try rfl
  case call f xs =>
    cases evs s.f xs with
    | none => rfl
    | some vs => simp only [callL, callD, h]
  all_goals
    split
    · rename_i e; rw [e]; exact h _ _
    · rename_i e; rw [e]

theorem wlO_iff {K : List Sm → St → Prop} {K' : St → Prop} (h : ∀ As s, K As s ↔ K' s) : ∀ (l : List MO) (s : St) (acc : List Sm), wdO P ro K l s acc ↔ wlO P ro K' l s
  | [], s, acc => h _ s
  | o :: l, s, acc => by
    simp only [wdO, wlO]
    cases hg : o.g with
    | none => exact wl_iff fun A s' => wlO_iff h l s' _
    | some p =>
      obtain ⟨k, b⟩ := p
      simp only
      generalize lk s.t k = x
      cases x with
      | none => rfl
      | some v =>
        cases v <;> try rfl
        case bool b' =>
          simp only
          by_cases hb : b' = b
          · rw [if_pos hb, if_pos hb]; exact wl_iff fun A s' => wlO_iff h l s' _
          · rw [if_neg hb, if_neg hb]; exact wlO_iff h l _ _
        case tup cs => exact wlO_iff h l _ _

theorem wp_regl_ {ops : List MO} {k : Option (List Nat)} {tr : Option Nat} : MC.wp P ro (.reg (some []) ops k tr) Q s ↔ wlO P ro (fin k tr (Q .n)) ops s :=
  wlO_iff (fun As s => by simp [pairsOk]) ops s []

theorem wlO_nil : wlO P ro K [] s = K s := rfl
theorem wlO_cons {d : Option Nat} {o : MOp} {rest : List MO} : wlO P ro K (⟨d, o, none⟩ :: rest) s = o.wl P ro s d (wlO P ro K rest) := rfl
theorem wlO_g {d : Option Nat} {o : MOp} {k : Nat} {b : Bool} {rest : List MO} : wlO P ro K (⟨d, o, some (k, b)⟩ :: rest) s = match lk s.t k with
      | some (.bool v) => if v = b then o.wl P ro s d (wlO P ro K rest) else wlO P ro K rest (s.put d (.tup []))
      | some (.tup _) => wlO P ro K rest (s.put d (.tup []))
      | _ => False := rfl
theorem wp_regd_' {p : Nat × Nat} {ps : List (Nat × Nat)} {ops : List MO} {k : Option (List Nat)} {tr : Option Nat} : MC.wp P ro (.reg (some (p :: ps)) ops k tr) Q s = wdO P ro (fun As s' => pairsOk (p :: ps) As ∧ fin k tr (Q .n) s') ops s [] := rfl


/-! ### Regions that draw their order, by the names of blocks alone -/

structure Mm where
  rs : List Nm
  nw : List Nat
  ch : List Nm
def Sm.mm (A : Sm) : Mm := ⟨A.rs.map (·.1), A.nw, A.ch.map (·.1)⟩
def ma1 : List Nm → List Nm → List Nat → Bool
  | [], _, _ => true
  | n :: t, rs, nw => !nmIn n rs && !nmIn n (nw.map .l) && ma1 t rs nw
def ca1 : List Nm → List Nm → Bool
  | [], _ => true
  | n :: t, ch => !nmIn n ch && ca1 t ch
def Mm.apart (A B : Mm) : Bool := ma1 A.ch B.rs B.nw && ma1 B.ch A.rs A.nw && ca1 A.ch B.ch
theorem ma1_eq (rs : List (Nm × Option (List V))) (nw : List Nat) : ∀ ch : List (Nm × List V), memApart1 ch rs nw = ma1 (ch.map (·.1)) (rs.map (·.1)) nw
  | [] => rfl
  | (n, c) :: t => by simp only [memApart1, List.map_cons, ma1, ma1_eq rs nw t]
theorem ca1_eq (b : List (Nm × List V)) : ∀ ch : List (Nm × List V), chApart ch b = ca1 (ch.map (·.1)) (b.map (·.1))
  | [] => rfl
  | (n, c) :: t => by simp only [chApart, List.map_cons, ca1, ca1_eq b t]
theorem apart_mm (A B : Sm) : A.memApart B = A.mm.apart B.mm := by simp only [Sm.memApart, Mm.apart, Sm.mm, ma1_eq, ca1_eq]

def mmOk : List (Nat × Nat) → List Mm → Prop
  | [], _ => True
  | (j, i) :: ps, As => (match As[j]?, As[i]? with | some A, some B => A.apart B = true | _, _ => False) ∧ mmOk ps As
theorem pairs_mm (As : List Sm) : ∀ ps : List (Nat × Nat), pairsOk ps As ↔ mmOk ps (As.map Sm.mm)
  | [] => Iff.rfl
  | (j, i) :: ps => by
    simp only [pairsOk, mmOk, pairs_mm As ps, List.getElem?_map]
    cases As[j]? <;> cases As[i]? <;> simp [apart_mm]

def Mm.of (o : MOp) (s : St) : Mm := ⟨o.looks s, o.news s, o.touch s⟩
def callMm (s : St) (sig : List Nm) (E' L' : List (List V)) : Mm := ⟨sig, List.range' s.m.length L'.length, (callCh sig s.m.length E' L').map (·.1)⟩

def MOp.wm (P : Program) (ro : Bool) (s : St) (d : Option Nat) (K : Mm → St → Prop) : MOp → Prop
  | .call f xs => match evs s.f xs with
    | some vs => callD P ro f vs s fun sig v s' E' L' => K (callMm s sig E' L') (s'.put d v)
    | none => False
  | .callv .. | .app .. => False
  | o => match o.ex ro s d with
    | some s' => K (Mm.of o s) s'
    | none => False

def wmO (P : Program) (ro : Bool) (K : List Mm → St → Prop) : List MO → St → List Mm → Prop
  | [], s, acc => K acc.reverse s
  | o :: rest, s, acc => match o.g with
    | none => o.o.wm P ro s o.d fun A s' => wmO P ro K rest s' (A :: acc)
    | some (k, want) => match lk s.t k with
      | some (.bool b) => if b = want then o.o.wm P ro s o.d fun A s' => wmO P ro K rest s' (A :: acc) else wmO P ro K rest (s.put o.d (.tup [])) (⟨[], [], []⟩ :: acc)
      | some (.tup _) => wmO P ro K rest (s.put o.d (.tup [])) (⟨[], [], []⟩ :: acc)
      | _ => False

theorem wm_iff {o : MOp} {s : St} {d : Option Nat} {K : Sm → St → Prop} {K' : Mm → St → Prop} (h : ∀ A s, K A s ↔ K' A.mm s) : o.wd P ro s d K ↔ o.wm P ro s d K' := by
  cases o <;> simp only [MOp.wd, MOp.wm] <;> try rfl
  case call f xs =>
    cases evs s.f xs with
    | none => rfl
    | some vs =>
      simp only [callD, h]
      refine exists_congr fun sig => exists_congr fun args => exists_congr fun E => exists_congr fun ro' => exists_congr fun v => exists_congr fun E' => exists_congr fun L' => ?_
      have : (callSm s (X.sls xs) sig d (v.ren (nmap sig s.m.length)) E' L').mm = callMm s sig E' L' := by simp [Sm.mm, callSm, callMm, Function.comp_def]
      rw [this]
  all_goals
    split
    · rename_i e; rw [e]; simp only [h]; simp [Sm.mm, Sm.of, Mm.of, Function.comp_def]
    · rename_i e; rw [e]

theorem wmO_iff {K : List Sm → St → Prop} {K' : List Mm → St → Prop} (h : ∀ As s, K As s ↔ K' (As.map Sm.mm) s) : ∀ (l : List MO) (s : St) (acc : List Sm), wdO P ro K l s acc ↔ wmO P ro K' l s (acc.map Sm.mm)
  | [], s, acc => by simp only [wdO, wmO, h, List.map_reverse]
  | o :: l, s, acc => by
    simp only [wdO, wmO]
    cases hg : o.g with
    | none => exact wm_iff fun A s' => by rw [wmO_iff h l s' _]; rfl
    | some p =>
      obtain ⟨k, b⟩ := p
      simp only
      generalize lk s.t k = x
      cases x with
      | none => rfl
      | some v =>
        cases v <;> try rfl
        case bool b' =>
          simp only
          by_cases hb : b' = b
          · rw [if_pos hb, if_pos hb]; exact wm_iff fun A s' => by rw [wmO_iff h l s' _]; rfl
          · rw [if_neg hb, if_neg hb]; rw [wmO_iff h l _ _]; rfl
        case tup cs => simp only; rw [wmO_iff h l _ _]; rfl

theorem wp_regp_ {p : Nat × Nat} {ps : List (Nat × Nat)} {ops : List MO} {k : Option (List Nat)} {tr : Option Nat} : MC.wp P ro (.reg (some (p :: ps)) ops k tr) Q s ↔ wmO P ro (fun ms s' => mmOk (p :: ps) ms ∧ fin k tr (Q .n) s') ops s [] :=
  wmO_iff (fun As s => by rw [pairs_mm]) ops s []
theorem wp_regT_ {n : Nat} {ps : List (Nat × Nat)} {pre tail : List MO} {k : Option (List Nat)} {tr : Option Nat} : MC.wp P ro (.regT n ps pre tail k tr) Q s ↔ wmO P ro (fun ms s' => mmOk ps ms ∧ wpO P ro (fin k tr (Q .n)) tail s') pre s [] :=
  wmO_iff (fun As s => by rw [pairs_mm]) pre s []
theorem wmO_nil {K : List Mm → St → Prop} {s : St} {acc : List Mm} : wmO P ro K [] s acc = K acc.reverse s := rfl
theorem wmO_cons {K : List Mm → St → Prop} {s : St} {acc : List Mm} {d : Option Nat} {o : MOp} {rest : List MO} : wmO P ro K (⟨d, o, none⟩ :: rest) s acc = o.wm P ro s d fun A s' => wmO P ro K rest s' (A :: acc) := rfl
theorem wmO_g {K : List Mm → St → Prop} {s : St} {acc : List Mm} {d : Option Nat} {o : MOp} {k : Nat} {b : Bool} {rest : List MO} : wmO P ro K (⟨d, o, some (k, b)⟩ :: rest) s acc = match lk s.t k with
      | some (.bool v) => if v = b then o.wm P ro s d fun A s' => wmO P ro K rest s' (A :: acc) else wmO P ro K rest (s.put d (.tup [])) (⟨[], [], []⟩ :: acc)
      | some (.tup _) => wmO P ro K rest (s.put d (.tup [])) (⟨[], [], []⟩ :: acc)
      | _ => False := rfl

attribute [simp] wp_skip_ wp_reg_ wp_regl_ wp_regp_ wp_regT_ wmO_nil wmO_cons wmO_g MOp.wm Mm.of callMm mmOk Mm.apart ma1 ca1 nmIn MOp.looks MOp.reads MOp.news MOp.touch V.nmOf callCh newL wlO_nil wlO_cons wlO_g MOp.wl wp_seq_ wp_block_ wp_exit_ wp_ret_ wp_cond_ thenE_n thenE_x thenE_r inB_n inB_x inB_r fin_k fin_tr kill_some kill_none wpO_nil wpO_cons wpO_g
def orI (k : IntKind) (a b : Int) : Int := k.wrap (BitVec.ofInt k.bits a ||| BitVec.ofInt k.bits b).toNat
def andI (k : IntKind) (a b : Int) : Int := k.wrap (BitVec.ofInt k.bits a &&& BitVec.ofInt k.bits b).toNat
def xorI (k : IntKind) (a b : Int) : Int := k.wrap (BitVec.ofInt k.bits a ^^^ BitVec.ofInt k.bits b).toNat
def ancI (k : IntKind) (a b : Int) : Int := k.wrap (BitVec.ofInt k.bits a &&& ~~~ BitVec.ofInt k.bits b).toNat
def notI (k : IntKind) (n : Int) : Int := k.wrap (BitVec.ofInt k.bits (if k.signed then -1 else k.max) ^^^ BitVec.ofInt k.bits n).toNat
def shlI (k : IntKind) (a b : Int) : Int := k.wrap (a * 2 ^ (min b.toNat k.bits))
def shrI (k : IntKind) (a b : Int) : Int := a.fdiv (2 ^ (min b.toNat k.bits))
section
variable {k k' : IntKind} {a b : Int} {x : Bool}
@[simp] theorem bi_shl : binInt .shl k k' a b = if b < 0 then none else some (.int k (shlI k a b)) := rfl
@[simp] theorem bi_shr : binInt .shr k k' a b = if b < 0 then none else some (.int k (shrI k a b)) := rfl
@[simp] theorem bi_add : binInt .add k k a b = some (.int k (k.wrap (a + b))) := by simp [binInt]
@[simp] theorem bi_sub : binInt .sub k k a b = some (.int k (k.wrap (a - b))) := by simp [binInt]
@[simp] theorem bi_mul : binInt .mul k k a b = some (.int k (k.wrap (a * b))) := by simp [binInt]
@[simp] theorem bi_quo : binInt .quo k k a b = if b = 0 then none else some (.int k (k.wrap (a.tdiv b))) := by simp [binInt]
@[simp] theorem bi_rem : binInt .rem k k a b = if b = 0 then none else some (.int k (a.tmod b)) := by simp [binInt]
@[simp] theorem bi_and : binInt .and k k a b = some (.int k (andI k a b)) := by show (if k = k then _ else _) = _; rw [if_pos rfl]; rfl
@[simp] theorem bi_or : binInt .or k k a b = some (.int k (orI k a b)) := by show (if k = k then _ else _) = _; rw [if_pos rfl]; rfl
@[simp] theorem bi_xor : binInt .xor k k a b = some (.int k (xorI k a b)) := by show (if k = k then _ else _) = _; rw [if_pos rfl]; rfl
@[simp] theorem bi_anc : binInt .andNot k k a b = some (.int k (ancI k a b)) := by show (if k = k then _ else _) = _; rw [if_pos rfl]; rfl
@[simp] theorem bi_eql : binInt .eql k k a b = some (.bool (decide (a = b))) := by by_cases h : a = b <;> simp [binInt, h]
@[simp] theorem bi_neq : binInt .neq k k a b = some (.bool (!decide (a = b))) := by by_cases h : a = b <;> simp [binInt, bne, h]
@[simp] theorem bi_lss : binInt .lss k k a b = some (.bool (decide (a < b))) := by simp [binInt]
@[simp] theorem bi_leq : binInt .leq k k a b = some (.bool (decide (a ≤ b))) := by simp [binInt]
@[simp] theorem bi_gtr : binInt .gtr k k a b = some (.bool (decide (b < a))) := by simp [binInt]
@[simp] theorem bi_geq : binInt .geq k k a b = some (.bool (decide (b ≤ a))) := by simp [binInt]
@[simp] theorem un_neg : unV .neg (.int k a) = some (.int k (k.wrap (0 - a))) := rfl
@[simp] theorem un_xor : unV .xor (.int k a) = some (.int k (notI k a)) := rfl
@[simp] theorem un_not : unV .not (.bool x) = some (.bool (!x)) := rfl
end

@[simp] theorem one_int {k : IntKind} {n : Int} : V.one (.int k n) = true := rfl
@[simp] theorem one_bool {x : Bool} : V.one (.bool x) = true := rfl
@[simp] theorem one_str {x : ByteArray} : V.one (.str x) = true := rfl
@[simp] theorem one_ptr {n : Nm} {o : Nat} : V.one (.ptr n o) = true := rfl
@[simp] theorem one_nilptr : V.one .nilptr = true := rfl
@[simp] theorem one_sl {n : Nm} {o l c : Nat} : V.one (.sl n o l c) = true := rfl
@[simp] theorem one_slx {n : Nm} {o l : Nat} : V.one (.slx n o l) = true := rfl
@[simp] theorem one_nilsl : V.one .nilsl = true := rfl
@[simp] theorem one_fn {f : FuncId} {a b : List V} : V.one (.fn f a b) = true := rfl
@[simp] theorem one_agg {a : List V} : V.one (.agg a) = false := rfl
@[simp] theorem one_tup {a : List V} : V.one (.tup a) = false := rfl

attribute [simp] fillV zipT MOp.wp MOp.ex MOp.q X.ev St.f lk sv kl kp St.put St.drop St.blk St.setBlk V.part V.cells evs binV okW isE putl bd bdO slb retV resV rd

/-- A loop that counts up: the state at the head of round k. -/
theorem wp_for {b : MC} (n : Nat) (S : Nat → St) (h0 : s = S 0) (hstep : ∀ k, k < n → b.wp P ro (thenE (fun s' => s' = S (k + 1)) Q) (S k)) (hend : b.wp P ro (thenE (fun _ => False) Q) (S n)) : MC.wp P ro (.loop b) Q s := by
  refine ⟨fun j s' => j ≤ n ∧ s' = S (n - j), n, ⟨Nat.le_refl _, by simpa using h0⟩, ?_⟩
  rintro j s' ⟨hj, rfl⟩
  rcases Nat.eq_zero_or_pos j with h | h
  · subst h
    simp only [Nat.sub_zero]
    refine wp_mono_ _ _ _ _ (fun e s hq => ?_) hend
    cases e <;> simp_all [thenE]
  · have := hstep (n - j) (by omega)
    refine wp_mono_ _ _ _ _ (fun e s hq => ?_) this
    cases e with
    | n => simp only [thenE] at *; exact ⟨j - 1, by omega, by omega, by rw [hq]; congr 1; omega⟩
    | x id => exact hq
    | r => exact hq
end
end Go.Ab
