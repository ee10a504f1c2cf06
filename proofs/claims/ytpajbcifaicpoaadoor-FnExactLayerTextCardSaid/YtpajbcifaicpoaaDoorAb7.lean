/- A part of the proof library: names for blocks of memory, a small form of the code, and rules for walks over it. -/
import Derived.Test.YtpajbcifaicpoaaDoorAb6
set_option linter.all false
namespace Go.Ab

section
variable {ro : Bool} {W w : World} {r : Rho} {s : Fs} {a : Act} {P : Program}

theorem equal_bool (w : World) {t : TypeId} (ht : P.underlying t = some .bool) (x y : Bool) : (Op.equal t (.bool x) (.bool y)).run P w = .ok (x == y) w := by
  show (Op.equalIn (9999 + 1) t (.bool x) (.bool y)).run P w = _
  unfold Op.equalIn
  simp only [Sem.run_bind, run_underlying' w ht, Result.andThen_ok]
  rfl

theorem nlq_run (w : World) {neg : Bool} {p v : V} {u u' : Value} {t e : TypeId} (x y : Operand) (hu : P.underlying t = some (.slice e)) (hx : V.R r p u) (hy : u' = .slice none 0 0) (h : nlqV neg p = some v) :
    (eqGuard (if neg = true then .neq else .eql) t x y u u').run P w = .ok () w ∧ ∃ z, (binOp (if neg = true then .neq else .eql) t u u').run P w = .ok z w ∧ V.R r v z := by
  subst hy
  have key : ∀ b : Bool, (Op.equal t u (.slice none 0 0)).run P w = .ok b w → u ≠ .nilIface → (∀ c, u ≠ .agg c) → v = .bool (if neg = true then !b else b) →
      (eqGuard (if neg = true then .neq else .eql) t x y u (.slice none 0 0)).run P w = .ok () w ∧ ∃ z, (binOp (if neg = true then .neq else .eql) t u (.slice none 0 0)).run P w = .ok z w ∧ V.R r v z := by
    intro b hb h1 h2 hv
    subst hv
    refine ⟨?_, .bool (if neg = true then !b else b), ?_, V.R_bool.2 rfl⟩
    · cases neg <;> cases u <;> first | rfl | exact absurd rfl h1 | exact absurd rfl (h2 _)
    · cases neg <;> cases u <;> simp_all [binOp, Sem.run_bind, Result.andThen_ok, Sem.run_pure]
  have eqr : ∀ o l c, (Op.equal t (.slice o l c) (.slice none 0 0)).run P w = .ok o.isNone w := fun o l c => by
    show (Op.equalIn (9999 + 1) t (.slice o l c) (.slice none 0 0)).run P w = _
    unfold Op.equalIn
    simp only [Sem.run_bind, run_underlying' w hu, Result.andThen_ok]
    cases o <;> rfl
  unfold nlqV at h
  split at h
  · cases h
    rw [V.R_sl] at hx; obtain ⟨b, _, rfl⟩ := hx
    exact key false (eqr _ _ _) (by simp) (by simp) (by cases neg <;> rfl)
  · cases h
    rw [V.R_slx] at hx; obtain ⟨b, c, _, rfl, _⟩ := hx
    exact key false (eqr _ _ _) (by simp) (by simp) (by cases neg <;> rfl)
  · cases h
    rw [V.R_nilsl] at hx; subst hx
    exact key true (eqr _ _ _) (by simp) (by simp) (by cases neg <;> rfl)
  · cases h

theorem fieldPlace_run (w : World) {f : Field} {n : Nat} (h : szO P f.type = some n) (hn : n ≠ 0) (a : Addr) : (fieldPlace a f).run P w = .ok (a.add f.offset) w := by
  unfold fieldPlace
  simp only [Sem.run_bind, run_sizeOf w h, Result.andThen_ok]
  rw [if_neg hn]
  rfl

theorem addr_add (b off k : Nat) : (⟨b, off, none⟩ : Addr).add k = ⟨b, off + k, none⟩ := by
  unfold Addr.add; split <;> simp_all

theorem fieldO_some {t : TypeId} {f : Nat} {fd : Field} (h : fieldO P t f = some fd) : ∃ fs, P.underlying t = some (.struct fs) ∧ fs[f]? = some fd := by
  unfold fieldO at h
  split at h
  · rename_i fs hu; exact ⟨fs, hu, h⟩
  · cases h

theorem mmV_sound (w : World) (mx : Bool) : ∀ (vs : List V) (v u : V) (x : Value) (xs : List Value), V.R r v x → RL r vs xs → mmV mx v vs = some u →
    ∃ y, (xs.foldlM (if mx then Builtin.max2 else Builtin.min2) x).run P w = .ok y w ∧ V.R r u y
  | [], v, u, x, xs, hv, hs, h => by
    have : mmV mx v [] = some v := by cases v <;> rfl
    rw [this] at h
    simp only [RL] at hs; subst hs; cases h
    exact ⟨x, rfl, hv⟩
  | v' :: vs, v, u, x, xs, hv, hs, h => by
    rw [RL_cons] at hs
    obtain ⟨y, ys, rfl, h1, h2⟩ := hs
    unfold mmV at h
    split at h
    · rename_i e; cases e
    · rename_i k a k' b vs' e
      cases e
      split at h
      · rename_i hk
        subst hk
        rw [V.R_int] at hv h1
        subst hv; subst h1
        obtain ⟨z, hz, hR⟩ := mmV_sound w mx vs _ u _ ys (V.R_int.2 rfl) h2 h
        refine ⟨z, ?_, hR⟩
        rw [List.foldlM_cons, Sem.run_bind]
        cases mx
        · simpa [Builtin.min2] using hz
        · simpa [Builtin.max2] using hz
      · cases h
    · cases h

theorem bytes_loop (f : Value → ByteArray → Sem (ForInStep ByteArray)) (hf : ∀ n s, f (.int .u8 n) s = pure (.yield (s.push (UInt8.ofNat n.toNat)))) (l : List Value) : ∀ {us : List V} {bs : List UInt8} (acc : ByteArray), RL r us l → bytesV us = some bs →
    (forIn (List.toArray l) acc f).run P w = .ok ⟨acc.data ++ List.toArray bs⟩ w := by
  induction l with
  | nil =>
    intro us bs acc h hb
    cases us with
    | nil => simp only [bytesV] at hb; cases hb; simp
    | cons u us => rw [RL_cons] at h; obtain ⟨_, _, e, _⟩ := h; cases e
  | cons x l ih =>
    intro us bs acc h hb
    cases us with
    | nil => simp [RL] at h
    | cons u us =>
      simp only [RL_cons_cons] at h
      unfold bytesV at hb
      split at hb
      · rename_i e; cases e
      · rename_i n us' e
        cases e
        split at hb
        · rename_i bs' hbs
          cases hb
          have hx := h.1
          rw [V.R_int] at hx
          subst hx
          have := ih (acc.push (UInt8.ofNat n.toNat)) h.2 hbs
          simp only [List.forIn_toArray, List.forIn_cons, hf] at this ⊢
          rw [Sem.run_bind]
          simp only [Sem.run_pure, Result.andThen_ok]
          rw [this]
          simp [ByteArray.push]
        · cases hb
      · cases hb

theorem toStr_run (hC : Cn ro W r s.m w) {n : Nm} {cs : List V} (hcs : s.m n = some cs) {b : Nat} (hb : r.get n = some b) {off len cap : Nat} (hle : off + len ≤ cs.length) {bs : List UInt8}
    (hbs : bytesV ((cs.drop off).take len) = some bs) : (Conv.bytesToString (.slice (some ⟨b, off, none⟩) len cap)).run P w = .ok (.string ⟨List.toArray bs⟩) w := by
  obtain ⟨b', xs, ts, ty, fr, g1, g2, g3⟩ := hC.blk_at hcs
  rw [hb] at g1; cases g1
  have hlen := g3.length
  have hlc := run_loadCells' (P := P) w b off ((xs.drop off).take len) len (by simp; omega) (fun j u hj => by
    have hjm : j < len := by
      rcases Nat.lt_or_ge j len with h | h
      · exact h
      · rw [List.getElem?_eq_none (by simp; omega)] at hj; cases hj
    rw [List.getElem?_take_of_lt hjm, List.getElem?_drop] at hj
    simp only [World.cell?, g2, List.getElem?_toArray, getElem?_pre hj]; rfl)
  simp only [Conv.bytesToString, Sem.run_bind, hlc, Result.andThen_ok]
  rw [bytes_loop (P := P) (w := w) _ (fun n s => rfl) _ ByteArray.empty ((g3.drop off).take len) hbs]
  simp only [Result.andThen_ok, Sem.run_pure]
  congr 3
  exact Array.empty_append

theorem get_byte (bs : ByteArray) (k : Nat) (c : UInt8) (h : bs.data.toList[k]? = some c) : bs[k]? = some c := by
  rw [List.getElem?_eq_some_iff] at h
  obtain ⟨hlt, hv⟩ := h
  have hlt' : k < bs.size := by simpa using hlt
  rw [getElem?_pos bs k hlt']
  congr 1

theorem allSz_run (w : World) : ∀ (fs : List Field), allSz P fs = true → (fs.mapM fun f => (do pure (f.offset, ← sizeOf f.type) : Sem (Nat × Nat))).run P w = .ok (fs.map fun f => (f.offset, (szO P f.type).getD 0)) w
  | [], _ => rfl
  | f :: fs, h => by
    simp only [allSz, Bool.and_eq_true] at h
    obtain ⟨n, hn⟩ := Option.isSome_iff_exists.1 h.1
    rw [List.mapM_cons]
    simp only [Sem.run_bind, run_sizeOf w hn, Result.andThen_ok, Sem.run_pure, allSz_run w fs h.2]
    simp [hn]

theorem nums_R {r : Rho} : ∀ {ks : List IntKind} {l : List V} {xs : List Value} {m : List Int}, nums ks l = some m → RL r l xs → xs = zi ks m ∧ m.length = ks.length
  | [], [], xs, m, h, hR => by simp only [nums] at h; cases h; simp at hR; simp [hR, zi]
  | [], _ :: _, _, _, h, _ => by simp [nums] at h
  | k :: ks, [], _, _, h, _ => by simp [nums] at h
  | k :: ks, v :: vs, xs, m, h, hR => by
    cases v <;> simp only [nums] at h <;> try (cases h; done)
    case int k' n =>
      split at h
      · rename_i e
        subst e
        simp only [Option.map_eq_some_iff] at h
        obtain ⟨m', hm', rfl⟩ := h
        rw [RL_cons] at hR
        obtain ⟨x, ys, rfl, h1, h2⟩ := hR
        rw [V.R_int] at h1
        obtain ⟨e1, e2⟩ := nums_R hm' h2
        subst h1; subst e1
        exact ⟨rfl, by simp [e2]⟩
      · cases h

theorem aeq_run (w : World) {neg : Bool} {ks : List IntKind} {p q : List V} {u u' : Value} {t : TypeId} {d : TypeDesc} (x y : Operand) {m n : List Int} (hk : eqK P 20 t = some ks) (hu : P.underlying t = some d) (hagg : isAggD d = true) (hgt : P.eqGuardType P.depth t = false) (hp : V.R r (.agg p) u) (hq : V.R r (.agg q) u') (hm : nums ks p = some m) (hn : nums ks q = some n) :
    (eqGuard (if neg = true then .neq else .eql) t x y u u').run P w = .ok () w ∧ (binOp (if neg = true then .neq else .eql) t u u').run P w = .ok (.bool (if neg = true then !decide (m = n) else decide (m = n))) w := by
  rw [V.R_agg] at hp hq
  obtain ⟨xs, rfl, h1, _⟩ := hp
  obtain ⟨ys, rfl, h2, _⟩ := hq
  obtain ⟨rfl, l1⟩ := nums_R hm h1
  obtain ⟨rfl, l2⟩ := nums_R hn h2
  have hv : ∀ ns, vk P t ks ns = .agg (List.toArray (zi ks ns)) := fun ns => by
    unfold vk; rw [hu]; cases d <;> simp [isAggD] at hagg <;> rfl
  have he := eqK_sound 20 9980 t ks hk w m n l1 l2
  rw [hv, hv] at he
  constructor
  · cases neg <;> simp [eqGuard, hgt]
  · cases neg
    · simp only [Bool.false_eq_true, if_false]
      rw [run_eql_struct w t, he]; rfl
    · simp only [if_true]
      rw [run_neq_struct w t, he]; rfl

/-- **A reading operation does what its small form says.** -/
theorem q_sound {o : Oper} {mo : MOp} (hc : compOp P o.op = some mo) (hT : RT r s.t a) (hC : Cn ro W r s.m w) {v : V} (hv : mo.q s = some v) :
    ∃ x, (execOp a.eval o).run P w = .ok (.value x) w ∧ V.R r v x := by
  obtain ⟨dst, op, type, pos, after, guard⟩ := o
  simp only at hc
  cases op with
  | move x =>
    simp only [compOp] at hc; split at hc <;> cases hc
    rename_i hx
    exact ⟨_, rfl, compX_sound hx hT hv⟩
  | assign x =>
    simp only [compOp] at hc; split at hc <;> cases hc
    rename_i hx
    exact ⟨_, rfl, compX_sound hx hT hv⟩
  | pick c x y =>
    simp only [compOp] at hc; split at hc <;> cases hc
    rename_i h1 h2 h3
    simp only [MOp.q] at hv
    split at hv
    · rename_i b hb
      have hcR := compX_sound h1 hT hb
      rw [V.R_bool] at hcR
      cases b
      · exact ⟨_, by simp [execOp, hcR, asBool], compX_sound h3 hT (by simpa using hv)⟩
      · exact ⟨_, by simp [execOp, hcR, asBool], compX_sound h2 hT (by simpa using hv)⟩
    · cases hv
  | load t x =>
    simp only [compOp] at hc; split at hc <;> cases hc
    rename_i hg hx
    simp only [MOp.q] at hv
    split at hv
    · rename_i n off he
      have hR := compX_sound hx hT he
      rw [V.R_ptr] at hR
      obtain ⟨b, hb, hxe⟩ := hR
      split at hv
      · rename_i cs hcs
        obtain ⟨u, hu, hRu⟩ := rd_sound hC hcs hb hg hv
        refine ⟨u, ?_, hRu⟩
        simp only [execOp, Instr.loadAt, hxe, Instr.sureAddr, Sem.run_bind, Sem.run_pure, Result.andThen_ok, hu]
      · cases hv
    · cases hv
  | nilCheck x =>
    simp only [compOp] at hc; split at hc <;> cases hc
    rename_i hx
    simp only [MOp.q] at hv
    split at hv
    · rename_i n off he
      cases hv
      have hR := compX_sound hx hT he
      have hR' := hR
      rw [V.R_ptr] at hR
      obtain ⟨b, hb, hxe⟩ := hR
      rw [hxe] at hR'
      exact ⟨_, by simp only [execOp, hxe]; rfl, hR'⟩
    · rename_i f u v' he
      cases hv
      have hR := compX_sound hx hT he
      have hR' := hR
      rw [V.R_fn] at hR
      obtain ⟨xs, ys, hxe, _⟩ := hR
      rw [hxe] at hR'
      exact ⟨_, by simp only [execOp, hxe]; rfl, hR'⟩
    · cases hv
  | binOp op t x y yt =>
    simp only [compOp] at hc
    split at hc
    · rename_i x' y' hu h1 h2
      split at hc
      all_goals first | cases hc | skip
      all_goals
        simp only [MOp.q] at hv
        split at hv
        · rename_i p q hp hq
          cases hv
          have e1 := compX_sound h1 hT hp
          have e2 := compX_sound h2 hT hq
          rw [V.R_bool] at e1 e2
          refine ⟨_, ?_, V.R_bool.2 rfl⟩
          simp only [execOp, e1, e2, Sem.run_bind, eqGuard_run w _ _ _ _ _ _ (.inr (.inr ⟨_, rfl⟩)), Result.andThen_ok, binOp, equal_bool w hu, Sem.run_pure]
          try rfl
        · cases hv
    · rename_i x' y' hu hnb h1 h2
      split at hc
      · rename_i hagg
        split at hc
        · rename_i hgt
          split at hc
          · rename_i ks hk
            cases hc
            simp only [MOp.q] at hv
            split at hv
            · rename_i p q hp hq
              split at hv
              · rename_i m n hm hn
                cases hv
                obtain ⟨g1, g2⟩ := aeq_run (neg := false) w x y hk hnb hagg hgt (compX_sound h1 hT hp) (compX_sound h2 hT hq) hm hn
                exact ⟨_, by simp only [execOp, Sem.run_bind]; rw [if_neg (by simp)] at g1 g2; simp only [g1, Result.andThen_ok, g2, Sem.run_pure], V.R_bool.2 rfl⟩
              · cases hv
            · cases hv
          · rename_i ks hk
            cases hc
            simp only [MOp.q] at hv
            split at hv
            · rename_i p q hp hq
              split at hv
              · rename_i m n hm hn
                cases hv
                obtain ⟨g1, g2⟩ := aeq_run (neg := true) w x y hk hnb hagg hgt (compX_sound h1 hT hp) (compX_sound h2 hT hq) hm hn
                exact ⟨_, by simp only [execOp, Sem.run_bind]; rw [if_pos rfl] at g1 g2; simp only [g1, Result.andThen_ok, g2, Sem.run_pure], V.R_bool.2 rfl⟩
              · cases hv
            · cases hv
          · cases hc
        · cases hc
      · split at hc
        · cases hc
          simp only [MOp.q] at hv
          split at hv
          · rename_i p hp
            have e2 : a.eval y = Value.slice none 0 0 := V.R_nilsl.1 (compX_sound h2 hT rfl)
            obtain ⟨g1, z, g2, hR⟩ := nlq_run (P := P) (t := t) (neg := false) w x y hnb (compX_sound h1 hT hp) e2 hv
            exact ⟨z, by simp only [execOp, Sem.run_bind]; rw [if_neg (by simp)] at g1 g2; simp only [g1, Result.andThen_ok, g2, Sem.run_pure], hR⟩
          · cases hv
        · cases hc
          simp only [MOp.q] at hv
          split at hv
          · rename_i p hp
            have e2 : a.eval y = Value.slice none 0 0 := V.R_nilsl.1 (compX_sound h2 hT rfl)
            obtain ⟨g1, z, g2, hR⟩ := nlq_run (P := P) (t := t) (neg := true) w x y hnb (compX_sound h1 hT hp) e2 hv
            exact ⟨z, by simp only [execOp, Sem.run_bind]; rw [if_pos rfl] at g1 g2; simp only [g1, Result.andThen_ok, g2, Sem.run_pure], hR⟩
          · cases hv
        · cases hc
          simp only [MOp.q] at hv
          split at hv
          · rename_i p q hp hq
            have e1 := compX_sound h1 hT hp
            have e2 := compX_sound h2 hT hq
            obtain ⟨z, hz, hR⟩ := binV_sound (P := P) w t hv e1 e2
            refine ⟨z, ?_, hR⟩
            have hg : (eqGuard op t x y (a.eval x) (a.eval y)).run P w = .ok () w := by
              refine eqGuard_run w _ _ _ _ _ _ ?_
              rcases binV_left hv with ⟨k, n, rfl⟩ | ⟨b, rfl⟩
              · rw [V.R_int] at e1; exact .inl ⟨_, _, e1⟩
              · rw [V.R_str] at e1; exact .inr (.inl ⟨_, e1⟩)
            simp only [execOp, Sem.run_bind, hg, Result.andThen_ok, hz, Sem.run_pure]
          · cases hv
    · cases hc
  | unOp op t x =>
    simp only [compOp] at hc; split at hc <;> cases hc
    rename_i hx
    simp only [MOp.q] at hv
    split at hv
    · rename_i p hp
      obtain ⟨z, hz, hR⟩ := unV_sound (P := P) w hv (compX_sound hx hT hp)
      exact ⟨z, by simp only [execOp, Sem.run_bind, hz, Result.andThen_ok, Sem.run_pure], hR⟩
    · cases hv
  | convert src dst x =>
    simp only [compOp] at hc
    split at hc
    · rename_i d1 k x' h1 h2 hx
      cases hc
      simp only [MOp.q] at hv
      split at hv
      · rename_i k' n he
        cases hv
        have hR := compX_sound hx hT he
        rw [V.R_int] at hR
        refine ⟨_, ?_, V.R_int.2 rfl⟩
        simp only [execOp, convert, hR, Sem.run_bind, run_underlying' w h1, run_underlying' w h2, Result.andThen_ok]
        rfl
      · cases hv
    · rename_i e x' h1 h2 hx
      split at hc
      · rename_i he8
        cases hc
        simp only [MOp.q] at hv
        split at hv
        · rename_i he
          cases hv
          have hR := compX_sound hx hT he
          rw [V.R_nilsl] at hR
          refine ⟨_, ?_, V.R_str.2 rfl⟩
          simp only [execOp, convert, hR, Sem.run_bind, run_underlying' w h1, run_underlying' w h2, run_underlying' w he8, Result.andThen_ok]
          rfl
        · rename_i n off len cap he
          have hR := compX_sound hx hT he
          rw [V.R_sl] at hR
          obtain ⟨b, hb, hxe⟩ := hR
          split at hv
          · rename_i cs hcs
            split at hv
            · rename_i hle
              split at hv
              · rename_i bs hbs
                cases hv
                refine ⟨.string ⟨List.toArray bs⟩, ?_, V.R_str.2 rfl⟩
                simp only [execOp, convert, hxe, Sem.run_bind, run_underlying' w h1, run_underlying' w h2, run_underlying' w he8, Result.andThen_ok, toStr_run hC hcs hb hle hbs, Sem.run_pure]
              · cases hv
            · cases hv
          · cases hv
        · rename_i n off len he
          have hR := compX_sound hx hT he
          rw [V.R_slx] at hR
          obtain ⟨b, cap, hb, hxe, _⟩ := hR
          split at hv
          · rename_i cs hcs
            split at hv
            · rename_i hle
              split at hv
              · rename_i bs hbs
                cases hv
                refine ⟨.string ⟨List.toArray bs⟩, ?_, V.R_str.2 rfl⟩
                simp only [execOp, convert, hxe, Sem.run_bind, run_underlying' w h1, run_underlying' w h2, run_underlying' w he8, Result.andThen_ok, toStr_run hC hcs hb hle hbs, Sem.run_pure]
              · cases hv
            · cases hv
          · cases hv
        · cases hv
      · cases hc
    · split at hc
      · cases hc
        simp [MOp.q] at hv
      · cases hc
    · cases hc
  | fieldAddr t x f =>
    simp only [compOp] at hc
    split at hc
    · rename_i fd x' hf hx
      split at hc
      · rename_i n hn
        split at hc
        · cases hc
        · rename_i hn0
          cases hc
          obtain ⟨fs, hu, hfs⟩ := fieldO_some hf
          simp only [MOp.q] at hv
          split at hv
          · rename_i nm off he
            cases hv
            have hR := compX_sound hx hT he
            rw [V.R_ptr] at hR
            obtain ⟨b, hb, hxe⟩ := hR
            refine ⟨.pointer (some ⟨b, off + fd.offset, none⟩), ?_, V.R_ptr.2 ⟨b, hb, rfl⟩⟩
            simp only [execOp, Instr.fieldAt, hxe, Sem.run_bind, run_underlying' w hu, Result.andThen_ok, hfs, Instr.sureAddr, Sem.run_pure, fieldPlace_run w hn hn0, addr_add]
          · cases hv
      · cases hc
    · cases hc
  | field t x f =>
    simp only [compOp] at hc
    split at hc
    · rename_i fd x' hf hx
      split at hc <;> cases hc
      rename_i g hg
      obtain ⟨fs, hu, hfs⟩ := fieldO_some hf
      simp only [MOp.q] at hv
      split at hv
      · rename_i cs he
        have hR := compX_sound hx hT he
        rw [V.R_agg] at hR
        obtain ⟨xs, hxe, h1, h2⟩ := hR
        obtain ⟨z, hz, hRz⟩ := rd_part w h1 h2 hg hv
        refine ⟨z, ?_, hRz⟩
        simp only [execOp, Instr.field, hxe, Sem.run_bind, run_underlying' w hu, Result.andThen_ok, hfs, asAgg, Sem.run_pure, hz]
      · cases hv
    · cases hc
  | indexAddr t x i =>
    simp only [compOp] at hc
    split at hc
    · rename_i n e x' i' hu hx hi
      split at hc <;> cases hc
      rename_i z hz
      simp only [MOp.q] at hv
      split at hv
      · rename_i nm off k j he hj
        split at hv
        · rename_i hb
          cases hv
          have hR := compX_sound hx hT he
          rw [V.R_ptr] at hR
          obtain ⟨b, hbb, hxe⟩ := hR
          have hRi := compX_sound hi hT hj
          rw [V.R_int] at hRi
          refine ⟨.pointer (some ⟨b, off + j.toNat * z, none⟩), ?_, V.R_ptr.2 ⟨b, hbb, rfl⟩⟩
          simp only [execOp, Instr.indexAt, hxe, hRi, asIntOf, Sem.run_bind, run_underlying' w hu, Result.andThen_ok, Instr.sureAddr, Sem.run_pure, if_pos hb, run_sizeOf w hz, addr_add]
        · cases hv
      · cases hv
    · rename_i e x' i' hu hx hi
      split at hc <;> cases hc
      rename_i z hz
      simp only [MOp.q] at hv
      split at hv
      · rename_i nm off len cap k j he hj
        split at hv
        · rename_i hb
          cases hv
          have hR := compX_sound hx hT he
          rw [V.R_sl] at hR
          obtain ⟨b, hbb, hxe⟩ := hR
          have hRi := compX_sound hi hT hj
          rw [V.R_int] at hRi
          refine ⟨.pointer (some ⟨b, off + j.toNat * z, none⟩), ?_, V.R_ptr.2 ⟨b, hbb, rfl⟩⟩
          simp only [execOp, Instr.indexAt, hxe, hRi, asIntOf, Sem.run_bind, run_underlying' w hu, Result.andThen_ok, Sem.run_pure, if_pos hb, run_sizeOf w hz, addr_add]
        · cases hv
      · rename_i nm off len k j he hj
        split at hv
        · rename_i hb
          cases hv
          have hR := compX_sound hx hT he
          rw [V.R_slx] at hR
          obtain ⟨b, cap, hbb, hxe, _⟩ := hR
          have hRi := compX_sound hi hT hj
          rw [V.R_int] at hRi
          refine ⟨.pointer (some ⟨b, off + j.toNat * z, none⟩), ?_, V.R_ptr.2 ⟨b, hbb, rfl⟩⟩
          simp only [execOp, Instr.indexAt, hxe, hRi, asIntOf, Sem.run_bind, run_underlying' w hu, Result.andThen_ok, Sem.run_pure, if_pos hb, run_sizeOf w hz, addr_add]
        · cases hv
      · cases hv
    · cases hc
  | index t x i =>
    simp only [compOp] at hc
    split at hc
    · rename_i n e x' i' hu hx hi
      split at hc <;> cases hc
      rename_i z g hz hg
      simp only [MOp.q] at hv
      split at hv
      · rename_i cs k j he hj
        split at hv
        · rename_i hb
          have hR := compX_sound hx hT he
          rw [V.R_agg] at hR
          obtain ⟨xs, hxe, h1, h2⟩ := hR
          have hRi := compX_sound hi hT hj
          rw [V.R_int] at hRi
          obtain ⟨y, hy, hRy⟩ := rd_part w h1 h2 hg hv
          refine ⟨y, ?_, hRy⟩
          simp only [execOp, Instr.index, hxe, hRi, asIntOf, Sem.run_bind, run_underlying' w hu, Result.andThen_ok, Sem.run_pure, if_pos hb, run_sizeOf w hz, hy]
        · cases hv
      · cases hv
    · rename_i x' i' hu hx hi
      cases hc
      simp only [MOp.q] at hv
      split at hv
      · rename_i bs k j he hj
        split at hv
        · rename_i h0
          split at hv
          · rename_i c hc'
            cases hv
            have hR := compX_sound hx hT he
            rw [V.R_str] at hR
            have hRi := compX_sound hi hT hj
            rw [V.R_int] at hRi
            refine ⟨.int .u8 c.toNat, ?_, V.R_int.2 rfl⟩
            have hget := get_byte bs _ c hc'
            simp only [execOp, Instr.index, hR, hRi, asIntOf, Sem.run_bind, run_underlying' w hu, Result.andThen_ok, Sem.run_pure, if_pos h0, hget]
          · cases hv
        · cases hv
      · cases hv
    · cases hc
  | slice t x lo hi mx =>
    cases mx with
    | some _ => simp [compOp] at hc
    | none =>
      simp only [compOp] at hc
      split at hc
      · rename_i n e x' lo' hi' hu hx hl hh
        split at hc <;> cases hc
        rename_i z hz
        simp only [MOp.q] at hv
        split at hv
        · rename_i nm off he
          split at hv
          · rename_i l h hb
            cases hv
            have hR := compX_sound hx hT he
            rw [V.R_ptr] at hR
            obtain ⟨b, hbb, hxe⟩ := hR
            refine ⟨.slice (some ⟨b, if n = l then off else off + l * z, none⟩) (h - l) (n - l), ?_, V.R_sl.2 ⟨b, hbb, rfl⟩⟩
            have hs := run_slb (P := P) (isS := false) w hl hh hT hb
            simp only [execOp, Instr.sliceAt, hxe, Sem.run_bind, run_underlying' w hu, Result.andThen_ok, Instr.sureAddr, Sem.run_pure, Option.map_none, hs, run_sizeOf w hz, addr_add]
            split <;> rfl
          · cases hv
        · cases hv
      · rename_i e x' lo' hi' hu hx hl hh
        split at hc <;> cases hc
        rename_i z hz
        simp only [MOp.q] at hv
        split at hv
        · rename_i nm off len cap he
          split at hv
          · rename_i l h hb
            cases hv
            have hR := compX_sound hx hT he
            rw [V.R_sl] at hR
            obtain ⟨b, hbb, hxe⟩ := hR
            refine ⟨.slice (some ⟨b, if cap = l then off else off + l * z, none⟩) (h - l) (cap - l), ?_, V.R_sl.2 ⟨b, hbb, rfl⟩⟩
            have hs := run_slb (P := P) (isS := true) w hl hh hT hb
            simp only [execOp, Instr.sliceAt, Instr.slice, hxe, Sem.run_bind, run_underlying' w hu, Result.andThen_ok, Sem.run_pure, Option.map_none, hs, run_sizeOf w hz]
            split <;> simp [addr_add]
          · cases hv
        · rename_i nm off len he
          split at hv
          · rename_i l h hb
            split at hv
            · rename_i hlt
              cases hv
              have hR := compX_sound hx hT he
              rw [V.R_slx] at hR
              obtain ⟨b, cap, hbb, hxe, hcap⟩ := hR
              have hhl : h ≤ len ∧ l ≤ h := by
                unfold slb at hb
                split at hb
                · cases hb
                · rename_i h' hh'
                  split at hb
                  · cases hb
                  · rename_i l' hl'
                    cases hb
                    have bnd : ∀ (x : Option X) (d y n : Nat), d ≤ y → bdO s x d y = some n → n ≤ y := fun x d y n hd hx => by
                      cases x with
                      | none => simp only [bdO] at hx; cases hx; exact hd
                      | some x =>
                        simp only [bdO, bd] at hx
                        split at hx
                        · split at hx
                          · rename_i hh; cases hx; omega
                          · cases hx
                        · cases hx
                    exact ⟨bnd _ _ _ _ (Nat.le_refl _) hh', bnd _ _ _ _ (Nat.zero_le _) hl'⟩
              have hb' : slb s len cap lo' hi' = some (l, h) := by
                unfold slb at hb ⊢
                have widen : ∀ (x : Option X) (n : Nat), bdO s x len len = some n → bdO s x len cap = some n := fun x n hx => by
                  cases x with
                  | none => exact hx
                  | some x =>
                    simp only [bdO, bd] at hx ⊢
                    split at hx
                    · split at hx
                      · rename_i hh; rw [if_pos ⟨hh.1, by omega⟩]; exact hx
                      · cases hx
                    · cases hx
                split at hb
                · cases hb
                · rename_i h' hh'
                  rw [widen _ _ hh']
                  exact hb
              refine ⟨.slice (some ⟨b, off + l * z, none⟩) (h - l) (cap - l), ?_, V.R_slx.2 ⟨b, cap - l, hbb, rfl, by omega⟩⟩
              have hs := run_slb (P := P) (isS := true) w hl hh hT hb'
              simp only [execOp, Instr.sliceAt, Instr.slice, hxe, Sem.run_bind, run_underlying' w hu, Result.andThen_ok, Sem.run_pure, Option.map_none, hs, run_sizeOf w hz]
              by_cases hcl : cap = l
              · have hl0 : l = 0 := by omega
                subst hl0
                simp [hcl]
              · simp [hcl, addr_add]
            · cases hv
          · cases hv
        · rename_i he
          split at hv
          · rename_i q hb
            cases hv
            obtain ⟨l, h⟩ := q
            have hR := compX_sound hx hT he
            rw [V.R_nilsl] at hR
            have hs := run_slb (P := P) (isS := true) w hl hh hT hb
            have hz0 : l = 0 ∧ h = 0 := by
              unfold slb at hb
              split at hb
              · cases hb
              · rename_i h' hh'
                split at hb
                · cases hb
                · rename_i l' hl'
                  cases hb
                  have bnd : ∀ (x : Option X) (d y n : Nat), d ≤ y → bdO s x d y = some n → n ≤ y := fun x d y n hd hx => by
                    cases x with
                    | none => simp only [bdO] at hx; cases hx; exact hd
                    | some x =>
                      simp only [bdO, bd] at hx
                      split at hx
                      · split at hx
                        · rename_i hh; cases hx; omega
                        · cases hx
                      · cases hx
                  have a1 := bnd _ _ _ _ (Nat.le_refl _) hh'
                  have a2 := bnd _ _ _ _ (Nat.zero_le _) hl'
                  omega
            obtain ⟨rfl, rfl⟩ := hz0
            refine ⟨.slice none 0 0, ?_, V.R_nilsl.2 rfl⟩
            simp only [execOp, Instr.sliceAt, Instr.slice, hR, Sem.run_bind, run_underlying' w hu, Result.andThen_ok, Sem.run_pure, Option.map_none, hs, run_sizeOf w hz]
            rfl
          · cases hv
        · cases hv
      · rename_i x' lo' hi' hu hx hl hh
        cases hc
        simp only [MOp.q] at hv
        split at hv
        · rename_i bs he
          split at hv
          · rename_i l h hb
            cases hv
            have hR := compX_sound hx hT he
            rw [V.R_str] at hR
            refine ⟨.string (bs.extract l h), ?_, V.R_str.2 rfl⟩
            have hs := run_slb (P := P) (isS := false) w hl hh hT hb
            simp only [execOp, Instr.sliceAt, Instr.slice, hR, Sem.run_bind, run_underlying' w hu, Result.andThen_ok, Sem.run_pure, Option.map_none, Option.isSome_none, Bool.false_eq_true, if_false, hs]
          · cases hv
        · cases hv
      · cases hc
  | extract x i =>
    simp only [compOp] at hc; split at hc <;> cases hc
    rename_i hx
    simp only [MOp.q] at hv
    split at hv
    · rename_i vs he
      have hR := compX_sound hx hT he
      rw [V.R_tup] at hR
      obtain ⟨xs, hxe, h1⟩ := hR
      obtain ⟨z, hz, hRz⟩ := h1.get hv
      refine ⟨z, ?_, hRz⟩
      simp only [execOp, Instr.extract, hxe, List.getElem?_toArray, hz]
      rfl
    · cases hv
  | makeFunc fn p q =>
    cases fn with
    | func f =>
      simp only [compOp] at hc; split at hc <;> cases hc
      rename_i h1 h2
      simp only [MOp.q] at hv
      split at hv
      · rename_i u v' hu hv'
        cases hv
        refine ⟨.func (.func f) (p.map a.eval) (q.map a.eval), ?_, ?_⟩
        · simp only [execOp, Instr.makeFunc, Sem.run_bind, Sem.run_pure, Result.andThen_ok]
        · rw [V.R_fn]
          exact ⟨p.toList.map a.eval, q.toList.map a.eval, by rw [show p.map a.eval = List.toArray (p.toList.map a.eval) from Array.ext' (by simp), show q.map a.eval = List.toArray (q.toList.map a.eval) from Array.ext' (by simp)], compXs_sound hT h1 hu, compXs_sound hT h2 hv'⟩
      · cases hv
    | _ => simp [compOp] at hc
  | build t ps =>
    have hpm : ((ps.map fun x => match x with | (i, x) => (i, a.eval x)).toList) = ps.toList.map fun p => (p.1, a.eval p.2) := by simp
    simp only [compOp] at hc
    split at hc
    · rename_i fs hu
      split at hc
      · rename_i hall
        split at hc <;> cases hc
        rename_i z xs hz hps
        simp only [MOp.q] at hv
        split at hv
        · rename_i cs hf
          cases hv
          obtain ⟨zv, zs, h1, h2, h3, h4⟩ := zeroO_sound (r := r) hz
          obtain ⟨ys, h5, h6, h7⟩ := fill_sound (placeO P t) hT ps.toList hps hf h3 h4
          refine ⟨.agg ys.toArray, ?_, V.R_agg.2 ⟨ys, rfl, h6, h7⟩⟩
          have hplace : ∀ i, (fs.map fun f => (f.offset, (szO P f.type).getD 0))[i]? = placeO P t i := fun i => by
            simp only [placeO, hu, Array.getElem?_map]
            cases hfi : fs[i]? with
            | none => rfl
            | some f =>
              have hs : (szO P f.type).isSome = true := by
                have hmem : f ∈ fs.toList := by
                  rw [Array.mem_toList_iff]; exact Array.mem_of_getElem? hfi
                have : ∀ (l : List Field), allSz P l = true → f ∈ l → (szO P f.type).isSome = true := by
                  intro l
                  induction l with
                  | nil => intro _ h; cases h
                  | cons g l ih =>
                    intro h hm
                    simp only [allSz, Bool.and_eq_true] at h
                    rcases List.mem_cons.1 hm with e | hm
                    · subst e; exact h.1
                    · exact ih h.2 hm
                exact this _ hall hmem
              obtain ⟨n, hn⟩ := Option.isSome_iff_exists.1 hs
              simp [hn]
          have hmm : (fs.mapM fun f => (do pure (f.offset, ← sizeOf f.type) : Sem (Nat × Nat))).run P w = .ok (fs.map fun f => (f.offset, (szO P f.type).getD 0)) w := by
            rw [Array.mapM_eq_mapM_toList, Sem.run_map, allSz_run w fs.toList hall]
            simp only [Result.andThen_ok]
            congr 1
            exact Array.ext' (by simp)
          simp only [execOp, Instr.build, Sem.run_bind, h1, Result.andThen_ok, h2, run_underlying' w hu, hmm]
          rw [show (fun x => (fs.map fun f => (f.offset, (szO P f.type).getD 0))[x]?) = placeO P t from funext hplace, hpm, h5]
          rfl
        · cases hv
      · cases hc
    · rename_i n e hu
      split at hc <;> cases hc
      rename_i z xs m hz hps hse
      simp only [MOp.q] at hv
      split at hv
      · rename_i cs hf
        cases hv
        obtain ⟨zv, zs, h1, h2, h3, h4⟩ := zeroO_sound (r := r) hz
        obtain ⟨ys, h5, h6, h7⟩ := fill_sound (placeO P t) hT ps.toList hps hf h3 h4
        refine ⟨.agg ys.toArray, ?_, V.R_agg.2 ⟨ys, rfl, h6, h7⟩⟩
        have hplace : (fun i => some (i * m, m)) = placeO P t := funext fun i => by simp [placeO, hu, hse]
        simp only [execOp, Instr.build, Sem.run_bind, h1, Result.andThen_ok, h2, run_underlying' w hu, run_sizeOf w hse]
        rw [hplace, hpm, h5]
        rfl
      · cases hv
    · cases hc
  | call c =>
    obtain ⟨callee, args, argTypes⟩ := c
    simp only [compOp, compCall] at hc
    split at hc
    · split at hc
      · split at hc <;> cases hc
        simp [MOp.q] at hv
      · cases hc
    · split at hc <;> cases hc
      simp [MOp.q] at hv
    · cases hc
    · rename_i b
      have hargs : ∀ l : List Operand, args.toList = l → args.map a.eval = List.toArray (l.map a.eval) := fun l h => by rw [← h]; exact Array.ext' (by simp)
      have htys : ∀ l : List TypeId, argTypes.toList = l → argTypes = List.toArray l := fun l h => by rw [← h]
      split at hc
      · rename_i x t e1 e2
        split at hc
        · rename_i x' hu hx
          cases hc
          simp only [MOp.q] at hv
          split at hv
          · rename_i bs he
            cases hv
            have hR := compX_sound hx hT he
            rw [V.R_str] at hR
            refine ⟨_, ?_, V.R_int.2 rfl⟩
            simp only [execOp, resolve, hargs _ e1, htys _ e2, List.map_cons, List.map_nil, hR, Sem.run_bind, Sem.run_pure, Result.andThen_ok, invoke, builtin, Builtin.len_]
            simp [run_underlying' w hu, goInt]
          · cases hv
        · rename_i n e x' hu hx
          cases hc
          simp only [MOp.q] at hv
          cases hv
          refine ⟨_, ?_, V.R_int.2 rfl⟩
          simp only [execOp, resolve, hargs _ e1, htys _ e2, List.map_cons, List.map_nil, Sem.run_bind, Sem.run_pure, Result.andThen_ok, invoke, builtin, Builtin.len_]
          simp [run_underlying' w hu, goInt]
        · rename_i e x' hu hx
          cases hc
          simp only [MOp.q] at hv
          split at hv
          · rename_i nm off len cap he
            cases hv
            have hR := compX_sound hx hT he
            rw [V.R_sl] at hR
            obtain ⟨b, _, hxe⟩ := hR
            refine ⟨_, ?_, V.R_int.2 rfl⟩
            simp only [execOp, resolve, hargs _ e1, htys _ e2, List.map_cons, List.map_nil, hxe, Sem.run_bind, Sem.run_pure, Result.andThen_ok, invoke, builtin, Builtin.len_]
            simp [run_underlying' w hu, goInt]
          · rename_i nm off len he
            cases hv
            have hR := compX_sound hx hT he
            rw [V.R_slx] at hR
            obtain ⟨b, cap, _, hxe, _⟩ := hR
            refine ⟨_, ?_, V.R_int.2 rfl⟩
            simp only [execOp, resolve, hargs _ e1, htys _ e2, List.map_cons, List.map_nil, hxe, Sem.run_bind, Sem.run_pure, Result.andThen_ok, invoke, builtin, Builtin.len_]
            simp [run_underlying' w hu, goInt]
          · rename_i he
            cases hv
            have hR := compX_sound hx hT he
            rw [V.R_nilsl] at hR
            refine ⟨_, ?_, V.R_int.2 rfl⟩
            simp only [execOp, resolve, hargs _ e1, htys _ e2, List.map_cons, List.map_nil, hR, Sem.run_bind, Sem.run_pure, Result.andThen_ok, invoke, builtin, Builtin.len_]
            simp [run_underlying' w hu, goInt]
          · cases hv
        · cases hc
      · rename_i x t e1 e2
        split at hc <;> cases hc
        rename_i e x' hu hx
        simp only [MOp.q] at hv
        split at hv
        · rename_i nm off len cap he
          cases hv
          have hR := compX_sound hx hT he
          rw [V.R_sl] at hR
          obtain ⟨b, _, hxe⟩ := hR
          refine ⟨_, ?_, V.R_int.2 rfl⟩
          simp only [execOp, resolve, hargs _ e1, htys _ e2, List.map_cons, List.map_nil, hxe, Sem.run_bind, Sem.run_pure, Result.andThen_ok, invoke, builtin, Builtin.cap_]
          simp [run_underlying' w hu, goInt]
        · rename_i he
          cases hv
          have hR := compX_sound hx hT he
          rw [V.R_nilsl] at hR
          refine ⟨_, ?_, V.R_int.2 rfl⟩
          simp only [execOp, resolve, hargs _ e1, htys _ e2, List.map_cons, List.map_nil, hR, Sem.run_bind, Sem.run_pure, Result.andThen_ok, invoke, builtin, Builtin.cap_]
          simp [run_underlying' w hu, goInt]
        · cases hv
      · split at hc
        · split at hc
          · split at hc <;> cases hc; simp [MOp.q] at hv
          · split at hc <;> cases hc; simp [MOp.q] at hv
          · cases hc
        · cases hc
      · split at hc
        · split at hc <;> cases hc; simp [MOp.q] at hv
        · cases hc
      · rename_i x ys l e1
        split at hc <;> cases hc
        rename_i x' ys' hx hys
        simp only [MOp.q] at hv
        split at hv
        · rename_i p q hp hq
          obtain ⟨z, hz, hR⟩ := mmV_sound (P := P) w false q p v _ _ (compX_sound hx hT hp) (compXs_sound hT hys hq) hv
          refine ⟨z, ?_, hR⟩
          simp only [execOp, resolve, hargs _ e1, List.map_cons, Sem.run_bind, Sem.run_pure, Result.andThen_ok, invoke, builtin, Builtin.min_]
          simp only [Bool.false_eq_true, if_false] at hz
          simp [hz]
        · cases hv
      · rename_i x ys l e1
        split at hc <;> cases hc
        rename_i x' ys' hx hys
        simp only [MOp.q] at hv
        split at hv
        · rename_i p q hp hq
          obtain ⟨z, hz, hR⟩ := mmV_sound (P := P) w true q p v _ _ (compX_sound hx hT hp) (compXs_sound hT hys hq) hv
          refine ⟨z, ?_, hR⟩
          simp only [execOp, resolve, hargs _ e1, List.map_cons, Sem.run_bind, Sem.run_pure, Result.andThen_ok, invoke, builtin, Builtin.max_]
          simp only [if_true] at hz
          simp [hz]
        · cases hv
      · cases hc
  | alloc t => simp only [compOp] at hc; split at hc <;> cases hc; simp [MOp.q] at hv
  | box t x => simp only [compOp] at hc; split at hc <;> cases hc; simp [MOp.q] at hv
  | store t x y => simp only [compOp] at hc; split at hc <;> cases hc; simp [MOp.q] at hv
  | buildSlice t l ps =>
    simp only [compOp] at hc
    split at hc
    · split at hc
      · split at hc
        · split at hc <;> cases hc; simp [MOp.q] at hv
        · cases hc
      · cases hc
    · cases hc
  | makeSlice t l c =>
    simp only [compOp] at hc
    split at hc
    · split at hc
      · split at hc <;> cases hc; simp [MOp.q] at hv
      · cases hc
    · cases hc
  | _ => simp [compOp] at hc
end
end Go.Ab
