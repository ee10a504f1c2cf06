/- A part of the proof library: names for blocks of memory, a small form of the code, and rules for walks over it. -/
import Derived.Test.YtpajbcifaicpoaaDoorAb8
set_option linter.all false
namespace Go.Ab

section
variable {ro : Bool} {s s' : St} {P : Program} {N : Nat}

theorem lk_kl1 (t : List (Nat × V)) (k j : Nat) : lk (kl t [k]) j = if j = k then none else lk t j := by
  induction t with
  | nil => simp [kl, lk]
  | cons p t ih =>
    obtain ⟨i, u⟩ := p
    simp only [kl]
    by_cases hik : i = k
    · subst hik
      simp only [List.contains_cons, BEq.rfl, Bool.true_or, if_true, ih, lk]
      by_cases hj : j = i
      · simp [hj]
      · rw [if_neg hj, if_neg (fun e : i = j => hj e.symm), if_neg hj]
    · have : ([k].contains i) = false := by simp [hik]
      simp only [this, Bool.false_eq_true, if_false, lk, ih]
      by_cases hij : i = j
      · subst hij; simp [hik]
      · simp [hij]

theorem put_f (s : St) (d : Option Nat) (v : V) : (s.put d v).f = ⟨fun k => if d = some k then some v else lk s.t k, s.blk⟩ := by
  cases d with
  | none => simp [St.put, St.f]
  | some k =>
    simp only [St.put, St.f, Fs.mk.injEq]
    refine ⟨?_, rfl⟩
    funext j
    rw [lk_sv]
    simp

theorem drop_f (s : St) (d : Option Nat) : (s.drop d).f = ⟨fun k => if d = some k then none else lk s.t k, s.blk⟩ := by
  cases d with
  | none => simp [St.drop, St.f]
  | some k =>
    simp only [St.drop, St.f, Fs.mk.injEq]
    refine ⟨?_, rfl⟩
    funext j
    rw [lk_kl1]
    simp [eq_comm]

theorem put_blk (s : St) (d : Option Nat) (v : V) : (s.put d v).blk = s.blk := by cases d <;> rfl
theorem drop_blk (s : St) (d : Option Nat) : (s.drop d).blk = s.blk := by cases d <;> rfl

theorem blk_push (s : St) (cs : List V) : St.blk { s with m := s.m ++ [cs] } = Mem.set s.blk (.l s.m.length) cs := by
  funext n
  cases n with
  | e k => simp [St.blk, Mem.set]
  | l k =>
    simp only [St.blk, Mem.set, Nm.l.injEq]
    by_cases h : k = s.m.length
    · subst h; simp
    · rw [if_neg h]
      rcases Nat.lt_or_ge k s.m.length with h' | h'
      · rw [List.getElem?_append_left h']
      · rw [List.getElem?_eq_none (by simp; omega), List.getElem?_eq_none h']

theorem blk_setBlk (s : St) {n : Nm} {cs ds : List V} (h : s.blk n = some cs) : (s.setBlk n ds).blk = Mem.set s.blk n ds := by
  funext n'
  cases n with
  | e k =>
    have hlt : k < s.e.length := by
      rcases Nat.lt_or_ge k s.e.length with h' | h'
      · exact h'
      · simp only [St.blk] at h; rw [List.getElem?_eq_none h'] at h; cases h
    cases n' with
    | e j =>
      simp only [St.setBlk, St.blk, Mem.set, Nm.e.injEq]
      by_cases hjk : j = k
      · subst hjk; rw [List.getElem?_set_self hlt, if_pos rfl]
      · rw [List.getElem?_set_ne (fun e => hjk e.symm), if_neg hjk]
    | l j => simp [St.setBlk, St.blk, Mem.set]
  | l k =>
    have hlt : k < s.m.length := by
      rcases Nat.lt_or_ge k s.m.length with h' | h'
      · exact h'
      · simp only [St.blk] at h; rw [List.getElem?_eq_none h'] at h; cases h
    cases n' with
    | l j =>
      simp only [St.setBlk, St.blk, Mem.set, Nm.l.injEq]
      by_cases hjk : j = k
      · subst hjk; rw [List.getElem?_set_self hlt, if_pos rfl]
      · rw [List.getElem?_set_ne (fun e => hjk e.symm), if_neg hjk]
    | e j => simp [St.setBlk, St.blk, Mem.set]

theorem chL_one (n : Nm) (c : List V) (m : Mem) : (fun k => match chL [(n, c)] k with | some c => some c | none => m k) = m.set n c := by
  funext k
  simp only [chL, Mem.set]
  by_cases h : n = k
  · subst h; simp
  · rw [if_neg h, if_neg (fun e : k = n => h e.symm)]

/-- An operation that makes one block. -/
theorem alloc_does {o : Oper} {A : Sm} {k : Nat} {cs : List V} {v : V} (hd : ∀ j, o.dst = some j → j < N) (hnw : A.nw = [k]) (hch : A.ch = [(.l k, cs)]) (hAd : A.d = o.dst) (hval : ∀ u, A.val = some u → u = v)
    (H : ∀ (W : World) (r : Rho) (σ : Fs) (a : Act) (w : World), RelF ro W N r σ a w → A.pre σ → ∃ (xs ys : List Value) (ty : TypeId) (x : Value), (execOp a.eval o).run P w = .ok (.value x) { w with heap := w.heap.push (Obj.cells (List.toArray (xs ++ ys)) ty) } ∧
      RL r cs xs ∧ (∀ y ∈ xs, Value.oneCell' y = true) ∧ V.R (r.add k w.heap.size) v x) : Does P ro N o A := by
  intro W r σ a w K Q hrel hpre hK
  obtain ⟨xs, ys, ty, x, hrun, hR, hone, hv⟩ := H W r σ a w hrel hpre
  have hfree := hpre.nw k (by simp [hnw])
  unfold Oper.wp
  rw [hrun]
  simp only [Oper.upon]
  have hsub := Rho.add_sub w.heap.size (hrel.c.free hfree)
  refine hK (r.add k w.heap.size) _ _ hsub rfl ⟨?_, ?_, ?_, ?_⟩
  · show RT _ (fun j => if A.d = some j then A.val else σ.t j) _
    rw [hAd]
    exact RT.put (RT.mono hrel.t hsub) (fun j hj => Nat.lt_of_lt_of_le (hd j hj) hrel.n) (fun u hu => by rw [hval u hu]; exact hv)
  · have : (A.app σ).m = σ.m.set (.l k) cs := by rw [← chL_one]; simp only [Sm.app, hch]; rfl
    rw [this]
    exact hrel.c.alloc hfree ys hR hone ty
  · rw [Act.put_size]; exact hrel.n
  · rw [Act.put_def]; exact hrel.d

theorem pre_us {mo : MOp} {d : Option Nat} {σ : Fs} (h : (Sm.of mo d s s').pre σ) : ∀ k ∈ mo.slots, σ.t k = s.f.t k := fun k hk => by
  have := h.us (k, lk s.t k) (by simp only [Sm.of, List.mem_map]; exact ⟨k, hk, rfl⟩)
  exact this

theorem pre_rs {mo : MOp} {d : Option Nat} {σ : Fs} (h : (Sm.of mo d s s').pre σ) : ∀ n ∈ mo.looks s, σ.m n = s.f.m n := fun n hn => by
  have := h.rs (n, s.blk n) (by simp only [Sm.of, List.mem_map]; exact ⟨n, hn, rfl⟩)
  exact this

theorem quiet_does {o : Oper} {mo : MOp} (hc : compOp P o.op = some mo) (hd : ∀ j, o.dst = some j → j < N) {v : V} (hq : mo.q s.f = some v) (hlooks : mo.looks s = mo.reads s.f) (htouch : mo.touch s = []) :
    Does P ro N o (Sm.of mo o.dst s (s.put o.dst v)) := by
  intro W r σ a w K Q hrel hpre hK
  have hqσ : mo.q σ = some v := by
    rw [MOp.q_congr mo (pre_us hpre) (fun n hn => pre_rs hpre n (by rw [hlooks]; exact hn))]
    exact hq
  obtain ⟨x, hrun, hR⟩ := q_sound (w := w) hc hrel.t hrel.c hqσ
  unfold Oper.wp
  rw [hrun]
  simp only [Oper.upon]
  refine hK r _ _ (Rho.Sub.refl r) rfl ⟨?_, ?_, ?_, ?_⟩
  · refine RT.put (v := (Sm.of mo o.dst s (s.put o.dst v)).val) hrel.t (fun j hj => Nat.lt_of_lt_of_le (hd j hj) hrel.n) (fun u hu => ?_)
    simp only [Sm.of] at hu
    cases hdst : o.dst with
    | none => rw [hdst] at hu; cases hu
    | some k =>
      rw [hdst] at hu
      simp only [St.put, lk_sv, if_true, Option.some.injEq] at hu
      subst hu; exact hR
  · rw [app_q _ (by simp [Sm.of, htouch])]; exact hrel.c
  · rw [Act.put_size]; exact hrel.n
  · rw [Act.put_def]; exact hrel.d

theorem lk_put (s : St) (k : Nat) (v : V) : lk (s.put (some k) v).t k = some v := by simp [St.put, lk_sv]

theorem val_put {mo : MOp} {d : Option Nat} {s s1 : St} {v : V} : ∀ u, (Sm.of mo d s (s1.put d v)).val = some u → u = v := by
  intro u hu
  simp only [Sm.of] at hu
  cases d with
  | none => cases hu
  | some k => simp only [lk_put] at hu; cases hu; rfl

theorem val_drop {mo : MOp} {d : Option Nat} {s s1 : St} : (Sm.of mo d s (s1.drop d)).val = none := by
  simp only [Sm.of]
  cases d with
  | none => rfl
  | some k => simp [St.drop, lk_kl1]

theorem wrap_i64 {n : Int} (h1 : -9223372036854775808 ≤ n) (h2 : n < 9223372036854775808) : IntKind.i64.wrap n = n := by
  have e : IntKind.i64.wrap n = if n % 18446744073709551616 ≥ 9223372036854775808 then n % 18446744073709551616 - 18446744073709551616 else n % 18446744073709551616 := by
    unfold IntKind.wrap; simp [IntKind.bits, IntKind.signed]
  rw [e]
  split <;> omega

theorem comp_new {op : Op} {z : List V} (h : compOp P op = some (.new z)) : ∃ t, op = .alloc t ∧ zeroO P t = some z := by
  cases op <;> simp only [compOp, compCall] at h
  case alloc t => split at h <;> cases h; exact ⟨t, rfl, by assumption⟩
  all_goals first | (cases h; done) | (repeat' (first | contradiction | (cases h; done) | split at h))

theorem comp_box {op : Op} {x : X} (h : compOp P op = some (.box x)) : ∃ t o, op = .box t o ∧ compX o = some x := by
  cases op <;> simp only [compOp, compCall] at h
  case box t o => split at h <;> cases h; exact ⟨t, o, rfl, by assumption⟩
  all_goals first | (cases h; done) | (repeat' (first | contradiction | (cases h; done) | split at h))

theorem comp_store {op : Op} {n : Nat} {x y : X} (h : compOp P op = some (.store n x y)) : ∃ t o p, op = .store t o p ∧ szO P t = some n ∧ compX o = some x ∧ compX p = some y := by
  cases op <;> simp only [compOp, compCall] at h
  case store t o p => split at h <;> cases h; exact ⟨t, o, p, rfl, by assumption, by assumption, by assumption⟩
  all_goals first | (cases h; done) | (repeat' (first | contradiction | (cases h; done) | split at h))

theorem comp_bldS {op : Op} {z : List V} {len : Nat} {ps : List (Nat × Nat × X)} (h : compOp P op = some (.bldS z len ps)) :
    ∃ t e n qs, op = .buildSlice t len qs ∧ P.underlying t = some (.slice e) ∧ zeroO P e = some z ∧ szO P e = some n ∧ z.length = n ∧ len * n ≤ 2 ^ 24 ∧ (len = 0 ∨ n ≠ 0) ∧ compParts (fun i => some (i * n, n)) qs.toList = some ps := by
  cases op <;> simp only [compOp, compCall] at h
  case buildSlice t len' qs =>
    split at h
    · split at h
      · split at h
        · rename_i hcond
          split at h <;> cases h
          exact ⟨t, _, _, qs, rfl, by assumption, by assumption, by assumption, hcond.1, hcond.2.1, hcond.2.2, by assumption⟩
        · cases h
      · cases h
    · cases h
  all_goals first | (cases h; done) | (repeat' (first | contradiction | (cases h; done) | split at h))

theorem comp_mks {op : Op} {z : List V} {b : Nat} {x y : X} (h : compOp P op = some (.mks z b x y)) :
    ∃ t e i o p, op = .makeSlice t o p ∧ P.underlying t = some (.slice e) ∧ zeroO P e = some z ∧ P.info? e = some i ∧ z.length = i.size ∧ b = i.bytes ∧ compX o = some x ∧ compX p = some y := by
  cases op <;> simp only [compOp, compCall] at h
  case makeSlice t o p =>
    split at h
    · split at h
      · split at h <;> cases h
        exact ⟨t, _, _, o, p, rfl, by assumption, by assumption, by assumption, by assumption, rfl, by assumption, by assumption⟩
      · cases h
    · cases h
  all_goals first | (cases h; done) | (repeat' (first | contradiction | (cases h; done) | split at h))

/-- **Every operation but calls and append does what its small form says.** -/
theorem ex_sound {o : Oper} {mo : MOp} (hc : compOp P o.op = some mo) (hd : ∀ j, o.dst = some j → j < N) (hex : mo.ex ro s o.dst = some s') : Does P ro N o (Sm.of mo o.dst s s') := by
  have quiet : ∀ v, mo.q s.f = some v → s' = s.put o.dst v → mo.looks s = mo.reads s.f → mo.touch s = [] → Does P ro N o (Sm.of mo o.dst s s') := fun v h1 h2 h3 h4 => by subst h2; exact quiet_does hc hd h1 h3 h4
  have hpush : ∀ (cs : List V) (v : V), ((St.put { s with m := s.m ++ [cs] } o.dst v).blk (.l s.m.length)).getD [] = cs := fun cs v => by
    rw [put_blk, blk_push]; simp [Mem.set]
  cases mo with
  | new z =>
    simp only [MOp.ex, Option.some.injEq] at hex
    subst hex
    refine alloc_does (cs := z) hd rfl (by simp only [Sm.of, MOp.touch, List.map_cons, List.map_nil, hpush]) rfl val_put ?_
    intro W r σ a w hrel hpre
    obtain ⟨t, ho, hz⟩ := comp_new hc
    obtain ⟨zv, zs, h1, h2, h3, h4⟩ := zeroO_sound (r := r) hz
    refine ⟨zs, [], t, .pointer (some ⟨w.heap.size, 0, none⟩), ?_, h3, h4, V.R_ptr.2 ⟨_, by simp [Rho.get, Rho.add], rfl⟩⟩
    simp only [execOp, ho, Instr.alloc, Sem.run_bind, h1, Result.andThen_ok, newVar, newRow, run_newObj, h2, Sem.run_pure, List.append_nil]
  | box x =>
    simp only [MOp.ex] at hex
    split at hex
    · rename_i v hv
      split at hex
      · rename_i hp
        simp only [Option.some.injEq] at hex
        subst hex
        refine alloc_does (cs := v.cells) hd rfl (by simp only [Sm.of, MOp.touch, List.map_cons, List.map_nil, hpush]) rfl val_put ?_
        intro W r σ a w hrel hpre
        obtain ⟨t, ox, ho, hx⟩ := comp_box hc
        have hvσ : x.ev σ = some v := by rw [X.ev_congr (s := s.f) (fun k hk => pre_us hpre k (by simpa [MOp.slots] using hk))]; exact hv
        have hR := compX_sound hx hrel.t hvσ
        obtain ⟨us, h1, h2, h3⟩ := part_cells hp hR
        refine ⟨us, [], t, .pointer (some ⟨w.heap.size, 0, none⟩), ?_, h2, h3, V.R_ptr.2 ⟨_, by simp [Rho.get, Rho.add], rfl⟩⟩
        simp only [execOp, ho, Instr.box, Sem.run_bind, Result.andThen_ok, newVar, newRow, run_newObj, h1, Sem.run_pure, List.append_nil]
      · cases hex
    · cases hex
  | bldS z len ps =>
    simp only [MOp.ex] at hex
    split at hex
    · rename_i cs hf
      simp only [Option.some.injEq] at hex
      subst hex
      refine alloc_does (cs := cs) hd rfl (by simp only [Sm.of, MOp.touch, List.map_cons, List.map_nil, hpush]) rfl val_put ?_
      intro W r σ a w hrel hpre
      obtain ⟨t, e, n, qs, ho, hu, hz, hn, hzn, hle, hn0, hps⟩ := comp_bldS hc
      have hfσ : fillV σ (zrow z len) ps = some cs := by rw [fillV_congr (s := s.f) (fun k hk => pre_us hpre k (by simpa [MOp.slots] using hk))]; exact hf
      obtain ⟨zv, zs, h1, h2, h3, h4⟩ := zeroO_sound (r := r) hz
      have hzl : zs.length = n := by rw [h3.length, hzn]
      obtain ⟨g1, g2⟩ := zrow_sound h3 h4 len
      obtain ⟨ys, h5, h6, h7⟩ := fill_sound _ hrel.t qs.toList hps hfσ g1 g2
      refine ⟨ys, [], e, .slice (some ⟨w.heap.size, 0, none⟩) len len, ?_, h6, h7, V.R_sl.2 ⟨_, by simp [Rho.get, Rho.add], rfl⟩⟩
      have hpm : ((qs.map fun x => match x with | (i, x) => (i, a.eval x)).toList) = qs.toList.map fun p => (p.1, a.eval p.2) := by simp
      simp only [execOp, ho, Instr.buildSlice, Sem.run_bind, run_underlying' w hu, run_sizeOf w hn, Result.andThen_ok]
      rw [if_neg (by omega)]
      by_cases h0 : len * n = 0
      · have hrow : (Array.range (len * n)).map (fun x => (#[] : Array Value)[x % (#[] : Array Value).size]!) = List.toArray ((List.range (len * zs.length)).map fun i => zs.toArray[i % zs.length]!) := by
          rw [hzl, h0]; simp
        rw [if_pos h0]
        simp only [Sem.run_bind, Sem.run_pure, Result.andThen_ok, hrow, hpm, h5, newRow, run_newObj, List.append_nil]
      · have hrow : (Array.range (len * n)).map (fun x => (List.toArray zs)[x % (List.toArray zs).size]!) = List.toArray ((List.range (len * zs.length)).map fun i => zs.toArray[i % zs.length]!) := by
          rw [hzl]; simp only [List.size_toArray, hzl]; exact Array.ext' (by simp)
        rw [if_neg h0]
        simp only [Sem.run_bind, h1, Sem.run_pure, Result.andThen_ok, h2, hrow, hpm, h5, newRow, run_newObj, List.append_nil]
    · cases hex
  | mks z bytes l c =>
    simp only [MOp.ex] at hex
    split at hex
    · rename_i k1 ln k2 cn hl hcp
      split at hex
      · rename_i hcond
        obtain ⟨hl0, hlc, hc63, hroom⟩ := hcond
        simp only [Option.some.injEq] at hex
        subst hex
        refine alloc_does (cs := zrow z cn.toNat) hd rfl (by simp only [Sm.of, MOp.touch, List.map_cons, List.map_nil, hpush]) rfl val_put ?_
        intro W r σ a w hrel hpre
        obtain ⟨t, e, i, ol, oc, ho, hu, hz, hi, hzi, rfl, hlx, hcx⟩ := comp_mks hc
        have hlσ : l.ev σ = some (.int k1 ln) := by rw [X.ev_congr (s := s.f) (fun k hk => pre_us hpre k (by simp [MOp.slots, hk]))]; exact hl
        have hcσ : c.ev σ = some (.int k2 cn) := by rw [X.ev_congr (s := s.f) (fun k hk => pre_us hpre k (by simp [MOp.slots, hk]))]; exact hcp
        have hRl := compX_sound hlx hrel.t hlσ
        have hRc := compX_sound hcx hrel.t hcσ
        rw [V.R_int] at hRl hRc
        obtain ⟨zv, zs, h1, h2, h3, h4⟩ := zeroO_sound (r := r) hz
        have hzl : zs.length = i.size := by rw [h3.length, hzi]
        obtain ⟨g1, g2⟩ := zrow_sound h3 h4 cn.toNat
        refine ⟨_, [], e, .slice (some ⟨w.heap.size, 0, none⟩) ln.toNat cn.toNat, ?_, g1, g2, V.R_sl.2 ⟨_, by simp [Rho.get, Rho.add], rfl⟩⟩
        have hwl : IntKind.i64.wrap ln = ln := wrap_i64 (by omega) (by omega)
        have hwc : IntKind.i64.wrap cn = cn := wrap_i64 (by omega) (by omega)
        have hti : (typeInfo e).run P w = .ok i w := by simp [typeInfo, hi]
        have hsz : (sizeOf e).run P w = .ok i.size w := run_sizeOf w (by simp [szO, hi])
        simp only [execOp, ho, Instr.makeSlice, Sem.run_bind, run_underlying' w hu, Result.andThen_ok, hRl, hRc, asInt, asIntOf, Sem.run_pure, hti, hwl, hwc]
        have hnot : ¬ ((decide (cn < 0) || decide ((i.bytes : Int) * cn > 2 ^ 48)) || decide (ln < 0) || decide (ln > cn)) = true := by
          simp only [Bool.or_eq_true, decide_eq_true_eq, not_or]
          omega
        rw [if_neg hnot]
        simp only [Sem.run_bind, run_askRoom, Result.andThen_ok, hsz]
        by_cases h0 : cn.toNat * i.size = 0
        · have hrow : (Array.range (cn.toNat * i.size)).map (fun x => (#[] : Array Value)[x % (#[] : Array Value).size]!) = List.toArray ((List.range (cn.toNat * zs.length)).map fun i => zs.toArray[i % zs.length]!) := by
            rw [hzl, h0]; simp
          rw [if_pos h0]
          simp only [Sem.run_bind, Sem.run_pure, Result.andThen_ok, hrow, newRow, run_newObj, List.append_nil]
        · have hrow : (Array.range (cn.toNat * i.size)).map (fun x => (List.toArray zs)[x % (List.toArray zs).size]!) = List.toArray ((List.range (cn.toNat * zs.length)).map fun i => zs.toArray[i % zs.length]!) := by
            rw [hzl]; simp only [List.size_toArray, hzl]; exact Array.ext' (by simp)
          rw [if_neg h0]
          simp only [Sem.run_bind, h1, Sem.run_pure, Result.andThen_ok, h2, hrow, newRow, run_newObj, List.append_nil]
      · cases hex
    · cases hex
  | store n x y =>
    simp only [MOp.ex] at hex
    split at hex
    · rename_i nm off v hx hy
      split at hex
      · rename_i cs hcs
        split at hex
        · rename_i hcond
          obtain ⟨hvl, hle, hp, hro⟩ := hcond
          simp only [Option.some.injEq] at hex
          subst hex
          obtain ⟨t, ox, oy, ho, hn, hxo, hyo⟩ := comp_store hc
          intro W r σ a w K Q hrel hpre hK
          have hxσ : x.ev σ = some (.ptr nm off) := by rw [X.ev_congr (s := s.f) (fun k hk => pre_us hpre k (by simp [MOp.slots, hk]))]; exact hx
          have hyσ : y.ev σ = some v := by rw [X.ev_congr (s := s.f) (fun k hk => pre_us hpre k (by simp [MOp.slots, hk]))]; exact hy
          have hcσ : σ.m nm = some cs := by rw [pre_rs hpre nm (by simp [MOp.looks, hx, V.nmOf])]; exact hcs
          have hRx := compX_sound hxo hrel.t hxσ
          have hRy := compX_sound hyo hrel.t hyσ
          rw [V.R_ptr] at hRx
          obtain ⟨b, hb, hxe⟩ := hRx
          obtain ⟨us, h1, h2, h3⟩ := part_cells hp hRy
          have hst := store_cells (P := P) hro hb us v.cells cs off w σ.m 0 off hrel.c hcσ h2 h3 (by omega) (by omega)
          have hrun : (execOp a.eval o).run P w = .ok .skip (wsets w b off us) := by
            simp only [execOp, ho, Instr.storeAt, hxe, Instr.sureAddr, Sem.run_bind, Sem.run_pure, Result.andThen_ok, storeVar, run_sizeOf w hn, h1]
            rw [if_neg (by simp [h2.length, hvl])]
            simp only [hst.1, Result.andThen_ok]
          unfold Oper.wp
          rw [hrun]
          simp only [Oper.upon]
          refine hK r _ _ (Rho.Sub.refl r) rfl ⟨?_, ?_, ?_, ?_⟩
          · refine RT.put (v := (Sm.of (.store n x y) o.dst s _).val) hrel.t (fun j hj => Nat.lt_of_lt_of_le (hd j hj) hrel.n) (fun u hu => ?_)
            rw [val_drop] at hu; cases hu
          · have hm : ((Sm.of (.store n x y) o.dst s (St.drop (s.setBlk nm (putl cs off v.cells)) o.dst)).app σ).m = σ.m.set nm (putl cs off v.cells) := by
              rw [← chL_one]
              simp only [Sm.app, Sm.of, MOp.touch, hx, V.nmOf, List.map_cons, List.map_nil, drop_blk, blk_setBlk s hcs, Mem.set_self, Option.getD_some]
              rfl
            rw [hm]
            exact hst.2
          · rw [Act.put_size]; exact hrel.n
          · rw [Act.put_def]; exact hrel.d
        · cases hex
      · cases hex
    · cases hex
  | call f xs => simp [MOp.ex] at hex
  | callv x xs => simp [MOp.ex] at hex
  | app z b i x y => simp [MOp.ex] at hex
  | cpy z i x y => simp [MOp.ex] at hex
  | _ =>
    simp only [MOp.ex] at hex
    split at hex
    · rename_i v hv
      cases hex
      exact quiet v hv rfl rfl rfl
    · cases hex
end
end Go.Ab
