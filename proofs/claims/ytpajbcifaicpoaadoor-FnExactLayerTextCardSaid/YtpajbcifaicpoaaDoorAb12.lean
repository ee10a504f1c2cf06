/- A part of the proof library: names for blocks of memory, a small form of the code, and rules for walks over it. -/
import Derived.Test.YtpajbcifaicpoaaDoorAb11
import Derived.Lib.ConvBytes
set_option linter.all false
namespace Go.Ab

/-- What is appended: how many elements, and their cells. -/
def appNew (s : St) (sz : Nat) (isStr : Bool) : V → Option (Nat × List V)
  | .str b => if isStr then some (b.size, b.data.toList.map fun c => .int .u8 c.toNat) else none
  | .nilsl => if isStr then none else some (0, [])
  | .sl n o len _ => if isStr then none else match s.blk n with
    | some cs => if o + len * sz ≤ cs.length then some (len, (cs.drop o).take (len * sz)) else none
    | none => none
  | .slx n o len => if isStr then none else match s.blk n with
    | some cs => if o + len * sz ≤ cs.length then some (len, (cs.drop o).take (len * sz)) else none
    | none => none
  | _ => none

def appGrow (s : St) (z : List V) (bytes : Nat) (old news : List V) (need : Nat) (K : V → St → Prop) : Prop :=
  need ≤ 4611686018427387904 ∧ (2 * need + 192) * bytes ≤ 281474976710656 ∧
    ∀ nc, need ≤ nc → nc < 9223372036854775808 → K (.sl (.l s.m.length) 0 need nc) { s with m := s.m ++ [old ++ (news ++ zrow z (nc - need))] }

def appWp (ro : Bool) (z : List V) (bytes : Nat) (isStr : Bool) (xv yv : V) (s : St) (K : V → St → Prop) : Prop :=
  match appNew s z.length isStr yv with
  | none => False
  | some (k, news) => (∀ v ∈ news, V.one v = true) ∧
    match xv with
    | .nilsl => if k = 0 then K .nilsl s else appGrow s z bytes [] news k K
    | .sl n o len cap => match s.blk n with
      | none => False
      | some cs =>
        if len + k ≤ cap then okW ro n = true ∧ o + (len + k) * z.length ≤ cs.length ∧ K (.sl n o (len + k) cap) (s.setBlk n (putl cs (o + len * z.length) news))
        else o + len * z.length ≤ cs.length ∧ (isE n = true → ∀ v ∈ cs, V.one v = true) ∧ appGrow s z bytes ((cs.drop o).take (len * z.length)) news (len + k) K
    | .str _ => if isStr = true ∧ z.length = 2 then appGrow s [.int .u8 0] 1 [] news k K else False
    | _ => False

section
variable {ro ro' : Bool} {W w : World} {r : Rho} {s : St} {σ : Fs} {a : Act} {P : Program} {N : Nat}

theorem growBy_le (newLen : Nat) : ∀ (k c : Nat), c < newLen → Builtin.growBy newLen k c ≤ 2 * newLen + 192
  | 0, c, h => by simp only [Builtin.growBy]; omega
  | k + 1, c, h => by
    simp only [Builtin.growBy]
    split
    · omega
    · by_cases h2 : c + (c + 768) / 4 < newLen
      · exact growBy_le newLen k _ h2
      · cases k with
        | zero => simp only [Builtin.growBy]; omega
        | succ k => simp only [Builtin.growBy]; rw [if_pos (by omega)]; omega

theorem nextslicecap_le {need cap : Nat} (h : cap < need) : Builtin.nextslicecap need cap ≤ 2 * need + 192 := by
  unfold Builtin.nextslicecap
  split
  · omega
  · split
    · omega
    · exact growBy_le need 4 cap h

theorem comp_app0 {op : Op} {z : List V} {bytes : Nat} {isStr : Bool} {x y : X} (h : compOp P op = some (.app z bytes isStr x y)) :
    (∃ c t u e i d ox oy, op = .call c ∧ c.callee = .builtin .append ∧ c.args.toList = [ox, oy] ∧ c.argTypes.toList = [t, u] ∧ P.underlying t = some (.slice e) ∧ zeroO P e = some z ∧ P.info? e = some i ∧ z.length = i.size ∧ bytes = i.bytes ∧
      P.underlying u = some d ∧ (match d with | .slice _ => isStr = false | .string => isStr = true ∧ i.size = 1 | _ => False) ∧ compX ox = some x ∧ compX oy = some y) ∨
    (∃ src dst e ox, op = .convert src dst ox ∧ P.underlying src = some .string ∧ P.underlying dst = some (.slice e) ∧ P.underlying e = some (.int .u8) ∧ compX ox = some y ∧ x = y ∧ z.length = 2 ∧ isStr = true) := by
  cases op <;> simp only [compOp] at h
  case call c =>
    simp only [compCall] at h
    split at h
    · split at h
      · split at h <;> cases h
      · cases h
    · split at h <;> cases h
    · cases h
    · rename_i b hcal
      split at h
      · repeat' (first | contradiction | (cases h; done) | split at h)
      · repeat' (first | contradiction | (cases h; done) | split at h)
      · rename_i ox oy t u e1 e2
        split at h
        · rename_i q1 q2 q3
          split at h
          · rename_i hz hi hu
            split at h
            · rename_i hzl
              simp only [Option.some.injEq, MOp.app.injEq] at h
              obtain ⟨rfl, rfl, rfl, rfl, rfl⟩ := h
              exact .inl ⟨c, t, u, _, _, _, ox, oy, rfl, hcal, e1, e2, q1, hz, hi, hzl, rfl, hu, rfl, q2, q3⟩
            · cases h
          · rename_i hz hi hu
            split at h
            · rename_i hzl
              simp only [Option.some.injEq, MOp.app.injEq] at h
              obtain ⟨rfl, rfl, rfl, rfl, rfl⟩ := h
              exact .inl ⟨c, t, u, _, _, _, ox, oy, rfl, hcal, e1, e2, q1, hz, hi, hzl.1, rfl, hu, ⟨rfl, hzl.2⟩, q2, q3⟩
            · cases h
          · cases h
        · cases h
      all_goals (repeat' (first | contradiction | (cases h; done) | split at h))
  case convert src dst ox =>
    split at h
    · cases h
    · split at h <;> cases h
    · rename_i e x' h1 h2 h3
      split at h
      · rename_i h4
        cases h
        exact .inr ⟨src, dst, e, ox, rfl, h1, h2, h4, h3, rfl, rfl, rfl⟩
      · cases h
    · cases h
  all_goals first | (cases h; done) | (repeat' (first | contradiction | (cases h; done) | split at h))
theorem comp_app {op : Op} {z : List V} {bytes : Nat} {isStr : Bool} {x y : X} (h : compOp P op = some (.app z bytes isStr x y)) (hz2 : ¬ (isStr = true ∧ z.length = 2)) :
    ∃ c t u e i d ox oy, op = .call c ∧ c.callee = .builtin .append ∧ c.args.toList = [ox, oy] ∧ c.argTypes.toList = [t, u] ∧ P.underlying t = some (.slice e) ∧ zeroO P e = some z ∧ P.info? e = some i ∧ z.length = i.size ∧ bytes = i.bytes ∧
      P.underlying u = some d ∧ (match d with | .slice _ => isStr = false | .string => isStr = true ∧ i.size = 1 | _ => False) ∧ compX ox = some x ∧ compX oy = some y := by
  rcases comp_app0 h with h | ⟨_, _, _, _, _, _, _, _, _, _, h1, h2⟩
  · exact h
  · exact absurd ⟨h2, h1⟩ hz2
theorem comp_cv {op : Op} {z : List V} {bytes : Nat} {isStr : Bool} {x y : X} (h : compOp P op = some (.app z bytes isStr x y)) (hz2 : isStr = true ∧ z.length = 2) :
    ∃ src dst e ox, op = .convert src dst ox ∧ P.underlying src = some .string ∧ P.underlying dst = some (.slice e) ∧ P.underlying e = some (.int .u8) ∧ compX ox = some y ∧ x = y := by
  rcases comp_app0 h with ⟨c, t, u, e, i, d, ox, oy, _, _, _, _, _, _, _, hl, _, _, hd, _⟩ | ⟨src, dst, e, ox, h1, h2, h3, h4, h5, h6, _⟩
  · exfalso
    obtain ⟨h1, h2⟩ := hz2
    subst h1
    cases d <;> simp at hd
    omega
  · exact ⟨src, dst, e, ox, h1, h2, h3, h4, h5, h6⟩

theorem rl_bytes (l : List UInt8) : RL r (l.map fun c => V.int .u8 c.toNat) (l.map fun c => Value.int .u8 c.toNat) := by
  induction l with
  | nil => simp
  | cons c l ih => simp only [List.map_cons, RL_cons_cons]; exact ⟨V.R_int.2 rfl, ih⟩

/-- What is appended, as the model has it. -/
theorem appNew_sound {sz : Nat} {isStr : Bool} {yv : V} {k : Nat} {news : List V} {y : Value} (h : appNew s sz isStr yv = some (k, news)) (hC : Cn ro W r s.blk w) (hR : V.R r yv y) (hs1 : isStr = true → sz = 1) :
    (Builtin.lenOf y).run P w = .ok k w ∧ ∃ us : List Value, (∀ n, (Builtin.firstCells sz k y).run P { w with drawn := n } = .ok (List.toArray us) { w with drawn := n }) ∧ RL r news us := by
  have hload : ∀ (n : Nm) (o len : Nat) (cs : List V) (b : Nat), s.blk n = some cs → o + len * sz ≤ cs.length → r.get n = some b →
      ∃ us : List Value, (∀ n, (loadCells ⟨b, o, none⟩ (len * sz)).run P { w with drawn := n } = .ok (List.toArray us) { w with drawn := n }) ∧ RL r ((cs.drop o).take (len * sz)) us := fun n o len cs b hcs hle hb => by
    obtain ⟨b', xs, ts, ty, fr, g1, g2, g3⟩ := hC.blk_at hcs
    rw [hb] at g1; cases g1
    have hlen := g3.length
    refine ⟨(xs.drop o).take (len * sz), fun n => ?_, (g3.drop o).take (len * sz)⟩
    exact run_loadCells' (P := P) { w with drawn := n } b o ((xs.drop o).take (len * sz)) (len * sz) (by simp; omega) (fun j u hj => by
      have hjm : j < len * sz := by
        rcases Nat.lt_or_ge j (len * sz) with h | h
        · exact h
        · rw [List.getElem?_eq_none (by simp; omega)] at hj; cases hj
      rw [List.getElem?_take_of_lt hjm, List.getElem?_drop] at hj
      simp only [World.cell?, g2, List.getElem?_toArray, getElem?_pre hj]; rfl)
  cases yv <;> simp only [appNew] at h <;> try (cases h; done)
  case str b =>
    split at h <;> cases h
    rename_i hs
    rw [V.R_str] at hR
    subst hR
    refine ⟨rfl, b.data.toList.map fun c => Value.int .u8 c.toNat, fun n => ?_, rl_bytes _⟩
    simp only [Builtin.firstCells, Sem.run_pure]
    congr 1
    have : b.extract 0 b.size = b := by simp
    rw [this]
    exact Array.ext' (by simp)
  case nilsl =>
    split at h <;> cases h
    rw [V.R_nilsl] at hR
    subst hR
    exact ⟨rfl, [], fun n => rfl, by simp⟩
  case sl n o len cap =>
    split at h
    · cases h
    · split at h
      · rename_i cs hcs
        split at h
        · rename_i hle
          cases h
          rw [V.R_sl] at hR
          obtain ⟨b, hb, rfl⟩ := hR
          refine ⟨rfl, ?_⟩
          exact hload n o k cs b hcs hle hb
        · cases h
      · cases h
  case slx n o len =>
    split at h
    · cases h
    · split at h
      · rename_i cs hcs
        split at h
        · rename_i hle
          cases h
          rw [V.R_slx] at hR
          obtain ⟨b, cap, hb, rfl, _⟩ := hR
          refine ⟨rfl, ?_⟩
          exact hload n o k cs b hcs hle hb
        · cases h
      · cases h


theorem zeroCells_eq {zs : List Value} (n : Nat) : (Builtin.zeroCells (List.toArray zs) n) = List.toArray ((List.range (n * zs.length)).map fun i => zs.toArray[i % zs.length]!) := by
  unfold Builtin.zeroCells
  exact Array.ext' (by simp)

theorem appNew_len {sz : Nat} {isStr : Bool} {yv : V} {k : Nat} {news : List V} (h : appNew s sz isStr yv = some (k, news)) (hs1 : isStr = true → sz = 1) : news.length = k * sz := by
  cases yv <;> simp only [appNew] at h <;> try (cases h; done)
  case str b =>
    split at h <;> cases h
    rename_i hs
    rw [hs1 hs]
    simp
  case nilsl =>
    split at h <;> cases h
    simp
  case sl n o len cap =>
    split at h
    · cases h
    · split at h
      · split at h
        · cases h; simp; omega
        · cases h
      · cases h
  case slx n o len =>
    split at h
    · cases h
    · split at h
      · split at h
        · cases h; simp; omega
        · cases h
      · cases h

theorem app_put {t u e ty : TypeId} {d : TypeDesc} {xa ya : Value} {bo : Option Addr} {len cap k sz : Nat} {us : List Value} {w w' : World} (hu : P.underlying t = some (.slice e)) (hud : P.underlying u = some d) (hd : ∀ k, d ≠ .int k) (hxa : xa = .slice bo len cap) (hsz : (sizeOf e).run P w = .ok sz w)
    (hlen : (Builtin.lenOf ya).run P w = .ok k w) (hfirst : (Builtin.firstCells sz k ya).run P w = .ok (List.toArray us) w) (hle : len + k ≤ cap) (hst : match bo with | some ad => (storeCells (ad.add (len * sz)) us).run P w = .ok () w' | none => w' = w) :
    (Builtin.append_ #[t, u] ty #[xa, ya]).run P w = .ok (.slice bo (len + k) cap) w' := by
  subst hxa
  unfold Builtin.append_
  simp only [show (#[t, u] : Array TypeId)[0]? = some t from rfl, show (#[t, u] : Array TypeId)[1]? = some u from rfl, show (#[Value.slice bo len cap, ya] : Array Value)[0]? = some (.slice bo len cap) from rfl, show (#[Value.slice bo len cap, ya] : Array Value)[1]? = some ya from rfl]
  simp only [Sem.run_bind, run_underlying' w hu, run_underlying' w hud, Result.andThen_ok, hsz, Sem.run_pure]
  simp only [Bool.false_eq_true, if_false, Sem.run_bind, hlen, Result.andThen_ok, if_pos hle, Bool.not_false, if_true, hfirst]
  cases bo with
  | none => simp only at hst; subst hst; simp only [Sem.run_pure]
  | some ad => simp only at hst; simp only [Sem.run_bind, hst, Result.andThen_ok, Sem.run_pure]

theorem app_new {t u e ty : TypeId} {d : TypeDesc} {xa ya : Value} {bo : Option Addr} {len cap k sz : Nat} {i : TypeInfo} {zv : Value} {zs os us : List Value} {w : World} (hu : P.underlying t = some (.slice e)) (hud : P.underlying u = some d) (hd : ∀ k, d ≠ .int k) (hxa : xa = .slice bo len cap) (hsz : (sizeOf e).run P w = .ok sz w)
    (hlen : (Builtin.lenOf ya).run P w = .ok k w) (hi : ∀ w : World, (typeInfo e).run P w = .ok i w) (hz : ∀ w : World, (zeroValue e).run P w = .ok zv w) (hzv : zv.cells = List.toArray zs)
    (hold : ∀ n, (Builtin.firstCells sz len (.slice bo len cap)).run P { w with drawn := n } = .ok (List.toArray os) { w with drawn := n }) (hfirst : ∀ n, (Builtin.firstCells sz k ya).run P { w with drawn := n } = .ok (List.toArray us) { w with drawn := n }) (hle : ¬ (len + k ≤ cap)) (hmax : ¬ (((len + k : Nat) : Int) > IntKind.i64.max)) (hroom : ¬ (Builtin.nextslicecap (len + k) cap * i.bytes > 2 ^ 48)) :
    ∃ nc, len + k ≤ nc ∧ nc < 9223372036854775808 ∧ (Builtin.append_ #[t, u] ty #[xa, ya]).run P w = .ok (.slice (some ⟨w.heap.size, 0, none⟩) (len + k) nc) { w with drawn := w.drawn + 1, heap := w.heap.push (Obj.cells (List.toArray (os ++ (us ++ ((List.range ((nc - (len + k)) * zs.length)).map fun i => zs.toArray[i % zs.length]!)))) e) } := by
  subst hxa
  refine ⟨(Question.appendCap (len + k) cap e).cut (w.tape w.drawn (Question.appendCap (len + k) cap e)), ?_, ?_, ?_⟩
  · show len + k ≤ len + k + _ % _; omega
  · have hm : IntKind.i64.max = 9223372036854775807 := by decide
    rw [hm] at hmax
    show len + k + _ % (2 ^ 63 - (len + k)) < _
    have h0 : 0 < 2 ^ 63 - (len + k) := by omega
    have := Nat.mod_lt (w.tape w.drawn (Question.appendCap (len + k) cap e)) h0
    omega
  unfold Builtin.append_
  simp only [show (#[t, u] : Array TypeId)[0]? = some t from rfl, show (#[t, u] : Array TypeId)[1]? = some u from rfl, show (#[Value.slice bo len cap, ya] : Array Value)[0]? = some (.slice bo len cap) from rfl, show (#[Value.slice bo len cap, ya] : Array Value)[1]? = some ya from rfl]
  simp only [Sem.run_bind, run_underlying' w hu, run_underlying' w hud, Result.andThen_ok, hsz, Sem.run_pure]
  simp only [Bool.false_eq_true, if_false, Sem.run_bind, hlen, Result.andThen_ok, if_neg hle, Bool.not_false, if_true, hi, hmax, false_and, hroom]
  have hch : (choose (Question.appendCap (len + k) cap e)).run P w = .ok ((Question.appendCap (len + k) cap e).cut (w.tape w.drawn (Question.appendCap (len + k) cap e))) { w with drawn := w.drawn + 1 } := by rw [run_choose, if_neg (by simp [Question.forced])]
  simp only [hch, Result.andThen_ok, run_askRoom, hold, hfirst, hz, hzv, zeroCells_eq, newRow, Sem.run_bind, run_newObj, Sem.run_pure]
  simp

theorem app_sound {o : Oper} {z : List V} {bytes : Nat} {isStr : Bool} {x y : X} (hc : compOp P o.op = some (.app z bytes isStr x y)) (hd : ∀ j, o.dst = some j → j < N) (hrel : RelF ro W N r s.f a w) {xv yv : V} (hx : x.ev s.f = some xv) (hy : y.ev s.f = some yv)
    {K : V → St → Prop} (h : appWp ro z bytes isStr xv yv s K) {K' : Act → World → Prop} {Q : Exit → Act → World → Prop}
    (hK : ∀ v s' r' a' w', K v s' → s'.t = s.t → r.Sub r' → r'.e = r.e → RelF ro W N r' (s'.put o.dst v).f a' w' → K' a' w') : o.wp P a w K' Q := by
  by_cases hcv : isStr = true ∧ z.length = 2
  · obtain ⟨src, dst, e, ox, ho, hsrc, hdst, he, hyo, rfl⟩ := comp_cv hc hcv
    have hRy := compX_sound hyo hrel.t hy
    rw [hx] at hy
    cases hy
    unfold appWp at h
    split at h
    · exact h.elim
    · rename_i k news hnew
      obtain ⟨hones, h⟩ := h
      cases xv with
      | str b =>
        simp only at h
        rw [if_pos hcv] at h
        rw [V.R_str] at hRy
        simp only [appNew, hcv.1, if_true, Option.some.injEq, Prod.mk.injEq] at hnew
        obtain ⟨rfl, rfl⟩ := hnew
        obtain ⟨g1, g2, g3⟩ := h
        have hrun := Go.Lib.run_convert_string_bytes w src dst e b hsrc hdst he
        obtain ⟨nc, hnc⟩ : ∃ nc, nc = grownCap w b.size 0 e := ⟨_, rfl⟩
        have hn1 : b.size ≤ nc := by rw [hnc]; show b.size ≤ b.size + _ % _; omega
        have hn2 : nc < 9223372036854775808 := by
          rw [hnc]
          show b.size + _ % (2 ^ 63 - b.size) < _
          have := Nat.mod_lt (w.tape w.drawn (Question.appendCap b.size 0 e)) (show 0 < 2 ^ 63 - b.size by omega)
          omega
        have hk := g3 nc hn1 hn2
        have hfree : s.blk (.l s.m.length) = none := by simp [St.blk]
        have hcells : Go.Lib.bytesCells w e b = List.toArray (b.data.toList.map (fun c => Value.int .u8 c.toNat) ++ List.replicate (nc - b.size) (.int .u8 0)) := by
          rw [Go.Lib.bytesCells, ← hnc]
          apply Array.ext'
          simp
        have hz0 : zrow [V.int .u8 0] (nc - b.size) = List.replicate (nc - b.size) (.int .u8 0) := by
          apply List.ext_getElem?
          intro i
          simp only [zrow, List.getElem?_map, List.length_singleton, Nat.mul_one, Nat.mod_one, List.getElem?_replicate, List.getElem?_range']
          by_cases hi : i < nc - b.size
          · rw [List.getElem?_range hi]; simp [hi]
          · rw [List.getElem?_eq_none (by simpa using hi)]; simp [hi]
        have hRz : ∀ n : Nat, RL r (List.replicate n (V.int .u8 0)) (List.replicate n (Value.int .u8 0)) := by
          intro n
          induction n with
          | zero => simp
          | succ n ih => simp only [List.replicate_succ, RL_cons_cons]; exact ⟨V.R_int.2 rfl, ih⟩
        have hC1 := (hrel.c.drew (w.drawn + 1)).alloc hfree (xs := b.data.toList.map (fun c => Value.int .u8 c.toNat) ++ List.replicate (nc - b.size) (.int .u8 0)) [] ((rl_bytes b.data.toList).append (hRz (nc - b.size))) (fun y hy => by
          rcases List.mem_append.1 hy with hy | hy
          · obtain ⟨c, _, rfl⟩ := List.mem_map.1 hy; rfl
          · rw [List.eq_of_mem_replicate hy]; rfl) e
        rw [List.append_nil, ← hcells] at hC1
        have hC2 := hC1.endfz (k := s.m.length) (b := w.heap.size) (c := Go.Lib.bytesCells w e b) (ty := e) (by simp [Rho.add]) (by simp)
        have hw' : (World.freeze { w with drawn := w.drawn + 1, heap := w.heap.push (Obj.cells (Go.Lib.bytesCells w e b) e) } ⟨w.heap.size, (Go.Lib.bytesCells w e b).size, none⟩ 1) = Go.Lib.bytesWorld w e b := rfl
        have hrun2 : (execOp a.eval o).run P w = .ok (.value (.slice (some ⟨w.heap.size, 0, none⟩) b.size nc)) (Go.Lib.bytesWorld w e b) := by
          simp only [execOp, ho, Sem.run_bind, hRy, hrun, Result.andThen_ok, Sem.run_pure, hnc]
        unfold Oper.wp
        rw [hrun2]
        simp only [Oper.upon]
        refine hK _ _ (r.add s.m.length w.heap.size) _ _ hk rfl (Rho.add_sub _ (hrel.c.free hfree)) rfl ?_
        rw [put_f]
        refine ⟨RT.put (v := some _) (RT.mono hrel.t (Rho.add_sub _ (hrel.c.free hfree))) (fun j hj => Nat.lt_of_lt_of_le (hd j hj) hrel.n) (fun u hu => by cases hu; exact V.R_sl.2 ⟨_, by simp [Rho.get, Rho.add], rfl⟩), ?_, by rw [Act.put_size]; exact hrel.n, by rw [Act.put_def]; exact hrel.d⟩
        rw [blk_push, List.nil_append, hz0]
        exact hC2
      | _ => simp [appNew, hcv.1] at hnew
  obtain ⟨c, t, u, e, i, d, ox, oy, ho, hcal, e1, e2, hu, hz, hi, hzl, hbytes, hud, hkind, hxo, hyo⟩ := comp_app hc hcv
  have hRx := compX_sound hxo hrel.t hx
  have hRy := compX_sound hyo hrel.t hy
  have hs1 : isStr = true → z.length = 1 := fun h => by
    rw [hzl]
    cases d <;> simp_all
  unfold appWp at h
  split at h
  · exact h.elim
  · rename_i k news hnew
    obtain ⟨hones, h⟩ := h
    obtain ⟨hlen, us, hfirst, hRu⟩ := appNew_sound (P := P) hnew hrel.c hRy hs1
    obtain ⟨zv, zs, hz1, hz2, hz3, hz4⟩ := zeroO_sound (r := r) hz
    have hzs : zs.length = z.length := hz3.length
    have hsz : (sizeOf e).run P w = .ok z.length w := run_sizeOf w (by simp [szO, hi, hzl])
    have hti : ∀ w : World, (typeInfo e).run P w = .ok i w := fun w => by simp [typeInfo, hi]
    have hou : ∀ y ∈ us, Value.oneCell' y = true := RL.ones hones hRu
    have hargs : c.args.map a.eval = #[a.eval ox, a.eval oy] := by rw [show c.args = List.toArray [ox, oy] by rw [← e1]]; simp
    have htys : c.argTypes = #[t, u] := by rw [show c.argTypes = List.toArray [t, u] by rw [← e2]]
    have hdi : ∀ k, d ≠ .int k := fun k h => by subst h; simp at hkind
    have fin : ∀ (v : V) (s' : St) (r' : Rho) (res : Value) (w' : World), K v s' → s'.t = s.t → r.Sub r' → r'.e = r.e → (Builtin.append_ #[t, u] o.type #[a.eval ox, a.eval oy]).run P w = .ok res w' → V.R r' v res → Cn ro W r' s'.blk w' → o.wp P a w K' Q := by
      intro v s' r' res w' hk ht hsub he hr hRv hC'
      have hrun : (execOp a.eval o).run P w = .ok (.value res) w' := by
        simp only [execOp, ho, resolve, hcal, hargs, htys, Sem.run_bind, Sem.run_pure, Result.andThen_ok, invoke, builtin, hr]
      unfold Oper.wp
      rw [hrun]
      simp only [Oper.upon]
      refine hK v s' r' _ _ hk ht hsub he ?_
      rw [put_f, ht]
      exact ⟨RT.put (v := some v) (RT.mono hrel.t hsub) (fun j hj => Nat.lt_of_lt_of_le (hd j hj) hrel.n) (fun u hu => by cases hu; exact hRv), hC', by rw [Act.put_size]; exact hrel.n, by rw [Act.put_def]; exact hrel.d⟩
    have grow : ∀ (bo : Option Addr) (len cap : Nat) (old : List V) (os : List Value), a.eval ox = .slice bo len cap → ¬ (len + k ≤ cap) → (∀ n, (Builtin.firstCells z.length len (.slice bo len cap)).run P { w with drawn := n } = .ok (List.toArray os) { w with drawn := n }) →
        RL r old os → (∀ y ∈ os, Value.oneCell' y = true) → appGrow s z bytes old news (len + k) K → o.wp P a w K' Q := by
      intro bo len cap old os hxe hgt hold hRo hoo hg
      obtain ⟨g1, g2, g3⟩ := hg
      have hbound := nextslicecap_le (need := len + k) (cap := cap) (by omega)
      have hroom : ¬ (Builtin.nextslicecap (len + k) cap * i.bytes > 2 ^ 48) := by
        have : Builtin.nextslicecap (len + k) cap * i.bytes ≤ (2 * (len + k) + 192) * i.bytes := Nat.mul_le_mul_right _ hbound
        rw [← hbytes] at this ⊢
        omega
      have hmax : ¬ (((len + k : Nat) : Int) > IntKind.i64.max) := by
        have : IntKind.i64.max = 9223372036854775807 := by decide
        rw [this]
        omega
      obtain ⟨nc, hnc1, hnc2, hrun⟩ := app_new (ty := o.type) hu hud hdi hxe hsz hlen hti hz1 hz2 hold hfirst hgt hmax hroom
      obtain ⟨q1, q2⟩ := zrow_sound hz3 hz4 (nc - (len + k))
      have hk := g3 nc hnc1 hnc2
      have hfree : s.blk (.l s.m.length) = none := by simp [St.blk]
      have hC' := (hrel.c.drew (w.drawn + 1)).alloc hfree (xs := os ++ (us ++ ((List.range ((nc - (len + k)) * zs.length)).map fun i => zs.toArray[i % zs.length]!))) [] (hRo.append (hRu.append q1)) (fun y hy => by
        simp only [List.mem_append] at hy
        rcases hy with hy | hy | hy
        · exact hoo y hy
        · exact hou y hy
        · exact q2 y hy) e
      refine fin _ _ (r.add s.m.length w.heap.size) (.slice (some ⟨w.heap.size, 0, none⟩) (len + k) nc) _ hk rfl (Rho.add_sub _ (hrel.c.free hfree)) rfl hrun (V.R_sl.2 ⟨_, by simp [Rho.get, Rho.add], rfl⟩) ?_
      rw [blk_push]
      rw [List.append_nil] at hC'
      exact hC'
    cases xv with
    | nilsl =>
      simp only at h
      rw [V.R_nilsl] at hRx
      split at h
      · rename_i hk0
        subst hk0
        refine fin .nilsl s r (.slice none 0 0) w h rfl (fun n b hb => hb) rfl ?_ (V.R_nilsl.2 rfl) hrel.c
        exact app_put (bo := none) (cap := 0) hu hud hdi hRx hsz hlen (hfirst w.drawn) (by omega) rfl
      · rename_i hk0
        refine grow none 0 0 [] [] hRx (by omega) (fun n => by simp [Builtin.firstCells]) (by simp) (by simp) (by simpa using h)
    | sl n off len cap =>
      simp only at h
      rw [V.R_sl] at hRx
      obtain ⟨b, hb, hxe⟩ := hRx
      split at h
      · exact h.elim
      · rename_i cs hcs
        split at h
        · rename_i hle
          obtain ⟨hok, hlen2, hk⟩ := h
          have hnl := appNew_len hnew hs1
          have hst := store_cells (P := P) hok hb us news cs (off + len * z.length) w s.blk 0 (off + len * z.length) hrel.c hcs hRu hou (by rw [hnl]; rw [Nat.add_mul] at hlen2; omega) (by omega)
          refine fin _ _ r (.slice (some ⟨b, off, none⟩) (len + k) cap) (wsets w b (off + len * z.length) us) hk (by cases n <;> rfl) (fun n b hb => hb) rfl ?_ (V.R_sl.2 ⟨b, hb, rfl⟩) ?_
          · exact app_put hu hud hdi hxe hsz hlen (hfirst w.drawn) hle (by simp only [addr_add]; exact hst.1)
          · rw [blk_setBlk s hcs]; exact hst.2
        · rename_i hgt
          obtain ⟨hlen2, hcs1, hg⟩ := h
          obtain ⟨b', xs, ys, ty, fr, g1, g2, g3⟩ := hrel.c.blk_at hcs
          rw [hb] at g1; cases g1
          have hl := g3.length
          refine grow (some ⟨b, off, none⟩) len cap _ ((xs.drop off).take (len * z.length)) hxe hgt (fun n => ?_) ((g3.drop off).take _) (fun y hy => by
            have hyx : y ∈ xs := List.mem_of_mem_drop (List.mem_of_mem_take hy)
            cases n with
            | e k => exact RL.ones (hcs1 rfl) g3 y hyx
            | l k =>
              obtain ⟨b2, us2, zs2, ty2, q1, ⟨fr2, q2, _⟩, q3, q4⟩ := hrel.c.lb k cs hcs
              rw [show r.l k = some b from hb] at q1; cases q1
              rw [g2] at q2
              simp only [Option.some.injEq, Obj.cells.injEq] at q2
              have hcat : xs ++ ys = us2 ++ zs2 := by have := congrArg Array.toList q2.1; simpa using this
              have : xs = us2 := (List.append_inj hcat (by rw [hl, q3.length])).1
              subst this
              exact q4 y hyx) hg
          exact run_loadCells' (P := P) { w with drawn := n } b off ((xs.drop off).take (len * z.length)) (len * z.length) (by simp; omega) (fun j u hj => by
            have hjm : j < len * z.length := by
              rcases Nat.lt_or_ge j (len * z.length) with h | h
              · exact h
              · rw [List.getElem?_eq_none (by simp; omega)] at hj; cases hj
            rw [List.getElem?_take_of_lt hjm, List.getElem?_drop] at hj
            simp only [World.cell?, g2, List.getElem?_toArray, getElem?_pre hj]; rfl)
    | str b => simp only at h; rw [if_neg hcv] at h; exact h.elim
    | _ => exact h.elim
end
end Go.Ab
