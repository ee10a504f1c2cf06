/- A part of the proof library: names for blocks of memory, a small form of the code, and rules for walks over it. -/
import Derived.Test.YtpajbcifaicpoaaDoorAb5
set_option linter.all false
namespace Go.Ab

section
variable {ro : Bool} {W w : World} {r : Rho} {s : Fs} {a : Act} {P : Program}

theorem binInt_sound (w : World) {op : BinOp} {k k' : IntKind} {x y : Int} {v : V} (t : TypeId) (h : binInt op k k' x y = some v) :
    ∃ u, (binOp op t (.int k x) (.int k' y)).run P w = .ok u w ∧ V.R r v u := by
  by_cases hsh : op = .shl ∨ op = .shr
  · rcases hsh with rfl | rfl
    all_goals
      simp only [binInt] at h
      split at h
      · cases h
      · rename_i hy
        cases h
        exact ⟨_, by simp only [binOp, Op.shift, if_neg hy]; rfl, V.R_int.2 rfl⟩
  · have hk : k = k' := by
      by_cases hk : k = k'
      · exact hk
      · exfalso
        cases op <;> simp_all [binInt]
    subst hk
    by_cases hq : op = .quo ∨ op = .rem
    · rcases hq with rfl | rfl
      all_goals
        simp only [binInt, if_true] at h
        by_cases hy : y = 0
        · rw [if_pos hy] at h; cases h
        · rw [if_neg hy] at h
          cases h
          exact ⟨_, by simp only [binOp, ne_eq, not_true_eq_false, if_false, Op.intDiv, if_neg hy]; rfl, V.R_int.2 rfl⟩
    · cases op <;> simp only [binInt, if_true] at h <;> first
        | cases h
        | (exfalso; exact hsh (.inl rfl))
        | (exfalso; exact hsh (.inr rfl))
        | (exfalso; exact hq (.inl rfl))
        | (exfalso; exact hq (.inr rfl))
      all_goals first
        | exact ⟨_, by simp only [binOp, ne_eq, not_true_eq_false, if_false]; rfl, V.R_int.2 rfl⟩
        | exact ⟨_, by simp only [binOp, ne_eq, not_true_eq_false, if_false]; rfl, V.R_bool.2 rfl⟩

theorem eqGuard_run (w : World) (op : BinOp) (t : TypeId) (x y : Operand) (u v : Value) (hu : (∃ k n, u = .int k n) ∨ (∃ b, u = .string b) ∨ ∃ b, u = .bool b) : (eqGuard op t x y u v).run P w = .ok () w := by
  rcases hu with ⟨k, n, rfl⟩ | ⟨b, rfl⟩ | ⟨b, rfl⟩ <;> cases op <;> rfl

theorem binV_sound (w : World) {op : BinOp} {x y v : V} {u u' : Value} (t : TypeId) (h : binV op x y = some v) (hx : V.R r x u) (hy : V.R r y u') :
    ∃ z, (binOp op t u u').run P w = .ok z w ∧ V.R r v z := by
  unfold binV at h
  split at h
  · rw [V.R_int] at hx hy; subst hx; subst hy; exact binInt_sound w t h
  · rw [V.R_str] at hx hy; subst hx; subst hy
    split at h
    · split at h
      · cases h
      · rename_i hs; cases h; exact ⟨_, by simp only [binOp, Op.stringOp, if_neg hs]; rfl, V.R_str.2 rfl⟩
    · cases h; exact ⟨_, rfl, V.R_bool.2 rfl⟩
    · cases h; exact ⟨_, rfl, V.R_bool.2 rfl⟩
    · cases h
  · cases h

theorem binV_left {op : BinOp} {x y v : V} (h : binV op x y = some v) : (∃ k n, x = .int k n) ∨ ∃ b, x = .str b := by
  unfold binV at h
  split at h
  · exact .inl ⟨_, _, rfl⟩
  · exact .inr ⟨_, rfl⟩
  · cases h

theorem unV_sound (w : World) {op : UnOp} {x v : V} {u : Value} (h : unV op x = some v) (hx : V.R r x u) : ∃ z, (Op.unary op u).run P w = .ok z w ∧ V.R r v z := by
  unfold unV at h
  split at h
  · rw [V.R_int] at hx; subst hx
    split at h
    · cases h; exact ⟨_, rfl, V.R_int.2 rfl⟩
    · cases h; exact ⟨_, rfl, V.R_int.2 rfl⟩
    · cases h
  · rw [V.R_bool] at hx; subst hx
    split at h
    · cases h; exact ⟨_, rfl, V.R_bool.2 rfl⟩
    · cases h
  · cases h

theorem run_bd (w : World) {x : X} {o : Operand} {y n : Nat} (code : BoundsCode) (hx : compX o = some x) (hT : RT r s.t a) (h : bd s x y = some n) :
    (Instr.sliceBound (a.eval o) y code).run P w = .ok n w := by
  unfold bd at h
  split at h
  · rename_i k i hv
    have hR := compX_sound hx hT hv
    rw [V.R_int] at hR
    split at h
    · rename_i hi
      cases h
      simp only [Instr.sliceBound, hR, asIntOf, Sem.run_bind, Sem.run_pure, Result.andThen_ok, if_pos hi]
    · cases h
  · cases h

theorem run_slb (w : World) {isS : Bool} {len cap l h : Nat} {lo hi : Option Operand} {lo' hi' : Option X} (h1 : optX lo = some lo') (h2 : optX hi = some hi') (hT : RT r s.t a) (hb : slb s len cap lo' hi' = some (l, h)) :
    (Instr.sliceBounds isS len cap (lo.map a.eval) (hi.map a.eval) none).run P w = .ok (l, h, cap) w := by
  unfold slb at hb
  split at hb
  · cases hb
  · rename_i h' hh
    split at hb
    · cases hb
    · rename_i l' hl
      cases hb
      unfold Instr.sliceBounds
      cases hi with
      | none =>
        simp only [optX] at h2; cases h2; simp only [bdO] at hh; cases hh
        cases lo with
        | none => simp only [optX] at h1; cases h1; simp only [bdO] at hl; cases hl; rfl
        | some o =>
          simp only [optX] at h1
          split at h1
          · rename_i x hx
            cases h1
            simp only [bdO] at hl
            simp only [Option.map_none, Option.map_some, Sem.run_bind, Sem.run_pure, Result.andThen_ok, Option.isSome_none, Bool.false_eq_true, if_false, run_bd w _ hx hT hl]
          · cases h1
      | some oh =>
        simp only [optX] at h2
        split at h2
        · rename_i xh hxh
          cases h2
          simp only [bdO] at hh
          cases lo with
          | none =>
            simp only [optX] at h1; cases h1; simp only [bdO] at hl; cases hl
            simp only [Option.map_none, Option.map_some, Sem.run_bind, Sem.run_pure, Result.andThen_ok, run_bd w _ hxh hT hh]
          | some o =>
            simp only [optX] at h1
            split at h1
            · rename_i x hx
              cases h1
              simp only [bdO] at hl
              simp only [Option.map_some, Sem.run_bind, Sem.run_pure, Result.andThen_ok, Option.isSome_none, Bool.false_eq_true, if_false, run_bd w _ hxh hT hh, run_bd w _ hx hT hl]
            · cases h1
        · cases h2

theorem fill_sound (place : Nat → Option (Nat × Nat)) (hT : RT r s.t a) : ∀ (ps : List (Nat × Operand)) {xs : List (Nat × Nat × X)} {z cs : List V} {zs : List Value}, compParts place ps = some xs → fillV s z xs = some cs → RL r z zs →
    (∀ y ∈ zs, Value.oneCell' y = true) → ∃ ys, Instr.fill place (List.toArray zs) (ps.map fun p => (p.1, a.eval p.2)) = some (List.toArray ys) ∧ RL r cs ys ∧ ∀ y ∈ ys, Value.oneCell' y = true
  | [], xs, z, cs, zs, hc, hf, hz, hone => by
    simp only [compParts] at hc; cases hc
    simp only [fillV] at hf; cases hf
    exact ⟨zs, rfl, hz, hone⟩
  | (i, o) :: ps, xs, z, cs, zs, hc, hf, hz, hone => by
    simp only [compParts] at hc
    split at hc
    · rename_i off n x xs' hp hx hxs
      cases hc
      simp only [fillV] at hf
      split at hf
      · rename_i v hv
        split at hf
        · rename_i hcond
          obtain ⟨hsz, hle, hpart⟩ := hcond
          have hR := compX_sound hx hT hv
          -- the part's cells
          have hcells : ∃ us, (a.eval o).cells = List.toArray us ∧ RL r v.cells us ∧ ∀ y ∈ us, Value.oneCell' y = true := by
            cases v with
            | agg vs =>
              rw [V.R_agg] at hR
              obtain ⟨us, he, h1, h2⟩ := hR
              exact ⟨us, by rw [he]; rfl, h1, h2⟩
            | tup vs => simp [V.part, V.one] at hpart
            | _ =>
              have hone' := V.one_R (by simpa [V.part] using hpart) hR
              refine ⟨[a.eval o], ?_, by simpa [V.cells] using hR, by simpa using hone'⟩
              generalize a.eval o = u at hone'
              cases u <;> first | rfl | (simp [Value.oneCell'] at hone')
          obtain ⟨us, he, hRu, hou⟩ := hcells
          have hlen := hRu.length
          have hzl := hz.length
          simp only [List.map_cons, Instr.fill, hp, he]
          rw [if_neg (by simp; omega)]
          have hput : ∀ (us : List Value) (vs : List V) (zs : List Value) (z : List V) (k : Nat), RL r vs us → RL r z zs → (∀ y ∈ us, Value.oneCell' y = true) → (∀ y ∈ zs, Value.oneCell' y = true) →
              ∃ zs', (us.zipIdx k).foldl (fun (cs : Array Value) (p : Value × Nat) => cs.setIfInBounds (off + p.2) p.1) (List.toArray zs) = List.toArray zs' ∧ RL r (putl z (off + k) vs) zs' ∧ ∀ y ∈ zs', Value.oneCell' y = true := by
            intro us
            induction us with
            | nil =>
              intro vs zs z k h1 h2 _ h4
              cases vs with
              | nil => exact ⟨zs, by simp, by simpa [putl] using h2, h4⟩
              | cons v vs => simp [RL] at h1
            | cons u us ih =>
              intro vs zs z k h1 h2 h3 h4
              cases vs with
              | nil => simp at h1
              | cons v vs =>
                simp only [RL_cons_cons] at h1
                obtain ⟨zs', g1, g2, g3⟩ := ih vs (zs.set (off + k) u) (z.set (off + k) v) (k + 1) h1.2 (h2.set _ h1.1) (fun y hy => h3 y (by simp [hy])) (fun y hy => by
                  rcases List.mem_or_eq_of_mem_set hy with hy | hy
                  · exact h4 y hy
                  · subst hy; exact h3 _ (by simp))
                refine ⟨zs', ?_, by simpa [putl, Nat.add_assoc] using g2, g3⟩
                simp only [List.zipIdx_cons, List.foldl_cons]
                rw [show (List.toArray zs).setIfInBounds (off + k) u = List.toArray (zs.set (off + k) u) by simp]
                exact g1
          obtain ⟨zs', g1, g2, g3⟩ := hput us v.cells zs z 0 hRu hz hou hone
          simp only [Nat.add_zero] at g2
          rw [show ((us.toArray.zipIdx).foldl (fun (cs : Array Value) (p : Value × Nat) => cs.setIfInBounds (off + p.2) p.1) (List.toArray zs)) = List.toArray zs' by rw [← g1, ← Array.foldl_toList, Array.toList_zipIdx]]
          exact fill_sound place hT ps hxs hf g2 g3
        · cases hf
      · cases hf
    · cases hc

theorem scalV_sound {v : Value} {u : V} (h : scalV v = some u) : V.R r u v := by
  unfold scalV at h
  split at h <;> cases h <;> simp [V.R]

theorem scalVs_sound : ∀ {vs : List Value} {us : List V}, scalVs vs = some us → RL r us vs
  | [], us, h => by simp only [scalVs] at h; cases h; simp
  | v :: vs, us, h => by
    simp only [scalVs] at h
    split at h
    · rename_i h1 h2; cases h; simp [scalV_sound h1, scalVs_sound h2]
    · cases h

theorem zeroO_sound {t : TypeId} {z : List V} (h : zeroO P t = some z) :
    ∃ v zs, (∀ w, (zeroValue t).run P w = .ok v w) ∧ v.cells = List.toArray zs ∧ RL r z zs ∧ ∀ y ∈ zs, Value.oneCell' y = true := by
  unfold zeroO at h
  split at h
  · rename_i z' hz
    split at h
    · rename_i hone
      cases h
      unfold zeroC at hz
      split at hz
      · rename_i i hi
        split at hz
        · rename_i cs hzz
          have hR := scalVs_sound (r := r) hz
          exact ⟨.agg cs, cs.toList, fun w => by simp [zeroValue, typeInfo, hi, hzz], by simp [Value.cells], hR, RL.ones (allOne_spec hone) hR⟩
        · rename_i v hnot hzz
          split at hz
          · rename_i u hu
            cases hz
            have hR := scalV_sound (r := r) hu
            have hRL : RL r [u] [v] := by simpa using hR
            refine ⟨v, [v], fun w => by simp [zeroValue, typeInfo, hi, hzz], ?_, hRL, RL.ones (allOne_spec hone) hRL⟩
            cases v <;> first | rfl | exact (hnot _ rfl).elim
          · cases hz
        · cases hz
      · cases hz
    · cases h
  · cases h
end
end Go.Ab
