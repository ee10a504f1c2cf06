/- A part of the proof library: names for blocks of memory, a small form of the code, and rules for walks over it. -/
import Derived.Test.YtpajbcifaicpoaaDoorAb4
import Derived.ChangeKeysEq
import Derived.Laws.StructEq
set_option linter.all false
namespace Go.Ab

/-- The kinds of fields, one behind the other. -/
def eqFs (P : Program) (g : TypeId → Option (List IntKind)) : List Field → Nat → Option (List IntKind)
  | [], _ => some []
  | f :: fs, off => if f.name ≠ "_" ∧ f.offset = off then
      match g f.type, szO P f.type with
      | some ks, some m => if m = ks.length then (eqFs P g fs (off + m)).map (ks ++ ·) else none
      | _, _ => none
    else none
/-- The kinds of a type whose parts are all numbers. -/
def eqK (P : Program) : Nat → TypeId → Option (List IntKind)
  | 0, _ => none
  | d + 1, t => match P.underlying t with
    | some (.int k) => some [k]
    | some (.array n e) => match eqK P d e, szO P e with
      | some ks, some m => if m = ks.length ∧ P.cellsOf e = ks.length then some (List.replicate n ks).flatten else none
      | _, _ => none
    | some (.struct fs) => if P.stoodInHeld t = false then eqFs P (eqK P d) fs.toList 0 else none
    | _ => none

def zi (ks : List IntKind) (ns : List Int) : List Value := List.zipWith Value.int ks ns
def vk (P : Program) (t : TypeId) (ks : List IntKind) (ns : List Int) : Value :=
  match P.underlying t with
  | some (.int k) => .int k (ns.headD 0)
  | _ => .agg (List.toArray (zi ks ns))

theorem zi_append {A B : List IntKind} {a b : List Int} (h : A.length = a.length) : zi (A ++ B) (a ++ b) = zi A a ++ zi B b := List.zipWith_append h
theorem zi_length {A : List IntKind} {a : List Int} (h : a.length = A.length) : (zi A a).length = A.length := by simp [zi, h]

section
variable {P : Program}
def EqOk (P : Program) (d : Nat) (t : TypeId) (ks : List IntKind) : Prop :=
  ∀ (w : World) (ns ms : List Int), ns.length = ks.length → ms.length = ks.length → (Op.equalIn d t (vk P t ks ns) (vk P t ks ms)).run P w = .ok (decide (ns = ms)) w

theorem eqK_int {d : Nat} {t : TypeId} {ks : List IntKind} {k : IntKind} (h : eqK P d t = some ks) (hu : P.underlying t = some (.int k)) : ks = [k] := by
  cases d with
  | zero => simp [eqK] at h
  | succ d => simp only [eqK, hu] at h; cases h; rfl
theorem eqK_under {d : Nat} {t : TypeId} {ks : List IntKind} (h : eqK P d t = some ks) : ∃ D, P.underlying t = some D ∧ ((∃ k, D = .int k ∧ ks = [k]) ∨ isAggD D = true) := by
  cases d with
  | zero => simp [eqK] at h
  | succ d =>
    simp only [eqK] at h
    split at h
    · rename_i k hu; cases h; exact ⟨_, hu, .inl ⟨k, rfl, rfl⟩⟩
    · rename_i n e hu; exact ⟨_, hu, .inr rfl⟩
    · rename_i fs hu; exact ⟨_, hu, .inr rfl⟩
    · cases h

/-- A part of a row. -/
theorem run_part_zi {d : Nat} {e : TypeId} {ks A B : List IntKind} {ns a b : List Int} (h : eqK P d e = some ks) (hm : szO P e = some ks.length) (hA : A.length = a.length) (hn : ns.length = ks.length) (w : World) (off : Nat) (ho : off = A.length) :
    (part e (List.toArray (zi (A ++ (ks ++ B)) (a ++ (ns ++ b)))) off).run P w = .ok (vk P e ks ns) w := by
  obtain ⟨D, hu, hD⟩ := eqK_under h
  have hz : zi (A ++ (ks ++ B)) (a ++ (ns ++ b)) = zi A a ++ (zi ks ns ++ zi B b) := by rw [zi_append hA, zi_append hn.symm]
  have hl : (zi A a).length = off := by rw [zi_length hA.symm, ho]
  unfold part
  simp only [Sem.run_bind, run_isAgg w hu, Result.andThen_ok, hz]
  rcases hD with ⟨k, rfl, rfl⟩ | hD
  · have : ∃ n, ns = [n] := by
      match ns, hn with
      | [n], _ => exact ⟨n, rfl⟩
    obtain ⟨n, rfl⟩ := this
    simp only [isAggD, Bool.false_eq_true, if_false]
    have hg : (List.toArray (zi A a ++ (zi [k] [n] ++ zi B b)))[off]? = some (Value.int k n) := by
      rw [List.getElem?_toArray, ← hl, List.getElem?_append_right (Nat.le_refl _)]
      simp [zi]
    rw [hg]
    simp only [Sem.run_pure, vk, hu, List.headD_cons]
  · rw [if_pos hD]
    simp only [Sem.run_bind, run_sizeOf w hm, Result.andThen_ok, Sem.run_pure]
    have hex : (List.toArray (zi A a ++ (zi ks ns ++ zi B b))).extract off (off + ks.length) = List.toArray (zi ks ns) := by
      apply Array.ext'
      simp
      have e1 : (zi ks ns).length = ks.length := zi_length hn
      rw [← hl]
      simp [List.take_append, e1]
    rw [hex]
    congr 1
    unfold vk
    rw [hu]
    cases D <;> simp [isAggD] at hD <;> rfl

theorem items_sound {d0 d : Nat} {e : TypeId} {ks : List IntKind} (h : eqK P d0 e = some ks) (hm : szO P e = some ks.length) (hok : EqOk P d e ks) : ∀ (c i : Nat) (A : List IntKind) (a b ns ms : List Int) (w : World),
    A.length = i * ks.length → a.length = A.length → b.length = A.length → ns.length = c * ks.length → ms.length = c * ks.length →
    (Op.eqItems d e ks.length (List.toArray (zi (A ++ (List.replicate c ks).flatten) (a ++ ns))) (List.toArray (zi (A ++ (List.replicate c ks).flatten) (b ++ ms))) (List.range' i c)).run P w = .ok (decide (ns = ms)) w
  | 0, i, A, a, b, ns, ms, w, hA, ha, hb, hn, hm' => by
    have e1 : ns = [] := List.eq_nil_of_length_eq_zero (by simpa using hn)
    have e2 : ms = [] := List.eq_nil_of_length_eq_zero (by simpa using hm')
    subst e1; subst e2
    simp [Op.eqItems]
  | c + 1, i, A, a, b, ns, ms, w, hA, ha, hb, hn, hm' => by
    rw [Nat.succ_mul] at hn hm'
    have ens : ns = ns.take ks.length ++ ns.drop ks.length := (List.take_append_drop _ _).symm
    have ems : ms = ms.take ks.length ++ ms.drop ks.length := (List.take_append_drop _ _).symm
    generalize hn1 : ns.take ks.length = n1 at ens
    generalize hn2 : ns.drop ks.length = n2 at ens
    generalize hm1 : ms.take ks.length = m1 at ems
    generalize hm2 : ms.drop ks.length = m2 at ems
    have l1 : n1.length = ks.length := by rw [← hn1, List.length_take]; omega
    have l2 : m1.length = ks.length := by rw [← hm1, List.length_take]; omega
    have l3 : n2.length = c * ks.length := by rw [← hn2, List.length_drop]; omega
    have l4 : m2.length = c * ks.length := by rw [← hm2, List.length_drop]; omega
    clear hn1 hn2 hm1 hm2
    subst ens; subst ems
    rw [List.range'_succ, List.replicate_succ, List.flatten_cons]
    simp only [Op.eqItems, Sem.run_bind]
    rw [run_part_zi h hm ha.symm l1 w _ hA.symm]
    simp only [Result.andThen_ok]
    rw [run_part_zi h hm hb.symm l2 w _ hA.symm]
    simp only [Result.andThen_ok, hok w n1 m1 l1 l2]
    by_cases heq : n1 = m1
    · subst heq
      have ih := items_sound h hm hok c (i + 1) (A ++ ks) (a ++ n1) (b ++ n1) n2 m2 w (by rw [List.length_append, hA, Nat.succ_mul]) (by simp [ha, l1]) (by simp [hb, l1]) l3 l4
      simp only [List.append_assoc] at ih
      simp only [decide_true, Bool.not_true, Bool.false_eq_true, if_false]
      rw [ih]
      congr 1
      simp
    · simp only [decide_eq_false heq, Bool.not_false, if_true, Sem.run_pure]
      congr 1
      rw [eq_comm, decide_eq_false_iff_not]
      intro hh
      exact heq (List.append_inj_left hh (by rw [l1, l2]))

theorem fields_sound {d0 d : Nat} (hok : ∀ t ks, eqK P d0 t = some ks → EqOk P d t ks) : ∀ (fs : List Field) (off : Nat) (ks A : List IntKind) (a b ns ms : List Int) (w : World), eqFs P (eqK P d0) fs off = some ks →
    A.length = off → a.length = A.length → b.length = A.length → ns.length = ks.length → ms.length = ks.length →
    (Op.eqFields d (List.toArray (zi (A ++ ks) (a ++ ns))) (List.toArray (zi (A ++ ks) (b ++ ms))) fs).run P w = .ok (decide (ns = ms)) w
  | [], off, ks, A, a, b, ns, ms, w, h, hA, ha, hb, hn, hm' => by
    simp only [eqFs] at h; cases h
    have e1 : ns = [] := List.eq_nil_of_length_eq_zero (by simpa using hn)
    have e2 : ms = [] := List.eq_nil_of_length_eq_zero (by simpa using hm')
    subst e1; subst e2
    simp [Op.eqFields]
  | f :: fs, off, KS, A, a, b, ns, ms, w, h, hA, ha, hb, hn, hm' => by
    simp only [eqFs] at h
    split at h
    · rename_i hf
      split at h
      · rename_i ks m hk hsz
        split at h
        · rename_i hmk
          simp only [Option.map_eq_some_iff] at h
          obtain ⟨ks', hks', rfl⟩ := h
          rw [hmk] at hsz
          rw [List.length_append] at hn hm'
          have ens : ns = ns.take ks.length ++ ns.drop ks.length := (List.take_append_drop _ _).symm
          have ems : ms = ms.take ks.length ++ ms.drop ks.length := (List.take_append_drop _ _).symm
          generalize hn1 : ns.take ks.length = n1 at ens
          generalize hn2 : ns.drop ks.length = n2 at ens
          generalize hm1 : ms.take ks.length = m1 at ems
          generalize hm2 : ms.drop ks.length = m2 at ems
          have l1 : n1.length = ks.length := by rw [← hn1, List.length_take]; omega
          have l2 : m1.length = ks.length := by rw [← hm1, List.length_take]; omega
          have l3 : n2.length = ks'.length := by rw [← hn2, List.length_drop]; omega
          have l4 : m2.length = ks'.length := by rw [← hm2, List.length_drop]; omega
          clear hn1 hn2 hm1 hm2
          subst ens; subst ems
          simp only [Op.eqFields, if_pos hf.1, Sem.run_bind]
          rw [run_part_zi hk hsz ha.symm l1 w _ (by rw [hf.2, hA])]
          simp only [Result.andThen_ok]
          rw [run_part_zi hk hsz hb.symm l2 w _ (by rw [hf.2, hA])]
          simp only [Result.andThen_ok, hok _ _ hk w n1 m1 l1 l2]
          by_cases heq : n1 = m1
          · subst heq
            have ih := fields_sound hok fs (off + m) ks' (A ++ ks) (a ++ n1) (b ++ n1) n2 m2 w hks' (by rw [List.length_append, hA, hmk]) (by simp [ha, l1]) (by simp [hb, l1]) l3 l4
            simp only [List.append_assoc] at ih
            simp only [decide_true, Bool.not_true, Bool.false_eq_true, if_false]
            rw [ih]
            congr 1
            simp
          · simp only [decide_eq_false heq, Bool.not_false, if_true, Sem.run_pure]
            congr 1
            rw [eq_comm, decide_eq_false_iff_not]
            intro hh
            exact heq (List.append_inj_left hh (by rw [l1, l2]))
        · cases h
      · cases h
    · cases h

theorem eqK_sound : ∀ (m d : Nat) (t : TypeId) (ks : List IntKind), eqK P m t = some ks → EqOk P (d + m) t ks
  | 0, d, t, ks, h => by simp [eqK] at h
  | m + 1, d, t, ks, h => by
    intro w ns ms hn hm
    have h0 := h
    simp only [eqK] at h
    split at h
    · rename_i k hu
      cases h
      match ns, hn, ms, hm with
      | [n], _, [m'], _ =>
        simp only [vk, hu, List.headD_cons]
        rw [← Nat.add_assoc, run_equalIn_int w (d + m) t k k n m' hu]
        congr 1
        by_cases e : n = m' <;> simp [e]
    · rename_i n e hu
      split at h
      · rename_i ks' m' hk hsz
        split at h
        · rename_i hc
          cases h
          rw [hc.1] at hsz
          have hsz' := hsz
          unfold szO at hsz'
          cases hi : P.info? e with
          | none => rw [hi] at hsz'; simp at hsz'
          | some i =>
            simp only [vk, hu]
            rw [← Nat.add_assoc, run_equalIn_array w (d + m) _ _ hu hi, hc.2, List.range_eq_range']
            have := items_sound hk hsz (eqK_sound m d e ks' hk) n 0 [] [] [] ns ms w (by simp) rfl rfl (by simpa using hn) (by simpa using hm)
            simpa using this
        · cases h
      · cases h
    · rename_i fs hu
      split at h
      · rename_i hs
        have hf : P.fieldsOf t = fs := by simp [Program.fieldsOf, hu]
        simp only [vk, hu]
        rw [← Nat.add_assoc, run_equalIn_struct w (d + m) t _ _ (by rw [hf]; exact hu) hs, hf]
        have := fields_sound (fun t ks hk => eqK_sound m d t ks hk) fs.toList 0 ks [] [] [] ns ms w h rfl rfl rfl hn hm
        simpa using this
      · cases h
    · cases h
end
end Go.Ab
