/- A part of the proof library: names for blocks of memory, a small form of the code, and rules for walks over it. -/
import Derived.Test.YtbihhjdjgcojjaaAb20
namespace Go.Ab

/-- n cells, told by a function. -/
def tab (n : Nat) (F : Nat → V) : List V := (List.range n).map F

@[simp] theorem tab_length (n : Nat) (F : Nat → V) : (tab n F).length = n := by simp [tab]
theorem tab_get {n k : Nat} {F : Nat → V} (h : k < n) : (tab n F)[k]? = some (F k) := by simp [tab, h]
theorem tab_get' {n k : Nat} {F : Nat → V} : (tab n F)[k]? = if k < n then some (F k) else none := by
  by_cases h : k < n
  · rw [tab_get h, if_pos h]
  · rw [if_neg h, List.getElem?_eq_none (by simp; omega)]
@[simp] theorem tab_getElem {n k : Nat} {F : Nat → V} (h : k < (tab n F).length) : (tab n F)[k] = F k := by
  have := tab_get (F := F) (show k < n by simpa using h)
  rw [List.getElem?_eq_getElem h] at this; exact Option.some.inj this
theorem tab_set {n k : Nat} {F : Nat → V} {v : V} : (tab n F).set k v = tab n (fun i => if i = k then v else F i) := by
  apply List.ext_getElem?
  intro i
  rw [tab_get', List.getElem?_set, tab_get', tab_length]
  by_cases h : k = i
  · subst h; by_cases h2 : k < n <;> simp [h2]
  · rw [if_neg h]
    by_cases h2 : i < n
    · rw [if_pos h2, if_pos h2, if_neg (fun e : i = k => h e.symm)]
    · simp [h2]
theorem tab_congr {n : Nat} {F G : Nat → V} (h : ∀ i, i < n → F i = G i) : tab n F = tab n G := by
  apply List.ext_getElem?
  intro i
  rw [tab_get', tab_get']
  by_cases h2 : i < n
  · simp [h2, h i h2]
  · simp [h2]
theorem tab_inj {n : Nat} {F G : Nat → V} (h : tab n F = tab n G) : ∀ i, i < n → F i = G i := fun i hi => by
  have := congrArg (fun l : List V => l[i]?) h
  simp only [tab_get', hi, if_true] at this
  exact Option.some.inj this
theorem rl_one {n : Nat} {v : V} : rl [(n, v)] = tab n fun _ => v := by
  simp only [rl, List.append_nil]
  apply List.ext_getElem?
  intro i
  rw [tab_get', List.getElem?_replicate]
theorem rl_two {n : Nat} {u v : V} : rl [(1, u), (n, v)] = u :: tab n fun _ => v := by
  rw [← rl_one]; simp [rl]
theorem tab_puL {n : Nat} {F : Nat → V} (h : ∀ i, (F i).pu) : puL (tab n F) := by
  rw [puL_iff]; intro v hv; simp only [tab, List.mem_map] at hv; obtain ⟨i, _, rfl⟩ := hv; exact h i
@[simp] theorem tab_puL_int {n : Nat} {k : IntKind} {f : Nat → Int} : puL (tab n fun i => .int k (f i)) := tab_puL fun _ => by simp
theorem tab_mem {n : Nat} {F : Nat → V} {v : V} (h : v ∈ tab n F) : ∃ i, i < n ∧ v = F i := by
  simp only [tab, List.mem_map, List.mem_range] at h; obtain ⟨i, h1, rfl⟩ := h; exact ⟨i, h1, rfl⟩
theorem tab_drop0 {n : Nat} {F : Nat → V} : (tab n F).take n = tab n F := List.take_of_length_le (by simp)
@[simp] theorem tab_take {n : Nat} {F : Nat → V} : (tab n F).take n = tab n F := tab_drop0
theorem get_cons1 {a : V} {l : List V} {k : Nat} : (a :: l)[1 + k]? = l[k]? := by rw [Nat.add_comm]; rfl
theorem set_cons1 {a v : V} {l : List V} {k : Nat} : (a :: l).set (1 + k) v = a :: l.set k v := by rw [Nat.add_comm]; rfl

theorem putl_eq : ∀ (vs cs : List V) (off : Nat), off + vs.length ≤ cs.length → putl cs off vs = cs.take off ++ (vs ++ cs.drop (off + vs.length))
  | [], cs, off, h => by simp [putl]
  | v :: vs, cs, off, h => by
    simp only [List.length_cons] at h
    rw [putl, putl_eq vs (cs.set off v) (off + 1) (by simp; omega)]
    have h1 : (cs.set off v).take (off + 1) = cs.take off ++ [v] := by
      rw [List.take_succ_eq_append_getElem (by simp; omega), List.take_set_of_le (Nat.le_refl _)]
      simp
    have h2 : (cs.set off v).drop (off + 1 + vs.length) = cs.drop (off + (v :: vs).length) := by
      rw [List.drop_set_of_lt (by omega)]
      simp only [List.length_cons]
      congr 1; omega
    rw [h1, h2]
    simp
theorem putl_all {cs vs : List V} (h : cs.length = vs.length) : putl cs 0 vs = vs := by
  rw [putl_eq vs cs 0 (by omega)]; simp [← h]
theorem putl_head {a : V} {cs vs : List V} (h : cs.length = vs.length) : putl (a :: cs) 1 vs = a :: vs := by
  rw [putl_eq vs (a :: cs) 1 (by simp only [List.length_cons]; omega)]
  have : (a :: cs).drop (1 + vs.length) = [] := List.drop_eq_nil_of_le (by simp only [List.length_cons]; omega)
  rw [this]
  simp
theorem putl_nil {cs : List V} {off : Nat} : putl cs off [] = cs := rfl
theorem putl_one {cs : List V} {off : Nat} {v : V} : putl cs off [v] = cs.set off v := rfl

/-- A loop that counts up, with a part of the state left open. -/
theorem wp_forI {P : Program} {ro : Bool} {Q : Ex → St → Prop} {s : St} {b : MC} (n : Nat) (I : Nat → St → Prop) (h0 : I 0 s) (hstep : ∀ k s, k < n → I k s → b.wp P ro (thenE (fun s' => I (k + 1) s') Q) s) (hend : ∀ s, I n s → b.wp P ro (thenE (fun _ => False) Q) s) : MC.wp P ro (.loop b) Q s := by
  refine ⟨fun j s' => j ≤ n ∧ I (n - j) s', n, ⟨Nat.le_refl _, by simpa using h0⟩, ?_⟩
  rintro j s' ⟨hj, hI⟩
  rcases Nat.eq_zero_or_pos j with h | h
  · subst h
    simp only [Nat.sub_zero] at hI
    refine wp_mono_ _ _ _ _ (fun e s hq => ?_) (hend _ hI)
    cases e <;> simp_all [thenE]
  · refine wp_mono_ _ _ _ _ (fun e s hq => ?_) (hstep (n - j) s' (by omega) hI)
    cases e with
    | n => simp only [thenE] at *; exact ⟨j - 1, by omega, by omega, by rw [show n - (j - 1) = n - j + 1 by omega]; exact hq⟩
    | x id => exact hq
    | r => exact hq

/-- A loop that may be left early: from round k on it answers by what the rounds from k on show. -/
theorem wp_forR {P : Program} {ro : Bool} {Q : Ex → St → Prop} {b : MC} (n : Nat) (S : Nat → St) (good : Nat → Prop) (hstep : ∀ k, k < n → good k → b.wp P ro (thenE (fun s' => s' = S (k + 1)) Q) (S k)) (hbad : ∀ k, k < n → ¬ good k → (∀ j, j < k → good j) → b.wp P ro (thenE (fun _ => False) Q) (S k))
    (hend : (∀ k, k < n → good k) → b.wp P ro (thenE (fun _ => False) Q) (S n)) : MC.wp P ro (.loop b) Q (S 0) := by
  refine ⟨fun j s' => j ≤ n ∧ s' = S (n - j) ∧ ∀ i, i < n - j → good i, n, ⟨Nat.le_refl _, by simp, fun i hi => by omega⟩, ?_⟩
  rintro j s' ⟨hj, rfl, hg⟩
  rcases Nat.eq_zero_or_pos j with h | h
  · subst h
    simp only [Nat.sub_zero] at *
    refine wp_mono_ _ _ _ _ (fun e s hq => ?_) (hend hg)
    cases e <;> simp_all [thenE]
  · by_cases hk : good (n - j)
    · refine wp_mono_ _ _ _ _ (fun e s hq => ?_) (hstep (n - j) (by omega) hk)
      cases e with
      | n =>
        simp only [thenE] at *
        refine ⟨j - 1, by omega, by omega, ?_, fun i hi => ?_⟩
        · rw [hq]; congr 1; omega
        · by_cases e : i = n - j
          · subst e; exact hk
          · exact hg i (by omega)
      | x id => exact hq
      | r => exact hq
    · refine wp_mono_ _ _ _ _ (fun e s hq => ?_) (hbad (n - j) (by omega) hk hg)
      cases e <;> simp_all [thenE]

/-- A byte's cells. -/
def byt (n : Nat) (f : Nat → Int) : List V := tab n fun i => .int .u8 (f i)
@[simp] theorem byt_len {n : Nat} {f : Nat → Int} : (byt n f).length = n := by simp [byt]
@[simp] theorem byt_pu {n : Nat} {f : Nat → Int} : puL (byt n f) := by simp [byt]
theorem byt_get {n k : Nat} {f : Nat → Int} (h : k < n) : (byt n f)[k]? = some (.int .u8 (f k)) := tab_get h
@[simp] theorem byt_getElem {n k : Nat} {f : Nat → Int} (h : k < (byt n f).length) : (byt n f)[k] = .int .u8 (f k) := by
  have := byt_get (f := f) (show k < n by simpa using h)
  rw [List.getElem?_eq_getElem h] at this; exact Option.some.inj this
@[simp] theorem byt_take {n : Nat} {f : Nat → Int} : (byt n f).take n = byt n f := tab_take
theorem byt_set {n k : Nat} {f : Nat → Int} {x : Int} : (byt n f).set k (.int .u8 x) = byt n fun i => if i = k then x else f i := by
  rw [byt, tab_set]; refine tab_congr fun i _ => ?_; by_cases h : i = k <;> simp [h]
theorem byt_congr {n : Nat} {f g : Nat → Int} (h : ∀ i, i < n → f i = g i) : byt n f = byt n g := tab_congr fun i hi => by rw [h i hi]
theorem byt_zero {n : Nat} : rl [(n, .int .u8 0)] = byt n fun _ => 0 := rl_one
/-- A layer's cells; a layer. -/
def layC (p : Int) (f : Nat → Int) : List V := .int .i8 p :: byt 64 f
abbrev lay (p : Int) (f : Nat → Int) : V := .agg (layC p f)
@[simp] theorem layC_pu {p : Int} {f : Nat → Int} : puL (layC p f) := by simp [layC]
@[simp] theorem layC_len {p : Int} {f : Nat → Int} : (layC p f).length = 65 := by simp [layC]
@[simp] theorem layC_take {p : Int} {f : Nat → Int} : (layC p f).take 65 = layC p f := List.take_of_length_le (by simp)
@[simp] theorem byt_eo {n m : Nat} {f : Nat → Int} : eoL m (byt n f) := puL.eo _ byt_pu
@[simp] theorem byt_ren {n : Nat} {g : Nm → Nm} {f : Nat → Int} : renL g (byt n f) = byt n f := puL.ren _ byt_pu
@[simp] theorem layC_eo {m : Nat} {p : Int} {f : Nat → Int} : eoL m (layC p f) := puL.eo _ layC_pu
@[simp] theorem layC_ren {g : Nm → Nm} {p : Int} {f : Nat → Int} : renL g (layC p f) = layC p f := puL.ren _ layC_pu
theorem layC_zero : rl [(1, .int .i8 0), (64, .int .u8 0)] = layC 0 fun _ => 0 := by rw [rl_two]; rfl
theorem layC_eq {p : Int} {f : Nat → Int} : layC p f = .int .i8 p :: byt 64 f := rfl
end Go.Ab
