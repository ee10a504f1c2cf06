/- A part of the proof library: names for blocks of memory, a small form of the code, and rules for walks over it. -/
import Derived.Test.YtpajbcifaicpoaaDoorAb20
set_option linter.all false
namespace Go.Ab

/-- n cells, told by a function. -/
def tab (n : Nat) (F : Nat → V) : List V := (List.range n).map F

@[simp] theorem tab_length (n : Nat) (F : Nat → V) : (tab n F).length = n := by simp [tab]
theorem tab_get {n k : Nat} {F : Nat → V} (h : k < n) : (tab n F)[k]? = some (F k) := by simp [tab, h]
theorem tab_get' {n k : Nat} {F : Nat → V} : (tab n F)[k]? = if k < n then some (F k) else none := by
  by_cases h : k < n
  · rw [tab_get h, if_pos h]
  · rw [if_neg h, List.getElem?_eq_none (by simp; omega)]
@[simp] theorem tab_getElem {n k : Nat} {F : Nat → V} (h : k < (tab n F).length) : (tab n F)[k] = F k := by
  have := tab_get (F := F) (show k < n by simpa using h)
  rw [List.getElem?_eq_getElem h] at this; exact Option.some.inj this
theorem tab_set {n k : Nat} {F : Nat → V} {v : V} : (tab n F).set k v = tab n (fun i => if i = k then v else F i) := by
  apply List.ext_getElem?
  intro i
  rw [tab_get', List.getElem?_set, tab_get', tab_length]
  by_cases h : k = i
  · subst h; by_cases h2 : k < n <;> simp [h2]
  · rw [if_neg h]
    by_cases h2 : i < n
    · rw [if_pos h2, if_pos h2, if_neg (fun e : i = k => h e.symm)]
    · simp [h2]
theorem tab_congr {n : Nat} {F G : Nat → V} (h : ∀ i, i < n → F i = G i) : tab n F = tab n G := by
  apply List.ext_getElem?
  intro i
  rw [tab_get', tab_get']
  by_cases h2 : i < n
  · simp [h2, h i h2]
  · simp [h2]
theorem tab_inj {n : Nat} {F G : Nat → V} (h : tab n F = tab n G) : ∀ i, i < n → F i = G i := fun i hi => by
  have := congrArg (fun l : List V => l[i]?) h
  simp only [tab_get', hi, if_true] at this
  exact Option.some.inj this
theorem rl_one {n : Nat} {v : V} : rl [(n, v)] = tab n fun _ => v := by
  simp only [rl, List.append_nil]
  apply List.ext_getElem?
  intro i
  rw [tab_get', List.getElem?_replicate]
theorem rl_two {n : Nat} {u v : V} : rl [(1, u), (n, v)] = u :: tab n fun _ => v := by
  rw [← rl_one]; simp [rl]
theorem tab_puL {n : Nat} {F : Nat → V} (h : ∀ i, (F i).pu) : puL (tab n F) := by
  rw [puL_iff]; intro v hv; simp only [tab, List.mem_map] at hv; obtain ⟨i, _, rfl⟩ := hv; exact h i
@[simp] theorem tab_puL_int {n : Nat} {k : IntKind} {f : Nat → Int} : puL (tab n fun i => .int k (f i)) := tab_puL fun _ => by simp
theorem tab_mem {n : Nat} {F : Nat → V} {v : V} (h : v ∈ tab n F) : ∃ i, i < n ∧ v = F i := by
  simp only [tab, List.mem_map, List.mem_range] at h; obtain ⟨i, h1, rfl⟩ := h; exact ⟨i, h1, rfl⟩
theorem tab_drop0 {n : Nat} {F : Nat → V} : (tab n F).take n = tab n F := List.take_of_length_le (by simp)
@[simp] theorem tab_take {n : Nat} {F : Nat → V} : (tab n F).take n = tab n F := tab_drop0
theorem get_cons1 {a : V} {l : List V} {k : Nat} : (a :: l)[1 + k]? = l[k]? := by rw [Nat.add_comm]; rfl
theorem set_cons1 {a v : V} {l : List V} {k : Nat} : (a :: l).set (1 + k) v = a :: l.set k v := by rw [Nat.add_comm]; rfl

theorem putl_eq : ∀ (vs cs : List V) (off : Nat), off + vs.length ≤ cs.length → putl cs off vs = cs.take off ++ (vs ++ cs.drop (off + vs.length))
  | [], cs, off, h => by simp [putl]
  | v :: vs, cs, off, h => by
    simp only [List.length_cons] at h
    rw [putl, putl_eq vs (cs.set off v) (off + 1) (by simp; omega)]
    have h1 : (cs.set off v).take (off + 1) = cs.take off ++ [v] := by
      rw [List.take_succ_eq_append_getElem (by simp; omega), List.take_set_of_le (Nat.le_refl _)]
      simp
    have h2 : (cs.set off v).drop (off + 1 + vs.length) = cs.drop (off + (v :: vs).length) := by
      rw [List.drop_set_of_lt (by omega)]
      simp only [List.length_cons]
      congr 1; omega
    rw [h1, h2]
    simp
theorem putl_all {cs vs : List V} (h : cs.length = vs.length) : putl cs 0 vs = vs := by
  rw [putl_eq vs cs 0 (by omega)]; simp [← h]
theorem putl_head {a : V} {cs vs : List V} (h : cs.length = vs.length) : putl (a :: cs) 1 vs = a :: vs := by
  rw [putl_eq vs (a :: cs) 1 (by simp only [List.length_cons]; omega)]
  have : (a :: cs).drop (1 + vs.length) = [] := List.drop_eq_nil_of_le (by simp only [List.length_cons]; omega)
  rw [this]
  simp
theorem putl_nil {cs : List V} {off : Nat} : putl cs off [] = cs := rfl
theorem putl_one {cs : List V} {off : Nat} {v : V} : putl cs off [v] = cs.set off v := rfl

/-- A loop that counts up, with a part of the state left open. -/
theorem wp_forI {P : Program} {ro : Bool} {Q : Ex → St → Prop} {s : St} {b : MC} (n : Nat) (I : Nat → St → Prop) (h0 : I 0 s) (hstep : ∀ k s, k < n → I k s → b.wp P ro (thenE (fun s' => I (k + 1) s') Q) s) (hend : ∀ s, I n s → b.wp P ro (thenE (fun _ => False) Q) s) : MC.wp P ro (.loop b) Q s := by
  refine ⟨fun j s' => j ≤ n ∧ I (n - j) s', n, ⟨Nat.le_refl _, by simpa using h0⟩, ?_⟩
  rintro j s' ⟨hj, hI⟩
  rcases Nat.eq_zero_or_pos j with h | h
  · subst h
    simp only [Nat.sub_zero] at hI
    refine wp_mono_ _ _ _ _ (fun e s hq => ?_) (hend _ hI)
    cases e <;> simp_all [thenE]
  · refine wp_mono_ _ _ _ _ (fun e s hq => ?_) (hstep (n - j) s' (by omega) hI)
    cases e with
    | n => simp only [thenE] at *; exact ⟨j - 1, by omega, by omega, by rw [show n - (j - 1) = n - j + 1 by omega]; exact hq⟩
    | x id => exact hq
    | r => exact hq

/-- A loop that may be left early: from round k on it answers by what the rounds from k on show. -/
theorem wp_forR {P : Program} {ro : Bool} {Q : Ex → St → Prop} {b : MC} (n : Nat) (S : Nat → St) (good : Nat → Prop) (hstep : ∀ k, k < n → good k → b.wp P ro (thenE (fun s' => s' = S (k + 1)) Q) (S k)) (hbad : ∀ k, k < n → ¬ good k → (∀ j, j < k → good j) → b.wp P ro (thenE (fun _ => False) Q) (S k))
    (hend : (∀ k, k < n → good k) → b.wp P ro (thenE (fun _ => False) Q) (S n)) : MC.wp P ro (.loop b) Q (S 0) := by
  refine ⟨fun j s' => j ≤ n ∧ s' = S (n - j) ∧ ∀ i, i < n - j → good i, n, ⟨Nat.le_refl _, by simp, fun i hi => by omega⟩, ?_⟩
  rintro j s' ⟨hj, rfl, hg⟩
  rcases Nat.eq_zero_or_pos j with h | h
  · subst h
    simp only [Nat.sub_zero] at *
    refine wp_mono_ _ _ _ _ (fun e s hq => ?_) (hend hg)
    cases e <;> simp_all [thenE]
  · by_cases hk : good (n - j)
    · refine wp_mono_ _ _ _ _ (fun e s hq => ?_) (hstep (n - j) (by omega) hk)
      cases e with
      | n =>
        simp only [thenE] at *
        refine ⟨j - 1, by omega, by omega, ?_, fun i hi => ?_⟩
        · rw [hq]; congr 1; omega
        · by_cases e : i = n - j
          · subst e; exact hk
          · exact hg i (by omega)
      | x id => exact hq
      | r => exact hq
    · refine wp_mono_ _ _ _ _ (fun e s hq => ?_) (hbad (n - j) (by omega) hk hg)
      cases e <;> simp_all [thenE]

@[simp] theorem nat_neg {k : Nat} : ((k : Int) < 0) = False := by simp

/-- A loop whose rounds are told, and where it ends. -/
theorem wp_rounds {P : Program} {ro : Bool} {Q : Ex → St → Prop} {b : MC} {s : St} (n : Nat) (S : Nat → St) (stop : Nat → Prop) (h0 : s = S 0) (hstep : ∀ k, k < n → ¬ stop k → b.wp P ro (thenE (fun s' => s' = S (k + 1)) Q) (S k)) (hstop : ∀ k, k ≤ n → stop k → b.wp P ro (thenE (fun _ => False) Q) (S k)) (hn : stop n) : MC.wp P ro (.loop b) Q s := by
  subst h0
  refine ⟨fun j s' => j ≤ n ∧ s' = S (n - j), n, ⟨Nat.le_refl _, by simp⟩, ?_⟩
  rintro j s' ⟨hj, rfl⟩
  by_cases hs : stop (n - j)
  · refine wp_mono_ _ _ _ _ (fun e s hq => ?_) (hstop (n - j) (by omega) hs)
    cases e <;> simp_all [thenE]
  · have hj0 : j ≠ 0 := fun h => by subst h; exact hs (by simpa using hn)
    refine wp_mono_ _ _ _ _ (fun e s hq => ?_) (hstep (n - j) (by omega) hs)
    cases e with
    | n =>
      simp only [thenE] at *
      refine ⟨j - 1, by omega, by omega, ?_⟩
      rw [hq]; congr 1; omega
    | x id => exact hq
    | r => exact hq

/-- A row of numbers. -/
def arr (k : IntKind) (n : Nat) (F : Nat → Int) : List V := tab n fun i => .int k (F i)
section
variable {k : IntKind} {n m : Nat} {F G : Nat → Int}
@[simp] theorem arr_len : (arr k n F).length = n := by simp [arr]
@[simp] theorem arr_pu : puL (arr k n F) := tab_puL fun _ => by simp
theorem arr_get {i : Nat} (h : i < n) : (arr k n F)[i]? = some (.int k (F i)) := tab_get h
@[simp] theorem arr_getElem {i : Nat} (h : i < (arr k n F).length) : (arr k n F)[i] = .int k (F i) := by
  have := arr_get (F := F) (k := k) (show i < n by simpa using h)
  rw [List.getElem?_eq_getElem h] at this; exact Option.some.inj this
@[simp] theorem arr_take : (arr k n F).take n = arr k n F := tab_take
theorem arr_set {i : Nat} {x : Int} : (arr k n F).set i (.int k x) = arr k n fun j => if j = i then x else F j := by
  rw [arr, tab_set]; refine tab_congr fun j _ => ?_; by_cases h : j = i <;> simp [h]
theorem arr_congr (h : ∀ i, i < n → F i = G i) : arr k n F = arr k n G := tab_congr fun i hi => by rw [h i hi]
theorem arr_zero : rl [(n, .int k 0)] = arr k n fun _ => 0 := rl_one
@[simp] theorem arr_eo : eoL m (arr k n F) := puL.eo _ arr_pu
@[simp] theorem arr_lt : ltL m (arr k n F) := puL.lt _ arr_pu
@[simp] theorem arr_ren {g : Nm → Nm} : renL g (arr k n F) = arr k n F := puL.ren _ arr_pu
@[simp] theorem arr_one : (∀ v, v ∈ arr k n F → V.one v = true) ↔ True := iff_true_intro fun v hv => by
  obtain ⟨i, _, rfl⟩ := tab_mem hv; rfl
@[simp] theorem putl_arr : putl (arr k n F) 0 (arr k n G) = arr k n G := putl_all (by simp)
end

/-- A row of bytes. -/
def byt (n : Nat) (f : Nat → Nat) : List V := tab n fun i => .int .u8 (f i)
@[simp] theorem byt_len {n : Nat} {f : Nat → Nat} : (byt n f).length = n := by simp [byt]
@[simp] theorem byt_pu {n : Nat} {f : Nat → Nat} : puL (byt n f) := tab_puL fun _ => by simp
theorem byt_get {n k : Nat} {f : Nat → Nat} (h : k < n) : (byt n f)[k]? = some (.int .u8 (f k)) := tab_get h
@[simp] theorem byt_getElem {n k : Nat} {f : Nat → Nat} (h : k < (byt n f).length) : (byt n f)[k] = .int .u8 (f k) := by
  have := byt_get (f := f) (show k < n by simpa using h)
  rw [List.getElem?_eq_getElem h] at this; exact Option.some.inj this
@[simp] theorem byt_take {n : Nat} {f : Nat → Nat} : (byt n f).take n = byt n f := tab_take
theorem byt_set {n k : Nat} {f : Nat → Nat} {x : Nat} : (byt n f).set k (.int .u8 x) = byt n fun i => if i = k then x else f i := by
  rw [byt, tab_set]; refine tab_congr fun i _ => ?_; by_cases h : i = k <;> simp [h]
theorem byt_set0 {n k : Nat} {f : Nat → Nat} : (byt n f).set k (.int .u8 0) = byt n fun i => if i = k then 0 else f i := byt_set (x := 0)
theorem byt_congr {n : Nat} {f g : Nat → Nat} (h : ∀ i, i < n → f i = g i) : byt n f = byt n g := tab_congr fun i hi => by rw [h i hi]
theorem byt_inj {n : Nat} {f g : Nat → Nat} (h : byt n f = byt n g) : ∀ i, i < n → f i = g i := fun i hi => by
  have := tab_inj h i hi
  simp at this
  omega
theorem byt_zero {n : Nat} : rl [(n, .int .u8 0)] = byt n fun _ => 0 := rl_one
@[simp] theorem byt_eo {n m : Nat} {f : Nat → Nat} : eoL m (byt n f) := puL.eo _ byt_pu
@[simp] theorem byt_ren {n : Nat} {g : Nm → Nm} {f : Nat → Nat} : renL g (byt n f) = byt n f := puL.ren _ byt_pu
@[simp] theorem byt_one {n : Nat} {f : Nat → Nat} : (∀ v, v ∈ byt n f → V.one v = true) ↔ True := iff_true_intro fun v hv => by
  obtain ⟨i, _, rfl⟩ := tab_mem hv; rfl
@[simp] theorem byt_lt {n m : Nat} {f : Nat → Nat} : ltL m (byt n f) := puL.lt _ byt_pu
theorem byt_append_take {n m : Nat} {f : Nat → Nat} {l : List V} (h : n = m) : (byt n f ++ l).take m = byt n f := by subst h; rw [List.take_append_of_le_length (by simp)]; simp
theorem byt_append_drop {n m : Nat} {f : Nat → Nat} {l : List V} (h : n = m) : (byt n f ++ l).drop m = l := by subst h; exact List.drop_left' (by simp)

/-- A layer's cells; a layer. -/
def layC (p : Int) (f : Nat → Nat) : List V := .int .i8 p :: byt 64 f
abbrev lay (p : Int) (f : Nat → Nat) : V := .agg (layC p f)
@[simp] theorem layC_pu {p : Int} {f : Nat → Nat} : puL (layC p f) := by simp [layC]
@[simp] theorem layC_len {p : Int} {f : Nat → Nat} : (layC p f).length = 65 := by simp [layC]
@[simp] theorem layC_take {p : Int} {f : Nat → Nat} : (layC p f).take 65 = layC p f := List.take_of_length_le (by simp)
@[simp] theorem layC_eo {m : Nat} {p : Int} {f : Nat → Nat} : eoL m (layC p f) := puL.eo _ layC_pu
@[simp] theorem layC_ren {g : Nm → Nm} {p : Int} {f : Nat → Nat} : renL g (layC p f) = layC p f := puL.ren _ layC_pu
@[simp] theorem layC_one {p : Int} {f : Nat → Nat} : (∀ v, v ∈ layC p f → V.one v = true) ↔ True := iff_true_intro fun v hv => by
  rw [layC, List.mem_cons] at hv
  rcases hv with rfl | hv
  · rfl
  · exact byt_one.2 trivial v hv
@[simp] theorem layC_set0 {p q : Int} {f : Nat → Nat} : (layC p f).set 0 (.int .i8 q) = layC q f := rfl
@[simp] theorem layC_drop1 {p : Int} {f : Nat → Nat} : (layC p f).drop 1 = byt 64 f := rfl
@[simp] theorem layC_tail {p : Int} {f : Nat → Nat} : (layC p f).tail = byt 64 f := rfl
@[simp] theorem layC_put {p : Int} {f g : Nat → Nat} : putl (layC p f) 1 (byt 64 g) = layC p g := by rw [layC, putl_head (by simp)]; rfl
@[simp] theorem layC_lt {m : Nat} {p : Int} {f : Nat → Nat} : ltL m (layC p f) := puL.lt _ layC_pu
theorem layC_zero : rl [(1, .int .i8 0), (64, .int .u8 0)] = layC 0 fun _ => 0 := by rw [rl_two]; rfl
theorem layC_eq {p : Int} {f : Nat → Nat} : layC p f = .int .i8 p :: byt 64 f := rfl
@[simp] theorem layC_g0 {p : Int} {f : Nat → Nat} {h : 0 < (layC p f).length} : (layC p f)[0] = .int .i8 p := rfl
theorem layC_f {p : Int} {f : Nat → Nat} {k : Nat} (h : k < 64) : (layC p f)[1 + k]? = some (.int .u8 (f k)) := by rw [layC, get_cons1, byt_get h]
theorem layC_set {p : Int} {f : Nat → Nat} {k x : Nat} : (layC p f).set (1 + k) (.int .u8 x) = layC p (fun i => if i = k then x else f i) := by rw [layC, set_cons1, byt_set]; rfl
theorem layC_congr {p : Int} {f g : Nat → Nat} (h : ∀ i, i < 64 → f i = g i) : layC p f = layC p g := by rw [layC, byt_congr h, layC]

/-- A scheme's cells; a scheme. -/
def schC (s p : Int) (w b : Nat → Nat) : List V := .int .i8 s :: .int .i8 p :: (byt 6 w ++ byt 6 b)
abbrev sch (s p : Int) (w b : Nat → Nat) : V := .agg (schC s p w b)
section
variable {s p : Int} {w b : Nat → Nat}
@[simp] theorem schC_pu : puL (schC s p w b) := by simp [schC, puL_append]
@[simp] theorem schC_len : (schC s p w b).length = 14 := by simp [schC]
@[simp] theorem schC_take : (schC s p w b).take 14 = schC s p w b := List.take_of_length_le (by simp)
@[simp] theorem schC_eo {m : Nat} : eoL m (schC s p w b) := puL.eo _ schC_pu
@[simp] theorem schC_ren {g : Nm → Nm} : renL g (schC s p w b) = schC s p w b := puL.ren _ schC_pu
@[simp] theorem schC_g0 {h : 0 < (schC s p w b).length} : (schC s p w b)[0] = .int .i8 s := rfl
@[simp] theorem schC_g1 {h : 1 < (schC s p w b).length} : (schC s p w b)[1] = .int .i8 p := rfl
theorem schC_w {k : Nat} (h : k < 6) : (schC s p w b)[2 + k]? = some (.int .u8 (w k)) := by
  rw [schC, show 2 + k = k + 1 + 1 by omega, List.getElem?_cons_succ, List.getElem?_cons_succ, List.getElem?_append_left (by simpa using h), byt_get h]
theorem schC_b {k : Nat} (h : k < 6) : (schC s p w b)[8 + k]? = some (.int .u8 (b k)) := by
  rw [schC, show 8 + k = 6 + k + 1 + 1 by omega, List.getElem?_cons_succ, List.getElem?_cons_succ, List.getElem?_append_right (by simp), byt_len, show 6 + k - 6 = k by omega, byt_get h]
theorem schC_setw {k : Nat} (h : k < 6) {x : Nat} : (schC s p w b).set (2 + k) (.int .u8 x) = schC s p (fun i => if i = k then x else w i) b := by
  rw [schC, show 2 + k = k + 1 + 1 by omega, List.set_cons_succ, List.set_cons_succ, List.set_append_left _ _ (by simpa using h), byt_set]; rfl
theorem schC_setb {k : Nat} {x : Nat} : (schC s p w b).set (8 + k) (.int .u8 x) = schC s p w (fun i => if i = k then x else b i) := by
  rw [schC, show 8 + k = 6 + k + 1 + 1 by omega, List.set_cons_succ, List.set_cons_succ, List.set_append_right _ _ (by simp), byt_len, show 6 + k - 6 = k by omega, byt_set]; rfl
theorem schC_congr {w' b' : Nat → Nat} (h1 : ∀ i, i < 6 → w i = w' i) (h2 : ∀ i, i < 6 → b i = b' i) : schC s p w b = schC s p w' b' := by rw [schC, byt_congr h1, byt_congr h2, schC]
@[simp] theorem schC_one : (∀ v, v ∈ schC s p w b → V.one v = true) ↔ True := iff_true_intro fun v hv => by
  rw [schC, List.mem_cons, List.mem_cons, List.mem_append] at hv
  rcases hv with rfl | rfl | hv | hv
  · rfl
  · rfl
  · exact byt_one.2 trivial v hv
  · exact byt_one.2 trivial v hv
@[simp] theorem schC_set0 {q : Int} : (schC s p w b).set 0 (.int .i8 q) = schC q p w b := rfl
@[simp] theorem schC_set1 {q : Int} : (schC s p w b).set 1 (.int .i8 q) = schC s q w b := rfl
@[simp] theorem schC_dw : ((schC s p w b).drop 2).take 6 = byt 6 w := by rw [schC]; exact byt_append_take rfl
@[simp] theorem schC_db : ((schC s p w b).drop 8).take 6 = byt 6 b := by
  rw [schC, show 8 = 6 + 1 + 1 from rfl, List.drop_succ_cons, List.drop_succ_cons, byt_append_drop rfl]; simp
@[simp] theorem schC_pw {w' : Nat → Nat} : putl (schC s p w b) 2 (byt 6 w') = schC s p w' b := by
  rw [putl_eq _ _ _ (by simp)]; rfl
@[simp] theorem schC_pb {b' : Nat → Nat} : putl (schC s p w b) 8 (byt 6 b') = schC s p w b' := by
  rw [putl_eq _ _ _ (by simp)]; rfl
@[simp] theorem schC_lt {m : Nat} : ltL m (schC s p w b) := puL.lt _ schC_pu
theorem schC_zero : rl [(2, .int .i8 0), (12, .int .u8 0)] = schC 0 0 (fun _ => 0) fun _ => 0 := by rfl
end

mutual
theorem V.eo.ren {n : Nat} {g : Nm → Nm} (hg : ∀ i, i < n → g (.e i) = .e i) : ∀ (v : V), v.eo n → v.ren g = v
  | .int .., _ => rfl
  | .bool _, _ => rfl
  | .str _, _ => rfl
  | .ptr (.e i) _, h => by simp only [V.eo] at h; simp only [V.ren, hg i h]
  | .ptr (.l _) _, h => by simp only [V.eo] at h
  | .nilptr, _ => rfl
  | .sl (.e i) _ _ _, h => by simp only [V.eo] at h; simp only [V.ren, hg i h]
  | .sl (.l _) _ _ _, h => by simp only [V.eo] at h
  | .nilsl, _ => rfl
  | .slx (.e i) _ _, h => by simp only [V.eo] at h; simp only [V.ren, hg i h]
  | .slx (.l _) _ _, h => by simp only [V.eo] at h
  | .fn _ a b, h => by simp only [V.eo] at h; simp only [V.ren, eoL.ren hg a h.1, eoL.ren hg b h.2]
  | .agg a, h => by simp only [V.eo] at h; simp only [V.ren, eoL.ren hg a h]
  | .tup a, h => by simp only [V.eo] at h; simp only [V.ren, eoL.ren hg a h]
  | .raw _, _ => rfl
theorem eoL.ren {n : Nat} {g : Nm → Nm} (hg : ∀ i, i < n → g (.e i) = .e i) : ∀ (l : List V), eoL n l → renL g l = l
  | [], _ => rfl
  | v :: l, h => by simp only [eoL] at h; simp only [renL, V.eo.ren hg v h.1, eoL.ren hg l h.2]
end

theorem setBlks_self : ∀ (sig : List Nm) (E : List (List V)) (s : St), (∀ (i : Nat) (n : Nm), sig[i]? = some n → ∃ c, E[i]? = some c ∧ s.blk n = some c) → s.setBlks sig E = s
  | [], _, s, _ => by simp [St.setBlks]
  | n :: sig, [], s, _ => by simp [St.setBlks]
  | n :: sig, c :: E, s, h => by
    obtain ⟨c', h1, h2⟩ := h 0 n rfl
    simp at h1; subst h1
    have : s.setBlk n c = s := by
      cases n with
      | e k =>
        simp only [St.setBlk, St.blk] at *
        obtain ⟨hlt, hv⟩ := List.getElem?_eq_some_iff.1 h2
        rw [show s.e.set k c = s.e by rw [← hv]; simp]
      | l k =>
        simp only [St.setBlk, St.blk] at *
        obtain ⟨hlt, hv⟩ := List.getElem?_eq_some_iff.1 h2
        rw [show s.m.set k c = s.m by rw [← hv]; simp]
    rw [St.setBlks, this]
    exact setBlks_self sig E s fun i m hi => by simpa using h (i + 1) m (by simpa using hi)

@[simp] theorem putl_sch {s p s' p' : Int} {w b w' b' : Nat → Nat} : putl (schC s p w b) 0 (schC s' p' w' b') = schC s' p' w' b' := putl_all (by simp)
@[simp] theorem putl_lay {p p' : Int} {f f' : Nat → Nat} : putl (layC p f) 0 (layC p' f') = layC p' f' := putl_all (by simp)
@[simp] theorem putl_byt {n : Nat} {f f' : Nat → Nat} : putl (byt n f) 0 (byt n f') = byt n f' := putl_all (by simp)

/-- A call in which all of the caller's own incoming blocks are handed on. -/
theorem call_all {P : Program} {ro : Bool} {f : FuncId} {args : List V} {E : List (List V)} {v : V} {s : St} {K : V → St → Prop} (h : ∀ ro, Ct P ro f args E fun v' E' L' => v' = v ∧ E' = E ∧ L' = []) (hE : s.e = E) (hp : ∀ c ∈ E, puL c) (ha : eoL E.length args) (hv : v.pu) (hK : K v s) : callWp P ro f args s K := by
  subst hE
  have hat : ∀ (i : Nat) (n : Nm), ((List.range s.e.length).map Nm.e)[i]? = some n → ∃ c, s.e[i]? = some c ∧ s.blk n = some c ∧ puL c := by
    intro i n hi
    simp only [List.getElem?_map, Option.map_eq_some_iff] at hi
    obtain ⟨j, hj, rfl⟩ := hi
    obtain ⟨hlt, hv⟩ := List.getElem?_eq_some_iff.1 hj
    simp at hlt hv
    subst hv
    exact ⟨s.e[i], by simp [hlt], by simp [St.blk, hlt], hp _ (List.getElem_mem hlt)⟩
  refine call_s ((List.range s.e.length).map Nm.e) h ⟨⟨?_, by simp, hat⟩, .inl (by simp [isE]), ?_, by simpa using ha, rfl, hp, hv⟩ ?_
  · exact List.Pairwise.map _ (fun a b hab hh => hab (by cases hh; rfl)) (List.nodup_range)
  · exact (eoL.ren (fun i hi => by simp [hi]) args ha).symm
  · rw [setBlks_self]
    · exact hK
    · intro i n hi
      obtain ⟨c, h1, h2, _⟩ := hat i n hi
      exact ⟨c, h1, h2⟩
end Go.Ab
