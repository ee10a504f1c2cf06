/- A part of the proof library: names for blocks of memory, a small form of the code, and rules for walks over it. -/
import Derived.Test.YtpajbcifaicpoaaDoorAb23
set_option linter.all false
namespace Go.Ab

/-- Rows of cells, one behind the other. -/
def rows (n : Nat) (g : Nat → List V) : List V := (List.range n).flatMap g
section
variable {n m : Nat} {g : Nat → List V}
theorem rows_zero : rows 0 g = [] := rfl
theorem rows_succ : rows (n + 1) g = rows n g ++ g n := by simp [rows, List.range_succ]
theorem rows_len (hg : ∀ i, i < n → (g i).length = m) : (rows n g).length = n * m := by
  induction n with
  | zero => simp [rows]
  | succ n ih => rw [rows_succ, List.length_append, ih (fun i hi => hg i (by omega)), hg n (by omega), Nat.succ_mul]
theorem rows_drop (hg : ∀ i, i < n → (g i).length = m) {k : Nat} (hk : k ≤ n) : (rows n g).drop (k * m) = (List.range' k (n - k)).flatMap g := by
  induction n with
  | zero => have : k = 0 := by omega
            subst this; simp [rows]
  | succ n ih =>
    rw [rows_succ]
    have hl := rows_len (n := n) (fun i hi => hg i (by omega))
    rcases Nat.lt_or_ge n k with h | h
    · have : k = n + 1 := by omega
      subst this
      rw [List.drop_eq_nil_of_le (by rw [List.length_append, hl, hg n (by omega), Nat.succ_mul]; omega)]
      simp
    · have hle : k * m ≤ n * m := Nat.mul_le_mul_right _ h
      rw [List.drop_append_of_le_length (by rw [hl]; exact hle), ih (fun i hi => hg i (by omega)) h, show n + 1 - k = (n - k) + 1 by omega, List.range'_concat]
      simp
      congr 1
      omega
theorem rows_at (hg : ∀ i, i < n → (g i).length = m) {k : Nat} (hk : k < n) : ((rows n g).drop (k * m)).take m = g k := by
  rw [rows_drop hg (by omega), show n - k = (n - k - 1) + 1 by omega, List.range'_succ]
  simp only [List.flatMap_cons]
  rw [List.take_append_of_le_length (by rw [hg k hk]; exact Nat.le_refl _)]
  exact List.take_of_length_le (by rw [hg k hk]; exact Nat.le_refl _)
theorem rows_get (hg : ∀ i, i < n → (g i).length = m) {k j : Nat} (hk : k < n) (hj : j < m) : (rows n g)[k * m + j]? = (g k)[j]? := by
  have h := congrArg (fun l => l[j]?) (rows_at hg hk)
  simp only [List.getElem?_take_of_lt hj, List.getElem?_drop] at h
  exact h
theorem rows_pu (h : ∀ i, puL (g i)) : puL (rows n g) := by
  rw [puL_iff]
  intro v hv
  simp only [rows, List.mem_flatMap] at hv
  obtain ⟨i, _, hi⟩ := hv
  exact (puL_iff _).1 (h i) v hi
theorem rows_one (h : ∀ i, ∀ v ∈ g i, V.one v = true) : ∀ v ∈ rows n g, V.one v = true := by
  intro v hv
  simp only [rows, List.mem_flatMap] at hv
  obtain ⟨i, _, hi⟩ := hv
  exact h i v hi
theorem rows_congr {g' : Nat → List V} (h : ∀ i, i < n → g i = g' i) : rows n g = rows n g' := by
  induction n with
  | zero => rfl
  | succ n ih => rw [rows_succ, rows_succ, ih (fun i hi => h i (by omega)), h n (by omega)]
theorem rows_put (hg : ∀ i, i < n → (g i).length = m) {k : Nat} (hk : k < n) {c : List V} (hc : c.length = m) : putl (rows n g) (k * m) c = rows n fun i => if i = k then c else g i := by
  have hl := rows_len hg
  have hkm : (k + 1) * m ≤ n * m := Nat.mul_le_mul_right _ hk
  have hlen : k * m + c.length ≤ (rows n g).length := by rw [hl, hc]; rw [Nat.succ_mul] at hkm; exact hkm
  rw [putl_eq _ _ _ hlen, hc]
  have hd := rows_drop hg (k := k + 1) (by omega)
  rw [show k * m + m = (k + 1) * m by rw [Nat.succ_mul], hd]
  have hr : rows n (fun i => if i = k then c else g i) = (List.range k).flatMap g ++ (c ++ (List.range' (k + 1) (n - (k + 1))).flatMap g) := by
    have : List.range n = List.range k ++ (k :: List.range' (k + 1) (n - (k + 1))) := by
      rw [List.range_eq_range', List.range_eq_range', ← List.range'_succ, show n = k + (n - (k + 1) + 1) by omega, ← List.range'_append_1 (s := 0)]
      simp
      omega
    simp only [rows, this, List.flatMap_append, List.flatMap_cons, if_pos]
    have h1 : ∀ l : List Nat, (∀ i ∈ l, i ≠ k) → (l.flatMap fun i => if i = k then c else g i) = l.flatMap g := fun l hl => by
      induction l with
      | nil => rfl
      | cons a l ih => simp only [List.flatMap_cons, if_neg (hl a (by simp)), ih (fun i hi => hl i (by simp [hi]))]
    rw [h1 _ (fun i hi => by simp at hi; omega), h1 _ (fun i hi => by simp [List.mem_range'] at hi; omega)]
  rw [hr]
  congr 1
  have : rows n g = rows k g ++ (rows n g).drop (k * m) := by
    rw [rows_drop hg (by omega)]
    have : List.range n = List.range k ++ List.range' k (n - k) := by
      rw [List.range_eq_range', List.range_eq_range', show n = k + (n - k) by omega, ← List.range'_append_1 (s := 0)]
      simp
    simp only [rows, this, List.flatMap_append]
  rw [this, List.take_append_of_le_length (by rw [rows_len (fun i hi => hg i (by omega))]; exact Nat.le_refl _), List.take_of_length_le (by rw [rows_len (fun i hi => hg i (by omega))]; exact Nat.le_refl _)]
  rfl
end
@[simp] theorem zrow_len {z : List V} {n : Nat} : (zrow z n).length = n * z.length := by simp [zrow]
/-- Two rows of one length, put into their zeros. -/
theorem put_two {Z a b : List V} {m : Nat} (hZ : Z.length = 2 * m) (ha : a.length = m) (hb : b.length = m) : putl (putl Z 0 a) m b = a ++ b := by
  have h1 : putl Z 0 a = a ++ Z.drop m := by rw [putl_eq _ _ _ (by omega)]; simp [ha]
  rw [h1, putl_eq _ _ _ (by simp; omega), hb]
  simp [ha]
  omega
theorem put_one {Z a : List V} (h : Z.length = a.length) : putl Z 0 a = a := putl_all h
end Go.Ab
