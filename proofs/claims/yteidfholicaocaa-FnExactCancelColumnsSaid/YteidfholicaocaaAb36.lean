/- A part of the proof library: names for blocks of memory, a small form of the code, and rules for walks over it. -/
import Derived.Test.YteidfholicaocaaAb30
set_option linter.all false
namespace Go.Ab

/-- Two neighbours exchanged. -/
def swpF (g : Nat → Nat) (j : Nat) : Nat → Nat := fun k => if k = j then g (j - 1) else if k = j - 1 then g j else g k
/-- The number at j goes down to its place. -/
def insF : Nat → (Nat → Nat) → Nat → Nat
  | 0, g => g
  | j + 1, g => if g (j + 1) < g j then insF j (swpF g (j + 1)) else g
/-- The first n numbers in order. -/
def srt : Nat → (Nat → Nat) → Nat → Nat
  | 0, g => g
  | k + 1, g => insF k (srt k g)
def Sd (n : Nat) (f : Nat → Nat) : Prop := ∀ a b, a < b → b < n → f a ≤ f b

theorem ins_sd {k : Nat} : ∀ (j : Nat) (g : Nat → Nat), j ≤ k → (∀ a b, a < b → b ≤ k → a ≠ j → b ≠ j → g a ≤ g b) → (∀ b, j < b → b ≤ k → g j ≤ g b) → ∀ a b, a < b → b ≤ k → insF j g a ≤ insF j g b
  | 0, g, _, h1, h2, a, b, hab, hb => by
    by_cases ha : a = 0
    · subst ha; exact h2 b hab hb
    · exact h1 a b hab hb ha (by omega)
  | j + 1, g, hj, h1, h2, a, b, hab, hb => by
    simp only [insF]
    split
    · rename_i hlt
      refine ins_sd j _ (by omega) ?_ ?_ a b hab hb
      · intro a b hab hb ha hb'
        simp only [swpF, Nat.add_sub_cancel]
        by_cases e1 : a = j + 1
        · subst e1
          rw [if_pos rfl, if_neg (by omega), if_neg (by omega)]
          exact h1 j b (by omega) hb (by omega) (by omega)
        · rw [if_neg e1, if_neg ha]
          by_cases e2 : b = j + 1
          · subst e2
            rw [if_pos rfl]
            exact h1 a j (by omega) (by omega) (by omega) (by omega)
          · rw [if_neg e2, if_neg hb']
            exact h1 a b hab hb e1 e2
      · intro b hb1 hb2
        have hlhs : swpF g (j + 1) j = g (j + 1) := by simp [swpF]
        rw [hlhs]
        simp only [swpF, Nat.add_sub_cancel]
        by_cases e2 : b = j + 1
        · subst e2; rw [if_pos rfl]; omega
        · rw [if_neg e2, if_neg (by omega)]
          exact h2 b (by omega) hb2
    · rename_i hge
      by_cases e1 : a = j + 1
      · subst e1; exact h2 b hab hb
      · by_cases e2 : b = j + 1
        · subst e2
          by_cases e3 : a = j
          · subst e3; omega
          · have := h1 a j (by omega) (by omega) e1 (by omega)
            omega
        · exact h1 a b hab hb e1 e2

theorem srt_sd (g : Nat → Nat) : ∀ n, Sd n (srt n g)
  | 0 => fun a b _ h => by omega
  | n + 1 => fun a b hab hb => ins_sd n (srt n g) (Nat.le_refl _) (fun a b hab hb _ _ => srt_sd g n a b hab (by omega)) (fun b h1 h2 => by omega) a b hab (by omega)

theorem colh_congr {c d : Nat → Nat} (v : Nat) : ∀ {p : Nat}, (∀ k, k < p → c k = d k) → colh c p v = colh d p v
  | 0, _ => rfl
  | p + 1, h => by
    have h1 := colh_congr v (p := p) fun k hk => h k (by omega)
    simp only [colh, h p (by omega), h1]
theorem colh_swp (g : Nat → Nat) (v j : Nat) : ∀ {p : Nat}, j + 1 < p → colh (swpF g (j + 1)) p v = colh g p v
  | 0, h => by omega
  | p + 1, h => by
    by_cases e : j + 1 = p
    · subst e
      have hc : colh (swpF g (j + 1)) j v = colh g j v := colh_congr v fun k hk => by simp only [swpF, Nat.add_sub_cancel]; rw [if_neg (by omega), if_neg (by omega)]
      simp only [colh, hc]
      have h1 : swpF g (j + 1) (j + 1) = g j := by simp [swpF]
      have h2 : swpF g (j + 1) j = g (j + 1) := by simp [swpF]
      rw [h1, h2]
      split <;> split <;> omega
    · have h1 : swpF g (j + 1) p = g p := by simp only [swpF, Nat.add_sub_cancel]; rw [if_neg (by omega), if_neg (by omega)]
      simp only [colh, h1, colh_swp g v j (p := p) (by omega)]
theorem colh_ins (v : Nat) {p : Nat} : ∀ (j : Nat) (g : Nat → Nat), j < p → colh (insF j g) p v = colh g p v
  | 0, g, _ => rfl
  | j + 1, g, h => by
    simp only [insF]
    split
    · rw [colh_ins v j _ (by omega), colh_swp g v j h]
    · rfl
theorem colh_srt' (g : Nat → Nat) (v : Nat) {p : Nat} : ∀ n, n ≤ p → colh (srt n g) p v = colh g p v
  | 0, _ => rfl
  | n + 1, h => by simp only [srt]; rw [colh_ins v n _ (by omega), colh_srt' g v n (by omega)]
theorem colh_srt (g : Nat → Nat) (v n : Nat) : colh (srt n g) n v = colh g n v := colh_srt' g v n (Nat.le_refl _)

theorem ins_bound {B p : Nat} : ∀ (j : Nat) (g : Nat → Nat), j < p → (∀ k, k < p → g k < B) → ∀ k, k < p → insF j g k < B
  | 0, g, _, h => h
  | j + 1, g, hj, h => by
    intro k hk
    simp only [insF]
    split
    · refine ins_bound j _ (by omega) ?_ k hk
      intro i hi
      simp only [swpF, Nat.add_sub_cancel]
      split
      · exact h j (by omega)
      · split
        · exact h (j + 1) hj
        · exact h i hi
    · exact h k hk
theorem srt_bound' {B p : Nat} {g : Nat → Nat} (h : ∀ k, k < p → g k < B) : ∀ n, n ≤ p → ∀ k, k < p → srt n g k < B
  | 0, _ => h
  | n + 1, hn => ins_bound n _ (by omega) (srt_bound' h n (by omega))
theorem srt_bound {B n : Nat} {g : Nat → Nat} (h : ∀ k, k < n → g k < B) {k : Nat} (hk : k < n) : srt n g k < B := srt_bound' h n (Nat.le_refl _) k hk

/-- How many of the first p numbers are below v. -/
def clt (c : Nat → Nat) : Nat → Nat → Nat
  | 0, _ => 0
  | k + 1, v => clt c k v + if c k < v then 1 else 0
theorem clt_le (c : Nat → Nat) (v : Nat) : ∀ p, clt c p v ≤ p
  | 0 => Nat.le_refl _
  | p + 1 => by have := clt_le c v p; simp only [clt]; split <;> omega
theorem clt_zero (c : Nat → Nat) : ∀ p, clt c p 0 = 0
  | 0 => rfl
  | p + 1 => by simp [clt, clt_zero c p]
theorem clt_all {c : Nat → Nat} {v : Nat} : ∀ {p : Nat}, (∀ k, k < p → c k < v) → clt c p v = p
  | 0, _ => rfl
  | p + 1, h => by
    have h1 := clt_all (p := p) fun k hk => h k (by omega)
    simp only [clt, h1, if_pos (h p (by omega))]
theorem clt_succ (c : Nat → Nat) (v : Nat) : ∀ p, (clt c p (v + 1) : Int) = clt c p v + colh c p v
  | 0 => rfl
  | p + 1 => by
    have := clt_succ c v p
    simp only [clt, colh]
    by_cases h1 : v = c p
    · rw [if_pos (by omega), if_neg (by omega), if_pos h1]; omega
    · rw [if_neg h1]
      by_cases h2 : c p < v
      · rw [if_pos (by omega), if_pos h2]; omega
      · rw [if_neg (by omega), if_neg h2]; omega
theorem clt_sd {f : Nat → Nat} (v : Nat) : ∀ {p : Nat}, Sd p f → ∀ k, k < p → (f k < v ↔ k < clt f p v)
  | 0, _, k, hk => by omega
  | p + 1, h, k, hk => by
    by_cases e : f p < v
    · have : clt f (p + 1) v = p + 1 := clt_all fun k hk => by
        by_cases ek : k = p
        · subst ek; exact e
        · have := h k p (by omega) (by omega); omega
      rw [this]
      refine ⟨fun _ => hk, fun _ => ?_⟩
      by_cases ek : k = p
      · subst ek; exact e
      · have := h k p (by omega) (by omega); omega
    · simp only [clt, if_neg e, Nat.add_zero]
      by_cases ek : k = p
      · subst ek
        have := clt_le f v k
        constructor <;> intro <;> omega
      · exact clt_sd v (fun a b hab hb => h a b hab (by omega)) k (by omega)
theorem clt_ext {f g : Nat → Nat} {p : Nat} (h : ∀ v, colh f p v = colh g p v) : ∀ v, clt f p v = clt g p v
  | 0 => by rw [clt_zero, clt_zero]
  | v + 1 => by
    have h1 := clt_succ f v p
    have h2 := clt_succ g v p
    have h3 := clt_ext h v
    have h4 := h v
    omega
theorem sd_unique {f g : Nat → Nat} {n : Nat} (hf : Sd n f) (hg : Sd n g) (h : ∀ v, colh f n v = colh g n v) {k : Nat} (hk : k < n) : f k = g k := by
  have key : ∀ v, f k < v ↔ g k < v := fun v => by rw [clt_sd v hf k hk, clt_sd v hg k hk, clt_ext h v]
  have h1 := key (f k + 1)
  have h2 := key (g k + 1)
  omega
theorem colh_none {c : Nat → Nat} {v : Nat} : ∀ {p : Nat}, (∀ k, k < p → c k ≠ v) → colh c p v = 0
  | 0, _ => rfl
  | p + 1, h => by simp only [colh]; rw [if_neg fun e => h p (by omega) e.symm, colh_none fun k hk => h k (by omega)]
theorem colh_ext {B n : Nat} {f g : Nat → Nat} (hf : ∀ k, k < n → f k < B) (hg : ∀ k, k < n → g k < B) (h : ∀ v, v < B → colh f n v = colh g n v) (v : Nat) : colh f n v = colh g n v := by
  by_cases hv : v < B
  · exact h v hv
  · rw [colh_none fun k hk => by have := hf k hk; omega, colh_none fun k hk => by have := hg k hk; omega]
/-- Two rows in order are equal if they have every number equally often. -/
theorem srt_eq_iff {B n : Nat} {f g : Nat → Nat} (hf : ∀ k, k < n → f k < B) (hg : ∀ k, k < n → g k < B) : (∀ k, k < n → srt n f k = srt n g k) ↔ ∀ v, v < B → colh f n v = colh g n v := by
  constructor
  · intro h v _
    rw [← colh_srt f v n, ← colh_srt g v n]
    exact colh_congr v h
  · intro h k hk
    refine sd_unique (srt_sd f n) (srt_sd g n) (fun v => ?_) hk
    rw [colh_srt, colh_srt]
    exact colh_ext hf hg h v
theorem srt_congr' {f g : Nat → Nat} {n : Nat} (h : ∀ k, k < n → f k = g k) {k : Nat} (hk : k < n) : srt n f k = srt n g k :=
  sd_unique (srt_sd f n) (srt_sd g n) (fun v => by rw [colh_srt, colh_srt]; exact colh_congr v h) hk
end Go.Ab
