/- A part of the proof library: names for blocks of memory, a small form of the code, and rules for walks over it. -/
import Derived.Test.YtpajbcifaicpoaaAb23
set_option linter.all false
namespace Go.Ab

/-! ### Counting bits side by side -/

/-- The low eight bits and the rest. -/
theorem land_split {h b M c : Nat} (hb : b < 256) (hc : c < 256) : (256 * h + b) &&& (256 * M + c) = 256 * (h &&& M) + (b &&& c) := by
  have e : ∀ x y : Nat, y < 256 → 256 * x + y = x <<< 8 ||| y := fun x y hy => by
    rw [Nat.shiftLeft_eq, Nat.mul_comm x, ← Nat.two_pow_add_eq_or_of_lt (i := 8) hy]
  have hbc : b &&& c < 256 := Nat.lt_of_le_of_lt Nat.and_le_left hb
  rw [e h b hb, e M c hc, e _ _ hbc]
  apply Nat.eq_of_testBit_eq
  intro i
  simp only [Nat.testBit_and, Nat.testBit_or, Nat.testBit_shiftLeft]
  by_cases hi : 8 ≤ i
  · have h1 : b.testBit i = false := Nat.testBit_lt_two_pow (Nat.lt_of_lt_of_le hb (Nat.pow_le_pow_right (by decide) hi : 2 ^ 8 ≤ 2 ^ i))
    have h2 : c.testBit i = false := Nat.testBit_lt_two_pow (Nat.lt_of_lt_of_le hc (Nat.pow_le_pow_right (by decide) hi : 2 ^ 8 ≤ 2 ^ i))
    simp [hi, h1, h2]
  · simp [hi]

def rep (c : Nat) : Nat → Nat
  | 0 => 0
  | n + 1 => 256 * rep c n + c
def val : List Nat → Nat
  | [] => 0
  | d :: ds => 256 * val ds + d

theorem val_lt : ∀ {ds : List Nat}, (∀ d ∈ ds, d < 256) → val ds < 256 ^ ds.length
  | [], _ => by simp [val]
  | d :: ds, h => by
    have := val_lt (ds := ds) (fun x hx => h x (by simp [hx]))
    have := h d (by simp)
    simp only [val, List.length_cons, Nat.pow_succ]
    omega

theorem low_a : ∀ b : Fin 256, ∀ t : Fin 2, (b.val / 2 + 128 * t.val) &&& 85 = b.val / 2 &&& 85 := by decide +kernel
theorem low_b : ∀ b : Fin 256, ∀ t : Fin 4, (b.val / 4 + 64 * t.val) &&& 51 = b.val / 4 &&& 51 := by decide +kernel

def fa (b : Nat) : Nat := (b / 2 &&& 85) + (b &&& 85)
def fb (b : Nat) : Nat := (b / 4 &&& 51) + (b &&& 51)
def fc2 (b : Nat) : Nat := (b / 16 + b) &&& 15

theorem stage_a : ∀ {ds : List Nat}, (∀ d ∈ ds, d < 256) → (val ds / 2 &&& rep 85 ds.length) + (val ds &&& rep 85 ds.length) = val (ds.map fa)
  | [], _ => by simp [val, rep]
  | d :: ds, h => by
    have hd := h d (by simp)
    have ih := stage_a (ds := ds) (fun x hx => h x (by simp [hx]))
    simp only [val, rep, List.length_cons, List.map_cons]
    have e : (256 * val ds + d) / 2 = 256 * (val ds / 2) + (d / 2 + 128 * (val ds % 2)) := by omega
    rw [e, land_split (by omega) (by decide), land_split hd (by decide), low_a ⟨d, hd⟩ ⟨val ds % 2, by omega⟩, ← ih]
    simp only [fa]
    omega
theorem stage_b : ∀ {ds : List Nat}, (∀ d ∈ ds, d < 256) → (val ds / 4 &&& rep 51 ds.length) + (val ds &&& rep 51 ds.length) = val (ds.map fb)
  | [], _ => by simp [val, rep]
  | d :: ds, h => by
    have hd := h d (by simp)
    have ih := stage_b (ds := ds) (fun x hx => h x (by simp [hx]))
    simp only [val, rep, List.length_cons, List.map_cons]
    have e : (256 * val ds + d) / 4 = 256 * (val ds / 4) + (d / 4 + 64 * (val ds % 4)) := by omega
    rw [e, land_split (by omega) (by decide), land_split hd (by decide), low_b ⟨d, hd⟩ ⟨val ds % 4, by omega⟩, ← ih]
    simp only [fb]
    omega
theorem low_c : ∀ b : Fin 256, ∀ t : Fin 5, b.val / 16 ≤ 4 → b.val % 16 ≤ 4 → (b.val / 16 + 16 * t.val + b.val < 256 ∧ (b.val / 16 + 16 * t.val + b.val) &&& 15 = fc2 b.val) := by decide +kernel
theorem stage_c : ∀ {ds : List Nat}, (∀ d ∈ ds, d < 256 ∧ d / 16 ≤ 4 ∧ d % 16 ≤ 4) → (val ds % 16 ≤ 4) ∧ (val ds / 16 + val ds) &&& rep 15 ds.length = val (ds.map fc2)
  | [], _ => by simp [val, rep]
  | d :: ds, h => by
    obtain ⟨hd, h1, h2⟩ := h d (by simp)
    obtain ⟨i1, ih⟩ := stage_c (ds := ds) (fun x hx => h x (by simp [hx]))
    simp only [val, rep, List.length_cons, List.map_cons]
    refine ⟨by omega, ?_⟩
    obtain ⟨k1, k2⟩ := low_c ⟨d, hd⟩ ⟨val ds % 16, by omega⟩ h1 h2
    simp only at k1 k2
    have e : (256 * val ds + d) / 16 + (256 * val ds + d) = 256 * (val ds / 16 + val ds) + (d / 16 + 16 * (val ds % 16) + d) := by omega
    rw [e, land_split k1 (by decide), k2, ih]

/-- How many of the first k bits are set. -/
def cntB : Nat → Nat → Nat
  | 0, _ => 0
  | k + 1, n => cntB k n + (n.testBit k).toNat

theorem cntB_add (n : Nat) : ∀ j k, cntB (k + j) n = cntB k n + cntB j (n / 2 ^ k)
  | 0, k => by simp [cntB]
  | j + 1, k => by
    rw [← Nat.add_assoc, cntB, cntB_add n j k, cntB, Nat.testBit_div_two_pow, Nat.add_comm j k]
    omega
theorem cntB_mod (n m : Nat) : ∀ k, k ≤ m → cntB k (n % 2 ^ m) = cntB k n
  | 0, _ => rfl
  | k + 1, h => by
    rw [cntB, cntB, cntB_mod n m k (by omega), Nat.testBit_mod_two_pow]
    simp [show k < m from h]
theorem cntB_val : ∀ {ds : List Nat}, (∀ d ∈ ds, d < 256) → cntB (8 * ds.length) (val ds) = (ds.map (cntB 8)).sum
  | [], _ => by simp [cntB]
  | d :: ds, h => by
    have hd := h d (by simp)
    rw [List.length_cons, show 8 * (ds.length + 1) = 8 + 8 * ds.length by omega, cntB_add]
    simp only [val, List.map_cons, List.sum_cons]
    have e1 : (256 * val ds + d) / 2 ^ 8 = val ds := by omega
    have e2 : cntB 8 (256 * val ds + d) = cntB 8 d := by
      rw [← cntB_mod (256 * val ds + d) 8 8 (Nat.le_refl _)]
      congr 1
      omega
    rw [e1, e2, cntB_val (fun x hx => h x (by simp [hx]))]

theorem byte_key : ∀ b : Fin 256, fa b.val < 256 ∧ fb (fa b.val) < 256 ∧ fb (fa b.val) / 16 ≤ 4 ∧ fb (fa b.val) % 16 ≤ 4 ∧ fc2 (fb (fa b.val)) = cntB 8 b.val ∧ cntB 8 b.val ≤ 8 := by decide +kernel

theorem digits (n : Nat) : ∀ x, x < 256 ^ n → ∃ ds : List Nat, ds.length = n ∧ (∀ d ∈ ds, d < 256) ∧ val ds = x := by
  induction n with
  | zero => intro x hx; exact ⟨[], rfl, by simp, by simp [val]; omega⟩
  | succ n ih =>
    intro x hx
    rw [Nat.pow_succ] at hx
    obtain ⟨ds, h1, h2, h3⟩ := ih (x / 256) (by omega)
    refine ⟨x % 256 :: ds, by simp [h1], ?_, by simp only [val, h3]; omega⟩
    intro d hd
    rcases List.mem_cons.1 hd with rfl | hd
    · omega
    · exact h2 d hd

/-- What Go's OnesCount64 reckons. -/
def swar (x : Nat) : Nat :=
  let a := (x / 2 &&& 6148914691236517205) + (x &&& 6148914691236517205)
  let b := (a / 4 &&& 3689348814741910323) + (a &&& 3689348814741910323)
  (b / 16 + b) &&& 1085102592571150095
theorem swar_val (x : Nat) (hx : x < 18446744073709551616) : ∃ d0 d1 d2 d3 d4 d5 d6 d7 : Nat, (d0 ≤ 8 ∧ d1 ≤ 8 ∧ d2 ≤ 8 ∧ d3 ≤ 8 ∧ d4 ≤ 8 ∧ d5 ≤ 8 ∧ d6 ≤ 8 ∧ d7 ≤ 8) ∧
    swar x = d0 + 256 * (d1 + 256 * (d2 + 256 * (d3 + 256 * (d4 + 256 * (d5 + 256 * (d6 + 256 * d7)))))) ∧ cntB 64 x = d0 + d1 + d2 + d3 + d4 + d5 + d6 + d7 := by
  obtain ⟨ds, h1, h2, rfl⟩ := digits 8 x hx
  have k1 := stage_a h2
  have b1 : ∀ d ∈ ds.map fa, d < 256 := fun d hd => by
    obtain ⟨e, he, rfl⟩ := List.mem_map.1 hd
    exact (byte_key ⟨e, h2 e he⟩).1
  have k2 := stage_b b1
  have b2 : ∀ d ∈ (ds.map fa).map fb, d < 256 ∧ d / 16 ≤ 4 ∧ d % 16 ≤ 4 := fun d hd => by
    obtain ⟨e', he', rfl⟩ := List.mem_map.1 hd
    obtain ⟨e, he, rfl⟩ := List.mem_map.1 he'
    have := byte_key ⟨e, h2 e he⟩
    exact ⟨this.2.1, this.2.2.1, this.2.2.2.1⟩
  have k3 := (stage_c b2).2
  have k4 := cntB_val h2
  simp only [List.length_map, h1] at k1 k2 k3 k4
  have r1 : rep 85 8 = 6148914691236517205 := by decide
  have r2 : rep 51 8 = 3689348814741910323 := by decide
  have r3 : rep 15 8 = 1085102592571150095 := by decide
  rw [r1] at k1; rw [r2] at k2; rw [r3] at k3
  have hs : swar (val ds) = val (((ds.map fa).map fb).map fc2) := by
    simp only [swar]
    rw [k1, k2, k3]
  have hm : ((ds.map fa).map fb).map fc2 = ds.map (cntB 8) := by
    simp only [List.map_map]
    exact List.map_congr_left fun d hd => (byte_key ⟨d, h2 d hd⟩).2.2.2.2.1
  rw [hm] at hs
  match ds, h1 with
  | [d0, d1, d2, d3, d4, d5, d6, d7], _ =>
    have kk : ∀ d, d < 256 → cntB 8 d ≤ 8 := fun d hd => (byte_key ⟨d, hd⟩).2.2.2.2.2
    refine ⟨cntB 8 d0, cntB 8 d1, cntB 8 d2, cntB 8 d3, cntB 8 d4, cntB 8 d5, cntB 8 d6, cntB 8 d7, ⟨kk _ (h2 _ (by simp)), kk _ (h2 _ (by simp)), kk _ (h2 _ (by simp)), kk _ (h2 _ (by simp)), kk _ (h2 _ (by simp)), kk _ (h2 _ (by simp)), kk _ (h2 _ (by simp)), kk _ (h2 _ (by simp))⟩, ?_, ?_⟩
    · rw [hs]; simp only [List.map_cons, List.map_nil, val]; omega
    · rw [k4]; simp only [List.map_cons, List.map_nil, List.sum_cons, List.sum_nil]; omega
/-- Its last steps. -/
theorem swar_fold (d0 d1 d2 d3 d4 d5 d6 d7 y : Nat) (h : d0 ≤ 8 ∧ d1 ≤ 8 ∧ d2 ≤ 8 ∧ d3 ≤ 8 ∧ d4 ≤ 8 ∧ d5 ≤ 8 ∧ d6 ≤ 8 ∧ d7 ≤ 8)
    (hy : y = d0 + 256 * (d1 + 256 * (d2 + 256 * (d3 + 256 * (d4 + 256 * (d5 + 256 * (d6 + 256 * d7))))))) :
    y + y / 256 < 2 ^ 63 ∧ (y + y / 256) + (y + y / 256) / 65536 < 2 ^ 63 ∧
    ((y + y / 256) + (y + y / 256) / 65536) + ((y + y / 256) + (y + y / 256) / 65536) / 4294967296 < 2 ^ 63 ∧
    (((y + y / 256) + (y + y / 256) / 65536) + ((y + y / 256) + (y + y / 256) / 65536) / 4294967296) % 128 = d0 + d1 + d2 + d3 + d4 + d5 + d6 + d7 := by
  have a1 : y / 256 = d1 + 256 * (d2 + 256 * (d3 + 256 * (d4 + 256 * (d5 + 256 * (d6 + 256 * d7))))) := by omega
  obtain ⟨y1, e1⟩ : ∃ y1, y1 = y + y / 256 := ⟨_, rfl⟩
  have f1 : y1 = (d0 + d1) + 256 * ((d1 + d2) + 256 * ((d2 + d3) + 256 * ((d3 + d4) + 256 * ((d4 + d5) + 256 * ((d5 + d6) + 256 * ((d6 + d7) + 256 * d7)))))) := by omega
  have a2 : y1 / 65536 = (d2 + d3) + 256 * ((d3 + d4) + 256 * ((d4 + d5) + 256 * ((d5 + d6) + 256 * ((d6 + d7) + 256 * d7)))) := by omega
  rw [← e1]
  obtain ⟨y2, e2⟩ : ∃ y2, y2 = y1 + y1 / 65536 := ⟨_, rfl⟩
  rw [← e2]
  have f2 : y2 = (d0 + d1 + d2 + d3) + 256 * ((d1 + d2 + d3 + d4) + 256 * ((d2 + d3 + d4 + d5) + 256 * ((d3 + d4 + d5 + d6) + 256 * ((d4 + d5 + d6 + d7) + 256 * ((d5 + d6 + d7) + 256 * ((d6 + d7) + 256 * d7)))))) := by omega
  have a3 : y2 / 4294967296 = (d4 + d5 + d6 + d7) + 256 * ((d5 + d6 + d7) + 256 * ((d6 + d7) + 256 * d7)) := by omega
  clear e1 e2 a1 a2 hy
  refine ⟨by omega, by omega, by omega, by omega⟩
end Go.Ab
