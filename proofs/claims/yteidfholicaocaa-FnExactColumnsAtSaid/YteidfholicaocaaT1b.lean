/- A part of the proof library: names for blocks of memory, a small form of the code, and rules for walks over it. -/
import Derived.Test.YteidfholicaocaaS1b
import Derived.Test.YteidfholicaocaaC5b
set_option linter.all false
namespace Go.Proofs.Yteidfholicaocaa
open Go.Ab
set_option maxHeartbeats 800000

theorem zrow_rows {z : List V} {m : Nat} (hz : z.length = m) (hm : 0 < m) (n : Nat) : zrow z n = rows n fun _ => z := by
  apply List.ext_getElem?
  intro i
  by_cases h : i < n * m
  · have hi : i = i / m * m + i % m := by rw [Nat.mul_comm]; exact (Nat.div_add_mod i m).symm
    have hk : i / m < n := by rw [Nat.div_lt_iff_lt_mul hm]; exact h
    have hj : i % m < m := Nat.mod_lt _ hm
    have hr := rows_get (n := n) (m := m) (g := fun _ => z) (fun _ _ => hz) hk hj
    rw [← hi] at hr
    rw [hr]
    simp only [zrow, List.getElem?_map, hz]
    rw [List.getElem?_range h]
    simp [List.getD, List.getElem?_eq_getElem (show i % m < z.length by omega)]
  · rw [List.getElem?_eq_none (by simp [hz]; omega), List.getElem?_eq_none (by rw [rows_len (m := m) (fun _ _ => hz)]; omega)]
theorem lays_zero (n : Nat) : zrow (layC 0 fun _ => 0) n = lays n (fun _ => 0) fun _ _ => 0 := zrow_rows (m := 65) (by simp) (by omega) n
theorem lays_congr {n : Nat} {P Q : Nat → Int} {F G : Nat → Nat → Nat} (h1 : ∀ i, i < n → P i = Q i) (h2 : ∀ i, i < n → ∀ j, j < 64 → F i j = G i j) : lays n P F = lays n Q G :=
  rows_congr fun i hi => by rw [h1 i hi, layC_congr (h2 i hi)]
theorem lays_put1 {n : Nat} {P : Nat → Int} {F : Nat → Nat → Nat} {k : Nat} (hk : k < n) {p : Int} {f : Nat → Nat} : putl (lays n P F) (k * 65) (layC p f) = lays n (fun i => if i = k then p else P i) (fun i => if i = k then f else F i) := by
  rw [lays, rows_put (m := 65) (fun i _ => by simp) hk (by simp), lays]
  exact rows_congr fun i _ => by by_cases e : i = k <;> simp [e]
@[simp] theorem lays_nb {b n m : Nat} {P : Nat → Int} {F : Nat → Nat → Nat} : nbL b m (lays n P F) := puL.nb _ lays_pu
theorem lays_snoc {n : Nat} {P : Nat → Int} {F : Nat → Nat → Nat} : lays (n + 1) P F = lays n P F ++ layC (P n) (F n) := rows_succ
theorem lays_setP {n : Nat} {P : Nat → Int} {F : Nat → Nat → Nat} {k : Nat} (hk : k < n) {p : Int} : (lays n P F).set (k * 65) (.int .i8 p) = lays n (fun i => if i = k then p else P i) F := by
  have h := lays_put1 (P := P) (F := F) hk (p := p) (f := F k)
  have hle : k * 65 + 65 ≤ n * 65 := by omega
  rw [putl_eq _ _ _ (by simp; omega)] at h
  have e : (lays n P F) = (lays n P F).take (k * 65) ++ (layC (P k) (F k) ++ (lays n P F).drop (k * 65 + 65)) := by
    conv => lhs; rw [← List.take_append_drop (k * 65) (lays n P F)]
    congr 1
    conv => lhs; rw [← List.take_append_drop 65 ((lays n P F).drop (k * 65)), lays_at hk, List.drop_drop]
  have e2 : lays n (fun i => if i = k then p else P i) (fun i => if i = k then F k else F i) = lays n (fun i => if i = k then p else P i) F := lays_congr (fun i _ => rfl) (fun i _ j _ => by by_cases e : i = k <;> simp [e])
  rw [e2] at h
  rw [← h]
  conv => lhs; rw [e]
  rw [List.set_append_right _ _ (by simp; omega)]
  have hl : (List.take (k * 65) (lays n P F)).length = k * 65 := by simp; omega
  rw [hl, Nat.sub_self, layC, List.cons_append, List.set_cons_zero]
  simp [layC]
theorem lays_setF {n : Nat} {P : Nat → Int} {F : Nat → Nat → Nat} {k j : Nat} (hk : k < n) (hj : j < 64) {c : Nat} : (lays n P F).set (k * 65 + (1 + j)) (.int .u8 c) = lays n P (fun i l => if i = k ∧ l = j then c else F i l) := by
  have h := lays_put1 (P := P) (F := F) hk (p := P k) (f := fun l => if l = j then c else F k l)
  have hle : k * 65 + 65 ≤ n * 65 := by omega
  rw [putl_eq _ _ _ (by simp; omega)] at h
  have e : (lays n P F) = (lays n P F).take (k * 65) ++ (layC (P k) (F k) ++ (lays n P F).drop (k * 65 + 65)) := by
    conv => lhs; rw [← List.take_append_drop (k * 65) (lays n P F)]
    congr 1
    conv => lhs; rw [← List.take_append_drop 65 ((lays n P F).drop (k * 65)), lays_at hk, List.drop_drop]
  have e2 : lays n (fun i => if i = k then P k else P i) (fun i => if i = k then (fun l => if l = j then c else F k l) else F i) = lays n P (fun i l => if i = k ∧ l = j then c else F i l) := lays_congr (fun i _ => by by_cases e : i = k <;> simp [e]) (fun i _ l _ => by by_cases e : i = k <;> simp [e])
  rw [e2] at h
  rw [← h]
  conv => lhs; rw [e]
  rw [List.set_append_right _ _ (by simp; omega)]
  have hl : (List.take (k * 65) (lays n P F)).length = k * 65 := by simp; omega
  rw [hl, show k * 65 + (1 + j) - k * 65 = 1 + j by omega, List.set_append_left _ _ (by simp; omega), layC_set]
  simp

theorem toLayerS_ct (n off : Nat) (hn : n ≤ 1048576) (P : Nat → Int) (F : Nat → Nat → Nat) (cs : List V) (hcs : ∀ i, i < n → (cs.drop (off + i * 65)).take 65 = layC (P i) (F i)) (hpu : puL cs) (ro : Bool) : Ct Try.prog ro 16 [.slx (.e 0) off n] [cs] fun v E' L' => v = .slx (.l 0) 0 n ∧ E' = [cs] ∧ L' = [lays n P F] := by
  refine ct_of laws_toLayerS_ok ?_
  simp [laws_toLayerS_F, laws_toLayerS_M, layC_zero, lays_zero, show (n : Int) ≤ 9223372036854775807 by omega, show (65 : Int) * (n : Int) ≤ 281474976710656 by omega]
  refine wp_for n (fun k => ⟨[(0, .slx (.e 0) off n), (3, .sl (.l 0) 0 n n), (4, .int .i64 k)], [lays n (fun i => if i < k then P i else 0) (fun i j => if i < k then F i j else 0)], [cs]⟩) ?_ ?_ ?_
  · simp
  · intro k hk
    have hk1 : (k : Int) < n := by omega
    have hwk : IntKind.i64.wrap ((k : Int) + 1) = k + 1 := wrap_i64 (by omega) (by omega)
    have hwin := hcs k hk
    have hlen : off + k * 65 + 65 ≤ cs.length := by
      have := congrArg List.length hwin
      simp at this
      omega
    have hle : k * 65 + 65 ≤ n * 65 := by omega
    have hto := toLayer_pc (P k) (F k)
    have hput := fun (Q : Nat → Int) (G : Nat → Nat → Nat) => lays_put1 (P := Q) (F := G) hk (p := P k) (f := F k)
    simp [laws_toLayerS_L0, hk1, hk]
    simp [hwin, hlen, layC_zero]
    refine call_pc hto (by simp) (by simp) ?_
    simp [hk1, hle]
    simp [hput, hwk]
    exact lays_congr (fun i _ => by by_cases e : i = k <;> by_cases e2 : i < k <;> simp [e, e2] <;> omega) (fun i _ j _ => by by_cases e : i = k <;> by_cases e2 : i < k <;> simp [e, e2] <;> omega)
  · have he : lays n (fun i => if i < n then P i else 0) (fun i j => if i < n then F i j else 0) = lays n P F := lays_congr (fun i hi => by simp [hi]) (fun i hi j _ => by simp [hi])
    simp [laws_toLayerS_L0, he]
    exact ret_new 0 (c := lays n P F) (v' := .slx (.l 0) 0 n) (.inr (by simp [V.hid, kmap])) (by simp) ⟨[], by simp⟩ (by simp) (by simpa using hpu) (by simp)

theorem toLayerSNil_ct (ro : Bool) : Ct Try.prog ro 16 [.nilsl] [] fun v E' L' => v = .slx (.l 0) 0 0 ∧ E' = [] ∧ L' = [lays 0 (fun _ => 0) fun _ _ => 0] := by
  refine ct_of laws_toLayerS_ok ?_
  simp [laws_toLayerS_F, laws_toLayerS_M, layC_zero, lays_zero]
  refine wp_for 0 (fun k => ⟨[(0, .nilsl), (3, .sl (.l 0) 0 0 0), (4, .int .i64 k)], [lays 0 (fun _ => 0) fun _ _ => 0], []⟩) ?_ ?_ ?_
  · simp
  · intro k hk; omega
  · simp [laws_toLayerS_L0]
    exact ret_new 0 (c := lays 0 (fun _ => 0) fun _ _ => 0) (v' := .slx (.l 0) 0 0) (.inr (by simp [V.hid, kmap])) (by simp) ⟨[], by simp⟩ (by simp) (by simp) (by simp)

theorem szLayerS_ct (off n : Nat) (hn : (n : Int) ≤ 9223372036854775807) (left : Nat) (hl : left ≤ 1048576) (cs : List V) (hpu : puL cs) (ro : Bool) : Ct Try.prog ro 14 [.slx (.e 0) off n, .int .i64 left] [cs] fun v E' L' => v = .int .i64 (if left < n then -1 else ((left - n : Nat) : Int)) ∧ E' = [cs] ∧ L' = [] := by
  have hw : IntKind.i64.wrap ((left : Int) - n) = (left : Int) - n := wrap_i64 (by omega) (by omega)
  refine ct_of laws_szLayerS_ok ?_
  by_cases h : left < n
  · have h1 : (left : Int) - n < 0 := by omega
    simp [laws_szLayerS_F, laws_szLayerS_M, hw, h1]
    exact ret_pu (by simp) (by simpa using hpu) (by simp [h])
  · have h1 : ¬ (left : Int) - n < 0 := by omega
    have h2 : (left : Int) - n = ((left - n : Nat) : Int) := by omega
    have hw' : IntKind.i64.wrap ((left : Int) - n) = ((left - n : Nat) : Int) := by rw [hw]; exact h2
    have h1' : ¬ (((left - n : Nat) : Int) < 0) := by omega
    clear hw h1 h2
    generalize left - n = d at *
    simp [laws_szLayerS_F, laws_szLayerS_M, hw', h1']
    exact ret_pu (by simp) (by simpa using hpu) (by simp [h])
theorem szLayerSNil_ct (left : Nat) (hl : left ≤ 1048576) : PC Try.prog 14 [.nilsl, .int .i64 left] (.int .i64 left) := by
  have hw : IntKind.i64.wrap (left : Int) = left := wrap_i64 (by omega) (by omega)
  refine pc_of laws_szLayerS_ok (fun ro => ?_)
  simp [laws_szLayerS_F, laws_szLayerS_M, hw]
  exact ret_pu (by simp) (by simp) (by simp)

theorem eqLayerS_ct (n : Nat) (hn : n ≤ 1048576) (P : Nat → Int) (F : Nat → Nat → Nat) (ro : Bool) : Ct Try.prog ro 18 [.slx (.e 0) 0 n, .slx (.e 1) 0 n] [lays n P F, lays n P F] fun v E' L' => v = .bool true ∧ E' = [lays n P F, lays n P F] ∧ L' = [] := by
  refine ct_of laws_eqLayerS_ok ?_
  simp [laws_eqLayerS_F, laws_eqLayerS_M]
  refine wp_for n (fun k => ⟨[(0, .slx (.e 0) 0 n), (1, .slx (.e 1) 0 n), (5, .int .i64 k)], [], [lays n P F, lays n P F]⟩) ?_ ?_ ?_
  · simp
  · intro k hk
    have hk1 : (k : Int) < n := by omega
    have hwk : IntKind.i64.wrap ((k : Int) + 1) = k + 1 := wrap_i64 (by omega) (by omega)
    have hle : k * 65 + 65 ≤ n * 65 := by omega
    simp [laws_eqLayerS_L0, hk1, hk, hle, lays_at hk]
    refine calll_pc (eqLayer_pc (P k) (F k)) (by simp) (by simp) ?_
    simp [hwk]
  · simp [laws_eqLayerS_L0]
    exact ret_pu (by simp) (by simp) (by simp)
theorem eqNilLayerS_ct (ro : Bool) : Ct Try.prog ro 18 [.nilsl, .slx (.e 0) 0 0] [lays 0 (fun _ => 0) fun _ _ => 0] fun v E' L' => v = .bool true ∧ E' = [lays 0 (fun _ => 0) fun _ _ => 0] ∧ L' = [] := by
  refine ct_of laws_eqLayerS_ok ?_
  simp [laws_eqLayerS_F, laws_eqLayerS_M]
  refine wp_for 0 (fun k => ⟨[(0, .nilsl), (1, .slx (.e 0) 0 0), (5, .int .i64 k)], [], [lays 0 (fun _ => 0) fun _ _ => 0]⟩) ?_ ?_ ?_
  · simp
  · intro k hk; omega
  · simp [laws_eqLayerS_L0]
    exact ret_pu (by simp) (by simp) (by simp)

/-- An argument of a slice of layers, as the law's first steps meet it. -/
structure LArg (E : List (List V)) (A : V) (n : Nat) (P : Nat → Int) (F : Nat → Nat → Nat) : Prop where
  hP : ∀ i, -128 ≤ P i ∧ P i < 128
  hF : ∀ i j, F i j < 256
  to : n ≤ 1048576 → ∀ (s : St) (K : V → St → Prop), s.e = E → K (.slx (.l s.m.length) 0 n) { s with m := s.m ++ [lays n P F] } → callWp Try.prog true 16 [A] s K
  sz : ∀ (left : Nat), left ≤ 1048576 → ∀ (s : St) (K : V → St → Prop), s.e = E → K (.int .i64 (if left < n then -1 else ((left - n : Nat) : Int))) s → callWp Try.prog true 14 [A, .int .i64 left] s K
theorem LArg.nil (E : List (List V)) : LArg E .nilsl 0 (fun _ => 0) fun _ _ => 0 :=
  ⟨fun _ => by omega, fun _ _ => by omega, fun _ s K _ hK => call_g [] toLayerSNil_ct (by simp) (by simp) (by simpa using hK),
    fun left hl s K _ hK => call_pc (szLayerSNil_ct left hl) (by simp) (by simp) (by simpa using hK)⟩
theorem LArg.at_ (E : List (List V)) (i off n : Nat) (hn : (n : Int) ≤ 9223372036854775807) (P : Nat → Int) (F : Nat → Nat → Nat) (hP : ∀ i, -128 ≤ P i ∧ P i < 128) (hF : ∀ i j, F i j < 256) (cs : List V) (hE : E[i]? = some cs) (hcs : ∀ i, i < n → (cs.drop (off + i * 65)).take 65 = layC (P i) (F i)) (hpu : puL cs) : LArg E (.slx (.e i) off n) n P F := by
  have hsig : ∀ (s : St), s.e = E → SigOk s.blk [.e i] s.m.length [cs] := fun s he => sigOk_mk (by simp) (by simp) (by
    simp only [List.zip_cons_cons, List.zip_nil_right, List.mem_singleton, forall_eq]
    exact ⟨by rw [puL.ren _ hpu]; simp [St.blk, he, hE], puL.eo _ hpu⟩)
  refine ⟨hP, hF, fun hn2 s K he hK => ?_, fun left hl s K he hK => ?_⟩
  · exact call_rE [.e i] (toLayerS_ct n off hn2 P F cs hcs hpu) (hsig s he) (by simp) (by simp) (by simp) (by simpa using hK)
  · refine call_rE [.e i] (L2 := []) (szLayerS_ct off n hn left hl cs hpu) (hsig s he) (by simp) (by simp) (by simp) ?_
    simpa using hK

/-- The numbers of a layer. -/
def layN (p : Int) (f : Nat → Nat) : List Int := p :: (List.range 64).map fun i => (f i : Int)
theorem nums_byt : ∀ (l : List Nat), nums (List.replicate l.length .u8) (l.map fun i : Nat => V.int .u8 (i : Int)) = some (l.map fun i : Nat => (i : Int))
  | [] => rfl
  | n :: l => by simp [nums, List.replicate_succ, nums_byt l]
theorem nums_lay (p : Int) (f : Nat → Nat) : nums (.i8 :: List.replicate 64 .u8) (layC p f) = some (layN p f) := by
  have h := nums_byt ((List.range 64).map f)
  simp only [List.length_map, List.length_range, List.map_map] at h
  have e : byt 64 f = (List.range 64).map ((fun i : Nat => V.int .u8 (i : Int)) ∘ f) := rfl
  rw [layC, nums, if_pos rfl, e, h]
  simp [layN, Function.comp_def]
/-- Two rows of layers are the same. -/
def SameP (n1 n2 : Nat) (P1 P2 : Nat → Int) (F1 F2 : Nat → Nat → Nat) : Prop := n1 = n2 ∧ ∀ i, i < n1 → layN (P1 i) (F1 i) = layN (P2 i) (F2 i)
open Classical in
noncomputable def sameB (n1 n2 : Nat) (P1 P2 : Nat → Int) (F1 F2 : Nat → Nat → Nat) : Bool := decide (SameP n1 n2 P1 P2 F1 F2)



end Go.Proofs.Yteidfholicaocaa
