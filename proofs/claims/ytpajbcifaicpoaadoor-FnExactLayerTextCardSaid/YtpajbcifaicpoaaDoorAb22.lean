/- A part of the proof library: names for blocks of memory, a small form of the code, and rules for walks over it. -/
import Derived.Test.YtpajbcifaicpoaaDoorAb20
import Derived.Test.YtpajbcifaicpoaaDoorAb21
set_option linter.all false
namespace Go.Ab
open Go.ChangeShapes Go.WideShapes Go.ChangeAt Go.RowKit

theorem u8_min : IntKind.u8.min = 0 := by decide
theorem u8_max : IntKind.u8.max = 255 := by decide
theorem i8_min : IntKind.i8.min = -128 := by decide
theorem i8_max : IntKind.i8.max = 127 := by decide
theorem u16_min : IntKind.u16.min = 0 := by decide
theorem u16_max : IntKind.u16.max = 65535 := by decide
theorem i16_min : IntKind.i16.min = -32768 := by decide
theorem i16_max : IntKind.i16.max = 32767 := by decide
theorem u32_min : IntKind.u32.min = 0 := by decide
theorem u32_max : IntKind.u32.max = 4294967295 := by decide
theorem i64_min : IntKind.i64.min = -9223372036854775808 := by decide
theorem i64_max : IntKind.i64.max = 9223372036854775807 := by decide
theorem u64_min : IntKind.u64.min = 0 := by decide
theorem u64_max : IntKind.u64.max = 18446744073709551615 := by decide

theorem rl_zip {r : Rho} : ∀ (ks : List IntKind) (ns : List Int), RL r (List.zipWith V.int ks ns) (List.zipWith Value.int ks ns)
  | [], _ => by simp
  | _ :: _, [] => by simp
  | k :: ks, n :: ns => by simp [rl_zip ks ns, V.R_int]
theorem one_zip : ∀ (ks : List IntKind) (ns : List Int), ∀ y ∈ List.zipWith Value.int ks ns, Value.oneCell' y = true
  | [], _, y, h => by simp at h
  | _ :: _, [], y, h => by simp at h
  | k :: ks, n :: ns, y, h => by
    simp at h
    rcases h with rfl | h
    · rfl
    · exact one_zip ks ns y h

theorem zip_byt : ∀ (m : Nat) (ns : List Int), ns.length = m → (∀ n ∈ ns, 0 ≤ n ∧ n ≤ 255) → List.zipWith V.int (List.replicate m .u8) ns = byt m (fun i => (ns.getD i 0).toNat)
  | 0, ns, h, _ => by simp [byt, tab]
  | m + 1, [], h, _ => by simp at h
  | m + 1, n :: ns, h, hb => by
    rw [List.replicate_succ, List.zipWith_cons_cons, zip_byt m ns (by simpa using h) (fun x hx => hb x (by simp [hx]))]
    simp only [byt, tab, List.range_succ_eq_map, List.map_cons, List.map_map]
    have := (hb n (by simp)).1
    rw [show (((n :: ns).getD 0 0).toNat : Int) = n by simp; omega]
    rfl
theorem getD_byte {ns : List Int} (hb : ∀ n ∈ ns, 0 ≤ n ∧ n ≤ 255) (i : Nat) : (ns.getD i 0).toNat < 256 := by
  rcases Nat.lt_or_ge i ns.length with h | h
  · have := hb _ (List.getElem_mem h)
    simp only [List.getD, List.getElem?_eq_getElem h, Option.getD_some]
    omega
  · simp [List.getD, List.getElem?_eq_none h]

theorem okw_zip {P : Program} {w : World} {rc : Reach} {b : Nat} {t : TypeId} {d : TypeDesc} {ks : List IntKind} {v : Value} (ht : P.underlying t = some d) (hd : isAggD d = true) (hk : (P.cellTypes P.depth t).bind (kindsOf P) = some ks) (hn : P.cellsOf t = ks.length) (h : Value.okWide P w rc b t v) :
    ∃ ns : List Int, (∀ r, V.R r (.agg (List.zipWith V.int ks ns)) v) ∧ ns.length = ks.length ∧ ∀ (i : Nat) (k : IntKind) (n : Int), ks[i]? = some k → ns[i]? = some n → k.min ≤ n ∧ n ≤ k.max := by
  obtain ⟨ns, rfl, hl, hr⟩ := okw_cells ht hd hk hn h
  exact ⟨ns, fun r => V.R_agg.2 ⟨_, rfl, rl_zip _ _, one_zip _ _⟩, hl, hr⟩

theorem rows_byte {ks ks' : List IntKind} {ns ns' : List Int} {m : Nat} (hr : ∀ (i : Nat) (k : IntKind) (n : Int), ks[i]? = some k → ns[i]? = some n → k.min ≤ n ∧ n ≤ k.max) (at_ : Nat) (hk : ∀ i, i < m → ks[at_ + i]? = some .u8) (hn : ∀ i, ns'[i]? = ns[at_ + i]?) (hl : ns'.length = m) : ∀ n ∈ ns', 0 ≤ n ∧ n ≤ 255 := by
  intro n hn'
  obtain ⟨i, hi, rfl⟩ := List.getElem_of_mem hn'
  have := hr (at_ + i) .u8 ns'[i] (hk i (by omega)) (by rw [← hn, List.getElem?_eq_getElem hi])
  simp only [u8_min, u8_max] at this
  exact this

/-- An argument of a row of bytes. -/
theorem okw_bytes (m : Nat) {P : Program} {w : World} {rc : Reach} {b : Nat} {t : TypeId} {d : TypeDesc} {v : Value} (ht : P.underlying t = some d) (hd : isAggD d = true) (hk : (P.cellTypes P.depth t).bind (kindsOf P) = some (List.replicate m .u8)) (hn : P.cellsOf t = m) (h : Value.okWide P w rc b t v) :
    ∃ f : Nat → Nat, (∀ r, V.R r (.agg (byt m f)) v) ∧ ∀ i, f i < 256 := by
  obtain ⟨ns, hR, hl, hr⟩ := okw_zip ht hd hk (by simpa using hn) h
  simp at hl
  have hb := rows_byte (ks' := []) (m := m) hr 0 (fun i hi => by simp [hi]) (fun i => by simp) hl
  exact ⟨fun i => (ns.getD i 0).toNat, fun r => by rw [← zip_byt m ns hl hb]; exact hR r, fun i => getD_byte hb i⟩

theorem okw_layer {P : Program} {w : World} {rc : Reach} {b : Nat} {t : TypeId} {d : TypeDesc} {v : Value} (ht : P.underlying t = some d) (hd : isAggD d = true) (hk : (P.cellTypes P.depth t).bind (kindsOf P) = some (.i8 :: List.replicate 64 .u8)) (hn : P.cellsOf t = 65) (h : Value.okWide P w rc b t v) :
    ∃ (p : Int) (f : Nat → Nat), (∀ r, V.R r (lay p f) v) ∧ (-128 ≤ p ∧ p < 128) ∧ ∀ i, f i < 256 := by
  obtain ⟨ns, hR, hl, hr⟩ := okw_zip ht hd hk (by simpa using hn) h
  revert hR hl hr
  generalize hm : 64 = m
  intro hR hl hr
  match ns, hl with
  | [], hl => simp at hl
  | p :: ns, hl =>
    simp at hl
    have hb := rows_byte (ns' := ns) (ks' := []) (m := m) hr 1 (fun i hi => by rw [Nat.add_comm]; simp [hi]) (fun i => by rw [Nat.add_comm]; simp) hl
    refine ⟨p, fun i => (ns.getD i 0).toNat, fun r => ?_, ?_, fun i => getD_byte hb i⟩
    · have := hR r
      rw [List.zipWith_cons_cons, zip_byt m ns hl hb] at this
      subst hm
      exact this
    · have := hr 0 .i8 p rfl rfl
      simp only [i8_min, i8_max] at this
      omega

theorem okw_scheme {P : Program} {w : World} {rc : Reach} {b : Nat} {t : TypeId} {d : TypeDesc} {v : Value} (ht : P.underlying t = some d) (hd : isAggD d = true) (hk : (P.cellTypes P.depth t).bind (kindsOf P) = some (.i8 :: .i8 :: List.replicate 12 .u8)) (hn : P.cellsOf t = 14) (h : Value.okWide P w rc b t v) :
    ∃ (s p : Int) (f g : Nat → Nat), (∀ r, V.R r (sch s p f g) v) ∧ (-128 ≤ s ∧ s < 128) ∧ (-128 ≤ p ∧ p < 128) ∧ (∀ i, f i < 256) ∧ ∀ i, g i < 256 := by
  obtain ⟨ns, hR, hl, hr⟩ := okw_zip ht hd hk (by simpa using hn) h
  match ns, hl with
  | [], hl => simp at hl
  | [_], hl => simp at hl
  | s :: p :: ns, hl =>
    simp at hl
    have hb := rows_byte (ns' := ns) (ks' := []) (m := 12) hr 2 (fun i hi => by rw [Nat.add_comm, List.getElem?_cons_succ, List.getElem?_cons_succ, List.getElem?_replicate, if_pos hi]) (fun i => by rw [Nat.add_comm]; simp) hl
    refine ⟨s, p, fun i => (ns.getD i 0).toNat, fun i => (ns.getD (6 + i) 0).toNat, fun r => ?_, ?_, ?_, fun i => getD_byte hb i, fun i => getD_byte hb _⟩
    · have := hR r
      rw [List.zipWith_cons_cons, List.zipWith_cons_cons, zip_byt 12 ns hl hb] at this
      exact this
    · have := hr 0 .i8 s rfl rfl
      simp only [i8_min, i8_max] at this
      omega
    · have := hr 1 .i8 p rfl rfl
      simp only [i8_min, i8_max] at this
      omega
end Go.Ab
