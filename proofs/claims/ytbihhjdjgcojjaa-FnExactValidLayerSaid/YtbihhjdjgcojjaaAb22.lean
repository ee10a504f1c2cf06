/- A part of the proof library: names for blocks of memory, a small form of the code, and rules for walks over it. -/
import Derived.Test.YtbihhjdjgcojjaaAb20
import Derived.Test.YtbihhjdjgcojjaaAb21
namespace Go.Ab
open Go.ChangeShapes Go.WideShapes Go.ChangeAt Go.RowKit

theorem u8_min : IntKind.u8.min = 0 := by decide
theorem u8_max : IntKind.u8.max = 255 := by decide
theorem i8_min : IntKind.i8.min = -128 := by decide
theorem i8_max : IntKind.i8.max = 127 := by decide
theorem u16_min : IntKind.u16.min = 0 := by decide
theorem u16_max : IntKind.u16.max = 65535 := by decide
theorem i16_min : IntKind.i16.min = -32768 := by decide
theorem i16_max : IntKind.i16.max = 32767 := by decide
theorem u32_min : IntKind.u32.min = 0 := by decide
theorem u32_max : IntKind.u32.max = 4294967295 := by decide
theorem i64_min : IntKind.i64.min = -9223372036854775808 := by decide
theorem i64_max : IntKind.i64.max = 9223372036854775807 := by decide
theorem u64_min : IntKind.u64.min = 0 := by decide
theorem u64_max : IntKind.u64.max = 18446744073709551615 := by decide

theorem rl_zip {r : Rho} : ∀ (ks : List IntKind) (ns : List Int), RL r (List.zipWith V.int ks ns) (List.zipWith Value.int ks ns)
  | [], _ => by simp
  | _ :: _, [] => by simp
  | k :: ks, n :: ns => by simp [rl_zip ks ns, V.R_int]
theorem one_zip : ∀ (ks : List IntKind) (ns : List Int), ∀ y ∈ List.zipWith Value.int ks ns, Value.oneCell' y = true
  | [], _, y, h => by simp at h
  | _ :: _, [], y, h => by simp at h
  | k :: ks, n :: ns, y, h => by
    simp at h
    rcases h with rfl | h
    · rfl
    · exact one_zip ks ns y h

theorem zip_byt : ∀ (m : Nat) (ns : List Int), ns.length = m → List.zipWith V.int (List.replicate m .u8) ns = byt m (fun i => ns.getD i 0)
  | 0, ns, h => by simp [byt, tab]
  | m + 1, [], h => by simp at h
  | m + 1, n :: ns, h => by
    rw [List.replicate_succ, List.zipWith_cons_cons, zip_byt m ns (by simpa using h)]
    simp only [byt, tab, List.range_succ_eq_map, List.map_cons, List.map_map]
    rfl

theorem okw_zip {P : Program} {w : World} {rc : Reach} {b : Nat} {t : TypeId} {d : TypeDesc} {ks : List IntKind} {v : Value} (ht : P.underlying t = some d) (hd : isAggD d = true) (hk : (P.cellTypes P.depth t).bind (kindsOf P) = some ks) (hn : P.cellsOf t = ks.length) (h : Value.okWide P w rc b t v) :
    ∃ ns : List Int, (∀ r, V.R r (.agg (List.zipWith V.int ks ns)) v) ∧ ns.length = ks.length ∧ ∀ (i : Nat) (k : IntKind) (n : Int), ks[i]? = some k → ns[i]? = some n → k.min ≤ n ∧ n ≤ k.max := by
  obtain ⟨ns, rfl, hl, hr⟩ := okw_cells ht hd hk hn h
  exact ⟨ns, fun r => V.R_agg.2 ⟨_, rfl, rl_zip _ _, one_zip _ _⟩, hl, hr⟩

/-- An argument of a row of bytes. -/
theorem okw_bytes (m : Nat) {P : Program} {w : World} {rc : Reach} {b : Nat} {t : TypeId} {d : TypeDesc} {v : Value} (ht : P.underlying t = some d) (hd : isAggD d = true) (hk : (P.cellTypes P.depth t).bind (kindsOf P) = some (List.replicate m .u8)) (hn : P.cellsOf t = m) (h : Value.okWide P w rc b t v) :
    ∃ f : Nat → Int, (∀ r, V.R r (.agg (byt m f)) v) ∧ ∀ i, 0 ≤ f i ∧ f i < 256 := by
  obtain ⟨ns, hR, hl, hr⟩ := okw_zip ht hd hk (by simpa using hn) h
  simp at hl
  refine ⟨fun i => ns.getD i 0, fun r => by rw [← zip_byt m ns hl]; exact hR r, fun i => ?_⟩
  rcases Nat.lt_or_ge i m with h | h
  · have := hr i .u8 (ns.getD i 0) (by simp [h]) (by simp [List.getD, List.getElem?_eq_getElem (show i < ns.length by omega)])
    simp only [u8_min, u8_max, i8_min, i8_max] at this
    simp only [List.getD] at *
    omega
  · simp [List.getD, List.getElem?_eq_none (show ns.length ≤ i by omega)]

/-- An argument of one small number and a row of bytes. -/
theorem okw_lead (m : Nat) {P : Program} {w : World} {rc : Reach} {b : Nat} {t : TypeId} {d : TypeDesc} {v : Value} (ht : P.underlying t = some d) (hd : isAggD d = true) (hk : (P.cellTypes P.depth t).bind (kindsOf P) = some (.i8 :: List.replicate m .u8)) (hn : P.cellsOf t = m + 1) (h : Value.okWide P w rc b t v) :
    ∃ (p : Int) (f : Nat → Int), (∀ r, V.R r (.agg (.int .i8 p :: byt m f)) v) ∧ (-128 ≤ p ∧ p < 128) ∧ ∀ i, 0 ≤ f i ∧ f i < 256 := by
  obtain ⟨ns, hR, hl, hr⟩ := okw_zip ht hd hk (by simpa using hn) h
  match ns, hl with
  | [], hl => simp at hl
  | p :: ns, hl =>
    simp at hl
    refine ⟨p, fun i => ns.getD i 0, fun r => ?_, ?_, fun i => ?_⟩
    · have := hR r
      rwa [List.zipWith_cons_cons, zip_byt m ns hl] at this
    · have := hr 0 .i8 p rfl rfl
      simp only [u8_min, u8_max, i8_min, i8_max] at this
      omega
    · rcases Nat.lt_or_ge i m with h | h
      · have := hr (i + 1) .u8 (ns.getD i 0) (by simp [h]) (by simp [List.getD, List.getElem?_eq_getElem (show i < ns.length by omega)])
        simp only [u8_min, u8_max, i8_min, i8_max] at this
        simp only [List.getD] at *
        omega
      · simp [List.getD, List.getElem?_eq_none (show ns.length ≤ i by omega)]

theorem okw_layer {P : Program} {w : World} {rc : Reach} {b : Nat} {t : TypeId} {d : TypeDesc} {v : Value} (ht : P.underlying t = some d) (hd : isAggD d = true) (hk : (P.cellTypes P.depth t).bind (kindsOf P) = some (.i8 :: List.replicate 64 .u8)) (hn : P.cellsOf t = 65) (h : Value.okWide P w rc b t v) :
    ∃ (p : Int) (f : Nat → Int), (∀ r, V.R r (lay p f) v) ∧ (-128 ≤ p ∧ p < 128) ∧ ∀ i, 0 ≤ f i ∧ f i < 256 := okw_lead 64 ht hd hk hn h
end Go.Ab
