/- A part of the proof library: names for blocks of memory, a small form of the code, and rules for walks over it. -/
import Derived.Test.YtpajbcifaicpoaaDoorAb30
import Derived.Deep.Slices
set_option linter.all false
namespace Go.Ab
open Go.ChangeShapes Go.WideShapes Go.ChangeAt Go.RowKit Go.Deep

/-- A cell of memory that came in, told. -/
def convV : Value → V
  | .int k n => .int k n
  | v => .raw v
theorem convV_R {r : Rho} (v : Value) : V.R r (convV v) v := by cases v <;> simp [convV, V.R]
theorem convV_pu (v : Value) : (convV v).pu := by cases v <;> simp [convV]
/-- A block's cells, told. -/
def blkV (W : World) (b : Nat) : List V := match W.heap[b]? with | some (.cells arr _ _) => arr.toList.map convV | _ => []
theorem blkV_pu (W : World) (b : Nat) : puL (blkV W b) := by
  unfold blkV
  split
  · exact puL_map (fun v => convV_pu v) _
  · simp

theorem convL {r : Rho} : ∀ l : List Value, RL r (l.map convV) l
  | [] => by simp
  | v :: l => by simp [convV_R, convL l]

/-- Memory that came in, told block by block. -/
theorem Cn.blocks (W : World) (bs : List Nat) (hd : bs.Nodup) (hb : ∀ b ∈ bs, ∃ arr ty fr, W.heap[b]? = some (Obj.cells arr ty fr)) : Cn true W ⟨bs, fun _ => none⟩ (mE (bs.map (blkV W)) []) W := by
  refine ⟨?_, ?_, ?_, hd, ?_, ?_, ?_, fun _ _ _ => rfl, Nat.le_refl _, rfl, rfl, rfl⟩
  · intro n b h
    cases n with
    | e k => simp only [Rho.get] at h; simp [mE, h]
    | l k => simp [Rho.get] at h
  · intro k cs h
    simp only [mE, List.getElem?_map, Option.map_eq_some_iff] at h
    obtain ⟨b, h1, rfl⟩ := h
    obtain ⟨arr, ty, fr, h2⟩ := hb b (List.mem_of_getElem? h1)
    refine ⟨b, arr.toList, [], ty, fr, h1, by rw [h2]; simp, ?_, fun h => by cases h⟩
    simp only [blkV, h2]
    exact convL _
  · intro k cs h; simp [mE] at h
  · intro i j b h; simp at h
  · intro b h
    obtain ⟨arr, ty, fr, h2⟩ := hb b h
    exact (Array.getElem?_eq_some_iff.1 h2).1
  · intro k b h; simp at h

theorem blkV_at {W : World} {a : Addr} (hs : a.spot = none) {j : Nat} {v : Value} (h : W.cell? (a.add j) = some v) : (blkV W a.block)[a.off + j]? = some (convV v) ∧ ∃ arr ty fr, W.heap[a.block]? = some (Obj.cells arr ty fr) := by
  have e1 : (a.add j).block = a.block := by unfold Addr.add; split <;> rfl
  have e2 : (a.add j).off = a.off + j := by unfold Addr.add; split <;> simp_all
  have e3 : (a.add j).spot = none := by unfold Addr.add; split <;> simp_all
  unfold World.cell? at h
  rw [e1] at h
  split at h
  · rename_i arr ty fr hh
    rw [e3, e2] at h
    simp only [Option.isSome_none, Bool.false_eq_true, if_false] at h
    refine ⟨?_, arr, ty, fr, hh⟩
    simp only [blkV, hh, List.getElem?_map, Array.getElem?_toList, h, Option.map_some]
  · cases h

section
variable {H : Type} {enc : TypeId × Value → H} {P : Program} {W : World} {base : Nat} {held : Bool}

theorem okw_slice {rc : Reach} {b0 : Nat} {t e : TypeId} {v : Value} (ht : P.underlying t = some (.slice e)) (hval : Value.okWide P W rc b0 t v) :
    v = .slice none 0 0 ∨ ∃ (a : Addr) (len cap : Nat), v = .slice (some a) len cap ∧ len ≤ cap ∧ a.spot = none ∧ (cap : Int) ≤ 9223372036854775807 ∧ ∃ arr ty fr, W.heap[a.block]? = some (Obj.cells arr ty fr) := by
  simp only [Value.okWide, ht, Cell.okWide] at hval
  cases v <;> simp [Cell.ok, ht] at hval
  case slice p len cap =>
    cases p with
    | none =>
      left
      revert hval
      match len, cap with
      | 0, 0 => intro _; rfl
      | _ + 1, _ => intro h; simp [Cell.ok, ht] at h
      | 0, _ + 1 => intro h; simp [Cell.ok, ht] at h
    | some a =>
      right
      simp [Cell.ok, ht] at hval
      obtain ⟨h1, h2, h3⟩ := hval
      obtain ⟨_, hs, row, cells, hsh, _⟩ := h3
      refine ⟨a, len, cap, rfl, h1, hs, h2, ?_⟩
      unfold World.shape? at hsh
      split at hsh
      · rename_i arr ty fr hh; exact ⟨arr, ty, fr, hh⟩
      · cases hsh

/-- An argument of a slice of int8. -/
theorem open_i8s {rc : Reach} {b0 : Nat} {t e : TypeId} {v : Value} {d : DataW H} {ps : List MemPlace} (ht : P.underlying t = some (.slice e)) (he : P.underlying e = some (.int .i8)) (hc : P.cellsOf e = 1)
    (hval : Value.okWide P W rc b0 t v) (h : DataW.Trod enc P W base (fun _ => true) held t v d ps) :
    v = .slice none 0 0 ∨ ∃ (b off len cap : Nat) (F : Nat → Int), v = .slice (some ⟨b, off, none⟩) len cap ∧ len ≤ cap ∧ (∃ arr ty fr, W.heap[b]? = some (Obj.cells arr ty fr)) ∧
      (∀ i, i < len → (blkV W b)[off + i]? = some (.int .i8 (F i))) ∧ ∀ i, -128 ≤ F i ∧ F i < 128 := by
  rcases okw_slice ht hval with rfl | ⟨a, len, cap, rfl, hle, hs, hcap, hh⟩
  · exact .inl rfl
  right
  obtain ⟨fuel, hf⟩ := h
  rcases open_ints ht he hc hf with ⟨hcs, _⟩ | ⟨a', len', cap', zs, hcs, _, _, _, hzl, _, hcell, hwf⟩
  · simp [Value.cells] at hcs
  · simp [Value.cells] at hcs
    obtain ⟨rfl, rfl, rfl⟩ := hcs
    simp at hzl
    obtain ⟨b, off, spot⟩ := a
    simp at hs
    subst hs
    refine ⟨b, off, len, cap, fun i => zs[i]?.getD 0, rfl, hle, hh, fun i hi => ?_, fun i => ?_⟩
    · have h1 := hcell i (by omega)
      have := (blkV_at (a := ⟨b, off, none⟩) rfl h1).1
      simpa [convV, List.getD] using this
    · have := range_i8 hwf i
      show -128 ≤ zs[i]?.getD 0 ∧ zs[i]?.getD 0 < 128
      omega

/-- An argument of a slice of layers. -/
theorem open_lays {rc : Reach} {b0 : Nat} {t e u : TypeId} {f0 f1 : Field} {v : Value} {d : DataW H} {ps : List MemPlace} (ht : P.underlying t = some (.slice e)) (he : P.underlying e = some (.struct #[f0, f1])) (hec : P.cellsOf e = 65)
    (h0 : f0.offset = 0) (h0t : P.underlying f0.type = some (.int .i8)) (h0c : P.cellsOf f0.type = 1) (h1 : f1.offset = 1) (h1t : P.underlying f1.type = some (.array 64 u)) (h1c : P.cellsOf f1.type = 64) (hu : P.underlying u = some (.int .u8)) (huc : P.cellsOf u = 1)
    (hval : Value.okWide P W rc b0 t v) (h : DataW.Trod enc P W base (fun _ => true) held t v d ps) :
    v = .slice none 0 0 ∨ ∃ (b off len cap : Nat) (p : Nat → Int) (g : Nat → Nat → Nat), v = .slice (some ⟨b, off, none⟩) len cap ∧ len ≤ cap ∧ (∃ arr ty fr, W.heap[b]? = some (Obj.cells arr ty fr)) ∧
      (∀ i, i < len → ((blkV W b).drop (off + i * 65)).take 65 = layC (p i) (g i)) ∧ (∀ i, -128 ≤ p i ∧ p i < 128) ∧ (∀ i j, g i j < 256) ∧ (len : Int) ≤ 9223372036854775807 := by
  rcases okw_slice ht hval with rfl | ⟨a, len, cap, rfl, hle, hs, hcap, hh⟩
  · exact .inl rfl
  right
  obtain ⟨fuel, hf⟩ := h
  rcases open_slice ht hf with ⟨hcs, _⟩ | ⟨a', len', cap', m, n, D, Pl, hcs, _, _, _, hm, _, hx⟩
  · simp [Value.cells] at hcs
  simp [Value.cells] at hcs
  obtain ⟨rfl, rfl, rfl⟩ := hcs
  simp at hm
  subst hm
  obtain ⟨b, off, spot⟩ := a
  simp at hs
  subst hs
  have key : ∀ i, ∃ pg : Int × (Nat → Nat), (i < len → ((blkV W b).drop (off + i * 65)).take 65 = layC pg.1 pg.2) ∧ (-128 ≤ pg.1 ∧ pg.1 < 128) ∧ ∀ j, pg.2 j < 256 := by
    intro i
    by_cases hi : i < len
    · obtain ⟨cs, hcells, htr⟩ := hx i (by omega)
      rw [hec] at hcells
      obtain ⟨_, hl, hat⟩ := World.cells?_some hcells
      obtain ⟨y0, y1, n', _, _, g0, g1⟩ := trod_struct2 he htr
      rw [h0, h0c, List.drop_zero] at g0
      rw [h1, h1c] at g1
      obtain ⟨z, hz, _, hzw⟩ := DataW.trod_int h0t g0
      obtain ⟨xs, m', _, _, hl1, hxl, g2⟩ := DataW.trod_array h1t g1
      have hp := bounds_i8 hzw
      have hb : ∀ j, j < 64 → ∃ c : Nat, cs[1 + j]? = some (.int .u8 c) ∧ c < 256 := by
        intro j hj
        have hxj := g2 j hj
        rw [huc] at hxj
        obtain ⟨y, hy⟩ : ∃ y, xs[j]? = some y := ⟨xs[j]'(by omega), List.getElem?_eq_getElem _⟩
        rw [hy] at hxj
        obtain ⟨z, hz, _, hzw⟩ := DataW.trod_int hu hxj
        have hb := bounds_u8 hzw
        refine ⟨z.toNat, ?_, by omega⟩
        have hz0 := congrArg (fun l => l[0]?) hz
        simp only [Nat.mul_one, List.getElem?_take_of_lt (show 0 < 1 by omega), List.getElem?_drop, Nat.add_zero, List.getElem?_cons_zero] at hz0
        rw [List.getElem?_take_of_lt hj, List.getElem?_drop] at hz0
        rw [hz0]
        congr 2
        omega
      have hcs0 : cs[0]? = some (.int .i8 z) := by
        have hz0 := congrArg (fun l => l[0]?) hz
        simpa only [List.getElem?_take_of_lt (show 0 < 1 by omega), List.getElem?_cons_zero] using hz0
      refine ⟨(z, fun j => if hj : j < 64 then Classical.choose (hb j hj) else 0), fun _ => ?_, by simp; omega, fun j => ?_⟩
      · apply List.ext_getElem?
        intro j
        by_cases hj : j < 65
        · rw [List.getElem?_take_of_lt hj, List.getElem?_drop]
          have hc := hat j hj
          obtain ⟨v, hv⟩ : ∃ v, cs[j]? = some v := ⟨cs[j]'(by omega), List.getElem?_eq_getElem _⟩
          rw [hv, add_add] at hc
          have hbl := (blkV_at (a := ⟨b, off, none⟩) rfl hc).1
          rw [← Nat.add_assoc] at hbl
          rw [hbl]
          cases j with
          | zero =>
            rw [hcs0] at hv; cases hv
            rfl
          | succ j =>
            have hj' : j < 64 := by omega
            have hsp := Classical.choose_spec (hb j hj')
            have hsp1 : cs[j + 1]? = some (.int .u8 ((Classical.choose (hb j hj') : Nat) : Int)) := (congrArg (fun i => cs[i]?) (Nat.add_comm j 1)).trans hsp.1
            rw [hsp1] at hv; cases hv
            rw [Nat.add_comm j 1, layC_f hj']
            simp [convV, hj']
        · rw [List.getElem?_eq_none (by simp; omega), List.getElem?_eq_none (by simp; omega)]
      · simp only
        split
        · rename_i hj; exact (Classical.choose_spec (hb j hj)).2
        · omega
    · exact ⟨(0, fun _ => 0), fun h => absurd h hi, by simp, fun j => by simp⟩
  refine ⟨b, off, len, _, fun i => (Classical.choose (key i)).1, fun i => (Classical.choose (key i)).2, rfl, hle, hh, fun i hi => (Classical.choose_spec (key i)).1 hi, fun i => (Classical.choose_spec (key i)).2.1, fun i j => (Classical.choose_spec (key i)).2.2 j, by omega⟩
end
end Go.Ab
