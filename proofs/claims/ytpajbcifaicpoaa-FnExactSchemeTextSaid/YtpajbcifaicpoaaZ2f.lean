/- A part of the proof library: names for blocks of memory, a small form of the code, and rules for walks over it. -/
import Derived.Test.YtpajbcifaicpoaaZ1f
import Derived.BigCall
import Derived.Test.YtpajbcifaicpoaaAb30
set_option linter.all false
namespace Go.Proofs.Ytpajbcifaicpoaa
open Go.Shelf Go.RowKit
set_option linter.all false

/-- The marks of a row. -/
def mks (x : Nat) : Nat → List UInt8
  | 0 => []
  | k + 1 => mks x k ++ [if x.testBit k then 35 else 46]
theorem mks_len (x : Nat) : ∀ p, (mks x p).length = p
  | 0 => rfl
  | p + 1 => by simp [mks, mks_len x p]

theorem sign_in (b : Bool) (w : World) : Calls Try.prog 29 #[.bool b] w fun e w' => e = .returned (.int .u8 (if b then 35 else 46)) ∧ w' = w := by
  go_enter Try.func29, Try.ntmps29
  cases b
  · go_wp2
    go_ret
    exact ⟨rfl, rfl⟩
  · go_wp2
    go_ret
    exact ⟨rfl, rfl⟩

theorem bit_and (x k : Nat) (hx : x < 256) : (bits BinOp.and IntKind.u8 ((x : Int) / 2 ^ k) 1 = 1) ↔ x.testBit k = true := by
  have h1 : ((x : Int) / 2 ^ k) = ((x / 2 ^ k : Nat) : Int) := by simp
  have h2 : x / 2 ^ k < 256 := Nat.lt_of_le_of_lt (Nat.div_le_self _ _) hx
  rw [h1, show bits BinOp.and IntKind.u8 ((x / 2 ^ k : Nat) : Int) 1 = Go.Ab.andI .u8 ((x / 2 ^ k : Nat) : Int) 1 from rfl, Go.Ab.and8_one h2, Nat.testBit_eq_decide_div_mod_eq]
  simp only [decide_eq_true_eq]
  omega
set_option maxHeartbeats 4000000 in
set_option maxRecDepth 1000000 in
theorem row_in (S B p x : Nat) (hp : p ≤ 8) (hx : x < 256) (acc : List UInt8) (ha : acc.length ≤ 1000000) (w : World) (hS : S < B) (hB : Lib.IsBuilder 53 5 B B (Lib.byteCells acc) w) (hBw : B < w.heap.size) (hc : w.cell? ⟨S, 1, none⟩ = some (.int .i8 p)) :
    Calls Try.prog 27 #[.int .u8 x, .pointer (some ⟨S, 0, none⟩), .pointer (some ⟨B, 0, none⟩)] w fun e w' => e = .returned (.tuple #[]) ∧ Lib.IsBuilder 53 5 B B (Lib.byteCells (acc ++ mks x p)) w' ∧ Below B w w' := by
  go_enter Try.func27, Try.ntmps27
  go_wp2
  go_loopw [7] (fun i wr => ∃ k : Nat, k ≤ p ∧ i = .int .i8 k ∧ Lib.IsBuilder 53 5 B B (Lib.byteCells (acc ++ mks x k)) wr ∧ Below B w wr) (fun i _ => p - (intOf i).toNat)
  case atStart => exact ⟨0, Nat.zero_le _, rfl, by simpa [mks] using hB, Below.refl _ _⟩
  case round =>
    obtain ⟨k, hk, rfl, hI, hbw⟩ := hrel
    by_cases hlt : k < p
    · have hba := bit_and x k hx
      have hl : (Lib.byteCells (acc ++ mks x k)).length + 1 ≤ 140737488355328 := by rw [Lib.byteCells_length, List.length_append, mks_len]; omega
      have hsz : B ≤ wr.heap.size := Nat.le_trans (Nat.le_of_lt hBw) hbw.size
      by_cases hb : bits BinOp.and IntKind.u8 ((x : Int) / 2 ^ k) 1 = 1
      · go_wp2_with (go_at_call 29; refine (sign_in _ _).mono ?_; rintro e w1 ⟨rfl, rfl⟩)
        go_wp2_with (go_at_call 28; refine (writeByte B B _ _ _ hI hl hsz).mono ?_)
        rintro e W1 ⟨rfl, h1, b1⟩
        go_wp2
        go_roundw
        case rel =>
          refine ⟨k + 1, by omega, by simp, ?_, hbw.trans b1⟩
          rw [mks, if_pos (hba.1 hb), ← List.append_assoc, Lib.byteCells_append]
          exact Or.inr h1
        case measure => simp [intOf]; omega
      · have hb' : (bits BinOp.and IntKind.u8 ((x : Int) / 2 ^ k) 1 == 1) = false := by simpa using hb
        go_wp2_with (go_at_call 29; refine (sign_in _ _).mono ?_; rintro e w1 ⟨rfl, rfl⟩)
        go_wp2_with (go_at_call 28; refine (writeByte B B _ _ _ hI hl hsz).mono ?_)
        rintro e W1 ⟨rfl, h1, b1⟩
        go_wp2
        go_roundw
        case rel =>
          refine ⟨k + 1, by omega, by simp, ?_, hbw.trans b1⟩
          rw [mks, if_neg (fun h => hb (hba.2 h)), ← List.append_assoc, Lib.byteCells_append]
          exact Or.inr h1
        case measure => simp [intOf]; omega
    · obtain rfl : k = p := by omega
      go_wp2
      go_end0
      exact ⟨rfl, hI, hbw⟩

/-- The text of a scheme's first i shares. -/
def txt (p : Nat) (w b : Nat → Nat) : Nat → List UInt8
  | 0 => []
  | i + 1 => txt p w b i ++ mks (w i) p ++ [32] ++ mks (b i) p ++ [10]
theorem txt_len (p : Nat) (w b : Nat → Nat) : ∀ i, (txt p w b i).length = i * (2 * p + 2)
  | 0 => by simp [txt]
  | i + 1 => by
    have := txt_len p w b i
    simp only [txt, List.length_append, this, mks_len, List.length_cons, List.length_nil, Nat.add_mul]
    omega

theorem box_cell {w wr W : World} {cs : Array Value} {T : TypeId} (h1 : Below (w.heap.size + 1) (w.alloc (.cells cs T)) wr) (h2 : Below (w.heap.size + 1) wr W) (j : Nat) (v : Value) (hv : cs[j]? = some v) : W.cell? ⟨w.heap.size, j, none⟩ = some v := by
  rw [h2.cell (p := ⟨w.heap.size, j, none⟩) (Nat.lt_succ_self _), h1.cell (p := ⟨w.heap.size, j, none⟩) (Nat.lt_succ_self _)]
  simp only [World.cell?, World.alloc, Array.getElem?_push, if_pos, hv]
  rfl
theorem fresh_at (w : World) (cs : Array Value) (T : TypeId) : Lib.IsBuilder 53 5 (w.heap.size + 1) (w.heap.size + 1) (Lib.byteCells []) ((w.alloc (.cells cs T)).alloc (.cells #[.pointer none, .slice none 0 0] 53)) := by
  have h := Lib.fresh_isBuilder 53 5 (w.alloc (.cells cs T))
  have e : (w.alloc (.cells cs T)).heap.size = w.heap.size + 1 := Array.size_push _
  rw [e] at h
  exact h
theorem builder_lt {B : Nat} {bs : List Value} {w : World} (h : Lib.IsBuilder 53 5 B B bs w) : B < w.heap.size := by
  rcases h with ⟨_, v, hblk, _⟩ | ⟨_, v, hblk, _⟩
  · exact (Array.getElem?_eq_some_iff.1 hblk).1
  · exact (Array.getElem?_eq_some_iff.1 hblk).1
set_option maxHeartbeats 8000000 in
set_option maxRecDepth 1000000 in
theorem schemeText_in (m p : Nat) (hm : m ≤ 6) (hp : p ≤ 8) (f g : Nat → Nat) (hf : ∀ i, f i < 256) (hg : ∀ i, g i < 256) (cs : Array Value) (hcs : cs.size = 14) (h0 : cs[0]? = some (.int .i8 m)) (h1 : cs[1]? = some (.int .i8 p)) (h2 : ∀ i, i < 6 → cs[2 + i]? = some (.int .u8 (f i))) (h3 : ∀ i, i < 6 → cs[8 + i]? = some (.int .u8 (g i))) (w : World) :
    Calls Try.prog 15 #[.agg cs] w fun e w' => e = .returned (.string ⟨(txt p f g m).toArray⟩) ∧ Below w.heap.size w w' := by
  have e0 : cs[0] = .int .i8 m := by rw [Array.getElem?_eq_getElem (by omega)] at h0; exact Option.some.inj h0
  go_enter Try.func15, Try.ntmps15
  go_wp2
  go_loopw [11] (fun i wr => ∃ k : Nat, k ≤ m ∧ i = .int .i64 k ∧ Lib.IsBuilder 53 5 (w.heap.size + 1) (w.heap.size + 1) (Lib.byteCells (txt p f g k)) wr ∧ Below (w.heap.size + 1) (w.alloc (.cells cs 27)) wr) (fun i _ => m - (intOf i).toNat)
  case atStart => exact ⟨0, Nat.zero_le _, rfl, fresh_at w cs 27, (Below.refl _ _).alloc (by simp) _⟩
  case round =>
    obtain ⟨k, hk, rfl, hI, hbw⟩ := hrel
    have hszr := builder_lt hI
    by_cases hlt : k < m
    · have hlen := txt_len p f g k
      have hkm : k * (2 * p + 2) ≤ 6 * 18 := Nat.mul_le_mul (by omega) (by omega)
      have c1 := box_cell hbw (Below.refl _ _) (2 + k) _ (h2 k (by omega))
      have cp := box_cell hbw (Below.refl _ _) 1 _ h1
      go_wp2_with (go_at_call 27; refine (row_in w.heap.size (w.heap.size + 1) p (f k) hp (hf k) _ (by omega) wr (by omega) hI hszr cp).mono ?_)
      rintro e W1 ⟨rfl, i1, b1⟩
      have l1 : (Lib.byteCells (txt p f g k ++ mks (f k) p)).length + 1 ≤ 140737488355328 := by rw [Lib.byteCells_length, List.length_append, mks_len]; omega
      have s1 := builder_lt i1
      have c2 := box_cell hbw b1 (8 + k) _ (h3 k (by omega))
      go_wp2_with (go_at_call 28; refine (writeByte (w.heap.size + 1) (w.heap.size + 1) _ 32 W1 i1 l1 (Nat.le_of_lt s1)).mono ?_)
      rintro e W2 ⟨rfl, i2, b2⟩
      have i2' : Lib.IsBuilder 53 5 (w.heap.size + 1) (w.heap.size + 1) (Lib.byteCells (txt p f g k ++ mks (f k) p ++ [32])) W2 := by
        rw [Lib.byteCells_append]; exact Or.inr i2
      have s2 := builder_lt i2'
      have cp2 := box_cell hbw (b1.trans b2) 1 _ h1
      have c3 := box_cell hbw (b1.trans b2) (8 + k) _ (h3 k (by omega))
      have ln2 : (txt p f g k ++ mks (f k) p ++ [32]).length ≤ 1000000 := by simp only [List.length_append, mks_len, List.length_cons, List.length_nil]; omega
      go_wp2_with (go_at_call 27; refine (row_in w.heap.size (w.heap.size + 1) p (g k) hp (hg k) _ ln2 W2 (by omega) i2' s2 cp2).mono ?_)
      rintro e W3 ⟨rfl, i3, b3⟩
      have s3 := builder_lt i3
      have l3 : (Lib.byteCells (txt p f g k ++ mks (f k) p ++ [32] ++ mks (g k) p)).length + 1 ≤ 140737488355328 := by rw [Lib.byteCells_length, List.length_append, mks_len]; omega
      go_wp2_with (go_at_call 28; refine (writeByte (w.heap.size + 1) (w.heap.size + 1) _ 10 W3 i3 l3 (Nat.le_of_lt s3)).mono ?_)
      rintro e W4 ⟨rfl, i4, b4⟩
      go_wp2
      go_roundw
      case rel =>
        refine ⟨k + 1, by omega, by simp, ?_, hbw.trans (b1.trans (b2.trans (b3.trans b4)))⟩
        rw [txt, Lib.byteCells_append]
        exact Or.inr i4
      case measure => simp [intOf]; omega
    · obtain rfl : k = m := by omega
      go_wp2_with (go_at_call 30; refine (bString (w.heap.size + 1) (w.heap.size + 1) _ wr hI (by omega)).mono ?_)
      rintro e W1 ⟨rfl, b1⟩
      go_wp2
      go_ret
      have hb := hbw.trans b1
      exact ⟨rfl, ⟨hb.os, hb.tape, hb.output, by have := hb.size; simp at this; omega, fun j hj => by rw [hb.block j (by omega)]; exact (Array.getElem?_push_lt hj).trans (Array.getElem?_eq_getElem hj).symm⟩⟩
end Go.Proofs.Ytpajbcifaicpoaa
