/- A part of the proof library: names for blocks of memory, a small form of the code, and rules for walks over it. -/
import Derived.Test.YtpajbcifaicpoaaDoorZ4g
import Derived.Test.YtpajbcifaicpoaaDoorZ5g
import Derived.BigCall
import Derived.Deep.MidRow
import Derived.Test.YtpajbcifaicpoaaDoorAb30
set_option linter.all false
namespace Go.Proofs.YtpajbcifaicpoaaDoor
open Go.Shelf Go.RowKit
set_option linter.all false

theorem pc_str {P : Program} {f : FuncId} {args : List Go.Ab.V} {t : ByteArray} (h : Go.Ab.PC P f args (.str t)) {W : World} {xs : List Value} (hxs : Go.Ab.RL ⟨[], fun _ => none⟩ args xs) : Calls P f (List.toArray xs) W fun e W' => e = .returned (.string t) ∧ Below W.heap.size W W' := by
  refine (h true W _ W xs rfl (Go.Ab.Cn.triv W) hxs).mono ?_
  rintro e W' ⟨x, r', v, E', L', rfl, _, ⟨rfl, _, _⟩, hR, hC'⟩
  simp only [Go.Ab.V.R] at hR
  subst hR
  exact ⟨rfl, hC'.os, hC'.tape, hC'.output, hC'.size, fun k hk => hC'.frame k hk (.inl rfl)⟩
theorem itoa_in (n : Nat) (hn : n < 10) (w : World) : Calls Tryd.prog 47 #[.int .i64 n] w fun e w' => e = .returned (.string ⟨[dgb n].toArray⟩) ∧ Below w.heap.size w w' :=
  pc_str (xs := [.int .i64 n]) (itoa_pc n hn) (by simp [Go.Ab.RL, Go.Ab.V.R])
theorem box_cell {w wr W : World} {cs : Array Value} {T : TypeId} (h1 : Below (w.heap.size + 1) (w.alloc (.cells cs T)) wr) (h2 : Below (w.heap.size + 1) wr W) (j : Nat) (v : Value) (hv : cs[j]? = some v) : W.cell? ⟨w.heap.size, j, none⟩ = some v := by
  rw [h2.cell (p := ⟨w.heap.size, j, none⟩) (Nat.lt_succ_self _), h1.cell (p := ⟨w.heap.size, j, none⟩) (Nat.lt_succ_self _)]
  simp only [World.cell?, World.alloc, Array.getElem?_push, if_pos, hv]
  rfl
theorem fresh_at (w : World) (cs : Array Value) (T : TypeId) : Lib.IsBuilder 57 5 (w.heap.size + 1) (w.heap.size + 1) (Lib.byteCells []) ((w.alloc (.cells cs T)).alloc (.cells #[.pointer none, .slice none 0 0] 57)) := by
  have h := Lib.fresh_isBuilder 57 5 (w.alloc (.cells cs T))
  have e : (w.alloc (.cells cs T)).heap.size = w.heap.size + 1 := Array.size_push _
  rw [e] at h
  exact h
theorem builder_lt {B : Nat} {bs : List Value} {w : World} (h : Lib.IsBuilder 57 5 B B bs w) : B < w.heap.size := by
  rcases h with ⟨_, v, hblk, _⟩ | ⟨_, v, hblk, _⟩
  · exact (Array.getElem?_eq_some_iff.1 hblk).1
  · exact (Array.getElem?_eq_some_iff.1 hblk).1
theorem ix_agg (A : Array Value) (hA : A.size = 64) (k : Nat) (hk : k < 64) (x : Nat) (hv : A[k]? = some (.int .u8 x)) (W : World) : (Instr.index 23 (.agg A) (.int .i64 k)).run Tryd.prog W = .ok (.int .u8 x) W := by
  have hu : Tryd.prog.underlying 23 = some (.array 64 5) := Tryd.underlying23
  have h1 : A[k] = .int .u8 x := by rw [Array.getElem?_eq_getElem (by omega)] at hv; exact Option.some.inj hv
  have hb : 0 ≤ (k : Int) ∧ (k : Int) < 64 := by omega
  simp only [Instr.index, asIntOf, Sem.run_bind, Go.Ab.run_underlying' W hu, Result.andThen_ok, Sem.run_pure]
  rw [if_pos (show 0 ≤ (k : Int) ∧ (k : Int) < ((64 : Nat) : Int) from hb)]
  have hp : (part 5 A ((k : Int).toNat * 1)).run Tryd.prog W = .ok (.int .u8 x) W := by
    simp [part, Tryd.isAgg5, hv]
  simp only [Sem.run_bind, Tryd.sizeOf5, Result.andThen_ok]
  exact hp
theorem ix_str (n : Nat) (hn : n < 16) (k : IntKind) (W : World) : (Instr.index 9 (.string ⟨#[48, 49, 50, 51, 52, 53, 54, 55, 56, 57, 97, 98, 99, 100, 101, 102]⟩) (.int k n)).run Tryd.prog W = .ok (.int .u8 (hexd n).toNat) W := by
  have hu : Tryd.prog.underlying 9 = some .string := Tryd.underlying9
  have hget := Go.Ab.get_byte ⟨#[48, 49, 50, 51, 52, 53, 54, 55, 56, 57, 97, 98, 99, 100, 101, 102]⟩ n _ (hex_at hn)
  simp only [Instr.index, asIntOf, Sem.run_bind, Go.Ab.run_underlying' W hu, Result.andThen_ok, Sem.run_pure]
  rw [if_pos (by omega), Int.toNat_natCast, hget]
  rfl
set_option maxHeartbeats 8000000 in
set_option maxRecDepth 1000000 in
theorem layerText_in (p : Nat) (hp : p ≤ 8) (f : Nat → Nat) (hf : ∀ i, f i < 256) (cs : Array Value) (hcs : cs.size = 65) (h0 : cs[0]? = some (.int .i8 p)) (h1 : ∀ i, i < 64 → cs[1 + i]? = some (.int .u8 (f i))) (w : World) :
    Calls Tryd.prog 25 #[.agg cs] w fun e w' => e = .returned (.string ⟨(ltx p f 64).toArray⟩) ∧ Below w.heap.size w w' := by
  have e0 : cs[0] = .int .i8 p := by rw [Array.getElem?_eq_getElem (by omega)] at h0; exact Option.some.inj h0
  go_enter Tryd.func25, Tryd.ntmps25
  have hw0 : (w.alloc (.cells cs 27)).heap.size = w.heap.size + 1 := Array.size_push _
  have hw1 : ((w.alloc (.cells cs 27)).alloc (.cells #[.pointer none, .slice none 0 0] 57)).heap.size = w.heap.size + 2 := by rw [show ∀ (W : World) o, (W.alloc o).heap.size = W.heap.size + 1 from fun _ _ => Array.size_push _, hw0]
  go_wp2_with (go_at_call 47; refine (itoa_in p (by omega) _).mono ?_)
  rintro e W1 ⟨rfl, b1⟩
  rw [hw1] at b1
  have i0 : Lib.IsBuilder 57 5 (w.heap.size + 1) (w.heap.size + 1) [] W1 := by
    refine Or.inl ⟨Nat.le_refl _, .slice none 0 0, ?_, World.ownsRow_nil _ _ _ _, by simp [Value.ownBlock]⟩
    rw [b1.block _ (by omega), ← hw0]
    exact heap_alloc_new _ _
  have s1 := builder_lt i0
  obtain ⟨S0, hS0⟩ : ∃ S0 : ByteArray, S0 = ⟨[dgb p, 10].toArray⟩ := ⟨_, rfl⟩
  have hS : ((⟨#[dgb p]⟩ : ByteArray) ++ ⟨#[10]⟩) = S0 := by rw [hS0]; rfl
  have hS2 : S0.size = 2 := by rw [hS0]; rfl
  have hl2 : ([] : List Value).length + S0.size ≤ 140737488355328 := by rw [hS2]; decide
  have hS3 : Lib.strCells S0 = Lib.byteCells [dgb p, 10] := by rw [hS0]; rfl
  clear hS0
  have hrg : ∀ W2 : World, Below (w.heap.size + 1) (w.alloc (.cells cs 27)) W2 → W2.rangeAt w.heap.size 1 ((List.range 64).map fun i => Value.int .u8 (f i)) := by
    intro W2 c0 j v hj
    simp only [List.getElem?_map, Option.map_eq_some_iff] at hj
    obtain ⟨i, hi, rfl⟩ := hj
    obtain ⟨h3, rfl⟩ := List.getElem?_eq_some_iff.1 hi
    rw [List.getElem_range]
    exact box_cell c0 (Below.refl _ _) (1 + j) _ (h1 j (by simpa using h3))
  have hr0 : Below (w.heap.size + 1) (w.alloc (.cells cs 27)) W1 := ⟨b1.os, b1.tape, b1.output, Nat.le_trans (by omega) b1.size, fun k hk => (b1.block k (by omega)).trans (Lib.alloc_old _ _ _ (by omega))⟩
  have hA : ∃ A : Array Value, ((List.range 64).map fun i => Value.int .u8 (f i)).toArray = A := ⟨_, rfl⟩
  obtain ⟨A, hA⟩ := hA
  have hAs : A.size = 64 := by rw [← hA]; simp
  have hAi : ∀ i, i < 64 → A[i]? = some (.int .u8 (f i)) := fun i hi => by rw [← hA]; simp [hi]
  clear b1
  go_wp2_with (first | (go_at_call 28; (try rw [hS]); refine (writeString (w.heap.size + 1) (w.heap.size + 1) [] S0 W1 i0 hl2 (Nat.le_of_lt s1)).mono ?_; rintro e W2 ⟨rfl, i2, b2⟩; have hc0 := hrg _ (hr0.trans b2)) | (refine wpList_load_mid rfl 23 (.tmp 13) rfl w.heap.size 1 rfl _ _ hc0 Tryd.underlying23 rfl (by kernel_rfl) ?_; rw [hA]; clear hc0))
  have i2' : Lib.IsBuilder 57 5 (w.heap.size + 1) (w.heap.size + 1) (Lib.byteCells (ltx p f 0)) W2 := by
    rw [hS3, List.nil_append] at i2
    exact Or.inr i2
  have c0 := hr0.trans b2
  clear hrg hr0 hl2 hS hS3 i2 b2 s1 i0
  go_loopw [15] (fun i wr => ∃ k : Nat, k ≤ 64 ∧ i = .int .i64 k ∧ Lib.IsBuilder 57 5 (w.heap.size + 1) (w.heap.size + 1) (Lib.byteCells (ltx p f k)) wr ∧ Below (w.heap.size + 1) (w.alloc (.cells cs 27)) wr) (fun i _ => 64 - (intOf i).toNat)
  case atStart => exact ⟨0, Nat.zero_le _, rfl, i2', c0⟩
  case round =>
    obtain ⟨k, hk, rfl, hI, hbw⟩ := hrel
    have hszr := builder_lt hI
    by_cases hlt : k < 64
    · have hlen := ltx_len p f k
      have hak := hAi k hlt
      have hfk := hf k
      have hix := ix_agg A hAs k hlt (f k) hak
      obtain ⟨a, ha⟩ : ∃ a, f k / 16 = a := ⟨_, rfl⟩
      obtain ⟨b, hb⟩ : ∃ b, f k % 16 = b := ⟨_, rfl⟩
      have ha1 : (f k : Int) / 16 = a := by omega
      have hb1 : bits BinOp.and IntKind.u8 (f k : Int) 15 = b := by
        rw [show bits BinOp.and IntKind.u8 (f k : Int) 15 = Go.Ab.andI .u8 (f k : Int) 15 from rfl, and15 hfk, hb]
      have hsa := ix_str a (by omega) .u8
      have hsb := ix_str b (by omega) .u8
      have hnx : ltx p f (k + 1) = ltx p f k ++ [hexd a] ++ [hexd b] ++ (if k % 8 = 7 then [10] else []) := by
        rw [ltx, ha, hb, List.append_assoc (ltx p f k) [hexd a] [hexd b]]; rfl
      have l0 : (Lib.byteCells (ltx p f k)).length + 1 ≤ 140737488355328 := by rw [Lib.byteCells_length]; omega
      go_wp2_with (go_at_call 48; refine (writeByte (w.heap.size + 1) (w.heap.size + 1) _ _ wr hI l0 (Nat.le_of_lt hszr)).mono ?_)
      rintro e W3 ⟨rfl, i3, b3⟩
      have i3' : Lib.IsBuilder 57 5 (w.heap.size + 1) (w.heap.size + 1) (Lib.byteCells (ltx p f k ++ [hexd a])) W3 := by
        rw [Lib.byteCells_append]; exact Or.inr i3
      have s3 := builder_lt i3'
      have l3 : (Lib.byteCells (ltx p f k ++ [hexd a])).length + 1 ≤ 140737488355328 := by rw [Lib.byteCells_length, List.length_append]; simp; omega
      clear i3
      go_wp2_with (go_at_call 48; refine (writeByte (w.heap.size + 1) (w.heap.size + 1) _ _ W3 i3' l3 (Nat.le_of_lt s3)).mono ?_)
      rintro e W4 ⟨rfl, i4, b4⟩
      have i4' : Lib.IsBuilder 57 5 (w.heap.size + 1) (w.heap.size + 1) (Lib.byteCells (ltx p f k ++ [hexd a] ++ [hexd b])) W4 := by
        rw [Lib.byteCells_append (ltx p f k ++ [hexd a])]; exact Or.inr i4
      have s4 := builder_lt i4'
      have l4 : (Lib.byteCells (ltx p f k ++ [hexd a] ++ [hexd b])).length + 1 ≤ 140737488355328 := by rw [Lib.byteCells_length]; simp; omega
      clear i4
      have hrem : ((k : Int).tmod 8) = ((k % 8 : Nat) : Int) := by rw [Int.tmod_eq_emod_of_nonneg (by omega)]; omega
      by_cases h7 : k % 8 = 7
      · rw [if_pos h7] at hnx
        have hrem7 : ((k : Int).tmod 8) = 7 := by rw [hrem, h7]; rfl
        clear hrem
        go_wp2_with (go_at_call 48; refine (writeByte (w.heap.size + 1) (w.heap.size + 1) _ _ W4 i4' l4 (Nat.le_of_lt s4)).mono ?_)
        rintro e W5 ⟨rfl, i5, b5⟩
        go_wp2
        go_roundw
        case rel =>
          refine ⟨k + 1, by omega, by simp, ?_, hbw.trans (b3.trans (b4.trans b5))⟩
          rw [hnx, Lib.byteCells_append]
          exact Or.inr i5
        case measure => simp [intOf]; omega
      · rw [if_neg h7, List.append_nil] at hnx
        have hrem7 : (((k : Int).tmod 8) == 7) = false := by rw [hrem]; simp; omega
        clear hrem
        go_wp2
        go_roundw
        case rel =>
          refine ⟨k + 1, by omega, by simp, ?_, hbw.trans (b3.trans b4)⟩
          rw [hnx]
          exact i4'
        case measure => simp [intOf]; omega
    · obtain rfl : k = 64 := by omega
      go_wp2_with (go_at_call 29; refine (bString (w.heap.size + 1) (w.heap.size + 1) _ wr hI (by omega)).mono ?_)
      rintro e W1 ⟨rfl, b1⟩
      go_wp2
      go_ret
      have hb := hbw.trans b1
      exact ⟨rfl, ⟨hb.os, hb.tape, hb.output, by have := hb.size; simp at this; omega, fun j hj => by rw [hb.block j (by omega)]; exact (Array.getElem?_push_lt hj).trans (Array.getElem?_eq_getElem hj).symm⟩⟩
end Go.Proofs.YtpajbcifaicpoaaDoor
