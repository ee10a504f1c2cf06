/- A part of the proof library: names for blocks of memory, a small form of the code, and rules for walks over it. -/
import Derived.Test.YteidfholicaocaaU1b
import Derived.Test.YteidfholicaocaaAb32
import Derived.Test.YteidfholicaocaaCode
set_option linter.all false
namespace Go.Proofs.Yteidfholicaocaa
open Go.Ab Go.RowKit Go.Shelf
set_option linter.all false

theorem cn_grew {ro : Bool} {W w w' : World} {r : Rho} {E : List (List V)} (h : Cn ro W r (mE E []) w) (hr : r.l = fun _ => none) (hB : Below w.heap.size w w') {g : Nat} {ty : TypeId} {cs : List V} {xs ys : List Value} (hg : w.heap.size ≤ g)
    (hblk : w'.heap[g]? = some (Obj.cells (List.toArray (xs ++ ys)) ty (0, 0))) (hR : RL (r.add 0 g) cs xs) (hone : ∀ y ∈ xs, Value.oneCell' y = true) : Cn ro W (r.add 0 g) (mE E [cs]) w' := by
  have hs := Rho.add_sub (r := r) (k := 0) g (by rw [hr])
  refine ⟨?_, ?_, ?_, h.ed, ?_, h.elt, ?_, ?_, Nat.le_trans h.size hB.size, hB.os.trans h.os, hB.tape.trans h.tape, hB.output.trans h.output⟩
  · intro n b hb
    cases n with
    | e j => exact h.nm (.e j) b hb
    | l j =>
      simp only [Rho.get, Rho.add, hr] at hb
      by_cases hj : j = 0
      · subst hj; simp [mE]
      · simp [hj] at hb
  · intro j cs' hj
    obtain ⟨b, us, vs, ty', fr, h1, h2, h3, h4⟩ := h.eb j cs' hj
    exact ⟨b, us, vs, ty', fr, h1, by rw [hB.block b (h.lt_size (n := .e j) h1)]; exact h2, RL.mono hs _ _ h3, h4⟩
  · intro j cs' hj
    by_cases h0 : j = 0
    · subst h0
      simp only [mE, List.getElem?_cons_zero, Option.some.injEq] at hj
      subst hj
      exact ⟨g, xs, ys, ty, by simp [Rho.add], hblk, hR, hone⟩
    · obtain ⟨k, rfl⟩ := Nat.exists_eq_succ_of_ne_zero h0
      simp [mE] at hj
  · intro i j b hi hj
    simp only [Rho.add, hr] at hi hj
    by_cases hi0 : i = 0
    · by_cases hj0 : j = 0
      · omega
      · simp [hj0] at hj
    · simp [hi0] at hi
  · intro k b hb
    simp only [Rho.add, hr] at hb
    by_cases hk0 : k = 0
    · simp [hk0] at hb; have := h.size; omega
    · simp [hk0] at hb
  · intro b hb hn
    rw [hB.block b (Nat.lt_of_lt_of_le hb h.size)]
    exact h.frame b hb hn

theorem rl_upto (r : Rho) (g : Nat → Nat) (n : Nat) : RL r (byt n g) ((upto g n).map fun x : Nat => Value.int .u8 (x : Int)) := by
  have key : ∀ l : List Nat, RL r (l.map fun i => V.int .u8 (g i : Int)) ((l.map g).map fun x : Nat => Value.int .u8 (x : Int)) := by
    intro l
    induction l with
    | nil => simp [RL]
    | cons a l ih => exact ⟨_, _, rfl, by simp [V.R], ih⟩
  simpa [byt, tab, upto, Function.comp_def] using key (List.range n)

theorem appendSeq_ct (n off cap : Nat) (h0 : 0 < n) (hn : n ≤ 1048576) (cs : List V) (g : Nat → Nat) (hcs : ∀ i, i < n → cs[off + i]? = some (.int .u8 (g i))) (ro : Bool) :
    Ct Try.prog ro 148 [.nilsl, .fn 147 [] [.ptr (.e 0) 0]] [[.sl (.e 1) off n cap], cs] fun v E' L' => v = .slx (.l 0) 0 n ∧ E' = [[.sl (.e 1) off n cap], cs] ∧ L' = [byt n g] := by
  intro W r w xs hr hC hxs
  simp only [RL, V.R] at hxs
  obtain ⟨x1, ys1, rfl, rfl, x2, ys2, rfl, ⟨us, vs, rfl, rfl, x3, ys3, rfl, ⟨Bs, hBs, rfl⟩, rfl⟩, rfl⟩ := hxs
  obtain ⟨y1, hy1, hy2⟩ := hC.cell (n := .e 0) (k := 0) (v := .sl (.e 1) off n cap) rfl hBs rfl
  obtain ⟨b, hb, rfl⟩ := V.R_sl.1 hy2
  have hI : ∀ j, j < n → w.cell? ⟨b, off + j, none⟩ = some (.int .u8 ((g j : Nat) : Int)) := fun j hj => by
    obtain ⟨y, hy, hR⟩ := hC.cell (n := .e 1) (k := off + j) (v := .int .u8 (g j)) rfl hb (hcs j hj)
    rw [V.R_int] at hR
    rw [hy, hR]
  have hBl := hC.lt_size hBs
  have hbl := hC.lt_size hb
  refine callsIn_wide.1 ((appendSeq_in Fence.wide 3 trivial trivial rfl (by omega) Bs b off n cap g hn w hBl hbl hy1 hI).mono ?_)
  rintro e W' ⟨v, rfl, ⟨hl, hv | ⟨g', cap', cur, rfl, hbase, hblk, hle, -, hcur, htake⟩⟩, hB⟩
  · omega
  · refine ⟨_, r.add 0 g', .slx (.l 0) 0 n, _, _, rfl, rfl, ⟨rfl, rfl, rfl⟩, ?_, ?_⟩
    · simp only [V.R, Rho.get, Rho.add]
      exact ⟨g', cap', by simp, rfl, hle⟩
    · have hsplit : cur = List.toArray (((upto g n).map fun x : Nat => Value.int .u8 (x : Int)) ++ cur.toList.drop n) := by
        rw [← htake, Nat.mul_one, List.take_append_drop]
      refine cn_grew hC hr hB (ty := 5) (ys := cur.toList.drop n) hbase (by rw [hblk]; exact congrArg (fun c => some (Obj.cells c 5 (0, 0))) hsplit) (rl_upto _ _ _) ?_
      intro y hy
      simp only [List.mem_map] at hy
      obtain ⟨x, -, rfl⟩ := hy
      rfl
end Go.Proofs.Yteidfholicaocaa
