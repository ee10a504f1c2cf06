/- A part of the proof library: names for blocks of memory, a small form of the code, and rules for walks over it. -/
import Derived.Test.YteidfholicaocaaProg
import Derived.Shelf.SlicesE.Delete
import Derived.Test.YteidfholicaocaaU3b
set_option linter.all false
namespace Go.Proofs.Yteidfholicaocaa
open Go.Ab Go.Sort Go.Shelf
set_option linter.all false

def dlRen : Ren := ⟨fun | 45 => 135 | n => n, fun | 0 => 0 | 3 => 3 | 4 => 4 | 22 => 60 | 23 => 5 | n => n, fun n => n⟩
theorem dlLay : SlLaysE.n45 Try.prog dlRen where
  mixed := by kernel_rfl
  f45 := ⟨Try.f135.name, by kernel_rfl, Try.func135.trans (congrArg some (by kernel_rfl))⟩
  t0 := Try.underlying0
  a0 := Try.isAgg0
  z0 := Try.sizeOf0
  v0 := Try.zeroValue0
  t3 := Try.underlying3
  a3 := Try.isAgg3
  z3 := Try.sizeOf3
  v3 := Try.zeroValue3
  t4 := Try.underlying4
  a4 := Try.isAgg4
  z4 := Try.sizeOf4
  v4 := Try.zeroValue4
  t22 := Try.underlying60
  a22 := Try.isAgg60
  z22 := Try.sizeOf60
  v22 := Try.zeroValue60
  a23 := Try.isAgg5
  z23 := Try.sizeOf5
theorem rl_split {r : Rho} : ∀ {a b : List V} {xs : List Value}, RL r (a ++ b) xs → ∃ x1 x2, xs = x1 ++ x2 ∧ RL r a x1 ∧ RL r b x2
  | [], b, xs, h => ⟨[], xs, rfl, by simp [RL], h⟩
  | v :: a, b, xs, h => by
    simp only [List.cons_append, RL] at h
    obtain ⟨x, ys, rfl, h1, h2⟩ := h
    obtain ⟨x1, x2, rfl, h3, h4⟩ := rl_split h2
    exact ⟨x :: x1, x2, rfl, ⟨x, x1, rfl, h1, h3⟩, h4⟩
def encB (x : Nat) : Value := .int .u8 (x : Int)
theorem rl_ints {r : Rho} : ∀ {l : List Nat} {xs : List Value}, RL r (l.map fun x : Nat => V.int .u8 (x : Int)) xs → xs = l.map encB
  | [], xs, h => by simpa [RL] using h
  | a :: l, xs, h => by
    simp only [List.map_cons, RL, V.R] at h
    obtain ⟨x, ys, rfl, rfl, h2⟩ := h
    rw [rl_ints h2]; rfl
theorem rl_ints' (r : Rho) : ∀ l : List Nat, RL r (l.map fun x : Nat => V.int .u8 (x : Int)) (l.map encB)
  | [] => by simp [RL]
  | a :: l => ⟨_, _, rfl, by simp [V.R, encB], rl_ints' r l⟩
theorem putCells_at (d l1 : List Nat) (l2 : List Value) (hd : d.length = l1.length) : putCells encB 0 d.toArray (List.toArray (l1.map encB ++ l2)) = List.toArray (d.map encB ++ l2) := by
  apply Array.ext
  · simp [putCells, hd]
  · intro i h1 h2
    simp only [putCells, Array.getElem_mapIdx, Nat.zero_le, true_and, Nat.zero_add, List.size_toArray, Nat.sub_zero, List.getElem_toArray]
    by_cases hi : i < d.length
    · rw [if_pos hi, List.getElem_append_left (by simpa using hi)]
      simp [hi]
    · rw [if_neg hi, List.getElem_append_right (by simp; omega), List.getElem_append_right (by simp; omega)]
      simp [hd]
theorem cn_put {W w w' : World} {r : Rho} {cs cs' : List V} {b : Nat} (h : Cn false W r (mE [cs] []) w) (hr : r.l = fun _ => none) (hb : r.e[0]? = some b) (hk : ∀ k, k ≠ b → w'.heap[k]? = w.heap[k]?) {xs ys : List Value} {ty : TypeId}
    (hbk : w'.heap[b]? = some (Obj.cells (List.toArray (xs ++ ys)) ty (0, 0))) (hsz : w'.heap.size = w.heap.size) (ho : w'.os = w.os) (ht : w'.tape = w.tape) (hu : w'.output = w.output) (hR : RL r cs' xs) (hone : ∀ y ∈ xs, Value.oneCell' y = true) : Cn false W r (mE [cs'] []) w' := by
  refine ⟨?_, ?_, ?_, h.ed, h.ld, h.elt, h.lge, ?_, hsz ▸ h.size, ho.trans h.os, ht.trans h.tape, hu.trans h.output⟩
  · intro n b' hb'
    have h0 := h.nm n b' hb'
    cases n with
    | e j => cases j <;> simp [mE] at h0 ⊢
    | l j => simp [mE] at h0
  · intro j c hj
    cases j with
    | zero => simp only [mE, List.getElem?_cons_zero, Option.some.injEq] at hj; subst hj; exact ⟨b, xs, ys, ty, (0, 0), hb, hbk, hR, fun _ => ⟨rfl, hone⟩⟩
    | succ j => simp [mE] at hj
  · intro j c hj
    simp [mE] at hj
  · intro b' hb' hn
    rw [hk b' (fun e => ?_)]
    · exact h.frame b' hb' hn
    · subst e
      rcases hn with hn | hn
      · cases hn
      · exact hn (List.mem_of_getElem? hb)
theorem lays_int5 : ∀ w, (zeroValue 5).run Try.prog w = .ok (Value.int .u8 0) w := Try.zeroValue5

/-- A row of bytes without the one at k. -/
theorem delete_ct (l : List Nat) (tl : List V) (k cap : Nat) (hk : k < l.length) (hcap : l.length ≤ cap) (hm : cap ≤ 9223372036854775807) (htl : ∀ (r : Rho) (xs : List Value), RL r tl xs → ∀ y ∈ xs, Value.oneCell' y = true) :
    Ct Try.prog false 135 [.sl (.e 0) 0 l.length cap, .int .i64 k, .int .i64 ((k : Int) + 1)] [(l.map fun x : Nat => V.int .u8 (x : Int)) ++ tl] fun v E' L' => v = .sl (.e 0) 0 (l.length - 1) cap ∧ E' = [((l.eraseIdx k ++ [0]).map fun x : Nat => V.int .u8 (x : Int)) ++ tl] ∧ L' = [] := by
  intro W r w xs hr hC hxs
  simp only [RL, V.R] at hxs
  obtain ⟨x1, ys1, rfl, ⟨b, hb, rfl⟩, x2, ys2, rfl, rfl, x3, ys3, rfl, rfl, rfl⟩ := hxs
  obtain ⟨b', xs, ys, ty, fr, hb', hblk, hR, h4⟩ := hC.eb 0 _ rfl
  have hbb : b' = b := by simp only [Rho.get] at hb; rw [hb] at hb'; exact (Option.some.inj hb').symm
  subst hbb
  obtain ⟨rfl, hone⟩ := h4 rfl
  obtain ⟨xl, xt, rfl, hRl, hRt⟩ := rl_split hR
  have hxl := rl_ints hRl
  subst hxl
  obtain ⟨i0, hi, hz0, hz1, hz2⟩ := info_parts info5
  have hH : Holds encB w b' 0 l.toArray := by
    intro j hj
    simp only [List.size_toArray] at hj
    refine ⟨?_, ?_⟩
    · simp only [World.cell?, hblk, Nat.zero_add, List.getElem?_toArray]
      rw [List.append_assoc, List.getElem?_append_left (by simpa using hj)]
      simp [hj]
    · simp [World.frozen?, hblk]
  have key := AnyE.slices_Delete dlLay encB (fun _ => rfl) 0 lays_int5 i0 hi hz1 b' 0 cap k (k + 1) l.toArray w hH (by simpa using hcap) hm (by omega) (by simp; omega)
  refine Calls.mono (show Calls Try.prog 135 #[.slice (some ⟨b', 0, none⟩) l.length cap, .int .i64 k, .int .i64 ((k + 1 : Nat) : Int)] w _ from key) ?_
  rintro e w' ⟨rfl, q, rfl⟩
  have hd : (l.take k ++ l.drop (k + 1) ++ List.replicate (k + 1 - k) 0) = l.eraseIdx k ++ [0] := by
    rw [List.eraseIdx_eq_take_drop_succ, show k + 1 - k = 1 by omega]; rfl
  have hdl : (l.eraseIdx k ++ [0]).length = l.length := by rw [List.length_append, List.length_eraseIdx_of_lt hk]; simp; omega
  have hlen : l.toArray.size - (k + 1 - k) = l.length - 1 := by simp
  simp only [List.toList_toArray] at *
  rw [hd, hlen]
  have hbs : b' < w.heap.size := hC.lt_size (n := .e 0) hb
  refine ⟨_, r, .sl (.e 0) 0 (l.length - 1) cap, _, _, rfl, rfl, ⟨rfl, rfl, rfl⟩, ?_, ?_⟩
  · simp only [V.R]; exact ⟨b', hb, rfl⟩
  · refine cn_put (b := b') (xs := (l.eraseIdx k ++ [0]).map encB ++ xt) (ys := ys) (ty := ty) hC hr hb (fun j hj => ?_) ?_ ?_ rfl rfl rfl ?_ ?_
    · simp only [putRow, mapBlock, Sort.ahead]
      rw [Array.getElem?_modify, if_neg (fun e => hj e.symm)]
    · simp only [putRow, mapBlock, Sort.ahead]
      rw [Array.getElem?_modify, if_pos rfl, hblk]
      simp only [Option.map_some, onCells]
      rw [List.append_assoc, putCells_at _ l _ hdl, List.append_assoc]
    · simp [putRow, mapBlock, Sort.ahead]
    · exact RL.append (rl_ints' r _) hRt
    · intro y hy
      rcases List.mem_append.1 hy with hy | hy
      · obtain ⟨x, _, rfl⟩ := List.mem_map.1 hy; rfl
      · exact htl r xt hRt y hy
end Go.Proofs.Yteidfholicaocaa
