/- A part of the proof library: names for blocks of memory, a small form of the code, and rules for walks over it. -/
import Derived.Test.YteidfholicaocaaW2b
import Derived.Test.YteidfholicaocaaU8b
set_option linter.all false
namespace Go.Proofs.Yteidfholicaocaa
open Go.Ab
set_option linter.all false
set_option maxHeartbeats 800000

section
variable {P : Go.Program} {ro : Bool}
/-- A call that only reads, whose result is told up to a number. -/
theorem call_ex {f : FuncId} (sig : List Nm) {args vs : List V} {E : List (List V)} {v : Nat → V} {L2 : Nat → List (List V)} {Q : Nat → Prop} {s : St} {K : V → St → Prop} (h : ∀ ro, Ct P ro f args E fun v' E' L' => ∃ c, Q c ∧ v' = v c ∧ E' = E ∧ L' = L2 c) (hE : SigOk s.blk sig s.m.length E) (hvs : vs = renL (nmap sig s.m.length) args) (ha : eoL sig.length args) (hL : ∀ c, ∀ x ∈ L2 c, puL x) (hK : ∀ c, Q c → K ((v c).ren (nmap sig s.m.length)) { s with m := s.m ++ L2 c }) : callWp P ro f vs s K := by
  refine .inr ⟨sig, args, E, _, hE.first, .inl hvs, ha, h true, ?_⟩
  rintro v' E' L' ⟨c, hq, rfl, rfl, rfl⟩
  have h7 : ∀ (X : List (List V)), (∀ c ∈ X, puL c) → X.map (renL (nmap sig s.m.length)) = X := fun X hX => by
    conv => rhs; rw [← List.map_id X]
    exact List.map_congr_left fun c hc => puL.ren c (hX c hc)
  have h8 : s.setBlks sig [] = s := by cases sig <;> simp [St.setBlks]
  simp only [St.after, List.map_nil, h8, h7 _ (hL c)]
  exact hK c hq
end

def ints (l : List Nat) : List V := l.map fun x : Nat => V.int .u8 (x : Int)
@[simp] theorem ints_len {l : List Nat} : (ints l).length = l.length := by simp [ints]
@[simp] theorem ints_pu {l : List Nat} : puL (ints l) := by
  unfold ints
  induction l with
  | nil => simp [puL]
  | cons a l ih => exact ⟨by simp [V.pu], ih⟩
@[simp] theorem ints_lt {l : List Nat} {k : Nat} : ltL k (ints l) := puL.lt _ ints_pu
@[simp] theorem ints_nb {l : List Nat} {b k : Nat} : nbL b k (ints l) := puL.nb _ ints_pu
theorem ints_get {l : List Nat} {i : Nat} (h : i < l.length) : (ints l)[i]? = some (.int .u8 (l[i] : Nat)) := by simp [ints, h]
theorem ints_upto (f : Nat → Nat) (n : Nat) : byt n f = ints (upto f n) := by simp [byt, tab, ints, upto, Function.comp_def]
theorem ints_getD (l : List Nat) : byt l.length (fun i => l.getD i 0) = ints l := by
  apply List.ext_getElem?
  intro i
  by_cases h : i < l.length
  · rw [byt_get h, ints_get h]; simp [List.getD, h]
  · rw [List.getElem?_eq_none (by simpa using h), List.getElem?_eq_none (by simpa using h)]

theorem idxOf_first {c : Nat} : ∀ (l : List Nat) (k : Nat), l[k]? = some c → (∀ j, j < k → ¬ l[j]? = some c) → l.idxOf c = k
  | [], k, h, _ => by simp at h
  | a :: l, 0, h, _ => by simp at h; subst h; simp
  | a :: l, k + 1, h, h2 => by
    have ha : ¬ a = c := fun e => h2 0 (by omega) (by simp [e])
    rw [List.idxOf_cons, show (a == c) = false by simpa using ha, cond_false]
    rw [idxOf_first l k (by simpa using h) fun j hj => by have := h2 (j + 1) (by omega); simpa using this]
def ixI (l : List Nat) (c : Nat) : Int := if c ∈ l then (l.idxOf c : Int) else -1
theorem index_ct (l : List Nat) (tl : List V) (htl : puL tl) (hl : l.length ≤ 1048576) (c cap : Nat) (ro : Bool) : Ct Try.prog ro 134 [.sl (.e 0) 0 l.length cap, .int .u8 c] [ints l ++ tl] fun v E' L' => v = .int .i64 (ixI l c) ∧ E' = [ints l ++ tl] ∧ L' = [] := by
  refine ct_of slices_Index___uint8_uint8__ok ?_
  have hpu : puL (ints l ++ tl) := by simp [puL_append, htl]
  simp [slices_Index___uint8_uint8__F, slices_Index___uint8_uint8__M]
  refine wp_forR l.length (fun k => ⟨[(0, .sl (.e 0) 0 l.length cap), (1, .int .u8 c), (7, .int .i64 l.length), (8, .int .i64 k)], [], [ints l ++ tl]⟩) (fun k => ¬ l[k]? = some c) ?_ ?_ ?_
  · intro k hk hg
    have hk1 : (k : Int) < l.length := by omega
    have hwk : IntKind.i64.wrap ((k : Int) + 1) = k + 1 := wrap_i64 (by omega) (by omega)
    have hget : (ints l ++ tl)[k]? = some (.int .u8 (l[k] : Nat)) := by rw [List.getElem?_append_left (by simpa using hk)]; exact ints_get hk
    have hne : ¬ ((c : Int) = ((l[k] : Nat) : Int)) := fun e => hg (by rw [List.getElem?_eq_getElem hk]; congr 1; omega)
    generalize l[k] = x at *
    simp [slices_Index___uint8_uint8__L0, hk1, hk, hget, hne, hwk]
  · intro k hk hg hall
    have hk1 : (k : Int) < l.length := by omega
    have hget : (ints l ++ tl)[k]? = some (.int .u8 (l[k] : Nat)) := by rw [List.getElem?_append_left (by simpa using hk)]; exact ints_get hk
    have he : l[k] = c := by
      have := Classical.not_not.1 hg
      rw [List.getElem?_eq_getElem hk] at this; exact Option.some.inj this
    have hix : ixI l c = k := by
      have hmem : c ∈ l := he ▸ List.getElem_mem hk
      rw [ixI, if_pos hmem]
      rw [idxOf_first l k (by rw [List.getElem?_eq_getElem hk, he]) (fun j hj => hall j hj)]
    rw [he] at hget
    simp [slices_Index___uint8_uint8__L0, hk1, hk, hget, hix]
    exact ret_pu (by simp) (by simpa using hpu) (by simp)
  · intro hall
    have hix : ixI l c = -1 := by
      rw [ixI, if_neg fun hmem => ?_]
      obtain ⟨k, hk, he⟩ := List.mem_iff_getElem.1 hmem
      exact hall k hk (by rw [List.getElem?_eq_getElem hk, he])
    simp [slices_Index___uint8_uint8__L0, hix]
    exact ret_pu (by simp) (by simpa using hpu) (by simp)
theorem clone_ct (n : Nat) (h0 : 0 < n) (hn : n ≤ 1048576) (f : Nat → Nat) (ro : Bool) : Ct Try.prog ro 133 [.slx (.e 0) 0 n] [byt n f] fun v E' L' => ∃ cap : Nat, (n ≤ cap ∧ cap ≤ 9223372036854775807) ∧ v = .sl (.l 0) 0 n cap ∧ E' = [byt n f] ∧ L' = [byt n f] := by
  refine ct_of slices_Clone___uint8_uint8__ok ?_
  simp [slices_Clone___uint8_uint8__F, slices_Clone___uint8_uint8__M]
  simp [appWp, appNew, appGrow, show ¬ n = 0 by omega]
  refine ⟨by omega, by omega, fun nc h1 h2 => ?_⟩
  have hz : zrow [V.int .u8 0] (nc - n) = byt (nc - n) fun _ => 0 := by simp [zrow, byt, tab, Nat.mod_one]
  rw [hz]
  refine wkK_same (by simp) (by simp) (by simp [zrow, puL.lt]) ?_
  simp
  exact ret_new 1 (c := byt n f) (v' := .sl (.l 0) 0 n nc) (.inl (by simp [kmap])) (by simp) ⟨byt (nc - n) fun _ => 0, by simp⟩ (by simp) (by simp) ⟨nc, ⟨h1, by omega⟩, rfl, rfl, rfl⟩
/-- What is left of the others, and what is kept, behind i columns. -/
def lsS (f : Nat → Nat) (G : List Nat) : Nat → List Nat × List Nat
  | 0 => (G, [])
  | i + 1 => if f i ∈ (lsS f G i).1 then ((lsS f G i).1.eraseIdx ((lsS f G i).1.idxOf (f i)), (lsS f G i).2) else ((lsS f G i).1, (lsS f G i).2 ++ [f i])
theorem lsS_count (f : Nat → Nat) (G : List Nat) (v : Nat) : ∀ i, (lsS f G i).1.count v = G.count v - (upto f i).count v ∧ (lsS f G i).2.count v = (upto f i).count v - G.count v
  | 0 => by simp [lsS, upto]
  | i + 1 => by
    obtain ⟨h1, h2⟩ := lsS_count f G v i
    rw [upto_succ, List.count_append, List.count_singleton]
    simp only [lsS]
    split
    · rename_i hm
      have hc := List.count_pos_iff.2 hm
      have he : (lsS f G i).1.eraseIdx ((lsS f G i).1.idxOf (f i)) = (lsS f G i).1.erase (f i) := by rw [List.erase_eq_eraseIdx_of_idxOf rfl]
      rw [he, List.count_erase]
      by_cases e : f i = v
      · subst e
        simp
        omega
      · have e' : (f i == v) = false := by simpa using e
        have e'' : (v == f i) = false := by simpa using fun h => e h.symm
        simp [e', e'', h1, h2]
    · rename_i hm
      rw [List.count_append, List.count_singleton]
      by_cases e : f i = v
      · subst e
        have hc : (lsS f G i).1.count (f i) = 0 := List.count_eq_zero.2 hm
        simp
        omega
      · have e' : (f i == v) = false := by simpa using e
        simp [e', h1, h2]
theorem lsS_len (f : Nat → Nat) (G : List Nat) : ∀ i, (lsS f G i).1.length ≤ G.length ∧ (lsS f G i).2.length ≤ i ∧ (lsS f G i).2.length + G.length = (lsS f G i).1.length + i
  | 0 => by simp [lsS]
  | i + 1 => by
    obtain ⟨h1, h2, h3⟩ := lsS_len f G i
    simp only [lsS]
    split
    · rename_i hm
      have hlt := List.idxOf_lt_length_of_mem hm
      have he := List.length_eraseIdx_of_lt hlt
      dsimp only
      omega
    · simp; omega
theorem lsS_mem (f : Nat → Nat) (G : List Nat) : ∀ i, ∀ x ∈ (lsS f G i).2, ∃ j, j < i ∧ x = f j
  | 0 => by simp [lsS]
  | i + 1 => by
    intro x hx
    simp only [lsS] at hx
    split at hx
    · obtain ⟨j, hj, e⟩ := lsS_mem f G i x hx; exact ⟨j, by omega, e⟩
    · rcases List.mem_append.1 hx with hx | hx
      · obtain ⟨j, hj, e⟩ := lsS_mem f G i x hx; exact ⟨j, by omega, e⟩
      · simp at hx; exact ⟨i, by omega, hx⟩
theorem lsS_sd {n : Nat} {f : Nat → Nat} (hf : Sd n f) (G : List Nat) : ∀ i, i ≤ n → List.Pairwise (· ≤ ·) (lsS f G i).2
  | 0, _ => by simp [lsS]
  | i + 1, hi => by
    have h := lsS_sd hf G i (by omega)
    simp only [lsS]
    split
    · exact h
    · rw [List.pairwise_append]
      refine ⟨h, by simp, fun x hx y hy => ?_⟩
      obtain ⟨j, hj, rfl⟩ := lsS_mem f G i x hx
      simp at hy; subst hy
      exact hf j i hj (by omega)
theorem colh_count (f : Nat → Nat) (v : Nat) : ∀ n, colh f n v = ((upto f n).count v : Int)
  | 0 => rfl
  | n + 1 => by
    rw [upto_succ, List.count_append, List.count_singleton, colh, colh_count f v n]
    by_cases e : v = f n
    · subst e; simp
    · rw [if_neg e, show (f n == v) = false by simpa using fun h => e h.symm]; simp
theorem upto_getD (l : List Nat) : upto (fun i => l.getD i 0) l.length = l := by
  apply List.ext_getElem?
  intro i
  by_cases h : i < l.length
  · simp [upto, h, List.getD]
  · rw [List.getElem?_eq_none (by simp [upto]; omega), List.getElem?_eq_none (by omega)]
theorem sd_getD {l : List Nat} (h : List.Pairwise (· ≤ ·) l) : Sd l.length fun i => l.getD i 0 := by
  intro a b hab hb
  have := List.pairwise_iff_getElem.1 h a b (by omega) hb hab
  simpa [List.getD, hb, show a < l.length by omega] using this

theorem rl_zeros {r : Rho} : ∀ {z : Nat} {xs : List Value}, RL r (ints (List.replicate z 0)) xs → ∀ y ∈ xs, Value.oneCell' y = true := by
  intro z xs h y hy
  rw [rl_ints (l := List.replicate z 0) h] at hy
  obtain ⟨x, _, rfl⟩ := List.mem_map.1 hy
  rfl
theorem ints_app {a b : List Nat} : ints (a ++ b) = ints a ++ ints b := by simp [ints]
/-- slices.Delete of one column. -/
theorem delete1_ct (l : List Nat) (z k cap : Nat) (hk : k < l.length) (hcap : l.length ≤ cap) (hm : cap ≤ 9223372036854775807) :
    Ct Try.prog false 135 [.sl (.e 0) 0 l.length cap, .int .i64 k, .int .i64 ((k : Int) + 1)] [ints l ++ ints (List.replicate z 0)] fun v E' L' => v = .sl (.e 0) 0 (l.length - 1) cap ∧ E' = [ints (l.eraseIdx k) ++ ints (List.replicate (z + 1) 0)] ∧ L' = [] := by
  have h := delete_ct l (ints (List.replicate z 0)) k cap hk hcap hm (fun r xs => rl_zeros)
  have e : ((l.eraseIdx k ++ [0]).map fun x : Nat => V.int .u8 (x : Int)) ++ ints (List.replicate z 0) = ints (l.eraseIdx k) ++ ints (List.replicate (z + 1) 0) := by
    show ints (l.eraseIdx k ++ [0]) ++ _ = _
    rw [ints_app, List.replicate_succ, show (0 :: List.replicate z 0) = [0] ++ List.replicate z 0 from rfl, ints_app, List.append_assoc]
  rw [e] at h
  exact h

theorem lessColumns_ct (n m : Nat) (h0 : 0 < m) (hn : n ≤ 64) (hm : m ≤ 64) (f g : Nat → Nat) (ro : Bool) : Ct Try.prog ro 91 [.slx (.e 0) 0 n, .slx (.e 1) 0 m] [byt n f, byt m g] fun v E' L' => v = .slx (.l 0) 0 (lsS f (upto g m) n).2.length ∧ E' = [byt n f, byt m g] ∧ L' = [byt (lsS f (upto g m) n).2.length fun i => (lsS f (upto g m) n).2.getD i 0] := by
  refine ct_of impl_lessColumns_ok ?_
  simp only [impl_lessColumns_F, impl_lessColumns_M]
  refine wp_seq_opq fun R hR => ?_
  simp
  subst hR
  refine wp_seq_opq fun R hR => ?_
  simp
  refine call_ex [.e 1] (v := fun cap => .sl (.l 0) 0 m cap) (L2 := fun _ => [byt m g]) (clone_ct m h0 (by omega) g) (sigOk_mk (by simp) (by simp) (by simp [St.blk])) (by simp) (by simp) (by simp) ?_
  rintro cap ⟨hc1, hc2⟩
  simp
  subst hR
  simp
  have hG : (upto g m).length = m := by simp [upto]
  generalize hGG : upto g m = G at *
  refine wp_forI n (fun i st => ∃ z cap2 junk, (lsS f G i).2.length ≤ cap2 ∧ junk.length = cap2 - (lsS f G i).2.length ∧ puL junk ∧ st = ⟨[(1, .sl (.l 0) 0 (lsS f G i).1.length cap), (5, .sl (.l 1) 0 (lsS f G i).2.length cap2), (12, .slx (.e 0) 0 n), (13, .int .i64 n), (14, .int .i64 i)], [ints (lsS f G i).1 ++ ints (List.replicate z 0), ints (lsS f G i).2 ++ junk], [byt n f, byt m g]⟩) ?_ ?_ ?_
  · refine ⟨0, 0, [], by simp [lsS], by simp [lsS], by simp, ?_⟩
    simp [lsS, hG, ints_upto, hGG, ints, zrow]
  · rintro i st hi ⟨z, cap2, junk, hle, hj, hpj, rfl⟩
    have hi1 : (i : Int) < n := by omega
    have hwi : IntKind.i64.wrap ((i : Int) + 1) = i + 1 := wrap_i64 (by omega) (by omega)
    have hget := byt_get (f := f) hi
    obtain ⟨l1, l2, l3⟩ := lsS_len f G i
    have hlen1 : (lsS f G i).1.length ≤ 1048576 := by omega
    have hcap1 : (lsS f G i).1.length ≤ cap := by omega
    have hnx : lsS f G (i + 1) = if f i ∈ (lsS f G i).1 then ((lsS f G i).1.eraseIdx ((lsS f G i).1.idxOf (f i)), (lsS f G i).2) else ((lsS f G i).1, (lsS f G i).2 ++ [f i]) := rfl
    have hix := index_ct (lsS f G i).1 (ints (List.replicate z 0)) (by simp) hlen1 (f i) cap
    rw [hnx]
    generalize (lsS f G i).1 = o at *
    generalize (lsS f G i).2 = out at *
    have hpu : puL (ints o ++ ints (List.replicate z 0)) := by simp [puL_append]
    simp [impl_lessColumns_L0, hi1, hi, hget]
    by_cases hmem : f i ∈ o
    · have hix2 : ixI o (f i) = ((o.idxOf (f i) : Nat) : Int) := by rw [ixI, if_pos hmem]
      have hk := List.idxOf_lt_length_of_mem hmem
      rw [hix2] at hix
      simp only [if_pos hmem]
      generalize o.idxOf (f i) = k at *
      have hdl := delete1_ct o z k cap hk hcap1 hc2
      have hwk : IntKind.i64.wrap ((k : Int) + 1) = (k : Int) + 1 := wrap_i64 (by omega) (by omega)
      have hle2 := List.length_eraseIdx_of_lt hk
      refine call_s [.l 0] hix (by simp [hpu]) ?_
      simp [hwk]
      refine call_wg [.l 0] (L2 := []) hdl rfl (by simp [puL_append]) (by simp) ?_
      simp [hwi, puL.lt _ hpj]
      exact ⟨z + 1, cap2, hle, junk, hj, hpj, ⟨hle2.symm, rfl⟩, rfl, rfl⟩
    · have hix2 : ixI o (f i) = -1 := by rw [ixI, if_neg hmem]
      rw [hix2] at hix
      simp only [if_neg hmem]
      refine call_s [.l 0] hix (by simp [hpu]) ?_
      simp
      refine app_ownT 2 (d := some 31) [5, 28, 30] 1 out.length cap2 1 (data := ints out) (news := [.int .u8 (f i)]) (junk := junk) (by simp [appNew]) (by simp) (by simp) (by simp) (by simp) (by simp [hj]) hle (by omega) (by omega) (by simp) (by simp) hpj (by simp) (by simp) (by simp) (by simp) (by simp) (by simp [puL.nb _ hpj, puL.nb _ hpu]) ?_
      intro cap' junk' h1 h2 h3
      simp at h2
      simp [hwi, puL.lt _ h3]
      exact ⟨z, cap', h1, junk', h2, h3, rfl, rfl, by rw [ints_app, List.append_assoc]; rfl⟩
  · rintro st ⟨z, cap2, junk, hle, hj, hpj, rfl⟩
    simp [impl_lessColumns_L0]
    have hlt := (lsS_len f G n).2.1
    generalize (lsS f G n).2 = out at *
    rw [← ints_getD out]
    exact ret_new 1 (c := byt out.length fun i => out.getD i 0) (v' := .slx (.l 0) 0 out.length) (.inr (by simp [V.hid, hle, kmap])) (by simp) ⟨junk, by simp⟩ (by simp) (by simp) (by simp)
end Go.Proofs.Yteidfholicaocaa
