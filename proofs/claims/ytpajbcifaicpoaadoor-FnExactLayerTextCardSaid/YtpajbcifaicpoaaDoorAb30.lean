/- A part of the proof library: names for blocks of memory, a small form of the code, and rules for walks over it. -/
import Derived.Test.YtpajbcifaicpoaaDoorAb29
set_option linter.all false
namespace Go.Ab

section
variable {a : Nat}
theorem bit8_t {i : Nat} (ha : a < 256) (h : a.testBit i = true) : andI .u8 (shrI .u8 (a : Int) (i : Int)) 1 = 1 := by
  rw [shr8 ha, and8_one (div_lt ha)]
  rw [Nat.testBit_eq_decide_div_mod_eq, decide_eq_true_iff] at h
  rw [h]; rfl
theorem bit8_f {i : Nat} (ha : a < 256) (h : a.testBit i = false) : andI .u8 (shrI .u8 (a : Int) (i : Int)) 1 = 0 := by
  rw [shr8 ha, and8_one (div_lt ha)]
  rw [Nat.testBit_eq_decide_div_mod_eq, decide_eq_false_iff_not] at h
  rw [show a / 2 ^ i % 2 = 0 by omega]; rfl
theorem bit64_t {i : Nat} (ha : a < 18446744073709551616) (h : a.testBit i = true) : andI .u64 (shrI .u64 (a : Int) (i : Int)) 1 = 1 := by
  rw [shr64 ha, and64_one (div_lt ha)]
  rw [Nat.testBit_eq_decide_div_mod_eq, decide_eq_true_iff] at h
  rw [h]; rfl
theorem bit64_f {i : Nat} (ha : a < 18446744073709551616) (h : a.testBit i = false) : andI .u64 (shrI .u64 (a : Int) (i : Int)) 1 = 0 := by
  rw [shr64 ha, and64_one (div_lt ha)]
  rw [Nat.testBit_eq_decide_div_mod_eq, decide_eq_false_iff_not] at h
  rw [show a / 2 ^ i % 2 = 0 by omega]; rfl
/-- One bit of a byte, brought to another place. -/
theorem sel8 (ha : a < 256) (k : Nat) {i : Nat} (hi : i < 8) : shlI .u8 (andI .u8 (shrI .u8 (a : Int) (k : Int)) 1) (i : Int) = ((if a.testBit k = true then 2 ^ i else 0 : Nat) : Int) := by
  have hp : 2 ^ i < 256 := Nat.pow_lt_pow_right (by decide) (show i < 8 from hi)
  cases h : a.testBit k
  · rw [bit8_f ha h, show (0 : Int) = ((0 : Nat) : Int) from rfl, shl8]
    simp
  · rw [bit8_t ha h, shl8_one hi]
    simp
theorem pic_step8 {F : Nat → Bool} {i : Nat} (hi : i < 8) : orI .u8 (pic i F : Int) ((if F i = true then 2 ^ i else 0 : Nat) : Int) = (pic (i + 1) F : Int) := by
  have hp : 2 ^ i < 256 := Nat.pow_lt_pow_right (by decide) (show i < 8 from hi)
  rw [or8 (Nat.lt_of_lt_of_le (pic_lt F i) (by omega)) (by split <;> omega), pic]
theorem pic_step64 {F : Nat → Bool} {i : Nat} (hi : i < 64) : orI .u64 (pic i F : Int) ((if F i = true then 2 ^ i else 0 : Nat) : Int) = (pic (i + 1) F : Int) := by
  have hp : 2 ^ i < 18446744073709551616 := Nat.pow_lt_pow_right (by decide) (show i < 64 from hi)
  rw [or64 (Nat.lt_of_lt_of_le (pic_lt F i) (by omega)) (by split <;> omega), pic]
/-- The same, where the bit is taken straight out of a byte. -/
theorem take8 {F : Nat → Bool} (ha : a < 256) (k : Nat) {i : Nat} (hi : i < 8) (hF : F i = a.testBit k) : orI .u8 (pic i F : Int) (shlI .u8 (andI .u8 (shrI .u8 (a : Int) (k : Int)) 1) (i : Int)) = (pic (i + 1) F : Int) := by
  rw [sel8 ha k hi, ← hF]; exact pic_step8 hi
end

section
variable {b n : Nat} {x y : List V}
@[simp] theorem nbL_append : nbL b n (x ++ y) ↔ nbL b n x ∧ nbL b n y := by
  induction x with
  | nil => simp
  | cons v x ih => simp [ih, and_assoc]
@[simp] theorem ltL_append : ltL n (x ++ y) ↔ ltL n x ∧ ltL n y := by
  induction x with
  | nil => simp
  | cons v x ih => simp [ih, and_assoc]
@[simp] theorem puL_append' : puL (x ++ y) ↔ puL x ∧ puL y := puL_append
@[simp] theorem zrow_one : zrow x 1 = x := by
  apply List.ext_getElem?
  intro i
  simp only [zrow, Nat.one_mul, List.getElem?_map]
  by_cases h : i < x.length
  · simp [h, Nat.mod_eq_of_lt h]
  · simp [List.getElem?_eq_none (Nat.le_of_not_lt h), h]
end

section
variable {P : Program} {ro : Bool}
/-- A call that writes to blocks that came in, in a function that may; or to blocks of the caller's own. -/
theorem call_wg0 {f : FuncId} (sig : List Nm) {args vs : List V} {E E2 L2 : List (List V)} {v : V} {s : St} {K : V → St → Prop} (h : Ct P false f args E fun v' E' L' => v' = v ∧ E' = E2 ∧ L' = L2) (hro : roFits ro false sig = true) (hs : SideV s ro sig vs args E E2) (hL : ∀ c ∈ L2, puL c) (hK : K (v.ren (nmap sig s.m.length)) { s.setBlks sig E2 with m := (s.setBlks sig E2).m ++ L2 }) : callWp P ro f vs s K := by
  obtain ⟨h1, h2, h3, h4, h5, h6⟩ := hs
  refine .inl ⟨sig, args, E, false, _, h1.sig _, hro, h3, h4, h, ?_⟩
  rintro v' E' L' ⟨rfl, rfl, rfl⟩
  refine ⟨h5, ?_⟩
  have h7 : ∀ (X : List (List V)), (∀ c ∈ X, puL c) → X.map (renL (nmap sig s.m.length)) = X := fun X hX => by
    conv => rhs; rw [← List.map_id X]
    exact List.map_congr_left fun c hc => puL.ren c (hX c hc)
  simp only [St.after, h7 E' h6, h7 L' hL]
  exact hK
theorem call_f {f : FuncId} (sig : List Nm) {args vs : List V} {E E2 L2 : List (List V)} {v : V} {s : St} {K : V → St → Prop} (h : Ct P false f args E fun v' E' L' => v' = v ∧ E' = E2 ∧ L' = L2) (hs : SideV s false sig vs args E E2) (hL : ∀ c ∈ L2, puL c) (hK : K (v.ren (nmap sig s.m.length)) { s.setBlks sig E2 with m := (s.setBlks sig E2).m ++ L2 }) : callWp P false f vs s K :=
  call_wg0 sig h (by simp [roFits]) hs hL hK
theorem call_wg {f : FuncId} (sig : List Nm) {args vs : List V} {E E2 L2 : List (List V)} {v : V} {s : St} {K : V → St → Prop} (h : Ct P false f args E fun v' E' L' => v' = v ∧ E' = E2 ∧ L' = L2) (hl : sig.all (fun n => !isE n) = true) (hs : SideV s ro sig vs args E E2) (hL : ∀ c ∈ L2, puL c) (hK : K (v.ren (nmap sig s.m.length)) { s.setBlks sig E2 with m := (s.setBlks sig E2).m ++ L2 }) : callWp P ro f vs s K :=
  call_wg0 sig h (roFits_l hl) hs hL hK
end

section
variable {P : Program} {ro : Bool}
theorem call_rE {f : FuncId} (sig : List Nm) {args vs : List V} {E L2 : List (List V)} {v : V} {s : St} {K : V → St → Prop} (h : ∀ ro, Ct P ro f args E fun v' E' L' => v' = v ∧ E' = E ∧ L' = L2) (hE : SigOk s.blk sig s.m.length E) (hvs : vs = renL (nmap sig s.m.length) args) (ha : eoL sig.length args) (hL : ∀ c ∈ L2, puL c) (hK : K (v.ren (nmap sig s.m.length)) { s with m := s.m ++ L2 }) : callWp P ro f vs s K := by
  refine .inr ⟨sig, args, E, _, hE.first, .inl hvs, ha, h true, ?_⟩
  rintro v' E' L' ⟨rfl, rfl, rfl⟩
  have h7 : ∀ (X : List (List V)), (∀ c ∈ X, puL c) → X.map (renL (nmap sig s.m.length)) = X := fun X hX => by
    conv => rhs; rw [← List.map_id X]
    exact List.map_congr_left fun c hc => puL.ren c (hX c hc)
  have h8 : s.setBlks sig [] = s := by cases sig <;> simp [St.setBlks]
  simp only [St.after, List.map_nil, h8, h7 L' hL]
  exact hK
theorem sigOk_mk {m : Mem} {base : Nat} {sig : List Nm} {E : List (List V)} (hd : sig.Nodup) (hl : E.length = sig.length) (h : ∀ (p : Nm × List V), p ∈ sig.zip E → m p.1 = some (renL (nmap sig base) p.2) ∧ eoL sig.length p.2) : SigOk m sig base E :=
  ⟨hd, hl, fun i n hi => by
    have hlt : i < sig.length := (List.getElem?_eq_some_iff.1 hi).1
    have hE : E[i]? = some (E[i]'(by omega)) := List.getElem?_eq_getElem (by omega)
    refine ⟨_, hE, ?_⟩
    have := h (n, E[i]'(by omega)) (by
      refine List.mem_of_getElem? (i := i) ?_
      rw [List.getElem?_zip_eq_some]
      exact ⟨hi, hE⟩)
    exact this⟩
/-- A call that only reads, and only the first cells of its blocks; the slices' capacities are not told. -/
theorem call_rX {f : FuncId} (sig : List Nm) {args vs : List V} {E L2 : List (List V)} {v : V} {s : St} {K : V → St → Prop} (h : ∀ ro, Ct P ro f args E fun v' E' L' => v' = v ∧ E' = E ∧ L' = L2) (hE : SigOkR s.blk sig s.m.length E) (hvs : hidL vs = renL (nmap sig s.m.length) args) (ha : eoL sig.length args) (hL : ∀ c ∈ L2, puL c) (hK : K (v.ren (nmap sig s.m.length)) { s with m := s.m ++ L2 }) : callWp P ro f vs s K := by
  refine .inr ⟨sig, args, E, _, hE, .inr hvs, ha, h true, ?_⟩
  rintro v' E' L' ⟨rfl, rfl, rfl⟩
  have h7 : ∀ (X : List (List V)), (∀ c ∈ X, puL c) → X.map (renL (nmap sig s.m.length)) = X := fun X hX => by
    conv => rhs; rw [← List.map_id X]
    exact List.map_congr_left fun c hc => puL.ren c (hX c hc)
  have h8 : s.setBlks sig [] = s := by cases sig <;> simp [St.setBlks]
  simp only [St.after, List.map_nil, h8, h7 L' hL]
  exact hK
theorem sigOk_mkR {m : Mem} {base : Nat} {sig : List Nm} {E : List (List V)} (hd : sig.Nodup) (hl : E.length = sig.length) (h : ∀ (p : Nm × List V), p ∈ sig.zip E → (∃ tail, m p.1 = some (renL (nmap sig base) p.2 ++ tail)) ∧ eoL sig.length p.2) : SigOkR m sig base E :=
  ⟨hd, hl, fun i n hi => by
    have hlt : i < sig.length := (List.getElem?_eq_some_iff.1 hi).1
    have hE : E[i]? = some (E[i]'(by omega)) := List.getElem?_eq_getElem (by omega)
    obtain ⟨⟨tail, h1⟩, h2⟩ := h (n, E[i]'(by omega)) (by
      refine List.mem_of_getElem? (i := i) ?_
      rw [List.getElem?_zip_eq_some]
      exact ⟨hi, hE⟩)
    exact ⟨_, tail, hE, h1, h2⟩⟩
/-- The end of a function whose result bears no name, where incoming blocks name each other. -/
theorem ret_E {Post : V → List (List V) → List (List V) → Prop} {s : St} {v : V} (n : Nat) (hv : v.eo n) (hE : ∀ c ∈ s.e, eoL n c) (hp : Post v s.e []) : RetOk Post s v := by
  refine ⟨[], v, s.e, [], by simp, .inl (V.eo.ren (fun i _ => rfl) v hv).symm, ?_, rfl, fun i k c h => by simp at h, V.eo.lt v hv, fun c hc => eoL.lt c (hE c hc), fun c hc => by simp at hc, hp⟩
  conv => lhs; rw [← List.map_id s.e]
  exact List.map_congr_left fun c hc => (eoL.ren (fun i _ => rfl) c (hE c hc)).symm
theorem ret_new_E {Post : V → List (List V) → List (List V) → Prop} {s : St} {v v' : V} {c : List V} (n k : Nat) (hv : v = v'.ren (kmap [k]) ∨ v.hid = v'.ren (kmap [k])) (hlt : v'.lt 1) (hm : ∃ tail, s.m[k]? = some (c ++ tail)) (hc : puL c) (hE : ∀ c ∈ s.e, eoL n c) (hp : Post v' s.e [c]) : RetOk Post s v := by
  refine ⟨[k], v', s.e, [c], by simp, hv, ?_, rfl, fun i j d h1 h2 => ?_, hlt, fun c hc => eoL.lt c (hE c hc), fun d hd => ?_, hp⟩
  · conv => lhs; rw [← List.map_id s.e]
    exact List.map_congr_left fun c hc => (eoL.ren (fun i _ => rfl) c (hE c hc)).symm
  · cases i with
    | zero => simp at h1 h2; subst h1; subst h2; rw [puL.ren c hc]; exact hm
    | succ i => simp at h1
  · simp at hd; subst hd; exact puL.lt _ hc
/-- A call in which all of the caller's own incoming blocks are handed on, that only reads. -/
theorem call_allE {f : FuncId} {args : List V} {E : List (List V)} {v : V} {s : St} {K : V → St → Prop} (h : ∀ ro, Ct P ro f args E fun v' E' L' => v' = v ∧ E' = E ∧ L' = []) (hE : s.e = E) (hp : ∀ c ∈ E, eoL E.length c) (ha : eoL E.length args) (hv : v.pu) (hK : K v s) : callWp P ro f args s K := by
  subst hE
  have hg : ∀ i, i < s.e.length → nmap ((List.range s.e.length).map Nm.e) s.m.length (.e i) = .e i := fun i hi => by simp [nmap, hi]
  refine call_rE ((List.range s.e.length).map Nm.e) (L2 := []) h ⟨?_, by simp, ?_⟩ (eoL.ren hg args ha).symm (by simpa using ha) (by simp) ?_
  · exact List.Pairwise.map _ (fun a b hab hh => hab (by cases hh; rfl)) (List.nodup_range)
  · intro i n hi
    simp only [List.getElem?_map, Option.map_eq_some_iff] at hi
    obtain ⟨j, hj, rfl⟩ := hi
    obtain ⟨hlt, hv⟩ := List.getElem?_eq_some_iff.1 hj
    simp at hlt hv
    subst hv
    have hm := hp _ (List.getElem_mem hlt)
    exact ⟨s.e[i], by simp [hlt], by rw [eoL.ren hg _ hm]; simp [St.blk, hlt], by simpa using hm⟩
  · rw [V.pu.ren v hv]; simpa using hK
end

/-- The column of a part: the rows' bits at k, of the rows of a set. -/
def colN (n set : Nat) (r : Nat → Nat) (k : Nat) : Nat := pic n fun i => set.testBit i && (r i).testBit k
theorem colN_lt {n set : Nat} {r : Nat → Nat} {k : Nat} : colN n set r k < 2 ^ n := pic_lt _ _
theorem colN_lt8 {n set : Nat} {r : Nat → Nat} {k : Nat} (h : n ≤ 8) : colN n set r k < 256 := Nat.lt_of_lt_of_le colN_lt (show 2 ^ n ≤ 2 ^ 8 from Nat.pow_le_pow_right (by decide) h)
theorem colN_and {n set : Nat} {r : Nat → Nat} {k : Nat} : (pic n fun i => (r i).testBit k) &&& set = colN n set r k := by
  apply Nat.eq_of_testBit_eq
  intro i
  rw [Nat.testBit_and, pic_testBit, colN, pic_testBit]
  cases decide (i < n) <;> cases (r i).testBit k <;> cases set.testBit i <;> rfl

/-- How many of the first k have the value v. -/
def colh (c : Nat → Nat) : Nat → Nat → Int
  | 0, _ => 0
  | k + 1, v => if v = c k then colh c k v + 1 else colh c k v
theorem colh_le (c : Nat → Nat) (v : Nat) : ∀ k, 0 ≤ colh c k v ∧ colh c k v ≤ k
  | 0 => by simp [colh]
  | k + 1 => by have := colh_le c v k; simp only [colh]; split <;> omega

section
variable {k : IntKind} {n : Nat} {F : Nat → Int} {f : Nat → Nat} {l : List V}
theorem tab_snoc {G : Nat → V} : tab (n + 1) G = tab n G ++ [G n] := by simp [tab, List.range_succ]
theorem arr_snoc : arr k (n + 1) F = arr k n F ++ [.int k (F n)] := tab_snoc
theorem byt_snoc : byt (n + 1) f = byt n f ++ [.int .u8 (f n)] := tab_snoc
theorem arr_app_get {i : Nat} (h : i < n) : (arr k n F ++ l)[i]? = some (.int k (F i)) := by rw [List.getElem?_append_left (by simpa using h), arr_get h]
theorem byt_app_get {i : Nat} (h : i < n) : (byt n f ++ l)[i]? = some (.int .u8 (f i)) := by rw [List.getElem?_append_left (by simpa using h), byt_get h]
theorem arr_app_getE {i : Nat} (h : i < n) (h' : i < (arr k n F ++ l).length) : (arr k n F ++ l)[i]'h' = .int k (F i) := by
  have := arr_app_get (k := k) (F := F) (l := l) h
  rw [List.getElem?_eq_getElem h'] at this; exact Option.some.inj this
theorem byt_app_getE {i : Nat} (h : i < n) (h' : i < (byt n f ++ l).length) : (byt n f ++ l)[i]'h' = .int .u8 (f i) := by
  have := byt_app_get (f := f) (l := l) h
  rw [List.getElem?_eq_getElem h'] at this; exact Option.some.inj this
theorem arr_app_set {i : Nat} {x : Int} (h : i < n) : (arr k n F ++ l).set i (.int k x) = arr k n (fun j => if j = i then x else F j) ++ l := by
  rw [List.set_append_left _ _ (by simpa using h), arr_set]
theorem byt_app_set {i : Nat} {x : Nat} (h : i < n) : (byt n f ++ l).set i (.int .u8 x) = byt n (fun j => if j = i then x else f j) ++ l := by
  rw [List.set_append_left _ _ (by simpa using h), byt_set]
end
end Go.Ab
