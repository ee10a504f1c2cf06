/- A part of the proof library: names for blocks of memory, a small form of the code, and rules for walks over it. -/
import Derived.Test.YtpajbcifaicpoaaDoorAb24
set_option linter.all false
namespace Go.Ab

mutual
theorem V.eo.lt {n m : Nat} : ∀ (v : V), v.eo n → v.lt m
  | .int .., _ => by simp
  | .bool _, _ => by simp
  | .str _, _ => by simp
  | .ptr (.e i) _, h => by simp
  | .ptr (.l _) _, h => by simp only [V.eo] at h
  | .nilptr, _ => by simp
  | .sl (.e i) _ _ _, h => by simp
  | .sl (.l _) _ _ _, h => by simp only [V.eo] at h
  | .nilsl, _ => by simp
  | .slx (.e i) _ _, h => by simp
  | .slx (.l _) _ _, h => by simp only [V.eo] at h
  | .fn _ a b, h => by simp only [V.eo] at h; simp only [V.lt]; exact ⟨eoL.lt a h.1, eoL.lt b h.2⟩
  | .agg a, h => by simp only [V.eo] at h; simp only [V.lt]; exact eoL.lt a h
  | .tup a, h => by simp only [V.eo] at h; simp only [V.lt]; exact eoL.lt a h
  | .raw _, _ => by simp
theorem eoL.lt {n m : Nat} : ∀ (l : List V), eoL n l → ltL m l
  | [], _ => by simp
  | v :: l, h => by simp only [eoL] at h; simp only [ltL]; exact ⟨V.eo.lt v h.1, eoL.lt l h.2⟩
end

/-- The end of a function whose result names incoming blocks alone. -/
theorem ret_eo {Post : V → List (List V) → List (List V) → Prop} {s : St} {v : V} (n : Nat) (hv : v.eo n) (hE : ∀ c ∈ s.e, puL c) (hp : Post v s.e []) : RetOk Post s v := by
  refine ⟨[], v, s.e, [], by simp, .inl ?_, ?_, rfl, fun i k c h => by simp at h, V.eo.lt v hv, fun c hc => puL.lt c (hE c hc), fun c hc => by simp at hc, hp⟩
  · exact (V.eo.ren (fun i _ => rfl) v hv).symm
  · conv => lhs; rw [← List.map_id s.e]
    exact List.map_congr_left fun c hc => (puL.ren c (hE c hc)).symm

section
variable {P : Program} {ro : Bool}
/-- A call whose result names blocks of the caller's. -/
def SideV (s : St) (ro : Bool) (sig : List Nm) (vs args : List V) (E E2 : List (List V)) : Prop :=
  Held s ro sig E ∧ (sig.all isE = true ∨ sig.all (fun n => !isE n) = true) ∧ vs = renL (nmap sig s.m.length) args ∧ eoL sig.length args ∧ E2.length = E.length ∧ (∀ c ∈ E2, puL c)
attribute [simp] SideV
theorem call_v {f : FuncId} (sig : List Nm) {args vs : List V} {E E2 : List (List V)} {v : V} {s : St} {K : V → St → Prop} (h : ∀ ro, Ct P ro f args E fun v' E' L' => v' = v ∧ E' = E2 ∧ L' = []) (hs : SideV s ro sig vs args E E2) (hK : K (v.ren (nmap sig s.m.length)) (s.setBlks sig E2)) : callWp P ro f vs s K := by
  obtain ⟨h1, h2, h3, h4, h5, h6⟩ := hs
  refine .inl ⟨sig, args, E, roOf ro sig, _, h1.sig _, roOf_fits h2, h3, h4, h _, ?_⟩
  rintro v' E' L' ⟨rfl, rfl, rfl⟩
  refine ⟨h5, ?_⟩
  have : E'.map (renL (nmap sig s.m.length)) = E' := by
    conv => rhs; rw [← List.map_id E']
    exact List.map_congr_left fun c hc => puL.ren c (h6 c hc)
  simp only [St.after, this, List.map_nil, List.append_nil]
  exact hK
/-- A call whose result may name blocks of the caller's and new ones. -/
theorem call_g {f : FuncId} (sig : List Nm) {args vs : List V} {E E2 L2 : List (List V)} {v : V} {s : St} {K : V → St → Prop} (h : ∀ ro, Ct P ro f args E fun v' E' L' => v' = v ∧ E' = E2 ∧ L' = L2) (hs : SideV s ro sig vs args E E2) (hL : ∀ c ∈ L2, puL c) (hK : K (v.ren (nmap sig s.m.length)) { s.setBlks sig E2 with m := (s.setBlks sig E2).m ++ L2 }) : callWp P ro f vs s K := by
  obtain ⟨h1, h2, h3, h4, h5, h6⟩ := hs
  refine .inl ⟨sig, args, E, roOf ro sig, _, h1.sig _, roOf_fits h2, h3, h4, h _, ?_⟩
  rintro v' E' L' ⟨rfl, rfl, rfl⟩
  refine ⟨h5, ?_⟩
  have h7 : ∀ (X : List (List V)), (∀ c ∈ X, puL c) → X.map (renL (nmap sig s.m.length)) = X := fun X hX => by
    conv => rhs; rw [← List.map_id X]
    exact List.map_congr_left fun c hc => puL.ren c (hX c hc)
  simp only [St.after, h7 E' h6, h7 L' hL]
  exact hK
theorem calld_g {f : FuncId} (sig : List Nm) {args vs : List V} {E E2 L2 : List (List V)} {v : V} {s : St} {K : List Nm → V → St → List (List V) → List (List V) → Prop} (h : ∀ ro, Ct P ro f args E fun v' E' L' => v' = v ∧ E' = E2 ∧ L' = L2) (hs : SideV s ro sig vs args E E2) (hL : ∀ c ∈ L2, puL c) (hK : K sig (v.ren (nmap sig s.m.length)) { s.setBlks sig E2 with m := (s.setBlks sig E2).m ++ L2 } E2 L2) : callD P ro f vs s K := by
  obtain ⟨h1, h2, h3, h4, h5, h6⟩ := hs
  refine ⟨sig, args, E, roOf ro sig, v, E2, L2, h1.sig _, h3, h4, .inl ⟨roOf_fits h2, h _, h5⟩, ?_⟩
  have h7 : ∀ (X : List (List V)), (∀ c ∈ X, puL c) → X.map (renL (nmap sig s.m.length)) = X := fun X hX => by
    conv => rhs; rw [← List.map_id X]
    exact List.map_congr_left fun c hc => puL.ren c (hX c hc)
  simp only [St.after, h7 E2 h6, h7 L2 hL]
  exact hK

/-- A call that only reads: it counts as no change of the blocks that it is handed. -/
theorem calld_r {f : FuncId} (sig : List Nm) {args vs : List V} {E L2 : List (List V)} {v : V} {s : St} {K : List Nm → V → St → List (List V) → List (List V) → Prop} (h : ∀ ro, Ct P ro f args E fun v' E' L' => v' = v ∧ E' = E ∧ L' = L2) (hs : SideV s ro sig vs args E E) (hL : ∀ c ∈ L2, puL c) (hK : K sig (v.ren (nmap sig s.m.length)) { s with m := s.m ++ L2 } [] L2) : callD P ro f vs s K := by
  obtain ⟨h1, h2, h3, h4, h5, h6⟩ := hs
  refine ⟨sig, args, E, true, v, [], L2, h1.sig _, h3, h4, .inr ⟨rfl, ?_⟩, ?_⟩
  · intro W r w xs hr hC hx
    refine (h true W r w xs hr hC hx).mono ?_
    rintro e w' ⟨x, r', v', E', L', h1, h2, ⟨h3, _, h4⟩, h5, h6⟩
    exact ⟨x, r', v', E', L', h1, h2, ⟨h3, h4⟩, h5, h6⟩
  have h7 : ∀ (X : List (List V)), (∀ c ∈ X, puL c) → X.map (renL (nmap sig s.m.length)) = X := fun X hX => by
    conv => rhs; rw [← List.map_id X]
    exact List.map_congr_left fun c hc => puL.ren c (hX c hc)
  have h8 : s.setBlks sig [] = s := by cases sig <;> simp [St.setBlks]
  simp only [St.after, List.map_nil, h8, h7 L2 hL]
  exact hK

/-- The end of a function that hands out one new block. -/
theorem ret_new {Post : V → List (List V) → List (List V) → Prop} {s : St} {v v' : V} {c : List V} (k : Nat) (hv : v = v'.ren (kmap [k]) ∨ v.hid = v'.ren (kmap [k])) (hlt : v'.lt 1) (hm : ∃ tail, s.m[k]? = some (c ++ tail)) (hc : puL c) (hE : ∀ c ∈ s.e, puL c) (hp : Post v' s.e [c]) : RetOk Post s v := by
  refine ⟨[k], v', s.e, [c], by simp, hv, ?_, rfl, fun i j d h1 h2 => ?_, hlt, fun c hc => puL.lt c (hE c hc), fun d hd => ?_, hp⟩
  · conv => lhs; rw [← List.map_id s.e]
    exact List.map_congr_left fun c hc => (puL.ren c (hE c hc)).symm
  · cases i with
    | zero => simp at h1 h2; subst h1; subst h2; rw [puL.ren c hc]; exact hm
    | succ i => simp at h1
  · simp at hd; subst hd; exact puL.lt _ hc
end
end Go.Ab
