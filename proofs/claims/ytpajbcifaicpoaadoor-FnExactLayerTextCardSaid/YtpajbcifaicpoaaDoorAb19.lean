/- A part of the proof library: names for blocks of memory, a small form of the code, and rules for walks over it. -/
import Derived.Test.YtpajbcifaicpoaaDoorAb18
set_option linter.all false
namespace Go.Ab

mutual
/-- No name in it. -/
def V.pu : V → Prop
  | .ptr .. | .sl .. | .slx .. => False
  | .fn _ a b => puL a ∧ puL b
  | .agg cs => puL cs
  | .tup cs => puL cs
  | _ => True
def puL : List V → Prop
  | [] => True
  | v :: vs => V.pu v ∧ puL vs
end

theorem puL_iff : ∀ l : List V, puL l ↔ ∀ v ∈ l, V.pu v
  | [] => by simp [puL]
  | v :: l => by simp [puL, puL_iff l]
theorem eoL_cons {n : Nat} {v : V} {l : List V} : eoL n (v :: l) ↔ V.eo n v ∧ eoL n l := by simp [eoL]

mutual
theorem V.pu.ren {g : Nm → Nm} : ∀ (v : V), v.pu → v.ren g = v
  | .int .., _ => rfl
  | .bool _, _ => rfl
  | .str _, _ => rfl
  | .ptr .., h => by simp [V.pu] at h
  | .nilptr, _ => rfl
  | .sl .., h => by simp [V.pu] at h
  | .nilsl, _ => rfl
  | .slx .., h => by simp [V.pu] at h
  | .fn _ a b, h => by simp only [V.pu] at h; simp only [V.ren]; rw [puL.ren a h.1, puL.ren b h.2]
  | .agg a, h => by simp only [V.pu] at h; simp only [V.ren]; rw [puL.ren a h]
  | .tup a, h => by simp only [V.pu] at h; simp only [V.ren]; rw [puL.ren a h]
  | .raw _, _ => rfl
theorem puL.ren {g : Nm → Nm} : ∀ (l : List V), puL l → renL g l = l
  | [], _ => rfl
  | v :: l, h => by simp only [puL] at h; simp only [renL]; rw [V.pu.ren v h.1, puL.ren l h.2]
end
mutual
theorem V.pu.lt {n : Nat} : ∀ (v : V), v.pu → v.lt n
  | .int .., _ => by simp [V.lt]
  | .bool _, _ => by simp [V.lt]
  | .str _, _ => by simp [V.lt]
  | .ptr .., h => by simp [V.pu] at h
  | .nilptr, _ => by simp [V.lt]
  | .sl .., h => by simp [V.pu] at h
  | .nilsl, _ => by simp [V.lt]
  | .slx .., h => by simp [V.pu] at h
  | .fn _ a b, h => by simp only [V.pu] at h; simp only [V.lt]; exact ⟨puL.lt a h.1, puL.lt b h.2⟩
  | .agg a, h => by simp only [V.pu] at h; simp only [V.lt]; exact puL.lt a h
  | .tup a, h => by simp only [V.pu] at h; simp only [V.lt]; exact puL.lt a h
  | .raw _, _ => by simp [V.lt]
theorem puL.lt {n : Nat} : ∀ (l : List V), puL l → ltL n l
  | [], _ => by simp [ltL]
  | v :: l, h => by simp only [puL] at h; simp only [ltL]; exact ⟨V.pu.lt v h.1, puL.lt l h.2⟩
end
mutual
theorem V.pu.eo {n : Nat} : ∀ (v : V), v.pu → v.eo n
  | .int .., _ => by simp [V.eo]
  | .bool _, _ => by simp [V.eo]
  | .str _, _ => by simp [V.eo]
  | .ptr .., h => by simp [V.pu] at h
  | .nilptr, _ => by simp [V.eo]
  | .sl .., h => by simp [V.pu] at h
  | .nilsl, _ => by simp [V.eo]
  | .slx .., h => by simp [V.pu] at h
  | .fn _ a b, h => by simp only [V.pu] at h; simp only [V.eo]; exact ⟨puL.eo a h.1, puL.eo b h.2⟩
  | .agg a, h => by simp only [V.pu] at h; simp only [V.eo]; exact puL.eo a h
  | .tup a, h => by simp only [V.pu] at h; simp only [V.eo]; exact puL.eo a h
  | .raw _, _ => by simp [V.eo]
theorem puL.eo {n : Nat} : ∀ (l : List V), puL l → eoL n l
  | [], _ => by simp [eoL]
  | v :: l, h => by simp only [puL] at h; simp only [eoL]; exact ⟨V.pu.eo v h.1, puL.eo l h.2⟩
end

theorem puL_map {α : Type} {f : α → V} (h : ∀ a, (f a).pu) (l : List α) : puL (l.map f) := by
  rw [puL_iff]; intro v hv; obtain ⟨a, _, rfl⟩ := List.mem_map.1 hv; exact h a
theorem puL_append {a b : List V} : puL (a ++ b) ↔ puL a ∧ puL b := by
  simp only [puL_iff, List.mem_append]
  exact ⟨fun h => ⟨fun v hv => h v (.inl hv), fun v hv => h v (.inr hv)⟩, fun h v hv => hv.elim (h.1 v) (h.2 v)⟩
theorem puL_replicate {v : V} {n : Nat} (h : v.pu) : puL (List.replicate n v) := by
  rw [puL_iff]; intro u hu; rw [(List.mem_replicate.1 hu).2]; exact h
theorem puL_take {l : List V} {n : Nat} (h : puL l) : puL (l.take n) := by rw [puL_iff] at *; exact fun v hv => h v (List.mem_of_mem_take hv)
theorem puL_drop {l : List V} {n : Nat} (h : puL l) : puL (l.drop n) := by rw [puL_iff] at *; exact fun v hv => h v (List.mem_of_mem_drop hv)
theorem puL_set {l : List V} {n : Nat} {v : V} (h : puL l) (hv : v.pu) : puL (l.set n v) := by
  rw [puL_iff] at *; intro u hu; rcases List.mem_or_eq_of_mem_set hu with hu | hu
  · exact h u hu
  · rw [hu]; exact hv

/-! ### Cells of a kind -/

/-- A cell of a byte, of any whole number's kind. -/
abbrev u8 (n : Nat) : V := .int .u8 (n : Int)
abbrev u8s (l : List Nat) : List V := l.map u8
abbrev i8s (l : List Int) : List V := l.map (V.int .i8)
abbrev i64s (l : List Int) : List V := l.map (V.int .i64)

section
variable {P : Program} {ro : Bool}

/-- A contract of a function that takes and gives back plain values. -/
def PC (P : Program) (f : FuncId) (args : List V) (v : V) : Prop := ∀ ro, Ct P ro f args [] fun v' E' L' => v' = v ∧ E' = [] ∧ L' = []

theorem SigOk.nil {m : Mem} {b : Nat} : SigOk m [] b [] := ⟨by simp, rfl, fun i n h => by simp at h⟩
theorem roFits_nil {ro : Bool} : roFits ro false [] = true := by simp [roFits]

theorem after_nil (s : St) (g : Nm → Nm) : s.after [] g [] [] = s := by simp [St.after, St.setBlks]

theorem call_pc {f : FuncId} {vs : List V} {v : V} {s : St} {K : V → St → Prop} (h : PC P f vs v) (ha : puL vs) (hv : v.pu) (hK : K v s) : callWp P ro f vs s K := by
  refine .inl ⟨[], vs, [], false, _, SigOk.nil, roFits_nil, (puL.ren vs ha).symm, puL.eo vs ha, h false, ?_⟩
  rintro v' E' L' ⟨rfl, rfl, rfl⟩
  refine ⟨rfl, ?_⟩
  rw [after_nil, V.pu.ren v' hv]
  exact hK

theorem calld_pc {f : FuncId} {vs : List V} {v : V} {s : St} {K : List Nm → V → St → List (List V) → List (List V) → Prop} (h : PC P f vs v) (ha : puL vs) (hv : v.pu) (hK : K [] v s [] []) : callD P ro f vs s K := by
  refine ⟨[], vs, [], false, v, [], [], SigOk.nil, (puL.ren vs ha).symm, puL.eo vs ha, .inl ⟨roFits_nil, h false, rfl⟩, ?_⟩
  rw [after_nil, V.pu.ren v hv]
  exact hK

theorem calll_pc {f : FuncId} {vs : List V} {v : V} {s : St} {K : V → St → Prop} (h : PC P f vs v) (ha : puL vs) (hv : v.pu) (hK : K v s) : callL P ro f vs s K := calld_pc h ha hv hK

/-- The blocks of a call that the caller holds as its own (or as came in), their cells without names. -/
structure Held (s : St) (ro : Bool) (sig : List Nm) (E : List (List V)) : Prop where
  d : sig.Nodup
  len : E.length = sig.length
  at_ : ∀ (i : Nat) (n : Nm), sig[i]? = some n → ∃ c, E[i]? = some c ∧ s.blk n = some c ∧ puL c

theorem Held.sig {s : St} {sig : List Nm} {E : List (List V)} (h : Held s ro sig E) (b : Nat) : SigOk s.blk sig b E :=
  ⟨h.d, h.len, fun i n hi => by obtain ⟨c, h1, h2, h3⟩ := h.at_ i n hi; exact ⟨c, h1, by rw [puL.ren c h3]; exact h2, puL.eo c h3⟩⟩

theorem Held.one {s : St} {n : Nm} {c : List V} (h : s.blk n = some c) (hp : puL c) : Held s ro [n] [c] :=
  ⟨by simp, rfl, fun i m hi => by
    cases i with
    | zero => simp at hi; subst hi; exact ⟨c, rfl, h, hp⟩
    | succ i => simp at hi⟩

theorem Held.cons {s : St} {n : Nm} {c : List V} {sig : List Nm} {E : List (List V)} (hn : n ∉ sig) (h : s.blk n = some c) (hp : puL c) (hh : Held s ro sig E) : Held s ro (n :: sig) (c :: E) :=
  ⟨List.nodup_cons.2 ⟨hn, hh.d⟩, by simp [hh.len], fun i m hi => by
    cases i with
    | zero => simp at hi; subst hi; exact ⟨c, rfl, h, hp⟩
    | succ i => simp at hi; simpa using hh.at_ i m hi⟩
theorem Held.nil {s : St} : Held s ro [] [] := ⟨by simp, rfl, fun i n h => by simp at h⟩

def roOf (ro : Bool) (sig : List Nm) : Bool := ro && sig.all isE && !sig.isEmpty
theorem roOf_fits {sig : List Nm} (h : sig.all isE = true ∨ sig.all (fun n => !isE n) = true) : roFits ro (roOf ro sig) sig = true := by
  cases ro with
  | false => simp [roFits, roOf]
  | true =>
    rcases h with h | h
    · cases sig with
      | nil => rfl
      | cons n sig => simp [roFits, roOf, h]
    · cases sig with
      | nil => rfl
      | cons n sig =>
        have : isE n = false := by simp at h; exact h.1
        simp only [roFits, roOf, List.all_cons, this, Bool.false_and, Bool.and_false]
        rw [List.all_cons, Bool.and_eq_true] at h
        simpa [roOf, this] using h.2

/-- A call whose pointers name blocks of plain cells; it may change them. -/
theorem call_e {f : FuncId} {sig : List Nm} {args vs : List V} {E E2 : List (List V)} {v : V} {s : St} {K : V → St → Prop} (h : ∀ ro, Ct P ro f args E fun v' E' L' => v' = v ∧ E' = E2 ∧ L' = []) (hs : Held s ro sig E) (hro : sig.all isE = true ∨ sig.all (fun n => !isE n) = true)
    (hvs : vs = renL (nmap sig s.m.length) args) (ha : eoL sig.length args) (hl : E2.length = E.length) (hp : ∀ c ∈ E2, puL c) (hv : v.pu) (hK : K v (s.setBlks sig E2)) : callWp P ro f vs s K := by
  refine .inl ⟨sig, args, E, roOf ro sig, _, hs.sig _, roOf_fits hro, hvs, ha, h _, ?_⟩
  rintro v' E' L' ⟨rfl, rfl, rfl⟩
  refine ⟨hl, ?_⟩
  have : E'.map (renL (nmap sig s.m.length)) = E' := by
    conv => rhs; rw [← List.map_id E']
    exact List.map_congr_left fun c hc => puL.ren c (hp c hc)
  rw [V.pu.ren v' hv]
  simp only [St.after, this, List.map_nil, List.append_nil]
  exact hK

theorem calld_e {f : FuncId} {sig : List Nm} {args vs : List V} {E E2 : List (List V)} {v : V} {s : St} {K : List Nm → V → St → List (List V) → List (List V) → Prop} (h : ∀ ro, Ct P ro f args E fun v' E' L' => v' = v ∧ E' = E2 ∧ L' = []) (hs : Held s ro sig E) (hro : sig.all isE = true ∨ sig.all (fun n => !isE n) = true)
    (hvs : vs = renL (nmap sig s.m.length) args) (ha : eoL sig.length args) (hl : E2.length = E.length) (hp : ∀ c ∈ E2, puL c) (hv : v.pu) (hK : K sig v (s.setBlks sig E2) E2 []) : callD P ro f vs s K := by
  refine ⟨sig, args, E, roOf ro sig, v, E2, [], hs.sig _, hvs, ha, .inl ⟨roOf_fits hro, h _, hl⟩, ?_⟩
  have : E2.map (renL (nmap sig s.m.length)) = E2 := by
    conv => rhs; rw [← List.map_id E2]
    exact List.map_congr_left fun c hc => puL.ren c (hp c hc)
  rw [V.pu.ren v hv]
  simp only [St.after, this, List.map_nil, List.append_nil]
  exact hK

theorem calll_e {f : FuncId} {sig : List Nm} {args vs : List V} {E E2 : List (List V)} {v : V} {s : St} {K : V → St → Prop} (h : ∀ ro, Ct P ro f args E fun v' E' L' => v' = v ∧ E' = E2 ∧ L' = []) (hs : Held s ro sig E) (hro : sig.all isE = true ∨ sig.all (fun n => !isE n) = true)
    (hvs : vs = renL (nmap sig s.m.length) args) (ha : eoL sig.length args) (hl : E2.length = E.length) (hp : ∀ c ∈ E2, puL c) (hv : v.pu) (hK : K v (s.setBlks sig E2)) : callL P ro f vs s K := calld_e h hs hro hvs ha hl hp hv hK

/-- The end of a function whose result bears no name. -/
theorem ret_pu {Post : V → List (List V) → List (List V) → Prop} {s : St} {v : V} (hv : v.pu) (hE : ∀ c ∈ s.e, puL c) (hp : Post v s.e []) : RetOk Post s v := by
  refine ⟨[], v, s.e, [], by simp, .inl (V.pu.ren v hv).symm, ?_, rfl, fun i k c h => by simp at h, V.pu.lt v hv, fun c hc => puL.lt c (hE c hc), fun c hc => by simp at hc, hp⟩
  conv => lhs; rw [← List.map_id s.e]
  exact List.map_congr_left fun c hc => (puL.ren c (hE c hc)).symm

/-- What a function's walk is to show, and its contract. -/
theorem pc_of {f : FuncId} {mf : MF} {fn : Func} {c : Code} (hf : OkF P f mf fn c) {args : List V} {v : V} (h : ∀ ro, mf.body.wp P ro (endQ mf.res fun v' E' L' => v' = v ∧ E' = [] ∧ L' = []) ⟨zipT 0 args, [], []⟩) : PC P f args v :=
  fun ro => ct_of hf (h ro)

theorem endQ_r {res : List MRes} {Post : V → List (List V) → List (List V) → Prop} {s : St} : endQ res Post .r s ↔ match resV s res with | some vs => RetOk Post s (retV vs) | none => False := by
  simp only [endQ]; cases resV s res <;> simp
theorem endQ_n {res : List MRes} {Post : V → List (List V) → List (List V) → Prop} {s : St} : endQ res Post .n s ↔ match resV s res with | some vs => RetOk Post s (retV vs) | none => False := by
  simp only [endQ]; cases resV s res <;> simp
theorem endQ_x {res : List MRes} {Post : V → List (List V) → List (List V) → Prop} {s : St} {id : Nat} : endQ res Post (.x id) s = False := rfl
attribute [simp] endQ_r endQ_n endQ_x

/-- A result without names, at the end of a walk. -/
theorem end_pu {res : List MRes} {Post : V → List (List V) → List (List V) → Prop} {s : St} {vs : List V} (h1 : resV s res = some vs) (hv : puL vs) (hE : ∀ c ∈ s.e, puL c) (hp : Post (retV vs) s.e []) : ∃ vs, resV s res = some vs ∧ RetOk Post s (retV vs) := by
  refine ⟨vs, h1, ret_pu ?_ hE hp⟩
  match vs, hv with
  | [], hv => simp [retV, V.pu, puL]
  | [v], hv => simpa [retV, puL] using hv
  | v :: u :: vs, hv => simpa [retV, V.pu] using hv
end

/-! ### Whole numbers -/

theorem wrapN_u8 (n : Nat) : IntKind.u8.wrap (n : Int) = ((n % 256 : Nat) : Int) := by
  unfold IntKind.wrap; simp only [IntKind.bits, IntKind.signed, Bool.false_and, Bool.false_eq_true, if_false]; omega
theorem wrapN_u64 (n : Nat) : IntKind.u64.wrap (n : Int) = ((n % 18446744073709551616 : Nat) : Int) := by
  unfold IntKind.wrap; simp only [IntKind.bits, IntKind.signed, Bool.false_and, Bool.false_eq_true, if_false]; omega
theorem wrapN_u32 (n : Nat) : IntKind.u32.wrap (n : Int) = ((n % 4294967296 : Nat) : Int) := by
  unfold IntKind.wrap; simp only [IntKind.bits, IntKind.signed, Bool.false_and, Bool.false_eq_true, if_false]; omega
theorem wrap_i8 {n : Int} (h1 : -128 ≤ n) (h2 : n < 128) : IntKind.i8.wrap n = n := by
  have e : IntKind.i8.wrap n = if n % 256 ≥ 128 then n % 256 - 256 else n % 256 := by
    unfold IntKind.wrap; simp [IntKind.bits, IntKind.signed]
  rw [e]; split <;> omega
theorem wrap_u8 {n : Int} (h1 : 0 ≤ n) (h2 : n < 256) : IntKind.u8.wrap n = n := by
  unfold IntKind.wrap; simp only [IntKind.bits, IntKind.signed, Bool.false_and, Bool.false_eq_true, if_false]; omega
theorem wrap_u64 {n : Int} (h1 : 0 ≤ n) (h2 : n < 18446744073709551616) : IntKind.u64.wrap n = n := by
  unfold IntKind.wrap; simp only [IntKind.bits, IntKind.signed, Bool.false_and, Bool.false_eq_true, if_false]; omega
theorem wrap_u32 {n : Int} (h1 : 0 ≤ n) (h2 : n < 4294967296) : IntKind.u32.wrap n = n := by
  unfold IntKind.wrap; simp only [IntKind.bits, IntKind.signed, Bool.false_and, Bool.false_eq_true, if_false]; omega

section
variable {P : Program} {ro : Bool}
attribute [simp] V.pu puL V.eo eoL V.ren renL nmap St.setBlks
def ltT (n : Nat) : List (Nat × V) → Prop
  | [] => True
  | (_, v) :: l => v.lt n ∧ ltT n l
theorem ltT_iff {n : Nat} : ∀ {l : List (Nat × V)}, ltT n l ↔ ∀ p ∈ l, p.2.lt n
  | [] => by simp [ltT]
  | (k, v) :: l => by rw [ltT, ltT_iff (l := l), List.forall_mem_cons]
def ltC (n : Nat) : List (List V) → Prop
  | [] => True
  | c :: l => ltL n c ∧ ltC n l
theorem ltC_iff {n : Nat} : ∀ {l : List (List V)}, ltC n l ↔ ∀ c ∈ l, ltL n c
  | [] => by simp [ltC]
  | c :: l => by rw [ltC, ltC_iff (l := l), List.forall_mem_cons]
@[simp] theorem truncOk_iff {n : Nat} {s : St} : TruncOk n s ↔ ltT n s.t ∧ ltC n s.e ∧ ltC n (s.m.take n) := by
  rw [ltT_iff, ltC_iff, ltC_iff]
  exact ⟨fun h => ⟨h.t, h.e, h.m⟩, fun h => ⟨h.1, h.2.1, h.2.2⟩⟩
attribute [simp] V.lt ltL ltT ltC
@[simp] theorem held_cons {s : St} {n : Nm} {c : List V} {sig : List Nm} {E : List (List V)} : Held s ro (n :: sig) (c :: E) ↔ n ∉ sig ∧ s.blk n = some c ∧ puL c ∧ Held s ro sig E := by
  constructor
  · intro h
    have hd := List.nodup_cons.1 h.d
    obtain ⟨c', h1, h2, h3⟩ := h.at_ 0 n rfl
    simp at h1; subst h1
    exact ⟨hd.1, h2, h3, hd.2, by simpa using h.len, fun i m hi => by simpa using h.at_ (i + 1) m (by simpa using hi)⟩
  · rintro ⟨h1, h2, h3, h4⟩; exact Held.cons h1 h2 h3 h4
@[simp] theorem held_nil {s : St} : Held s ro [] [] := Held.nil

/-- What a call with pointers asks of its caller. -/
def Side (s : St) (ro : Bool) (sig : List Nm) (vs args : List V) (E E2 : List (List V)) (v : V) : Prop :=
  Held s ro sig E ∧ (sig.all isE = true ∨ sig.all (fun n => !isE n) = true) ∧ vs = renL (nmap sig s.m.length) args ∧ eoL sig.length args ∧ E2.length = E.length ∧ (∀ c ∈ E2, puL c) ∧ v.pu
attribute [simp] Side
theorem call_s {f : FuncId} (sig : List Nm) {args vs : List V} {E E2 : List (List V)} {v : V} {s : St} {K : V → St → Prop} (h : ∀ ro, Ct P ro f args E fun v' E' L' => v' = v ∧ E' = E2 ∧ L' = []) (hs : Side s ro sig vs args E E2 v) (hK : K v (s.setBlks sig E2)) : callWp P ro f vs s K :=
  let ⟨h1, h2, h3, h4, h5, h6, h7⟩ := hs
  call_e h h1 h2 h3 h4 h5 h6 h7 hK
/-- A call that may write to blocks of the caller's own. -/
theorem roFits_l {ro : Bool} : ∀ {sig : List Nm}, sig.all (fun n => !isE n) = true → roFits ro false sig = true
  | [], _ => by simp [roFits]
  | n :: sig, h => by simp only [roFits, h, Bool.or_true]
theorem call_w {f : FuncId} (sig : List Nm) {args vs : List V} {E E2 : List (List V)} {v : V} {s : St} {K : V → St → Prop} (h : Ct P false f args E fun v' E' L' => v' = v ∧ E' = E2 ∧ L' = []) (hl : sig.all (fun n => !isE n) = true) (hs : Side s ro sig vs args E E2 v) (hK : K v (s.setBlks sig E2)) : callWp P ro f vs s K := by
  obtain ⟨h1, h2, h3, h4, h5, h6, h7⟩ := hs
  refine .inl ⟨sig, args, E, false, _, h1.sig _, roFits_l hl, h3, h4, h, ?_⟩
  rintro v' E' L' ⟨rfl, rfl, rfl⟩
  refine ⟨h5, ?_⟩
  have : E'.map (renL (nmap sig s.m.length)) = E' := by
    conv => rhs; rw [← List.map_id E']
    exact List.map_congr_left fun c hc => puL.ren c (h6 c hc)
  rw [V.pu.ren v' h7]
  simp only [St.after, this, List.map_nil, List.append_nil]
  exact hK
theorem calll_s {f : FuncId} (sig : List Nm) {args vs : List V} {E E2 : List (List V)} {v : V} {s : St} {K : V → St → Prop} (h : ∀ ro, Ct P ro f args E fun v' E' L' => v' = v ∧ E' = E2 ∧ L' = []) (hs : Side s ro sig vs args E E2 v) (hK : K v (s.setBlks sig E2)) : callL P ro f vs s K :=
  let ⟨h1, h2, h3, h4, h5, h6, h7⟩ := hs
  calll_e h h1 h2 h3 h4 h5 h6 h7 hK
theorem calld_s {f : FuncId} (sig : List Nm) {args vs : List V} {E E2 : List (List V)} {v : V} {s : St} {K : List Nm → V → St → List (List V) → List (List V) → Prop} (h : ∀ ro, Ct P ro f args E fun v' E' L' => v' = v ∧ E' = E2 ∧ L' = []) (hs : Side s ro sig vs args E E2 v) (hK : K sig v (s.setBlks sig E2) E2 []) : callD P ro f vs s K :=
  let ⟨h1, h2, h3, h4, h5, h6, h7⟩ := hs
  calld_e h h1 h2 h3 h4 h5 h6 h7 hK
end
end Go.Ab
