/- A part of the proof library: names for blocks of memory, a small form of the code, and rules for walks over it. -/
import Derived.Test.YtpajbcifaicpoaaDoorAb15
set_option linter.all false
/-! A region that draws its order and ends in operations that are forced into order. -/
namespace Go.Ab

section
variable {ro : Bool} {W w : World} {r : Rho} {s : St} {σ τ : Fs} {a : Act} {P : Program} {N : Nat} {ops : Array Oper}

def edge (ops : Array Oper) (i j : Nat) : Prop := ∃ o, ops[i]? = some o ∧ ∃ e ∈ o.after, Region.binds .any e = true ∧ e.on = j

/-- From operation i on: one ready operation at a time. -/
theorem wpAny_tail (hback : ∀ i o, ops[i]? = some o → ∀ e ∈ o.after, Region.binds .any e = true → e.on < i) {Q : Exit → Act → World → Prop} {K : St → Prop} {k : Nat}
    (hnext : ∀ i, k < i → i < ops.size → edge ops i (i - 1)) : ∀ (l : List Oper) (ms : List MO) (i fuel : Nat) (listed : Array Bool) (s : St) (r : Rho) (a : Act) (w : World), ops.toList.drop i = l → k ≤ i → i ≤ ops.size → l.length ≤ fuel → listed.size = ops.size →
    (∀ j, j < ops.size → listed.getD j true = decide (j < i)) → compOs P N ops l = some ms → RelF ro W N r s.f a w → wpO P ro K ms s →
    (∀ s' r' a' w', K s' → r'.e = r.e → RelF ro W N r' s'.f a' w' → Q .normal a' w') → wpAny P .any ops Q fuel listed a w
  | [], ms, i, fuel, listed, s, r, a, w, hl, hki, his, hf, hsz, hlist, hc, hrel, h, hK => by
    have hge : ops.size ≤ i := by
      have := congrArg List.length hl
      simp at this; omega
    simp only [compOs] at hc; cases hc
    have hQ := hK s r a w h rfl hrel
    have hr : Region.ready .any ops listed = [] := by
      cases hrd : Region.ready .any ops listed with
      | nil => rfl
      | cons x xs =>
        obtain ⟨h1, o, h2, _⟩ := mem_ready.1 (show x ∈ Region.ready .any ops listed by rw [hrd]; simp)
        have hx : x < ops.size := by
          rcases Nat.lt_or_ge x ops.size with h | h
          · exact h
          · rw [Array.getElem?_eq_none h] at h2; cases h2
        rw [hlist x hx] at h1
        simp at h1; omega
    cases fuel with
    | zero => exact ⟨hr, hQ⟩
    | succ fuel => exact ⟨fun _ => hQ, fun x hx => by rw [hr] at hx; cases hx⟩
  | o :: l, ms, i, fuel, listed, s, r, a, w, hl, hki, his, hf, hsz, hlist, hc, hrel, h, hK => by
    have hi : i < ops.size := by
      have := congrArg List.length hl
      simp at this; omega
    have ho : ops[i]? = some o := by
      have h0 : (ops.toList.drop i)[0]? = some o := by rw [hl]; rfl
      simpa using h0
    have hl' : ops.toList.drop (i + 1) = l := by
      have := congrArg (List.drop 1) hl
      simpa [List.drop_drop, Nat.add_comm] using this
    cases fuel with
    | zero => simp at hf
    | succ fuel =>
      have hget : ∀ j, j < ops.size → listed.getD j false = decide (j < i) := fun j hj => by
        have h1 := hlist j hj
        rw [Array.getD_eq_getD_getElem?] at h1 ⊢
        rw [Array.getElem?_eq_getElem (by omega)] at h1 ⊢
        exact h1
      have hready : i ∈ Region.ready .any ops listed := mem_ready.2 ⟨by rw [hlist i hi]; simp, o, ho, fun e he hb => by
        have := hback i o ho e he hb
        rw [hget e.on (by omega)]; simpa using this⟩
      refine ⟨fun h0 => (by rw [h0] at hready; cases hready), fun x hx => ?_⟩
      obtain ⟨h1, ox, h2, h3⟩ := mem_ready.1 hx
      have hxs : x < ops.size := by
        rcases Nat.lt_or_ge x ops.size with h | h
        · exact h
        · rw [Array.getElem?_eq_none h] at h2; cases h2
      have hxi : x = i := by
        rw [hlist x hxs] at h1
        have hge : ¬ x < i := by simpa using h1
        rcases Nat.lt_or_ge i x with hlt | hle
        · obtain ⟨o', g1, e, g2, g3, g4⟩ := hnext x (by omega) hxs
          rw [h2] at g1; cases g1
          have := h3 e g2 g3
          rw [g4, hget (x - 1) (by omega)] at this
          simp at this; omega
        · omega
      subst hxi
      have hlist' : ∀ j, j < ops.size → (listed.setIfInBounds x true).getD j true = decide (j < x + 1) := fun j hj => by
        rw [Array.getD_eq_getD_getElem?]
        by_cases hjx : j = x
        · subst hjx
          rw [Array.getElem?_setIfInBounds_self_of_lt (by omega)]; simp
        · rw [Array.getElem?_setIfInBounds_ne (fun e => hjx e.symm), ← Array.getD_eq_getD_getElem?, hlist j hj]
          congr 1
          exact propext ⟨fun h => by omega, fun h => by omega⟩
      simp only [compOs] at hc
      split at hc
      · rename_i m ms' hm hms
        cases hc
        obtain ⟨h1, h2', h3', h4⟩ := compO_some hm
        simp only [wpO] at h
        unfold wpOp
        simp only [ho]
        have go : ∀ (s2 : St) (r2 : Rho) (a2 : Act) (w2 : World), wpO P ro K ms' s2 → r2.e = r.e → RelF ro W N r2 s2.f a2 w2 → wpAny P .any ops Q fuel (listed.setIfInBounds x true) a2 w2 := fun s2 r2 a2 w2 hk he hr =>
          wpAny_tail hback hnext l ms' (x + 1) fuel (listed.setIfInBounds x true) s2 r2 a2 w2 hl' (by omega) (by omega) (by simp at hf; omega) (by simp [hsz]) hlist' hms hr hk (fun s3 r3 a3 w3 hk3 he3 hr3 => hK s3 r3 a3 w3 hk3 (he3.trans he) hr3)
        rcases h4 with ⟨hg, hmg⟩ | ⟨j, b, kk, hg, hk, hmg⟩
        · rw [wanted_none hg, if_pos rfl]
          simp only [hmg, h2'] at h
          exact .inl (wp_op_sound h1 h3' hrel h (fun s' r' a' w' hk he hr => go s' r' a' w' hk he hr))
        · simp only [hmg, h2'] at h
          split at h
          · rename_i b' hlk
            rw [wanted_of hg hk hrel.t (b := b') hlk]
            split at h
            · rename_i hb
              rw [if_pos (by simp [hb])]
              exact .inl (wp_op_sound h1 h3' hrel h (fun s' r' a' w' hk he hr => go s' r' a' w' hk he hr))
            · rename_i hb
              rw [if_neg (by simp [hb])]
              exact go (s.put o.dst (.tup [])) r _ w h rfl (undef_sound h3' hrel)
          · rename_i cs hlk
            rw [wanted_tup hg hk hrel.t hlk]
            exact go (s.put o.dst (.tup [])) r _ w h rfl (undef_sound h3' hrel)
          · exact h.elim
      · cases hc
/-- The first k in any order, the rest in order. -/
theorem wpAny_chainT {A : Nat → Sm} {k : Nat} (hk : k < ops.size) (hback : ∀ i o, ops[i]? = some o → ∀ e ∈ o.after, Region.binds .any e = true → e.on < i) (hdo : ∀ i o, i < k → ops[i]? = some o → DoesIn P ro N ops o (A i))
    (hap : ∀ i o j, i < k → ops[i]? = some o → j < i → (∀ e ∈ o.after, Region.binds .any e = true → e.on ≠ j) → Apart (A j) (A i))
    (hsink : ∀ j, j < k → ∃ i, j < i ∧ i ≤ k ∧ edge ops i j) (hnext : ∀ i, k < i → i < ops.size → edge ops i (i - 1)) {Q : Exit → Act → World → Prop} {K : St → Prop} {ms : List MO} {s : St} {r0 : Rho}
    (hc : compOs P N ops (ops.toList.drop k) = some ms) (hwp : wpO P ro K ms s)
    (hQ : ∀ s' r a w, K s' → r0.e = r.e → RelF ro W N r s'.f a w → Q .normal a w) : ∀ (fuel : Nat) (listed : Array Bool) (σ : Fs) (r : Rho) (a : Act) (w : World), listed.size = ops.size → (rem k listed).length + (ops.size - k) ≤ fuel →
    (∀ i, k ≤ i → i < ops.size → listed.getD i true = false) → (∀ i, listed.getD i false = true → ∀ j, edge ops i j → listed.getD j false = true) → r0.e = r.e → RelF ro W N r σ a w →
    Chain A (rem k listed) σ s.f → wpAny P .any ops Q fuel listed a w := by
  have hgd : ∀ (listed : Array Bool) (j : Nat), listed.size = ops.size → j < ops.size → listed.getD j false = listed.getD j true := fun listed j hsz hj => by
    rw [Array.getD_eq_getD_getElem?, Array.getD_eq_getD_getElem?, Array.getElem?_eq_getElem (by omega)]; rfl
  intro fuel
  induction fuel with
  | zero => intro listed σ r a w hsz hlen; omega
  | succ fuel ih =>
    intro listed σ r a w hsz hlen htail hclosed hr0 hrel hch
    by_cases hnil : rem k listed = []
    · rw [hnil] at hch
      have : σ = s.f := hch
      subst this
      refine wpAny_tail hback hnext (ops.toList.drop k) ms k (fuel + 1) listed s r a w rfl (Nat.le_refl k) (by omega) (by simp; omega) hsz (fun j hj => ?_) hc hrel hwp (fun s' r' a' w' h1 h2 h3 => hQ s' r' a' w' h1 (hr0.trans h2.symm) h3)
      by_cases hjk : j < k
      · have : j ∉ rem k listed := by rw [hnil]; simp
        simp only [rem, List.mem_filter, List.mem_range, not_and] at this
        have := this hjk
        simp only [hjk, decide_true]
        simpa using this
      · rw [htail j (by omega) hj]; simp [hjk]
    · have hall : ∀ i, i ∈ Region.ready .any ops listed → i < k := fun i hi => by
        refine Nat.lt_of_not_le fun hge => hnil ?_
        obtain ⟨h1, o, h2, h3⟩ := mem_ready.1 hi
        have his : i < ops.size := by
          rcases Nat.lt_or_ge i ops.size with h | h
          · exact h
          · rw [Array.getElem?_eq_none h] at h2; cases h2
        rcases Nat.lt_or_ge k i with hlt | hle
        · obtain ⟨o', g1, e, g2, g3, g4⟩ := hnext i hlt his
          rw [h2] at g1; cases g1
          have := h3 e g2 g3
          rw [g4, hgd listed _ hsz (by omega), htail (i - 1) (by omega) (by omega)] at this
          cases this
        · have hik : i = k := by omega
          subst hik
          have key : ∀ d j, j + d = i → j < i → listed.getD j false = true := by
            intro d
            induction d using Nat.strongRecOn with
            | _ d ihd =>
              intro j hjd hj
              obtain ⟨x, hx1, hx2, hed⟩ := hsink j hj
              rcases Nat.lt_or_ge x i with hxi | hxi
              · exact hclosed x (ihd (i - x) (by omega) x (by omega) hxi) j hed
              · have : x = i := by omega
                subst this
                obtain ⟨o', g1, e, g2, g3, g4⟩ := hed
                rw [h2] at g1; cases g1
                have := h3 e g2 g3
                rwa [g4] at this
          simp only [rem, List.filter_eq_nil_iff, List.mem_range]
          intro j hj
          have := key (i - j) j (by omega) hj
          rw [hgd listed j hsz (by omega)] at this
          simp [this]
      have hreadyrem : ∀ i, i ∈ Region.ready .any ops listed → i ∈ rem k listed ∧ ∃ o, ops[i]? = some o ∧ ∀ e ∈ o.after, Region.binds .any e = true → listed.getD e.on false = true := by
        intro i hi
        have hik := hall i hi
        obtain ⟨h1, o, h2, h3⟩ := mem_ready.1 hi
        refine ⟨?_, o, h2, h3⟩
        simp only [rem, List.mem_filter, List.mem_range]
        exact ⟨hik, by simp [h1]⟩
      have hsome : Region.ready .any ops listed ≠ [] := by
        intro hr
        obtain ⟨i, l, hil⟩ := List.exists_cons_of_ne_nil hnil
        have hi : i ∈ rem k listed := by rw [hil]; simp
        have hmin : ∀ j, j < i → listed.getD j true = true := fun j hj => by
          refine Classical.byContradiction fun hnj => ?_
          have hj' : j ∈ rem k listed := by
            simp only [rem, List.mem_filter, List.mem_range] at hi ⊢
            exact ⟨by omega, by simpa using hnj⟩
          have hsorted : (rem k listed).Pairwise (· < ·) := List.Pairwise.filter _ List.pairwise_lt_range
          rw [hil] at hsorted hj'
          rcases List.mem_cons.1 hj' with e | hm
          · omega
          · have := (List.pairwise_cons.1 hsorted).1 j hm; omega
        simp only [rem, List.mem_filter, List.mem_range] at hi
        have hlt : i < ops.size := by omega
        have ho : ops[i]? = some ops[i] := Array.getElem?_eq_getElem hlt
        have : i ∈ Region.ready .any ops listed := mem_ready.2 ⟨by simpa using hi.2, ops[i], ho, fun e he hb => by
          have hlt' := hback i _ ho e he hb
          rw [hgd listed _ hsz (by omega)]
          exact hmin e.on hlt'⟩
        rw [hr] at this; cases this
      refine ⟨fun hrd => absurd hrd hsome, fun i hi => ?_⟩
      obtain ⟨hmem, o, ho, hedges⟩ := hreadyrem i hi
      have hik := hall i hi
      obtain ⟨pre, post, hsplit⟩ := List.append_of_mem hmem
      have hpw : (rem k listed).Pairwise (· < ·) := List.Pairwise.filter _ List.pairwise_lt_range
      have hpre : ∀ j ∈ pre, j < i := fun j hj => by
        rw [hsplit] at hpw
        exact (List.pairwise_append.1 hpw).2.2 j hj i (by simp)
      have hunl : ∀ j ∈ pre, listed.getD j true = false := fun j hj => by
        have : j ∈ rem k listed := by rw [hsplit]; simp [hj]
        simp only [rem, List.mem_filter] at this
        simpa using this.2
      have happ : ∀ j ∈ pre, Apart (A j) (A i) := fun j hj => hap i o j hik ho (hpre j hj) (fun e he hb heq => by
        have h1 := hedges e he hb
        have h2 := hunl j hj
        have := hpre j hj
        rw [heq, hgd listed j hsz (by omega), h2] at h1
        cases h1)
      rw [hsplit] at hch
      obtain ⟨g1, g2⟩ := Chain.first pre σ happ hch
      have hset : ∀ j d, (listed.setIfInBounds i true).getD j d = (if j = i then true else listed.getD j d) := fun j d => by
        rw [Array.getD_eq_getD_getElem?, Array.getD_eq_getD_getElem?]
        by_cases hki : j = i
        · subst hki
          rw [if_pos rfl, Array.getElem?_setIfInBounds_self_of_lt (by omega)]; rfl
        · rw [if_neg hki, Array.getElem?_setIfInBounds_ne (fun e => hki e.symm)]
      have hrem : rem k (listed.setIfInBounds i true) = pre ++ post := by
        have hnd : (rem k listed).Nodup := hpw.imp (fun h => Nat.ne_of_lt h)
        rw [hsplit] at hnd
        have : rem k (listed.setIfInBounds i true) = (rem k listed).filter fun k => !decide (k = i) := by
          unfold rem
          rw [List.filter_filter]
          congr 1
          funext j
          rw [hset]
          by_cases hki : j = i
          · simp [hki]
          · simp [hki]
        rw [this, hsplit, List.filter_append, List.filter_cons]
        have hni : i ∉ pre ∧ i ∉ post := by
          rw [List.nodup_append] at hnd
          obtain ⟨_, h2, h3⟩ := hnd
          exact ⟨fun h => h3 i h i (by simp) rfl, (List.nodup_cons.1 h2).1⟩
        have hkeep : ∀ l : List Nat, i ∉ l → l.filter (fun k => !decide (k = i)) = l := fun l hl => by
          rw [List.filter_eq_self]
          intro k hk
          have : k ≠ i := fun e => hl (e ▸ hk)
          simp [this]
        rw [hkeep pre hni.1, hkeep post hni.2]
        simp
      unfold wpOp
      simp only [ho]
      have hd := hdo i o hik ho W r σ a w (wpAny P .any ops Q fuel (listed.setIfInBounds i true)) Q hrel g1 (fun r' a' w' hsub he hrel' => by
        refine ih (listed.setIfInBounds i true) ((A i).app σ) r' a' w' (by simp [hsz]) ?_ (fun j h1 h2 => ?_) (fun x hx j hed => ?_) (hr0.trans he.symm) hrel' (by rw [hrem]; exact g2)
        · rw [hrem]
          rw [hsplit] at hlen
          simp at hlen ⊢
          omega
        · rw [hset, if_neg (by omega)]; exact htail j h1 h2
        · rw [hset] at hx ⊢
          by_cases hxi : x = i
          · subst hxi
            obtain ⟨o', q1, e, q2, q3, q4⟩ := hed
            rw [ho] at q1; cases q1
            have := hedges e q2 q3
            rw [q4] at this
            split
            · rfl
            · exact this
          · rw [if_neg hxi] at hx
            have := hclosed x hx j hed
            split
            · rfl
            · exact this)
      split
      · rename_i hw
        rw [if_pos hw] at hd
        exact .inl hd
      · rename_i hw
        rw [if_neg hw] at hd
        exact hd
end
end Go.Ab
