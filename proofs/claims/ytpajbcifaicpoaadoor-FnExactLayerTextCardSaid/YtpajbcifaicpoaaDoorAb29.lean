/- A part of the proof library: names for blocks of memory, a small form of the code, and rules for walks over it. -/
import Derived.Test.YtpajbcifaicpoaaDoorAb25
set_option linter.all false
namespace Go.Ab

mutual
/-- The call's own names in it are below n, and none is b. -/
def V.nb (b n : Nat) : V → Prop
  | .ptr (.l i) _ => i < n ∧ i ≠ b
  | .sl (.l i) _ _ _ => i < n ∧ i ≠ b
  | .slx (.l i) _ _ => i < n ∧ i ≠ b
  | .fn _ x y => nbL b n x ∧ nbL b n y
  | .agg cs => nbL b n cs
  | .tup cs => nbL b n cs
  | _ => True
def nbL (b n : Nat) : List V → Prop
  | [] => True
  | v :: vs => V.nb b n v ∧ nbL b n vs
end
def nbT (b n : Nat) : List (Nat × V) → Prop
  | [] => True
  | (_, v) :: l => v.nb b n ∧ nbT b n l
def nbC (b n : Nat) : List (List V) → Prop
  | [] => True
  | c :: l => nbL b n c ∧ nbC b n l
theorem nbT_lk {b n : Nat} : ∀ {l : List (Nat × V)}, nbT b n l → ∀ {k v}, lk l k = some v → v.nb b n
  | [], _, k, v, h => by simp [lk] at h
  | (j, u) :: l, hn, k, v, h => by
    simp only [nbT] at hn
    simp only [lk] at h
    split at h
    · cases h; exact hn.1
    · exact nbT_lk hn.2 h
theorem nbC_mem {b n : Nat} : ∀ {l : List (List V)}, nbC b n l → ∀ c ∈ l, nbL b n c
  | [], _, c, h => by simp at h
  | d :: l, hn, c, h => by
    simp only [nbC] at hn
    rcases List.mem_cons.1 h with rfl | h
    · exact hn.1
    · exact nbC_mem hn.2 c h

mutual
theorem V.nb.lt {b n m : Nat} (hm : n ≤ m) : ∀ (v : V), v.nb b n → v.lt m
  | .int .., _ => by simp
  | .bool _, _ => by simp
  | .str _, _ => by simp
  | .ptr (.e i) _, h => by simp
  | .ptr (.l _) _, h => by simp only [V.nb] at h; simp only [V.lt]; omega
  | .nilptr, _ => by simp
  | .sl (.e i) _ _ _, h => by simp
  | .sl (.l _) _ _ _, h => by simp only [V.nb] at h; simp only [V.lt]; omega
  | .nilsl, _ => by simp
  | .slx (.e i) _ _, h => by simp
  | .slx (.l _) _ _, h => by simp only [V.nb] at h; simp only [V.lt]; omega
  | .fn _ a c, h => by simp only [V.nb] at h; simp only [V.lt]; exact ⟨nbL.lt hm a h.1, nbL.lt hm c h.2⟩
  | .agg a, h => by simp only [V.nb] at h; simp only [V.lt]; exact nbL.lt hm a h
  | .tup a, h => by simp only [V.nb] at h; simp only [V.lt]; exact nbL.lt hm a h
  | .raw _, _ => by simp
theorem nbL.lt {b n m : Nat} (hm : n ≤ m) : ∀ (l : List V), nbL b n l → ltL m l
  | [], _ => by simp
  | v :: l, h => by simp only [nbL] at h; simp only [ltL]; exact ⟨V.nb.lt hm v h.1, nbL.lt hm l h.2⟩
end
mutual
theorem V.nb.ren {b n : Nat} {g : Nm → Nm} (hg : ∀ i, i < n → i ≠ b → g (.l i) = .l i) (he : ∀ i, g (.e i) = .e i) : ∀ (v : V), v.nb b n → v.ren g = v
  | .int .., _ => rfl
  | .bool _, _ => rfl
  | .str _, _ => rfl
  | .ptr (.e i) _, h => by simp only [V.ren, he]
  | .ptr (.l i) _, h => by simp only [V.nb] at h; simp only [V.ren, hg i h.1 h.2]
  | .nilptr, _ => rfl
  | .sl (.e i) _ _ _, h => by simp only [V.ren, he]
  | .sl (.l i) _ _ _, h => by simp only [V.nb] at h; simp only [V.ren, hg i h.1 h.2]
  | .nilsl, _ => rfl
  | .slx (.e i) _ _, h => by simp only [V.ren, he]
  | .slx (.l i) _ _, h => by simp only [V.nb] at h; simp only [V.ren, hg i h.1 h.2]
  | .fn _ a c, h => by simp only [V.nb] at h; simp only [V.ren, nbL.ren hg he a h.1, nbL.ren hg he c h.2]
  | .agg a, h => by simp only [V.nb] at h; simp only [V.ren, nbL.ren hg he a h]
  | .tup a, h => by simp only [V.nb] at h; simp only [V.ren, nbL.ren hg he a h]
  | .raw _, _ => rfl
theorem nbL.ren {b n : Nat} {g : Nm → Nm} (hg : ∀ i, i < n → i ≠ b → g (.l i) = .l i) (he : ∀ i, g (.e i) = .e i) : ∀ (l : List V), nbL b n l → renL g l = l
  | [], _ => rfl
  | v :: l, h => by simp only [nbL] at h; simp only [renL, V.nb.ren hg he v h.1, nbL.ren hg he l h.2]
end
mutual
theorem V.pu.nb {b n : Nat} : ∀ (v : V), v.pu → v.nb b n
  | .int .., _ => by simp [V.nb]
  | .bool _, _ => by simp [V.nb]
  | .str _, _ => by simp [V.nb]
  | .ptr .., h => by simp [V.pu] at h
  | .nilptr, _ => by simp [V.nb]
  | .sl .., h => by simp [V.pu] at h
  | .nilsl, _ => by simp [V.nb]
  | .slx .., h => by simp [V.pu] at h
  | .fn _ a c, h => by simp only [V.pu] at h; simp only [V.nb]; exact ⟨puL.nb a h.1, puL.nb c h.2⟩
  | .agg a, h => by simp only [V.pu] at h; simp only [V.nb]; exact puL.nb a h
  | .tup a, h => by simp only [V.pu] at h; simp only [V.nb]; exact puL.nb a h
  | .raw _, _ => by simp [V.nb]
theorem puL.nb {b n : Nat} : ∀ (l : List V), puL l → nbL b n l
  | [], _ => by simp [nbL]
  | v :: l, h => by simp only [puL] at h; simp only [nbL]; exact ⟨V.pu.nb v h.1, puL.nb l h.2⟩
end
mutual
theorem V.lt.ren {n : Nat} {g : Nm → Nm} (hg : ∀ i, i < n → g (.l i) = .l i) (he : ∀ i, g (.e i) = .e i) : ∀ (v : V), v.lt n → v.ren g = v
  | .int .., _ => rfl
  | .bool _, _ => rfl
  | .str _, _ => rfl
  | .ptr (.e i) _, h => by simp only [V.ren, he]
  | .ptr (.l i) _, h => by simp only [V.lt] at h; simp only [V.ren, hg i h]
  | .nilptr, _ => rfl
  | .sl (.e i) _ _ _, h => by simp only [V.ren, he]
  | .sl (.l i) _ _ _, h => by simp only [V.lt] at h; simp only [V.ren, hg i h]
  | .nilsl, _ => rfl
  | .slx (.e i) _ _, h => by simp only [V.ren, he]
  | .slx (.l i) _ _, h => by simp only [V.lt] at h; simp only [V.ren, hg i h]
  | .fn _ a c, h => by simp only [V.lt] at h; simp only [V.ren, ltL.ren hg he a h.1, ltL.ren hg he c h.2]
  | .agg a, h => by simp only [V.lt] at h; simp only [V.ren, ltL.ren hg he a h]
  | .tup a, h => by simp only [V.lt] at h; simp only [V.ren, ltL.ren hg he a h]
  | .raw _, _ => rfl
theorem ltL.ren {n : Nat} {g : Nm → Nm} (hg : ∀ i, i < n → g (.l i) = .l i) (he : ∀ i, g (.e i) = .e i) : ∀ (l : List V), ltL n l → renL g l = l
  | [], _ => rfl
  | v :: l, h => by simp only [ltL] at h; simp only [renL, V.lt.ren hg he v h.1, ltL.ren hg he l h.2]
end

theorem kmap_range {n i : Nat} : kmap (List.range n) (.l i) = .l i := by
  simp only [kmap]
  by_cases h : i < n
  · simp [h]
  · simp [h]
theorem kmap_swap {n b i : Nat} (h : i ≠ b) : kmap ((List.range n).set b n) (.l i) = .l i := by
  simp only [kmap, List.getElem?_set, if_neg (fun e : b = i => h e.symm)]
  by_cases h2 : i < n
  · simp [h2]
  · simp [h2]
theorem kmap_swap_b {n b : Nat} (h : b < n) : kmap ((List.range n).set b n) (.l b) = .l n := by
  simp [kmap, List.getElem?_set, h]

theorem map_renL_nb {b n : Nat} {g : Nm → Nm} (hg : ∀ i, i < n → i ≠ b → g (.l i) = .l i) (he : ∀ i, g (.e i) = .e i) (E : List (List V)) (h : nbC b n E) : E.map (renL g) = E := by
  conv => rhs; rw [← List.map_id E]
  exact List.map_congr_left fun c hc => nbL.ren hg he c (nbC_mem h c hc)

/-- The same state with fewer slots. -/
theorem wk_less {s : St} {t : List (Nat × V)} (ht : ∀ k v, lk t k = some v → lk s.t k = some v ∧ v.lt s.m.length) (he : ltC s.m.length s.e) (hm : ltC s.m.length s.m) : Wk s ⟨t, s.m, s.e⟩ := by
  have hg : ∀ i, i < s.m.length → kmap (List.range s.m.length) (.l i) = .l i := fun i _ => kmap_range
  refine ⟨List.range s.m.length, List.nodup_range, ?_, ?_, by simp, ?_, by simpa using ltC_iff.1 he, by simpa using ltC_iff.1 hm⟩
  · intro k v hk
    obtain ⟨h1, h2⟩ := ht k v hk
    exact ⟨v, h1, .inl (V.lt.ren hg (fun _ => rfl) v h2).symm, by simpa using h2⟩
  · conv => lhs; rw [← List.map_id s.e]
    exact (List.map_congr_left fun c hc => ltL.ren hg (fun _ => rfl) c (ltC_iff.1 he c hc)).symm
  · intro i k c hi hc
    have hc' : s.m[i]? = some c := hc
    have hlt : i < s.m.length := (List.getElem?_eq_some_iff.1 hc').1
    simp [hlt] at hi
    subst hi
    exact ⟨[], by rw [ltL.ren hg (fun _ => rfl) c (ltC_iff.1 hm c (List.mem_of_getElem? hc'))]; simpa using hc'⟩
theorem wkK_same {s : St} {K : St → Prop} (ht : ltT s.m.length s.t) (he : ltC s.m.length s.e) (hm : ltC s.m.length s.m) (hK : K s) : WkK K s := by
  refine ⟨s, ?_, hK⟩
  exact wk_less (s := s) (t := s.t) (fun k v hk => ⟨hk, ltT_iff.1 ht (k, v) (lk_mem hk)⟩) he hm

theorem one_zrow {z : List V} (h : ∀ v ∈ z, V.one v = true) (n : Nat) : ∀ v ∈ zrow z n, V.one v = true := by
  intro v hv
  simp only [zrow, List.mem_map] at hv
  obtain ⟨i, _, rfl⟩ := hv
  by_cases h2 : i % z.length < z.length
  · simp only [List.getD, List.getElem?_eq_getElem h2, Option.getD_some]; exact h _ (List.getElem_mem h2)
  · simp [List.getD, List.getElem?_eq_none (Nat.le_of_not_lt h2)]
theorem pu_zrow {z : List V} (h : puL z) (n : Nat) : puL (zrow z n) := by
  rw [puL_iff] at *
  intro v hv
  simp only [zrow, List.mem_map] at hv
  obtain ⟨i, _, rfl⟩ := hv
  by_cases h2 : i % z.length < z.length
  · simp only [List.getD, List.getElem?_eq_getElem h2, Option.getD_some]; exact h _ (List.getElem_mem h2)
  · simp [List.getD, List.getElem?_eq_none (Nat.le_of_not_lt h2)]

theorem nbC_at {b n : Nat} {l : List (List V)} (h : nbC b n l) {i : Nat} {c : List V} (hi : l[i]? = some c) : nbL b n c := nbC_mem h c (List.mem_of_getElem? hi)

/-- **An append to a slice of the call's own that nothing else names**: the block keeps its name, and its capacity may have grown. -/
theorem app_own {ro : Bool} {z : List V} {bytes : Nat} {isStr : Bool} {yv : V} {s : St} {K : St → Prop} {d : Option Nat} (ks : List Nat) (b len cap c : Nat) {data news junk : List V}
    (hy : appNew s z.length isStr yv = some (c, news)) (hs1 : isStr = true → z.length = 1) (hn : ∀ v ∈ news, V.one v = true) (hm : s.m[b]? = some (data ++ junk))
    (hd : data.length = len * z.length) (hj : junk.length = (cap - len) * z.length) (hle : len ≤ cap)
    (hb1 : len + c ≤ 4611686018427387904) (hb2 : (2 * (len + c) + 192) * bytes ≤ 281474976710656)
    (hpd : puL data) (hpn : puL news) (hpj : puL junk) (hpz : puL z)
    (ht : nbT b s.m.length (kl s.t ks)) (he : nbC b s.m.length s.e) (hmm : nbC b s.m.length s.m)
    (hK : ∀ cap' junk', len + c ≤ cap' → junk'.length = (cap' - (len + c)) * z.length → puL junk' → K (St.put ⟨kl s.t ks, s.m.set b (data ++ (news ++ junk')), s.e⟩ d (.sl (.l b) 0 (len + c) cap'))) :
    appWp ro z bytes isStr (.sl (.l b) 0 len cap) yv s fun v s' => WkK K (s'.put d v) := by
  have hnl := appNew_len hy hs1
  have hbl : b < s.m.length := (List.getElem?_eq_some_iff.1 hm).1
  have hblk : s.blk (.l b) = some (data ++ junk) := hm
  unfold appWp
  rw [hy]
  refine ⟨hn, ?_⟩
  simp only [hblk]
  split
  · rename_i hc
    have hsplit : (cap - len) * z.length = c * z.length + (cap - (len + c)) * z.length := by rw [← Nat.add_mul]; congr 1; omega
    refine ⟨rfl, by simp only [List.length_append, hd, hj, hsplit, Nat.add_mul]; omega, ?_⟩
    have hput : putl (data ++ junk) (0 + len * z.length) news = data ++ (news ++ junk.drop (c * z.length)) := by
      rw [putl_eq _ _ _ (by simp only [List.length_append, hd, hj, hnl, hsplit]; omega), hnl]
      have e1 : (data ++ junk).take (0 + len * z.length) = data := by rw [Nat.zero_add, ← hd]; exact List.take_left
      have e2 : (data ++ junk).drop (0 + len * z.length + c * z.length) = junk.drop (c * z.length) := by
        rw [Nat.zero_add, ← hd, ← List.drop_drop, List.drop_left]
      rw [e1, e2]
    rw [hput]
    refine ⟨_, ?_, hK cap (junk.drop (c * z.length)) hc (by rw [List.length_drop, hj, hsplit]; omega) (puL_drop hpj)⟩
    have hlen : (s.m.set b (data ++ (news ++ junk.drop (c * z.length)))).length = s.m.length := by simp
    have hm2 : ltC s.m.length (s.m.set b (data ++ (news ++ junk.drop (c * z.length)))) := by
      rw [ltC_iff]
      intro x hx
      rcases List.mem_or_eq_of_mem_set hx with hx | rfl
      · exact nbL.lt (Nat.le_refl _) _ (nbC_mem hmm x hx)
      · exact puL.lt _ (puL_append.2 ⟨hpd, puL_append.2 ⟨hpn, puL_drop hpj⟩⟩)
    have he2 : ltC s.m.length s.e := ltC_iff.2 fun x hx => nbL.lt (Nat.le_refl _) _ (nbC_mem he x hx)
    have hw := wk_less (s := St.put (s.setBlk (.l b) (data ++ (news ++ junk.drop (c * z.length)))) d (.sl (.l b) 0 (len + c) cap)) (t := (St.put ⟨kl s.t ks, s.m.set b (data ++ (news ++ junk.drop (c * z.length))), s.e⟩ d (.sl (.l b) 0 (len + c) cap)).t) ?_ ?_ ?_
    · cases d <;> exact hw
    · have hlt : ∀ j v, lk (kl s.t ks) j = some v → v.lt s.m.length := fun j v hv => V.nb.lt (Nat.le_refl _) v (nbT_lk ht hv)
      cases d with
      | none =>
        intro j v hv
        exact ⟨lk_kl _ _ _ _ hv, by simpa [St.put, St.setBlk] using hlt j v hv⟩
      | some q =>
        intro j v hv
        simp only [St.put, St.setBlk, lk_sv] at hv ⊢
        by_cases e : q = j
        · rw [if_pos e] at hv; cases hv
          exact ⟨by rw [if_pos e], by simp only [V.lt, List.length_set]; exact hbl⟩
        · rw [if_neg e] at hv
          exact ⟨by rw [if_neg e]; exact lk_kl _ _ _ _ hv, by simpa using hlt j v hv⟩
    · cases d <;> simpa [St.put, St.setBlk] using he2
    · cases d <;> simpa [St.put, St.setBlk] using hm2
  · rename_i hc
    have hdl : len * z.length = data.length := hd.symm
    refine ⟨by simp only [List.length_append]; omega, fun h => by simp [isE] at h, hb1, hb2, ?_⟩
    intro nc hnc1 hnc2
    have hold : List.take (len * z.length) (List.drop 0 (data ++ junk)) = data := by rw [List.drop_zero, hdl]; exact List.take_left
    rw [hold]
    refine ⟨_, ?_, hK nc (zrow z (nc - (len + c))) hnc1 (by simp) (pu_zrow hpz _)⟩
    generalize hn' : s.m.length = n at *
    have hg : ∀ i, i < n → i ≠ b → kmap ((List.range n).set b n) (.l i) = .l i := fun i _ h => kmap_swap h
    have hpu : puL (data ++ (news ++ zrow z (nc - (len + c)))) := puL_append.2 ⟨hpd, puL_append.2 ⟨hpn, pu_zrow hpz _⟩⟩
    refine ⟨(List.range n).set b n, ?_, ?_, ?_, ?_, ?_, ?_, ?_⟩
    · rw [List.Nodup, List.pairwise_iff_getElem]
      intro i j hi hj2 hij
      simp at hi hj2
      simp only [List.getElem_set, List.getElem_range]
      split <;> split <;> omega
    · intro j v hv
      have hlen : ((List.range n).set b n).length = n := by simp
      rw [hlen]
      have hlt : ∀ j v, lk (kl s.t ks) j = some v → ∃ u, lk s.t j = some u ∧ (u = v.ren (kmap ((List.range n).set b n)) ∨ u.hid = v.ren (kmap ((List.range n).set b n))) ∧ v.lt n := fun j v hv =>
        ⟨v, lk_kl _ _ _ _ hv, .inl (V.nb.ren hg (fun _ => rfl) v (nbT_lk ht hv)).symm, V.nb.lt (Nat.le_refl _) v (nbT_lk ht hv)⟩
      cases d with
      | none => exact hlt j v hv
      | some q =>
        simp only [St.put, lk_sv] at hv ⊢
        by_cases e : q = j
        · rw [if_pos e] at hv; cases hv
          exact ⟨_, by rw [if_pos e], .inl (by simp only [V.ren, kmap_swap_b hbl]), by simp only [V.lt]; exact hbl⟩
        · rw [if_neg e] at hv
          rw [if_neg e]
          exact hlt j v hv
    · have : s.e = s.e.map (renL (kmap ((List.range n).set b n))) := (map_renL_nb hg (fun _ => rfl) s.e he).symm
      cases d <;> exact this
    · cases d <;> simp [St.put, hn']
    · intro i j x hi hx
      have hx' : (s.m.set b (data ++ (news ++ zrow z (nc - (len + c)))))[i]? = some x := by cases d <;> exact hx
      have hgoal : ∃ tail, (s.m ++ [data ++ (news ++ zrow z (nc - (len + c)))])[j]? = some (renL (kmap ((List.range n).set b n)) x ++ tail) := by
        by_cases e : i = b
        · subst e
          rw [List.getElem?_set_self (by omega)] at hx'
          cases hx'
          rw [List.getElem?_set_self (by simpa using hbl)] at hi
          cases hi
          refine ⟨[], ?_⟩
          rw [puL.ren _ hpu, ← hn', List.getElem?_append_right (Nat.le_refl _)]
          simp
        · rw [List.getElem?_set_ne (fun h => e h.symm)] at hx' hi
          have hlt : i < s.m.length := (List.getElem?_eq_some_iff.1 hx').1
          rw [List.getElem?_range (by omega)] at hi
          cases hi
          refine ⟨[], ?_⟩
          rw [nbL.ren hg (fun _ => rfl) x (nbC_at hmm hx'), List.getElem?_append_left hlt, List.append_nil]
          exact hx'
      cases d <;> exact hgoal
    · intro x hx
      have hx' : x ∈ s.e := by cases d <;> exact hx
      rw [List.length_set, List.length_range]
      exact nbL.lt (Nat.le_refl _) _ (nbC_mem he x hx')
    · intro x hx
      have hx' : x ∈ s.m.set b (data ++ (news ++ zrow z (nc - (len + c)))) := by cases d <;> exact hx
      rw [List.length_set, List.length_range]
      rcases List.mem_or_eq_of_mem_set hx' with hx' | rfl
      · exact nbL.lt (Nat.le_refl _) _ (nbC_mem hmm x hx')
      · exact puL.lt _ hpu
/-- The same state with fewer slots and fewer own blocks. -/
theorem wk_lessT {s : St} {t : List (Nat × V)} (T : Nat) (hT : T ≤ s.m.length) (ht : ∀ k v, lk t k = some v → lk s.t k = some v ∧ v.lt T) (he : ltC T s.e) (hm : ltC T (s.m.take T)) : Wk s ⟨t, s.m.take T, s.e⟩ := by
  have hg : ∀ i, i < T → kmap (List.range T) (.l i) = .l i := fun i _ => kmap_range
  refine ⟨List.range T, List.nodup_range, ?_, ?_, by simp; omega, ?_, by simpa using ltC_iff.1 he, by simpa using ltC_iff.1 hm⟩
  · intro k v hk
    obtain ⟨h1, h2⟩ := ht k v hk
    exact ⟨v, h1, .inl (V.lt.ren hg (fun _ => rfl) v h2).symm, by simpa using h2⟩
  · conv => lhs; rw [← List.map_id s.e]
    exact (List.map_congr_left fun c hc => ltL.ren hg (fun _ => rfl) c (ltC_iff.1 he c hc)).symm
  · intro i k c hi hc
    have hc' : (s.m.take T)[i]? = some c := hc
    have hlt : i < T := by
      have := (List.getElem?_eq_some_iff.1 hc').1
      simp at this; omega
    simp [hlt] at hi
    subst hi
    refine ⟨[], ?_⟩
    rw [ltL.ren hg (fun _ => rfl) c (ltC_iff.1 hm c (List.mem_of_getElem? hc')), List.append_nil]
    rw [List.getElem?_take_of_lt hlt] at hc'
    exact hc'
theorem kmap_swap2 {n T b i : Nat} (h : i ≠ b) : kmap ((List.range T).set b n) (.l i) = .l i := by
  simp only [kmap, List.getElem?_set, if_neg (fun e : b = i => h e.symm)]
  by_cases h2 : i < T
  · simp [h2]
  · simp [h2]
theorem kmap_swap_b2 {n T b : Nat} (h : b < T) : kmap ((List.range T).set b n) (.l b) = .l n := by
  simp [kmap, List.getElem?_set, h]
/-- The same, and the own blocks from T on are forgotten. -/
theorem app_ownT (T : Nat) {ro : Bool} {z : List V} {bytes : Nat} {isStr : Bool} {yv : V} {s : St} {K : St → Prop} {d : Option Nat} (ks : List Nat) (b len cap c : Nat) {data news junk : List V}
    (hy : appNew s z.length isStr yv = some (c, news)) (hs1 : isStr = true → z.length = 1) (hn : ∀ v ∈ news, V.one v = true) (hm : s.m[b]? = some (data ++ junk))
    (hd : data.length = len * z.length) (hj : junk.length = (cap - len) * z.length) (hle : len ≤ cap)
    (hb1 : len + c ≤ 4611686018427387904) (hb2 : (2 * (len + c) + 192) * bytes ≤ 281474976710656)
    (hpd : puL data) (hpn : puL news) (hpj : puL junk) (hpz : puL z)
    (hT : T ≤ s.m.length) (hbT : b < T) (ht : nbT b T (kl s.t ks)) (he : nbC b T s.e) (hmm : nbC b T (s.m.take T))
    (hK : ∀ cap' junk', len + c ≤ cap' → junk'.length = (cap' - (len + c)) * z.length → puL junk' → K (St.put ⟨kl s.t ks, (s.m.take T).set b (data ++ (news ++ junk')), s.e⟩ d (.sl (.l b) 0 (len + c) cap'))) :
    appWp ro z bytes isStr (.sl (.l b) 0 len cap) yv s fun v s' => WkK K (s'.put d v) := by
  have hnl := appNew_len hy hs1
  have hbl : b < s.m.length := (List.getElem?_eq_some_iff.1 hm).1
  have hblk : s.blk (.l b) = some (data ++ junk) := hm
  unfold appWp
  rw [hy]
  refine ⟨hn, ?_⟩
  simp only [hblk]
  split
  · rename_i hc
    have hsplit : (cap - len) * z.length = c * z.length + (cap - (len + c)) * z.length := by rw [← Nat.add_mul]; congr 1; omega
    refine ⟨rfl, by simp only [List.length_append, hd, hj, hsplit, Nat.add_mul]; omega, ?_⟩
    have hput : putl (data ++ junk) (0 + len * z.length) news = data ++ (news ++ junk.drop (c * z.length)) := by
      rw [putl_eq _ _ _ (by simp only [List.length_append, hd, hj, hnl, hsplit]; omega), hnl]
      have e1 : (data ++ junk).take (0 + len * z.length) = data := by rw [Nat.zero_add, ← hd]; exact List.take_left
      have e2 : (data ++ junk).drop (0 + len * z.length + c * z.length) = junk.drop (c * z.length) := by
        rw [Nat.zero_add, ← hd, ← List.drop_drop, List.drop_left]
      rw [e1, e2]
    rw [hput]
    refine ⟨_, ?_, hK cap (junk.drop (c * z.length)) hc (by rw [List.length_drop, hj, hsplit]; omega) (puL_drop hpj)⟩
    have hset : (s.m.set b (data ++ (news ++ junk.drop (c * z.length)))).take T = (s.m.take T).set b (data ++ (news ++ junk.drop (c * z.length))) := List.take_set
    have hm2 : ltC T ((s.m.set b (data ++ (news ++ junk.drop (c * z.length)))).take T) := by
      rw [hset, ltC_iff]
      intro x hx
      rcases List.mem_or_eq_of_mem_set hx with hx | rfl
      · exact nbL.lt (Nat.le_refl _) _ (nbC_mem hmm x hx)
      · exact puL.lt _ (puL_append.2 ⟨hpd, puL_append.2 ⟨hpn, puL_drop hpj⟩⟩)
    have he2 : ltC T s.e := ltC_iff.2 fun x hx => nbL.lt (Nat.le_refl _) _ (nbC_mem he x hx)
    have hw := wk_lessT (s := St.put (s.setBlk (.l b) (data ++ (news ++ junk.drop (c * z.length)))) d (.sl (.l b) 0 (len + c) cap)) (t := (St.put ⟨kl s.t ks, (s.m.take T).set b (data ++ (news ++ junk.drop (c * z.length))), s.e⟩ d (.sl (.l b) 0 (len + c) cap)).t) T ?_ ?_ ?_ ?_
    · cases d <;> (simp only [St.put, St.setBlk, hset] at hw ⊢; exact hw)
    · cases d <;> simpa [St.put, St.setBlk] using hT
    · have hlt : ∀ j v, lk (kl s.t ks) j = some v → v.lt T := fun j v hv => V.nb.lt (Nat.le_refl _) v (nbT_lk ht hv)
      cases d with
      | none =>
        intro j v hv
        exact ⟨lk_kl _ _ _ _ hv, hlt j v hv⟩
      | some q =>
        intro j v hv
        simp only [St.put, St.setBlk, lk_sv] at hv ⊢
        by_cases e : q = j
        · rw [if_pos e] at hv; cases hv
          exact ⟨by rw [if_pos e], by simp only [V.lt]; exact hbT⟩
        · rw [if_neg e] at hv
          exact ⟨by rw [if_neg e]; exact lk_kl _ _ _ _ hv, hlt j v hv⟩
    · cases d <;> simpa [St.put, St.setBlk] using he2
    · cases d <;> simpa [St.put, St.setBlk] using hm2
  · rename_i hc
    have hdl : len * z.length = data.length := hd.symm
    refine ⟨by simp only [List.length_append]; omega, fun h => by simp [isE] at h, hb1, hb2, ?_⟩
    intro nc hnc1 hnc2
    have hold : List.take (len * z.length) (List.drop 0 (data ++ junk)) = data := by rw [List.drop_zero, hdl]; exact List.take_left
    rw [hold]
    refine ⟨_, ?_, hK nc (zrow z (nc - (len + c))) hnc1 (by simp) (pu_zrow hpz _)⟩
    obtain ⟨n, hn'⟩ : ∃ n, n = s.m.length := ⟨_, rfl⟩
    rw [← hn']
    have hg : ∀ i, i < T → i ≠ b → kmap ((List.range T).set b n) (.l i) = .l i := fun i _ h => kmap_swap2 h
    have hpu : puL (data ++ (news ++ zrow z (nc - (len + c)))) := puL_append.2 ⟨hpd, puL_append.2 ⟨hpn, pu_zrow hpz _⟩⟩
    refine ⟨(List.range T).set b n, ?_, ?_, ?_, ?_, ?_, ?_, ?_⟩
    · rw [List.Nodup, List.pairwise_iff_getElem]
      intro i j hi hj2 hij
      simp at hi hj2
      simp only [List.getElem_set, List.getElem_range]
      split <;> split <;> omega
    · intro j v hv
      have hlen : ((List.range T).set b n).length = T := by simp
      rw [hlen]
      have hlt : ∀ j v, lk (kl s.t ks) j = some v → ∃ u, lk s.t j = some u ∧ (u = v.ren (kmap ((List.range T).set b n)) ∨ u.hid = v.ren (kmap ((List.range T).set b n))) ∧ v.lt T := fun j v hv =>
        ⟨v, lk_kl _ _ _ _ hv, .inl (V.nb.ren hg (fun _ => rfl) v (nbT_lk ht hv)).symm, V.nb.lt (Nat.le_refl _) v (nbT_lk ht hv)⟩
      cases d with
      | none => exact hlt j v hv
      | some q =>
        simp only [St.put, lk_sv] at hv ⊢
        by_cases e : q = j
        · rw [if_pos e] at hv; cases hv
          exact ⟨_, by rw [if_pos e], .inl (by simp only [V.ren, kmap_swap_b2 hbT]), by simp only [V.lt]; exact hbT⟩
        · rw [if_neg e] at hv
          rw [if_neg e]
          exact hlt j v hv
    · have : s.e = s.e.map (renL (kmap ((List.range T).set b n))) := (map_renL_nb hg (fun _ => rfl) s.e he).symm
      cases d <;> exact this
    · cases d <;> simp [St.put] <;> omega
    · intro i j x hi hx
      have hx' : ((s.m.take T).set b (data ++ (news ++ zrow z (nc - (len + c)))))[i]? = some x := by cases d <;> exact hx
      have hgoal : ∃ tail, (s.m ++ [data ++ (news ++ zrow z (nc - (len + c)))])[j]? = some (renL (kmap ((List.range T).set b n)) x ++ tail) := by
        by_cases e : i = b
        · subst e
          rw [List.getElem?_set_self (by simp; omega)] at hx'
          cases hx'
          rw [List.getElem?_set_self (by simpa using hbT)] at hi
          cases hi
          refine ⟨[], ?_⟩
          rw [puL.ren _ hpu, hn', List.getElem?_append_right (Nat.le_refl _)]
          simp
        · rw [List.getElem?_set_ne (fun h => e h.symm)] at hx' hi
          have hltT : i < T := by
            have := (List.getElem?_eq_some_iff.1 hx').1
            simp at this; omega
          have hlt : i < s.m.length := by omega
          rw [List.getElem?_range (by omega)] at hi
          cases hi
          refine ⟨[], ?_⟩
          rw [nbL.ren hg (fun _ => rfl) x (nbC_at hmm hx'), List.getElem?_append_left hlt, List.append_nil]
          rw [List.getElem?_take_of_lt hltT] at hx'
          exact hx'
      cases d <;> exact hgoal
    · intro x hx
      have hx' : x ∈ s.e := by cases d <;> exact hx
      rw [List.length_set, List.length_range]
      exact nbL.lt (Nat.le_refl _) _ (nbC_mem he x hx')
    · intro x hx
      have hx' : x ∈ (s.m.take T).set b (data ++ (news ++ zrow z (nc - (len + c)))) := by cases d <;> exact hx
      rw [List.length_set, List.length_range]
      rcases List.mem_or_eq_of_mem_set hx' with hx' | rfl
      · exact nbL.lt (Nat.le_refl _) _ (nbC_mem hmm x hx')
      · exact puL.lt _ hpu
attribute [simp] V.nb nbL nbT nbC
section
variable {b n : Nat}
@[simp] theorem arr_nb {k : IntKind} {m : Nat} {F : Nat → Int} : nbL b n (arr k m F) := puL.nb _ arr_pu
@[simp] theorem byt_nb {m : Nat} {f : Nat → Nat} : nbL b n (byt m f) := puL.nb _ byt_pu
@[simp] theorem layC_nb {p : Int} {f : Nat → Nat} : nbL b n (layC p f) := puL.nb _ layC_pu
@[simp] theorem schC_nb {s p : Int} {w g : Nat → Nat} : nbL b n (schC s p w g) := puL.nb _ schC_pu
end
end Go.Ab
