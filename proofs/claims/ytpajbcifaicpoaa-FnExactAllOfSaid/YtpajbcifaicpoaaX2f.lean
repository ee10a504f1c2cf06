/- A part of the proof library: names for blocks of memory, a small form of the code, and rules for walks over it. -/
import Derived.Test.YtpajbcifaicpoaaX1f
set_option linter.all false
namespace Go.Proofs.Ytpajbcifaicpoaa
open Go.Ab
set_option linter.all false
set_option maxHeartbeats 800000

def allL0 : MC :=
  (.seq (.reg none [
      ⟨(some 22), .bin .lss (.t 21) (.t 20), none⟩] (some [2, 4, 5, 20, 21, 22]) none)
    (.seq (.cond (.t 22) .skip
    (.exit 0))
    (.seq (.block 1 (.seq (.reg none [
      ⟨(some 23), .mov (.t 21), none⟩,
      ⟨(some 6), .mov (.t 23), none⟩] (some [2, 4, 5, 6, 20, 21]) none)
    (.seq (.reg none [
      ⟨(some 24), .mov (.t 6), none⟩,
      ⟨(some 25), .conv .u64 (.t 24), none⟩,
      ⟨(some 26), .call 20 [(.t 25)], none⟩,
      ⟨(some 27), .bin .rem (.t 26) (.c (.int .i64 2)), none⟩,
      ⟨(some 7), .mov (.t 27), none⟩] (some [2, 4, 5, 6, 7, 20, 21]) none)
    (.reg none [
      ⟨(some 28), .mov (.t 7), none⟩,
      ⟨(some 29), .mov (.t 7), none⟩,
      ⟨(some 30), .iaA 2 1 (.t 5) (.t 29), none⟩,
      ⟨(some 31), .load none (.t 30), none⟩,
      ⟨(some 32), .mov (.t 6), none⟩,
      ⟨(some 33), .conv .u8 (.t 32), none⟩,
      ⟨(some 34), .bldS [.int .u8 0] 1 [(0, 1, (.t 33))], none⟩,
      ⟨(some 35), .app [.int .u8 0] 1 false (.t 31) (.t 34), none⟩,
      ⟨(some 36), .iaA 2 1 (.t 5) (.t 28), none⟩,
      ⟨none, .store 1 (.t 36) (.t 35), none⟩] (some [2, 4, 5, 20, 21]) none))))
    (.reg none [
      ⟨(some 37), .bin .add (.t 21) (.c (.int .i64 1)), none⟩,
      ⟨(some 21), .mov (.t 37), none⟩] (some [2, 4, 5, 20, 21]) none))))
def allM : MC :=
  (.seq (.reg none [
      ⟨(some 2), .new (rl [(2, .int .i8 0), (12, .int .u8 0)]), none⟩,
      ⟨(some 3), .mov (.c (.int .i64 0)), none⟩] (some [0, 2]) none)
    (.seq (.seq (.reg none [
      ⟨(some 8), .mov (.t 0), none⟩,
      ⟨(some 9), .call 19 [(.t 8), (.c (.int .i64 2)), (.c (.int .i64 4))], none⟩,
      ⟨(some 10), .un .not (.t 9), none⟩] (some [0, 2, 10]) none)
    (.cond (.t 10) (.seq (.reg none [
      ⟨(some 11), .bld (rl [(2, .int .i8 0), (12, .int .u8 0)]) [], none⟩,
      ⟨none, .store 14 (.t 2) (.t 11), none⟩,
      ⟨(some 3), .mov (.c (.int .i64 2)), none⟩] (some [2, 3]) none)
    .ret)
    .skip))
    (.seq (.reg none [
      ⟨(some 12), .mov (.t 0), none⟩,
      ⟨(some 13), .conv .i8 (.t 12), none⟩,
      ⟨(some 14), .mov (.t 0), none⟩,
      ⟨(some 15), .bin .sub (.t 14) (.c (.int .i64 1)), none⟩,
      ⟨(some 16), .bin .shl (.c (.int .i8 1)) (.t 15), none⟩,
      ⟨(some 17), .bld (rl [(2, .int .i8 0), (12, .int .u8 0)]) [(0, 1, (.t 13)), (1, 1, (.t 16))], none⟩,
      ⟨(some 4), .new (rl [(2, .int .i8 0), (12, .int .u8 0)]), none⟩,
      ⟨none, .store 14 (.t 4) (.t 17), none⟩] (some [0, 2, 4]) none)
    (.seq (.reg none [
      ⟨(some 18), .bld [.nilsl, .nilsl] [], none⟩,
      ⟨(some 5), .new [.nilsl, .nilsl], none⟩,
      ⟨none, .store 2 (.t 5) (.t 18), none⟩] (some [0, 2, 4, 5]) none)
    (.seq (.seq (.reg none [
      ⟨(some 19), .mov (.t 0), none⟩,
      ⟨(some 20), .bin .shl (.c (.int .i64 1)) (.t 19), none⟩,
      ⟨(some 21), .mov (.c (.int .i64 0)), none⟩] (some [2, 4, 5, 20, 21]) none)
    (.block 0 (.loop allL0)))
    (.seq (.reg none [
      ⟨(some 38), .iaA 2 1 (.t 5) (.c (.int .i64 0)), none⟩,
      ⟨(some 39), .load none (.t 38), none⟩,
      ⟨(some 40), .call 21 [(.t 4), (.t 39), (.c (.bool false))], none⟩] (some [2, 4, 5]) none)
    (.seq (.reg none [
      ⟨(some 41), .iaA 2 1 (.t 5) (.c (.int .i64 1)), none⟩,
      ⟨(some 42), .load none (.t 41), none⟩,
      ⟨(some 43), .call 21 [(.t 4), (.t 42), (.c (.bool true))], none⟩] (some [2, 4]) none)
    (.seq (.reg none [
      ⟨(some 44), .load (some 14) (.t 4), none⟩,
      ⟨none, .store 14 (.t 2) (.t 44), none⟩,
      ⟨(some 3), .mov (.c (.int .i64 0)), none⟩] (some [2, 3]) none)
    .ret))))))))
def allF : MF := ⟨45, [.c 2 (some 14), .t 3], allM⟩

theorem allF_ok : OkF Try.prog 9 allF Try.f9 (bodyOf Try.f9) := ⟨Try.func9, by kernel_rfl, by kernel_rfl, by kernel_rfl, by kernel_rfl⟩

mutual
theorem V.lt.mono' {a b : Nat} (h : a ≤ b) : ∀ (v : V), v.lt a → v.lt b
  | .int .., _ => by simp [V.lt]
  | .bool _, _ => by simp [V.lt]
  | .str _, _ => by simp [V.lt]
  | .ptr (.e _) _, _ => by simp [V.lt]
  | .ptr (.l k) _, hv => by simp only [V.lt] at *; omega
  | .nilptr, _ => by simp [V.lt]
  | .sl (.e _) _ _ _, _ => by simp [V.lt]
  | .sl (.l k) _ _ _, hv => by simp only [V.lt] at *; omega
  | .nilsl, _ => by simp [V.lt]
  | .slx (.e _) _ _, _ => by simp [V.lt]
  | .slx (.l k) _ _, hv => by simp only [V.lt] at *; omega
  | .fn _ x y, hv => by simp only [V.lt] at *; exact ⟨ltL.mono' h x hv.1, ltL.mono' h y hv.2⟩
  | .agg x, hv => by simp only [V.lt] at *; exact ltL.mono' h x hv
  | .tup x, hv => by simp only [V.lt] at *; exact ltL.mono' h x hv
  | .raw _, _ => by simp [V.lt]
theorem ltL.mono' {a b : Nat} (h : a ≤ b) : ∀ (l : List V), ltL a l → ltL b l
  | [], _ => by simp [ltL]
  | v :: l, hv => by simp only [ltL] at *; exact ⟨V.lt.mono' h v hv.1, ltL.mono' h l hv.2⟩
end

/-- A slice of bytes in a block of its own among these, or nil. -/
def Col (mm : List (List V)) (v : V) (l : List Nat) : Prop :=
  (v = .nilsl ∧ l = []) ∨ ∃ b cap junk, 3 ≤ b ∧ v = .sl (.l b) 0 l.length cap ∧ l.length ≤ cap ∧ mm[b]? = some (intl l ++ junk) ∧ junk.length = cap - l.length ∧ puL junk
def blkOf : V → Option Nat
  | .sl (.l b) _ _ _ => some b
  | _ => none
theorem Col.lt {mm : List (List V)} {v : V} {l : List Nat} (h : Col mm v l) : v.lt mm.length := by
  rcases h with ⟨rfl, rfl⟩ | ⟨b, cap, junk, _, rfl, _, hm, _⟩
  · simp [V.lt]
  · have := (List.getElem?_eq_some_iff.1 hm).1
    simpa [V.lt] using this
theorem Col.one {mm : List (List V)} {v : V} {l : List Nat} (h : Col mm v l) : v.one = true := by
  rcases h with ⟨rfl, rfl⟩ | ⟨b, cap, junk, _, rfl, _⟩ <;> rfl
/-- What is kept of the blocks behind an append to v. -/
structure Kept (mm mm' : List (List V)) (v v' : V) : Prop where
  len : mm.length < mm'.length
  low : ∀ i, i < 3 → mm'[i]? = mm[i]?
  cols : ∀ u l, Col mm u l → (∀ b, blkOf v = some b → blkOf u = some b → False) → Col mm' u l ∧ ∀ b, blkOf v' = some b → blkOf u = some b → False
  lts : ∀ c ∈ mm', c ∈ mm ∨ puL c

theorem app_col {ro : Bool} {mm : List (List V)} {v : V} {l : List Nat} {x : Nat} (h : Col mm v l) (hl : l.length ≤ 1000) (h3 : 3 ≤ mm.length) {t : List (Nat × V)} {K : V → St → Prop}
    (hK : ∀ v' mm', Col mm' v' (l ++ [x]) → Kept mm mm' v v' → K v' ⟨t, mm', []⟩) :
    appWp ro [.int .u8 0] 1 false v (.sl (.l mm.length) 0 1 1) ⟨t, mm ++ [[.int .u8 x]], []⟩ K := by
  have hn : appNew ⟨t, mm ++ [[.int .u8 x]], []⟩ 1 false (.sl (.l mm.length) 0 1 1) = some (1, [.int .u8 x]) := by simp [appNew]
  have hgrow : ∀ (nc : Nat) (old : List V), l.length + 1 ≤ nc → old = intl l → K (.sl (.l (mm ++ [[V.int .u8 x]]).length) 0 (l.length + 1) nc) ⟨t, mm ++ [[.int .u8 x]] ++ [old ++ ([.int .u8 x] ++ zrow [.int .u8 0] (nc - (l.length + 1)))], []⟩ := by
    rintro nc _ hnc rfl
    refine hK _ _ (.inr ⟨mm.length + 1, nc, zrow [.int .u8 0] (nc - (l.length + 1)), by omega, by simp, by simpa using hnc, ?_, by simp, ?_⟩) ⟨by simp, ?_, ?_, ?_⟩
    · rw [List.getElem?_append_right (by simp)]
      simp [intl_app, intl]
    · exact pu_zrow (by simp [puL]) _
    · intro i hi
      rw [List.append_assoc, List.getElem?_append_left (by omega)]
    · intro u l2 hu _
      refine ⟨?_, ?_⟩
      · rcases hu with ⟨rfl, rfl⟩ | ⟨b, cap, junk, hb3, rfl, hle, hm, hj, hp⟩
        · exact .inl ⟨rfl, rfl⟩
        · exact .inr ⟨b, cap, junk, hb3, rfl, hle, by rw [List.append_assoc, List.getElem?_append_left (List.getElem?_eq_some_iff.1 hm).1]; exact hm, hj, hp⟩
      · intro b e1 e2
        have hlt := hu.lt
        simp only [blkOf, Option.some.injEq] at e1
        rcases hu with ⟨rfl, rfl⟩ | ⟨b', cap, junk, hb3, rfl, hle, hm, hj, hp⟩
        · simp [blkOf] at e2
        · simp only [blkOf, Option.some.injEq, V.lt] at e2 hlt
          simp at e1
          omega
    · intro c hc
      rcases List.mem_append.1 hc with hc | hc
      · rcases List.mem_append.1 hc with hc | hc
        · exact .inl hc
        · simp at hc; subst hc; exact .inr (by simp [puL])
      · simp at hc; subst hc; exact .inr (by simp only [puL_append]; exact ⟨intl_pu, by simp [puL, V.pu]; exact pu_zrow (by simp [puL]) _⟩)
  unfold appWp
  rw [show ([V.int .u8 0] : List V).length = 1 from rfl, hn]
  refine ⟨by simp, ?_⟩
  rcases h with ⟨rfl, rfl⟩ | ⟨b, cap, junk, hb3, rfl, hle, hm, hj, hp⟩
  · simp only [Nat.one_ne_zero, if_false]
    refine ⟨by omega, by omega, fun nc h1 h2 => ?_⟩
    have := hgrow nc [] h1 rfl
    simpa using this
  · have hbl := (List.getElem?_eq_some_iff.1 hm).1
    have hblk : St.blk ⟨t, mm ++ [[V.int .u8 x]], []⟩ (.l b) = some (intl l ++ junk) := by
      simp only [St.blk]; rw [List.getElem?_append_left hbl]; exact hm
    simp only [hblk]
    split
    · rename_i hfit
      obtain ⟨y, js, rfl⟩ : ∃ y js, junk = y :: js := by
        cases junk with
        | nil => simp at hj; omega
        | cons y js => exact ⟨y, js, rfl⟩
      have hpj : puL js := hp.2
      refine ⟨rfl, by simp, ?_⟩
      have hput : putl (intl l ++ y :: js) (0 + l.length * 1) [.int .u8 x] = intl (l ++ [x]) ++ js := by
        have e2 : (intl l ++ y :: js).drop (l.length + 1) = js := by
          rw [show intl l ++ y :: js = (intl l ++ [y]) ++ js by simp, List.drop_left' (by simp)]
        have e1 : (intl l ++ y :: js).take l.length = intl l := List.take_left' (by simp)
        rw [putl_eq _ _ _ (by simp), Nat.zero_add, Nat.mul_one, e1, show l.length + [V.int .u8 (x : Int)].length = l.length + 1 from rfl, e2, intl_app, List.append_assoc]
        rfl
      rw [hput]
      have hset : (St.setBlk ⟨t, mm ++ [[V.int .u8 x]], []⟩ (.l b) (intl (l ++ [x]) ++ js)) = ⟨t, (mm ++ [[V.int .u8 x]]).set b (intl (l ++ [x]) ++ js), []⟩ := rfl
      rw [hset]
      refine hK _ _ (.inr ⟨b, cap, js, hb3, by simp, by simpa using hfit, ?_, ?_, hpj⟩) ⟨by simp, ?_, ?_, ?_⟩
      · rw [List.getElem?_set_self (by simp; omega)]
      · simp at hj ⊢; omega
      · intro i hi
        rw [List.getElem?_set_ne (by omega), List.getElem?_append_left (by omega)]
      · intro u l2 hu hap
        refine ⟨?_, fun b2 e1 e2 => hap b2 (by simpa [blkOf] using e1) e2⟩
        rcases hu with ⟨rfl, rfl⟩ | ⟨b2, cap2, junk2, hb32, rfl, hle2, hm2, hj2, hp2⟩
        · exact .inl ⟨rfl, rfl⟩
        · have hne : b ≠ b2 := fun e => hap b rfl (by rw [e]; rfl)
          exact .inr ⟨b2, cap2, junk2, hb32, rfl, hle2, by rw [List.getElem?_set_ne hne, List.getElem?_append_left (List.getElem?_eq_some_iff.1 hm2).1]; exact hm2, hj2, hp2⟩
      · intro c hc
        rcases List.mem_or_eq_of_mem_set hc with hc | rfl
        · rcases List.mem_append.1 hc with hc | hc
          · exact .inl hc
          · simp at hc; subst hc; exact .inr (by simp [puL])
        · exact .inr (by simp only [puL_append]; exact ⟨intl_pu, hpj⟩)
    · refine ⟨by simp, by simp [isE], by omega, by omega, fun nc h1 h2 => ?_⟩
      have := hgrow nc (((intl l ++ junk).drop 0).take (l.length * 1)) h1 (by rw [List.drop_zero, Nat.mul_one, List.take_left' (by simp)])
      simpa using this
theorem Col.sl {mm : List (List V)} {v : V} {l : List Nat} {x : Nat} (h : Col mm v (l ++ [x])) : ∃ b k cap, v = .sl (.l b) 0 k cap := by
  rcases h with ⟨rfl, h⟩ | ⟨b, cap, junk, hb3, rfl, _⟩
  · simp at h
  · exact ⟨b, _, cap, rfl⟩
theorem Col.set {mm : List (List V)} {v : V} {l : List Nat} (h : Col mm v l) (x : List V) : Col (mm.set 2 x) v l := by
  rcases h with ⟨rfl, rfl⟩ | ⟨b, cap, junk, hb3, rfl, hle, hm, hj, hp⟩
  · exact .inl ⟨rfl, rfl⟩
  · exact .inr ⟨b, cap, junk, hb3, rfl, hle, by rw [List.getElem?_set_ne (by omega)]; exact hm, hj, hp⟩
theorem Kept.ltC {mm mm' : List (List V)} {v v' : V} (h : Kept mm mm' v v') (hl : ltC mm.length mm) : ltC mm'.length mm' := by
  rw [ltC_iff] at *
  intro c hc
  rcases h.lts c hc with hc | hc
  · exact ltL.mono' (Nat.le_of_lt h.len) _ (hl c hc)
  · exact puL.lt _ hc
end Go.Proofs.Ytpajbcifaicpoaa
