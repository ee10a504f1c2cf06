/- A part of the proof library: names for blocks of memory, a small form of the code, and rules for walks over it. -/
import Derived.Test.YtpajbcifaicpoaaDoorC1g
import Derived.Test.YtpajbcifaicpoaaDoorAb32
import Derived.Test.YtpajbcifaicpoaaDoorAb29
set_option linter.all false
namespace Go.Proofs.YtpajbcifaicpoaaDoor
open Go.Ab
set_option linter.all false
set_option maxHeartbeats 800000

/-- Bytes as cells. -/
def bsv (l : List UInt8) : List V := l.map fun b => .int .u8 b.toNat
@[simp] theorem bsv_len (l : List UInt8) : (bsv l).length = l.length := by simp [bsv]
@[simp] theorem bsv_app (a b : List UInt8) : bsv (a ++ b) = bsv a ++ bsv b := by simp [bsv]
@[simp] theorem bsv_nil : bsv [] = [] := rfl
theorem bsv_one (x : UInt8) : bsv [x] = [.int .u8 x.toNat] := rfl
@[simp] theorem bsv_pu : ∀ l, puL (bsv l)
  | [] => by simp [bsv]
  | x :: l => by have := bsv_pu l; simp [bsv] at *; exact this
@[simp] theorem bsv_nb {b n : Nat} (l : List UInt8) : nbL b n (bsv l) := puL.nb _ (bsv_pu l)
@[simp] theorem bsv_lt {n : Nat} (l : List UInt8) : ltL n (bsv l) := puL.lt _ (bsv_pu l)
@[simp] theorem bsv_bytes : ∀ l : List UInt8, bytesV (bsv l) = some l
  | [] => rfl
  | x :: l => by
    have h := bsv_bytes l
    simp only [bsv, List.map_cons] at *
    simp only [bytesV, h]
    simp [x.toNat_lt]
theorem bsv_take (l : List UInt8) (j : List V) : (bsv l ++ j).take l.length = bsv l := by
  rw [List.take_left' (by simp)]

/-- A digit of sixteen. -/
def hexd (n : Nat) : UInt8 := ([48, 49, 50, 51, 52, 53, 54, 55, 56, 57, 97, 98, 99, 100, 101, 102] : List UInt8).getD n 0
theorem hex_at {n : Nat} (h : n < 16) : ([48, 49, 50, 51, 52, 53, 54, 55, 56, 57, 97, 98, 99, 100, 101, 102] : List UInt8)[n]? = some (hexd n) := by
  have key : ∀ n : Fin 16, ([48, 49, 50, 51, 52, 53, 54, 55, 56, 57, 97, 98, 99, 100, 101, 102] : List UInt8)[n.val]? = some (hexd n.val) := by decide +kernel
  exact key ⟨n, h⟩
/-- A digit of ten. -/
def dgb (n : Nat) : UInt8 := UInt8.ofNat (48 + n)
theorem dgb_bytes {n : Nat} : bytesV [.int .u8 (48 + (n : Int))] = some [dgb n] := by
  have : (48 + (n : Int)).toNat = 48 + n := by omega
  simp [bytesV, dgb, this]
/-- The text of a layer's first k cells. -/
def ltx (p : Nat) (f : Nat → Nat) : Nat → List UInt8
  | 0 => [dgb p, 10]
  | k + 1 => ltx p f k ++ [hexd (f k / 16), hexd (f k % 16)] ++ (if k % 8 = 7 then [10] else [])
theorem ltx_len (p : Nat) (f : Nat → Nat) : ∀ k, (ltx p f k).length = 2 + 2 * k + k / 8
  | 0 => rfl
  | k + 1 => by
    have := ltx_len p f k
    by_cases h : k % 8 = 7 <;> simp [ltx, h, this] <;> omega
theorem and15 {a : Nat} (h : a < 256) : andI .u8 (a : Int) 15 = ((a % 16 : Nat) : Int) := by
  rw [show (15 : Int) = ((15 : Nat) : Int) from rfl, and8 h (by decide)]
  congr 1
  exact Nat.and_two_pow_sub_one_eq_mod a 4
theorem shr4 {a : Nat} (h : a < 256) : shrI .u8 (a : Int) 4 = ((a / 16 : Nat) : Int) := by
  rw [show (4 : Int) = ((4 : Nat) : Int) from rfl, shr8 h]

theorem decimal_pc (n : Nat) (hn : n < 10) : PC Tryd.prog 44 [.int .i64 n] (.str ⟨[dgb n].toArray⟩) := by
  refine pc_of spec_Decimal_ok (fun ro => ?_)
  have h1 : (n : Int) < 10 := by omega
  have h2 : ((n : Int).tmod 10) = n := by rw [Int.tmod_eq_emod_of_nonneg (by omega)]; omega
  have h3 : IntKind.i64.wrap (48 + (n : Int)) = 48 + n := wrap_i64 (by omega) (by omega)
  have h4 : IntKind.u8.wrap (48 + (n : Int)) = ((48 + n : Nat) : Int) := by rw [wrap_u8 (by omega) (by omega)]; push_cast; rfl
  simp [spec_Decimal_F, spec_Decimal_M, h1, h2, h3, h4, dgb_bytes]
  exact ret_pu (by simp) (by simp) (by simp)
theorem small_pc (n : Nat) (hn : n < 10) : PC Tryd.prog 79 [.int .i64 n] (.str ⟨[dgb n].toArray⟩) := by
  refine pc_of internal_strconv_small_ok (fun ro => ?_)
  have h1 : (n : Int) < 10 := by omega
  have h3 : IntKind.i64.wrap ((n : Int) + 1) = n + 1 := wrap_i64 (by omega) (by omega)
  have key : ∀ n : Fin 10, (ByteArray.extract ⟨#[48, 49, 50, 51, 52, 53, 54, 55, 56, 57, 97, 98, 99, 100, 101, 102, 103, 104, 105, 106, 107, 108, 109, 110, 111, 112, 113, 114, 115, 116, 117, 118, 119, 120, 121, 122]⟩ n.val (n.val + 1)) = ⟨[dgb n.val].toArray⟩ := by decide +kernel
  have k2 := key ⟨n, hn⟩
  simp only at k2
  have hsz : (ByteArray.size ⟨#[48, 49, 50, 51, 52, 53, 54, 55, 56, 57, 97, 98, 99, 100, 101, 102, 103, 104, 105, 106, 107, 108, 109, 110, 111, 112, 113, 114, 115, 116, 117, 118, 119, 120, 121, 122]⟩ : Int) = 36 := rfl
  simp [internal_strconv_small_F, internal_strconv_small_M, h1, h3, hsz, show 0 ≤ (n : Int) + 1 by omega, show (n : Int) + 1 ≤ 36 by omega, show (n : Int) ≤ n + 1 by omega, k2]
  exact ret_pu (by simp) (by simp) (by simp)
theorem itoa_pc (n : Nat) (hn : n < 10) : PC Tryd.prog 47 [.int .i64 n] (.str ⟨[dgb n].toArray⟩) := by
  have k1 := small_pc n hn
  have k2 : PC Tryd.prog 69 [.int .i64 n, .int .i64 10] (.str ⟨[dgb n].toArray⟩) := by
    refine pc_of internal_strconv_FormatInt_ok (fun ro => ?_)
    have h1 : (n : Int) < 100 := by omega
    simp [internal_strconv_FormatInt_F, internal_strconv_FormatInt_M, h1]
    refine call_pc k1 (by simp) (by simp) ?_
    simp
    exact ret_pu (by simp) (by simp) (by simp)
  have k3 : PC Tryd.prog 57 [.int .i64 n] (.str ⟨[dgb n].toArray⟩) := by
    refine pc_of internal_strconv_Itoa_ok (fun ro => ?_)
    simp [internal_strconv_Itoa_F, internal_strconv_Itoa_M]
    refine call_pc k2 (by simp) (by simp) ?_
    simp
    exact ret_pu (by simp) (by simp) (by simp)
  refine pc_of strconv_Itoa_ok (fun ro => ?_)
  simp [strconv_Itoa_F, strconv_Itoa_M]
  refine call_pc k3 (by simp) (by simp) ?_
  simp
  exact ret_pu (by simp) (by simp) (by simp)
theorem l01Text_ct (p : Nat) (f : Nat → Nat) (hp : p ≤ 8) (hf : ∀ i, f i < 256) (ro : Bool) : Ct Tryd.prog ro 22 [.ptr (.e 0) 0] [layC p f] fun v E' L' => v = .str ⟨(ltx p f 64).toArray⟩ ∧ E' = [layC p f] ∧ L' = [] := by
  have k1 := decimal_pc p (by omega)
  have hwp : IntKind.i64.wrap (p : Int) = p := wrap_i64 (by omega) (by omega)
  have hsz : ByteArray.size (⟨#[dgb p]⟩ ++ ⟨#[10]⟩) = 2 := rfl
  have happ : (⟨#[dgb p]⟩ ++ ⟨#[10]⟩ : ByteArray) = ⟨#[dgb p, 10]⟩ := rfl
  have hs1 : (ByteArray.size ⟨#[dgb p]⟩) = 1 := rfl
  have hs2 : (ByteArray.size ⟨#[10]⟩) = 1 := rfl
  refine ct_of spec_l01Text_ok ?_
  simp [spec_l01Text_F, spec_l01Text_M, hwp]
  refine call_pc k1 (by simp) (by simp) ?_
  simp [hs1, hs2, happ, appWp, appNew, appGrow]
  rw [show ByteArray.size ⟨#[dgb p, 10]⟩ = 2 from rfl]
  refine ⟨by omega, by omega, fun nc h2 hnc => ?_⟩
  have hz : ([V.int IntKind.u8 0] : List V).length = 1 := rfl
  have hzp : puL (zrow [V.int IntKind.u8 0] (nc - 2)) := pu_zrow (by simp) _
  have hzl : (zrow [V.int IntKind.u8 0] (nc - 2)).length = nc - 2 := by simp [zrow]
  generalize zrow [V.int IntKind.u8 0] (nc - 2) = J at *
  refine wkK_same (by simp) (by simp) (by simp [puL.lt _ hzp]) ?_
  simp
  refine wp_forI 64 (fun k st => ∃ cap junk, (ltx p f k).length ≤ cap ∧ junk.length = cap - (ltx p f k).length ∧ puL junk ∧ st = ⟨[(0, .ptr (.e 0) 0), (3, .str ⟨#[48, 49, 50, 51, 52, 53, 54, 55, 56, 57, 97, 98, 99, 100, 101, 102]⟩), (4, .sl (.l 0) 0 (ltx p f k).length cap), (5, .int .i64 k)], [bsv (ltx p f k) ++ junk], [layC p f]⟩) ?_ ?_ ?_
  · exact ⟨nc, J, by simpa [ltx] using h2, by simpa [ltx] using hzl, hzp, by simp [ltx, bsv]⟩
  · rintro k st hk ⟨cap, junk, hle, hj, hpj, rfl⟩
    have hk1 : (k : Int) < 64 := by omega
    have hwk : IntKind.i64.wrap ((k : Int) + 1) = k + 1 := wrap_i64 (by omega) (by omega)
    have hLk := ltx_len p f k
    have hnx : ltx p f (k + 1) = ltx p f k ++ [hexd (f k / 16), hexd (f k % 16)] ++ (if k % 8 = 7 then [10] else []) := rfl
    have ha := shr4 (hf k)
    have hb := and15 (hf k)
    have hfk := hf k
    have ea := hex_at (n := f k / 16) (by omega)
    have eb := hex_at (n := f k % 16) (by omega)
    have hTl : (ltx p f k).length ≤ 200 := by omega
    generalize ltx p f (k + 1) = T2 at *
    generalize ltx p f k = T at *
    generalize f k / 16 = A at *
    generalize f k % 16 = B at *
    simp [spec_l01Text_L0, hk1, ha, hb, layC_f hk, hk, show 1 + k ≤ 64 by omega, ea, eb]
    refine app_ownT 1 (d := some 38) [4, 18, 37] 0 T.length cap 2 (data := bsv T) (news := bsv [hexd A, hexd B]) (junk := junk) (by simp [appNew, bsv, zrow, List.range_succ]) (by simp) (by simp [bsv, V.one]) (by simp) (by simp) (by simp [hj]) hle (by omega) (by omega) (by simp) (by simp) hpj (by simp) (by simp) (by simp) (by simp) (by simp) (by simp [puL.nb _ hpj]) ?_
    intro cap' junk' h1 h2 h3
    simp at h2
    have hrem : ((k : Int).tmod 8) = ((k % 8 : Nat) : Int) := by rw [Int.tmod_eq_emod_of_nonneg (by omega)]; omega
    by_cases h7 : k % 8 = 7
    · rw [if_pos h7] at hnx
      have hrem7 : ((k : Int).tmod 8) = 7 := by rw [hrem, h7]; rfl
      simp [hrem7, puL.lt _ h3]
      refine app_ownT 1 (d := some 44) [4, 42, 43] 0 (T.length + 2) cap' 1 (data := bsv T ++ bsv [hexd A, hexd B]) (news := bsv [10]) (junk := junk') (by simp [appNew, bsv]) (by simp) (by simp [bsv, V.one]) (by simp) (by simp) (by simp [h2]) h1 (by omega) (by omega) (by simp) (by simp) h3 (by simp) (by simp) (by simp) (by simp) (by simp) (by simp [puL.nb _ h3]) ?_
      intro cap'' junk'' g1 g2 g3
      simp at g2
      have hl2 : T2.length = T.length + 2 + 1 := by rw [hnx]; simp
      have he2 : bsv T2 = bsv T ++ (bsv [hexd A, hexd B] ++ bsv [10]) := by rw [hnx]; simp only [bsv_app, List.append_assoc]
      simp [hwk, puL.lt _ g3]
      exact ⟨cap'', by omega, junk'', by omega, g3, by rw [hl2]; exact ⟨rfl, rfl⟩, by rw [he2]; simp⟩
    · rw [if_neg h7] at hnx
      have hrem7 : ¬ ((k : Int).tmod 8) = 7 := by rw [hrem]; omega
      have hl2 : T2.length = T.length + 2 := by rw [hnx]; simp
      have he2 : bsv T2 = bsv T ++ bsv [hexd A, hexd B] := by rw [hnx]; simp
      simp [hrem7, hwk, puL.lt _ h3]
      exact ⟨cap', by omega, junk', by omega, h3, by rw [hl2]; exact ⟨rfl, rfl⟩, by rw [he2]; simp⟩
  · rintro st ⟨cap, junk, hle, hj, hpj, rfl⟩
    simp [spec_l01Text_L0]
    exact ret_pu (by simp) (by simp) (by simp)
end Go.Proofs.YtpajbcifaicpoaaDoor
