/- A part of the proof library: names for blocks of memory, a small form of the code, and rules for walks over it. -/
import Derived.Test.YtpajbcifaicpoaaDoorAb2
set_option linter.all false
namespace Go.Ab

/-! ### The small code -/

inductive X where
  | t (k : Nat)
  | c (v : V)

inductive MOp where
  | mov (x : X)
  | pick (c x y : X)
  | load (g : Option Nat) (x : X)
  | nilc (x : X)
  | bin (op : BinOp) (x y : X)
  | beq (neg : Bool) (x y : X)
  | aeq (neg : Bool) (ks : List IntKind) (x y : X)
  | nlq (neg : Bool) (x : X)
  | un (op : UnOp) (x : X)
  | conv (k : IntKind) (x : X)
  | fa (off : Nat) (x : X)
  | fld (off : Nat) (g : Option Nat) (x : X)
  | iaA (len sz : Nat) (x i : X)
  | iaS (sz : Nat) (x i : X)
  | ix (len sz : Nat) (g : Option Nat) (x i : X)
  | ixS (x i : X)
  | slA (len sz : Nat) (x : X) (lo hi : Option X)
  | slS (sz : Nat) (x : X) (lo hi : Option X)
  | slStr (x : X) (lo hi : Option X)
  | ext (x : X) (i : Nat)
  | lenA (n : Nat)
  | lenS (x : X)
  | lenStr (x : X)
  | capS (x : X)
  | mm (mx : Bool) (x : X) (ys : List X)
  | mkf (f : FuncId) (first cap : List X)
  | bld (z : List V) (parts : List (Nat × Nat × X))
  | toStr (x : X)
  -- what makes or writes memory
  | new (z : List V)
  | box (x : X)
  | bldS (z : List V) (len : Nat) (parts : List (Nat × Nat × X))
  | store (n : Nat) (x y : X)
  | mks (z : List V) (bytes : Nat) (len cap : X)
  | app (z : List V) (bytes : Nat) (isStr : Bool) (x y : X)
  | cpy (sz : Nat) (isStr : Bool) (x y : X)
  | call (f : FuncId) (args : List X)
  | callv (x : X) (args : List X)

structure MO where
  d : Option Nat
  o : MOp
  g : Option (Nat × Bool) := none

inductive MC where
  | skip
  | reg (draw : Option (List (Nat × Nat))) (ops : List MO) (keep : Option (List Nat)) (tr : Option Nat)
  | regT (k : Nat) (ps : List (Nat × Nat)) (pre tail : List MO) (keep : Option (List Nat)) (tr : Option Nat)
  | seq (a b : MC)
  | cond (c : X) (a b : MC)
  | block (id : Nat) (b : MC)
  | loop (b : MC)
  | exit (id : Nat)
  | ret

/-- The state. -/
structure St where
  t : List (Nat × V)
  m : List (List V)
  e : List (List V)

def St.blk (s : St) : Nm → Option (List V)
  | .e k => s.e[k]?
  | .l k => s.m[k]?
def St.setBlk (s : St) (n : Nm) (cs : List V) : St :=
  match n with
  | .e k => { s with e := s.e.set k cs }
  | .l k => { s with m := s.m.set k cs }
def St.put (s : St) (d : Option Nat) (v : V) : St := match d with | some k => { s with t := sv s.t k v } | none => s
def St.drop (s : St) (d : Option Nat) : St := match d with | some k => { s with t := kl s.t [k] } | none => s
/-- A state by what it answers. -/
structure Fs where
  t : Nat → Option V
  m : Mem

def St.f (s : St) : Fs := ⟨lk s.t, s.blk⟩

def X.ev (s : Fs) : X → Option V
  | .t k => s.t k
  | .c v => some v

def evs (s : Fs) : List X → Option (List V)
  | [] => some []
  | x :: xs => match x.ev s, evs s xs with | some v, some vs => some (v :: vs) | _, _ => none

/-! ### Operations that only read -/

def binInt (op : BinOp) (k k' : IntKind) (a b : Int) : Option V :=
  match op with
  | .shl => if b < 0 then none else some (.int k (k.wrap (a * 2 ^ (min b.toNat k.bits))))
  | .shr => if b < 0 then none else some (.int k (a.fdiv (2 ^ (min b.toNat k.bits))))
  | op => if k = k' then
      match op with
      | .add => some (.int k (k.wrap (a + b)))
      | .sub => some (.int k (k.wrap (a - b)))
      | .mul => some (.int k (k.wrap (a * b)))
      | .quo => if b = 0 then none else some (.int k (k.wrap (a.tdiv b)))
      | .rem => if b = 0 then none else some (.int k (a.tmod b))
      | .and => some (.int k (k.wrap (BitVec.ofInt k.bits a &&& BitVec.ofInt k.bits b).toNat))
      | .or => some (.int k (k.wrap (BitVec.ofInt k.bits a ||| BitVec.ofInt k.bits b).toNat))
      | .xor => some (.int k (k.wrap (BitVec.ofInt k.bits a ^^^ BitVec.ofInt k.bits b).toNat))
      | .andNot => some (.int k (k.wrap (BitVec.ofInt k.bits a &&& ~~~ BitVec.ofInt k.bits b).toNat))
      | .eql => some (.bool (a == b))
      | .neq => some (.bool (a != b))
      | .lss => some (.bool (a < b))
      | .leq => some (.bool (a ≤ b))
      | .gtr => some (.bool (a > b))
      | .geq => some (.bool (a ≥ b))
      | _ => none
    else none

def binV (op : BinOp) : V → V → Option V
  | .int k a, .int k' b => binInt op k k' a b
  | .str a, .str b => match op with
    | .add => if ((a.size + b.size : Nat) : Int) > IntKind.i64.max then none else some (.str (a ++ b))
    | .eql => some (.bool (a.toList == b.toList))
    | .neq => some (.bool (!(a.toList == b.toList)))
    | _ => none
  | _, _ => none

def unV (op : UnOp) : V → Option V
  | .int k n => match op with
    | .neg => some (.int k (k.wrap (0 - n)))
    | .xor => some (.int k (k.wrap (BitVec.ofInt k.bits (if k.signed then -1 else k.max) ^^^ BitVec.ofInt k.bits n).toNat))
    | _ => none
  | .bool b => match op with | .not => some (.bool (!b)) | _ => none
  | _ => none

/-- Is a slice nil? -/
def nlqV (neg : Bool) : V → Option V
  | .sl .. => some (.bool neg)
  | .slx .. => some (.bool neg)
  | .nilsl => some (.bool (!neg))
  | _ => none

/-- Cells of a block. -/
def rd (ce : Bool) (cs : List V) (off : Nat) : Option Nat → Option V
  | none => cs[off]?
  | some g => if off + g ≤ cs.length ∧ (ce = true → (∀ v ∈ cs, V.one v = true) ∨ ∀ v ∈ (cs.drop off).take g, V.one v = true) then some (.agg ((cs.drop off).take g)) else none


def bd (s : Fs) (x : X) (y : Nat) : Option Nat :=
  match x.ev s with
  | some (.int _ i) => if 0 ≤ i ∧ i ≤ (y : Int) then some i.toNat else none
  | _ => none

def bdO (s : Fs) (x : Option X) (dflt y : Nat) : Option Nat :=
  match x with
  | none => some dflt
  | some x => bd s x y

def slb (s : Fs) (len cap : Nat) (lo hi : Option X) : Option (Nat × Nat) :=
  match bdO s hi len cap with
  | none => none
  | some h => match bdO s lo 0 h with
    | none => none
    | some l => some (l, h)

def V.cells : V → List V
  | .agg cs => cs
  | v => [v]

/-- A struct, an array, or a value of one cell. -/
def V.part : V → Bool
  | .agg _ => true
  | v => v.one

def putl (cs : List V) (off : Nat) : List V → List V
  | [] => cs
  | v :: vs => putl (cs.set off v) (off + 1) vs

def bytesV : List V → Option (List UInt8)
  | [] => some []
  | .int .u8 n :: vs => match bytesV vs with | some l => some (UInt8.ofNat n.toNat :: l) | none => none
  | _ :: _ => none

def fillV (s : Fs) (z : List V) : List (Nat × Nat × X) → Option (List V)
  | [] => some z
  | (off, size, x) :: rest => match x.ev s with
    | some v => if v.cells.length = size ∧ off + v.cells.length ≤ z.length ∧ v.part = true then fillV s (putl z off v.cells) rest else none
    | none => none

def mmV (mx : Bool) : V → List V → Option V
  | v, [] => some v
  | .int k x, .int k' y :: vs => if k = k' then mmV mx (.int k (if (if mx then decide (y > x) else decide (y < x)) then y else x)) vs else none
  | _, _ => none

def isE : Nm → Bool | .e _ => true | .l _ => false

/-- Numbers of these kinds, in a row. -/
def nums : List IntKind → List V → Option (List Int)
  | [], [] => some []
  | k :: ks, .int k' n :: vs => if k = k' then (nums ks vs).map (n :: ·) else none
  | _, _ => none

def MOp.q (s : Fs) : MOp → Option V
  | .mov x => x.ev s
  | .pick c x y => match c.ev s with | some (.bool b) => if b then x.ev s else y.ev s | _ => none
  | .load g x => match x.ev s with
    | some (.ptr n off) => match s.m n with | some cs => rd (isE n) cs off g | none => none
    | _ => none
  | .nilc x => match x.ev s with
    | some (.ptr n off) => some (.ptr n off)
    | some (.fn f a b) => some (.fn f a b)
    | _ => none
  | .bin op x y => match x.ev s, y.ev s with | some a, some b => binV op a b | _, _ => none
  | .beq neg x y => match x.ev s, y.ev s with | some (.bool a), some (.bool b) => some (.bool (if neg then !(a == b) else a == b)) | _, _ => none
  | .aeq neg ks x y => match x.ev s, y.ev s with
    | some (.agg a), some (.agg b) => match nums ks a, nums ks b with | some m, some n => some (.bool (if neg then !decide (m = n) else decide (m = n))) | _, _ => none
    | _, _ => none
  | .nlq neg x => match x.ev s with | some v => nlqV neg v | none => none
  | .un op x => match x.ev s with | some a => unV op a | none => none
  | .conv k x => match x.ev s with | some (.int _ n) => some (.int k (k.wrap n)) | _ => none
  | .fa off x => match x.ev s with | some (.ptr n o) => some (.ptr n (o + off)) | _ => none
  | .fld off g x => match x.ev s with | some (.agg cs) => rd false cs off g | _ => none
  | .iaA len sz x i => match x.ev s, i.ev s with
    | some (.ptr n o), some (.int _ j) => if 0 ≤ j ∧ j < (len : Int) then some (.ptr n (o + j.toNat * sz)) else none
    | _, _ => none
  | .iaS sz x i => match x.ev s, i.ev s with
    | some (.sl n o len _), some (.int _ j) => if 0 ≤ j ∧ j < (len : Int) then some (.ptr n (o + j.toNat * sz)) else none
    | some (.slx n o len), some (.int _ j) => if 0 ≤ j ∧ j < (len : Int) then some (.ptr n (o + j.toNat * sz)) else none
    | _, _ => none
  | .ix len sz g x i => match x.ev s, i.ev s with
    | some (.agg cs), some (.int _ j) => if 0 ≤ j ∧ j < (len : Int) then rd false cs (j.toNat * sz) g else none
    | _, _ => none
  | .ixS x i => match x.ev s, i.ev s with
    | some (.str b), some (.int _ j) => if 0 ≤ j then match b.data.toList[j.toNat]? with | some c => some (.int .u8 c.toNat) | none => none else none
    | _, _ => none
  | .slA len sz x lo hi => match x.ev s with
    | some (.ptr n o) => match slb s len len lo hi with | some (l, h) => some (.sl n (if len = l then o else o + l * sz) (h - l) (len - l)) | none => none
    | _ => none
  | .slS sz x lo hi => match x.ev s with
    | some (.sl n o len cap) => match slb s len cap lo hi with | some (l, h) => some (.sl n (if cap = l then o else o + l * sz) (h - l) (cap - l)) | none => none
    | some (.slx n o len) => match slb s len len lo hi with | some (l, h) => if l = 0 ∨ l < len then some (.slx n (o + l * sz) (h - l)) else none | none => none
    | some .nilsl => match slb s 0 0 lo hi with | some _ => some .nilsl | none => none
    | _ => none
  | .slStr x lo hi => match x.ev s with
    | some (.str b) => match slb s b.size b.size lo hi with | some (l, h) => some (.str (b.extract l h)) | none => none
    | _ => none
  | .ext x i => match x.ev s with | some (.tup vs) => vs[i]? | _ => none
  | .lenA n => some (.int .i64 n)
  | .lenS x => match x.ev s with | some (.sl _ _ len _) => some (.int .i64 len) | some (.slx _ _ len) => some (.int .i64 len) | some .nilsl => some (.int .i64 0) | _ => none
  | .lenStr x => match x.ev s with | some (.str b) => some (.int .i64 b.size) | _ => none
  | .capS x => match x.ev s with | some (.sl _ _ _ cap) => some (.int .i64 cap) | some .nilsl => some (.int .i64 0) | _ => none
  | .mm mx x ys => match x.ev s, evs s ys with | some v, some vs => mmV mx v vs | _, _ => none
  | .mkf f a b => match evs s a, evs s b with | some u, some v => some (.fn f u v) | _, _ => none
  | .bld z parts => match fillV s z parts with | some cs => some (.agg cs) | none => none
  | .toStr x => match x.ev s with
    | some .nilsl => some (.str ByteArray.empty)
    | some (.sl n o len _) => match s.m n with
      | some cs => if o + len ≤ cs.length then match bytesV ((cs.drop o).take len) with | some l => some (.str ⟨l.toArray⟩) | none => none else none
      | none => none
    | some (.slx n o len) => match s.m n with
      | some cs => if o + len ≤ cs.length then match bytesV ((cs.drop o).take len) with | some l => some (.str ⟨l.toArray⟩) | none => none else none
      | none => none
    | _ => none
  | _ => none


def X.sl : X → List Nat
  | .t k => [k]
  | .c _ => []
def X.sls : List X → List Nat
  | [] => []
  | x :: xs => x.sl ++ X.sls xs
def X.slo : Option X → List Nat
  | none => []
  | some x => x.sl
def X.slp {α : Type} : List (α × Nat × X) → List Nat
  | [] => []
  | (_, _, x) :: xs => x.sl ++ X.slp xs

/-- The slots that an operation looks at. -/
def MOp.slots : MOp → List Nat
  | .mov x | .load _ x | .nilc x | .nlq _ x | .un _ x | .conv _ x | .fa _ x | .fld _ _ x | .ext x _ | .lenS x | .lenStr x | .capS x | .toStr x | .box x => x.sl
  | .bin _ x y | .beq _ x y | .aeq _ _ x y | .iaA _ _ x y | .iaS _ x y | .ix _ _ _ x y | .ixS x y | .store _ x y | .mks _ _ x y | .app _ _ _ x y | .cpy _ _ x y => x.sl ++ y.sl
  | .pick c x y => c.sl ++ (x.sl ++ y.sl)
  | .slA _ _ x lo hi | .slS _ x lo hi | .slStr x lo hi => x.sl ++ (X.slo lo ++ X.slo hi)
  | .lenA _ | .new _ => []
  | .mm _ x ys => x.sl ++ X.sls ys
  | .mkf _ a b => X.sls a ++ X.sls b
  | .bld _ ps | .bldS _ _ ps => X.slp ps
  | .call _ as => X.sls as
  | .callv x as => x.sl ++ X.sls as

def V.nmOf : Option V → List Nm
  | some (.ptr n _) => [n]
  | some (.sl n _ _ _) => [n]
  | some (.slx n _ _) => [n]
  | _ => []

/-- The blocks that a reading operation looks at. -/
def MOp.reads (s : Fs) : MOp → List Nm
  | .load _ x | .toStr x => V.nmOf (x.ev s)
  | _ => []

section
variable {s s' : Fs}
theorem X.ev_congr {x : X} (h : ∀ k ∈ x.sl, s'.t k = s.t k) : x.ev s' = x.ev s := by
  cases x with
  | t k => exact h k (by simp [X.sl])
  | c v => rfl
theorem evs_congr : ∀ {xs : List X} (_ : ∀ k ∈ X.sls xs, s'.t k = s.t k), evs s' xs = evs s xs
  | [], _ => rfl
  | x :: xs, h => by
    simp only [evs]
    rw [X.ev_congr (fun k hk => h k (by simp [X.sls, hk])), evs_congr (fun k hk => h k (by simp [X.sls, hk]))]
theorem bd_congr {x : X} {y : Nat} (h : ∀ k ∈ x.sl, s'.t k = s.t k) : bd s' x y = bd s x y := by simp only [bd, X.ev_congr h]
theorem bdO_congr {x : Option X} {d y : Nat} (h : ∀ k ∈ X.slo x, s'.t k = s.t k) : bdO s' x d y = bdO s x d y := by
  cases x with
  | none => rfl
  | some x => exact bd_congr (fun k hk => h k (by simp [X.slo, hk]))
theorem slb_congr {len cap : Nat} {lo hi : Option X} (h : ∀ k ∈ X.slo lo ++ X.slo hi, s'.t k = s.t k) : slb s' len cap lo hi = slb s len cap lo hi := by
  have h1 : ∀ y, bdO s' lo 0 y = bdO s lo 0 y := fun y => bdO_congr (fun k hk => h k (by simp [hk]))
  have h2 : bdO s' hi len cap = bdO s hi len cap := bdO_congr (fun k hk => h k (by simp [hk]))
  simp only [slb, h2, h1]
theorem fillV_congr : ∀ {ps : List (Nat × Nat × X)} {z : List V} (_ : ∀ k ∈ X.slp ps, s'.t k = s.t k), fillV s' z ps = fillV s z ps
  | [], _, _ => rfl
  | (off, size, x) :: ps, z, h => by
    simp only [fillV]
    rw [X.ev_congr (fun k hk => h k (by simp [X.slp, hk]))]
    split
    · split
      · exact fillV_congr (fun k hk => h k (by simp [X.slp, hk]))
      · rfl
    · rfl

/-- A reading operation yields the same wherever its slots and its block are the same. -/
theorem MOp.q_congr (o : MOp) (h : ∀ k ∈ o.slots, s'.t k = s.t k) (hm : ∀ n ∈ o.reads s, s'.m n = s.m n) : o.q s' = o.q s := by
  cases o <;> simp only [MOp.q] <;> simp only [MOp.slots] at h <;> (try rfl)
  case mov x => exact X.ev_congr h
  case pick c x y => rw [X.ev_congr (x := c) (fun k hk => h k (by simp [hk])), X.ev_congr (x := x) (fun k hk => h k (by simp [hk])), X.ev_congr (x := y) (fun k hk => h k (by simp [hk]))]
  case load g x =>
    rw [X.ev_congr h]
    simp only [MOp.reads] at hm
    split
    · rename_i n off he
      rw [hm n (by simp [he, V.nmOf])]
    · rfl
  case nilc x => rw [X.ev_congr h]
  case bin op x y => rw [X.ev_congr (x := x) (fun k hk => h k (by simp [hk])), X.ev_congr (x := y) (fun k hk => h k (by simp [hk]))]
  case beq op x y => rw [X.ev_congr (x := x) (fun k hk => h k (by simp [hk])), X.ev_congr (x := y) (fun k hk => h k (by simp [hk]))]
  case aeq op ks x y => rw [X.ev_congr (x := x) (fun k hk => h k (by simp [hk])), X.ev_congr (x := y) (fun k hk => h k (by simp [hk]))]
  case nlq n x => rw [X.ev_congr h]
  case un op x => rw [X.ev_congr h]
  case conv k x => rw [X.ev_congr h]
  case fa k x => rw [X.ev_congr h]
  case fld k g x => rw [X.ev_congr h]
  case iaA l z x y => rw [X.ev_congr (x := x) (fun k hk => h k (by simp [hk])), X.ev_congr (x := y) (fun k hk => h k (by simp [hk]))]
  case iaS z x y => rw [X.ev_congr (x := x) (fun k hk => h k (by simp [hk])), X.ev_congr (x := y) (fun k hk => h k (by simp [hk]))]
  case ix l z g x y => rw [X.ev_congr (x := x) (fun k hk => h k (by simp [hk])), X.ev_congr (x := y) (fun k hk => h k (by simp [hk]))]
  case ixS x y => rw [X.ev_congr (x := x) (fun k hk => h k (by simp [hk])), X.ev_congr (x := y) (fun k hk => h k (by simp [hk]))]
  case slA l z x lo hi => rw [X.ev_congr (x := x) (fun k hk => h k (by simp [hk]))]; simp only [slb_congr (s := s) (s' := s') (lo := lo) (hi := hi) (fun k hk => h k (List.mem_append_right _ hk))]
  case slS z x lo hi => rw [X.ev_congr (x := x) (fun k hk => h k (by simp [hk]))]; simp only [slb_congr (s := s) (s' := s') (lo := lo) (hi := hi) (fun k hk => h k (List.mem_append_right _ hk))]
  case slStr x lo hi => rw [X.ev_congr (x := x) (fun k hk => h k (by simp [hk]))]; simp only [slb_congr (s := s) (s' := s') (lo := lo) (hi := hi) (fun k hk => h k (List.mem_append_right _ hk))]
  case ext x i => rw [X.ev_congr h]
  case lenS x => rw [X.ev_congr h]
  case lenStr x => rw [X.ev_congr h]
  case capS x => rw [X.ev_congr h]
  case mm b x ys => rw [X.ev_congr (x := x) (fun k hk => h k (by simp [hk])), evs_congr (fun k hk => h k (by simp [hk]))]
  case mkf f a b => rw [evs_congr (xs := a) (fun k hk => h k (by simp [hk])), evs_congr (xs := b) (fun k hk => h k (by simp [hk]))]
  case bld z ps => rw [fillV_congr h]
  case toStr x =>
    rw [X.ev_congr h]
    simp only [MOp.reads] at hm
    split
    · rfl
    · rename_i he
      rw [hm _ (by simp [he, V.nmOf])]
    · rename_i he
      rw [hm _ (by simp [he, V.nmOf])]
    · rfl
end
end Go.Ab
