/- A part of the proof library: names for blocks of memory, a small form of the code, and rules for walks over it. -/
import Derived.Test.YtpajbcifaicpoaaDoorAb26
set_option linter.all false
namespace Go.Ab

def allOne : List V → Bool
  | [] => true
  | v :: vs => v.one && allOne vs
theorem allOne_spec : ∀ {l : List V}, allOne l = true → ∀ v ∈ l, V.one v = true
  | [], _, v, hv => by cases hv
  | u :: l, h, v, hv => by
    simp only [allOne, Bool.and_eq_true] at h
    rcases List.mem_cons.1 hv with e | hv
    · subst e; exact h.1
    · exact allOne_spec h.2 v hv

def zeroO (P : Program) (t : TypeId) : Option (List V) :=
  match zeroC P t with
  | some z => if allOne z then some z else none
  | none => none

def compParts (sz : Nat → Option (Nat × Nat)) : List (Nat × Operand) → Option (List (Nat × Nat × X))
  | [] => some []
  | (i, o) :: ps => match sz i, compX o, compParts sz ps with
    | some (off, n), some x, some xs => some ((off, n, x) :: xs)
    | _, _, _ => none

def fieldO (P : Program) (t : TypeId) (f : Nat) : Option Field :=
  match P.underlying t with
  | some (.struct fs) => fs[f]?
  | _ => none

/-- The place and the size of a part of a struct or an array. -/
def placeO (P : Program) (t : TypeId) (i : Nat) : Option (Nat × Nat) :=
  match P.underlying t with
  | some (.struct fs) => match fs[i]? with
    | some f => match szO P f.type with | some n => some (f.offset, n) | none => none
    | none => none
  | some (.array _ e) => match szO P e with | some n => some (i * n, n) | none => none
  | _ => none

def allSz (P : Program) : List Field → Bool
  | [] => true
  | f :: fs => (szO P f.type).isSome && allSz P fs

def hasBody (P : Program) (f : FuncId) : Bool :=
  match P.funcs[f]? with
  | some fn => fn.body.isSome && !(fn.name == "runtime.NumGoroutine")
  | none => false

def compCall (P : Program) (c : Call) : Option MOp :=
  match c.callee with
  | .value (.func f) => if hasBody P f then match compXs c.args.toList with | some xs => some (.call f xs) | none => none else none
  | .value x => match compX x, compXs c.args.toList with | some x, some xs => some (.callv x xs) | _, _ => none
  | .invoke _ _ => none
  | .builtin b => match b, c.args.toList, c.argTypes.toList with
    | .len, [x], [t] => match P.underlying t, compX x with
      | some .string, some x => some (.lenStr x)
      | some (.array n _), some _ => some (.lenA n)
      | some (.slice _), some x => some (.lenS x)
      | _, _ => none
    | .cap, [x], [t] => match P.underlying t, compX x with
      | some (.slice _), some x => some (.capS x)
      | _, _ => none
    | .append, [x, y], [t, u] => match P.underlying t, compX x, compX y with
      | some (.slice e), some x, some y => match zeroO P e, P.info? e, P.underlying u with
        | some z, some i, some (.slice _) => if z.length = i.size then some (.app z i.bytes false x y) else none
        | some z, some i, some .string => if z.length = i.size ∧ i.size = 1 then some (.app z i.bytes true x y) else none
        | _, _, _ => none
      | _, _, _ => none
    | .copy, [x, y], [t, u] => match P.underlying t, compX x, compX y with
      | some (.slice e), some x, some y => match szO P e, P.underlying u with
        | some n, some (.slice _) => some (.cpy n false x y)
        | _, _ => none
      | _, _, _ => none
    | .min, x :: ys, _ => match compX x, compXs ys with | some x, some ys => some (.mm false x ys) | _, _ => none
    | .max, x :: ys, _ => match compX x, compXs ys with | some x, some ys => some (.mm true x ys) | _, _ => none
    | _, _, _ => none

def compOp (P : Program) : Op → Option MOp
  | .move x => match compX x with | some x => some (.mov x) | none => none
  | .assign x => match compX x with | some x => some (.mov x) | none => none
  | .pick c x y => match compX c, compX x, compX y with | some c, some x, some y => some (.pick c x y) | _, _, _ => none
  | .load t x => match aggO P t, compX x with | some g, some x => some (.load g x) | _, _ => none
  | .nilCheck x => match compX x with | some x => some (.nilc x) | none => none
  | .binOp op t x y _ => match P.underlying t, compX x, compX y with
    | some .bool, some x, some y => match op with | .eql => some (.beq false x y) | .neq => some (.beq true x y) | _ => none
    | some d, some x, some y => if isAggD d = true then
        if P.eqGuardType P.depth t = false then
          match eqK P 20 t, op with | some ks, .eql => some (.aeq false ks x y) | some ks, .neq => some (.aeq true ks x y) | _, _ => none
        else none
      else match d, y, op with
        | .slice _, .c .nilsl, .eql => some (.nlq false x)
        | .slice _, .c .nilsl, .neq => some (.nlq true x)
        | _, _, _ => some (.bin op x y)
    | _, _, _ => none
  | .unOp op _ x => match compX x with | some x => some (.un op x) | none => none
  | .convert src dst x => match P.underlying src, P.underlying dst, compX x with
    | some _, some (.int k), some x => some (.conv k x)
    | some (.slice e), some .string, some x => match P.underlying e with | some (.int .u8) => some (.toStr x) | _ => none
    | some .string, some (.slice e), some x => match P.underlying e with | some (.int .u8) => some (.app [.int .u8 0, .int .u8 0] 1 true x x) | _ => none
    | _, _, _ => none
  | .fieldAddr t x f => match fieldO P t f, compX x with
    | some fd, some x => match szO P fd.type with | some n => if n = 0 then none else some (.fa fd.offset x) | none => none
    | _, _ => none
  | .field t x f => match fieldO P t f, compX x with
    | some fd, some x => match aggO P fd.type with | some g => some (.fld fd.offset g x) | none => none
    | _, _ => none
  | .indexAddr t x i => match P.underlying t, compX x, compX i with
    | some (.array n e), some x, some i => match szO P e with | some z => some (.iaA n z x i) | none => none
    | some (.slice e), some x, some i => match szO P e with | some z => some (.iaS z x i) | none => none
    | _, _, _ => none
  | .index t x i => match P.underlying t, compX x, compX i with
    | some (.array n e), some x, some i => match szO P e, aggO P e with | some z, some g => some (.ix n z g x i) | _, _ => none
    | some .string, some x, some i => some (.ixS x i)
    | _, _, _ => none
  | .slice t x lo hi none => match P.underlying t, compX x, optX lo, optX hi with
    | some (.array n e), some x, some lo, some hi => match szO P e with | some z => some (.slA n z x lo hi) | none => none
    | some (.slice e), some x, some lo, some hi => match szO P e with | some z => some (.slS z x lo hi) | none => none
    | some .string, some x, some lo, some hi => some (.slStr x lo hi)
    | _, _, _, _ => none
  | .extract x i => match compX x with | some x => some (.ext x i) | none => none
  | .makeFunc (.func f) a b => match compXs a.toList, compXs b.toList with | some a, some b => some (.mkf f a b) | _, _ => none
  | .build t ps => match P.underlying t with
    | some (.struct fs) => if allSz P fs.toList then match zeroO P t, compParts (placeO P t) ps.toList with | some z, some ps => some (.bld z ps) | _, _ => none else none
    | some (.array _ e) => match zeroO P t, compParts (placeO P t) ps.toList, szO P e with | some z, some ps, some _ => some (.bld z ps) | _, _, _ => none
    | _ => none
  | .alloc t => match zeroO P t with | some z => some (.new z) | none => none
  | .box _ x => match compX x with | some x => some (.box x) | none => none
  | .buildSlice t len ps => match P.underlying t with
    | some (.slice e) => match zeroO P e, szO P e with
      | some z, some n => if z.length = n ∧ len * n ≤ 2 ^ 24 ∧ (len = 0 ∨ n ≠ 0) then match compParts (fun i => some (i * n, n)) ps.toList with | some ps => some (.bldS z len ps) | none => none else none
      | _, _ => none
    | _ => none
  | .store t x y => match szO P t, compX x, compX y with | some n, some x, some y => some (.store n x y) | _, _, _ => none
  | .makeSlice t l c => match P.underlying t with
    | some (.slice e) => match zeroO P e, P.info? e, compX l, compX c with
      | some z, some i, some l, some c => if z.length = i.size then some (.mks z i.bytes l c) else none
      | _, _, _, _ => none
    | _ => none
  | .call c => compCall P c
  | _ => none

end Go.Ab
