/- A layer for walking through code on abstract values and an abstract heap: its definitions and their soundness; no condition. -/
import Derived.Test.YtpcgnmoogjahbaaVC
set_option linter.unusedVariables false
set_option linter.unusedSimpArgs false
namespace Go.VL
open Go Go.RowKit

/-! ### 1. The abstract heap -/
def H.rd (h : H) (b off : Nat) : Option V := if (h.get b).st = .dead then none else (h.get b).cells[off]?
def H.rdN (h : H) (b off n : Nat) : Option (List V) :=
  if (h.get b).st = .dead then none else if off + n ≤ (h.get b).cells.length then some (((h.get b).cells.drop off).take n) else none
def wrL {α : Type} : List α → Nat → List α → List α
  | cs, _, [] => cs
  | cs, off, x :: xs => wrL (cs.set off x) (off + 1) xs
def H.wr (h : H) (b off : Nat) (xs : List V) : H := h.set b { h.get b with cells := wrL (h.get b).cells off xs }

theorem H.n_push (h : H) (k : Blk) : (h.push k).n = h.n + 1 := rfl
theorem H.n_set (h : H) (b : Nat) (k : Blk) : (h.set b k).n = h.n := rfl
theorem H.n_wr (h : H) (b off : Nat) (xs : List V) : (h.wr b off xs).n = h.n := rfl
theorem H.get_push_new (h : H) (k : Blk) : (h.push k).get h.n = k := by simp [H.push]
theorem H.get_push_old (h : H) (k : Blk) (b : Nat) (hb : b < h.n) : (h.push k).get b = h.get b := by
  have : b ≠ h.n := by omega
  simp [H.push, this]
theorem H.get_set_same (h : H) (b : Nat) (k : Blk) : (h.set b k).get b = k := by simp [H.set]
theorem H.get_set_other (h : H) (b b' : Nat) (k : Blk) (hb : b' ≠ b) : (h.set b k).get b' = h.get b' := by simp [H.set, hb]

/-! ### 2. The types of a program -/
def tSz (P : Program) (t : TypeId) : Option Nat := (P.info? t).map (·.size)
def tBytes (P : Program) (t : TypeId) : Option Nat := (P.info? t).map (·.bytes)
def tAgg (P : Program) (t : TypeId) : Option Bool := match P.underlying t with | some (.struct _) => some true | some (.array _ _) => some true | some _ => some false | none => none
def tZero (P : Program) (t : TypeId) : Option (List Value) := ((P.info? t).bind (·.zero)).map (·.cells.toList)
def tElem (P : Program) (t : TypeId) : Option TypeId := match P.underlying t with | some (.slice e) => some e | _ => none
def tFld (P : Program) (s f : Nat) : Option (Nat × TypeId) := match P.underlying s with | some (.struct fs) => (fs[f]?).map fun x => (x.offset, x.type) | _ => none
inductive TK where
  | bool | int (k : IntKind) | string | slice (e : TypeId) | other
def tK (P : Program) (t : TypeId) : TK := match P.underlying t with
  | some .bool => .bool | some (.int k) => .int k | some .string => .string | some (.slice e) => .slice e | _ => .other

/-! ### 3. Arithmetic -/
def binV (op : BinOp) : Value → Value → Option Value
  | .int k a, .int k' b =>
    match op with
    | .shr => if 0 ≤ b ∧ b ≤ k.bits then some (.int k (a / 2 ^ b.toNat)) else none
    | .add => if k = k' then some (.int k (k.wrap (a + b))) else none
    | .sub => if k = k' then some (.int k (k.wrap (a - b))) else none
    | .mul => if k = k' then some (.int k (k.wrap (a * b))) else none
    | .quo => if k = k' ∧ b ≠ 0 then some (.int k (k.wrap (a.tdiv b))) else none
    | .rem => if k = k' ∧ b ≠ 0 then some (.int k (a.tmod b)) else none
    | .eql => if k = k' then some (.bool (a == b)) else none
    | .neq => if k = k' then some (.bool (a != b)) else none
    | .lss => if k = k' then some (.bool (a < b)) else none
    | .leq => if k = k' then some (.bool (a ≤ b)) else none
    | .gtr => if k = k' then some (.bool (b < a)) else none
    | .geq => if k = k' then some (.bool (b ≤ a)) else none
    | _ => none
  | .string a, .string b =>
    match op with
    | .add => if a.size + b.size ≤ 9223372036854775807 then some (.string (a ++ b)) else none
    | .eql => some (.bool (decide (a = b)))
    | .neq => some (.bool (!decide (a = b)))
    | .lss => some (.bool (Op.bytesLess a.toList b.toList))
    | .leq => some (.bool (Op.bytesLess a.toList b.toList || decide (a = b)))
    | .gtr => some (.bool (!(Op.bytesLess a.toList b.toList || decide (a = b))))
    | .geq => some (.bool (!Op.bytesLess a.toList b.toList))
    | _ => none
  | .bool a, .bool b =>
    match op with
    | .eql => some (.bool (a == b))
    | .neq => some (.bool (a != b))
    | _ => none
  | _, _ => none

/-- Two truths are compared at their own type. -/
def bOk (P : Program) (t : TypeId) (x : Value) : Prop := match x with
  | .bool _ => tK P t = .bool
  | _ => True

def cellOk : V → Bool
  | .s v => one v
  | .sl .. => true
  | .ptr .. => true
  | .fn .. => true
  | _ => false
def notAny : V → Bool
  | .any => false
  | _ => true

/-- The cells that a value is stored as. -/
def cellsOf : V → Option (List V)
  | .agg cs => if cs.all cellOk then some cs else none
  | x => if cellOk x then some [x] else none

def fillV (place : Nat → Option (Nat × Nat)) (cells : List V) : List (Nat × V) → Option (List V)
  | [] => some cells
  | (i, v) :: rest => match place i, cellsOf v with
    | some (off, size), some xs => if xs.length = size ∧ off + xs.length ≤ cells.length then fillV place (wrL cells off xs) rest else none
    | _, _ => none
def fldPlace (P : Program) (t : TypeId) (i : Nat) : Option (Nat × Nat) := match tFld P t i with
  | some (off, ft) => (tSz P ft).map fun n => (off, n)
  | none => none

def bldOk (P : Program) (t : TypeId) : Bool := match P.underlying t with
  | some (.struct fs) => fs.toList.all fun f => (tSz P f.type).isSome
  | _ => false

/-- Where a slice is cut: the offset, the length and the capacity of x[lo:hi:mx]. -/
def intOfV : V → Option Int
  | .s (.int _ n) => some n
  | _ => none

def ptrsOf : List V → Option (List (Nat × Nat))
  | [] => some []
  | .ptr b o :: r => (ptrsOf r).map fun l => (b, o) :: l
  | _ :: _ => none

/-- What an operation that is no call of a Go function does; K: what comes behind it. -/
def opW (P : Program) (τ : Tau) (h : H) (o : Op) (K : V → H → Prop) : Prop :=
  match o with
  | .move x => K (ev τ x) h
  | .assign x => K (ev τ x) h
  | .pick c a b => match ev τ c with
    | .s (.bool t) => K (if t then ev τ a else ev τ b) h
    | _ => False
  | .alloc e => match tZero P e with
    | some z => z.all one = true ∧ K (.ptr h.n 0) (h.push ⟨z.map .s, z.length, e, .own⟩)
    | none => False
  | .box e x => match cellsOf (ev τ x) with
    | some cs => K (.ptr h.n 0) (h.push ⟨cs, cs.length, e, .own⟩)
    | none => False
  | .build t parts => match bldOk P t, tZero P t with
    | true, some z => match fillV (fldPlace P t) (z.map .s) (parts.toList.map fun p => (p.1, ev τ p.2)) with
      | some cs => z.all one = true ∧ K (.agg cs) h
      | none => False
    | _, _ => False
  | .buildSlice t len parts => match tElem P t with
    | some e => match tSz P e, tZero P e with
      | some n, some z => match fillV (fun i => some (i * n, n)) ((List.replicate len (z.map .s)).flatten) (parts.toList.map fun p => (p.1, ev τ p.2)) with
        | some cs => (z.all one = true ∧ z.length = n ∧ len * n ≤ 16777216) ∧ K (.sl h.n 0 len len) (h.push ⟨cs, len * n, e, .own⟩)
        | none => False
      | _, _ => False
    | none => False
  | .load t a => match ev τ a with
    | .ptr b off => match tAgg P t with
      | some true => match tSz P t with
        | some n => match h.rdN b off n with
          | some cs => b < h.n ∧ K (.agg cs) h
          | none => False
        | none => False
      | some false => match h.rd b off with
        | some v => b < h.n ∧ K v h
        | none => False
      | none => False
    | _ => False
  | .store t a x => match ev τ a, cellsOf (ev τ x) with
    | .ptr b off, some cs => (b < h.n ∧ (h.get b).st = .own ∧ tSz P t = some cs.length ∧ off + cs.length ≤ (h.get b).cells.length) ∧ K .any (h.wr b off cs)
    | _, _ => False
  | .nilCheck x => match ev τ x with
    | .ptr b off => K (.ptr b off) h
    | .fn f cs => K (.fn f cs) h
    | .sl b off len cap => K (.sl b off len cap) h
    | _ => False
  | .binOp op t x y _ => match ev τ x, ev τ y with
    | .s a, .s b => match binV op a b with
      | some v => bOk P t a ∧ K (.s v) h
      | none => match op, a, b with
        | .eql, .slice none _ _, .slice none _ _ => (∃ e, tK P t = .slice e) ∧ K (.s (.bool true)) h
        | .neq, .slice none _ _, .slice none _ _ => (∃ e, tK P t = .slice e) ∧ K (.s (.bool false)) h
        | _, _, _ => False
    | .sl _ _ _ _, .s (.slice none _ _) => match op with
      | .eql => (∃ e, tK P t = .slice e) ∧ K (.s (.bool false)) h
      | .neq => (∃ e, tK P t = .slice e) ∧ K (.s (.bool true)) h
      | _ => False
    | _, _ => False
  | .unOp op _ x => match op, ev τ x with
    | .not, .s (.bool b) => K (.s (.bool (!b))) h
    | .neg, .s (.int k n) => K (.s (.int k (k.wrap (0 - n)))) h
    | _, _ => False
  | .convert src dst x => match tK P src, tK P dst, ev τ x with
    | .int _, .int k, .s (.int _ n) => K (.s (.int k (k.wrap n))) h
    | .string, .string, .s (.string s) => K (.s (.string s)) h
    | _, _, _ => False
  | .makeSlice t l c => match tElem P t, ev τ l, ev τ c with
    | some e, .s (.int _ l), .s (.int _ c) => match tSz P e, tZero P e, tBytes P e with
      | some n, some z, some by_ => (0 ≤ l ∧ l ≤ c ∧ (by_ : Int) * c ≤ 140737488355328 ∧ c ≤ 9223372036854775807 ∧ z.length = n ∧ z.all one = true) ∧
          K (.sl h.n 0 l.toNat c.toNat) (h.push ⟨(List.replicate c.toNat (z.map .s)).flatten, c.toNat * n, e, .own⟩)
      | _, _, _ => False
    | _, _, _ => False
  | .slice t x lo hi mx => match ev τ x, tK P t with
    | .s (.string s), .string => match lo.map (intOfV ∘ ev τ), hi.map (intOfV ∘ ev τ), mx with
      | none, none, none => K (.s (.string s)) h
      | some (some l), none, none => (0 ≤ l ∧ l ≤ s.size) ∧ K (.s (.string (s.extract l.toNat s.size))) h
      | none, some (some r), none => (0 ≤ r ∧ r ≤ s.size) ∧ K (.s (.string (s.extract 0 r.toNat))) h
      | some (some l), some (some r), none => (0 ≤ l ∧ l ≤ r ∧ r ≤ s.size) ∧ K (.s (.string (s.extract l.toNat r.toNat))) h
      | _, _, _ => False
    | .sl b off len cap, .slice e => match tSz P e with
      | some n => match lo.map (intOfV ∘ ev τ), hi.map (intOfV ∘ ev τ), mx.map (intOfV ∘ ev τ) with
        | none, none, none => K (.sl b off len cap) h
        | some (some l), none, none => (0 ≤ l ∧ l ≤ len) ∧ K (if cap = l.toNat then .sl b off (len - l.toNat) (cap - l.toNat) else .sl b (off + l.toNat * n) (len - l.toNat) (cap - l.toNat)) h
        | none, some (some r), none => (0 ≤ r ∧ r ≤ cap) ∧ K (.sl b off r.toNat cap) h
        | some (some l), some (some r), none => (0 ≤ l ∧ l ≤ r ∧ r ≤ cap) ∧ K (if cap = l.toNat then .sl b off (r.toNat - l.toNat) (cap - l.toNat) else .sl b (off + l.toNat * n) (r.toNat - l.toNat) (cap - l.toNat)) h
        | none, some (some r), some (some m) => (0 ≤ r ∧ r ≤ m ∧ m ≤ cap) ∧ K (.sl b off r.toNat m.toNat) h
        | _, _, _ => False
      | none => False
    | _, _ => False
  | .fieldAddr s x f => match ev τ x, tFld P s f with
    | .ptr b off, some (fo, ft) => (∃ n, tSz P ft = some (n + 1)) ∧ K (.ptr b (off + fo)) h
    | _, _ => False
  | .field s x f => match ev τ x, tFld P s f with
    | .agg cs, some (fo, ft) => match tAgg P ft, tSz P ft with
      | some true, some n => fo + n ≤ cs.length ∧ K (.agg ((cs.drop fo).take n)) h
      | some false, _ => match cs[fo]? with
        | some v => K v h
        | none => False
      | _, _ => False
    | _, _ => False
  | .indexAddr t x i => match ev τ x, ev τ i, tElem P t with
    | .sl b off len _, .s (.int _ i), some e => match tSz P e with
      | some n => (0 ≤ i ∧ i < len) ∧ K (.ptr b (off + i.toNat * n)) h
      | none => False
    | _, _, _ => False
  | .index t x i => match ev τ x, ev τ i, tK P t with
    | .s (.string s), .s (.int _ i), .string => match s[i.toNat]? with
      | some c => 0 ≤ i ∧ K (.s (.int .u8 c.toNat)) h
      | none => False
    | _, _, _ => False
  | .extract x i => match ev τ x with
    | .tup vs => match vs[i]? with
      | some v => K v h
      | none => False
    | _ => False
  | .makeInterface t x => match ev τ x with
    | .s v => P.concrete t = true ∧ K (.s (.iface t v)) h
    | _ => False
  | .makeFunc fn first caps => match fn, first.toList, ptrsOf (caps.toList.map (ev τ)) with
    | .func f, [], some ps => K (.fn f ps) h
    | _, _, _ => False
  | _ => False

end Go.VL
