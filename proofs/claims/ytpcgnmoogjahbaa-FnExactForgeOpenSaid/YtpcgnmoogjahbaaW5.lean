/- A layer for walking through code on abstract values, told apart by who owns the memory: its definitions and their soundness; no condition. -/
import Derived.Test.YtpcgnmoogjahbaaW4
set_option linter.unusedVariables false
set_option linter.unusedSimpArgs false
namespace Go.W
open Go Go.RowKit

/-! ### 1. The types of a program -/
def tSz (P : Program) (t : TypeId) : Option Nat := (P.info? t).map (·.size)
def tBytes (P : Program) (t : TypeId) : Option Nat := (P.info? t).map (·.bytes)
def tAgg (P : Program) (t : TypeId) : Option Bool := match P.underlying t with | some (.struct _) => some true | some (.array _ _) => some true | some _ => some false | none => none
def tZ (P : Program) (t : TypeId) : Option (List V) := ((P.info? t).bind (·.zero)).bind fun z => if z.cells.toList.all one = true then some (z.cells.toList.map ofV1) else none
def tElem (P : Program) (t : TypeId) : Option TypeId := match P.underlying t with | some (.slice e) => some e | _ => none
def tFld (P : Program) (s f : Nat) : Option (Nat × TypeId) := match P.underlying s with | some (.struct fs) => (fs[f]?).map fun x => (x.offset, x.type) | _ => none
inductive TK where
  | bool | int (k : IntKind) | string | slice (e : TypeId) | ptr | iface | func | other
def tK (P : Program) (t : TypeId) : TK := match P.underlying t with
  | some .bool => .bool | some (.int k) => .int k | some .string => .string | some (.slice e) => .slice e | some (.pointer _) => .ptr | some (.interface _) => .iface | some (.func ..) => .func | _ => .other

/-! ### 2. The abstract heap -/
def rdB : Option Blk → Nat → Option (List V)
  | some ⟨els, _, _, true⟩, i => els[i]?
  | _, _ => none
def rdC : Option (List V) → Nat → Option V
  | some el, o => el[o]?
  | none, _ => none
def rdN : Option (List V) → Nat → Nat → Option (List V)
  | some el, o, n => if o + n ≤ el.length then some ((el.drop o).take n) else none
  | none, _, _ => none
def wrL {α : Type} : List α → Nat → List α → List α
  | cs, _, [] => cs
  | cs, off, x :: xs => wrL (cs.set off x) (off + 1) xs
def wrE : Option (List V) → Nat → List V → List V
  | some el, o, xs => wrL el o xs
  | none, _, xs => xs
def wrB : Option Blk → Nat → Nat → List V → Blk
  | some ⟨els, n, cap, l⟩, i, o, xs => ⟨els.set i (wrE (els[i]?) o xs), n, cap, l⟩
  | none, _, _, _ => Blk.dead
def wrH (h : H) (b i o : Nat) (xs : List V) : H := h.set b (wrB (h[b]?) i o xs)
def strideB : Option Blk → Option Nat
  | some ⟨_, n, _, true⟩ => some n
  | _ => none

def isN : Option Nat → Prop
  | some _ => True
  | none => False
def sameN : Option Nat → Option Nat → Prop
  | some a, some b => a = b
  | _, _ => False
def cellOk : V → Bool
  | .s _ => true
  | .f _ _ => true
  | .z => true
  | .sl .. => true
  | .ptr .. => true
  | .pd _ => true
  | .fn .. => true
  | _ => false
def leafs (els : List (List V)) : Bool := els.all fun el => el.all cellOk

/-- The cells that a value is stored as. -/
def cellsOf : V → Option (List V)
  | .agg cs => if cs.all cellOk = true then some cs else none
  | .s v => some [.s v]
  | .f n e => some [.f n e]
  | .z => some [.z]
  | .sl b o l c => some [.sl b o l c]
  | .ptr b i o => some [.ptr b i o]
  | .pd c => some [.pd c]
  | .fn f c => some [.fn f c]
  | _ => none

/-! ### 3. Building -/
def fillV (place : Nat → Option (Nat × Nat)) (cells : List V) : List (Nat × V) → Option (List V)
  | [] => some cells
  | (i, v) :: rest => match place i, cellsOf v with
    | some (off, size), some xs => if xs.length = size ∧ off + xs.length ≤ cells.length then fillV place (wrL cells off xs) rest else none
    | _, _ => none
def fldPlace (P : Program) (t : TypeId) (i : Nat) : Option (Nat × Nat) := match tFld P t i with
  | some (off, ft) => (tSz P ft).map fun n => (off, n)
  | none => none
def bldOk (P : Program) (t : TypeId) : Bool := match P.underlying t with
  | some (.struct fs) => fs.toList.all fun f => (tSz P f.type).isSome
  | _ => false
def fillE (n : Nat) (els : List (List V)) : List (Nat × V) → Option (List (List V))
  | [] => some els
  | (i, v) :: rest => match cellsOf v with
    | some xs => if xs.length = n ∧ i < els.length then fillE n (els.set i xs) rest else none
    | none => none
def partsV (C : Cx) (τ : Tau) : List (Nat × Operand) → List (Nat × V)
  | [] => []
  | p :: r => (p.1, ev C τ p.2) :: partsV C τ r
def evs (C : Cx) (τ : Tau) : List Operand → List V
  | [] => []
  | x :: r => ev C τ x :: evs C τ r

/-! ### 4. Operations: what they come to, K behind them -/
section
variable (C : Cx) (K : V → H → Prop) (h : H)

def pickV : Bool → V → V → V
  | true, x, _ => x
  | false, _, y => y
def pickK (x y : V) : V → Prop
  | .s (.bool t) => K (pickV t x y) h
  | _ => False
def allocK : Option (List V) → Prop
  | some z => K (.ptr h.length 0 0) (h ++ [⟨[z], z.length, 1, true⟩])
  | none => False
def boxK : Option (List V) → Prop
  | some cs => K (.ptr h.length 0 0) (h ++ [⟨[cs], cs.length, 1, true⟩])
  | none => False
def buildK1 : Option (List V) → Prop
  | some cs => K (.agg cs) h
  | none => False
def buildK (place : Nat → Option (Nat × Nat)) (ps : List (Nat × V)) : Bool → Option (List V) → Prop
  | true, some z => buildK1 K h (fillV place z ps)
  | _, _ => False
def bsK2 (n len : Nat) : Option (List (List V)) → Prop
  | some els => (len * n ≤ 16777216 ∧ len ≤ 16777216) ∧ K (.sl h.length 0 len len) (h ++ [⟨els, n, len, true⟩])
  | none => False
def bsK1 (len : Nat) (ps : List (Nat × V)) : Option Nat → Option (List V) → Prop
  | some n, some z => z.length = n ∧ bsK2 K h n len (fillE n (List.replicate len z) ps)
  | _, _ => False
def bsK (len : Nat) (ps : List (Nat × V)) : Option TypeId → Prop
  | some e => bsK1 K h len ps (tSz C.P e) (tZ C.P e)
  | none => False

/-- A cell is read: what it owns becomes a block of its own. -/
def ldV (b i o : Nat) : Option V → Prop
  | some (.l n els) => ∀ cap, els.length ≤ cap → K (.sl h.length 0 els.length cap) (wrH h b i o [.sl h.length 0 els.length cap] ++ [⟨els, n, cap, true⟩])
  | some (.lp cs) => K (.ptr h.length 0 0) (wrH h b i o [.ptr h.length 0 0] ++ [⟨[cs], cs.length, 1, true⟩])
  | some v => K v h
  | none => False
def ldA : Option (List V) → Prop
  | some cs => cs.all cellOk = true ∧ K (.agg cs) h
  | none => False
def ldT (b i o : Nat) : Option Bool → Option Nat → Prop
  | some true, some n => ldA K h (rdN (rdB (h[b]?) i) o n)
  | some false, _ => ldV K h b i o (rdC (rdB (h[b]?) i) o)
  | _, _ => False
def ldC : Option V → Prop
  | some v => K v h
  | none => False
def ldF (cs : List V) : Option Bool → Option Nat → Prop
  | some true, some n => ldA K h (rdN (some cs) 0 n)
  | some false, _ => ldC K h (cs[0]?)
  | _, _ => False
def ldK (t : TypeId) : V → Prop
  | .ptr b i o => ldT K h b i o (tAgg C.P t) (tSz C.P t)
  | .pd cs => ldF K h cs (tAgg C.P t) (tSz C.P t)
  | _ => False

def fitsB : Option (List V) → Nat → Nat → Prop
  | some el, o, n => o + n ≤ el.length
  | none, _, _ => False
def stA (b i o : Nat) (sz : Option Nat) : Option (List V) → Prop
  | some cs => (sz = some cs.length ∧ fitsB (rdB (h[b]?) i) o cs.length) ∧ K .any (wrH h b i o cs)
  | none => False
def stK (t : TypeId) (x : V) : V → Prop
  | .ptr b i o => stA K h b i o (tSz C.P t) (cellsOf x)
  | _ => False

def nilK : V → Prop
  | .ptr b i o => K (.ptr b i o) h
  | .pd cs => K (.pd cs) h
  | .fn f cs => K (.fn f cs) h
  | .sl b off len cap => K (.sl b off len cap) h
  | _ => False

def intB (k : IntKind) (a : Int) (k' : IntKind) (b : Int) : BinOp → Prop
  | .shr => (0 ≤ b ∧ b ≤ k.bits) ∧ K (.s (.int k (a / 2 ^ b.toNat))) h
  | .add => k = k' ∧ K (.s (.int k (k.wrap (a + b)))) h
  | .sub => k = k' ∧ K (.s (.int k (k.wrap (a - b)))) h
  | .mul => k = k' ∧ K (.s (.int k (k.wrap (a * b)))) h
  | .quo => (k = k' ∧ b ≠ 0) ∧ K (.s (.int k (k.wrap (a.tdiv b)))) h
  | .rem => (k = k' ∧ b ≠ 0) ∧ K (.s (.int k (a.tmod b))) h
  | .eql => k = k' ∧ K (.s (.bool (decide (a = b)))) h
  | .neq => k = k' ∧ K (.s (.bool (!decide (a = b)))) h
  | .lss => k = k' ∧ K (.s (.bool (decide (a < b)))) h
  | .leq => k = k' ∧ K (.s (.bool (decide (a ≤ b)))) h
  | .gtr => k = k' ∧ K (.s (.bool (decide (b < a)))) h
  | .geq => k = k' ∧ K (.s (.bool (decide (b ≤ a)))) h
  | _ => False
def strB (a b : ByteArray) : BinOp → Prop
  | .add => a.size + b.size ≤ LIM ∧ K (.s (.string (a ++ b))) h
  | .eql => K (.s (.bool (decide (a = b)))) h
  | .neq => K (.s (.bool (!decide (a = b)))) h
  | .lss => K (.s (.bool (Op.bytesLess a.toList b.toList))) h
  | .leq => K (.s (.bool (Op.bytesLess a.toList b.toList || decide (a = b)))) h
  | .gtr => K (.s (.bool (!(Op.bytesLess a.toList b.toList || decide (a = b))))) h
  | .geq => K (.s (.bool (!Op.bytesLess a.toList b.toList))) h
  | _ => False
def boolB (a b : Bool) : BinOp → Prop
  | .eql => K (.s (.bool (a == b))) h
  | .neq => K (.s (.bool (a != b))) h
  | _ => False
/-- Whether a slice is nil isn't told, unless there's something in it. -/
def nilB (len : Nat) : BinOp → Prop
  | .eql => ∀ r, (0 < len → r = false) → K (.s (.bool r)) h
  | .neq => ∀ r, (0 < len → r = true) → K (.s (.bool r)) h
  | _ => False
def isT : TK → TK → Prop
  | .bool, .bool => True
  | .slice _, .slice _ => True
  | .ptr, .ptr => True
  | .iface, .iface => True
  | .string, .string => True
  | _, _ => False
def eqB (r : Bool) : BinOp → Prop
  | .eql => K (.s (.bool r)) h
  | .neq => K (.s (.bool (!r))) h
  | _ => False
/-- What constant an operand is compared with. -/
inductive NK where
  | no | slice | iface
def isNil : Operand → NK
  | .const (.slice none _ _) => .slice
  | .const .nilIface => .iface
  | _ => .no
def nilC (t : TypeId) (op : BinOp) : V → Prop
  | .sl _ _ len _ => isT (tK C.P t) (.slice 0) ∧ nilB K h len op
  | .f _ els => isT (tK C.P t) (.slice 0) ∧ nilB K h els.length op
  | .z => isT (tK C.P t) (.slice 0) ∧ nilB K h 0 op
  | _ => False
def nilI (t : TypeId) (op : BinOp) : V → Prop
  | .s .nilIface => isT (tK C.P t) .iface ∧ eqB K h true op
  | .s (.iface _ _) => isT (tK C.P t) .iface ∧ eqB K h false op
  | _ => False
/-- Structs whose fields are numbers, texts and truths. -/
def eqCells : List V → List V → Option Bool
  | [], [] => some true
  | .s (.int k a) :: xs, .s (.int k' b) :: ys => match eqCells xs ys with
    | some r => if k = k' then some (decide (a = b) && r) else none
    | none => none
  | .s (.string a) :: xs, .s (.string b) :: ys => match eqCells xs ys with
    | some r => some (decide (a = b) && r)
    | none => none
  | .s (.bool a) :: xs, .s (.bool b) :: ys => match eqCells xs ys with
    | some r => some ((a == b) && r)
    | none => none
  | _, _ => none
def eqA (op : BinOp) : Option Bool → Prop
  | some r => eqB K h r op
  | none => False
def scalarK : TK → Bool
  | .int _ => true
  | .string => true
  | .bool => true
  | _ => false
def flatFields (P : Program) : Nat → List Field → Bool
  | _, [] => true
  | i, f :: r => f.name != "_" && f.offset == i && scalarK (tK P f.type) && flatFields P (i + 1) r
/-- A struct of plain fields that can be compared. -/
def eqStruct (P : Program) (t : TypeId) : Bool := match P.underlying t with
  | some (.struct fs) => !P.stoodInHeld t && !P.eqGuardType P.depth t && flatFields P 0 fs.toList
  | _ => false
def fieldTK (P : Program) (t : TypeId) : List TK := match P.underlying t with
  | some (.struct fs) => fs.toList.map fun f => tK P f.type
  | _ => []
def kindsOk : List TK → List V → Bool
  | [], [] => true
  | .int k :: ts, .s (.int k' _) :: xs => decide (k = k') && kindsOk ts xs
  | .string :: ts, .s (.string _) :: xs => kindsOk ts xs
  | .bool :: ts, .s (.bool _) :: xs => kindsOk ts xs
  | _, _ => false
def binK (t : TypeId) (op : BinOp) : V → V → Prop
  | .s (.int k a), .s (.int k' b) => intB K h k a k' b op
  | .s (.string a), .s (.string b) => strB K h a b op
  | .s (.bool a), .s (.bool b) => isT (tK C.P t) .bool ∧ boolB K h a b op
  | .ptr _ _ _, .s (.pointer none) => isT (tK C.P t) .ptr ∧ eqB K h false op
  | .pd _, .s (.pointer none) => isT (tK C.P t) .ptr ∧ eqB K h false op
  | .s (.pointer none), .s (.pointer none) => isT (tK C.P t) .ptr ∧ eqB K h true op
  | .agg xs, .agg ys => (eqStruct C.P t = true ∧ kindsOk (fieldTK C.P t) xs = true ∧ kindsOk (fieldTK C.P t) ys = true) ∧ eqA K h op (eqCells xs ys)
  | _, _ => False
def binR (t : TypeId) (op : BinOp) (x y : V) : NK → Prop
  | .no => binK C K h t op x y
  | .slice => nilC C K h t op x
  | .iface => nilI C K h t op x
def unK : UnOp → V → Prop
  | .not, .s (.bool b) => K (.s (.bool (!b))) h
  | .neg, .s (.int k n) => K (.s (.int k (k.wrap (0 - n)))) h
  | _, _ => False

/-- The bytes that elements are. -/
def byteOf : List V → Option UInt8
  | [.s (.int .u8 n)] => some (UInt8.ofNat n.toNat)
  | _ => none
def bytesOf : List (List V) → Option (List UInt8)
  | [] => some []
  | el :: r => match byteOf el, bytesOf r with
    | some b, some l => some (b :: l)
    | _, _ => none
def bytesIn : List (List V) → Prop
  | [] => True
  | [.s (.int .u8 n)] :: r => (0 ≤ n ∧ n < 256) ∧ bytesIn r
  | _ :: _ => False
def byteE (b : UInt8) : List V := [.s (.int .u8 b.toNat)]
def cvBytes : Option (List UInt8) → Prop
  | some l => K (.s (.string ⟨l.toArray⟩)) h
  | none => False
def elsOf (off len : Nat) : Option Blk → Option (List (List V))
  | some ⟨els, _, _, true⟩ => if off + len ≤ els.length then some ((els.drop off).take len) else none
  | _ => none
def cvBytes1 : Option (List (List V)) → Prop
  | some els => bytesIn els ∧ cvBytes K h (bytesOf els)
  | none => False
def cvSl (e : TK) : V → Prop
  | .f n els => (e = .int .u8 ∧ n = 1 ∧ bytesIn els) ∧ cvBytes K h (bytesOf els)
  | .z => e = .int .u8 ∧ K (.s (.string ByteArray.empty)) h
  | .sl b off len cap => (e = .int .u8 ∧ strideB (h[b]?) = some 1) ∧ cvBytes1 K h (elsOf off len (h[b]?))
  | _ => False
def cvK : TK → TK → V → Prop
  | .int _, .int k, .s (.int _ n) => K (.s (.int k (k.wrap n))) h
  | .string, .string, .s (.string s) => K (.s (.string s)) h
  | .slice e, .string, x => cvSl K h (tK C.P e) x
  | _, _, _ => False

def mkK2 (l c : Int) : Option Nat → Option (List V) → Option Nat → Prop
  | some n, some z, some by_ => (0 ≤ l ∧ l ≤ c ∧ (by_ : Int) * c ≤ 140737488355328 ∧ c ≤ 4611686018427387904 ∧ z.length = n) ∧
      K (.sl h.length 0 l.toNat c.toNat) (h ++ [⟨List.replicate c.toNat z, n, c.toNat, true⟩])
  | _, _, _ => False
def mkK (e : Option TypeId) : V → V → Prop
  | .s (.int _ l), .s (.int _ c) => match e with
    | some e => mkK2 K h l c (tSz C.P e) (tZ C.P e) (tBytes C.P e)
    | none => False
  | _, _ => False

/-- Where a slice is cut. -/
def intOfV : V → Option Int
  | .s (.int _ n) => some n
  | _ => none
def oI : Option V → Option Int
  | some v => intOfV v
  | none => none
def cutS (s : ByteArray) (l r : Int) : Prop := (0 ≤ l ∧ l ≤ r ∧ r ≤ s.size) ∧ K (.s (.string (s.extract l.toNat r.toNat))) h
def cutF (n : Nat) (els : List (List V)) (l r : Int) : Prop := (0 ≤ l ∧ l ≤ r ∧ r ≤ els.length) ∧ K (.f n ((els.drop l.toNat).take (r.toNat - l.toNat))) h
def cutE : Option Nat → Prop
  | some n => K (.f n []) h
  | none => False
def cutO (b off cap : Nat) (n : Option Nat) (l r : Nat) : Bool → Prop
  | true => K (.sl b (off + l) (r - l) (cap - l)) h
  | false => cutE K h n
def slK (t : TK) (lo hi mx : Option V) : V → Prop
  | .s (.string s) => match t, lo, hi, mx with
    | .string, none, none, none => K (.s (.string s)) h
    | .string, some (.s (.int _ l)), none, none => cutS K h s l s.size
    | .string, none, some (.s (.int _ r)), none => cutS K h s 0 r
    | .string, some (.s (.int _ l)), some (.s (.int _ r)), none => cutS K h s l r
    | _, _, _, _ => False
  | .f n els => match t, lo, hi, mx with
    | .slice e, none, none, none => tSz C.P e = some n ∧ K (.f n els) h
    | .slice e, some (.s (.int _ l)), none, none => tSz C.P e = some n ∧ cutF K h n els l els.length
    | .slice e, none, some (.s (.int _ r)), none => tSz C.P e = some n ∧ cutF K h n els 0 r
    | .slice e, some (.s (.int _ l)), some (.s (.int _ r)), none => tSz C.P e = some n ∧ cutF K h n els l r
    | .slice e, none, some (.s (.int _ r)), some (.s (.int _ m)) => (tSz C.P e = some n ∧ r = 0 ∧ m = 0) ∧ K .z h
    | _, _, _, _ => False
  | .z => match t, lo, hi, mx with
    | .slice e, none, none, none => isN (tSz C.P e) ∧ K .z h
    | .slice e, some (.s (.int _ l)), none, none => (isN (tSz C.P e) ∧ l = 0) ∧ K .z h
    | .slice e, none, some (.s (.int _ r)), none => (isN (tSz C.P e) ∧ r = 0) ∧ K .z h
    | .slice e, some (.s (.int _ l)), some (.s (.int _ r)), none => (isN (tSz C.P e) ∧ l = 0 ∧ r = 0) ∧ K .z h
    | .slice e, none, some (.s (.int _ r)), some (.s (.int _ m)) => (isN (tSz C.P e) ∧ r = 0 ∧ m = 0) ∧ K .z h
    | _, _, _, _ => False
  | .sl b off len cap => match t, lo, hi, mx with
    | .slice e, none, none, none => sameN (strideB (h[b]?)) (tSz C.P e) ∧ K (.sl b off len cap) h
    | .slice e, some (.s (.int _ l)), none, none => (sameN (strideB (h[b]?)) (tSz C.P e) ∧ 0 ≤ l ∧ l ≤ len ∧ len ≤ cap) ∧ cutO K h b off cap (tSz C.P e) l.toNat len (decide (l < len))
    | .slice e, none, some (.s (.int _ r)), none => sameN (strideB (h[b]?)) (tSz C.P e) ∧ (0 ≤ r ∧ r ≤ cap) ∧ K (.sl b off r.toNat cap) h
    | .slice e, some (.s (.int _ l)), some (.s (.int _ r)), none => (sameN (strideB (h[b]?)) (tSz C.P e) ∧ 0 ≤ l ∧ l ≤ r ∧ r ≤ cap) ∧ cutO K h b off cap (tSz C.P e) l.toNat r.toNat (decide (l < r))
    | .slice e, none, some (.s (.int _ r)), some (.s (.int _ m)) => (sameN (strideB (h[b]?)) (tSz C.P e) ∧ r = 0 ∧ m = 0) ∧ K .z h
    | _, _, _, _ => False
  | _ => False

def faK : Option (Nat × TypeId) → V → Prop
  | some (fo, ft), .ptr b i o => (∃ n, tSz C.P ft = some (n + 1)) ∧ K (.ptr b i (o + fo)) h
  | some (fo, ft), .pd cs => (∃ n, tSz C.P ft = some (n + 1)) ∧ K (.pd (cs.drop fo)) h
  | _, _ => False
def fdA (cs : List V) (fo : Nat) : Option Bool → Option Nat → Prop
  | some true, some n => fo + n ≤ cs.length ∧ K (.agg ((cs.drop fo).take n)) h
  | some false, _ => ldC K h (cs[fo]?)
  | _, _ => False
def fdK : Option (Nat × TypeId) → V → Prop
  | some (fo, ft), .agg cs => fdA K h cs fo (tAgg C.P ft) (tSz C.P ft)
  | _, _ => False
def iaF : Option (List V) → Prop
  | some el => K (.pd el) h
  | none => False
def iaK (e : Option TypeId) (i : Int) : V → Prop
  | .sl b off len _ => match e with
    | some e => (sameN (strideB (h[b]?)) (tSz C.P e) ∧ 0 ≤ i ∧ i < len) ∧ K (.ptr b (off + i.toNat) 0) h
    | none => False
  | .f n els => match e with
    | some e => (tSz C.P e = some n ∧ 0 ≤ i) ∧ iaF K h (els[i.toNat]?)
    | none => False
  | _ => False
def iaI (e : Option TypeId) (x : V) : V → Prop
  | .s (.int _ i) => iaK C K h e i x
  | _ => False
def ixC (i : Int) : Option UInt8 → Prop
  | some c => 0 ≤ i ∧ K (.s (.int .u8 c.toNat)) h
  | none => False
def ixK (t : TK) : V → V → Prop
  | .s (.string s), .s (.int _ i) => isT t .string ∧ ixC K h i (s[i.toNat]?)
  | _, _ => False
def exK (i : Nat) : V → Prop
  | .tup vs => ldC K h (vs[i]?)
  | _ => False
def scal : List V → Option (List Value)
  | [] => some []
  | .s v :: r => match scal r with
    | some l => some (v :: l)
    | none => none
  | _ :: _ => none
def miA (t : TypeId) : Option (List Value) → Prop
  | some l => K (.s (.iface t (.agg l.toArray))) h
  | none => False
def miK (t : TypeId) : V → Prop
  | .s v => C.P.concrete t = true ∧ K (.s (.iface t v)) h
  | .agg cs => C.P.concrete t = true ∧ miA K h t (scal cs)
  | _ => False
def capOk : V → Bool
  | .ptr .. => true
  | .pd _ => true
  | _ => false
def mfK (fn : Fn) (first : List Operand) (caps : List V) : Prop := match fn, first with
  | .func f, [] => caps.all capOk = true ∧ K (.fn f caps) h
  | _, _ => False
end

/-- What an operation that is no call of a Go function does; K: what comes behind it. -/
def opW (C : Cx) (τ : Tau) (h : H) (o : Op) (K : V → H → Prop) : Prop :=
  match o with
  | .move x => K (ev C τ x) h
  | .assign x => K (ev C τ x) h
  | .pick c a b => pickK K h (ev C τ a) (ev C τ b) (ev C τ c)
  | .alloc e => allocK K h (tZ C.P e)
  | .box _ x => boxK K h (cellsOf (ev C τ x))
  | .build t parts => buildK K h (fldPlace C.P t) (partsV C τ parts.toList) (bldOk C.P t) (tZ C.P t)
  | .buildSlice t len parts => bsK C K h len (partsV C τ parts.toList) (tElem C.P t)
  | .load t a => ldK C K h t (ev C τ a)
  | .store t a x => stK C K h t (ev C τ x) (ev C τ a)
  | .nilCheck x => nilK K h (ev C τ x)
  | .binOp op t x y _ => binR C K h t op (ev C τ x) (ev C τ y) (isNil y)
  | .unOp op _ x => unK K h op (ev C τ x)
  | .convert src dst x => cvK C K h (tK C.P src) (tK C.P dst) (ev C τ x)
  | .makeSlice t l c => mkK C K h (tElem C.P t) (ev C τ l) (ev C τ c)
  | .slice t x lo hi mx => slK C K h (tK C.P t) (lo.map (ev C τ)) (hi.map (ev C τ)) (mx.map (ev C τ)) (ev C τ x)
  | .fieldAddr s x f => faK C K h (tFld C.P s f) (ev C τ x)
  | .field s x f => fdK C K h (tFld C.P s f) (ev C τ x)
  | .indexAddr t x i => iaI C K h (tElem C.P t) (ev C τ x) (ev C τ i)
  | .index t x i => ixK K h (tK C.P t) (ev C τ x) (ev C τ i)
  | .extract x i => exK K h i (ev C τ x)
  | .makeInterface t x => miK C K h t (ev C τ x)
  | .makeFunc fn first caps => mfK K h fn first.toList (evs C τ caps.toList)
  | _ => False

end Go.W
