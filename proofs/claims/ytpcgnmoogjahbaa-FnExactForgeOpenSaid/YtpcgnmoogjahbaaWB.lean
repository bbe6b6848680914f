/- A layer for walking through code on abstract values, told apart by who owns the memory: its definitions and their soundness; no condition. -/
import Derived.Test.YtpcgnmoogjahbaaW23
set_option linter.unusedVariables false
set_option linter.unusedSimpArgs false
set_option maxRecDepth 100000
namespace Go.W
open Go Go.RowKit

/-! ### The equations of the walk, in one -/
theorem wb1 :
 ((((((∀ (C : Cx) (K : V → H → Prop) (h : H) (fo : Nat) (ft : Go.TypeId) (b i o : Nat), faK C K h (some (fo, ft)) (V.ptr b i o) = ((∃ n, tSz C.P ft = some (n + 1)) ∧ K (V.ptr b i (o + fo)) h)) ∧
 ((∀ (C : Cx) (K : V → H → Prop) (h : H) (fo : Nat) (ft : Go.TypeId) (cs : List V), faK C K h (some (fo, ft)) (V.pd cs) = ((∃ n, tSz C.P ft = some (n + 1)) ∧ K (V.pd (List.drop fo cs)) h)) ∧
 (∀ (x : Nat) (els : List (List V)) (n cap : Nat), rdB (some { els := els, n := n, cap := cap, live := true }) x = els[x]?))) ∧
 (((∀ (x : Nat) (el : List V), rdC (some el) x = el[x]?) ∧
 (∀ (x : Nat), rdC none x = none)) ∧
 ((∀ (x x_1 : Nat) (el : List V), rdN (some el) x x_1 = if x + x_1 ≤ el.length then some (List.take x_1 (List.drop x el)) else none) ∧
 (∀ (x x_1 : Nat), rdN none x x_1 = none)))) ∧
 ((((∀ {α : Type} (x : List α) (x_1 : Nat), wrL x x_1 [] = x) ∧
 (∀ {α : Type} (x : List α) (x_1 : Nat) (x_3 : α) (xs : List α), wrL x x_1 (x_3 :: xs) = wrL (x.set x_1 x_3) (x_1 + 1) xs)) ∧
 ((∀ (x : Nat) (x_1 el : List V), wrE (some el) x x_1 = wrL el x x_1) ∧
 (∀ (x : Nat) (x_1 : List V), wrE none x x_1 = x_1))) ∧
 (((∀ (x x_1 : Nat) (x_2 : List V) (els : List (List V)) (n cap : Nat) (l : Bool), wrB (some { els := els, n := n, cap := cap, live := l }) x x_1 x_2 = { els := els.set x (wrE els[x]? x_1 x_2), n := n, cap := cap, live := l }) ∧
 (∀ (x x_1 : Nat) (x_2 : List V), wrB none x x_1 x_2 = Blk.dead)) ∧
 ((∀ (els : List (List V)) (n cap : Nat), strideB (some { els := els, n := n, cap := cap, live := true }) = some n) ∧
 (∀ (val : Nat), isN (some val) = True))))) ∧
 ((((isN none = False) ∧
 ((∀ (a b : Nat), sameN (some a) (some b) = (a = b)) ∧
 (∀ (v : Go.Value), cellOk (V.s v) = true))) ∧
 (((∀ (n : Nat) (els : List (List V)), cellOk (V.f n els) = true) ∧
 (cellOk V.z = true)) ∧
 ((∀ (b off len cap : Nat), cellOk (V.sl b off len cap) = true) ∧
 (∀ (b i o : Nat), cellOk (V.ptr b i o) = true)))) ∧
 ((((∀ (cs : List V), cellOk (V.pd cs) = true) ∧
 (∀ (f : Nat) (caps : List V), cellOk (V.fn f caps) = true)) ∧
 ((∀ (cs : List V), cellsOf (V.agg cs) = if cs.all cellOk = true then some cs else none) ∧
 (∀ (v : Go.Value), cellsOf (V.s v) = some [V.s v]))) ∧
 (((∀ (n : Nat) (e : List (List V)), cellsOf (V.f n e) = some [V.f n e]) ∧
 (cellsOf V.z = some [V.z])) ∧
 ((∀ (b o l c : Nat), cellsOf (V.sl b o l c) = some [V.sl b o l c]) ∧
 (∀ (b i o : Nat), cellsOf (V.ptr b i o) = some [V.ptr b i o])))))) ∧
 (((((∀ (c : List V), cellsOf (V.pd c) = some [V.pd c]) ∧
 ((∀ (f : Nat) (c : List V), cellsOf (V.fn f c) = some [V.fn f c]) ∧
 (∀ (place : Nat → Option (Nat × Nat)) (cells : List V), fillV place cells [] = some cells))) ∧
 (((∀ (n : Nat) (els : List (List V)), fillE n els [] = some els) ∧
 (∀ (C : Cx) (τ : Tau), partsV C τ [] = [])) ∧
 ((∀ (C : Cx) (τ : Tau) (p : Nat × Go.Operand) (r : List (Nat × Go.Operand)), partsV C τ (p :: r) = (p.fst, ev C τ p.snd) :: partsV C τ r) ∧
 (∀ (C : Cx) (τ : Tau), evs C τ [] = [])))) ∧
 ((((∀ (C : Cx) (τ : Tau) (x_1 : Go.Operand) (r : List Go.Operand), evs C τ (x_1 :: r) = ev C τ x_1 :: evs C τ r) ∧
 (∀ (x x_1 : V), pickV true x x_1 = x)) ∧
 ((∀ (x x_1 : V), pickV false x x_1 = x_1) ∧
 (∀ (K : V → H → Prop) (h : H) (x y : V) (t : Bool), pickK K h x y (V.s (Go.Value.bool t)) = K (pickV t x y) h))) ∧
 (((∀ (K : V → H → Prop) (h : H) (xs : List V), allocK K h (some xs) = K (V.ptr (List.length h) 0 0) (h ++ [{ els := [xs], n := xs.length, cap := 1, live := true }])) ∧
 (∀ (K : V → H → Prop) (h : H), allocK K h none = False)) ∧
 ((∀ (K : V → H → Prop) (h : H) (xs : List V), boxK K h (some xs) = K (V.ptr (List.length h) 0 0) (h ++ [{ els := [xs], n := xs.length, cap := 1, live := true }])) ∧
 (∀ (K : V → H → Prop) (h : H), boxK K h none = False))))) ∧
 ((((∀ (K : V → H → Prop) (h : H) (xs : List V), buildK1 K h (some xs) = K (V.agg xs) h) ∧
 ((∀ (K : V → H → Prop) (h : H), buildK1 K h none = False) ∧
 (∀ (K : V → H → Prop) (h : H) (place : Nat → Option (Nat × Nat)) (ps : List (Nat × V)) (z : List V), buildK K h place ps true (some z) = buildK1 K h (fillV place z ps)))) ∧
 (((∀ (K : V → H → Prop) (h : H) (n len : Nat) (els : List (List V)), bsK2 K h n len (some els) = ((len * n ≤ 16777216 ∧ len ≤ 16777216) ∧ K (V.sl (List.length h) 0 len len) (h ++ [{ els := els, n := n, cap := len, live := true }]))) ∧
 (∀ (K : V → H → Prop) (h : H) (n len : Nat), bsK2 K h n len none = False)) ∧
 ((∀ (K : V → H → Prop) (h : H) (len : Nat) (ps : List (Nat × V)) (n : Nat) (z : List V), bsK1 K h len ps (some n) (some z) = (z.length = n ∧ bsK2 K h n len (fillE n (List.replicate len z) ps))) ∧
 (∀ (C : Cx) (K : V → H → Prop) (h : H) (len : Nat) (ps : List (Nat × V)) (e : Go.TypeId), bsK C K h len ps (some e) = bsK1 K h len ps (tSz C.P e) (tZ C.P e))))) ∧
 ((((∀ (C : Cx) (K : V → H → Prop) (h : H) (len : Nat) (ps : List (Nat × V)), bsK C K h len ps none = False) ∧
 (∀ (K : V → H → Prop) (h : H) (b i o n : Nat) (els : List (List V)), ldV K h b i o (some (V.l n els)) = ∀ (cap : Nat), els.length ≤ cap → K (V.sl (List.length h) 0 els.length cap) (wrH h b i o [V.sl (List.length h) 0 els.length cap] ++ [{ els := els, n := n, cap := cap, live := true }]))) ∧
 ((∀ (K : V → H → Prop) (h : H) (b i o : Nat) (cs : List V), ldV K h b i o (some (V.lp cs)) = K (V.ptr (List.length h) 0 0) (wrH h b i o [V.ptr (List.length h) 0 0] ++ [{ els := [cs], n := cs.length, cap := 1, live := true }])) ∧
 (∀ (K : V → H → Prop) (h : H) (b i o : Nat), ldV K h b i o none = False))) ∧
 (((∀ (K : V → H → Prop) (h : H) (xs : List V), ldA K h (some xs) = (xs.all cellOk = true ∧ K (V.agg xs) h)) ∧
 (∀ (K : V → H → Prop) (h : H), ldA K h none = False)) ∧
 ((∀ (K : V → H → Prop) (h : H) (b i o n : Nat), ldT K h b i o (some true) (some n) = ldA K h (rdN (rdB h[b]? i) o n)) ∧
 (∀ (K : V → H → Prop) (h : H) (b i o : Nat) (x : Option Nat), ldT K h b i o (some false) x = ldV K h b i o (rdC (rdB h[b]? i) o)))))))) :=
 ⟨⟨⟨⟨⟨@faK.eq_1,
 ⟨@faK.eq_2,
 @rdB.eq_1⟩⟩,
 ⟨⟨@rdC.eq_1,
 @rdC.eq_2⟩,
 ⟨@rdN.eq_1,
 @rdN.eq_2⟩⟩⟩,
 ⟨⟨⟨@wrL.eq_1,
 @wrL.eq_2⟩,
 ⟨@wrE.eq_1,
 @wrE.eq_2⟩⟩,
 ⟨⟨@wrB.eq_1,
 @wrB.eq_2⟩,
 ⟨@strideB.eq_1,
 @isN.eq_1⟩⟩⟩⟩,
 ⟨⟨⟨@isN.eq_2,
 ⟨@sameN.eq_1,
 @cellOk.eq_1⟩⟩,
 ⟨⟨@cellOk.eq_2,
 @cellOk.eq_3⟩,
 ⟨@cellOk.eq_4,
 @cellOk.eq_5⟩⟩⟩,
 ⟨⟨⟨@cellOk.eq_6,
 @cellOk.eq_7⟩,
 ⟨@cellsOf.eq_1,
 @cellsOf.eq_2⟩⟩,
 ⟨⟨@cellsOf.eq_3,
 @cellsOf.eq_4⟩,
 ⟨@cellsOf.eq_5,
 @cellsOf.eq_6⟩⟩⟩⟩⟩,
 ⟨⟨⟨⟨@cellsOf.eq_7,
 ⟨@cellsOf.eq_8,
 @fillV.eq_1⟩⟩,
 ⟨⟨@fillE.eq_1,
 @partsV.eq_1⟩,
 ⟨@partsV.eq_2,
 @evs.eq_1⟩⟩⟩,
 ⟨⟨⟨@evs.eq_2,
 @pickV.eq_1⟩,
 ⟨@pickV.eq_2,
 @pickK.eq_1⟩⟩,
 ⟨⟨@allocK.eq_1,
 @allocK.eq_2⟩,
 ⟨@boxK.eq_1,
 @boxK.eq_2⟩⟩⟩⟩,
 ⟨⟨⟨@buildK1.eq_1,
 ⟨@buildK1.eq_2,
 @buildK.eq_1⟩⟩,
 ⟨⟨@bsK2.eq_1,
 @bsK2.eq_2⟩,
 ⟨@bsK1.eq_1,
 @bsK.eq_1⟩⟩⟩,
 ⟨⟨⟨@bsK.eq_2,
 @ldV.eq_1⟩,
 ⟨@ldV.eq_2,
 @ldV.eq_4⟩⟩,
 ⟨⟨@ldA.eq_1,
 @ldA.eq_2⟩,
 ⟨@ldT.eq_1,
 @ldT.eq_2⟩⟩⟩⟩⟩⟩
theorem wb2 :
 ((((((∀ (K : V → H → Prop) (h : H) (v : V), ldC K h (some v) = K v h) ∧
 ((∀ (K : V → H → Prop) (h : H), ldC K h none = False) ∧
 (∀ (K : V → H → Prop) (h : H) (cs : List V) (n : Nat), ldF K h cs (some true) (some n) = ldA K h (rdN (some cs) 0 n)))) ∧
 (((∀ (K : V → H → Prop) (h : H) (cs : List V) (x : Option Nat), ldF K h cs (some false) x = ldC K h cs[0]?) ∧
 (∀ (C : Cx) (K : V → H → Prop) (h : H) (t : Go.TypeId) (b i o : Nat), ldK C K h t (V.ptr b i o) = ldT K h b i o (tAgg C.P t) (tSz C.P t))) ∧
 ((∀ (C : Cx) (K : V → H → Prop) (h : H) (t : Go.TypeId) (cs : List V), ldK C K h t (V.pd cs) = ldF K h cs (tAgg C.P t) (tSz C.P t)) ∧
 (∀ (x x_1 : Nat) (el : List V), fitsB (some el) x x_1 = (x + x_1 ≤ el.length))))) ∧
 ((((∀ (x x_1 : Nat), fitsB none x x_1 = False) ∧
 (∀ (K : V → H → Prop) (h : H) (b i o : Nat) (sz : Option Nat) (xs : List V), stA K h b i o sz (some xs) = ((sz = some xs.length ∧ fitsB (rdB h[b]? i) o xs.length) ∧ K V.any (wrH h b i o xs)))) ∧
 ((∀ (K : V → H → Prop) (h : H) (b i o : Nat) (sz : Option Nat), stA K h b i o sz none = False) ∧
 (∀ (C : Cx) (K : V → H → Prop) (h : H) (t : Go.TypeId) (x : V) (b i o : Nat), stK C K h t x (V.ptr b i o) = stA K h b i o (tSz C.P t) (cellsOf x)))) ∧
 (((∀ (K : V → H → Prop) (h : H) (b i o : Nat), nilK K h (V.ptr b i o) = K (V.ptr b i o) h) ∧
 (∀ (K : V → H → Prop) (h : H) (cs : List V), nilK K h (V.pd cs) = K (V.pd cs) h)) ∧
 ((∀ (K : V → H → Prop) (h : H) (f : Nat) (cs : List V), nilK K h (V.fn f cs) = K (V.fn f cs) h) ∧
 (∀ (K : V → H → Prop) (h : H) (b off len cap : Nat), nilK K h (V.sl b off len cap) = K (V.sl b off len cap) h))))) ∧
 ((((∀ (K : V → H → Prop) (h : H) (k : Go.IntKind) (a : Int) (k' : Go.IntKind) (b : Int), intB K h k a k' b Go.BinOp.shr = ((0 ≤ b ∧ b ≤ ↑k.bits) ∧ K (V.s (Go.Value.int k (a / 2 ^ b.toNat))) h)) ∧
 ((∀ (K : V → H → Prop) (h : H) (k : Go.IntKind) (a : Int) (k' : Go.IntKind) (b : Int), intB K h k a k' b Go.BinOp.add = (k = k' ∧ K (V.s (Go.Value.int k (k.wrap (a + b)))) h)) ∧
 (∀ (K : V → H → Prop) (h : H) (k : Go.IntKind) (a : Int) (k' : Go.IntKind) (b : Int), intB K h k a k' b Go.BinOp.sub = (k = k' ∧ K (V.s (Go.Value.int k (k.wrap (a - b)))) h)))) ∧
 (((∀ (K : V → H → Prop) (h : H) (k : Go.IntKind) (a : Int) (k' : Go.IntKind) (b : Int), intB K h k a k' b Go.BinOp.mul = (k = k' ∧ K (V.s (Go.Value.int k (k.wrap (a * b)))) h)) ∧
 (∀ (K : V → H → Prop) (h : H) (k : Go.IntKind) (a : Int) (k' : Go.IntKind) (b : Int), intB K h k a k' b Go.BinOp.quo = ((k = k' ∧ b ≠ 0) ∧ K (V.s (Go.Value.int k (k.wrap (a.tdiv b)))) h))) ∧
 ((∀ (K : V → H → Prop) (h : H) (k : Go.IntKind) (a : Int) (k' : Go.IntKind) (b : Int), intB K h k a k' b Go.BinOp.rem = ((k = k' ∧ b ≠ 0) ∧ K (V.s (Go.Value.int k (a.tmod b))) h)) ∧
 (∀ (K : V → H → Prop) (h : H) (k : Go.IntKind) (a : Int) (k' : Go.IntKind) (b : Int), intB K h k a k' b Go.BinOp.eql = (k = k' ∧ K (V.s (Go.Value.bool (decide (a = b)))) h))))) ∧
 ((((∀ (K : V → H → Prop) (h : H) (k : Go.IntKind) (a : Int) (k' : Go.IntKind) (b : Int), intB K h k a k' b Go.BinOp.neq = (k = k' ∧ K (V.s (Go.Value.bool !decide (a = b))) h)) ∧
 (∀ (K : V → H → Prop) (h : H) (k : Go.IntKind) (a : Int) (k' : Go.IntKind) (b : Int), intB K h k a k' b Go.BinOp.lss = (k = k' ∧ K (V.s (Go.Value.bool (decide (a < b)))) h))) ∧
 ((∀ (K : V → H → Prop) (h : H) (k : Go.IntKind) (a : Int) (k' : Go.IntKind) (b : Int), intB K h k a k' b Go.BinOp.leq = (k = k' ∧ K (V.s (Go.Value.bool (decide (a ≤ b)))) h)) ∧
 (∀ (K : V → H → Prop) (h : H) (k : Go.IntKind) (a : Int) (k' : Go.IntKind) (b : Int), intB K h k a k' b Go.BinOp.gtr = (k = k' ∧ K (V.s (Go.Value.bool (decide (b < a)))) h)))) ∧
 (((∀ (K : V → H → Prop) (h : H) (k : Go.IntKind) (a : Int) (k' : Go.IntKind) (b : Int), intB K h k a k' b Go.BinOp.geq = (k = k' ∧ K (V.s (Go.Value.bool (decide (b ≤ a)))) h)) ∧
 (∀ (K : V → H → Prop) (h : H) (a b : ByteArray), strB K h a b Go.BinOp.add = (a.size + b.size ≤ LIM ∧ K (V.s (Go.Value.string (a ++ b))) h))) ∧
 ((∀ (K : V → H → Prop) (h : H) (a b : ByteArray), strB K h a b Go.BinOp.eql = K (V.s (Go.Value.bool (decide (a = b)))) h) ∧
 (∀ (K : V → H → Prop) (h : H) (a b : ByteArray), strB K h a b Go.BinOp.neq = K (V.s (Go.Value.bool !decide (a = b))) h)))))) ∧
 (((((∀ (K : V → H → Prop) (h : H) (a b : ByteArray), strB K h a b Go.BinOp.lss = K (V.s (Go.Value.bool (Go.Op.bytesLess a.toList b.toList))) h) ∧
 ((∀ (K : V → H → Prop) (h : H) (a b : ByteArray), strB K h a b Go.BinOp.leq = K (V.s (Go.Value.bool (Go.Op.bytesLess a.toList b.toList || decide (a = b)))) h) ∧
 (∀ (K : V → H → Prop) (h : H) (a b : ByteArray), strB K h a b Go.BinOp.gtr = K (V.s (Go.Value.bool !(Go.Op.bytesLess a.toList b.toList || decide (a = b)))) h))) ∧
 (((∀ (K : V → H → Prop) (h : H) (a b : ByteArray), strB K h a b Go.BinOp.geq = K (V.s (Go.Value.bool !Go.Op.bytesLess a.toList b.toList)) h) ∧
 (∀ (K : V → H → Prop) (h : H) (a b : Bool), boolB K h a b Go.BinOp.eql = K (V.s (Go.Value.bool (a == b))) h)) ∧
 ((∀ (K : V → H → Prop) (h : H) (a b : Bool), boolB K h a b Go.BinOp.neq = K (V.s (Go.Value.bool (a != b))) h) ∧
 (∀ (K : V → H → Prop) (h : H) (len : Nat), nilB K h len Go.BinOp.eql = ∀ (r : Bool), (0 < len → r = false) → K (V.s (Go.Value.bool r)) h)))) ∧
 ((((∀ (K : V → H → Prop) (h : H) (len : Nat), nilB K h len Go.BinOp.neq = ∀ (r : Bool), (0 < len → r = true) → K (V.s (Go.Value.bool r)) h) ∧
 (isT TK.bool TK.bool = True)) ∧
 ((∀ (e e_1 : Go.TypeId), isT (TK.slice e) (TK.slice e_1) = True) ∧
 (isT TK.ptr TK.ptr = True))) ∧
 (((isT TK.iface TK.iface = True) ∧
 (isT TK.string TK.string = True)) ∧
 ((∀ (K : V → H → Prop) (h : H) (r : Bool), eqB K h r Go.BinOp.eql = K (V.s (Go.Value.bool r)) h) ∧
 (∀ (K : V → H → Prop) (h : H) (r : Bool), eqB K h r Go.BinOp.neq = K (V.s (Go.Value.bool !r)) h))))) ∧
 ((((∀ (len cap : Nat), isNil (Go.Operand.const (Go.Value.slice none len cap)) = NK.slice) ∧
 ((isNil (Go.Operand.const Go.Value.nilIface) = NK.iface) ∧
 (∀ (C : Cx) (K : V → H → Prop) (h : H) (t : Go.TypeId) (op : Go.BinOp) (b off len cap : Nat), nilC C K h t op (V.sl b off len cap) = (isT (tK C.P t) (TK.slice 0) ∧ nilB K h len op)))) ∧
 (((∀ (C : Cx) (K : V → H → Prop) (h : H) (t : Go.TypeId) (op : Go.BinOp) (n : Nat) (els : List (List V)), nilC C K h t op (V.f n els) = (isT (tK C.P t) (TK.slice 0) ∧ nilB K h els.length op)) ∧
 (∀ (C : Cx) (K : V → H → Prop) (h : H) (t : Go.TypeId) (op : Go.BinOp), nilC C K h t op V.z = (isT (tK C.P t) (TK.slice 0) ∧ nilB K h 0 op))) ∧
 ((∀ (C : Cx) (K : V → H → Prop) (h : H) (t : Go.TypeId) (op : Go.BinOp), nilI C K h t op (V.s Go.Value.nilIface) = (isT (tK C.P t) TK.iface ∧ eqB K h true op)) ∧
 (∀ (C : Cx) (K : V → H → Prop) (h : H) (t : Go.TypeId) (op : Go.BinOp) (t_1 : Go.TypeId) (v : Go.Value), nilI C K h t op (V.s (Go.Value.iface t_1 v)) = (isT (tK C.P t) TK.iface ∧ eqB K h false op))))) ∧
 ((((eqCells [] [] = some true) ∧
 (∀ (K : V → H → Prop) (h : H) (op : Go.BinOp) (r : Bool), eqA K h op (some r) = eqB K h r op)) ∧
 ((∀ (K : V → H → Prop) (h : H) (op : Go.BinOp), eqA K h op none = False) ∧
 (∀ (k : Go.IntKind), scalarK (TK.int k) = true))) ∧
 (((scalarK TK.string = true) ∧
 (scalarK TK.bool = true)) ∧
 ((kindsOk [] [] = true) ∧
 (∀ (k : Go.IntKind) (ts : List TK) (k' : Go.IntKind) (n : Int) (xs : List V), kindsOk (TK.int k :: ts) (V.s (Go.Value.int k' n) :: xs) = (decide (k = k') && kindsOk ts xs)))))))) :=
 ⟨⟨⟨⟨⟨@ldC.eq_1,
 ⟨@ldC.eq_2,
 @ldF.eq_1⟩⟩,
 ⟨⟨@ldF.eq_2,
 @ldK.eq_1⟩,
 ⟨@ldK.eq_2,
 @fitsB.eq_1⟩⟩⟩,
 ⟨⟨⟨@fitsB.eq_2,
 @stA.eq_1⟩,
 ⟨@stA.eq_2,
 @stK.eq_1⟩⟩,
 ⟨⟨@nilK.eq_1,
 @nilK.eq_2⟩,
 ⟨@nilK.eq_3,
 @nilK.eq_4⟩⟩⟩⟩,
 ⟨⟨⟨@intB.eq_1,
 ⟨@intB.eq_2,
 @intB.eq_3⟩⟩,
 ⟨⟨@intB.eq_4,
 @intB.eq_5⟩,
 ⟨@intB.eq_6,
 @intB.eq_7⟩⟩⟩,
 ⟨⟨⟨@intB.eq_8,
 @intB.eq_9⟩,
 ⟨@intB.eq_10,
 @intB.eq_11⟩⟩,
 ⟨⟨@intB.eq_12,
 @strB.eq_1⟩,
 ⟨@strB.eq_2,
 @strB.eq_3⟩⟩⟩⟩⟩,
 ⟨⟨⟨⟨@strB.eq_4,
 ⟨@strB.eq_5,
 @strB.eq_6⟩⟩,
 ⟨⟨@strB.eq_7,
 @boolB.eq_1⟩,
 ⟨@boolB.eq_2,
 @nilB.eq_1⟩⟩⟩,
 ⟨⟨⟨@nilB.eq_2,
 @isT.eq_1⟩,
 ⟨@isT.eq_2,
 @isT.eq_3⟩⟩,
 ⟨⟨@isT.eq_4,
 @isT.eq_5⟩,
 ⟨@eqB.eq_1,
 @eqB.eq_2⟩⟩⟩⟩,
 ⟨⟨⟨@isNil.eq_1,
 ⟨@isNil.eq_2,
 @nilC.eq_1⟩⟩,
 ⟨⟨@nilC.eq_2,
 @nilC.eq_3⟩,
 ⟨@nilI.eq_1,
 @nilI.eq_2⟩⟩⟩,
 ⟨⟨⟨@eqCells.eq_1,
 @eqA.eq_1⟩,
 ⟨@eqA.eq_2,
 @scalarK.eq_1⟩⟩,
 ⟨⟨@scalarK.eq_2,
 @scalarK.eq_3⟩,
 ⟨@kindsOk.eq_1,
 @kindsOk.eq_2⟩⟩⟩⟩⟩⟩
theorem wb3 :
 ((((((∀ (ts : List TK) (s : ByteArray) (xs : List V), kindsOk (TK.string :: ts) (V.s (Go.Value.string s) :: xs) = kindsOk ts xs) ∧
 ((∀ (ts : List TK) (b : Bool) (xs : List V), kindsOk (TK.bool :: ts) (V.s (Go.Value.bool b) :: xs) = kindsOk ts xs) ∧
 (∀ (C : Cx) (K : V → H → Prop) (h : H) (t : Go.TypeId) (op : Go.BinOp) (k : Go.IntKind) (a : Int) (k' : Go.IntKind) (b : Int), binK C K h t op (V.s (Go.Value.int k a)) (V.s (Go.Value.int k' b)) = intB K h k a k' b op))) ∧
 (((∀ (C : Cx) (K : V → H → Prop) (h : H) (t : Go.TypeId) (op : Go.BinOp) (a b : ByteArray), binK C K h t op (V.s (Go.Value.string a)) (V.s (Go.Value.string b)) = strB K h a b op) ∧
 (∀ (C : Cx) (K : V → H → Prop) (h : H) (t : Go.TypeId) (op : Go.BinOp) (a b : Bool), binK C K h t op (V.s (Go.Value.bool a)) (V.s (Go.Value.bool b)) = (isT (tK C.P t) TK.bool ∧ boolB K h a b op))) ∧
 ((∀ (C : Cx) (K : V → H → Prop) (h : H) (t : Go.TypeId) (op : Go.BinOp) (b i o : Nat), binK C K h t op (V.ptr b i o) (V.s (Go.Value.pointer none)) = (isT (tK C.P t) TK.ptr ∧ eqB K h false op)) ∧
 (∀ (C : Cx) (K : V → H → Prop) (h : H) (t : Go.TypeId) (op : Go.BinOp) (cs : List V), binK C K h t op (V.pd cs) (V.s (Go.Value.pointer none)) = (isT (tK C.P t) TK.ptr ∧ eqB K h false op))))) ∧
 ((((∀ (C : Cx) (K : V → H → Prop) (h : H) (t : Go.TypeId) (op : Go.BinOp), binK C K h t op (V.s (Go.Value.pointer none)) (V.s (Go.Value.pointer none)) = (isT (tK C.P t) TK.ptr ∧ eqB K h true op)) ∧
 (∀ (C : Cx) (K : V → H → Prop) (h : H) (t : Go.TypeId) (op : Go.BinOp) (xs ys : List V), binK C K h t op (V.agg xs) (V.agg ys) = ((eqStruct C.P t = true ∧ kindsOk (fieldTK C.P t) xs = true ∧ kindsOk (fieldTK C.P t) ys = true) ∧ eqA K h op (eqCells xs ys)))) ∧
 ((∀ (C : Cx) (K : V → H → Prop) (h : H) (t : Go.TypeId) (op : Go.BinOp) (x y : V), binR C K h t op x y NK.no = binK C K h t op x y) ∧
 (∀ (C : Cx) (K : V → H → Prop) (h : H) (t : Go.TypeId) (op : Go.BinOp) (x y : V), binR C K h t op x y NK.slice = nilC C K h t op x))) ∧
 (((∀ (C : Cx) (K : V → H → Prop) (h : H) (t : Go.TypeId) (op : Go.BinOp) (x y : V), binR C K h t op x y NK.iface = nilI C K h t op x) ∧
 (∀ (K : V → H → Prop) (h : H) (b : Bool), unK K h Go.UnOp.not (V.s (Go.Value.bool b)) = K (V.s (Go.Value.bool !b)) h)) ∧
 ((∀ (K : V → H → Prop) (h : H) (k : Go.IntKind) (n : Int), unK K h Go.UnOp.neg (V.s (Go.Value.int k n)) = K (V.s (Go.Value.int k (k.wrap (0 - n)))) h) ∧
 (∀ (n : Int), byteOf [V.s (Go.Value.int Go.IntKind.u8 n)] = some (UInt8.ofNat n.toNat)))))) ∧
 ((((bytesOf [] = some []) ∧
 ((bytesIn [] = True) ∧
 (∀ (n : Int) (r : List (List V)), bytesIn ([V.s (Go.Value.int Go.IntKind.u8 n)] :: r) = ((0 ≤ n ∧ n < 256) ∧ bytesIn r)))) ∧
 (((∀ (K : V → H → Prop) (h : H) (l : List UInt8), cvBytes K h (some l) = K (V.s (Go.Value.string { data := l.toArray })) h) ∧
 (∀ (K : V → H → Prop) (h : H), cvBytes K h none = False)) ∧
 ((∀ (off len : Nat) (els : List (List V)) (n cap : Nat), elsOf off len (some { els := els, n := n, cap := cap, live := true }) = if off + len ≤ els.length then some (List.take len (List.drop off els)) else none) ∧
 (∀ (K : V → H → Prop) (h : H) (els : List (List V)), cvBytes1 K h (some els) = (bytesIn els ∧ cvBytes K h (bytesOf els)))))) ∧
 ((((∀ (K : V → H → Prop) (h : H), cvBytes1 K h none = False) ∧
 (∀ (K : V → H → Prop) (h : H) (e : TK) (n : Nat) (els : List (List V)), cvSl K h e (V.f n els) = ((e = TK.int Go.IntKind.u8 ∧ n = 1 ∧ bytesIn els) ∧ cvBytes K h (bytesOf els)))) ∧
 ((∀ (K : V → H → Prop) (h : H) (e : TK), cvSl K h e V.z = (e = TK.int Go.IntKind.u8 ∧ K (V.s (Go.Value.string ByteArray.empty)) h)) ∧
 (∀ (K : V → H → Prop) (h : H) (e : TK) (b off len cap : Nat), cvSl K h e (V.sl b off len cap) = ((e = TK.int Go.IntKind.u8 ∧ strideB h[b]? = some 1) ∧ cvBytes1 K h (elsOf off len h[b]?))))) ∧
 (((∀ (C : Cx) (K : V → H → Prop) (h : H) (k k_1 k_2 : Go.IntKind) (n : Int), cvK C K h (TK.int k) (TK.int k_1) (V.s (Go.Value.int k_2 n)) = K (V.s (Go.Value.int k_1 (k_1.wrap n))) h) ∧
 (∀ (C : Cx) (K : V → H → Prop) (h : H) (s : ByteArray), cvK C K h TK.string TK.string (V.s (Go.Value.string s)) = K (V.s (Go.Value.string s)) h)) ∧
 ((∀ (C : Cx) (K : V → H → Prop) (h : H) (x : V) (e : Go.TypeId), cvK C K h (TK.slice e) TK.string x = cvSl K h (tK C.P e) x) ∧
 (∀ (K : V → H → Prop) (h : H) (l c : Int) (n : Nat) (z : List V) (by_ : Nat), mkK2 K h l c (some n) (some z) (some by_) = ((0 ≤ l ∧ l ≤ c ∧ ↑by_ * c ≤ 140737488355328 ∧ c ≤ 4611686018427387904 ∧ z.length = n) ∧ K (V.sl (List.length h) 0 l.toNat c.toNat) (h ++ [{ els := List.replicate c.toNat z, n := n, cap := c.toNat, live := true }])))))))) ∧
 (((((∀ (C : Cx) (K : V → H → Prop) (h : H) (k : Go.IntKind) (l : Int) (k_1 : Go.IntKind) (c : Int) (e_1 : Go.TypeId), mkK C K h (some e_1) (V.s (Go.Value.int k l)) (V.s (Go.Value.int k_1 c)) = mkK2 K h l c (tSz C.P e_1) (tZ C.P e_1) (tBytes C.P e_1)) ∧
 ((∀ (C : Cx) (K : V → H → Prop) (h : H) (k : Go.IntKind) (l : Int) (k_1 : Go.IntKind) (c : Int), mkK C K h none (V.s (Go.Value.int k l)) (V.s (Go.Value.int k_1 c)) = False) ∧
 (∀ (k : Go.IntKind) (n : Int), intOfV (V.s (Go.Value.int k n)) = some n))) ∧
 (((∀ (v : V), oI (some v) = intOfV v) ∧
 (oI none = none)) ∧
 ((∀ (K : V → H → Prop) (h : H) (val : Nat), cutE K h (some val) = K (V.f val []) h) ∧
 (∀ (K : V → H → Prop) (h : H), cutE K h none = False)))) ∧
 ((((∀ (K : V → H → Prop) (h : H) (b off cap : Nat) (n : Option Nat) (l r : Nat), cutO K h b off cap n l r true = K (V.sl b (off + l) (r - l) (cap - l)) h) ∧
 (∀ (K : V → H → Prop) (h : H) (b off cap : Nat) (n : Option Nat) (l r : Nat), cutO K h b off cap n l r false = cutE K h n)) ∧
 ((∀ (C : Cx) (K : V → H → Prop) (h : H) (s : ByteArray), slK C K h TK.string none none none (V.s (Go.Value.string s)) = K (V.s (Go.Value.string s)) h) ∧
 (∀ (C : Cx) (K : V → H → Prop) (h : H) (s : ByteArray) (k : Go.IntKind) (l : Int), slK C K h TK.string (some (V.s (Go.Value.int k l))) none none (V.s (Go.Value.string s)) = cutS K h s l ↑s.size))) ∧
 (((∀ (C : Cx) (K : V → H → Prop) (h : H) (s : ByteArray) (k : Go.IntKind) (r : Int), slK C K h TK.string none (some (V.s (Go.Value.int k r))) none (V.s (Go.Value.string s)) = cutS K h s 0 r) ∧
 (∀ (C : Cx) (K : V → H → Prop) (h : H) (s : ByteArray) (k : Go.IntKind) (l : Int) (k_1 : Go.IntKind) (r : Int), slK C K h TK.string (some (V.s (Go.Value.int k l))) (some (V.s (Go.Value.int k_1 r))) none (V.s (Go.Value.string s)) = cutS K h s l r)) ∧
 ((∀ (C : Cx) (K : V → H → Prop) (h : H) (n : Nat) (els : List (List V)) (e : Go.TypeId), slK C K h (TK.slice e) none none none (V.f n els) = (tSz C.P e = some n ∧ K (V.f n els) h)) ∧
 (∀ (C : Cx) (K : V → H → Prop) (h : H) (n : Nat) (els : List (List V)) (e : Go.TypeId) (k : Go.IntKind) (l : Int), slK C K h (TK.slice e) (some (V.s (Go.Value.int k l))) none none (V.f n els) = (tSz C.P e = some n ∧ cutF K h n els l ↑els.length)))))) ∧
 ((((∀ (C : Cx) (K : V → H → Prop) (h : H) (n : Nat) (els : List (List V)) (e : Go.TypeId) (k : Go.IntKind) (r : Int), slK C K h (TK.slice e) none (some (V.s (Go.Value.int k r))) none (V.f n els) = (tSz C.P e = some n ∧ cutF K h n els 0 r)) ∧
 ((∀ (C : Cx) (K : V → H → Prop) (h : H) (n : Nat) (els : List (List V)) (e : Go.TypeId) (k : Go.IntKind) (l : Int) (k_1 : Go.IntKind) (r : Int), slK C K h (TK.slice e) (some (V.s (Go.Value.int k l))) (some (V.s (Go.Value.int k_1 r))) none (V.f n els) = (tSz C.P e = some n ∧ cutF K h n els l r)) ∧
 (∀ (C : Cx) (K : V → H → Prop) (h : H) (n : Nat) (els : List (List V)) (e : Go.TypeId) (k : Go.IntKind) (r : Int) (k_1 : Go.IntKind) (m : Int), slK C K h (TK.slice e) none (some (V.s (Go.Value.int k r))) (some (V.s (Go.Value.int k_1 m))) (V.f n els) = ((tSz C.P e = some n ∧ r = 0 ∧ m = 0) ∧ K V.z h)))) ∧
 (((∀ (C : Cx) (K : V → H → Prop) (h : H) (e : Go.TypeId), slK C K h (TK.slice e) none none none V.z = (isN (tSz C.P e) ∧ K V.z h)) ∧
 (∀ (C : Cx) (K : V → H → Prop) (h : H) (e : Go.TypeId) (k : Go.IntKind) (l : Int), slK C K h (TK.slice e) (some (V.s (Go.Value.int k l))) none none V.z = ((isN (tSz C.P e) ∧ l = 0) ∧ K V.z h))) ∧
 ((∀ (C : Cx) (K : V → H → Prop) (h : H) (e : Go.TypeId) (k : Go.IntKind) (r : Int), slK C K h (TK.slice e) none (some (V.s (Go.Value.int k r))) none V.z = ((isN (tSz C.P e) ∧ r = 0) ∧ K V.z h)) ∧
 (∀ (C : Cx) (K : V → H → Prop) (h : H) (e : Go.TypeId) (k : Go.IntKind) (l : Int) (k_1 : Go.IntKind) (r : Int), slK C K h (TK.slice e) (some (V.s (Go.Value.int k l))) (some (V.s (Go.Value.int k_1 r))) none V.z = ((isN (tSz C.P e) ∧ l = 0 ∧ r = 0) ∧ K V.z h))))) ∧
 ((((∀ (C : Cx) (K : V → H → Prop) (h : H) (e : Go.TypeId) (k : Go.IntKind) (r : Int) (k_1 : Go.IntKind) (m : Int), slK C K h (TK.slice e) none (some (V.s (Go.Value.int k r))) (some (V.s (Go.Value.int k_1 m))) V.z = ((isN (tSz C.P e) ∧ r = 0 ∧ m = 0) ∧ K V.z h)) ∧
 (∀ (C : Cx) (K : V → H → Prop) (h : H) (b off len cap : Nat) (e : Go.TypeId), slK C K h (TK.slice e) none none none (V.sl b off len cap) = (sameN (strideB h[b]?) (tSz C.P e) ∧ K (V.sl b off len cap) h))) ∧
 ((∀ (C : Cx) (K : V → H → Prop) (h : H) (b off len cap : Nat) (e : Go.TypeId) (k : Go.IntKind) (l : Int), slK C K h (TK.slice e) (some (V.s (Go.Value.int k l))) none none (V.sl b off len cap) = ((sameN (strideB h[b]?) (tSz C.P e) ∧ 0 ≤ l ∧ l ≤ ↑len ∧ len ≤ cap) ∧ cutO K h b off cap (tSz C.P e) l.toNat len (decide (l < ↑len)))) ∧
 (∀ (C : Cx) (K : V → H → Prop) (h : H) (b off len cap : Nat) (e : Go.TypeId) (k : Go.IntKind) (r : Int), slK C K h (TK.slice e) none (some (V.s (Go.Value.int k r))) none (V.sl b off len cap) = (sameN (strideB h[b]?) (tSz C.P e) ∧ (0 ≤ r ∧ r ≤ ↑cap) ∧ K (V.sl b off r.toNat cap) h)))) ∧
 (((∀ (C : Cx) (K : V → H → Prop) (h : H) (b off len cap : Nat) (e : Go.TypeId) (k : Go.IntKind) (l : Int) (k_1 : Go.IntKind) (r : Int), slK C K h (TK.slice e) (some (V.s (Go.Value.int k l))) (some (V.s (Go.Value.int k_1 r))) none (V.sl b off len cap) = ((sameN (strideB h[b]?) (tSz C.P e) ∧ 0 ≤ l ∧ l ≤ r ∧ r ≤ ↑cap) ∧ cutO K h b off cap (tSz C.P e) l.toNat r.toNat (decide (l < r)))) ∧
 (∀ (C : Cx) (K : V → H → Prop) (h : H) (b off len cap : Nat) (e : Go.TypeId) (k : Go.IntKind) (r : Int) (k_1 : Go.IntKind) (m : Int), slK C K h (TK.slice e) none (some (V.s (Go.Value.int k r))) (some (V.s (Go.Value.int k_1 m))) (V.sl b off len cap) = ((sameN (strideB h[b]?) (tSz C.P e) ∧ r = 0 ∧ m = 0) ∧ K V.z h))) ∧
 ((∀ (K : V → H → Prop) (h : H) (cs : List V) (fo n : Nat), fdA K h cs fo (some true) (some n) = (fo + n ≤ cs.length ∧ K (V.agg (List.take n (List.drop fo cs))) h)) ∧
 (∀ (K : V → H → Prop) (h : H) (cs : List V) (fo : Nat) (x : Option Nat), fdA K h cs fo (some false) x = ldC K h cs[fo]?))))))) :=
 ⟨⟨⟨⟨⟨@kindsOk.eq_3,
 ⟨@kindsOk.eq_4,
 @binK.eq_1⟩⟩,
 ⟨⟨@binK.eq_2,
 @binK.eq_3⟩,
 ⟨@binK.eq_4,
 @binK.eq_5⟩⟩⟩,
 ⟨⟨⟨@binK.eq_6,
 @binK.eq_7⟩,
 ⟨@binR.eq_1,
 @binR.eq_2⟩⟩,
 ⟨⟨@binR.eq_3,
 @unK.eq_1⟩,
 ⟨@unK.eq_2,
 @byteOf.eq_1⟩⟩⟩⟩,
 ⟨⟨⟨@bytesOf.eq_1,
 ⟨@bytesIn.eq_1,
 @bytesIn.eq_2⟩⟩,
 ⟨⟨@cvBytes.eq_1,
 @cvBytes.eq_2⟩,
 ⟨@elsOf.eq_1,
 @cvBytes1.eq_1⟩⟩⟩,
 ⟨⟨⟨@cvBytes1.eq_2,
 @cvSl.eq_1⟩,
 ⟨@cvSl.eq_2,
 @cvSl.eq_3⟩⟩,
 ⟨⟨@cvK.eq_1,
 @cvK.eq_2⟩,
 ⟨@cvK.eq_3,
 @mkK2.eq_1⟩⟩⟩⟩⟩,
 ⟨⟨⟨⟨@mkK.eq_1,
 ⟨@mkK.eq_2,
 @intOfV.eq_1⟩⟩,
 ⟨⟨@oI.eq_1,
 @oI.eq_2⟩,
 ⟨@cutE.eq_1,
 @cutE.eq_2⟩⟩⟩,
 ⟨⟨⟨@cutO.eq_1,
 @cutO.eq_2⟩,
 ⟨@slK.eq_1,
 @slK.eq_2⟩⟩,
 ⟨⟨@slK.eq_3,
 @slK.eq_4⟩,
 ⟨@slK.eq_6,
 @slK.eq_7⟩⟩⟩⟩,
 ⟨⟨⟨@slK.eq_8,
 ⟨@slK.eq_9,
 @slK.eq_10⟩⟩,
 ⟨⟨@slK.eq_12,
 @slK.eq_13⟩,
 ⟨@slK.eq_14,
 @slK.eq_15⟩⟩⟩,
 ⟨⟨⟨@slK.eq_16,
 @slK.eq_18⟩,
 ⟨@slK.eq_19,
 @slK.eq_20⟩⟩,
 ⟨⟨@slK.eq_21,
 @slK.eq_22⟩,
 ⟨@fdA.eq_1,
 @fdA.eq_2⟩⟩⟩⟩⟩⟩
theorem wb4 :
 ((((((∀ (C : Cx) (K : V → H → Prop) (h : H) (fo : Nat) (ft : Go.TypeId) (cs : List V), fdK C K h (some (fo, ft)) (V.agg cs) = fdA K h cs fo (tAgg C.P ft) (tSz C.P ft)) ∧
 ((∀ (K : V → H → Prop) (h : H) (xs : List V), iaF K h (some xs) = K (V.pd xs) h) ∧
 (∀ (K : V → H → Prop) (h : H), iaF K h none = False))) ∧
 (((∀ (C : Cx) (K : V → H → Prop) (h : H) (i : Int) (b off len cap : Nat) (e_1 : Go.TypeId), iaK C K h (some e_1) i (V.sl b off len cap) = ((sameN (strideB h[b]?) (tSz C.P e_1) ∧ 0 ≤ i ∧ i < ↑len) ∧ K (V.ptr b (off + i.toNat) 0) h)) ∧
 (∀ (C : Cx) (K : V → H → Prop) (h : H) (i : Int) (b off len cap : Nat), iaK C K h none i (V.sl b off len cap) = False)) ∧
 ((∀ (C : Cx) (K : V → H → Prop) (h : H) (i : Int) (n : Nat) (els : List (List V)) (e_1 : Go.TypeId), iaK C K h (some e_1) i (V.f n els) = ((tSz C.P e_1 = some n ∧ 0 ≤ i) ∧ iaF K h els[i.toNat]?)) ∧
 (∀ (C : Cx) (K : V → H → Prop) (h : H) (i : Int) (n : Nat) (els : List (List V)), iaK C K h none i (V.f n els) = False)))) ∧
 ((((∀ (C : Cx) (K : V → H → Prop) (h : H) (e : Option Go.TypeId) (x : V) (k : Go.IntKind) (n : Int), iaI C K h e x (V.s (Go.Value.int k n)) = iaK C K h e n x) ∧
 (∀ (K : V → H → Prop) (h : H) (i : Int) (c : UInt8), ixC K h i (some c) = (0 ≤ i ∧ K (V.s (Go.Value.int Go.IntKind.u8 ↑c.toNat)) h))) ∧
 ((∀ (K : V → H → Prop) (h : H) (i : Int), ixC K h i none = False) ∧
 (∀ (K : V → H → Prop) (h : H) (t : TK) (s : ByteArray) (k : Go.IntKind) (i : Int), ixK K h t (V.s (Go.Value.string s)) (V.s (Go.Value.int k i)) = (isT t TK.string ∧ ixC K h i s[i.toNat]?)))) ∧
 (((∀ (K : V → H → Prop) (h : H) (i : Nat) (vs : List V), exK K h i (V.tup vs) = ldC K h vs[i]?) ∧
 (scal [] = some [])) ∧
 ((∀ (K : V → H → Prop) (h : H) (t : Go.TypeId) (l : List Go.Value), miA K h t (some l) = K (V.s (Go.Value.iface t (Go.Value.agg l.toArray))) h) ∧
 (∀ (K : V → H → Prop) (h : H) (t : Go.TypeId), miA K h t none = False))))) ∧
 ((((∀ (C : Cx) (K : V → H → Prop) (h : H) (t : Go.TypeId) (v : Go.Value), miK C K h t (V.s v) = (C.P.concrete t = true ∧ K (V.s (Go.Value.iface t v)) h)) ∧
 ((∀ (C : Cx) (K : V → H → Prop) (h : H) (t : Go.TypeId) (cs : List V), miK C K h t (V.agg cs) = (C.P.concrete t = true ∧ miA K h t (scal cs))) ∧
 (∀ (b i o : Nat), capOk (V.ptr b i o) = true))) ∧
 (((∀ (cs : List V), capOk (V.pd cs) = true) ∧
 (∀ (K : V → H → Prop) (h : H) (caps : List V) (f : Go.FuncId), mfK K h (Go.Fn.func f) [] caps = (caps.all capOk = true ∧ K (V.fn f caps) h))) ∧
 ((∀ (C : Cx) (τ : Tau) (h : H) (K : V → H → Prop) (x : Go.Operand), opW C τ h (Go.Op.move x) K = K (ev C τ x) h) ∧
 (∀ (C : Cx) (τ : Tau) (h : H) (K : V → H → Prop) (x : Go.Operand), opW C τ h (Go.Op.assign x) K = K (ev C τ x) h)))) ∧
 ((((∀ (C : Cx) (τ : Tau) (h : H) (K : V → H → Prop) (c a b : Go.Operand), opW C τ h (Go.Op.pick c a b) K = pickK K h (ev C τ a) (ev C τ b) (ev C τ c)) ∧
 (∀ (C : Cx) (τ : Tau) (h : H) (K : V → H → Prop) (e : Go.TypeId), opW C τ h (Go.Op.alloc e) K = allocK K h (tZ C.P e))) ∧
 ((∀ (C : Cx) (τ : Tau) (h : H) (K : V → H → Prop) (elem : Go.TypeId) (x : Go.Operand), opW C τ h (Go.Op.box elem x) K = boxK K h (cellsOf (ev C τ x))) ∧
 (∀ (C : Cx) (τ : Tau) (h : H) (K : V → H → Prop) (t : Go.TypeId) (parts : Array (Nat × Go.Operand)), opW C τ h (Go.Op.build t parts) K = buildK K h (fldPlace C.P t) (partsV C τ parts.toList) (bldOk C.P t) (tZ C.P t)))) ∧
 (((∀ (C : Cx) (τ : Tau) (h : H) (K : V → H → Prop) (t : Go.TypeId) (len : Nat) (parts : Array (Nat × Go.Operand)), opW C τ h (Go.Op.buildSlice t len parts) K = bsK C K h len (partsV C τ parts.toList) (tElem C.P t)) ∧
 (∀ (C : Cx) (τ : Tau) (h : H) (K : V → H → Prop) (t : Go.TypeId) (a : Go.Operand), opW C τ h (Go.Op.load t a) K = ldK C K h t (ev C τ a))) ∧
 ((∀ (C : Cx) (τ : Tau) (h : H) (K : V → H → Prop) (t : Go.TypeId) (a x : Go.Operand), opW C τ h (Go.Op.store t a x) K = stK C K h t (ev C τ x) (ev C τ a)) ∧
 (∀ (C : Cx) (τ : Tau) (h : H) (K : V → H → Prop) (x : Go.Operand), opW C τ h (Go.Op.nilCheck x) K = nilK K h (ev C τ x))))))) ∧
 (((((∀ (C : Cx) (τ : Tau) (h : H) (K : V → H → Prop) (op : Go.BinOp) (t : Go.TypeId) (x y : Go.Operand) (yType : Go.TypeId), opW C τ h (Go.Op.binOp op t x y yType) K = binR C K h t op (ev C τ x) (ev C τ y) (isNil y)) ∧
 ((∀ (C : Cx) (τ : Tau) (h : H) (K : V → H → Prop) (op : Go.UnOp) (xType : Go.TypeId) (x : Go.Operand), opW C τ h (Go.Op.unOp op xType x) K = unK K h op (ev C τ x)) ∧
 (∀ (C : Cx) (τ : Tau) (h : H) (K : V → H → Prop) (src dst : Go.TypeId) (x : Go.Operand), opW C τ h (Go.Op.convert src dst x) K = cvK C K h (tK C.P src) (tK C.P dst) (ev C τ x)))) ∧
 (((∀ (C : Cx) (τ : Tau) (h : H) (K : V → H → Prop) (t : Go.TypeId) (l c : Go.Operand), opW C τ h (Go.Op.makeSlice t l c) K = mkK C K h (tElem C.P t) (ev C τ l) (ev C τ c)) ∧
 (∀ (C : Cx) (τ : Tau) (h : H) (K : V → H → Prop) (t : Go.TypeId) (x : Go.Operand) (lo hi mx : Option Go.Operand), opW C τ h (Go.Op.slice t x lo hi mx) K = slK C K h (tK C.P t) (Option.map (ev C τ) lo) (Option.map (ev C τ) hi) (Option.map (ev C τ) mx) (ev C τ x))) ∧
 ((∀ (C : Cx) (τ : Tau) (h : H) (K : V → H → Prop) (s : Go.TypeId) (x : Go.Operand) (f : Nat), opW C τ h (Go.Op.fieldAddr s x f) K = faK C K h (tFld C.P s f) (ev C τ x)) ∧
 (∀ (C : Cx) (τ : Tau) (h : H) (K : V → H → Prop) (s : Go.TypeId) (x : Go.Operand) (f : Nat), opW C τ h (Go.Op.field s x f) K = fdK C K h (tFld C.P s f) (ev C τ x))))) ∧
 ((((∀ (C : Cx) (τ : Tau) (h : H) (K : V → H → Prop) (t : Go.TypeId) (x i : Go.Operand), opW C τ h (Go.Op.indexAddr t x i) K = iaI C K h (tElem C.P t) (ev C τ x) (ev C τ i)) ∧
 (∀ (C : Cx) (τ : Tau) (h : H) (K : V → H → Prop) (t : Go.TypeId) (x i : Go.Operand), opW C τ h (Go.Op.index t x i) K = ixK K h (tK C.P t) (ev C τ x) (ev C τ i))) ∧
 ((∀ (C : Cx) (τ : Tau) (h : H) (K : V → H → Prop) (x : Go.Operand) (i : Nat), opW C τ h (Go.Op.extract x i) K = exK K h i (ev C τ x)) ∧
 (∀ (C : Cx) (τ : Tau) (h : H) (K : V → H → Prop) (t : Go.TypeId) (x : Go.Operand), opW C τ h (Go.Op.makeInterface t x) K = miK C K h t (ev C τ x)))) ∧
 (((∀ (C : Cx) (τ : Tau) (h : H) (K : V → H → Prop) (fn : Go.Fn) (first caps : Array Go.Operand), opW C τ h (Go.Op.makeFunc fn first caps) K = mfK K h fn first.toList (evs C τ caps.toList)) ∧
 (∀ (K : V → H → Prop) (h : H) (s : ByteArray), lenK K h TK.string (V.s (Go.Value.string s)) = (s.size ≤ LIM → K (V.s (Go.Value.int Go.IntKind.i64 ↑s.size)) h))) ∧
 ((∀ (K : V → H → Prop) (h : H) (e : Go.TypeId) (n : Nat) (els : List (List V)), lenK K h (TK.slice e) (V.f n els) = (els.length ≤ LIM → K (V.s (Go.Value.int Go.IntKind.i64 ↑els.length)) h)) ∧
 (∀ (K : V → H → Prop) (h : H) (e : Go.TypeId) (b off len cap : Nat), lenK K h (TK.slice e) (V.sl b off len cap) = K (V.s (Go.Value.int Go.IntKind.i64 ↑len)) h))))) ∧
 ((((∀ (K : V → H → Prop) (h : H) (e : Go.TypeId), lenK K h (TK.slice e) V.z = K (V.s (Go.Value.int Go.IntKind.i64 0)) h) ∧
 ((∀ (K : V → H → Prop) (h : H) (e : Go.TypeId) (n : Nat) (els : List (List V)), capK K h (TK.slice e) (V.f n els) = ∀ (c : Nat), els.length ≤ c → K (V.s (Go.Value.int Go.IntKind.i64 ↑c)) h) ∧
 (∀ (K : V → H → Prop) (h : H) (e : Go.TypeId) (b off len cap : Nat), capK K h (TK.slice e) (V.sl b off len cap) = K (V.s (Go.Value.int Go.IntKind.i64 ↑cap)) h))) ∧
 (((∀ (K : V → H → Prop) (h : H) (e : Go.TypeId), capK K h (TK.slice e) V.z = K (V.s (Go.Value.int Go.IntKind.i64 0)) h) ∧
 (∀ (K : V → H → Prop) (h : H) (k : Go.IntKind) (a : Int) (k_1 : Go.IntKind) (b : Int), minK K h (V.s (Go.Value.int k a)) (V.s (Go.Value.int k_1 b)) = K (V.s (Go.Value.int k (if b < a then b else a))) h)) ∧
 ((∀ (K : V → H → Prop) (h : H) (k : Go.IntKind) (a : Int) (k_1 : Go.IntKind) (b : Int), maxK K h (V.s (Go.Value.int k a)) (V.s (Go.Value.int k_1 b)) = K (V.s (Go.Value.int k (if a < b then b else a))) h) ∧
 (∀ (C : Cx) (K : V → H → Prop) (h : H) (x : V) (t : Go.TypeId), builtinW C K h Go.Builtin.len [x] [t] = lenK K h (tK C.P t) x)))) ∧
 ((((∀ (C : Cx) (K : V → H → Prop) (h : H) (x : V) (t : Go.TypeId), builtinW C K h Go.Builtin.cap [x] [t] = capK K h (tK C.P t) x) ∧
 (∀ (C : Cx) (K : V → H → Prop) (h : H) (ts : List Go.TypeId) (x y : V), builtinW C K h Go.Builtin.min [x, y] ts = minK K h x y)) ∧
 ((∀ (C : Cx) (K : V → H → Prop) (h : H) (ts : List Go.TypeId) (x y : V), builtinW C K h Go.Builtin.max [x, y] ts = maxK K h x y) ∧
 (∀ (h : H) (n n' : Nat) (els : List (List V)), newsOf h n (V.f n' els) = if n' = n then some els else none))) ∧
 (((∀ (h : H) (n : Nat), newsOf h n V.z = some []) ∧
 (∀ (h : H) (n b off len cap : Nat), newsOf h n (V.sl b off len cap) = if strideB h[b]? = some n then elsOf off len h[b]? else none)) ∧
 ((∀ (n cap len : Nat) (els : List (List V)) (n' cap' : Nat), blkIs n cap len (some { els := els, n := n', cap := cap', live := true }) = (n' = n ∧ cap' = cap ∧ len ≤ els.length)) ∧
 (∀ (len : Nat) (els : List (List V)), takeTo len els = if len = els.length then els else List.take len els))))))) :=
 ⟨⟨⟨⟨⟨@fdK.eq_1,
 ⟨@iaF.eq_1,
 @iaF.eq_2⟩⟩,
 ⟨⟨@iaK.eq_1,
 @iaK.eq_2⟩,
 ⟨@iaK.eq_3,
 @iaK.eq_4⟩⟩⟩,
 ⟨⟨⟨@iaI.eq_1,
 @ixC.eq_1⟩,
 ⟨@ixC.eq_2,
 @ixK.eq_1⟩⟩,
 ⟨⟨@exK.eq_1,
 @scal.eq_1⟩,
 ⟨@miA.eq_1,
 @miA.eq_2⟩⟩⟩⟩,
 ⟨⟨⟨@miK.eq_1,
 ⟨@miK.eq_2,
 @capOk.eq_1⟩⟩,
 ⟨⟨@capOk.eq_2,
 @mfK.eq_1⟩,
 ⟨@opW.eq_1,
 @opW.eq_2⟩⟩⟩,
 ⟨⟨⟨@opW.eq_3,
 @opW.eq_4⟩,
 ⟨@opW.eq_5,
 @opW.eq_6⟩⟩,
 ⟨⟨@opW.eq_7,
 @opW.eq_8⟩,
 ⟨@opW.eq_9,
 @opW.eq_10⟩⟩⟩⟩⟩,
 ⟨⟨⟨⟨@opW.eq_11,
 ⟨@opW.eq_12,
 @opW.eq_13⟩⟩,
 ⟨⟨@opW.eq_14,
 @opW.eq_15⟩,
 ⟨@opW.eq_16,
 @opW.eq_17⟩⟩⟩,
 ⟨⟨⟨@opW.eq_18,
 @opW.eq_19⟩,
 ⟨@opW.eq_20,
 @opW.eq_21⟩⟩,
 ⟨⟨@opW.eq_22,
 @lenK.eq_1⟩,
 ⟨@lenK.eq_2,
 @lenK.eq_3⟩⟩⟩⟩,
 ⟨⟨⟨@lenK.eq_4,
 ⟨@capK.eq_1,
 @capK.eq_2⟩⟩,
 ⟨⟨@capK.eq_3,
 @minK.eq_1⟩,
 ⟨@maxK.eq_1,
 @builtinW.eq_1⟩⟩⟩,
 ⟨⟨⟨@builtinW.eq_2,
 @builtinW.eq_3⟩,
 ⟨@builtinW.eq_4,
 @newsOf.eq_1⟩⟩,
 ⟨⟨@newsOf.eq_2,
 @newsOf.eq_3⟩,
 ⟨@blkIs.eq_1,
 @takeTo.eq_1⟩⟩⟩⟩⟩⟩
theorem wb5 :
 ((((((∀ (len : Nat) (els : List (List V)) (n cap : Nat) (live : Bool), keptB len (some { els := els, n := n, cap := cap, live := live }) = takeTo len els) ∧
 ((∀ (len : Nat), keptB len none = []) ∧
 (∀ (K : V → H → Prop) (h : H) (n by_ : Nat) (news : List (List V)) (b len cap : Nat), appN K h n by_ (V.sl b 0 len cap) (some news) = (leafs news = true ∧ (blkIs n cap len h[b]? ∧ (len + news.length) * by_ ≤ 140737488355328 ∧ len + news.length ≤ LIM) ∧ ∀ (cap' : Nat), len + news.length ≤ cap' → K (V.sl (List.length h) 0 (len + news.length) cap') (List.set h b Blk.dead ++ [{ els := keptB len h[b]? ++ news, n := n, cap := cap', live := true }]))))) ∧
 (((∀ (K : V → H → Prop) (h : H) (n by_ : Nat) (news : List (List V)), appN K h n by_ V.z (some news) = (leafs news = true ∧ (news.length * by_ ≤ 140737488355328 ∧ news.length ≤ LIM) ∧ ∀ (cap' : Nat), news.length ≤ cap' → K (V.sl (List.length h) 0 news.length cap') (h ++ [{ els := news, n := n, cap := cap', live := true }]))) ∧
 (∀ (K : V → H → Prop) (h : H) (n by_ : Nat) (s : V), appN K h n by_ s none = False)) ∧
 ((∀ (K : V → H → Prop) (h : H) (s x : V) (n by_ : Nat) (z : List V), appT K h s x (some n) (some by_) (some z) = (z.length = n ∧ appN K h n by_ s (newsOf h n x))) ∧
 (∀ (id : Nat), popTo id [] = none)))) ∧
 ((((∀ (id id' : Nat) (k : List It), popTo id (It.blk id' :: k) = if id = id' then some k else popTo id k) ∧
 (∀ (b : Bool), boolOf (V.s (Go.Value.bool b)) = some b)) ∧
 ((∀ (τ : Tau) (t : Nat), gW τ (some t) = boolOf (τ t)) ∧
 (∀ (τ : Tau), gW τ none = none))) ∧
 (((∀ (b : Bool) (τ : Tau) (t : Nat), gS b τ (some t) = up t (V.s (Go.Value.bool b)) τ) ∧
 (∀ (b : Bool) (τ : Tau), gS b τ none = τ)) ∧
 ((∀ (C : Cx) (N n0 : Nat) (Q : QT) (args : List V) (d : Option Nat) (items : List It) (τ : Tau) (h : H) (f : Nat) (caps : List V), callR C N n0 Q args d items τ h (V.fn f caps) = CallThen C N n0 Q f (args ++ caps) d items τ h) ∧
 (∀ (Q : QT) (τ : Tau) (h : H) (t : Go.TypeId) (v : Go.Value), panR Q τ h (V.s (Go.Value.iface t v)) = Q (XV.pan (V.s (Go.Value.iface t v))) τ h))))) ∧
 ((((∀ (C : Cx) (N n0 : Nat) (Q : QT) (d : Option Nat) (items : List It) (τ : Tau) (h : H) (s x_2 : V) (t u : Go.TypeId), copyR C N n0 Q d items τ h [s, x_2] [t, u] = CopyThen C N n0 Q s x_2 t u d items τ h) ∧
 ((∀ (C : Cx) (N n0 : Nat) (Q : QT) (d : Option Nat) (items : List It) (τ : Tau) (h : H) (s : V) (t : Go.TypeId), clearR C N n0 Q d items τ h [s] [t] = ClearThen C N n0 Q s t d items τ h) ∧
 (∀ (C : Cx) (K : V → H → Prop) (h : H) (s x_2 : V) (t u : Go.TypeId), appR C K h [s, x_2] [t, u] = appW K h C t u s x_2))) ∧
 (((∀ (C : Cx) (N n0 : Nat) (R : List It → Tau → H → Prop) (Q : QT) (d : Option Nat) (items : List It) (τ : Tau) (h : H) (xs : List V) (ts : List Go.TypeId), bltR C N n0 R Q d items τ h xs ts Go.Builtin.append = appR C (RunK R items d τ) h xs ts) ∧
 (∀ (C : Cx) (N n0 : Nat) (R : List It → Tau → H → Prop) (Q : QT) (d : Option Nat) (items : List It) (τ : Tau) (h : H) (xs : List V) (ts : List Go.TypeId), bltR C N n0 R Q d items τ h xs ts Go.Builtin.copy = copyR C N n0 Q d items τ h xs ts)) ∧
 ((∀ (C : Cx) (N n0 : Nat) (R : List It → Tau → H → Prop) (Q : QT) (d : Option Nat) (items : List It) (τ : Tau) (h : H) (xs : List V) (ts : List Go.TypeId), bltR C N n0 R Q d items τ h xs ts Go.Builtin.clear = clearR C N n0 Q d items τ h xs ts) ∧
 (∀ (C : Cx) (N n0 : Nat) (R : List It → Tau → H → Prop) (Q : QT) (items : List It) (d : Option Nat) (τ : Tau) (h : H) (b : Go.Builtin) (args : Array Go.Operand) (ts : Array Go.TypeId), opRun C N n0 R Q items d τ h (Go.Op.call { callee := Go.Callee.builtin b, args := args, argTypes := ts }) = bltR C N n0 R Q d items τ h (evs C τ args.toList) ts.toList b)))) ∧
 ((((∀ (C : Cx) (N n0 : Nat) (R : List It → Tau → H → Prop) (Q : QT) (items : List It) (d : Option Nat) (τ : Tau) (h : H) (f : Go.Operand) (args : Array Go.Operand) (argTypes : Array Go.TypeId), opRun C N n0 R Q items d τ h (Go.Op.call { callee := Go.Callee.value f, args := args, argTypes := argTypes }) = callR C N n0 Q (evs C τ args.toList) d items τ h (ev C τ f)) ∧
 (∀ (C : Cx) (N n0 : Nat) (R : List It → Tau → H → Prop) (Q : QT) (items : List It) (d : Option Nat) (τ : Tau) (h : H) (recv : Go.Operand) (method : String) (args : Array Go.Operand) (argTypes : Array Go.TypeId), opRun C N n0 R Q items d τ h (Go.Op.call { callee := Go.Callee.invoke recv method, args := args, argTypes := argTypes }) = False)) ∧
 ((∀ (C : Cx) (N n0 : Nat) (R : List It → Tau → H → Prop) (Q : QT) (items : List It) (d : Option Nat) (τ : Tau) (h : H) (x_1 : Go.Operand), opRun C N n0 R Q items d τ h (Go.Op.panic x_1) = panR Q τ h (ev C τ x_1)) ∧
 (∀ (R : List It → Tau → H → Prop) (Q : QT) (id : Nat) (τ : Tau) (h : H) (k' : List It), exitK R Q id τ h (some k') = R k' τ h))) ∧
 (((∀ (R : List It → Tau → H → Prop) (Q : QT) (id : Nat) (τ : Tau) (h : H), exitK R Q id τ h none = Q (XV.exit id) τ h) ∧
 (∀ (R : List It → Tau → H → Prop) (x y : Go.Code) (k : List It) (τ : Tau) (h : H) (b : Bool), condR R x y k τ h (V.s (Go.Value.bool b)) = bcase b (R (It.code x :: k) τ h) (R (It.code y :: k) τ h))) ∧
 ((∀ (R : List It → Tau → H → Prop) (all os : List Go.Oper) (k : List It) (d : Option Nat) (o : Go.Oper) (j : Nat) (τ : Tau) (h : H) (b : Bool), guardR R all os k d o j τ h true (some b) = bcase b (R (It.ops all (o :: os) :: k) (gSet all j true τ) h) (R (It.ops all os :: k) (upo d V.any (gSet all j false τ)) h)) ∧
 (∀ (R : List It → Tau → H → Prop) (all os : List Go.Oper) (k : List It) (d : Option Nat) (o : Go.Oper) (j : Nat) (τ : Tau) (h : H) (b : Bool), guardR R all os k d o j τ h false (some b) = bcase b (R (It.ops all os :: k) (upo d V.any (gSet all j true τ)) h) (R (It.ops all (o :: os) :: k) (gSet all j false τ) h))))))) ∧
 (((((∀ (R : List It → Tau → H → Prop) (all os : List Go.Oper) (k : List It) (d : Option Nat) (o : Go.Oper) (j : Nat) (τ : Tau) (h : H) (x : Bool), guardR R all os k d o j τ h x none = False) ∧
 ((∀ (C : Cx) (N n0 : Nat) (x : QT) (x_1 : List It) (x_2 : Tau) (x_3 : H), Run C N n0 0 x x_1 x_2 x_3 = False) ∧
 (∀ (C : Cx) (N n0 : Nat) (x : QT) (x_1 : Tau) (x_2 : H) (n : Nat), Run C N n0 n.succ x [] x_1 x_2 = x XV.normal x_1 x_2))) ∧
 (((∀ (C : Cx) (N n0 : Nat) (x : QT) (x_1 : Tau) (x_2 : H) (n : Nat) (k : List It), Run C N n0 n.succ x (It.code Go.Code.skip :: k) x_1 x_2 = Run C N n0 n x k x_1 x_2) ∧
 (∀ (C : Cx) (N n0 : Nat) (x : QT) (x_1 : Tau) (x_2 : H) (n l : Nat) (k : List It), Run C N n0 n.succ x (It.code (Go.Code.label l) :: k) x_1 x_2 = Run C N n0 n x k x_1 x_2)) ∧
 ((∀ (C : Cx) (N n0 : Nat) (x : QT) (x_1 : Tau) (x_2 : H) (n : Nat) (a b : Go.Code) (k : List It), Run C N n0 n.succ x (It.code (a.seq b) :: k) x_1 x_2 = Run C N n0 n x (It.code a :: It.code b :: k) x_1 x_2) ∧
 (∀ (C : Cx) (N n0 : Nat) (x : QT) (x_1 : Tau) (x_2 : H) (n id : Nat) (c : Go.Code) (k : List It), Run C N n0 n.succ x (It.code (Go.Code.block id c) :: k) x_1 x_2 = Run C N n0 n x (It.code c :: It.blk id :: k) x_1 x_2)))) ∧
 ((((∀ (C : Cx) (N n0 : Nat) (x : QT) (x_1 : Tau) (x_2 : H) (n : Nat) (c : Go.Operand) (x_5 y : Go.Code) (k : List It), Run C N n0 n.succ x (It.code (Go.Code.cond c x_5 y) :: k) x_1 x_2 = condR (Run C N n0 n x) x_5 y k x_1 x_2 (ev C x_1 c)) ∧
 (∀ (C : Cx) (N n0 : Nat) (x : QT) (x_1 : Tau) (x_2 : H) (n id : Nat) (ops : Array Go.Oper) (k : List It), Run C N n0 n.succ x (It.code (Go.Code.region id ops true) :: k) x_1 x_2 = DrawThen C N n0 x id ops k x_1 x_2)) ∧
 ((∀ (C : Cx) (N n0 : Nat) (x : QT) (x_1 : Tau) (x_2 : H) (n id : Nat) (ops : Array Go.Oper) (k : List It), Run C N n0 n.succ x (It.code (Go.Code.region id ops false) :: k) x_1 x_2 = Run C N n0 n x (It.ops ops.toList ops.toList :: k) x_1 x_2) ∧
 (∀ (C : Cx) (N n0 : Nat) (x : QT) (x_1 : Tau) (x_2 : H) (n : Nat) (body : Go.Code) (k : List It), Run C N n0 n.succ x (It.code body.loop :: k) x_1 x_2 = LoopThen C N n0 x body k x_1 x_2))) ∧
 (((∀ (C : Cx) (N n0 : Nat) (x : QT) (x_1 : Tau) (x_2 : H) (n id : Nat) (k : List It), Run C N n0 n.succ x (It.code (Go.Code.exit id) :: k) x_1 x_2 = exitK (Run C N n0 n x) x id x_1 x_2 (popTo id k)) ∧
 (∀ (C : Cx) (N n0 : Nat) (x : QT) (x_1 : Tau) (x_2 : H) (n : Nat) (k : List It), Run C N n0 n.succ x (It.code Go.Code.ret :: k) x_1 x_2 = x XV.ret x_1 x_2)) ∧
 ((∀ (C : Cx) (N n0 : Nat) (x : QT) (x_1 : Tau) (x_2 : H) (n id : Nat) (k : List It), Run C N n0 n.succ x (It.blk id :: k) x_1 x_2 = Run C N n0 n x k x_1 x_2) ∧
 (∀ (C : Cx) (N n0 : Nat) (x : QT) (x_1 : Tau) (x_2 : H) (n : Nat) (all : List Go.Oper) (k : List It), Run C N n0 n.succ x (It.ops all [] :: k) x_1 x_2 = Run C N n0 n x k x_1 x_2))))) ∧
 ((((∀ (C : Cx) (N n0 : Nat) (x : QT) (x_1 : Tau) (x_2 : H) (n : Nat) (all : List Go.Oper) (d : Option Go.Tmp) (op : Go.Op) (type : Go.TypeId) (pos : String) (after : Array Go.Edge) (os : List Go.Oper) (k : List It), Run C N n0 n.succ x (It.ops all ({ dst := d, op := op, type := type, pos := pos, after := after, guard := none } :: os) :: k) x_1 x_2 = opRun C N n0 (Run C N n0 n x) x (It.ops all os :: k) d x_1 x_2 op) ∧
 ((∀ (C : Cx) (N n0 : Nat) (x : QT) (x_1 : Tau) (x_2 : H) (n : Nat) (all : List Go.Oper) (d : Option Go.Tmp) (op : Go.Op) (ty : Go.TypeId) (pos : String) (after : Array Go.Edge) (j : Nat) (want : Bool) (os : List Go.Oper) (k : List It), Run C N n0 n.succ x (It.ops all ({ dst := d, op := op, type := ty, pos := pos, after := after, guard := some (j, want) } :: os) :: k) x_1 x_2 = guardR (Run C N n0 n x) all os k d { dst := d, op := op, type := ty, pos := pos, after := after, guard := none } j x_1 x_2 want (gV all x_1 j)) ∧
 (∀ (K : List V → Prop) (R : (List V → Prop) → Prop) (cs : List V), rsA K R (some cs) = (cs.all cellOk = true ∧ R fun vs => K (V.agg cs :: vs))))) ∧
 (((∀ (K : List V → Prop) (R : (List V → Prop) → Prop), rsA K R none = False) ∧
 (∀ (K : List V → Prop) (R : (List V → Prop) → Prop) (n : Nat) (els : List (List V)), rsC K R (some (V.l n els)) = False)) ∧
 ((∀ (K : List V → Prop) (R : (List V → Prop) → Prop) (cs : List V), rsC K R (some (V.lp cs)) = False) ∧
 (∀ (K : List V → Prop) (R : (List V → Prop) → Prop), rsC K R none = False)))) ∧
 ((((∀ (h : H) (K : List V → Prop) (R : (List V → Prop) → Prop) (b i o n : Nat), rsT h K R b i o (some true) (some n) = rsA K R (rdN (rdB h[b]? i) o n)) ∧
 (∀ (h : H) (K : List V → Prop) (R : (List V → Prop) → Prop) (b i o : Nat) (x : Option Nat), rsT h K R b i o (some false) x = rsC K R (rdC (rdB h[b]? i) o))) ∧
 ((∀ (C : Cx) (h : H) (K : List V → Prop) (R : (List V → Prop) → Prop) (t : Go.TypeId) (b i o : Nat), rsP C h K R t (V.ptr b i o) = rsT h K R b i o (tAgg C.P t) (tSz C.P t)) ∧
 (∀ (C : Cx) (h : H) (τ : Tau) (x : List V → Prop), resW C h τ [] x = x []))) ∧
 (((∀ (C : Cx) (h : H) (τ : Tau) (x : List V → Prop) (t : Go.Tmp) (rs : List Go.ResultVar), resW C h τ (Go.ResultVar.tmp t :: rs) x = resW C h τ rs fun vs => x (τ t :: vs)) ∧
 (∀ (C : Cx) (h : H) (τ : Tau) (x : List V → Prop) (a : Go.Tmp) (t : Go.TypeId) (rs : List Go.ResultVar), resW C h τ (Go.ResultVar.cell a t :: rs) x = rsP C h x (resW C h τ rs) t (τ a))) ∧
 ((∀ (n0 : Nat) (R : Res → H → Prop) (h : H) (v : V), tupOf n0 R h [v] = Up n0 R (Res.ret v) h) ∧
 (∀ (C : Cx) (n0 : Nat) (fn : Go.Func) (R : Res → H → Prop) (x : Tau) (x_1 : H), bodyQ C n0 fn R XV.normal x x_1 = resW C x_1 x fn.results.toList (tupOf n0 R x_1)))))))) :=
 ⟨⟨⟨⟨⟨@keptB.eq_1,
 ⟨@keptB.eq_2,
 @appN.eq_1⟩⟩,
 ⟨⟨@appN.eq_2,
 @appN.eq_4⟩,
 ⟨@appT.eq_1,
 @popTo.eq_1⟩⟩⟩,
 ⟨⟨⟨@popTo.eq_2,
 @boolOf.eq_1⟩,
 ⟨@gW.eq_1,
 @gW.eq_2⟩⟩,
 ⟨⟨@gS.eq_1,
 @gS.eq_2⟩,
 ⟨@callR.eq_1,
 @panR.eq_1⟩⟩⟩⟩,
 ⟨⟨⟨@copyR.eq_1,
 ⟨@clearR.eq_1,
 @appR.eq_1⟩⟩,
 ⟨⟨@bltR.eq_1,
 @bltR.eq_2⟩,
 ⟨@bltR.eq_3,
 @opRun.eq_1⟩⟩⟩,
 ⟨⟨⟨@opRun.eq_2,
 @opRun.eq_3⟩,
 ⟨@opRun.eq_4,
 @exitK.eq_1⟩⟩,
 ⟨⟨@exitK.eq_2,
 @condR.eq_1⟩,
 ⟨@guardR.eq_1,
 @guardR.eq_2⟩⟩⟩⟩⟩,
 ⟨⟨⟨⟨@guardR.eq_3,
 ⟨@Run.eq_1,
 @Run.eq_2⟩⟩,
 ⟨⟨@Run.eq_3,
 @Run.eq_4⟩,
 ⟨@Run.eq_5,
 @Run.eq_6⟩⟩⟩,
 ⟨⟨⟨@Run.eq_7,
 @Run.eq_8⟩,
 ⟨@Run.eq_9,
 @Run.eq_10⟩⟩,
 ⟨⟨@Run.eq_11,
 @Run.eq_12⟩,
 ⟨@Run.eq_14,
 @Run.eq_15⟩⟩⟩⟩,
 ⟨⟨⟨@Run.eq_16,
 ⟨@Run.eq_17,
 @rsA.eq_1⟩⟩,
 ⟨⟨@rsA.eq_2,
 @rsC.eq_1⟩,
 ⟨@rsC.eq_2,
 @rsC.eq_4⟩⟩⟩,
 ⟨⟨⟨@rsT.eq_1,
 @rsT.eq_2⟩,
 ⟨@rsP.eq_1,
 @resW.eq_1⟩⟩,
 ⟨⟨@resW.eq_2,
 @resW.eq_3⟩,
 ⟨@tupOf.eq_1,
 @bodyQ.eq_1⟩⟩⟩⟩⟩⟩
theorem wb6 :
 ((((((∀ (C : Cx) (n0 : Nat) (fn : Go.Func) (R : Res → H → Prop) (x : Tau) (x_1 : H), bodyQ C n0 fn R XV.ret x x_1 = resW C x_1 x fn.results.toList (tupOf n0 R x_1)) ∧
 ((∀ (C : Cx) (n0 : Nat) (fn : Go.Func) (R : Res → H → Prop) (x : Tau) (x_1 : H) (v : V), bodyQ C n0 fn R (XV.pan v) x x_1 = Up n0 R (Res.pan v) x_1) ∧
 (∀ (C : Cx) (n0 : Nat) (fn : Go.Func) (R : Res → H → Prop) (x : Tau) (x_1 : H) (id : Nat), bodyQ C n0 fn R (XV.exit id) x x_1 = False))) ∧
 (((∀ (C : Cx) (N n0 m : Nat) (Q : QT) (k : List It) (I : Tau → H → Prop) (x : Tau) (x_1 : H), loopQ C N n0 m Q k I XV.normal x x_1 = Goes n0 I x x_1) ∧
 (∀ (C : Cx) (N n0 m : Nat) (Q : QT) (k : List It) (I : Tau → H → Prop) (x : Tau) (x_1 : H) (id : Nat), loopQ C N n0 m Q k I (XV.exit id) x x_1 = exitK (Run C N n0 m Q) Q id x x_1 (popTo id k))) ∧
 ((∀ (C : Cx) (N n0 m : Nat) (Q : QT) (k : List It) (I : Tau → H → Prop) (x : Tau) (x_1 : H), loopQ C N n0 m Q k I XV.ret x x_1 = Q XV.ret x x_1) ∧
 (∀ (C : Cx) (N n0 m : Nat) (Q : QT) (k : List It) (I : Tau → H → Prop) (x : Tau) (x_1 : H) (v : V), loopQ C N n0 m Q k I (XV.pan v) x x_1 = Q (XV.pan v) x x_1)))) ∧
 ((((∀ (C : Cx) (N n0 m : Nat) (Q : QT) (k : List It) (d : Option Nat) (τ : Tau) (x : H) (v : V), callQ C N n0 m Q k d τ (Res.ret v) x = Run C N n0 m Q k (upo d v τ) x) ∧
 (∀ (C : Cx) (N n0 m : Nat) (Q : QT) (k : List It) (d : Option Nat) (τ : Tau) (x : H) (v : V), callQ C N n0 m Q k d τ (Res.pan v) x = Q (XV.pan v) τ x)) ∧
 ((∀ (r : Nat → Nat) (b off len cap : Nat), rnP r (V.sl b off len cap) = V.sl (r b) off len cap) ∧
 (∀ (r : Nat → Nat) (b i o : Nat), rnP r (V.ptr b i o) = V.ptr (r b) i o))) ∧
 (((∀ (r : Nat → Nat) (f : Nat) (caps : List V), rnC r (V.fn f caps) = V.fn f (List.map (rnP r) caps)) ∧
 (∀ (r : Nat → Nat) (cs : List V), rnQ r (V.agg cs) = V.agg (List.map (rnC r) cs))) ∧
 ((∀ (r : Nat → Nat) (vs : List V), rnV r (V.tup vs) = V.tup (List.map (rnQ r) vs)) ∧
 (∀ (n : Nat) (els : List (List V)), fz (V.l n els) = V.f n (fzss els)))))) ∧
 ((((∀ (cs : List V), fz (V.lp cs) = V.pd (fzs cs)) ∧
 ((∀ (v : Go.Value), fz (V.s v) = V.s v) ∧
 (∀ (n : Nat) (els : List (List V)), fz (V.f n els) = V.f n els))) ∧
 (((fz V.z = V.z) ∧
 (∀ (b o l c : Nat), fz (V.sl b o l c) = V.sl b o l c)) ∧
 ((∀ (b i o : Nat), fz (V.ptr b i o) = V.ptr b i o) ∧
 (∀ (cs : List V), fz (V.pd cs) = V.pd cs)))) ∧
 ((((∀ (f : Nat) (c : List V), fz (V.fn f c) = V.fn f c) ∧
 (∀ (c : List V), fz (V.agg c) = V.agg c)) ∧
 ((∀ (c : List V), fz (V.tup c) = V.tup c) ∧
 (fz V.any = V.any))) ∧
 (((fzs [] = []) ∧
 (∀ (x_1 : V) (xs : List V), fzs (x_1 :: xs) = fz x_1 :: fzs xs)) ∧
 ((fzss [] = []) ∧
 (∀ (x_1 : List V) (xs : List (List V)), fzss (x_1 :: xs) = fzs x_1 :: fzss xs)))))) ∧
 (((((∀ (n0 x : Nat) (x_1 : H) (v : Go.Value), frz n0 x x_1 (V.s v) = V.s v) ∧
 ((∀ (n0 x : Nat) (x_1 : H) (n : Nat) (els : List (List V)), frz n0 x x_1 (V.f n els) = V.f n els) ∧
 (∀ (n0 x : Nat) (x_1 : H), frz n0 x x_1 V.z = V.z))) ∧
 (((∀ (n0 x : Nat) (x_1 : H) (cs : List V), frz n0 x x_1 (V.pd cs) = V.pd cs) ∧
 (∀ (n0 x : Nat) (x_1 : H) (n : Nat) (els : List (List V)), frz n0 x x_1 (V.l n els) = V.f n (fzss els))) ∧
 ((∀ (n0 x : Nat) (x_1 : H) (cs : List V), frz n0 x x_1 (V.lp cs) = V.pd (fzs cs)) ∧
 (∀ (n0 : Nat) (x : H) (k f : Nat) (caps : List V), frz n0 k.succ x (V.fn f caps) = V.fn f (List.map (frz n0 k x) caps))))) ∧
 ((((∀ (n0 : Nat) (x : H) (k : Nat) (cs : List V), frz n0 k.succ x (V.agg cs) = V.agg (List.map (frz n0 k x) cs)) ∧
 (∀ (n0 : Nat) (x : H) (k : Nat) (vs : List V), frz n0 k.succ x (V.tup vs) = V.tup (List.map (frz n0 k x) vs))) ∧
 ((∀ (b off len cap : Nat) (els : List (List V)) (n cap' : Nat), ownOf (V.sl b off len cap) (some { els := els, n := n, cap := cap', live := true }) = if off = 0 ∧ len = els.length ∧ cap = cap' then some (V.l n els) else none) ∧
 (∀ (b i o : Nat) (el : List V) (n cap' : Nat), ownOf (V.ptr b i o) (some { els := [el], n := n, cap := cap', live := true }) = if i = 0 ∧ o = 0 ∧ cap' = 1 then some (V.lp el) else none))) ∧
 (((∀ (b off len cap : Nat), refB (V.sl b off len cap) = some b) ∧
 (∀ (b i o : Nat), refB (V.ptr b i o) = some b)) ∧
 ((∀ (v : Go.Value), nr (V.s v) = true) ∧
 (∀ (n : Nat) (els : List (List V)), nr (V.f n els) = true))))) ∧
 ((((∀ (n : Nat) (els : List (List V)), nr (V.l n els) = true) ∧
 ((∀ (cs : List V), nr (V.lp cs) = true) ∧
 (nr V.z = true))) ∧
 (((∀ (cs : List V), nr (V.pd cs) = true) ∧
 (∀ (B : Blk), elsB (some B) = B.els)) ∧
 ((elsB none = []) ∧
 (∀ (h : H) (b i o : Nat), foldK h b i o none = h)))) ∧
 ((((∀ (h : H), folds h [] = h) ∧
 (∀ (h : H) (b i o : Nat) (r : List (Nat × Nat × Nat)), folds h ((b, i, o) :: r) = folds (foldC h b i o) r)) ∧
 ((∀ (x x_1 : H), setAll x [] x_1 = x ++ x_1) ∧
 (∀ (x : H) (i : Nat) (l : List Nat) (B : Blk) (h : List Blk), setAll x (i :: l) (B :: h) = setAll (List.set x i B) l h))) ∧
 (((∀ (x : H) (head : Nat) (tail : List Nat), setAll x (head :: tail) [] = x) ∧
 (∀ (r : Nat → Nat) (v : V), rnRes r (Res.ret v) = Res.ret (rnV r v))) ∧
 ((∀ (r : Nat → Nat) (v : V), rnRes r (Res.pan v) = Res.pan (rnV r v)) ∧
 (∀ (n : Nat) (exc : List Nat) (x : Nat), mask n exc x [] = []))))))) :=
 ⟨⟨⟨⟨⟨@bodyQ.eq_2,
 ⟨@bodyQ.eq_3,
 @bodyQ.eq_4⟩⟩,
 ⟨⟨@loopQ.eq_1,
 @loopQ.eq_2⟩,
 ⟨@loopQ.eq_3,
 @loopQ.eq_4⟩⟩⟩,
 ⟨⟨⟨@callQ.eq_1,
 @callQ.eq_2⟩,
 ⟨@rnP.eq_1,
 @rnP.eq_2⟩⟩,
 ⟨⟨@rnC.eq_1,
 @rnQ.eq_1⟩,
 ⟨@rnV.eq_1,
 @fz.eq_1⟩⟩⟩⟩,
 ⟨⟨⟨@fz.eq_2,
 ⟨@fz.eq_3,
 @fz.eq_4⟩⟩,
 ⟨⟨@fz.eq_5,
 @fz.eq_6⟩,
 ⟨@fz.eq_7,
 @fz.eq_8⟩⟩⟩,
 ⟨⟨⟨@fz.eq_9,
 @fz.eq_10⟩,
 ⟨@fz.eq_11,
 @fz.eq_12⟩⟩,
 ⟨⟨@fzs.eq_1,
 @fzs.eq_2⟩,
 ⟨@fzss.eq_1,
 @fzss.eq_2⟩⟩⟩⟩⟩,
 ⟨⟨⟨⟨@frz.eq_1,
 ⟨@frz.eq_2,
 @frz.eq_3⟩⟩,
 ⟨⟨@frz.eq_4,
 @frz.eq_5⟩,
 ⟨@frz.eq_6,
 @frz.eq_9⟩⟩⟩,
 ⟨⟨⟨@frz.eq_10,
 @frz.eq_11⟩,
 ⟨@ownOf.eq_1,
 @ownOf.eq_2⟩⟩,
 ⟨⟨@refB.eq_1,
 @refB.eq_2⟩,
 ⟨@nr.eq_1,
 @nr.eq_2⟩⟩⟩⟩,
 ⟨⟨⟨@nr.eq_3,
 ⟨@nr.eq_4,
 @nr.eq_5⟩⟩,
 ⟨⟨@nr.eq_6,
 @elsB.eq_1⟩,
 ⟨@elsB.eq_2,
 @foldK.eq_2⟩⟩⟩,
 ⟨⟨⟨@folds.eq_1,
 @folds.eq_2⟩,
 ⟨@setAll.eq_1,
 @setAll.eq_2⟩⟩,
 ⟨⟨@setAll.eq_3,
 @rnRes.eq_1⟩,
 ⟨@rnRes.eq_2,
 @mask.eq_1⟩⟩⟩⟩⟩⟩
theorem wb7 :
 ((((((∀ (n : Nat) (exc : List Nat) (x : Nat) (B : Blk) (h : List Blk), mask n exc x (B :: h) = (if hid n exc x = true then Blk.dead else B) :: mask n exc (x + 1) h) ∧
 ((∀ (n : Nat) (exc : List Nat) (x : Nat) (x_1 : H), unmask n exc x [] x_1 = x_1) ∧
 (∀ (n : Nat) (exc : List Nat) (x : Nat) (head : Blk) (tail : List Blk), unmask n exc x (head :: tail) [] = []))) ∧
 (((∀ (n : Nat) (exc : List Nat) (x : Nat) (B : Blk) (h : List Blk) (B' : Blk) (h' : List Blk), unmask n exc x (B :: h) (B' :: h') = (if hid n exc x = true then B else B') :: unmask n exc (x + 1) h h') ∧
 (∀ (x : List Nat) (d : Nat), addN (some d) x = d :: x)) ∧
 ((∀ (x : List Nat), addN none x = x) ∧
 (∀ (C : Cx) (K : V → H → Prop) (h0 : H) (exc : List Nat) (b : Nat) (v : V), flCk C K h0 exc b (some v) = ((hid (List.length h0) exc b = true ∧ cellOk v = true) ∧ K v h0))))) ∧
 ((((∀ (C : Cx) (K : V → H → Prop) (h0 : H) (exc : List Nat) (b : Nat), flCk C K h0 exc b none = False) ∧
 (∀ (C : Cx) (K : V → H → Prop) (h0 : H) (exc : List Nat) (b : Nat) (cs : List V), flA C K h0 exc b (some cs) = ((hid (List.length h0) exc b = true ∧ cs.all cellOk = true) ∧ K (V.agg cs) h0))) ∧
 ((∀ (C : Cx) (K : V → H → Prop) (h0 : H) (exc : List Nat) (b : Nat), flA C K h0 exc b none = False) ∧
 (∀ (C : Cx) (K : V → H → Prop) (h0 : H) (exc : List Nat) (b i o n : Nat), flT C K h0 exc b i o (some true) (some n) = flA C K h0 exc b (rdN (rdB h0[b]? i) o n)))) ∧
 (((∀ (C : Cx) (K : V → H → Prop) (h0 : H) (exc : List Nat) (b i o : Nat) (x : Option Nat), flT C K h0 exc b i o (some false) x = flCk C K h0 exc b (rdC (rdB h0[b]? i) o)) ∧
 (∀ (C : Cx) (K : V → H → Prop) (h0 : H) (exc : List Nat) (t : Go.TypeId) (b i o : Nat), flK C K h0 exc t (V.ptr b i o) = flT C K h0 exc b i o (tAgg C.P t) (tSz C.P t))) ∧
 ((∀ (C : Cx) (K : V → H → Prop) (h0 : H) (exc : List Nat) (t : Go.TypeId) (cs : List V), flK C K h0 exc t (V.pd cs) = ldF K h0 cs (tAgg C.P t) (tSz C.P t)) ∧
 (∀ (C : Cx) (K : V → H → Prop) (h0 : H) (exc : List Nat) (σ : Tau) (t : Go.TypeId) (x_1 : Go.Operand), oldW C K h0 exc σ (Go.Op.load t x_1) = flK C K h0 exc t (ev C σ x_1)))))) ∧
 ((((∀ (C : Cx) (K : V → H → Prop) (h0 : H) (exc : List Nat) (σ : Tau) (b : Go.Builtin) (args : Array Go.Operand) (ts : Array Go.TypeId), oldW C K h0 exc σ (Go.Op.call { callee := Go.Callee.builtin b, args := args, argTypes := ts }) = builtinW C K h0 b (evs C σ args.toList) ts.toList) ∧
 ((∀ (C : Cx) (K : V → H → Prop) (τ : Tau) (h : H) (b : Go.Builtin) (args : Array Go.Operand) (ts : Array Go.TypeId), newW C K τ h (Go.Op.call { callee := Go.Callee.builtin b, args := args, argTypes := ts }) = builtinW C K h b (evs C τ args.toList) ts.toList) ∧
 (∀ (Q : QT) (K : V → H → Prop) (τ : Tau) (G : H → H) (x : H) (v : V), dres Q K τ G (Res.ret v) x = K v (G x)))) ∧
 (((∀ (Q : QT) (K : V → H → Prop) (τ : Tau) (G : H → H) (x : H) (v : V), dres Q K τ G (Res.pan v) x = Q (XV.pan v) τ (G x)) ∧
 (∀ (C : Cx) (N n0 : Nat) (Q : QT) (k : List It) (h0 : H) (exc : List Nat) (ops : Array Go.Oper) (fuel : Nat) (listed : Array Bool) (args : List V) (d : Option Nat) (nw : List Nat) (τ : Tau) (h : H) (f : Nat) (caps : List V), dcallR C N n0 Q k h0 exc ops fuel listed args d nw τ h (V.fn f caps) = DCall C N n0 Q h0 exc ops fuel listed k f (args ++ caps) d nw τ h)) ∧
 ((∀ (C : Cx) (N n0 : Nat) (Q : QT) (k : List It) (h0 : H) (exc : List Nat) (ops : Array Go.Oper) (fuel : Nat) (listed : Array Bool) (d : Option Nat) (nw : List Nat) (τ : Tau) (h : H) (s x_2 : V) (t u : Go.TypeId), dcopyR C N n0 Q k h0 exc ops fuel listed d nw τ h [s, x_2] [t, u] = DCopy C N n0 Q h0 exc ops fuel listed k s x_2 t u d nw τ h) ∧
 (∀ (yes no : Prop) (b : Bool), guardD yes no true (some b) = bcase b yes no)))) ∧
 ((((∀ (yes no : Prop) (b : Bool), guardD yes no false (some b) = bcase b no yes) ∧
 (∀ (yes no : Prop) (x : Bool), guardD yes no x none = False)) ∧
 ((∀ (C : Cx) (N n0 : Nat) (Q : QT) (k : List It) (h0 : H) (exc : List Nat) (ops : Array Go.Oper) (fuel : Nat) (listed : Array Bool) (R : List Nat → Tau → H → Prop) (d : Option Nat) (nw : List Nat) (τ : Tau) (h : H) (op : Go.Op), actW C N n0 Q k h0 exc ops fuel listed R d nw τ h op Md.old = oldW C (oldN R d nw τ h) h0 exc (restr nw τ) op) ∧
 (∀ (C : Cx) (N n0 : Nat) (Q : QT) (k : List It) (h0 : H) (exc : List Nat) (ops : Array Go.Oper) (fuel : Nat) (listed : Array Bool) (R : List Nat → Tau → H → Prop) (d : Option Nat) (nw : List Nat) (τ : Tau) (h : H) (op : Go.Op), actW C N n0 Q k h0 exc ops fuel listed R d nw τ h op Md.new = newW C (newN R d nw τ h) τ h op))) ∧
 (((∀ (C : Cx) (N n0 : Nat) (Q : QT) (k : List It) (h0 : H) (exc : List Nat) (ops : Array Go.Oper) (fuel : Nat) (listed : Array Bool) (R : List Nat → Tau → H → Prop) (d : Option Nat) (nw : List Nat) (τ : Tau) (h : H) (op : Go.Op), actW C N n0 Q k h0 exc ops fuel listed R d nw τ h op Md.eff = effW C N n0 Q k h0 exc ops fuel listed R d nw τ h op) ∧
 (∀ (C : Cx) (N n0 : Nat) (Q : QT) (k : List It) (h0 : H) (exc : List Nat) (ops : Array Go.Oper) (fuel : Nat) (listed : Array Bool) (R : List Nat → Tau → H → Prop) (nw : List Nat) (τ : Tau) (h : H) (md : Md), nodeW C N n0 Q k h0 exc ops fuel listed R nw τ h md none = False)) ∧
 ((∀ (C : Cx) (N n0 : Nat) (Q : QT) (k : List It) (h0 : H) (exc : List Nat) (ops : Array Go.Oper) (fuel : Nat) (listed : Array Bool) (R : List Nat → Tau → H → Prop) (nw : List Nat) (τ : Tau) (h : H) (md : Md) (d : Option Go.Tmp) (op : Go.Op) (type : Go.TypeId) (pos : String) (after : Array Go.Edge), nodeW C N n0 Q k h0 exc ops fuel listed R nw τ h md (some { dst := d, op := op, type := type, pos := pos, after := after, guard := none }) = actW C N n0 Q k h0 exc ops fuel listed R d nw τ h op md) ∧
 (∀ (C : Cx) (N n0 : Nat) (Q : QT) (k : List It) (h0 : H) (exc : List Nat) (ops : Array Go.Oper) (fuel : Nat) (listed : Array Bool) (R : List Nat → Tau → H → Prop) (nw : List Nat) (τ : Tau) (h : H) (md : Md) (d : Option Go.Tmp) (op : Go.Op) (type : Go.TypeId) (pos : String) (after : Array Go.Edge) (j : Nat) (want : Bool), nodeW C N n0 Q k h0 exc ops fuel listed R nw τ h md (some { dst := d, op := op, type := type, pos := pos, after := after, guard := some (j, want) }) = guardD (actW C N n0 Q k h0 exc ops fuel listed R d nw (gSet ops.toList j want τ) h op md) (R (addN d nw) (upo d V.any (gSet ops.toList j (!want) τ)) h) want (gV ops.toList τ j))))))) ∧
 (((((∀ (C : Cx) (N n0 m : Nat) (Q : QT) (k : List It) (h0 : H) (exc : List Nat) (ops : Array Go.Oper) (x : Nat) (x_1 : Array Bool) (x_2 : List Nat) (x_3 : Tau) (x_4 : H), RunD C N n0 m Q k h0 exc ops x x_1 TD.done x_2 x_3 x_4 = Run C N n0 m Q k x_3 x_4) ∧
 ((∀ (C : Cx) (N n0 m : Nat) (Q : QT) (k : List It) (h0 : H) (exc : List Nat) (ops : Array Go.Oper) (x : Array Bool) (x_1 : List Nat) (x_2 : Tau) (x_3 : H) (fuel i : Nat) (td : TD), RunD C N n0 m Q k h0 exc ops fuel.succ x (TD.old i td) x_1 x_2 x_3 = nodeW C N n0 Q k h0 exc ops fuel (x.setIfInBounds i true) (RunD C N n0 m Q k h0 exc ops fuel (x.setIfInBounds i true) td) x_1 x_2 x_3 Md.old ops.toList[i]?) ∧
 (∀ (C : Cx) (N n0 m : Nat) (Q : QT) (k : List It) (h0 : H) (exc : List Nat) (ops : Array Go.Oper) (x : Array Bool) (x_1 : List Nat) (x_2 : Tau) (x_3 : H) (fuel i : Nat) (td : TD), RunD C N n0 m Q k h0 exc ops fuel.succ x (TD.new i td) x_1 x_2 x_3 = nodeW C N n0 Q k h0 exc ops fuel (x.setIfInBounds i true) (RunD C N n0 m Q k h0 exc ops fuel (x.setIfInBounds i true) td) x_1 x_2 x_3 Md.new ops.toList[i]?))) ∧
 (((∀ (C : Cx) (N n0 m : Nat) (Q : QT) (k : List It) (h0 : H) (exc : List Nat) (ops : Array Go.Oper) (x : Array Bool) (x_1 : List Nat) (x_2 : Tau) (x_3 : H) (fuel i : Nat) (td : TD), RunD C N n0 m Q k h0 exc ops fuel.succ x (TD.go i td) x_1 x_2 x_3 = nodeW C N n0 Q k h0 exc ops fuel (x.setIfInBounds i true) (RunD C N n0 m Q k h0 exc ops fuel (x.setIfInBounds i true) td) x_1 x_2 x_3 Md.eff ops.toList[i]?) ∧
 (∀ (C : Cx) (N n0 m : Nat) (Q : QT) (k : List It) (h0 : H) (exc : List Nat) (ops : Array Go.Oper) (x : Array Bool) (x_1 : List Nat) (x_2 : Tau) (x_3 : H) (fuel i : Nat) (td r : TD), RunD C N n0 m Q k h0 exc ops fuel.succ x (TD.or i td r) x_1 x_2 x_3 = (nodeW C N n0 Q k h0 exc ops fuel (x.setIfInBounds i true) (RunD C N n0 m Q k h0 exc ops fuel (x.setIfInBounds i true) td) x_1 x_2 x_3 Md.eff ops.toList[i]? ∧ RunD C N n0 m Q k h0 exc ops (fuel + 1) x r x_1 x_2 x_3))) ∧
 ((∀ (C : Cx) (N n0 m : Nat) (Q : QT) (k : List It) (h0 : H) (exc : List Nat) (ops : Array Go.Oper) (fuel : Nat) (listed : Array Bool) (td : TD) (d : Option Nat) (nw : List Nat) (τ : Tau) (h x : H) (v : V), dcallQ C N n0 m Q k h0 exc ops fuel listed td d nw τ h (Res.ret v) x = RunD C N n0 m Q k h0 exc ops fuel listed td (addN d nw) (upo d v τ) (show_ h0 exc h x)) ∧
 (∀ (C : Cx) (N n0 m : Nat) (Q : QT) (k : List It) (h0 : H) (exc : List Nat) (ops : Array Go.Oper) (fuel : Nat) (listed : Array Bool) (td : TD) (d : Option Nat) (nw : List Nat) (τ : Tau) (h x : H) (v : V), dcallQ C N n0 m Q k h0 exc ops fuel listed td d nw τ h (Res.pan v) x = Q (XV.pan v) τ (show_ h0 exc h x))))) ∧
 ((((∀ (x : V) (x_1 : Tau) (d : Nat), upo (some d) x x_1 = up d x x_1) ∧
 (∀ (x : V) (x_1 : Tau), upo none x x_1 = x_1)) ∧
 ((∀ (C : Cx) (τ : Tau) (t : Go.Tmp), ev C τ (Go.Operand.tmp t) = τ t) ∧
 (∀ (C : Cx) (τ : Tau) (v : Go.Value), ev C τ (Go.Operand.const v) = ofV v))) ∧
 (((∀ (C : Cx) (τ : Tau) (g : Nat), ev C τ (Go.Operand.global g) = C.g g) ∧
 (∀ (C : Cx) (τ : Tau) (f : Go.FuncId), ev C τ (Go.Operand.func f) = V.fn f [])) ∧
 ((∀ (cs : Array Go.Value), ofV (Go.Value.agg cs) = V.agg (List.map ofV1 cs.toList)) ∧
 (ofV1 (Go.Value.slice none 0 0) = V.z))))) ∧
 ((((∀ C N n0 R Q items d τ h x, opRun C N n0 R Q items d τ h (.move x) = opW C τ h (.move x) (RunK R items d τ)) ∧
 ((∀ C N n0 Q k h0 exc ops fuel listed R d nw τ h x, effW C N n0 Q k h0 exc ops fuel listed R d nw τ h (.move x) = opW C τ (hide h0 exc h) (.move x) (effN h0 exc R d nw τ h)) ∧
 (∀ C N n0 R Q items d τ h x, opRun C N n0 R Q items d τ h (.assign x) = opW C τ h (.assign x) (RunK R items d τ)))) ∧
 (((∀ C N n0 Q k h0 exc ops fuel listed R d nw τ h x, effW C N n0 Q k h0 exc ops fuel listed R d nw τ h (.assign x) = opW C τ (hide h0 exc h) (.assign x) (effN h0 exc R d nw τ h)) ∧
 (∀ C N n0 R Q items d τ h x y z, opRun C N n0 R Q items d τ h (.pick x y z) = opW C τ h (.pick x y z) (RunK R items d τ))) ∧
 ((∀ C N n0 Q k h0 exc ops fuel listed R d nw τ h x y z, effW C N n0 Q k h0 exc ops fuel listed R d nw τ h (.pick x y z) = opW C τ (hide h0 exc h) (.pick x y z) (effN h0 exc R d nw τ h)) ∧
 (∀ C N n0 R Q items d τ h t ps, opRun C N n0 R Q items d τ h (.build t ps) = opW C τ h (.build t ps) (RunK R items d τ))))) ∧
 ((((∀ C N n0 Q k h0 exc ops fuel listed R d nw τ h t ps, effW C N n0 Q k h0 exc ops fuel listed R d nw τ h (.build t ps) = opW C τ (hide h0 exc h) (.build t ps) (effN h0 exc R d nw τ h)) ∧
 (∀ C N n0 R Q items d τ h x, opRun C N n0 R Q items d τ h (.nilCheck x) = opW C τ h (.nilCheck x) (RunK R items d τ))) ∧
 ((∀ C N n0 Q k h0 exc ops fuel listed R d nw τ h x, effW C N n0 Q k h0 exc ops fuel listed R d nw τ h (.nilCheck x) = opW C τ (hide h0 exc h) (.nilCheck x) (effN h0 exc R d nw τ h)) ∧
 (∀ C N n0 R Q items d τ h op t x y u, opRun C N n0 R Q items d τ h (.binOp op t x y u) = opW C τ h (.binOp op t x y u) (RunK R items d τ)))) ∧
 (((∀ C N n0 Q k h0 exc ops fuel listed R d nw τ h op t x y u, effW C N n0 Q k h0 exc ops fuel listed R d nw τ h (.binOp op t x y u) = opW C τ (hide h0 exc h) (.binOp op t x y u) (effN h0 exc R d nw τ h)) ∧
 (∀ C N n0 R Q items d τ h op t x, opRun C N n0 R Q items d τ h (.unOp op t x) = opW C τ h (.unOp op t x) (RunK R items d τ))) ∧
 ((∀ C N n0 Q k h0 exc ops fuel listed R d nw τ h op t x, effW C N n0 Q k h0 exc ops fuel listed R d nw τ h (.unOp op t x) = opW C τ (hide h0 exc h) (.unOp op t x) (effN h0 exc R d nw τ h)) ∧
 (∀ C N n0 R Q items d τ h t x, opRun C N n0 R Q items d τ h (.makeInterface t x) = opW C τ h (.makeInterface t x) (RunK R items d τ)))))))) :=
 ⟨⟨⟨⟨⟨@mask.eq_2,
 ⟨@unmask.eq_1,
 @unmask.eq_2⟩⟩,
 ⟨⟨@unmask.eq_3,
 @addN.eq_1⟩,
 ⟨@addN.eq_2,
 @flCk.eq_1⟩⟩⟩,
 ⟨⟨⟨@flCk.eq_2,
 @flA.eq_1⟩,
 ⟨@flA.eq_2,
 @flT.eq_1⟩⟩,
 ⟨⟨@flT.eq_2,
 @flK.eq_1⟩,
 ⟨@flK.eq_2,
 @oldW.eq_1⟩⟩⟩⟩,
 ⟨⟨⟨@oldW.eq_2,
 ⟨@newW.eq_1,
 @dres.eq_1⟩⟩,
 ⟨⟨@dres.eq_2,
 @dcallR.eq_1⟩,
 ⟨@dcopyR.eq_1,
 @guardD.eq_1⟩⟩⟩,
 ⟨⟨⟨@guardD.eq_2,
 @guardD.eq_3⟩,
 ⟨@actW.eq_1,
 @actW.eq_2⟩⟩,
 ⟨⟨@actW.eq_3,
 @nodeW.eq_1⟩,
 ⟨@nodeW.eq_2,
 @nodeW.eq_3⟩⟩⟩⟩⟩,
 ⟨⟨⟨⟨@RunD.eq_1,
 ⟨@RunD.eq_2,
 @RunD.eq_3⟩⟩,
 ⟨⟨@RunD.eq_4,
 @RunD.eq_5⟩,
 ⟨@dcallQ.eq_1,
 @dcallQ.eq_2⟩⟩⟩,
 ⟨⟨⟨@upo.eq_1,
 @upo.eq_2⟩,
 ⟨@ev.eq_1,
 @ev.eq_2⟩⟩,
 ⟨⟨@ev.eq_3,
 @ev.eq_4⟩,
 ⟨@ofV.eq_1,
 @ofV1.eq_1⟩⟩⟩⟩,
 ⟨⟨⟨(by intros; rfl),
 ⟨(by intros; rfl),
 (by intros; rfl)⟩⟩,
 ⟨⟨(by intros; rfl),
 (by intros; rfl)⟩,
 ⟨(by intros; rfl),
 (by intros; rfl)⟩⟩⟩,
 ⟨⟨⟨(by intros; rfl),
 (by intros; rfl)⟩,
 ⟨(by intros; rfl),
 (by intros; rfl)⟩⟩,
 ⟨⟨(by intros; rfl),
 (by intros; rfl)⟩,
 ⟨(by intros; rfl),
 (by intros; rfl)⟩⟩⟩⟩⟩⟩
theorem wb8 :
 ((((((∀ C N n0 Q k h0 exc ops fuel listed R d nw τ h t x, effW C N n0 Q k h0 exc ops fuel listed R d nw τ h (.makeInterface t x) = opW C τ (hide h0 exc h) (.makeInterface t x) (effN h0 exc R d nw τ h)) ∧
 ((∀ C N n0 R Q items d τ h fn fi ca, opRun C N n0 R Q items d τ h (.makeFunc fn fi ca) = opW C τ h (.makeFunc fn fi ca) (RunK R items d τ)) ∧
 (∀ C N n0 Q k h0 exc ops fuel listed R d nw τ h fn fi ca, effW C N n0 Q k h0 exc ops fuel listed R d nw τ h (.makeFunc fn fi ca) = opW C τ (hide h0 exc h) (.makeFunc fn fi ca) (effN h0 exc R d nw τ h)))) ∧
 (((∀ C N n0 R Q items d τ h t x lo hi mx, opRun C N n0 R Q items d τ h (.slice t x lo hi mx) = opW C τ h (.slice t x lo hi mx) (RunK R items d τ)) ∧
 (∀ C N n0 Q k h0 exc ops fuel listed R d nw τ h t x lo hi mx, effW C N n0 Q k h0 exc ops fuel listed R d nw τ h (.slice t x lo hi mx) = opW C τ (hide h0 exc h) (.slice t x lo hi mx) (effN h0 exc R d nw τ h))) ∧
 ((∀ C N n0 R Q items d τ h t x f, opRun C N n0 R Q items d τ h (.fieldAddr t x f) = opW C τ h (.fieldAddr t x f) (RunK R items d τ)) ∧
 (∀ C N n0 Q k h0 exc ops fuel listed R d nw τ h t x f, effW C N n0 Q k h0 exc ops fuel listed R d nw τ h (.fieldAddr t x f) = opW C τ (hide h0 exc h) (.fieldAddr t x f) (effN h0 exc R d nw τ h))))) ∧
 ((((∀ C N n0 R Q items d τ h t x f, opRun C N n0 R Q items d τ h (.field t x f) = opW C τ h (.field t x f) (RunK R items d τ)) ∧
 (∀ C N n0 Q k h0 exc ops fuel listed R d nw τ h t x f, effW C N n0 Q k h0 exc ops fuel listed R d nw τ h (.field t x f) = opW C τ (hide h0 exc h) (.field t x f) (effN h0 exc R d nw τ h))) ∧
 ((∀ C N n0 R Q items d τ h t x y, opRun C N n0 R Q items d τ h (.indexAddr t x y) = opW C τ h (.indexAddr t x y) (RunK R items d τ)) ∧
 (∀ C N n0 Q k h0 exc ops fuel listed R d nw τ h t x y, effW C N n0 Q k h0 exc ops fuel listed R d nw τ h (.indexAddr t x y) = opW C τ (hide h0 exc h) (.indexAddr t x y) (effN h0 exc R d nw τ h)))) ∧
 (((∀ C N n0 R Q items d τ h t x y, opRun C N n0 R Q items d τ h (.index t x y) = opW C τ h (.index t x y) (RunK R items d τ)) ∧
 (∀ C N n0 Q k h0 exc ops fuel listed R d nw τ h t x y, effW C N n0 Q k h0 exc ops fuel listed R d nw τ h (.index t x y) = opW C τ (hide h0 exc h) (.index t x y) (effN h0 exc R d nw τ h))) ∧
 ((∀ C N n0 R Q items d τ h x i, opRun C N n0 R Q items d τ h (.extract x i) = opW C τ h (.extract x i) (RunK R items d τ)) ∧
 (∀ C N n0 Q k h0 exc ops fuel listed R d nw τ h x i, effW C N n0 Q k h0 exc ops fuel listed R d nw τ h (.extract x i) = opW C τ (hide h0 exc h) (.extract x i) (effN h0 exc R d nw τ h)))))) ∧
 ((((∀ C N n0 R Q items d τ h t, opRun C N n0 R Q items d τ h (.alloc t) = opW C τ h (.alloc t) (RunK R items d τ)) ∧
 ((∀ C N n0 Q k h0 exc ops fuel listed R d nw τ h t, effW C N n0 Q k h0 exc ops fuel listed R d nw τ h (.alloc t) = opW C τ (hide h0 exc h) (.alloc t) (effN h0 exc R d nw τ h)) ∧
 (∀ C N n0 R Q items d τ h t x, opRun C N n0 R Q items d τ h (.box t x) = opW C τ h (.box t x) (RunK R items d τ)))) ∧
 (((∀ C N n0 Q k h0 exc ops fuel listed R d nw τ h t x, effW C N n0 Q k h0 exc ops fuel listed R d nw τ h (.box t x) = opW C τ (hide h0 exc h) (.box t x) (effN h0 exc R d nw τ h)) ∧
 (∀ C N n0 R Q items d τ h t n ps, opRun C N n0 R Q items d τ h (.buildSlice t n ps) = opW C τ h (.buildSlice t n ps) (RunK R items d τ))) ∧
 ((∀ C N n0 Q k h0 exc ops fuel listed R d nw τ h t n ps, effW C N n0 Q k h0 exc ops fuel listed R d nw τ h (.buildSlice t n ps) = opW C τ (hide h0 exc h) (.buildSlice t n ps) (effN h0 exc R d nw τ h)) ∧
 (∀ C N n0 R Q items d τ h t x, opRun C N n0 R Q items d τ h (.load t x) = opW C τ h (.load t x) (RunK R items d τ))))) ∧
 ((((∀ C N n0 Q k h0 exc ops fuel listed R d nw τ h t x, effW C N n0 Q k h0 exc ops fuel listed R d nw τ h (.load t x) = opW C τ (hide h0 exc h) (.load t x) (effN h0 exc R d nw τ h)) ∧
 (∀ C N n0 R Q items d τ h t p x, opRun C N n0 R Q items d τ h (.store t p x) = opW C τ h (.store t p x) (RunK R items d τ))) ∧
 ((∀ C N n0 Q k h0 exc ops fuel listed R d nw τ h t p x, effW C N n0 Q k h0 exc ops fuel listed R d nw τ h (.store t p x) = opW C τ (hide h0 exc h) (.store t p x) (effN h0 exc R d nw τ h)) ∧
 (∀ C N n0 R Q items d τ h t u x, opRun C N n0 R Q items d τ h (.convert t u x) = opW C τ h (.convert t u x) (RunK R items d τ)))) ∧
 (((∀ C N n0 Q k h0 exc ops fuel listed R d nw τ h t u x, effW C N n0 Q k h0 exc ops fuel listed R d nw τ h (.convert t u x) = opW C τ (hide h0 exc h) (.convert t u x) (effN h0 exc R d nw τ h)) ∧
 (∀ C N n0 R Q items d τ h t x y, opRun C N n0 R Q items d τ h (.makeSlice t x y) = opW C τ h (.makeSlice t x y) (RunK R items d τ))) ∧
 ((∀ C N n0 Q k h0 exc ops fuel listed R d nw τ h t x y, effW C N n0 Q k h0 exc ops fuel listed R d nw τ h (.makeSlice t x y) = opW C τ (hide h0 exc h) (.makeSlice t x y) (effN h0 exc R d nw τ h)) ∧
 (∀ C K h0 exc σ x, oldW C K h0 exc σ (.move x) = opW C σ h0 (.move x) K)))))) ∧
 (((((∀ C K τ h x, newW C K τ h (.move x) = opW C τ h (.move x) K) ∧
 ((∀ C K h0 exc σ x, oldW C K h0 exc σ (.assign x) = opW C σ h0 (.assign x) K) ∧
 (∀ C K τ h x, newW C K τ h (.assign x) = opW C τ h (.assign x) K))) ∧
 (((∀ C K h0 exc σ x y z, oldW C K h0 exc σ (.pick x y z) = opW C σ h0 (.pick x y z) K) ∧
 (∀ C K τ h x y z, newW C K τ h (.pick x y z) = opW C τ h (.pick x y z) K)) ∧
 ((∀ C K h0 exc σ t ps, oldW C K h0 exc σ (.build t ps) = opW C σ h0 (.build t ps) K) ∧
 (∀ C K τ h t ps, newW C K τ h (.build t ps) = opW C τ h (.build t ps) K)))) ∧
 ((((∀ C K h0 exc σ x, oldW C K h0 exc σ (.nilCheck x) = opW C σ h0 (.nilCheck x) K) ∧
 (∀ C K τ h x, newW C K τ h (.nilCheck x) = opW C τ h (.nilCheck x) K)) ∧
 ((∀ C K h0 exc σ op t x y u, oldW C K h0 exc σ (.binOp op t x y u) = opW C σ h0 (.binOp op t x y u) K) ∧
 (∀ C K τ h op t x y u, newW C K τ h (.binOp op t x y u) = opW C τ h (.binOp op t x y u) K))) ∧
 (((∀ C K h0 exc σ op t x, oldW C K h0 exc σ (.unOp op t x) = opW C σ h0 (.unOp op t x) K) ∧
 (∀ C K τ h op t x, newW C K τ h (.unOp op t x) = opW C τ h (.unOp op t x) K)) ∧
 ((∀ C K h0 exc σ t x, oldW C K h0 exc σ (.makeInterface t x) = opW C σ h0 (.makeInterface t x) K) ∧
 (∀ C K τ h t x, newW C K τ h (.makeInterface t x) = opW C τ h (.makeInterface t x) K))))) ∧
 ((((∀ C K h0 exc σ fn fi ca, oldW C K h0 exc σ (.makeFunc fn fi ca) = opW C σ h0 (.makeFunc fn fi ca) K) ∧
 ((∀ C K τ h fn fi ca, newW C K τ h (.makeFunc fn fi ca) = opW C τ h (.makeFunc fn fi ca) K) ∧
 (∀ C K h0 exc σ t x lo hi mx, oldW C K h0 exc σ (.slice t x lo hi mx) = opW C σ h0 (.slice t x lo hi mx) K))) ∧
 (((∀ C K τ h t x lo hi mx, newW C K τ h (.slice t x lo hi mx) = opW C τ h (.slice t x lo hi mx) K) ∧
 (∀ C K h0 exc σ t x f, oldW C K h0 exc σ (.fieldAddr t x f) = opW C σ h0 (.fieldAddr t x f) K)) ∧
 ((∀ C K τ h t x f, newW C K τ h (.fieldAddr t x f) = opW C τ h (.fieldAddr t x f) K) ∧
 (∀ C K h0 exc σ t x f, oldW C K h0 exc σ (.field t x f) = opW C σ h0 (.field t x f) K)))) ∧
 ((((∀ C K τ h t x f, newW C K τ h (.field t x f) = opW C τ h (.field t x f) K) ∧
 (∀ C K h0 exc σ t x y, oldW C K h0 exc σ (.indexAddr t x y) = opW C σ h0 (.indexAddr t x y) K)) ∧
 ((∀ C K τ h t x y, newW C K τ h (.indexAddr t x y) = opW C τ h (.indexAddr t x y) K) ∧
 (∀ C K h0 exc σ t x y, oldW C K h0 exc σ (.index t x y) = opW C σ h0 (.index t x y) K))) ∧
 (((∀ C K τ h t x y, newW C K τ h (.index t x y) = opW C τ h (.index t x y) K) ∧
 (∀ C K h0 exc σ x i, oldW C K h0 exc σ (.extract x i) = opW C σ h0 (.extract x i) K)) ∧
 ((∀ C K τ h x i, newW C K τ h (.extract x i) = opW C τ h (.extract x i) K) ∧
 (∀ C N n0 R Q d items τ h xs ts, bltR C N n0 R Q d items τ h xs ts .len = builtinW C (RunK R items d τ) h .len xs ts))))))) :=
 ⟨⟨⟨⟨⟨(by intros; rfl),
 ⟨(by intros; rfl),
 (by intros; rfl)⟩⟩,
 ⟨⟨(by intros; rfl),
 (by intros; rfl)⟩,
 ⟨(by intros; rfl),
 (by intros; rfl)⟩⟩⟩,
 ⟨⟨⟨(by intros; rfl),
 (by intros; rfl)⟩,
 ⟨(by intros; rfl),
 (by intros; rfl)⟩⟩,
 ⟨⟨(by intros; rfl),
 (by intros; rfl)⟩,
 ⟨(by intros; rfl),
 (by intros; rfl)⟩⟩⟩⟩,
 ⟨⟨⟨(by intros; rfl),
 ⟨(by intros; rfl),
 (by intros; rfl)⟩⟩,
 ⟨⟨(by intros; rfl),
 (by intros; rfl)⟩,
 ⟨(by intros; rfl),
 (by intros; rfl)⟩⟩⟩,
 ⟨⟨⟨(by intros; rfl),
 (by intros; rfl)⟩,
 ⟨(by intros; rfl),
 (by intros; rfl)⟩⟩,
 ⟨⟨(by intros; rfl),
 (by intros; rfl)⟩,
 ⟨(by intros; rfl),
 (by intros; simp only [oldW, isA, true_and])⟩⟩⟩⟩⟩,
 ⟨⟨⟨⟨(by intros; simp only [newW, isA, true_and]),
 ⟨(by intros; simp only [oldW, isA, true_and]),
 (by intros; simp only [newW, isA, true_and])⟩⟩,
 ⟨⟨(by intros; simp only [oldW, isA, true_and]),
 (by intros; simp only [newW, isA, true_and])⟩,
 ⟨(by intros; simp only [oldW, isA, true_and]),
 (by intros; simp only [newW, isA, true_and])⟩⟩⟩,
 ⟨⟨⟨(by intros; simp only [oldW, isA, true_and]),
 (by intros; simp only [newW, isA, true_and])⟩,
 ⟨(by intros; simp only [oldW, isA, true_and]),
 (by intros; simp only [newW, isA, true_and])⟩⟩,
 ⟨⟨(by intros; simp only [oldW, isA, true_and]),
 (by intros; simp only [newW, isA, true_and])⟩,
 ⟨(by intros; simp only [oldW, isA, true_and]),
 (by intros; simp only [newW, isA, true_and])⟩⟩⟩⟩,
 ⟨⟨⟨(by intros; simp only [oldW, isA, true_and]),
 ⟨(by intros; simp only [newW, isA, true_and]),
 (by intros; simp only [oldW, isA, true_and])⟩⟩,
 ⟨⟨(by intros; simp only [newW, isA, true_and]),
 (by intros; simp only [oldW, isA, true_and])⟩,
 ⟨(by intros; simp only [newW, isA, true_and]),
 (by intros; simp only [oldW, isA, true_and])⟩⟩⟩,
 ⟨⟨⟨(by intros; simp only [newW, isA, true_and]),
 (by intros; simp only [oldW, isA, true_and])⟩,
 ⟨(by intros; simp only [newW, isA, true_and]),
 (by intros; simp only [oldW, isA, true_and])⟩⟩,
 ⟨⟨(by intros; simp only [newW, isA, true_and]),
 (by intros; simp only [oldW, isA, true_and])⟩,
 ⟨(by intros; simp only [newW, isA, true_and]),
 (by intros; rfl)⟩⟩⟩⟩⟩⟩
theorem wb9 :
 ((((((∀ C N n0 Q k h0 exc ops fuel listed R d nw τ h args ts, effW C N n0 Q k h0 exc ops fuel listed R d nw τ h (.call ⟨.builtin .len, args, ts⟩) = builtinW C (newN R d nw τ h) h .len (evs C τ args.toList) ts.toList) ∧
 ((∀ C N n0 R Q d items τ h xs ts, bltR C N n0 R Q d items τ h xs ts .cap = builtinW C (RunK R items d τ) h .cap xs ts) ∧
 (∀ C N n0 Q k h0 exc ops fuel listed R d nw τ h args ts, effW C N n0 Q k h0 exc ops fuel listed R d nw τ h (.call ⟨.builtin .cap, args, ts⟩) = builtinW C (newN R d nw τ h) h .cap (evs C τ args.toList) ts.toList))) ∧
 (((∀ C N n0 R Q d items τ h xs ts, bltR C N n0 R Q d items τ h xs ts .min = builtinW C (RunK R items d τ) h .min xs ts) ∧
 (∀ C N n0 Q k h0 exc ops fuel listed R d nw τ h args ts, effW C N n0 Q k h0 exc ops fuel listed R d nw τ h (.call ⟨.builtin .min, args, ts⟩) = builtinW C (newN R d nw τ h) h .min (evs C τ args.toList) ts.toList)) ∧
 ((∀ C N n0 R Q d items τ h xs ts, bltR C N n0 R Q d items τ h xs ts .max = builtinW C (RunK R items d τ) h .max xs ts) ∧
 (∀ C N n0 Q k h0 exc ops fuel listed R d nw τ h args ts, effW C N n0 Q k h0 exc ops fuel listed R d nw τ h (.call ⟨.builtin .max, args, ts⟩) = builtinW C (newN R d nw τ h) h .max (evs C τ args.toList) ts.toList)))) ∧
 ((((∀ C N n0 Q k h0 exc ops fuel listed R d nw τ h f args ts, effW C N n0 Q k h0 exc ops fuel listed R d nw τ h (.call ⟨.value f, args, ts⟩) = dcallR C N n0 Q k h0 exc ops fuel listed (evs C τ args.toList) d nw τ h (ev C τ f)) ∧
 (∀ C N n0 Q k h0 exc ops fuel listed R d nw τ h args ts, effW C N n0 Q k h0 exc ops fuel listed R d nw τ h (.call ⟨.builtin .append, args, ts⟩) = appR C (effN h0 exc R d nw τ h) (hide h0 exc h) (evs C τ args.toList) ts.toList)) ∧
 ((∀ C N n0 Q k h0 exc ops fuel listed R d nw τ h args ts, effW C N n0 Q k h0 exc ops fuel listed R d nw τ h (.call ⟨.builtin .copy, args, ts⟩) = dcopyR C N n0 Q k h0 exc ops fuel listed d nw τ h (evs C τ args.toList) ts.toList) ∧
 (∀ K h b i o v, ldV K h b i o (some (.s v)) = K (.s v) h))) ∧
 (((∀ K h b i o n e, ldV K h b i o (some (.f n e)) = K (.f n e) h) ∧
 (∀ K h b i o , ldV K h b i o (some (.z)) = K (.z) h)) ∧
 ((∀ K h b i o b2 o2 l2 c2, ldV K h b i o (some (.sl b2 o2 l2 c2)) = K (.sl b2 o2 l2 c2) h) ∧
 (∀ K h b i o b2 i2 o2, ldV K h b i o (some (.ptr b2 i2 o2)) = K (.ptr b2 i2 o2) h))))) ∧
 ((((∀ K h b i o cs, ldV K h b i o (some (.pd cs)) = K (.pd cs) h) ∧
 ((∀ K h b i o f cs, ldV K h b i o (some (.fn f cs)) = K (.fn f cs) h) ∧
 (∀ K h b i o , ldV K h b i o (some (.any)) = K (.any) h))) ∧
 (((∀ K R v, rsC K R (some (.s v)) = R fun vs => K ((.s v) :: vs)) ∧
 (∀ K R n e, rsC K R (some (.f n e)) = R fun vs => K ((.f n e) :: vs))) ∧
 ((∀ K R , rsC K R (some (.z)) = R fun vs => K ((.z) :: vs)) ∧
 (∀ K R b2 o2 l2 c2, rsC K R (some (.sl b2 o2 l2 c2)) = R fun vs => K ((.sl b2 o2 l2 c2) :: vs))))) ∧
 ((((∀ K R b2 i2 o2, rsC K R (some (.ptr b2 i2 o2)) = R fun vs => K ((.ptr b2 i2 o2) :: vs)) ∧
 (∀ K R cs, rsC K R (some (.pd cs)) = R fun vs => K ((.pd cs) :: vs))) ∧
 ((∀ K R f cs, rsC K R (some (.fn f cs)) = R fun vs => K ((.fn f cs) :: vs)) ∧
 (∀ v, notTup (.s v) = true))) ∧
 (((∀ n e, notTup (.f n e) = true) ∧
 (notTup (.z) = true)) ∧
 ((∀ b2 o2 l2 c2, notTup (.sl b2 o2 l2 c2) = true) ∧
 (∀ b2 i2 o2, notTup (.ptr b2 i2 o2) = true)))))) ∧
 (((((∀ cs, notTup (.pd cs) = true) ∧
 ((∀ f cs, notTup (.fn f cs) = true) ∧
 (notTup (.any) = true))) ∧
 (((∀ cs, notTup (.agg cs) = true) ∧
 (∀ r v, rnP r (.s v) = (.s v))) ∧
 ((∀ r v, rnC r (.s v) = (.s v)) ∧
 (∀ r v, rnQ r (.s v) = (.s v))))) ∧
 ((((∀ r v, rnV r (.s v) = (.s v)) ∧
 (∀ r n e, rnP r (.f n e) = (.f n e))) ∧
 ((∀ r n e, rnC r (.f n e) = (.f n e)) ∧
 (∀ r n e, rnQ r (.f n e) = (.f n e)))) ∧
 (((∀ r n e, rnV r (.f n e) = (.f n e)) ∧
 (∀ r , rnP r (.z) = (.z))) ∧
 ((∀ r , rnC r (.z) = (.z)) ∧
 (∀ r , rnQ r (.z) = (.z)))))) ∧
 ((((∀ r , rnV r (.z) = (.z)) ∧
 ((∀ r cs, rnP r (.pd cs) = (.pd cs)) ∧
 (∀ r cs, rnC r (.pd cs) = (.pd cs)))) ∧
 (((∀ r cs, rnQ r (.pd cs) = (.pd cs)) ∧
 (∀ r cs, rnV r (.pd cs) = (.pd cs))) ∧
 ((∀ r , rnP r (.any) = (.any)) ∧
 (∀ r , rnC r (.any) = (.any))))) ∧
 ((((∀ r , rnQ r (.any) = (.any)) ∧
 (∀ r , rnV r (.any) = (.any))) ∧
 ((∀ r n e, rnP r (.l n e) = (.l n e)) ∧
 (∀ r n e, rnC r (.l n e) = (.l n e)))) ∧
 (((∀ r n e, rnQ r (.l n e) = (.l n e)) ∧
 (∀ r n e, rnV r (.l n e) = (.l n e))) ∧
 ((∀ r cs, rnP r (.lp cs) = (.lp cs)) ∧
 (∀ r cs, rnC r (.lp cs) = (.lp cs)))))))) :=
 ⟨⟨⟨⟨⟨(by intros; rfl),
 ⟨(by intros; rfl),
 (by intros; rfl)⟩⟩,
 ⟨⟨(by intros; rfl),
 (by intros; rfl)⟩,
 ⟨(by intros; rfl),
 (by intros; rfl)⟩⟩⟩,
 ⟨⟨⟨(by intros; rfl),
 (by intros; rfl)⟩,
 ⟨(by intros; rfl),
 (by intros; rfl)⟩⟩,
 ⟨⟨(by intros; rfl),
 (by intros; rfl)⟩,
 ⟨(by intros; rfl),
 (by intros; rfl)⟩⟩⟩⟩,
 ⟨⟨⟨(by intros; rfl),
 ⟨(by intros; rfl),
 (by intros; rfl)⟩⟩,
 ⟨⟨(by intros; simp only [rsC, notTup, true_and]),
 (by intros; simp only [rsC, notTup, true_and])⟩,
 ⟨(by intros; simp only [rsC, notTup, true_and]),
 (by intros; simp only [rsC, notTup, true_and])⟩⟩⟩,
 ⟨⟨⟨(by intros; simp only [rsC, notTup, true_and]),
 (by intros; simp only [rsC, notTup, true_and])⟩,
 ⟨(by intros; simp only [rsC, notTup, true_and]),
 (by intros; rfl)⟩⟩,
 ⟨⟨(by intros; rfl),
 (by intros; rfl)⟩,
 ⟨(by intros; rfl),
 (by intros; rfl)⟩⟩⟩⟩⟩,
 ⟨⟨⟨⟨(by intros; rfl),
 ⟨(by intros; rfl),
 (by intros; rfl)⟩⟩,
 ⟨⟨(by intros; rfl),
 (by intros; rfl)⟩,
 ⟨(by intros; rfl),
 (by intros; rfl)⟩⟩⟩,
 ⟨⟨⟨(by intros; rfl),
 (by intros; rfl)⟩,
 ⟨(by intros; rfl),
 (by intros; rfl)⟩⟩,
 ⟨⟨(by intros; rfl),
 (by intros; rfl)⟩,
 ⟨(by intros; rfl),
 (by intros; rfl)⟩⟩⟩⟩,
 ⟨⟨⟨(by intros; rfl),
 ⟨(by intros; rfl),
 (by intros; rfl)⟩⟩,
 ⟨⟨(by intros; rfl),
 (by intros; rfl)⟩,
 ⟨(by intros; rfl),
 (by intros; rfl)⟩⟩⟩,
 ⟨⟨⟨(by intros; rfl),
 (by intros; rfl)⟩,
 ⟨(by intros; rfl),
 (by intros; rfl)⟩⟩,
 ⟨⟨(by intros; rfl),
 (by intros; rfl)⟩,
 ⟨(by intros; rfl),
 (by intros; rfl)⟩⟩⟩⟩⟩⟩
theorem wb10 :
 ((((((∀ r cs, rnQ r (.lp cs) = (.lp cs)) ∧
 ((∀ r cs, rnV r (.lp cs) = (.lp cs)) ∧
 (∀ r b off len cap, rnC r (.sl b off len cap) = (.sl (r b) off len cap)))) ∧
 (((∀ r b off len cap, rnQ r (.sl b off len cap) = (.sl (r b) off len cap)) ∧
 (∀ r b off len cap, rnV r (.sl b off len cap) = (.sl (r b) off len cap))) ∧
 ((∀ r b i o, rnC r (.ptr b i o) = (.ptr (r b) i o)) ∧
 (∀ r b i o, rnQ r (.ptr b i o) = (.ptr (r b) i o))))) ∧
 ((((∀ r b i o, rnV r (.ptr b i o) = (.ptr (r b) i o)) ∧
 (∀ r f cs, rnQ r (.fn f cs) = .fn f (cs.map (rnP r)))) ∧
 ((∀ r f cs, rnV r (.fn f cs) = .fn f (cs.map (rnP r))) ∧
 (∀ r cs, rnV r (.agg cs) = .agg (cs.map (rnC r))))) ∧
 (((∀ id c k, popTo id (.code c :: k) = popTo id k) ∧
 (∀ id a b k, popTo id (.ops a b :: k) = popTo id k)) ∧
 ((∀ n0 R h, tupOf n0 R h [] = Up n0 R (.ret (.tup [])) h) ∧
 (∀ n0 R h a b r, tupOf n0 R h (a :: b :: r) = ((a :: b :: r).all notTup = true ∧ Up n0 R (.ret (.tup (a :: b :: r))) h)))))) ∧
 ((((∀ k n, ofV (.int k n) = .s (.int k n)) ∧
 ((∀ k n, ofV1 (.int k n) = .s (.int k n)) ∧
 (∀ k n, isNil (.const (.int k n)) = .no))) ∧
 (((∀ b, ofV (.bool b) = .s (.bool b)) ∧
 (∀ b, ofV1 (.bool b) = .s (.bool b))) ∧
 ((∀ b, isNil (.const (.bool b)) = .no) ∧
 (∀ x, ofV (.string x) = .s (.string x))))) ∧
 ((((∀ x, ofV1 (.string x) = .s (.string x)) ∧
 (∀ x, isNil (.const (.string x)) = .no)) ∧
 ((ofV (.pointer none) = .s (.pointer none)) ∧
 (ofV1 (.pointer none) = .s (.pointer none)))) ∧
 (((isNil (.const (.pointer none)) = .no) ∧
 (ofV (.nilIface) = .s (.nilIface))) ∧
 ((ofV1 (.nilIface) = .s (.nilIface)) ∧
 (ofV (.nilFunc) = .s (.nilFunc))))))) ∧
 (((((ofV1 (.nilFunc) = .s (.nilFunc)) ∧
 ((isNil (.const (.nilFunc)) = .no) ∧
 (∀ t v, ofV (.iface t v) = .s (.iface t v)))) ∧
 (((∀ t v, ofV1 (.iface t v) = .s (.iface t v)) ∧
 (∀ t v, isNil (.const (.iface t v)) = .no)) ∧
 ((ofV (.map none) = .s (.map none)) ∧
 (ofV1 (.map none) = .s (.map none))))) ∧
 ((((isNil (.const (.map none)) = .no) ∧
 (ofV (.slice none 0 0) = .z)) ∧
 ((∀ t, isNil (.tmp t) = .no) ∧
 (∀ f, isNil (.func f) = .no))) ∧
 (((∀ g, isNil (.global g) = .no) ∧
 (∀ cs, isNil (.const (.agg cs)) = .no)) ∧
 ((∀ place cells rest off size xs, fillS place cells rest (some (off, size)) (some xs) = if xs.length = size ∧ off + xs.length ≤ cells.length then fillV place (wrL cells off xs) rest else none) ∧
 (∀ n els i rest xs, fillES n els i rest (some xs) = if xs.length = n ∧ i < els.length then fillE n (els.set i xs) rest else none))))) ∧
 ((((∀ b l, bytesS (some b) (some l) = some (b :: l)) ∧
 ((∀ v l, scalS v (some l) = some (v :: l)) ∧
 (∀ n0 k h n els, frzL n0 k h (some n) (some els) = .f n (els.map fun el => el.map (frz n0 k h))))) ∧
 (((∀ n0 k h o el, frzP n0 k h o (some el) = .pd ((el.drop o).map (frz n0 k h))) ∧
 (∀ h b i o x b1, foldS1 h b i o x (some b1) = foldS2 h b i o b1 (ownOf x (h[b1]?)))) ∧
 ((∀ h b i o b1 y, foldS2 h b i o b1 (some y) = if nrs (elsB (h[b1]?)) = true ∧ b1 ≠ b then (wrH h b i o [y]).set b1 Blk.dead else h) ∧
 (nrs [] = true)))) ∧
 ((((∀ el r, nrs (el :: r) = (el.all nr && nrs r)) ∧
 (leafs [] = true)) ∧
 ((∀ el r, leafs (el :: r) = (el.all cellOk && leafs r)) ∧
 (∀ K h C t u s x e, appE K h C t u s x (some e) = (t = u ∧ appT K h s x (tSz C.P e) (tBytes C.P e) (tZ C.P e))))) ∧
 (((∀ (K : V → H → Prop) (h : H) (C : Cx) (t u : TypeId) (s x : V), appW K h C t u s x = appE K h C t u s x (tElem C.P t)) ∧
 (∀ (R : List Nat → Tau → H → Prop) (d : Option Nat) (nw : List Nat) (τ : Tau) (h : H) (v : V) (h' : H), oldN R d nw τ h v h' = R nw (upo d v τ) h)) ∧
 ((∀ (R : List Nat → Tau → H → Prop) (d : Option Nat) (nw : List Nat) (τ : Tau) (h : H) (v : V) (h' : H), newN R d nw τ h v h' = R (addN d nw) (upo d v τ) h) ∧
 (∀ (t : Nat), ([] : List Nat).contains t = false))))))) :=
 ⟨⟨⟨⟨⟨(by intros; rfl),
 ⟨(by intros; rfl),
 (by intros; rfl)⟩⟩,
 ⟨⟨(by intros; rfl),
 (by intros; rfl)⟩,
 ⟨(by intros; rfl),
 (by intros; rfl)⟩⟩⟩,
 ⟨⟨⟨(by intros; rfl),
 (by intros; rfl)⟩,
 ⟨(by intros; rfl),
 (by intros; rfl)⟩⟩,
 ⟨⟨(by intros; rfl),
 (by intros; rfl)⟩,
 ⟨(by intros; simp only [tupOf, List.all_nil, true_and]),
 (by intros; rfl)⟩⟩⟩⟩,
 ⟨⟨⟨(by intros; rfl),
 ⟨(by intros; rfl),
 (by intros; rfl)⟩⟩,
 ⟨⟨(by intros; rfl),
 (by intros; rfl)⟩,
 ⟨(by intros; rfl),
 (by intros; rfl)⟩⟩⟩,
 ⟨⟨⟨(by intros; rfl),
 (by intros; rfl)⟩,
 ⟨(by intros; rfl),
 (by intros; rfl)⟩⟩,
 ⟨⟨(by intros; rfl),
 (by intros; rfl)⟩,
 ⟨(by intros; rfl),
 (by intros; rfl)⟩⟩⟩⟩⟩,
 ⟨⟨⟨⟨(by intros; rfl),
 ⟨(by intros; rfl),
 (by intros; rfl)⟩⟩,
 ⟨⟨(by intros; rfl),
 (by intros; rfl)⟩,
 ⟨(by intros; rfl),
 (by intros; rfl)⟩⟩⟩,
 ⟨⟨⟨(by intros; rfl),
 (by intros; rfl)⟩,
 ⟨(by intros; rfl),
 (by intros; rfl)⟩⟩,
 ⟨⟨(by intros; rfl),
 (by intros; rfl)⟩,
 ⟨(by intros; rfl),
 (by intros; rfl)⟩⟩⟩⟩,
 ⟨⟨⟨(by intros; rfl),
 ⟨(by intros; rfl),
 (by intros; rfl)⟩⟩,
 ⟨⟨(by intros; rfl),
 (by intros; rfl)⟩,
 ⟨(by intros; rfl),
 (by intros; rfl)⟩⟩⟩,
 ⟨⟨⟨(by intros; rfl),
 (by intros; rfl)⟩,
 ⟨(by intros; rfl),
 (by intros; rfl)⟩⟩,
 ⟨⟨appW_at,
 oldN_at⟩,
 ⟨newN_at,
 mem_nil⟩⟩⟩⟩⟩⟩
theorem wb11 :
 ((((((∀ (a : Nat) (l : List Nat) (t : Nat), (a :: l).contains t = (t == a || l.contains t)) ∧
 (∀ (place : Nat → Option (Nat × Nat)) (cells : List V) (i : Nat) (v : V) (rest : List (Nat × V)), fillV place cells ((i, v) :: rest) = fillS place cells rest (place i) (cellsOf v))) ∧
 ((∀ (n : Nat) (els : List (List V)) (i : Nat) (v : V) (rest : List (Nat × V)), fillE n els ((i, v) :: rest) = fillES n els i rest (cellsOf v)) ∧
 (∀ (p b k r : Bool), andO p b k (some r) = if k = true then some (p && r) else none))) ∧
 (((∀ (k : IntKind) (a : Int) (xs : List V) (k' : IntKind) (b : Int) (ys : List V), eqCells (.s (.int k a) :: xs) (.s (.int k' b) :: ys) = andO (decide (a = b)) true (decide (k = k')) (eqCells xs ys)) ∧
 (∀ (a b : ByteArray) (xs ys : List V), eqCells (.s (.string a) :: xs) (.s (.string b) :: ys) = andO (decide (a = b)) true true (eqCells xs ys))) ∧
 ((∀ (a b : Bool) (xs ys : List V), eqCells (.s (.bool a) :: xs) (.s (.bool b) :: ys) = andO (a == b) true true (eqCells xs ys)) ∧
 (∀ (el : List V) (r : List (List V)), bytesOf (el :: r) = bytesS (byteOf el) (bytesOf r))))) ∧
 ((((∀ (v : Value) (r : List V), scal (.s v :: r) = scalS v (scal r)) ∧
 (∀ (n0 k : Nat) (h : H) (b off len cap : Nat), frz n0 (k + 1) h (.sl b off len cap) = if b < n0 then .any else frzL n0 k h (strideB (h[b]?)) (elsOf off len (h[b]?)))) ∧
 ((∀ (n0 k : Nat) (h : H) (b i o : Nat), frz n0 (k + 1) h (.ptr b i o) = if b < n0 then .any else frzP n0 k h o (rdB (h[b]?) i)) ∧
 (∀ (h : H) (b i o : Nat) (x : V), foldK h b i o (some x) = foldS1 h b i o x (refB x)))) ∧
 (((∀ (d : Nat) (v : V) (τ : Tau) (t : Nat), up d v τ t = if t = d then v else τ t) ∧
 (∀ (v : V) (r : List V) (t : Nat), argsT (v :: r) (t + 1) = argsT r t)) ∧
 ((∀ (v : V) (r : List V), argsT (v :: r) 0 = v) ∧
 (∀ (d : Option Nat) (op : Op) (ty : TypeId) (pos : String) after g (r : List Oper), dstOf (⟨d, op, ty, pos, after, g⟩ :: r) 0 = d))))) ∧
 (((((∀ (o : Oper) (r : List Oper) (j : Nat), dstOf (o :: r) (j + 1) = dstOf r j) ∧
 (∀ (all : List Oper) (τ : Tau) (j : Nat), gV all τ j = gW τ (dstOf all j))) ∧
 ((∀ (all : List Oper) (j : Nat) (b : Bool) (τ : Tau), gSet all j b τ = gS b τ (dstOf all j)) ∧
 (∀ (h : H) (b i o : Nat) (xs : List V), wrH h b i o xs = h.set b (wrB (h[b]?) i o xs)))) ∧
 (((∀ (R : List It → Tau → H → Prop) (items : List It) (d : Option Nat) (τ : Tau) (v : V) (h : H), RunK R items d τ v h = R items (upo d v τ) h) ∧
 (∀ (h0 : H) (exc : List Nat) (R : List Nat → Tau → H → Prop) (d : Option Nat) (nw : List Nat) (τ : Tau) (h : H) (v : V) (h' : H), effN h0 exc R d nw τ h v h' = R (addN d nw) (upo d v τ) (show_ h0 exc h h'))) ∧
 ((∀ (nw : List Nat) (τ : Tau) (t : Nat), restr nw τ t = if nw.contains t = true then .any else τ t) ∧
 (∀ (n : Nat) (exc : List Nat) (i : Nat), hid n exc i = (decide (i < n) && !exc.contains i))))) ∧
 ((((∀ (h0 : H) (exc : List Nat) (h : H), hide h0 exc h = mask h0.length exc 0 h) ∧
 (∀ (h0 : H) (exc : List Nat) (h h' : H), show_ h0 exc h h' = unmask h0.length exc 0 h h')) ∧
 ((∀ (r : Nat → Nat) (els : List (List V)) (n cap : Nat) (l : Bool), rnB r ⟨els, n, cap, l⟩ = ⟨els.map fun el => el.map (rnC r), n, cap, l⟩) ∧
 (∀ (h : H) (b i o : Nat), foldC h b i o = foldK h b i o (rdC (rdB (h[b]?) i) o)))) ∧
 (((∀ (l : List Nat) (L b : Nat), emb l L b = (l[b]?).getD (L + (b - l.length))) ∧
 (∀ (n0 : Nat) (h : H), killFrom n0 h = h.take n0 ++ (h.drop n0).map fun _ => Blk.dead)) ∧
 ((∀ (K : V → H → Prop) (h : H) (s : ByteArray) (l r : Int), cutS K h s l r = ((0 ≤ l ∧ l ≤ r ∧ r ≤ s.size) ∧ K (.s (.string (s.extract l.toNat r.toNat))) h)) ∧
 ((∀ (K : V → H → Prop) (h : H) (n : Nat) (els : List (List V)) (l r : Int), cutF K h n els l r = ((0 ≤ l ∧ l ≤ r ∧ r ≤ els.length) ∧ K (.f n ((els.drop l.toNat).take (r.toNat - l.toNat))) h)) ∧
 (∀ (l : List Nat) (big b : Nat), nm l big b = (l[b]?).getD big))))))) :=
 ⟨⟨⟨⟨⟨mem_cons,
 fillV_cons⟩,
 ⟨fillE_cons,
 andO_some⟩⟩,
 ⟨⟨eqCells_int,
 eqCells_str⟩,
 ⟨eqCells_bool,
 bytesOf_cons⟩⟩⟩,
 ⟨⟨⟨scal_cons,
 frz_sl⟩,
 ⟨frz_ptr,
 foldK_some⟩⟩,
 ⟨⟨up_at,
 argsT_at⟩,
 ⟨argsT_zero,
 dstOf_zero⟩⟩⟩⟩,
 ⟨⟨⟨⟨dstOf_succ,
 gV_at⟩,
 ⟨gSet_at,
 wrH_at⟩⟩,
 ⟨⟨runK_at,
 effN_at⟩,
 ⟨restr_at,
 hid_at⟩⟩⟩,
 ⟨⟨⟨hide_at,
 show_at⟩,
 ⟨rnB_at,
 foldC_at⟩⟩,
 ⟨⟨emb_at,
 killFrom_at⟩,
 ⟨cutS_at,
 ⟨cutF_at,
 nm_at⟩⟩⟩⟩⟩⟩
-- groups: wb1 wb2 wb3 wb4 wb5 wb6 wb7 wb8 wb9 wb10 wb11
end Go.W
