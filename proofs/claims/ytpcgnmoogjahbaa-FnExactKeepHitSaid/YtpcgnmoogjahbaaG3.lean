/- What functions of the program answer, walked on the abstract layer, and closed facts of the program; the conditions stand in each theorem. -/
import Derived.Test.YtpcgnmoogjahbaaG2
import Derived.ChangeSlices
import Derived.OpenShut
import Derived.Test.YtpcgnmoogjahbaaProg
/- part WB -/
set_option linter.unusedVariables false
set_option linter.unusedSimpArgs false
set_option maxRecDepth 100000
namespace Go.W
open Go Go.RowKit

/-! ### The equations of the walk, in one -/
theorem wb1 :
 ((((((∀ (C : Cx) (K : V → H → Prop) (h : H) (fo : Nat) (ft : Go.TypeId) (b i o : Nat), faK C K h (some (fo, ft)) (V.ptr b i o) = ((∃ n, tSz C.P ft = some (n + 1)) ∧ K (V.ptr b i (o + fo)) h)) ∧
 ((∀ (C : Cx) (K : V → H → Prop) (h : H) (fo : Nat) (ft : Go.TypeId) (cs : List V), faK C K h (some (fo, ft)) (V.pd cs) = ((∃ n, tSz C.P ft = some (n + 1)) ∧ K (V.pd (List.drop fo cs)) h)) ∧
 (∀ (K : V → H → Prop) (h : H) (C : Cx) (t u e : Go.TypeId) (s x : V) (k : Go.IntKind), appF K h C t u e s x (TK.int k) = mkA K h s x (tSz C.P e) (tBytes C.P e) (tZ C.P e)))) ∧
 (((∀ (K : V → H → Prop) (h : H) (n by_ : Nat) (z : List V) (b len cap : Nat) (k : Go.IntKind) (m : Int), mkA K h (V.sl b 0 len cap) (V.s (Go.Value.int k m)) (some n) (some by_) (some z) = ((z.length = n ∧ 0 < n ∧ 0 < m ∧ m ≤ 4611686018427387904 ∧ blkIs n cap len h[b]? ∧ cap < len + m.toNat ∧ (len + m.toNat) * by_ ≤ 140737488355328 ∧ len + m.toNat ≤ LIM ∧ leafs (keptB len h[b]?) = true) ∧ ∀ (cap' : Nat), len + m.toNat ≤ cap' → K (V.sl (List.length h) 0 (len + m.toNat) cap') (h ++ [{ els := keptB len h[b]? ++ List.replicate m.toNat z, n := n, cap := cap', live := true }]))) ∧
 (∀ (x : Nat) (els : List (List V)) (n cap : Nat), rdB (some { els := els, n := n, cap := cap, live := true }) x = els[x]?)) ∧
 ((∀ (x : Nat) (el : List V), rdC (some el) x = el[x]?) ∧
 (∀ (x : Nat), rdC none x = none)))) ∧
 ((((∀ (x x_1 : Nat) (el : List V), rdN (some el) x x_1 = if x + x_1 ≤ el.length then some (List.take x_1 (List.drop x el)) else none) ∧
 (∀ (x x_1 : Nat), rdN none x x_1 = none)) ∧
 ((∀ {α : Type} (x : List α) (x_1 : Nat), wrL x x_1 [] = x) ∧
 (∀ {α : Type} (x : List α) (x_1 : Nat) (x_3 : α) (xs : List α), wrL x x_1 (x_3 :: xs) = wrL (x.set x_1 x_3) (x_1 + 1) xs))) ∧
 (((∀ (x : Nat) (x_1 el : List V), wrE (some el) x x_1 = wrL el x x_1) ∧
 (∀ (x : Nat) (x_1 : List V), wrE none x x_1 = x_1)) ∧
 ((∀ (x x_1 : Nat) (x_2 : List V) (els : List (List V)) (n cap : Nat) (l : Bool), wrB (some { els := els, n := n, cap := cap, live := l }) x x_1 x_2 = { els := els.set x (wrE els[x]? x_1 x_2), n := n, cap := cap, live := l }) ∧
 (∀ (x x_1 : Nat) (x_2 : List V), wrB none x x_1 x_2 = Blk.dead))))) ∧
 ((((∀ (els : List (List V)) (n cap : Nat), strideB (some { els := els, n := n, cap := cap, live := true }) = some n) ∧
 ((∀ (val : Nat), isN (some val) = True) ∧
 (isN none = False))) ∧
 (((∀ (a b : Nat), sameN (some a) (some b) = (a = b)) ∧
 (∀ (v : Go.Value), cellOk (V.s v) = true)) ∧
 ((∀ (n : Nat) (els : List (List V)), cellOk (V.f n els) = true) ∧
 (cellOk V.z = true)))) ∧
 ((((∀ (b off len cap : Nat), cellOk (V.sl b off len cap) = true) ∧
 (∀ (b i o : Nat), cellOk (V.ptr b i o) = true)) ∧
 ((∀ (cs : List V), cellOk (V.pd cs) = true) ∧
 (∀ (f : Nat) (caps : List V), cellOk (V.fn f caps) = true))) ∧
 (((∀ (cs : List V), cellsOf (V.agg cs) = if cs.all cellOk = true then some cs else none) ∧
 (∀ (v : Go.Value), cellsOf (V.s v) = some [V.s v])) ∧
 ((∀ (n : Nat) (e : List (List V)), cellsOf (V.f n e) = some [V.f n e]) ∧
 (cellsOf V.z = some [V.z])))))) ∧
 (((((∀ (b o l c : Nat), cellsOf (V.sl b o l c) = some [V.sl b o l c]) ∧
 ((∀ (b i o : Nat), cellsOf (V.ptr b i o) = some [V.ptr b i o]) ∧
 (∀ (c : List V), cellsOf (V.pd c) = some [V.pd c]))) ∧
 (((∀ (f : Nat) (c : List V), cellsOf (V.fn f c) = some [V.fn f c]) ∧
 (∀ (place : Nat → Option (Nat × Nat)) (cells : List V), fillV place cells [] = some cells)) ∧
 ((∀ (n : Nat) (els : List (List V)), fillE n els [] = some els) ∧
 (∀ (C : Cx) (τ : Tau), partsV C τ [] = [])))) ∧
 ((((∀ (C : Cx) (τ : Tau) (p : Nat × Go.Operand) (r : List (Nat × Go.Operand)), partsV C τ (p :: r) = (p.fst, ev C τ p.snd) :: partsV C τ r) ∧
 (∀ (C : Cx) (τ : Tau), evs C τ [] = [])) ∧
 ((∀ (C : Cx) (τ : Tau) (x_1 : Go.Operand) (r : List Go.Operand), evs C τ (x_1 :: r) = ev C τ x_1 :: evs C τ r) ∧
 (∀ (x x_1 : V), pickV true x x_1 = x))) ∧
 (((∀ (x x_1 : V), pickV false x x_1 = x_1) ∧
 (∀ (K : V → H → Prop) (h : H) (x y : V) (t : Bool), pickK K h x y (V.s (Go.Value.bool t)) = K (pickV t x y) h)) ∧
 ((∀ (K : V → H → Prop) (h : H) (xs : List V), allocK K h (some xs) = K (V.ptr (List.length h) 0 0) (h ++ [{ els := [xs], n := xs.length, cap := 1, live := true }])) ∧
 (∀ (K : V → H → Prop) (h : H), allocK K h none = False))))) ∧
 ((((∀ (K : V → H → Prop) (h : H) (xs : List V), boxK K h (some xs) = K (V.ptr (List.length h) 0 0) (h ++ [{ els := [xs], n := xs.length, cap := 1, live := true }])) ∧
 ((∀ (K : V → H → Prop) (h : H), boxK K h none = False) ∧
 (∀ (K : V → H → Prop) (h : H) (xs : List V), buildK1 K h (some xs) = K (V.agg xs) h))) ∧
 (((∀ (K : V → H → Prop) (h : H), buildK1 K h none = False) ∧
 (∀ (K : V → H → Prop) (h : H) (place : Nat → Option (Nat × Nat)) (ps : List (Nat × V)) (z : List V), buildK K h place ps true (some z) = buildK1 K h (fillV place z ps))) ∧
 ((∀ (K : V → H → Prop) (h : H) (n len : Nat) (els : List (List V)), bsK2 K h n len (some els) = ((len * n ≤ 16777216 ∧ len ≤ 16777216) ∧ K (V.sl (List.length h) 0 len len) (h ++ [{ els := els, n := n, cap := len, live := true }]))) ∧
 (∀ (K : V → H → Prop) (h : H) (n len : Nat), bsK2 K h n len none = False)))) ∧
 ((((∀ (K : V → H → Prop) (h : H) (len : Nat) (ps : List (Nat × V)) (n : Nat) (z : List V), bsK1 K h len ps (some n) (some z) = (z.length = n ∧ bsK2 K h n len (fillE n (List.replicate len z) ps))) ∧
 (∀ (C : Cx) (K : V → H → Prop) (h : H) (len : Nat) (ps : List (Nat × V)) (e : Go.TypeId), bsK C K h len ps (some e) = bsK1 K h len ps (tSz C.P e) (tZ C.P e))) ∧
 ((∀ (C : Cx) (K : V → H → Prop) (h : H) (len : Nat) (ps : List (Nat × V)), bsK C K h len ps none = False) ∧
 (∀ (K : V → H → Prop) (h : H) (b i o n : Nat) (els : List (List V)), ldV K h b i o (some (V.l n els)) = ∀ (cap : Nat), els.length ≤ cap → K (V.sl (List.length h) 0 els.length cap) (wrH h b i o [V.sl (List.length h) 0 els.length cap] ++ [{ els := els, n := n, cap := cap, live := true }])))) ∧
 (((∀ (K : V → H → Prop) (h : H) (b i o : Nat) (cs : List V), ldV K h b i o (some (V.lp cs)) = K (V.ptr (List.length h) 0 0) (wrH h b i o [V.ptr (List.length h) 0 0] ++ [{ els := [cs], n := cs.length, cap := 1, live := true }])) ∧
 (∀ (K : V → H → Prop) (h : H) (b i o : Nat), ldV K h b i o none = False)) ∧
 ((∀ (K : V → H → Prop) (h : H) (xs : List V), ldA K h (some xs) = (xs.all cellOk = true ∧ K (V.agg xs) h)) ∧
 (∀ (K : V → H → Prop) (h : H), ldA K h none = False))))))) :=
 ⟨⟨⟨⟨⟨@faK.eq_1,
 ⟨@faK.eq_2,
 @appF.eq_1⟩⟩,
 ⟨⟨@mkA.eq_1,
 @rdB.eq_1⟩,
 ⟨@rdC.eq_1,
 @rdC.eq_2⟩⟩⟩,
 ⟨⟨⟨@rdN.eq_1,
 @rdN.eq_2⟩,
 ⟨@wrL.eq_1,
 @wrL.eq_2⟩⟩,
 ⟨⟨@wrE.eq_1,
 @wrE.eq_2⟩,
 ⟨@wrB.eq_1,
 @wrB.eq_2⟩⟩⟩⟩,
 ⟨⟨⟨@strideB.eq_1,
 ⟨@isN.eq_1,
 @isN.eq_2⟩⟩,
 ⟨⟨@sameN.eq_1,
 @cellOk.eq_1⟩,
 ⟨@cellOk.eq_2,
 @cellOk.eq_3⟩⟩⟩,
 ⟨⟨⟨@cellOk.eq_4,
 @cellOk.eq_5⟩,
 ⟨@cellOk.eq_6,
 @cellOk.eq_7⟩⟩,
 ⟨⟨@cellsOf.eq_1,
 @cellsOf.eq_2⟩,
 ⟨@cellsOf.eq_3,
 @cellsOf.eq_4⟩⟩⟩⟩⟩,
 ⟨⟨⟨⟨@cellsOf.eq_5,
 ⟨@cellsOf.eq_6,
 @cellsOf.eq_7⟩⟩,
 ⟨⟨@cellsOf.eq_8,
 @fillV.eq_1⟩,
 ⟨@fillE.eq_1,
 @partsV.eq_1⟩⟩⟩,
 ⟨⟨⟨@partsV.eq_2,
 @evs.eq_1⟩,
 ⟨@evs.eq_2,
 @pickV.eq_1⟩⟩,
 ⟨⟨@pickV.eq_2,
 @pickK.eq_1⟩,
 ⟨@allocK.eq_1,
 @allocK.eq_2⟩⟩⟩⟩,
 ⟨⟨⟨@boxK.eq_1,
 ⟨@boxK.eq_2,
 @buildK1.eq_1⟩⟩,
 ⟨⟨@buildK1.eq_2,
 @buildK.eq_1⟩,
 ⟨@bsK2.eq_1,
 @bsK2.eq_2⟩⟩⟩,
 ⟨⟨⟨@bsK1.eq_1,
 @bsK.eq_1⟩,
 ⟨@bsK.eq_2,
 @ldV.eq_1⟩⟩,
 ⟨⟨@ldV.eq_2,
 @ldV.eq_4⟩,
 ⟨@ldA.eq_1,
 @ldA.eq_2⟩⟩⟩⟩⟩⟩
theorem wb2 :
 ((((((∀ (K : V → H → Prop) (h : H) (b i o n : Nat), ldT K h b i o (some true) (some n) = ldA K h (rdN (rdB h[b]? i) o n)) ∧
 ((∀ (K : V → H → Prop) (h : H) (b i o : Nat) (x : Option Nat), ldT K h b i o (some false) x = ldV K h b i o (rdC (rdB h[b]? i) o)) ∧
 (∀ (K : V → H → Prop) (h : H) (v : V), ldC K h (some v) = K v h))) ∧
 (((∀ (K : V → H → Prop) (h : H), ldC K h none = False) ∧
 (∀ (K : V → H → Prop) (h : H) (cs : List V) (n : Nat), ldF K h cs (some true) (some n) = ldA K h (rdN (some cs) 0 n))) ∧
 ((∀ (K : V → H → Prop) (h : H) (cs : List V) (x : Option Nat), ldF K h cs (some false) x = ldC K h cs[0]?) ∧
 (∀ (C : Cx) (K : V → H → Prop) (h : H) (t : Go.TypeId) (b i o : Nat), ldK C K h t (V.ptr b i o) = ldT K h b i o (tAgg C.P t) (tSz C.P t))))) ∧
 ((((∀ (C : Cx) (K : V → H → Prop) (h : H) (t : Go.TypeId) (cs : List V), ldK C K h t (V.pd cs) = ldF K h cs (tAgg C.P t) (tSz C.P t)) ∧
 (∀ (x x_1 : Nat) (el : List V), fitsB (some el) x x_1 = (x + x_1 ≤ el.length))) ∧
 ((∀ (x x_1 : Nat), fitsB none x x_1 = False) ∧
 (∀ (K : V → H → Prop) (h : H) (b i o : Nat) (sz : Option Nat) (xs : List V), stA K h b i o sz (some xs) = ((sz = some xs.length ∧ fitsB (rdB h[b]? i) o xs.length) ∧ K V.any (wrH h b i o xs))))) ∧
 (((∀ (K : V → H → Prop) (h : H) (b i o : Nat) (sz : Option Nat), stA K h b i o sz none = False) ∧
 (∀ (C : Cx) (K : V → H → Prop) (h : H) (t : Go.TypeId) (x : V) (b i o : Nat), stK C K h t x (V.ptr b i o) = stA K h b i o (tSz C.P t) (cellsOf x))) ∧
 ((∀ (K : V → H → Prop) (h : H) (b i o : Nat), nilK K h (V.ptr b i o) = K (V.ptr b i o) h) ∧
 (∀ (K : V → H → Prop) (h : H) (cs : List V), nilK K h (V.pd cs) = K (V.pd cs) h))))) ∧
 ((((∀ (K : V → H → Prop) (h : H) (f : Nat) (cs : List V), nilK K h (V.fn f cs) = K (V.fn f cs) h) ∧
 ((∀ (K : V → H → Prop) (h : H) (b off len cap : Nat), nilK K h (V.sl b off len cap) = K (V.sl b off len cap) h) ∧
 (∀ (K : V → H → Prop) (h : H) (k : Go.IntKind) (a : Int) (k' : Go.IntKind) (b : Int), intB K h k a k' b Go.BinOp.shr = ((0 ≤ b ∧ b ≤ ↑k.bits) ∧ K (V.s (Go.Value.int k (a / 2 ^ b.toNat))) h)))) ∧
 (((∀ (K : V → H → Prop) (h : H) (k : Go.IntKind) (a : Int) (k' : Go.IntKind) (b : Int), intB K h k a k' b Go.BinOp.add = (k = k' ∧ K (V.s (Go.Value.int k (k.wrap (a + b)))) h)) ∧
 (∀ (K : V → H → Prop) (h : H) (k : Go.IntKind) (a : Int) (k' : Go.IntKind) (b : Int), intB K h k a k' b Go.BinOp.sub = (k = k' ∧ K (V.s (Go.Value.int k (k.wrap (a - b)))) h))) ∧
 ((∀ (K : V → H → Prop) (h : H) (k : Go.IntKind) (a : Int) (k' : Go.IntKind) (b : Int), intB K h k a k' b Go.BinOp.mul = (k = k' ∧ K (V.s (Go.Value.int k (k.wrap (a * b)))) h)) ∧
 (∀ (K : V → H → Prop) (h : H) (k : Go.IntKind) (a : Int) (k' : Go.IntKind) (b : Int), intB K h k a k' b Go.BinOp.quo = ((k = k' ∧ b ≠ 0) ∧ K (V.s (Go.Value.int k (k.wrap (a.tdiv b)))) h))))) ∧
 ((((∀ (K : V → H → Prop) (h : H) (k : Go.IntKind) (a : Int) (k' : Go.IntKind) (b : Int), intB K h k a k' b Go.BinOp.rem = ((k = k' ∧ b ≠ 0) ∧ K (V.s (Go.Value.int k (a.tmod b))) h)) ∧
 (∀ (K : V → H → Prop) (h : H) (k : Go.IntKind) (a : Int) (k' : Go.IntKind) (b : Int), intB K h k a k' b Go.BinOp.eql = (k = k' ∧ K (V.s (Go.Value.bool (decide (a = b)))) h))) ∧
 ((∀ (K : V → H → Prop) (h : H) (k : Go.IntKind) (a : Int) (k' : Go.IntKind) (b : Int), intB K h k a k' b Go.BinOp.neq = (k = k' ∧ K (V.s (Go.Value.bool !decide (a = b))) h)) ∧
 (∀ (K : V → H → Prop) (h : H) (k : Go.IntKind) (a : Int) (k' : Go.IntKind) (b : Int), intB K h k a k' b Go.BinOp.lss = (k = k' ∧ K (V.s (Go.Value.bool (decide (a < b)))) h)))) ∧
 (((∀ (K : V → H → Prop) (h : H) (k : Go.IntKind) (a : Int) (k' : Go.IntKind) (b : Int), intB K h k a k' b Go.BinOp.leq = (k = k' ∧ K (V.s (Go.Value.bool (decide (a ≤ b)))) h)) ∧
 (∀ (K : V → H → Prop) (h : H) (k : Go.IntKind) (a : Int) (k' : Go.IntKind) (b : Int), intB K h k a k' b Go.BinOp.gtr = (k = k' ∧ K (V.s (Go.Value.bool (decide (b < a)))) h))) ∧
 ((∀ (K : V → H → Prop) (h : H) (k : Go.IntKind) (a : Int) (k' : Go.IntKind) (b : Int), intB K h k a k' b Go.BinOp.geq = (k = k' ∧ K (V.s (Go.Value.bool (decide (b ≤ a)))) h)) ∧
 (∀ (K : V → H → Prop) (h : H) (k : Go.IntKind) (a : Int) (k' : Go.IntKind) (b : Int), intB K h k a k' b Go.BinOp.and = (k = k' ∧ K (V.s (Go.Value.int k (bitAnd k a b))) h))))))) ∧
 (((((∀ (K : V → H → Prop) (h : H) (k : Go.IntKind) (a : Int) (k' : Go.IntKind) (b : Int), intB K h k a k' b Go.BinOp.or = (k = k' ∧ K (V.s (Go.Value.int k (bitOr k a b))) h)) ∧
 ((∀ (K : V → H → Prop) (h : H) (k : Go.IntKind) (a : Int) (k' : Go.IntKind) (b : Int), intB K h k a k' b Go.BinOp.xor = (k = k' ∧ K (V.s (Go.Value.int k (bitXor k a b))) h)) ∧
 (∀ (K : V → H → Prop) (h : H) (k : Go.IntKind) (a : Int) (k' : Go.IntKind) (b : Int), intB K h k a k' b Go.BinOp.andNot = (k = k' ∧ K (V.s (Go.Value.int k (bitAndNot k a b))) h)))) ∧
 (((∀ (K : V → H → Prop) (h : H) (k : Go.IntKind) (a : Int) (k' : Go.IntKind) (b : Int), intB K h k a k' b Go.BinOp.shl = ((0 ≤ b ∧ b ≤ ↑k.bits) ∧ K (V.s (Go.Value.int k (k.wrap (a * 2 ^ b.toNat)))) h)) ∧
 (∀ (K : V → H → Prop) (h : H) (a b : ByteArray), strB K h a b Go.BinOp.add = (a.size + b.size ≤ LIM ∧ K (V.s (Go.Value.string (a ++ b))) h))) ∧
 ((∀ (K : V → H → Prop) (h : H) (a b : ByteArray), strB K h a b Go.BinOp.eql = K (V.s (Go.Value.bool (decide (a = b)))) h) ∧
 (∀ (K : V → H → Prop) (h : H) (a b : ByteArray), strB K h a b Go.BinOp.neq = K (V.s (Go.Value.bool !decide (a = b))) h)))) ∧
 ((((∀ (K : V → H → Prop) (h : H) (a b : ByteArray), strB K h a b Go.BinOp.lss = K (V.s (Go.Value.bool (Go.Op.bytesLess a.toList b.toList))) h) ∧
 (∀ (K : V → H → Prop) (h : H) (a b : ByteArray), strB K h a b Go.BinOp.leq = K (V.s (Go.Value.bool (Go.Op.bytesLess a.toList b.toList || decide (a = b)))) h)) ∧
 ((∀ (K : V → H → Prop) (h : H) (a b : ByteArray), strB K h a b Go.BinOp.gtr = K (V.s (Go.Value.bool !(Go.Op.bytesLess a.toList b.toList || decide (a = b)))) h) ∧
 (∀ (K : V → H → Prop) (h : H) (a b : ByteArray), strB K h a b Go.BinOp.geq = K (V.s (Go.Value.bool !Go.Op.bytesLess a.toList b.toList)) h))) ∧
 (((∀ (K : V → H → Prop) (h : H) (a b : Bool), boolB K h a b Go.BinOp.eql = K (V.s (Go.Value.bool (a == b))) h) ∧
 (∀ (K : V → H → Prop) (h : H) (a b : Bool), boolB K h a b Go.BinOp.neq = K (V.s (Go.Value.bool (a != b))) h)) ∧
 ((∀ (K : V → H → Prop) (h : H) (len : Nat), nilB K h len Go.BinOp.eql = ∀ (r : Bool), (0 < len → r = false) → K (V.s (Go.Value.bool r)) h) ∧
 (∀ (K : V → H → Prop) (h : H) (len : Nat), nilB K h len Go.BinOp.neq = ∀ (r : Bool), (0 < len → r = true) → K (V.s (Go.Value.bool r)) h))))) ∧
 ((((isT TK.bool TK.bool = True) ∧
 ((∀ (e e_1 : Go.TypeId), isT (TK.slice e) (TK.slice e_1) = True) ∧
 (isT TK.ptr TK.ptr = True))) ∧
 (((isT TK.iface TK.iface = True) ∧
 (isT TK.string TK.string = True)) ∧
 ((∀ (K : V → H → Prop) (h : H) (r : Bool), eqB K h r Go.BinOp.eql = K (V.s (Go.Value.bool r)) h) ∧
 (∀ (K : V → H → Prop) (h : H) (r : Bool), eqB K h r Go.BinOp.neq = K (V.s (Go.Value.bool !r)) h)))) ∧
 ((((∀ (len cap : Nat), isNil (Go.Operand.const (Go.Value.slice none len cap)) = NK.slice) ∧
 (isNil (Go.Operand.const Go.Value.nilIface) = NK.iface)) ∧
 ((∀ (C : Cx) (K : V → H → Prop) (h : H) (t : Go.TypeId) (op : Go.BinOp) (b off len cap : Nat), nilC C K h t op (V.sl b off len cap) = (isT (tK C.P t) (TK.slice 0) ∧ nilB K h len op)) ∧
 (∀ (C : Cx) (K : V → H → Prop) (h : H) (t : Go.TypeId) (op : Go.BinOp) (n : Nat) (els : List (List V)), nilC C K h t op (V.f n els) = (isT (tK C.P t) (TK.slice 0) ∧ nilB K h els.length op)))) ∧
 (((∀ (C : Cx) (K : V → H → Prop) (h : H) (t : Go.TypeId) (op : Go.BinOp), nilC C K h t op V.z = (isT (tK C.P t) (TK.slice 0) ∧ nilB K h 0 op)) ∧
 (∀ (C : Cx) (K : V → H → Prop) (h : H) (t : Go.TypeId) (op : Go.BinOp), nilI C K h t op (V.s Go.Value.nilIface) = (isT (tK C.P t) TK.iface ∧ eqB K h true op))) ∧
 ((∀ (C : Cx) (K : V → H → Prop) (h : H) (t : Go.TypeId) (op : Go.BinOp) (t_1 : Go.TypeId) (v : Go.Value), nilI C K h t op (V.s (Go.Value.iface t_1 v)) = (isT (tK C.P t) TK.iface ∧ eqB K h false op)) ∧
 (eqCells [] [] = some true))))))) :=
 ⟨⟨⟨⟨⟨@ldT.eq_1,
 ⟨@ldT.eq_2,
 @ldC.eq_1⟩⟩,
 ⟨⟨@ldC.eq_2,
 @ldF.eq_1⟩,
 ⟨@ldF.eq_2,
 @ldK.eq_1⟩⟩⟩,
 ⟨⟨⟨@ldK.eq_2,
 @fitsB.eq_1⟩,
 ⟨@fitsB.eq_2,
 @stA.eq_1⟩⟩,
 ⟨⟨@stA.eq_2,
 @stK.eq_1⟩,
 ⟨@nilK.eq_1,
 @nilK.eq_2⟩⟩⟩⟩,
 ⟨⟨⟨@nilK.eq_3,
 ⟨@nilK.eq_4,
 @intB.eq_1⟩⟩,
 ⟨⟨@intB.eq_2,
 @intB.eq_3⟩,
 ⟨@intB.eq_4,
 @intB.eq_5⟩⟩⟩,
 ⟨⟨⟨@intB.eq_6,
 @intB.eq_7⟩,
 ⟨@intB.eq_8,
 @intB.eq_9⟩⟩,
 ⟨⟨@intB.eq_10,
 @intB.eq_11⟩,
 ⟨@intB.eq_12,
 @intB.eq_13⟩⟩⟩⟩⟩,
 ⟨⟨⟨⟨@intB.eq_14,
 ⟨@intB.eq_15,
 @intB.eq_16⟩⟩,
 ⟨⟨@intB.eq_17,
 @strB.eq_1⟩,
 ⟨@strB.eq_2,
 @strB.eq_3⟩⟩⟩,
 ⟨⟨⟨@strB.eq_4,
 @strB.eq_5⟩,
 ⟨@strB.eq_6,
 @strB.eq_7⟩⟩,
 ⟨⟨@boolB.eq_1,
 @boolB.eq_2⟩,
 ⟨@nilB.eq_1,
 @nilB.eq_2⟩⟩⟩⟩,
 ⟨⟨⟨@isT.eq_1,
 ⟨@isT.eq_2,
 @isT.eq_3⟩⟩,
 ⟨⟨@isT.eq_4,
 @isT.eq_5⟩,
 ⟨@eqB.eq_1,
 @eqB.eq_2⟩⟩⟩,
 ⟨⟨⟨@isNil.eq_1,
 @isNil.eq_2⟩,
 ⟨@nilC.eq_1,
 @nilC.eq_2⟩⟩,
 ⟨⟨@nilC.eq_3,
 @nilI.eq_1⟩,
 ⟨@nilI.eq_2,
 @eqCells.eq_1⟩⟩⟩⟩⟩⟩
theorem wb3 :
 ((((((∀ (K : V → H → Prop) (h : H) (op : Go.BinOp) (r : Bool), eqA K h op (some r) = eqB K h r op) ∧
 ((∀ (K : V → H → Prop) (h : H) (op : Go.BinOp), eqA K h op none = False) ∧
 (∀ (k : Go.IntKind), scalarK (TK.int k) = true))) ∧
 (((scalarK TK.string = true) ∧
 (scalarK TK.bool = true)) ∧
 ((kindsOk [] [] = true) ∧
 (∀ (k : Go.IntKind) (ts : List TK) (k' : Go.IntKind) (n : Int) (xs : List V), kindsOk (TK.int k :: ts) (V.s (Go.Value.int k' n) :: xs) = (decide (k = k') && kindsOk ts xs))))) ∧
 ((((∀ (ts : List TK) (s : ByteArray) (xs : List V), kindsOk (TK.string :: ts) (V.s (Go.Value.string s) :: xs) = kindsOk ts xs) ∧
 (∀ (ts : List TK) (b : Bool) (xs : List V), kindsOk (TK.bool :: ts) (V.s (Go.Value.bool b) :: xs) = kindsOk ts xs)) ∧
 ((∀ (C : Cx) (K : V → H → Prop) (h : H) (t : Go.TypeId) (op : Go.BinOp) (k : Go.IntKind) (a : Int) (k' : Go.IntKind) (b : Int), binK C K h t op (V.s (Go.Value.int k a)) (V.s (Go.Value.int k' b)) = intB K h k a k' b op) ∧
 (∀ (C : Cx) (K : V → H → Prop) (h : H) (t : Go.TypeId) (op : Go.BinOp) (a b : ByteArray), binK C K h t op (V.s (Go.Value.string a)) (V.s (Go.Value.string b)) = strB K h a b op))) ∧
 (((∀ (C : Cx) (K : V → H → Prop) (h : H) (t : Go.TypeId) (op : Go.BinOp) (a b : Bool), binK C K h t op (V.s (Go.Value.bool a)) (V.s (Go.Value.bool b)) = (isT (tK C.P t) TK.bool ∧ boolB K h a b op)) ∧
 (∀ (C : Cx) (K : V → H → Prop) (h : H) (t : Go.TypeId) (op : Go.BinOp) (b i o : Nat), binK C K h t op (V.ptr b i o) (V.s (Go.Value.pointer none)) = (isT (tK C.P t) TK.ptr ∧ eqB K h false op))) ∧
 ((∀ (C : Cx) (K : V → H → Prop) (h : H) (t : Go.TypeId) (op : Go.BinOp) (cs : List V), binK C K h t op (V.pd cs) (V.s (Go.Value.pointer none)) = (isT (tK C.P t) TK.ptr ∧ eqB K h false op)) ∧
 (∀ (C : Cx) (K : V → H → Prop) (h : H) (t : Go.TypeId) (op : Go.BinOp), binK C K h t op (V.s (Go.Value.pointer none)) (V.s (Go.Value.pointer none)) = (isT (tK C.P t) TK.ptr ∧ eqB K h true op)))))) ∧
 ((((∀ (C : Cx) (K : V → H → Prop) (h : H) (t : Go.TypeId) (op : Go.BinOp) (xs ys : List V), binK C K h t op (V.agg xs) (V.agg ys) = ((eqStruct C.P t = true ∧ kindsOk (fieldTK C.P t) xs = true ∧ kindsOk (fieldTK C.P t) ys = true) ∧ eqA K h op (eqCells xs ys))) ∧
 ((∀ (C : Cx) (K : V → H → Prop) (h : H) (t : Go.TypeId) (op : Go.BinOp) (x y : V), binR C K h t op x y NK.no = binK C K h t op x y) ∧
 (∀ (C : Cx) (K : V → H → Prop) (h : H) (t : Go.TypeId) (op : Go.BinOp) (x y : V), binR C K h t op x y NK.slice = nilC C K h t op x))) ∧
 (((∀ (C : Cx) (K : V → H → Prop) (h : H) (t : Go.TypeId) (op : Go.BinOp) (x y : V), binR C K h t op x y NK.iface = nilI C K h t op x) ∧
 (∀ (K : V → H → Prop) (h : H) (b : Bool), unK K h Go.UnOp.not (V.s (Go.Value.bool b)) = K (V.s (Go.Value.bool !b)) h)) ∧
 ((∀ (K : V → H → Prop) (h : H) (k : Go.IntKind) (n : Int), unK K h Go.UnOp.neg (V.s (Go.Value.int k n)) = K (V.s (Go.Value.int k (k.wrap (0 - n)))) h) ∧
 (∀ (n : Int), byteOf [V.s (Go.Value.int Go.IntKind.u8 n)] = some (UInt8.ofNat n.toNat))))) ∧
 ((((bytesOf [] = some []) ∧
 (bytesIn [] = True)) ∧
 ((∀ (n : Int) (r : List (List V)), bytesIn ([V.s (Go.Value.int Go.IntKind.u8 n)] :: r) = ((0 ≤ n ∧ n < 256) ∧ bytesIn r)) ∧
 (∀ (K : V → H → Prop) (h : H) (l : List UInt8), cvBytes K h (some l) = K (V.s (Go.Value.string { data := l.toArray })) h))) ∧
 (((∀ (K : V → H → Prop) (h : H), cvBytes K h none = False) ∧
 (∀ (off len : Nat) (els : List (List V)) (n cap : Nat), elsOf off len (some { els := els, n := n, cap := cap, live := true }) = if off + len ≤ els.length then some (List.take len (List.drop off els)) else none)) ∧
 ((∀ (K : V → H → Prop) (h : H) (els : List (List V)), cvBytes1 K h (some els) = (bytesIn els ∧ cvBytes K h (bytesOf els))) ∧
 (∀ (K : V → H → Prop) (h : H), cvBytes1 K h none = False)))))) ∧
 (((((∀ (K : V → H → Prop) (h : H) (e : TK) (n : Nat) (els : List (List V)), cvSl K h e (V.f n els) = ((e = TK.int Go.IntKind.u8 ∧ n = 1 ∧ bytesIn els) ∧ cvBytes K h (bytesOf els))) ∧
 ((∀ (K : V → H → Prop) (h : H) (e : TK), cvSl K h e V.z = (e = TK.int Go.IntKind.u8 ∧ K (V.s (Go.Value.string ByteArray.empty)) h)) ∧
 (∀ (K : V → H → Prop) (h : H) (e : TK) (b off len cap : Nat), cvSl K h e (V.sl b off len cap) = ((e = TK.int Go.IntKind.u8 ∧ strideB h[b]? = some 1) ∧ cvBytes1 K h (elsOf off len h[b]?))))) ∧
 (((∀ (C : Cx) (K : V → H → Prop) (h : H) (k k_1 k_2 : Go.IntKind) (n : Int), cvK C K h (TK.int k) (TK.int k_1) (V.s (Go.Value.int k_2 n)) = K (V.s (Go.Value.int k_1 (k_1.wrap n))) h) ∧
 (∀ (C : Cx) (K : V → H → Prop) (h : H) (s : ByteArray), cvK C K h TK.string TK.string (V.s (Go.Value.string s)) = K (V.s (Go.Value.string s)) h)) ∧
 ((∀ (C : Cx) (K : V → H → Prop) (h : H) (x : V) (e : Go.TypeId), cvK C K h (TK.slice e) TK.string x = cvSl K h (tK C.P e) x) ∧
 (∀ (K : V → H → Prop) (h : H) (l c : Int) (n : Nat) (z : List V) (by_ : Nat), mkK2 K h l c (some n) (some z) (some by_) = ((0 ≤ l ∧ l ≤ c ∧ ↑by_ * c ≤ 140737488355328 ∧ c ≤ 4611686018427387904 ∧ z.length = n) ∧ K (V.sl (List.length h) 0 l.toNat c.toNat) (h ++ [{ els := List.replicate c.toNat z, n := n, cap := c.toNat, live := true }])))))) ∧
 ((((∀ (C : Cx) (K : V → H → Prop) (h : H) (k : Go.IntKind) (l : Int) (k_1 : Go.IntKind) (c : Int) (e_1 : Go.TypeId), mkK C K h (some e_1) (V.s (Go.Value.int k l)) (V.s (Go.Value.int k_1 c)) = mkK2 K h l c (tSz C.P e_1) (tZ C.P e_1) (tBytes C.P e_1)) ∧
 (∀ (C : Cx) (K : V → H → Prop) (h : H) (k : Go.IntKind) (l : Int) (k_1 : Go.IntKind) (c : Int), mkK C K h none (V.s (Go.Value.int k l)) (V.s (Go.Value.int k_1 c)) = False)) ∧
 ((∀ (k : Go.IntKind) (n : Int), intOfV (V.s (Go.Value.int k n)) = some n) ∧
 (∀ (v : V), oI (some v) = intOfV v))) ∧
 (((oI none = none) ∧
 (∀ (K : V → H → Prop) (h : H) (val : Nat), cutE K h (some val) = K (V.f val []) h)) ∧
 ((∀ (K : V → H → Prop) (h : H), cutE K h none = False) ∧
 (∀ (K : V → H → Prop) (h : H) (b off cap : Nat) (n : Option Nat) (l r : Nat), cutO K h b off cap n l r true = K (V.sl b (off + l) (r - l) (cap - l)) h))))) ∧
 ((((∀ (K : V → H → Prop) (h : H) (b off cap : Nat) (n : Option Nat) (l r : Nat), cutO K h b off cap n l r false = cutE K h n) ∧
 ((∀ (C : Cx) (K : V → H → Prop) (h : H) (s : ByteArray), slK C K h TK.string none none none (V.s (Go.Value.string s)) = K (V.s (Go.Value.string s)) h) ∧
 (∀ (C : Cx) (K : V → H → Prop) (h : H) (s : ByteArray) (k : Go.IntKind) (l : Int), slK C K h TK.string (some (V.s (Go.Value.int k l))) none none (V.s (Go.Value.string s)) = cutS K h s l ↑s.size))) ∧
 (((∀ (C : Cx) (K : V → H → Prop) (h : H) (s : ByteArray) (k : Go.IntKind) (r : Int), slK C K h TK.string none (some (V.s (Go.Value.int k r))) none (V.s (Go.Value.string s)) = cutS K h s 0 r) ∧
 (∀ (C : Cx) (K : V → H → Prop) (h : H) (s : ByteArray) (k : Go.IntKind) (l : Int) (k_1 : Go.IntKind) (r : Int), slK C K h TK.string (some (V.s (Go.Value.int k l))) (some (V.s (Go.Value.int k_1 r))) none (V.s (Go.Value.string s)) = cutS K h s l r)) ∧
 ((∀ (C : Cx) (K : V → H → Prop) (h : H) (n : Nat) (els : List (List V)) (e : Go.TypeId), slK C K h (TK.slice e) none none none (V.f n els) = (tSz C.P e = some n ∧ K (V.f n els) h)) ∧
 (∀ (C : Cx) (K : V → H → Prop) (h : H) (n : Nat) (els : List (List V)) (e : Go.TypeId) (k : Go.IntKind) (l : Int), slK C K h (TK.slice e) (some (V.s (Go.Value.int k l))) none none (V.f n els) = (tSz C.P e = some n ∧ cutF K h n els l ↑els.length))))) ∧
 ((((∀ (C : Cx) (K : V → H → Prop) (h : H) (n : Nat) (els : List (List V)) (e : Go.TypeId) (k : Go.IntKind) (r : Int), slK C K h (TK.slice e) none (some (V.s (Go.Value.int k r))) none (V.f n els) = (tSz C.P e = some n ∧ cutF K h n els 0 r)) ∧
 (∀ (C : Cx) (K : V → H → Prop) (h : H) (n : Nat) (els : List (List V)) (e : Go.TypeId) (k : Go.IntKind) (l : Int) (k_1 : Go.IntKind) (r : Int), slK C K h (TK.slice e) (some (V.s (Go.Value.int k l))) (some (V.s (Go.Value.int k_1 r))) none (V.f n els) = (tSz C.P e = some n ∧ cutF K h n els l r))) ∧
 ((∀ (C : Cx) (K : V → H → Prop) (h : H) (n : Nat) (els : List (List V)) (e : Go.TypeId) (k : Go.IntKind) (r : Int) (k_1 : Go.IntKind) (m : Int), slK C K h (TK.slice e) none (some (V.s (Go.Value.int k r))) (some (V.s (Go.Value.int k_1 m))) (V.f n els) = ((tSz C.P e = some n ∧ r = 0 ∧ m = 0) ∧ K V.z h)) ∧
 (∀ (C : Cx) (K : V → H → Prop) (h : H) (e : Go.TypeId), slK C K h (TK.slice e) none none none V.z = (isN (tSz C.P e) ∧ K V.z h)))) ∧
 (((∀ (C : Cx) (K : V → H → Prop) (h : H) (e : Go.TypeId) (k : Go.IntKind) (l : Int), slK C K h (TK.slice e) (some (V.s (Go.Value.int k l))) none none V.z = ((isN (tSz C.P e) ∧ l = 0) ∧ K V.z h)) ∧
 (∀ (C : Cx) (K : V → H → Prop) (h : H) (e : Go.TypeId) (k : Go.IntKind) (r : Int), slK C K h (TK.slice e) none (some (V.s (Go.Value.int k r))) none V.z = ((isN (tSz C.P e) ∧ r = 0) ∧ K V.z h))) ∧
 ((∀ (C : Cx) (K : V → H → Prop) (h : H) (e : Go.TypeId) (k : Go.IntKind) (l : Int) (k_1 : Go.IntKind) (r : Int), slK C K h (TK.slice e) (some (V.s (Go.Value.int k l))) (some (V.s (Go.Value.int k_1 r))) none V.z = ((isN (tSz C.P e) ∧ l = 0 ∧ r = 0) ∧ K V.z h)) ∧
 (∀ (C : Cx) (K : V → H → Prop) (h : H) (e : Go.TypeId) (k : Go.IntKind) (r : Int) (k_1 : Go.IntKind) (m : Int), slK C K h (TK.slice e) none (some (V.s (Go.Value.int k r))) (some (V.s (Go.Value.int k_1 m))) V.z = ((isN (tSz C.P e) ∧ r = 0 ∧ m = 0) ∧ K V.z h)))))))) :=
 ⟨⟨⟨⟨⟨@eqA.eq_1,
 ⟨@eqA.eq_2,
 @scalarK.eq_1⟩⟩,
 ⟨⟨@scalarK.eq_2,
 @scalarK.eq_3⟩,
 ⟨@kindsOk.eq_1,
 @kindsOk.eq_2⟩⟩⟩,
 ⟨⟨⟨@kindsOk.eq_3,
 @kindsOk.eq_4⟩,
 ⟨@binK.eq_1,
 @binK.eq_2⟩⟩,
 ⟨⟨@binK.eq_3,
 @binK.eq_4⟩,
 ⟨@binK.eq_5,
 @binK.eq_6⟩⟩⟩⟩,
 ⟨⟨⟨@binK.eq_7,
 ⟨@binR.eq_1,
 @binR.eq_2⟩⟩,
 ⟨⟨@binR.eq_3,
 @unK.eq_1⟩,
 ⟨@unK.eq_2,
 @byteOf.eq_1⟩⟩⟩,
 ⟨⟨⟨@bytesOf.eq_1,
 @bytesIn.eq_1⟩,
 ⟨@bytesIn.eq_2,
 @cvBytes.eq_1⟩⟩,
 ⟨⟨@cvBytes.eq_2,
 @elsOf.eq_1⟩,
 ⟨@cvBytes1.eq_1,
 @cvBytes1.eq_2⟩⟩⟩⟩⟩,
 ⟨⟨⟨⟨@cvSl.eq_1,
 ⟨@cvSl.eq_2,
 @cvSl.eq_3⟩⟩,
 ⟨⟨@cvK.eq_1,
 @cvK.eq_2⟩,
 ⟨@cvK.eq_3,
 @mkK2.eq_1⟩⟩⟩,
 ⟨⟨⟨@mkK.eq_1,
 @mkK.eq_2⟩,
 ⟨@intOfV.eq_1,
 @oI.eq_1⟩⟩,
 ⟨⟨@oI.eq_2,
 @cutE.eq_1⟩,
 ⟨@cutE.eq_2,
 @cutO.eq_1⟩⟩⟩⟩,
 ⟨⟨⟨@cutO.eq_2,
 ⟨@slK.eq_1,
 @slK.eq_2⟩⟩,
 ⟨⟨@slK.eq_3,
 @slK.eq_4⟩,
 ⟨@slK.eq_6,
 @slK.eq_7⟩⟩⟩,
 ⟨⟨⟨@slK.eq_8,
 @slK.eq_9⟩,
 ⟨@slK.eq_10,
 @slK.eq_12⟩⟩,
 ⟨⟨@slK.eq_13,
 @slK.eq_14⟩,
 ⟨@slK.eq_15,
 @slK.eq_16⟩⟩⟩⟩⟩⟩
theorem wb4 :
 ((((((∀ (C : Cx) (K : V → H → Prop) (h : H) (b off len cap : Nat) (e : Go.TypeId), slK C K h (TK.slice e) none none none (V.sl b off len cap) = (sameN (strideB h[b]?) (tSz C.P e) ∧ K (V.sl b off len cap) h)) ∧
 ((∀ (C : Cx) (K : V → H → Prop) (h : H) (b off len cap : Nat) (e : Go.TypeId) (k : Go.IntKind) (l : Int), slK C K h (TK.slice e) (some (V.s (Go.Value.int k l))) none none (V.sl b off len cap) = ((sameN (strideB h[b]?) (tSz C.P e) ∧ 0 ≤ l ∧ l ≤ ↑len ∧ len ≤ cap) ∧ cutO K h b off cap (tSz C.P e) l.toNat len (decide (l < ↑len)))) ∧
 (∀ (C : Cx) (K : V → H → Prop) (h : H) (b off len cap : Nat) (e : Go.TypeId) (k : Go.IntKind) (r : Int), slK C K h (TK.slice e) none (some (V.s (Go.Value.int k r))) none (V.sl b off len cap) = (sameN (strideB h[b]?) (tSz C.P e) ∧ (0 ≤ r ∧ r ≤ ↑cap) ∧ K (V.sl b off r.toNat cap) h)))) ∧
 (((∀ (C : Cx) (K : V → H → Prop) (h : H) (b off len cap : Nat) (e : Go.TypeId) (k : Go.IntKind) (l : Int) (k_1 : Go.IntKind) (r : Int), slK C K h (TK.slice e) (some (V.s (Go.Value.int k l))) (some (V.s (Go.Value.int k_1 r))) none (V.sl b off len cap) = ((sameN (strideB h[b]?) (tSz C.P e) ∧ 0 ≤ l ∧ l ≤ r ∧ r ≤ ↑cap) ∧ cutO K h b off cap (tSz C.P e) l.toNat r.toNat (decide (l < r)))) ∧
 (∀ (C : Cx) (K : V → H → Prop) (h : H) (b off len cap : Nat) (e : Go.TypeId) (k : Go.IntKind) (r : Int) (k_1 : Go.IntKind) (m : Int), slK C K h (TK.slice e) none (some (V.s (Go.Value.int k r))) (some (V.s (Go.Value.int k_1 m))) (V.sl b off len cap) = ((sameN (strideB h[b]?) (tSz C.P e) ∧ r = 0 ∧ m = 0) ∧ K V.z h))) ∧
 ((∀ (C : Cx) (K : V → H → Prop) (h : H) (b off len cap : Nat) (e : Go.TypeId) (k : Go.IntKind) (l : Int) (k_1 : Go.IntKind) (r : Int) (k_2 : Go.IntKind) (m : Int), slK C K h (TK.slice e) (some (V.s (Go.Value.int k l))) (some (V.s (Go.Value.int k_1 r))) (some (V.s (Go.Value.int k_2 m))) (V.sl b off len cap) = ((sameN (strideB h[b]?) (tSz C.P e) ∧ 0 ≤ l ∧ l ≤ r ∧ r ≤ m ∧ m ≤ ↑cap) ∧ K V.any h)) ∧
 (∀ (K : V → H → Prop) (h : H) (cs : List V) (fo n : Nat), fdA K h cs fo (some true) (some n) = (fo + n ≤ cs.length ∧ K (V.agg (List.take n (List.drop fo cs))) h))))) ∧
 ((((∀ (K : V → H → Prop) (h : H) (cs : List V) (fo : Nat) (x : Option Nat), fdA K h cs fo (some false) x = ldC K h cs[fo]?) ∧
 (∀ (C : Cx) (K : V → H → Prop) (h : H) (fo : Nat) (ft : Go.TypeId) (cs : List V), fdK C K h (some (fo, ft)) (V.agg cs) = fdA K h cs fo (tAgg C.P ft) (tSz C.P ft))) ∧
 ((∀ (K : V → H → Prop) (h : H) (xs : List V), iaF K h (some xs) = K (V.pd xs) h) ∧
 (∀ (K : V → H → Prop) (h : H), iaF K h none = False))) ∧
 (((∀ (C : Cx) (K : V → H → Prop) (h : H) (i : Int) (b off len cap : Nat) (e_1 : Go.TypeId), iaK C K h (some e_1) i (V.sl b off len cap) = ((sameN (strideB h[b]?) (tSz C.P e_1) ∧ 0 ≤ i ∧ i < ↑len) ∧ K (V.ptr b (off + i.toNat) 0) h)) ∧
 (∀ (C : Cx) (K : V → H → Prop) (h : H) (i : Int) (b off len cap : Nat), iaK C K h none i (V.sl b off len cap) = False)) ∧
 ((∀ (C : Cx) (K : V → H → Prop) (h : H) (i : Int) (n : Nat) (els : List (List V)) (e_1 : Go.TypeId), iaK C K h (some e_1) i (V.f n els) = ((tSz C.P e_1 = some n ∧ 0 ≤ i) ∧ iaF K h els[i.toNat]?)) ∧
 (∀ (C : Cx) (K : V → H → Prop) (h : H) (i : Int) (n : Nat) (els : List (List V)), iaK C K h none i (V.f n els) = False))))) ∧
 ((((∀ (C : Cx) (K : V → H → Prop) (h : H) (e : Option Go.TypeId) (x : V) (k : Go.IntKind) (n : Int), iaI C K h e x (V.s (Go.Value.int k n)) = iaK C K h e n x) ∧
 ((∀ (K : V → H → Prop) (h : H) (i : Int) (c : UInt8), ixC K h i (some c) = (0 ≤ i ∧ K (V.s (Go.Value.int Go.IntKind.u8 ↑c.toNat)) h)) ∧
 (∀ (K : V → H → Prop) (h : H) (i : Int), ixC K h i none = False))) ∧
 (((∀ (K : V → H → Prop) (h : H) (t : TK) (s : ByteArray) (k : Go.IntKind) (i : Int), ixK K h t (V.s (Go.Value.string s)) (V.s (Go.Value.int k i)) = (isT t TK.string ∧ ixC K h i s[i.toNat]?)) ∧
 (∀ (K : V → H → Prop) (h : H) (i : Nat) (vs : List V), exK K h i (V.tup vs) = ldC K h vs[i]?)) ∧
 ((scal [] = some []) ∧
 (∀ (K : V → H → Prop) (h : H) (t : Go.TypeId) (l : List Go.Value), miA K h t (some l) = K (V.s (Go.Value.iface t (Go.Value.agg l.toArray))) h)))) ∧
 ((((∀ (K : V → H → Prop) (h : H) (t : Go.TypeId), miA K h t none = False) ∧
 (∀ (C : Cx) (K : V → H → Prop) (h : H) (t : Go.TypeId) (v : Go.Value), miK C K h t (V.s v) = (C.P.concrete t = true ∧ K (V.s (Go.Value.iface t v)) h))) ∧
 ((∀ (C : Cx) (K : V → H → Prop) (h : H) (t : Go.TypeId) (cs : List V), miK C K h t (V.agg cs) = (C.P.concrete t = true ∧ miA K h t (scal cs))) ∧
 (∀ (b i o : Nat), capOk (V.ptr b i o) = true))) ∧
 (((∀ (cs : List V), capOk (V.pd cs) = true) ∧
 (∀ (K : V → H → Prop) (h : H) (caps : List V) (f : Go.FuncId), mfK K h (Go.Fn.func f) [] caps = (caps.all capOk = true ∧ K (V.fn f caps) h))) ∧
 ((∀ (C : Cx) (τ : Tau) (h : H) (K : V → H → Prop) (x : Go.Operand), opW C τ h (Go.Op.move x) K = K (ev C τ x) h) ∧
 (∀ (C : Cx) (τ : Tau) (h : H) (K : V → H → Prop) (x : Go.Operand), opW C τ h (Go.Op.assign x) K = K (ev C τ x) h)))))) ∧
 (((((∀ (C : Cx) (τ : Tau) (h : H) (K : V → H → Prop) (c a b : Go.Operand), opW C τ h (Go.Op.pick c a b) K = pickK K h (ev C τ a) (ev C τ b) (ev C τ c)) ∧
 ((∀ (C : Cx) (τ : Tau) (h : H) (K : V → H → Prop) (e : Go.TypeId), opW C τ h (Go.Op.alloc e) K = allocK K h (tZ C.P e)) ∧
 (∀ (C : Cx) (τ : Tau) (h : H) (K : V → H → Prop) (elem : Go.TypeId) (x : Go.Operand), opW C τ h (Go.Op.box elem x) K = boxK K h (cellsOf (ev C τ x))))) ∧
 (((∀ (C : Cx) (τ : Tau) (h : H) (K : V → H → Prop) (t : Go.TypeId) (parts : Array (Nat × Go.Operand)), opW C τ h (Go.Op.build t parts) K = buildK K h (fldPlace C.P t) (partsV C τ parts.toList) (bldOk C.P t) (tZ C.P t)) ∧
 (∀ (C : Cx) (τ : Tau) (h : H) (K : V → H → Prop) (t : Go.TypeId) (len : Nat) (parts : Array (Nat × Go.Operand)), opW C τ h (Go.Op.buildSlice t len parts) K = bsK C K h len (partsV C τ parts.toList) (tElem C.P t))) ∧
 ((∀ (C : Cx) (τ : Tau) (h : H) (K : V → H → Prop) (t : Go.TypeId) (a : Go.Operand), opW C τ h (Go.Op.load t a) K = ldK C K h t (ev C τ a)) ∧
 (∀ (C : Cx) (τ : Tau) (h : H) (K : V → H → Prop) (t : Go.TypeId) (a x : Go.Operand), opW C τ h (Go.Op.store t a x) K = stK C K h t (ev C τ x) (ev C τ a))))) ∧
 ((((∀ (C : Cx) (τ : Tau) (h : H) (K : V → H → Prop) (x : Go.Operand), opW C τ h (Go.Op.nilCheck x) K = nilK K h (ev C τ x)) ∧
 (∀ (C : Cx) (τ : Tau) (h : H) (K : V → H → Prop) (op : Go.BinOp) (t : Go.TypeId) (x y : Go.Operand) (yType : Go.TypeId), opW C τ h (Go.Op.binOp op t x y yType) K = binR C K h t op (ev C τ x) (ev C τ y) (isNil y))) ∧
 ((∀ (C : Cx) (τ : Tau) (h : H) (K : V → H → Prop) (op : Go.UnOp) (xType : Go.TypeId) (x : Go.Operand), opW C τ h (Go.Op.unOp op xType x) K = unK K h op (ev C τ x)) ∧
 (∀ (C : Cx) (τ : Tau) (h : H) (K : V → H → Prop) (src dst : Go.TypeId) (x : Go.Operand), opW C τ h (Go.Op.convert src dst x) K = cvK C K h (tK C.P src) (tK C.P dst) (ev C τ x)))) ∧
 (((∀ (C : Cx) (τ : Tau) (h : H) (K : V → H → Prop) (t : Go.TypeId) (l c : Go.Operand), opW C τ h (Go.Op.makeSlice t l c) K = mkK C K h (tElem C.P t) (ev C τ l) (ev C τ c)) ∧
 (∀ (C : Cx) (τ : Tau) (h : H) (K : V → H → Prop) (t : Go.TypeId) (x : Go.Operand) (lo hi mx : Option Go.Operand), opW C τ h (Go.Op.slice t x lo hi mx) K = slK C K h (tK C.P t) (Option.map (ev C τ) lo) (Option.map (ev C τ) hi) (Option.map (ev C τ) mx) (ev C τ x))) ∧
 ((∀ (C : Cx) (τ : Tau) (h : H) (K : V → H → Prop) (s : Go.TypeId) (x : Go.Operand) (f : Nat), opW C τ h (Go.Op.fieldAddr s x f) K = faK C K h (tFld C.P s f) (ev C τ x)) ∧
 (∀ (C : Cx) (τ : Tau) (h : H) (K : V → H → Prop) (s : Go.TypeId) (x : Go.Operand) (f : Nat), opW C τ h (Go.Op.field s x f) K = fdK C K h (tFld C.P s f) (ev C τ x)))))) ∧
 ((((∀ (C : Cx) (τ : Tau) (h : H) (K : V → H → Prop) (t : Go.TypeId) (x i : Go.Operand), opW C τ h (Go.Op.indexAddr t x i) K = iaI C K h (tElem C.P t) (ev C τ x) (ev C τ i)) ∧
 ((∀ (C : Cx) (τ : Tau) (h : H) (K : V → H → Prop) (t : Go.TypeId) (x i : Go.Operand), opW C τ h (Go.Op.index t x i) K = ixK K h (tK C.P t) (ev C τ x) (ev C τ i)) ∧
 (∀ (C : Cx) (τ : Tau) (h : H) (K : V → H → Prop) (x : Go.Operand) (i : Nat), opW C τ h (Go.Op.extract x i) K = exK K h i (ev C τ x)))) ∧
 (((∀ (C : Cx) (τ : Tau) (h : H) (K : V → H → Prop) (t : Go.TypeId) (x : Go.Operand), opW C τ h (Go.Op.makeInterface t x) K = miK C K h t (ev C τ x)) ∧
 (∀ (C : Cx) (τ : Tau) (h : H) (K : V → H → Prop) (fn : Go.Fn) (first caps : Array Go.Operand), opW C τ h (Go.Op.makeFunc fn first caps) K = mfK K h fn first.toList (evs C τ caps.toList))) ∧
 ((∀ (K : V → H → Prop) (h : H) (s : ByteArray), lenK K h TK.string (V.s (Go.Value.string s)) = (s.size ≤ LIM → K (V.s (Go.Value.int Go.IntKind.i64 ↑s.size)) h)) ∧
 (∀ (K : V → H → Prop) (h : H) (e : Go.TypeId) (n : Nat) (els : List (List V)), lenK K h (TK.slice e) (V.f n els) = (els.length ≤ LIM → K (V.s (Go.Value.int Go.IntKind.i64 ↑els.length)) h))))) ∧
 ((((∀ (K : V → H → Prop) (h : H) (e : Go.TypeId) (b off len cap : Nat), lenK K h (TK.slice e) (V.sl b off len cap) = K (V.s (Go.Value.int Go.IntKind.i64 ↑len)) h) ∧
 (∀ (K : V → H → Prop) (h : H) (e : Go.TypeId), lenK K h (TK.slice e) V.z = K (V.s (Go.Value.int Go.IntKind.i64 0)) h)) ∧
 ((∀ (K : V → H → Prop) (h : H) (e : Go.TypeId) (n : Nat) (els : List (List V)), capK K h (TK.slice e) (V.f n els) = ∀ (c : Nat), els.length ≤ c → K (V.s (Go.Value.int Go.IntKind.i64 ↑c)) h) ∧
 (∀ (K : V → H → Prop) (h : H) (e : Go.TypeId) (b off len cap : Nat), capK K h (TK.slice e) (V.sl b off len cap) = K (V.s (Go.Value.int Go.IntKind.i64 ↑cap)) h))) ∧
 (((∀ (K : V → H → Prop) (h : H) (e : Go.TypeId), capK K h (TK.slice e) V.z = K (V.s (Go.Value.int Go.IntKind.i64 0)) h) ∧
 (∀ (K : V → H → Prop) (h : H) (k : Go.IntKind) (a : Int) (k_1 : Go.IntKind) (b : Int), minK K h (V.s (Go.Value.int k a)) (V.s (Go.Value.int k_1 b)) = K (V.s (Go.Value.int k (if b < a then b else a))) h)) ∧
 ((∀ (K : V → H → Prop) (h : H) (k : Go.IntKind) (a : Int) (k_1 : Go.IntKind) (b : Int), maxK K h (V.s (Go.Value.int k a)) (V.s (Go.Value.int k_1 b)) = K (V.s (Go.Value.int k (if a < b then b else a))) h) ∧
 (∀ (C : Cx) (K : V → H → Prop) (h : H) (x : V) (t : Go.TypeId), builtinW C K h Go.Builtin.len [x] [t] = lenK K h (tK C.P t) x))))))) :=
 ⟨⟨⟨⟨⟨@slK.eq_18,
 ⟨@slK.eq_19,
 @slK.eq_20⟩⟩,
 ⟨⟨@slK.eq_21,
 @slK.eq_22⟩,
 ⟨@slK.eq_23,
 @fdA.eq_1⟩⟩⟩,
 ⟨⟨⟨@fdA.eq_2,
 @fdK.eq_1⟩,
 ⟨@iaF.eq_1,
 @iaF.eq_2⟩⟩,
 ⟨⟨@iaK.eq_1,
 @iaK.eq_2⟩,
 ⟨@iaK.eq_3,
 @iaK.eq_4⟩⟩⟩⟩,
 ⟨⟨⟨@iaI.eq_1,
 ⟨@ixC.eq_1,
 @ixC.eq_2⟩⟩,
 ⟨⟨@ixK.eq_1,
 @exK.eq_1⟩,
 ⟨@scal.eq_1,
 @miA.eq_1⟩⟩⟩,
 ⟨⟨⟨@miA.eq_2,
 @miK.eq_1⟩,
 ⟨@miK.eq_2,
 @capOk.eq_1⟩⟩,
 ⟨⟨@capOk.eq_2,
 @mfK.eq_1⟩,
 ⟨@opW.eq_1,
 @opW.eq_2⟩⟩⟩⟩⟩,
 ⟨⟨⟨⟨@opW.eq_3,
 ⟨@opW.eq_4,
 @opW.eq_5⟩⟩,
 ⟨⟨@opW.eq_6,
 @opW.eq_7⟩,
 ⟨@opW.eq_8,
 @opW.eq_9⟩⟩⟩,
 ⟨⟨⟨@opW.eq_10,
 @opW.eq_11⟩,
 ⟨@opW.eq_12,
 @opW.eq_13⟩⟩,
 ⟨⟨@opW.eq_14,
 @opW.eq_15⟩,
 ⟨@opW.eq_16,
 @opW.eq_17⟩⟩⟩⟩,
 ⟨⟨⟨@opW.eq_18,
 ⟨@opW.eq_19,
 @opW.eq_20⟩⟩,
 ⟨⟨@opW.eq_21,
 @opW.eq_22⟩,
 ⟨@lenK.eq_1,
 @lenK.eq_2⟩⟩⟩,
 ⟨⟨⟨@lenK.eq_3,
 @lenK.eq_4⟩,
 ⟨@capK.eq_1,
 @capK.eq_2⟩⟩,
 ⟨⟨@capK.eq_3,
 @minK.eq_1⟩,
 ⟨@maxK.eq_1,
 @builtinW.eq_1⟩⟩⟩⟩⟩⟩
theorem wb5 :
 ((((((∀ (C : Cx) (K : V → H → Prop) (h : H) (x : V) (t : Go.TypeId), builtinW C K h Go.Builtin.cap [x] [t] = capK K h (tK C.P t) x) ∧
 ((∀ (C : Cx) (K : V → H → Prop) (h : H) (ts : List Go.TypeId) (x y : V), builtinW C K h Go.Builtin.min [x, y] ts = minK K h x y) ∧
 (∀ (C : Cx) (K : V → H → Prop) (h : H) (ts : List Go.TypeId) (x y : V), builtinW C K h Go.Builtin.max [x, y] ts = maxK K h x y))) ∧
 (((∀ (h : H) (n n' : Nat) (els : List (List V)), newsOf h n (V.f n' els) = if n' = n then some els else none) ∧
 (∀ (h : H) (n : Nat), newsOf h n V.z = some [])) ∧
 ((∀ (h : H) (n b off len cap : Nat), newsOf h n (V.sl b off len cap) = if strideB h[b]? = some n then elsOf off len h[b]? else none) ∧
 (∀ (n cap len : Nat) (els : List (List V)) (n' cap' : Nat), blkIs n cap len (some { els := els, n := n', cap := cap', live := true }) = (n' = n ∧ cap' = cap ∧ len ≤ els.length))))) ∧
 ((((∀ (len : Nat) (els : List (List V)), takeTo len els = if len = els.length then els else List.take len els) ∧
 (∀ (len : Nat) (els : List (List V)) (n cap : Nat) (live : Bool), keptB len (some { els := els, n := n, cap := cap, live := live }) = takeTo len els)) ∧
 ((∀ (len : Nat), keptB len none = []) ∧
 (∀ (K : V → H → Prop) (h : H) (n by_ : Nat) (news : List (List V)) (b len cap : Nat), appN K h n by_ (V.sl b 0 len cap) (some news) = (leafs news = true ∧ (blkIs n cap len h[b]? ∧ (len + news.length) * by_ ≤ 140737488355328 ∧ len + news.length ≤ LIM) ∧ ∀ (cap' : Nat), len + news.length ≤ cap' → (len + news.length ≤ cap → cap' = cap) → K (V.sl (List.length h) 0 (len + news.length) cap') (List.set h b Blk.dead ++ [{ els := keptB len h[b]? ++ news, n := n, cap := cap', live := true }]))))) ∧
 (((∀ (K : V → H → Prop) (h : H) (n by_ : Nat) (news : List (List V)), appN K h n by_ V.z (some news) = (leafs news = true ∧ (news.length * by_ ≤ 140737488355328 ∧ news.length ≤ LIM) ∧ ∀ (cap' : Nat), news.length ≤ cap' → K (V.sl (List.length h) 0 news.length cap') (h ++ [{ els := news, n := n, cap := cap', live := true }]))) ∧
 (∀ (K : V → H → Prop) (h : H) (n by_ : Nat) (s : V), appN K h n by_ s none = False)) ∧
 ((∀ (K : V → H → Prop) (h : H) (s x : V) (n by_ : Nat) (z : List V), appT K h s x (some n) (some by_) (some z) = (z.length = n ∧ appN K h n by_ s (newsOf h n x))) ∧
 (∀ (id : Nat), popTo id [] = none))))) ∧
 ((((∀ (id id' : Nat) (k : List It), popTo id (It.blk id' :: k) = if id = id' then some k else popTo id k) ∧
 ((∀ (b : Bool), boolOf (V.s (Go.Value.bool b)) = some b) ∧
 (∀ (τ : Tau) (t : Nat), gW τ (some t) = boolOf (τ t)))) ∧
 (((∀ (τ : Tau), gW τ none = none) ∧
 (∀ (b : Bool) (τ : Tau) (t : Nat), gS b τ (some t) = up t (V.s (Go.Value.bool b)) τ)) ∧
 ((∀ (b : Bool) (τ : Tau), gS b τ none = τ) ∧
 (∀ (C : Cx) (N n0 : Nat) (Q : QT) (args : List V) (d : Option Nat) (items : List It) (τ : Tau) (h : H) (f : Nat) (caps : List V), callR C N n0 Q args d items τ h (V.fn f caps) = CallThen C N n0 Q f (args ++ caps) d items τ h)))) ∧
 ((((∀ (Q : QT) (τ : Tau) (h : H) (t : Go.TypeId) (v : Go.Value), panR Q τ h (V.s (Go.Value.iface t v)) = Q (XV.pan (V.s (Go.Value.iface t v))) τ h) ∧
 (∀ (C : Cx) (N n0 : Nat) (Q : QT) (d : Option Nat) (items : List It) (τ : Tau) (h : H) (s x_2 : V) (t u : Go.TypeId), copyR C N n0 Q d items τ h [s, x_2] [t, u] = CopyThen C N n0 Q s x_2 t u d items τ h)) ∧
 ((∀ (C : Cx) (N n0 : Nat) (Q : QT) (d : Option Nat) (items : List It) (τ : Tau) (h : H) (s : V) (t : Go.TypeId), clearR C N n0 Q d items τ h [s] [t] = ClearThen C N n0 Q s t d items τ h) ∧
 (∀ (C : Cx) (K : V → H → Prop) (h : H) (s x_2 : V) (t u : Go.TypeId), appR C K h [s, x_2] [t, u] = appW K h C t u s x_2))) ∧
 (((∀ (C : Cx) (N n0 : Nat) (R : List It → Tau → H → Prop) (Q : QT) (d : Option Nat) (items : List It) (τ : Tau) (h : H) (xs : List V) (ts : List Go.TypeId), bltR C N n0 R Q d items τ h xs ts Go.Builtin.append = appR C (RunK R items d τ) h xs ts) ∧
 (∀ (C : Cx) (N n0 : Nat) (R : List It → Tau → H → Prop) (Q : QT) (d : Option Nat) (items : List It) (τ : Tau) (h : H) (xs : List V) (ts : List Go.TypeId), bltR C N n0 R Q d items τ h xs ts Go.Builtin.copy = copyR C N n0 Q d items τ h xs ts)) ∧
 ((∀ (C : Cx) (N n0 : Nat) (R : List It → Tau → H → Prop) (Q : QT) (d : Option Nat) (items : List It) (τ : Tau) (h : H) (xs : List V) (ts : List Go.TypeId), bltR C N n0 R Q d items τ h xs ts Go.Builtin.clear = clearR C N n0 Q d items τ h xs ts) ∧
 (∀ (C : Cx) (N n0 : Nat) (R : List It → Tau → H → Prop) (Q : QT) (items : List It) (d : Option Nat) (τ : Tau) (h : H) (b : Go.Builtin) (args : Array Go.Operand) (ts : Array Go.TypeId), opRun C N n0 R Q items d τ h (Go.Op.call { callee := Go.Callee.builtin b, args := args, argTypes := ts }) = bltR C N n0 R Q d items τ h (evs C τ args.toList) ts.toList b)))))) ∧
 (((((∀ (C : Cx) (N n0 : Nat) (R : List It → Tau → H → Prop) (Q : QT) (items : List It) (d : Option Nat) (τ : Tau) (h : H) (f : Go.Operand) (args : Array Go.Operand) (argTypes : Array Go.TypeId), opRun C N n0 R Q items d τ h (Go.Op.call { callee := Go.Callee.value f, args := args, argTypes := argTypes }) = callR C N n0 Q (evs C τ args.toList) d items τ h (ev C τ f)) ∧
 ((∀ (C : Cx) (N n0 : Nat) (R : List It → Tau → H → Prop) (Q : QT) (items : List It) (d : Option Nat) (τ : Tau) (h : H) (recv : Go.Operand) (method : String) (args : Array Go.Operand) (argTypes : Array Go.TypeId), opRun C N n0 R Q items d τ h (Go.Op.call { callee := Go.Callee.invoke recv method, args := args, argTypes := argTypes }) = False) ∧
 (∀ (C : Cx) (N n0 : Nat) (R : List It → Tau → H → Prop) (Q : QT) (items : List It) (d : Option Nat) (τ : Tau) (h : H) (x_1 : Go.Operand), opRun C N n0 R Q items d τ h (Go.Op.panic x_1) = panR Q τ h (ev C τ x_1)))) ∧
 (((∀ (R : List It → Tau → H → Prop) (Q : QT) (id : Nat) (τ : Tau) (h : H) (k' : List It), exitK R Q id τ h (some k') = R k' τ h) ∧
 (∀ (R : List It → Tau → H → Prop) (Q : QT) (id : Nat) (τ : Tau) (h : H), exitK R Q id τ h none = Q (XV.exit id) τ h)) ∧
 ((∀ (R : List It → Tau → H → Prop) (x y : Go.Code) (k : List It) (τ : Tau) (h : H) (b : Bool), condR R x y k τ h (V.s (Go.Value.bool b)) = bcase b (R (It.code x :: k) τ h) (R (It.code y :: k) τ h)) ∧
 (∀ (R : List It → Tau → H → Prop) (all os : List Go.Oper) (k : List It) (d : Option Nat) (o : Go.Oper) (j : Nat) (τ : Tau) (h : H) (b : Bool), guardV R all os k d o j τ h true (V.s (Go.Value.bool b)) = bcase b (R (It.ops all (o :: os) :: k) (gSet all j true τ) h) (R (It.ops all os :: k) (upo d (V.tup []) (gSet all j false τ)) h))))) ∧
 ((((∀ (R : List It → Tau → H → Prop) (all os : List Go.Oper) (k : List It) (d : Option Nat) (o : Go.Oper) (j : Nat) (τ : Tau) (h : H) (b : Bool), guardV R all os k d o j τ h false (V.s (Go.Value.bool b)) = bcase b (R (It.ops all os :: k) (upo d (V.tup []) (gSet all j true τ)) h) (R (It.ops all (o :: os) :: k) (gSet all j false τ) h)) ∧
 (∀ (R : List It → Tau → H → Prop) (all os : List Go.Oper) (k : List It) (d : Option Nat) (o : Go.Oper) (j : Nat) (τ : Tau) (h : H) (x : Bool), guardV R all os k d o j τ h x (V.tup []) = R (It.ops all os :: k) (upo d (V.tup []) τ) h)) ∧
 ((∀ (C : Cx) (N n0 : Nat) (x : QT) (x_1 : List It) (x_2 : Tau) (x_3 : H), Run C N n0 0 x x_1 x_2 x_3 = False) ∧
 (∀ (C : Cx) (N n0 : Nat) (x : QT) (x_1 : Tau) (x_2 : H) (n : Nat), Run C N n0 n.succ x [] x_1 x_2 = x XV.normal x_1 x_2))) ∧
 (((∀ (C : Cx) (N n0 : Nat) (x : QT) (x_1 : Tau) (x_2 : H) (n : Nat) (k : List It), Run C N n0 n.succ x (It.code Go.Code.skip :: k) x_1 x_2 = Run C N n0 n x k x_1 x_2) ∧
 (∀ (C : Cx) (N n0 : Nat) (x : QT) (x_1 : Tau) (x_2 : H) (n l : Nat) (k : List It), Run C N n0 n.succ x (It.code (Go.Code.label l) :: k) x_1 x_2 = Run C N n0 n x k x_1 x_2)) ∧
 ((∀ (C : Cx) (N n0 : Nat) (x : QT) (x_1 : Tau) (x_2 : H) (n : Nat) (a b : Go.Code) (k : List It), Run C N n0 n.succ x (It.code (a.seq b) :: k) x_1 x_2 = Run C N n0 n x (It.code a :: It.code b :: k) x_1 x_2) ∧
 (∀ (C : Cx) (N n0 : Nat) (x : QT) (x_1 : Tau) (x_2 : H) (n id : Nat) (c : Go.Code) (k : List It), Run C N n0 n.succ x (It.code (Go.Code.block id c) :: k) x_1 x_2 = Run C N n0 n x (It.code c :: It.blk id :: k) x_1 x_2))))) ∧
 ((((∀ (C : Cx) (N n0 : Nat) (x : QT) (x_1 : Tau) (x_2 : H) (n : Nat) (c : Go.Operand) (x_5 y : Go.Code) (k : List It), Run C N n0 n.succ x (It.code (Go.Code.cond c x_5 y) :: k) x_1 x_2 = condR (Run C N n0 n x) x_5 y k x_1 x_2 (ev C x_1 c)) ∧
 ((∀ (C : Cx) (N n0 : Nat) (x : QT) (x_1 : Tau) (x_2 : H) (n id : Nat) (ops : Array Go.Oper) (k : List It), Run C N n0 n.succ x (It.code (Go.Code.region id ops true) :: k) x_1 x_2 = DrawThen C N n0 x id ops k x_1 x_2) ∧
 (∀ (C : Cx) (N n0 : Nat) (x : QT) (x_1 : Tau) (x_2 : H) (n id : Nat) (ops : Array Go.Oper) (k : List It), Run C N n0 n.succ x (It.code (Go.Code.region id ops false) :: k) x_1 x_2 = Run C N n0 n x (It.ops ops.toList ops.toList :: k) x_1 x_2))) ∧
 (((∀ (C : Cx) (N n0 : Nat) (x : QT) (x_1 : Tau) (x_2 : H) (n : Nat) (body : Go.Code) (k : List It), Run C N n0 n.succ x (It.code body.loop :: k) x_1 x_2 = LoopThen C N n0 x body k x_1 x_2) ∧
 (∀ (C : Cx) (N n0 : Nat) (x : QT) (x_1 : Tau) (x_2 : H) (n id : Nat) (k : List It), Run C N n0 n.succ x (It.code (Go.Code.exit id) :: k) x_1 x_2 = exitK (Run C N n0 n x) x id x_1 x_2 (popTo id k))) ∧
 ((∀ (C : Cx) (N n0 : Nat) (x : QT) (x_1 : Tau) (x_2 : H) (n : Nat) (k : List It), Run C N n0 n.succ x (It.code Go.Code.ret :: k) x_1 x_2 = x XV.ret x_1 x_2) ∧
 (∀ (C : Cx) (N n0 : Nat) (x : QT) (x_1 : Tau) (x_2 : H) (n : Nat) (g : Go.Operand) (ps : Array Go.Tmp) (x_5 y : Go.Code) (k : List It), Run C N n0 n.succ x (It.code (Go.Code.rangeFunc g ps x_5 y) :: k) x_1 x_2 = RangeThen C N n0 x g ps x_5 y k x_1 x_2)))) ∧
 ((((∀ (C : Cx) (N n0 : Nat) (x : QT) (x_1 : Tau) (x_2 : H) (n id : Nat) (k : List It), Run C N n0 n.succ x (It.blk id :: k) x_1 x_2 = Run C N n0 n x k x_1 x_2) ∧
 (∀ (C : Cx) (N n0 : Nat) (x : QT) (x_1 : Tau) (x_2 : H) (n : Nat) (all : List Go.Oper) (k : List It), Run C N n0 n.succ x (It.ops all [] :: k) x_1 x_2 = Run C N n0 n x k x_1 x_2)) ∧
 ((∀ (C : Cx) (N n0 : Nat) (x : QT) (x_1 : Tau) (x_2 : H) (n : Nat) (all : List Go.Oper) (d : Option Go.Tmp) (op : Go.Op) (type : Go.TypeId) (pos : String) (after : Array Go.Edge) (os : List Go.Oper) (k : List It), Run C N n0 n.succ x (It.ops all ({ dst := d, op := op, type := type, pos := pos, after := after, guard := none } :: os) :: k) x_1 x_2 = opRun C N n0 (Run C N n0 n x) x (It.ops all os :: k) d x_1 x_2 op) ∧
 (∀ (C : Cx) (N n0 : Nat) (x : QT) (x_1 : Tau) (x_2 : H) (n : Nat) (all : List Go.Oper) (d : Option Go.Tmp) (op : Go.Op) (ty : Go.TypeId) (pos : String) (after : Array Go.Edge) (j : Nat) (want : Bool) (os : List Go.Oper) (k : List It), Run C N n0 n.succ x (It.ops all ({ dst := d, op := op, type := ty, pos := pos, after := after, guard := some (j, want) } :: os) :: k) x_1 x_2 = guardV (Run C N n0 n x) all os k d { dst := d, op := op, type := ty, pos := pos, after := after, guard := none } j x_1 x_2 want (gX all x_1 j)))) ∧
 (((∀ (K : List V → Prop) (R : (List V → Prop) → Prop) (cs : List V), rsA K R (some cs) = (cs.all cellOk = true ∧ R fun vs => K (V.agg cs :: vs))) ∧
 (∀ (K : List V → Prop) (R : (List V → Prop) → Prop), rsA K R none = False)) ∧
 ((∀ (K : List V → Prop) (R : (List V → Prop) → Prop) (n : Nat) (els : List (List V)), rsC K R (some (V.l n els)) = False) ∧
 (∀ (K : List V → Prop) (R : (List V → Prop) → Prop) (cs : List V), rsC K R (some (V.lp cs)) = False))))))) :=
 ⟨⟨⟨⟨⟨@builtinW.eq_2,
 ⟨@builtinW.eq_3,
 @builtinW.eq_4⟩⟩,
 ⟨⟨@newsOf.eq_1,
 @newsOf.eq_2⟩,
 ⟨@newsOf.eq_3,
 @blkIs.eq_1⟩⟩⟩,
 ⟨⟨⟨@takeTo.eq_1,
 @keptB.eq_1⟩,
 ⟨@keptB.eq_2,
 @appN.eq_1⟩⟩,
 ⟨⟨@appN.eq_2,
 @appN.eq_4⟩,
 ⟨@appT.eq_1,
 @popTo.eq_1⟩⟩⟩⟩,
 ⟨⟨⟨@popTo.eq_2,
 ⟨@boolOf.eq_1,
 @gW.eq_1⟩⟩,
 ⟨⟨@gW.eq_2,
 @gS.eq_1⟩,
 ⟨@gS.eq_2,
 @callR.eq_1⟩⟩⟩,
 ⟨⟨⟨@panR.eq_1,
 @copyR.eq_1⟩,
 ⟨@clearR.eq_1,
 @appR.eq_1⟩⟩,
 ⟨⟨@bltR.eq_1,
 @bltR.eq_2⟩,
 ⟨@bltR.eq_3,
 @opRun.eq_1⟩⟩⟩⟩⟩,
 ⟨⟨⟨⟨@opRun.eq_2,
 ⟨@opRun.eq_3,
 @opRun.eq_4⟩⟩,
 ⟨⟨@exitK.eq_1,
 @exitK.eq_2⟩,
 ⟨@condR.eq_1,
 @guardV_t⟩⟩⟩,
 ⟨⟨⟨@guardV_f,
 @guardV_u⟩,
 ⟨@Run.eq_1,
 @Run.eq_2⟩⟩,
 ⟨⟨@Run.eq_3,
 @Run.eq_4⟩,
 ⟨@Run.eq_5,
 @Run.eq_6⟩⟩⟩⟩,
 ⟨⟨⟨@Run.eq_7,
 ⟨@Run.eq_8,
 @Run.eq_9⟩⟩,
 ⟨⟨@Run.eq_10,
 @Run.eq_11⟩,
 ⟨@Run.eq_12,
 @Run.eq_13⟩⟩⟩,
 ⟨⟨⟨@Run.eq_15,
 @Run.eq_16⟩,
 ⟨@Run.eq_17,
 @Run_g⟩⟩,
 ⟨⟨@rsA.eq_1,
 @rsA.eq_2⟩,
 ⟨@rsC.eq_1,
 @rsC.eq_2⟩⟩⟩⟩⟩⟩
theorem wb6 :
 ((((((∀ (K : List V → Prop) (R : (List V → Prop) → Prop), rsC K R none = False) ∧
 ((∀ (h : H) (K : List V → Prop) (R : (List V → Prop) → Prop) (b i o n : Nat), rsT h K R b i o (some true) (some n) = rsA K R (rdN (rdB h[b]? i) o n)) ∧
 (∀ (h : H) (K : List V → Prop) (R : (List V → Prop) → Prop) (b i o : Nat) (x : Option Nat), rsT h K R b i o (some false) x = rsC K R (rdC (rdB h[b]? i) o)))) ∧
 (((∀ (C : Cx) (h : H) (K : List V → Prop) (R : (List V → Prop) → Prop) (t : Go.TypeId) (b i o : Nat), rsP C h K R t (V.ptr b i o) = rsT h K R b i o (tAgg C.P t) (tSz C.P t)) ∧
 (∀ (C : Cx) (h : H) (τ : Tau) (x : List V → Prop), resW C h τ [] x = x [])) ∧
 ((∀ (C : Cx) (h : H) (τ : Tau) (x : List V → Prop) (t : Go.Tmp) (rs : List Go.ResultVar), resW C h τ (Go.ResultVar.tmp t :: rs) x = resW C h τ rs fun vs => x (τ t :: vs)) ∧
 (∀ (C : Cx) (h : H) (τ : Tau) (x : List V → Prop) (a : Go.Tmp) (t : Go.TypeId) (rs : List Go.ResultVar), resW C h τ (Go.ResultVar.cell a t :: rs) x = rsP C h x (resW C h τ rs) t (τ a))))) ∧
 ((((∀ (n0 : Nat) (R : Res → H → Prop) (h : H) (v : V), tupOf n0 R h [v] = Up n0 R (Res.ret v) h) ∧
 (∀ (C : Cx) (n0 : Nat) (fn : Go.Func) (R : Res → H → Prop) (x : Tau) (x_1 : H), bodyQ C n0 fn R XV.normal x x_1 = resW C x_1 x fn.results.toList (tupOf n0 R x_1))) ∧
 ((∀ (C : Cx) (n0 : Nat) (fn : Go.Func) (R : Res → H → Prop) (x : Tau) (x_1 : H), bodyQ C n0 fn R XV.ret x x_1 = resW C x_1 x fn.results.toList (tupOf n0 R x_1)) ∧
 (∀ (C : Cx) (n0 : Nat) (fn : Go.Func) (R : Res → H → Prop) (x : Tau) (x_1 : H) (v : V), bodyQ C n0 fn R (XV.pan v) x x_1 = Up n0 R (Res.pan v) x_1))) ∧
 (((∀ (C : Cx) (n0 : Nat) (fn : Go.Func) (R : Res → H → Prop) (x : Tau) (x_1 : H) (id : Nat), bodyQ C n0 fn R (XV.exit id) x x_1 = False) ∧
 (∀ (C : Cx) (N n0 m : Nat) (Q : QT) (k : List It) (I : Tau → H → Prop) (x : Tau) (x_1 : H), loopQ C N n0 m Q k I XV.normal x x_1 = Goes n0 I x x_1)) ∧
 ((∀ (C : Cx) (N n0 m : Nat) (Q : QT) (k : List It) (I : Tau → H → Prop) (x : Tau) (x_1 : H) (id : Nat), loopQ C N n0 m Q k I (XV.exit id) x x_1 = exitK (Run C N n0 m Q) Q id x x_1 (popTo id k)) ∧
 (∀ (C : Cx) (N n0 m : Nat) (Q : QT) (k : List It) (I : Tau → H → Prop) (x : Tau) (x_1 : H), loopQ C N n0 m Q k I XV.ret x x_1 = Q XV.ret x x_1))))) ∧
 ((((∀ (C : Cx) (N n0 m : Nat) (Q : QT) (k : List It) (I : Tau → H → Prop) (x : Tau) (x_1 : H) (v : V), loopQ C N n0 m Q k I (XV.pan v) x x_1 = Q (XV.pan v) x x_1) ∧
 ((∀ (C : Cx) (N n0 m : Nat) (Q : QT) (k : List It) (d : Option Nat) (τ : Tau) (x : H) (v : V), callQ C N n0 m Q k d τ (Res.ret v) x = Run C N n0 m Q k (upo d v τ) x) ∧
 (∀ (C : Cx) (N n0 m : Nat) (Q : QT) (k : List It) (d : Option Nat) (τ : Tau) (x : H) (v : V), callQ C N n0 m Q k d τ (Res.pan v) x = Q (XV.pan v) τ x))) ∧
 (((∀ (r : Nat → Nat) (b off len cap : Nat), rnP r (V.sl b off len cap) = V.sl (r b) off len cap) ∧
 (∀ (r : Nat → Nat) (b i o : Nat), rnP r (V.ptr b i o) = V.ptr (r b) i o)) ∧
 ((∀ (r : Nat → Nat) (f : Nat) (caps : List V), rnC r (V.fn f caps) = V.fn f (List.map (rnP r) caps)) ∧
 (∀ (r : Nat → Nat) (cs : List V), rnQ r (V.agg cs) = V.agg (List.map (rnC r) cs))))) ∧
 ((((∀ (r : Nat → Nat) (vs : List V), rnV r (V.tup vs) = V.tup (List.map (rnQ r) vs)) ∧
 (∀ (n : Nat) (els : List (List V)), fz (V.l n els) = V.f n (fzss els))) ∧
 ((∀ (cs : List V), fz (V.lp cs) = V.pd (fzs cs)) ∧
 (∀ (v : Go.Value), fz (V.s v) = V.s v))) ∧
 (((∀ (n : Nat) (els : List (List V)), fz (V.f n els) = V.f n els) ∧
 (fz V.z = V.z)) ∧
 ((∀ (b o l c : Nat), fz (V.sl b o l c) = V.sl b o l c) ∧
 (∀ (b i o : Nat), fz (V.ptr b i o) = V.ptr b i o)))))) ∧
 (((((∀ (cs : List V), fz (V.pd cs) = V.pd cs) ∧
 ((∀ (f : Nat) (c : List V), fz (V.fn f c) = V.fn f c) ∧
 (∀ (c : List V), fz (V.agg c) = V.agg c))) ∧
 (((∀ (c : List V), fz (V.tup c) = V.tup c) ∧
 (fz V.any = V.any)) ∧
 ((fzs [] = []) ∧
 (∀ (x_1 : V) (xs : List V), fzs (x_1 :: xs) = fz x_1 :: fzs xs)))) ∧
 ((((fzss [] = []) ∧
 (∀ (x_1 : List V) (xs : List (List V)), fzss (x_1 :: xs) = fzs x_1 :: fzss xs)) ∧
 ((∀ (n0 x : Nat) (x_1 : H) (v : Go.Value), frz n0 x x_1 (V.s v) = V.s v) ∧
 (∀ (n0 x : Nat) (x_1 : H) (n : Nat) (els : List (List V)), frz n0 x x_1 (V.f n els) = V.f n els))) ∧
 (((∀ (n0 x : Nat) (x_1 : H), frz n0 x x_1 V.z = V.z) ∧
 (∀ (n0 x : Nat) (x_1 : H) (cs : List V), frz n0 x x_1 (V.pd cs) = V.pd cs)) ∧
 ((∀ (n0 x : Nat) (x_1 : H) (n : Nat) (els : List (List V)), frz n0 x x_1 (V.l n els) = V.f n (fzss els)) ∧
 (∀ (n0 x : Nat) (x_1 : H) (cs : List V), frz n0 x x_1 (V.lp cs) = V.pd (fzs cs)))))) ∧
 ((((∀ (n0 : Nat) (x : H) (k f : Nat) (caps : List V), frz n0 k.succ x (V.fn f caps) = V.fn f (List.map (frz n0 k x) caps)) ∧
 ((∀ (n0 : Nat) (x : H) (k : Nat) (cs : List V), frz n0 k.succ x (V.agg cs) = V.agg (List.map (frz n0 k x) cs)) ∧
 (∀ (n0 : Nat) (x : H) (k : Nat) (vs : List V), frz n0 k.succ x (V.tup vs) = V.tup (List.map (frz n0 k x) vs)))) ∧
 (((∀ (b off len cap : Nat) (els : List (List V)) (n cap' : Nat), ownOf (V.sl b off len cap) (some { els := els, n := n, cap := cap', live := true }) = if off = 0 ∧ len = els.length ∧ cap = cap' then some (V.l n els) else none) ∧
 (∀ (b i o : Nat) (el : List V) (n cap' : Nat), ownOf (V.ptr b i o) (some { els := [el], n := n, cap := cap', live := true }) = if i = 0 ∧ o = 0 ∧ cap' = 1 then some (V.lp el) else none)) ∧
 ((∀ (b off len cap : Nat), refB (V.sl b off len cap) = some b) ∧
 (∀ (b i o : Nat), refB (V.ptr b i o) = some b)))) ∧
 ((((∀ (v : Go.Value), nr (V.s v) = true) ∧
 (∀ (n : Nat) (els : List (List V)), nr (V.f n els) = true)) ∧
 ((∀ (n : Nat) (els : List (List V)), nr (V.l n els) = true) ∧
 (∀ (cs : List V), nr (V.lp cs) = true))) ∧
 (((nr V.z = true) ∧
 (∀ (cs : List V), nr (V.pd cs) = true)) ∧
 ((∀ (B : Blk), elsB (some B) = B.els) ∧
 (elsB none = []))))))) :=
 ⟨⟨⟨⟨⟨@rsC.eq_4,
 ⟨@rsT.eq_1,
 @rsT.eq_2⟩⟩,
 ⟨⟨@rsP.eq_1,
 @resW.eq_1⟩,
 ⟨@resW.eq_2,
 @resW.eq_3⟩⟩⟩,
 ⟨⟨⟨@tupOf.eq_1,
 @bodyQ.eq_1⟩,
 ⟨@bodyQ.eq_2,
 @bodyQ.eq_3⟩⟩,
 ⟨⟨@bodyQ.eq_4,
 @loopQ.eq_1⟩,
 ⟨@loopQ.eq_2,
 @loopQ.eq_3⟩⟩⟩⟩,
 ⟨⟨⟨@loopQ.eq_4,
 ⟨@callQ.eq_1,
 @callQ.eq_2⟩⟩,
 ⟨⟨@rnP.eq_1,
 @rnP.eq_2⟩,
 ⟨@rnC.eq_1,
 @rnQ.eq_1⟩⟩⟩,
 ⟨⟨⟨@rnV.eq_1,
 @fz.eq_1⟩,
 ⟨@fz.eq_2,
 @fz.eq_3⟩⟩,
 ⟨⟨@fz.eq_4,
 @fz.eq_5⟩,
 ⟨@fz.eq_6,
 @fz.eq_7⟩⟩⟩⟩⟩,
 ⟨⟨⟨⟨@fz.eq_8,
 ⟨@fz.eq_9,
 @fz.eq_10⟩⟩,
 ⟨⟨@fz.eq_11,
 @fz.eq_12⟩,
 ⟨@fzs.eq_1,
 @fzs.eq_2⟩⟩⟩,
 ⟨⟨⟨@fzss.eq_1,
 @fzss.eq_2⟩,
 ⟨@frz.eq_1,
 @frz.eq_2⟩⟩,
 ⟨⟨@frz.eq_3,
 @frz.eq_4⟩,
 ⟨@frz.eq_5,
 @frz.eq_6⟩⟩⟩⟩,
 ⟨⟨⟨@frz.eq_9,
 ⟨@frz.eq_10,
 @frz.eq_11⟩⟩,
 ⟨⟨@ownOf.eq_1,
 @ownOf.eq_2⟩,
 ⟨@refB.eq_1,
 @refB.eq_2⟩⟩⟩,
 ⟨⟨⟨@nr.eq_1,
 @nr.eq_2⟩,
 ⟨@nr.eq_3,
 @nr.eq_4⟩⟩,
 ⟨⟨@nr.eq_5,
 @nr.eq_6⟩,
 ⟨@elsB.eq_1,
 @elsB.eq_2⟩⟩⟩⟩⟩⟩
theorem wb7 :
 ((((((∀ (h : H) (b i o : Nat), foldK h b i o none = h) ∧
 ((∀ (h : H), folds h [] = h) ∧
 (∀ (h : H) (b i o : Nat) (r : List (Nat × Nat × Nat)), folds h ((b, i, o) :: r) = folds (foldC h b i o) r))) ∧
 (((∀ (x x_1 : H), setAll x [] x_1 = x ++ x_1) ∧
 (∀ (x : H) (i : Nat) (l : List Nat) (B : Blk) (h : List Blk), setAll x (i :: l) (B :: h) = setAll (List.set x i B) l h)) ∧
 ((∀ (x : H) (head : Nat) (tail : List Nat), setAll x (head :: tail) [] = x) ∧
 (∀ (r : Nat → Nat) (v : V), rnRes r (Res.ret v) = Res.ret (rnV r v))))) ∧
 ((((∀ (r : Nat → Nat) (v : V), rnRes r (Res.pan v) = Res.pan (rnV r v)) ∧
 (∀ (n : Nat) (exc : List Nat) (x : Nat), mask n exc x [] = [])) ∧
 ((∀ (n : Nat) (exc : List Nat) (x : Nat) (B : Blk) (h : List Blk), mask n exc x (B :: h) = (if hid n exc x = true then Blk.dead else B) :: mask n exc (x + 1) h) ∧
 (∀ (n : Nat) (exc : List Nat) (x : Nat) (x_1 : H), unmask n exc x [] x_1 = x_1))) ∧
 (((∀ (n : Nat) (exc : List Nat) (x : Nat) (head : Blk) (tail : List Blk), unmask n exc x (head :: tail) [] = []) ∧
 (∀ (n : Nat) (exc : List Nat) (x : Nat) (B : Blk) (h : List Blk) (B' : Blk) (h' : List Blk), unmask n exc x (B :: h) (B' :: h') = (if hid n exc x = true then B else B') :: unmask n exc (x + 1) h h')) ∧
 ((∀ (x : List Nat) (d : Nat), addN (some d) x = d :: x) ∧
 (∀ (x : List Nat), addN none x = x))))) ∧
 ((((∀ (C : Cx) (K : V → H → Prop) (h0 : H) (exc : List Nat) (b : Nat) (v : V), flCk C K h0 exc b (some v) = ((hid (List.length h0) exc b = true ∧ cellOk v = true) ∧ K v h0)) ∧
 ((∀ (C : Cx) (K : V → H → Prop) (h0 : H) (exc : List Nat) (b : Nat), flCk C K h0 exc b none = False) ∧
 (∀ (C : Cx) (K : V → H → Prop) (h0 : H) (exc : List Nat) (b : Nat) (cs : List V), flA C K h0 exc b (some cs) = ((hid (List.length h0) exc b = true ∧ cs.all cellOk = true) ∧ K (V.agg cs) h0)))) ∧
 (((∀ (C : Cx) (K : V → H → Prop) (h0 : H) (exc : List Nat) (b : Nat), flA C K h0 exc b none = False) ∧
 (∀ (C : Cx) (K : V → H → Prop) (h0 : H) (exc : List Nat) (b i o n : Nat), flT C K h0 exc b i o (some true) (some n) = flA C K h0 exc b (rdN (rdB h0[b]? i) o n))) ∧
 ((∀ (C : Cx) (K : V → H → Prop) (h0 : H) (exc : List Nat) (b i o : Nat) (x : Option Nat), flT C K h0 exc b i o (some false) x = flCk C K h0 exc b (rdC (rdB h0[b]? i) o)) ∧
 (∀ (C : Cx) (K : V → H → Prop) (h0 : H) (exc : List Nat) (t : Go.TypeId) (b i o : Nat), flK C K h0 exc t (V.ptr b i o) = flT C K h0 exc b i o (tAgg C.P t) (tSz C.P t))))) ∧
 ((((∀ (C : Cx) (K : V → H → Prop) (h0 : H) (exc : List Nat) (t : Go.TypeId) (cs : List V), flK C K h0 exc t (V.pd cs) = ldF K h0 cs (tAgg C.P t) (tSz C.P t)) ∧
 (∀ (C : Cx) (K : V → H → Prop) (h0 : H) (exc : List Nat) (σ : Tau) (t : Go.TypeId) (x_1 : Go.Operand), oldW C K h0 exc σ (Go.Op.load t x_1) = flK C K h0 exc t (ev C σ x_1))) ∧
 ((∀ (C : Cx) (K : V → H → Prop) (h0 : H) (exc : List Nat) (σ : Tau) (b : Go.Builtin) (args : Array Go.Operand) (ts : Array Go.TypeId), oldW C K h0 exc σ (Go.Op.call { callee := Go.Callee.builtin b, args := args, argTypes := ts }) = builtinW C K h0 b (evs C σ args.toList) ts.toList) ∧
 (∀ (C : Cx) (K : V → H → Prop) (τ : Tau) (h : H) (b : Go.Builtin) (args : Array Go.Operand) (ts : Array Go.TypeId), newW C K τ h (Go.Op.call { callee := Go.Callee.builtin b, args := args, argTypes := ts }) = builtinW C K h b (evs C τ args.toList) ts.toList))) ∧
 (((∀ (Q : QT) (K : V → H → Prop) (τ : Tau) (G : H → H) (x : H) (v : V), dres Q K τ G (Res.ret v) x = K v (G x)) ∧
 (∀ (Q : QT) (K : V → H → Prop) (τ : Tau) (G : H → H) (x : H) (v : V), dres Q K τ G (Res.pan v) x = Q (XV.pan v) τ (G x))) ∧
 ((∀ (C : Cx) (N n0 : Nat) (Q : QT) (k : List It) (h0 : H) (exc : List Nat) (ops : Array Go.Oper) (fuel : Nat) (listed : Array Bool) (args : List V) (d : Option Nat) (nw : List Nat) (τ : Tau) (h : H) (f : Nat) (caps : List V), dcallR C N n0 Q k h0 exc ops fuel listed args d nw τ h (V.fn f caps) = DCall C N n0 Q h0 exc ops fuel listed k f (args ++ caps) d nw τ h) ∧
 (∀ (C : Cx) (N n0 : Nat) (Q : QT) (k : List It) (h0 : H) (exc : List Nat) (ops : Array Go.Oper) (fuel : Nat) (listed : Array Bool) (d : Option Nat) (nw : List Nat) (τ : Tau) (h : H) (s x_2 : V) (t u : Go.TypeId), dcopyR C N n0 Q k h0 exc ops fuel listed d nw τ h [s, x_2] [t, u] = DCopy C N n0 Q h0 exc ops fuel listed k s x_2 t u d nw τ h)))))) ∧
 (((((∀ (C : Cx) (N n0 : Nat) (Q : QT) (k : List It) (h0 : H) (exc : List Nat) (ops : Array Go.Oper) (fuel : Nat) (listed : Array Bool) (R : List Nat → Tau → H → Prop) (d : Option Go.Tmp) (nw : List Nat) (τ : Tau) (h : H) (op : Go.Op) (md : Md) (j : Nat) (b : Bool), guardE C N n0 Q k h0 exc ops fuel listed R d nw τ h op md j true (V.s (Go.Value.bool b)) = bcase b (actW C N n0 Q k h0 exc ops fuel listed R d nw (gSet ops.toList j true τ) h op md) (R (addN d nw) (upo d (V.tup []) (gSet ops.toList j false τ)) h)) ∧
 ((∀ (C : Cx) (N n0 : Nat) (Q : QT) (k : List It) (h0 : H) (exc : List Nat) (ops : Array Go.Oper) (fuel : Nat) (listed : Array Bool) (R : List Nat → Tau → H → Prop) (d : Option Go.Tmp) (nw : List Nat) (τ : Tau) (h : H) (op : Go.Op) (md : Md) (j : Nat) (b : Bool), guardE C N n0 Q k h0 exc ops fuel listed R d nw τ h op md j false (V.s (Go.Value.bool b)) = bcase b (R (addN d nw) (upo d (V.tup []) (gSet ops.toList j true τ)) h) (actW C N n0 Q k h0 exc ops fuel listed R d nw (gSet ops.toList j false τ) h op md)) ∧
 (∀ (C : Cx) (N n0 : Nat) (Q : QT) (k : List It) (h0 : H) (exc : List Nat) (ops : Array Go.Oper) (fuel : Nat) (listed : Array Bool) (R : List Nat → Tau → H → Prop) (d : Option Go.Tmp) (nw : List Nat) (τ : Tau) (h : H) (op : Go.Op) (md : Md) (j : Nat) (x : Bool), guardE C N n0 Q k h0 exc ops fuel listed R d nw τ h op md j x (V.tup []) = R (addN d nw) (upo d (V.tup []) τ) h))) ∧
 (((∀ (C : Cx) (N n0 : Nat) (Q : QT) (k : List It) (h0 : H) (exc : List Nat) (ops : Array Go.Oper) (fuel : Nat) (listed : Array Bool) (R : List Nat → Tau → H → Prop) (d : Option Nat) (nw : List Nat) (τ : Tau) (h : H) (op : Go.Op), actW C N n0 Q k h0 exc ops fuel listed R d nw τ h op Md.old = oldW C (oldN R d nw τ h) h0 exc (restr nw τ) op) ∧
 (∀ (C : Cx) (N n0 : Nat) (Q : QT) (k : List It) (h0 : H) (exc : List Nat) (ops : Array Go.Oper) (fuel : Nat) (listed : Array Bool) (R : List Nat → Tau → H → Prop) (d : Option Nat) (nw : List Nat) (τ : Tau) (h : H) (op : Go.Op), actW C N n0 Q k h0 exc ops fuel listed R d nw τ h op Md.new = newW C (newN R d nw τ h) τ h op)) ∧
 ((∀ (C : Cx) (N n0 : Nat) (Q : QT) (k : List It) (h0 : H) (exc : List Nat) (ops : Array Go.Oper) (fuel : Nat) (listed : Array Bool) (R : List Nat → Tau → H → Prop) (d : Option Nat) (nw : List Nat) (τ : Tau) (h : H) (op : Go.Op), actW C N n0 Q k h0 exc ops fuel listed R d nw τ h op Md.eff = effW C N n0 Q k h0 exc ops fuel listed R d nw τ h op) ∧
 (∀ (C : Cx) (N n0 : Nat) (Q : QT) (k : List It) (h0 : H) (exc : List Nat) (ops : Array Go.Oper) (fuel : Nat) (listed : Array Bool) (R : List Nat → Tau → H → Prop) (nw : List Nat) (τ : Tau) (h : H) (md : Md), nodeW C N n0 Q k h0 exc ops fuel listed R nw τ h md none = False)))) ∧
 ((((∀ (C : Cx) (N n0 : Nat) (Q : QT) (k : List It) (h0 : H) (exc : List Nat) (ops : Array Go.Oper) (fuel : Nat) (listed : Array Bool) (R : List Nat → Tau → H → Prop) (nw : List Nat) (τ : Tau) (h : H) (md : Md) (d : Option Go.Tmp) (op : Go.Op) (type : Go.TypeId) (pos : String) (after : Array Go.Edge), nodeW C N n0 Q k h0 exc ops fuel listed R nw τ h md (some { dst := d, op := op, type := type, pos := pos, after := after, guard := none }) = actW C N n0 Q k h0 exc ops fuel listed R d nw τ h op md) ∧
 (∀ (C : Cx) (N n0 : Nat) (Q : QT) (k : List It) (h0 : H) (exc : List Nat) (ops : Array Go.Oper) (fuel : Nat) (listed : Array Bool) (R : List Nat → Tau → H → Prop) (nw : List Nat) (τ : Tau) (h : H) (md : Md) (d : Option Go.Tmp) (op : Go.Op) (type : Go.TypeId) (pos : String) (after : Array Go.Edge) (j : Nat) (want : Bool), nodeW C N n0 Q k h0 exc ops fuel listed R nw τ h md (some { dst := d, op := op, type := type, pos := pos, after := after, guard := some (j, want) }) = guardE C N n0 Q k h0 exc ops fuel listed R d nw τ h op md j want (gX ops.toList τ j))) ∧
 ((∀ (C : Cx) (N n0 m : Nat) (Q : QT) (k : List It) (h0 : H) (exc : List Nat) (ops : Array Go.Oper) (x : Nat) (x_1 : Array Bool) (x_2 : List Nat) (x_3 : Tau) (x_4 : H), RunD C N n0 m Q k h0 exc ops x x_1 TD.done x_2 x_3 x_4 = Run C N n0 m Q k x_3 x_4) ∧
 (∀ (C : Cx) (N n0 m : Nat) (Q : QT) (k : List It) (h0 : H) (exc : List Nat) (ops : Array Go.Oper) (x : Array Bool) (x_1 : List Nat) (x_2 : Tau) (x_3 : H) (fuel i : Nat) (td : TD), RunD C N n0 m Q k h0 exc ops fuel.succ x (TD.old i td) x_1 x_2 x_3 = nodeW C N n0 Q k h0 exc ops fuel (x.setIfInBounds i true) (RunD C N n0 m Q k h0 exc ops fuel (x.setIfInBounds i true) td) x_1 x_2 x_3 Md.old ops.toList[i]?))) ∧
 (((∀ (C : Cx) (N n0 m : Nat) (Q : QT) (k : List It) (h0 : H) (exc : List Nat) (ops : Array Go.Oper) (x : Array Bool) (x_1 : List Nat) (x_2 : Tau) (x_3 : H) (fuel i : Nat) (td : TD), RunD C N n0 m Q k h0 exc ops fuel.succ x (TD.new i td) x_1 x_2 x_3 = nodeW C N n0 Q k h0 exc ops fuel (x.setIfInBounds i true) (RunD C N n0 m Q k h0 exc ops fuel (x.setIfInBounds i true) td) x_1 x_2 x_3 Md.new ops.toList[i]?) ∧
 (∀ (C : Cx) (N n0 m : Nat) (Q : QT) (k : List It) (h0 : H) (exc : List Nat) (ops : Array Go.Oper) (x : Array Bool) (x_1 : List Nat) (x_2 : Tau) (x_3 : H) (fuel i : Nat) (td : TD), RunD C N n0 m Q k h0 exc ops fuel.succ x (TD.go i td) x_1 x_2 x_3 = nodeW C N n0 Q k h0 exc ops fuel (x.setIfInBounds i true) (RunD C N n0 m Q k h0 exc ops fuel (x.setIfInBounds i true) td) x_1 x_2 x_3 Md.eff ops.toList[i]?)) ∧
 ((∀ (C : Cx) (N n0 m : Nat) (Q : QT) (k : List It) (h0 : H) (exc : List Nat) (ops : Array Go.Oper) (x : Array Bool) (x_1 : List Nat) (x_2 : Tau) (x_3 : H) (fuel i : Nat) (td r : TD), RunD C N n0 m Q k h0 exc ops fuel.succ x (TD.or i td r) x_1 x_2 x_3 = (nodeW C N n0 Q k h0 exc ops fuel (x.setIfInBounds i true) (RunD C N n0 m Q k h0 exc ops fuel (x.setIfInBounds i true) td) x_1 x_2 x_3 Md.eff ops.toList[i]? ∧ RunD C N n0 m Q k h0 exc ops (fuel + 1) x r x_1 x_2 x_3)) ∧
 (∀ (C : Cx) (N n0 m : Nat) (Q : QT) (k : List It) (h0 : H) (exc : List Nat) (ops : Array Go.Oper) (fuel : Nat) (listed : Array Bool) (td : TD) (d : Option Nat) (nw : List Nat) (τ : Tau) (h x : H) (v : V), dcallQ C N n0 m Q k h0 exc ops fuel listed td d nw τ h (Res.ret v) x = RunD C N n0 m Q k h0 exc ops fuel listed td (addN d nw) (upo d v τ) (show_ h0 exc h x)))))) ∧
 ((((∀ (C : Cx) (N n0 m : Nat) (Q : QT) (k : List It) (h0 : H) (exc : List Nat) (ops : Array Go.Oper) (fuel : Nat) (listed : Array Bool) (td : TD) (d : Option Nat) (nw : List Nat) (τ : Tau) (h x : H) (v : V), dcallQ C N n0 m Q k h0 exc ops fuel listed td d nw τ h (Res.pan v) x = Q (XV.pan v) τ (show_ h0 exc h x)) ∧
 ((∀ (x : V) (x_1 : Tau) (d : Nat), upo (some d) x x_1 = up d x x_1) ∧
 (∀ (x : V) (x_1 : Tau), upo none x x_1 = x_1))) ∧
 (((∀ (C : Cx) (τ : Tau) (t : Go.Tmp), ev C τ (Go.Operand.tmp t) = τ t) ∧
 (∀ (C : Cx) (τ : Tau) (v : Go.Value), ev C τ (Go.Operand.const v) = ofV v)) ∧
 ((∀ (C : Cx) (τ : Tau) (g : Nat), ev C τ (Go.Operand.global g) = C.g g) ∧
 (∀ (C : Cx) (τ : Tau) (f : Go.FuncId), ev C τ (Go.Operand.func f) = V.fn f [])))) ∧
 ((((∀ (cs : Array Go.Value), ofV (Go.Value.agg cs) = V.agg (List.map ofV1 cs.toList)) ∧
 (ofV1 (Go.Value.slice none 0 0) = V.z)) ∧
 ((∀ C N n0 R Q items d τ h x, opRun C N n0 R Q items d τ h (.move x) = opW C τ h (.move x) (RunK R items d τ)) ∧
 (∀ C N n0 Q k h0 exc ops fuel listed R d nw τ h x, effW C N n0 Q k h0 exc ops fuel listed R d nw τ h (.move x) = opW C τ (hide h0 exc h) (.move x) (effN h0 exc R d nw τ h)))) ∧
 (((∀ C N n0 R Q items d τ h x, opRun C N n0 R Q items d τ h (.assign x) = opW C τ h (.assign x) (RunK R items d τ)) ∧
 (∀ C N n0 Q k h0 exc ops fuel listed R d nw τ h x, effW C N n0 Q k h0 exc ops fuel listed R d nw τ h (.assign x) = opW C τ (hide h0 exc h) (.assign x) (effN h0 exc R d nw τ h))) ∧
 ((∀ C N n0 R Q items d τ h x y z, opRun C N n0 R Q items d τ h (.pick x y z) = opW C τ h (.pick x y z) (RunK R items d τ)) ∧
 (∀ C N n0 Q k h0 exc ops fuel listed R d nw τ h x y z, effW C N n0 Q k h0 exc ops fuel listed R d nw τ h (.pick x y z) = opW C τ (hide h0 exc h) (.pick x y z) (effN h0 exc R d nw τ h)))))))) :=
 ⟨⟨⟨⟨⟨@foldK.eq_2,
 ⟨@folds.eq_1,
 @folds.eq_2⟩⟩,
 ⟨⟨@setAll.eq_1,
 @setAll.eq_2⟩,
 ⟨@setAll.eq_3,
 @rnRes.eq_1⟩⟩⟩,
 ⟨⟨⟨@rnRes.eq_2,
 @mask.eq_1⟩,
 ⟨@mask.eq_2,
 @unmask.eq_1⟩⟩,
 ⟨⟨@unmask.eq_2,
 @unmask.eq_3⟩,
 ⟨@addN.eq_1,
 @addN.eq_2⟩⟩⟩⟩,
 ⟨⟨⟨@flCk.eq_1,
 ⟨@flCk.eq_2,
 @flA.eq_1⟩⟩,
 ⟨⟨@flA.eq_2,
 @flT.eq_1⟩,
 ⟨@flT.eq_2,
 @flK.eq_1⟩⟩⟩,
 ⟨⟨⟨@flK.eq_2,
 @oldW.eq_1⟩,
 ⟨@oldW.eq_2,
 @newW.eq_1⟩⟩,
 ⟨⟨@dres.eq_1,
 @dres.eq_2⟩,
 ⟨@dcallR.eq_1,
 @dcopyR.eq_1⟩⟩⟩⟩⟩,
 ⟨⟨⟨⟨@guardE_t,
 ⟨@guardE_f,
 @guardE_u⟩⟩,
 ⟨⟨@actW.eq_1,
 @actW.eq_2⟩,
 ⟨@actW.eq_3,
 @nodeW.eq_1⟩⟩⟩,
 ⟨⟨⟨@nodeW.eq_2,
 @nodeW_g⟩,
 ⟨@RunD.eq_1,
 @RunD.eq_2⟩⟩,
 ⟨⟨@RunD.eq_3,
 @RunD.eq_4⟩,
 ⟨@RunD.eq_5,
 @dcallQ.eq_1⟩⟩⟩⟩,
 ⟨⟨⟨@dcallQ.eq_2,
 ⟨@upo.eq_1,
 @upo.eq_2⟩⟩,
 ⟨⟨@ev.eq_1,
 @ev.eq_2⟩,
 ⟨@ev.eq_3,
 @ev.eq_4⟩⟩⟩,
 ⟨⟨⟨@ofV.eq_1,
 @ofV1.eq_1⟩,
 ⟨(by intros; rfl),
 (by intros; rfl)⟩⟩,
 ⟨⟨(by intros; rfl),
 (by intros; rfl)⟩,
 ⟨(by intros; rfl),
 (by intros; rfl)⟩⟩⟩⟩⟩⟩
theorem wb8 :
 ((((((∀ C N n0 R Q items d τ h t ps, opRun C N n0 R Q items d τ h (.build t ps) = opW C τ h (.build t ps) (RunK R items d τ)) ∧
 ((∀ C N n0 Q k h0 exc ops fuel listed R d nw τ h t ps, effW C N n0 Q k h0 exc ops fuel listed R d nw τ h (.build t ps) = opW C τ (hide h0 exc h) (.build t ps) (effN h0 exc R d nw τ h)) ∧
 (∀ C N n0 R Q items d τ h x, opRun C N n0 R Q items d τ h (.nilCheck x) = opW C τ h (.nilCheck x) (RunK R items d τ)))) ∧
 (((∀ C N n0 Q k h0 exc ops fuel listed R d nw τ h x, effW C N n0 Q k h0 exc ops fuel listed R d nw τ h (.nilCheck x) = opW C τ (hide h0 exc h) (.nilCheck x) (effN h0 exc R d nw τ h)) ∧
 (∀ C N n0 R Q items d τ h op t x y u, opRun C N n0 R Q items d τ h (.binOp op t x y u) = opW C τ h (.binOp op t x y u) (RunK R items d τ))) ∧
 ((∀ C N n0 Q k h0 exc ops fuel listed R d nw τ h op t x y u, effW C N n0 Q k h0 exc ops fuel listed R d nw τ h (.binOp op t x y u) = opW C τ (hide h0 exc h) (.binOp op t x y u) (effN h0 exc R d nw τ h)) ∧
 (∀ C N n0 R Q items d τ h op t x, opRun C N n0 R Q items d τ h (.unOp op t x) = opW C τ h (.unOp op t x) (RunK R items d τ))))) ∧
 ((((∀ C N n0 Q k h0 exc ops fuel listed R d nw τ h op t x, effW C N n0 Q k h0 exc ops fuel listed R d nw τ h (.unOp op t x) = opW C τ (hide h0 exc h) (.unOp op t x) (effN h0 exc R d nw τ h)) ∧
 (∀ C N n0 R Q items d τ h t x, opRun C N n0 R Q items d τ h (.makeInterface t x) = opW C τ h (.makeInterface t x) (RunK R items d τ))) ∧
 ((∀ C N n0 Q k h0 exc ops fuel listed R d nw τ h t x, effW C N n0 Q k h0 exc ops fuel listed R d nw τ h (.makeInterface t x) = opW C τ (hide h0 exc h) (.makeInterface t x) (effN h0 exc R d nw τ h)) ∧
 (∀ C N n0 R Q items d τ h fn fi ca, opRun C N n0 R Q items d τ h (.makeFunc fn fi ca) = opW C τ h (.makeFunc fn fi ca) (RunK R items d τ)))) ∧
 (((∀ C N n0 Q k h0 exc ops fuel listed R d nw τ h fn fi ca, effW C N n0 Q k h0 exc ops fuel listed R d nw τ h (.makeFunc fn fi ca) = opW C τ (hide h0 exc h) (.makeFunc fn fi ca) (effN h0 exc R d nw τ h)) ∧
 (∀ C N n0 R Q items d τ h t x lo hi mx, opRun C N n0 R Q items d τ h (.slice t x lo hi mx) = opW C τ h (.slice t x lo hi mx) (RunK R items d τ))) ∧
 ((∀ C N n0 Q k h0 exc ops fuel listed R d nw τ h t x lo hi mx, effW C N n0 Q k h0 exc ops fuel listed R d nw τ h (.slice t x lo hi mx) = opW C τ (hide h0 exc h) (.slice t x lo hi mx) (effN h0 exc R d nw τ h)) ∧
 (∀ C N n0 R Q items d τ h t x f, opRun C N n0 R Q items d τ h (.fieldAddr t x f) = opW C τ h (.fieldAddr t x f) (RunK R items d τ)))))) ∧
 ((((∀ C N n0 Q k h0 exc ops fuel listed R d nw τ h t x f, effW C N n0 Q k h0 exc ops fuel listed R d nw τ h (.fieldAddr t x f) = opW C τ (hide h0 exc h) (.fieldAddr t x f) (effN h0 exc R d nw τ h)) ∧
 ((∀ C N n0 R Q items d τ h t x f, opRun C N n0 R Q items d τ h (.field t x f) = opW C τ h (.field t x f) (RunK R items d τ)) ∧
 (∀ C N n0 Q k h0 exc ops fuel listed R d nw τ h t x f, effW C N n0 Q k h0 exc ops fuel listed R d nw τ h (.field t x f) = opW C τ (hide h0 exc h) (.field t x f) (effN h0 exc R d nw τ h)))) ∧
 (((∀ C N n0 R Q items d τ h t x y, opRun C N n0 R Q items d τ h (.indexAddr t x y) = opW C τ h (.indexAddr t x y) (RunK R items d τ)) ∧
 (∀ C N n0 Q k h0 exc ops fuel listed R d nw τ h t x y, effW C N n0 Q k h0 exc ops fuel listed R d nw τ h (.indexAddr t x y) = opW C τ (hide h0 exc h) (.indexAddr t x y) (effN h0 exc R d nw τ h))) ∧
 ((∀ C N n0 R Q items d τ h t x y, opRun C N n0 R Q items d τ h (.index t x y) = opW C τ h (.index t x y) (RunK R items d τ)) ∧
 (∀ C N n0 Q k h0 exc ops fuel listed R d nw τ h t x y, effW C N n0 Q k h0 exc ops fuel listed R d nw τ h (.index t x y) = opW C τ (hide h0 exc h) (.index t x y) (effN h0 exc R d nw τ h))))) ∧
 ((((∀ C N n0 R Q items d τ h x i, opRun C N n0 R Q items d τ h (.extract x i) = opW C τ h (.extract x i) (RunK R items d τ)) ∧
 (∀ C N n0 Q k h0 exc ops fuel listed R d nw τ h x i, effW C N n0 Q k h0 exc ops fuel listed R d nw τ h (.extract x i) = opW C τ (hide h0 exc h) (.extract x i) (effN h0 exc R d nw τ h))) ∧
 ((∀ C N n0 R Q items d τ h t, opRun C N n0 R Q items d τ h (.alloc t) = opW C τ h (.alloc t) (RunK R items d τ)) ∧
 (∀ C N n0 Q k h0 exc ops fuel listed R d nw τ h t, effW C N n0 Q k h0 exc ops fuel listed R d nw τ h (.alloc t) = opW C τ (hide h0 exc h) (.alloc t) (effN h0 exc R d nw τ h)))) ∧
 (((∀ C N n0 R Q items d τ h t x, opRun C N n0 R Q items d τ h (.box t x) = opW C τ h (.box t x) (RunK R items d τ)) ∧
 (∀ C N n0 Q k h0 exc ops fuel listed R d nw τ h t x, effW C N n0 Q k h0 exc ops fuel listed R d nw τ h (.box t x) = opW C τ (hide h0 exc h) (.box t x) (effN h0 exc R d nw τ h))) ∧
 ((∀ C N n0 R Q items d τ h t n ps, opRun C N n0 R Q items d τ h (.buildSlice t n ps) = opW C τ h (.buildSlice t n ps) (RunK R items d τ)) ∧
 (∀ C N n0 Q k h0 exc ops fuel listed R d nw τ h t n ps, effW C N n0 Q k h0 exc ops fuel listed R d nw τ h (.buildSlice t n ps) = opW C τ (hide h0 exc h) (.buildSlice t n ps) (effN h0 exc R d nw τ h))))))) ∧
 (((((∀ C N n0 R Q items d τ h t x, opRun C N n0 R Q items d τ h (.load t x) = opW C τ h (.load t x) (RunK R items d τ)) ∧
 ((∀ C N n0 Q k h0 exc ops fuel listed R d nw τ h t x, effW C N n0 Q k h0 exc ops fuel listed R d nw τ h (.load t x) = opW C τ (hide h0 exc h) (.load t x) (effN h0 exc R d nw τ h)) ∧
 (∀ C N n0 R Q items d τ h t p x, opRun C N n0 R Q items d τ h (.store t p x) = opW C τ h (.store t p x) (RunK R items d τ)))) ∧
 (((∀ C N n0 Q k h0 exc ops fuel listed R d nw τ h t p x, effW C N n0 Q k h0 exc ops fuel listed R d nw τ h (.store t p x) = opW C τ (hide h0 exc h) (.store t p x) (effN h0 exc R d nw τ h)) ∧
 (∀ C N n0 R Q items d τ h t u x, opRun C N n0 R Q items d τ h (.convert t u x) = opW C τ h (.convert t u x) (RunK R items d τ))) ∧
 ((∀ C N n0 Q k h0 exc ops fuel listed R d nw τ h t u x, effW C N n0 Q k h0 exc ops fuel listed R d nw τ h (.convert t u x) = opW C τ (hide h0 exc h) (.convert t u x) (effN h0 exc R d nw τ h)) ∧
 (∀ C N n0 R Q items d τ h t x y, opRun C N n0 R Q items d τ h (.makeSlice t x y) = opW C τ h (.makeSlice t x y) (RunK R items d τ))))) ∧
 ((((∀ C N n0 Q k h0 exc ops fuel listed R d nw τ h t x y, effW C N n0 Q k h0 exc ops fuel listed R d nw τ h (.makeSlice t x y) = opW C τ (hide h0 exc h) (.makeSlice t x y) (effN h0 exc R d nw τ h)) ∧
 (∀ C K h0 exc σ x, oldW C K h0 exc σ (.move x) = opW C σ h0 (.move x) K)) ∧
 ((∀ C K τ h x, newW C K τ h (.move x) = opW C τ h (.move x) K) ∧
 (∀ C K h0 exc σ x, oldW C K h0 exc σ (.assign x) = opW C σ h0 (.assign x) K))) ∧
 (((∀ C K τ h x, newW C K τ h (.assign x) = opW C τ h (.assign x) K) ∧
 (∀ C K h0 exc σ x y z, oldW C K h0 exc σ (.pick x y z) = opW C σ h0 (.pick x y z) K)) ∧
 ((∀ C K τ h x y z, newW C K τ h (.pick x y z) = opW C τ h (.pick x y z) K) ∧
 (∀ C K h0 exc σ t ps, oldW C K h0 exc σ (.build t ps) = opW C σ h0 (.build t ps) K))))) ∧
 ((((∀ C K τ h t ps, newW C K τ h (.build t ps) = opW C τ h (.build t ps) K) ∧
 ((∀ C K h0 exc σ x, oldW C K h0 exc σ (.nilCheck x) = opW C σ h0 (.nilCheck x) K) ∧
 (∀ C K τ h x, newW C K τ h (.nilCheck x) = opW C τ h (.nilCheck x) K))) ∧
 (((∀ C K h0 exc σ op t x y u, oldW C K h0 exc σ (.binOp op t x y u) = opW C σ h0 (.binOp op t x y u) K) ∧
 (∀ C K τ h op t x y u, newW C K τ h (.binOp op t x y u) = opW C τ h (.binOp op t x y u) K)) ∧
 ((∀ C K h0 exc σ op t x, oldW C K h0 exc σ (.unOp op t x) = opW C σ h0 (.unOp op t x) K) ∧
 (∀ C K τ h op t x, newW C K τ h (.unOp op t x) = opW C τ h (.unOp op t x) K)))) ∧
 ((((∀ C K h0 exc σ t x, oldW C K h0 exc σ (.makeInterface t x) = opW C σ h0 (.makeInterface t x) K) ∧
 (∀ C K τ h t x, newW C K τ h (.makeInterface t x) = opW C τ h (.makeInterface t x) K)) ∧
 ((∀ C K h0 exc σ fn fi ca, oldW C K h0 exc σ (.makeFunc fn fi ca) = opW C σ h0 (.makeFunc fn fi ca) K) ∧
 (∀ C K τ h fn fi ca, newW C K τ h (.makeFunc fn fi ca) = opW C τ h (.makeFunc fn fi ca) K))) ∧
 (((∀ C K h0 exc σ t x lo hi mx, oldW C K h0 exc σ (.slice t x lo hi mx) = opW C σ h0 (.slice t x lo hi mx) K) ∧
 (∀ C K τ h t x lo hi mx, newW C K τ h (.slice t x lo hi mx) = opW C τ h (.slice t x lo hi mx) K)) ∧
 ((∀ C K h0 exc σ t x f, oldW C K h0 exc σ (.fieldAddr t x f) = opW C σ h0 (.fieldAddr t x f) K) ∧
 (∀ C K τ h t x f, newW C K τ h (.fieldAddr t x f) = opW C τ h (.fieldAddr t x f) K))))))) :=
 ⟨⟨⟨⟨⟨(by intros; rfl),
 ⟨(by intros; rfl),
 (by intros; rfl)⟩⟩,
 ⟨⟨(by intros; rfl),
 (by intros; rfl)⟩,
 ⟨(by intros; rfl),
 (by intros; rfl)⟩⟩⟩,
 ⟨⟨⟨(by intros; rfl),
 (by intros; rfl)⟩,
 ⟨(by intros; rfl),
 (by intros; rfl)⟩⟩,
 ⟨⟨(by intros; rfl),
 (by intros; rfl)⟩,
 ⟨(by intros; rfl),
 (by intros; rfl)⟩⟩⟩⟩,
 ⟨⟨⟨(by intros; rfl),
 ⟨(by intros; rfl),
 (by intros; rfl)⟩⟩,
 ⟨⟨(by intros; rfl),
 (by intros; rfl)⟩,
 ⟨(by intros; rfl),
 (by intros; rfl)⟩⟩⟩,
 ⟨⟨⟨(by intros; rfl),
 (by intros; rfl)⟩,
 ⟨(by intros; rfl),
 (by intros; rfl)⟩⟩,
 ⟨⟨(by intros; rfl),
 (by intros; rfl)⟩,
 ⟨(by intros; rfl),
 (by intros; rfl)⟩⟩⟩⟩⟩,
 ⟨⟨⟨⟨(by intros; rfl),
 ⟨(by intros; rfl),
 (by intros; rfl)⟩⟩,
 ⟨⟨(by intros; rfl),
 (by intros; rfl)⟩,
 ⟨(by intros; rfl),
 (by intros; rfl)⟩⟩⟩,
 ⟨⟨⟨(by intros; rfl),
 (by intros; simp only [oldW, isA, true_and])⟩,
 ⟨(by intros; simp only [newW, isA, true_and]),
 (by intros; simp only [oldW, isA, true_and])⟩⟩,
 ⟨⟨(by intros; simp only [newW, isA, true_and]),
 (by intros; simp only [oldW, isA, true_and])⟩,
 ⟨(by intros; simp only [newW, isA, true_and]),
 (by intros; simp only [oldW, isA, true_and])⟩⟩⟩⟩,
 ⟨⟨⟨(by intros; simp only [newW, isA, true_and]),
 ⟨(by intros; simp only [oldW, isA, true_and]),
 (by intros; simp only [newW, isA, true_and])⟩⟩,
 ⟨⟨(by intros; simp only [oldW, isA, true_and]),
 (by intros; simp only [newW, isA, true_and])⟩,
 ⟨(by intros; simp only [oldW, isA, true_and]),
 (by intros; simp only [newW, isA, true_and])⟩⟩⟩,
 ⟨⟨⟨(by intros; simp only [oldW, isA, true_and]),
 (by intros; simp only [newW, isA, true_and])⟩,
 ⟨(by intros; simp only [oldW, isA, true_and]),
 (by intros; simp only [newW, isA, true_and])⟩⟩,
 ⟨⟨(by intros; simp only [oldW, isA, true_and]),
 (by intros; simp only [newW, isA, true_and])⟩,
 ⟨(by intros; simp only [oldW, isA, true_and]),
 (by intros; simp only [newW, isA, true_and])⟩⟩⟩⟩⟩⟩
theorem wb9 :
 ((((((∀ C K h0 exc σ t x f, oldW C K h0 exc σ (.field t x f) = opW C σ h0 (.field t x f) K) ∧
 ((∀ C K τ h t x f, newW C K τ h (.field t x f) = opW C τ h (.field t x f) K) ∧
 (∀ C K h0 exc σ t x y, oldW C K h0 exc σ (.indexAddr t x y) = opW C σ h0 (.indexAddr t x y) K))) ∧
 (((∀ C K τ h t x y, newW C K τ h (.indexAddr t x y) = opW C τ h (.indexAddr t x y) K) ∧
 (∀ C K h0 exc σ t x y, oldW C K h0 exc σ (.index t x y) = opW C σ h0 (.index t x y) K)) ∧
 ((∀ C K τ h t x y, newW C K τ h (.index t x y) = opW C τ h (.index t x y) K) ∧
 (∀ C K h0 exc σ x i, oldW C K h0 exc σ (.extract x i) = opW C σ h0 (.extract x i) K)))) ∧
 ((((∀ C K τ h x i, newW C K τ h (.extract x i) = opW C τ h (.extract x i) K) ∧
 (∀ C N n0 R Q d items τ h xs ts, bltR C N n0 R Q d items τ h xs ts .len = builtinW C (RunK R items d τ) h .len xs ts)) ∧
 ((∀ C N n0 Q k h0 exc ops fuel listed R d nw τ h args ts, effW C N n0 Q k h0 exc ops fuel listed R d nw τ h (.call ⟨.builtin .len, args, ts⟩) = builtinW C (newN R d nw τ h) h .len (evs C τ args.toList) ts.toList) ∧
 (∀ C N n0 R Q d items τ h xs ts, bltR C N n0 R Q d items τ h xs ts .cap = builtinW C (RunK R items d τ) h .cap xs ts))) ∧
 (((∀ C N n0 Q k h0 exc ops fuel listed R d nw τ h args ts, effW C N n0 Q k h0 exc ops fuel listed R d nw τ h (.call ⟨.builtin .cap, args, ts⟩) = builtinW C (newN R d nw τ h) h .cap (evs C τ args.toList) ts.toList) ∧
 (∀ C N n0 R Q d items τ h xs ts, bltR C N n0 R Q d items τ h xs ts .min = builtinW C (RunK R items d τ) h .min xs ts)) ∧
 ((∀ C N n0 Q k h0 exc ops fuel listed R d nw τ h args ts, effW C N n0 Q k h0 exc ops fuel listed R d nw τ h (.call ⟨.builtin .min, args, ts⟩) = builtinW C (newN R d nw τ h) h .min (evs C τ args.toList) ts.toList) ∧
 (∀ C N n0 R Q d items τ h xs ts, bltR C N n0 R Q d items τ h xs ts .max = builtinW C (RunK R items d τ) h .max xs ts))))) ∧
 ((((∀ C N n0 Q k h0 exc ops fuel listed R d nw τ h args ts, effW C N n0 Q k h0 exc ops fuel listed R d nw τ h (.call ⟨.builtin .max, args, ts⟩) = builtinW C (newN R d nw τ h) h .max (evs C τ args.toList) ts.toList) ∧
 ((∀ C N n0 Q k h0 exc ops fuel listed R d nw τ h f args ts, effW C N n0 Q k h0 exc ops fuel listed R d nw τ h (.call ⟨.value f, args, ts⟩) = dcallR C N n0 Q k h0 exc ops fuel listed (evs C τ args.toList) d nw τ h (ev C τ f)) ∧
 (∀ C N n0 Q k h0 exc ops fuel listed R d nw τ h args ts, effW C N n0 Q k h0 exc ops fuel listed R d nw τ h (.call ⟨.builtin .append, args, ts⟩) = appR C (effN h0 exc R d nw τ h) (hide h0 exc h) (evs C τ args.toList) ts.toList))) ∧
 (((∀ C N n0 Q k h0 exc ops fuel listed R d nw τ h args ts, effW C N n0 Q k h0 exc ops fuel listed R d nw τ h (.call ⟨.builtin .copy, args, ts⟩) = dcopyR C N n0 Q k h0 exc ops fuel listed d nw τ h (evs C τ args.toList) ts.toList) ∧
 (∀ K h b i o v, ldV K h b i o (some (.s v)) = K (.s v) h)) ∧
 ((∀ K h b i o n e, ldV K h b i o (some (.f n e)) = K (.f n e) h) ∧
 (∀ K h b i o , ldV K h b i o (some (.z)) = K (.z) h)))) ∧
 ((((∀ K h b i o b2 o2 l2 c2, ldV K h b i o (some (.sl b2 o2 l2 c2)) = K (.sl b2 o2 l2 c2) h) ∧
 (∀ K h b i o b2 i2 o2, ldV K h b i o (some (.ptr b2 i2 o2)) = K (.ptr b2 i2 o2) h)) ∧
 ((∀ K h b i o cs, ldV K h b i o (some (.pd cs)) = K (.pd cs) h) ∧
 (∀ K h b i o f cs, ldV K h b i o (some (.fn f cs)) = K (.fn f cs) h))) ∧
 (((∀ K h b i o , ldV K h b i o (some (.any)) = K (.any) h) ∧
 (∀ K R v, rsC K R (some (.s v)) = R fun vs => K ((.s v) :: vs))) ∧
 ((∀ K R n e, rsC K R (some (.f n e)) = R fun vs => K ((.f n e) :: vs)) ∧
 (∀ K R , rsC K R (some (.z)) = R fun vs => K ((.z) :: vs))))))) ∧
 (((((∀ K R b2 o2 l2 c2, rsC K R (some (.sl b2 o2 l2 c2)) = R fun vs => K ((.sl b2 o2 l2 c2) :: vs)) ∧
 ((∀ K R b2 i2 o2, rsC K R (some (.ptr b2 i2 o2)) = R fun vs => K ((.ptr b2 i2 o2) :: vs)) ∧
 (∀ K R cs, rsC K R (some (.pd cs)) = R fun vs => K ((.pd cs) :: vs)))) ∧
 (((∀ K R f cs, rsC K R (some (.fn f cs)) = R fun vs => K ((.fn f cs) :: vs)) ∧
 (∀ v, notTup (.s v) = true)) ∧
 ((∀ n e, notTup (.f n e) = true) ∧
 (notTup (.z) = true)))) ∧
 ((((∀ b2 o2 l2 c2, notTup (.sl b2 o2 l2 c2) = true) ∧
 (∀ b2 i2 o2, notTup (.ptr b2 i2 o2) = true)) ∧
 ((∀ cs, notTup (.pd cs) = true) ∧
 (∀ f cs, notTup (.fn f cs) = true))) ∧
 (((notTup (.any) = true) ∧
 (∀ cs, notTup (.agg cs) = true)) ∧
 ((∀ r v, rnP r (.s v) = (.s v)) ∧
 (∀ r v, rnC r (.s v) = (.s v)))))) ∧
 ((((∀ r v, rnQ r (.s v) = (.s v)) ∧
 ((∀ r v, rnV r (.s v) = (.s v)) ∧
 (∀ r n e, rnP r (.f n e) = (.f n e)))) ∧
 (((∀ r n e, rnC r (.f n e) = (.f n e)) ∧
 (∀ r n e, rnQ r (.f n e) = (.f n e))) ∧
 ((∀ r n e, rnV r (.f n e) = (.f n e)) ∧
 (∀ r , rnP r (.z) = (.z))))) ∧
 ((((∀ r , rnC r (.z) = (.z)) ∧
 (∀ r , rnQ r (.z) = (.z))) ∧
 ((∀ r , rnV r (.z) = (.z)) ∧
 (∀ r cs, rnP r (.pd cs) = (.pd cs)))) ∧
 (((∀ r cs, rnC r (.pd cs) = (.pd cs)) ∧
 (∀ r cs, rnQ r (.pd cs) = (.pd cs))) ∧
 ((∀ r cs, rnV r (.pd cs) = (.pd cs)) ∧
 (∀ r , rnP r (.any) = (.any)))))))) :=
 ⟨⟨⟨⟨⟨(by intros; simp only [oldW, isA, true_and]),
 ⟨(by intros; simp only [newW, isA, true_and]),
 (by intros; simp only [oldW, isA, true_and])⟩⟩,
 ⟨⟨(by intros; simp only [newW, isA, true_and]),
 (by intros; simp only [oldW, isA, true_and])⟩,
 ⟨(by intros; simp only [newW, isA, true_and]),
 (by intros; simp only [oldW, isA, true_and])⟩⟩⟩,
 ⟨⟨⟨(by intros; simp only [newW, isA, true_and]),
 (by intros; rfl)⟩,
 ⟨(by intros; rfl),
 (by intros; rfl)⟩⟩,
 ⟨⟨(by intros; rfl),
 (by intros; rfl)⟩,
 ⟨(by intros; rfl),
 (by intros; rfl)⟩⟩⟩⟩,
 ⟨⟨⟨(by intros; rfl),
 ⟨(by intros; rfl),
 (by intros; rfl)⟩⟩,
 ⟨⟨(by intros; rfl),
 (by intros; rfl)⟩,
 ⟨(by intros; rfl),
 (by intros; rfl)⟩⟩⟩,
 ⟨⟨⟨(by intros; rfl),
 (by intros; rfl)⟩,
 ⟨(by intros; rfl),
 (by intros; rfl)⟩⟩,
 ⟨⟨(by intros; rfl),
 (by intros; simp only [rsC, notTup, true_and])⟩,
 ⟨(by intros; simp only [rsC, notTup, true_and]),
 (by intros; simp only [rsC, notTup, true_and])⟩⟩⟩⟩⟩,
 ⟨⟨⟨⟨(by intros; simp only [rsC, notTup, true_and]),
 ⟨(by intros; simp only [rsC, notTup, true_and]),
 (by intros; simp only [rsC, notTup, true_and])⟩⟩,
 ⟨⟨(by intros; simp only [rsC, notTup, true_and]),
 (by intros; rfl)⟩,
 ⟨(by intros; rfl),
 (by intros; rfl)⟩⟩⟩,
 ⟨⟨⟨(by intros; rfl),
 (by intros; rfl)⟩,
 ⟨(by intros; rfl),
 (by intros; rfl)⟩⟩,
 ⟨⟨(by intros; rfl),
 (by intros; rfl)⟩,
 ⟨(by intros; rfl),
 (by intros; rfl)⟩⟩⟩⟩,
 ⟨⟨⟨(by intros; rfl),
 ⟨(by intros; rfl),
 (by intros; rfl)⟩⟩,
 ⟨⟨(by intros; rfl),
 (by intros; rfl)⟩,
 ⟨(by intros; rfl),
 (by intros; rfl)⟩⟩⟩,
 ⟨⟨⟨(by intros; rfl),
 (by intros; rfl)⟩,
 ⟨(by intros; rfl),
 (by intros; rfl)⟩⟩,
 ⟨⟨(by intros; rfl),
 (by intros; rfl)⟩,
 ⟨(by intros; rfl),
 (by intros; rfl)⟩⟩⟩⟩⟩⟩
theorem wb10 :
 ((((((∀ r , rnC r (.any) = (.any)) ∧
 ((∀ r , rnQ r (.any) = (.any)) ∧
 (∀ r , rnV r (.any) = (.any)))) ∧
 (((∀ r n e, rnP r (.l n e) = (.l n e)) ∧
 (∀ r n e, rnC r (.l n e) = (.l n e))) ∧
 ((∀ r n e, rnQ r (.l n e) = (.l n e)) ∧
 (∀ r n e, rnV r (.l n e) = (.l n e))))) ∧
 ((((∀ r cs, rnP r (.lp cs) = (.lp cs)) ∧
 (∀ r cs, rnC r (.lp cs) = (.lp cs))) ∧
 ((∀ r cs, rnQ r (.lp cs) = (.lp cs)) ∧
 (∀ r cs, rnV r (.lp cs) = (.lp cs)))) ∧
 (((∀ r b off len cap, rnC r (.sl b off len cap) = (.sl (r b) off len cap)) ∧
 (∀ r b off len cap, rnQ r (.sl b off len cap) = (.sl (r b) off len cap))) ∧
 ((∀ r b off len cap, rnV r (.sl b off len cap) = (.sl (r b) off len cap)) ∧
 (∀ r b i o, rnC r (.ptr b i o) = (.ptr (r b) i o)))))) ∧
 ((((∀ r b i o, rnQ r (.ptr b i o) = (.ptr (r b) i o)) ∧
 ((∀ r b i o, rnV r (.ptr b i o) = (.ptr (r b) i o)) ∧
 (∀ r f cs, rnQ r (.fn f cs) = .fn f (cs.map (rnP r))))) ∧
 (((∀ r f cs, rnV r (.fn f cs) = .fn f (cs.map (rnP r))) ∧
 (∀ r cs, rnV r (.agg cs) = .agg (cs.map (rnC r)))) ∧
 ((∀ id c k, popTo id (.code c :: k) = popTo id k) ∧
 (∀ id a b k, popTo id (.ops a b :: k) = popTo id k)))) ∧
 ((((∀ n0 R h, tupOf n0 R h [] = Up n0 R (.ret (.tup [])) h) ∧
 (∀ n0 R h a b r, tupOf n0 R h (a :: b :: r) = ((a :: b :: r).all notTup = true ∧ Up n0 R (.ret (.tup (a :: b :: r))) h))) ∧
 ((∀ k n, ofV (.int k n) = .s (.int k n)) ∧
 (∀ k n, ofV1 (.int k n) = .s (.int k n)))) ∧
 (((∀ k n, isNil (.const (.int k n)) = .no) ∧
 (∀ b, ofV (.bool b) = .s (.bool b))) ∧
 ((∀ b, ofV1 (.bool b) = .s (.bool b)) ∧
 (∀ b, isNil (.const (.bool b)) = .no)))))) ∧
 (((((∀ x, ofV (.string x) = .s (.string x)) ∧
 ((∀ x, ofV1 (.string x) = .s (.string x)) ∧
 (∀ x, isNil (.const (.string x)) = .no))) ∧
 (((ofV (.pointer none) = .s (.pointer none)) ∧
 (ofV1 (.pointer none) = .s (.pointer none))) ∧
 ((isNil (.const (.pointer none)) = .no) ∧
 (ofV (.nilIface) = .s (.nilIface))))) ∧
 ((((ofV1 (.nilIface) = .s (.nilIface)) ∧
 (ofV (.nilFunc) = .s (.nilFunc))) ∧
 ((ofV1 (.nilFunc) = .s (.nilFunc)) ∧
 (isNil (.const (.nilFunc)) = .no))) ∧
 (((∀ t v, ofV (.iface t v) = .s (.iface t v)) ∧
 (∀ t v, ofV1 (.iface t v) = .s (.iface t v))) ∧
 ((∀ t v, isNil (.const (.iface t v)) = .no) ∧
 (ofV (.map none) = .s (.map none)))))) ∧
 ((((ofV1 (.map none) = .s (.map none)) ∧
 ((isNil (.const (.map none)) = .no) ∧
 (ofV (.slice none 0 0) = .z))) ∧
 (((∀ t, isNil (.tmp t) = .no) ∧
 (∀ f, isNil (.func f) = .no)) ∧
 ((∀ g, isNil (.global g) = .no) ∧
 (∀ cs, isNil (.const (.agg cs)) = .no)))) ∧
 ((((∀ place cells rest off size xs, fillS place cells rest (some (off, size)) (some xs) = if xs.length = size ∧ off + xs.length ≤ cells.length then fillV place (wrL cells off xs) rest else none) ∧
 (∀ n els i rest xs, fillES n els i rest (some xs) = if xs.length = n ∧ i < els.length then fillE n (els.set i xs) rest else none)) ∧
 ((∀ b l, bytesS (some b) (some l) = some (b :: l)) ∧
 (∀ v l, scalS v (some l) = some (v :: l)))) ∧
 (((∀ n0 k h n els, frzL n0 k h (some n) (some els) = .f n (els.map fun el => el.map (frz n0 k h))) ∧
 (∀ n0 k h o el, frzP n0 k h o (some el) = .pd ((el.drop o).map (frz n0 k h)))) ∧
 ((∀ h b i o x b1, foldS1 h b i o x (some b1) = foldS2 h b i o b1 (ownOf x (h[b1]?))) ∧
 (∀ h b i o b1 y, foldS2 h b i o b1 (some y) = if nrs (elsB (h[b1]?)) = true ∧ b1 ≠ b then (wrH h b i o [y]).set b1 Blk.dead else h))))))) :=
 ⟨⟨⟨⟨⟨(by intros; rfl),
 ⟨(by intros; rfl),
 (by intros; rfl)⟩⟩,
 ⟨⟨(by intros; rfl),
 (by intros; rfl)⟩,
 ⟨(by intros; rfl),
 (by intros; rfl)⟩⟩⟩,
 ⟨⟨⟨(by intros; rfl),
 (by intros; rfl)⟩,
 ⟨(by intros; rfl),
 (by intros; rfl)⟩⟩,
 ⟨⟨(by intros; rfl),
 (by intros; rfl)⟩,
 ⟨(by intros; rfl),
 (by intros; rfl)⟩⟩⟩⟩,
 ⟨⟨⟨(by intros; rfl),
 ⟨(by intros; rfl),
 (by intros; rfl)⟩⟩,
 ⟨⟨(by intros; rfl),
 (by intros; rfl)⟩,
 ⟨(by intros; rfl),
 (by intros; rfl)⟩⟩⟩,
 ⟨⟨⟨(by intros; simp only [tupOf, List.all_nil, true_and]),
 (by intros; rfl)⟩,
 ⟨(by intros; rfl),
 (by intros; rfl)⟩⟩,
 ⟨⟨(by intros; rfl),
 (by intros; rfl)⟩,
 ⟨(by intros; rfl),
 (by intros; rfl)⟩⟩⟩⟩⟩,
 ⟨⟨⟨⟨(by intros; rfl),
 ⟨(by intros; rfl),
 (by intros; rfl)⟩⟩,
 ⟨⟨(by intros; rfl),
 (by intros; rfl)⟩,
 ⟨(by intros; rfl),
 (by intros; rfl)⟩⟩⟩,
 ⟨⟨⟨(by intros; rfl),
 (by intros; rfl)⟩,
 ⟨(by intros; rfl),
 (by intros; rfl)⟩⟩,
 ⟨⟨(by intros; rfl),
 (by intros; rfl)⟩,
 ⟨(by intros; rfl),
 (by intros; rfl)⟩⟩⟩⟩,
 ⟨⟨⟨(by intros; rfl),
 ⟨(by intros; rfl),
 (by intros; rfl)⟩⟩,
 ⟨⟨(by intros; rfl),
 (by intros; rfl)⟩,
 ⟨(by intros; rfl),
 (by intros; rfl)⟩⟩⟩,
 ⟨⟨⟨(by intros; rfl),
 (by intros; rfl)⟩,
 ⟨(by intros; rfl),
 (by intros; rfl)⟩⟩,
 ⟨⟨(by intros; rfl),
 (by intros; rfl)⟩,
 ⟨(by intros; rfl),
 (by intros; rfl)⟩⟩⟩⟩⟩⟩
theorem wb11 :
 ((((((nrs [] = true) ∧
 (∀ el r, nrs (el :: r) = (el.all nr && nrs r))) ∧
 ((leafs [] = true) ∧
 ((∀ el r, leafs (el :: r) = (el.all cellOk && leafs r)) ∧
 (∀ K h C t u s x e, appE K h C t u s x (some e) = appF K h C t u e s x (tK C.P u))))) ∧
 (((∀ K h C t u e s x e2, appF K h C t u e s x (.slice e2) = (t = u ∧ appT K h s x (tSz C.P e) (tBytes C.P e) (tZ C.P e))) ∧
 (∀ (K : V → H → Prop) (h : H) (C : Cx) (t u : TypeId) (s x : V), appW K h C t u s x = appE K h C t u s x (tElem C.P t))) ∧
 ((∀ (R : List Nat → Tau → H → Prop) (d : Option Nat) (nw : List Nat) (τ : Tau) (h : H) (v : V) (h' : H), oldN R d nw τ h v h' = R nw (upo d v τ) h) ∧
 ((∀ (R : List Nat → Tau → H → Prop) (d : Option Nat) (nw : List Nat) (τ : Tau) (h : H) (v : V) (h' : H), newN R d nw τ h v h' = R (addN d nw) (upo d v τ) h) ∧
 (∀ (t : Nat), ([] : List Nat).contains t = false))))) ∧
 ((((∀ (a : Nat) (l : List Nat) (t : Nat), (a :: l).contains t = (t == a || l.contains t)) ∧
 (∀ (place : Nat → Option (Nat × Nat)) (cells : List V) (i : Nat) (v : V) (rest : List (Nat × V)), fillV place cells ((i, v) :: rest) = fillS place cells rest (place i) (cellsOf v))) ∧
 ((∀ (n : Nat) (els : List (List V)) (i : Nat) (v : V) (rest : List (Nat × V)), fillE n els ((i, v) :: rest) = fillES n els i rest (cellsOf v)) ∧
 ((∀ (p b k r : Bool), andO p b k (some r) = if k = true then some (p && r) else none) ∧
 (∀ (k : IntKind) (a : Int) (xs : List V) (k' : IntKind) (b : Int) (ys : List V), eqCells (.s (.int k a) :: xs) (.s (.int k' b) :: ys) = andO (decide (a = b)) true (decide (k = k')) (eqCells xs ys))))) ∧
 (((∀ (a b : ByteArray) (xs ys : List V), eqCells (.s (.string a) :: xs) (.s (.string b) :: ys) = andO (decide (a = b)) true true (eqCells xs ys)) ∧
 ((∀ (a b : Bool) (xs ys : List V), eqCells (.s (.bool a) :: xs) (.s (.bool b) :: ys) = andO (a == b) true true (eqCells xs ys)) ∧
 (∀ (el : List V) (r : List (List V)), bytesOf (el :: r) = bytesS (byteOf el) (bytesOf r)))) ∧
 ((∀ (v : Value) (r : List V), scal (.s v :: r) = scalS v (scal r)) ∧
 ((∀ (n0 k : Nat) (h : H) (b off len cap : Nat), frz n0 (k + 1) h (.sl b off len cap) = if b < n0 then .any else frzL n0 k h (strideB (h[b]?)) (elsOf off len (h[b]?))) ∧
 (∀ (n0 k : Nat) (h : H) (b i o : Nat), frz n0 (k + 1) h (.ptr b i o) = if b < n0 then .any else frzP n0 k h o (rdB (h[b]?) i))))))) ∧
 (((((∀ (h : H) (b i o : Nat) (x : V), foldK h b i o (some x) = foldS1 h b i o x (refB x)) ∧
 (∀ (d : Nat) (v : V) (τ : Tau) (t : Nat), up d v τ t = if t = d then v else τ t)) ∧
 ((∀ (v : V) (r : List V) (t : Nat), argsT (v :: r) (t + 1) = argsT r t) ∧
 ((∀ (v : V) (r : List V), argsT (v :: r) 0 = v) ∧
 (∀ (d : Option Nat) (op : Op) (ty : TypeId) (pos : String) after g (r : List Oper), dstOf (⟨d, op, ty, pos, after, g⟩ :: r) 0 = d)))) ∧
 (((∀ (o : Oper) (r : List Oper) (j : Nat), dstOf (o :: r) (j + 1) = dstOf r j) ∧
 ((∀ (all : List Oper) (τ : Tau) (j : Nat), gV all τ j = gW τ (dstOf all j)) ∧
 (∀ (all : List Oper) (j : Nat) (b : Bool) (τ : Tau), gSet all j b τ = gS b τ (dstOf all j)))) ∧
 ((∀ (h : H) (b i o : Nat) (xs : List V), wrH h b i o xs = h.set b (wrB (h[b]?) i o xs)) ∧
 ((∀ (R : List It → Tau → H → Prop) (items : List It) (d : Option Nat) (τ : Tau) (v : V) (h : H), RunK R items d τ v h = R items (upo d v τ) h) ∧
 (∀ (h0 : H) (exc : List Nat) (R : List Nat → Tau → H → Prop) (d : Option Nat) (nw : List Nat) (τ : Tau) (h : H) (v : V) (h' : H), effN h0 exc R d nw τ h v h' = R (addN d nw) (upo d v τ) (show_ h0 exc h h')))))) ∧
 ((((∀ (nw : List Nat) (τ : Tau) (t : Nat), restr nw τ t = if nw.contains t = true then .any else τ t) ∧
 (∀ (n : Nat) (exc : List Nat) (i : Nat), hid n exc i = (decide (i < n) && !exc.contains i))) ∧
 ((∀ (h0 : H) (exc : List Nat) (h : H), hide h0 exc h = mask h0.length exc 0 h) ∧
 ((∀ (h0 : H) (exc : List Nat) (h h' : H), show_ h0 exc h h' = unmask h0.length exc 0 h h') ∧
 (∀ (r : Nat → Nat) (els : List (List V)) (n cap : Nat) (l : Bool), rnB r ⟨els, n, cap, l⟩ = ⟨els.map fun el => el.map (rnC r), n, cap, l⟩)))) ∧
 (((∀ (h : H) (b i o : Nat), foldC h b i o = foldK h b i o (rdC (rdB (h[b]?) i) o)) ∧
 ((∀ (l : List Nat) (L b : Nat), emb l L b = (l[b]?).getD (L + (b - l.length))) ∧
 (∀ (n0 : Nat) (h : H), killFrom n0 h = h.take n0 ++ (h.drop n0).map fun _ => Blk.dead))) ∧
 ((∀ (K : V → H → Prop) (h : H) (s : ByteArray) (l r : Int), cutS K h s l r = ((0 ≤ l ∧ l ≤ r ∧ r ≤ s.size) ∧ K (.s (.string (s.extract l.toNat r.toNat))) h)) ∧
 ((∀ (K : V → H → Prop) (h : H) (n : Nat) (els : List (List V)) (l r : Int), cutF K h n els l r = ((0 ≤ l ∧ l ≤ r ∧ r ≤ els.length) ∧ K (.f n ((els.drop l.toNat).take (r.toNat - l.toNat))) h)) ∧
 (∀ (l : List Nat) (big b : Nat), nm l big b = (l[b]?).getD big))))))) :=
 ⟨⟨⟨⟨⟨(by intros; rfl),
 (by intros; rfl)⟩,
 ⟨(by intros; rfl),
 ⟨(by intros; rfl),
 (by intros; rfl)⟩⟩⟩,
 ⟨⟨(by intros; rfl),
 appW_at⟩,
 ⟨oldN_at,
 ⟨newN_at,
 mem_nil⟩⟩⟩⟩,
 ⟨⟨⟨mem_cons,
 fillV_cons⟩,
 ⟨fillE_cons,
 ⟨andO_some,
 eqCells_int⟩⟩⟩,
 ⟨⟨eqCells_str,
 ⟨eqCells_bool,
 bytesOf_cons⟩⟩,
 ⟨scal_cons,
 ⟨frz_sl,
 frz_ptr⟩⟩⟩⟩⟩,
 ⟨⟨⟨⟨foldK_some,
 up_at⟩,
 ⟨argsT_at,
 ⟨argsT_zero,
 dstOf_zero⟩⟩⟩,
 ⟨⟨dstOf_succ,
 ⟨gV_at,
 gSet_at⟩⟩,
 ⟨wrH_at,
 ⟨runK_at,
 effN_at⟩⟩⟩⟩,
 ⟨⟨⟨restr_at,
 hid_at⟩,
 ⟨hide_at,
 ⟨show_at,
 rnB_at⟩⟩⟩,
 ⟨⟨foldC_at,
 ⟨emb_at,
 killFrom_at⟩⟩,
 ⟨cutS_at,
 ⟨cutF_at,
 nm_at⟩⟩⟩⟩⟩⟩
-- groups: wb1 wb2 wb3 wb4 wb5 wb6 wb7 wb8 wb9 wb10 wb11
end Go.W
/- part WS -/
set_option linter.all false
namespace Go.W
open Go Go.RowKit
theorem ite_t {α : Type} (a b : α) : (if True then a else b) = a := by simp
theorem ite_f {α : Type} (a b : α) : (if False then a else b) = b := by simp
theorem ite_bt {α : Type} (a b : α) : (if true = true then a else b) = a := by simp
theorem ite_bf {α : Type} (a b : α) : (if false = true then a else b) = b := by simp
theorem list_len_one {α : Type} (a : α) : [a].length = 1 := rfl
noncomputable def WB1 := And.intro (And.intro @gX_at @gXW_some) <| And.intro (And.intro (And.intro wb1 wb2) (And.intro wb3 wb4)) (And.intro (And.intro (And.intro wb5 wb6) (And.intro wb7 wb8)) (And.intro wb9 (And.intro wb10 wb11)))
noncomputable def WB2 := And.intro (And.intro (And.intro (And.intro @List.cons_append.{0} @List.nil_append.{0}) (And.intro @List.append_nil.{0} @List.length_cons.{0})) (And.intro (And.intro @List.length_nil.{0} @List.getElem?_cons_zero.{0}) (And.intro @List.getElem?_cons_succ.{0} @List.set_cons_zero.{0})))
 (And.intro (And.intro (And.intro (And.intro @List.set_cons_succ.{0} @List.drop_zero.{0}) (And.intro @List.drop_succ_cons.{0} @List.take_succ_cons.{0})) (And.intro (And.intro @List.take_zero.{0} @List.take_nil.{0}) (And.intro @List.drop_nil.{0} @List.map_cons.{0,0})))
 (And.intro (And.intro (And.intro (And.intro @List.map_nil.{0,0} @List.all_cons.{0}) (And.intro @List.all_nil.{0} @List.replicate_zero.{0})) (And.intro (And.intro @List.replicate_succ.{0} @List.flatten_nil.{0}) (And.intro @List.flatten_cons.{0} @List.getElem?_nil.{0})))
 (And.intro (And.intro (And.intro (And.intro @Option.map_some.{0,0} @Option.map_none.{0,0}) (And.intro @Option.getD_some.{0} @Option.getD_none.{0})) (And.intro (And.intro @ite_t @ite_f) (And.intro @ite_bt @ite_bf)))
 (And.intro (And.intro (And.intro (And.intro Nat.zero_mul Nat.zero_add) (And.intro Nat.add_zero Nat.mul_one)) (And.intro (And.intro Int.toNat_zero Int.toNat_natCast) (And.intro @forall_const.{1} true_and)))
 (And.intro (And.intro (And.intro (And.intro and_true false_and) (And.intro and_false not_true_eq_false)) (And.intro (And.intro not_false_eq_true true_implies) (And.intro @implies_true.{1} Bool.not_true)))
 (And.intro (And.intro (And.intro (And.intro Bool.not_false Bool.and_self) (And.intro Bool.and_true Bool.true_and)) (And.intro (And.intro Bool.true_or Bool.or_true) (And.intro Bool.false_or Bool.or_false)))
 (And.intro (And.intro (And.intro Bool.false_and Bool.and_false) (And.intro @ne_eq.{1} @bcase_true)) (And.intro @List.toList_toArray.{0} (And.intro @List.size_toArray.{0} @bcase_false)))))))))
end Go.W
/- part W24 -/
set_option linter.unusedVariables false
set_option linter.unusedSimpArgs false
namespace Go.W
open Go Go.RowKit

/-! ### Functions whose answer stays -/
/-- f answers r: nothing of one's own is handed over, and nothing is left. -/
structure PureV (C : Cx) (f : Nat) (args : List V) (r : V) : Prop where
  cr : ∀ ρ, rnV ρ r = r
  ca : ∀ ρ, args.map (rnV ρ) = args
  calls : CallsV C f args [] fun res h' => res = .ret r ∧ h' = []

def tupP (d : Nat) (K : V → Prop) (h : H) : List V → Prop
  | [v] => K (frz 0 d h v)
  | vs => vs.all notTup = true ∧ K (frz 0 d h (.tup vs))
def pureQ (C : Cx) (fn : Func) (d : Nat) (K : V → Prop) : QT
  | .normal, τ, h => resW C h τ fn.results.toList (tupP d K h)
  | .ret, τ, h => resW C h τ fn.results.toList (tupP d K h)
  | _, _, _ => False

theorem frz_closed (r : Nat → Nat) (n0 : Nat) (h : H) : ∀ (d : Nat) (v : V), rnP r (frz n0 d h v) = frz n0 d h v ∧ rnC r (frz n0 d h v) = frz n0 d h v ∧ rnQ r (frz n0 d h v) = frz n0 d h v ∧ rnV r (frz n0 d h v) = frz n0 d h v
  | 0, v => by cases v <;> simp [frz, rnC, rnP, rnQ, rnV]
  | d + 1, v => by
    have ih := fun v => frz_closed r n0 h d v
    cases v with
    | sl b off len cap =>
      rw [frz_sl]; split
      · simp [rnC, rnP, rnQ, rnV]
      · unfold frzL; split <;> simp [rnC, rnP, rnQ, rnV]
    | ptr b i o =>
      rw [frz_ptr]; split
      · simp [rnC, rnP, rnQ, rnV]
      · unfold frzP; split <;> simp [rnC, rnP, rnQ, rnV]
    | fn f caps =>
      have e : (caps.map (frz n0 d h)).map (rnP r) = caps.map (frz n0 d h) := by simp [fun v => (ih v).1]
      simp only [frz, rnC, rnP, rnQ, rnV, e, and_self]
    | agg cs =>
      have e : (cs.map (frz n0 d h)).map (rnC r) = cs.map (frz n0 d h) := by simp [fun v => (ih v).2.1]
      simp only [frz, rnC, rnP, rnQ, rnV, e, and_self]
    | tup cs =>
      have e : (cs.map (frz n0 d h)).map (rnQ r) = cs.map (frz n0 d h) := by simp [fun v => (ih v).2.2.1]
      simp only [frz, rnC, rnP, rnQ, rnV, e, and_self]
    | _ => simp [frz, rnC, rnP, rnQ, rnV]

theorem Up.pure {C : Cx} {h : H} {R : Res → H → Prop} {v : V} (d : Nat) (hr : R (.ret (frz 0 d h v)) []) : Up 0 R (.ret v) h := by
  refine ⟨frz 0 d h v, [], _, (Arr.frz d).trans (Arr.gc (l := []) (h' := []) ?_), ⟨frz 0 d h v, .inr rfl, .inr ?_⟩, hr⟩
  · exact ⟨rfl, List.nodup_nil, Nat.le_refl _, fun i hi => by omega, fun i B' hB => by simp at hB⟩
  · exact (frz_closed _ 0 h d v).2.2.2.symm

theorem resW_mono {C : Cx} {h : H} {τ : Tau} {K K' : List V → Prop} (hk : ∀ vs, K vs → K' vs) : ∀ {rs : List ResultVar}, resW C h τ rs K → resW C h τ rs K' := by
  intro rs
  induction rs generalizing K K' with
  | nil => intro q; simp only [resW] at *; exact hk _ q
  | cons x rs ih =>
    intro q
    cases x with
    | tmp t => simp only [resW] at *; exact ih (fun vs q => hk _ q) q
    | cell a t =>
      simp only [resW] at *
      unfold rsP at *
      split at q
      · unfold rsT at *
        split at q
        · unfold rsA at *
          split at q
          · exact ⟨q.1, ih (fun vs q => hk _ q) q.2⟩
          · exact q.elim
        · unfold rsC at *
          split at q
          · exact q.elim
          · exact q.elim
          · rename_i v _ _ hv
            exact ⟨q.1, ih (fun vs q => hk _ q) q.2⟩
          · exact q.elim
        · exact q.elim
      · exact q.elim

theorem pureQ_body {C : Cx} {fn : Func} {d : Nat} {K : V → Prop} {R : Res → H → Prop} (hK : ∀ v, K v → R (.ret v) []) : ∀ x τ h, pureQ C fn d K x τ h → bodyQ C 0 fn R x τ h := by
  have key : ∀ τ h, resW C h τ fn.results.toList (tupP d K h) → resW C h τ fn.results.toList (tupOf 0 R h) := fun τ h q => by
    refine resW_mono (fun vs q => ?_) q
    match vs, q with
    | [], q => exact ⟨rfl, Up.pure (C := C) d (hK _ q.2)⟩
    | [v], q => exact Up.pure (C := C) d (hK _ q)
    | a :: b :: r, q => exact ⟨q.1, Up.pure (C := C) d (hK _ q.2)⟩
  intro x τ h q
  cases x with
  | normal => exact key τ h q
  | ret => exact key τ h q
  | exit id => exact q.elim
  | pan v => exact q.elim
theorem pure_of_run {C : Cx} {f : Nat} {fn : Func} {c : Code} {args : List V} {r : V} (hf : C.P.funcs[f]? = some fn) (hb : fn.body = some c) (hn : enters C.P f = true)
    (hc : codeOk fn.ntmps c = true) (hl : args.length ≤ fn.ntmps) (ha : ∀ ρ, args.map (rnV ρ) = args) (hcr : ∀ ρ, rnV ρ r = r) (d n : Nat) (hr : Run C fn.ntmps 0 n (pureQ C fn d (fun v => v = r)) [.code c] (argsT args) []) (hrd : C.rd = none := by rfl) : PureV C f args r := by
  refine ⟨hcr, ha, calls_of_wc hf hb hn hc hl ?_ hrd⟩
  have hsem := Run_sound n _ [.code c] (argsT args) [] (by simp [itOk, hc]) hr
  exact WC.mono hsem (pureQ_body (d := d) (K := fun v => v = r) fun v e => by subst e; exact ⟨rfl, rfl⟩)

theorem panFree_pure {C : Cx} (fn : Func) (d : Nat) (K : V → Prop) : PanFree (pureQ C fn d K) := fun v τ τ' h q => q

section
variable {C : Cx} {N n0 m : Nat} {Q : QT} {k : List It} {τ : Tau} {h : H}
theorem PureV.at_ {f : Nat} {args : List V} {r : V} (p : PureV C f args r) (H : H) : CallsV C f args H fun res h' => res = .ret r ∧ h' = H := by
  have := CallsV.lift p.calls H
  rw [p.ca] at this
  refine this.mono fun res h' ⟨r1, h1, ⟨e1, e2⟩, e3, e4⟩ => ?_
  subst e1; subst e2
  refine ⟨by rw [e3]; simp only [rnRes, p.cr], by rw [e4]; simp⟩
theorem CallThen.pure {f : Nat} {args : List V} {r : V} {d : Option Nat} (p : PureV C f args r) (m : Nat) (hr : Run C N n0 m Q k (upo d r τ) h) : CallThen C N n0 Q f args d k τ h :=
  CallThen.of m (p.at_ h) fun res h' ⟨e1, e2⟩ => by subst e1; subst e2; exact hr
theorem hide_len {h0 : H} {exc : List Nat} {h : H} : (hide h0 exc h).length = h.length := mask_len 0 h
theorem show_hide (n : Nat) (exc : List Nat) : ∀ (i : Nat) (h : H), unmask n exc i h (mask n exc i h) = h
  | _, [] => rfl
  | i, B :: h => by
    simp only [mask, unmask, show_hide n exc (i + 1) h]
    split <;> rfl
theorem DCall.pure {h0 : H} {exc : List Nat} {ops : Array Oper} {fuel : Nat} {listed : Array Bool} {f : Nat} {args : List V} {r : V} {d : Option Nat} {nw : List Nat} (p : PureV C f args r) (m : Nat) (td : TD) (hd : drawOk ops [] listed td = true)
    (hr : RunD C N n0 m Q k h0 exc ops fuel listed td (addN d nw) (upo d r τ) h) : DCall C N n0 Q h0 exc ops fuel listed k f args d nw τ h :=
  DCall.of m td hd (p.at_ _) fun res h' ⟨e1, e2⟩ => by
    subst e1; subst e2
    show RunD C N n0 m Q k h0 exc ops fuel listed td (addN d nw) (upo d r τ) (unmask h0.length exc 0 h (mask h0.length exc 0 h))
    rw [show_hide]; exact hr

theorem ex_succ (k : Nat) : (∃ n, some (k + 1) = some (n + 1)) = True := by simp
theorem bcase_if (p : Prop) [Decidable p] (x y : Prop) : bcase (decide p) x y = ((p → x) ∧ (¬ p → y)) := by
  by_cases h : p <;> simp [bcase, h]
theorem bcase_ifn (p : Prop) [Decidable p] (x y : Prop) : bcase (!decide p) x y = ((¬ p → x) ∧ (p → y)) := by
  by_cases h : p <;> simp [bcase, h]
theorem wrap_i64 {a : Int} (h1 : -9223372036854775808 ≤ a) (h2 : a ≤ 9223372036854775807) : IntKind.i64.wrap a = a := by
  simp only [IntKind.wrap, IntKind.signed, IntKind.bits, Bool.true_and, decide_eq_true_eq, ge_iff_le]
  split <;> omega
theorem tupP_one (d : Nat) (K : V → Prop) (h : H) (v : V) : tupP d K h [v] = K (frz 0 d h v) := rfl
theorem tupP_nil (d : Nat) (K : V → Prop) (h : H) : tupP d K h [] = K (frz 0 d h (.tup [])) := by simp [tupP]
theorem tupP_two (d : Nat) (K : V → Prop) (h : H) (a b : V) (r : List V) : tupP d K h (a :: b :: r) = ((a :: b :: r).all notTup = true ∧ K (frz 0 d h (.tup (a :: b :: r)))) := rfl
theorem pureQ_ret (fn : Func) (d : Nat) (K : V → Prop) : pureQ C fn d K .ret τ h = resW C h τ fn.results.toList (tupP d K h) := rfl
theorem pureQ_normal (fn : Func) (d : Nat) (K : V → Prop) : pureQ C fn d K .normal τ h = resW C h τ fn.results.toList (tupP d K h) := rfl
end
theorem frzs_s (n0 d : Nat) (h : H) (v : Value) : frz n0 d h (.s v) = .s v := by cases d <;> rfl
theorem frzs_f (n0 d : Nat) (h : H) (n els) : frz n0 d h (.f n els) = .f n els := by cases d <;> rfl
theorem frzs_z (n0 d : Nat) (h : H) : frz n0 d h .z = .z := by cases d <;> rfl
theorem frzs_pd (n0 d : Nat) (h : H) (cs) : frz n0 d h (.pd cs) = .pd cs := by cases d <;> rfl
set_option linter.all false in
noncomputable def WB3 := And.intro (And.intro (And.intro and_self @implies_true.{0}) (And.intro @forall_const.{0} @List.getElem?_map.{0,0}))  <| And.intro (And.intro (And.intro ex_succ @bcase_if) (And.intro @bcase_ifn tupP_one)) (And.intro (And.intro tupP_nil tupP_two) (And.intro (And.intro @pureQ_ret @pureQ_normal) (And.intro (And.intro frzs_s frzs_f) (And.intro frzs_z frzs_pd))))
end Go.W
/- part W25 -/
set_option linter.unusedVariables false
set_option linter.unusedSimpArgs false
namespace Go.W
open Go Go.RowKit

/-! ### Loops that keep nothing of their own -/
/-- Temporaries that are told; of the others nothing is known. -/
def keepL : List (Nat × V) → Tau
  | [], _ => .any
  | (t, v) :: r, i => if i = t then v else keepL r i
theorem keepL_cons (t : Nat) (v : V) (r : List (Nat × V)) (i : Nat) : keepL ((t, v) :: r) i = if i = t then v else keepL r i := rfl
theorem keepL_nil (i : Nat) : keepL [] i = .any := rfl
/-- Temporaries as what stays. -/
def keepR (d : Nat) (h : H) (τ : Tau) : List Nat → List (Nat × V)
  | [] => []
  | t :: ks => (t, Go.W.frz 0 d h (τ t)) :: keepR d h τ ks
theorem keepR_nil (d : Nat) (h : H) (τ : Tau) : keepR d h τ [] = [] := rfl
theorem keepR_cons (d : Nat) (h : H) (τ : Tau) (t : Nat) (ks : List Nat) : keepR d h τ (t :: ks) = (t, Go.W.frz 0 d h (τ t)) :: keepR d h τ ks := rfl
theorem keepR_map (d : Nat) (h : H) (τ : Tau) : ∀ ks, keepR d h τ ks = ks.map fun t => (t, Go.W.frz 0 d h (τ t))
  | [] => rfl
  | t :: ks => by simp [keepR, keepR_map d h τ ks]
theorem keepL_map (g : Nat → V) : ∀ (ks : List Nat) (t : Nat), keepL (ks.map fun t => (t, g t)) t = if t ∈ ks then g t else .any
  | [], t => by simp [keepL]
  | k :: ks, t => by
    simp only [List.map_cons, keepL_cons, keepL_map g ks t]
    by_cases e : t = k
    · subst e; simp
    · simp [e]

section
variable {C : Cx} {N m : Nat} {Q : QT} {k : List It} {τ : Tau} {h : H}
theorem Arr.pure (h : H) (d : Nat) : Arr 0 h [] fun x x' => x' = .any ∨ x' = Go.W.frz 0 d h x := by
  refine ((Arr.frz (h := h) (n0 := 0) d).trans (Arr.gc (l := []) (h' := []) ?_)).mono fun x x' e => ?_
  · exact ⟨rfl, List.nodup_nil, Nat.le_refl _, fun i hi => by omega, fun i B' hB => by simp at hB⟩
  · rcases e with e | e
    · exact ⟨x, .inl rfl, .inl e⟩
    · subst e; exact ⟨_, .inr rfl, .inr (frz_closed _ 0 h d x).2.2.2.symm⟩
theorem Goes.pure {K : Tau → H → Prop} (d : Nat) (ks : List Nat) (hk : K (keepL (keepR d h τ ks)) []) : Goes 0 K τ h := by
  refine ⟨_, [], _, Arr.pure h d, fun t => ?_, hk⟩
  rw [keepR_map, keepL_map (fun t => Go.W.frz 0 d h (τ t))]
  split
  · exact .inr rfl
  · exact .inl rfl

/-- What a round must come to: d: how deep one freezes; ks: the temporaries that are kept. -/
def loopP (C : Cx) (N m : Nat) (Q : QT) (k : List It) (d : Nat) (ks : List Nat) (I : Tau → Prop) : QT
  | .normal, τ, h => I (keepL (keepR d h τ ks))
  | .exit id, τ, h => exitK (Run C N 0 m Q) Q id τ h (popTo id k)
  | .ret, τ, h => Q .ret τ h
  | .pan v, τ, h => Q (.pan v) τ h
theorem panFree_loopP {d : Nat} {ks : List Nat} {I : Tau → Prop} (hQ : PanFree Q) : PanFree (loopP C N m Q k d ks I) := fun v τ τ' h q => hQ v τ τ' h q

theorem LoopThen.pure {ι : Type} {body : Code} (P : ι → Prop) (T : ι → Tau) (μ : ι → Nat) (d : Nat) (ks : List Nat) (m n : Nat)
    (h0 : ∃ i, P i ∧ keepL (keepR d h τ ks) = T i)
    (hr : ∀ i, P i → Run C N 0 n (loopP C N m Q k d ks fun τ' => ∃ j, (P j ∧ μ j < μ i) ∧ τ' = T j) [.code body] (T i) []) : LoopThen C N 0 Q body k τ h := by
  classical
  intro hb hk
  -- the measure of a state: the least of those that it can be told by
  let I : Tau → H → Prop := fun τ h => ∃ i, P i ∧ τ = T i ∧ h = []
  have nat_min : ∀ (p : Nat → Prop) (n : Nat), p n → ∃ n, p n ∧ ∀ m, p m → n ≤ m := by
    intro p n hn
    induction n using Nat.strongRecOn with
    | _ n ih =>
      by_cases q : ∃ m, m < n ∧ p m
      · obtain ⟨m, h1, h2⟩ := q; exact ih m h1 h2
      · exact ⟨n, hn, fun m hm => Nat.le_of_not_lt fun h => q ⟨m, h, hm⟩⟩
  let M : Tau → H → Nat := fun τ h => if q : ∃ n, ∃ i, P i ∧ τ = T i ∧ μ i = n then Classical.choose (nat_min (fun n => ∃ i, P i ∧ τ = T i ∧ μ i = n) _ (Classical.choose_spec q)) else 0
  have hM : ∀ τ h, (∃ i, P i ∧ τ = T i) → ∃ i, P i ∧ τ = T i ∧ μ i = M τ h ∧ ∀ j, P j → τ = T j → M τ h ≤ μ j := by
    intro τ h ⟨i, h1, h2⟩
    have q : ∃ n, ∃ i, P i ∧ τ = T i ∧ μ i = n := ⟨μ i, i, h1, h2, rfl⟩
    have e : M τ h = Classical.choose (nat_min (fun n => ∃ i, P i ∧ τ = T i ∧ μ i = n) _ (Classical.choose_spec q)) := dif_pos q
    have sp := Classical.choose_spec (nat_min (fun n => ∃ i, P i ∧ τ = T i ∧ μ i = n) _ (Classical.choose_spec q))
    rw [← e] at sp
    obtain ⟨⟨j, j1, j2, j3⟩, j4⟩ := sp
    exact ⟨j, j1, j2, j3, fun i' q1 q2 => j4 (μ i') ⟨i', q1, q2, rfl⟩⟩
  refine WC.loop I M ?_ fun τ h hI => ?_
  · obtain ⟨i, h1, h2⟩ := h0
    exact Goes.pure d ks ⟨i, h1, h2, rfl⟩
  · obtain ⟨i0, p0, e0, rfl⟩ := hI
    obtain ⟨i, p1, e1, e2, _⟩ := hM τ [] ⟨i0, p0, e0⟩
    subst e1
    have := Run_sound n _ [.code body] (T i) [] (by simp [itOk, hb]) (hr i p1)
    refine WC.mono this fun x τ' h' q => ?_
    cases x with
    | normal =>
      obtain ⟨j, ⟨q1, q2⟩, q3⟩ := q
      refine Goes.pure d ks ⟨⟨j, q1, q3, rfl⟩, ?_⟩
      obtain ⟨j', _, _, _, r4⟩ := hM (keepL (keepR d h' τ' ks)) [] ⟨j, q1, q3⟩
      have := r4 j q1 q3
      omega
    | exit id =>
      refine semK_exit ?_
      simp only [SemK, loopP] at q
      cases hp : popTo id k with
      | none => rw [hp] at q; exact q
      | some k' => rw [hp] at q; exact Run_sound m Q k' τ' h' (popTo_ok hp hk) q
    | ret => exact semK_ret q
    | pan v => exact semK_pan q

theorem loopP_normal (d : Nat) (ks : List Nat) (I : Tau → Prop) : loopP C N m Q k d ks I .normal τ h = I (keepL (keepR d h τ ks)) := rfl
theorem loopP_exit (d : Nat) (ks : List Nat) (I : Tau → Prop) (id : Nat) : loopP C N m Q k d ks I (.exit id) τ h = exitK (Run C N 0 m Q) Q id τ h (popTo id k) := rfl
theorem loopP_ret (d : Nat) (ks : List Nat) (I : Tau → Prop) : loopP C N m Q k d ks I .ret τ h = Q .ret τ h := rfl
theorem loopP_pan (d : Nat) (ks : List Nat) (I : Tau → Prop) (v : V) : loopP C N m Q k d ks I (.pan v) τ h = Q (.pan v) τ h := rfl
end
theorem dec_true : decide True = true := by simp
theorem dec_false : decide False = false := by simp
theorem drop_cons {α : Type} {l : List α} {i : Nat} {a : α} (h : l[i]? = some a) : l.drop i = a :: l.drop (i + 1) := by
  obtain ⟨h1, h2⟩ := List.getElem?_eq_some_iff.1 h
  rw [List.drop_eq_getElem_cons h1, h2]
theorem get_lt {α : Type} {l : List α} {i : Nat} (h : (i : Int) < (l.length : Nat)) : ∃ a, l[i]? = some a := ⟨l[i]'(by omega), List.getElem?_eq_getElem (by omega)⟩
theorem cast_succ (i : Nat) : (i : Int) + 1 = ((i + 1 : Nat) : Int) := by omega
set_option linter.all false in
noncomputable def WB4 := And.intro (And.intro dec_true dec_false) <| And.intro (And.intro (And.intro keepL_cons keepL_nil) (And.intro keepR_cons keepR_nil)) (And.intro (And.intro @loopP_normal @loopP_exit) (And.intro @loopP_ret @loopP_pan))
end Go.W
/- part W26 -/
set_option linter.unusedVariables false
set_option linter.unusedSimpArgs false
namespace Go.W
open Go Go.RowKit Go.ChangeShapes Go.WideShapes

/-! ### From a statement's arguments to values -/
/-- All that the world holds stands fast. -/
def zOf (W : World) : Zm := fun k o => W.cell? ⟨k, o, none⟩
def phi0 (W : World) : Phi := ⟨fun _ => none, zOf W⟩
theorem rel0 (W : World) : Rel (fun _ => False) W (phi0 W) [] W :=
  ⟨fun _ => [], Kept.refl _ _, fun _ _ => rfl, fun _ _ _ h => h, fun _ _ _ h => by simp at h, fun _ _ h => by simp at h, fun _ => List.nodup_nil, fun _ _ _ h => by simp at h, fun _ _ => rfl, fun b B h => by simp at h⟩

section
variable {H' : Type} {enc : TypeId × Value → H'} {P : Program} {W : World}

/-- What the cells of a datum of type t are like. -/
def Opn (enc : TypeId × Value → H') (P : Program) (W : World) (t : TypeId) (G : List V → Prop) : Prop :=
  ∀ fuel cs x, DataW.trod enc P W 0 (fun _ => true) true fuel t cs = some x → ∃ xs, All2 (RZ (zOf W)) xs cs ∧ G xs
theorem Opn.mono {t : TypeId} {G G' : List V → Prop} (o : Opn enc P W t G) (h : ∀ xs, G xs → G' xs) : Opn enc P W t G' := fun f cs x q => by
  obtain ⟨xs, h1, h2⟩ := o f cs x q; exact ⟨xs, h1, h _ h2⟩

theorem opn_bool {t : TypeId} (ht : P.underlying t = some .bool) : Opn enc P W t fun xs => ∃ b, xs = [.s (.bool b)] := by
  intro fuel cs x h
  obtain ⟨b, rfl, _⟩ := DataW.trod_bool ht h
  exact ⟨[.s (.bool b)], ⟨by simp [RZ, one], trivial⟩, b, rfl⟩
theorem opn_int {t : TypeId} {k : IntKind} (ht : P.underlying t = some (.int k)) : Opn enc P W t fun xs => ∃ n, xs = [.s (.int k n)] ∧ (Lit.int k n).wf = true := by
  intro fuel cs x h
  obtain ⟨n, rfl, _, hw⟩ := DataW.trod_int ht h
  exact ⟨[.s (.int k n)], ⟨by simp [RZ, one], trivial⟩, n, rfl, hw⟩
theorem opn_str {t : TypeId} (ht : P.underlying t = some .string) : Opn enc P W t fun xs => ∃ s, xs = [.s (.string s)] := by
  intro fuel cs x h
  obtain ⟨s, rfl, _, hs⟩ := DataW.trod_string ht h
  exact ⟨[.s (.string s)], ⟨by simp only [RZ, one, decide_eq_true_eq, true_and]; simp only [maxLen, LIM] at *; omega, trivial⟩, s, rfl⟩
theorem rzs_of {k : Nat} {z : Zm} : ∀ {xs : List V} {cs : List Value} {off : Nat}, All2 (RZ z) xs cs → (∀ (i : Nat) v, cs[i]? = some v → z k (off + i) = some v) → RZs z k off xs
  | [], [], _, _, _ => by simp [RZs]
  | x :: xs, c :: cs, off, r, h => by
    simp only [RZs]
    refine ⟨⟨c, by simpa using h 0 c rfl, r.1⟩, rzs_of r.2 fun i v e => ?_⟩
    rw [show off + 1 + i = off + (i + 1) by omega]; exact h (i + 1) v (by simpa using e)
  | [], _ :: _, _, r, _ => r.elim
  | _ :: _, [], _, r, _ => r.elim
theorem opn_slice {t e : TypeId} {n : Nat} {G : List V → Prop} (ht : P.underlying t = some (.slice e)) (hc : P.cellsOf e = n + 1) (he : Opn enc P W e G) :
    Opn enc P W t fun xs => ∃ els, xs = [.f (n + 1) els] ∧ ∀ el ∈ els, G el := by
  intro fuel cs x h
  rcases DataW.trod_slice ht h with ⟨rfl, _⟩ | ⟨a, len, cap, elems, rest, m, _, rfl, rfl, hb, hl, hm, hlen, hel, hsp, _⟩
  · exact ⟨[.f (n + 1) []], ⟨by simp only [RZ]; exact .inl ⟨trivial, _, rfl⟩, trivial⟩, [], rfl, by simp⟩
  by_cases h0 : cap = 0
  · subst h0
    obtain rfl : len = 0 := by omega
    exact ⟨[.f (n + 1) []], ⟨by simp only [RZ]; exact .inl ⟨trivial, _, rfl⟩, trivial⟩, [], rfl, by simp⟩
  obtain ⟨hrl, hr⟩ := hsp rfl
  -- each element
  have each : ∀ i, i < len → ∃ cs', W.cells? 0 (a.add (i * (n + 1))) (n + 1) = some cs' ∧ ∃ el, All2 (RZ (zOf W)) el cs' ∧ G el := fun i hi => by
    have := hel i hi
    rw [List.getElem?_eq_getElem (by omega), hc] at this
    obtain ⟨cs', h1, h2⟩ := Option.bind_eq_some_iff.1 this
    exact ⟨cs', h1, he _ _ _ h2⟩
  have spot : a.spot = none := by
    have key : ∃ cs', W.cells? 0 (a.add 0) (n + 1) = some cs' := by
      by_cases q : 0 < len
      · obtain ⟨cs', h1, _⟩ := each 0 q
        rw [Nat.zero_mul] at h1; exact ⟨cs', h1⟩
      · have := hr 0 (by omega)
        obtain rfl : len = 0 := by omega
        rw [List.getElem?_eq_getElem (by omega), hc] at this
        obtain ⟨cs', h1, _⟩ := Option.bind_eq_some_iff.1 this
        simp only [Nat.zero_mul, Nat.add_zero] at h1
        exact ⟨cs', h1⟩
    obtain ⟨cs', h1⟩ := key
    have h2 := World.cells?_some h1
    have h3 := h2.2.2 0 (by omega)
    have hcs : cs'[0]? = some (cs'[0]'(by omega)) := List.getElem?_eq_getElem (by omega)
    rw [hcs] at h3
    simp only [Addr.add, if_true] at h3
    unfold World.cell? at h3
    split at h3
    · split at h3
      · cases h3
      · rename_i q; simpa using q
    · cases h3
  obtain ⟨k, off, sp⟩ := a
  simp only at spot; subst spot
  have addr : ∀ (off j : Nat), (⟨k, off, none⟩ : Addr).add j = ⟨k, off + j, none⟩ := fun off j => by unfold Addr.add; split <;> simp_all
  have all : ∀ (c : Nat) (i : Nat), i + c = len → ∃ els, els.length = c ∧ (∀ el ∈ els, G el) ∧ RZss (zOf W) k (n + 1) (off + i * (n + 1)) els := by
    intro c
    induction c with
    | zero => intro i _; exact ⟨[], rfl, by simp, by simp [RZss]⟩
    | succ c ih =>
      intro i hi
      obtain ⟨cs', h1, el, h2, h3⟩ := each i (by omega)
      obtain ⟨els, g1, g2, g3⟩ := ih (i + 1) (by omega)
      have hcs := World.cells?_some h1
      have hlen' := h2.length
      refine ⟨el :: els, by simp [g1], fun x hx => by simp at hx; rcases hx with rfl | hx; exact h3; exact g2 x hx, ?_⟩
      simp only [RZss]
      refine ⟨by rw [hlen']; exact hcs.2.1, rzs_of h2 fun j v e => ?_, by rw [show off + i * (n + 1) + (n + 1) = off + (i + 1) * (n + 1) by rw [Nat.succ_mul]; omega]; exact g3⟩
      have hj : j < n + 1 := by have := (List.getElem?_eq_some_iff.1 e).1; rw [hcs.2.1] at this; exact this
      have := hcs.2.2 j hj
      rw [addr, addr, e] at this
      exact this
  obtain ⟨els, g1, g2, g3⟩ := all len 0 (by omega)
  refine ⟨[.f (n + 1) els], ⟨?_, trivial⟩, els, rfl, g2⟩
  simp only [RZ]
  refine .inr ⟨k, off, cap, by rw [g1], by omega, by simp only [maxLen, LIM] at *; omega, by simpa using g3⟩

/-- The fields of a struct, one behind the other. -/
def GL : List (List V → Prop) → List V → Prop
  | [], xs => xs = []
  | g :: gs, xs => ∃ a b, xs = a ++ b ∧ g a ∧ GL gs b
def OpnL (enc : TypeId × Value → H') (P : Program) (W : World) : Nat → List Field → List (List V → Prop) → Prop
  | off, [], gs => gs = []
  | off, f :: fs, g :: gs => f.offset = off ∧ Opn enc P W f.type g ∧ OpnL enc P W (off + P.cellsOf f.type) fs gs
  | _, _ :: _, [] => False
def sumL (P : Program) : List Field → Nat
  | [] => 0
  | f :: fs => P.cellsOf f.type + sumL P fs
theorem all2_split {R : V → Value → Prop} : ∀ {xs ys : List V} {cs : List Value}, All2 R xs cs → ∀ ds, All2 R ys ds → All2 R (xs ++ ys) (cs ++ ds) := fun h ds h' => h.append h'
theorem opn_fields {n : Nat} : ∀ {fs : List Field} {gs : List (List V → Prop)} {off : Nat} {cs : List Value} {ys : List (DataW H' × List MemPlace)}, OpnL enc P W off fs gs → cs.length = off + sumL P fs → ys.length = fs.length →
    (∀ (i : Nat) (f : Field), fs[i]? = some f → DataW.trod enc P W 0 (fun _ => true) true n f.type ((cs.drop f.offset).take (P.cellsOf f.type)) = ys[i]?) →
    ∃ xs, All2 (RZ (zOf W)) xs (cs.drop off) ∧ GL gs xs
  | [], gs, off, cs, ys, h, hl, _, _ => by
    simp only [OpnL] at h; subst h
    refine ⟨[], ?_, rfl⟩
    rw [List.drop_eq_nil_of_le (by simp [sumL] at hl; omega)]; trivial
  | f :: fs, [], _, _, _, h, _, _, _ => h.elim
  | f :: fs, g :: gs, off, cs, [], h, hl, hy, _ => by simp at hy
  | f :: fs, g :: gs, off, cs, y :: ys, h, hl, hy, hf => by
    simp only [OpnL] at h
    obtain ⟨rfl, h1, h2⟩ := h
    simp only [sumL] at hl
    obtain ⟨xs, r1, r2⟩ := opn_fields (n := n) (cs := cs) (ys := ys) h2 (by omega) (by simpa using hy) fun i f' e => by
      have := hf (i + 1) f' (by simpa using e); simpa using this
    obtain ⟨zs, q1, q2⟩ := h1 _ _ y (by simpa using hf 0 f rfl)
    refine ⟨zs ++ xs, ?_, zs, xs, rfl, q2, r2⟩
    have : cs.drop f.offset = (cs.drop f.offset).take (P.cellsOf f.type) ++ cs.drop (f.offset + P.cellsOf f.type) := by
      rw [← List.drop_drop, List.take_append_drop]
    rw [this]
    exact q1.append r1
theorem opn_struct {t : TypeId} {fs : Array Field} {gs : List (List V → Prop)} (ht : P.underlying t = some (.struct fs)) (hc : P.cellsOf t = sumL P fs.toList) (h : OpnL enc P W 0 fs.toList gs) : Opn enc P W t (GL gs) := by
  intro fuel cs x hx
  obtain ⟨ys, n, _, _, hl, hlen, hf⟩ := DataW.trod_struct ht hx
  have := opn_fields (n := n) (cs := cs) (ys := ys) h (by rw [hl, hc]; simp) (by simpa using hlen) fun i f e => hf i f (by simpa using e)
  simpa using this

/-- A value of one cell. -/
theorem opn_one {t : TypeId} {v : Value} {d : DataW H'} {p : List MemPlace} {G : V → Prop} (o : Opn enc P W t fun xs => ∃ x, xs = [x] ∧ G x) (hv : v.cells.toList = [v]) (hd : DataW.Trod enc P W 0 (fun _ => true) true t v d p) :
    ∃ x, RelV (phi0 W) x v ∧ G x := by
  obtain ⟨fuel, hf⟩ := hd
  obtain ⟨xs, h1, x, rfl, h2⟩ := o _ _ _ hf
  rw [hv] at h1
  exact ⟨x, relV_of_rz h1.1, h2⟩
theorem opn_agg {t : TypeId} {cs : Array Value} {d : DataW H'} {p : List MemPlace} {G : List V → Prop} (o : Opn enc P W t G) (hd : DataW.Trod enc P W 0 (fun _ => true) true t (.agg cs) d p) :
    ∃ xs, RelV (phi0 W) (.agg xs) (.agg cs) ∧ G xs := by
  obtain ⟨fuel, hf⟩ := hd
  obtain ⟨xs, h1, h2⟩ := o _ _ _ hf
  exact ⟨xs, ⟨cs, rfl, h1.mono fun _ _ => relC_of_rz⟩, h2⟩
theorem okWide_agg {t : TypeId} {v : Value} {r : Reach} {base : Nat} {fs : Array Field} (ht : P.underlying t = some (.struct fs)) (h : Value.okWide P W r base t v) : ∃ cs, v = .agg cs := by
  unfold Value.okWide at h
  rw [ht] at h
  obtain ⟨cs, h, _⟩ := h; exact ⟨cs, h⟩
theorem okWide_cell {t : TypeId} {v : Value} {r : Reach} {base : Nat} (ht : tAgg P t = some false) (h : Value.okWide P W r base t v) : v.cells.toList = [v] := by
  have h : Cell.okWide P W r base t v := by
    unfold Value.okWide at h
    unfold tAgg at ht
    split at h
    · rename_i e; rw [e] at ht; cases ht
    · rename_i e; rw [e] at ht; cases ht
    · exact h
  cases v with
  | agg cs => unfold Cell.okWide at h; split at h <;> simp_all [Cell.ok]
  | tuple cs => unfold Cell.okWide at h; split at h <;> simp_all [Cell.ok]
  | _ => rfl
/-- Elements of one kind, as a list. -/
theorem map_of {α : Type} {f : α → List V} : ∀ {els : List (List V)}, (∀ el ∈ els, ∃ a, el = f a) → ∃ l : List α, els = l.map f
  | [], _ => ⟨[], rfl⟩
  | el :: els, h => by
    obtain ⟨a, e⟩ := h el (by simp)
    obtain ⟨l, e'⟩ := map_of (els := els) fun x hx => h x (by simp [hx])
    exact ⟨a :: l, by simp [e, e']⟩
end

/-- What a law's own walk is for the statement. -/
theorem pure_true {C : Cx} {f : Nat} {args : List V} {W : World} {vs : Array Value} (hn : enters C.P f = true) (hg : ∀ g, C.g g = .any) (c : PureV C f args (.s (.bool true))) (ha : All2 (RelV (phi0 W)) args vs.toList) :
    Calls C.P f vs W fun e W' => e = .returned (.bool true) ∧ Below W.heap.size W W' := by
  have G : RelG C (phi0 W).z := fun g => by rw [hg]; simp [RZ]
  rcases c.calls (fun _ => False) W (phi0 W) vs W G (rel0 W) ha with ⟨_, h⟩ | ⟨v, w', hv, _⟩
  · refine h.mono fun e W' ⟨r, φ', h', p1, p2, p3, p4, p5, p6⟩ => ?_
    subst p5
    obtain ⟨v, rfl, q⟩ := p1
    obtain ⟨rfl, -⟩ := s_rel q
    obtain ⟨F, R⟩ := p2
    exact ⟨rfl, R.kept.below⟩
  · exfalso
    unfold enters at hn
    cases hfn : C.P.funcs[f]? with
    | none => rw [hfn] at hn; cases hn
    | some fn =>
      rw [hfn] at hn
      simp only [Bool.and_eq_true, bne_iff_ne, ne_eq] at hn
      have h1 : ¬ fn.name = "runtime.NumGoroutine" := hn.1
      have h2 : fn.body.isNone = false := by
        cases hb : fn.body with
        | none => rw [hb] at hn; exact absurd hn.2 (by simp)
        | some _ => rfl
      simp only [callFunc, run_program, Sem.run_bind, Result.andThen_ok, hfn] at hv
      simp [h1, h2] at hv
end Go.W
/- part W27 -/
set_option linter.unusedVariables false
set_option linter.unusedSimpArgs false
namespace Go.W
open Go Go.RowKit

/-! ### Loops that keep blocks of their own -/
theorem map_same {α : Type} {f : α → α} {l : List α} (h : ∀ x ∈ l, f x = x) : l.map f = l := by
  induction l with
  | nil => rfl
  | cons a l ih => simp only [List.map_cons, h a (by simp)]; rw [ih fun x hx => h x (by simp [hx])]
theorem nr_rn (r : Nat → Nat) : ∀ {x : V}, nr x = true → rnC r x = x := by
  intro x h; cases x <;> first | rfl | cases h
theorem nrs_rn (r : Nat → Nat) {B : Blk} (h : nrs B.els = true) : rnB r B = B := by
  obtain ⟨els, n, cap, l⟩ := B
  simp only [rnB, Blk.mk.injEq, and_true]
  simp only [nrs, List.all_eq_true] at h
  exact map_same fun el he => map_same fun x hx => nr_rn r (h el he x hx)
/-- The blocks l of h are those of h'. -/
def gcL (r : Nat → Nat) (h : H) : List Nat → H → Prop
  | [], [] => True
  | i :: l, B' :: h' => ((nrs B'.els = true ∧ h[i]? = some B') ∨ h[i]? = some (rnB r B')) ∧ gcL r h l h'
  | _, _ => False
theorem gcL_nil (r : Nat → Nat) (h : H) : gcL r h [] [] = True := rfl
theorem gcL_cons (r : Nat → Nat) (h : H) (i : Nat) (l : List Nat) (B' : Blk) (h' : H) : gcL r h (i :: l) (B' :: h') = (((nrs B'.els = true ∧ h[i]? = some B') ∨ h[i]? = some (rnB r B')) ∧ gcL r h l h') := rfl
theorem gcL_spec {r : Nat → Nat} {h : H} : ∀ {l : List Nat} {h' : H}, gcL r h l h' → l.length = h'.length ∧ ∀ (i : Nat) B', h'[i]? = some B' → ∃ b : Nat, l[i]? = some b ∧ h[b]? = some (rnB r B')
  | [], [], _ => ⟨rfl, fun i B' e => by simp at e⟩
  | [], _ :: _, h => h.elim
  | _ :: _, [], h => h.elim
  | b :: l, B' :: h', hg => by
    obtain ⟨h1, h2⟩ := gcL_spec hg.2
    refine ⟨by simp [h1], fun i B e => ?_⟩
    cases i with
    | zero =>
      simp at e; subst e
      refine ⟨b, rfl, ?_⟩
      rcases hg.1 with ⟨q1, q2⟩ | q
      · rw [nrs_rn r q1]; exact q2
      · exact q
    | succ i => simp at e ⊢; exact h2 i B e
theorem gcOk_of {l : List Nat} {h h' : H} (hn : l.Nodup) (hg : gcL (nm l h.length) h l h') : gcOk l h h' 0 := by
  obtain ⟨h1, h2⟩ := gcL_spec hg
  refine ⟨h1, hn, Nat.zero_le _, fun i hi => by omega, fun i B' e _ => ?_⟩
  obtain ⟨b, e1, e2⟩ := h2 i B' e
  exact ⟨_, by rw [show nm l h.length i = b by unfold nm; rw [e1]; rfl]; exact e2, rfl⟩

/-- The temporaries that are kept, by their later names. -/
def keepT (τ : Tau) (r : Nat → Nat) : List (Nat × V) → Prop
  | [] => True
  | (t, v) :: T => τ t = rnV r v ∧ keepT τ r T
theorem keepT_nil (τ : Tau) (r : Nat → Nat) : keepT τ r [] = True := rfl
theorem keepT_cons (τ : Tau) (r : Nat → Nat) (t : Nat) (v : V) (T : List (Nat × V)) : keepT τ r ((t, v) :: T) = (τ t = rnV r v ∧ keepT τ r T) := rfl
theorem keepT_spec {τ : Tau} {r : Nat → Nat} : ∀ {T : List (Nat × V)}, keepT τ r T → ∀ t, keepL T t = .any ∨ τ t = rnV r (keepL T t)
  | [], _, t => .inl rfl
  | (t', v) :: T, h, t => by
    simp only [keepL_cons]
    by_cases e : t = t'
    · subst e; rw [if_pos rfl]; exact .inr h.1
    · rw [if_neg e]; exact keepT_spec h.2 t

section
variable {C : Cx} {N m : Nat} {Q : QT} {k : List It} {τ : Tau} {h : H}
theorem Goes.own {K : Tau → H → Prop} (l : List Nat) (T : List (Nat × V)) (h' : H) (hn : l.Nodup) (hg : gcL (nm l h.length) h l h') (ht : keepT τ (nm l h.length) T) (hk : K (keepL T) h') : Goes 0 K τ h :=
  ⟨_, h', _, Arr.gc (gcOk_of hn hg), fun t => keepT_spec ht t, hk⟩

/-- What a round must come to. -/
def loopO (C : Cx) (N m : Nat) (Q : QT) (k : List It) (I : Tau → H → Prop) : QT
  | .normal, τ, h => I τ h
  | .exit id, τ, h => exitK (Run C N 0 m Q) Q id τ h (popTo id k)
  | .ret, τ, h => Q .ret τ h
  | .pan v, τ, h => Q (.pan v) τ h
theorem panFree_loopO {I : Tau → H → Prop} (hQ : PanFree Q) : PanFree (loopO C N m Q k I) := fun v τ τ' h q => hQ v τ τ' h q
theorem loopO_normal (I : Tau → H → Prop) : loopO C N m Q k I .normal τ h = I τ h := rfl
theorem loopO_exit (I : Tau → H → Prop) (id : Nat) : loopO C N m Q k I (.exit id) τ h = exitK (Run C N 0 m Q) Q id τ h (popTo id k) := rfl
theorem loopO_ret (I : Tau → H → Prop) : loopO C N m Q k I .ret τ h = Q .ret τ h := rfl
theorem loopO_pan (I : Tau → H → Prop) (v : V) : loopO C N m Q k I (.pan v) τ h = Q (.pan v) τ h := rfl

/-- l: the blocks that are kept (all of them, in the order of Hp). -/
theorem LoopThen.own {ι : Type} {body : Code} (P : ι → Prop) (T : ι → List (Nat × V)) (Hp : ι → H) (μ : ι → Nat) (m n : Nat)
    (h0 : ∃ i, P i ∧ ∃ l : List Nat, l.Nodup ∧ gcL (nm l h.length) h l (Hp i) ∧ keepT τ (nm l h.length) (T i))
    (hr : ∀ i, P i → Run C N 0 n (loopO C N m Q k fun τ' h' => ∃ j, (P j ∧ μ j < μ i) ∧ ∃ l : List Nat, l.Nodup ∧ gcL (nm l h'.length) h' l (Hp j) ∧ keepT τ' (nm l h'.length) (T j)) [.code body] (keepL (T i)) (Hp i)) : LoopThen C N 0 Q body k τ h := by
  classical
  intro hb hk
  let I : Tau → H → Prop := fun τ h => ∃ i, P i ∧ τ = keepL (T i) ∧ h = Hp i
  have nat_min : ∀ (p : Nat → Prop) (n : Nat), p n → ∃ n, p n ∧ ∀ m, p m → n ≤ m := by
    intro p n hn
    induction n using Nat.strongRecOn with
    | _ n ih =>
      by_cases q : ∃ m, m < n ∧ p m
      · obtain ⟨m, h1, h2⟩ := q; exact ih m h1 h2
      · exact ⟨n, hn, fun m hm => Nat.le_of_not_lt fun h => q ⟨m, h, hm⟩⟩
  let R : Tau → H → Nat → Prop := fun τ h n => ∃ i, P i ∧ τ = keepL (T i) ∧ h = Hp i ∧ μ i = n
  let M : Tau → H → Nat := fun τ h => if q : ∃ n, R τ h n then Classical.choose (nat_min (R τ h) _ (Classical.choose_spec q)) else 0
  have hM : ∀ τ h, I τ h → ∃ i, P i ∧ τ = keepL (T i) ∧ h = Hp i ∧ μ i = M τ h ∧ ∀ j, P j → τ = keepL (T j) → h = Hp j → M τ h ≤ μ j := by
    intro τ h ⟨i, h1, h2, h3⟩
    have q : ∃ n, R τ h n := ⟨μ i, i, h1, h2, h3, rfl⟩
    have e : M τ h = Classical.choose (nat_min (R τ h) _ (Classical.choose_spec q)) := dif_pos q
    have sp := Classical.choose_spec (nat_min (R τ h) _ (Classical.choose_spec q))
    rw [← e] at sp
    obtain ⟨⟨j, j1, j2, j3, j4⟩, j5⟩ := sp
    exact ⟨j, j1, j2, j3, j4, fun i' q1 q2 q3 => j5 (μ i') ⟨i', q1, q2, q3, rfl⟩⟩
  refine WC.loop I M ?_ fun τ h hI => ?_
  · obtain ⟨i, h1, l, h2, h3, h4⟩ := h0
    exact Goes.own l (T i) (Hp i) h2 h3 h4 ⟨i, h1, rfl, rfl⟩
  · obtain ⟨i, p1, e1, e2, e3, _⟩ := hM τ h hI
    subst e1; subst e2
    have := Run_sound n _ [.code body] (keepL (T i)) (Hp i) (by simp [itOk, hb]) (hr i p1)
    refine WC.mono this fun x τ' h' q => ?_
    cases x with
    | normal =>
      obtain ⟨j, ⟨q1, q2⟩, l, q3, q4, q5⟩ := q
      refine Goes.own l (T j) (Hp j) q3 q4 q5 ⟨⟨j, q1, rfl, rfl⟩, ?_⟩
      obtain ⟨j', _, _, _, _, r4⟩ := hM (keepL (T j)) (Hp j) ⟨j, q1, rfl, rfl⟩
      have := r4 j q1 rfl rfl
      omega
    | exit id =>
      refine semK_exit ?_
      simp only [SemK, loopO] at q
      cases hp : popTo id k with
      | none => rw [hp] at q; exact q
      | some k' => rw [hp] at q; exact Run_sound m Q k' τ' h' (popTo_ok hp hk) q
    | ret => exact semK_ret q
    | pan v => exact semK_pan q
end

/-! ### Lists -/
theorem nrs_map {α : Type} {f : α → List V} (hf : ∀ a, (f a).all nr = true) (l : List α) : nrs (l.map f) = true := by
  simp only [nrs, List.all_map, List.all_eq_true]; exact fun a _ => hf a
theorem nrs_append (a b : List (List V)) : nrs (a ++ b) = (nrs a && nrs b) := by simp [nrs]
theorem nrs_replicate {el : List V} (h : el.all nr = true) (n : Nat) : nrs (List.replicate n el) = true := by
  simp only [nrs, List.all_eq_true, List.mem_replicate]; rintro x ⟨_, rfl⟩; simpa using h
/-- A row that's filled from the left. -/
theorem fill_get {α : Type} (a b : List α) {i : Nat} (h : a.length = i) : (a ++ b)[i]? = b[0]? := by
  subst h; rw [List.getElem?_append_right (by omega)]; simp
theorem fill_set {α : Type} (a : List α) (x y : α) (n i : Nat) (h : a.length = i) : (a ++ List.replicate (n + 1) y).set i x = (a ++ [x]) ++ List.replicate n y := by
  subst h; rw [List.set_append_right _ _ (Nat.le_refl _)]; simp [List.replicate_succ]
theorem leafs_map {α : Type} {f : α → List V} (hf : ∀ a, (f a).all cellOk = true) (l : List α) : leafs (l.map f) = true := by
  simp only [leafs, List.all_map, List.all_eq_true]; exact fun a _ => hf a
/-- What's frozen of elements that refer to nothing is themselves. -/
theorem frz_nr {n0 d : Nat} {h : H} {x : V} (hx : nr x = true) (hc : cellOk x = true) : frz n0 d h x = x := by
  cases x <;> first | (cases hx; done) | (cases hc; done) | (cases d <;> rfl)
theorem frz_els {n0 d : Nat} {h : H} {els : List (List V)} (hx : nrs els = true) (hc : leafs els = true) : (els.map fun el => el.map (frz n0 d h)) = els := by
  simp only [nrs, leafs, List.all_eq_true] at hx hc
  exact map_same fun el he => map_same fun x hx' => frz_nr (hx el he x hx') (hc el he x hx')
theorem take_map_len {α β : Type} (f : α → β) (l : List α) : List.take l.length (l.map f) = l.map f := List.take_of_length_le (by simp)
set_option linter.all false in
noncomputable def WB5 := And.intro (And.intro (And.intro Nat.le_refl Int.le_refl) (And.intro true_or (And.intro or_true @take_map_len))) <| And.intro (And.intro (And.intro gcL_nil gcL_cons) (And.intro keepT_nil keepT_cons)) (And.intro (And.intro @loopO_normal @loopO_exit) (And.intro @loopO_ret @loopO_pan))
end Go.W
/- part Ty -/
/- Closed facts on the types of the program: sizes, kinds, zero values, fields; each is computed by the kernel. -/
set_option maxRecDepth 100000
namespace Go.Proofs.Ytpcgnmoogjahbaa
open Go Go.W

noncomputable def C : Cx := { P := Try.prog, g := fun _ => .any }
theorem cp : C.P = Try.prog := rfl
theorem cg (i : Nat) : C.g i = .any := rfl
theorem ty1 : tSz C.P 1 = some 1 ∧ tBytes C.P 1 = some 8 ∧ tAgg C.P 1 = some false ∧ tZ C.P 1 = some [.s .nilFunc] ∧ tK C.P 1 = .func := ⟨by kernel_rfl, by kernel_rfl, by kernel_rfl, by kernel_rfl, by kernel_rfl⟩
theorem ty2 : tSz C.P 2 = some 1 ∧ tBytes C.P 2 = some 8 ∧ tAgg C.P 2 = some false ∧ tZ C.P 2 = some [.s (.int .i64 0)] ∧ tK C.P 2 = .int .i64 := ⟨by kernel_rfl, by kernel_rfl, by kernel_rfl, by kernel_rfl, by kernel_rfl⟩
theorem ty3 : tSz C.P 3 = some 1 ∧ tBytes C.P 3 = some 8 ∧ tAgg C.P 3 = some false ∧ tZ C.P 3 = some [.s (.int .i64 0)] ∧ tK C.P 3 = .int .i64 := ⟨by kernel_rfl, by kernel_rfl, by kernel_rfl, by kernel_rfl, by kernel_rfl⟩
theorem ty4 : tSz C.P 4 = some 1 ∧ tBytes C.P 4 = some 1 ∧ tAgg C.P 4 = some false ∧ tZ C.P 4 = some [.s (.bool false)] ∧ tK C.P 4 = .bool := ⟨by kernel_rfl, by kernel_rfl, by kernel_rfl, by kernel_rfl, by kernel_rfl⟩
theorem ty5 : tSz C.P 5 = some 1 ∧ tBytes C.P 5 = some 1 ∧ tAgg C.P 5 = some false ∧ tZ C.P 5 = some [.s (.int .u8 0)] ∧ tK C.P 5 = .int .u8 := ⟨by kernel_rfl, by kernel_rfl, by kernel_rfl, by kernel_rfl, by kernel_rfl⟩
theorem ty6 : tSz C.P 6 = some 1 ∧ tBytes C.P 6 = some 1 ∧ tAgg C.P 6 = some false ∧ tZ C.P 6 = some [.s (.int .u8 0)] ∧ tK C.P 6 = .int .u8 := ⟨by kernel_rfl, by kernel_rfl, by kernel_rfl, by kernel_rfl, by kernel_rfl⟩
theorem ty7 : tSz C.P 7 = some 4 ∧ tBytes C.P 7 = some 24 ∧ tAgg C.P 7 = some true ∧ tZ C.P 7 = some [.s (.int .i64 0), .s (.int .i64 0), .s (.bool false), .s (.int .u8 0)] ∧ tK C.P 7 = .other ∧ tFld C.P 7 0 = some (0, 2) ∧ fldPlace C.P 7 0 = some (0, 1) ∧ tFld C.P 7 1 = some (1, 3) ∧ fldPlace C.P 7 1 = some (1, 1) ∧ tFld C.P 7 2 = some (2, 4) ∧ fldPlace C.P 7 2 = some (2, 1) ∧ tFld C.P 7 3 = some (3, 6) ∧ fldPlace C.P 7 3 = some (3, 1) ∧ bldOk C.P 7 = true := ⟨by kernel_rfl, by kernel_rfl, by kernel_rfl, by kernel_rfl, by kernel_rfl, by kernel_rfl, by kernel_rfl, by kernel_rfl, by kernel_rfl, by kernel_rfl, by kernel_rfl, by kernel_rfl, by kernel_rfl, by kernel_rfl⟩
theorem ty8 : tSz C.P 8 = some 4 ∧ tBytes C.P 8 = some 24 ∧ tAgg C.P 8 = some true ∧ tZ C.P 8 = some [.s (.int .i64 0), .s (.int .i64 0), .s (.bool false), .s (.int .u8 0)] ∧ tK C.P 8 = .other ∧ tFld C.P 8 0 = some (0, 2) ∧ fldPlace C.P 8 0 = some (0, 1) ∧ tFld C.P 8 1 = some (1, 3) ∧ fldPlace C.P 8 1 = some (1, 1) ∧ tFld C.P 8 2 = some (2, 4) ∧ fldPlace C.P 8 2 = some (2, 1) ∧ tFld C.P 8 3 = some (3, 6) ∧ fldPlace C.P 8 3 = some (3, 1) ∧ bldOk C.P 8 = true := ⟨by kernel_rfl, by kernel_rfl, by kernel_rfl, by kernel_rfl, by kernel_rfl, by kernel_rfl, by kernel_rfl, by kernel_rfl, by kernel_rfl, by kernel_rfl, by kernel_rfl, by kernel_rfl, by kernel_rfl, by kernel_rfl⟩
theorem ty9 : tSz C.P 9 = some 1 ∧ tBytes C.P 9 = some 16 ∧ tAgg C.P 9 = some false ∧ tZ C.P 9 = some [.s (.string ⟨#[]⟩)] ∧ tK C.P 9 = .string := ⟨by kernel_rfl, by kernel_rfl, by kernel_rfl, by kernel_rfl, by kernel_rfl⟩
theorem ty10 : tSz C.P 10 = some 1 ∧ tBytes C.P 10 = some 16 ∧ tAgg C.P 10 = some false ∧ tZ C.P 10 = some [.s (.string ⟨#[]⟩)] ∧ tK C.P 10 = .string := ⟨by kernel_rfl, by kernel_rfl, by kernel_rfl, by kernel_rfl, by kernel_rfl⟩
theorem ty11 : tSz C.P 11 = some 1 ∧ tBytes C.P 11 = some 16 ∧ tAgg C.P 11 = some false ∧ tZ C.P 11 = some [.s (.string ⟨#[]⟩)] ∧ tK C.P 11 = .string := ⟨by kernel_rfl, by kernel_rfl, by kernel_rfl, by kernel_rfl, by kernel_rfl⟩
theorem ty12 : tSz C.P 12 = some 1 ∧ tBytes C.P 12 = some 8 ∧ tAgg C.P 12 = some false ∧ tZ C.P 12 = some [.s (.int .u64 0)] ∧ tK C.P 12 = .int .u64 := ⟨by kernel_rfl, by kernel_rfl, by kernel_rfl, by kernel_rfl, by kernel_rfl⟩
theorem ty13 : tSz C.P 13 = some 2 ∧ tBytes C.P 13 = some 24 ∧ tAgg C.P 13 = some true ∧ tZ C.P 13 = some [.s (.string ⟨#[]⟩), .s (.int .u64 0)] ∧ tK C.P 13 = .other ∧ tFld C.P 13 0 = some (0, 9) ∧ fldPlace C.P 13 0 = some (0, 1) ∧ tFld C.P 13 1 = some (1, 12) ∧ fldPlace C.P 13 1 = some (1, 1) ∧ bldOk C.P 13 = true := ⟨by kernel_rfl, by kernel_rfl, by kernel_rfl, by kernel_rfl, by kernel_rfl, by kernel_rfl, by kernel_rfl, by kernel_rfl, by kernel_rfl, by kernel_rfl⟩
theorem ty14 : tSz C.P 14 = some 2 ∧ tBytes C.P 14 = some 24 ∧ tAgg C.P 14 = some true ∧ tZ C.P 14 = some [.s (.string ⟨#[]⟩), .s (.int .u64 0)] ∧ tK C.P 14 = .other ∧ tFld C.P 14 0 = some (0, 9) ∧ fldPlace C.P 14 0 = some (0, 1) ∧ tFld C.P 14 1 = some (1, 12) ∧ fldPlace C.P 14 1 = some (1, 1) ∧ bldOk C.P 14 = true := ⟨by kernel_rfl, by kernel_rfl, by kernel_rfl, by kernel_rfl, by kernel_rfl, by kernel_rfl, by kernel_rfl, by kernel_rfl, by kernel_rfl, by kernel_rfl⟩
theorem ty15 : tSz C.P 15 = some 1 ∧ tBytes C.P 15 = some 8 ∧ tAgg C.P 15 = some false ∧ tZ C.P 15 = some [.s (.pointer none)] ∧ tK C.P 15 = .ptr := ⟨by kernel_rfl, by kernel_rfl, by kernel_rfl, by kernel_rfl, by kernel_rfl⟩
theorem ty16 : tSz C.P 16 = some 1 ∧ tBytes C.P 16 = some 8 ∧ tAgg C.P 16 = some false ∧ tZ C.P 16 = some [.s (.pointer none)] ∧ tK C.P 16 = .ptr := ⟨by kernel_rfl, by kernel_rfl, by kernel_rfl, by kernel_rfl, by kernel_rfl⟩
theorem ty17 : tSz C.P 17 = some 1 ∧ tBytes C.P 17 = some 8 ∧ tAgg C.P 17 = some false ∧ tZ C.P 17 = some [.s (.pointer none)] ∧ tK C.P 17 = .ptr := ⟨by kernel_rfl, by kernel_rfl, by kernel_rfl, by kernel_rfl, by kernel_rfl⟩
theorem ty18 : tSz C.P 18 = some 1 ∧ tBytes C.P 18 = some 8 ∧ tAgg C.P 18 = some true ∧ tZ C.P 18 = some [.s (.pointer none)] ∧ tK C.P 18 = .other ∧ tFld C.P 18 0 = some (0, 17) ∧ fldPlace C.P 18 0 = some (0, 1) ∧ bldOk C.P 18 = true := ⟨by kernel_rfl, by kernel_rfl, by kernel_rfl, by kernel_rfl, by kernel_rfl, by kernel_rfl, by kernel_rfl, by kernel_rfl⟩
theorem ty19 : tSz C.P 19 = some 1 ∧ tBytes C.P 19 = some 8 ∧ tAgg C.P 19 = some true ∧ tZ C.P 19 = some [.s (.pointer none)] ∧ tK C.P 19 = .other ∧ tFld C.P 19 0 = some (0, 17) ∧ fldPlace C.P 19 0 = some (0, 1) ∧ bldOk C.P 19 = true := ⟨by kernel_rfl, by kernel_rfl, by kernel_rfl, by kernel_rfl, by kernel_rfl, by kernel_rfl, by kernel_rfl, by kernel_rfl⟩
theorem ty20 : tSz C.P 20 = some 1 ∧ tBytes C.P 20 = some 16 ∧ tAgg C.P 20 = some false ∧ tZ C.P 20 = some [.s .nilIface] ∧ tK C.P 20 = .iface := ⟨by kernel_rfl, by kernel_rfl, by kernel_rfl, by kernel_rfl, by kernel_rfl⟩
theorem ty21 : tSz C.P 21 = some 1 ∧ tBytes C.P 21 = some 4 ∧ tAgg C.P 21 = some false ∧ tZ C.P 21 = some [.s (.int .i32 0)] ∧ tK C.P 21 = .int .i32 := ⟨by kernel_rfl, by kernel_rfl, by kernel_rfl, by kernel_rfl, by kernel_rfl⟩
theorem ty22 : tSz C.P 22 = some 1 ∧ tBytes C.P 22 = some 8 ∧ tAgg C.P 22 = some false ∧ tZ C.P 22 = some [.s .nilFunc] ∧ tK C.P 22 = .func := ⟨by kernel_rfl, by kernel_rfl, by kernel_rfl, by kernel_rfl, by kernel_rfl⟩
theorem ty23 : tSz C.P 23 = some 1 ∧ tBytes C.P 23 = some 8 ∧ tAgg C.P 23 = some false ∧ tZ C.P 23 = some [.s .nilFunc] ∧ tK C.P 23 = .func := ⟨by kernel_rfl, by kernel_rfl, by kernel_rfl, by kernel_rfl, by kernel_rfl⟩
theorem ty24 : tSz C.P 24 = some 1 ∧ tBytes C.P 24 = some 24 ∧ tAgg C.P 24 = some false ∧ tZ C.P 24 = some [.z] ∧ tK C.P 24 = .slice 5 ∧ tElem C.P 24 = some 5 := ⟨by kernel_rfl, by kernel_rfl, by kernel_rfl, by kernel_rfl, by kernel_rfl, by kernel_rfl⟩
theorem ty25 : tSz C.P 25 = some 1 ∧ tBytes C.P 25 = some 8 ∧ tAgg C.P 25 = some false ∧ tZ C.P 25 = some [.s .nilFunc] ∧ tK C.P 25 = .func := ⟨by kernel_rfl, by kernel_rfl, by kernel_rfl, by kernel_rfl, by kernel_rfl⟩
theorem ty26 : tSz C.P 26 = some 1 ∧ tBytes C.P 26 = some 24 ∧ tAgg C.P 26 = some false ∧ tZ C.P 26 = some [.z] ∧ tK C.P 26 = .slice 91 ∧ tElem C.P 26 = some 91 := ⟨by kernel_rfl, by kernel_rfl, by kernel_rfl, by kernel_rfl, by kernel_rfl, by kernel_rfl⟩
theorem ty27 : tSz C.P 27 = some 1 ∧ tBytes C.P 27 = some 24 ∧ tAgg C.P 27 = some false ∧ tZ C.P 27 = some [.z] ∧ tK C.P 27 = .slice 9 ∧ tElem C.P 27 = some 9 := ⟨by kernel_rfl, by kernel_rfl, by kernel_rfl, by kernel_rfl, by kernel_rfl, by kernel_rfl⟩
theorem ty28 : tSz C.P 28 = some 1 ∧ tBytes C.P 28 = some 8 ∧ tAgg C.P 28 = some false ∧ tZ C.P 28 = some [.s .nilFunc] ∧ tK C.P 28 = .func := ⟨by kernel_rfl, by kernel_rfl, by kernel_rfl, by kernel_rfl, by kernel_rfl⟩
theorem ty29 : tSz C.P 29 = some 1 ∧ tBytes C.P 29 = some 8 ∧ tAgg C.P 29 = some false ∧ tZ C.P 29 = some [.s .nilFunc] ∧ tK C.P 29 = .func := ⟨by kernel_rfl, by kernel_rfl, by kernel_rfl, by kernel_rfl, by kernel_rfl⟩
theorem ty30 : tSz C.P 30 = some 5 ∧ tBytes C.P 30 = some 88 ∧ tAgg C.P 30 = some true ∧ tZ C.P 30 = some [.s (.string ⟨#[]⟩), .s (.string ⟨#[]⟩), .z, .s (.string ⟨#[]⟩), .s (.string ⟨#[]⟩)] ∧ tK C.P 30 = .other ∧ tFld C.P 30 0 = some (0, 9) ∧ fldPlace C.P 30 0 = some (0, 1) ∧ tFld C.P 30 1 = some (1, 9) ∧ fldPlace C.P 30 1 = some (1, 1) ∧ tFld C.P 30 2 = some (2, 27) ∧ fldPlace C.P 30 2 = some (2, 1) ∧ tFld C.P 30 3 = some (3, 9) ∧ fldPlace C.P 30 3 = some (3, 1) ∧ tFld C.P 30 4 = some (4, 9) ∧ fldPlace C.P 30 4 = some (4, 1) ∧ bldOk C.P 30 = true := ⟨by kernel_rfl, by kernel_rfl, by kernel_rfl, by kernel_rfl, by kernel_rfl, by kernel_rfl, by kernel_rfl, by kernel_rfl, by kernel_rfl, by kernel_rfl, by kernel_rfl, by kernel_rfl, by kernel_rfl, by kernel_rfl, by kernel_rfl, by kernel_rfl⟩
theorem ty31 : tSz C.P 31 = some 5 ∧ tBytes C.P 31 = some 88 ∧ tAgg C.P 31 = some true ∧ tZ C.P 31 = some [.s (.string ⟨#[]⟩), .s (.string ⟨#[]⟩), .z, .s (.string ⟨#[]⟩), .s (.string ⟨#[]⟩)] ∧ tK C.P 31 = .other ∧ tFld C.P 31 0 = some (0, 9) ∧ fldPlace C.P 31 0 = some (0, 1) ∧ tFld C.P 31 1 = some (1, 9) ∧ fldPlace C.P 31 1 = some (1, 1) ∧ tFld C.P 31 2 = some (2, 27) ∧ fldPlace C.P 31 2 = some (2, 1) ∧ tFld C.P 31 3 = some (3, 9) ∧ fldPlace C.P 31 3 = some (3, 1) ∧ tFld C.P 31 4 = some (4, 9) ∧ fldPlace C.P 31 4 = some (4, 1) ∧ bldOk C.P 31 = true := ⟨by kernel_rfl, by kernel_rfl, by kernel_rfl, by kernel_rfl, by kernel_rfl, by kernel_rfl, by kernel_rfl, by kernel_rfl, by kernel_rfl, by kernel_rfl, by kernel_rfl, by kernel_rfl, by kernel_rfl, by kernel_rfl, by kernel_rfl, by kernel_rfl⟩
theorem ty33 : tSz C.P 33 = some 1 ∧ tBytes C.P 33 = some 8 ∧ tAgg C.P 33 = some false ∧ tZ C.P 33 = some [.s .nilFunc] ∧ tK C.P 33 = .func := ⟨by kernel_rfl, by kernel_rfl, by kernel_rfl, by kernel_rfl, by kernel_rfl⟩
theorem ty34 : tSz C.P 34 = some 1 ∧ tBytes C.P 34 = some 24 ∧ tAgg C.P 34 = some false ∧ tZ C.P 34 = some [.z] ∧ tK C.P 34 = .slice 31 ∧ tElem C.P 34 = some 31 := ⟨by kernel_rfl, by kernel_rfl, by kernel_rfl, by kernel_rfl, by kernel_rfl, by kernel_rfl⟩
theorem ty35 : tSz C.P 35 = some 1 ∧ tBytes C.P 35 = some 8 ∧ tAgg C.P 35 = some false ∧ tZ C.P 35 = some [.s .nilFunc] ∧ tK C.P 35 = .func := ⟨by kernel_rfl, by kernel_rfl, by kernel_rfl, by kernel_rfl, by kernel_rfl⟩
theorem ty36 : tSz C.P 36 = some 1 ∧ tBytes C.P 36 = some 8 ∧ tAgg C.P 36 = some false ∧ tZ C.P 36 = some [.s .nilFunc] ∧ tK C.P 36 = .func := ⟨by kernel_rfl, by kernel_rfl, by kernel_rfl, by kernel_rfl, by kernel_rfl⟩
theorem ty37 : tSz C.P 37 = some 1 ∧ tBytes C.P 37 = some 8 ∧ tAgg C.P 37 = some false ∧ tZ C.P 37 = some [.s .nilFunc] ∧ tK C.P 37 = .func := ⟨by kernel_rfl, by kernel_rfl, by kernel_rfl, by kernel_rfl, by kernel_rfl⟩
theorem ty38 : tSz C.P 38 = some 1 ∧ tBytes C.P 38 = some 8 ∧ tAgg C.P 38 = some false ∧ tZ C.P 38 = some [.s .nilFunc] ∧ tK C.P 38 = .func := ⟨by kernel_rfl, by kernel_rfl, by kernel_rfl, by kernel_rfl, by kernel_rfl⟩
theorem ty39 : tSz C.P 39 = some 1 ∧ tBytes C.P 39 = some 8 ∧ tAgg C.P 39 = some false ∧ tZ C.P 39 = some [.s .nilFunc] ∧ tK C.P 39 = .func := ⟨by kernel_rfl, by kernel_rfl, by kernel_rfl, by kernel_rfl, by kernel_rfl⟩
theorem ty40 : tSz C.P 40 = some 1 ∧ tBytes C.P 40 = some 8 ∧ tAgg C.P 40 = some false ∧ tZ C.P 40 = some [.s .nilFunc] ∧ tK C.P 40 = .func := ⟨by kernel_rfl, by kernel_rfl, by kernel_rfl, by kernel_rfl, by kernel_rfl⟩
theorem ty41 : tSz C.P 41 = some 1 ∧ tBytes C.P 41 = some 8 ∧ tAgg C.P 41 = some false ∧ tZ C.P 41 = some [.s .nilFunc] ∧ tK C.P 41 = .func := ⟨by kernel_rfl, by kernel_rfl, by kernel_rfl, by kernel_rfl, by kernel_rfl⟩
theorem ty42 : tSz C.P 42 = some 1 ∧ tBytes C.P 42 = some 8 ∧ tAgg C.P 42 = some false ∧ tZ C.P 42 = some [.s .nilFunc] ∧ tK C.P 42 = .func := ⟨by kernel_rfl, by kernel_rfl, by kernel_rfl, by kernel_rfl, by kernel_rfl⟩
theorem ty43 : tSz C.P 43 = some 1 ∧ tBytes C.P 43 = some 24 ∧ tAgg C.P 43 = some false ∧ tZ C.P 43 = some [.z] ∧ tK C.P 43 = .slice 126 ∧ tElem C.P 43 = some 126 := ⟨by kernel_rfl, by kernel_rfl, by kernel_rfl, by kernel_rfl, by kernel_rfl, by kernel_rfl⟩
theorem ty44 : tSz C.P 44 = some 1 ∧ tBytes C.P 44 = some 24 ∧ tAgg C.P 44 = some false ∧ tZ C.P 44 = some [.z] ∧ tK C.P 44 = .slice 86 ∧ tElem C.P 44 = some 86 := ⟨by kernel_rfl, by kernel_rfl, by kernel_rfl, by kernel_rfl, by kernel_rfl, by kernel_rfl⟩
theorem ty45 : tSz C.P 45 = some 3 ∧ tBytes C.P 45 = some 56 ∧ tAgg C.P 45 = some true ∧ tZ C.P 45 = some [.z, .z, .s (.int .i64 0)] ∧ tK C.P 45 = .other ∧ tFld C.P 45 0 = some (0, 43) ∧ fldPlace C.P 45 0 = some (0, 1) ∧ tFld C.P 45 1 = some (1, 44) ∧ fldPlace C.P 45 1 = some (1, 1) ∧ tFld C.P 45 2 = some (2, 3) ∧ fldPlace C.P 45 2 = some (2, 1) ∧ bldOk C.P 45 = true := ⟨by kernel_rfl, by kernel_rfl, by kernel_rfl, by kernel_rfl, by kernel_rfl, by kernel_rfl, by kernel_rfl, by kernel_rfl, by kernel_rfl, by kernel_rfl, by kernel_rfl, by kernel_rfl⟩
theorem ty46 : tSz C.P 46 = some 3 ∧ tBytes C.P 46 = some 56 ∧ tAgg C.P 46 = some true ∧ tZ C.P 46 = some [.z, .z, .s (.int .i64 0)] ∧ tK C.P 46 = .other ∧ tFld C.P 46 0 = some (0, 43) ∧ fldPlace C.P 46 0 = some (0, 1) ∧ tFld C.P 46 1 = some (1, 44) ∧ fldPlace C.P 46 1 = some (1, 1) ∧ tFld C.P 46 2 = some (2, 3) ∧ fldPlace C.P 46 2 = some (2, 1) ∧ bldOk C.P 46 = true := ⟨by kernel_rfl, by kernel_rfl, by kernel_rfl, by kernel_rfl, by kernel_rfl, by kernel_rfl, by kernel_rfl, by kernel_rfl, by kernel_rfl, by kernel_rfl, by kernel_rfl, by kernel_rfl⟩
theorem ty47 : tSz C.P 47 = some 1 ∧ tBytes C.P 47 = some 8 ∧ tAgg C.P 47 = some false ∧ tZ C.P 47 = some [.s .nilFunc] ∧ tK C.P 47 = .func := ⟨by kernel_rfl, by kernel_rfl, by kernel_rfl, by kernel_rfl, by kernel_rfl⟩
theorem ty48 : tSz C.P 48 = some 1 ∧ tBytes C.P 48 = some 8 ∧ tAgg C.P 48 = some false ∧ tZ C.P 48 = some [.s .nilFunc] ∧ tK C.P 48 = .func := ⟨by kernel_rfl, by kernel_rfl, by kernel_rfl, by kernel_rfl, by kernel_rfl⟩
theorem ty49 : tSz C.P 49 = some 1 ∧ tBytes C.P 49 = some 24 ∧ tAgg C.P 49 = some false ∧ tZ C.P 49 = some [.z] ∧ tK C.P 49 = .slice 81 ∧ tElem C.P 49 = some 81 := ⟨by kernel_rfl, by kernel_rfl, by kernel_rfl, by kernel_rfl, by kernel_rfl, by kernel_rfl⟩
theorem ty50 : tSz C.P 50 = some 1 ∧ tBytes C.P 50 = some 24 ∧ tAgg C.P 50 = some false ∧ tZ C.P 50 = some [.z] ∧ tK C.P 50 = .slice 57 ∧ tElem C.P 50 = some 57 := ⟨by kernel_rfl, by kernel_rfl, by kernel_rfl, by kernel_rfl, by kernel_rfl, by kernel_rfl⟩
theorem ty51 : tSz C.P 51 = some 3 ∧ tBytes C.P 51 = some 56 ∧ tAgg C.P 51 = some true ∧ tZ C.P 51 = some [.z, .z, .s (.int .i64 0)] ∧ tK C.P 51 = .other ∧ tFld C.P 51 0 = some (0, 49) ∧ fldPlace C.P 51 0 = some (0, 1) ∧ tFld C.P 51 1 = some (1, 50) ∧ fldPlace C.P 51 1 = some (1, 1) ∧ tFld C.P 51 2 = some (2, 3) ∧ fldPlace C.P 51 2 = some (2, 1) ∧ bldOk C.P 51 = true := ⟨by kernel_rfl, by kernel_rfl, by kernel_rfl, by kernel_rfl, by kernel_rfl, by kernel_rfl, by kernel_rfl, by kernel_rfl, by kernel_rfl, by kernel_rfl, by kernel_rfl, by kernel_rfl⟩
theorem ty52 : tSz C.P 52 = some 3 ∧ tBytes C.P 52 = some 56 ∧ tAgg C.P 52 = some true ∧ tZ C.P 52 = some [.z, .z, .s (.int .i64 0)] ∧ tK C.P 52 = .other ∧ tFld C.P 52 0 = some (0, 49) ∧ fldPlace C.P 52 0 = some (0, 1) ∧ tFld C.P 52 1 = some (1, 50) ∧ fldPlace C.P 52 1 = some (1, 1) ∧ tFld C.P 52 2 = some (2, 3) ∧ fldPlace C.P 52 2 = some (2, 1) ∧ bldOk C.P 52 = true := ⟨by kernel_rfl, by kernel_rfl, by kernel_rfl, by kernel_rfl, by kernel_rfl, by kernel_rfl, by kernel_rfl, by kernel_rfl, by kernel_rfl, by kernel_rfl, by kernel_rfl, by kernel_rfl⟩
theorem ty53 : tSz C.P 53 = some 1 ∧ tBytes C.P 53 = some 8 ∧ tAgg C.P 53 = some false ∧ tZ C.P 53 = some [.s .nilFunc] ∧ tK C.P 53 = .func := ⟨by kernel_rfl, by kernel_rfl, by kernel_rfl, by kernel_rfl, by kernel_rfl⟩
theorem ty54 : tSz C.P 54 = some 1 ∧ tBytes C.P 54 = some 8 ∧ tAgg C.P 54 = some false ∧ tZ C.P 54 = some [.s .nilFunc] ∧ tK C.P 54 = .func := ⟨by kernel_rfl, by kernel_rfl, by kernel_rfl, by kernel_rfl, by kernel_rfl⟩
theorem ty55 : tSz C.P 55 = some 1 ∧ tBytes C.P 55 = some 8 ∧ tAgg C.P 55 = some false ∧ tZ C.P 55 = some [.s .nilFunc] ∧ tK C.P 55 = .func := ⟨by kernel_rfl, by kernel_rfl, by kernel_rfl, by kernel_rfl, by kernel_rfl⟩
theorem ty56 : tSz C.P 56 = some 3 ∧ tBytes C.P 56 = some 40 ∧ tAgg C.P 56 = some true ∧ tZ C.P 56 = some [.s (.int .i64 0), .s (.string ⟨#[]⟩), .s (.string ⟨#[]⟩)] ∧ tK C.P 56 = .other ∧ tFld C.P 56 0 = some (0, 3) ∧ fldPlace C.P 56 0 = some (0, 1) ∧ tFld C.P 56 1 = some (1, 9) ∧ fldPlace C.P 56 1 = some (1, 1) ∧ tFld C.P 56 2 = some (2, 9) ∧ fldPlace C.P 56 2 = some (2, 1) ∧ bldOk C.P 56 = true := ⟨by kernel_rfl, by kernel_rfl, by kernel_rfl, by kernel_rfl, by kernel_rfl, by kernel_rfl, by kernel_rfl, by kernel_rfl, by kernel_rfl, by kernel_rfl, by kernel_rfl, by kernel_rfl⟩
theorem ty57 : tSz C.P 57 = some 3 ∧ tBytes C.P 57 = some 40 ∧ tAgg C.P 57 = some true ∧ tZ C.P 57 = some [.s (.int .i64 0), .s (.string ⟨#[]⟩), .s (.string ⟨#[]⟩)] ∧ tK C.P 57 = .other ∧ tFld C.P 57 0 = some (0, 3) ∧ fldPlace C.P 57 0 = some (0, 1) ∧ tFld C.P 57 1 = some (1, 9) ∧ fldPlace C.P 57 1 = some (1, 1) ∧ tFld C.P 57 2 = some (2, 9) ∧ fldPlace C.P 57 2 = some (2, 1) ∧ bldOk C.P 57 = true := ⟨by kernel_rfl, by kernel_rfl, by kernel_rfl, by kernel_rfl, by kernel_rfl, by kernel_rfl, by kernel_rfl, by kernel_rfl, by kernel_rfl, by kernel_rfl, by kernel_rfl, by kernel_rfl⟩
theorem ty59 : tSz C.P 59 = some 1 ∧ tBytes C.P 59 = some 8 ∧ tAgg C.P 59 = some false ∧ tZ C.P 59 = some [.s .nilFunc] ∧ tK C.P 59 = .func := ⟨by kernel_rfl, by kernel_rfl, by kernel_rfl, by kernel_rfl, by kernel_rfl⟩
theorem ty61 : tSz C.P 61 = some 1 ∧ tBytes C.P 61 = some 8 ∧ tAgg C.P 61 = some false ∧ tZ C.P 61 = some [.s .nilFunc] ∧ tK C.P 61 = .func := ⟨by kernel_rfl, by kernel_rfl, by kernel_rfl, by kernel_rfl, by kernel_rfl⟩
theorem ty62 : tSz C.P 62 = some 1 ∧ tBytes C.P 62 = some 8 ∧ tAgg C.P 62 = some false ∧ tZ C.P 62 = some [.s .nilFunc] ∧ tK C.P 62 = .func := ⟨by kernel_rfl, by kernel_rfl, by kernel_rfl, by kernel_rfl, by kernel_rfl⟩
theorem ty63 : tSz C.P 63 = some 1 ∧ tBytes C.P 63 = some 8 ∧ tAgg C.P 63 = some false ∧ tZ C.P 63 = some [.s .nilFunc] ∧ tK C.P 63 = .func := ⟨by kernel_rfl, by kernel_rfl, by kernel_rfl, by kernel_rfl, by kernel_rfl⟩
theorem ty65 : tSz C.P 65 = some 1 ∧ tBytes C.P 65 = some 8 ∧ tAgg C.P 65 = some false ∧ tZ C.P 65 = some [.s .nilFunc] ∧ tK C.P 65 = .func := ⟨by kernel_rfl, by kernel_rfl, by kernel_rfl, by kernel_rfl, by kernel_rfl⟩
theorem ty66 : tSz C.P 66 = some 1 ∧ tBytes C.P 66 = some 24 ∧ tAgg C.P 66 = some false ∧ tZ C.P 66 = some [.z] ∧ tK C.P 66 = .slice 156 ∧ tElem C.P 66 = some 156 := ⟨by kernel_rfl, by kernel_rfl, by kernel_rfl, by kernel_rfl, by kernel_rfl, by kernel_rfl⟩
theorem ty67 : tSz C.P 67 = some 1 ∧ tBytes C.P 67 = some 24 ∧ tAgg C.P 67 = some false ∧ tZ C.P 67 = some [.z] ∧ tK C.P 67 = .slice 159 ∧ tElem C.P 67 = some 159 := ⟨by kernel_rfl, by kernel_rfl, by kernel_rfl, by kernel_rfl, by kernel_rfl, by kernel_rfl⟩
theorem ty68 : tSz C.P 68 = some 7 ∧ tBytes C.P 68 = some 136 ∧ tAgg C.P 68 = some true ∧ tZ C.P 68 = some [.s (.bool false), .z, .z, .z, .z, .z, .s (.int .i64 0)] ∧ tK C.P 68 = .other ∧ tFld C.P 68 0 = some (0, 4) ∧ fldPlace C.P 68 0 = some (0, 1) ∧ tFld C.P 68 1 = some (1, 66) ∧ fldPlace C.P 68 1 = some (1, 1) ∧ tFld C.P 68 2 = some (2, 34) ∧ fldPlace C.P 68 2 = some (2, 1) ∧ tFld C.P 68 3 = some (3, 67) ∧ fldPlace C.P 68 3 = some (3, 1) ∧ tFld C.P 68 4 = some (4, 27) ∧ fldPlace C.P 68 4 = some (4, 1) ∧ tFld C.P 68 5 = some (5, 27) ∧ fldPlace C.P 68 5 = some (5, 1) ∧ tFld C.P 68 6 = some (6, 3) ∧ fldPlace C.P 68 6 = some (6, 1) ∧ bldOk C.P 68 = true := ⟨by kernel_rfl, by kernel_rfl, by kernel_rfl, by kernel_rfl, by kernel_rfl, by kernel_rfl, by kernel_rfl, by kernel_rfl, by kernel_rfl, by kernel_rfl, by kernel_rfl, by kernel_rfl, by kernel_rfl, by kernel_rfl, by kernel_rfl, by kernel_rfl, by kernel_rfl, by kernel_rfl, by kernel_rfl, by kernel_rfl⟩
theorem ty69 : tSz C.P 69 = some 7 ∧ tBytes C.P 69 = some 136 ∧ tAgg C.P 69 = some true ∧ tZ C.P 69 = some [.s (.bool false), .z, .z, .z, .z, .z, .s (.int .i64 0)] ∧ tK C.P 69 = .other ∧ tFld C.P 69 0 = some (0, 4) ∧ fldPlace C.P 69 0 = some (0, 1) ∧ tFld C.P 69 1 = some (1, 66) ∧ fldPlace C.P 69 1 = some (1, 1) ∧ tFld C.P 69 2 = some (2, 34) ∧ fldPlace C.P 69 2 = some (2, 1) ∧ tFld C.P 69 3 = some (3, 67) ∧ fldPlace C.P 69 3 = some (3, 1) ∧ tFld C.P 69 4 = some (4, 27) ∧ fldPlace C.P 69 4 = some (4, 1) ∧ tFld C.P 69 5 = some (5, 27) ∧ fldPlace C.P 69 5 = some (5, 1) ∧ tFld C.P 69 6 = some (6, 3) ∧ fldPlace C.P 69 6 = some (6, 1) ∧ bldOk C.P 69 = true := ⟨by kernel_rfl, by kernel_rfl, by kernel_rfl, by kernel_rfl, by kernel_rfl, by kernel_rfl, by kernel_rfl, by kernel_rfl, by kernel_rfl, by kernel_rfl, by kernel_rfl, by kernel_rfl, by kernel_rfl, by kernel_rfl, by kernel_rfl, by kernel_rfl, by kernel_rfl, by kernel_rfl, by kernel_rfl, by kernel_rfl⟩
theorem ty70 : tSz C.P 70 = some 5 ∧ tBytes C.P 70 = some 96 ∧ tAgg C.P 70 = some true ∧ tZ C.P 70 = some [.z, .z, .s (.string ⟨#[]⟩), .z, .s (.bool false)] ∧ tK C.P 70 = .other ∧ tFld C.P 70 0 = some (0, 66) ∧ fldPlace C.P 70 0 = some (0, 1) ∧ tFld C.P 70 1 = some (1, 67) ∧ fldPlace C.P 70 1 = some (1, 1) ∧ tFld C.P 70 2 = some (2, 9) ∧ fldPlace C.P 70 2 = some (2, 1) ∧ tFld C.P 70 3 = some (3, 27) ∧ fldPlace C.P 70 3 = some (3, 1) ∧ tFld C.P 70 4 = some (4, 4) ∧ fldPlace C.P 70 4 = some (4, 1) ∧ bldOk C.P 70 = true := ⟨by kernel_rfl, by kernel_rfl, by kernel_rfl, by kernel_rfl, by kernel_rfl, by kernel_rfl, by kernel_rfl, by kernel_rfl, by kernel_rfl, by kernel_rfl, by kernel_rfl, by kernel_rfl, by kernel_rfl, by kernel_rfl, by kernel_rfl, by kernel_rfl⟩
theorem ty71 : tSz C.P 71 = some 5 ∧ tBytes C.P 71 = some 96 ∧ tAgg C.P 71 = some true ∧ tZ C.P 71 = some [.z, .z, .s (.string ⟨#[]⟩), .z, .s (.bool false)] ∧ tK C.P 71 = .other ∧ tFld C.P 71 0 = some (0, 66) ∧ fldPlace C.P 71 0 = some (0, 1) ∧ tFld C.P 71 1 = some (1, 67) ∧ fldPlace C.P 71 1 = some (1, 1) ∧ tFld C.P 71 2 = some (2, 9) ∧ fldPlace C.P 71 2 = some (2, 1) ∧ tFld C.P 71 3 = some (3, 27) ∧ fldPlace C.P 71 3 = some (3, 1) ∧ tFld C.P 71 4 = some (4, 4) ∧ fldPlace C.P 71 4 = some (4, 1) ∧ bldOk C.P 71 = true := ⟨by kernel_rfl, by kernel_rfl, by kernel_rfl, by kernel_rfl, by kernel_rfl, by kernel_rfl, by kernel_rfl, by kernel_rfl, by kernel_rfl, by kernel_rfl, by kernel_rfl, by kernel_rfl, by kernel_rfl, by kernel_rfl, by kernel_rfl, by kernel_rfl⟩
theorem ty72 : tSz C.P 72 = some 18 ∧ tBytes C.P 72 = some 328 ∧ tAgg C.P 72 = some true ∧ tZ C.P 72 = some [.z, .z, .s (.int .i64 0), .s (.bool false), .z, .s (.bool false), .z, .z, .z, .z, .z, .s (.int .i64 0), .s (.bool false), .z, .z, .s (.string ⟨#[]⟩), .z, .s (.bool false)] ∧ tK C.P 72 = .other ∧ tFld C.P 72 0 = some (0, 52) ∧ fldPlace C.P 72 0 = some (0, 3) ∧ tFld C.P 72 1 = some (3, 4) ∧ fldPlace C.P 72 1 = some (3, 1) ∧ tFld C.P 72 2 = some (4, 34) ∧ fldPlace C.P 72 2 = some (4, 1) ∧ tFld C.P 72 3 = some (5, 69) ∧ fldPlace C.P 72 3 = some (5, 7) ∧ tFld C.P 72 4 = some (12, 4) ∧ fldPlace C.P 72 4 = some (12, 1) ∧ tFld C.P 72 5 = some (13, 71) ∧ fldPlace C.P 72 5 = some (13, 5) ∧ bldOk C.P 72 = true := ⟨by kernel_rfl, by kernel_rfl, by kernel_rfl, by kernel_rfl, by kernel_rfl, by kernel_rfl, by kernel_rfl, by kernel_rfl, by kernel_rfl, by kernel_rfl, by kernel_rfl, by kernel_rfl, by kernel_rfl, by kernel_rfl, by kernel_rfl, by kernel_rfl, by kernel_rfl, by kernel_rfl⟩
theorem ty73 : tSz C.P 73 = some 18 ∧ tBytes C.P 73 = some 328 ∧ tAgg C.P 73 = some true ∧ tZ C.P 73 = some [.z, .z, .s (.int .i64 0), .s (.bool false), .z, .s (.bool false), .z, .z, .z, .z, .z, .s (.int .i64 0), .s (.bool false), .z, .z, .s (.string ⟨#[]⟩), .z, .s (.bool false)] ∧ tK C.P 73 = .other ∧ tFld C.P 73 0 = some (0, 52) ∧ fldPlace C.P 73 0 = some (0, 3) ∧ tFld C.P 73 1 = some (3, 4) ∧ fldPlace C.P 73 1 = some (3, 1) ∧ tFld C.P 73 2 = some (4, 34) ∧ fldPlace C.P 73 2 = some (4, 1) ∧ tFld C.P 73 3 = some (5, 69) ∧ fldPlace C.P 73 3 = some (5, 7) ∧ tFld C.P 73 4 = some (12, 4) ∧ fldPlace C.P 73 4 = some (12, 1) ∧ tFld C.P 73 5 = some (13, 71) ∧ fldPlace C.P 73 5 = some (13, 5) ∧ bldOk C.P 73 = true := ⟨by kernel_rfl, by kernel_rfl, by kernel_rfl, by kernel_rfl, by kernel_rfl, by kernel_rfl, by kernel_rfl, by kernel_rfl, by kernel_rfl, by kernel_rfl, by kernel_rfl, by kernel_rfl, by kernel_rfl, by kernel_rfl, by kernel_rfl, by kernel_rfl, by kernel_rfl, by kernel_rfl⟩
theorem ty74 : tSz C.P 74 = some 1 ∧ tBytes C.P 74 = some 8 ∧ tAgg C.P 74 = some false ∧ tZ C.P 74 = some [.s .nilFunc] ∧ tK C.P 74 = .func := ⟨by kernel_rfl, by kernel_rfl, by kernel_rfl, by kernel_rfl, by kernel_rfl⟩
theorem ty75 : tSz C.P 75 = some 1 ∧ tBytes C.P 75 = some 8 ∧ tAgg C.P 75 = some false ∧ tZ C.P 75 = some [.s .nilFunc] ∧ tK C.P 75 = .func := ⟨by kernel_rfl, by kernel_rfl, by kernel_rfl, by kernel_rfl, by kernel_rfl⟩
theorem ty76 : tSz C.P 76 = some 1 ∧ tBytes C.P 76 = some 8 ∧ tAgg C.P 76 = some false ∧ tZ C.P 76 = some [.s .nilFunc] ∧ tK C.P 76 = .func := ⟨by kernel_rfl, by kernel_rfl, by kernel_rfl, by kernel_rfl, by kernel_rfl⟩
theorem ty77 : tSz C.P 77 = some 1 ∧ tBytes C.P 77 = some 8 ∧ tAgg C.P 77 = some false ∧ tZ C.P 77 = some [.s .nilFunc] ∧ tK C.P 77 = .func := ⟨by kernel_rfl, by kernel_rfl, by kernel_rfl, by kernel_rfl, by kernel_rfl⟩
theorem ty78 : tSz C.P 78 = some 1 ∧ tBytes C.P 78 = some 8 ∧ tAgg C.P 78 = some false ∧ tZ C.P 78 = some [.s .nilFunc] ∧ tK C.P 78 = .func := ⟨by kernel_rfl, by kernel_rfl, by kernel_rfl, by kernel_rfl, by kernel_rfl⟩
theorem ty79 : tSz C.P 79 = some 1 ∧ tBytes C.P 79 = some 8 ∧ tAgg C.P 79 = some false ∧ tZ C.P 79 = some [.s .nilFunc] ∧ tK C.P 79 = .func := ⟨by kernel_rfl, by kernel_rfl, by kernel_rfl, by kernel_rfl, by kernel_rfl⟩
theorem ty80 : tSz C.P 80 = some 2 ∧ tBytes C.P 80 = some 32 ∧ tAgg C.P 80 = some true ∧ tZ C.P 80 = some [.s (.string ⟨#[]⟩), .s (.string ⟨#[]⟩)] ∧ tK C.P 80 = .other ∧ tFld C.P 80 0 = some (0, 9) ∧ fldPlace C.P 80 0 = some (0, 1) ∧ tFld C.P 80 1 = some (1, 9) ∧ fldPlace C.P 80 1 = some (1, 1) ∧ bldOk C.P 80 = true := ⟨by kernel_rfl, by kernel_rfl, by kernel_rfl, by kernel_rfl, by kernel_rfl, by kernel_rfl, by kernel_rfl, by kernel_rfl, by kernel_rfl, by kernel_rfl⟩
theorem ty81 : tSz C.P 81 = some 2 ∧ tBytes C.P 81 = some 32 ∧ tAgg C.P 81 = some true ∧ tZ C.P 81 = some [.s (.string ⟨#[]⟩), .s (.string ⟨#[]⟩)] ∧ tK C.P 81 = .other ∧ tFld C.P 81 0 = some (0, 9) ∧ fldPlace C.P 81 0 = some (0, 1) ∧ tFld C.P 81 1 = some (1, 9) ∧ fldPlace C.P 81 1 = some (1, 1) ∧ bldOk C.P 81 = true := ⟨by kernel_rfl, by kernel_rfl, by kernel_rfl, by kernel_rfl, by kernel_rfl, by kernel_rfl, by kernel_rfl, by kernel_rfl, by kernel_rfl, by kernel_rfl⟩
theorem ty82 : tSz C.P 82 = some 1 ∧ tBytes C.P 82 = some 8 ∧ tAgg C.P 82 = some false ∧ tZ C.P 82 = some [.s .nilFunc] ∧ tK C.P 82 = .func := ⟨by kernel_rfl, by kernel_rfl, by kernel_rfl, by kernel_rfl, by kernel_rfl⟩
theorem ty83 : tSz C.P 83 = some 1 ∧ tBytes C.P 83 = some 8 ∧ tAgg C.P 83 = some false ∧ tZ C.P 83 = some [.s .nilFunc] ∧ tK C.P 83 = .func := ⟨by kernel_rfl, by kernel_rfl, by kernel_rfl, by kernel_rfl, by kernel_rfl⟩
theorem ty84 : tSz C.P 84 = some 1 ∧ tBytes C.P 84 = some 8 ∧ tAgg C.P 84 = some false ∧ tZ C.P 84 = some [.s .nilFunc] ∧ tK C.P 84 = .func := ⟨by kernel_rfl, by kernel_rfl, by kernel_rfl, by kernel_rfl, by kernel_rfl⟩
theorem ty85 : tSz C.P 85 = some 1 ∧ tBytes C.P 85 = some 8 ∧ tAgg C.P 85 = some false ∧ tZ C.P 85 = some [.s .nilFunc] ∧ tK C.P 85 = .func := ⟨by kernel_rfl, by kernel_rfl, by kernel_rfl, by kernel_rfl, by kernel_rfl⟩
theorem ty86 : tSz C.P 86 = some 3 ∧ tBytes C.P 86 = some 40 ∧ tAgg C.P 86 = some true ∧ tZ C.P 86 = some [.s (.int .i64 0), .s (.string ⟨#[]⟩), .s (.string ⟨#[]⟩)] ∧ tK C.P 86 = .other ∧ tFld C.P 86 0 = some (0, 3) ∧ fldPlace C.P 86 0 = some (0, 1) ∧ tFld C.P 86 1 = some (1, 9) ∧ fldPlace C.P 86 1 = some (1, 1) ∧ tFld C.P 86 2 = some (2, 9) ∧ fldPlace C.P 86 2 = some (2, 1) ∧ bldOk C.P 86 = true := ⟨by kernel_rfl, by kernel_rfl, by kernel_rfl, by kernel_rfl, by kernel_rfl, by kernel_rfl, by kernel_rfl, by kernel_rfl, by kernel_rfl, by kernel_rfl, by kernel_rfl, by kernel_rfl⟩
theorem ty87 : tSz C.P 87 = some 1 ∧ tBytes C.P 87 = some 8 ∧ tAgg C.P 87 = some false ∧ tZ C.P 87 = some [.s .nilFunc] ∧ tK C.P 87 = .func := ⟨by kernel_rfl, by kernel_rfl, by kernel_rfl, by kernel_rfl, by kernel_rfl⟩
theorem ty88 : tSz C.P 88 = some 1 ∧ tBytes C.P 88 = some 8 ∧ tAgg C.P 88 = some false ∧ tZ C.P 88 = some [.s .nilFunc] ∧ tK C.P 88 = .func := ⟨by kernel_rfl, by kernel_rfl, by kernel_rfl, by kernel_rfl, by kernel_rfl⟩
theorem ty89 : tSz C.P 89 = some 1 ∧ tBytes C.P 89 = some 8 ∧ tAgg C.P 89 = some false ∧ tZ C.P 89 = some [.s .nilFunc] ∧ tK C.P 89 = .func := ⟨by kernel_rfl, by kernel_rfl, by kernel_rfl, by kernel_rfl, by kernel_rfl⟩
theorem ty90 : tSz C.P 90 = some 1 ∧ tBytes C.P 90 = some 8 ∧ tAgg C.P 90 = some false ∧ tZ C.P 90 = some [.s .nilFunc] ∧ tK C.P 90 = .func := ⟨by kernel_rfl, by kernel_rfl, by kernel_rfl, by kernel_rfl, by kernel_rfl⟩
theorem ty91 : tSz C.P 91 = some 5 ∧ tBytes C.P 91 = some 88 ∧ tAgg C.P 91 = some true ∧ tZ C.P 91 = some [.s (.string ⟨#[]⟩), .s (.string ⟨#[]⟩), .z, .s (.string ⟨#[]⟩), .s (.string ⟨#[]⟩)] ∧ tK C.P 91 = .other ∧ tFld C.P 91 0 = some (0, 9) ∧ fldPlace C.P 91 0 = some (0, 1) ∧ tFld C.P 91 1 = some (1, 9) ∧ fldPlace C.P 91 1 = some (1, 1) ∧ tFld C.P 91 2 = some (2, 27) ∧ fldPlace C.P 91 2 = some (2, 1) ∧ tFld C.P 91 3 = some (3, 9) ∧ fldPlace C.P 91 3 = some (3, 1) ∧ tFld C.P 91 4 = some (4, 9) ∧ fldPlace C.P 91 4 = some (4, 1) ∧ bldOk C.P 91 = true := ⟨by kernel_rfl, by kernel_rfl, by kernel_rfl, by kernel_rfl, by kernel_rfl, by kernel_rfl, by kernel_rfl, by kernel_rfl, by kernel_rfl, by kernel_rfl, by kernel_rfl, by kernel_rfl, by kernel_rfl, by kernel_rfl, by kernel_rfl, by kernel_rfl⟩
theorem ty92 : tSz C.P 92 = some 1 ∧ tBytes C.P 92 = some 8 ∧ tAgg C.P 92 = some false ∧ tZ C.P 92 = some [.s .nilFunc] ∧ tK C.P 92 = .func := ⟨by kernel_rfl, by kernel_rfl, by kernel_rfl, by kernel_rfl, by kernel_rfl⟩
theorem ty93 : tSz C.P 93 = some 1 ∧ tBytes C.P 93 = some 8 ∧ tAgg C.P 93 = some false ∧ tZ C.P 93 = some [.s .nilFunc] ∧ tK C.P 93 = .func := ⟨by kernel_rfl, by kernel_rfl, by kernel_rfl, by kernel_rfl, by kernel_rfl⟩
theorem ty94 : tSz C.P 94 = some 1 ∧ tBytes C.P 94 = some 8 ∧ tAgg C.P 94 = some false ∧ tZ C.P 94 = some [.s .nilFunc] ∧ tK C.P 94 = .func := ⟨by kernel_rfl, by kernel_rfl, by kernel_rfl, by kernel_rfl, by kernel_rfl⟩
theorem ty95 : tSz C.P 95 = some 1 ∧ tBytes C.P 95 = some 8 ∧ tAgg C.P 95 = some false ∧ tZ C.P 95 = some [.s .nilFunc] ∧ tK C.P 95 = .func := ⟨by kernel_rfl, by kernel_rfl, by kernel_rfl, by kernel_rfl, by kernel_rfl⟩
theorem ty96 : tSz C.P 96 = some 1 ∧ tBytes C.P 96 = some 8 ∧ tAgg C.P 96 = some false ∧ tZ C.P 96 = some [.s .nilFunc] ∧ tK C.P 96 = .func := ⟨by kernel_rfl, by kernel_rfl, by kernel_rfl, by kernel_rfl, by kernel_rfl⟩
theorem ty97 : tSz C.P 97 = some 1 ∧ tBytes C.P 97 = some 8 ∧ tAgg C.P 97 = some false ∧ tZ C.P 97 = some [.s .nilFunc] ∧ tK C.P 97 = .func := ⟨by kernel_rfl, by kernel_rfl, by kernel_rfl, by kernel_rfl, by kernel_rfl⟩
theorem ty98 : tSz C.P 98 = some 1 ∧ tBytes C.P 98 = some 8 ∧ tAgg C.P 98 = some false ∧ tZ C.P 98 = some [.s .nilFunc] ∧ tK C.P 98 = .func := ⟨by kernel_rfl, by kernel_rfl, by kernel_rfl, by kernel_rfl, by kernel_rfl⟩
theorem ty99 : tSz C.P 99 = some 1 ∧ tBytes C.P 99 = some 8 ∧ tAgg C.P 99 = some false ∧ tZ C.P 99 = some [.s .nilFunc] ∧ tK C.P 99 = .func := ⟨by kernel_rfl, by kernel_rfl, by kernel_rfl, by kernel_rfl, by kernel_rfl⟩
theorem ty100 : tSz C.P 100 = some 1 ∧ tBytes C.P 100 = some 8 ∧ tAgg C.P 100 = some false ∧ tZ C.P 100 = some [.s .nilFunc] ∧ tK C.P 100 = .func := ⟨by kernel_rfl, by kernel_rfl, by kernel_rfl, by kernel_rfl, by kernel_rfl⟩
theorem ty101 : tSz C.P 101 = some 1 ∧ tBytes C.P 101 = some 8 ∧ tAgg C.P 101 = some false ∧ tZ C.P 101 = some [.s .nilFunc] ∧ tK C.P 101 = .func := ⟨by kernel_rfl, by kernel_rfl, by kernel_rfl, by kernel_rfl, by kernel_rfl⟩
theorem ty102 : tSz C.P 102 = some 1 ∧ tBytes C.P 102 = some 8 ∧ tAgg C.P 102 = some false ∧ tZ C.P 102 = some [.s .nilFunc] ∧ tK C.P 102 = .func := ⟨by kernel_rfl, by kernel_rfl, by kernel_rfl, by kernel_rfl, by kernel_rfl⟩
theorem ty103 : tSz C.P 103 = some 1 ∧ tBytes C.P 103 = some 8 ∧ tAgg C.P 103 = some false ∧ tZ C.P 103 = some [.s .nilFunc] ∧ tK C.P 103 = .func := ⟨by kernel_rfl, by kernel_rfl, by kernel_rfl, by kernel_rfl, by kernel_rfl⟩
theorem ty104 : tSz C.P 104 = some 1 ∧ tBytes C.P 104 = some 8 ∧ tAgg C.P 104 = some false ∧ tZ C.P 104 = some [.s .nilFunc] ∧ tK C.P 104 = .func := ⟨by kernel_rfl, by kernel_rfl, by kernel_rfl, by kernel_rfl, by kernel_rfl⟩
theorem ty105 : tSz C.P 105 = some 1 ∧ tBytes C.P 105 = some 8 ∧ tAgg C.P 105 = some false ∧ tZ C.P 105 = some [.s .nilFunc] ∧ tK C.P 105 = .func := ⟨by kernel_rfl, by kernel_rfl, by kernel_rfl, by kernel_rfl, by kernel_rfl⟩
theorem ty106 : tSz C.P 106 = some 1 ∧ tBytes C.P 106 = some 8 ∧ tAgg C.P 106 = some false ∧ tZ C.P 106 = some [.s (.pointer none)] ∧ tK C.P 106 = .ptr := ⟨by kernel_rfl, by kernel_rfl, by kernel_rfl, by kernel_rfl, by kernel_rfl⟩
theorem ty107 : tSz C.P 107 = some 1 ∧ tBytes C.P 107 = some 8 ∧ tAgg C.P 107 = some false ∧ tZ C.P 107 = some [.s .nilFunc] ∧ tK C.P 107 = .func := ⟨by kernel_rfl, by kernel_rfl, by kernel_rfl, by kernel_rfl, by kernel_rfl⟩
theorem ty108 : tSz C.P 108 = some 1 ∧ tBytes C.P 108 = some 8 ∧ tAgg C.P 108 = some false ∧ tZ C.P 108 = some [.s .nilFunc] ∧ tK C.P 108 = .func := ⟨by kernel_rfl, by kernel_rfl, by kernel_rfl, by kernel_rfl, by kernel_rfl⟩
theorem ty109 : tSz C.P 109 = some 1 ∧ tBytes C.P 109 = some 8 ∧ tAgg C.P 109 = some false ∧ tZ C.P 109 = some [.s .nilFunc] ∧ tK C.P 109 = .func := ⟨by kernel_rfl, by kernel_rfl, by kernel_rfl, by kernel_rfl, by kernel_rfl⟩
theorem ty110 : tSz C.P 110 = some 1 ∧ tBytes C.P 110 = some 8 ∧ tAgg C.P 110 = some false ∧ tZ C.P 110 = some [.s .nilFunc] ∧ tK C.P 110 = .func := ⟨by kernel_rfl, by kernel_rfl, by kernel_rfl, by kernel_rfl, by kernel_rfl⟩
theorem ty111 : tSz C.P 111 = some 1 ∧ tBytes C.P 111 = some 8 ∧ tAgg C.P 111 = some false ∧ tZ C.P 111 = some [.s .nilFunc] ∧ tK C.P 111 = .func := ⟨by kernel_rfl, by kernel_rfl, by kernel_rfl, by kernel_rfl, by kernel_rfl⟩
theorem ty112 : tSz C.P 112 = some 1 ∧ tBytes C.P 112 = some 8 ∧ tAgg C.P 112 = some false ∧ tZ C.P 112 = some [.s .nilFunc] ∧ tK C.P 112 = .func := ⟨by kernel_rfl, by kernel_rfl, by kernel_rfl, by kernel_rfl, by kernel_rfl⟩
theorem ty113 : tSz C.P 113 = some 1 ∧ tBytes C.P 113 = some 8 ∧ tAgg C.P 113 = some false ∧ tZ C.P 113 = some [.s .nilFunc] ∧ tK C.P 113 = .func := ⟨by kernel_rfl, by kernel_rfl, by kernel_rfl, by kernel_rfl, by kernel_rfl⟩
theorem ty114 : tSz C.P 114 = some 1 ∧ tBytes C.P 114 = some 8 ∧ tAgg C.P 114 = some false ∧ tZ C.P 114 = some [.s .nilFunc] ∧ tK C.P 114 = .func := ⟨by kernel_rfl, by kernel_rfl, by kernel_rfl, by kernel_rfl, by kernel_rfl⟩
theorem ty115 : tSz C.P 115 = some 1 ∧ tBytes C.P 115 = some 8 ∧ tAgg C.P 115 = some false ∧ tZ C.P 115 = some [.s .nilFunc] ∧ tK C.P 115 = .func := ⟨by kernel_rfl, by kernel_rfl, by kernel_rfl, by kernel_rfl, by kernel_rfl⟩
theorem ty116 : tSz C.P 116 = some 1 ∧ tBytes C.P 116 = some 8 ∧ tAgg C.P 116 = some false ∧ tZ C.P 116 = some [.s .nilFunc] ∧ tK C.P 116 = .func := ⟨by kernel_rfl, by kernel_rfl, by kernel_rfl, by kernel_rfl, by kernel_rfl⟩
theorem ty117 : tSz C.P 117 = some 1 ∧ tBytes C.P 117 = some 8 ∧ tAgg C.P 117 = some false ∧ tZ C.P 117 = some [.s .nilFunc] ∧ tK C.P 117 = .func := ⟨by kernel_rfl, by kernel_rfl, by kernel_rfl, by kernel_rfl, by kernel_rfl⟩
theorem ty118 : tSz C.P 118 = some 1 ∧ tBytes C.P 118 = some 8 ∧ tAgg C.P 118 = some false ∧ tZ C.P 118 = some [.s .nilFunc] ∧ tK C.P 118 = .func := ⟨by kernel_rfl, by kernel_rfl, by kernel_rfl, by kernel_rfl, by kernel_rfl⟩
theorem ty119 : tSz C.P 119 = some 1 ∧ tBytes C.P 119 = some 8 ∧ tAgg C.P 119 = some false ∧ tZ C.P 119 = some [.s .nilFunc] ∧ tK C.P 119 = .func := ⟨by kernel_rfl, by kernel_rfl, by kernel_rfl, by kernel_rfl, by kernel_rfl⟩
theorem ty120 : tSz C.P 120 = some 1 ∧ tBytes C.P 120 = some 8 ∧ tAgg C.P 120 = some false ∧ tZ C.P 120 = some [.s .nilFunc] ∧ tK C.P 120 = .func := ⟨by kernel_rfl, by kernel_rfl, by kernel_rfl, by kernel_rfl, by kernel_rfl⟩
theorem ty121 : tSz C.P 121 = some 1 ∧ tBytes C.P 121 = some 8 ∧ tAgg C.P 121 = some false ∧ tZ C.P 121 = some [.s .nilFunc] ∧ tK C.P 121 = .func := ⟨by kernel_rfl, by kernel_rfl, by kernel_rfl, by kernel_rfl, by kernel_rfl⟩
theorem ty122 : tSz C.P 122 = some 1 ∧ tBytes C.P 122 = some 8 ∧ tAgg C.P 122 = some false ∧ tZ C.P 122 = some [.s .nilFunc] ∧ tK C.P 122 = .func := ⟨by kernel_rfl, by kernel_rfl, by kernel_rfl, by kernel_rfl, by kernel_rfl⟩
theorem ty123 : tSz C.P 123 = some 1 ∧ tBytes C.P 123 = some 8 ∧ tAgg C.P 123 = some false ∧ tZ C.P 123 = some [.s .nilFunc] ∧ tK C.P 123 = .func := ⟨by kernel_rfl, by kernel_rfl, by kernel_rfl, by kernel_rfl, by kernel_rfl⟩
theorem ty124 : tSz C.P 124 = some 1 ∧ tBytes C.P 124 = some 8 ∧ tAgg C.P 124 = some false ∧ tZ C.P 124 = some [.s .nilFunc] ∧ tK C.P 124 = .func := ⟨by kernel_rfl, by kernel_rfl, by kernel_rfl, by kernel_rfl, by kernel_rfl⟩
theorem ty125 : tSz C.P 125 = some 1 ∧ tBytes C.P 125 = some 8 ∧ tAgg C.P 125 = some false ∧ tZ C.P 125 = some [.s .nilFunc] ∧ tK C.P 125 = .func := ⟨by kernel_rfl, by kernel_rfl, by kernel_rfl, by kernel_rfl, by kernel_rfl⟩
theorem ty126 : tSz C.P 126 = some 2 ∧ tBytes C.P 126 = some 32 ∧ tAgg C.P 126 = some true ∧ tZ C.P 126 = some [.s (.string ⟨#[]⟩), .s (.string ⟨#[]⟩)] ∧ tK C.P 126 = .other ∧ tFld C.P 126 0 = some (0, 9) ∧ fldPlace C.P 126 0 = some (0, 1) ∧ tFld C.P 126 1 = some (1, 9) ∧ fldPlace C.P 126 1 = some (1, 1) ∧ bldOk C.P 126 = true := ⟨by kernel_rfl, by kernel_rfl, by kernel_rfl, by kernel_rfl, by kernel_rfl, by kernel_rfl, by kernel_rfl, by kernel_rfl, by kernel_rfl, by kernel_rfl⟩
theorem ty127 : tSz C.P 127 = some 1 ∧ tBytes C.P 127 = some 8 ∧ tAgg C.P 127 = some false ∧ tZ C.P 127 = some [.s .nilFunc] ∧ tK C.P 127 = .func := ⟨by kernel_rfl, by kernel_rfl, by kernel_rfl, by kernel_rfl, by kernel_rfl⟩
theorem ty128 : tSz C.P 128 = some 1 ∧ tBytes C.P 128 = some 8 ∧ tAgg C.P 128 = some false ∧ tZ C.P 128 = some [.s .nilFunc] ∧ tK C.P 128 = .func := ⟨by kernel_rfl, by kernel_rfl, by kernel_rfl, by kernel_rfl, by kernel_rfl⟩
theorem ty129 : tSz C.P 129 = some 1 ∧ tBytes C.P 129 = some 8 ∧ tAgg C.P 129 = some false ∧ tZ C.P 129 = some [.s .nilFunc] ∧ tK C.P 129 = .func := ⟨by kernel_rfl, by kernel_rfl, by kernel_rfl, by kernel_rfl, by kernel_rfl⟩
theorem ty130 : tSz C.P 130 = some 1 ∧ tBytes C.P 130 = some 8 ∧ tAgg C.P 130 = some false ∧ tZ C.P 130 = some [.s .nilFunc] ∧ tK C.P 130 = .func := ⟨by kernel_rfl, by kernel_rfl, by kernel_rfl, by kernel_rfl, by kernel_rfl⟩
theorem ty132 : tSz C.P 132 = some 1 ∧ tBytes C.P 132 = some 8 ∧ tAgg C.P 132 = some false ∧ tZ C.P 132 = some [.s .nilFunc] ∧ tK C.P 132 = .func := ⟨by kernel_rfl, by kernel_rfl, by kernel_rfl, by kernel_rfl, by kernel_rfl⟩
theorem ty133 : tSz C.P 133 = some 1 ∧ tBytes C.P 133 = some 8 ∧ tAgg C.P 133 = some false ∧ tZ C.P 133 = some [.s .nilFunc] ∧ tK C.P 133 = .func := ⟨by kernel_rfl, by kernel_rfl, by kernel_rfl, by kernel_rfl, by kernel_rfl⟩
theorem ty134 : tSz C.P 134 = some 2 ∧ tBytes C.P 134 = some 32 ∧ tAgg C.P 134 = some true ∧ tZ C.P 134 = some [.z, .s (.int .i64 0)] ∧ tK C.P 134 = .other ∧ tFld C.P 134 0 = some (0, 24) ∧ fldPlace C.P 134 0 = some (0, 1) ∧ tFld C.P 134 1 = some (1, 3) ∧ fldPlace C.P 134 1 = some (1, 1) ∧ bldOk C.P 134 = true := ⟨by kernel_rfl, by kernel_rfl, by kernel_rfl, by kernel_rfl, by kernel_rfl, by kernel_rfl, by kernel_rfl, by kernel_rfl, by kernel_rfl, by kernel_rfl⟩
theorem ty135 : tSz C.P 135 = some 2 ∧ tBytes C.P 135 = some 32 ∧ tAgg C.P 135 = some true ∧ tZ C.P 135 = some [.z, .s (.int .i64 0)] ∧ tK C.P 135 = .other ∧ tFld C.P 135 0 = some (0, 24) ∧ fldPlace C.P 135 0 = some (0, 1) ∧ tFld C.P 135 1 = some (1, 3) ∧ fldPlace C.P 135 1 = some (1, 1) ∧ bldOk C.P 135 = true := ⟨by kernel_rfl, by kernel_rfl, by kernel_rfl, by kernel_rfl, by kernel_rfl, by kernel_rfl, by kernel_rfl, by kernel_rfl, by kernel_rfl, by kernel_rfl⟩
theorem ty136 : tSz C.P 136 = some 1 ∧ tBytes C.P 136 = some 8 ∧ tAgg C.P 136 = some false ∧ tZ C.P 136 = some [.s .nilFunc] ∧ tK C.P 136 = .func := ⟨by kernel_rfl, by kernel_rfl, by kernel_rfl, by kernel_rfl, by kernel_rfl⟩
theorem ty137 : tSz C.P 137 = some 1 ∧ tBytes C.P 137 = some 8 ∧ tAgg C.P 137 = some false ∧ tZ C.P 137 = some [.s .nilFunc] ∧ tK C.P 137 = .func := ⟨by kernel_rfl, by kernel_rfl, by kernel_rfl, by kernel_rfl, by kernel_rfl⟩
theorem ty138 : tSz C.P 138 = some 1 ∧ tBytes C.P 138 = some 8 ∧ tAgg C.P 138 = some false ∧ tZ C.P 138 = some [.s .nilFunc] ∧ tK C.P 138 = .func := ⟨by kernel_rfl, by kernel_rfl, by kernel_rfl, by kernel_rfl, by kernel_rfl⟩
theorem ty139 : tSz C.P 139 = some 1 ∧ tBytes C.P 139 = some 24 ∧ tAgg C.P 139 = some false ∧ tZ C.P 139 = some [.z] ∧ tK C.P 139 = .slice 3 ∧ tElem C.P 139 = some 3 := ⟨by kernel_rfl, by kernel_rfl, by kernel_rfl, by kernel_rfl, by kernel_rfl, by kernel_rfl⟩
theorem ty140 : tSz C.P 140 = some 1 ∧ tBytes C.P 140 = some 8 ∧ tAgg C.P 140 = some false ∧ tZ C.P 140 = some [.s .nilFunc] ∧ tK C.P 140 = .func := ⟨by kernel_rfl, by kernel_rfl, by kernel_rfl, by kernel_rfl, by kernel_rfl⟩
theorem ty141 : tSz C.P 141 = some 1 ∧ tBytes C.P 141 = some 8 ∧ tAgg C.P 141 = some false ∧ tZ C.P 141 = some [.s .nilFunc] ∧ tK C.P 141 = .func := ⟨by kernel_rfl, by kernel_rfl, by kernel_rfl, by kernel_rfl, by kernel_rfl⟩
theorem ty142 : tSz C.P 142 = some 1 ∧ tBytes C.P 142 = some 8 ∧ tAgg C.P 142 = some false ∧ tZ C.P 142 = some [.s (.pointer none)] ∧ tK C.P 142 = .ptr := ⟨by kernel_rfl, by kernel_rfl, by kernel_rfl, by kernel_rfl, by kernel_rfl⟩
theorem ty143 : tSz C.P 143 = some 1 ∧ tBytes C.P 143 = some 8 ∧ tAgg C.P 143 = some false ∧ tZ C.P 143 = some [.s .nilFunc] ∧ tK C.P 143 = .func := ⟨by kernel_rfl, by kernel_rfl, by kernel_rfl, by kernel_rfl, by kernel_rfl⟩
theorem ty144 : tSz C.P 144 = some 1 ∧ tBytes C.P 144 = some 8 ∧ tAgg C.P 144 = some false ∧ tZ C.P 144 = some [.s .nilFunc] ∧ tK C.P 144 = .func := ⟨by kernel_rfl, by kernel_rfl, by kernel_rfl, by kernel_rfl, by kernel_rfl⟩
theorem ty145 : tSz C.P 145 = some 1 ∧ tBytes C.P 145 = some 8 ∧ tAgg C.P 145 = some false ∧ tZ C.P 145 = some [.s .nilFunc] ∧ tK C.P 145 = .func := ⟨by kernel_rfl, by kernel_rfl, by kernel_rfl, by kernel_rfl, by kernel_rfl⟩
theorem ty146 : tSz C.P 146 = some 1 ∧ tBytes C.P 146 = some 8 ∧ tAgg C.P 146 = some false ∧ tZ C.P 146 = some [.s .nilFunc] ∧ tK C.P 146 = .func := ⟨by kernel_rfl, by kernel_rfl, by kernel_rfl, by kernel_rfl, by kernel_rfl⟩
theorem ty147 : tSz C.P 147 = some 1 ∧ tBytes C.P 147 = some 8 ∧ tAgg C.P 147 = some false ∧ tZ C.P 147 = some [.s .nilFunc] ∧ tK C.P 147 = .func := ⟨by kernel_rfl, by kernel_rfl, by kernel_rfl, by kernel_rfl, by kernel_rfl⟩
theorem ty148 : tSz C.P 148 = some 1 ∧ tBytes C.P 148 = some 8 ∧ tAgg C.P 148 = some false ∧ tZ C.P 148 = some [.s .nilFunc] ∧ tK C.P 148 = .func := ⟨by kernel_rfl, by kernel_rfl, by kernel_rfl, by kernel_rfl, by kernel_rfl⟩
theorem ty149 : tSz C.P 149 = some 1 ∧ tBytes C.P 149 = some 8 ∧ tAgg C.P 149 = some false ∧ tZ C.P 149 = some [.s .nilFunc] ∧ tK C.P 149 = .func := ⟨by kernel_rfl, by kernel_rfl, by kernel_rfl, by kernel_rfl, by kernel_rfl⟩
theorem ty150 : tSz C.P 150 = some 1 ∧ tBytes C.P 150 = some 8 ∧ tAgg C.P 150 = some false ∧ tZ C.P 150 = some [.s .nilFunc] ∧ tK C.P 150 = .func := ⟨by kernel_rfl, by kernel_rfl, by kernel_rfl, by kernel_rfl, by kernel_rfl⟩
theorem ty151 : tSz C.P 151 = some 1 ∧ tBytes C.P 151 = some 8 ∧ tAgg C.P 151 = some false ∧ tZ C.P 151 = some [.s .nilFunc] ∧ tK C.P 151 = .func := ⟨by kernel_rfl, by kernel_rfl, by kernel_rfl, by kernel_rfl, by kernel_rfl⟩
theorem ty152 : tSz C.P 152 = some 1 ∧ tBytes C.P 152 = some 8 ∧ tAgg C.P 152 = some false ∧ tZ C.P 152 = some [.s .nilFunc] ∧ tK C.P 152 = .func := ⟨by kernel_rfl, by kernel_rfl, by kernel_rfl, by kernel_rfl, by kernel_rfl⟩
theorem ty153 : tSz C.P 153 = some 1 ∧ tBytes C.P 153 = some 8 ∧ tAgg C.P 153 = some false ∧ tZ C.P 153 = some [.s .nilFunc] ∧ tK C.P 153 = .func := ⟨by kernel_rfl, by kernel_rfl, by kernel_rfl, by kernel_rfl, by kernel_rfl⟩
theorem ty154 : tSz C.P 154 = some 1 ∧ tBytes C.P 154 = some 8 ∧ tAgg C.P 154 = some false ∧ tZ C.P 154 = some [.s .nilFunc] ∧ tK C.P 154 = .func := ⟨by kernel_rfl, by kernel_rfl, by kernel_rfl, by kernel_rfl, by kernel_rfl⟩
theorem ty155 : tSz C.P 155 = some 2 ∧ tBytes C.P 155 = some 32 ∧ tAgg C.P 155 = some true ∧ tZ C.P 155 = some [.s (.string ⟨#[]⟩), .s (.string ⟨#[]⟩)] ∧ tK C.P 155 = .other ∧ tFld C.P 155 0 = some (0, 9) ∧ fldPlace C.P 155 0 = some (0, 1) ∧ tFld C.P 155 1 = some (1, 9) ∧ fldPlace C.P 155 1 = some (1, 1) ∧ bldOk C.P 155 = true := ⟨by kernel_rfl, by kernel_rfl, by kernel_rfl, by kernel_rfl, by kernel_rfl, by kernel_rfl, by kernel_rfl, by kernel_rfl, by kernel_rfl, by kernel_rfl⟩
theorem ty156 : tSz C.P 156 = some 2 ∧ tBytes C.P 156 = some 32 ∧ tAgg C.P 156 = some true ∧ tZ C.P 156 = some [.s (.string ⟨#[]⟩), .s (.string ⟨#[]⟩)] ∧ tK C.P 156 = .other ∧ tFld C.P 156 0 = some (0, 9) ∧ fldPlace C.P 156 0 = some (0, 1) ∧ tFld C.P 156 1 = some (1, 9) ∧ fldPlace C.P 156 1 = some (1, 1) ∧ bldOk C.P 156 = true := ⟨by kernel_rfl, by kernel_rfl, by kernel_rfl, by kernel_rfl, by kernel_rfl, by kernel_rfl, by kernel_rfl, by kernel_rfl, by kernel_rfl, by kernel_rfl⟩
theorem ty157 : tSz C.P 157 = some 1 ∧ tBytes C.P 157 = some 8 ∧ tAgg C.P 157 = some false ∧ tZ C.P 157 = some [.s .nilFunc] ∧ tK C.P 157 = .func := ⟨by kernel_rfl, by kernel_rfl, by kernel_rfl, by kernel_rfl, by kernel_rfl⟩
theorem ty158 : tSz C.P 158 = some 2 ∧ tBytes C.P 158 = some 24 ∧ tAgg C.P 158 = some true ∧ tZ C.P 158 = some [.s (.string ⟨#[]⟩), .s (.int .i64 0)] ∧ tK C.P 158 = .other ∧ tFld C.P 158 0 = some (0, 9) ∧ fldPlace C.P 158 0 = some (0, 1) ∧ tFld C.P 158 1 = some (1, 3) ∧ fldPlace C.P 158 1 = some (1, 1) ∧ bldOk C.P 158 = true := ⟨by kernel_rfl, by kernel_rfl, by kernel_rfl, by kernel_rfl, by kernel_rfl, by kernel_rfl, by kernel_rfl, by kernel_rfl, by kernel_rfl, by kernel_rfl⟩
theorem ty159 : tSz C.P 159 = some 2 ∧ tBytes C.P 159 = some 24 ∧ tAgg C.P 159 = some true ∧ tZ C.P 159 = some [.s (.string ⟨#[]⟩), .s (.int .i64 0)] ∧ tK C.P 159 = .other ∧ tFld C.P 159 0 = some (0, 9) ∧ fldPlace C.P 159 0 = some (0, 1) ∧ tFld C.P 159 1 = some (1, 3) ∧ fldPlace C.P 159 1 = some (1, 1) ∧ bldOk C.P 159 = true := ⟨by kernel_rfl, by kernel_rfl, by kernel_rfl, by kernel_rfl, by kernel_rfl, by kernel_rfl, by kernel_rfl, by kernel_rfl, by kernel_rfl, by kernel_rfl⟩
theorem ty160 : tSz C.P 160 = some 1 ∧ tBytes C.P 160 = some 8 ∧ tAgg C.P 160 = some false ∧ tZ C.P 160 = some [.s (.int .u64 0)] ∧ tK C.P 160 = .int .u64 := ⟨by kernel_rfl, by kernel_rfl, by kernel_rfl, by kernel_rfl, by kernel_rfl⟩
theorem ty161 : tSz C.P 161 = some 1 ∧ tBytes C.P 161 = some 8 ∧ tAgg C.P 161 = some false ∧ tZ C.P 161 = some [.s .nilFunc] ∧ tK C.P 161 = .func := ⟨by kernel_rfl, by kernel_rfl, by kernel_rfl, by kernel_rfl, by kernel_rfl⟩
theorem ty162 : tSz C.P 162 = some 1 ∧ tBytes C.P 162 = some 8 ∧ tAgg C.P 162 = some false ∧ tZ C.P 162 = some [.s .nilFunc] ∧ tK C.P 162 = .func := ⟨by kernel_rfl, by kernel_rfl, by kernel_rfl, by kernel_rfl, by kernel_rfl⟩
theorem ty163 : tSz C.P 163 = some 1 ∧ tBytes C.P 163 = some 8 ∧ tAgg C.P 163 = some false ∧ tZ C.P 163 = some [.s .nilFunc] ∧ tK C.P 163 = .func := ⟨by kernel_rfl, by kernel_rfl, by kernel_rfl, by kernel_rfl, by kernel_rfl⟩
theorem ty164 : tSz C.P 164 = some 4 ∧ tBytes C.P 164 = some 40 ∧ tAgg C.P 164 = some true ∧ tZ C.P 164 = some [.s (.pointer none), .s (.pointer none), .s (.pointer none), .s (.string ⟨#[]⟩)] ∧ tK C.P 164 = .other ∧ tFld C.P 164 0 = some (0, 17) ∧ fldPlace C.P 164 0 = some (0, 1) ∧ tFld C.P 164 1 = some (1, 17) ∧ fldPlace C.P 164 1 = some (1, 1) ∧ tFld C.P 164 2 = some (2, 17) ∧ fldPlace C.P 164 2 = some (2, 1) ∧ tFld C.P 164 3 = some (3, 9) ∧ fldPlace C.P 164 3 = some (3, 1) ∧ bldOk C.P 164 = true := ⟨by kernel_rfl, by kernel_rfl, by kernel_rfl, by kernel_rfl, by kernel_rfl, by kernel_rfl, by kernel_rfl, by kernel_rfl, by kernel_rfl, by kernel_rfl, by kernel_rfl, by kernel_rfl, by kernel_rfl, by kernel_rfl⟩
theorem ty165 : tSz C.P 165 = some 4 ∧ tBytes C.P 165 = some 40 ∧ tAgg C.P 165 = some true ∧ tZ C.P 165 = some [.s (.pointer none), .s (.pointer none), .s (.pointer none), .s (.string ⟨#[]⟩)] ∧ tK C.P 165 = .other ∧ tFld C.P 165 0 = some (0, 17) ∧ fldPlace C.P 165 0 = some (0, 1) ∧ tFld C.P 165 1 = some (1, 17) ∧ fldPlace C.P 165 1 = some (1, 1) ∧ tFld C.P 165 2 = some (2, 17) ∧ fldPlace C.P 165 2 = some (2, 1) ∧ tFld C.P 165 3 = some (3, 9) ∧ fldPlace C.P 165 3 = some (3, 1) ∧ bldOk C.P 165 = true := ⟨by kernel_rfl, by kernel_rfl, by kernel_rfl, by kernel_rfl, by kernel_rfl, by kernel_rfl, by kernel_rfl, by kernel_rfl, by kernel_rfl, by kernel_rfl, by kernel_rfl, by kernel_rfl, by kernel_rfl, by kernel_rfl⟩
theorem ty166 : tSz C.P 166 = some 0 ∧ tBytes C.P 166 = some 0 ∧ tAgg C.P 166 = some true ∧ tZ C.P 166 = some [] ∧ tK C.P 166 = .other := ⟨by kernel_rfl, by kernel_rfl, by kernel_rfl, by kernel_rfl, by kernel_rfl⟩
theorem ty167 : tSz C.P 167 = some 0 ∧ tBytes C.P 167 = some 0 ∧ tAgg C.P 167 = some true ∧ tZ C.P 167 = some [] ∧ tK C.P 167 = .other ∧ tFld C.P 167 0 = some (0, 166) ∧ fldPlace C.P 167 0 = some (0, 0) ∧ bldOk C.P 167 = true := ⟨by kernel_rfl, by kernel_rfl, by kernel_rfl, by kernel_rfl, by kernel_rfl, by kernel_rfl, by kernel_rfl, by kernel_rfl⟩
theorem ty168 : tSz C.P 168 = some 0 ∧ tBytes C.P 168 = some 0 ∧ tAgg C.P 168 = some true ∧ tZ C.P 168 = some [] ∧ tK C.P 168 = .other ∧ tFld C.P 168 0 = some (0, 166) ∧ fldPlace C.P 168 0 = some (0, 0) ∧ bldOk C.P 168 = true := ⟨by kernel_rfl, by kernel_rfl, by kernel_rfl, by kernel_rfl, by kernel_rfl, by kernel_rfl, by kernel_rfl, by kernel_rfl⟩
theorem ty169 : tSz C.P 169 = some 1 ∧ tBytes C.P 169 = some 8 ∧ tAgg C.P 169 = some false ∧ tZ C.P 169 = some [.s .nilFunc] ∧ tK C.P 169 = .func := ⟨by kernel_rfl, by kernel_rfl, by kernel_rfl, by kernel_rfl, by kernel_rfl⟩
theorem ty170 : tSz C.P 170 = some 1 ∧ tBytes C.P 170 = some 4 ∧ tAgg C.P 170 = some false ∧ tZ C.P 170 = some [.s (.int .u32 0)] ∧ tK C.P 170 = .int .u32 := ⟨by kernel_rfl, by kernel_rfl, by kernel_rfl, by kernel_rfl, by kernel_rfl⟩
theorem ty171 : tSz C.P 171 = some 1 ∧ tBytes C.P 171 = some 1 ∧ tAgg C.P 171 = some false ∧ tZ C.P 171 = some [.s (.int .u8 0)] ∧ tK C.P 171 = .int .u8 := ⟨by kernel_rfl, by kernel_rfl, by kernel_rfl, by kernel_rfl, by kernel_rfl⟩
theorem ty172 : tSz C.P 172 = some 1 ∧ tBytes C.P 172 = some 1 ∧ tAgg C.P 172 = some false ∧ tZ C.P 172 = some [.s (.int .u8 0)] ∧ tK C.P 172 = .int .u8 := ⟨by kernel_rfl, by kernel_rfl, by kernel_rfl, by kernel_rfl, by kernel_rfl⟩
theorem ty173 : tSz C.P 173 = some 1 ∧ tBytes C.P 173 = some 8 ∧ tAgg C.P 173 = some false ∧ tZ C.P 173 = some [.s .nilFunc] ∧ tK C.P 173 = .func := ⟨by kernel_rfl, by kernel_rfl, by kernel_rfl, by kernel_rfl, by kernel_rfl⟩
theorem ty174 : tSz C.P 174 = some 1 ∧ tBytes C.P 174 = some 8 ∧ tAgg C.P 174 = some false ∧ tZ C.P 174 = some [.s (.pointer none)] ∧ tK C.P 174 = .ptr := ⟨by kernel_rfl, by kernel_rfl, by kernel_rfl, by kernel_rfl, by kernel_rfl⟩
theorem ty175 : tSz C.P 175 = some 1 ∧ tBytes C.P 175 = some 4 ∧ tAgg C.P 175 = some false ∧ tZ C.P 175 = some [.s (.int .i32 0)] ∧ tK C.P 175 = .int .i32 := ⟨by kernel_rfl, by kernel_rfl, by kernel_rfl, by kernel_rfl, by kernel_rfl⟩
theorem ty176 : tSz C.P 176 = some 1 ∧ tBytes C.P 176 = some 4 ∧ tAgg C.P 176 = some false ∧ tZ C.P 176 = some [.s (.int .i32 0)] ∧ tK C.P 176 = .int .i32 := ⟨by kernel_rfl, by kernel_rfl, by kernel_rfl, by kernel_rfl, by kernel_rfl⟩
theorem ty177 : tSz C.P 177 = some 11 ∧ tBytes C.P 177 = some 48 ∧ tAgg C.P 177 = some true ∧ tZ C.P 177 = some [.s (.int .u64 0), .s (.int .u64 0), .s (.int .u32 0), .s (.int .u8 0), .s (.int .u8 0), .s (.int .u8 0), .s (.int .u8 0), .s .nilFunc, .s (.pointer none), .s (.int .i32 0), .s (.int .i32 0)] ∧ tK C.P 177 = .other ∧ tFld C.P 177 0 = some (0, 12) ∧ fldPlace C.P 177 0 = some (0, 1) ∧ tFld C.P 177 1 = some (1, 12) ∧ fldPlace C.P 177 1 = some (1, 1) ∧ tFld C.P 177 2 = some (2, 170) ∧ fldPlace C.P 177 2 = some (2, 1) ∧ tFld C.P 177 3 = some (3, 171) ∧ fldPlace C.P 177 3 = some (3, 1) ∧ tFld C.P 177 4 = some (4, 5) ∧ fldPlace C.P 177 4 = some (4, 1) ∧ tFld C.P 177 5 = some (5, 5) ∧ fldPlace C.P 177 5 = some (5, 1) ∧ tFld C.P 177 6 = some (6, 172) ∧ fldPlace C.P 177 6 = some (6, 1) ∧ tFld C.P 177 7 = some (7, 173) ∧ fldPlace C.P 177 7 = some (7, 1) ∧ tFld C.P 177 8 = some (8, 174) ∧ fldPlace C.P 177 8 = some (8, 1) ∧ tFld C.P 177 9 = some (9, 175) ∧ fldPlace C.P 177 9 = some (9, 1) ∧ tFld C.P 177 10 = some (10, 176) ∧ fldPlace C.P 177 10 = some (10, 1) ∧ bldOk C.P 177 = true := ⟨by kernel_rfl, by kernel_rfl, by kernel_rfl, by kernel_rfl, by kernel_rfl, by kernel_rfl, by kernel_rfl, by kernel_rfl, by kernel_rfl, by kernel_rfl, by kernel_rfl, by kernel_rfl, by kernel_rfl, by kernel_rfl, by kernel_rfl, by kernel_rfl, by kernel_rfl, by kernel_rfl, by kernel_rfl, by kernel_rfl, by kernel_rfl, by kernel_rfl, by kernel_rfl, by kernel_rfl, by kernel_rfl, by kernel_rfl, by kernel_rfl, by kernel_rfl⟩
theorem ty178 : tSz C.P 178 = some 11 ∧ tBytes C.P 178 = some 48 ∧ tAgg C.P 178 = some true ∧ tZ C.P 178 = some [.s (.int .u64 0), .s (.int .u64 0), .s (.int .u32 0), .s (.int .u8 0), .s (.int .u8 0), .s (.int .u8 0), .s (.int .u8 0), .s .nilFunc, .s (.pointer none), .s (.int .i32 0), .s (.int .i32 0)] ∧ tK C.P 178 = .other ∧ tFld C.P 178 0 = some (0, 12) ∧ fldPlace C.P 178 0 = some (0, 1) ∧ tFld C.P 178 1 = some (1, 12) ∧ fldPlace C.P 178 1 = some (1, 1) ∧ tFld C.P 178 2 = some (2, 170) ∧ fldPlace C.P 178 2 = some (2, 1) ∧ tFld C.P 178 3 = some (3, 171) ∧ fldPlace C.P 178 3 = some (3, 1) ∧ tFld C.P 178 4 = some (4, 5) ∧ fldPlace C.P 178 4 = some (4, 1) ∧ tFld C.P 178 5 = some (5, 5) ∧ fldPlace C.P 178 5 = some (5, 1) ∧ tFld C.P 178 6 = some (6, 172) ∧ fldPlace C.P 178 6 = some (6, 1) ∧ tFld C.P 178 7 = some (7, 173) ∧ fldPlace C.P 178 7 = some (7, 1) ∧ tFld C.P 178 8 = some (8, 174) ∧ fldPlace C.P 178 8 = some (8, 1) ∧ tFld C.P 178 9 = some (9, 175) ∧ fldPlace C.P 178 9 = some (9, 1) ∧ tFld C.P 178 10 = some (10, 176) ∧ fldPlace C.P 178 10 = some (10, 1) ∧ bldOk C.P 178 = true := ⟨by kernel_rfl, by kernel_rfl, by kernel_rfl, by kernel_rfl, by kernel_rfl, by kernel_rfl, by kernel_rfl, by kernel_rfl, by kernel_rfl, by kernel_rfl, by kernel_rfl, by kernel_rfl, by kernel_rfl, by kernel_rfl, by kernel_rfl, by kernel_rfl, by kernel_rfl, by kernel_rfl, by kernel_rfl, by kernel_rfl, by kernel_rfl, by kernel_rfl, by kernel_rfl, by kernel_rfl, by kernel_rfl, by kernel_rfl, by kernel_rfl, by kernel_rfl⟩
theorem ty179 : tSz C.P 179 = some 1 ∧ tBytes C.P 179 = some 8 ∧ tAgg C.P 179 = some false ∧ tZ C.P 179 = some [.s .nilFunc] ∧ tK C.P 179 = .func := ⟨by kernel_rfl, by kernel_rfl, by kernel_rfl, by kernel_rfl, by kernel_rfl⟩
theorem ty180 : tSz C.P 180 = some 1 ∧ tBytes C.P 180 = some 8 ∧ tAgg C.P 180 = some false ∧ tZ C.P 180 = some [.s .nilFunc] ∧ tK C.P 180 = .func := ⟨by kernel_rfl, by kernel_rfl, by kernel_rfl, by kernel_rfl, by kernel_rfl⟩
theorem ty181 : tSz C.P 181 = some 1 ∧ tBytes C.P 181 = some 8 ∧ tAgg C.P 181 = some false ∧ tZ C.P 181 = some [.s .nilFunc] ∧ tK C.P 181 = .func := ⟨by kernel_rfl, by kernel_rfl, by kernel_rfl, by kernel_rfl, by kernel_rfl⟩
theorem ty183 : tSz C.P 183 = some 1 ∧ tBytes C.P 183 = some 8 ∧ tAgg C.P 183 = some false ∧ tZ C.P 183 = some [.s (.int .u64 0)] ∧ tK C.P 183 = .int .u64 := ⟨by kernel_rfl, by kernel_rfl, by kernel_rfl, by kernel_rfl, by kernel_rfl⟩
theorem res0 : Try.f0.results.toList = [] := by kernel_rfl
theorem res1 : Try.f1.results.toList = [] := by kernel_rfl
theorem res2 : Try.f2.results.toList = [] := by kernel_rfl
theorem res3 : Try.f3.results.toList = [.tmp 2] := by kernel_rfl
theorem res4 : Try.f4.results.toList = [.tmp 4] := by kernel_rfl
theorem res5 : Try.f5.results.toList = [.tmp 8] := by kernel_rfl
theorem res6 : Try.f6.results.toList = [.tmp 2] := by kernel_rfl
theorem res7 : Try.f7.results.toList = [.tmp 4] := by kernel_rfl
theorem res8 : Try.f8.results.toList = [.tmp 2] := by kernel_rfl
theorem res9 : Try.f9.results.toList = [.tmp 4] := by kernel_rfl
theorem res10 : Try.f10.results.toList = [.tmp 4] := by kernel_rfl
theorem res11 : Try.f11.results.toList = [.tmp 2] := by kernel_rfl
theorem res12 : Try.f12.results.toList = [.tmp 4] := by kernel_rfl
theorem res13 : Try.f13.results.toList = [.tmp 2] := by kernel_rfl
theorem res14 : Try.f14.results.toList = [.tmp 4] := by kernel_rfl
theorem res15 : Try.f15.results.toList = [.tmp 2] := by kernel_rfl
theorem res16 : Try.f16.results.toList = [.tmp 2] := by kernel_rfl
theorem res17 : Try.f17.results.toList = [.tmp 4] := by kernel_rfl
theorem res18 : Try.f18.results.toList = [.tmp 4] := by kernel_rfl
theorem res19 : Try.f19.results.toList = [.cell 8 31, .tmp 9] := by kernel_rfl
theorem res20 : Try.f20.results.toList = [.tmp 2] := by kernel_rfl
theorem res21 : Try.f21.results.toList = [.tmp 2] := by kernel_rfl
theorem res22 : Try.f22.results.toList = [.cell 8 31, .tmp 9] := by kernel_rfl
theorem res23 : Try.f23.results.toList = [.tmp 4] := by kernel_rfl
theorem res24 : Try.f24.results.toList = [.tmp 4] := by kernel_rfl
theorem res25 : Try.f25.results.toList = [.tmp 4] := by kernel_rfl
theorem res26 : Try.f26.results.toList = [.tmp 4] := by kernel_rfl
theorem res27 : Try.f27.results.toList = [.tmp 4] := by kernel_rfl
theorem res28 : Try.f28.results.toList = [.tmp 4] := by kernel_rfl
theorem res29 : Try.f29.results.toList = [.tmp 4] := by kernel_rfl
theorem res30 : Try.f30.results.toList = [.tmp 4] := by kernel_rfl
theorem res31 : Try.f31.results.toList = [.tmp 2] := by kernel_rfl
theorem res32 : Try.f32.results.toList = [.cell 2 52] := by kernel_rfl
theorem res33 : Try.f33.results.toList = [.tmp 2] := by kernel_rfl
theorem res34 : Try.f34.results.toList = [.tmp 4] := by kernel_rfl
theorem res35 : Try.f35.results.toList = [.cell 2 52, .cell 3 57] := by kernel_rfl
theorem res36 : Try.f36.results.toList = [.cell 4 52, .tmp 5] := by kernel_rfl
theorem res37 : Try.f37.results.toList = [.cell 4 52, .tmp 5] := by kernel_rfl
theorem res38 : Try.f38.results.toList = [.tmp 4] := by kernel_rfl
theorem res39 : Try.f39.results.toList = [.tmp 2] := by kernel_rfl
theorem res40 : Try.f40.results.toList = [.tmp 4, .tmp 5] := by kernel_rfl
theorem res41 : Try.f41.results.toList = [.cell 2 73] := by kernel_rfl
theorem res42 : Try.f42.results.toList = [.cell 2 73] := by kernel_rfl
theorem res43 : Try.f43.results.toList = [.tmp 4] := by kernel_rfl
theorem res44 : Try.f44.results.toList = [.tmp 4] := by kernel_rfl
theorem res45 : Try.f45.results.toList = [.tmp 4] := by kernel_rfl
theorem res46 : Try.f46.results.toList = [.tmp 2] := by kernel_rfl
theorem res47 : Try.f47.results.toList = [.cell 4 52] := by kernel_rfl
theorem res48 : Try.f48.results.toList = [.cell 2 52] := by kernel_rfl
theorem res49 : Try.f49.results.toList = [.tmp 4, .tmp 5] := by kernel_rfl
theorem res50 : Try.f50.results.toList = [.tmp 4] := by kernel_rfl
theorem res51 : Try.f51.results.toList = [.tmp 4] := by kernel_rfl
theorem res52 : Try.f52.results.toList = [.tmp 4] := by kernel_rfl
theorem res53 : Try.f53.results.toList = [.tmp 4] := by kernel_rfl
theorem res54 : Try.f54.results.toList = [.cell 4 52] := by kernel_rfl
theorem res55 : Try.f55.results.toList = [.tmp 4] := by kernel_rfl
theorem res56 : Try.f56.results.toList = [.cell 2 52] := by kernel_rfl
theorem res57 : Try.f57.results.toList = [.tmp 4] := by kernel_rfl
theorem res58 : Try.f58.results.toList = [.cell 2 57] := by kernel_rfl
theorem res59 : Try.f59.results.toList = [.tmp 4] := by kernel_rfl
theorem res60 : Try.f60.results.toList = [.tmp 4] := by kernel_rfl
theorem res61 : Try.f61.results.toList = [.cell 2 31] := by kernel_rfl
theorem res62 : Try.f62.results.toList = [.cell 2 31] := by kernel_rfl
theorem res63 : Try.f63.results.toList = [.cell 4 31, .cell 5 4] := by kernel_rfl
theorem res64 : Try.f64.results.toList = [.tmp 4] := by kernel_rfl
theorem res65 : Try.f65.results.toList = [.cell 2 31] := by kernel_rfl
theorem res66 : Try.f66.results.toList = [.tmp 2] := by kernel_rfl
theorem res67 : Try.f67.results.toList = [.tmp 4] := by kernel_rfl
theorem res68 : Try.f68.results.toList = [.tmp 4] := by kernel_rfl
theorem res69 : Try.f69.results.toList = [.tmp 4] := by kernel_rfl
theorem res70 : Try.f70.results.toList = [.tmp 4] := by kernel_rfl
theorem res71 : Try.f71.results.toList = [.tmp 4] := by kernel_rfl
theorem res72 : Try.f72.results.toList = [.tmp 2] := by kernel_rfl
theorem res73 : Try.f73.results.toList = [.tmp 2] := by kernel_rfl
theorem res74 : Try.f74.results.toList = [.tmp 6] := by kernel_rfl
theorem res75 : Try.f75.results.toList = [.tmp 4] := by kernel_rfl
theorem res76 : Try.f76.results.toList = [.tmp 2] := by kernel_rfl
theorem res77 : Try.f77.results.toList = [.tmp 2] := by kernel_rfl
theorem res78 : Try.f78.results.toList = [.tmp 4] := by kernel_rfl
theorem res79 : Try.f79.results.toList = [.tmp 4] := by kernel_rfl
theorem res80 : Try.f80.results.toList = [.tmp 2] := by kernel_rfl
theorem res81 : Try.f81.results.toList = [.cell 2 57] := by kernel_rfl
theorem res82 : Try.f82.results.toList = [.cell 2 52] := by kernel_rfl
theorem res83 : Try.f83.results.toList = [.cell 2 52] := by kernel_rfl
theorem res84 : Try.f84.results.toList = [.tmp 4] := by kernel_rfl
theorem res85 : Try.f85.results.toList = [.cell 2 52] := by kernel_rfl
theorem res86 : Try.f86.results.toList = [.tmp 2] := by kernel_rfl
theorem res87 : Try.f87.results.toList = [.tmp 2] := by kernel_rfl
theorem res88 : Try.f88.results.toList = [.tmp 4, .tmp 5] := by kernel_rfl
theorem res89 : Try.f89.results.toList = [.tmp 4] := by kernel_rfl
theorem res90 : Try.f90.results.toList = [.tmp 4] := by kernel_rfl
theorem res91 : Try.f91.results.toList = [.tmp 4] := by kernel_rfl
theorem res92 : Try.f92.results.toList = [.tmp 4] := by kernel_rfl
theorem res93 : Try.f93.results.toList = [.tmp 4] := by kernel_rfl
theorem res94 : Try.f94.results.toList = [.tmp 4] := by kernel_rfl
theorem res95 : Try.f95.results.toList = [.tmp 4] := by kernel_rfl
theorem res96 : Try.f96.results.toList = [.cell 4 52] := by kernel_rfl
theorem res97 : Try.f97.results.toList = [.tmp 4, .tmp 5] := by kernel_rfl
theorem res98 : Try.f98.results.toList = [.tmp 4] := by kernel_rfl
theorem res99 : Try.f99.results.toList = [.tmp 4] := by kernel_rfl
theorem res100 : Try.f100.results.toList = [.tmp 6] := by kernel_rfl
theorem res101 : Try.f101.results.toList = [.tmp 4] := by kernel_rfl
theorem res102 : Try.f102.results.toList = [.tmp 2] := by kernel_rfl
theorem res103 : Try.f103.results.toList = [.tmp 2] := by kernel_rfl
theorem res104 : Try.f104.results.toList = [.tmp 4] := by kernel_rfl
theorem res105 : Try.f105.results.toList = [.tmp 2] := by kernel_rfl
theorem res106 : Try.f106.results.toList = [.tmp 6] := by kernel_rfl
theorem res107 : Try.f107.results.toList = [.tmp 4] := by kernel_rfl
theorem res108 : Try.f108.results.toList = [.cell 2 81] := by kernel_rfl
theorem res109 : Try.f109.results.toList = [.tmp 4, .tmp 5] := by kernel_rfl
theorem res110 : Try.f110.results.toList = [.tmp 6] := by kernel_rfl
theorem res111 : Try.f111.results.toList = [.tmp 4] := by kernel_rfl
theorem res112 : Try.f112.results.toList = [.tmp 4] := by kernel_rfl
theorem res113 : Try.f113.results.toList = [.tmp 4] := by kernel_rfl
theorem res114 : Try.f114.results.toList = [.tmp 4] := by kernel_rfl
theorem res115 : Try.f115.results.toList = [.tmp 4] := by kernel_rfl
theorem res116 : Try.f116.results.toList = [.tmp 4] := by kernel_rfl
theorem res117 : Try.f117.results.toList = [.tmp 2] := by kernel_rfl
theorem res118 : Try.f118.results.toList = [.tmp 4] := by kernel_rfl
theorem res119 : Try.f119.results.toList = [.tmp 4] := by kernel_rfl
theorem res120 : Try.f120.results.toList = [.tmp 4] := by kernel_rfl
theorem res121 : Try.f121.results.toList = [.tmp 4] := by kernel_rfl
theorem res122 : Try.f122.results.toList = [.tmp 4] := by kernel_rfl
theorem res123 : Try.f123.results.toList = [.tmp 4] := by kernel_rfl
theorem res124 : Try.f124.results.toList = [.tmp 4] := by kernel_rfl
theorem res125 : Try.f125.results.toList = [] := by kernel_rfl
theorem res126 : Try.f126.results.toList = [.tmp 6, .tmp 7] := by kernel_rfl
theorem res127 : Try.f127.results.toList = [.tmp 4] := by kernel_rfl
theorem res128 : Try.f128.results.toList = [.tmp 4] := by kernel_rfl
theorem res129 : Try.f129.results.toList = [.tmp 6] := by kernel_rfl
theorem res130 : Try.f130.results.toList = [.tmp 6] := by kernel_rfl
theorem res131 : Try.f131.results.toList = [.tmp 4] := by kernel_rfl
theorem res132 : Try.f132.results.toList = [.tmp 4] := by kernel_rfl
theorem res133 : Try.f133.results.toList = [.tmp 4] := by kernel_rfl
theorem res134 : Try.f134.results.toList = [] := by kernel_rfl
theorem res135 : Try.f135.results.toList = [] := by kernel_rfl
theorem res136 : Try.f136.results.toList = [] := by kernel_rfl
theorem res137 : Try.f137.results.toList = [] := by kernel_rfl
theorem res138 : Try.f138.results.toList = [] := by kernel_rfl
theorem res139 : Try.f139.results.toList = [] := by kernel_rfl
theorem res140 : Try.f140.results.toList = [] := by kernel_rfl
theorem res141 : Try.f141.results.toList = [] := by kernel_rfl
theorem res142 : Try.f142.results.toList = [] := by kernel_rfl
theorem res143 : Try.f143.results.toList = [] := by kernel_rfl
theorem res144 : Try.f144.results.toList = [] := by kernel_rfl
theorem res145 : Try.f145.results.toList = [] := by kernel_rfl
theorem res146 : Try.f146.results.toList = [] := by kernel_rfl
theorem res147 : Try.f147.results.toList = [] := by kernel_rfl
theorem res148 : Try.f148.results.toList = [] := by kernel_rfl
theorem res149 : Try.f149.results.toList = [] := by kernel_rfl
theorem res150 : Try.f150.results.toList = [] := by kernel_rfl
theorem res151 : Try.f151.results.toList = [] := by kernel_rfl
theorem res152 : Try.f152.results.toList = [] := by kernel_rfl
theorem res153 : Try.f153.results.toList = [] := by kernel_rfl
theorem res154 : Try.f154.results.toList = [] := by kernel_rfl
theorem res155 : Try.f155.results.toList = [] := by kernel_rfl
theorem res156 : Try.f156.results.toList = [] := by kernel_rfl
theorem res157 : Try.f157.results.toList = [] := by kernel_rfl
theorem res158 : Try.f158.results.toList = [] := by kernel_rfl
set_option linter.all false in
noncomputable def WA := And.intro (And.intro (And.intro WB1 WB2) (And.intro (And.intro WB3 WB5) WB4)) (And.intro (And.intro (And.intro (And.intro (And.intro (And.intro (And.intro (And.intro (ty1) (ty2)) (And.intro (ty3) (And.intro (ty4) (ty5)))) (And.intro (And.intro (ty6) (ty7)) (And.intro (ty8) (And.intro (ty9) (ty10))))) (And.intro (And.intro (And.intro (ty11) (ty12)) (And.intro (ty13) (And.intro (ty14) (ty15)))) (And.intro (And.intro (ty16) (And.intro (ty17) (ty18))) (And.intro (ty19) (And.intro (ty20) (ty21)))))) (And.intro (And.intro (And.intro (And.intro (ty22) (ty23)) (And.intro (ty24) (And.intro (ty25) (ty26)))) (And.intro (And.intro (ty27) (ty28)) (And.intro (ty29) (And.intro (ty30) (ty31))))) (And.intro (And.intro (And.intro (ty33) (ty34)) (And.intro (ty35) (And.intro (ty36) (ty37)))) (And.intro (And.intro (ty38) (And.intro (ty39) (ty40))) (And.intro (ty41) (And.intro (ty42) (ty43))))))) (And.intro (And.intro (And.intro (And.intro (And.intro (ty44) (ty45)) (And.intro (ty46) (And.intro (ty47) (ty48)))) (And.intro (And.intro (ty49) (ty50)) (And.intro (ty51) (And.intro (ty52) (ty53))))) (And.intro (And.intro (And.intro (ty54) (ty55)) (And.intro (ty56) (And.intro (ty57) (ty59)))) (And.intro (And.intro (ty61) (And.intro (ty62) (ty63))) (And.intro (ty65) (And.intro (ty66) (ty67)))))) (And.intro (And.intro (And.intro (And.intro (ty68) (ty69)) (And.intro (ty70) (And.intro (ty71) (ty72)))) (And.intro (And.intro (ty73) (ty74)) (And.intro (ty75) (And.intro (ty76) (ty77))))) (And.intro (And.intro (And.intro (ty78) (ty79)) (And.intro (ty80) (And.intro (ty81) (ty82)))) (And.intro (And.intro (ty83) (And.intro (ty84) (ty85))) (And.intro (ty86) (And.intro (ty87) (ty88)))))))) (And.intro (And.intro (And.intro (And.intro (And.intro (And.intro (ty89) (ty90)) (And.intro (ty91) (And.intro (ty92) (ty93)))) (And.intro (And.intro (ty94) (ty95)) (And.intro (ty96) (And.intro (ty97) (ty98))))) (And.intro (And.intro (And.intro (ty99) (ty100)) (And.intro (ty101) (And.intro (ty102) (ty103)))) (And.intro (And.intro (ty104) (And.intro (ty105) (ty106))) (And.intro (ty107) (And.intro (ty108) (ty109)))))) (And.intro (And.intro (And.intro (And.intro (ty110) (ty111)) (And.intro (ty112) (And.intro (ty113) (ty114)))) (And.intro (And.intro (ty115) (ty116)) (And.intro (ty117) (And.intro (ty118) (ty119))))) (And.intro (And.intro (And.intro (ty120) (ty121)) (And.intro (ty122) (And.intro (ty123) (ty124)))) (And.intro (And.intro (ty125) (And.intro (ty126) (ty127))) (And.intro (ty128) (And.intro (ty129) (ty130))))))) (And.intro (And.intro (And.intro (And.intro (And.intro (ty132) (ty133)) (And.intro (ty134) (And.intro (ty135) (ty136)))) (And.intro (And.intro (ty137) (ty138)) (And.intro (ty139) (And.intro (ty140) (ty141))))) (And.intro (And.intro (And.intro (ty142) (ty143)) (And.intro (ty144) (And.intro (ty145) (ty146)))) (And.intro (And.intro (ty147) (And.intro (ty148) (ty149))) (And.intro (ty150) (And.intro (ty151) (ty152)))))) (And.intro (And.intro (And.intro (And.intro (ty153) (ty154)) (And.intro (ty155) (And.intro (ty156) (ty157)))) (And.intro (And.intro (ty158) (ty159)) (And.intro (ty160) (And.intro (ty161) (ty162))))) (And.intro (And.intro (And.intro (ty163) (ty164)) (And.intro (ty165) (And.intro (ty166) (ty167)))) (And.intro (And.intro (ty168) (And.intro (ty169) (ty170))) (And.intro (ty171) (And.intro (ty172) (ty173))))))))) (And.intro (And.intro (And.intro (And.intro (And.intro (And.intro (And.intro (ty174) (ty175)) (And.intro (ty176) (And.intro (ty177) (ty178)))) (And.intro (And.intro (ty179) (ty180)) (And.intro (ty181) (And.intro (ty183) (res0))))) (And.intro (And.intro (And.intro (res1) (res2)) (And.intro (res3) (And.intro (res4) (res5)))) (And.intro (And.intro (res6) (And.intro (res7) (res8))) (And.intro (res9) (And.intro (res10) (res11)))))) (And.intro (And.intro (And.intro (And.intro (res12) (res13)) (And.intro (res14) (And.intro (res15) (res16)))) (And.intro (And.intro (res17) (res18)) (And.intro (res19) (And.intro (res20) (res21))))) (And.intro (And.intro (And.intro (res22) (res23)) (And.intro (res24) (And.intro (res25) (res26)))) (And.intro (And.intro (res27) (And.intro (res28) (res29))) (And.intro (res30) (And.intro (res31) (res32))))))) (And.intro (And.intro (And.intro (And.intro (And.intro (res33) (res34)) (And.intro (res35) (And.intro (res36) (res37)))) (And.intro (And.intro (res38) (res39)) (And.intro (res40) (And.intro (res41) (res42))))) (And.intro (And.intro (And.intro (res43) (res44)) (And.intro (res45) (And.intro (res46) (res47)))) (And.intro (And.intro (res48) (And.intro (res49) (res50))) (And.intro (res51) (And.intro (res52) (res53)))))) (And.intro (And.intro (And.intro (And.intro (res54) (res55)) (And.intro (res56) (And.intro (res57) (res58)))) (And.intro (And.intro (res59) (res60)) (And.intro (res61) (And.intro (res62) (res63))))) (And.intro (And.intro (And.intro (res64) (res65)) (And.intro (res66) (And.intro (res67) (res68)))) (And.intro (And.intro (res69) (And.intro (res70) (res71))) (And.intro (res72) (And.intro (res73) (res74)))))))) (And.intro (And.intro (And.intro (And.intro (And.intro (And.intro (res75) (res76)) (And.intro (res77) (And.intro (res78) (res79)))) (And.intro (And.intro (res80) (res81)) (And.intro (res82) (And.intro (res83) (res84))))) (And.intro (And.intro (And.intro (res85) (res86)) (And.intro (res87) (And.intro (res88) (res89)))) (And.intro (And.intro (res90) (And.intro (res91) (res92))) (And.intro (res93) (And.intro (res94) (res95)))))) (And.intro (And.intro (And.intro (And.intro (res96) (res97)) (And.intro (res98) (And.intro (res99) (res100)))) (And.intro (And.intro (res101) (res102)) (And.intro (res103) (And.intro (res104) (res105))))) (And.intro (And.intro (And.intro (res106) (res107)) (And.intro (res108) (And.intro (res109) (res110)))) (And.intro (And.intro (res111) (And.intro (res112) (res113))) (And.intro (res114) (And.intro (res115) (res116))))))) (And.intro (And.intro (And.intro (And.intro (And.intro (res117) (res118)) (And.intro (res119) (And.intro (res120) (res121)))) (And.intro (And.intro (res122) (res123)) (And.intro (res124) (And.intro (res125) (res126))))) (And.intro (And.intro (And.intro (res127) (res128)) (And.intro (res129) (And.intro (res130) (res131)))) (And.intro (And.intro (res132) (And.intro (res133) (res134))) (And.intro (res135) (And.intro (res136) (res137)))))) (And.intro (And.intro (And.intro (And.intro (res138) (res139)) (And.intro (res140) (And.intro (res141) (res142)))) (And.intro (And.intro (res143) (res144)) (And.intro (res145) (And.intro (res146) (res147))))) (And.intro (And.intro (And.intro (res148) (res149)) (And.intro (res150) (And.intro (res151) (res152)))) (And.intro (And.intro (res153) (And.intro (res154) (res155))) (And.intro (res156) (And.intro (res157) (res158))))))))))
end Go.Proofs.Ytpcgnmoogjahbaa
/- part W28 -/
set_option linter.unusedVariables false
set_option linter.unusedSimpArgs false
namespace Go.W
open Go Go.RowKit
section
variable {C : Cx} {N n0 m : Nat} {Q : QT} {k : List It} {τ : Tau} {h : H}
/-- A loop that's left in its first round. -/
def loopZ (C : Cx) (N n0 m : Nat) (Q : QT) (k : List It) : QT
  | .normal, _, _ => False
  | .exit id, τ, h => exitK (Run C N n0 m Q) Q id τ h (popTo id k)
  | .ret, τ, h => Q .ret τ h
  | .pan v, τ, h => Q (.pan v) τ h
theorem loopZ_exit (id : Nat) : loopZ C N n0 m Q k (.exit id) τ h = exitK (Run C N n0 m Q) Q id τ h (popTo id k) := rfl
theorem loopZ_ret : loopZ C N n0 m Q k .ret τ h = Q .ret τ h := rfl
theorem loopZ_pan (v : V) : loopZ C N n0 m Q k (.pan v) τ h = Q (.pan v) τ h := rfl
theorem panFree_loopZ (hQ : PanFree Q) : PanFree (loopZ C N n0 m Q k) := fun v τ τ' h q => hQ v τ τ' h q
theorem LoopThen.zero {body : Code} (m n : Nat) (hr : Run C N n0 n (loopZ C N n0 m Q k) [.code body] τ h) : LoopThen C N n0 Q body k τ h := by
  intro hb hk
  refine WC.loop (fun τ' h' => τ' = τ ∧ h' = h) (fun _ _ => 0) (Goes.refl ⟨rfl, rfl⟩) fun τ' h' hI => ?_
  obtain ⟨rfl, rfl⟩ := hI
  have := Run_sound n _ [.code body] τ' h' (by simp [itOk, hb]) hr
  refine WC.mono this fun x τ' h' q => ?_
  cases x with
  | normal => exact q.elim
  | exit id =>
    refine semK_exit ?_
    simp only [SemK, loopZ] at q
    cases hp : popTo id k with
    | none => rw [hp] at q; exact q
    | some k' => rw [hp] at q; exact Run_sound m Q k' τ' h' (popTo_ok hp hk) q
  | ret => exact semK_ret q
  | pan v => exact semK_pan q
end
set_option linter.all false in
noncomputable def WB6 := And.intro (And.intro @loopZ_exit @loopZ_ret) @loopZ_pan
end Go.W
/- part W29 -/
set_option linter.unusedVariables false
set_option linter.unusedSimpArgs false
namespace Go.W
open Go Go.RowKit

/-! ### copy and clear on blocks of one's own -/
def putAt (els : List (List V)) (off : Nat) (news : List (List V)) : List (List V) := els.take off ++ news ++ els.drop (off + news.length)
section
variable {S : Nat → Prop} {w0 w : World} {φ : Phi} {h : H} {F : Nat → Fp} {C : Cx}

theorem leafs_take {els : List (List V)} (h : leafs els = true) (k : Nat) : leafs (els.take k) = true := by
  simp only [leafs, List.all_eq_true] at *
  exact fun el he => h el (List.mem_of_mem_take he)
theorem leafs_drop {els : List (List V)} (h : leafs els = true) (k : Nat) : leafs (els.drop k) = true := by
  simp only [leafs, List.all_eq_true] at *
  exact fun el he => h el (List.mem_of_mem_drop he)

/-- Elements are written into a row, perhaps beyond those that are told. -/
theorem RelF.putAt (R : RelF S w0 φ h w F) {b k n cap off : Nat} {els news : List (List V)} {vals : List Value} (hb : h[b]? = some ⟨els, n, cap, true⟩) (hp : φ.m b = some (some k, n)) (hle : leafs els = true) (hln : leafs news = true)
    (hv : All2 (RelC φ) news.flatten vals) (hel : ∀ el ∈ news, el.length = n) (hoff : off ≤ els.length) (hcap : off + news.length ≤ cap) (hlim : off + news.length ≤ LIM) :
    ∃ w', (storeCells ⟨k, off * n, none⟩ vals).run C.P w = .ok () w' ∧ Rel S w0 φ (h.set b ⟨Go.W.putAt els off news, n, cap, true⟩) w' := by
  obtain ⟨pp, g1, g2, g3, g4⟩ := R.place hb rfl
  simp only at g2 g3
  rw [hp] at g1; obtain ⟨rfl, -⟩ := Prod.mk.inj (Option.some.inj g1)
  obtain ⟨c0, ty, fq, y1, y2, y3, y4, y5⟩ := g4
  simp only at y2 y3 y4
  have hvl : vals.length = news.length * n := by rw [← hv.length, flat_len hel]
  have hfit : off * n + vals.length ≤ c0.size := by rw [hvl, y2, ← Nat.add_mul]; exact Nat.mul_le_mul_right _ hcap
  have hst := run_storeCells_at C.P k (off * n) ty vals 0 c0 w y1 (by simpa using hfit) (all2_oneCell (leafs_flat hln) hv)
  simp only [Nat.add_zero] at hst
  have hh := setRow_heap w k c0 (c0.toList.take (off * n) ++ vals ++ c0.toList.drop (off * n + vals.length)).toArray ty (0, 0) y1
  have gr : w.grownBy (w.setRow k (c0.toList.take (off * n) ++ vals ++ c0.toList.drop (off * n + vals.length)).toArray) (some k) :=
    ⟨rfl, rfl, rfl, by simp, fun j _ hj => setRow_other w k j _ (fun e => hj (by rw [e]))⟩
  have hnw : ∀ el ∈ Go.W.putAt els off news, el.length = n := fun el he => by
    simp only [Go.W.putAt, List.mem_append] at he
    rcases he with (q | q) | q
    · exact g2 el (List.mem_of_mem_take q)
    · exact hel el q
    · exact g2 el (List.mem_of_mem_drop q)
  have hlen : (Go.W.putAt els off news).length = off + news.length + (els.length - (off + news.length)) := by
    simp only [Go.W.putAt, List.length_append, List.length_take, List.length_drop]; omega
  -- the three parts
  obtain ⟨f1, f2, _, ht⟩ := y4.take off
  have a1 := lss_cells ht (leafs_flat (leafs_take hle off))
  have l1 : (els.take off).length = off := by rw [List.length_take]; omega
  rw [l1] at a1
  obtain ⟨f3, hd⟩ := y4.dropN (off + news.length)
  have a3 := lss_cells hd (leafs_flat (leafs_drop hle (off + news.length)))
  rw [List.length_drop] at a3
  have all := (a1.append hv).append a3
  have hfl : (Go.W.putAt els off news).flatten = (els.take off).flatten ++ news.flatten ++ (els.drop (off + news.length)).flatten := by simp [Go.W.putAt]
  rw [← hfl] at all
  have hls := lss_all2 (w := w) hnw all
  refine ⟨_, hst, R.write (B' := ⟨Go.W.putAt els off news, n, cap, true⟩) (fq' := []) hb rfl hp y5 gr rfl rfl hh ?_ ?_ ?_ hnw (List.nil_sublist _) (Lss.pre (fun j hj => ?_) hls)⟩
  · simp; rw [← y2]; omega
  · show (Go.W.putAt els off news).length ≤ cap
    rw [hlen]; omega
  · show (Go.W.putAt els off news).length ≤ LIM
    rw [hlen]; omega
  · -- the cells agree where they are told
    show (c0.toList.take (off * n) ++ vals ++ c0.toList.drop (off * n + vals.length))[j]? = _
    have e : off * n + vals.length = (off + news.length) * n := by rw [hvl, Nat.add_mul]
    rw [e]
    have hj' : j < (off + news.length) * n + (els.length - (off + news.length)) * n := by rw [hlen, Nat.add_mul] at hj; exact hj
    have hpre : (c0.toList.take (off * n) ++ vals).length = (off + news.length) * n := by
      rw [← e, List.length_append, List.length_take, Array.length_toList]; omega
    generalize hA : c0.toList.take (off * n) ++ vals = A at hpre ⊢
    by_cases q : j < (off + news.length) * n
    · rw [List.getElem?_append_left (by rw [hpre]; exact q), List.getElem?_append_left (by rw [hpre]; exact q)]
    · rw [List.getElem?_append_right (by rw [hpre]; omega), List.getElem?_append_right (by rw [hpre]; omega), List.getElem?_take, hpre, if_pos (by omega)]

/-- What is copied: k elements from x on. -/
def Src (C : Cx) (h : H) (n k m : Nat) (news : List (List V)) (x : V) : Prop :=
  ∀ S w0 φ w F xv, RelF S w0 φ h w F → RelV φ x xv → (∀ w, (Builtin.lenOf xv).run C.P w = .ok m w) ∧ ∃ vals : List Value, All2 (RelC φ) news.flatten vals ∧ (Builtin.firstCells n k xv).run C.P w = .ok vals.toArray w
theorem Src.f {n k : Nat} {els : List (List V)} (hk : k ≤ els.length) (hl : leafs els = true) : Src C h n k els.length (els.take k) (.f n els) := by
  intro S w0 φ w F xv R r
  rcases f_rel r with ⟨rfl, q, rfl⟩ | ⟨b, off, cap, rfl, h1, h2, h3⟩
  · obtain rfl : k = 0 := by simpa using hk
    refine ⟨fun w => by simp [Builtin.lenOf], [], by simp [All2], ?_⟩
    cases q with
    | none => simp [Builtin.firstCells]
    | some ad => exact run_firstCells_some (P := C.P) w n 0 ad 0 0 [] (by simp) (fun j v e => by simp at e)
  · have h4 := h3.take k
    obtain ⟨q1, vs, q2, q3⟩ := rz_flat h4
    have hl : vs.length = k * n := by rw [← q2.length, flat_len q1, List.length_take]; congr 1; omega
    exact ⟨fun w => by simp [Builtin.lenOf], vs, q2.mono fun _ _ => relC_of_rz, run_firstCells_some (P := C.P) w n k _ els.length cap vs hl (fun j v e => by rw [addr_add]; exact R.zok _ _ _ (q3 j v e))⟩
theorem Src.own {n k b off len cap : Nat} {news : List (List V)} (hk : k ≤ len) (hs : strideB (h[b]?) = some n) (he : elsOf off k (h[b]?) = some news) (hl : leafs news = true) : Src C h n k len news (.sl b off len cap) := by
  intro S w0 φ w F xv R r
  obtain ⟨p, n', hp, hle, hv⟩ : ∃ p n', φ.m b = some (p, n') ∧ len ≤ cap ∧ _ := r
  have hlen : ∀ w, (Builtin.lenOf xv).run C.P w = .ok len w := fun w => by
    cases p with
    | none => obtain ⟨⟨q, rfl⟩, rfl, _⟩ := hv; simp [Builtin.lenOf]
    | some a => simp only at hv; subst hv; simp [Builtin.lenOf]
  -- the same with the length k
  have key : ∃ xv', RelV φ (.sl b off k cap) xv' ∧ (Builtin.firstCells n k xv') = Builtin.firstCells n k xv := by
    cases p with
    | none =>
      obtain ⟨⟨q, rfl⟩, rfl, rfl, rfl⟩ := hv
      obtain rfl : k = 0 := by omega
      exact ⟨.slice q 0 0, ⟨none, n', hp, Nat.le_refl _, ⟨q, rfl⟩, rfl, rfl, rfl⟩, rfl⟩
    | some a => simp only at hv; subst hv; exact ⟨.slice (some ⟨a, off * n', none⟩) k cap, ⟨some a, n', hp, by omega, rfl⟩, rfl⟩
  obtain ⟨xv', r', e⟩ := key
  have hnews : newsOf h n (.sl b off k cap) = some news := by simp only [newsOf]; rw [if_pos hs]; exact he
  obtain ⟨_, hlen', vals, hv1, hv2, hv3⟩ := news_cells (P := C.P) R r' hnews hl
  have hnl : news.length = k := by
    unfold elsOf at he
    split at he
    · split at he
      · obtain rfl := Option.some.inj he; simp; omega
      · cases he
    · cases he
  rw [hnl] at hv3
  exact ⟨hlen, vals, hv1, by rw [← e]; exact hv3 w fun _ => rfl⟩

/-- copy into a block of one's own. -/
theorem CopyV.own {b off dlen dcap n cap m k : Nat} {t u e : TypeId} {els news : List (List V)} {x : V} (ht : tElem C.P t = some e) (hn : tSz C.P e = some n) (hb : h[b]? = some ⟨els, n, cap, true⟩)
    (hx : Src C h n k m news x) (hk : k = Nat.min m dlen) (hnl : news.length = k) (hel : ∀ el ∈ news, el.length = n) (hle : leafs els = true) (hln : leafs news = true) (hoff : off ≤ els.length) (hcap : off + k ≤ cap) (hlim : off + k ≤ LIM) :
    CopyV C h (.sl b off dlen dcap) x t u fun v h' => v = .s (.int .i64 k) ∧ h' = h.set b ⟨Go.W.putAt els off news, n, cap, true⟩ := by
  intro S w0 φ w dv xv ty ⟨F, R⟩ rd rx
  obtain ⟨p, n', hp, hdle, hv⟩ : ∃ p n', φ.m b = some (p, n') ∧ dlen ≤ dcap ∧ _ := rd
  obtain ⟨pp, g1, g2, g3, g4⟩ := R.place hb rfl
  simp only at g2 g3
  have g1' := g1
  rw [hp] at g1; obtain ⟨rfl, rfl⟩ := Prod.mk.inj (Option.some.inj g1)
  obtain ⟨hlen, vals, hv1, hv3⟩ := hx S w0 φ w F xv R rx
  have hu := underlying_of_tElem ht
  cases p with
  | none =>
    obtain ⟨⟨q, rfl⟩, rfl, rfl, rfl⟩ := hv
    obtain rfl : k = 0 := by rw [hk]; simp [Nat.min_def]
    obtain rfl : news = [] := List.eq_nil_of_length_eq_zero hnl
    have hv0 : vals = [] := by
      have := hv1.length; simp at this; exact List.eq_nil_of_length_eq_zero this.symm
    subst hv0
    have same : h.set b ⟨Go.W.putAt els 0 [], n', cap, true⟩ = h := by
      have : Go.W.putAt els 0 [] = els := by simp [Go.W.putAt]
      rw [this]
      obtain ⟨hlt, e⟩ := List.getElem?_eq_some_iff.1 hb
      rw [← e]; exact List.set_getElem_self hlt
    refine ⟨.int .i64 0, w, φ, .s (.int .i64 0), h, ?_, ⟨F, R⟩, ExtN.refl .., Nat.le_refl _, mk_s rfl, rfl, same.symm⟩
    have hm0 : Nat.min m 0 = 0 := by simp [Nat.min_def]
    cases q with
    | none => simp [Builtin.copy_, run_underlying hu, hlen, run_sz hn, hm0, hv3, goInt]
    | some ad => simp [Builtin.copy_, run_underlying hu, hlen, run_sz hn, hm0, hv3, goInt, storeCells]
  | some kb =>
    simp only at hv; subst hv
    obtain ⟨w', hst, R'⟩ := R.putAt (C := C) (off := off) hb hp hle hln hv1 hel hoff (by rw [hnl]; exact hcap) (by rw [hnl]; exact hlim)
    refine ⟨.int .i64 k, w', φ, .s (.int .i64 k), _, ?_, R', ExtN.refl .., by simp, mk_s rfl, rfl, rfl⟩
    have hk' : Nat.min m dlen = k := hk.symm
    simp [Builtin.copy_, run_underlying hu, hlen, run_sz hn, hk', hv3, hst, goInt]

theorem leafs_zero {z : List V} (hz : z.all cellOk = true) (len : Nat) : leafs (List.replicate len z) = true := by
  simp only [leafs, List.all_eq_true, List.mem_replicate]; rintro x ⟨_, rfl⟩; simpa using hz
theorem ofV1_ok {l : List Value} : (l.map ofV1).all cellOk = true := by
  simp only [List.all_map, List.all_eq_true, Function.comp]
  intro v _
  rcases ofV1_V v with ⟨v', e⟩ | e <;> rw [e] <;> rfl
/-- clear of a part of a block of one's own. -/
theorem ClearV.own {b off len dcap n cap : Nat} {t e : TypeId} {els : List (List V)} {z : List V} (ht : tElem C.P t = some e) (hz : tZ C.P e = some z) (hzl : z.length = n) (hb : h[b]? = some ⟨els, n, cap, true⟩)
    (hle : leafs els = true) (hoff : off ≤ els.length) (hcap : off + len ≤ cap) (hlim : off + len ≤ LIM) :
    ClearV C h (.sl b off len dcap) t fun v h' => v = .tup [] ∧ h' = h.set b ⟨Go.W.putAt els off (List.replicate len z), n, cap, true⟩ := by
  intro S w0 φ w dv ty ⟨F, R⟩ rd
  obtain ⟨p, n', hp, hdle, hv⟩ : ∃ p n', φ.m b = some (p, n') ∧ len ≤ dcap ∧ _ := rd
  obtain ⟨pp, g1, g2, g3, g4⟩ := R.place hb rfl
  simp only at g2 g3
  rw [hp] at g1; obtain ⟨rfl, rfl⟩ := Prod.mk.inj (Option.some.inj g1)
  have hu := underlying_of_tElem ht
  obtain ⟨zv, hzv, rfl, h5, hiz⟩ := run_zero hz
  have hzs : zv.cells.size = n' := by simpa using hzl
  have same : len = 0 → h.set b ⟨Go.W.putAt els off (List.replicate len (zv.cells.toList.map ofV1)), n', cap, true⟩ = h := fun e => by
    subst e
    have : Go.W.putAt els off (List.replicate 0 (zv.cells.toList.map ofV1)) = els := by simp [Go.W.putAt]
    rw [this]
    obtain ⟨hlt, e⟩ := List.getElem?_eq_some_iff.1 hb
    rw [← e]; exact List.set_getElem_self hlt
  have done0 : len = 0 → (∃ q c, dv = .slice q 0 c) → ∃ v w' φ' r h', (Builtin.clear_ #[t] ty #[dv]).run C.P w = .ok v w' ∧ Rel S w0 φ' h' w' ∧ ExtN S w0 h.length φ φ' ∧ h.length ≤ h'.length ∧ RelV φ' r v ∧ (r = .tup [] ∧ h' = h.set b ⟨Go.W.putAt els off (List.replicate len (zv.cells.toList.map ofV1)), n', cap, true⟩) := by
    rintro e ⟨q, c, rfl⟩
    refine ⟨.tuple #[], w, φ, .tup [], h, ?_, ⟨F, R⟩, ExtN.refl .., Nat.le_refl _, ⟨_, rfl, trivial⟩, rfl, (same e).symm⟩
    cases q <;> simp [Builtin.clear_, run_underlying hu]
  cases p with
  | none => obtain ⟨⟨q, rfl⟩, rfl, rfl, rfl⟩ := hv; exact done0 rfl ⟨q, 0, rfl⟩
  | some kb =>
    simp only at hv; subst hv
    by_cases h0 : len = 0
    · exact done0 h0 ⟨some ⟨kb, off * n', none⟩, dcap, by rw [h0]⟩
    · have hzc : (Builtin.zeroCells zv.cells len).toList = (List.replicate len zv.cells.toList).flatten := by
        have := rep_cells zv.cells zv.cells.size len rfl
        unfold Builtin.zeroCells
        rw [this]
      have hall : All2 (RelC φ) (List.replicate len (zv.cells.toList.map ofV1)).flatten (Builtin.zeroCells zv.cells len).toList := by
        rw [hzc, rep_flat]; exact all2_ofV1 (φ := φ) (all_rep h5 len)
      obtain ⟨w', hst, R'⟩ := R.putAt (C := C) (off := off) (news := List.replicate len (zv.cells.toList.map ofV1)) hb hp hle (leafs_zero ofV1_ok len) hall
        (fun el he => by rw [(List.mem_replicate.1 he).2]; simpa using hzs) hoff (by simpa using hcap) (by simpa using hlim)
      refine ⟨.tuple #[], w', φ, .tup [], _, ?_, R', ExtN.refl .., by simp, ⟨_, rfl, trivial⟩, rfl, rfl⟩
      obtain ⟨m, rfl⟩ : ∃ m, len = m + 1 := ⟨len - 1, by omega⟩
      simp [Builtin.clear_, run_underlying hu, hzv, hst]
end
end Go.W
