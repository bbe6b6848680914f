/- A layer for walking through code on abstract values, told apart by who owns the memory: its definitions and their soundness; no condition. -/
import Derived.Test.YtlhkfjannhhcbaaGreatDoorG2
import Derived.ChangeSlices
import Derived.OpenShut
import Derived.RecoverIn
import Derived.RangeFuncLeaves
/- part WB -/
set_option linter.unusedVariables false
set_option linter.unusedSimpArgs false
set_option maxRecDepth 100000
namespace Go.W
open Go Go.RowKit

theorem wb1 :
 ((((((∀ (C : Cx) (K : V → H → Prop) (h : H) (fo : Nat) (ft : Go.TypeId) (b i o : Nat), faK C K h (some (fo, ft)) (V.ptr b i o) = ((∃ n, tSz C.P ft = some (n + 1)) ∧ K (V.ptr b i (o + fo)) h)) ∧
 ((∀ (C : Cx) (K : V → H → Prop) (h : H) (fo : Nat) (ft : Go.TypeId) (cs : List V), faK C K h (some (fo, ft)) (V.pd cs) = ((∃ n, tSz C.P ft = some (n + 1)) ∧ K (V.pd (List.drop fo cs)) h)) ∧
 (∀ (K : V → H → Prop) (h : H) (C : Cx) (t u e : Go.TypeId) (s x : V) (k : Go.IntKind), appF K h C t u e s x (TK.int k) = mkA K h s x (tSz C.P e) (tBytes C.P e) (tZ C.P e)))) ∧
 (((∀ (K : V → H → Prop) (h : H) (n by_ : Nat) (z : List V) (b len cap : Nat) (k : Go.IntKind) (m : Int), mkA K h (V.sl b 0 len cap) (V.s (Go.Value.int k m)) (some n) (some by_) (some z) = ((z.length = n ∧ 0 < n ∧ 0 < m ∧ m ≤ 4611686018427387904 ∧ blkIs n cap len h[b]? ∧ cap < len + m.toNat ∧ (len + m.toNat) * by_ ≤ 140737488355328 ∧ len + m.toNat ≤ LIM ∧ leafs (keptB len h[b]?) = true) ∧ ∀ (cap' : Nat), len + m.toNat ≤ cap' → K (V.sl (List.length h) 0 (len + m.toNat) cap') (h ++ [{ els := keptB len h[b]? ++ List.replicate m.toNat z, n := n, cap := cap', live := true }]))) ∧
 (∀ (x : Nat) (els : List (List V)) (n cap : Nat), rdB (some { els := els, n := n, cap := cap, live := true }) x = els[x]?)) ∧
 ((∀ (x : Nat) (el : List V), rdC (some el) x = el[x]?) ∧
 (∀ (x : Nat), rdC none x = none)))) ∧
 ((((∀ (x x_1 : Nat) (el : List V), rdN (some el) x x_1 = if x + x_1 ≤ el.length then some (List.take x_1 (List.drop x el)) else none) ∧
 (∀ (x x_1 : Nat), rdN none x x_1 = none)) ∧
 ((∀ {α : Type} (x : List α) (x_1 : Nat), wrL x x_1 [] = x) ∧
 (∀ {α : Type} (x : List α) (x_1 : Nat) (x_3 : α) (xs : List α), wrL x x_1 (x_3 :: xs) = wrL (x.set x_1 x_3) (x_1 + 1) xs))) ∧
 (((∀ (x : Nat) (x_1 el : List V), wrE (some el) x x_1 = wrL el x x_1) ∧
 (∀ (x : Nat) (x_1 : List V), wrE none x x_1 = x_1)) ∧
 ((∀ (x x_1 : Nat) (x_2 : List V) (els : List (List V)) (n cap : Nat) (l : Bool), wrB (some { els := els, n := n, cap := cap, live := l }) x x_1 x_2 = { els := els.set x (wrE els[x]? x_1 x_2), n := n, cap := cap, live := l }) ∧
 (∀ (x x_1 : Nat) (x_2 : List V), wrB none x x_1 x_2 = Blk.dead))))) ∧
 ((((∀ (els : List (List V)) (n cap : Nat), strideB (some { els := els, n := n, cap := cap, live := true }) = some n) ∧
 ((∀ (val : Nat), isN (some val) = True) ∧
 (isN none = False))) ∧
 (((∀ (a b : Nat), sameN (some a) (some b) = (a = b)) ∧
 (∀ (v : Go.Value), cellOk (V.s v) = true)) ∧
 ((∀ (n : Nat) (els : List (List V)), cellOk (V.f n els) = true) ∧
 (cellOk V.z = true)))) ∧
 ((((∀ (b off len cap : Nat), cellOk (V.sl b off len cap) = true) ∧
 (∀ (b i o : Nat), cellOk (V.ptr b i o) = true)) ∧
 ((∀ (cs : List V), cellOk (V.pd cs) = true) ∧
 (∀ (f : Nat) (caps : List V), cellOk (V.fn f caps) = true))) ∧
 (((∀ (cs : List V), cellsOf (V.agg cs) = if cs.all cellOk = true then some cs else none) ∧
 (∀ (v : Go.Value), cellsOf (V.s v) = some [V.s v])) ∧
 ((∀ (n : Nat) (e : List (List V)), cellsOf (V.f n e) = some [V.f n e]) ∧
 (cellsOf V.z = some [V.z])))))) ∧
 (((((∀ (b o l c : Nat), cellsOf (V.sl b o l c) = some [V.sl b o l c]) ∧
 ((∀ (b i o : Nat), cellsOf (V.ptr b i o) = some [V.ptr b i o]) ∧
 (∀ (c : List V), cellsOf (V.pd c) = some [V.pd c]))) ∧
 (((∀ (f : Nat) (c : List V), cellsOf (V.fn f c) = some [V.fn f c]) ∧
 (∀ (place : Nat → Option (Nat × Nat)) (cells : List V), fillV place cells [] = some cells)) ∧
 ((∀ (n : Nat) (els : List (List V)), fillE n els [] = some els) ∧
 (∀ (C : Cx) (τ : Tau), partsV C τ [] = [])))) ∧
 ((((∀ (C : Cx) (τ : Tau) (p : Nat × Go.Operand) (r : List (Nat × Go.Operand)), partsV C τ (p :: r) = (p.fst, ev C τ p.snd) :: partsV C τ r) ∧
 (∀ (C : Cx) (τ : Tau), evs C τ [] = [])) ∧
 ((∀ (C : Cx) (τ : Tau) (x_1 : Go.Operand) (r : List Go.Operand), evs C τ (x_1 :: r) = ev C τ x_1 :: evs C τ r) ∧
 (∀ (x x_1 : V), pickV true x x_1 = x))) ∧
 (((∀ (x x_1 : V), pickV false x x_1 = x_1) ∧
 (∀ (K : V → H → Prop) (h : H) (x y : V) (t : Bool), pickK K h x y (V.s (Go.Value.bool t)) = K (pickV t x y) h)) ∧
 ((∀ (K : V → H → Prop) (h : H) (xs : List V), allocK K h (some xs) = K (V.ptr (List.length h) 0 0) (h ++ [{ els := [xs], n := xs.length, cap := 1, live := true }])) ∧
 (∀ (K : V → H → Prop) (h : H), allocK K h none = False))))) ∧
 ((((∀ (K : V → H → Prop) (h : H) (xs : List V), boxK K h (some xs) = K (V.ptr (List.length h) 0 0) (h ++ [{ els := [xs], n := xs.length, cap := 1, live := true }])) ∧
 ((∀ (K : V → H → Prop) (h : H), boxK K h none = False) ∧
 (∀ (K : V → H → Prop) (h : H) (xs : List V), buildK1 K h (some xs) = K (V.agg xs) h))) ∧
 (((∀ (K : V → H → Prop) (h : H), buildK1 K h none = False) ∧
 (∀ (K : V → H → Prop) (h : H) (place : Nat → Option (Nat × Nat)) (ps : List (Nat × V)) (z : List V), buildK K h place ps true (some z) = buildK1 K h (fillV place z ps))) ∧
 ((∀ (K : V → H → Prop) (h : H) (n len : Nat) (els : List (List V)), bsK2 K h n len (some els) = ((len * n ≤ 16777216 ∧ len ≤ 16777216) ∧ K (V.sl (List.length h) 0 len len) (h ++ [{ els := els, n := n, cap := len, live := true }]))) ∧
 (∀ (K : V → H → Prop) (h : H) (n len : Nat), bsK2 K h n len none = False)))) ∧
 ((((∀ (K : V → H → Prop) (h : H) (len : Nat) (ps : List (Nat × V)) (n : Nat) (z : List V), bsK1 K h len ps (some n) (some z) = (z.length = n ∧ bsK2 K h n len (fillE n (List.replicate len z) ps))) ∧
 (∀ (C : Cx) (K : V → H → Prop) (h : H) (len : Nat) (ps : List (Nat × V)) (e : Go.TypeId), bsK C K h len ps (some e) = bsK1 K h len ps (tSz C.P e) (tZ C.P e))) ∧
 ((∀ (C : Cx) (K : V → H → Prop) (h : H) (len : Nat) (ps : List (Nat × V)), bsK C K h len ps none = False) ∧
 (∀ (K : V → H → Prop) (h : H) (b i o n : Nat) (els : List (List V)), ldV K h b i o (some (V.l n els)) = ∀ (cap : Nat), els.length ≤ cap → K (V.sl (List.length h) 0 els.length cap) (wrH h b i o [V.sl (List.length h) 0 els.length cap] ++ [{ els := els, n := n, cap := cap, live := true }])))) ∧
 (((∀ (K : V → H → Prop) (h : H) (b i o : Nat) (cs : List V), ldV K h b i o (some (V.lp cs)) = K (V.ptr (List.length h) 0 0) (wrH h b i o [V.ptr (List.length h) 0 0] ++ [{ els := [cs], n := cs.length, cap := 1, live := true }])) ∧
 (∀ (K : V → H → Prop) (h : H) (b i o : Nat), ldV K h b i o none = False)) ∧
 ((∀ (K : V → H → Prop) (h : H) (xs : List V), ldA K h (some xs) = (xs.all cellOk = true ∧ K (V.agg xs) h)) ∧
 (∀ (K : V → H → Prop) (h : H), ldA K h none = False))))))) :=
 ⟨⟨⟨⟨⟨@faK.eq_1,
 ⟨@faK.eq_2,
 @appF.eq_1⟩⟩,
 ⟨⟨@mkA.eq_1,
 @rdB.eq_1⟩,
 ⟨@rdC.eq_1,
 @rdC.eq_2⟩⟩⟩,
 ⟨⟨⟨@rdN.eq_1,
 @rdN.eq_2⟩,
 ⟨@wrL.eq_1,
 @wrL.eq_2⟩⟩,
 ⟨⟨@wrE.eq_1,
 @wrE.eq_2⟩,
 ⟨@wrB.eq_1,
 @wrB.eq_2⟩⟩⟩⟩,
 ⟨⟨⟨@strideB.eq_1,
 ⟨@isN.eq_1,
 @isN.eq_2⟩⟩,
 ⟨⟨@sameN.eq_1,
 @cellOk.eq_1⟩,
 ⟨@cellOk.eq_2,
 @cellOk.eq_3⟩⟩⟩,
 ⟨⟨⟨@cellOk.eq_4,
 @cellOk.eq_5⟩,
 ⟨@cellOk.eq_6,
 @cellOk.eq_7⟩⟩,
 ⟨⟨@cellsOf.eq_1,
 @cellsOf.eq_2⟩,
 ⟨@cellsOf.eq_3,
 @cellsOf.eq_4⟩⟩⟩⟩⟩,
 ⟨⟨⟨⟨@cellsOf.eq_5,
 ⟨@cellsOf.eq_6,
 @cellsOf.eq_7⟩⟩,
 ⟨⟨@cellsOf.eq_8,
 @fillV.eq_1⟩,
 ⟨@fillE.eq_1,
 @partsV.eq_1⟩⟩⟩,
 ⟨⟨⟨@partsV.eq_2,
 @evs.eq_1⟩,
 ⟨@evs.eq_2,
 @pickV.eq_1⟩⟩,
 ⟨⟨@pickV.eq_2,
 @pickK.eq_1⟩,
 ⟨@allocK.eq_1,
 @allocK.eq_2⟩⟩⟩⟩,
 ⟨⟨⟨@boxK.eq_1,
 ⟨@boxK.eq_2,
 @buildK1.eq_1⟩⟩,
 ⟨⟨@buildK1.eq_2,
 @buildK.eq_1⟩,
 ⟨@bsK2.eq_1,
 @bsK2.eq_2⟩⟩⟩,
 ⟨⟨⟨@bsK1.eq_1,
 @bsK.eq_1⟩,
 ⟨@bsK.eq_2,
 @ldV.eq_1⟩⟩,
 ⟨⟨@ldV.eq_2,
 @ldV.eq_4⟩,
 ⟨@ldA.eq_1,
 @ldA.eq_2⟩⟩⟩⟩⟩⟩
theorem wb2 :
 ((((((∀ (K : V → H → Prop) (b i o : Nat) (x : List V) (x_1 : H), ldO K b i o x [] x_1 = K (V.agg x) x_1) ∧
 ((∀ (K : V → H → Prop) (b i o : Nat) (x : List V) (x_1 : H) (n : Nat) (els : List (List V)) (r : List V), ldO K b i o x (V.l n els :: r) x_1 = ∀ (cap : Nat), els.length ≤ cap → ldO K b i o (x ++ [V.sl (List.length x_1) 0 els.length cap]) r (wrH x_1 b i (o + x.length) [V.sl (List.length x_1) 0 els.length cap] ++ [{ els := els, n := n, cap := cap, live := true }])) ∧
 (∀ (K : V → H → Prop) (b i o : Nat) (x : List V) (x_1 : H) (cs r : List V), ldO K b i o x (V.lp cs :: r) x_1 = ldO K b i o (x ++ [V.ptr (List.length x_1) 0 0]) r (wrH x_1 b i (o + x.length) [V.ptr (List.length x_1) 0 0] ++ [{ els := [cs], n := cs.length, cap := 1, live := true }])))) ∧
 (((∀ (K : V → H → Prop) (h : H) (b i o : Nat) (cs : List V), ldB1 K h b i o cs true = K (V.agg cs) h) ∧
 (∀ (K : V → H → Prop) (h : H) (b i o : Nat) (cs : List V), ldB1 K h b i o cs false = ldO K b i o [] cs h)) ∧
 ((∀ (K : V → H → Prop) (h : H) (b i o : Nat) (xs : List V), ldB K h b i o (some xs) = ldB1 K h b i o xs (xs.all cellOk)) ∧
 (∀ (K : V → H → Prop) (h : H) (b i o : Nat), ldB K h b i o none = False)))) ∧
 ((((∀ (K : V → H → Prop) (h : H) (b i o n : Nat), ldT K h b i o (some true) (some n) = ldB K h b i o (rdN (rdB h[b]? i) o n)) ∧
 (∀ (K : V → H → Prop) (h : H) (b i o : Nat) (x : Option Nat), ldT K h b i o (some false) x = ldV K h b i o (rdC (rdB h[b]? i) o))) ∧
 ((∀ (K : V → H → Prop) (h : H) (v : V), ldC K h (some v) = K v h) ∧
 (∀ (K : V → H → Prop) (h : H), ldC K h none = False))) ∧
 (((∀ (K : V → H → Prop) (h : H) (cs : List V) (n : Nat), ldF K h cs (some true) (some n) = ldA K h (rdN (some cs) 0 n)) ∧
 (∀ (K : V → H → Prop) (h : H) (cs : List V) (x : Option Nat), ldF K h cs (some false) x = ldC K h cs[0]?)) ∧
 ((∀ (C : Cx) (K : V → H → Prop) (h : H) (t : Go.TypeId) (b i o : Nat), ldK C K h t (V.ptr b i o) = ldT K h b i o (tAgg C.P t) (tSz C.P t)) ∧
 (∀ (C : Cx) (K : V → H → Prop) (h : H) (t : Go.TypeId) (cs : List V), ldK C K h t (V.pd cs) = ldF K h cs (tAgg C.P t) (tSz C.P t)))))) ∧
 ((((∀ (x x_1 : Nat) (el : List V), fitsB (some el) x x_1 = (x + x_1 ≤ el.length)) ∧
 ((∀ (x x_1 : Nat), fitsB none x x_1 = False) ∧
 (∀ (K : V → H → Prop) (h : H) (b i o : Nat) (sz : Option Nat) (xs : List V), stA K h b i o sz (some xs) = ((sz = some xs.length ∧ fitsB (rdB h[b]? i) o xs.length) ∧ K V.any (wrH h b i o xs))))) ∧
 (((∀ (K : V → H → Prop) (h : H) (b i o : Nat) (sz : Option Nat), stA K h b i o sz none = False) ∧
 (∀ (C : Cx) (K : V → H → Prop) (h : H) (t : Go.TypeId) (x : V) (b i o : Nat), stK C K h t x (V.ptr b i o) = stA K h b i o (tSz C.P t) (cellsOf x))) ∧
 ((∀ (K : V → H → Prop) (h : H) (b i o : Nat), nilK K h (V.ptr b i o) = K (V.ptr b i o) h) ∧
 (∀ (K : V → H → Prop) (h : H) (cs : List V), nilK K h (V.pd cs) = K (V.pd cs) h)))) ∧
 ((((∀ (K : V → H → Prop) (h : H) (f : Nat) (cs : List V), nilK K h (V.fn f cs) = K (V.fn f cs) h) ∧
 (∀ (K : V → H → Prop) (h : H) (b off len cap : Nat), nilK K h (V.sl b off len cap) = K (V.sl b off len cap) h)) ∧
 ((∀ (K : V → H → Prop) (h : H) (k : Go.IntKind) (a : Int) (k' : Go.IntKind) (b : Int), intB K h k a k' b Go.BinOp.shr = ((0 ≤ b ∧ b ≤ ↑k.bits) ∧ K (V.s (Go.Value.int k (a / 2 ^ b.toNat))) h)) ∧
 (∀ (K : V → H → Prop) (h : H) (k : Go.IntKind) (a : Int) (k' : Go.IntKind) (b : Int), intB K h k a k' b Go.BinOp.add = (k = k' ∧ K (V.s (Go.Value.int k (k.wrap (a + b)))) h)))) ∧
 (((∀ (K : V → H → Prop) (h : H) (k : Go.IntKind) (a : Int) (k' : Go.IntKind) (b : Int), intB K h k a k' b Go.BinOp.sub = (k = k' ∧ K (V.s (Go.Value.int k (k.wrap (a - b)))) h)) ∧
 (∀ (K : V → H → Prop) (h : H) (k : Go.IntKind) (a : Int) (k' : Go.IntKind) (b : Int), intB K h k a k' b Go.BinOp.mul = (k = k' ∧ K (V.s (Go.Value.int k (k.wrap (a * b)))) h))) ∧
 ((∀ (K : V → H → Prop) (h : H) (k : Go.IntKind) (a : Int) (k' : Go.IntKind) (b : Int), intB K h k a k' b Go.BinOp.quo = ((k = k' ∧ b ≠ 0) ∧ K (V.s (Go.Value.int k (k.wrap (a.tdiv b)))) h)) ∧
 (∀ (K : V → H → Prop) (h : H) (k : Go.IntKind) (a : Int) (k' : Go.IntKind) (b : Int), intB K h k a k' b Go.BinOp.rem = ((k = k' ∧ b ≠ 0) ∧ K (V.s (Go.Value.int k (a.tmod b))) h))))))) ∧
 (((((∀ (K : V → H → Prop) (h : H) (k : Go.IntKind) (a : Int) (k' : Go.IntKind) (b : Int), intB K h k a k' b Go.BinOp.eql = (k = k' ∧ K (V.s (Go.Value.bool (decide (a = b)))) h)) ∧
 ((∀ (K : V → H → Prop) (h : H) (k : Go.IntKind) (a : Int) (k' : Go.IntKind) (b : Int), intB K h k a k' b Go.BinOp.neq = (k = k' ∧ K (V.s (Go.Value.bool !decide (a = b))) h)) ∧
 (∀ (K : V → H → Prop) (h : H) (k : Go.IntKind) (a : Int) (k' : Go.IntKind) (b : Int), intB K h k a k' b Go.BinOp.lss = (k = k' ∧ K (V.s (Go.Value.bool (decide (a < b)))) h)))) ∧
 (((∀ (K : V → H → Prop) (h : H) (k : Go.IntKind) (a : Int) (k' : Go.IntKind) (b : Int), intB K h k a k' b Go.BinOp.leq = (k = k' ∧ K (V.s (Go.Value.bool (decide (a ≤ b)))) h)) ∧
 (∀ (K : V → H → Prop) (h : H) (k : Go.IntKind) (a : Int) (k' : Go.IntKind) (b : Int), intB K h k a k' b Go.BinOp.gtr = (k = k' ∧ K (V.s (Go.Value.bool (decide (b < a)))) h))) ∧
 ((∀ (K : V → H → Prop) (h : H) (k : Go.IntKind) (a : Int) (k' : Go.IntKind) (b : Int), intB K h k a k' b Go.BinOp.geq = (k = k' ∧ K (V.s (Go.Value.bool (decide (b ≤ a)))) h)) ∧
 (∀ (K : V → H → Prop) (h : H) (k : Go.IntKind) (a : Int) (k' : Go.IntKind) (b : Int), intB K h k a k' b Go.BinOp.and = (k = k' ∧ K (V.s (Go.Value.int k (bitAnd k a b))) h))))) ∧
 ((((∀ (K : V → H → Prop) (h : H) (k : Go.IntKind) (a : Int) (k' : Go.IntKind) (b : Int), intB K h k a k' b Go.BinOp.or = (k = k' ∧ K (V.s (Go.Value.int k (bitOr k a b))) h)) ∧
 (∀ (K : V → H → Prop) (h : H) (k : Go.IntKind) (a : Int) (k' : Go.IntKind) (b : Int), intB K h k a k' b Go.BinOp.xor = (k = k' ∧ K (V.s (Go.Value.int k (bitXor k a b))) h))) ∧
 ((∀ (K : V → H → Prop) (h : H) (k : Go.IntKind) (a : Int) (k' : Go.IntKind) (b : Int), intB K h k a k' b Go.BinOp.andNot = (k = k' ∧ K (V.s (Go.Value.int k (bitAndNot k a b))) h)) ∧
 (∀ (K : V → H → Prop) (h : H) (k : Go.IntKind) (a : Int) (k' : Go.IntKind) (b : Int), intB K h k a k' b Go.BinOp.shl = ((0 ≤ b ∧ b ≤ ↑k.bits) ∧ K (V.s (Go.Value.int k (k.wrap (a * 2 ^ b.toNat)))) h)))) ∧
 (((∀ (K : V → H → Prop) (h : H) (a b : ByteArray), strB K h a b Go.BinOp.add = (a.size + b.size ≤ LIM ∧ K (V.s (Go.Value.string (a ++ b))) h)) ∧
 (∀ (K : V → H → Prop) (h : H) (a b : ByteArray), strB K h a b Go.BinOp.eql = K (V.s (Go.Value.bool (decide (a = b)))) h)) ∧
 ((∀ (K : V → H → Prop) (h : H) (a b : ByteArray), strB K h a b Go.BinOp.neq = K (V.s (Go.Value.bool !decide (a = b))) h) ∧
 (∀ (K : V → H → Prop) (h : H) (a b : ByteArray), strB K h a b Go.BinOp.lss = K (V.s (Go.Value.bool (Go.Op.bytesLess a.toList b.toList))) h))))) ∧
 ((((∀ (K : V → H → Prop) (h : H) (a b : ByteArray), strB K h a b Go.BinOp.leq = K (V.s (Go.Value.bool (Go.Op.bytesLess a.toList b.toList || decide (a = b)))) h) ∧
 ((∀ (K : V → H → Prop) (h : H) (a b : ByteArray), strB K h a b Go.BinOp.gtr = K (V.s (Go.Value.bool !(Go.Op.bytesLess a.toList b.toList || decide (a = b)))) h) ∧
 (∀ (K : V → H → Prop) (h : H) (a b : ByteArray), strB K h a b Go.BinOp.geq = K (V.s (Go.Value.bool !Go.Op.bytesLess a.toList b.toList)) h))) ∧
 (((∀ (K : V → H → Prop) (h : H) (a b : Bool), boolB K h a b Go.BinOp.eql = K (V.s (Go.Value.bool (a == b))) h) ∧
 (∀ (K : V → H → Prop) (h : H) (a b : Bool), boolB K h a b Go.BinOp.neq = K (V.s (Go.Value.bool (a != b))) h)) ∧
 ((∀ (K : V → H → Prop) (h : H) (len : Nat), nilB K h len Go.BinOp.eql = ∀ (r : Bool), (0 < len → r = false) → K (V.s (Go.Value.bool r)) h) ∧
 (∀ (K : V → H → Prop) (h : H) (len : Nat), nilB K h len Go.BinOp.neq = ∀ (r : Bool), (0 < len → r = true) → K (V.s (Go.Value.bool r)) h)))) ∧
 ((((isT TK.bool TK.bool = True) ∧
 (∀ (e e_1 : Go.TypeId), isT (TK.slice e) (TK.slice e_1) = True)) ∧
 ((isT TK.ptr TK.ptr = True) ∧
 (isT TK.iface TK.iface = True))) ∧
 (((isT TK.string TK.string = True) ∧
 (∀ (K : V → H → Prop) (h : H) (r : Bool), eqB K h r Go.BinOp.eql = K (V.s (Go.Value.bool r)) h)) ∧
 ((∀ (K : V → H → Prop) (h : H) (r : Bool), eqB K h r Go.BinOp.neq = K (V.s (Go.Value.bool !r)) h) ∧
 (∀ (len cap : Nat), isNil (Go.Operand.const (Go.Value.slice none len cap)) = NK.slice))))))) :=
 ⟨⟨⟨⟨⟨@ldO.eq_1,
 ⟨@ldO.eq_2,
 @ldO.eq_3⟩⟩,
 ⟨⟨@ldB1.eq_1,
 @ldB1.eq_2⟩,
 ⟨@ldB.eq_1,
 @ldB.eq_2⟩⟩⟩,
 ⟨⟨⟨@ldT.eq_1,
 @ldT.eq_2⟩,
 ⟨@ldC.eq_1,
 @ldC.eq_2⟩⟩,
 ⟨⟨@ldF.eq_1,
 @ldF.eq_2⟩,
 ⟨@ldK.eq_1,
 @ldK.eq_2⟩⟩⟩⟩,
 ⟨⟨⟨@fitsB.eq_1,
 ⟨@fitsB.eq_2,
 @stA.eq_1⟩⟩,
 ⟨⟨@stA.eq_2,
 @stK.eq_1⟩,
 ⟨@nilK.eq_1,
 @nilK.eq_2⟩⟩⟩,
 ⟨⟨⟨@nilK.eq_3,
 @nilK.eq_4⟩,
 ⟨@intB.eq_1,
 @intB.eq_2⟩⟩,
 ⟨⟨@intB.eq_3,
 @intB.eq_4⟩,
 ⟨@intB.eq_5,
 @intB.eq_6⟩⟩⟩⟩⟩,
 ⟨⟨⟨⟨@intB.eq_7,
 ⟨@intB.eq_8,
 @intB.eq_9⟩⟩,
 ⟨⟨@intB.eq_10,
 @intB.eq_11⟩,
 ⟨@intB.eq_12,
 @intB.eq_13⟩⟩⟩,
 ⟨⟨⟨@intB.eq_14,
 @intB.eq_15⟩,
 ⟨@intB.eq_16,
 @intB.eq_17⟩⟩,
 ⟨⟨@strB.eq_1,
 @strB.eq_2⟩,
 ⟨@strB.eq_3,
 @strB.eq_4⟩⟩⟩⟩,
 ⟨⟨⟨@strB.eq_5,
 ⟨@strB.eq_6,
 @strB.eq_7⟩⟩,
 ⟨⟨@boolB.eq_1,
 @boolB.eq_2⟩,
 ⟨@nilB.eq_1,
 @nilB.eq_2⟩⟩⟩,
 ⟨⟨⟨@isT.eq_1,
 @isT.eq_2⟩,
 ⟨@isT.eq_3,
 @isT.eq_4⟩⟩,
 ⟨⟨@isT.eq_5,
 @eqB.eq_1⟩,
 ⟨@eqB.eq_2,
 @isNil.eq_1⟩⟩⟩⟩⟩⟩
theorem wb3 :
 ((((((isNil (Go.Operand.const Go.Value.nilIface) = NK.iface) ∧
 ((∀ (C : Cx) (K : V → H → Prop) (h : H) (t : Go.TypeId) (op : Go.BinOp) (b off len cap : Nat), nilC C K h t op (V.sl b off len cap) = (isT (tK C.P t) (TK.slice 0) ∧ nilB K h len op)) ∧
 (∀ (C : Cx) (K : V → H → Prop) (h : H) (t : Go.TypeId) (op : Go.BinOp) (n : Nat) (els : List (List V)), nilC C K h t op (V.f n els) = (isT (tK C.P t) (TK.slice 0) ∧ nilB K h els.length op)))) ∧
 (((∀ (C : Cx) (K : V → H → Prop) (h : H) (t : Go.TypeId) (op : Go.BinOp), nilC C K h t op V.z = (isT (tK C.P t) (TK.slice 0) ∧ nilB K h 0 op)) ∧
 (∀ (C : Cx) (K : V → H → Prop) (h : H) (t : Go.TypeId) (op : Go.BinOp), nilI C K h t op (V.s Go.Value.nilIface) = (isT (tK C.P t) TK.iface ∧ eqB K h true op))) ∧
 ((∀ (C : Cx) (K : V → H → Prop) (h : H) (t : Go.TypeId) (op : Go.BinOp) (t_1 : Go.TypeId) (v : Go.Value), nilI C K h t op (V.s (Go.Value.iface t_1 v)) = (isT (tK C.P t) TK.iface ∧ eqB K h false op)) ∧
 (eqCells [] [] = some true)))) ∧
 ((((∀ (K : V → H → Prop) (h : H) (op : Go.BinOp) (r : Bool), eqA K h op (some r) = eqB K h r op) ∧
 (∀ (K : V → H → Prop) (h : H) (op : Go.BinOp), eqA K h op none = False)) ∧
 ((∀ (k : Go.IntKind), scalarK (TK.int k) = true) ∧
 (scalarK TK.string = true))) ∧
 (((scalarK TK.bool = true) ∧
 (kindsOk [] [] = true)) ∧
 ((∀ (k : Go.IntKind) (ts : List TK) (k' : Go.IntKind) (n : Int) (xs : List V), kindsOk (TK.int k :: ts) (V.s (Go.Value.int k' n) :: xs) = (decide (k = k') && kindsOk ts xs)) ∧
 (∀ (ts : List TK) (s : ByteArray) (xs : List V), kindsOk (TK.string :: ts) (V.s (Go.Value.string s) :: xs) = kindsOk ts xs))))) ∧
 ((((∀ (ts : List TK) (b : Bool) (xs : List V), kindsOk (TK.bool :: ts) (V.s (Go.Value.bool b) :: xs) = kindsOk ts xs) ∧
 ((∀ (C : Cx) (K : V → H → Prop) (h : H) (t : Go.TypeId) (op : Go.BinOp) (k : Go.IntKind) (a : Int) (k' : Go.IntKind) (b : Int), binK C K h t op (V.s (Go.Value.int k a)) (V.s (Go.Value.int k' b)) = intB K h k a k' b op) ∧
 (∀ (C : Cx) (K : V → H → Prop) (h : H) (t : Go.TypeId) (op : Go.BinOp) (a b : ByteArray), binK C K h t op (V.s (Go.Value.string a)) (V.s (Go.Value.string b)) = strB K h a b op))) ∧
 (((∀ (C : Cx) (K : V → H → Prop) (h : H) (t : Go.TypeId) (op : Go.BinOp) (a b : Bool), binK C K h t op (V.s (Go.Value.bool a)) (V.s (Go.Value.bool b)) = (isT (tK C.P t) TK.bool ∧ boolB K h a b op)) ∧
 (∀ (C : Cx) (K : V → H → Prop) (h : H) (t : Go.TypeId) (op : Go.BinOp) (b i o : Nat), binK C K h t op (V.ptr b i o) (V.s (Go.Value.pointer none)) = (isT (tK C.P t) TK.ptr ∧ eqB K h false op))) ∧
 ((∀ (C : Cx) (K : V → H → Prop) (h : H) (t : Go.TypeId) (op : Go.BinOp) (cs : List V), binK C K h t op (V.pd cs) (V.s (Go.Value.pointer none)) = (isT (tK C.P t) TK.ptr ∧ eqB K h false op)) ∧
 (∀ (C : Cx) (K : V → H → Prop) (h : H) (t : Go.TypeId) (op : Go.BinOp), binK C K h t op (V.s (Go.Value.pointer none)) (V.s (Go.Value.pointer none)) = (isT (tK C.P t) TK.ptr ∧ eqB K h true op))))) ∧
 ((((∀ (C : Cx) (K : V → H → Prop) (h : H) (t : Go.TypeId) (op : Go.BinOp) (xs ys : List V), binK C K h t op (V.agg xs) (V.agg ys) = ((eqStruct C.P t = true ∧ kindsOk (fieldTK C.P t) xs = true ∧ kindsOk (fieldTK C.P t) ys = true) ∧ eqA K h op (eqCells xs ys))) ∧
 (∀ (C : Cx) (K : V → H → Prop) (h : H) (t : Go.TypeId) (op : Go.BinOp) (x y : V), binR C K h t op x y NK.no = binK C K h t op x y)) ∧
 ((∀ (C : Cx) (K : V → H → Prop) (h : H) (t : Go.TypeId) (op : Go.BinOp) (x y : V), binR C K h t op x y NK.slice = nilC C K h t op x) ∧
 (∀ (C : Cx) (K : V → H → Prop) (h : H) (t : Go.TypeId) (op : Go.BinOp) (x y : V), binR C K h t op x y NK.iface = nilI C K h t op x))) ∧
 (((∀ (K : V → H → Prop) (h : H) (b : Bool), unK K h Go.UnOp.not (V.s (Go.Value.bool b)) = K (V.s (Go.Value.bool !b)) h) ∧
 (∀ (K : V → H → Prop) (h : H) (k : Go.IntKind) (n : Int), unK K h Go.UnOp.neg (V.s (Go.Value.int k n)) = K (V.s (Go.Value.int k (k.wrap (0 - n)))) h)) ∧
 ((∀ (n : Int), byteOf [V.s (Go.Value.int Go.IntKind.u8 n)] = some (UInt8.ofNat n.toNat)) ∧
 (bytesOf [] = some [])))))) ∧
 (((((bytesIn [] = True) ∧
 ((∀ (n : Int) (r : List (List V)), bytesIn ([V.s (Go.Value.int Go.IntKind.u8 n)] :: r) = ((0 ≤ n ∧ n < 256) ∧ bytesIn r)) ∧
 (∀ (K : V → H → Prop) (h : H) (l : List UInt8), cvBytes K h (some l) = K (V.s (Go.Value.string { data := l.toArray })) h))) ∧
 (((∀ (K : V → H → Prop) (h : H), cvBytes K h none = False) ∧
 (∀ (off len : Nat) (els : List (List V)) (n cap : Nat), elsOf off len (some { els := els, n := n, cap := cap, live := true }) = if off + len ≤ els.length then some (List.take len (List.drop off els)) else none)) ∧
 ((∀ (K : V → H → Prop) (h : H) (els : List (List V)), cvBytes1 K h (some els) = (bytesIn els ∧ cvBytes K h (bytesOf els))) ∧
 (∀ (K : V → H → Prop) (h : H), cvBytes1 K h none = False)))) ∧
 ((((∀ (K : V → H → Prop) (h : H) (e : TK) (n : Nat) (els : List (List V)), cvSl K h e (V.f n els) = ((e = TK.int Go.IntKind.u8 ∧ n = 1 ∧ bytesIn els) ∧ cvBytes K h (bytesOf els))) ∧
 (∀ (K : V → H → Prop) (h : H) (e : TK), cvSl K h e V.z = (e = TK.int Go.IntKind.u8 ∧ K (V.s (Go.Value.string ByteArray.empty)) h))) ∧
 ((∀ (K : V → H → Prop) (h : H) (e : TK) (b off len cap : Nat), cvSl K h e (V.sl b off len cap) = ((e = TK.int Go.IntKind.u8 ∧ strideB h[b]? = some 1) ∧ cvBytes1 K h (elsOf off len h[b]?))) ∧
 (∀ (C : Cx) (K : V → H → Prop) (h : H) (k k_1 k_2 : Go.IntKind) (n : Int), cvK C K h (TK.int k) (TK.int k_1) (V.s (Go.Value.int k_2 n)) = K (V.s (Go.Value.int k_1 (k_1.wrap n))) h))) ∧
 (((∀ (C : Cx) (K : V → H → Prop) (h : H) (s : ByteArray), cvK C K h TK.string TK.string (V.s (Go.Value.string s)) = K (V.s (Go.Value.string s)) h) ∧
 (∀ (C : Cx) (K : V → H → Prop) (h : H) (x : V) (e : Go.TypeId), cvK C K h (TK.slice e) TK.string x = cvSl K h (tK C.P e) x)) ∧
 ((∀ (K : V → H → Prop) (h : H) (l c : Int) (n : Nat) (z : List V) (by_ : Nat), mkK2 K h l c (some n) (some z) (some by_) = ((0 ≤ l ∧ l ≤ c ∧ ↑by_ * c ≤ 140737488355328 ∧ c ≤ 4611686018427387904 ∧ z.length = n) ∧ K (V.sl (List.length h) 0 l.toNat c.toNat) (h ++ [{ els := List.replicate c.toNat z, n := n, cap := c.toNat, live := true }]))) ∧
 (∀ (C : Cx) (K : V → H → Prop) (h : H) (k : Go.IntKind) (l : Int) (k_1 : Go.IntKind) (c : Int) (e_1 : Go.TypeId), mkK C K h (some e_1) (V.s (Go.Value.int k l)) (V.s (Go.Value.int k_1 c)) = mkK2 K h l c (tSz C.P e_1) (tZ C.P e_1) (tBytes C.P e_1)))))) ∧
 ((((∀ (C : Cx) (K : V → H → Prop) (h : H) (k : Go.IntKind) (l : Int) (k_1 : Go.IntKind) (c : Int), mkK C K h none (V.s (Go.Value.int k l)) (V.s (Go.Value.int k_1 c)) = False) ∧
 ((∀ (k : Go.IntKind) (n : Int), intOfV (V.s (Go.Value.int k n)) = some n) ∧
 (∀ (v : V), oI (some v) = intOfV v))) ∧
 (((oI none = none) ∧
 (∀ (K : V → H → Prop) (h : H) (val : Nat), cutE K h (some val) = K (V.f val []) h)) ∧
 ((∀ (K : V → H → Prop) (h : H), cutE K h none = False) ∧
 (∀ (K : V → H → Prop) (h : H) (b off cap : Nat) (n : Option Nat) (l r : Nat), cutO K h b off cap n l r true = K (V.sl b (off + l) (r - l) (cap - l)) h)))) ∧
 ((((∀ (K : V → H → Prop) (h : H) (b off cap : Nat) (n : Option Nat) (l r : Nat), cutO K h b off cap n l r false = cutE K h n) ∧
 (∀ (C : Cx) (K : V → H → Prop) (h : H) (s : ByteArray), slK C K h TK.string none none none (V.s (Go.Value.string s)) = K (V.s (Go.Value.string s)) h)) ∧
 ((∀ (C : Cx) (K : V → H → Prop) (h : H) (s : ByteArray) (k : Go.IntKind) (l : Int), slK C K h TK.string (some (V.s (Go.Value.int k l))) none none (V.s (Go.Value.string s)) = cutS K h s l ↑s.size) ∧
 (∀ (C : Cx) (K : V → H → Prop) (h : H) (s : ByteArray) (k : Go.IntKind) (r : Int), slK C K h TK.string none (some (V.s (Go.Value.int k r))) none (V.s (Go.Value.string s)) = cutS K h s 0 r))) ∧
 (((∀ (C : Cx) (K : V → H → Prop) (h : H) (s : ByteArray) (k : Go.IntKind) (l : Int) (k_1 : Go.IntKind) (r : Int), slK C K h TK.string (some (V.s (Go.Value.int k l))) (some (V.s (Go.Value.int k_1 r))) none (V.s (Go.Value.string s)) = cutS K h s l r) ∧
 (∀ (C : Cx) (K : V → H → Prop) (h : H) (n : Nat) (els : List (List V)) (e : Go.TypeId), slK C K h (TK.slice e) none none none (V.f n els) = (tSz C.P e = some n ∧ K (V.f n els) h))) ∧
 ((∀ (C : Cx) (K : V → H → Prop) (h : H) (n : Nat) (els : List (List V)) (e : Go.TypeId) (k : Go.IntKind) (l : Int), slK C K h (TK.slice e) (some (V.s (Go.Value.int k l))) none none (V.f n els) = (tSz C.P e = some n ∧ cutF K h n els l ↑els.length)) ∧
 (∀ (C : Cx) (K : V → H → Prop) (h : H) (n : Nat) (els : List (List V)) (e : Go.TypeId) (k : Go.IntKind) (r : Int), slK C K h (TK.slice e) none (some (V.s (Go.Value.int k r))) none (V.f n els) = (tSz C.P e = some n ∧ cutF K h n els 0 r)))))))) :=
 ⟨⟨⟨⟨⟨@isNil.eq_2,
 ⟨@nilC.eq_1,
 @nilC.eq_2⟩⟩,
 ⟨⟨@nilC.eq_3,
 @nilI.eq_1⟩,
 ⟨@nilI.eq_2,
 @eqCells.eq_1⟩⟩⟩,
 ⟨⟨⟨@eqA.eq_1,
 @eqA.eq_2⟩,
 ⟨@scalarK.eq_1,
 @scalarK.eq_2⟩⟩,
 ⟨⟨@scalarK.eq_3,
 @kindsOk.eq_1⟩,
 ⟨@kindsOk.eq_2,
 @kindsOk.eq_3⟩⟩⟩⟩,
 ⟨⟨⟨@kindsOk.eq_4,
 ⟨@binK.eq_1,
 @binK.eq_2⟩⟩,
 ⟨⟨@binK.eq_3,
 @binK.eq_4⟩,
 ⟨@binK.eq_5,
 @binK.eq_6⟩⟩⟩,
 ⟨⟨⟨@binK.eq_7,
 @binR.eq_1⟩,
 ⟨@binR.eq_2,
 @binR.eq_3⟩⟩,
 ⟨⟨@unK.eq_1,
 @unK.eq_2⟩,
 ⟨@byteOf.eq_1,
 @bytesOf.eq_1⟩⟩⟩⟩⟩,
 ⟨⟨⟨⟨@bytesIn.eq_1,
 ⟨@bytesIn.eq_2,
 @cvBytes.eq_1⟩⟩,
 ⟨⟨@cvBytes.eq_2,
 @elsOf.eq_1⟩,
 ⟨@cvBytes1.eq_1,
 @cvBytes1.eq_2⟩⟩⟩,
 ⟨⟨⟨@cvSl.eq_1,
 @cvSl.eq_2⟩,
 ⟨@cvSl.eq_3,
 @cvK.eq_1⟩⟩,
 ⟨⟨@cvK.eq_2,
 @cvK.eq_3⟩,
 ⟨@mkK2.eq_1,
 @mkK.eq_1⟩⟩⟩⟩,
 ⟨⟨⟨@mkK.eq_2,
 ⟨@intOfV.eq_1,
 @oI.eq_1⟩⟩,
 ⟨⟨@oI.eq_2,
 @cutE.eq_1⟩,
 ⟨@cutE.eq_2,
 @cutO.eq_1⟩⟩⟩,
 ⟨⟨⟨@cutO.eq_2,
 @slK.eq_1⟩,
 ⟨@slK.eq_2,
 @slK.eq_3⟩⟩,
 ⟨⟨@slK.eq_4,
 @slK.eq_6⟩,
 ⟨@slK.eq_7,
 @slK.eq_8⟩⟩⟩⟩⟩⟩
theorem wb4 :
 ((((((∀ (C : Cx) (K : V → H → Prop) (h : H) (n : Nat) (els : List (List V)) (e : Go.TypeId) (k : Go.IntKind) (l : Int) (k_1 : Go.IntKind) (r : Int), slK C K h (TK.slice e) (some (V.s (Go.Value.int k l))) (some (V.s (Go.Value.int k_1 r))) none (V.f n els) = (tSz C.P e = some n ∧ cutF K h n els l r)) ∧
 ((∀ (C : Cx) (K : V → H → Prop) (h : H) (n : Nat) (els : List (List V)) (e : Go.TypeId) (k : Go.IntKind) (r : Int) (k_1 : Go.IntKind) (m : Int), slK C K h (TK.slice e) none (some (V.s (Go.Value.int k r))) (some (V.s (Go.Value.int k_1 m))) (V.f n els) = ((tSz C.P e = some n ∧ r = 0 ∧ m = 0) ∧ K V.z h)) ∧
 (∀ (C : Cx) (K : V → H → Prop) (h : H) (e : Go.TypeId), slK C K h (TK.slice e) none none none V.z = (isN (tSz C.P e) ∧ K V.z h)))) ∧
 (((∀ (C : Cx) (K : V → H → Prop) (h : H) (e : Go.TypeId) (k : Go.IntKind) (l : Int), slK C K h (TK.slice e) (some (V.s (Go.Value.int k l))) none none V.z = ((isN (tSz C.P e) ∧ l = 0) ∧ K V.z h)) ∧
 (∀ (C : Cx) (K : V → H → Prop) (h : H) (e : Go.TypeId) (k : Go.IntKind) (r : Int), slK C K h (TK.slice e) none (some (V.s (Go.Value.int k r))) none V.z = ((isN (tSz C.P e) ∧ r = 0) ∧ K V.z h))) ∧
 ((∀ (C : Cx) (K : V → H → Prop) (h : H) (e : Go.TypeId) (k : Go.IntKind) (l : Int) (k_1 : Go.IntKind) (r : Int), slK C K h (TK.slice e) (some (V.s (Go.Value.int k l))) (some (V.s (Go.Value.int k_1 r))) none V.z = ((isN (tSz C.P e) ∧ l = 0 ∧ r = 0) ∧ K V.z h)) ∧
 (∀ (C : Cx) (K : V → H → Prop) (h : H) (e : Go.TypeId) (k : Go.IntKind) (r : Int) (k_1 : Go.IntKind) (m : Int), slK C K h (TK.slice e) none (some (V.s (Go.Value.int k r))) (some (V.s (Go.Value.int k_1 m))) V.z = ((isN (tSz C.P e) ∧ r = 0 ∧ m = 0) ∧ K V.z h))))) ∧
 ((((∀ (C : Cx) (K : V → H → Prop) (h : H) (b off len cap : Nat) (e : Go.TypeId), slK C K h (TK.slice e) none none none (V.sl b off len cap) = (sameN (strideB h[b]?) (tSz C.P e) ∧ K (V.sl b off len cap) h)) ∧
 (∀ (C : Cx) (K : V → H → Prop) (h : H) (b off len cap : Nat) (e : Go.TypeId) (k : Go.IntKind) (l : Int), slK C K h (TK.slice e) (some (V.s (Go.Value.int k l))) none none (V.sl b off len cap) = ((sameN (strideB h[b]?) (tSz C.P e) ∧ 0 ≤ l ∧ l ≤ ↑len ∧ len ≤ cap) ∧ cutO K h b off cap (tSz C.P e) l.toNat len (decide (l < ↑len))))) ∧
 ((∀ (C : Cx) (K : V → H → Prop) (h : H) (b off len cap : Nat) (e : Go.TypeId) (k : Go.IntKind) (r : Int), slK C K h (TK.slice e) none (some (V.s (Go.Value.int k r))) none (V.sl b off len cap) = (sameN (strideB h[b]?) (tSz C.P e) ∧ (0 ≤ r ∧ r ≤ ↑cap) ∧ K (V.sl b off r.toNat cap) h)) ∧
 (∀ (C : Cx) (K : V → H → Prop) (h : H) (b off len cap : Nat) (e : Go.TypeId) (k : Go.IntKind) (l : Int) (k_1 : Go.IntKind) (r : Int), slK C K h (TK.slice e) (some (V.s (Go.Value.int k l))) (some (V.s (Go.Value.int k_1 r))) none (V.sl b off len cap) = ((sameN (strideB h[b]?) (tSz C.P e) ∧ 0 ≤ l ∧ l ≤ r ∧ r ≤ ↑cap) ∧ cutO K h b off cap (tSz C.P e) l.toNat r.toNat (decide (l < r)))))) ∧
 (((∀ (C : Cx) (K : V → H → Prop) (h : H) (b off len cap : Nat) (e : Go.TypeId) (k : Go.IntKind) (r : Int) (k_1 : Go.IntKind) (m : Int), slK C K h (TK.slice e) none (some (V.s (Go.Value.int k r))) (some (V.s (Go.Value.int k_1 m))) (V.sl b off len cap) = ((sameN (strideB h[b]?) (tSz C.P e) ∧ r = 0 ∧ m = 0) ∧ K V.z h)) ∧
 (∀ (C : Cx) (K : V → H → Prop) (h : H) (b off len cap : Nat) (e : Go.TypeId) (k : Go.IntKind) (l : Int) (k_1 : Go.IntKind) (r : Int) (k_2 : Go.IntKind) (m : Int), slK C K h (TK.slice e) (some (V.s (Go.Value.int k l))) (some (V.s (Go.Value.int k_1 r))) (some (V.s (Go.Value.int k_2 m))) (V.sl b off len cap) = ((sameN (strideB h[b]?) (tSz C.P e) ∧ 0 ≤ l ∧ l ≤ r ∧ r ≤ m ∧ m ≤ ↑cap) ∧ K V.any h))) ∧
 ((∀ (C : Cx) (K : V → H → Prop) (h : H) (cs : List V) (n : Nat) (e : Go.TypeId), slK C K h (TK.arr n e) none none none (V.pd cs) = ((tSz C.P e = some 1 ∧ cs.length = n ∧ n ≤ LIM) ∧ K (V.f 1 (List.map (fun c => [c]) cs)) h)) ∧
 (∀ (K : V → H → Prop) (h : H) (cs : List V) (fo n : Nat), fdA K h cs fo (some true) (some n) = (fo + n ≤ cs.length ∧ K (V.agg (List.take n (List.drop fo cs))) h)))))) ∧
 ((((∀ (K : V → H → Prop) (h : H) (cs : List V) (fo : Nat) (x : Option Nat), fdA K h cs fo (some false) x = ldC K h cs[fo]?) ∧
 ((∀ (C : Cx) (K : V → H → Prop) (h : H) (fo : Nat) (ft : Go.TypeId) (cs : List V), fdK C K h (some (fo, ft)) (V.agg cs) = fdA K h cs fo (tAgg C.P ft) (tSz C.P ft)) ∧
 (∀ (K : V → H → Prop) (h : H) (xs : List V), iaF K h (some xs) = K (V.pd xs) h))) ∧
 (((∀ (K : V → H → Prop) (h : H), iaF K h none = False) ∧
 (∀ (K : V → H → Prop) (h : H) (i : Int) (n s : Nat) (cs : List V), iaA2 K h i n (some s) (V.pd cs) = ((0 ≤ i ∧ i < ↑n) ∧ K (V.pd (List.drop (i.toNat * s) cs)) h))) ∧
 ((∀ (K : V → H → Prop) (h : H) (i : Int) (n s b j o : Nat), iaA2 K h i n (some s) (V.ptr b j o) = ((0 ≤ i ∧ i < ↑n) ∧ K (V.ptr b j (o + i.toNat * s)) h)) ∧
 (∀ (C : Cx) (K : V → H → Prop) (h : H) (i : Int) (x : V) (off : Nat) (ft : Go.TypeId), iaA C K h i x (some (off, ft)) = iaA2 K h i off (tSz C.P ft) x)))) ∧
 ((((∀ (C : Cx) (K : V → H → Prop) (h : H) (i : Int) (x : V), iaA C K h i x none = False) ∧
 (∀ (C : Cx) (K : V → H → Prop) (h : H) (ar : Option (Nat × Go.TypeId)) (i : Int) (b off len cap : Nat) (e_1 : Go.TypeId), iaK C K h ar (some e_1) i (V.sl b off len cap) = ((sameN (strideB h[b]?) (tSz C.P e_1) ∧ 0 ≤ i ∧ i < ↑len) ∧ K (V.ptr b (off + i.toNat) 0) h))) ∧
 ((∀ (C : Cx) (K : V → H → Prop) (h : H) (ar : Option (Nat × Go.TypeId)) (i : Int) (b off len cap : Nat), iaK C K h ar none i (V.sl b off len cap) = False) ∧
 (∀ (C : Cx) (K : V → H → Prop) (h : H) (ar : Option (Nat × Go.TypeId)) (i : Int) (n : Nat) (els : List (List V)) (e_1 : Go.TypeId), iaK C K h ar (some e_1) i (V.f n els) = ((tSz C.P e_1 = some n ∧ 0 ≤ i) ∧ iaF K h els[i.toNat]?)))) ∧
 (((∀ (C : Cx) (K : V → H → Prop) (h : H) (ar : Option (Nat × Go.TypeId)) (i : Int) (n : Nat) (els : List (List V)), iaK C K h ar none i (V.f n els) = False) ∧
 (∀ (C : Cx) (K : V → H → Prop) (h : H) (ar : Option (Nat × Go.TypeId)) (e : Option Go.TypeId) (i : Int) (cs : List V), iaK C K h ar e i (V.pd cs) = iaA C K h i (V.pd cs) ar)) ∧
 ((∀ (C : Cx) (K : V → H → Prop) (h : H) (ar : Option (Nat × Go.TypeId)) (e : Option Go.TypeId) (i : Int) (b j o : Nat), iaK C K h ar e i (V.ptr b j o) = iaA C K h i (V.ptr b j o) ar) ∧
 (∀ (C : Cx) (K : V → H → Prop) (h : H) (ar : Option (Nat × Go.TypeId)) (e : Option Go.TypeId) (x : V) (k : Go.IntKind) (n : Int), iaI C K h ar e x (V.s (Go.Value.int k n)) = iaK C K h ar e n x)))))) ∧
 (((((∀ (K : V → H → Prop) (h : H) (x : V), taO K h x true = K (V.tup [x, V.s (Go.Value.bool true)]) h) ∧
 ((∀ (K : V → H → Prop) (h : H) (x : V), taO K h x false = False) ∧
 (∀ (C : Cx) (K : V → H → Prop) (h : H) (asserted : Go.TypeId) (ok : Bool) (t : Go.TypeId) (v : Go.Value), taK C K h asserted ok (V.s (Go.Value.iface t v)) = ((C.P.concrete asserted = true ∧ t = asserted ∧ constOk v = true) ∧ taO K h (ofV v) ok)))) ∧
 (((∀ (K : V → H → Prop) (h : H) (i : Int) (c : UInt8), ixC K h i (some c) = (0 ≤ i ∧ K (V.s (Go.Value.int Go.IntKind.u8 ↑c.toNat)) h)) ∧
 (∀ (K : V → H → Prop) (h : H) (i : Int), ixC K h i none = False)) ∧
 ((∀ (K : V → H → Prop) (h : H) (t : TK) (s : ByteArray) (k : Go.IntKind) (i : Int), ixK K h t (V.s (Go.Value.string s)) (V.s (Go.Value.int k i)) = (isT t TK.string ∧ ixC K h i s[i.toNat]?)) ∧
 (∀ (K : V → H → Prop) (h : H) (i : Nat) (vs : List V), exK K h i (V.tup vs) = ldC K h vs[i]?)))) ∧
 ((((scal [] = some []) ∧
 (∀ (K : V → H → Prop) (h : H) (t : Go.TypeId) (l : List Go.Value), miA K h t (some l) = K (V.s (Go.Value.iface t (Go.Value.agg l.toArray))) h)) ∧
 ((∀ (K : V → H → Prop) (h : H) (t : Go.TypeId), miA K h t none = False) ∧
 (∀ (C : Cx) (K : V → H → Prop) (h : H) (t : Go.TypeId) (v : Go.Value), miK C K h t (V.s v) = (C.P.concrete t = true ∧ K (V.s (Go.Value.iface t v)) h)))) ∧
 (((∀ (C : Cx) (K : V → H → Prop) (h : H) (t : Go.TypeId) (cs : List V), miK C K h t (V.agg cs) = (C.P.concrete t = true ∧ miA K h t (scal cs))) ∧
 (∀ (b i o : Nat), capOk (V.ptr b i o) = true)) ∧
 ((∀ (cs : List V), capOk (V.pd cs) = true) ∧
 (∀ (K : V → H → Prop) (h : H) (caps : List V) (f : Go.FuncId), mfK K h (Go.Fn.func f) [] caps = (caps.all capOk = true ∧ K (V.fn f caps) h)))))) ∧
 ((((∀ (C : Cx) (τ : Tau) (h : H) (K : V → H → Prop) (x : Go.Operand), opW C τ h (Go.Op.move x) K = K (ev C τ x) h) ∧
 ((∀ (C : Cx) (τ : Tau) (h : H) (K : V → H → Prop) (x : Go.Operand), opW C τ h (Go.Op.assign x) K = K (ev C τ x) h) ∧
 (∀ (C : Cx) (τ : Tau) (h : H) (K : V → H → Prop) (c a b : Go.Operand), opW C τ h (Go.Op.pick c a b) K = pickK K h (ev C τ a) (ev C τ b) (ev C τ c)))) ∧
 (((∀ (C : Cx) (τ : Tau) (h : H) (K : V → H → Prop) (e : Go.TypeId), opW C τ h (Go.Op.alloc e) K = allocK K h (tZ C.P e)) ∧
 (∀ (C : Cx) (τ : Tau) (h : H) (K : V → H → Prop) (elem : Go.TypeId) (x : Go.Operand), opW C τ h (Go.Op.box elem x) K = boxK K h (cellsOf (ev C τ x)))) ∧
 ((∀ (C : Cx) (τ : Tau) (h : H) (K : V → H → Prop) (t : Go.TypeId) (parts : Array (Nat × Go.Operand)), opW C τ h (Go.Op.build t parts) K = buildK K h (fldPlace C.P t) (partsV C τ parts.toList) (bldOk C.P t) (tZ C.P t)) ∧
 (∀ (C : Cx) (τ : Tau) (h : H) (K : V → H → Prop) (t : Go.TypeId) (len : Nat) (parts : Array (Nat × Go.Operand)), opW C τ h (Go.Op.buildSlice t len parts) K = bsK C K h len (partsV C τ parts.toList) (tElem C.P t))))) ∧
 ((((∀ (C : Cx) (τ : Tau) (h : H) (K : V → H → Prop) (t : Go.TypeId) (a : Go.Operand), opW C τ h (Go.Op.load t a) K = ldK C K h t (ev C τ a)) ∧
 (∀ (C : Cx) (τ : Tau) (h : H) (K : V → H → Prop) (t : Go.TypeId) (a x : Go.Operand), opW C τ h (Go.Op.store t a x) K = stK C K h t (ev C τ x) (ev C τ a))) ∧
 ((∀ (C : Cx) (τ : Tau) (h : H) (K : V → H → Prop) (x : Go.Operand), opW C τ h (Go.Op.nilCheck x) K = nilK K h (ev C τ x)) ∧
 (∀ (C : Cx) (τ : Tau) (h : H) (K : V → H → Prop) (op : Go.BinOp) (t : Go.TypeId) (x y : Go.Operand) (yType : Go.TypeId), opW C τ h (Go.Op.binOp op t x y yType) K = binR C K h t op (ev C τ x) (ev C τ y) (isNil y)))) ∧
 (((∀ (C : Cx) (τ : Tau) (h : H) (K : V → H → Prop) (op : Go.UnOp) (xType : Go.TypeId) (x : Go.Operand), opW C τ h (Go.Op.unOp op xType x) K = unK K h op (ev C τ x)) ∧
 (∀ (C : Cx) (τ : Tau) (h : H) (K : V → H → Prop) (src dst : Go.TypeId) (x : Go.Operand), opW C τ h (Go.Op.convert src dst x) K = cvK C K h (tK C.P src) (tK C.P dst) (ev C τ x))) ∧
 ((∀ (C : Cx) (τ : Tau) (h : H) (K : V → H → Prop) (t : Go.TypeId) (l c : Go.Operand), opW C τ h (Go.Op.makeSlice t l c) K = mkK C K h (tElem C.P t) (ev C τ l) (ev C τ c)) ∧
 (∀ (C : Cx) (τ : Tau) (h : H) (K : V → H → Prop) (t : Go.TypeId) (x : Go.Operand) (lo hi mx : Option Go.Operand), opW C τ h (Go.Op.slice t x lo hi mx) K = slK C K h (tK C.P t) (Option.map (ev C τ) lo) (Option.map (ev C τ) hi) (Option.map (ev C τ) mx) (ev C τ x)))))))) :=
 ⟨⟨⟨⟨⟨@slK.eq_9,
 ⟨@slK.eq_10,
 @slK.eq_12⟩⟩,
 ⟨⟨@slK.eq_13,
 @slK.eq_14⟩,
 ⟨@slK.eq_15,
 @slK.eq_16⟩⟩⟩,
 ⟨⟨⟨@slK.eq_18,
 @slK.eq_19⟩,
 ⟨@slK.eq_20,
 @slK.eq_21⟩⟩,
 ⟨⟨@slK.eq_22,
 @slK.eq_23⟩,
 ⟨@slK.eq_25,
 @fdA.eq_1⟩⟩⟩⟩,
 ⟨⟨⟨@fdA.eq_2,
 ⟨@fdK.eq_1,
 @iaF.eq_1⟩⟩,
 ⟨⟨@iaF.eq_2,
 @iaA2.eq_1⟩,
 ⟨@iaA2.eq_2,
 @iaA.eq_1⟩⟩⟩,
 ⟨⟨⟨@iaA.eq_2,
 @iaK.eq_1⟩,
 ⟨@iaK.eq_2,
 @iaK.eq_3⟩⟩,
 ⟨⟨@iaK.eq_4,
 @iaK.eq_5⟩,
 ⟨@iaK.eq_6,
 @iaI.eq_1⟩⟩⟩⟩⟩,
 ⟨⟨⟨⟨@taO.eq_1,
 ⟨@taO.eq_2,
 @taK.eq_1⟩⟩,
 ⟨⟨@ixC.eq_1,
 @ixC.eq_2⟩,
 ⟨@ixK.eq_1,
 @exK.eq_1⟩⟩⟩,
 ⟨⟨⟨@scal.eq_1,
 @miA.eq_1⟩,
 ⟨@miA.eq_2,
 @miK.eq_1⟩⟩,
 ⟨⟨@miK.eq_2,
 @capOk.eq_1⟩,
 ⟨@capOk.eq_2,
 @mfK.eq_1⟩⟩⟩⟩,
 ⟨⟨⟨@opW.eq_1,
 ⟨@opW.eq_2,
 @opW.eq_3⟩⟩,
 ⟨⟨@opW.eq_4,
 @opW.eq_5⟩,
 ⟨@opW.eq_6,
 @opW.eq_7⟩⟩⟩,
 ⟨⟨⟨@opW.eq_8,
 @opW.eq_9⟩,
 ⟨@opW.eq_10,
 @opW.eq_11⟩⟩,
 ⟨⟨@opW.eq_12,
 @opW.eq_13⟩,
 ⟨@opW.eq_14,
 @opW.eq_15⟩⟩⟩⟩⟩⟩
theorem wb5 :
 ((((((∀ (C : Cx) (τ : Tau) (h : H) (K : V → H → Prop) (s : Go.TypeId) (x : Go.Operand) (f : Nat), opW C τ h (Go.Op.fieldAddr s x f) K = faK C K h (tFld C.P s f) (ev C τ x)) ∧
 ((∀ (C : Cx) (τ : Tau) (h : H) (K : V → H → Prop) (s : Go.TypeId) (x : Go.Operand) (f : Nat), opW C τ h (Go.Op.field s x f) K = fdK C K h (tFld C.P s f) (ev C τ x)) ∧
 (∀ (C : Cx) (τ : Tau) (h : H) (K : V → H → Prop) (t : Go.TypeId) (x i : Go.Operand), opW C τ h (Go.Op.indexAddr t x i) K = iaI C K h (tArr C.P t) (tElem C.P t) (ev C τ x) (ev C τ i)))) ∧
 (((∀ (C : Cx) (τ : Tau) (h : H) (K : V → H → Prop) (t : Go.TypeId) (x i : Go.Operand), opW C τ h (Go.Op.index t x i) K = ixK K h (tK C.P t) (ev C τ x) (ev C τ i)) ∧
 (∀ (C : Cx) (τ : Tau) (h : H) (K : V → H → Prop) (x : Go.Operand) (i : Nat), opW C τ h (Go.Op.extract x i) K = exK K h i (ev C τ x))) ∧
 ((∀ (C : Cx) (τ : Tau) (h : H) (K : V → H → Prop) (t : Go.TypeId) (x : Go.Operand), opW C τ h (Go.Op.makeInterface t x) K = miK C K h t (ev C τ x)) ∧
 (∀ (C : Cx) (τ : Tau) (h : H) (K : V → H → Prop) (x : Go.Operand) (xType t : Go.TypeId) (ok : Bool), opW C τ h (Go.Op.typeAssert x xType t ok) K = taK C K h t ok (ev C τ x))))) ∧
 ((((∀ (C : Cx) (τ : Tau) (h : H) (K : V → H → Prop) (fn : Go.Fn) (first caps : Array Go.Operand), opW C τ h (Go.Op.makeFunc fn first caps) K = mfK K h fn first.toList (evs C τ caps.toList)) ∧
 (∀ (K : V → H → Prop) (h : H) (s : ByteArray), lenK K h TK.string (V.s (Go.Value.string s)) = (s.size ≤ LIM → K (V.s (Go.Value.int Go.IntKind.i64 ↑s.size)) h))) ∧
 ((∀ (K : V → H → Prop) (h : H) (e : Go.TypeId) (n : Nat) (els : List (List V)), lenK K h (TK.slice e) (V.f n els) = (els.length ≤ LIM → K (V.s (Go.Value.int Go.IntKind.i64 ↑els.length)) h)) ∧
 (∀ (K : V → H → Prop) (h : H) (e : Go.TypeId) (b off len cap : Nat), lenK K h (TK.slice e) (V.sl b off len cap) = K (V.s (Go.Value.int Go.IntKind.i64 ↑len)) h))) ∧
 (((∀ (K : V → H → Prop) (h : H) (e : Go.TypeId), lenK K h (TK.slice e) V.z = K (V.s (Go.Value.int Go.IntKind.i64 0)) h) ∧
 (∀ (K : V → H → Prop) (h : H) (e : Go.TypeId) (n : Nat) (els : List (List V)), capK K h (TK.slice e) (V.f n els) = ∀ (c : Nat), els.length ≤ c → K (V.s (Go.Value.int Go.IntKind.i64 ↑c)) h)) ∧
 ((∀ (K : V → H → Prop) (h : H) (e : Go.TypeId) (b off len cap : Nat), capK K h (TK.slice e) (V.sl b off len cap) = K (V.s (Go.Value.int Go.IntKind.i64 ↑cap)) h) ∧
 (∀ (K : V → H → Prop) (h : H) (e : Go.TypeId), capK K h (TK.slice e) V.z = K (V.s (Go.Value.int Go.IntKind.i64 0)) h))))) ∧
 ((((∀ (K : V → H → Prop) (h : H) (k : Go.IntKind) (a : Int) (k_1 : Go.IntKind) (b : Int), minK K h (V.s (Go.Value.int k a)) (V.s (Go.Value.int k_1 b)) = K (V.s (Go.Value.int k (if b < a then b else a))) h) ∧
 ((∀ (K : V → H → Prop) (h : H) (k : Go.IntKind) (a : Int) (k_1 : Go.IntKind) (b : Int), maxK K h (V.s (Go.Value.int k a)) (V.s (Go.Value.int k_1 b)) = K (V.s (Go.Value.int k (if a < b then b else a))) h) ∧
 (∀ (C : Cx) (K : V → H → Prop) (h : H) (x : V) (t : Go.TypeId), builtinW C K h Go.Builtin.len [x] [t] = lenK K h (tK C.P t) x))) ∧
 (((∀ (C : Cx) (K : V → H → Prop) (h : H) (x : V) (t : Go.TypeId), builtinW C K h Go.Builtin.cap [x] [t] = capK K h (tK C.P t) x) ∧
 (∀ (C : Cx) (K : V → H → Prop) (h : H) (ts : List Go.TypeId) (x y : V), builtinW C K h Go.Builtin.min [x, y] ts = minK K h x y)) ∧
 ((∀ (C : Cx) (K : V → H → Prop) (h : H) (ts : List Go.TypeId) (x y : V), builtinW C K h Go.Builtin.max [x, y] ts = maxK K h x y) ∧
 (∀ (h : H) (n n' : Nat) (els : List (List V)), newsOf h n (V.f n' els) = if n' = n then some els else none)))) ∧
 ((((∀ (h : H) (n : Nat), newsOf h n V.z = some []) ∧
 (∀ (h : H) (n b off len cap : Nat), newsOf h n (V.sl b off len cap) = if strideB h[b]? = some n then elsOf off len h[b]? else none)) ∧
 ((∀ (n cap len : Nat) (els : List (List V)) (n' cap' : Nat), blkIs n cap len (some { els := els, n := n', cap := cap', live := true }) = (n' = n ∧ cap' = cap ∧ len ≤ els.length)) ∧
 (∀ (len : Nat) (els : List (List V)), takeTo len els = if len = els.length then els else List.take len els))) ∧
 (((∀ (len : Nat) (els : List (List V)) (n cap : Nat) (live : Bool), keptB len (some { els := els, n := n, cap := cap, live := live }) = takeTo len els) ∧
 (∀ (len : Nat), keptB len none = [])) ∧
 ((∀ (K : V → H → Prop) (h : H) (n by_ : Nat) (news : List (List V)) (b len cap : Nat), appN K h n by_ (V.sl b 0 len cap) (some news) = (leafs news = true ∧ (blkIs n cap len h[b]? ∧ (len + news.length) * by_ ≤ 140737488355328 ∧ len + news.length ≤ LIM) ∧ ∀ (cap' : Nat), len + news.length ≤ cap' → (len + news.length ≤ cap → cap' = cap) → K (V.sl (List.length h) 0 (len + news.length) cap') (List.set h b Blk.dead ++ [{ els := keptB len h[b]? ++ news, n := n, cap := cap', live := true }]))) ∧
 (∀ (K : V → H → Prop) (h : H) (n by_ : Nat) (news : List (List V)), appN K h n by_ V.z (some news) = (leafs news = true ∧ (news.length * by_ ≤ 140737488355328 ∧ news.length ≤ LIM) ∧ ∀ (cap' : Nat), news.length ≤ cap' → K (V.sl (List.length h) 0 news.length cap') (h ++ [{ els := news, n := n, cap := cap', live := true }])))))))) ∧
 (((((∀ (K : V → H → Prop) (h : H) (n by_ : Nat) (s : V), appN K h n by_ s none = False) ∧
 ((∀ (K : V → H → Prop) (h : H) (s x : V) (n by_ : Nat) (z : List V), appT K h s x (some n) (some by_) (some z) = (z.length = n ∧ appN K h n by_ s (newsOf h n x))) ∧
 (∀ (id : Nat), popTo id [] = none))) ∧
 (((∀ (id id' : Nat) (k : List It), popTo id (It.blk id' :: k) = if id = id' then some k else popTo id k) ∧
 (∀ (b : Bool), boolOf (V.s (Go.Value.bool b)) = some b)) ∧
 ((∀ (τ : Tau) (t : Nat), gW τ (some t) = boolOf (τ t)) ∧
 (∀ (τ : Tau), gW τ none = none)))) ∧
 ((((∀ (b : Bool) (τ : Tau) (t : Nat), gS b τ (some t) = up t (V.s (Go.Value.bool b)) τ) ∧
 (∀ (b : Bool) (τ : Tau), gS b τ none = τ)) ∧
 ((∀ (C : Cx) (N n0 : Nat) (Q : QT) (args : List V) (d : Option Nat) (items : List It) (τ : Tau) (h : H) (f : Nat) (caps : List V), callR C N n0 Q args d items τ h (V.fn f caps) = CallThen C N n0 Q f (args ++ caps) d items τ h) ∧
 (∀ (Q : QT) (τ : Tau) (h : H) (t : Go.TypeId) (v : Go.Value), panR Q τ h (V.s (Go.Value.iface t v)) = Q (XV.pan (V.s (Go.Value.iface t v))) τ h))) ∧
 (((∀ (C : Cx) (N n0 : Nat) (Q : QT) (d : Option Nat) (items : List It) (τ : Tau) (h : H) (s x_2 : V) (t u : Go.TypeId), copyR C N n0 Q d items τ h [s, x_2] [t, u] = CopyThen C N n0 Q s x_2 t u d items τ h) ∧
 (∀ (C : Cx) (N n0 : Nat) (Q : QT) (d : Option Nat) (items : List It) (τ : Tau) (h : H) (s : V) (t : Go.TypeId), clearR C N n0 Q d items τ h [s] [t] = ClearThen C N n0 Q s t d items τ h)) ∧
 ((∀ (C : Cx) (K : V → H → Prop) (h : H) (s x_2 : V) (t u : Go.TypeId), appR C K h [s, x_2] [t, u] = appW K h C t u s x_2) ∧
 (∀ (C : Cx) (N n0 : Nat) (R : List It → Tau → H → Prop) (Q : QT) (d : Option Nat) (items : List It) (τ : Tau) (h : H) (xs : List V) (ts : List Go.TypeId), bltR C N n0 R Q d items τ h xs ts Go.Builtin.append = appR C (RunK R items d τ) h xs ts))))) ∧
 ((((∀ (C : Cx) (N n0 : Nat) (R : List It → Tau → H → Prop) (Q : QT) (d : Option Nat) (items : List It) (τ : Tau) (h : H) (xs : List V) (ts : List Go.TypeId), bltR C N n0 R Q d items τ h xs ts Go.Builtin.copy = copyR C N n0 Q d items τ h xs ts) ∧
 ((∀ (C : Cx) (N n0 : Nat) (R : List It → Tau → H → Prop) (Q : QT) (d : Option Nat) (items : List It) (τ : Tau) (h : H) (xs : List V) (ts : List Go.TypeId), bltR C N n0 R Q d items τ h xs ts Go.Builtin.clear = clearR C N n0 Q d items τ h xs ts) ∧
 (∀ (C : Cx) (N n0 : Nat) (R : List It → Tau → H → Prop) (Q : QT) (items : List It) (d : Option Nat) (τ : Tau) (h : H) (b : Go.Builtin) (args : Array Go.Operand) (ts : Array Go.TypeId), opRun C N n0 R Q items d τ h (Go.Op.call { callee := Go.Callee.builtin b, args := args, argTypes := ts }) = bltR C N n0 R Q d items τ h (evs C τ args.toList) ts.toList b))) ∧
 (((∀ (C : Cx) (N n0 : Nat) (R : List It → Tau → H → Prop) (Q : QT) (items : List It) (d : Option Nat) (τ : Tau) (h : H) (f : Go.Operand) (args : Array Go.Operand) (argTypes : Array Go.TypeId), opRun C N n0 R Q items d τ h (Go.Op.call { callee := Go.Callee.value f, args := args, argTypes := argTypes }) = callR C N n0 Q (evs C τ args.toList) d items τ h (ev C τ f)) ∧
 (∀ (C : Cx) (N n0 : Nat) (R : List It → Tau → H → Prop) (Q : QT) (items : List It) (d : Option Nat) (τ : Tau) (h : H) (recv : Go.Operand) (method : String) (args : Array Go.Operand) (argTypes : Array Go.TypeId), opRun C N n0 R Q items d τ h (Go.Op.call { callee := Go.Callee.invoke recv method, args := args, argTypes := argTypes }) = False)) ∧
 ((∀ (C : Cx) (N n0 : Nat) (R : List It → Tau → H → Prop) (Q : QT) (items : List It) (d : Option Nat) (τ : Tau) (h : H) (x_1 : Go.Operand), opRun C N n0 R Q items d τ h (Go.Op.panic x_1) = panR Q τ h (ev C τ x_1)) ∧
 (∀ (R : List It → Tau → H → Prop) (Q : QT) (id : Nat) (τ : Tau) (h : H) (k' : List It), exitK R Q id τ h (some k') = R k' τ h)))) ∧
 ((((∀ (R : List It → Tau → H → Prop) (Q : QT) (id : Nat) (τ : Tau) (h : H), exitK R Q id τ h none = Q (XV.exit id) τ h) ∧
 (∀ (R : List It → Tau → H → Prop) (x y : Go.Code) (k : List It) (τ : Tau) (h : H) (b : Bool), condR R x y k τ h (V.s (Go.Value.bool b)) = bcase b (R (It.code x :: k) τ h) (R (It.code y :: k) τ h))) ∧
 ((∀ (R : List It → Tau → H → Prop) (all os : List Go.Oper) (k : List It) (d : Option Nat) (o : Go.Oper) (j : Nat) (τ : Tau) (h : H) (b : Bool), guardV R all os k d o j τ h true (V.s (Go.Value.bool b)) = bcase b (R (It.ops all (o :: os) :: k) (gSet all j true τ) h) (R (It.ops all os :: k) (upo d (V.tup []) (gSet all j false τ)) h)) ∧
 (∀ (R : List It → Tau → H → Prop) (all os : List Go.Oper) (k : List It) (d : Option Nat) (o : Go.Oper) (j : Nat) (τ : Tau) (h : H) (b : Bool), guardV R all os k d o j τ h false (V.s (Go.Value.bool b)) = bcase b (R (It.ops all os :: k) (upo d (V.tup []) (gSet all j true τ)) h) (R (It.ops all (o :: os) :: k) (gSet all j false τ) h)))) ∧
 (((∀ (R : List It → Tau → H → Prop) (all os : List Go.Oper) (k : List It) (d : Option Nat) (o : Go.Oper) (j : Nat) (τ : Tau) (h : H) (x : Bool), guardV R all os k d o j τ h x (V.tup []) = R (It.ops all os :: k) (upo d (V.tup []) τ) h) ∧
 (∀ (C : Cx) (N n0 : Nat) (x : QT) (x_1 : List It) (x_2 : Tau) (x_3 : H), Run C N n0 0 x x_1 x_2 x_3 = False)) ∧
 ((∀ (C : Cx) (N n0 : Nat) (x : QT) (x_1 : Tau) (x_2 : H) (n : Nat), Run C N n0 n.succ x [] x_1 x_2 = x XV.normal x_1 x_2) ∧
 (∀ (C : Cx) (N n0 : Nat) (x : QT) (x_1 : Tau) (x_2 : H) (n : Nat) (k : List It), Run C N n0 n.succ x (It.code Go.Code.skip :: k) x_1 x_2 = Run C N n0 n x k x_1 x_2))))))) :=
 ⟨⟨⟨⟨⟨@opW.eq_16,
 ⟨@opW.eq_17,
 @opW.eq_18⟩⟩,
 ⟨⟨@opW.eq_19,
 @opW.eq_20⟩,
 ⟨@opW.eq_21,
 @opW.eq_22⟩⟩⟩,
 ⟨⟨⟨@opW.eq_23,
 @lenK.eq_1⟩,
 ⟨@lenK.eq_2,
 @lenK.eq_3⟩⟩,
 ⟨⟨@lenK.eq_4,
 @capK.eq_1⟩,
 ⟨@capK.eq_2,
 @capK.eq_3⟩⟩⟩⟩,
 ⟨⟨⟨@minK.eq_1,
 ⟨@maxK.eq_1,
 @builtinW.eq_1⟩⟩,
 ⟨⟨@builtinW.eq_2,
 @builtinW.eq_3⟩,
 ⟨@builtinW.eq_4,
 @newsOf.eq_1⟩⟩⟩,
 ⟨⟨⟨@newsOf.eq_2,
 @newsOf.eq_3⟩,
 ⟨@blkIs.eq_1,
 @takeTo.eq_1⟩⟩,
 ⟨⟨@keptB.eq_1,
 @keptB.eq_2⟩,
 ⟨@appN.eq_1,
 @appN.eq_2⟩⟩⟩⟩⟩,
 ⟨⟨⟨⟨@appN.eq_4,
 ⟨@appT.eq_1,
 @popTo.eq_1⟩⟩,
 ⟨⟨@popTo.eq_2,
 @boolOf.eq_1⟩,
 ⟨@gW.eq_1,
 @gW.eq_2⟩⟩⟩,
 ⟨⟨⟨@gS.eq_1,
 @gS.eq_2⟩,
 ⟨@callR.eq_1,
 @panR.eq_1⟩⟩,
 ⟨⟨@copyR.eq_1,
 @clearR.eq_1⟩,
 ⟨@appR.eq_1,
 @bltR.eq_1⟩⟩⟩⟩,
 ⟨⟨⟨@bltR.eq_2,
 ⟨@bltR.eq_3,
 @opRun.eq_1⟩⟩,
 ⟨⟨@opRun.eq_2,
 @opRun.eq_3⟩,
 ⟨@opRun.eq_4,
 @exitK.eq_1⟩⟩⟩,
 ⟨⟨⟨@exitK.eq_2,
 @condR.eq_1⟩,
 ⟨@guardV_t,
 @guardV_f⟩⟩,
 ⟨⟨@guardV_u,
 @Run.eq_1⟩,
 ⟨@Run.eq_2,
 @Run.eq_3⟩⟩⟩⟩⟩⟩
theorem wb6 :
 ((((((∀ (C : Cx) (N n0 : Nat) (x : QT) (x_1 : Tau) (x_2 : H) (n l : Nat) (k : List It), Run C N n0 n.succ x (It.code (Go.Code.label l) :: k) x_1 x_2 = Run C N n0 n x k x_1 x_2) ∧
 ((∀ (C : Cx) (N n0 : Nat) (x : QT) (x_1 : Tau) (x_2 : H) (n : Nat) (a b : Go.Code) (k : List It), Run C N n0 n.succ x (It.code (a.seq b) :: k) x_1 x_2 = Run C N n0 n x (It.code a :: It.code b :: k) x_1 x_2) ∧
 (∀ (C : Cx) (N n0 : Nat) (x : QT) (x_1 : Tau) (x_2 : H) (n id : Nat) (c : Go.Code) (k : List It), Run C N n0 n.succ x (It.code (Go.Code.block id c) :: k) x_1 x_2 = Run C N n0 n x (It.code c :: It.blk id :: k) x_1 x_2))) ∧
 (((∀ (C : Cx) (N n0 : Nat) (x : QT) (x_1 : Tau) (x_2 : H) (n : Nat) (c : Go.Operand) (x_5 y : Go.Code) (k : List It), Run C N n0 n.succ x (It.code (Go.Code.cond c x_5 y) :: k) x_1 x_2 = condR (Run C N n0 n x) x_5 y k x_1 x_2 (ev C x_1 c)) ∧
 (∀ (C : Cx) (N n0 : Nat) (x : QT) (x_1 : Tau) (x_2 : H) (n id : Nat) (ops : Array Go.Oper) (k : List It), Run C N n0 n.succ x (It.code (Go.Code.region id ops true) :: k) x_1 x_2 = DrawThen C N n0 x id ops k x_1 x_2)) ∧
 ((∀ (C : Cx) (N n0 : Nat) (x : QT) (x_1 : Tau) (x_2 : H) (n id : Nat) (ops : Array Go.Oper) (k : List It), Run C N n0 n.succ x (It.code (Go.Code.region id ops false) :: k) x_1 x_2 = Run C N n0 n x (It.ops ops.toList ops.toList :: k) x_1 x_2) ∧
 (∀ (C : Cx) (N n0 : Nat) (x : QT) (x_1 : Tau) (x_2 : H) (n : Nat) (body : Go.Code) (k : List It), Run C N n0 n.succ x (It.code body.loop :: k) x_1 x_2 = LoopThen C N n0 x body k x_1 x_2)))) ∧
 ((((∀ (C : Cx) (N n0 : Nat) (x : QT) (x_1 : Tau) (x_2 : H) (n id : Nat) (k : List It), Run C N n0 n.succ x (It.code (Go.Code.exit id) :: k) x_1 x_2 = exitK (Run C N n0 n x) x id x_1 x_2 (popTo id k)) ∧
 (∀ (C : Cx) (N n0 : Nat) (x : QT) (x_1 : Tau) (x_2 : H) (n : Nat) (k : List It), Run C N n0 n.succ x (It.code Go.Code.ret :: k) x_1 x_2 = x XV.ret x_1 x_2)) ∧
 ((∀ (C : Cx) (N n0 : Nat) (x : QT) (x_1 : Tau) (x_2 : H) (n : Nat) (g : Go.Operand) (ps : Array Go.Tmp) (x_5 y : Go.Code) (k : List It), Run C N n0 n.succ x (It.code (Go.Code.rangeFunc g ps x_5 y) :: k) x_1 x_2 = RangeThen C N n0 x g ps x_5 y k x_1 x_2) ∧
 (∀ (C : Cx) (N n0 : Nat) (x : QT) (x_1 : Tau) (x_2 : H) (n id : Nat) (k : List It), Run C N n0 n.succ x (It.blk id :: k) x_1 x_2 = Run C N n0 n x k x_1 x_2))) ∧
 (((∀ (C : Cx) (N n0 : Nat) (x : QT) (x_1 : Tau) (x_2 : H) (n : Nat) (all : List Go.Oper) (k : List It), Run C N n0 n.succ x (It.ops all [] :: k) x_1 x_2 = Run C N n0 n x k x_1 x_2) ∧
 (∀ (C : Cx) (N n0 : Nat) (x : QT) (x_1 : Tau) (x_2 : H) (n : Nat) (all : List Go.Oper) (d : Option Go.Tmp) (op : Go.Op) (type : Go.TypeId) (pos : String) (after : Array Go.Edge) (os : List Go.Oper) (k : List It), Run C N n0 n.succ x (It.ops all ({ dst := d, op := op, type := type, pos := pos, after := after, guard := none } :: os) :: k) x_1 x_2 = opRun C N n0 (Run C N n0 n x) x (It.ops all os :: k) d x_1 x_2 op)) ∧
 ((∀ (C : Cx) (N n0 : Nat) (x : QT) (x_1 : Tau) (x_2 : H) (n : Nat) (all : List Go.Oper) (d : Option Go.Tmp) (op : Go.Op) (ty : Go.TypeId) (pos : String) (after : Array Go.Edge) (j : Nat) (want : Bool) (os : List Go.Oper) (k : List It), Run C N n0 n.succ x (It.ops all ({ dst := d, op := op, type := ty, pos := pos, after := after, guard := some (j, want) } :: os) :: k) x_1 x_2 = guardV (Run C N n0 n x) all os k d { dst := d, op := op, type := ty, pos := pos, after := after, guard := none } j x_1 x_2 want (gX all x_1 j)) ∧
 (∀ (K : List V → Prop) (R : (List V → Prop) → Prop) (cs : List V), rsA K R (some cs) = (cs.all cellOk = true ∧ R fun vs => K (V.agg cs :: vs))))))) ∧
 ((((∀ (K : List V → Prop) (R : (List V → Prop) → Prop), rsA K R none = False) ∧
 ((∀ (K : List V → Prop) (R : (List V → Prop) → Prop) (n : Nat) (els : List (List V)), rsC K R (some (V.l n els)) = False) ∧
 (∀ (K : List V → Prop) (R : (List V → Prop) → Prop) (cs : List V), rsC K R (some (V.lp cs)) = False))) ∧
 (((∀ (K : List V → Prop) (R : (List V → Prop) → Prop), rsC K R none = False) ∧
 (∀ (h : H) (K : List V → Prop) (R : (List V → Prop) → Prop) (b i o n : Nat), rsT h K R b i o (some true) (some n) = rsA K R (rdN (rdB h[b]? i) o n))) ∧
 ((∀ (h : H) (K : List V → Prop) (R : (List V → Prop) → Prop) (b i o : Nat) (x : Option Nat), rsT h K R b i o (some false) x = rsC K R (rdC (rdB h[b]? i) o)) ∧
 (∀ (C : Cx) (h : H) (K : List V → Prop) (R : (List V → Prop) → Prop) (t : Go.TypeId) (b i o : Nat), rsP C h K R t (V.ptr b i o) = rsT h K R b i o (tAgg C.P t) (tSz C.P t))))) ∧
 ((((∀ (C : Cx) (h : H) (τ : Tau) (x : List V → Prop), resW C h τ [] x = x []) ∧
 (∀ (C : Cx) (h : H) (τ : Tau) (x : List V → Prop) (t : Go.Tmp) (rs : List Go.ResultVar), resW C h τ (Go.ResultVar.tmp t :: rs) x = resW C h τ rs fun vs => x (τ t :: vs))) ∧
 ((∀ (C : Cx) (h : H) (τ : Tau) (x : List V → Prop) (a : Go.Tmp) (t : Go.TypeId) (rs : List Go.ResultVar), resW C h τ (Go.ResultVar.cell a t :: rs) x = rsP C h x (resW C h τ rs) t (τ a)) ∧
 (∀ (n0 : Nat) (R : Res → H → Prop) (h : H) (v : V), tupOf n0 R h [v] = Up n0 R (Res.ret v) h))) ∧
 (((∀ (C : Cx) (n0 : Nat) (fn : Go.Func) (R : Res → H → Prop) (x : Tau) (x_1 : H), bodyQ C n0 fn R XV.normal x x_1 = resW C x_1 x fn.results.toList (tupOf n0 R x_1)) ∧
 (∀ (C : Cx) (n0 : Nat) (fn : Go.Func) (R : Res → H → Prop) (x : Tau) (x_1 : H), bodyQ C n0 fn R XV.ret x x_1 = resW C x_1 x fn.results.toList (tupOf n0 R x_1))) ∧
 ((∀ (C : Cx) (n0 : Nat) (fn : Go.Func) (R : Res → H → Prop) (x : Tau) (x_1 : H) (v : V), bodyQ C n0 fn R (XV.pan v) x x_1 = Up n0 R (Res.pan v) x_1) ∧
 (∀ (C : Cx) (n0 : Nat) (fn : Go.Func) (R : Res → H → Prop) (x : Tau) (x_1 : H) (id : Nat), bodyQ C n0 fn R (XV.exit id) x x_1 = False)))))) ∧
 (((((∀ (C : Cx) (N n0 m : Nat) (Q : QT) (k : List It) (I : Tau → H → Prop) (x : Tau) (x_1 : H), loopQ C N n0 m Q k I XV.normal x x_1 = Goes n0 I x x_1) ∧
 ((∀ (C : Cx) (N n0 m : Nat) (Q : QT) (k : List It) (I : Tau → H → Prop) (x : Tau) (x_1 : H) (id : Nat), loopQ C N n0 m Q k I (XV.exit id) x x_1 = exitK (Run C N n0 m Q) Q id x x_1 (popTo id k)) ∧
 (∀ (C : Cx) (N n0 m : Nat) (Q : QT) (k : List It) (I : Tau → H → Prop) (x : Tau) (x_1 : H), loopQ C N n0 m Q k I XV.ret x x_1 = Q XV.ret x x_1))) ∧
 (((∀ (C : Cx) (N n0 m : Nat) (Q : QT) (k : List It) (I : Tau → H → Prop) (x : Tau) (x_1 : H) (v : V), loopQ C N n0 m Q k I (XV.pan v) x x_1 = Q (XV.pan v) x x_1) ∧
 (∀ (C : Cx) (N n0 m : Nat) (Q : QT) (k : List It) (d : Option Nat) (τ : Tau) (x : H) (v : V), callQ C N n0 m Q k d τ (Res.ret v) x = Run C N n0 m Q k (upo d v τ) x)) ∧
 ((∀ (C : Cx) (N n0 m : Nat) (Q : QT) (k : List It) (d : Option Nat) (τ : Tau) (x : H) (v : V), callQ C N n0 m Q k d τ (Res.pan v) x = Q (XV.pan v) τ x) ∧
 (∀ (r : Nat → Nat) (b off len cap : Nat), rnP r (V.sl b off len cap) = V.sl (r b) off len cap)))) ∧
 ((((∀ (r : Nat → Nat) (b i o : Nat), rnP r (V.ptr b i o) = V.ptr (r b) i o) ∧
 (∀ (r : Nat → Nat) (f : Nat) (caps : List V), rnC r (V.fn f caps) = V.fn f (List.map (rnP r) caps))) ∧
 ((∀ (r : Nat → Nat) (cs : List V), rnQ r (V.agg cs) = V.agg (List.map (rnC r) cs)) ∧
 (∀ (r : Nat → Nat) (vs : List V), rnV r (V.tup vs) = V.tup (List.map (rnQ r) vs)))) ∧
 (((∀ (n : Nat) (els : List (List V)), fz (V.l n els) = V.f n (fzss els)) ∧
 (∀ (cs : List V), fz (V.lp cs) = V.pd (fzs cs))) ∧
 ((∀ (v : Go.Value), fz (V.s v) = V.s v) ∧
 (∀ (n : Nat) (els : List (List V)), fz (V.f n els) = V.f n els))))) ∧
 ((((fz V.z = V.z) ∧
 ((∀ (b o l c : Nat), fz (V.sl b o l c) = V.sl b o l c) ∧
 (∀ (b i o : Nat), fz (V.ptr b i o) = V.ptr b i o))) ∧
 (((∀ (cs : List V), fz (V.pd cs) = V.pd cs) ∧
 (∀ (f : Nat) (c : List V), fz (V.fn f c) = V.fn f c)) ∧
 ((∀ (c : List V), fz (V.agg c) = V.agg c) ∧
 (∀ (c : List V), fz (V.tup c) = V.tup c)))) ∧
 ((((fz V.any = V.any) ∧
 (fzs [] = [])) ∧
 ((∀ (x_1 : V) (xs : List V), fzs (x_1 :: xs) = fz x_1 :: fzs xs) ∧
 (fzss [] = []))) ∧
 (((∀ (x_1 : List V) (xs : List (List V)), fzss (x_1 :: xs) = fzs x_1 :: fzss xs) ∧
 (∀ (n0 x : Nat) (x_1 : H) (v : Go.Value), frz n0 x x_1 (V.s v) = V.s v)) ∧
 ((∀ (n0 x : Nat) (x_1 : H) (n : Nat) (els : List (List V)), frz n0 x x_1 (V.f n els) = V.f n els) ∧
 (∀ (n0 x : Nat) (x_1 : H), frz n0 x x_1 V.z = V.z))))))) :=
 ⟨⟨⟨⟨⟨@Run.eq_4,
 ⟨@Run.eq_5,
 @Run.eq_6⟩⟩,
 ⟨⟨@Run.eq_7,
 @Run.eq_8⟩,
 ⟨@Run.eq_9,
 @Run.eq_10⟩⟩⟩,
 ⟨⟨⟨@Run.eq_11,
 @Run.eq_12⟩,
 ⟨@Run.eq_13,
 @Run.eq_15⟩⟩,
 ⟨⟨@Run.eq_16,
 @Run.eq_17⟩,
 ⟨@Run_g,
 @rsA.eq_1⟩⟩⟩⟩,
 ⟨⟨⟨@rsA.eq_2,
 ⟨@rsC.eq_1,
 @rsC.eq_2⟩⟩,
 ⟨⟨@rsC.eq_4,
 @rsT.eq_1⟩,
 ⟨@rsT.eq_2,
 @rsP.eq_1⟩⟩⟩,
 ⟨⟨⟨@resW.eq_1,
 @resW.eq_2⟩,
 ⟨@resW.eq_3,
 @tupOf.eq_1⟩⟩,
 ⟨⟨@bodyQ.eq_1,
 @bodyQ.eq_2⟩,
 ⟨@bodyQ.eq_3,
 @bodyQ.eq_4⟩⟩⟩⟩⟩,
 ⟨⟨⟨⟨@loopQ.eq_1,
 ⟨@loopQ.eq_2,
 @loopQ.eq_3⟩⟩,
 ⟨⟨@loopQ.eq_4,
 @callQ.eq_1⟩,
 ⟨@callQ.eq_2,
 @rnP.eq_1⟩⟩⟩,
 ⟨⟨⟨@rnP.eq_2,
 @rnC.eq_1⟩,
 ⟨@rnQ.eq_1,
 @rnV.eq_1⟩⟩,
 ⟨⟨@fz.eq_1,
 @fz.eq_2⟩,
 ⟨@fz.eq_3,
 @fz.eq_4⟩⟩⟩⟩,
 ⟨⟨⟨@fz.eq_5,
 ⟨@fz.eq_6,
 @fz.eq_7⟩⟩,
 ⟨⟨@fz.eq_8,
 @fz.eq_9⟩,
 ⟨@fz.eq_10,
 @fz.eq_11⟩⟩⟩,
 ⟨⟨⟨@fz.eq_12,
 @fzs.eq_1⟩,
 ⟨@fzs.eq_2,
 @fzss.eq_1⟩⟩,
 ⟨⟨@fzss.eq_2,
 @frz.eq_1⟩,
 ⟨@frz.eq_2,
 @frz.eq_3⟩⟩⟩⟩⟩⟩
theorem wb7 :
 ((((((∀ (n0 x : Nat) (x_1 : H) (cs : List V), frz n0 x x_1 (V.pd cs) = V.pd cs) ∧
 ((∀ (n0 x : Nat) (x_1 : H) (n : Nat) (els : List (List V)), frz n0 x x_1 (V.l n els) = V.f n (fzss els)) ∧
 (∀ (n0 x : Nat) (x_1 : H) (cs : List V), frz n0 x x_1 (V.lp cs) = V.pd (fzs cs)))) ∧
 (((∀ (n0 : Nat) (x : H) (k f : Nat) (caps : List V), frz n0 k.succ x (V.fn f caps) = V.fn f (List.map (frz n0 k x) caps)) ∧
 (∀ (n0 : Nat) (x : H) (k : Nat) (cs : List V), frz n0 k.succ x (V.agg cs) = V.agg (List.map (frz n0 k x) cs))) ∧
 ((∀ (n0 : Nat) (x : H) (k : Nat) (vs : List V), frz n0 k.succ x (V.tup vs) = V.tup (List.map (frz n0 k x) vs)) ∧
 (∀ (b off len cap : Nat) (els : List (List V)) (n cap' : Nat), ownOf (V.sl b off len cap) (some { els := els, n := n, cap := cap', live := true }) = if off = 0 ∧ len = els.length ∧ cap = cap' then some (V.l n els) else none)))) ∧
 ((((∀ (b i o : Nat) (el : List V) (n cap' : Nat), ownOf (V.ptr b i o) (some { els := [el], n := n, cap := cap', live := true }) = if i = 0 ∧ o = 0 ∧ cap' = 1 then some (V.lp el) else none) ∧
 (∀ (b off len cap : Nat), refB (V.sl b off len cap) = some b)) ∧
 ((∀ (b i o : Nat), refB (V.ptr b i o) = some b) ∧
 (∀ (v : Go.Value), nr (V.s v) = true))) ∧
 (((∀ (n : Nat) (els : List (List V)), nr (V.f n els) = true) ∧
 (∀ (n : Nat) (els : List (List V)), nr (V.l n els) = true)) ∧
 ((∀ (cs : List V), nr (V.lp cs) = true) ∧
 (nr V.z = true))))) ∧
 ((((∀ (cs : List V), nr (V.pd cs) = true) ∧
 ((∀ (B : Blk), elsB (some B) = B.els) ∧
 (elsB none = []))) ∧
 (((∀ (h : H) (b i o : Nat), foldK h b i o none = h) ∧
 (∀ (h : H), folds h [] = h)) ∧
 ((∀ (h : H) (b i o : Nat) (r : List (Nat × Nat × Nat)), folds h ((b, i, o) :: r) = folds (foldC h b i o) r) ∧
 (∀ (x x_1 : H), setAll x [] x_1 = x ++ x_1)))) ∧
 ((((∀ (x : H) (i : Nat) (l : List Nat) (B : Blk) (h : List Blk), setAll x (i :: l) (B :: h) = setAll (List.set x i B) l h) ∧
 (∀ (x : H) (head : Nat) (tail : List Nat), setAll x (head :: tail) [] = x)) ∧
 ((∀ (r : Nat → Nat) (v : V), rnRes r (Res.ret v) = Res.ret (rnV r v)) ∧
 (∀ (r : Nat → Nat) (v : V), rnRes r (Res.pan v) = Res.pan (rnV r v)))) ∧
 (((∀ (n : Nat) (exc : List Nat) (x : Nat), mask n exc x [] = []) ∧
 (∀ (n : Nat) (exc : List Nat) (x : Nat) (B : Blk) (h : List Blk), mask n exc x (B :: h) = (if hid n exc x = true then Blk.dead else B) :: mask n exc (x + 1) h)) ∧
 ((∀ (n : Nat) (exc : List Nat) (x : Nat) (x_1 : H), unmask n exc x [] x_1 = x_1) ∧
 (∀ (n : Nat) (exc : List Nat) (x : Nat) (head : Blk) (tail : List Blk), unmask n exc x (head :: tail) [] = [])))))) ∧
 (((((∀ (n : Nat) (exc : List Nat) (x : Nat) (B : Blk) (h : List Blk) (B' : Blk) (h' : List Blk), unmask n exc x (B :: h) (B' :: h') = (if hid n exc x = true then B else B') :: unmask n exc (x + 1) h h') ∧
 ((∀ (x : List Nat) (d : Nat), addN (some d) x = d :: x) ∧
 (∀ (x : List Nat), addN none x = x))) ∧
 (((∀ (C : Cx) (K : V → H → Prop) (h0 : H) (exc : List Nat) (b : Nat) (v : V), flCk C K h0 exc b (some v) = ((hid (List.length h0) exc b = true ∧ cellOk v = true) ∧ K v h0)) ∧
 (∀ (C : Cx) (K : V → H → Prop) (h0 : H) (exc : List Nat) (b : Nat), flCk C K h0 exc b none = False)) ∧
 ((∀ (C : Cx) (K : V → H → Prop) (h0 : H) (exc : List Nat) (b : Nat) (cs : List V), flA C K h0 exc b (some cs) = ((hid (List.length h0) exc b = true ∧ cs.all cellOk = true) ∧ K (V.agg cs) h0)) ∧
 (∀ (C : Cx) (K : V → H → Prop) (h0 : H) (exc : List Nat) (b : Nat), flA C K h0 exc b none = False)))) ∧
 ((((∀ (C : Cx) (K : V → H → Prop) (h0 : H) (exc : List Nat) (b i o n : Nat), flT C K h0 exc b i o (some true) (some n) = flA C K h0 exc b (rdN (rdB h0[b]? i) o n)) ∧
 (∀ (C : Cx) (K : V → H → Prop) (h0 : H) (exc : List Nat) (b i o : Nat) (x : Option Nat), flT C K h0 exc b i o (some false) x = flCk C K h0 exc b (rdC (rdB h0[b]? i) o))) ∧
 ((∀ (C : Cx) (K : V → H → Prop) (h0 : H) (exc : List Nat) (t : Go.TypeId) (b i o : Nat), flK C K h0 exc t (V.ptr b i o) = flT C K h0 exc b i o (tAgg C.P t) (tSz C.P t)) ∧
 (∀ (C : Cx) (K : V → H → Prop) (h0 : H) (exc : List Nat) (t : Go.TypeId) (cs : List V), flK C K h0 exc t (V.pd cs) = ldF K h0 cs (tAgg C.P t) (tSz C.P t)))) ∧
 (((∀ (C : Cx) (K : V → H → Prop) (h0 : H) (exc : List Nat) (σ : Tau) (t : Go.TypeId) (x_1 : Go.Operand), oldW C K h0 exc σ (Go.Op.load t x_1) = flK C K h0 exc t (ev C σ x_1)) ∧
 (∀ (C : Cx) (K : V → H → Prop) (h0 : H) (exc : List Nat) (σ : Tau) (b : Go.Builtin) (args : Array Go.Operand) (ts : Array Go.TypeId), oldW C K h0 exc σ (Go.Op.call { callee := Go.Callee.builtin b, args := args, argTypes := ts }) = builtinW C K h0 b (evs C σ args.toList) ts.toList)) ∧
 ((∀ (C : Cx) (K : V → H → Prop) (τ : Tau) (h : H) (b : Go.Builtin) (args : Array Go.Operand) (ts : Array Go.TypeId), newW C K τ h (Go.Op.call { callee := Go.Callee.builtin b, args := args, argTypes := ts }) = builtinW C K h b (evs C τ args.toList) ts.toList) ∧
 (∀ (Q : QT) (K : V → H → Prop) (τ : Tau) (G : H → H) (x : H) (v : V), dres Q K τ G (Res.ret v) x = K v (G x)))))) ∧
 ((((∀ (Q : QT) (K : V → H → Prop) (τ : Tau) (G : H → H) (x : H) (v : V), dres Q K τ G (Res.pan v) x = Q (XV.pan v) τ (G x)) ∧
 ((∀ (C : Cx) (N n0 : Nat) (Q : QT) (k : List It) (h0 : H) (exc : List Nat) (ops : Array Go.Oper) (fuel : Nat) (listed : Array Bool) (args : List V) (d : Option Nat) (nw : List Nat) (τ : Tau) (h : H) (f : Nat) (caps : List V), dcallR C N n0 Q k h0 exc ops fuel listed args d nw τ h (V.fn f caps) = DCall C N n0 Q h0 exc ops fuel listed k f (args ++ caps) d nw τ h) ∧
 (∀ (C : Cx) (N n0 : Nat) (Q : QT) (k : List It) (h0 : H) (exc : List Nat) (ops : Array Go.Oper) (fuel : Nat) (listed : Array Bool) (d : Option Nat) (nw : List Nat) (τ : Tau) (h : H) (s x_2 : V) (t u : Go.TypeId), dcopyR C N n0 Q k h0 exc ops fuel listed d nw τ h [s, x_2] [t, u] = DCopy C N n0 Q h0 exc ops fuel listed k s x_2 t u d nw τ h))) ∧
 (((∀ (C : Cx) (N n0 : Nat) (Q : QT) (k : List It) (h0 : H) (exc : List Nat) (ops : Array Go.Oper) (fuel : Nat) (listed : Array Bool) (R : List Nat → Tau → H → Prop) (d : Option Go.Tmp) (nw : List Nat) (τ : Tau) (h : H) (op : Go.Op) (md : Md) (j : Nat) (b : Bool), guardE C N n0 Q k h0 exc ops fuel listed R d nw τ h op md j true (V.s (Go.Value.bool b)) = bcase b (actW C N n0 Q k h0 exc ops fuel listed R d nw (gSet ops.toList j true τ) h op md) (R (addN d nw) (upo d (V.tup []) (gSet ops.toList j false τ)) h)) ∧
 (∀ (C : Cx) (N n0 : Nat) (Q : QT) (k : List It) (h0 : H) (exc : List Nat) (ops : Array Go.Oper) (fuel : Nat) (listed : Array Bool) (R : List Nat → Tau → H → Prop) (d : Option Go.Tmp) (nw : List Nat) (τ : Tau) (h : H) (op : Go.Op) (md : Md) (j : Nat) (b : Bool), guardE C N n0 Q k h0 exc ops fuel listed R d nw τ h op md j false (V.s (Go.Value.bool b)) = bcase b (R (addN d nw) (upo d (V.tup []) (gSet ops.toList j true τ)) h) (actW C N n0 Q k h0 exc ops fuel listed R d nw (gSet ops.toList j false τ) h op md))) ∧
 ((∀ (C : Cx) (N n0 : Nat) (Q : QT) (k : List It) (h0 : H) (exc : List Nat) (ops : Array Go.Oper) (fuel : Nat) (listed : Array Bool) (R : List Nat → Tau → H → Prop) (d : Option Go.Tmp) (nw : List Nat) (τ : Tau) (h : H) (op : Go.Op) (md : Md) (j : Nat) (x : Bool), guardE C N n0 Q k h0 exc ops fuel listed R d nw τ h op md j x (V.tup []) = R (addN d nw) (upo d (V.tup []) τ) h) ∧
 (∀ (C : Cx) (N n0 : Nat) (Q : QT) (k : List It) (h0 : H) (exc : List Nat) (ops : Array Go.Oper) (fuel : Nat) (listed : Array Bool) (R : List Nat → Tau → H → Prop) (d : Option Nat) (nw : List Nat) (τ : Tau) (h : H) (op : Go.Op), actW C N n0 Q k h0 exc ops fuel listed R d nw τ h op Md.old = oldW C (oldN R d nw τ h) h0 exc (restr nw τ) op)))) ∧
 ((((∀ (C : Cx) (N n0 : Nat) (Q : QT) (k : List It) (h0 : H) (exc : List Nat) (ops : Array Go.Oper) (fuel : Nat) (listed : Array Bool) (R : List Nat → Tau → H → Prop) (d : Option Nat) (nw : List Nat) (τ : Tau) (h : H) (op : Go.Op), actW C N n0 Q k h0 exc ops fuel listed R d nw τ h op Md.new = newW C (newN R d nw τ h) τ h op) ∧
 (∀ (C : Cx) (N n0 : Nat) (Q : QT) (k : List It) (h0 : H) (exc : List Nat) (ops : Array Go.Oper) (fuel : Nat) (listed : Array Bool) (R : List Nat → Tau → H → Prop) (d : Option Nat) (nw : List Nat) (τ : Tau) (h : H) (op : Go.Op), actW C N n0 Q k h0 exc ops fuel listed R d nw τ h op Md.eff = effW C N n0 Q k h0 exc ops fuel listed R d nw τ h op)) ∧
 ((∀ (C : Cx) (N n0 : Nat) (Q : QT) (k : List It) (h0 : H) (exc : List Nat) (ops : Array Go.Oper) (fuel : Nat) (listed : Array Bool) (R : List Nat → Tau → H → Prop) (nw : List Nat) (τ : Tau) (h : H) (md : Md), nodeW C N n0 Q k h0 exc ops fuel listed R nw τ h md none = False) ∧
 (∀ (C : Cx) (N n0 : Nat) (Q : QT) (k : List It) (h0 : H) (exc : List Nat) (ops : Array Go.Oper) (fuel : Nat) (listed : Array Bool) (R : List Nat → Tau → H → Prop) (nw : List Nat) (τ : Tau) (h : H) (md : Md) (d : Option Go.Tmp) (op : Go.Op) (type : Go.TypeId) (pos : String) (after : Array Go.Edge), nodeW C N n0 Q k h0 exc ops fuel listed R nw τ h md (some { dst := d, op := op, type := type, pos := pos, after := after, guard := none }) = actW C N n0 Q k h0 exc ops fuel listed R d nw τ h op md))) ∧
 (((∀ (C : Cx) (N n0 : Nat) (Q : QT) (k : List It) (h0 : H) (exc : List Nat) (ops : Array Go.Oper) (fuel : Nat) (listed : Array Bool) (R : List Nat → Tau → H → Prop) (nw : List Nat) (τ : Tau) (h : H) (md : Md) (d : Option Go.Tmp) (op : Go.Op) (type : Go.TypeId) (pos : String) (after : Array Go.Edge) (j : Nat) (want : Bool), nodeW C N n0 Q k h0 exc ops fuel listed R nw τ h md (some { dst := d, op := op, type := type, pos := pos, after := after, guard := some (j, want) }) = guardE C N n0 Q k h0 exc ops fuel listed R d nw τ h op md j want (gX ops.toList τ j)) ∧
 (∀ (C : Cx) (N n0 m : Nat) (Q : QT) (k : List It) (h0 : H) (exc : List Nat) (ops : Array Go.Oper) (x : Nat) (x_1 : Array Bool) (x_2 : List Nat) (x_3 : Tau) (x_4 : H), RunD C N n0 m Q k h0 exc ops x x_1 TD.done x_2 x_3 x_4 = Run C N n0 m Q k x_3 x_4)) ∧
 ((∀ (C : Cx) (N n0 m : Nat) (Q : QT) (k : List It) (h0 : H) (exc : List Nat) (ops : Array Go.Oper) (x : Array Bool) (x_1 : List Nat) (x_2 : Tau) (x_3 : H) (fuel i : Nat) (td : TD), RunD C N n0 m Q k h0 exc ops fuel.succ x (TD.old i td) x_1 x_2 x_3 = nodeW C N n0 Q k h0 exc ops fuel (x.setIfInBounds i true) (RunD C N n0 m Q k h0 exc ops fuel (x.setIfInBounds i true) td) x_1 x_2 x_3 Md.old ops.toList[i]?) ∧
 (∀ (C : Cx) (N n0 m : Nat) (Q : QT) (k : List It) (h0 : H) (exc : List Nat) (ops : Array Go.Oper) (x : Array Bool) (x_1 : List Nat) (x_2 : Tau) (x_3 : H) (fuel i : Nat) (td : TD), RunD C N n0 m Q k h0 exc ops fuel.succ x (TD.new i td) x_1 x_2 x_3 = nodeW C N n0 Q k h0 exc ops fuel (x.setIfInBounds i true) (RunD C N n0 m Q k h0 exc ops fuel (x.setIfInBounds i true) td) x_1 x_2 x_3 Md.new ops.toList[i]?))))))) :=
 ⟨⟨⟨⟨⟨@frz.eq_4,
 ⟨@frz.eq_5,
 @frz.eq_6⟩⟩,
 ⟨⟨@frz.eq_9,
 @frz.eq_10⟩,
 ⟨@frz.eq_11,
 @ownOf.eq_1⟩⟩⟩,
 ⟨⟨⟨@ownOf.eq_2,
 @refB.eq_1⟩,
 ⟨@refB.eq_2,
 @nr.eq_1⟩⟩,
 ⟨⟨@nr.eq_2,
 @nr.eq_3⟩,
 ⟨@nr.eq_4,
 @nr.eq_5⟩⟩⟩⟩,
 ⟨⟨⟨@nr.eq_6,
 ⟨@elsB.eq_1,
 @elsB.eq_2⟩⟩,
 ⟨⟨@foldK.eq_2,
 @folds.eq_1⟩,
 ⟨@folds.eq_2,
 @setAll.eq_1⟩⟩⟩,
 ⟨⟨⟨@setAll.eq_2,
 @setAll.eq_3⟩,
 ⟨@rnRes.eq_1,
 @rnRes.eq_2⟩⟩,
 ⟨⟨@mask.eq_1,
 @mask.eq_2⟩,
 ⟨@unmask.eq_1,
 @unmask.eq_2⟩⟩⟩⟩⟩,
 ⟨⟨⟨⟨@unmask.eq_3,
 ⟨@addN.eq_1,
 @addN.eq_2⟩⟩,
 ⟨⟨@flCk.eq_1,
 @flCk.eq_2⟩,
 ⟨@flA.eq_1,
 @flA.eq_2⟩⟩⟩,
 ⟨⟨⟨@flT.eq_1,
 @flT.eq_2⟩,
 ⟨@flK.eq_1,
 @flK.eq_2⟩⟩,
 ⟨⟨@oldW.eq_1,
 @oldW.eq_2⟩,
 ⟨@newW.eq_1,
 @dres.eq_1⟩⟩⟩⟩,
 ⟨⟨⟨@dres.eq_2,
 ⟨@dcallR.eq_1,
 @dcopyR.eq_1⟩⟩,
 ⟨⟨@guardE_t,
 @guardE_f⟩,
 ⟨@guardE_u,
 @actW.eq_1⟩⟩⟩,
 ⟨⟨⟨@actW.eq_2,
 @actW.eq_3⟩,
 ⟨@nodeW.eq_1,
 @nodeW.eq_2⟩⟩,
 ⟨⟨@nodeW_g,
 @RunD.eq_1⟩,
 ⟨@RunD.eq_2,
 @RunD.eq_3⟩⟩⟩⟩⟩⟩
theorem wb8 :
 ((((((∀ (C : Cx) (N n0 m : Nat) (Q : QT) (k : List It) (h0 : H) (exc : List Nat) (ops : Array Go.Oper) (x : Array Bool) (x_1 : List Nat) (x_2 : Tau) (x_3 : H) (fuel i : Nat) (td : TD), RunD C N n0 m Q k h0 exc ops fuel.succ x (TD.go i td) x_1 x_2 x_3 = nodeW C N n0 Q k h0 exc ops fuel (x.setIfInBounds i true) (RunD C N n0 m Q k h0 exc ops fuel (x.setIfInBounds i true) td) x_1 x_2 x_3 Md.eff ops.toList[i]?) ∧
 ((∀ (C : Cx) (N n0 m : Nat) (Q : QT) (k : List It) (h0 : H) (exc : List Nat) (ops : Array Go.Oper) (x : Array Bool) (x_1 : List Nat) (x_2 : Tau) (x_3 : H) (fuel i : Nat) (td r : TD), RunD C N n0 m Q k h0 exc ops fuel.succ x (TD.or i td r) x_1 x_2 x_3 = (nodeW C N n0 Q k h0 exc ops fuel (x.setIfInBounds i true) (RunD C N n0 m Q k h0 exc ops fuel (x.setIfInBounds i true) td) x_1 x_2 x_3 Md.eff ops.toList[i]? ∧ RunD C N n0 m Q k h0 exc ops (fuel + 1) x r x_1 x_2 x_3)) ∧
 (∀ (C : Cx) (N n0 m : Nat) (Q : QT) (k : List It) (h0 : H) (exc : List Nat) (ops : Array Go.Oper) (fuel : Nat) (listed : Array Bool) (td : TD) (d : Option Nat) (nw : List Nat) (τ : Tau) (h x : H) (v : V), dcallQ C N n0 m Q k h0 exc ops fuel listed td d nw τ h (Res.ret v) x = RunD C N n0 m Q k h0 exc ops fuel listed td (addN d nw) (upo d v τ) (show_ h0 exc h x)))) ∧
 (((∀ (C : Cx) (N n0 m : Nat) (Q : QT) (k : List It) (h0 : H) (exc : List Nat) (ops : Array Go.Oper) (fuel : Nat) (listed : Array Bool) (td : TD) (d : Option Nat) (nw : List Nat) (τ : Tau) (h x : H) (v : V), dcallQ C N n0 m Q k h0 exc ops fuel listed td d nw τ h (Res.pan v) x = Q (XV.pan v) τ (show_ h0 exc h x)) ∧
 (∀ (x : V) (x_1 : Tau) (d : Nat), upo (some d) x x_1 = up d x x_1)) ∧
 ((∀ (x : V) (x_1 : Tau), upo none x x_1 = x_1) ∧
 (∀ (C : Cx) (τ : Tau) (t : Go.Tmp), ev C τ (Go.Operand.tmp t) = τ t)))) ∧
 ((((∀ (C : Cx) (τ : Tau) (v : Go.Value), ev C τ (Go.Operand.const v) = ofV v) ∧
 (∀ (C : Cx) (τ : Tau) (g : Nat), ev C τ (Go.Operand.global g) = C.g g)) ∧
 ((∀ (C : Cx) (τ : Tau) (f : Go.FuncId), ev C τ (Go.Operand.func f) = V.fn f []) ∧
 (∀ (cs : Array Go.Value), ofV (Go.Value.agg cs) = V.agg (List.map ofV1 cs.toList)))) ∧
 (((ofV1 (Go.Value.slice none 0 0) = V.z) ∧
 (∀ C N n0 R Q items d τ h x, opRun C N n0 R Q items d τ h (.move x) = opW C τ h (.move x) (RunK R items d τ))) ∧
 ((∀ C N n0 Q k h0 exc ops fuel listed R d nw τ h x, effW C N n0 Q k h0 exc ops fuel listed R d nw τ h (.move x) = opW C τ (hide h0 exc h) (.move x) (effN h0 exc R d nw τ h)) ∧
 (∀ C N n0 R Q items d τ h x, opRun C N n0 R Q items d τ h (.assign x) = opW C τ h (.assign x) (RunK R items d τ)))))) ∧
 ((((∀ C N n0 Q k h0 exc ops fuel listed R d nw τ h x, effW C N n0 Q k h0 exc ops fuel listed R d nw τ h (.assign x) = opW C τ (hide h0 exc h) (.assign x) (effN h0 exc R d nw τ h)) ∧
 ((∀ C N n0 R Q items d τ h x y z, opRun C N n0 R Q items d τ h (.pick x y z) = opW C τ h (.pick x y z) (RunK R items d τ)) ∧
 (∀ C N n0 Q k h0 exc ops fuel listed R d nw τ h x y z, effW C N n0 Q k h0 exc ops fuel listed R d nw τ h (.pick x y z) = opW C τ (hide h0 exc h) (.pick x y z) (effN h0 exc R d nw τ h)))) ∧
 (((∀ C N n0 R Q items d τ h t ps, opRun C N n0 R Q items d τ h (.build t ps) = opW C τ h (.build t ps) (RunK R items d τ)) ∧
 (∀ C N n0 Q k h0 exc ops fuel listed R d nw τ h t ps, effW C N n0 Q k h0 exc ops fuel listed R d nw τ h (.build t ps) = opW C τ (hide h0 exc h) (.build t ps) (effN h0 exc R d nw τ h))) ∧
 ((∀ C N n0 R Q items d τ h x, opRun C N n0 R Q items d τ h (.nilCheck x) = opW C τ h (.nilCheck x) (RunK R items d τ)) ∧
 (∀ C N n0 Q k h0 exc ops fuel listed R d nw τ h x, effW C N n0 Q k h0 exc ops fuel listed R d nw τ h (.nilCheck x) = opW C τ (hide h0 exc h) (.nilCheck x) (effN h0 exc R d nw τ h))))) ∧
 ((((∀ C N n0 R Q items d τ h op t x y u, opRun C N n0 R Q items d τ h (.binOp op t x y u) = opW C τ h (.binOp op t x y u) (RunK R items d τ)) ∧
 (∀ C N n0 Q k h0 exc ops fuel listed R d nw τ h op t x y u, effW C N n0 Q k h0 exc ops fuel listed R d nw τ h (.binOp op t x y u) = opW C τ (hide h0 exc h) (.binOp op t x y u) (effN h0 exc R d nw τ h))) ∧
 ((∀ C N n0 R Q items d τ h op t x, opRun C N n0 R Q items d τ h (.unOp op t x) = opW C τ h (.unOp op t x) (RunK R items d τ)) ∧
 (∀ C N n0 Q k h0 exc ops fuel listed R d nw τ h op t x, effW C N n0 Q k h0 exc ops fuel listed R d nw τ h (.unOp op t x) = opW C τ (hide h0 exc h) (.unOp op t x) (effN h0 exc R d nw τ h)))) ∧
 (((∀ C N n0 R Q items d τ h t x, opRun C N n0 R Q items d τ h (.makeInterface t x) = opW C τ h (.makeInterface t x) (RunK R items d τ)) ∧
 (∀ C N n0 Q k h0 exc ops fuel listed R d nw τ h t x, effW C N n0 Q k h0 exc ops fuel listed R d nw τ h (.makeInterface t x) = opW C τ (hide h0 exc h) (.makeInterface t x) (effN h0 exc R d nw τ h))) ∧
 ((∀ C N n0 R Q items d τ h x u t b, opRun C N n0 R Q items d τ h (.typeAssert x u t b) = opW C τ h (.typeAssert x u t b) (RunK R items d τ)) ∧
 (∀ C N n0 Q k h0 exc ops fuel listed R d nw τ h x u t b, effW C N n0 Q k h0 exc ops fuel listed R d nw τ h (.typeAssert x u t b) = opW C τ (hide h0 exc h) (.typeAssert x u t b) (effN h0 exc R d nw τ h))))))) ∧
 (((((∀ C N n0 R Q items d τ h fn fi ca, opRun C N n0 R Q items d τ h (.makeFunc fn fi ca) = opW C τ h (.makeFunc fn fi ca) (RunK R items d τ)) ∧
 ((∀ C N n0 Q k h0 exc ops fuel listed R d nw τ h fn fi ca, effW C N n0 Q k h0 exc ops fuel listed R d nw τ h (.makeFunc fn fi ca) = opW C τ (hide h0 exc h) (.makeFunc fn fi ca) (effN h0 exc R d nw τ h)) ∧
 (∀ C N n0 R Q items d τ h t x lo hi mx, opRun C N n0 R Q items d τ h (.slice t x lo hi mx) = opW C τ h (.slice t x lo hi mx) (RunK R items d τ)))) ∧
 (((∀ C N n0 Q k h0 exc ops fuel listed R d nw τ h t x lo hi mx, effW C N n0 Q k h0 exc ops fuel listed R d nw τ h (.slice t x lo hi mx) = opW C τ (hide h0 exc h) (.slice t x lo hi mx) (effN h0 exc R d nw τ h)) ∧
 (∀ C N n0 R Q items d τ h t x f, opRun C N n0 R Q items d τ h (.fieldAddr t x f) = opW C τ h (.fieldAddr t x f) (RunK R items d τ))) ∧
 ((∀ C N n0 Q k h0 exc ops fuel listed R d nw τ h t x f, effW C N n0 Q k h0 exc ops fuel listed R d nw τ h (.fieldAddr t x f) = opW C τ (hide h0 exc h) (.fieldAddr t x f) (effN h0 exc R d nw τ h)) ∧
 (∀ C N n0 R Q items d τ h t x f, opRun C N n0 R Q items d τ h (.field t x f) = opW C τ h (.field t x f) (RunK R items d τ))))) ∧
 ((((∀ C N n0 Q k h0 exc ops fuel listed R d nw τ h t x f, effW C N n0 Q k h0 exc ops fuel listed R d nw τ h (.field t x f) = opW C τ (hide h0 exc h) (.field t x f) (effN h0 exc R d nw τ h)) ∧
 (∀ C N n0 R Q items d τ h t x y, opRun C N n0 R Q items d τ h (.indexAddr t x y) = opW C τ h (.indexAddr t x y) (RunK R items d τ))) ∧
 ((∀ C N n0 Q k h0 exc ops fuel listed R d nw τ h t x y, effW C N n0 Q k h0 exc ops fuel listed R d nw τ h (.indexAddr t x y) = opW C τ (hide h0 exc h) (.indexAddr t x y) (effN h0 exc R d nw τ h)) ∧
 (∀ C N n0 R Q items d τ h t x y, opRun C N n0 R Q items d τ h (.index t x y) = opW C τ h (.index t x y) (RunK R items d τ)))) ∧
 (((∀ C N n0 Q k h0 exc ops fuel listed R d nw τ h t x y, effW C N n0 Q k h0 exc ops fuel listed R d nw τ h (.index t x y) = opW C τ (hide h0 exc h) (.index t x y) (effN h0 exc R d nw τ h)) ∧
 (∀ C N n0 R Q items d τ h x i, opRun C N n0 R Q items d τ h (.extract x i) = opW C τ h (.extract x i) (RunK R items d τ))) ∧
 ((∀ C N n0 Q k h0 exc ops fuel listed R d nw τ h x i, effW C N n0 Q k h0 exc ops fuel listed R d nw τ h (.extract x i) = opW C τ (hide h0 exc h) (.extract x i) (effN h0 exc R d nw τ h)) ∧
 (∀ C N n0 R Q items d τ h t, opRun C N n0 R Q items d τ h (.alloc t) = opW C τ h (.alloc t) (RunK R items d τ)))))) ∧
 ((((∀ C N n0 Q k h0 exc ops fuel listed R d nw τ h t, effW C N n0 Q k h0 exc ops fuel listed R d nw τ h (.alloc t) = opW C τ (hide h0 exc h) (.alloc t) (effN h0 exc R d nw τ h)) ∧
 ((∀ C N n0 R Q items d τ h t x, opRun C N n0 R Q items d τ h (.box t x) = opW C τ h (.box t x) (RunK R items d τ)) ∧
 (∀ C N n0 Q k h0 exc ops fuel listed R d nw τ h t x, effW C N n0 Q k h0 exc ops fuel listed R d nw τ h (.box t x) = opW C τ (hide h0 exc h) (.box t x) (effN h0 exc R d nw τ h)))) ∧
 (((∀ C N n0 R Q items d τ h t n ps, opRun C N n0 R Q items d τ h (.buildSlice t n ps) = opW C τ h (.buildSlice t n ps) (RunK R items d τ)) ∧
 (∀ C N n0 Q k h0 exc ops fuel listed R d nw τ h t n ps, effW C N n0 Q k h0 exc ops fuel listed R d nw τ h (.buildSlice t n ps) = opW C τ (hide h0 exc h) (.buildSlice t n ps) (effN h0 exc R d nw τ h))) ∧
 ((∀ C N n0 R Q items d τ h t x, opRun C N n0 R Q items d τ h (.load t x) = opW C τ h (.load t x) (RunK R items d τ)) ∧
 (∀ C N n0 Q k h0 exc ops fuel listed R d nw τ h t x, effW C N n0 Q k h0 exc ops fuel listed R d nw τ h (.load t x) = opW C τ (hide h0 exc h) (.load t x) (effN h0 exc R d nw τ h))))) ∧
 ((((∀ C N n0 R Q items d τ h t p x, opRun C N n0 R Q items d τ h (.store t p x) = opW C τ h (.store t p x) (RunK R items d τ)) ∧
 (∀ C N n0 Q k h0 exc ops fuel listed R d nw τ h t p x, effW C N n0 Q k h0 exc ops fuel listed R d nw τ h (.store t p x) = opW C τ (hide h0 exc h) (.store t p x) (effN h0 exc R d nw τ h))) ∧
 ((∀ C N n0 R Q items d τ h t u x, opRun C N n0 R Q items d τ h (.convert t u x) = opW C τ h (.convert t u x) (RunK R items d τ)) ∧
 (∀ C N n0 Q k h0 exc ops fuel listed R d nw τ h t u x, effW C N n0 Q k h0 exc ops fuel listed R d nw τ h (.convert t u x) = opW C τ (hide h0 exc h) (.convert t u x) (effN h0 exc R d nw τ h)))) ∧
 (((∀ C N n0 R Q items d τ h t x y, opRun C N n0 R Q items d τ h (.makeSlice t x y) = opW C τ h (.makeSlice t x y) (RunK R items d τ)) ∧
 (∀ C N n0 Q k h0 exc ops fuel listed R d nw τ h t x y, effW C N n0 Q k h0 exc ops fuel listed R d nw τ h (.makeSlice t x y) = opW C τ (hide h0 exc h) (.makeSlice t x y) (effN h0 exc R d nw τ h))) ∧
 ((∀ C K h0 exc σ x, oldW C K h0 exc σ (.move x) = opW C σ h0 (.move x) K) ∧
 (∀ C K τ h x, newW C K τ h (.move x) = opW C τ h (.move x) K))))))) :=
 ⟨⟨⟨⟨⟨@RunD.eq_4,
 ⟨@RunD.eq_5,
 @dcallQ.eq_1⟩⟩,
 ⟨⟨@dcallQ.eq_2,
 @upo.eq_1⟩,
 ⟨@upo.eq_2,
 @ev.eq_1⟩⟩⟩,
 ⟨⟨⟨@ev.eq_2,
 @ev.eq_3⟩,
 ⟨@ev.eq_4,
 @ofV.eq_1⟩⟩,
 ⟨⟨@ofV1.eq_1,
 (by intros; rfl)⟩,
 ⟨(by intros; rfl),
 (by intros; rfl)⟩⟩⟩⟩,
 ⟨⟨⟨(by intros; rfl),
 ⟨(by intros; rfl),
 (by intros; rfl)⟩⟩,
 ⟨⟨(by intros; rfl),
 (by intros; rfl)⟩,
 ⟨(by intros; rfl),
 (by intros; rfl)⟩⟩⟩,
 ⟨⟨⟨(by intros; rfl),
 (by intros; rfl)⟩,
 ⟨(by intros; rfl),
 (by intros; rfl)⟩⟩,
 ⟨⟨(by intros; rfl),
 (by intros; rfl)⟩,
 ⟨(by intros; rfl),
 (by intros; rfl)⟩⟩⟩⟩⟩,
 ⟨⟨⟨⟨(by intros; rfl),
 ⟨(by intros; rfl),
 (by intros; rfl)⟩⟩,
 ⟨⟨(by intros; rfl),
 (by intros; rfl)⟩,
 ⟨(by intros; rfl),
 (by intros; rfl)⟩⟩⟩,
 ⟨⟨⟨(by intros; rfl),
 (by intros; rfl)⟩,
 ⟨(by intros; rfl),
 (by intros; rfl)⟩⟩,
 ⟨⟨(by intros; rfl),
 (by intros; rfl)⟩,
 ⟨(by intros; rfl),
 (by intros; rfl)⟩⟩⟩⟩,
 ⟨⟨⟨(by intros; rfl),
 ⟨(by intros; rfl),
 (by intros; rfl)⟩⟩,
 ⟨⟨(by intros; rfl),
 (by intros; rfl)⟩,
 ⟨(by intros; rfl),
 (by intros; rfl)⟩⟩⟩,
 ⟨⟨⟨(by intros; rfl),
 (by intros; rfl)⟩,
 ⟨(by intros; rfl),
 (by intros; rfl)⟩⟩,
 ⟨⟨(by intros; rfl),
 (by intros; rfl)⟩,
 ⟨(by intros; simp only [oldW, isA, true_and]),
 (by intros; simp only [newW, isA, true_and])⟩⟩⟩⟩⟩⟩
theorem wb9 :
 ((((((∀ C K h0 exc σ x, oldW C K h0 exc σ (.assign x) = opW C σ h0 (.assign x) K) ∧
 ((∀ C K τ h x, newW C K τ h (.assign x) = opW C τ h (.assign x) K) ∧
 (∀ C K h0 exc σ x y z, oldW C K h0 exc σ (.pick x y z) = opW C σ h0 (.pick x y z) K))) ∧
 (((∀ C K τ h x y z, newW C K τ h (.pick x y z) = opW C τ h (.pick x y z) K) ∧
 (∀ C K h0 exc σ t ps, oldW C K h0 exc σ (.build t ps) = opW C σ h0 (.build t ps) K)) ∧
 ((∀ C K τ h t ps, newW C K τ h (.build t ps) = opW C τ h (.build t ps) K) ∧
 (∀ C K h0 exc σ x, oldW C K h0 exc σ (.nilCheck x) = opW C σ h0 (.nilCheck x) K)))) ∧
 ((((∀ C K τ h x, newW C K τ h (.nilCheck x) = opW C τ h (.nilCheck x) K) ∧
 (∀ C K h0 exc σ op t x y u, oldW C K h0 exc σ (.binOp op t x y u) = opW C σ h0 (.binOp op t x y u) K)) ∧
 ((∀ C K τ h op t x y u, newW C K τ h (.binOp op t x y u) = opW C τ h (.binOp op t x y u) K) ∧
 (∀ C K h0 exc σ op t x, oldW C K h0 exc σ (.unOp op t x) = opW C σ h0 (.unOp op t x) K))) ∧
 (((∀ C K τ h op t x, newW C K τ h (.unOp op t x) = opW C τ h (.unOp op t x) K) ∧
 (∀ C K h0 exc σ t x, oldW C K h0 exc σ (.makeInterface t x) = opW C σ h0 (.makeInterface t x) K)) ∧
 ((∀ C K τ h t x, newW C K τ h (.makeInterface t x) = opW C τ h (.makeInterface t x) K) ∧
 (∀ C K h0 exc σ x u t b, oldW C K h0 exc σ (.typeAssert x u t b) = opW C σ h0 (.typeAssert x u t b) K))))) ∧
 ((((∀ C K τ h x u t b, newW C K τ h (.typeAssert x u t b) = opW C τ h (.typeAssert x u t b) K) ∧
 ((∀ C K h0 exc σ fn fi ca, oldW C K h0 exc σ (.makeFunc fn fi ca) = opW C σ h0 (.makeFunc fn fi ca) K) ∧
 (∀ C K τ h fn fi ca, newW C K τ h (.makeFunc fn fi ca) = opW C τ h (.makeFunc fn fi ca) K))) ∧
 (((∀ C K h0 exc σ t x lo hi mx, oldW C K h0 exc σ (.slice t x lo hi mx) = opW C σ h0 (.slice t x lo hi mx) K) ∧
 (∀ C K τ h t x lo hi mx, newW C K τ h (.slice t x lo hi mx) = opW C τ h (.slice t x lo hi mx) K)) ∧
 ((∀ C K h0 exc σ t x f, oldW C K h0 exc σ (.fieldAddr t x f) = opW C σ h0 (.fieldAddr t x f) K) ∧
 (∀ C K τ h t x f, newW C K τ h (.fieldAddr t x f) = opW C τ h (.fieldAddr t x f) K)))) ∧
 ((((∀ C K h0 exc σ t x f, oldW C K h0 exc σ (.field t x f) = opW C σ h0 (.field t x f) K) ∧
 (∀ C K τ h t x f, newW C K τ h (.field t x f) = opW C τ h (.field t x f) K)) ∧
 ((∀ C K h0 exc σ t x y, oldW C K h0 exc σ (.indexAddr t x y) = opW C σ h0 (.indexAddr t x y) K) ∧
 (∀ C K τ h t x y, newW C K τ h (.indexAddr t x y) = opW C τ h (.indexAddr t x y) K))) ∧
 (((∀ C K h0 exc σ t x y, oldW C K h0 exc σ (.index t x y) = opW C σ h0 (.index t x y) K) ∧
 (∀ C K τ h t x y, newW C K τ h (.index t x y) = opW C τ h (.index t x y) K)) ∧
 ((∀ C K h0 exc σ x i, oldW C K h0 exc σ (.extract x i) = opW C σ h0 (.extract x i) K) ∧
 (∀ C K τ h x i, newW C K τ h (.extract x i) = opW C τ h (.extract x i) K)))))) ∧
 (((((∀ C N n0 R Q d items τ h xs ts, bltR C N n0 R Q d items τ h xs ts .len = builtinW C (RunK R items d τ) h .len xs ts) ∧
 ((∀ C N n0 Q k h0 exc ops fuel listed R d nw τ h args ts, effW C N n0 Q k h0 exc ops fuel listed R d nw τ h (.call ⟨.builtin .len, args, ts⟩) = builtinW C (newN R d nw τ h) h .len (evs C τ args.toList) ts.toList) ∧
 (∀ C N n0 R Q d items τ h xs ts, bltR C N n0 R Q d items τ h xs ts .cap = builtinW C (RunK R items d τ) h .cap xs ts))) ∧
 (((∀ C N n0 Q k h0 exc ops fuel listed R d nw τ h args ts, effW C N n0 Q k h0 exc ops fuel listed R d nw τ h (.call ⟨.builtin .cap, args, ts⟩) = builtinW C (newN R d nw τ h) h .cap (evs C τ args.toList) ts.toList) ∧
 (∀ C N n0 R Q d items τ h xs ts, bltR C N n0 R Q d items τ h xs ts .min = builtinW C (RunK R items d τ) h .min xs ts)) ∧
 ((∀ C N n0 Q k h0 exc ops fuel listed R d nw τ h args ts, effW C N n0 Q k h0 exc ops fuel listed R d nw τ h (.call ⟨.builtin .min, args, ts⟩) = builtinW C (newN R d nw τ h) h .min (evs C τ args.toList) ts.toList) ∧
 (∀ C N n0 R Q d items τ h xs ts, bltR C N n0 R Q d items τ h xs ts .max = builtinW C (RunK R items d τ) h .max xs ts)))) ∧
 ((((∀ C N n0 Q k h0 exc ops fuel listed R d nw τ h args ts, effW C N n0 Q k h0 exc ops fuel listed R d nw τ h (.call ⟨.builtin .max, args, ts⟩) = builtinW C (newN R d nw τ h) h .max (evs C τ args.toList) ts.toList) ∧
 (∀ C N n0 Q k h0 exc ops fuel listed R d nw τ h f args ts, effW C N n0 Q k h0 exc ops fuel listed R d nw τ h (.call ⟨.value f, args, ts⟩) = dcallR C N n0 Q k h0 exc ops fuel listed (evs C τ args.toList) d nw τ h (ev C τ f))) ∧
 ((∀ C N n0 Q k h0 exc ops fuel listed R d nw τ h x, effW C N n0 Q k h0 exc ops fuel listed R d nw τ h (.panic x) = panR Q τ h (ev C τ x)) ∧
 (∀ C N n0 Q k h0 exc ops fuel listed R d nw τ h args ts, effW C N n0 Q k h0 exc ops fuel listed R d nw τ h (.call ⟨.builtin .append, args, ts⟩) = appR C (effN h0 exc R d nw τ h) (hide h0 exc h) (evs C τ args.toList) ts.toList))) ∧
 (((∀ C N n0 Q k h0 exc ops fuel listed R d nw τ h args ts, effW C N n0 Q k h0 exc ops fuel listed R d nw τ h (.call ⟨.builtin .copy, args, ts⟩) = dcopyR C N n0 Q k h0 exc ops fuel listed d nw τ h (evs C τ args.toList) ts.toList) ∧
 (∀ K h b i o v, ldV K h b i o (some (.s v)) = K (.s v) h)) ∧
 ((∀ K h b i o n e, ldV K h b i o (some (.f n e)) = K (.f n e) h) ∧
 (∀ K h b i o , ldV K h b i o (some (.z)) = K (.z) h))))) ∧
 ((((∀ K h b i o b2 o2 l2 c2, ldV K h b i o (some (.sl b2 o2 l2 c2)) = K (.sl b2 o2 l2 c2) h) ∧
 ((∀ K h b i o b2 i2 o2, ldV K h b i o (some (.ptr b2 i2 o2)) = K (.ptr b2 i2 o2) h) ∧
 (∀ K h b i o cs, ldV K h b i o (some (.pd cs)) = K (.pd cs) h))) ∧
 (((∀ K h b i o f cs, ldV K h b i o (some (.fn f cs)) = K (.fn f cs) h) ∧
 (∀ K h b i o , ldV K h b i o (some (.any)) = K (.any) h)) ∧
 ((∀ K b i o acc r h v, ldO K b i o acc ((.s v) :: r) h = ldO K b i o (acc ++ [(.s v)]) r h) ∧
 (∀ K b i o acc r h n e, ldO K b i o acc ((.f n e) :: r) h = ldO K b i o (acc ++ [(.f n e)]) r h)))) ∧
 ((((∀ K b i o acc r h , ldO K b i o acc ((.z) :: r) h = ldO K b i o (acc ++ [(.z)]) r h) ∧
 (∀ K b i o acc r h b2 o2 l2 c2, ldO K b i o acc ((.sl b2 o2 l2 c2) :: r) h = ldO K b i o (acc ++ [(.sl b2 o2 l2 c2)]) r h)) ∧
 ((∀ K b i o acc r h b2 i2 o2, ldO K b i o acc ((.ptr b2 i2 o2) :: r) h = ldO K b i o (acc ++ [(.ptr b2 i2 o2)]) r h) ∧
 (∀ K b i o acc r h cs, ldO K b i o acc ((.pd cs) :: r) h = ldO K b i o (acc ++ [(.pd cs)]) r h))) ∧
 (((∀ K b i o acc r h f cs, ldO K b i o acc ((.fn f cs) :: r) h = ldO K b i o (acc ++ [(.fn f cs)]) r h) ∧
 (∀ K R v, rsC K R (some (.s v)) = R fun vs => K ((.s v) :: vs))) ∧
 ((∀ K R n e, rsC K R (some (.f n e)) = R fun vs => K ((.f n e) :: vs)) ∧
 (∀ K R , rsC K R (some (.z)) = R fun vs => K ((.z) :: vs)))))))) :=
 ⟨⟨⟨⟨⟨(by intros; simp only [oldW, isA, true_and]),
 ⟨(by intros; simp only [newW, isA, true_and]),
 (by intros; simp only [oldW, isA, true_and])⟩⟩,
 ⟨⟨(by intros; simp only [newW, isA, true_and]),
 (by intros; simp only [oldW, isA, true_and])⟩,
 ⟨(by intros; simp only [newW, isA, true_and]),
 (by intros; simp only [oldW, isA, true_and])⟩⟩⟩,
 ⟨⟨⟨(by intros; simp only [newW, isA, true_and]),
 (by intros; simp only [oldW, isA, true_and])⟩,
 ⟨(by intros; simp only [newW, isA, true_and]),
 (by intros; simp only [oldW, isA, true_and])⟩⟩,
 ⟨⟨(by intros; simp only [newW, isA, true_and]),
 (by intros; simp only [oldW, isA, true_and])⟩,
 ⟨(by intros; simp only [newW, isA, true_and]),
 (by intros; simp only [oldW, isA, true_and])⟩⟩⟩⟩,
 ⟨⟨⟨(by intros; simp only [newW, isA, true_and]),
 ⟨(by intros; simp only [oldW, isA, true_and]),
 (by intros; simp only [newW, isA, true_and])⟩⟩,
 ⟨⟨(by intros; simp only [oldW, isA, true_and]),
 (by intros; simp only [newW, isA, true_and])⟩,
 ⟨(by intros; simp only [oldW, isA, true_and]),
 (by intros; simp only [newW, isA, true_and])⟩⟩⟩,
 ⟨⟨⟨(by intros; simp only [oldW, isA, true_and]),
 (by intros; simp only [newW, isA, true_and])⟩,
 ⟨(by intros; simp only [oldW, isA, true_and]),
 (by intros; simp only [newW, isA, true_and])⟩⟩,
 ⟨⟨(by intros; simp only [oldW, isA, true_and]),
 (by intros; simp only [newW, isA, true_and])⟩,
 ⟨(by intros; simp only [oldW, isA, true_and]),
 (by intros; simp only [newW, isA, true_and])⟩⟩⟩⟩⟩,
 ⟨⟨⟨⟨(by intros; rfl),
 ⟨(by intros; rfl),
 (by intros; rfl)⟩⟩,
 ⟨⟨(by intros; rfl),
 (by intros; rfl)⟩,
 ⟨(by intros; rfl),
 (by intros; rfl)⟩⟩⟩,
 ⟨⟨⟨(by intros; rfl),
 (by intros; rfl)⟩,
 ⟨(by intros; rfl),
 (by intros; rfl)⟩⟩,
 ⟨⟨(by intros; rfl),
 (by intros; rfl)⟩,
 ⟨(by intros; rfl),
 (by intros; rfl)⟩⟩⟩⟩,
 ⟨⟨⟨(by intros; rfl),
 ⟨(by intros; rfl),
 (by intros; rfl)⟩⟩,
 ⟨⟨(by intros; rfl),
 (by intros; rfl)⟩,
 ⟨(by intros; simp only [ldO, cellOk, true_and]),
 (by intros; simp only [ldO, cellOk, true_and])⟩⟩⟩,
 ⟨⟨⟨(by intros; simp only [ldO, cellOk, true_and]),
 (by intros; simp only [ldO, cellOk, true_and])⟩,
 ⟨(by intros; simp only [ldO, cellOk, true_and]),
 (by intros; simp only [ldO, cellOk, true_and])⟩⟩,
 ⟨⟨(by intros; simp only [ldO, cellOk, true_and]),
 (by intros; simp only [rsC, notTup, true_and])⟩,
 ⟨(by intros; simp only [rsC, notTup, true_and]),
 (by intros; simp only [rsC, notTup, true_and])⟩⟩⟩⟩⟩⟩
theorem wb10 :
 ((((((∀ K R b2 o2 l2 c2, rsC K R (some (.sl b2 o2 l2 c2)) = R fun vs => K ((.sl b2 o2 l2 c2) :: vs)) ∧
 ((∀ K R b2 i2 o2, rsC K R (some (.ptr b2 i2 o2)) = R fun vs => K ((.ptr b2 i2 o2) :: vs)) ∧
 (∀ K R cs, rsC K R (some (.pd cs)) = R fun vs => K ((.pd cs) :: vs)))) ∧
 (((∀ K R f cs, rsC K R (some (.fn f cs)) = R fun vs => K ((.fn f cs) :: vs)) ∧
 (∀ v, notTup (.s v) = true)) ∧
 ((∀ n e, notTup (.f n e) = true) ∧
 (notTup (.z) = true)))) ∧
 ((((∀ b2 o2 l2 c2, notTup (.sl b2 o2 l2 c2) = true) ∧
 (∀ b2 i2 o2, notTup (.ptr b2 i2 o2) = true)) ∧
 ((∀ cs, notTup (.pd cs) = true) ∧
 (∀ f cs, notTup (.fn f cs) = true))) ∧
 (((notTup (.any) = true) ∧
 (∀ cs, notTup (.agg cs) = true)) ∧
 ((∀ r v, rnP r (.s v) = (.s v)) ∧
 (∀ r v, rnC r (.s v) = (.s v)))))) ∧
 ((((∀ r v, rnQ r (.s v) = (.s v)) ∧
 ((∀ r v, rnV r (.s v) = (.s v)) ∧
 (∀ r n e, rnP r (.f n e) = (.f n e)))) ∧
 (((∀ r n e, rnC r (.f n e) = (.f n e)) ∧
 (∀ r n e, rnQ r (.f n e) = (.f n e))) ∧
 ((∀ r n e, rnV r (.f n e) = (.f n e)) ∧
 (∀ r , rnP r (.z) = (.z))))) ∧
 ((((∀ r , rnC r (.z) = (.z)) ∧
 (∀ r , rnQ r (.z) = (.z))) ∧
 ((∀ r , rnV r (.z) = (.z)) ∧
 (∀ r cs, rnP r (.pd cs) = (.pd cs)))) ∧
 (((∀ r cs, rnC r (.pd cs) = (.pd cs)) ∧
 (∀ r cs, rnQ r (.pd cs) = (.pd cs))) ∧
 ((∀ r cs, rnV r (.pd cs) = (.pd cs)) ∧
 (∀ r , rnP r (.any) = (.any))))))) ∧
 (((((∀ r , rnC r (.any) = (.any)) ∧
 ((∀ r , rnQ r (.any) = (.any)) ∧
 (∀ r , rnV r (.any) = (.any)))) ∧
 (((∀ r n e, rnP r (.l n e) = (.l n e)) ∧
 (∀ r n e, rnC r (.l n e) = (.l n e))) ∧
 ((∀ r n e, rnQ r (.l n e) = (.l n e)) ∧
 (∀ r n e, rnV r (.l n e) = (.l n e))))) ∧
 ((((∀ r cs, rnP r (.lp cs) = (.lp cs)) ∧
 (∀ r cs, rnC r (.lp cs) = (.lp cs))) ∧
 ((∀ r cs, rnQ r (.lp cs) = (.lp cs)) ∧
 (∀ r cs, rnV r (.lp cs) = (.lp cs)))) ∧
 (((∀ r b off len cap, rnC r (.sl b off len cap) = (.sl (r b) off len cap)) ∧
 (∀ r b off len cap, rnQ r (.sl b off len cap) = (.sl (r b) off len cap))) ∧
 ((∀ r b off len cap, rnV r (.sl b off len cap) = (.sl (r b) off len cap)) ∧
 (∀ r b i o, rnC r (.ptr b i o) = (.ptr (r b) i o)))))) ∧
 ((((∀ r b i o, rnQ r (.ptr b i o) = (.ptr (r b) i o)) ∧
 ((∀ r b i o, rnV r (.ptr b i o) = (.ptr (r b) i o)) ∧
 (∀ r f cs, rnQ r (.fn f cs) = .fn f (cs.map (rnP r))))) ∧
 (((∀ r f cs, rnV r (.fn f cs) = .fn f (cs.map (rnP r))) ∧
 (∀ r cs, rnV r (.agg cs) = .agg (cs.map (rnC r)))) ∧
 ((∀ id c k, popTo id (.code c :: k) = popTo id k) ∧
 (∀ id a b k, popTo id (.ops a b :: k) = popTo id k)))) ∧
 ((((∀ n0 R h, tupOf n0 R h [] = Up n0 R (.ret (.tup [])) h) ∧
 (∀ n0 R h a b r, tupOf n0 R h (a :: b :: r) = ((a :: b :: r).all notTup = true ∧ Up n0 R (.ret (.tup (a :: b :: r))) h))) ∧
 ((∀ k n, ofV (.int k n) = .s (.int k n)) ∧
 (∀ k n, ofV1 (.int k n) = .s (.int k n)))) ∧
 (((∀ k n, isNil (.const (.int k n)) = .no) ∧
 (∀ b, ofV (.bool b) = .s (.bool b))) ∧
 ((∀ b, ofV1 (.bool b) = .s (.bool b)) ∧
 (∀ b, isNil (.const (.bool b)) = .no))))))) :=
 ⟨⟨⟨⟨⟨(by intros; simp only [rsC, notTup, true_and]),
 ⟨(by intros; simp only [rsC, notTup, true_and]),
 (by intros; simp only [rsC, notTup, true_and])⟩⟩,
 ⟨⟨(by intros; simp only [rsC, notTup, true_and]),
 (by intros; rfl)⟩,
 ⟨(by intros; rfl),
 (by intros; rfl)⟩⟩⟩,
 ⟨⟨⟨(by intros; rfl),
 (by intros; rfl)⟩,
 ⟨(by intros; rfl),
 (by intros; rfl)⟩⟩,
 ⟨⟨(by intros; rfl),
 (by intros; rfl)⟩,
 ⟨(by intros; rfl),
 (by intros; rfl)⟩⟩⟩⟩,
 ⟨⟨⟨(by intros; rfl),
 ⟨(by intros; rfl),
 (by intros; rfl)⟩⟩,
 ⟨⟨(by intros; rfl),
 (by intros; rfl)⟩,
 ⟨(by intros; rfl),
 (by intros; rfl)⟩⟩⟩,
 ⟨⟨⟨(by intros; rfl),
 (by intros; rfl)⟩,
 ⟨(by intros; rfl),
 (by intros; rfl)⟩⟩,
 ⟨⟨(by intros; rfl),
 (by intros; rfl)⟩,
 ⟨(by intros; rfl),
 (by intros; rfl)⟩⟩⟩⟩⟩,
 ⟨⟨⟨⟨(by intros; rfl),
 ⟨(by intros; rfl),
 (by intros; rfl)⟩⟩,
 ⟨⟨(by intros; rfl),
 (by intros; rfl)⟩,
 ⟨(by intros; rfl),
 (by intros; rfl)⟩⟩⟩,
 ⟨⟨⟨(by intros; rfl),
 (by intros; rfl)⟩,
 ⟨(by intros; rfl),
 (by intros; rfl)⟩⟩,
 ⟨⟨(by intros; rfl),
 (by intros; rfl)⟩,
 ⟨(by intros; rfl),
 (by intros; rfl)⟩⟩⟩⟩,
 ⟨⟨⟨(by intros; rfl),
 ⟨(by intros; rfl),
 (by intros; rfl)⟩⟩,
 ⟨⟨(by intros; rfl),
 (by intros; rfl)⟩,
 ⟨(by intros; rfl),
 (by intros; rfl)⟩⟩⟩,
 ⟨⟨⟨(by intros; simp only [tupOf, List.all_nil, true_and]),
 (by intros; rfl)⟩,
 ⟨(by intros; rfl),
 (by intros; rfl)⟩⟩,
 ⟨⟨(by intros; rfl),
 (by intros; rfl)⟩,
 ⟨(by intros; rfl),
 (by intros; rfl)⟩⟩⟩⟩⟩⟩
theorem wb11 :
 ((((((∀ x, ofV (.string x) = .s (.string x)) ∧
 ((∀ x, ofV1 (.string x) = .s (.string x)) ∧
 (∀ x, isNil (.const (.string x)) = .no))) ∧
 (((ofV (.pointer none) = .s (.pointer none)) ∧
 (ofV1 (.pointer none) = .s (.pointer none))) ∧
 ((isNil (.const (.pointer none)) = .no) ∧
 (ofV (.nilIface) = .s (.nilIface))))) ∧
 ((((ofV1 (.nilIface) = .s (.nilIface)) ∧
 (ofV (.nilFunc) = .s (.nilFunc))) ∧
 ((ofV1 (.nilFunc) = .s (.nilFunc)) ∧
 (isNil (.const (.nilFunc)) = .no))) ∧
 (((∀ t v, ofV (.iface t v) = .s (.iface t v)) ∧
 (∀ t v, ofV1 (.iface t v) = .s (.iface t v))) ∧
 ((∀ t v, isNil (.const (.iface t v)) = .no) ∧
 (ofV (.map none) = .s (.map none)))))) ∧
 ((((ofV1 (.map none) = .s (.map none)) ∧
 ((isNil (.const (.map none)) = .no) ∧
 (ofV (.slice none 0 0) = .z))) ∧
 (((∀ t, isNil (.tmp t) = .no) ∧
 (∀ f, isNil (.func f) = .no)) ∧
 ((∀ g, isNil (.global g) = .no) ∧
 (∀ cs, isNil (.const (.agg cs)) = .no)))) ∧
 ((((∀ place cells rest off size xs, fillS place cells rest (some (off, size)) (some xs) = if xs.length = size ∧ off + xs.length ≤ cells.length then fillV place (wrL cells off xs) rest else none) ∧
 (∀ n els i rest xs, fillES n els i rest (some xs) = if xs.length = n ∧ i < els.length then fillE n (els.set i xs) rest else none)) ∧
 ((∀ b l, bytesS (some b) (some l) = some (b :: l)) ∧
 (∀ v l, scalS v (some l) = some (v :: l)))) ∧
 (((∀ n0 k h n els, frzL n0 k h (some n) (some els) = .f n (els.map fun el => el.map (frz n0 k h))) ∧
 (∀ n0 k h o el, frzP n0 k h o (some el) = .pd ((el.drop o).map (frz n0 k h)))) ∧
 ((∀ h b i o x b1, foldS1 h b i o x (some b1) = foldS2 h b i o b1 (ownOf x (h[b1]?))) ∧
 (∀ h b i o b1 y, foldS2 h b i o b1 (some y) = if nrs (elsB (h[b1]?)) = true ∧ b1 ≠ b then (wrH h b i o [y]).set b1 Blk.dead else h)))))) ∧
 (((((nrs [] = true) ∧
 ((∀ el r, nrs (el :: r) = (el.all nr && nrs r)) ∧
 (leafs [] = true))) ∧
 (((∀ el r, leafs (el :: r) = (el.all cellOk && leafs r)) ∧
 (∀ K h C t u s x e, appE K h C t u s x (some e) = appF K h C t u e s x (tK C.P u))) ∧
 ((∀ K h C t u e s x e2, appF K h C t u e s x (.slice e2) = (t = u ∧ appT K h s x (tSz C.P e) (tBytes C.P e) (tZ C.P e))) ∧
 (∀ (K : V → H → Prop) (h : H) (C : Cx) (t u : TypeId) (s x : V), appW K h C t u s x = appE K h C t u s x (tElem C.P t))))) ∧
 ((((∀ (R : List Nat → Tau → H → Prop) (d : Option Nat) (nw : List Nat) (τ : Tau) (h : H) (v : V) (h' : H), oldN R d nw τ h v h' = R nw (upo d v τ) h) ∧
 (∀ (R : List Nat → Tau → H → Prop) (d : Option Nat) (nw : List Nat) (τ : Tau) (h : H) (v : V) (h' : H), newN R d nw τ h v h' = R (addN d nw) (upo d v τ) h)) ∧
 ((∀ (t : Nat), ([] : List Nat).contains t = false) ∧
 (∀ (a : Nat) (l : List Nat) (t : Nat), (a :: l).contains t = (t == a || l.contains t)))) ∧
 (((∀ (place : Nat → Option (Nat × Nat)) (cells : List V) (i : Nat) (v : V) (rest : List (Nat × V)), fillV place cells ((i, v) :: rest) = fillS place cells rest (place i) (cellsOf v)) ∧
 (∀ (n : Nat) (els : List (List V)) (i : Nat) (v : V) (rest : List (Nat × V)), fillE n els ((i, v) :: rest) = fillES n els i rest (cellsOf v))) ∧
 ((∀ (p b k r : Bool), andO p b k (some r) = if k = true then some (p && r) else none) ∧
 (∀ (k : IntKind) (a : Int) (xs : List V) (k' : IntKind) (b : Int) (ys : List V), eqCells (.s (.int k a) :: xs) (.s (.int k' b) :: ys) = andO (decide (a = b)) true (decide (k = k')) (eqCells xs ys)))))) ∧
 ((((∀ (a b : ByteArray) (xs ys : List V), eqCells (.s (.string a) :: xs) (.s (.string b) :: ys) = andO (decide (a = b)) true true (eqCells xs ys)) ∧
 ((∀ (a b : Bool) (xs ys : List V), eqCells (.s (.bool a) :: xs) (.s (.bool b) :: ys) = andO (a == b) true true (eqCells xs ys)) ∧
 (∀ (el : List V) (r : List (List V)), bytesOf (el :: r) = bytesS (byteOf el) (bytesOf r)))) ∧
 (((∀ (v : Value) (r : List V), scal (.s v :: r) = scalS v (scal r)) ∧
 (∀ (n0 k : Nat) (h : H) (b off len cap : Nat), frz n0 (k + 1) h (.sl b off len cap) = if b < n0 then .any else frzL n0 k h (strideB (h[b]?)) (elsOf off len (h[b]?)))) ∧
 ((∀ (n0 k : Nat) (h : H) (b i o : Nat), frz n0 (k + 1) h (.ptr b i o) = if b < n0 then .any else frzP n0 k h o (rdB (h[b]?) i)) ∧
 (∀ (h : H) (b i o : Nat) (x : V), foldK h b i o (some x) = foldS1 h b i o x (refB x))))) ∧
 ((((∀ (d : Nat) (v : V) (τ : Tau) (t : Nat), up d v τ t = if t = d then v else τ t) ∧
 (∀ (v : V) (r : List V) (t : Nat), argsT (v :: r) (t + 1) = argsT r t)) ∧
 ((∀ (v : V) (r : List V), argsT (v :: r) 0 = v) ∧
 (∀ (d : Option Nat) (op : Op) (ty : TypeId) (pos : String) after g (r : List Oper), dstOf (⟨d, op, ty, pos, after, g⟩ :: r) 0 = d))) ∧
 (((∀ (o : Oper) (r : List Oper) (j : Nat), dstOf (o :: r) (j + 1) = dstOf r j) ∧
 (∀ (all : List Oper) (τ : Tau) (j : Nat), gV all τ j = gW τ (dstOf all j))) ∧
 ((∀ (all : List Oper) (j : Nat) (b : Bool) (τ : Tau), gSet all j b τ = gS b τ (dstOf all j)) ∧
 (∀ (h : H) (b i o : Nat) (xs : List V), wrH h b i o xs = h.set b (wrB (h[b]?) i o xs)))))))) :=
 ⟨⟨⟨⟨⟨(by intros; rfl),
 ⟨(by intros; rfl),
 (by intros; rfl)⟩⟩,
 ⟨⟨(by intros; rfl),
 (by intros; rfl)⟩,
 ⟨(by intros; rfl),
 (by intros; rfl)⟩⟩⟩,
 ⟨⟨⟨(by intros; rfl),
 (by intros; rfl)⟩,
 ⟨(by intros; rfl),
 (by intros; rfl)⟩⟩,
 ⟨⟨(by intros; rfl),
 (by intros; rfl)⟩,
 ⟨(by intros; rfl),
 (by intros; rfl)⟩⟩⟩⟩,
 ⟨⟨⟨(by intros; rfl),
 ⟨(by intros; rfl),
 (by intros; rfl)⟩⟩,
 ⟨⟨(by intros; rfl),
 (by intros; rfl)⟩,
 ⟨(by intros; rfl),
 (by intros; rfl)⟩⟩⟩,
 ⟨⟨⟨(by intros; rfl),
 (by intros; rfl)⟩,
 ⟨(by intros; rfl),
 (by intros; rfl)⟩⟩,
 ⟨⟨(by intros; rfl),
 (by intros; rfl)⟩,
 ⟨(by intros; rfl),
 (by intros; rfl)⟩⟩⟩⟩⟩,
 ⟨⟨⟨⟨(by intros; rfl),
 ⟨(by intros; rfl),
 (by intros; rfl)⟩⟩,
 ⟨⟨(by intros; rfl),
 (by intros; rfl)⟩,
 ⟨(by intros; rfl),
 appW_at⟩⟩⟩,
 ⟨⟨⟨oldN_at,
 newN_at⟩,
 ⟨mem_nil,
 mem_cons⟩⟩,
 ⟨⟨fillV_cons,
 fillE_cons⟩,
 ⟨andO_some,
 eqCells_int⟩⟩⟩⟩,
 ⟨⟨⟨eqCells_str,
 ⟨eqCells_bool,
 bytesOf_cons⟩⟩,
 ⟨⟨scal_cons,
 frz_sl⟩,
 ⟨frz_ptr,
 foldK_some⟩⟩⟩,
 ⟨⟨⟨up_at,
 argsT_at⟩,
 ⟨argsT_zero,
 dstOf_zero⟩⟩,
 ⟨⟨dstOf_succ,
 gV_at⟩,
 ⟨gSet_at,
 wrH_at⟩⟩⟩⟩⟩⟩
theorem wb12 :
 ((((∀ (R : List It → Tau → H → Prop) (items : List It) (d : Option Nat) (τ : Tau) (v : V) (h : H), RunK R items d τ v h = R items (upo d v τ) h) ∧
 ((∀ (h0 : H) (exc : List Nat) (R : List Nat → Tau → H → Prop) (d : Option Nat) (nw : List Nat) (τ : Tau) (h : H) (v : V) (h' : H), effN h0 exc R d nw τ h v h' = R (addN d nw) (upo d v τ) (show_ h0 exc h h')) ∧
 (∀ (nw : List Nat) (τ : Tau) (t : Nat), restr nw τ t = if nw.contains t = true then .any else τ t))) ∧
 ((∀ (n : Nat) (exc : List Nat) (i : Nat), hid n exc i = (decide (i < n) && !exc.contains i)) ∧
 ((∀ (h0 : H) (exc : List Nat) (h : H), hide h0 exc h = mask h0.length exc 0 h) ∧
 (∀ (h0 : H) (exc : List Nat) (h h' : H), show_ h0 exc h h' = unmask h0.length exc 0 h h')))) ∧
 (((∀ (r : Nat → Nat) (els : List (List V)) (n cap : Nat) (l : Bool), rnB r ⟨els, n, cap, l⟩ = ⟨els.map fun el => el.map (rnC r), n, cap, l⟩) ∧
 ((∀ (h : H) (b i o : Nat), foldC h b i o = foldK h b i o (rdC (rdB (h[b]?) i) o)) ∧
 (∀ (l : List Nat) (L b : Nat), emb l L b = (l[b]?).getD (L + (b - l.length))))) ∧
 (((∀ (n0 : Nat) (h : H), killFrom n0 h = h.take n0 ++ (h.drop n0).map fun _ => Blk.dead) ∧
 (∀ (K : V → H → Prop) (h : H) (s : ByteArray) (l r : Int), cutS K h s l r = ((0 ≤ l ∧ l ≤ r ∧ r ≤ s.size) ∧ K (.s (.string (s.extract l.toNat r.toNat))) h))) ∧
 ((∀ (K : V → H → Prop) (h : H) (n : Nat) (els : List (List V)) (l r : Int), cutF K h n els l r = ((0 ≤ l ∧ l ≤ r ∧ r ≤ els.length) ∧ K (.f n ((els.drop l.toNat).take (r.toNat - l.toNat))) h)) ∧
 (∀ (l : List Nat) (big b : Nat), nm l big b = (l[b]?).getD big))))) :=
 ⟨⟨⟨runK_at,
 ⟨effN_at,
 restr_at⟩⟩,
 ⟨hid_at,
 ⟨hide_at,
 show_at⟩⟩⟩,
 ⟨⟨rnB_at,
 ⟨foldC_at,
 emb_at⟩⟩,
 ⟨⟨killFrom_at,
 cutS_at⟩,
 ⟨cutF_at,
 nm_at⟩⟩⟩⟩
-- groups: wb1 wb2 wb3 wb4 wb5 wb6 wb7 wb8 wb9 wb10 wb11 wb12
end Go.W
/- part WS -/
set_option linter.all false
namespace Go.W
open Go Go.RowKit
theorem ite_t {α : Type} (a b : α) : (if True then a else b) = a := by simp
theorem ite_f {α : Type} (a b : α) : (if False then a else b) = b := by simp
theorem ite_bt {α : Type} (a b : α) : (if true = true then a else b) = a := by simp
theorem ite_bf {α : Type} (a b : α) : (if false = true then a else b) = b := by simp
noncomputable def WB1 := And.intro (And.intro @gX_at @gXW_some) <| And.intro (And.intro (And.intro wb1 wb2) (And.intro wb3 wb4)) (And.intro (And.intro (And.intro wb5 wb6) (And.intro wb7 wb8)) (And.intro (And.intro wb9 wb10) (And.intro wb11 wb12)))
noncomputable def WB2 := And.intro (And.intro (And.intro (And.intro @List.cons_append.{0} @List.nil_append.{0}) (And.intro @List.append_nil.{0} @List.length_cons.{0})) (And.intro (And.intro @List.length_nil.{0} @List.getElem?_cons_zero.{0}) (And.intro @List.getElem?_cons_succ.{0} @List.set_cons_zero.{0})))
 (And.intro (And.intro (And.intro (And.intro @List.set_cons_succ.{0} @List.drop_zero.{0}) (And.intro @List.drop_succ_cons.{0} @List.take_succ_cons.{0})) (And.intro (And.intro @List.take_zero.{0} @List.take_nil.{0}) (And.intro @List.drop_nil.{0} @List.map_cons.{0,0})))
 (And.intro (And.intro (And.intro (And.intro @List.map_nil.{0,0} @List.all_cons.{0}) (And.intro @List.all_nil.{0} @List.replicate_zero.{0})) (And.intro (And.intro @List.replicate_succ.{0} @List.flatten_nil.{0}) (And.intro @List.flatten_cons.{0} @List.getElem?_nil.{0})))
 (And.intro (And.intro (And.intro (And.intro @Option.map_some.{0,0} @Option.map_none.{0,0}) (And.intro @Option.getD_some.{0} @Option.getD_none.{0})) (And.intro (And.intro @ite_t @ite_f) (And.intro @ite_bt @ite_bf)))
 (And.intro (And.intro (And.intro (And.intro Nat.zero_mul Nat.zero_add) (And.intro Nat.add_zero Nat.mul_one)) (And.intro (And.intro Int.toNat_zero Int.toNat_natCast) (And.intro @forall_const.{1} true_and)))
 (And.intro (And.intro (And.intro (And.intro and_true false_and) (And.intro and_false not_true_eq_false)) (And.intro (And.intro not_false_eq_true true_implies) (And.intro @implies_true.{1} Bool.not_true)))
 (And.intro (And.intro (And.intro (And.intro Bool.not_false Bool.and_self) (And.intro Bool.and_true Bool.true_and)) (And.intro (And.intro Bool.true_or Bool.or_true) (And.intro Bool.false_or Bool.or_false)))
 (And.intro (And.intro (And.intro Bool.false_and Bool.and_false) (And.intro @ne_eq.{1} @bcase_true)) (And.intro @List.toList_toArray.{0} (And.intro @List.size_toArray.{0} @bcase_false)))))))))
end Go.W
/- part W24 -/
set_option linter.unusedVariables false
set_option linter.unusedSimpArgs false
namespace Go.W
open Go Go.RowKit

structure PureV (C : Cx) (f : Nat) (args : List V) (r : V) : Prop where
  cr : ∀ ρ, rnV ρ r = r
  ca : ∀ ρ, args.map (rnV ρ) = args
  calls : CallsV C f args [] fun res h' => res = .ret r ∧ h' = []

def tupP (d : Nat) (K : V → Prop) (h : H) : List V → Prop
  | [v] => K (frz 0 d h v)
  | vs => vs.all notTup = true ∧ K (frz 0 d h (.tup vs))
def pureQ (C : Cx) (fn : Func) (d : Nat) (K : V → Prop) : QT
  | .normal, τ, h => resW C h τ fn.results.toList (tupP d K h)
  | .ret, τ, h => resW C h τ fn.results.toList (tupP d K h)
  | _, _, _ => False

theorem frz_closed (r : Nat → Nat) (n0 : Nat) (h : H) : ∀ (d : Nat) (v : V), rnP r (frz n0 d h v) = frz n0 d h v ∧ rnC r (frz n0 d h v) = frz n0 d h v ∧ rnQ r (frz n0 d h v) = frz n0 d h v ∧ rnV r (frz n0 d h v) = frz n0 d h v
  | 0, v => by cases v <;> simp [frz, rnC, rnP, rnQ, rnV]
  | d + 1, v => by
    have ih := fun v => frz_closed r n0 h d v
    cases v with
    | sl b off len cap =>
      rw [frz_sl]; split
      · simp [rnC, rnP, rnQ, rnV]
      · unfold frzL; split <;> simp [rnC, rnP, rnQ, rnV]
    | ptr b i o =>
      rw [frz_ptr]; split
      · simp [rnC, rnP, rnQ, rnV]
      · unfold frzP; split <;> simp [rnC, rnP, rnQ, rnV]
    | fn f caps =>
      have e : (caps.map (frz n0 d h)).map (rnP r) = caps.map (frz n0 d h) := by simp [fun v => (ih v).1]
      simp only [frz, rnC, rnP, rnQ, rnV, e, and_self]
    | agg cs =>
      have e : (cs.map (frz n0 d h)).map (rnC r) = cs.map (frz n0 d h) := by simp [fun v => (ih v).2.1]
      simp only [frz, rnC, rnP, rnQ, rnV, e, and_self]
    | tup cs =>
      have e : (cs.map (frz n0 d h)).map (rnQ r) = cs.map (frz n0 d h) := by simp [fun v => (ih v).2.2.1]
      simp only [frz, rnC, rnP, rnQ, rnV, e, and_self]
    | _ => simp [frz, rnC, rnP, rnQ, rnV]

theorem Up.pure {C : Cx} {h : H} {R : Res → H → Prop} {v : V} (d : Nat) (hr : R (.ret (frz 0 d h v)) []) : Up 0 R (.ret v) h := by
  refine ⟨frz 0 d h v, [], _, (Arr.frz d).trans (Arr.gc (l := []) (h' := []) ?_), ⟨frz 0 d h v, .inr rfl, .inr ?_⟩, hr⟩
  · exact ⟨rfl, List.nodup_nil, Nat.le_refl _, fun i hi => by omega, fun i B' hB => by simp at hB⟩
  · exact (frz_closed _ 0 h d v).2.2.2.symm

theorem resW_mono {C : Cx} {h : H} {τ : Tau} {K K' : List V → Prop} (hk : ∀ vs, K vs → K' vs) : ∀ {rs : List ResultVar}, resW C h τ rs K → resW C h τ rs K' := by
  intro rs
  induction rs generalizing K K' with
  | nil => intro q; simp only [resW] at *; exact hk _ q
  | cons x rs ih =>
    intro q
    cases x with
    | tmp t => simp only [resW] at *; exact ih (fun vs q => hk _ q) q
    | cell a t =>
      simp only [resW] at *
      unfold rsP at *
      split at q
      · unfold rsT at *
        split at q
        · unfold rsA at *
          split at q
          · exact ⟨q.1, ih (fun vs q => hk _ q) q.2⟩
          · exact q.elim
        · unfold rsC at *
          split at q
          · exact q.elim
          · exact q.elim
          · rename_i v _ _ hv
            exact ⟨q.1, ih (fun vs q => hk _ q) q.2⟩
          · exact q.elim
        · exact q.elim
      · exact q.elim

theorem pureQ_body {C : Cx} {fn : Func} {d : Nat} {K : V → Prop} {R : Res → H → Prop} (hK : ∀ v, K v → R (.ret v) []) : ∀ x τ h, pureQ C fn d K x τ h → bodyQ C 0 fn R x τ h := by
  have key : ∀ τ h, resW C h τ fn.results.toList (tupP d K h) → resW C h τ fn.results.toList (tupOf 0 R h) := fun τ h q => by
    refine resW_mono (fun vs q => ?_) q
    match vs, q with
    | [], q => exact ⟨rfl, Up.pure (C := C) d (hK _ q.2)⟩
    | [v], q => exact Up.pure (C := C) d (hK _ q)
    | a :: b :: r, q => exact ⟨q.1, Up.pure (C := C) d (hK _ q.2)⟩
  intro x τ h q
  cases x with
  | normal => exact key τ h q
  | ret => exact key τ h q
  | exit id => exact q.elim
  | pan v => exact q.elim
theorem pure_of_run {C : Cx} {f : Nat} {fn : Func} {c : Code} {args : List V} {r : V} (hf : C.P.funcs[f]? = some fn) (hb : fn.body = some c) (hn : enters C.P f = true)
    (hc : codeOk fn.ntmps c = true) (hl : args.length ≤ fn.ntmps) (ha : ∀ ρ, args.map (rnV ρ) = args) (hcr : ∀ ρ, rnV ρ r = r) (d n : Nat) (hr : Run C fn.ntmps 0 n (pureQ C fn d (fun v => v = r)) [.code c] (argsT args) []) (hrd : C.rd = none := by rfl) : PureV C f args r := by
  refine ⟨hcr, ha, calls_of_wc hf hb hn hc hl ?_ hrd⟩
  have hsem := Run_sound n _ [.code c] (argsT args) [] (by simp [itOk, hc]) hr
  exact WC.mono hsem (pureQ_body (d := d) (K := fun v => v = r) fun v e => by subst e; exact ⟨rfl, rfl⟩)

theorem panFree_pure {C : Cx} (fn : Func) (d : Nat) (K : V → Prop) : PanFree (pureQ C fn d K) := fun v τ τ' h q => q

section
variable {C : Cx} {N n0 m : Nat} {Q : QT} {k : List It} {τ : Tau} {h : H}
theorem PureV.at_ {f : Nat} {args : List V} {r : V} (p : PureV C f args r) (H : H) : CallsV C f args H fun res h' => res = .ret r ∧ h' = H := by
  have := CallsV.lift p.calls H
  rw [p.ca] at this
  refine this.mono fun res h' ⟨r1, h1, ⟨e1, e2⟩, e3, e4⟩ => ?_
  subst e1; subst e2
  refine ⟨by rw [e3]; simp only [rnRes, p.cr], by rw [e4]; simp⟩
theorem CallThen.pure {f : Nat} {args : List V} {r : V} {d : Option Nat} (p : PureV C f args r) (m : Nat) (hr : Run C N n0 m Q k (upo d r τ) h) : CallThen C N n0 Q f args d k τ h :=
  CallThen.of m (p.at_ h) fun res h' ⟨e1, e2⟩ => by subst e1; subst e2; exact hr
theorem show_hide (n : Nat) (exc : List Nat) : ∀ (i : Nat) (h : H), unmask n exc i h (mask n exc i h) = h
  | _, [] => rfl
  | i, B :: h => by
    simp only [mask, unmask, show_hide n exc (i + 1) h]
    split <;> rfl
theorem DCall.pure {h0 : H} {exc : List Nat} {ops : Array Oper} {fuel : Nat} {listed : Array Bool} {f : Nat} {args : List V} {r : V} {d : Option Nat} {nw : List Nat} (p : PureV C f args r) (m : Nat) (td : TD) (hd : drawOk ops [] listed td = true)
    (hr : RunD C N n0 m Q k h0 exc ops fuel listed td (addN d nw) (upo d r τ) h) : DCall C N n0 Q h0 exc ops fuel listed k f args d nw τ h :=
  DCall.of m td hd (p.at_ _) fun res h' ⟨e1, e2⟩ => by
    subst e1; subst e2
    show RunD C N n0 m Q k h0 exc ops fuel listed td (addN d nw) (upo d r τ) (unmask h0.length exc 0 h (mask h0.length exc 0 h))
    rw [show_hide]; exact hr

theorem ex_succ (k : Nat) : (∃ n, some (k + 1) = some (n + 1)) = True := by simp
theorem bcase_if (p : Prop) [Decidable p] (x y : Prop) : bcase (decide p) x y = ((p → x) ∧ (¬ p → y)) := by
  by_cases h : p <;> simp [bcase, h]
theorem bcase_ifn (p : Prop) [Decidable p] (x y : Prop) : bcase (!decide p) x y = ((¬ p → x) ∧ (p → y)) := by
  by_cases h : p <;> simp [bcase, h]
theorem wrap_i64 {a : Int} (h1 : -9223372036854775808 ≤ a) (h2 : a ≤ 9223372036854775807) : IntKind.i64.wrap a = a := by
  simp only [IntKind.wrap, IntKind.signed, IntKind.bits, Bool.true_and, decide_eq_true_eq, ge_iff_le]
  split <;> omega
theorem tupP_one (d : Nat) (K : V → Prop) (h : H) (v : V) : tupP d K h [v] = K (frz 0 d h v) := rfl
theorem tupP_nil (d : Nat) (K : V → Prop) (h : H) : tupP d K h [] = K (frz 0 d h (.tup [])) := by simp [tupP]
theorem tupP_two (d : Nat) (K : V → Prop) (h : H) (a b : V) (r : List V) : tupP d K h (a :: b :: r) = ((a :: b :: r).all notTup = true ∧ K (frz 0 d h (.tup (a :: b :: r)))) := rfl
theorem pureQ_ret (fn : Func) (d : Nat) (K : V → Prop) : pureQ C fn d K .ret τ h = resW C h τ fn.results.toList (tupP d K h) := rfl
theorem pureQ_normal (fn : Func) (d : Nat) (K : V → Prop) : pureQ C fn d K .normal τ h = resW C h τ fn.results.toList (tupP d K h) := rfl
end
theorem frzs_s (n0 d : Nat) (h : H) (v : Value) : frz n0 d h (.s v) = .s v := by cases d <;> rfl
theorem frzs_f (n0 d : Nat) (h : H) (n els) : frz n0 d h (.f n els) = .f n els := by cases d <;> rfl
theorem frzs_z (n0 d : Nat) (h : H) : frz n0 d h .z = .z := by cases d <;> rfl
theorem frzs_pd (n0 d : Nat) (h : H) (cs) : frz n0 d h (.pd cs) = .pd cs := by cases d <;> rfl
set_option linter.all false in
noncomputable def WB3 := And.intro (And.intro (And.intro and_self @implies_true.{0}) (And.intro @forall_const.{0} @List.getElem?_map.{0,0}))  <| And.intro (And.intro (And.intro ex_succ @bcase_if) (And.intro @bcase_ifn tupP_one)) (And.intro (And.intro tupP_nil tupP_two) (And.intro (And.intro @pureQ_ret @pureQ_normal) (And.intro (And.intro frzs_s frzs_f) (And.intro frzs_z frzs_pd))))
end Go.W
/- part W25 -/
set_option linter.unusedVariables false
set_option linter.unusedSimpArgs false
namespace Go.W
open Go Go.RowKit

def keepL : List (Nat × V) → Tau
  | [], _ => .any
  | (t, v) :: r, i => if i = t then v else keepL r i
theorem keepL_cons (t : Nat) (v : V) (r : List (Nat × V)) (i : Nat) : keepL ((t, v) :: r) i = if i = t then v else keepL r i := rfl
theorem keepL_nil (i : Nat) : keepL [] i = .any := rfl
def keepR (d : Nat) (h : H) (τ : Tau) : List Nat → List (Nat × V)
  | [] => []
  | t :: ks => (t, Go.W.frz 0 d h (τ t)) :: keepR d h τ ks
theorem keepR_nil (d : Nat) (h : H) (τ : Tau) : keepR d h τ [] = [] := rfl
theorem keepR_cons (d : Nat) (h : H) (τ : Tau) (t : Nat) (ks : List Nat) : keepR d h τ (t :: ks) = (t, Go.W.frz 0 d h (τ t)) :: keepR d h τ ks := rfl
theorem keepR_map (d : Nat) (h : H) (τ : Tau) : ∀ ks, keepR d h τ ks = ks.map fun t => (t, Go.W.frz 0 d h (τ t))
  | [] => rfl
  | t :: ks => by simp [keepR, keepR_map d h τ ks]
theorem keepL_map (g : Nat → V) : ∀ (ks : List Nat) (t : Nat), keepL (ks.map fun t => (t, g t)) t = if t ∈ ks then g t else .any
  | [], t => by simp [keepL]
  | k :: ks, t => by
    simp only [List.map_cons, keepL_cons, keepL_map g ks t]
    by_cases e : t = k
    · subst e; simp
    · simp [e]

section
variable {C : Cx} {N m : Nat} {Q : QT} {k : List It} {τ : Tau} {h : H}
theorem Arr.pure (h : H) (d : Nat) : Arr 0 h [] fun x x' => x' = .any ∨ x' = Go.W.frz 0 d h x := by
  refine ((Arr.frz (h := h) (n0 := 0) d).trans (Arr.gc (l := []) (h' := []) ?_)).mono fun x x' e => ?_
  · exact ⟨rfl, List.nodup_nil, Nat.le_refl _, fun i hi => by omega, fun i B' hB => by simp at hB⟩
  · rcases e with e | e
    · exact ⟨x, .inl rfl, .inl e⟩
    · subst e; exact ⟨_, .inr rfl, .inr (frz_closed _ 0 h d x).2.2.2.symm⟩
theorem Goes.pure {K : Tau → H → Prop} (d : Nat) (ks : List Nat) (hk : K (keepL (keepR d h τ ks)) []) : Goes 0 K τ h := by
  refine ⟨_, [], _, Arr.pure h d, fun t => ?_, hk⟩
  rw [keepR_map, keepL_map (fun t => Go.W.frz 0 d h (τ t))]
  split
  · exact .inr rfl
  · exact .inl rfl

def loopP (C : Cx) (N m : Nat) (Q : QT) (k : List It) (d : Nat) (ks : List Nat) (I : Tau → Prop) : QT
  | .normal, τ, h => I (keepL (keepR d h τ ks))
  | .exit id, τ, h => exitK (Run C N 0 m Q) Q id τ h (popTo id k)
  | .ret, τ, h => Q .ret τ h
  | .pan v, τ, h => Q (.pan v) τ h
theorem panFree_loopP {d : Nat} {ks : List Nat} {I : Tau → Prop} (hQ : PanFree Q) : PanFree (loopP C N m Q k d ks I) := fun v τ τ' h q => hQ v τ τ' h q

theorem LoopThen.pure {ι : Type} {body : Code} (P : ι → Prop) (T : ι → Tau) (μ : ι → Nat) (d : Nat) (ks : List Nat) (m n : Nat)
    (h0 : ∃ i, P i ∧ keepL (keepR d h τ ks) = T i)
    (hr : ∀ i, P i → Run C N 0 n (loopP C N m Q k d ks fun τ' => ∃ j, (P j ∧ μ j < μ i) ∧ τ' = T j) [.code body] (T i) []) : LoopThen C N 0 Q body k τ h := by
  classical
  intro hb hk
  -- the measure of a state: the least of those that it can be told by
  let I : Tau → H → Prop := fun τ h => ∃ i, P i ∧ τ = T i ∧ h = []
  have nat_min : ∀ (p : Nat → Prop) (n : Nat), p n → ∃ n, p n ∧ ∀ m, p m → n ≤ m := by
    intro p n hn
    induction n using Nat.strongRecOn with
    | _ n ih =>
      by_cases q : ∃ m, m < n ∧ p m
      · obtain ⟨m, h1, h2⟩ := q; exact ih m h1 h2
      · exact ⟨n, hn, fun m hm => Nat.le_of_not_lt fun h => q ⟨m, h, hm⟩⟩
  let M : Tau → H → Nat := fun τ h => if q : ∃ n, ∃ i, P i ∧ τ = T i ∧ μ i = n then Classical.choose (nat_min (fun n => ∃ i, P i ∧ τ = T i ∧ μ i = n) _ (Classical.choose_spec q)) else 0
  have hM : ∀ τ h, (∃ i, P i ∧ τ = T i) → ∃ i, P i ∧ τ = T i ∧ μ i = M τ h ∧ ∀ j, P j → τ = T j → M τ h ≤ μ j := by
    intro τ h ⟨i, h1, h2⟩
    have q : ∃ n, ∃ i, P i ∧ τ = T i ∧ μ i = n := ⟨μ i, i, h1, h2, rfl⟩
    have e : M τ h = Classical.choose (nat_min (fun n => ∃ i, P i ∧ τ = T i ∧ μ i = n) _ (Classical.choose_spec q)) := dif_pos q
    have sp := Classical.choose_spec (nat_min (fun n => ∃ i, P i ∧ τ = T i ∧ μ i = n) _ (Classical.choose_spec q))
    rw [← e] at sp
    obtain ⟨⟨j, j1, j2, j3⟩, j4⟩ := sp
    exact ⟨j, j1, j2, j3, fun i' q1 q2 => j4 (μ i') ⟨i', q1, q2, rfl⟩⟩
  refine WC.loop I M ?_ fun τ h hI => ?_
  · obtain ⟨i, h1, h2⟩ := h0
    exact Goes.pure d ks ⟨i, h1, h2, rfl⟩
  · obtain ⟨i0, p0, e0, rfl⟩ := hI
    obtain ⟨i, p1, e1, e2, _⟩ := hM τ [] ⟨i0, p0, e0⟩
    subst e1
    have := Run_sound n _ [.code body] (T i) [] (by simp [itOk, hb]) (hr i p1)
    refine WC.mono this fun x τ' h' q => ?_
    cases x with
    | normal =>
      obtain ⟨j, ⟨q1, q2⟩, q3⟩ := q
      refine Goes.pure d ks ⟨⟨j, q1, q3, rfl⟩, ?_⟩
      obtain ⟨j', _, _, _, r4⟩ := hM (keepL (keepR d h' τ' ks)) [] ⟨j, q1, q3⟩
      have := r4 j q1 q3
      omega
    | exit id =>
      refine semK_exit ?_
      simp only [SemK, loopP] at q
      cases hp : popTo id k with
      | none => rw [hp] at q; exact q
      | some k' => rw [hp] at q; exact Run_sound m Q k' τ' h' (popTo_ok hp hk) q
    | ret => exact semK_ret q
    | pan v => exact semK_pan q

theorem loopP_normal (d : Nat) (ks : List Nat) (I : Tau → Prop) : loopP C N m Q k d ks I .normal τ h = I (keepL (keepR d h τ ks)) := rfl
theorem loopP_exit (d : Nat) (ks : List Nat) (I : Tau → Prop) (id : Nat) : loopP C N m Q k d ks I (.exit id) τ h = exitK (Run C N 0 m Q) Q id τ h (popTo id k) := rfl
theorem loopP_ret (d : Nat) (ks : List Nat) (I : Tau → Prop) : loopP C N m Q k d ks I .ret τ h = Q .ret τ h := rfl
theorem loopP_pan (d : Nat) (ks : List Nat) (I : Tau → Prop) (v : V) : loopP C N m Q k d ks I (.pan v) τ h = Q (.pan v) τ h := rfl
end
theorem dec_true : decide True = true := by simp
theorem dec_false : decide False = false := by simp
theorem drop_cons {α : Type} {l : List α} {i : Nat} {a : α} (h : l[i]? = some a) : l.drop i = a :: l.drop (i + 1) := by
  obtain ⟨h1, h2⟩ := List.getElem?_eq_some_iff.1 h
  rw [List.drop_eq_getElem_cons h1, h2]
theorem get_lt {α : Type} {l : List α} {i : Nat} (h : (i : Int) < (l.length : Nat)) : ∃ a, l[i]? = some a := ⟨l[i]'(by omega), List.getElem?_eq_getElem (by omega)⟩
theorem cast_succ (i : Nat) : (i : Int) + 1 = ((i + 1 : Nat) : Int) := by omega
set_option linter.all false in
noncomputable def WB4 := And.intro (And.intro dec_true dec_false) <| And.intro (And.intro (And.intro keepL_cons keepL_nil) (And.intro keepR_cons keepR_nil)) (And.intro (And.intro @loopP_normal @loopP_exit) (And.intro @loopP_ret @loopP_pan))
end Go.W
/- part W26 -/
set_option linter.unusedVariables false
set_option linter.unusedSimpArgs false
namespace Go.W
open Go Go.RowKit Go.ChangeShapes Go.WideShapes

def zOf (W : World) : Zm := fun k o => W.cell? ⟨k, o, none⟩
def phi0 (W : World) : Phi := ⟨fun _ => none, zOf W⟩
theorem rel0 (W : World) : Rel (fun _ => False) W (phi0 W) [] W :=
  ⟨fun _ => [], Kept.refl _ _, fun _ _ => rfl, fun _ _ _ h => h, fun _ _ _ h => by simp at h, fun _ _ h => by simp at h, fun _ => List.nodup_nil, fun _ _ _ h => by simp at h, fun _ _ => rfl, fun b B h => by simp at h⟩

section
variable {H' : Type} {enc : TypeId × Value → H'} {P : Program} {W : World}

def Opn (enc : TypeId × Value → H') (P : Program) (W : World) (t : TypeId) (G : List V → Prop) : Prop :=
  ∀ fuel cs x, DataW.trod enc P W 0 (fun _ => true) true fuel t cs = some x → ∃ xs, All2 (RZ (zOf W)) xs cs ∧ G xs
theorem Opn.mono {t : TypeId} {G G' : List V → Prop} (o : Opn enc P W t G) (h : ∀ xs, G xs → G' xs) : Opn enc P W t G' := fun f cs x q => by
  obtain ⟨xs, h1, h2⟩ := o f cs x q; exact ⟨xs, h1, h _ h2⟩

theorem opn_int {t : TypeId} {k : IntKind} (ht : P.underlying t = some (.int k)) : Opn enc P W t fun xs => ∃ n, xs = [.s (.int k n)] ∧ (Lit.int k n).wf = true := by
  intro fuel cs x h
  obtain ⟨n, rfl, _, hw⟩ := DataW.trod_int ht h
  exact ⟨[.s (.int k n)], ⟨by simp [RZ, one], trivial⟩, n, rfl, hw⟩
theorem opn_str {t : TypeId} (ht : P.underlying t = some .string) : Opn enc P W t fun xs => ∃ s, xs = [.s (.string s)] := by
  intro fuel cs x h
  obtain ⟨s, rfl, _, hs⟩ := DataW.trod_string ht h
  exact ⟨[.s (.string s)], ⟨by simp only [RZ, one, decide_eq_true_eq, true_and]; simp only [maxLen, LIM] at *; omega, trivial⟩, s, rfl⟩
theorem rzs_of {k : Nat} {z : Zm} : ∀ {xs : List V} {cs : List Value} {off : Nat}, All2 (RZ z) xs cs → (∀ (i : Nat) v, cs[i]? = some v → z k (off + i) = some v) → RZs z k off xs
  | [], [], _, _, _ => by simp [RZs]
  | x :: xs, c :: cs, off, r, h => by
    simp only [RZs]
    refine ⟨⟨c, by simpa using h 0 c rfl, r.1⟩, rzs_of r.2 fun i v e => ?_⟩
    rw [show off + 1 + i = off + (i + 1) by omega]; exact h (i + 1) v (by simpa using e)
  | [], _ :: _, _, r, _ => r.elim
  | _ :: _, [], _, r, _ => r.elim
theorem opn_slice {t e : TypeId} {n : Nat} {G : List V → Prop} (ht : P.underlying t = some (.slice e)) (hc : P.cellsOf e = n + 1) (he : Opn enc P W e G) :
    Opn enc P W t fun xs => ∃ els, xs = [.f (n + 1) els] ∧ ∀ el ∈ els, G el := by
  intro fuel cs x h
  rcases DataW.trod_slice ht h with ⟨rfl, _⟩ | ⟨a, len, cap, elems, rest, m, _, rfl, rfl, hb, hl, hm, hlen, hel, hsp, _⟩
  · exact ⟨[.f (n + 1) []], ⟨by simp only [RZ]; exact .inl ⟨trivial, _, rfl⟩, trivial⟩, [], rfl, by simp⟩
  by_cases h0 : cap = 0
  · subst h0
    obtain rfl : len = 0 := by omega
    exact ⟨[.f (n + 1) []], ⟨by simp only [RZ]; exact .inl ⟨trivial, _, rfl⟩, trivial⟩, [], rfl, by simp⟩
  obtain ⟨hrl, hr⟩ := hsp rfl
  -- each element
  have each : ∀ i, i < len → ∃ cs', W.cells? 0 (a.add (i * (n + 1))) (n + 1) = some cs' ∧ ∃ el, All2 (RZ (zOf W)) el cs' ∧ G el := fun i hi => by
    have := hel i hi
    rw [List.getElem?_eq_getElem (by omega), hc] at this
    obtain ⟨cs', h1, h2⟩ := Option.bind_eq_some_iff.1 this
    exact ⟨cs', h1, he _ _ _ h2⟩
  have spot : a.spot = none := by
    have key : ∃ cs', W.cells? 0 (a.add 0) (n + 1) = some cs' := by
      by_cases q : 0 < len
      · obtain ⟨cs', h1, _⟩ := each 0 q
        rw [Nat.zero_mul] at h1; exact ⟨cs', h1⟩
      · have := hr 0 (by omega)
        obtain rfl : len = 0 := by omega
        rw [List.getElem?_eq_getElem (by omega), hc] at this
        obtain ⟨cs', h1, _⟩ := Option.bind_eq_some_iff.1 this
        simp only [Nat.zero_mul, Nat.add_zero] at h1
        exact ⟨cs', h1⟩
    obtain ⟨cs', h1⟩ := key
    have h2 := World.cells?_some h1
    have h3 := h2.2.2 0 (by omega)
    have hcs : cs'[0]? = some (cs'[0]'(by omega)) := List.getElem?_eq_getElem (by omega)
    rw [hcs] at h3
    simp only [Addr.add, if_true] at h3
    unfold World.cell? at h3
    split at h3
    · split at h3
      · cases h3
      · rename_i q; simpa using q
    · cases h3
  obtain ⟨k, off, sp⟩ := a
  simp only at spot; subst spot
  have addr : ∀ (off j : Nat), (⟨k, off, none⟩ : Addr).add j = ⟨k, off + j, none⟩ := fun off j => by unfold Addr.add; split <;> simp_all
  have all : ∀ (c : Nat) (i : Nat), i + c = len → ∃ els, els.length = c ∧ (∀ el ∈ els, G el) ∧ RZss (zOf W) k (n + 1) (off + i * (n + 1)) els := by
    intro c
    induction c with
    | zero => intro i _; exact ⟨[], rfl, by simp, by simp [RZss]⟩
    | succ c ih =>
      intro i hi
      obtain ⟨cs', h1, el, h2, h3⟩ := each i (by omega)
      obtain ⟨els, g1, g2, g3⟩ := ih (i + 1) (by omega)
      have hcs := World.cells?_some h1
      have hlen' := h2.length
      refine ⟨el :: els, by simp [g1], fun x hx => by simp at hx; rcases hx with rfl | hx; exact h3; exact g2 x hx, ?_⟩
      simp only [RZss]
      refine ⟨by rw [hlen']; exact hcs.2.1, rzs_of h2 fun j v e => ?_, by rw [show off + i * (n + 1) + (n + 1) = off + (i + 1) * (n + 1) by rw [Nat.succ_mul]; omega]; exact g3⟩
      have hj : j < n + 1 := by have := (List.getElem?_eq_some_iff.1 e).1; rw [hcs.2.1] at this; exact this
      have := hcs.2.2 j hj
      rw [addr, addr, e] at this
      exact this
  obtain ⟨els, g1, g2, g3⟩ := all len 0 (by omega)
  refine ⟨[.f (n + 1) els], ⟨?_, trivial⟩, els, rfl, g2⟩
  simp only [RZ]
  refine .inr ⟨k, off, cap, by rw [g1], by omega, by simp only [maxLen, LIM] at *; omega, by simpa using g3⟩

def GL : List (List V → Prop) → List V → Prop
  | [], xs => xs = []
  | g :: gs, xs => ∃ a b, xs = a ++ b ∧ g a ∧ GL gs b
def OpnL (enc : TypeId × Value → H') (P : Program) (W : World) : Nat → List Field → List (List V → Prop) → Prop
  | off, [], gs => gs = []
  | off, f :: fs, g :: gs => f.offset = off ∧ Opn enc P W f.type g ∧ OpnL enc P W (off + P.cellsOf f.type) fs gs
  | _, _ :: _, [] => False
def sumL (P : Program) : List Field → Nat
  | [] => 0
  | f :: fs => P.cellsOf f.type + sumL P fs
theorem opn_fields {n : Nat} : ∀ {fs : List Field} {gs : List (List V → Prop)} {off : Nat} {cs : List Value} {ys : List (DataW H' × List MemPlace)}, OpnL enc P W off fs gs → cs.length = off + sumL P fs → ys.length = fs.length →
    (∀ (i : Nat) (f : Field), fs[i]? = some f → DataW.trod enc P W 0 (fun _ => true) true n f.type ((cs.drop f.offset).take (P.cellsOf f.type)) = ys[i]?) →
    ∃ xs, All2 (RZ (zOf W)) xs (cs.drop off) ∧ GL gs xs
  | [], gs, off, cs, ys, h, hl, _, _ => by
    simp only [OpnL] at h; subst h
    refine ⟨[], ?_, rfl⟩
    rw [List.drop_eq_nil_of_le (by simp [sumL] at hl; omega)]; trivial
  | f :: fs, [], _, _, _, h, _, _, _ => h.elim
  | f :: fs, g :: gs, off, cs, [], h, hl, hy, _ => by simp at hy
  | f :: fs, g :: gs, off, cs, y :: ys, h, hl, hy, hf => by
    simp only [OpnL] at h
    obtain ⟨rfl, h1, h2⟩ := h
    simp only [sumL] at hl
    obtain ⟨xs, r1, r2⟩ := opn_fields (n := n) (cs := cs) (ys := ys) h2 (by omega) (by simpa using hy) fun i f' e => by
      have := hf (i + 1) f' (by simpa using e); simpa using this
    obtain ⟨zs, q1, q2⟩ := h1 _ _ y (by simpa using hf 0 f rfl)
    refine ⟨zs ++ xs, ?_, zs, xs, rfl, q2, r2⟩
    have : cs.drop f.offset = (cs.drop f.offset).take (P.cellsOf f.type) ++ cs.drop (f.offset + P.cellsOf f.type) := by
      rw [← List.drop_drop, List.take_append_drop]
    rw [this]
    exact q1.append r1
theorem opn_struct {t : TypeId} {fs : Array Field} {gs : List (List V → Prop)} (ht : P.underlying t = some (.struct fs)) (hc : P.cellsOf t = sumL P fs.toList) (h : OpnL enc P W 0 fs.toList gs) : Opn enc P W t (GL gs) := by
  intro fuel cs x hx
  obtain ⟨ys, n, _, _, hl, hlen, hf⟩ := DataW.trod_struct ht hx
  have := opn_fields (n := n) (cs := cs) (ys := ys) h (by rw [hl, hc]; simp) (by simpa using hlen) fun i f e => hf i f (by simpa using e)
  simpa using this

theorem opn_one {t : TypeId} {v : Value} {d : DataW H'} {p : List MemPlace} {G : V → Prop} (o : Opn enc P W t fun xs => ∃ x, xs = [x] ∧ G x) (hv : v.cells.toList = [v]) (hd : DataW.Trod enc P W 0 (fun _ => true) true t v d p) :
    ∃ x, RelV (phi0 W) x v ∧ G x := by
  obtain ⟨fuel, hf⟩ := hd
  obtain ⟨xs, h1, x, rfl, h2⟩ := o _ _ _ hf
  rw [hv] at h1
  exact ⟨x, relV_of_rz h1.1, h2⟩
theorem opn_agg {t : TypeId} {cs : Array Value} {d : DataW H'} {p : List MemPlace} {G : List V → Prop} (o : Opn enc P W t G) (hd : DataW.Trod enc P W 0 (fun _ => true) true t (.agg cs) d p) :
    ∃ xs, RelV (phi0 W) (.agg xs) (.agg cs) ∧ G xs := by
  obtain ⟨fuel, hf⟩ := hd
  obtain ⟨xs, h1, h2⟩ := o _ _ _ hf
  exact ⟨xs, ⟨cs, rfl, h1.mono fun _ _ => relC_of_rz⟩, h2⟩
theorem okWide_agg {t : TypeId} {v : Value} {r : Reach} {base : Nat} {fs : Array Field} (ht : P.underlying t = some (.struct fs)) (h : Value.okWide P W r base t v) : ∃ cs, v = .agg cs := by
  unfold Value.okWide at h
  rw [ht] at h
  obtain ⟨cs, h, _⟩ := h; exact ⟨cs, h⟩
theorem okWide_cell {t : TypeId} {v : Value} {r : Reach} {base : Nat} (ht : tAgg P t = some false) (h : Value.okWide P W r base t v) : v.cells.toList = [v] := by
  have h : Cell.okWide P W r base t v := by
    unfold Value.okWide at h
    unfold tAgg at ht
    split at h
    · rename_i e; rw [e] at ht; cases ht
    · rename_i e; rw [e] at ht; cases ht
    · exact h
  cases v with
  | agg cs => unfold Cell.okWide at h; split at h <;> simp_all [Cell.ok]
  | tuple cs => unfold Cell.okWide at h; split at h <;> simp_all [Cell.ok]
  | _ => rfl
theorem map_of {α : Type} {f : α → List V} : ∀ {els : List (List V)}, (∀ el ∈ els, ∃ a, el = f a) → ∃ l : List α, els = l.map f
  | [], _ => ⟨[], rfl⟩
  | el :: els, h => by
    obtain ⟨a, e⟩ := h el (by simp)
    obtain ⟨l, e'⟩ := map_of (els := els) fun x hx => h x (by simp [hx])
    exact ⟨a :: l, by simp [e, e']⟩
end

end Go.W
/- part W27 -/
set_option linter.unusedVariables false
set_option linter.unusedSimpArgs false
namespace Go.W
open Go Go.RowKit

theorem map_same {α : Type} {f : α → α} {l : List α} (h : ∀ x ∈ l, f x = x) : l.map f = l := by
  induction l with
  | nil => rfl
  | cons a l ih => simp only [List.map_cons, h a (by simp)]; rw [ih fun x hx => h x (by simp [hx])]
theorem nr_rn (r : Nat → Nat) : ∀ {x : V}, nr x = true → rnC r x = x := by
  intro x h; cases x <;> first | rfl | cases h
theorem nrs_rn (r : Nat → Nat) {B : Blk} (h : nrs B.els = true) : rnB r B = B := by
  obtain ⟨els, n, cap, l⟩ := B
  simp only [rnB, Blk.mk.injEq, and_true]
  simp only [nrs, List.all_eq_true] at h
  exact map_same fun el he => map_same fun x hx => nr_rn r (h el he x hx)
def gcL (r : Nat → Nat) (h : H) : List Nat → H → Prop
  | [], [] => True
  | i :: l, B' :: h' => ((nrs B'.els = true ∧ h[i]? = some B') ∨ h[i]? = some (rnB r B')) ∧ gcL r h l h'
  | _, _ => False
theorem gcL_nil (r : Nat → Nat) (h : H) : gcL r h [] [] = True := rfl
theorem gcL_cons (r : Nat → Nat) (h : H) (i : Nat) (l : List Nat) (B' : Blk) (h' : H) : gcL r h (i :: l) (B' :: h') = (((nrs B'.els = true ∧ h[i]? = some B') ∨ h[i]? = some (rnB r B')) ∧ gcL r h l h') := rfl
theorem gcL_spec {r : Nat → Nat} {h : H} : ∀ {l : List Nat} {h' : H}, gcL r h l h' → l.length = h'.length ∧ ∀ (i : Nat) B', h'[i]? = some B' → ∃ b : Nat, l[i]? = some b ∧ h[b]? = some (rnB r B')
  | [], [], _ => ⟨rfl, fun i B' e => by simp at e⟩
  | [], _ :: _, h => h.elim
  | _ :: _, [], h => h.elim
  | b :: l, B' :: h', hg => by
    obtain ⟨h1, h2⟩ := gcL_spec hg.2
    refine ⟨by simp [h1], fun i B e => ?_⟩
    cases i with
    | zero =>
      simp at e; subst e
      refine ⟨b, rfl, ?_⟩
      rcases hg.1 with ⟨q1, q2⟩ | q
      · rw [nrs_rn r q1]; exact q2
      · exact q
    | succ i => simp at e ⊢; exact h2 i B e
theorem gcOk_of {l : List Nat} {h h' : H} (hn : l.Nodup) (hg : gcL (nm l h.length) h l h') : gcOk l h h' 0 := by
  obtain ⟨h1, h2⟩ := gcL_spec hg
  refine ⟨h1, hn, Nat.zero_le _, fun i hi => by omega, fun i B' e _ => ?_⟩
  obtain ⟨b, e1, e2⟩ := h2 i B' e
  exact ⟨_, by rw [show nm l h.length i = b by unfold nm; rw [e1]; rfl]; exact e2, rfl⟩

def keepT (τ : Tau) (r : Nat → Nat) : List (Nat × V) → Prop
  | [] => True
  | (t, v) :: T => τ t = rnV r v ∧ keepT τ r T
theorem keepT_nil (τ : Tau) (r : Nat → Nat) : keepT τ r [] = True := rfl
theorem keepT_cons (τ : Tau) (r : Nat → Nat) (t : Nat) (v : V) (T : List (Nat × V)) : keepT τ r ((t, v) :: T) = (τ t = rnV r v ∧ keepT τ r T) := rfl
theorem keepT_spec {τ : Tau} {r : Nat → Nat} : ∀ {T : List (Nat × V)}, keepT τ r T → ∀ t, keepL T t = .any ∨ τ t = rnV r (keepL T t)
  | [], _, t => .inl rfl
  | (t', v) :: T, h, t => by
    simp only [keepL_cons]
    by_cases e : t = t'
    · subst e; rw [if_pos rfl]; exact .inr h.1
    · rw [if_neg e]; exact keepT_spec h.2 t

section
variable {C : Cx} {N m : Nat} {Q : QT} {k : List It} {τ : Tau} {h : H}
theorem Goes.own {K : Tau → H → Prop} (l : List Nat) (T : List (Nat × V)) (h' : H) (hn : l.Nodup) (hg : gcL (nm l h.length) h l h') (ht : keepT τ (nm l h.length) T) (hk : K (keepL T) h') : Goes 0 K τ h :=
  ⟨_, h', _, Arr.gc (gcOk_of hn hg), fun t => keepT_spec ht t, hk⟩

def loopO (C : Cx) (N m : Nat) (Q : QT) (k : List It) (I : Tau → H → Prop) : QT
  | .normal, τ, h => I τ h
  | .exit id, τ, h => exitK (Run C N 0 m Q) Q id τ h (popTo id k)
  | .ret, τ, h => Q .ret τ h
  | .pan v, τ, h => Q (.pan v) τ h
theorem panFree_loopO {I : Tau → H → Prop} (hQ : PanFree Q) : PanFree (loopO C N m Q k I) := fun v τ τ' h q => hQ v τ τ' h q
theorem loopO_normal (I : Tau → H → Prop) : loopO C N m Q k I .normal τ h = I τ h := rfl
theorem loopO_exit (I : Tau → H → Prop) (id : Nat) : loopO C N m Q k I (.exit id) τ h = exitK (Run C N 0 m Q) Q id τ h (popTo id k) := rfl
theorem loopO_ret (I : Tau → H → Prop) : loopO C N m Q k I .ret τ h = Q .ret τ h := rfl
theorem loopO_pan (I : Tau → H → Prop) (v : V) : loopO C N m Q k I (.pan v) τ h = Q (.pan v) τ h := rfl

theorem LoopThen.own {ι : Type} {body : Code} (P : ι → Prop) (T : ι → List (Nat × V)) (Hp : ι → H) (μ : ι → Nat) (m n : Nat)
    (h0 : ∃ i, P i ∧ ∃ l : List Nat, l.Nodup ∧ gcL (nm l h.length) h l (Hp i) ∧ keepT τ (nm l h.length) (T i))
    (hr : ∀ i, P i → Run C N 0 n (loopO C N m Q k fun τ' h' => ∃ j, (P j ∧ μ j < μ i) ∧ ∃ l : List Nat, l.Nodup ∧ gcL (nm l h'.length) h' l (Hp j) ∧ keepT τ' (nm l h'.length) (T j)) [.code body] (keepL (T i)) (Hp i)) : LoopThen C N 0 Q body k τ h := by
  classical
  intro hb hk
  let I : Tau → H → Prop := fun τ h => ∃ i, P i ∧ τ = keepL (T i) ∧ h = Hp i
  have nat_min : ∀ (p : Nat → Prop) (n : Nat), p n → ∃ n, p n ∧ ∀ m, p m → n ≤ m := by
    intro p n hn
    induction n using Nat.strongRecOn with
    | _ n ih =>
      by_cases q : ∃ m, m < n ∧ p m
      · obtain ⟨m, h1, h2⟩ := q; exact ih m h1 h2
      · exact ⟨n, hn, fun m hm => Nat.le_of_not_lt fun h => q ⟨m, h, hm⟩⟩
  let R : Tau → H → Nat → Prop := fun τ h n => ∃ i, P i ∧ τ = keepL (T i) ∧ h = Hp i ∧ μ i = n
  let M : Tau → H → Nat := fun τ h => if q : ∃ n, R τ h n then Classical.choose (nat_min (R τ h) _ (Classical.choose_spec q)) else 0
  have hM : ∀ τ h, I τ h → ∃ i, P i ∧ τ = keepL (T i) ∧ h = Hp i ∧ μ i = M τ h ∧ ∀ j, P j → τ = keepL (T j) → h = Hp j → M τ h ≤ μ j := by
    intro τ h ⟨i, h1, h2, h3⟩
    have q : ∃ n, R τ h n := ⟨μ i, i, h1, h2, h3, rfl⟩
    have e : M τ h = Classical.choose (nat_min (R τ h) _ (Classical.choose_spec q)) := dif_pos q
    have sp := Classical.choose_spec (nat_min (R τ h) _ (Classical.choose_spec q))
    rw [← e] at sp
    obtain ⟨⟨j, j1, j2, j3, j4⟩, j5⟩ := sp
    exact ⟨j, j1, j2, j3, j4, fun i' q1 q2 q3 => j5 (μ i') ⟨i', q1, q2, q3, rfl⟩⟩
  refine WC.loop I M ?_ fun τ h hI => ?_
  · obtain ⟨i, h1, l, h2, h3, h4⟩ := h0
    exact Goes.own l (T i) (Hp i) h2 h3 h4 ⟨i, h1, rfl, rfl⟩
  · obtain ⟨i, p1, e1, e2, e3, _⟩ := hM τ h hI
    subst e1; subst e2
    have := Run_sound n _ [.code body] (keepL (T i)) (Hp i) (by simp [itOk, hb]) (hr i p1)
    refine WC.mono this fun x τ' h' q => ?_
    cases x with
    | normal =>
      obtain ⟨j, ⟨q1, q2⟩, l, q3, q4, q5⟩ := q
      refine Goes.own l (T j) (Hp j) q3 q4 q5 ⟨⟨j, q1, rfl, rfl⟩, ?_⟩
      obtain ⟨j', _, _, _, _, r4⟩ := hM (keepL (T j)) (Hp j) ⟨j, q1, rfl, rfl⟩
      have := r4 j q1 rfl rfl
      omega
    | exit id =>
      refine semK_exit ?_
      simp only [SemK, loopO] at q
      cases hp : popTo id k with
      | none => rw [hp] at q; exact q
      | some k' => rw [hp] at q; exact Run_sound m Q k' τ' h' (popTo_ok hp hk) q
    | ret => exact semK_ret q
    | pan v => exact semK_pan q
end

theorem nrs_map {α : Type} {f : α → List V} (hf : ∀ a, (f a).all nr = true) (l : List α) : nrs (l.map f) = true := by
  simp only [nrs, List.all_map, List.all_eq_true]; exact fun a _ => hf a
theorem nrs_append (a b : List (List V)) : nrs (a ++ b) = (nrs a && nrs b) := by simp [nrs]
theorem nrs_replicate {el : List V} (h : el.all nr = true) (n : Nat) : nrs (List.replicate n el) = true := by
  simp only [nrs, List.all_eq_true, List.mem_replicate]; rintro x ⟨_, rfl⟩; simpa using h
theorem fill_get {α : Type} (a b : List α) {i : Nat} (h : a.length = i) : (a ++ b)[i]? = b[0]? := by
  subst h; rw [List.getElem?_append_right (by omega)]; simp
theorem fill_set {α : Type} (a : List α) (x y : α) (n i : Nat) (h : a.length = i) : (a ++ List.replicate (n + 1) y).set i x = (a ++ [x]) ++ List.replicate n y := by
  subst h; rw [List.set_append_right _ _ (Nat.le_refl _)]; simp [List.replicate_succ]
theorem leafs_map {α : Type} {f : α → List V} (hf : ∀ a, (f a).all cellOk = true) (l : List α) : leafs (l.map f) = true := by
  simp only [leafs, List.all_map, List.all_eq_true]; exact fun a _ => hf a
theorem frz_nr {n0 d : Nat} {h : H} {x : V} (hx : nr x = true) (hc : cellOk x = true) : frz n0 d h x = x := by
  cases x <;> first | (cases hx; done) | (cases hc; done) | (cases d <;> rfl)
theorem frz_els {n0 d : Nat} {h : H} {els : List (List V)} (hx : nrs els = true) (hc : leafs els = true) : (els.map fun el => el.map (frz n0 d h)) = els := by
  simp only [nrs, leafs, List.all_eq_true] at hx hc
  exact map_same fun el he => map_same fun x hx' => frz_nr (hx el he x hx') (hc el he x hx')
theorem take_map_len {α β : Type} (f : α → β) (l : List α) : List.take l.length (l.map f) = l.map f := List.take_of_length_le (by simp)
set_option linter.all false in
noncomputable def WB5 := And.intro (And.intro (And.intro Nat.le_refl Int.le_refl) (And.intro true_or (And.intro or_true @take_map_len))) <| And.intro (And.intro (And.intro gcL_nil gcL_cons) (And.intro keepT_nil keepT_cons)) (And.intro (And.intro @loopO_normal @loopO_exit) (And.intro @loopO_ret @loopO_pan))
end Go.W
/- part W28 -/
set_option linter.unusedVariables false
set_option linter.unusedSimpArgs false
namespace Go.W
open Go Go.RowKit
section
variable {C : Cx} {N n0 m : Nat} {Q : QT} {k : List It} {τ : Tau} {h : H}
def loopZ (C : Cx) (N n0 m : Nat) (Q : QT) (k : List It) : QT
  | .normal, _, _ => False
  | .exit id, τ, h => exitK (Run C N n0 m Q) Q id τ h (popTo id k)
  | .ret, τ, h => Q .ret τ h
  | .pan v, τ, h => Q (.pan v) τ h
theorem loopZ_exit (id : Nat) : loopZ C N n0 m Q k (.exit id) τ h = exitK (Run C N n0 m Q) Q id τ h (popTo id k) := rfl
theorem loopZ_ret : loopZ C N n0 m Q k .ret τ h = Q .ret τ h := rfl
theorem loopZ_pan (v : V) : loopZ C N n0 m Q k (.pan v) τ h = Q (.pan v) τ h := rfl
theorem LoopThen.zero {body : Code} (m n : Nat) (hr : Run C N n0 n (loopZ C N n0 m Q k) [.code body] τ h) : LoopThen C N n0 Q body k τ h := by
  intro hb hk
  refine WC.loop (fun τ' h' => τ' = τ ∧ h' = h) (fun _ _ => 0) (Goes.refl ⟨rfl, rfl⟩) fun τ' h' hI => ?_
  obtain ⟨rfl, rfl⟩ := hI
  have := Run_sound n _ [.code body] τ' h' (by simp [itOk, hb]) hr
  refine WC.mono this fun x τ' h' q => ?_
  cases x with
  | normal => exact q.elim
  | exit id =>
    refine semK_exit ?_
    simp only [SemK, loopZ] at q
    cases hp : popTo id k with
    | none => rw [hp] at q; exact q
    | some k' => rw [hp] at q; exact Run_sound m Q k' τ' h' (popTo_ok hp hk) q
  | ret => exact semK_ret q
  | pan v => exact semK_pan q
end
set_option linter.all false in
noncomputable def WB6 := And.intro (And.intro @loopZ_exit @loopZ_ret) @loopZ_pan
end Go.W
/- part W29 -/
set_option linter.unusedVariables false
set_option linter.unusedSimpArgs false
namespace Go.W
open Go Go.RowKit

def putAt (els : List (List V)) (off : Nat) (news : List (List V)) : List (List V) := els.take off ++ news ++ els.drop (off + news.length)
section
variable {S : Nat → Prop} {w0 w : World} {φ : Phi} {h : H} {F : Nat → Fp} {C : Cx}

theorem leafs_take {els : List (List V)} (h : leafs els = true) (k : Nat) : leafs (els.take k) = true := by
  simp only [leafs, List.all_eq_true] at *
  exact fun el he => h el (List.mem_of_mem_take he)
theorem leafs_drop {els : List (List V)} (h : leafs els = true) (k : Nat) : leafs (els.drop k) = true := by
  simp only [leafs, List.all_eq_true] at *
  exact fun el he => h el (List.mem_of_mem_drop he)

theorem RelF.putAt (R : RelF S w0 φ h w F) {b k n cap off : Nat} {els news : List (List V)} {vals : List Value} (hb : h[b]? = some ⟨els, n, cap, true⟩) (hp : φ.m b = some (some k, n)) (hle : leafs els = true) (hln : leafs news = true)
    (hv : All2 (RelC φ) news.flatten vals) (hel : ∀ el ∈ news, el.length = n) (hoff : off ≤ els.length) (hcap : off + news.length ≤ cap) (hlim : off + news.length ≤ LIM) :
    ∃ w', (storeCells ⟨k, off * n, none⟩ vals).run C.P w = .ok () w' ∧ Rel S w0 φ (h.set b ⟨Go.W.putAt els off news, n, cap, true⟩) w' := by
  obtain ⟨pp, g1, g2, g3, g4⟩ := R.place hb rfl
  simp only at g2 g3
  rw [hp] at g1; obtain ⟨rfl, -⟩ := Prod.mk.inj (Option.some.inj g1)
  obtain ⟨c0, ty, fq, y1, y2, y3, y4, y5⟩ := g4
  simp only at y2 y3 y4
  have hvl : vals.length = news.length * n := by rw [← hv.length, flat_len hel]
  have hfit : off * n + vals.length ≤ c0.size := by rw [hvl, y2, ← Nat.add_mul]; exact Nat.mul_le_mul_right _ hcap
  have hst := run_storeCells_at C.P k (off * n) ty vals 0 c0 w y1 (by simpa using hfit) (all2_oneCell (leafs_flat hln) hv)
  simp only [Nat.add_zero] at hst
  have hh := setRow_heap w k c0 (c0.toList.take (off * n) ++ vals ++ c0.toList.drop (off * n + vals.length)).toArray ty (0, 0) y1
  have gr : w.grownBy (w.setRow k (c0.toList.take (off * n) ++ vals ++ c0.toList.drop (off * n + vals.length)).toArray) (some k) :=
    ⟨rfl, rfl, rfl, by simp, fun j _ hj => setRow_other w k j _ (fun e => hj (by rw [e]))⟩
  have hnw : ∀ el ∈ Go.W.putAt els off news, el.length = n := fun el he => by
    simp only [Go.W.putAt, List.mem_append] at he
    rcases he with (q | q) | q
    · exact g2 el (List.mem_of_mem_take q)
    · exact hel el q
    · exact g2 el (List.mem_of_mem_drop q)
  have hlen : (Go.W.putAt els off news).length = off + news.length + (els.length - (off + news.length)) := by
    simp only [Go.W.putAt, List.length_append, List.length_take, List.length_drop]; omega
  -- the three parts
  obtain ⟨f1, f2, _, ht⟩ := y4.take off
  have a1 := lss_cells ht (leafs_flat (leafs_take hle off))
  have l1 : (els.take off).length = off := by rw [List.length_take]; omega
  rw [l1] at a1
  obtain ⟨f3, hd⟩ := y4.dropN (off + news.length)
  have a3 := lss_cells hd (leafs_flat (leafs_drop hle (off + news.length)))
  rw [List.length_drop] at a3
  have all := (a1.append hv).append a3
  have hfl : (Go.W.putAt els off news).flatten = (els.take off).flatten ++ news.flatten ++ (els.drop (off + news.length)).flatten := by simp [Go.W.putAt]
  rw [← hfl] at all
  have hls := lss_all2 (w := w) hnw all
  refine ⟨_, hst, R.write (B' := ⟨Go.W.putAt els off news, n, cap, true⟩) (fq' := []) hb rfl hp y5 gr rfl rfl hh ?_ ?_ ?_ hnw (List.nil_sublist _) (Lss.pre (fun j hj => ?_) hls)⟩
  · simp; rw [← y2]; omega
  · show (Go.W.putAt els off news).length ≤ cap
    rw [hlen]; omega
  · show (Go.W.putAt els off news).length ≤ LIM
    rw [hlen]; omega
  · -- the cells agree where they are told
    show (c0.toList.take (off * n) ++ vals ++ c0.toList.drop (off * n + vals.length))[j]? = _
    have e : off * n + vals.length = (off + news.length) * n := by rw [hvl, Nat.add_mul]
    rw [e]
    have hj' : j < (off + news.length) * n + (els.length - (off + news.length)) * n := by rw [hlen, Nat.add_mul] at hj; exact hj
    have hpre : (c0.toList.take (off * n) ++ vals).length = (off + news.length) * n := by
      rw [← e, List.length_append, List.length_take, Array.length_toList]; omega
    generalize hA : c0.toList.take (off * n) ++ vals = A at hpre ⊢
    by_cases q : j < (off + news.length) * n
    · rw [List.getElem?_append_left (by rw [hpre]; exact q), List.getElem?_append_left (by rw [hpre]; exact q)]
    · rw [List.getElem?_append_right (by rw [hpre]; omega), List.getElem?_append_right (by rw [hpre]; omega), List.getElem?_take, hpre, if_pos (by omega)]

def Src (C : Cx) (h : H) (n k m : Nat) (news : List (List V)) (x : V) : Prop :=
  ∀ S w0 φ w F xv, RelF S w0 φ h w F → RelV φ x xv → (∀ w, (Builtin.lenOf xv).run C.P w = .ok m w) ∧ ∃ vals : List Value, All2 (RelC φ) news.flatten vals ∧ (Builtin.firstCells n k xv).run C.P w = .ok vals.toArray w
theorem Src.f {n k : Nat} {els : List (List V)} (hk : k ≤ els.length) (hl : leafs els = true) : Src C h n k els.length (els.take k) (.f n els) := by
  intro S w0 φ w F xv R r
  rcases f_rel r with ⟨rfl, q, rfl⟩ | ⟨b, off, cap, rfl, h1, h2, h3⟩
  · obtain rfl : k = 0 := by simpa using hk
    refine ⟨fun w => by simp [Builtin.lenOf], [], by simp [All2], ?_⟩
    cases q with
    | none => simp [Builtin.firstCells]
    | some ad => exact run_firstCells_some (P := C.P) w n 0 ad 0 0 [] (by simp) (fun j v e => by simp at e)
  · have h4 := h3.take k
    obtain ⟨q1, vs, q2, q3⟩ := rz_flat h4
    have hl : vs.length = k * n := by rw [← q2.length, flat_len q1, List.length_take]; congr 1; omega
    exact ⟨fun w => by simp [Builtin.lenOf], vs, q2.mono fun _ _ => relC_of_rz, run_firstCells_some (P := C.P) w n k _ els.length cap vs hl (fun j v e => by rw [addr_add]; exact R.zok _ _ _ (q3 j v e))⟩
theorem Src.own {n k b off len cap : Nat} {news : List (List V)} (hk : k ≤ len) (hs : strideB (h[b]?) = some n) (he : elsOf off k (h[b]?) = some news) (hl : leafs news = true) : Src C h n k len news (.sl b off len cap) := by
  intro S w0 φ w F xv R r
  obtain ⟨p, n', hp, hle, hv⟩ : ∃ p n', φ.m b = some (p, n') ∧ len ≤ cap ∧ _ := r
  have hlen : ∀ w, (Builtin.lenOf xv).run C.P w = .ok len w := fun w => by
    cases p with
    | none => obtain ⟨⟨q, rfl⟩, rfl, _⟩ := hv; simp [Builtin.lenOf]
    | some a => simp only at hv; subst hv; simp [Builtin.lenOf]
  -- the same with the length k
  have key : ∃ xv', RelV φ (.sl b off k cap) xv' ∧ (Builtin.firstCells n k xv') = Builtin.firstCells n k xv := by
    cases p with
    | none =>
      obtain ⟨⟨q, rfl⟩, rfl, rfl, rfl⟩ := hv
      obtain rfl : k = 0 := by omega
      exact ⟨.slice q 0 0, ⟨none, n', hp, Nat.le_refl _, ⟨q, rfl⟩, rfl, rfl, rfl⟩, rfl⟩
    | some a => simp only at hv; subst hv; exact ⟨.slice (some ⟨a, off * n', none⟩) k cap, ⟨some a, n', hp, by omega, rfl⟩, rfl⟩
  obtain ⟨xv', r', e⟩ := key
  have hnews : newsOf h n (.sl b off k cap) = some news := by simp only [newsOf]; rw [if_pos hs]; exact he
  obtain ⟨_, hlen', vals, hv1, hv2, hv3⟩ := news_cells (P := C.P) R r' hnews hl
  have hnl : news.length = k := by
    unfold elsOf at he
    split at he
    · split at he
      · obtain rfl := Option.some.inj he; simp; omega
      · cases he
    · cases he
  rw [hnl] at hv3
  exact ⟨hlen, vals, hv1, by rw [← e]; exact hv3 w fun _ => rfl⟩

theorem CopyV.own {b off dlen dcap n cap m k : Nat} {t u e : TypeId} {els news : List (List V)} {x : V} (ht : tElem C.P t = some e) (hn : tSz C.P e = some n) (hb : h[b]? = some ⟨els, n, cap, true⟩)
    (hx : Src C h n k m news x) (hk : k = Nat.min m dlen) (hnl : news.length = k) (hel : ∀ el ∈ news, el.length = n) (hle : leafs els = true) (hln : leafs news = true) (hoff : off ≤ els.length) (hcap : off + k ≤ cap) (hlim : off + k ≤ LIM) :
    CopyV C h (.sl b off dlen dcap) x t u fun v h' => v = .s (.int .i64 k) ∧ h' = h.set b ⟨Go.W.putAt els off news, n, cap, true⟩ := by
  intro S w0 φ w dv xv ty ⟨F, R⟩ rd rx
  obtain ⟨p, n', hp, hdle, hv⟩ : ∃ p n', φ.m b = some (p, n') ∧ dlen ≤ dcap ∧ _ := rd
  obtain ⟨pp, g1, g2, g3, g4⟩ := R.place hb rfl
  simp only at g2 g3
  have g1' := g1
  rw [hp] at g1; obtain ⟨rfl, rfl⟩ := Prod.mk.inj (Option.some.inj g1)
  obtain ⟨hlen, vals, hv1, hv3⟩ := hx S w0 φ w F xv R rx
  have hu := underlying_of_tElem ht
  cases p with
  | none =>
    obtain ⟨⟨q, rfl⟩, rfl, rfl, rfl⟩ := hv
    obtain rfl : k = 0 := by rw [hk]; simp [Nat.min_def]
    obtain rfl : news = [] := List.eq_nil_of_length_eq_zero hnl
    have hv0 : vals = [] := by
      have := hv1.length; simp at this; exact List.eq_nil_of_length_eq_zero this.symm
    subst hv0
    have same : h.set b ⟨Go.W.putAt els 0 [], n', cap, true⟩ = h := by
      have : Go.W.putAt els 0 [] = els := by simp [Go.W.putAt]
      rw [this]
      obtain ⟨hlt, e⟩ := List.getElem?_eq_some_iff.1 hb
      rw [← e]; exact List.set_getElem_self hlt
    refine ⟨.int .i64 0, w, φ, .s (.int .i64 0), h, ?_, ⟨F, R⟩, ExtN.refl .., Nat.le_refl _, mk_s rfl, rfl, same.symm⟩
    have hm0 : Nat.min m 0 = 0 := by simp [Nat.min_def]
    cases q with
    | none => simp [Builtin.copy_, run_underlying hu, hlen, run_sz hn, hm0, hv3, goInt]
    | some ad => simp [Builtin.copy_, run_underlying hu, hlen, run_sz hn, hm0, hv3, goInt, storeCells]
  | some kb =>
    simp only at hv; subst hv
    obtain ⟨w', hst, R'⟩ := R.putAt (C := C) (off := off) hb hp hle hln hv1 hel hoff (by rw [hnl]; exact hcap) (by rw [hnl]; exact hlim)
    refine ⟨.int .i64 k, w', φ, .s (.int .i64 k), _, ?_, R', ExtN.refl .., by simp, mk_s rfl, rfl, rfl⟩
    have hk' : Nat.min m dlen = k := hk.symm
    simp [Builtin.copy_, run_underlying hu, hlen, run_sz hn, hk', hv3, hst, goInt]

end
end Go.W
/- part W30 -/
set_option linter.unusedVariables false
set_option linter.unusedSimpArgs false
namespace Go.W
open Go Go.RowKit

def Flat (r : V) : Prop := ∀ φ φ' v, RelV φ r v → RelV φ' r v
theorem flat_s (a : Value) : Flat (.s a) := fun φ φ' v h => by obtain ⟨rfl, h1⟩ := s_rel h; exact mk_s h1
section
variable {C : Cx}
theorem PureV.borrow {f : Nat} {args args' : List V} {r : V} (p : PureV C f args r) (hr : Flat r) (d : Nat) (H : H) (ha : args = args'.map (Go.W.frz 0 d H)) : CallsV C f args' H fun res h' => res = .ret r ∧ h' = H := by
  intro S w0 φ vs w G R hargs
  obtain ⟨φ', R', E', _, m'⟩ := Arr.frz (n0 := 0) d S w0 φ w R (Nat.zero_le _)
  have R0 : Rel (fun _ => False) w ⟨fun _ => none, φ'.z⟩ [] w := by
    obtain ⟨F', R'⟩ := R'
    exact ⟨fun _ => [], Kept.refl _ _, fun _ _ => rfl, R'.zok, fun _ _ _ h => by simp at h, fun _ _ h => by simp at h, fun _ => List.nodup_nil, fun _ _ _ h => by simp at h, fun _ _ => rfl, fun b B h => by simp at h⟩
  have hargs' : All2 (RelV ⟨fun _ => none, φ'.z⟩) args vs.toList := by
    subst ha
    refine all2_map.2 (hargs.mono fun x v rv => ?_)
    have := m' x (Go.W.frz 0 d H x) v (.inr rfl) rv
    -- what is frozen refers to no block
    have hc := (frz_closed (fun b => H.length + b) 0 H d x).2.2.2
    rw [← hc] at this
    have hrn : Rn (fun b => H.length + b) φ' ⟨fun _ => none, φ'.z⟩ := ⟨fun b q e => by
      obtain ⟨F', R'⟩ := R'
      have hd := R'.dom (H.length + b) (by simp [killFrom])
      rw [hd] at e; exact absurd e (by simp), FLe.refl _⟩
    exact hrn.v this
  refine (p.calls (fun _ => False) w ⟨fun _ => none, φ'.z⟩ vs w (G.mono E'.z) R0 hargs').mono fun e w1 ⟨res, φ1, h1, q1, q2, q3, q4, q5, q6⟩ => ?_
  subst q5; subst q6
  obtain ⟨v, rfl, rv⟩ := q1
  obtain ⟨F1, R1⟩ := q2
  have gr : w.grownBy w1 none := ⟨R1.kept.os, R1.kept.tape, R1.kept.output, R1.kept.size, fun k hk _ => R1.kept.block k hk id⟩
  exact ⟨.ret r, φ, H, ⟨v, rfl, hr _ _ _ rv⟩, R.grow gr, ExtN.refl .., Nat.le_refl _, rfl, rfl⟩

variable {N n0 m : Nat} {Q : QT} {k : List It} {τ : Tau} {h : H}
theorem CallThen.borrow {f : Nat} {args args' : List V} {r : V} {d : Option Nat} (p : PureV C f args r) (hr : Flat r) (dd : Nat) (ha : args = args'.map (Go.W.frz 0 dd h)) (m : Nat) (hrun : Run C N n0 m Q k (upo d r τ) h) : CallThen C N n0 Q f args' d k τ h :=
  CallThen.of m (p.borrow hr dd h ha) fun res h' ⟨e1, e2⟩ => by subst e1; subst e2; exact hrun
theorem DCall.borrow {h0 : H} {exc : List Nat} {ops : Array Oper} {fuel : Nat} {listed : Array Bool} {f : Nat} {args args' : List V} {r : V} {d : Option Nat} {nw : List Nat} (p : PureV C f args r) (hr : Flat r) (dd : Nat) (ha : args = args'.map (Go.W.frz 0 dd (hide h0 exc h))) (m : Nat) (td : TD) (hd : drawOk ops [] listed td = true)
    (hrun : RunD C N n0 m Q k h0 exc ops fuel listed td (addN d nw) (upo d r τ) h) : DCall C N n0 Q h0 exc ops fuel listed k f args' d nw τ h :=
  DCall.of m td hd (p.borrow hr dd _ ha) fun res h' ⟨e1, e2⟩ => by
    subst e1; subst e2
    show RunD C N n0 m Q k h0 exc ops fuel listed td (addN d nw) (upo d r τ) (unmask h0.length exc 0 h (mask h0.length exc 0 h))
    rw [show_hide]; exact hrun

end
end Go.W
/- part W31 -/
set_option linter.unusedVariables false
set_option linter.unusedSimpArgs false
namespace Go.W
open Go Go.RowKit

section
variable {C : Cx} {h : H} {n0 : Nat}
theorem Arr.shrink {b n cap j : Nat} {els : List (List V)} (hb : h[b]? = some ⟨els, n, cap, true⟩) : Arr n0 h (h.set b ⟨els.take j, n, cap, true⟩) fun x x' => x' = x := by
  intro S w0 φ w ⟨F, R⟩ hn
  have hblt : b < h.length := (List.getElem?_eq_some_iff.1 hb).1
  obtain ⟨p, k1, k2, k3, k4⟩ := R.place hb rfl
  simp only at k1 k2 k3
  have key : ∃ fp0, (∀ k ∈ fp0, k ∈ F b) ∧ fp0.Nodup ∧ BlkRel φ w b ⟨els.take j, n, cap, true⟩ fp0 := by
    cases p with
    | none =>
      obtain ⟨e1, e2, e3⟩ := k4
      simp only at e1 e2
      refine ⟨[], by simp, List.nodup_nil, ?_⟩
      unfold BlkRel; rw [if_pos rfl]
      exact ⟨none, k1, by simp [e1], by simp [e1], by simp [e1], e2, rfl⟩
    | some k =>
      obtain ⟨c, ty, fq, q1, q2, q3, q4, q5⟩ := k4
      simp only at q2 q3 q4
      obtain ⟨f1, f2, e, ht⟩ := q4.take j
      have hnd := R.nodup b
      rw [q5, e] at hnd
      refine ⟨k :: f1, fun x hx => by rw [q5, e]; simp at hx ⊢; rcases hx with q | q <;> simp [q], ?_, ?_⟩
      · simp only [List.nodup_cons, List.nodup_append, List.mem_append] at hnd ⊢
        exact ⟨fun q => hnd.1 (.inl q), hnd.2.1⟩
      · unfold BlkRel; rw [if_pos rfl]
        exact ⟨some k, k1, fun el he => k2 el (List.mem_of_mem_take he), by simp only [List.length_take]; omega, c, ty, f1, q1, q2, by simp only [List.length_take]; omega, ht, rfl⟩
  obtain ⟨fp0, g1, g2, g3⟩ := key
  refine ⟨φ, ⟨_, R.step (w' := w) (bo := b) (b0 := b) (fp0 := fp0) (Ext.refl φ) rfl R.kept (Nat.le_refl _) (by simpa using hblt) (by simp) (fun i hi => R.dom i (by simpa using hi)) (fun _ _ _ => rfl) (.inl rfl) (by simp [hblt])
    (fun q => absurd rfl q) (fun i h1 h2 => by rw [List.getElem?_set_ne (Ne.symm h1)]) (fun k hk => .inl (g1 k hk)) (fun k hk => (R.mine b k (g1 k hk)).2) g2 g3⟩, ExtN.refl .., by simpa using hn, fun x x' v hm r => by subst hm; exact r⟩

variable {N m : Nat} {Q : QT} {k : List It} {τ : Tau}
end
end Go.W
/- part W32 -/
set_option linter.unusedVariables false
set_option linter.unusedSimpArgs false
namespace Go.W
open Go Go.RowKit

section
variable {C : Cx} {h : H} {n0 : Nat}
theorem Arr.nil (n : Nat) : Arr n0 h (h ++ [⟨[], n, 0, true⟩]) fun x x' => x' = x ∨ (x = .z ∧ x' = .sl h.length 0 0 0) := by
  intro S w0 φ w ⟨F, R⟩ hn
  have he : Ext φ (phiPush φ h.length (none, n)) := phiPush_ext (R.dom _ (Nat.le_refl _))
  refine ⟨phiPush φ h.length (none, n), ⟨_, R.step (w' := w) (bo := h.length) (b0 := h.length) (B0 := ⟨[], n, 0, true⟩) (fp0 := []) he rfl R.kept (Nat.le_refl _) (by simp) (by simp) ?_ (fun _ _ _ => rfl) (.inl rfl) (by simp) (fun q => absurd rfl q) ?_ (fun k hk => by simp at hk) (fun k hk => by simp at hk) List.nodup_nil ?_⟩,
    phiPush_extN (Nat.le_trans hn (Nat.le_refl _)), by simp; omega, fun x x' v hm r => ?_⟩
  · intro j hj
    simp at hj
    rw [phiPush_old (by omega)]; exact R.dom j (by omega)
  · intro j h1 h2
    by_cases q : j < h.length
    · rw [List.getElem?_append_left q]
    · rw [List.getElem?_eq_none (by simp; omega), List.getElem?_eq_none (by omega)]
  · unfold BlkRel; rw [if_pos rfl]
    exact ⟨none, phiPush_new, by simp, by simp, rfl, rfl, rfl⟩
  · rcases hm with rfl | ⟨rfl, rfl⟩
    · exact r.ext he
    · refine ⟨none, n, phiPush_new, Nat.le_refl _, ?_, rfl, rfl, rfl⟩
      exact r
theorem Up.nil {R : Res → H → Prop} (n : Nat) (hr : R (.ret (.sl 0 0 0 0)) [⟨[], n, 0, true⟩]) : Up 0 R (.ret .z) h := by
  have hg : gcOk [h.length] (h ++ [⟨[], n, 0, true⟩]) [⟨[], n, 0, true⟩] 0 := by
    refine ⟨rfl, by simp, by simp, fun i hi => by omega, fun i B' e hl => ?_⟩
    match i, e with
    | 0, e => simp at e; subst e; exact ⟨⟨[], n, 0, true⟩, by show (h ++ [_])[h.length]? = _; simp, rfl⟩
    | i + 1, e => simp at e
  exact ⟨.sl 0 0 0 0, _, _, (Arr.nil (n0 := 0) n).trans (Arr.gc hg), ⟨.sl h.length 0 0 0, .inr ⟨rfl, rfl⟩, .inr rfl⟩, hr⟩
theorem Up.fresh {R : Res → H → Prop} {b len cap n : Nat} {els : List (List V)} (hb : h[b]? = some ⟨els, n, cap, true⟩) (hn : nrs els = true) (hr : R (.ret (.sl 0 0 len cap)) [⟨els, n, cap, true⟩]) : Up 0 R (.ret (.sl b 0 len cap)) h := by
  have hlt : b < h.length := (List.getElem?_eq_some_iff.1 hb).1
  have hg : gcOk [b] h [⟨els, n, cap, true⟩] 0 := by
    refine ⟨rfl, by simp, by simp, fun i hi => by omega, fun i B' e hl => ?_⟩
    match i, e with
    | 0, e => simp at e; subst e; exact ⟨⟨els, n, cap, true⟩, hb, (nrs_rn _ hn).symm⟩
    | i + 1, e => simp at e
  exact ⟨.sl 0 0 len cap, _, _, Arr.gc hg, .inr rfl, hr⟩

def NewV (C : Cx) (f : Nat) (args : List V) (n : Nat) (post : List (List V)) : Prop :=
  CallsV C f args [] fun res h' => ∃ cap, post.length ≤ cap ∧ res = .ret (.sl 0 0 post.length cap) ∧ h' = [⟨post, n, cap, true⟩]
theorem NewV.at_ {f n : Nat} {args : List V} {post : List (List V)} (p : NewV C f args n post) (hp : nrs post = true) (hc : ∀ ρ, args.map (rnV ρ) = args) (H : H) :
    CallsV C f args H fun res h' => ∃ cap, post.length ≤ cap ∧ res = .ret (.sl H.length 0 post.length cap) ∧ h' = H ++ [⟨post, n, cap, true⟩] := by
  have := CallsV.frame p [] H rfl (by simp) (fun i B e => by simp at e)
  have e1 : emb [] H.length 0 = H.length := by simp [emb]
  rw [hc] at this
  refine this.mono fun res h' ⟨r, h1, ⟨cap', q1, q2, q3⟩, q4, q5⟩ => ⟨cap', q1, ?_, ?_⟩
  · subst q2; rw [q4]; simp only [rnRes, rnV, rnQ, rnC, rnP, e1]
  · subst q3
    rw [q5]
    simp only [List.map_cons, List.map_nil, setAll]
    rw [nrs_rn _ (B := ⟨post, n, cap', true⟩) hp]
variable {N m : Nat} {Q : QT} {k : List It} {τ : Tau}
theorem CallThen.new {f n : Nat} {args : List V} {post : List (List V)} {d : Option Nat} (p : NewV C f args n post) (hp : nrs post = true) (hc : ∀ ρ, args.map (rnV ρ) = args) (m : Nat)
    (hr : ∀ cap, post.length ≤ cap → Run C N n0 m Q k (upo d (.sl h.length 0 post.length cap) τ) (h ++ [⟨post, n, cap, true⟩])) : CallThen C N n0 Q f args d k τ h :=
  CallThen.of m (p.at_ hp hc h) fun res h' ⟨cap', e1, e2, e3⟩ => by subst e2; subst e3; exact hr cap' e1
end
end Go.W
/- part W33 -/
set_option linter.unusedVariables false
set_option linter.unusedSimpArgs false
namespace Go.W
open Go Go.RowKit

def plain : V → Bool
  | .s _ => true
  | _ => false
def plains (els : List (List V)) : Bool := els.all fun el => el.all plain
theorem ls_plain {φ φ' : Phi} {w w' : World} : ∀ {el : List V} {vs : List Value} {fp : Fp}, el.all plain = true → Ls (Dc φ w) el vs fp → Ls (Dc φ' w') el vs []
  | [], vs, fp, _, h => by simp only [Ls]
  | x :: xs, vs, fp, hp, h => by
    simp only [Ls] at *
    obtain ⟨v, r, f1, f2, e1, e2, h1, h2⟩ := h
    simp only [List.all_cons, Bool.and_eq_true] at hp
    refine ⟨v, r, [], [], e1, rfl, ?_, ls_plain hp.2 h2⟩
    cases x with
    | s a =>
      refine .inl ⟨?_, rfl⟩
      rcases h1 with ⟨q, _⟩ | q
      · simp only [RelC, RelP, RZ] at q ⊢; exact q
      · simp only [T, RZ] at q; exact q.1
    | _ => simp [plain] at hp
theorem lss_plain {φ φ' : Phi} {w w' : World} {n : Nat} : ∀ {els : List (List V)} {vs : List Value} {fp : Fp}, plains els = true → Lss (Dc φ w) n els vs fp → Lss (Dc φ' w') n els vs []
  | [], vs, fp, _, h => by simp only [Lss]
  | el :: els, vs, fp, hp, h => by
    simp only [Lss] at *
    obtain ⟨h0, f1, f2, e, h1, h2⟩ := h
    simp only [plains, List.all_cons, Bool.and_eq_true] at hp
    exact ⟨h0, [], [], rfl, ls_plain hp.1 h1, lss_plain (by simpa [plains] using hp.2) h2⟩
section
variable {C : Cx}
theorem NewV.borrow {f n : Nat} {args args' : List V} {post : List (List V)} (p : NewV C f args n post) (hr : plains post = true) (d : Nat) (H : H) (ha : args = args'.map (Go.W.frz 0 d H)) :
    CallsV C f args' H fun res h' => ∃ cap, post.length ≤ cap ∧ res = .ret (.sl H.length 0 post.length cap) ∧ h' = H ++ [⟨post, n, cap, true⟩] := by
  intro S w0 φ vs w G R hargs
  obtain ⟨φ', R', E', _, m'⟩ := Arr.frz (n0 := 0) d S w0 φ w R (Nat.zero_le _)
  have R0 : Rel (fun _ => False) w ⟨fun _ => none, φ'.z⟩ [] w := by
    obtain ⟨F', R'⟩ := R'
    exact ⟨fun _ => [], Kept.refl _ _, fun _ _ => rfl, R'.zok, fun _ _ _ h => by simp at h, fun _ _ h => by simp at h, fun _ => List.nodup_nil, fun _ _ _ h => by simp at h, fun _ _ => rfl, fun b B h => by simp at h⟩
  have hargs' : All2 (RelV ⟨fun _ => none, φ'.z⟩) args vs.toList := by
    subst ha
    refine all2_map.2 (hargs.mono fun x v rv => ?_)
    have := m' x (Go.W.frz 0 d H x) v (.inr rfl) rv
    have hc := (frz_closed (fun b => H.length + b) 0 H d x).2.2.2
    rw [← hc] at this
    have hrn : Rn (fun b => H.length + b) φ' ⟨fun _ => none, φ'.z⟩ := ⟨fun b q e => by
      obtain ⟨F', R'⟩ := R'
      have hd := R'.dom (H.length + b) (by simp [killFrom])
      rw [hd] at e; exact absurd e (by simp), FLe.refl _⟩
    exact hrn.v this
  refine (p (fun _ => False) w ⟨fun _ => none, φ'.z⟩ vs w (G.mono E'.z) R0 hargs').mono fun e w1 ⟨res, φ1, h1, q1, q2, q3, q4, cap, q5, q6, q7⟩ => ?_
  subst q6; subst q7
  obtain ⟨v, rfl, rv⟩ := q1
  obtain ⟨F1, R1⟩ := q2
  obtain ⟨F, R⟩ := R
  have gr : w.grownBy w1 none := ⟨R1.kept.os, R1.kept.tape, R1.kept.output, R1.kept.size, fun k hk _ => R1.kept.block k hk id⟩
  obtain ⟨p1, n1, k1, k3⟩ := sl_rel rv
  have kle := sl_le rv
  obtain ⟨p2, g1, g2, g3, g4⟩ := R1.place (b := 0) (B := ⟨post, n, cap, true⟩) rfl rfl
  simp only at g1 g2 g3
  rw [k1] at g1; obtain ⟨rfl, rfl⟩ := Prod.mk.inj (Option.some.inj g1)
  cases p1 with
  | none =>
    obtain ⟨e1, e2, e3⟩ := g4
    simp only at e1 e2
    subst e1; subst e2
    refine ⟨.ret (.sl H.length 0 0 0), phiPush φ H.length (none, n1), H ++ [⟨[], n1, 0, true⟩], ⟨v, rfl, none, n1, phiPush_new, Nat.le_refl _, ?_⟩, (R.grow gr).allocNil n1, phiPush_extN (Nat.le_refl _), by simp, 0, Nat.le_refl _, rfl, rfl⟩
    exact k3
  | some k =>
    obtain ⟨c, ty, fq, r1, r2, r3, r4, r5⟩ := g4
    simp only at r2 r3 r4
    have hk : w.heap.size ≤ k := by
      rcases (R1.mine 0 k (by rw [r5]; simp)).1 with q | q
      · exact q.elim
      · exact q
    exact ⟨.ret (.sl H.length 0 post.length cap), phiPush φ H.length (some k, n1), H ++ [⟨post, n1, cap, true⟩], ⟨v, rfl, some k, n1, phiPush_new, kle, k3⟩, R.alloc gr hk r1 r2 r3 g3 g2 (lss_plain hr r4), phiPush_extN (Nat.le_refl _), by simp, cap, q5, rfl, rfl⟩
variable {N n0 m : Nat} {Q : QT} {k : List It} {τ : Tau} {h : H}
theorem DCall.newB {h0 : H} {exc : List Nat} {ops : Array Oper} {fuel : Nat} {listed : Array Bool} {f n : Nat} {args args' : List V} {post : List (List V)} {d : Option Nat} {nw : List Nat} (p : NewV C f args n post) (hr : plains post = true) (dd : Nat) (ha : args = args'.map (Go.W.frz 0 dd (hide h0 exc h))) (m : Nat) (td : TD) (hd : drawOk ops [] listed td = true)
    (hrun : ∀ cap, post.length ≤ cap → RunD C N n0 m Q k h0 exc ops fuel listed td (addN d nw) (upo d (.sl (hide h0 exc h).length 0 post.length cap) τ) (show_ h0 exc h ((hide h0 exc h) ++ [⟨post, n, cap, true⟩]))) : DCall C N n0 Q h0 exc ops fuel listed k f args' d nw τ h :=
  DCall.of m td hd (p.borrow hr dd _ ha) fun res h' ⟨cap', e1, e2, e3⟩ => by subst e2; subst e3; exact hrun cap' e1
theorem plains_map {α : Type} {f : α → List V} (hf : ∀ a, (f a).all plain = true) (l : List α) : plains (l.map f) = true := by
  simp only [plains, List.all_map, List.all_eq_true]; exact fun a _ => hf a
end
end Go.W
/- part W34 -/
set_option linter.unusedVariables false
set_option linter.unusedSimpArgs false
namespace Go.W
open Go Go.RowKit

theorem gcOk_ofN {n0 : Nat} {l : List Nat} {h h' : H} (hn : l.Nodup) (ht : l.take n0 = List.range n0) (hg : gcL (nm l h.length) h l h') : gcOk l h h' n0 := by
  obtain ⟨h1, h2⟩ := gcL_spec hg
  have hl : n0 ≤ l.length := by
    have := congrArg List.length ht
    simp at this; omega
  refine ⟨h1, hn, by omega, fun i hi => ?_, fun i B' e _ => ?_⟩
  · have := congrArg (fun x : List Nat => x[i]?) ht
    simp only [List.getElem?_take_of_lt hi] at this
    rw [this]; simp [hi]
  · obtain ⟨b, e1, e2⟩ := h2 i B' e
    exact ⟨_, by rw [show nm l h.length i = b by unfold nm; rw [e1]; rfl]; exact e2, rfl⟩
section
variable {C : Cx} {N m n0 : Nat} {Q : QT} {k : List It} {τ : Tau} {h : H}
theorem Goes.ownN {K : Tau → H → Prop} (l : List Nat) (T : List (Nat × V)) (h' : H) (hn : l.Nodup) (hr : l.take n0 = List.range n0) (hg : gcL (nm l h.length) h l h') (ht : keepT τ (nm l h.length) T) (hk : K (keepL T) h') : Goes n0 K τ h :=
  ⟨_, h', _, Arr.gc (gcOk_ofN hn hr hg), fun t => keepT_spec ht t, hk⟩
def loopN (C : Cx) (N n0 m : Nat) (Q : QT) (k : List It) (I : Tau → H → Prop) : QT
  | .normal, τ, h => I τ h
  | .exit id, τ, h => exitK (Run C N n0 m Q) Q id τ h (popTo id k)
  | .ret, τ, h => Q .ret τ h
  | .pan v, τ, h => Q (.pan v) τ h
theorem panFree_loopN {I : Tau → H → Prop} (hQ : PanFree Q) : PanFree (loopN C N n0 m Q k I) := fun v τ τ' h q => hQ v τ τ' h q
theorem loopN_normal (I : Tau → H → Prop) : loopN C N n0 m Q k I .normal τ h = I τ h := rfl
theorem loopN_exit (I : Tau → H → Prop) (id : Nat) : loopN C N n0 m Q k I (.exit id) τ h = exitK (Run C N n0 m Q) Q id τ h (popTo id k) := rfl
theorem loopN_ret (I : Tau → H → Prop) : loopN C N n0 m Q k I .ret τ h = Q .ret τ h := rfl
theorem loopN_pan (I : Tau → H → Prop) (v : V) : loopN C N n0 m Q k I (.pan v) τ h = Q (.pan v) τ h := rfl
theorem LoopThen.ownN (n0 : Nat) {ι : Type} {body : Code} (P : ι → Prop) (T : ι → List (Nat × V)) (Hp : ι → H) (μ : ι → Nat) (m n : Nat)
    (h0 : ∃ i, P i ∧ ∃ l : List Nat, (l.Nodup ∧ l.take n0 = List.range n0) ∧ gcL (nm l h.length) h l (Hp i) ∧ keepT τ (nm l h.length) (T i))
    (hr : ∀ i, P i → Run C N n0 n (loopN C N n0 m Q k fun τ' h' => ∃ j, (P j ∧ μ j < μ i) ∧ ∃ l : List Nat, (l.Nodup ∧ l.take n0 = List.range n0) ∧ gcL (nm l h'.length) h' l (Hp j) ∧ keepT τ' (nm l h'.length) (T j)) [.code body] (keepL (T i)) (Hp i)) : LoopThen C N n0 Q body k τ h := by
  classical
  intro hb hk
  let I : Tau → H → Prop := fun τ h => ∃ i, P i ∧ τ = keepL (T i) ∧ h = Hp i
  have nat_min : ∀ (p : Nat → Prop) (n : Nat), p n → ∃ n, p n ∧ ∀ m, p m → n ≤ m := by
    intro p n hn
    induction n using Nat.strongRecOn with
    | _ n ih =>
      by_cases q : ∃ m, m < n ∧ p m
      · obtain ⟨m, h1, h2⟩ := q; exact ih m h1 h2
      · exact ⟨n, hn, fun m hm => Nat.le_of_not_lt fun h => q ⟨m, h, hm⟩⟩
  let R : Tau → H → Nat → Prop := fun τ h n => ∃ i, P i ∧ τ = keepL (T i) ∧ h = Hp i ∧ μ i = n
  let M : Tau → H → Nat := fun τ h => if q : ∃ n, R τ h n then Classical.choose (nat_min (R τ h) _ (Classical.choose_spec q)) else 0
  have hM : ∀ τ h, I τ h → ∃ i, P i ∧ τ = keepL (T i) ∧ h = Hp i ∧ μ i = M τ h ∧ ∀ j, P j → τ = keepL (T j) → h = Hp j → M τ h ≤ μ j := by
    intro τ h ⟨i, h1, h2, h3⟩
    have q : ∃ n, R τ h n := ⟨μ i, i, h1, h2, h3, rfl⟩
    have e : M τ h = Classical.choose (nat_min (R τ h) _ (Classical.choose_spec q)) := dif_pos q
    have sp := Classical.choose_spec (nat_min (R τ h) _ (Classical.choose_spec q))
    rw [← e] at sp
    obtain ⟨⟨j, j1, j2, j3, j4⟩, j5⟩ := sp
    exact ⟨j, j1, j2, j3, j4, fun i' q1 q2 q3 => j5 (μ i') ⟨i', q1, q2, q3, rfl⟩⟩
  refine WC.loop I M ?_ fun τ h hI => ?_
  · obtain ⟨i, h1, l, ⟨h2, h2'⟩, h3, h4⟩ := h0
    exact Goes.ownN l (T i) (Hp i) h2 h2' h3 h4 ⟨i, h1, rfl, rfl⟩
  · obtain ⟨i, p1, e1, e2, e3, _⟩ := hM τ h hI
    subst e1; subst e2
    have := Run_sound n _ [.code body] (keepL (T i)) (Hp i) (by simp [itOk, hb]) (hr i p1)
    refine WC.mono this fun x τ' h' q => ?_
    cases x with
    | normal =>
      obtain ⟨j, ⟨q1, q2⟩, l, ⟨q3, q3'⟩, q4, q5⟩ := q
      refine Goes.ownN l (T j) (Hp j) q3 q3' q4 q5 ⟨⟨j, q1, rfl, rfl⟩, ?_⟩
      obtain ⟨j', _, _, _, _, r4⟩ := hM (keepL (T j)) (Hp j) ⟨j, q1, rfl, rfl⟩
      have := r4 j q1 rfl rfl
      omega
    | exit id =>
      refine semK_exit ?_
      simp only [SemK, loopN] at q
      cases hp : popTo id k with
      | none => rw [hp] at q; exact q
      | some k' => rw [hp] at q; exact Run_sound m Q k' τ' h' (popTo_ok hp hk) q
    | ret => exact semK_ret q
    | pan v => exact semK_pan q
end
theorem mid_get {α : Type} {a b : List α} {y : α} {i : Nat} (h : a.length = i) : (a ++ y :: b)[i]? = some y := by
  subst h; simp
theorem mid_set {α : Type} {a b : List α} {x y : α} {i : Nat} (h : a.length = i) : (a ++ y :: b).set i x = a ++ x :: b := by
  subst h; simp
set_option linter.all false in
noncomputable def WB7 := And.intro (And.intro @loopN_normal @loopN_exit) (And.intro @loopN_ret @loopN_pan)
end Go.W
/- part W35 -/
set_option linter.unusedVariables false
set_option linter.unusedSimpArgs false
namespace Go.W
open Go Go.RowKit

section
variable {C : Cx} {h : H} {n0 : Nat}
theorem Up.keep {R : Res → H → Prop} {r : V} (hs : H) (hcr : ∀ ρ, rnV ρ r = r) (hl : hs.length = n0) (hg : gcL (nm (List.range n0) h.length) h (List.range n0) hs) (hr : R (.ret r) hs) : Up n0 R (.ret r) h :=
  ⟨r, hs, _, Arr.gc (gcOk_ofN List.nodup_range (by rw [List.take_of_length_le (by simp)]) hg), .inr (hcr _).symm, hr⟩

structure EditV (C : Cx) (f : Nat) (args : List V) (hs : H) (r : V) (hs' : H) : Prop where
  cr : ∀ ρ, rnV ρ r = r
  nr : hs'.all (fun B => nrs B.els) = true
  calls : CallsV C f args hs fun res h' => res = .ret r ∧ h' = hs'
theorem EditV.at_ {f : Nat} {args args' : List V} {hs hs' : H} {r : V} (p : EditV C f args hs r hs') (bs : List Nat) (H : H) (hn : bs.Nodup) (hg : gcL (emb bs H.length) H bs hs) (ha : args' = args.map (rnV (emb bs H.length))) :
    CallsV C f args' H fun res h' => res = .ret r ∧ h' = setAll H bs hs' := by
  obtain ⟨g1, g2⟩ := gcL_spec hg
  have := CallsV.frame p.calls bs H g1 hn g2
  rw [← ha] at this
  refine this.mono fun res h' ⟨x, h1, ⟨q1, q2⟩, q3, q4⟩ => ?_
  subst q1; subst q2
  refine ⟨by rw [q3]; simp only [rnRes, p.cr], ?_⟩
  rw [q4, map_same fun B hB => nrs_rn _ (List.all_eq_true.1 p.nr B hB)]
theorem setAll_nil (H h : Go.W.H) : setAll H [] h = H ++ h := by cases h <;> rfl
theorem setAll_cons (H : Go.W.H) (i : Nat) (l : List Nat) (B : Blk) (h : Go.W.H) : setAll H (i :: l) (B :: h) = setAll (H.set i B) l h := rfl
variable {N m : Nat} {Q : QT} {k : List It} {τ : Tau}
theorem CallThen.edit {f : Nat} {args args' : List V} {hs hs' : H} {r : V} {d : Option Nat} (p : EditV C f args hs r hs') (bs : List Nat) (hn : bs.Nodup) (hg : gcL (emb bs h.length) h bs hs) (ha : args' = args.map (rnV (emb bs h.length))) (m : Nat)
    (hr : Run C N n0 m Q k (upo d r τ) (setAll h bs hs')) : CallThen C N n0 Q f args' d k τ h :=
  CallThen.of m (p.at_ bs h hn hg ha) fun res h' ⟨e1, e2⟩ => by subst e1; subst e2; exact hr
end
set_option linter.all false in
noncomputable def WB8 := And.intro (And.intro @loopN_normal @loopN_exit) (And.intro (And.intro @loopN_ret @loopN_pan) (And.intro (And.intro @setAll_nil @setAll_cons) (And.intro @gcL_nil @gcL_cons)))
end Go.W
/- part W36 -/
set_option linter.unusedVariables false
set_option linter.unusedSimpArgs false
namespace Go.W
open Go Go.RowKit

section
variable {C : Cx} {h : H} {n0 : Nat}
theorem Up.gc {R : Res → H → Prop} {r : V} (r' : V) (l : List Nat) (hs : H) (hn : l.Nodup) (hg : gcL (nm l h.length) h l hs) (he : r = rnV (nm l h.length) r') (hr : R (.ret r') hs) : Up 0 R (.ret r) h :=
  ⟨r', hs, _, Arr.gc (gcOk_of hn hg), .inr he, hr⟩
def nilC1 (b : Nat) (x x' : V) : Prop := x' = x ∨ (x = .z ∧ x' = .sl b 0 0 0)
end
end Go.W
/- part W37 -/
set_option linter.unusedVariables false
set_option linter.unusedSimpArgs false
namespace Go.W
open Go Go.RowKit

def zfC : V → Bool
  | .s _ => true
  | .sl _ _ _ _ => true
  | .ptr _ _ _ => true
  | .z => true
  | .any => true
  | _ => false
def zfQ : V → Bool
  | .agg cs => cs.all zfC
  | x => zfC x
def zfV : V → Bool
  | .tup qs => qs.all zfQ
  | x => zfQ x
def zfR : Res → Bool
  | .ret v => zfV v
  | .pan _ => false
section
variable {φ φ' : Phi} {r : Nat → Nat}
theorem zfC_rel (hm : ∀ b q, φ.m b = some q → φ'.m (r b) = some q) {x : V} {v : Value} (hx : zfC x = true) (h : RelC φ x v) : RelC φ' (rnC r x) v := by
  cases x with
  | s a => simp only [rnC, rnP, RelC, RelP, RZ] at h ⊢; exact h
  | sl b off len cap =>
    obtain ⟨p, n, h1, h2, h3⟩ := h
    exact ⟨p, n, hm _ _ h1, h2, h3⟩
  | ptr b i o =>
    obtain ⟨k, n, h1, h2⟩ := h
    exact ⟨k, n, hm _ _ h1, h2⟩
  | z => simp only [rnC, rnP, RelC, RelP, RZ] at h ⊢; exact h
  | any => simp only [rnC, rnP, RelC, RelP, RZ] at h ⊢
  | _ => simp [zfC] at hx
theorem zf_all {R R' : V → Value → Prop} {p : V → Bool} {g : V → V} (hr : ∀ x v, p x = true → R x v → R' (g x) v) : ∀ {xs : List V} {ys : List Value}, xs.all p = true → All2 R xs ys → All2 R' (xs.map g) ys
  | [], [], _, _ => trivial
  | x :: xs, y :: ys, h, a => by
    simp only [List.all_cons, Bool.and_eq_true] at h
    exact ⟨hr _ _ h.1 a.1, zf_all hr h.2 a.2⟩
  | [], _ :: _, _, a => a.elim
  | _ :: _, [], _, a => a.elim
theorem zfQ_rel (hm : ∀ b q, φ.m b = some q → φ'.m (r b) = some q) {x : V} {v : Value} (hx : zfQ x = true) (h : RelQ φ x v) : RelQ φ' (rnQ r x) v := by
  cases x with
  | agg cs =>
    obtain ⟨l, e, a⟩ := h
    exact ⟨l, e, zf_all (fun x v hx h => zfC_rel hm hx h) hx a⟩
  | s a => exact zfC_rel (x := .s a) hm hx h
  | f a b => exact zfC_rel (x := .f a b) hm hx h
  | l a b => exact zfC_rel (x := .l a b) (v := v) hm hx h
  | lp a => exact zfC_rel (x := .lp a) (v := v) hm hx h
  | z  => exact zfC_rel (x := .z ) hm hx h
  | sl a b c d => exact zfC_rel (x := .sl a b c d) hm hx h
  | ptr a b c => exact zfC_rel (x := .ptr a b c) hm hx h
  | pd a => exact zfC_rel (x := .pd a) hm hx h
  | fn a b => exact zfC_rel (x := .fn a b) hm hx h
  | any  => exact zfC_rel (x := .any) (v := v) hm hx h
  | tup a => exact zfC_rel (x := .tup a) (v := v) hm hx h
theorem zfV_rel (hm : ∀ b q, φ.m b = some q → φ'.m (r b) = some q) {x : V} {v : Value} (hx : zfV x = true) (h : RelV φ x v) : RelV φ' (rnV r x) v := by
  cases x with
  | tup cs =>
    obtain ⟨l, e, a⟩ := h
    exact ⟨l, e, zf_all (fun x v hx h => zfQ_rel hm hx h) hx a⟩
  | s a => exact zfQ_rel (x := .s a) hm hx h
  | f a b => exact zfQ_rel (x := .f a b) hm hx h
  | l a b => exact zfQ_rel (x := .l a b) (v := v) hm hx h
  | lp a => exact zfQ_rel (x := .lp a) (v := v) hm hx h
  | z  => exact zfQ_rel (x := .z ) hm hx h
  | sl a b c d => exact zfQ_rel (x := .sl a b c d) hm hx h
  | ptr a b c => exact zfQ_rel (x := .ptr a b c) hm hx h
  | pd a => exact zfQ_rel (x := .pd a) hm hx h
  | fn a b => exact zfQ_rel (x := .fn a b) hm hx h
  | any  => exact zfQ_rel (x := .any) (v := v) hm hx h
  | agg a => exact zfQ_rel (x := .agg a) hm hx h
end
section
variable {C : Cx}
end
end Go.W
/- part W38 -/
set_option linter.unusedVariables false
set_option linter.unusedSimpArgs false
namespace Go.W
open Go Go.RowKit

section
variable {C : Cx} {N m n0 : Nat} {Q Q' : QT} {k : List It} {τ : Tau} {h : H}
end
end Go.W
/- part W39 -/
set_option linter.unusedVariables false
set_option linter.unusedSimpArgs false
namespace Go.W
open Go Go.RowKit

end Go.W
/- part W40 -/
set_option linter.unusedVariables false
set_option linter.unusedSimpArgs false
namespace Go.W
open Go Go.RowKit

section
variable {C : Cx} {h : H} {n0 : Nat}
theorem ls_nil {φ : Phi} {w : World} {b m : Nat} (hb : φ.m b = some (none, m)) : ∀ {el el' : List V} {vs : List Value} {fp : Fp}, All2 (nilC1 b) el el' → Ls (Dc φ w) el vs fp → Ls (Dc φ w) el' vs fp
  | [], [], vs, fp, _, h => h
  | x :: xs, x' :: xs', vs, fp, a, h => by
    simp only [Ls] at *
    obtain ⟨v, r, f1, f2, e1, e2, h1, h2⟩ := h
    refine ⟨v, r, f1, f2, e1, e2, ?_, ls_nil hb a.2 h2⟩
    rcases a.1 with e | ⟨ez, es⟩
    · rw [e]; exact h1
    · subst ez; subst es
      have key : ∀ v, RZ φ.z .z v → RelC φ (.sl b 0 0 0) v := fun v q => ⟨none, m, hb, Nat.le_refl _, by simp only [RZ] at q; exact q, rfl, rfl, rfl⟩
      rcases h1 with ⟨q, e⟩ | q
      · exact .inl ⟨key _ q, e⟩
      · simp only [T] at q
        exact .inl ⟨key _ q.1, q.2⟩
  | [], _ :: _, _, _, a, _ => a.elim
  | _ :: _, [], _, _, a, _ => a.elim
theorem lss_nil {φ : Phi} {w : World} {b m n : Nat} (hb : φ.m b = some (none, m)) : ∀ {els els' : List (List V)} {vs : List Value} {fp : Fp}, All2 (All2 (nilC1 b)) els els' → Lss (Dc φ w) n els vs fp → Lss (Dc φ w) n els' vs fp
  | [], [], vs, fp, _, h => h
  | x :: xs, x' :: xs', vs, fp, a, h => by
    simp only [Lss] at *
    obtain ⟨h0, f1, f2, e2, h1, h2⟩ := h
    have hlen : ∀ {xs xs' : List V}, All2 (nilC1 b) xs xs' → xs.length = xs'.length := fun {xs xs'} a => by
      induction xs generalizing xs' with
      | nil => cases xs' with | nil => rfl | cons _ _ => exact a.elim
      | cons y ys ih => cases xs' with | nil => exact a.elim | cons _ _ => simp [ih a.2]
    exact ⟨by rw [← hlen a.1]; exact h0, f1, f2, e2, ls_nil hb a.1 h1, lss_nil hb a.2 h2⟩
  | [], _ :: _, _, _, a, _ => a.elim
  | _ :: _, [], _, _, a, _ => a.elim
theorem all2_length {α β : Type} {R : α → β → Prop} : ∀ {xs : List α} {ys : List β}, All2 R xs ys → xs.length = ys.length
  | [], [], _ => rfl
  | x :: xs, y :: ys, h => by simp [all2_length h.2]
  | [], _ :: _, h => h.elim
  | _ :: _, [], h => h.elim
theorem all2_memR {α β : Type} {R : α → β → Prop} : ∀ {xs : List α} {ys : List β}, All2 R xs ys → ∀ y ∈ ys, ∃ x ∈ xs, R x y
  | [], [], _, y, hy => by simp at hy
  | x :: xs, z :: zs, h, y, hy => by
    rcases List.mem_cons.1 hy with rfl | hy
    · exact ⟨x, by simp, h.1⟩
    · obtain ⟨x', h1, h2⟩ := all2_memR h.2 y hy; exact ⟨x', by simp [h1], h2⟩
  | [], _ :: _, h, _, _ => h.elim
  | _ :: _, [], h, _, _ => h.elim
theorem Arr.nilCell {b n cap m : Nat} {els els' : List (List V)} (hb : h[b]? = some ⟨els, n, cap, true⟩) (ha : All2 (All2 (nilC1 h.length)) els els') : Arr n0 h (h.set b ⟨els', n, cap, true⟩ ++ [⟨[], m, 0, true⟩]) fun x x' => x' = x := by
  intro S w0 φ w ⟨F, R⟩ hn
  have hblt : b < h.length := (List.getElem?_eq_some_iff.1 hb).1
  have he : Ext φ (phiPush φ h.length (none, m)) := phiPush_ext (R.dom _ (Nat.le_refl _))
  obtain ⟨F1, R1⟩ := R.allocNil m
  have hb1 : (h ++ [(⟨[], m, 0, true⟩ : Blk)])[b]? = some ⟨els, n, cap, true⟩ := by rw [List.getElem?_append_left hblt]; exact hb
  obtain ⟨p, k1, k2, k3, k4⟩ := R1.place hb1 rfl
  simp only at k1 k2 k3
  have hlen := all2_length ha
  have e : h.set b ⟨els', n, cap, true⟩ ++ [(⟨[], m, 0, true⟩ : Blk)] = (h ++ [(⟨[], m, 0, true⟩ : Blk)]).set b ⟨els', n, cap, true⟩ := by rw [List.set_append_left _ _ hblt]
  rw [e]
  have hB : BlkRel (phiPush φ h.length (none, m)) w b ⟨els', n, cap, true⟩ (F1 b) := by
    unfold BlkRel; rw [if_pos rfl]
    refine ⟨p, k1, fun el hel => ?_, by simp only; omega, ?_⟩
    · obtain ⟨x, hx, a⟩ := all2_memR ha el hel
      rw [← all2_length a]; exact k2 x hx
    cases p with
    | none =>
      obtain ⟨e1, e2, e3⟩ := k4
      simp only at e1 e2
      refine ⟨?_, e2, e3⟩
      cases els' with
      | nil => rfl
      | cons _ _ => rw [e1] at hlen; simp at hlen
    | some k =>
      obtain ⟨c, ty, fq, q1, q2, q3, q4, q5⟩ := k4
      simp only at q2 q3 q4
      exact ⟨c, ty, fq, q1, q2, by simp only; omega, lss_nil phiPush_new ha q4, q5⟩
  refine ⟨phiPush φ h.length (none, m), ⟨_, R1.step (w' := w) (bo := b) (b0 := b) (B0 := ⟨els', n, cap, true⟩) (fp0 := F1 b) (Ext.refl _) rfl R1.kept (Nat.le_refl _) (by simp; omega) (by simp) (fun i hi => R1.dom i (by simpa using hi)) (fun _ _ _ => rfl) (.inl rfl) ?_
    (fun q => absurd rfl q) (fun i h1 h2 => by rw [List.getElem?_set_ne (Ne.symm h1)]) (fun k hk => .inl hk) (fun k hk => (R1.mine b k hk).2) (R1.nodup b) hB⟩, phiPush_extN (Nat.le_trans hn (Nat.le_refl _)), by simp; omega, fun x x' v hm r => by subst hm; exact r.ext he⟩
  rw [List.getElem?_set_self (by simp; omega)]
end
end Go.W
/- part W41 -/
set_option linter.unusedVariables false
set_option linter.unusedSimpArgs false
namespace Go.W
open Go Go.RowKit

section
variable {C : Cx}
theorem CallsV.up {f : Nat} {args : List V} {h : H} {R R' : Res → H → Prop} (p : CallsV C f args h R) (u : ∀ r h', R r h' → Up h.length R' r h') : CallsV C f args h R' := by
  intro S w0 φ vs w r0 r1 r2
  refine (p S w0 φ vs w r0 r1 r2).mono fun e w' ⟨r, φ', h', p1, p2, p3, p4, p5⟩ => ?_
  have := u r h' p5
  cases r with
  | ret v =>
    obtain ⟨v', h2, M, ar, hm, hR⟩ := this
    obtain ⟨φ'', R'', e'', hn'', m''⟩ := ar S w0 φ' w' p2 p4
    obtain ⟨cv, e1, rv⟩ := p1
    exact ⟨.ret v', φ'', h2, ⟨cv, e1, m'' _ _ _ hm rv⟩, R'', p3.trans e'', hn'', hR⟩
  | pan v =>
    obtain ⟨v', h2, M, ar, hm, hR⟩ := this
    obtain ⟨φ'', R'', e'', hn'', m''⟩ := ar S w0 φ' w' p2 p4
    obtain ⟨cv, e1, rv⟩ := p1
    exact ⟨.pan v', φ'', h2, ⟨cv, e1, m'' _ _ _ hm rv⟩, R'', p3.trans e'', hn'', hR⟩
end
end Go.W
/- part W42 -/
set_option linter.unusedVariables false
set_option linter.unusedSimpArgs false
namespace Go.W
open Go Go.RowKit

def roundQ (P : Program) (l : Nat) (R : Ending → World → Prop) : Exit → Act → World → Prop
  | .normal, _, w => ∃ v w', (Instr.endRound l none).run P w = .ok v w' ∧ R (.returned v) w'
  | .ret, _, w => ∃ v w', (Instr.endRound l (some .ret)).run P w = .ok v w' ∧ R (.returned v) w'
  | .exit id, _, w => ∃ v w', (Instr.endRound l (some (.exit id))).run P w = .ok v w' ∧ R (.returned v) w'
  | .panic chain, a, w => ∀ fn, LeavesInM Fence.wide 0 P fn a.tmps R a.defers (.panicking chain) w
  | _, _, _ => False

section
variable {C : Cx}
theorem round_of_wpV {n l f : Nat} {tmps : Array Value} {assign body : Code} {w : World} {R : Ending → World → Prop} (hv : (C.P.funcs[f]?).isSome = true) (hrd : C.rd = some l)
    (h : C.wpV assign (Exit.then (fun a₁ w₁ => ∃ w₂, (Instr.beginRound l).run C.P w₁ = .ok () w₂ ∧ C.wpV body (roundQ C.P l R) a₁ w₂) (fun _ _ _ => False)) { tmps := tmps, defers := [] } w) :
    RoundIn Fence.wide n C.P l f tmps assign body w R := by
  refine ⟨trivial, fun c cs hr => ?_⟩
  have hfe : Machine.fenced C.P C.fc = Machine.fenced C.P Fence.wide := rfl
  let b : Frame := { (default : Frame) with fn := f, kind := .normal, roundOf := some l }
  have hb0 : Frame.round l f tmps assign body .normal = b.atR { tmps := tmps, defers := [] } [.code assign, .beginRound, .code body] := by
    simp [Frame.round, Frame.atR, b]
  have fw : ∀ m : Machine, m.fenced C.P Fence.wide := fenced_wide C.P
  obtain ⟨e, a₁, w₁, hq, harr⟩ := h b [.beginRound, .code body] (c :: cs) hrd.symm rfl hv
  rw [← hb0, hfe] at harr
  cases e with
  | normal =>
    obtain ⟨w₂, hbr, hbody⟩ := hq
    have s1 : StepsIn (Machine.fenced C.P Fence.wide) C.P (lone (b.atR a₁ [.beginRound, .code body]) (c :: cs) w₁) (lone (b.atR a₁ [.code body]) (c :: cs) w₂) := .one (fw _) (stepR_beginRound rfl hbr)
    obtain ⟨e₂, a₂, w₃, hq₂, harr₂⟩ := hbody b [] (c :: cs) hrd.symm rfl hv
    rw [hfe] at harr₂
    have s2 := StepsIn.trans harr s1
    cases e₂ with
    | normal =>
      obtain ⟨v, w₄, hend, hR⟩ := hq₂
      exact ⟨.returned v, w₄, hR, s2.trans (StepsIn.trans harr₂ (.one (fw _) (stepR_round_end rfl rfl hend)))⟩
    | ret =>
      obtain ⟨v, w₄, hend, hR⟩ := hq₂
      obtain ⟨k₁, hs⟩ := harr₂.2 rfl
      exact ⟨.returned v, w₄, hR, s2.trans (StepsIn.trans hs (.one (fw _) (stepR_round_ret rfl rfl hend)))⟩
    | exit id =>
      obtain ⟨v, w₄, hend, hR⟩ := hq₂
      obtain ⟨k₁, hk, hs⟩ := harr₂.2 rfl rfl
      exact ⟨.returned v, w₄, hR, s2.trans (StepsIn.trans hs (.one (fw _) (stepR_round_exit rfl rfl hk hend)))⟩
    | panic chain =>
      obtain ⟨todo, hs⟩ := harr₂
      obtain ⟨fn, hf⟩ := Option.isSome_iff_exists.1 hv
      obtain ⟨e', w'', fr', hR, hs', hfn, hl⟩ := leaves_stepsInM a₂.defers (.panicking chain) w₃ { b.atR a₂ todo with mode := .panicking chain } (c :: cs) rfl rfl rfl hf rfl trivial (fun d hd => by cases hd) (hq₂ fn)
      cases e' with
      | returned v => exact ⟨.returned v, w'', hR, (s2.trans hs).trans (StepsIn.trans hs' (.one (fw _) (step_leave_returned hl)))⟩
      | panicked ch => exact ⟨.panicked ch, w'', hR, (s2.trans hs).trans (StepsIn.trans hs' (.one (fw _) (step_leave_panicked hl)))⟩
      | outgrown => exact ⟨.outgrown, w'', hR, Outgrown.of_steps (s2.trans hs).steps hs'⟩
    | goto t => exact hq₂.elim
    | outgrown => exact hq₂.elim
  | exit id => exact hq.elim
  | goto t => exact hq.elim
  | ret => exact hq.elim
  | panic chain => exact hq.elim
  | outgrown => exact hq.elim

def rangeQ (C : Cx) (l : Nat) (Q : Exit → Act → World → Prop) (a' : Act) : Ending → World → Prop
  | .returned _, w₃ => ∃ jump w₄, (Instr.endLoop l).run C.P w₃ = .ok jump w₄ ∧ (match jump with | none => Q .normal a' w₄ | some c => C.wpV c Q a' w₄)
  | .panicked chain, w₃ => Q (.panic chain) a' w₃
  | .outgrown, _ => LetsOut Q
theorem wpV_rangeFunc {g : Operand} {ps : Array Tmp} {assign body : Code} {Q : Exit → Act → World → Prop} {a : Act} {w : World} (hrd : C.rd = none)
    (h : ∀ fn, (C.P.funcs[fn]?).isSome = true → ∃ (l : Nat) (mark : List Deferred) (w₁ : World) (d : Deferred) (w₁' : World) (f : FuncId) (args : Array Value) (w₂ : World),
      (Instr.enterLoop fn a.tmps ps assign body none).run C.P w = .ok (l, mark) w₁ ∧ (resolve a.eval (rangeCall g l) 0).run C.P w₁ = .ok d w₁' ∧
      (invoke d.target d.args).run C.P w₁' = .ok (.enter f args) w₂ ∧ Calls C.P f args w₂ (rangeQ C l Q { a with defers := mark ++ a.defers })) :
    C.wpV (.rangeFunc g ps assign body) Q a w := by
  intro b k cs hro hkd hv
  obtain ⟨l, mark, w₁, d, w₁', f, args, w₂, he, hres, hinv, hcall⟩ := h b.fn hv
  rw [← hrd, ← hro] at he
  have henter := stepR_rangeFunc (P := C.P) (b := b) (a := a) (k := k) (cs := cs) (w := w) he hres hinv
  obtain ⟨e, w₃, fr, hR, hsteps, hfn, hleave⟩ := (callsIn_wide (n := 0).2 hcall).2 (b.atR { a with defers := mark ++ a.defers } (.inRangeFunc l :: k) :: cs) (fun d hd => by cases hd)
  have fw : ∀ m : Machine, m.fenced C.P Fence.wide := fenced_wide C.P
  show ∃ e a' w', Q e a' w' ∧ ArrivesIn (Machine.fenced C.P Fence.wide) C.P _ b k cs e a' w'
  cases e with
  | outgrown =>
    obtain ⟨a₀, w₀, hq⟩ := hR
    exact ⟨.outgrown, a₀, w₀, hq, .inr (Outgrown.of_steps (.one henter) hsteps)⟩
  | returned v =>
    obtain ⟨jump, w₄, hend, hj⟩ := hR
    have sback : StepsIn (Machine.fenced C.P Fence.wide) C.P (lone (b.atR a (.code (.rangeFunc g ps assign body) :: k)) cs w) (lone (b.atR { a with defers := mark ++ a.defers } ((jump.map Item.code).toList ++ k)) cs w₄) := by
      refine .head (fw _) henter (StepsIn.trans hsteps (.head (fw _) ?_ (.one (fw _) (stepR_endRangeFunc hend))))
      rw [← finish_atR_inRangeFunc l v]; exact step_leave_returned hleave
    cases jump with
    | none => exact ⟨.normal, _, w₄, hj, sback⟩
    | some c =>
      obtain ⟨e', a'', w₅, hq, harr⟩ := hj b k cs hro hkd hv
      exact ⟨e', a'', w₅, hq, .of_steps sback harr⟩
  | panicked chain =>
    refine ⟨.panic chain, _, w₃, hR, .inRangeFunc l :: k, .head (fw _) henter (StepsIn.trans hsteps (.one (fw _) ?_))⟩
    rw [← Frame.raise_atR]; exact step_leave_panicked hleave
end
end Go.W
/- part W43 -/
set_option linter.unusedVariables false
set_option linter.unusedSimpArgs false
namespace Go.W
open Go Go.RowKit

abbrev NoS : Nat → Prop := fun _ => False
def zOk (z : Zm) (W : World) : Prop := ∀ b o v, z b o = some v → W.cell? ⟨b, o, none⟩ = some v
def Later (z : Zm) (W : World) (z' : Zm) (W' : World) : Prop := Kept NoS W W' ∧ FLe z z' ∧ (∀ b o v, z' b o = some v → z b o = some v ∨ W.heap.size ≤ b) ∧ zOk z' W'
def phz (z : Zm) : Phi := ⟨fun _ => none, z⟩
theorem rel_phz {z : Zm} {W : World} (hz : zOk z W) : Rel NoS W (phz z) [] W :=
  ⟨fun _ => [], Kept.refl _ _, fun _ _ => rfl, hz, fun b k o hk => by simp at hk, fun b k hk => by simp at hk, fun _ => List.nodup_nil, fun b b' k hk => by simp at hk, fun _ _ => rfl, fun b B hB => by simp at hB⟩
abbrev Cx.own (C : Cx) : Cx := { P := C.P, g := fun _ => .any, rd := none, ml := false }
theorem relG_own {C : Cx} {z : Zm} : RelG C.own z := fun g => by simp only [RZ]

section
variable {C : Cx} {N : Nat} {Q : QT} {τ : Tau} {z : Zm} {a : Act} {W : World} {ds : List Deferred}
def Aft (N : Nat) (z : Zm) (W : World) (ds : List Deferred) (Q : QT) : Exit → Act → World → Prop := fun e a' W' =>
  ∃ x τ' φ' h', XRel φ' x e ∧ Rel NoS W φ' h' W' ∧ Later z W φ'.z W' ∧ RelT φ' τ' a' ∧ a'.tmps.size = N ∧ a'.defers = ds ∧ Q x τ' h'
theorem post_aft {e : Exit} {a' : Act} {W' : World} {φ : Phi} (hφ : φ.z = z) (p : Post N 0 NoS W φ (false, ds) Q e a' W') : Aft N z W ds Q e a' W' := by
  subst hφ
  obtain ⟨x, τ', h', φ', p1, p2, p3, p4, p5, p6, ⟨ms, q1, -, q2⟩, p8⟩ := p
  refine ⟨x, τ', φ', h', p1, p2, ⟨p2.kept, p3.z, fun b o v e => ?_, ?_⟩, p5, p6, ?_, p8⟩
  · rcases p3.new b o v e with q | q
    · exact .inl q
    · rcases q with q | q
      · exact q.elim
      · exact .inr q
  · obtain ⟨F, R⟩ := p2; exact R.zok
  · rw [q1, q2 rfl]; rfl
theorem wc_aft {c : Code} (hc : WC C.own N 0 c Q τ []) (hz : zOk z W) (hT : RelT (phz z) τ a) (hN : a.tmps.size = N) : C.own.wpV c (Aft N z W a.defers Q) a W :=
  wpV_mono (hc NoS W (phz z) a W relG_own (rel_phz hz) (Nat.le_refl _) hT hN) fun e a' W' p => post_aft rfl p
end

theorem upon_mono2 {F : Fence} {n : Nat} {P : Program} {o : Oper} {a : Act} {K K' : Act → World → Prop} {Q Q' : Exit → Act → World → Prop} (hk : ∀ a w, K a w → K' a w) (hp : ∀ ch a w, Q (.panic ch) a w → Q' (.panic ch) a w) (ho : LetsOut Q → LetsOut Q') {r : Result Next}
    (hu : o.uponIn F n P a K Q r) : o.uponIn F n P a K' Q' r := by
  have he : ∀ (e : Ending) (w'' : World), (match e, w'' with | .returned v, w'' => K (a.put o.dst v) w'' | .panicked chain, w'' => Q (.panic chain) a w'' | .outgrown, _ => LetsOut Q) →
      (match e, w'' with | .returned v, w'' => K' (a.put o.dst v) w'' | .panicked chain, w'' => Q' (.panic chain) a w'' | .outgrown, _ => LetsOut Q') := by
    intro e w'' he
    cases e with
    | returned u => exact hk _ _ he
    | panicked c => exact hp _ _ _ he
    | outgrown => exact ho he
  cases r with
  | ok n w' =>
    cases n <;> simp only [Oper.uponIn] at hu ⊢
    case value u => exact hk _ _ hu
    case skip => exact hk _ _ hu
    case defer d => exact hk _ _ hu
    case enter f args => exact ⟨hu.1, ⟨hu.2.1, fun cs hr => let ⟨e, w', fr, r, s⟩ := hu.2.2 cs hr; ⟨e, w', fr, he e w' r, s⟩⟩⟩
    case row row args => exact ⟨hu.1, RowsIn.mono hu.2 fun u w'' he => hk _ _ he⟩
    case round l f tmps assign body => exact ⟨hu.1, RoundIn.mono hu.2 he⟩
  | halt x w' =>
    cases x <;> simp only [Oper.uponIn] at hu ⊢
    case panic u => exact hp _ _ _ hu
theorem wpListIn_append {F : Fence} {n : Nat} {P : Program} {ops : Array Oper} {Q : Exit → Act → World → Prop} : ∀ {l1 l2 : List Oper} {a : Act} {w : World}, wpListIn F n P ops (Exit.then (wpListIn F n P ops Q l2) Q) l1 a w → wpListIn F n P ops Q (l1 ++ l2) a w
  | [], l2, a, w, h => h
  | o :: l1, l2, a, w, h => by
    unfold wpListIn at h
    show wpListIn F n P ops Q (o :: (l1 ++ l2)) a w
    unfold wpListIn
    split
    · rename_i hw
      rw [if_pos hw] at h
      exact ⟨h.1, upon_mono2 (fun a w h => wpListIn_append h) (fun ch a w h => h) (fun ⟨a, w, h⟩ => ⟨a, w, h⟩) h.2⟩
    · rename_i hw
      rw [if_neg hw] at h
      exact ⟨h.1, wpListIn_append h.2⟩
theorem wpV_loop {C : Cx} {c : Code} {Q : Exit → Act → World → Prop} {a : Act} {w : World} {n : Nat} (I : Nat → Act → World → Prop) (h0 : I n a w)
    (round : ∀ j a w, I j a w → C.wpV c (Exit.then (fun a' w' => ∃ j', j' < j ∧ I j' a' w') Q) a w) : C.wpV (.loop c) Q a w := by
  intro b k cs hro hb hvl
  have key : ∀ j a w, I j a w → ∃ e a' w', Q e a' w' ∧ ArrivesIn (Machine.fenced C.P C.fc) C.P (lone (b.atR a (.code c :: .inLoop c :: k)) cs w) b k cs e a' w' := by
    intro j
    induction j using Nat.strongRecOn with
    | _ j ih =>
      intro a w hI
      obtain ⟨e, a₁, w₁, hq, harr⟩ := round j a w hI b (.inLoop c :: k) cs hro hb hvl
      cases e with
      | normal =>
        obtain ⟨j', hlt, hI'⟩ := hq
        obtain ⟨e₂, a₂, w₂, hq₂, harr₂⟩ := ih j' hlt a₁ w₁ hI'
        exact ⟨e₂, a₂, w₂, hq₂, .of_steps (StepsIn.trans harr (.one (C.fenced _) stepR_inLoop)) harr₂⟩
      | exit id => exact ⟨_, a₁, w₁, hq, .pass (x := .inLoop c) rfl (fun _ _ => .inl (by simp)) harr⟩
      | goto l => exact ⟨_, a₁, w₁, hq, .pass (x := .inLoop c) rfl (fun _ _ => .inl (by simp)) harr⟩
      | ret => exact ⟨_, a₁, w₁, hq, .pass (x := .inLoop c) rfl (fun _ _ => .inl (by simp)) harr⟩
      | panic ch => exact ⟨_, a₁, w₁, hq, .pass (x := .inLoop c) rfl (fun _ _ => .inl (by simp)) harr⟩
      | outgrown => exact ⟨_, a₁, w₁, hq, .pass (x := .inLoop c) rfl (fun _ _ => .inl (by simp)) harr⟩
  obtain ⟨e, a', w', hq, harr⟩ := key _ a w h0
  exact ⟨e, a', w', hq, .of_steps (.one (C.fenced _) stepR_loop) harr⟩

def rowW (ag : Bool) (x : List V) : V := if ag = true then .agg x else x.headD .any
def fzOk : V → Bool
  | .s _ => true
  | .f _ _ => true
  | .z => true
  | .pd _ => true
  | _ => false
theorem fz_cell {x : V} (h : fzOk x = true) : cellOk x = true := by cases x <;> first | rfl | cases h
theorem fz_rel {φ : Phi} {x : V} {v : Value} (h : fzOk x = true) (r : RelC φ x v) : RelC (phz φ.z) x v := by cases x <;> first | exact r | cases h
theorem fz_row {φ : Phi} {ag : Bool} {x : List V} {v : Value} (h : x.all fzOk = true) (r : RelV φ (rowW ag x) v) : RelV (phz φ.z) (rowW ag x) v := by
  unfold rowW at r ⊢
  split
  · rename_i e
    rw [if_pos e] at r
    obtain ⟨l, h1, h2⟩ := r
    refine ⟨l, h1, ?_⟩
    clear h1 e
    generalize l.toList = cs at h2
    induction x generalizing cs with
    | nil => cases cs <;> exact h2
    | cons y ys ih =>
      simp only [List.all_cons, Bool.and_eq_true] at h
      cases cs with
      | nil => exact h2
      | cons c cs => exact ⟨fz_rel h.1 h2.1, ih h.2 _ h2.2⟩
  · rename_i e
    rw [if_neg e] at r
    cases x with
    | nil => exact relV_any
    | cons y ys =>
      simp only [List.all_cons, Bool.and_eq_true] at h
      have h1 := h.1
      simp only [List.headD_cons] at r ⊢
      cases y <;> first | exact r | cases h1
def BackV (C : Cx) (gf n : Nat) (ag : Bool) : Prop :=
  ∀ (l : Nat) (els : List (List V)) (z0 : Zm) (p : Value) (J : Nat → Zm → World → Prop) (R : Ending → World → Prop), els.all (fun x => x.all fzOk) = true → RZ z0 (.pd [.f n els]) p →
    (∀ k z W, J k z W → zOk z W) → (∀ k z W z' W', J k z W → Later z W z' W' → J k z' W') → (∀ e W W', R e W → Kept NoS W W' → R e W') →
    (∀ k x z W v, els[k]? = some x → J (k + 1) z W → RelV (phz z) (rowW ag x) v → YieldAt Fence.wide 0 C.P l #[.int .i64 k, v] W fun e W' =>
      (e = .returned (.bool true) ∧ J k z W') ∨ (e = .returned (.bool false) ∧ ∀ v, R (.returned v) W') ∨ ∃ ch, e = .panicked ch ∧ R (.panicked ch) W') →
    (∀ z W v, J 0 z W → R (.returned v) W) → ∀ W, J els.length z0 W → Calls C.P gf #[.func (.yield l) #[] #[], p] W R

abbrev yl (l : Nat) : V := .s (.func (.yield l) #[] #[])
def T3 (l n : Nat) (els : List (List V)) (i : Int) : Tau := up 3 (.s (.int .i64 i)) (up 1 (.pd [.f n els]) (up 0 (yl l) fun _ => .any))
def is3 (l n : Nat) (els : List (List V)) (i : Int) (τ : Tau) : Prop := τ 0 = yl l ∧ τ 1 = .pd [.f n els] ∧ τ 3 = .s (.int .i64 i)
theorem relT3 {φ : Phi} {z : Zm} {l n : Nat} {els : List (List V)} {i : Int} {τ : Tau} {a : Act} (hz : φ.z = z) (h : RelT φ τ a) (h3 : is3 l n els i τ) : RelT (phz z) (T3 l n els i) a := by
  subst hz
  obtain ⟨h0, h1, h3⟩ := h3
  intro t
  have := h t
  unfold T3 up
  split
  · subst_vars; rw [h3] at this; exact this
  · split
    · subst_vars; rw [h1] at this; exact this
    · split
      · subst_vars; rw [h0] at this; exact this
      · exact relV_any

theorem BackV.of {C : Cx} {gf n : Nat} {ag : Bool} {fn : Func} {A B Cn D : Code} {i0 i1 r : Nat} {ops : Array Oper} {pre post : List Oper} {o : Oper} {c : Call} {fo : Operand} {d : Nat} (m : Nat)
    (hf : C.P.funcs[gf]? = some fn) (hb : fn.body = some (.seq A (.block i0 (.loop (.seq B (.seq (.block i1 (.seq (.region r ops false) Cn)) D))))))
    (hops : ops.toList = pre ++ o :: post) (ho : o.op = .call c) (hcl : c.callee = .value fo) (hg : o.guard = none) (hd : o.dst = some d) (hres : fn.results = #[]) (h4 : 4 ≤ fn.ntmps)
    (hok : codeOk fn.ntmps (.seq A (.block i0 (.loop (.seq B (.seq (.block i1 (.seq (.region r ops false) Cn)) D))))) = true)
    (hA : ∀ l els, els.length ≤ LIM → Run C.own fn.ntmps 0 m (fun x τ h => x = .normal ∧ is3 l n els ((els.length : Int) - 1) τ) [.code A] (argsT [yl l, .pd [.f n els]]) [])
    (hB0 : ∀ l els, Run C.own fn.ntmps 0 m (fun x τ h => x = .exit i0) [.code B] (T3 l n els (-1)) [])
    (hB1 : ∀ l els (k : Nat), Run C.own fn.ntmps 0 m (fun x τ h => x = .normal ∧ is3 l n els k τ) [.code B] (T3 l n els k) [])
    (hpre : ∀ l els (k : Nat) x, els[k]? = some x → x.length = n → x.all fzOk = true → k < els.length → els.length ≤ LIM → Run C.own fn.ntmps 0 m (fun y τ h => y = .normal ∧ is3 l n els k τ ∧ ev C.own τ fo = yl l ∧ evs C.own τ c.args.toList = [.s (.int .i64 k), rowW ag x]) [.ops ops.toList pre] (T3 l n els k) [])
    (hpost1 : ∀ l els (k : Nat), Run C.own fn.ntmps 0 m (fun x τ h => x = .normal ∧ is3 l n els k τ) [.ops ops.toList post, .code Cn] (up d (.s (.bool true)) (T3 l n els k)) [])
    (hpost0 : Run C.own fn.ntmps 0 m (fun x τ h => x = .ret) [.ops ops.toList post, .code Cn] (up d (.s (.bool false)) fun _ => .any) [])
    (hD : ∀ l els (k : Nat), k < LIM → Run C.own fn.ntmps 0 m (fun x τ h => x = .normal ∧ is3 l n els ((k : Int) - 1) τ) [.code D] (T3 l n els k) []) : BackV C gf n ag := by
  intro l els z0 p J R hleaf hp hJz hJl hRk hy hend W hJ
  simp only [codeOk, Bool.and_eq_true] at hok
  obtain ⟨okA, okB, ⟨okr, okC⟩, okD⟩ := hok
  have okl : ops.toList.all (opOk fn.ntmps) = true := by rw [Array.all_toList]; exact okr
  have okl2 := okl
  rw [hops, List.all_append, List.all_cons, Bool.and_eq_true, Bool.and_eq_true] at okl2
  obtain ⟨okpre, oko, okpost⟩ := okl2
  have hta : ops.toList.toArray = ops := Array.toArray_toList
  -- the slice's elements
  have hsl : els.length ≤ LIM ∧ ∀ (k : Nat) (x : List V), els[k]? = some x → x.length = n := by
    simp only [RZ] at hp
    obtain ⟨b, off, -, hzs⟩ := hp
    simp only [RZs] at hzs
    obtain ⟨⟨cv, -, hcv⟩, -⟩ := hzs
    simp only [RZ] at hcv
    rcases hcv with ⟨rfl, -⟩ | ⟨b2, off2, cap, -, -, h3, h4⟩
    · exact ⟨by simp [LIM], fun k x h => by simp at h⟩
    · exact ⟨h3, fun k x h => (RZss.nth h4 h).1⟩
  obtain ⟨hlim, hlenx⟩ := hsl
  have fin : ∀ (a' : Act) (W' : World), a'.defers = [] → (∀ v, R (.returned v) W') → LeavesInM Fence.wide 0 C.P fn a'.tmps R a'.defers .returning W' := fun a' W' hds hR => by
    rw [hds]
    exact ⟨_, by simp [results, hres, Sem.run_bind]; rfl, hR _⟩
  have sz : ∀ {k : Nat}, k < fn.ntmps → True := fun _ => trivial
  refine calls_of_wpV (C := C.own) hf hb rfl ?_
  have start : RelT (phz z0) (argsT [yl l, .pd [.f n els]]) { tmps := #[.func (.yield l) #[] #[], p] ++ Array.replicate (fn.ntmps - (#[.func (.yield l) #[] #[], p] : Array Value).size) undef, defers := [] } :=
    argsT_rel ⟨mk_s rfl, relV_of_rz hp, trivial⟩
  refine wpV_seq (wpV_mono (wc_aft (z := z0) (Run_sound m _ [.code A] _ [] (by simp [itOk, okA]) (hA l els hlim)) (hJz _ _ _ hJ) start (by simp; omega)) ?_)
  rintro e a1 W1 ⟨x, τ1, φ1, h1, p1, p2, p3, p4, p5, p6, rfl, p8⟩
  simp only [XRel] at p1; subst p1
  have J1 := hJl _ _ _ _ _ hJ p3
  refine wpV_block (wpV_loop (n := els.length) (fun j a W => j ≤ els.length ∧ ∃ z, J j z W ∧ RelT (phz z) (T3 l n els ((j : Int) - 1)) a ∧ a.tmps.size = fn.ntmps ∧ a.defers = []) ⟨Nat.le_refl _, φ1.z, J1, relT3 rfl p4 p8, p5, p6⟩ ?_)
  clear p2 p3 p4 p5 p6 p8 J1 hJ start
  rintro j a W ⟨hj, z, hJ, hT, hN, hds⟩
  cases j with
  | zero =>
    have hT : RelT (phz z) (T3 l n els (-1)) a := hT
    refine wpV_seq (wpV_mono (wc_aft (z := z) (Run_sound m _ [.code B] _ [] (by simp [itOk, okB]) (hB0 l els)) (hJz _ _ _ hJ) hT hN) ?_)
    rintro e a1 W1 ⟨x, τ1, φ1, h1, p1, p2, p3, p4, p5, p6, rfl⟩
    simp only [XRel] at p1; subst p1
    simp only [Exit.then, Exit.inBlock, if_true]
    exact fin _ _ (p6.trans hds) fun v => hRk _ _ _ (hend _ _ v hJ) p3.1
  | succ k =>
    have hT : RelT (phz z) (T3 l n els k) a := by
      have e : ((k + 1 : Nat) : Int) - 1 = k := by omega
      rw [e] at hT; exact hT
    refine wpV_seq (wpV_mono (wc_aft (z := z) (Run_sound m _ [.code B] _ [] (by simp [itOk, okB]) (hB1 l els k)) (hJz _ _ _ hJ) hT hN) ?_)
    rintro e a2 W2 ⟨x, τ2, φ2, h2, p1, p2, p3, p4, p5, p6, rfl, p8⟩
    simp only [XRel] at p1; subst p1
    have J2 := hJl _ _ _ _ _ hJ p3
    have T2 := relT3 rfl p4 p8
    have N2 := p5
    have D2 := p6.trans hds
    generalize φ2.z = z2 at J2 T2
    clear p2 p3 p4 p5 p6 p8 hJ hT hN hds
    have hx : els[k]? = some els[k] := List.getElem?_eq_getElem (by omega)
    generalize els[k] = x at hx
    have hlx := hlenx k x hx
    have hfx : x.all fzOk = true := by
      have := List.all_eq_true.1 hleaf x (List.mem_of_getElem? hx)
      exact this
    show C.own.wpV _ _ a2 W2
    refine wpV_seq (wpV_block (wpV_seq (wpV_of (wpIn_region_list ?_))))
    rw [hops]
    refine wpListIn_append ?_
    have hWO : WO C.own fn.ntmps 0 ops.toList pre (SemK C.own fn.ntmps 0 _ []) (T3 l n els k) [] := Run_sound m _ [.ops ops.toList pre] _ [] (by simp only [List.all_cons, List.all_nil, itOk, okl, okpre, Bool.and_self]) (hpre l els k x hx hlx hfx (by omega) hlim)
    have hWO := hWO NoS W2 (phz z2) a2 W2 relG_own (rel_phz (hJz _ _ _ J2)) (Nat.le_refl _) T2 N2
    rw [hta] at hWO
    refine wpList_mono (fun e a3 W3 q => ?_) hWO
    obtain ⟨y, τ3, φ3, h3, p1, p2, p3, p4, p5, p6, rfl, p8, hev, hevs⟩ := post_aft rfl q
    simp only [XRel] at p1; subst p1
    have J3 := hJl _ _ _ _ _ J2 p3
    have D3 := p6.trans D2
    show wpListIn _ _ _ _ _ (o :: post) a3 W3
    have oko' := oko
    simp only [opOk, Bool.and_eq_true] at oko'
    obtain ⟨hdst, hop⟩ := oko'
    rw [ho] at hop
    simp only [Op.operands, Call.operands, hcl] at hop
    rw [← Array.all_toList] at hop
    simp only [Array.toList_append, List.all_append, Bool.and_eq_true] at hop
    have ef := ev_rel (relG_own (C := C)) p4 fo (by have := hop.1; simpa using this)
    rw [hev] at ef
    have ef := (s_rel ef).1
    have ea := evs_rel (relG_own (C := C)) p4 (xs := c.args.toList) hop.2
    rw [hevs] at ea
    have ea2 : ∃ v, c.args.map a3.eval = #[.int .i64 k, v] ∧ RelV φ3 (rowW ag x) v := by
      have e1 : (c.args.map a3.eval).toList = c.args.toList.map a3.eval := by simp
      generalize hcs : c.args.toList.map a3.eval = cs at ea e1
      match cs, ea with
      | [u, v], ⟨q1, q2, _⟩ =>
        have := (s_rel q1).1
        subst this
        exact ⟨v, by apply Array.ext'; rw [e1], q2⟩
    obtain ⟨v, hargs, hv⟩ := ea2
    obtain ⟨f, tmps, assign, body, hyr, hround⟩ := hy k x φ3.z W3 v hx J3 (fz_row hfx hv)
    have hrun : (execOp a3.eval o).run C.P W3 = .ok (.round l f tmps assign body) W3 := by
      simp only [execOp, ho, resolve, hcl, ef, Deferred.ofValue, Sem.run_bind, Sem.run_pure, Result.andThen_ok, invoke, hargs]
      exact hyr
    refine wpListIn_plain hg fun K hK => ⟨fun _ _ => trivial, ?_⟩
    show Oper.uponIn _ _ _ _ _ _ _ ((o.semAt C.own.fc.round a3.eval).run C.P W3)
    rw [run_semAt hrun (by simp)]
    refine ⟨fun h => (by cases h), ?_⟩
    have okit : [It.ops ops.toList post, .code Cn].all (itOk fn.ntmps) = true := by simp only [List.all_cons, List.all_nil, itOk, okl, okpost, okC, Bool.and_self]
    have hput : ∀ {z' : Zm} {τ' : Tau} {b : Bool}, RelT (phz z') τ' a3 → RelT (phz z') (up d (.s (.bool b)) τ') (a3.put o.dst (.bool b)) ∧ (a3.put o.dst (.bool b)).tmps.size = fn.ntmps ∧ (a3.put o.dst (.bool b)).defers = [] := fun {z' τ' b} hT => by
      have := put_rel (o := o) hT p5 hdst (.inl (mk_s (u := .bool b) rfl))
      rw [hd] at this ⊢
      exact ⟨this.1, this.2.1, this.2.2.trans D3⟩
    refine RoundIn.mono hround fun e W4 hq => ?_
    rcases hq with ⟨rfl, J4⟩ | ⟨rfl, hR4⟩ | ⟨ch, rfl, hR4⟩
    · -- the round goes on
      refine hK _ _ ?_
      obtain ⟨T4, N4, D4⟩ := hput (b := true) (relT3 rfl p4 p8)
      have hWO : WO C.own fn.ntmps 0 ops.toList post (SemK C.own fn.ntmps 0 _ [.code Cn]) _ [] := Run_sound m _ [.ops ops.toList post, .code Cn] _ [] okit (hpost1 l els k)
      have hWO := hWO NoS W4 (phz φ3.z) _ W4 relG_own (rel_phz (hJz _ _ _ J4)) (Nat.le_refl _) T4 N4
      rw [hta] at hWO
      refine wpList_mono (fun e a5 W5 q => ?_) hWO
      obtain ⟨x5, τ5, h5, φ5, q1, q2, q3, -, q5, q6, ⟨ms, q7, -, q7'⟩, q8⟩ := q
      rw [q7' rfl] at q7
      cases x5 with
      | normal =>
        simp only [XRel] at q1; subst q1
        have q8 : WC C.own fn.ntmps 0 Cn (SemK C.own fn.ntmps 0 _ []) τ5 h5 := q8
        have hw := q8 NoS W4 φ5 a5 W5 relG_own q2 (Nat.zero_le _) q5 q6
        show C.own.wpV Cn _ a5 W5
        refine wpV_mono hw fun e a6 W6 q => ?_
        obtain ⟨x6, τ6, φ6, h6, r1, r2, r3, r4, r5, r6, rfl, r8⟩ := post_aft (φ := phz φ3.z) rfl (q.mono q3 fun _ _ _ q => q)
        simp only [XRel] at r1; subst r1
        have J6 := hJl _ _ _ _ _ J4 r3
        have D6 := r6.trans (q7.trans D4)
        show C.own.wpV D _ a6 W6
        refine wpV_mono (wc_aft (z := φ6.z) (Run_sound m _ [.code D] _ [] (by simp [itOk, okD]) (hD l els k (by omega))) (hJz _ _ _ J6) (relT3 rfl r4 r8) r5) ?_
        rintro e a7 W7 ⟨x7, τ7, φ7, h7, t1, t2, t3, t4, t5, t6, rfl, t8⟩
        simp only [XRel] at t1; subst t1
        exact ⟨k, Nat.lt_succ_self k, by omega, φ7.z, hJl _ _ _ _ _ J6 t3, relT3 rfl t4 t8, t5, t6.trans D6⟩
      | exit id => exact absurd (q8 : XV.exit id = .normal ∧ _).1 (by simp)
      | ret => exact absurd (q8 : XV.ret = .normal ∧ _).1 (by simp)
      | pan v => exact absurd (q8 : XV.pan v = .normal ∧ _).1 (by simp)
    · -- no more
      refine hK _ _ ?_
      obtain ⟨T4, N4, D4⟩ := hput (z' := fun _ _ => none) (τ' := fun _ => .any) (b := false) (fun _ => relV_any)
      have hWO : WO C.own fn.ntmps 0 ops.toList post (SemK C.own fn.ntmps 0 _ [.code Cn]) _ [] := Run_sound m _ [.ops ops.toList post, .code Cn] _ [] okit hpost0
      have hWO := hWO NoS W4 (phz fun _ _ => none) _ W4 relG_own (rel_phz (fun _ _ _ e => by cases e)) (Nat.le_refl _) T4 N4
      rw [hta] at hWO
      refine wpList_mono (fun e a5 W5 q => ?_) hWO
      obtain ⟨x5, τ5, h5, φ5, q1, q2, q3, -, q5, q6, ⟨ms, q7, -, q7'⟩, q8⟩ := q
      rw [q7' rfl] at q7
      cases x5 with
      | normal =>
        simp only [XRel] at q1; subst q1
        have q8 : WC C.own fn.ntmps 0 Cn (SemK C.own fn.ntmps 0 _ []) τ5 h5 := q8
        have hw := q8 NoS W4 φ5 a5 W5 relG_own q2 (Nat.zero_le _) q5 q6
        show C.own.wpV Cn _ a5 W5
        refine wpV_mono hw fun e a6 W6 q => ?_
        obtain ⟨x6, τ6, φ6, h6, r1, r2, r3, r4, r5, r6, rfl⟩ := post_aft (φ := phz fun _ _ => none) rfl (q.mono q3 fun _ _ _ q => q)
        simp only [XRel] at r1; subst r1
        exact fin _ _ (r6.trans (q7.trans D4)) fun v => hRk _ _ _ (hR4 v) r3.1
      | exit id => exact absurd (q8 : XV.exit id = .ret) (by intro h; cases h)
      | ret =>
        simp only [XRel] at q1; subst q1
        exact fin _ _ (q7.trans D4) fun v => hRk _ _ _ (hR4 v) q2.kept
      | pan v => exact absurd (q8 : XV.pan v = .ret) (by intro h; cases h)
    · -- a panic
      show LeavesInM Fence.wide 0 C.P fn a3.tmps R a3.defers (.panicking ch) W4
      rw [D3]
      exact hR4
end Go.W
/- part W44 -/
set_option linter.unusedVariables false
set_option linter.unusedSimpArgs false
namespace Go.W
open Go Go.RowKit

theorem Kept.grownBy {W W' : World} (h : Kept NoS W W') : W.grownBy W' none := ⟨h.os, h.tape, h.output, h.size, fun k hk _ => h.block k hk id⟩
section
variable {S : Nat → Prop} {w0 W W' : World} {φ : Phi} {h : H} {z z' : Zm}
theorem Rel.zok (R : Rel S w0 φ h W) : zOk φ.z W := by obtain ⟨F, R⟩ := R; exact R.zok
theorem Rel.later (R : Rel S w0 φ h W) (hz : FLe z φ.z) (L : Later z W z' W') : ∃ φ2, φ2.m = φ.m ∧ FLe z' φ2.z ∧ Rel S w0 φ2 h W' ∧ ∀ n, ExtN S w0 n φ φ2 := by
  classical
  obtain ⟨k1, k2, k3, k4⟩ := L
  have R1 : Rel S w0 φ h W' := R.grow k1.grownBy
  have hsz := R.kept.size
  let z2 : Zm := fun k o => match φ.z k o with | some v => some v | none => z' k o
  have e1 : FLe φ.z z2 := fun k o v e => by simp only [z2, e]
  have e2 : FLe z' z2 := fun k o v e => by
    simp only [z2]
    cases hq : φ.z k o with
    | none => exact e
    | some v' =>
      have := R1.zok k o v' hq
      have := k4 k o v e
      simp_all
  have e3 : ∀ k o v, z2 k o = some v → φ.z k o = some v ∨ W.heap.size ≤ k := fun k o v e => by
    simp only [z2] at e
    cases hq : φ.z k o with
    | some v' => rw [hq] at e; exact .inl e
    | none =>
      rw [hq] at e
      rcases k3 k o v e with q | q
      · rw [hz _ _ _ q] at hq; cases hq
      · exact .inr q
  refine ⟨⟨φ.m, z2⟩, rfl, e2, ?_, fun n => ⟨fun _ _ => rfl, e1, fun k o v e => (e3 k o v e).imp id fun q => .inr (by omega)⟩⟩
  obtain ⟨F, R⟩ := R
  obtain ⟨F1, RF1⟩ := R1
  have hx : Ext φ ⟨φ.m, z2⟩ := ⟨fun _ _ e => e, e1⟩
  have key : ∀ b k, k ∈ F b → W'.heap[k]? = W.heap[k]? := fun b k hk => k1.block k (R.mine b k hk).2 id
  refine ⟨F, R.kept.grown k1.grownBy (fun k e => by cases e), R.dom, fun k o v e => ?_, fun b k o hk => ?_, fun b k hk => ⟨(R.mine b k hk).1, Nat.lt_of_lt_of_le (R.mine b k hk).2 k1.size⟩, R.nodup, R.disj, R.out, fun b B hB => (R.blk b B hB).keep hx (key b)⟩
  · simp only [z2] at e
    cases hq : φ.z k o with
    | some v' => rw [hq] at e; cases e; exact RF1.zok k o v hq
    | none => rw [hq] at e; exact k4 k o v e
  · cases hq : z2 k o with
    | none => exact hq
    | some v =>
      rcases e3 k o v hq with q | q
      · rw [R.znot b k o hk] at q; cases q
      · have := (R.mine b k hk).2; omega
end

abbrev Cx.inRd (C : Cx) (l : Nat) : Cx := { P := C.P, g := C.g, rd := some l, ml := false }
def rndQ (C : Cx) (N n0 n1 m : Nat) (Q : QT) (k : List It) (τ : Tau) (I : H → Prop) : QT
  | .normal, τ', h' => Goes n1 (fun _ h2 => I h2) τ' h'
  | .ret, _, h' => Q .ret τ h'
  | .exit id, _, h' => exitK (Run C N n0 m Q) Q id τ h' (popTo id k)
  | .pan v, _, h' => Q (.pan v) τ h'

section
variable {C : Cx} {N n0 m : Nat} {Q : QT} {k : List It} {τ : Tau} {h : H}
theorem RangeThen.back {g : Operand} {ps : Array Tmp} {x y : Code} {gf n : Nat} {ag : Bool} {els : List (List V)} {pi pv : Nat} (m m1 : Nat) (I : Nat → H → Prop) (hb : BackV C gf n ag) (hgv : enters C.P gf = true) (hg : ev C τ g = .fn gf [.pd [.f n els]])
    (hleaf : els.all (fun x => x.all fzOk) = true) (hps : ps = #[pi, pv]) (h0 : I els.length h)
    (hround : ∀ l j el h', els[j]? = some el → I (j + 1) h' → Run (C.inRd l) N h.length m1 (fun e τ' h'' => e = .normal ∧ Run (C.inRd l) N h.length m1 (rndQ C N n0 h.length m Q k τ (I j)) [.code y] τ' h'') [.code x] (up pv (rowW ag el) (up pi (.s (.int .i64 j)) τ)) h')
    (hend : ∀ h', I 0 h' → Run C N n0 m Q k τ h') (hrd : C.rd = none := by rfl) (hml : C.ml = true := by rfl) : RangeThen C N n0 Q g ps x y k τ h := by
  intro hok hk S w0 φ a w G R hn T hN
  simp only [Bool.and_eq_true] at hok
  obtain ⟨⟨okg, okp⟩, okx, oky⟩ := hok
  have lp : pi < N ∧ pv < N := by subst hps; simpa using okp
  refine wpV_rangeFunc hrd fun fn hfn => ?_
  have ef := ev_rel G T g okg
  rw [hg] at ef
  obtain ⟨cl, ef, hp⟩ := fn_rel ef
  obtain ⟨p, rfl, hpz⟩ : ∃ p, cl = [p] ∧ RZ φ.z (.pd [.f n els]) p := by
    match cl, hp with
    | [p], ⟨q, _⟩ => exact ⟨p, rfl, q⟩
  let rec' : LoopState → Option Code → Loop := fun st pe => { state := st, pending := pe, fn, tmps := a.tmps, params := ps, assign := x, body := y, defers := w.heap.size }
  let l := w.heap.size + 1
  let W1 := (w.alloc (.deferred (some []))).alloc (.loop (rec' .ready none))
  have hL1 : W1.heap[l]? = some (.loop (rec' .ready none)) := by
    have := World.alloc_heap_new (w.alloc (.deferred (some []))) (.loop (rec' .ready none)); rwa [World.size_alloc] at this
  have hD1 : W1.heap[w.heap.size]? = some (.deferred (some [])) := (Below.heap_alloc _ _ _ (by simp)).trans (World.alloc_heap_new w _)
  have R1 : Rel S w0 φ h W1 := (R.grow (grown_alloc w _)).grow (grown_alloc _ _)
  have hsz := R.kept.size
  let Base : Phi → H → World → Prop := fun φ1 h1 W => Rel S w0 φ1 h1 W ∧ ExtN S w0 h.length φ φ1 ∧ h.length ≤ h1.length ∧ W.heap[w.heap.size]? = some (.deferred (some []))
  let J : Nat → Zm → World → Prop := fun j z W => ∃ φ1 h1, FLe z φ1.z ∧ Base φ1 h1 W ∧ I j h1 ∧ W.heap[l]? = some (.loop (rec' .ready none))
  let Rr : Ending → World → Prop := fun e W => match e with
    | .returned _ => ∃ φ1 h1, Base φ1 h1 W ∧ ((I 0 h1 ∧ W.heap[l]? = some (.loop (rec' .ready none))) ∨ (W.heap[l]? = some (.loop (rec' .done (some .ret))) ∧ Q .ret τ h1) ∨
        ∃ id, W.heap[l]? = some (.loop (rec' .done (some (.exit id)))) ∧ exitK (Run C N n0 m Q) Q id τ h1 (popTo id k))
    | .panicked ch => ∃ φ1 h1 v u, ch = [{ v := u, recovered := false }] ∧ RelV φ1 v u ∧ Base φ1 h1 W ∧ Q (.pan v) τ h1
    | .outgrown => False
  have lt : ∀ {W : World} {r : Nat} {o : Obj}, W.heap[r]? = some o → r < W.heap.size := fun h => (Array.getElem?_eq_some_iff.1 h).1
  have keep : ∀ {W W' : World} {r : Nat} {o : Obj}, Kept NoS W W' → W.heap[r]? = some o → W'.heap[r]? = some o := fun k h => by rw [k.block _ (lt h) id]; exact h
  have baseK : ∀ {φ1 h1 W W'}, Base φ1 h1 W → Kept NoS W W' → Base φ1 h1 W' := fun b k => ⟨b.1.grow k.grownBy, b.2.1, b.2.2.1, keep k b.2.2.2⟩
  have basePut : ∀ {φ1 h1 W} {r1 : Loop} (o : Obj), Base φ1 h1 W → W.heap[l]? = some (.loop r1) → Base φ1 h1 (W.putObj l o) := fun {φ1 h1 W r1} o b hl =>
    ⟨b.1.other (grownBy_putObj' W l o) (by show w0.heap.size ≤ w.heap.size + 1; omega) (fun ⟨c, ty, q, hc⟩ => by rw [hl] at hc; cases hc), b.2.1, b.2.2.1, (World.putObj_heap_other (by show w.heap.size ≠ w.heap.size + 1; omega)).trans b.2.2.2⟩
  have putSame : ∀ {W : World} {r1 : Loop} (o : Obj), W.heap[l]? = some (.loop r1) → (W.putObj l o).heap[l]? = some o := fun o hl => World.putObj_heap_same (lt hl)
  have hlw : w0.heap.size ≤ l := by show w0.heap.size ≤ w.heap.size + 1; omega
  have hcall : ∀ (f : Nat) (args : Array Value) (w : World), enters C.P f = true → (callFunc f args).run C.P w = .ok (.enter f args) w := fun f args w he => by
    unfold enters at he
    cases hfn : C.P.funcs[f]? with
    | none => rw [hfn] at he; cases he
    | some fn =>
      rw [hfn] at he
      simp only [Bool.and_eq_true, bne_iff_ne, ne_eq] at he
      have h1 : ¬ fn.name = "runtime.NumGoroutine" := he.1
      have h2 : fn.body.isNone = false := by
        cases hb : fn.body with
        | none => rw [hb] at he; exact absurd he.2 (by simp)
        | some _ => rfl
      simp only [callFunc, run_program, Sem.run_bind, Result.andThen_ok, hfn]
      simp [h1, h2]
  have b0 : Base φ h W1 := ⟨R1, ExtN.refl .., Nat.le_refl _, hD1⟩
  refine ⟨l, [{ target := .collected w.heap.size, args := #[] }], W1, { target := .fn (.func gf) #[p], args := #[.func (.yield l) #[] #[]] }, W1, gf, #[.func (.yield l) #[] #[]] ++ #[p], W1, run_enterLoop_outer fn a.tmps ps x y, ?_, ?_, ?_⟩
  · simp only [resolve, rangeCall, ef]
    simp [go_sem]
  · simp [invoke, go_sem, hcall _ _ _ hgv]
  refine Calls.mono (hb l els φ.z p J Rr hleaf hpz ?_ ?_ ?_ ?_ ?_ W1 ⟨φ, h, FLe.refl _, b0, h0, hL1⟩) ?_
  · rintro j z W ⟨φ1, h1, hz, hB, -, -⟩ b o v e
    exact hB.1.zok b o v (hz _ _ _ e)
  · rintro j z W z' W' ⟨φ1, h1, hz, ⟨B1, B2, B3, B4⟩, hI, hL⟩ L
    obtain ⟨φ2, q1, q2, q3, q4⟩ := B1.later hz L
    exact ⟨φ2, h1, q2, ⟨q3, B2.trans (q4 _), B3, keep L.1 B4⟩, hI, keep L.1 hL⟩
  · intro e W W' hR hk
    cases e with
    | returned v =>
      obtain ⟨φ1, h1, hB, hR⟩ := hR
      refine ⟨φ1, h1, baseK hB hk, ?_⟩
      rcases hR with ⟨q1, q2⟩ | ⟨q1, q2⟩ | ⟨id, q1, q2⟩
      · exact .inl ⟨q1, keep hk q2⟩
      · exact .inr (.inl ⟨keep hk q1, q2⟩)
      · exact .inr (.inr ⟨id, keep hk q1, q2⟩)
    | panicked ch =>
      obtain ⟨φ1, h1, v, u, q1, q2, q3, q4⟩ := hR
      exact ⟨φ1, h1, v, u, q1, q2, baseK q3 hk, q4⟩
    | outgrown => exact hR
  · -- a round
    rintro j el z W v hel ⟨φ1, h1, hz, ⟨B1, B2, B3, B4⟩, hI, hL⟩ hv
    have hv1 : RelV φ1 (rowW ag el) v := hv.ext ⟨fun _ _ e => (by cases e), hz⟩
    obtain ⟨ta, hta, T1, N1⟩ : ∃ ta, (Instr.yield l #[.int .i64 j, v]).run C.P W = .ok (.round l fn ta x y) W ∧ RelT φ1 (up pv (rowW ag el) (up pi (.s (.int .i64 j)) τ)) { tmps := ta, defers := [] } ∧ ta.size = N := by
      have e0 : RelT φ1 τ { tmps := a.tmps, defers := [] } := fun t => ((T t).ext (R.ext B2))
      have e1 := RelT.put e0 (d := pi) (x := .s (.int .i64 j)) (v := .int .i64 j) (by show pi < a.tmps.size; omega) (mk_s rfl)
      have e2 := RelT.put e1 (d := pv) (by simp [Act.put]; omega) hv1
      refine ⟨(a.tmps.setIfInBounds pi (.int .i64 j)).setIfInBounds pv v, ?_, e2, by simp [hN]⟩
      have := run_yield (P := C.P) (args := #[.int .i64 j, v]) hL (by show _ = ps.size; rw [hps]; rfl)
      rw [this]
      have : (rec' .ready none).params = #[pi, pv] := hps
      rw [this]
      simp [rec']
    refine ⟨fn, ta, x, y, hta, round_of_wpV (C := C.inRd l) hfn rfl ?_⟩
    obtain ⟨S1, hS1, Rb, c1, c2⟩ := B1.base
    have hx : WC (C.inRd l) N h.length x (SemK (C.inRd l) N h.length _ []) _ h1 := Run_sound m1 _ [.code x] _ h1 (by simp [itOk, okx]) (hround l j el h1 hel hI)
    refine wpV_mono (hx S1 W φ1 _ W (G.mono B2.z) Rb B3 T1 N1) ?_
    rintro e a1 W2 ⟨x2, τ2, h2, φ2, p1, p2, p3, p4, p5, p6, ⟨ms, q1, -, q2⟩, rfl, p8⟩
    simp only [XRel] at p1; subst p1
    have D2 : a1.defers = [] := by rw [q1, q2 rfl]; rfl
    have hcel : ∀ {r : Nat} {o : Obj}, W.heap[r]? = some o → (∀ c ty q, o ≠ .cells c ty q) → W2.heap[r]? = some o := fun {r o} hr hn => by
      rw [p2.kept.block _ (lt hr) fun hs => ?_]
      · exact hr
      · obtain ⟨⟨c, ty, q, hc⟩, -⟩ := hS1 _ hs
        rw [hr] at hc; cases hc; exact hn _ _ _ rfl
    have hL2 := hcel hL (by intro c ty q e; cases e)
    have bs2 : Base φ2 h2 W2 := ⟨c1 _ _ _ p2, B2.trans (c2 _ _ _ p3), p4, hcel B4 (by intro c ty q e; cases e)⟩
    refine ⟨_, run_beginRound hL2 rfl, ?_⟩
    have bs3 := basePut (.loop { rec' .ready none with state := .busy }) bs2 hL2
    have hL3 := putSame (.loop { rec' .ready none with state := .busy }) hL2
    generalize W2.putObj l (.loop { rec' .ready none with state := .busy }) = W3 at bs3 hL3
    obtain ⟨S3, hS3, Rb3, d1, d2⟩ := bs3.1.base
    have hy : WC (C.inRd l) N h.length y (SemK (C.inRd l) N h.length _ []) τ2 h2 := Run_sound m1 _ [.code y] _ h2 (by simp [itOk, oky]) p8
    refine wpV_mono (hy S3 W3 φ2 a1 W3 (G.mono bs3.2.1.z) Rb3 p4 p5 p6) ?_
    rintro e a4 W4 ⟨x4, τ4, h4, φ4, r1, r2, r3, r4, r5, r6, ⟨ms4, r7, -, r7'⟩, r8⟩
    have D4 : a4.defers = [] := by rw [r7, r7' rfl]; exact D2
    have hcel4 : ∀ {r : Nat} {o : Obj}, W3.heap[r]? = some o → (∀ c ty q, o ≠ .cells c ty q) → W4.heap[r]? = some o := fun {r o} hr hn => by
      rw [r2.kept.block _ (lt hr) fun hs => ?_]
      · exact hr
      · obtain ⟨⟨c, ty, q, hc⟩, -⟩ := hS3 _ hs
        rw [hr] at hc; cases hc; exact hn _ _ _ rfl
    have hL4 := hcel4 hL3 (by intro c ty q e; cases e)
    have bs4 : Base φ4 h4 W4 := ⟨d1 _ _ _ r2, bs3.2.1.trans (d2 _ _ _ r3), r4, hcel4 bs3.2.2.2 (by intro c ty q e; cases e)⟩
    have zl : FLe z φ4.z := (hz.trans (c2 _ _ _ p3).z).trans (d2 _ _ _ r3).z
    cases x4 with
    | normal =>
      simp only [XRel] at r1; subst r1
      obtain ⟨τ5, h5, M, ar, ht, hI5⟩ := r8
      obtain ⟨φ5, R5, E5, len5, -⟩ := ar S w0 φ4 W4 bs4.1 r4
      have bs5 : Base φ5 h5 W4 := ⟨R5, bs4.2.1.trans E5, len5, bs4.2.2.2⟩
      exact ⟨_, _, run_endRound (P := C.P) none hL4, .inl ⟨rfl, φ5, h5, zl.trans E5.z, basePut _ bs5 hL4, hI5, putSame _ hL4⟩⟩
    | ret =>
      simp only [XRel] at r1; subst r1
      exact ⟨_, _, run_endRound (P := C.P) (some .ret) hL4, .inr (.inl ⟨rfl, fun v => ⟨φ4, h4, basePut _ bs4 hL4, .inr (.inl ⟨putSame _ hL4, r8⟩)⟩⟩)⟩
    | exit id =>
      simp only [XRel] at r1; subst r1
      exact ⟨_, _, run_endRound (P := C.P) (some (.exit id)) hL4, .inr (.inl ⟨rfl, fun v => ⟨φ4, h4, basePut _ bs4 hL4, .inr (.inr ⟨id, putSame _ hL4, r8⟩)⟩⟩)⟩
    | pan v =>
      obtain ⟨u, rfl, ru⟩ := r1
      intro fn'
      rw [D4]
      exact .inr (.inr ⟨_, rfl, φ4, h4, v, u, rfl, ru, bs4, r8⟩)
  · rintro z W v ⟨φ1, h1, hz, hB, hI, hL⟩
    exact ⟨φ1, h1, hB, .inl ⟨hI, hL⟩⟩
  · -- behind the loop
    have dfs : ∀ {W : World}, W.heap[w.heap.size]? = some (.deferred (some [])) → Dfs w0 (C.ml, a.defers) { a with defers := { target := .collected w.heap.size, args := #[] } :: a.defers } W := fun hD =>
      ⟨[{ target := .collected w.heap.size, args := #[] }], rfl, ⟨by simp, fun d hd => by
        simp only [List.mem_singleton] at hd
        exact ⟨w.heap.size, hd, hsz, hD⟩⟩, fun e => by rw [hml] at e; cases e⟩
    have post : ∀ {W : World} {φ1 h1} (X : XV) (e : Exit), Base φ1 h1 W → XRel φ1 X e → SemK C N n0 Q k X τ h1 → Post N n0 S w0 φ (C.ml, a.defers) (SemK C N n0 Q k) e { a with defers := { target := .collected w.heap.size, args := #[] } :: a.defers } W :=
      fun X e hB hX hq => ⟨X, τ, _, _, hX, hB.1, hB.2.1.mono hn, Nat.le_trans hn hB.2.2.1, fun t => (T t).ext (R.ext hB.2.1), hN, dfs hB.2.2.2, hq⟩
    intro e W hR
    cases e with
    | returned v =>
      obtain ⟨φ1, h1, hB, hR⟩ := hR
      rcases hR with ⟨q1, q2⟩ | ⟨q1, q2⟩ | ⟨id, q1, q2⟩
      · exact ⟨none, _, run_endLoop (P := C.P) q2 (by simp [rec']), post .normal .normal (basePut _ hB q2) rfl (Run_sound m Q k τ h1 hk (hend h1 q1))⟩
      · exact ⟨some .ret, _, run_endLoop (P := C.P) q1 (by simp [rec']), wpV_of (wpIn_ret (post .ret .ret (basePut _ hB q1) rfl (semK_ret q2)))⟩
      · refine ⟨some (.exit id), _, run_endLoop (P := C.P) q1 (by simp [rec']), wpV_of (wpIn_exit (post (.exit id) (.exit id) (basePut _ hB q1) rfl (semK_exit ?_)))⟩
        cases hp : popTo id k with
        | none => rw [hp] at q2; exact q2
        | some k' => rw [hp] at q2; exact Run_sound m Q k' τ h1 (popTo_ok hp hk) q2
    | panicked ch =>
      obtain ⟨φ1, h1, v, u, rfl, q2, hB, q4⟩ := hR
      exact post (.pan v) _ hB ⟨u, rfl, q2⟩ (semK_pan q4)
    | outgrown => exact hR.elim
end
end Go.W
/- part W45 -/
set_option linter.unusedVariables false
set_option linter.unusedSimpArgs false
namespace Go.W
open Go Go.RowKit

section
variable {C : Cx} {N m n0 : Nat} {Q : QT} {k : List It} {τ : Tau} {h : H}
theorem Goes.foldN {K : Tau → H → Prop} (fl : List (Nat × Nat × Nat)) (l : List Nat) (T : List (Nat × V)) (h' : H) (hn : l.Nodup) (hr : l.take n0 = List.range n0) (hg : gcL (nm l (folds h fl).length) (folds h fl) l h') (ht : keepT τ (nm l (folds h fl).length) T)
    (hk : K (keepL T) h') : Goes n0 K τ h :=
  ⟨_, h', _, (Arr.folds n0 fl h).trans (Arr.gc (gcOk_ofN hn hr hg)), fun t => ⟨_, rfl, keepT_spec ht t⟩, hk⟩
def Fold (n0 : Nat) {ι : Type} (P : ι → Prop) (T : ι → List (Nat × V)) (Hp : ι → H) (τ : Tau) (h : H) : Prop :=
  ∃ i, P i ∧ ∃ (fl : List (Nat × Nat × Nat)) (l : List Nat), (l.Nodup ∧ l.take n0 = List.range n0) ∧ gcL (nm l (folds h fl).length) (folds h fl) l (Hp i) ∧ keepT τ (nm l (folds h fl).length) (T i)
theorem LoopThen.ownF (n0 : Nat) {ι : Type} {body : Code} (P : ι → Prop) (T : ι → List (Nat × V)) (Hp : ι → H) (μ : ι → Nat) (m n : Nat) (h0 : Fold n0 P T Hp τ h)
    (hr : ∀ i, P i → Run C N n0 n (loopN C N n0 m Q k (Fold n0 (fun j => P j ∧ μ j < μ i) T Hp)) [.code body] (keepL (T i)) (Hp i)) : LoopThen C N n0 Q body k τ h := by
  classical
  intro hb hk
  let I : Tau → H → Prop := fun τ h => ∃ i, P i ∧ τ = keepL (T i) ∧ h = Hp i
  have nat_min : ∀ (p : Nat → Prop) (n : Nat), p n → ∃ n, p n ∧ ∀ m, p m → n ≤ m := by
    intro p n hn
    induction n using Nat.strongRecOn with
    | _ n ih =>
      by_cases q : ∃ m, m < n ∧ p m
      · obtain ⟨m, h1, h2⟩ := q; exact ih m h1 h2
      · exact ⟨n, hn, fun m hm => Nat.le_of_not_lt fun h => q ⟨m, h, hm⟩⟩
  let R : Tau → H → Nat → Prop := fun τ h n => ∃ i, P i ∧ τ = keepL (T i) ∧ h = Hp i ∧ μ i = n
  let M : Tau → H → Nat := fun τ h => if q : ∃ n, R τ h n then Classical.choose (nat_min (R τ h) _ (Classical.choose_spec q)) else 0
  have hM : ∀ τ h, I τ h → ∃ i, P i ∧ τ = keepL (T i) ∧ h = Hp i ∧ μ i = M τ h ∧ ∀ j, P j → τ = keepL (T j) → h = Hp j → M τ h ≤ μ j := by
    intro τ h ⟨i, h1, h2, h3⟩
    have q : ∃ n, R τ h n := ⟨μ i, i, h1, h2, h3, rfl⟩
    have e : M τ h = Classical.choose (nat_min (R τ h) _ (Classical.choose_spec q)) := dif_pos q
    have sp := Classical.choose_spec (nat_min (R τ h) _ (Classical.choose_spec q))
    rw [← e] at sp
    obtain ⟨⟨j, j1, j2, j3, j4⟩, j5⟩ := sp
    exact ⟨j, j1, j2, j3, j4, fun i' q1 q2 q3 => j5 (μ i') ⟨i', q1, q2, q3, rfl⟩⟩
  refine WC.loop I M ?_ fun τ h hI => ?_
  · obtain ⟨i, h1, fl, l, ⟨h2, h2'⟩, h3, h4⟩ := h0
    exact Goes.foldN fl l (T i) (Hp i) h2 h2' h3 h4 ⟨i, h1, rfl, rfl⟩
  · obtain ⟨i, p1, e1, e2, e3, _⟩ := hM τ h hI
    subst e1; subst e2
    have := Run_sound n _ [.code body] (keepL (T i)) (Hp i) (by simp [itOk, hb]) (hr i p1)
    refine WC.mono this fun x τ' h' q => ?_
    cases x with
    | normal =>
      obtain ⟨j, ⟨q1, q2⟩, fl, l, ⟨q3, q3'⟩, q4, q5⟩ := q
      refine Goes.foldN fl l (T j) (Hp j) q3 q3' q4 q5 ⟨⟨j, q1, rfl, rfl⟩, ?_⟩
      obtain ⟨j', _, _, _, _, r4⟩ := hM (keepL (T j)) (Hp j) ⟨j, q1, rfl, rfl⟩
      have := r4 j q1 rfl rfl
      omega
    | exit id =>
      refine semK_exit ?_
      simp only [SemK, loopN] at q
      cases hp : popTo id k with
      | none => rw [hp] at q; exact q
      | some k' => rw [hp] at q; exact Run_sound m Q k' τ' h' (popTo_ok hp hk) q
    | ret => exact semK_ret q
    | pan v => exact semK_pan q
theorem foldC_sl {b b1 i o n cap n1 cap1 len : Nat} {els els1 : List (List V)} {el : List V} (hb : h[b]? = some ⟨els, n, cap, true⟩) (he : els[i]? = some el) (ho : el[o]? = some (.sl b1 0 len cap1)) (h1 : h[b1]? = some ⟨els1, n1, cap1, true⟩)
    (hl : els1.length = len) (hn : nrs els1 = true) (hne : b1 ≠ b) : foldC h b i o = (h.set b ⟨els.set i (el.set o (.l n1 els1)), n, cap, true⟩).set b1 Blk.dead := by
  subst hl
  unfold foldC foldK
  simp [hb, rdB, rdC, he, ho, refB, h1, ownOf, elsB, hn, hne, wrH, wrB, wrE, wrL]
theorem folds_nil (h : H) : folds h [] = h := rfl
theorem folds_one (h : H) (b i o : Nat) : folds h [(b, i, o)] = foldC h b i o := rfl
end
end Go.W
namespace Go.W
open Go Go.RowKit
section
variable {C : Cx} {N n0 n1 m : Nat} {Q : QT} {k : List It} {τ τ' : Tau} {I : H → Prop} {h' : H}
theorem rndQ_normal : rndQ C N n0 n1 m Q k τ I .normal τ' h' = Goes n1 (fun _ h2 => I h2) τ' h' := rfl
theorem rndQ_ret : rndQ C N n0 n1 m Q k τ I .ret τ' h' = Q .ret τ h' := rfl
theorem rndQ_exit (id : Nat) : rndQ C N n0 n1 m Q k τ I (.exit id) τ' h' = exitK (Run C N n0 m Q) Q id τ h' (popTo id k) := rfl
theorem rndQ_pan (v : V) : rndQ C N n0 n1 m Q k τ I (.pan v) τ' h' = Q (.pan v) τ h' := rfl
theorem rnd_eq (p : Prop) : (XV.normal = XV.normal ∧ p) = p := by simp
theorem fz_map {α : Type} {f : α → List V} (hf : ∀ a, (f a).all fzOk = true) (l : List α) : (l.map f).all (fun x => x.all fzOk) = true := by
  rw [List.all_map]; exact List.all_eq_true.2 fun a _ => hf a
end
set_option linter.all false in
noncomputable def WB9 := And.intro (And.intro @rndQ_normal @rndQ_ret) (And.intro (And.intro @rndQ_exit @rndQ_pan) rnd_eq)
end Go.W
/- part W46 -/
set_option linter.unusedVariables false
set_option linter.unusedSimpArgs false
namespace Go.W
open Go Go.RowKit

def spine : Code → List Code
  | .seq a b => spine a ++ spine b
  | c => [c]
def headC : Code → Code × List Code
  | .seq a b => ((headC a).1, (headC a).2 ++ [b])
  | c => (c, [])

section
variable {C : Cx} {Q Q' : Exit → Act → World → Prop} {a : Act} {w : World}
def Cx.wpL (C : Cx) : List Code → (Exit → Act → World → Prop) → Act → World → Prop
  | [], Q, a, w => Q .normal a w
  | c :: k, Q, a, w => C.wpV c (Exit.then (C.wpL k Q) Q) a w
theorem then_mono {N N' : Act → World → Prop} (hn : ∀ a w, N a w → N' a w) (hq : ∀ e a w, Q e a w → Q' e a w) : ∀ e a w, Exit.then N Q e a w → Exit.then N' Q' e a w
  | .normal, a, w, h => hn _ _ h
  | .exit _, a, w, h => hq _ _ _ h
  | .goto _, a, w, h => hq _ _ _ h
  | .ret, a, w, h => hq _ _ _ h
  | .panic _, a, w, h => hq _ _ _ h
  | .outgrown, a, w, h => hq _ _ _ h
theorem wpL_append : ∀ {l1 l2 : List Code} {a : Act} {w : World}, C.wpL l1 (Exit.then (C.wpL l2 Q) Q) a w → C.wpL (l1 ++ l2) Q a w
  | [], l2, a, w, h => h
  | c :: l1, l2, a, w, h => by
    show C.wpV c _ a w
    refine wpV_mono h fun e a w p => ?_
    cases e with
    | normal => exact wpL_append (l1 := l1) p
    | exit id => exact p
    | goto l => exact p
    | ret => exact p
    | panic ch => exact p
    | outgrown => exact p
theorem then_normal {N : Act → World → Prop} : ∀ e a w, Exit.then (fun a w => Q .normal a w) Q e a w → Q e a w
  | .normal, a, w, h => h
  | .exit _, a, w, h => h
  | .goto _, a, w, h => h
  | .ret, a, w, h => h
  | .panic _, a, w, h => h
  | .outgrown, a, w, h => h
theorem wpL_unapp : ∀ {l1 l2 : List Code} {a : Act} {w : World}, C.wpL (l1 ++ l2) Q a w → C.wpL l1 (Exit.then (C.wpL l2 Q) Q) a w
  | [], l2, a, w, h => h
  | c :: l1, l2, a, w, h => by
    show C.wpV c _ a w
    refine wpV_mono h fun e a w p => ?_
    cases e with
    | normal => exact wpL_unapp (l1 := l1) p
    | exit id => exact p
    | goto l => exact p
    | ret => exact p
    | panic ch => exact p
    | outgrown => exact p
theorem wpV_spine : ∀ {c : Code} {Q : Exit → Act → World → Prop} {a : Act} {w : World}, C.wpL (spine c) Q a w → C.wpV c Q a w := by
  have one : ∀ {c : Code} {Q : Exit → Act → World → Prop} {a : Act} {w : World}, C.wpL [c] Q a w → C.wpV c Q a w := fun h => wpV_mono h (then_normal (N := fun _ _ => True))
  intro c
  induction c with
  | seq x y ihx ihy =>
    intro Q a w h
    refine wpV_seq (ihx ?_)
    have h := wpL_unapp h
    have mono : ∀ {l : List Code} {Q Q' : Exit → Act → World → Prop} {a : Act} {w : World}, (∀ e a w, Q e a w → Q' e a w) → C.wpL l Q a w → C.wpL l Q' a w := by
      intro l
      induction l with
      | nil => intro Q Q' a w hq h; exact hq _ _ _ h
      | cons c l ih => intro Q Q' a w hq h; exact wpV_mono h (then_mono (fun a w h => ih hq h) hq)
    exact mono (then_mono (fun a w h => ihy h) fun _ _ _ h => h) h
  | _ => intro Q a w h; exact one h

theorem wpL_arrives : ∀ {ks : List Code} {Q : Exit → Act → World → Prop} {a : Act} {w : World}, C.wpL ks Q a w → ∀ (b : Frame) (k : List Item) (cs : List Frame), b.roundOf = C.rd → (C.P.funcs[b.fn]?).isSome = true →
    ∃ e a' w', Q e a' w' ∧ ArrivesIn (Machine.fenced C.P C.fc) C.P (lone (b.atR a (ks.map Item.code ++ k)) cs w) b k cs e a' w'
  | [], Q, a, w, h, b, k, cs, h1, h2 => ⟨.normal, a, w, h, StepsIn.refl ..⟩
  | c :: ks, Q, a, w, h, b, k, cs, h1, h2 => by
    obtain ⟨e, a₁, w₁, hq, harr⟩ := h b (ks.map Item.code ++ k) cs h1 rfl h2
    have key : ∀ {e : Exit}, e ≠ .normal → ∀ (l : List Code), ArrivesIn (Machine.fenced C.P C.fc) C.P (lone (b.atR a (.code c :: (ks.map Item.code ++ k))) cs w) b (l.map Item.code ++ k) cs e a₁ w₁ →
        ArrivesIn (Machine.fenced C.P C.fc) C.P (lone (b.atR a (.code c :: (ks.map Item.code ++ k))) cs w) b k cs e a₁ w₁ := by
      intro e he l
      induction l with
      | nil => intro h; exact h
      | cons x l ih => intro h; exact ih (.pass (x := .code x) rfl (fun _ _ => .inl he) h)
    cases e with
    | normal =>
      obtain ⟨e₂, a₂, w₂, hq₂, harr₂⟩ := wpL_arrives (ks := ks) hq b k cs h1 h2
      exact ⟨e₂, a₂, w₂, hq₂, .of_steps harr harr₂⟩
    | exit id => exact ⟨_, a₁, w₁, hq, key (by simp) ks harr⟩
    | goto l => exact ⟨_, a₁, w₁, hq, key (by simp) ks harr⟩
    | ret => exact ⟨_, a₁, w₁, hq, key (by simp) ks harr⟩
    | panic ch => exact ⟨_, a₁, w₁, hq, key (by simp) ks harr⟩
    | outgrown => exact ⟨_, a₁, w₁, hq, key (by simp) ks harr⟩

theorem head_steps : ∀ (c : Code) (b : Frame) (a : Act) (k : List Item) (cs : List Frame) (w : World),
    StepsIn (Machine.fenced C.P C.fc) C.P (lone (b.atR a (.code c :: k)) cs w) (lone (b.atR a (.code (headC c).1 :: ((headC c).2.map Item.code ++ k))) cs w) := by
  intro c
  induction c with
  | seq x y ihx ihy =>
    intro b a k cs w
    refine .head (C.fenced _) stepR_seq ?_
    have := ihx b a (.code y :: k) cs w
    simpa [headC] using this
  | _ => intro b a k cs w; exact StepsIn.refl ..

theorem wpList_append {F : Fence} {n : Nat} {P : Program} {ops : Array Oper} {Q : Exit → Act → World → Prop} : ∀ {l1 l2 : List Oper} {a : Act} {w : World},
    wpListIn F n P ops (Exit.then (wpListIn F n P ops Q l2) Q) l1 a w → wpListIn F n P ops Q (l1 ++ l2) a w
  | [], l2, a, w, h => h
  | o :: l1, l2, a, w, h => by
    simp only [List.cons_append]
    unfold wpListIn at h ⊢
    split
    · rename_i hw
      rw [if_pos hw] at h
      refine ⟨h.1, ?_⟩
      have hu := h.2
      have hq : ∀ (ch : List PanicEntry) (a : Act) (w : World), Exit.then (wpListIn F n P ops Q l2) Q (.panic ch) a w → Q (.panic ch) a w := fun _ _ _ h => h
      have ho : LetsOut (Exit.then (wpListIn F n P ops Q l2) Q) → LetsOut Q := fun ⟨a, w, h⟩ => ⟨a, w, h⟩
      have hk : ∀ a w, wpListIn F n P ops (Exit.then (wpListIn F n P ops Q l2) Q) l1 a w → wpListIn F n P ops Q (l1 ++ l2) a w := fun a w h => wpList_append h
      have he : ∀ (e : Ending) (w'' : World), (match e, w'' with | .returned v, w'' => wpListIn F n P ops (Exit.then (wpListIn F n P ops Q l2) Q) l1 (a.put o.dst v) w'' | .panicked chain, w'' => Exit.then (wpListIn F n P ops Q l2) Q (.panic chain) a w'' | .outgrown, _ => LetsOut (Exit.then (wpListIn F n P ops Q l2) Q)) →
          (match e, w'' with | .returned v, w'' => wpListIn F n P ops Q (l1 ++ l2) (a.put o.dst v) w'' | .panicked chain, w'' => Q (.panic chain) a w'' | .outgrown, _ => LetsOut Q) := by
        intro e w'' he
        cases e with
        | returned u => exact hk _ _ he
        | panicked c => exact hq _ _ _ he
        | outgrown => exact ho he
      generalize (o.semAt F.round a.eval).run P w = r at hu
      cases r with
      | ok n w' =>
        cases n <;> simp only [Oper.uponIn] at hu ⊢
        case value u => exact hk _ _ hu
        case skip => exact hk _ _ hu
        case defer d => exact hk _ _ hu
        case enter f args => exact ⟨hu.1, ⟨hu.2.1, fun cs hr => let ⟨e, w', fr, r, s⟩ := hu.2.2 cs hr; ⟨e, w', fr, he e w' r, s⟩⟩⟩
        case row row args => exact ⟨hu.1, RowsIn.mono hu.2 fun u w'' he => hk _ _ he⟩
        case round l f tmps assign body => exact ⟨hu.1, RoundIn.mono hu.2 he⟩
      | halt x w' =>
        cases x <;> simp only [Oper.uponIn] at hu ⊢
        case panic u => exact hq _ _ _ hu
    · rename_i hw
      rw [if_neg hw] at h
      exact ⟨h.1, wpList_append h.2⟩
end
end Go.W
/- part W47 -/
set_option linter.unusedVariables false
set_option linter.unusedSimpArgs false
namespace Go.W
open Go Go.RowKit

def modeOf : Option Value → Bool → FrameMode
  | none, _ => .returning
  | some v, r => .panicking [{ v, recovered := r }]
def RelO (φ : Phi) : Option V → Option Value → Prop
  | none, none => True
  | some x, some v => RelV φ x v
  | _, _ => False

def CallsDV (C : Cx) (g : Nat) (args : List V) (h : H) (p : Option V) (R : Bool → H → Prop) : Prop :=
  ∀ S w0 φ (vs : Array Value) w pv, RelG C φ.z → Rel S w0 φ h w → All2 (RelV φ) args vs.toList → RelO φ p pv →
    enters C.P g = true ∧ CallsDIn Fence.wide 0 C.P g vs (modeOf pv false) w fun e u' w' => ∃ rec φ' h' v, e = .returned v ∧ u' = modeOf pv rec ∧ Rel S w0 φ' h' w' ∧ ExtN S w0 h.length φ φ' ∧ h.length ≤ h'.length ∧ R rec h'

abbrev Cx.nm (C : Cx) : Cx := { P := C.P, g := C.g, rd := C.rd, ml := false }
section
variable {C : Cx} {N n0 : Nat} {Q : QT} {τ : Tau} {h : H}
theorem semK_skip {rest : List It} : ∀ {pre : List Code} {x : XV} {τ : Tau} {h : H}, x ≠ .normal → SemK C N n0 Q (pre.map It.code ++ rest) x τ h → SemK C N n0 Q rest x τ h
  | [], x, τ, h, hx, hq => hq
  | c :: pre, x, τ, h, hx, hq => by
    refine semK_skip (pre := pre) hx ?_
    cases x with
    | normal => exact absurd rfl hx
    | exit id => exact hq
    | ret => exact hq
    | pan v => exact hq
theorem semK_last {pre : List Code} {x : XV} {τ : Tau} {h : H} (hx : x ≠ .normal) (hq : SemK C N n0 Q (pre.map It.code) x τ h) : Q x τ h := by
  have := semK_skip (pre := pre) (rest := []) hx (by rw [List.append_nil]; exact hq)
  exact this
theorem wpL_mono {Q Q' : Exit → Act → World → Prop} (hq : ∀ e a w, Q e a w → Q' e a w) : ∀ {l : List Code} {a : Act} {w : World}, C.wpL l Q a w → C.wpL l Q' a w
  | [], a, w, h => hq _ _ _ h
  | c :: l, a, w, h => wpV_mono h (then_mono (fun a w h => wpL_mono hq h) hq)
theorem sem_wpL {rest : List It} : ∀ {pre : List Code} {τ : Tau} {h : H}, SemK C N n0 Q (pre.map It.code ++ rest) .normal τ h → ∀ {S : Nat → Prop} {w0 : World} {φ : Phi} {a : Act} {w : World},
    RelG C φ.z → Rel S w0 φ h w → n0 ≤ h.length → RelT φ τ a → a.tmps.size = N → C.wpL pre (Post N n0 S w0 φ (C.ml, a.defers) (SemK C N n0 Q rest)) a w
  | [], τ, h, hs, S, w0, φ, a, w, G, R, hn, T, hN => ⟨.normal, τ, h, φ, rfl, R, ExtN.refl .., hn, T, hN, Dfs.refl, hs⟩
  | c :: pre, τ, h, hs, S, w0, φ, a, w, G, R, hn, T, hN => by
    refine wpV_mono (hs S w0 φ a w G R hn T hN) ?_
    rintro e a' w' ⟨x', τ', h', φ', p1, p2, p3, p4, p5, p6, p7, p8⟩
    cases x' with
    | normal =>
      simp only [XRel] at p1; subst p1
      obtain ⟨S1, hS, R1, b1, b2⟩ := p2.base
      exact wpL_mono (fun e a w p => p.rebase p2 p3 p7 hS b1 b2) (sem_wpL (pre := pre) p8 (G.mono p3.z) R1 p4 p5 p6)
    | exit id => simp only [XRel] at p1; subst p1; exact ⟨.exit id, τ', h', φ', rfl, p2, p3, p4, p5, p6, p7, semK_skip (by simp) p8⟩
    | ret => simp only [XRel] at p1; subst p1; exact ⟨.ret, τ', h', φ', rfl, p2, p3, p4, p5, p6, p7, semK_skip (by simp) p8⟩
    | pan v => obtain ⟨u, rfl, q⟩ := p1; exact ⟨.pan v, τ', h', φ', ⟨u, rfl, q⟩, p2, p3, p4, p5, p6, p7, semK_skip (by simp) p8⟩

theorem spine_ok : ∀ {c : Code}, codeOk N c = true → (spine c).all (codeOk N) = true := by
  intro c
  induction c with
  | seq x y ihx ihy =>
    intro h
    simp only [codeOk, Bool.and_eq_true] at h
    simp only [spine, List.all_append, Bool.and_eq_true]
    exact ⟨ihx h.1, ihy h.2⟩
  | _ => intro h; simpa [spine] using h
theorem head_ok : ∀ {c : Code}, codeOk N c = true → codeOk N (headC c).1 = true ∧ (headC c).2.all (codeOk N) = true := by
  intro c
  induction c with
  | seq x y ihx ihy =>
    intro h
    simp only [codeOk, Bool.and_eq_true] at h
    simp only [headC, List.all_append, Bool.and_eq_true]
    exact ⟨(ihx h.1).1, (ihx h.1).2, by simp [h.2]⟩
  | _ => intro h; exact ⟨h, rfl⟩
theorem items_ok {l : List Code} {k : List It} (h : l.all (codeOk N) = true) (hk : k.all (itOk N) = true) : (l.map It.code ++ k).all (itOk N) = true := by
  rw [List.all_append, hk, List.all_map]
  simpa [Function.comp_def, itOk] using h

theorem leaves_marksT {fn : Func} {tmps : Array Value} {R : Ending → World → Prop} {S : Nat → Prop} {w0 : World} {φ : Phi} {u : FrameMode} {ds : List Deferred} (hu : u ≠ .run) : ∀ (ms : List Deferred) (w : World), Marks w0 ms w → Rel S w0 φ h w →
    (∀ w', Rel S w0 φ h w' → LeavesInM Fence.wide 0 C.P fn tmps R ds u w') → LeavesInM Fence.wide 0 C.P fn tmps R (ms ++ ds) u w
  | [], w, _, Rl, k => k w Rl
  | d :: ms, w, ⟨hnd, hm⟩, Rl, k => by
    obtain ⟨r, rfl, h1, h2⟩ := hm d (by simp)
    have hn := (List.nodup_cons.1 hnd)
    refine ⟨hu, .inl ⟨r, w.putObj r (.deferred none), rfl, run_takeDeferred h2, leaves_marksT hu ms _ ⟨hn.2, fun d' hd' => ?_⟩ (Rl.other (grownBy_putObj' w r _) h1 (fun ⟨c, ty, q, hc⟩ => by rw [h2] at hc; cases hc)) k⟩⟩
    obtain ⟨r', rfl, q1, q2⟩ := hm d' (by simp [hd'])
    refine ⟨r', rfl, q1, ?_⟩
    rw [World.putObj_heap_other (fun e => hn.1 (by rw [← e]; exact hd'))]
    exact q2

def defQ (C : Cx) (n0 : Nat) (fn : Func) (R : Res → H → Prop) (g : Nat) (caps : List V) : QT
  | .normal, τ, h => CallsDV C g caps h none fun _ h' => resW C h' τ fn.results.toList (tupOf n0 R h')
  | .ret, τ, h => CallsDV C g caps h none fun _ h' => resW C h' τ fn.results.toList (tupOf n0 R h')
  | .pan v, τ, h => CallsDV C g caps h (some v) fun rec h' => (rec = true → resW C h' τ fn.results.toList (tupOf n0 R h')) ∧ (rec = false → Up n0 R (.pan v) h')
  | .exit _, _, _ => False
def defK (C : Cx) (N n0 m : Nat) (fn : Func) (R : Res → H → Prop) (all os : List Oper) (post : List Code) (τ : Tau) (h : H) : V → Prop
  | .fn g caps => Run C N h.length m (defQ C n0 fn R g caps) (.ops all os :: post.map It.code) τ h
  | _ => False
def defQ1 (C : Cx) (N n0 m : Nat) (fn : Func) (R : Res → H → Prop) (all os : List Oper) (post : List Code) (fo : Operand) : QT
  | .normal, τ, h => defK C N n0 m fn R all os post τ h (ev C τ fo)
  | .ret, τ, h => resW C h τ fn.results.toList (tupOf n0 R h)
  | .pan v, τ, h => Up n0 R (.pan v) h
  | .exit _, _, _ => False

def Tell (S : Nat → Prop) (w0 : World) (φ : Phi) (h : H) (R : Res → H → Prop) (e : Ending) (w' : World) : Prop :=
  ∃ r φ' h', ResRel φ' r e ∧ Rel S w0 φ' h' w' ∧ ExtN S w0 h.length φ φ' ∧ h.length ≤ h'.length ∧ R r h'
theorem tell_ret {S : Nat → Prop} {w0 w'' : World} {φ φ' : Phi} {h' : H} {R : Res → H → Prop} {v : Value} {r : Res} (p3 : ExtN S w0 h.length φ φ') (p4 : h.length ≤ h'.length) (p2 : Rel S w0 φ' h' w'') (q2 : ResRel φ' r (.returned v)) (q3 : Up h.length R r h') : Tell S w0 φ h R (.returned v) w'' := by
  cases r with
  | ret x =>
    obtain ⟨v', h'', M, ar, hm, hR⟩ := q3
    obtain ⟨φ'', R'', e'', hn'', m''⟩ := ar S w0 φ' w'' p2 p4
    obtain ⟨cv, e, rv⟩ := q2
    exact ⟨.ret v', φ'', h'', ⟨cv, e, m'' _ _ _ hm rv⟩, R'', p3.trans e'', hn'', hR⟩
  | pan x => obtain ⟨cv, e, rv⟩ := q2; cases e
theorem tell_pan {S : Nat → Prop} {w0 w'' : World} {φ φ' : Phi} {h' : H} {R : Res → H → Prop} {u : Value} {v : V} (p3 : ExtN S w0 h.length φ φ') (p4 : h.length ≤ h'.length) (p2 : Rel S w0 φ' h' w'') (q : RelV φ' v u) (q3 : Up h.length R (.pan v) h') : Tell S w0 φ h R (.panicked [{ v := u, recovered := false }]) w'' := by
  obtain ⟨v', h'', M, ar, hm, hR⟩ := q3
  obtain ⟨φ'', R'', e'', hn'', m''⟩ := ar S w0 φ' w'' p2 p4
  exact ⟨.pan v', φ'', h'', ⟨u, rfl, m'' _ _ _ hm q⟩, R'', p3.trans e'', hn'', hR⟩

theorem out_def {fn : Func} {R : Res → H → Prop} {g : Nat} {caps : List V} {cl : Array Value} {S : Nat → Prop} {w0 w1 : World} {φ φ1 : Phi} {h1 : H} {e : Exit} {a : Act} {w : World} (G : RelG C φ.z) (hx : ExtN S w0 h.length φ φ1)
    (R1 : Rel S w0 φ1 h1 w1) (hn1 : h.length ≤ h1.length) (hp : All2 (RelP φ1) caps cl.toList)
    (p : Post N h1.length S w0 φ1 (C.ml, [{ target := .fn (.func g) cl, args := #[] }]) (defQ C h.length fn R g caps) e a w) : bodyPostM Fence.wide 0 C.P fn (Tell S w0 φ h R) e a w := by
  obtain ⟨x, τ, h', φ', p1, p2, p3, p4, p5, p6, p7, p8⟩ := p
  obtain ⟨ms, hms, hmk, -⟩ := p7
  have hE : ExtN S w0 h.length φ φ' := hx.trans (p3.mono hn1)
  have hcl : All2 (RelV φ') caps cl.toList := fn_caps (hp.mono fun _ _ r => r.ext (R1.ext p3))
  have inv : ∀ w'', enters C.P g = true → (invoke (.fn (.func g) cl) #[]).run C.P w'' = .ok (.enter g cl) w'' := fun w'' he => by
    unfold enters at he
    cases hfn : C.P.funcs[g]? with
    | none => rw [hfn] at he; cases he
    | some fn =>
      rw [hfn] at he
      simp only [Bool.and_eq_true, bne_iff_ne, ne_eq] at he
      have q1 : ¬ fn.name = "runtime.NumGoroutine" := he.1
      have q2 : fn.body.isNone = false := by
        cases hb : fn.body with
        | none => rw [hb] at he; exact absurd he.2 (by simp)
        | some _ => rfl
      simp only [invoke, callFunc, run_program, Sem.run_bind, Result.andThen_ok, hfn]
      simp [q1, q2]
  have hlen : h.length ≤ h'.length := by omega
  have res : ∀ {h'' : H} {φ'' : Phi} {w'' : World}, Rel S w0 φ'' h'' w'' → ExtN S w0 h'.length φ' φ'' → h'.length ≤ h''.length → resW C h'' τ fn.results.toList (tupOf h.length R h'') → LeavesInM Fence.wide 0 C.P fn a.tmps (Tell S w0 φ h R) [] .returning w'' := fun R'' E'' hl'' q => by
    obtain ⟨v, r, q1, q2, q3⟩ := results_run R'' (p5.ext (p2.ext E'')) q
    exact ⟨v, q1, tell_ret (hE.trans (E''.mono hlen)) (by omega) R'' q2 q3⟩
  have ret : CallsDV C g caps h' none (fun _ h' => resW C h' τ fn.results.toList (tupOf h.length R h')) → LeavesInM Fence.wide 0 C.P fn a.tmps (Tell S w0 φ h R) a.defers .returning w := fun q => by
    rw [hms]
    refine leaves_marksT (by simp) ms w hmk p2 fun w'' Rl => ?_
    obtain ⟨he, q⟩ := q S w0 φ' cl w'' none (G.mono hE.z) Rl hcl trivial
    refine ⟨by simp, .inr ⟨fun hd => (by cases hd), _, _, _, _, rfl, inv w'' he, fun _ _ => trivial, q.mono fun e u' w3 ⟨rec, φ'', h'', v, r1, r2, r3, r4, r5, r6⟩ => ?_⟩⟩
    subst r1; subst r2
    exact res r3 r4 r5 r6
  cases x with
  | normal => simp only [XRel] at p1; subst p1; exact ret p8
  | ret => simp only [XRel] at p1; subst p1; exact ret p8
  | exit id => exact p8.elim
  | pan v =>
    obtain ⟨u, rfl, q⟩ := p1
    show LeavesInM Fence.wide 0 C.P fn a.tmps (Tell S w0 φ h R) a.defers (.panicking _) w
    rw [hms]
    refine leaves_marksT (by simp) ms w hmk p2 fun w'' Rl => ?_
    obtain ⟨he, q'⟩ := p8 S w0 φ' cl w'' (some u) (G.mono hE.z) Rl hcl q
    refine ⟨by simp, .inr ⟨fun hd => (by cases hd), _, _, _, _, rfl, inv w'' he, fun _ _ => trivial, q'.mono fun e u' w3 ⟨rec, φ'', h'', v', r1, r2, r3, r4, r5, r6⟩ => ?_⟩⟩
    subst r1; subst r2
    cases rec with
    | true => exact res r3 r4 r5 (r6.1 rfl)
    | false => exact tell_pan (hE.trans (r4.mono hlen)) (by omega) r3 (q.ext (p2.ext r4)) (r6.2 rfl)

theorem run_defer {P : Program} {a : Act} {o : Oper} {fo : Operand} {ts : Array TypeId} {g : Nat} {cl : Array Value} {w : World} {rd : Option Nat} (hrd : rd = none) (ho : o.op = .defer ⟨.value fo, #[], ts⟩) (hv : a.eval fo = .func (.func g) #[] cl) :
    (o.semAt rd a.eval).run P w = .ok (.defer { target := .fn (.func g) cl, args := #[] }) w := by
  subst hrd
  rw [Oper.semAt_none]
  simp only [execOp, ho, resolve, hv, Deferred.ofValue, Sem.run_bind, Sem.run_pure, Result.andThen_ok]
  simp

theorem calls_of_defer {f : Nat} {fn : Func} {c : Code} {args : List V} {R : Res → H → Prop} (hf : C.P.funcs[f]? = some fn) (hb : fn.body = some c) (hn : enters C.P f = true) (hc : codeOk fn.ntmps c = true) (hl : args.length ≤ fn.ntmps)
    {pre post : List Code} {id : Nat} {ops : Array Oper} {os1 os2 : List Oper} {o : Oper} {fo : Operand} {ts : Array TypeId} (hsp : spine c = pre ++ .region id ops false :: post) (hops : ops.toList = os1 ++ o :: os2)
    (ho : o.op = .defer ⟨.value fo, #[], ts⟩) (hg : o.guard = none) (hd : o.dst = none) (n m : Nat)
    (hr : Run C.nm fn.ntmps h.length n (defQ1 C fn.ntmps h.length m fn R ops.toList os2 post fo) (pre.map It.code ++ [.ops ops.toList os1]) (argsT args) h) (hrd : C.rd = none := by rfl) : CallsV C f args h R := by
  intro S w0 φ vs w G Rl ha
  refine .inl ⟨hn, ?_⟩
  refine calls_of_wpV hf hb hrd (wpV_spine ?_)
  have hsok := spine_ok hc
  rw [hsp, List.all_append, List.all_cons, Bool.and_eq_true, Bool.and_eq_true] at hsok
  obtain ⟨hpre, hreg, hpost⟩ := hsok
  simp only [codeOk] at hreg
  have hall : ops.toList.all (opOk fn.ntmps) = true := by rw [Array.all_toList]; exact hreg
  have hsplit := hall
  rw [hops, List.all_append, List.all_cons, Bool.and_eq_true, Bool.and_eq_true] at hsplit
  obtain ⟨hos1, hoo, hos2⟩ := hsplit
  have hfo : opdOk fo = true := by
    simp only [opOk, Bool.and_eq_true, ho, Op.operands, Call.operands] at hoo
    simpa using hoo.2
  have hlen := ha.length
  simp at hlen
  rw [hsp]
  refine wpL_append ?_
  have s1 := Run_sound n _ _ _ h (items_ok hpre (k := [.ops ops.toList os1]) (by simp [itOk, hall, hos1])) hr
  have w1 := sem_wpL s1 (S := S) (w0 := w0) (a := { tmps := vs ++ Array.replicate (fn.ntmps - vs.size) undef, defers := [] }) G Rl (Nat.le_refl _) (argsT_rel ha) (by simp; omega)
  have hpl : ∀ {l : List Code} {Q : Exit → Act → World → Prop} {a : Act} {w : World}, C.nm.wpL l Q a w → C.wpL l Q a w := by
    intro l
    induction l with
    | nil => intro Q a w h; exact h
    | cons c l ih => intro Q a w h; exact wpV_mono (C := C) h (then_mono (fun a w h => ih h) fun _ _ _ h => h)
  refine hpl (wpL_mono ?_ w1)
  rintro e a' w' ⟨x', τ', h', φ', p1, p2, p3, p4, p5, p6, p7, p8⟩
  have none' : ∀ {a : Act} {w : World}, Dfs w0 (false, []) a w → a.defers = [] := fun ⟨ms, h1, _, h2⟩ => by rw [h1, h2 rfl]; rfl
  have early : ∀ {x : XV} {e : Exit} {τ : Tau} {h1 : H} {φ1 : Phi} {a : Act} {w : World}, x ≠ .normal → XRel φ1 x e → Rel S w0 φ1 h1 w → ExtN S w0 h.length φ φ1 → h.length ≤ h1.length → RelT φ1 τ a → a.defers = [] → defQ1 C fn.ntmps h.length m fn R ops.toList os2 post fo x τ h1 →
      bodyPostM Fence.wide 0 C.P fn (Tell S w0 φ h R) e a w := by
    intro x e τ h1 φ1 a w hx q1 q2 q3 q4 q5 q6 q7
    cases x with
    | normal => exact absurd rfl hx
    | exit id => exact q7.elim
    | ret =>
      simp only [XRel] at q1; subst q1
      show LeavesInM _ _ _ _ _ _ a.defers _ _
      rw [q6]
      obtain ⟨v, r, r1, r2, r3⟩ := results_run q2 q5 q7
      exact ⟨v, r1, tell_ret q3 q4 q2 r2 r3⟩
    | pan v =>
      obtain ⟨u, rfl, q⟩ := q1
      show LeavesInM _ _ _ _ _ _ a.defers _ _
      rw [q6]
      exact tell_pan q3 q4 q2 q q7
  have p7' := none' p7
  cases x' with
  | exit id => simp only [XRel] at p1; subst p1; exact (p8 : False).elim
  | ret => simp only [XRel] at p1; subst p1; exact early (x := .ret) (e := .ret) (by simp) rfl p2 p3 p4 p5 p7' p8
  | pan v => obtain ⟨u, rfl, q⟩ := p1; exact early (x := .pan v) (e := .panic _) (by simp) ⟨u, rfl, q⟩ p2 p3 p4 p5 p7' p8
  | normal =>
    simp only [XRel] at p1; subst p1
    show C.wpV (.region id ops false) _ a' w'
    refine wpV_of (wpIn_region_list ?_)
    rw [hops]
    refine wpList_append ?_
    obtain ⟨S1, hS, R1, b1, b2⟩ := p2.base
    have w2 := p8 S1 w' φ' a' w' (G.mono p3.z) R1 p4 p5 p6
    rw [Array.toArray_toList] at w2
    refine wpList_mono ?_ w2
    intro e a2 w2' p
    have p := p.rebase p2 p3 p7 hS b1 b2
    obtain ⟨x2, τ2, h2, φ2, r1, r2, r3, r4, r5, r6, r7, r8⟩ := p
    have r7' := none' r7
    have keep : ∀ {e : Exit} {a : Act} {w : World}, e ≠ .normal → bodyPostM Fence.wide 0 C.P fn (Tell S w0 φ h R) e a w →
        Exit.then (wpListIn C.fc 0 C.P ops (Exit.then (C.wpL post (bodyPostM Fence.wide 0 C.P fn (Tell S w0 φ h R))) (bodyPostM Fence.wide 0 C.P fn (Tell S w0 φ h R))) (o :: os2)) (Exit.then (C.wpL post (bodyPostM Fence.wide 0 C.P fn (Tell S w0 φ h R))) (bodyPostM Fence.wide 0 C.P fn (Tell S w0 φ h R))) e a w := by
      intro e a w he q
      cases e with
      | normal => exact absurd rfl he
      | _ => exact q
    cases x2 with
    | exit id => simp only [XRel] at r1; subst r1; exact (r8 : False).elim
    | ret => simp only [XRel] at r1; subst r1; exact keep (e := .ret) (by simp) (early (x := .ret) (by simp) rfl r2 r3 r4 r5 r7' r8)
    | pan v => obtain ⟨u, rfl, q⟩ := r1; exact keep (by simp) (early (x := .pan v) (by simp) ⟨u, rfl, q⟩ r2 r3 r4 r5 r7' r8)
    | normal =>
      simp only [XRel] at r1; subst r1
      show wpListIn C.fc 0 C.P ops _ (o :: os2) a2 w2'
      have r8 : defK C fn.ntmps h.length m fn R ops.toList os2 post τ2 h2 (ev C τ2 fo) := r8
      unfold defK at r8
      split at r8
      · rename_i g caps hfv
        have ef := ev_rel (G.mono r3.z) r5 fo hfo
        rw [hfv] at ef
        obtain ⟨cl, ef, hp⟩ := fn_rel ef
        refine wpListIn_plain hg fun K hK => ?_
        refine ⟨fun _ _ => trivial, ?_⟩
        rw [show C.fc.round = none from hrd, run_defer rfl ho ef]
        refine hK _ _ ?_
        rw [hd]
        obtain ⟨S2, hS2, R2, b3, b4⟩ := r2.base
        have s2 := Run_sound m _ _ _ h2 (by simp only [List.all_cons, itOk, hall, hos2, Bool.and_self, Bool.true_and]; have := items_ok hpost (k := []) rfl; simpa using this) r8
        have w3 := s2 S2 w2' φ2 { a2 with defers := { target := .fn (.func g) cl.toArray, args := #[] } :: a2.defers } w2' (G.mono r3.z) R2 (Nat.le_refl _) r5 r6
        rw [Array.toArray_toList] at w3
        refine wpList_mono ?_ w3
        intro e a3 w3' p
        have d3 : Dfs w0 (C.ml, [{ target := .fn (.func g) cl.toArray, args := #[] }]) { a2 with defers := { target := .fn (.func g) cl.toArray, args := #[] } :: a2.defers } w2' := ⟨[], by simp [r7'], ⟨List.nodup_nil, by simp⟩, fun _ => rfl⟩
        have p := p.rebase r2 (ExtN.refl S w0 h2.length φ2) d3 hS2 b3 b4
        have fin : ∀ {e : Exit} {a : Act} {w : World}, Post fn.ntmps h2.length S w0 φ2 (C.ml, [{ target := .fn (.func g) cl.toArray, args := #[] }]) (defQ C h.length fn R g caps) e a w → bodyPostM Fence.wide 0 C.P fn (Tell S w0 φ h R) e a w := fun p =>
          out_def G r3 r2 r4 (by simpa using hp) p
        obtain ⟨x3, τ3, h3, φ3, t1, t2, t3, t4, t5, t6, t7, t8⟩ := p
        cases x3 with
        | normal =>
          simp only [XRel] at t1; subst t1
          obtain ⟨S3, hS3, R3, b5, b6⟩ := t2.base
          have t8 : SemK C fn.ntmps h2.length (defQ C h.length fn R g caps) (post.map It.code ++ []) .normal τ3 h3 := by rw [List.append_nil]; exact t8
          refine wpL_mono (fun e a w p => fin ?_) (sem_wpL t8 (G.mono (r3.z.trans t3.z)) R3 t4 t5 t6)
          exact p.rebase t2 t3 t7 hS3 b5 b6
        | exit id => simp only [XRel] at t1; subst t1; exact fin (e := .exit id) ⟨.exit id, τ3, h3, φ3, rfl, t2, t3, t4, t5, t6, t7, semK_last (by simp) t8⟩
        | ret => simp only [XRel] at t1; subst t1; exact fin (e := .ret) ⟨.ret, τ3, h3, φ3, rfl, t2, t3, t4, t5, t6, t7, semK_last (by simp) t8⟩
        | pan v => obtain ⟨u, rfl, q⟩ := t1; exact fin (e := .panic _) ⟨.pan v, τ3, h3, φ3, ⟨u, rfl, q⟩, t2, t3, t4, t5, t6, t7, semK_last (by simp) t8⟩
      · exact r8.elim
end
end Go.W
/- part W48 -/
set_option linter.unusedVariables false
set_option linter.unusedSimpArgs false
namespace Go.W
open Go Go.RowKit

def pV : Option V → V
  | some v => v
  | none => .s .nilIface
def recQ (R : Bool → H → Prop) (b : Bool) : QT
  | .normal, _, h => R b h
  | .ret, _, h => R b h
  | _, _, _ => False

section
variable {C : Cx}
theorem run_recover {P : Program} {a : Act} {o : Oper} {ts : Array TypeId} {w : World} {rd : Option Nat} (hrd : rd = none) (ho : o.op = .call ⟨.builtin .recover, #[], ts⟩) : (o.semAt rd a.eval).run P w = .ok .recover w := by
  subst hrd
  rw [Oper.semAt_none]
  simp only [execOp, ho, resolve, Sem.run_bind, Sem.run_pure, Result.andThen_ok, invoke, builtin]
  
theorem callsD_of_run {f : Nat} {fn : Func} {c : Code} {args : List V} {h : H} {p : Option V} {R : Bool → H → Prop} (hf : C.P.funcs[f]? = some fn) (hb : fn.body = some c) (hn : enters C.P f = true) (hc : codeOk fn.ntmps c = true) (hl : args.length ≤ fn.ntmps)
    (hrs : fn.results = #[]) {post : List Code} {id : Nat} {ops : Array Oper} {os2 : List Oper} {o : Oper} {d : Nat} {ts : Array TypeId} (hh : headC c = (.region id ops false, post)) (hops : ops.toList = o :: os2)
    (ho : o.op = .call ⟨.builtin .recover, #[], ts⟩) (hg : o.guard = none) (hd : o.dst = some d) (n : Nat)
    (hr : Run C.nm fn.ntmps h.length n (recQ R p.isSome) (.ops ops.toList os2 :: post.map It.code) (up d (pV p) (argsT args)) h) (hrd : C.rd = none := by rfl) : CallsDV C f args h p R := by
  intro S w0 φ vs w pv G Rl ha hp
  refine ⟨hn, trivial, fun c₀ cs hu hroom => ?_⟩
  have hfe : Machine.fenced C.P C.nm.fc = Machine.fenced C.P Fence.wide := rfl
  have fw : ∀ m : Machine, m.fenced C.P Fence.wide := fenced_wide C.P
  let b : Frame := { (default : Frame) with fn := f, kind := .deferred, roundOf := none }
  have hbv : (C.P.funcs[b.fn]?).isSome = true := by simp [b, hf]
  have henter : Frame.enter C.P f vs .deferred = b.atR { tmps := vs ++ Array.replicate (fn.ntmps - vs.size) undef, defers := [] } [.code c] := by
    simp [Frame.enter, Frame.atR, hf, hb, b]
  generalize ha0 : ({ tmps := vs ++ Array.replicate (fn.ntmps - vs.size) undef, defers := [] } : Act) = a0 at henter
  have hlen := ha.length
  simp at hlen
  have hN : a0.tmps.size = fn.ntmps := by rw [← ha0]; simp; omega
  have hT : RelT φ (argsT args) a0 := by rw [← ha0]; exact argsT_rel ha
  have hD : a0.defers = [] := by rw [← ha0]
  have hok := head_ok hc
  rw [hh] at hok
  obtain ⟨hreg, hpost⟩ := hok
  simp only [codeOk] at hreg
  have hall : ops.toList.all (opOk fn.ntmps) = true := by rw [Array.all_toList]; exact hreg
  have hsplit := hall
  rw [hops, List.all_cons, Bool.and_eq_true] at hsplit
  obtain ⟨hoo, hos2⟩ := hsplit
  have hsz : ops.size = os2.length + 1 := by rw [← Array.length_toList, hops]; rfl
  have h0 : ops[0]? = some o := by rw [← Array.getElem?_toList, hops]; rfl
  -- to the region's first operation
  have s1 := head_steps (C := C) c b a0 [] (c₀ :: cs) w
  rw [hh] at s1
  have s2 : StepsIn (Machine.fenced C.P Fence.wide) C.P (lone (b.atR a0 (.code (.region id ops false) :: (post.map Item.code ++ []))) (c₀ :: cs) w) (lone (b.atR a0 (.inRegion ops (List.range ops.size) :: (post.map Item.code ++ []))) (c₀ :: cs) w) := .one (fw _) stepR_region
  have hrange : List.range ops.size = 0 :: List.range' 1 os2.length := by rw [hsz, List.range_eq_range']; simp [List.range'_succ]
  rw [hrange] at s2
  -- recover
  have hw : Region.wanted o (yielded ops a0.tmps) = true := by simp [Region.wanted, hg]
  let a1 : Act := a0.put (some d) (match pv with | some v => v | none => .nilIface)
  let c1 : Frame := { c₀ with mode := modeOf pv pv.isSome }
  have s3 : StepsIn (Machine.fenced C.P Fence.wide) C.P (lone (b.atR a0 (.inRegion ops (0 :: List.range' 1 os2.length) :: (post.map Item.code ++ []))) (c₀ :: cs) w) (lone (b.atR a1 (.inRegion ops (List.range' 1 os2.length) :: (post.map Item.code ++ []))) (c1 :: cs) w) := by
    generalize post.map Item.code ++ [] = kk
    have hbr : b.roundOf = none := rfl
    refine .one (fw _) (step_lone_go ?_)
    have hg' := stepGR_op (P := C.P) (b := b) (k := kk) (cs := c₀ :: cs) (w := w) (a := a0) (rest := List.range' 1 os2.length) h0 hw
    rw [hg']
    have hfin : ∀ v, (b.atR a0 (.inRegion ops (0 :: List.range' 1 os2.length) :: (kk))).finish v = b.atR (a0.put (some d) v) (.inRegion ops (List.range' 1 os2.length) :: (kk)) := by
      intro v; rw [Frame.finish_atR, h0]; simp [hd]
    have hk : (b.atR a0 (.inRegion ops (0 :: List.range' 1 os2.length) :: (kk))).kind = .deferred := rfl
    have htr := tryRecover_deferred hk (c₀ :: cs)
    have hrr := run_recover (P := C.P) (a := a0) (w := w) (rd := b.roundOf) rfl ho
    cases pv with
    | none =>
      have hrec : recoverD (c₀ :: cs) = none := by simp [recoverD, hu, modeOf]
      have hc1 : c1 = c₀ := by simp only [c1, modeOf]; rw [show (FrameMode.returning) = c₀.mode by rw [hu]; rfl]
      rw [hrec] at htr
      rw [hc1, ← hfin]
      simp only [Frame.atR, hbr] at htr hrr ⊢
      simp [stepG.apply, hrr, htr, hbr]
    | some v =>
      have hrec : recoverD (c₀ :: cs) = some (v, c1 :: cs) := by simp [recoverD, hu, modeOf, c1]
      rw [hrec] at htr
      rw [← hfin]
      simp only [Frame.atR, hbr] at htr hrr ⊢
      simp [stepG.apply, hrr, htr, hbr]
  -- what is left
  have hd' : d < fn.ntmps := by simp only [opOk, hd, Bool.and_eq_true, decide_eq_true_eq] at hoo; exact hoo.1
  have hT1 : RelT φ (up d (pV p) (argsT args)) a1 := by
    refine hT.put (by rw [hN]; exact hd') ?_
    cases p with
    | none => cases pv with
      | none => exact mk_s rfl
      | some v => exact hp.elim
    | some x => cases pv with
      | none => exact hp.elim
      | some v => exact hp
  have hN1 : a1.tmps.size = fn.ntmps := by simp [a1, Act.put, hN]
  have hD1 : a1.defers = [] := hD
  have sem := Run_sound n _ _ _ h (by simp only [List.all_cons, itOk, hall, hos2, Bool.and_self, Bool.true_and]; have := items_ok hpost (k := []) rfl; simpa using this) hr
  have w1 := sem S w0 φ a1 w G Rl (Nat.le_refl _) hT1 hN1
  rw [Array.toArray_toList] at w1
  have w1 := (wpOpsIn_eq_wpListIn (F := C.nm.fc) (n := 0) (P := C.P) (Q := Post fn.ntmps h.length S w0 φ (C.nm.ml, a1.defers) (SemK C.nm fn.ntmps h.length (recQ R p.isSome) (post.map It.code))) os2 1 (fun j => by rw [← Array.getElem?_toList, hops, Nat.add_comm]; rfl)) ▸ w1
  obtain ⟨e, a2, w2, hq, harr⟩ := wp_opsIn _ _ _ w1 b (post.map Item.code ++ []) (c1 :: cs) hrd.symm trivial (fun d hd => by cases hd)
  have s123 := (StepsIn.trans s1 s2).trans s3
  rw [hfe] at harr
  -- the end
  have fin : ∀ {e : Exit} {a3 : Act} {w3 : World}, Post fn.ntmps h.length S w0 φ (false, []) (recQ R p.isSome) e a3 w3 → ArrivesIn (Machine.fenced C.P Fence.wide) C.P (lone (Frame.enter C.P f vs .deferred) (c₀ :: cs) w) b [] (c1 :: cs) e a3 w3 →
      ∃ e u' w' fr, (∃ rec φ' h' v, e = .returned v ∧ u' = modeOf pv rec ∧ Rel S w0 φ' h' w' ∧ ExtN S w0 h.length φ φ' ∧ h.length ≤ h'.length ∧ R rec h') ∧
        ComesIn (Machine.fenced C.P Fence.wide) C.P (lone (Frame.enter C.P f vs .deferred) (c₀ :: cs) w) (lone fr ({ c₀ with mode := u' } :: cs) w') e ∧ fr.kind = .deferred ∧ fr.fn = f ∧ fr.going C.P w' e := by
    intro e a3 w3 p harr
    obtain ⟨x, τ', h', φ', p1, p2, p3, p4, p5, p6, ⟨ms, hms, -, hz⟩, p8⟩ := p
    have hds : a3.defers = [] := by rw [hms, hz rfl]; rfl
    have hps : p.isSome = pv.isSome := by
      cases p <;> cases pv <;> first | rfl | exact hp.elim
    obtain ⟨rv, r, res, -, -⟩ := results_run (n0 := 0) (R := fun _ _ => True) (fn := fn) p2 p5 (by rw [hrs]; exact ⟨rfl, Up.refl trivial⟩)
    have tell : R p.isSome h' → ∃ rec φ' h' v, Ending.returned rv = .returned v ∧ modeOf pv pv.isSome = modeOf pv rec ∧ Rel S w0 φ' h' w3 ∧ ExtN S w0 h.length φ φ' ∧ h.length ≤ h'.length ∧ R rec h' := fun q => ⟨_, φ', h', _, rfl, rfl, p2, p3, p4, hps ▸ q⟩
    cases x with
    | normal =>
      simp only [XRel] at p1; subst p1
      exact ⟨.returned rv, modeOf pv pv.isSome, w3, { b.atR a3 [] with mode := .returning }, tell p8, StepsIn.trans harr (.one (fw _) (stepR_end rfl)), rfl, rfl, rfl, hds, fn, hf, res⟩
    | ret =>
      simp only [XRel] at p1; subst p1
      obtain ⟨todo, hs⟩ := harr.1 rfl
      exact ⟨.returned rv, modeOf pv pv.isSome, w3, { b.atR a3 todo with mode := .returning }, tell p8, hs, rfl, rfl, rfl, hds, fn, hf, res⟩
    | exit id => exact (p8 : False).elim
    | pan v => exact (p8 : False).elim
  have back : ∀ {l : List Code} {e : Exit} {a3 : Act} {w3 : World}, e ≠ .normal → ArrivesIn (Machine.fenced C.P Fence.wide) C.P (lone (Frame.enter C.P f vs .deferred) (c₀ :: cs) w) b (l.map Item.code ++ []) (c1 :: cs) e a3 w3 → ArrivesIn (Machine.fenced C.P Fence.wide) C.P (lone (Frame.enter C.P f vs .deferred) (c₀ :: cs) w) b [] (c1 :: cs) e a3 w3 := by
    intro l e a3 w3 he
    induction l with
    | nil => intro h; exact h
    | cons x l ih => intro h; exact ih (.pass (x := .code x) rfl (fun _ _ => .inl he) h)
  have harr := ArrivesIn.of_steps (henter ▸ s123) harr
  have hds1 : (C.nm.ml, a1.defers) = (false, ([] : List Deferred)) := by rw [hD1]
  rw [hds1] at hq
  have skip : ∀ {x : XV} {e : Exit} {τ : Tau} {h1 : H} {φ1 : Phi}, x ≠ .normal → XRel φ1 x e → Rel S w0 φ1 h1 w2 → ExtN S w0 h.length φ φ1 → h.length ≤ h1.length → RelT φ1 τ a2 → a2.tmps.size = fn.ntmps → Dfs w0 (false, []) a2 w2 → SemK C.nm fn.ntmps h.length (recQ R p.isSome) (post.map It.code) x τ h1 →
      Post fn.ntmps h.length S w0 φ (false, []) (recQ R p.isSome) e a2 w2 := fun hx q1 q2 q3 q4 q5 q6 q7 q8 => ⟨_, _, _, _, q1, q2, q3, q4, q5, q6, q7, semK_last hx q8⟩
  obtain ⟨x, τ', h', φ', p1, p2, p3, p4, p5, p6, p7, p8⟩ := hq
  cases x with
  | normal =>
    simp only [XRel] at p1; subst p1
    obtain ⟨S1, hS, R1, b1, b2⟩ := p2.base
    have p8 : SemK C.nm fn.ntmps h.length (recQ R p.isSome) (post.map It.code ++ []) .normal τ' h' := by rw [List.append_nil]; exact p8
    obtain ⟨e3, a3, w3, hq3, harr3⟩ := wpL_arrives (sem_wpL p8 (G.mono p3.z) R1 p4 p5 p6) b [] (c1 :: cs) hrd.symm hbv
    rw [hfe] at harr3
    exact fin (hq3.rebase p2 p3 p7 hS b1 b2) (.of_steps harr harr3)
  | exit id => simp only [XRel] at p1; subst p1; exact fin (skip (x := .exit id) (e := .exit id) (by simp) rfl p2 p3 p4 p5 p6 p7 p8) (back (by simp) harr)
  | ret => simp only [XRel] at p1; subst p1; exact fin (skip (x := .ret) (e := .ret) (by simp) rfl p2 p3 p4 p5 p6 p7 p8) (back (by simp) harr)
  | pan v => obtain ⟨u, rfl, q⟩ := p1; exact fin (skip (x := .pan v) (by simp) ⟨u, rfl, q⟩ p2 p3 p4 p5 p6 p7 p8) (back (by simp) harr)
end
end Go.W
/- part W49 -/
set_option linter.unusedVariables false
set_option linter.unusedSimpArgs false
namespace Go.W
open Go Go.RowKit

section
variable {C : Cx} {h : H} {N n0 m : Nat} {Q : QT} {k : List It} {τ : Tau}
def shr1 (h : H) (b j : Nat) : Option Blk → H
  | some ⟨els, n, cap, true⟩ => h.set b ⟨els.take j, n, cap, true⟩
  | _ => h
def shrinks (h : H) : List (Nat × Nat) → H
  | [] => h
  | (b, j) :: r => shrinks (shr1 h b j (h[b]?)) r
theorem Arr.shrinks (n0 : Nat) : ∀ (l : List (Nat × Nat)) (h : H), Arr n0 h (Go.W.shrinks h l) fun x x' => x' = x
  | [], h => (Arr.refl n0 h).mono fun x x' e => .inl e
  | (b, j) :: r, h => by
    have one : Arr n0 h (shr1 h b j (h[b]?)) fun x x' => x' = x := by
      unfold shr1
      split
      · rename_i els n cap hb; exact Arr.shrink hb
      · exact (Arr.refl n0 h).mono fun x x' e => .inl e
    exact (one.trans (Arr.shrinks n0 r _)).mono fun x x' e => ⟨x, rfl, e⟩
theorem Up.gcF {R : Res → H → Prop} {r : V} (r' : V) (sh : List (Nat × Nat)) (fl : List (Nat × Nat × Nat)) (l : List Nat) (hs : H) (hn : l.Nodup) (ht : l.take n0 = List.range n0) (hg : gcL (nm l (folds (shrinks h sh) fl).length) (folds (shrinks h sh) fl) l hs)
    (he : r = rnV (nm l (folds (shrinks h sh) fl).length) r') (hr : R (.ret r') hs) : Up n0 R (.ret r) h :=
  ⟨r', hs, _, ((Arr.shrinks n0 sh h).trans (Arr.folds n0 fl _)).trans (Arr.gc (gcOk_ofN hn ht hg)), ⟨r, ⟨r, rfl, rfl⟩, .inr he⟩, hr⟩
theorem shrinks_nil (h : H) : shrinks h [] = h := rfl
theorem shrinks_cons (h : H) (b j : Nat) (r : List (Nat × Nat)) : shrinks h ((b, j) :: r) = shrinks (shr1 h b j (h[b]?)) r := rfl
theorem shr1_some (h : H) (b j : Nat) (els : List (List V)) (n cap : Nat) : shr1 h b j (some ⟨els, n, cap, true⟩) = h.set b ⟨els.take j, n, cap, true⟩ := rfl
theorem folds_cons (h : H) (b i o : Nat) (r : List (Nat × Nat × Nat)) : folds h ((b, i, o) :: r) = folds (foldC h b i o) r := rfl

theorem CallsV.len {f : Nat} {args : List V} {R : Res → H → Prop} (c : CallsV C f args h R) : CallsV C f args h fun r h' => R r h' ∧ h.length ≤ h'.length :=
  fun S w0 φ vs w r0 r1 r2 => (c S w0 φ vs w r0 r1 r2).mono fun e w' ⟨r, φ', h', p1, p2, p3, p4, p5⟩ => ⟨r, φ', h', p1, p2, p3, p4, p5, p4⟩

theorem CallsV.frameL {f : Nat} {args args' : List V} {hs : H} {R : Res → H → Prop} (p : CallsV C f args hs R) (bs : List Nat) (H : H) (hn : bs.Nodup) (hg : gcL (emb bs H.length) H bs hs) (ha : args' = args.map (rnV (emb bs H.length))) :
    CallsV C f args' H fun res h' => ∃ r h1, R r h1 ∧ hs.length ≤ h1.length ∧ res = rnRes (emb bs H.length) r ∧ h' = setAll H bs (h1.map (rnB (emb bs H.length))) := by
  obtain ⟨g1, g2⟩ := gcL_spec hg
  have := CallsV.frame p.len bs H g1 hn g2
  rw [← ha] at this
  exact this.mono fun res h' ⟨x, h1, ⟨q1, q2⟩, q3, q4⟩ => ⟨x, h1, q1, q2, q3, q4⟩

theorem foldC_length (h : H) (b i o : Nat) : (foldC h b i o).length = h.length := by
  unfold foldC foldK
  split
  · split
    · split
      · split <;> simp [wrH]
      · rfl
    · rfl
  · rfl
theorem folds_length : ∀ (fl : List (Nat × Nat × Nat)) (h : H), (folds h fl).length = h.length
  | [], h => rfl
  | (b, i, o) :: r, h => (folds_length r _).trans (foldC_length h b i o)
theorem shrinks_length : ∀ (sh : List (Nat × Nat)) (h : H), (shrinks h sh).length = h.length
  | [], h => rfl
  | (b, j) :: r, h => by
    refine (shrinks_length r _).trans ?_
    unfold shr1; split <;> simp
theorem CallsV.fold {f : Nat} {args : List V} {R : Res → H → Prop} (sh : List (Nat × Nat)) (fl : List (Nat × Nat × Nat)) (c : CallsV C f args (folds (shrinks h sh) fl) R) : CallsV C f args h R := by
  intro S w0 φ vs w G Rl ha
  have ar : Arr h.length h (folds (shrinks h sh) fl) fun x x' => x' = x := ((Arr.shrinks h.length sh h).trans (Arr.folds h.length fl _)).mono fun x x' e => ⟨x, rfl, e⟩
  obtain ⟨φ', R', e', -, m'⟩ := ar S w0 φ w Rl (Nat.le_refl _)
  have hl : (folds (shrinks h sh) fl).length = h.length := (folds_length fl _).trans (shrinks_length sh h)
  have ha' : All2 (RelV φ') args vs.toList := ha.mono fun x v r => m' x x v rfl r
  refine (c S w0 φ' vs w (G.mono e'.z) R' ha').mono fun e w' ⟨r, φ'', h'', p1, p2, p3, p4, p5⟩ => ⟨r, φ'', h'', p1, p2, e'.trans (hl ▸ p3), by omega, p5⟩

end
set_option linter.all false in
noncomputable def WB11 := And.intro (And.intro @shrinks_nil @shrinks_cons) (And.intro @shr1_some (And.intro @folds_cons @folds_nil))
end Go.W
