/- A layer for walking through code on abstract values, told apart by who owns the memory: its definitions and their soundness; no condition. -/
import Derived.Test.YtpcgnmoogjahbaaW22
set_option linter.unusedVariables false
set_option linter.unusedSimpArgs false
namespace Go.W
open Go Go.RowKit

/-! ### Helpers for equations that are met as they stand -/
section
variable {C : Cx} {N n0 : Nat}
def fillS (place : Nat → Option (Nat × Nat)) (cells : List V) (rest : List (Nat × V)) : Option (Nat × Nat) → Option (List V) → Option (List V)
  | some (off, size), some xs => if xs.length = size ∧ off + xs.length ≤ cells.length then fillV place (wrL cells off xs) rest else none
  | _, _ => none
theorem fillV_cons (place : Nat → Option (Nat × Nat)) (cells : List V) (i : Nat) (v : V) (rest : List (Nat × V)) : fillV place cells ((i, v) :: rest) = fillS place cells rest (place i) (cellsOf v) := by
  simp only [fillV]; unfold fillS; rfl
def fillES (n : Nat) (els : List (List V)) (i : Nat) (rest : List (Nat × V)) : Option (List V) → Option (List (List V))
  | some xs => if xs.length = n ∧ i < els.length then fillE n (els.set i xs) rest else none
  | none => none
theorem fillE_cons (n : Nat) (els : List (List V)) (i : Nat) (v : V) (rest : List (Nat × V)) : fillE n els ((i, v) :: rest) = fillES n els i rest (cellsOf v) := by
  simp only [fillE]; unfold fillES; rfl
def andO (p b : Bool) (k : Bool) : Option Bool → Option Bool
  | some r => if k = true then some (p && r) else none
  | none => none
theorem andO_some (p b k r : Bool) : andO p b k (some r) = if k = true then some (p && r) else none := rfl
theorem eqCells_int (k : IntKind) (a : Int) (xs : List V) (k' : IntKind) (b : Int) (ys : List V) : eqCells (.s (.int k a) :: xs) (.s (.int k' b) :: ys) = andO (decide (a = b)) true (decide (k = k')) (eqCells xs ys) := by
  simp only [eqCells]; unfold andO; cases eqCells xs ys <;> simp
theorem eqCells_str (a b : ByteArray) (xs ys : List V) : eqCells (.s (.string a) :: xs) (.s (.string b) :: ys) = andO (decide (a = b)) true true (eqCells xs ys) := by
  simp only [eqCells]; unfold andO; cases eqCells xs ys <;> simp
theorem eqCells_bool (a b : Bool) (xs ys : List V) : eqCells (.s (.bool a) :: xs) (.s (.bool b) :: ys) = andO (a == b) true true (eqCells xs ys) := by
  simp only [eqCells]; unfold andO; cases eqCells xs ys <;> simp
def bytesS : Option UInt8 → Option (List UInt8) → Option (List UInt8)
  | some b, some l => some (b :: l)
  | _, _ => none
theorem bytesOf_cons (el : List V) (r : List (List V)) : bytesOf (el :: r) = bytesS (byteOf el) (bytesOf r) := by simp only [bytesOf]; unfold bytesS; rfl
def scalS (v : Value) : Option (List Value) → Option (List Value)
  | some l => some (v :: l)
  | none => none
theorem scal_cons (v : Value) (r : List V) : scal (.s v :: r) = scalS v (scal r) := by simp only [scal]; unfold scalS; rfl
def frzL (n0 k : Nat) (h : H) : Option Nat → Option (List (List V)) → V
  | some n, some els => .f n (els.map fun el => el.map (frz n0 k h))
  | _, _ => .any
def frzP (n0 k : Nat) (h : H) (o : Nat) : Option (List V) → V
  | some el => .pd ((el.drop o).map (frz n0 k h))
  | none => .any
theorem frz_sl (n0 k : Nat) (h : H) (b off len cap : Nat) : frz n0 (k + 1) h (.sl b off len cap) = if b < n0 then .any else frzL n0 k h (strideB (h[b]?)) (elsOf off len (h[b]?)) := by
  simp only [frz]; unfold frzL; rfl
theorem frz_ptr (n0 k : Nat) (h : H) (b i o : Nat) : frz n0 (k + 1) h (.ptr b i o) = if b < n0 then .any else frzP n0 k h o (rdB (h[b]?) i) := by
  simp only [frz]; unfold frzP; rfl
def foldS2 (h : H) (b i o b1 : Nat) : Option V → H
  | some y => if nrs (elsB (h[b1]?)) = true ∧ b1 ≠ b then (wrH h b i o [y]).set b1 Blk.dead else h
  | none => h
def foldS1 (h : H) (b i o : Nat) (x : V) : Option Nat → H
  | some b1 => foldS2 h b i o b1 (ownOf x (h[b1]?))
  | none => h
theorem foldK_some (h : H) (b i o : Nat) (x : V) : foldK h b i o (some x) = foldS1 h b i o x (refB x) := by
  simp only [foldK]; unfold foldS1 foldS2; rfl

theorem up_at (d : Nat) (v : V) (τ : Tau) (t : Nat) : up d v τ t = if t = d then v else τ t := rfl
theorem argsT_at (v : V) (r : List V) (t : Nat) : argsT (v :: r) (t + 1) = argsT r t := rfl
theorem argsT_zero (v : V) (r : List V) : argsT (v :: r) 0 = v := rfl
theorem dstOf_zero (d : Option Nat) (op : Op) (ty : TypeId) (pos : String) (after g) (r : List Oper) : dstOf (⟨d, op, ty, pos, after, g⟩ :: r) 0 = d := by simp [dstOf]
theorem dstOf_succ (o : Oper) (r : List Oper) (j : Nat) : dstOf (o :: r) (j + 1) = dstOf r j := by simp [dstOf]
theorem gV_at (all : List Oper) (τ : Tau) (j : Nat) : gV all τ j = gW τ (dstOf all j) := rfl
theorem gSet_at (all : List Oper) (j : Nat) (b : Bool) (τ : Tau) : gSet all j b τ = gS b τ (dstOf all j) := rfl
theorem wrH_at (h : H) (b i o : Nat) (xs : List V) : wrH h b i o xs = h.set b (wrB (h[b]?) i o xs) := rfl
theorem runK_at (R : List It → Tau → H → Prop) (items : List It) (d : Option Nat) (τ : Tau) (v : V) (h : H) : RunK R items d τ v h = R items (upo d v τ) h := rfl
theorem effN_at (h0 : H) (exc : List Nat) (R : List Nat → Tau → H → Prop) (d : Option Nat) (nw : List Nat) (τ : Tau) (h : H) (v : V) (h' : H) : effN h0 exc R d nw τ h v h' = R (addN d nw) (upo d v τ) (show_ h0 exc h h') := rfl
theorem oldN_at (R : List Nat → Tau → H → Prop) (d : Option Nat) (nw : List Nat) (τ : Tau) (h : H) (v : V) (h' : H) : oldN R d nw τ h v h' = R nw (upo d v τ) h := rfl
theorem newN_at (R : List Nat → Tau → H → Prop) (d : Option Nat) (nw : List Nat) (τ : Tau) (h : H) (v : V) (h' : H) : newN R d nw τ h v h' = R (addN d nw) (upo d v τ) h := rfl
def appE (K : V → H → Prop) (h : H) (C : Cx) (t u : TypeId) (s x : V) : Option TypeId → Prop
  | some e => t = u ∧ appT K h s x (tSz C.P e) (tBytes C.P e) (tZ C.P e)
  | none => False
theorem appW_at (K : V → H → Prop) (h : H) (C : Cx) (t u : TypeId) (s x : V) : appW K h C t u s x = appE K h C t u s x (tElem C.P t) := by unfold appW appE; rfl
theorem mem_nil (t : Nat) : ([] : List Nat).contains t = false := rfl
theorem mem_cons (a : Nat) (l : List Nat) (t : Nat) : (a :: l).contains t = (t == a || l.contains t) := rfl
theorem restr_at (nw : List Nat) (τ : Tau) (t : Nat) : restr nw τ t = if nw.contains t = true then .any else τ t := rfl
theorem hid_at (n : Nat) (exc : List Nat) (i : Nat) : hid n exc i = (decide (i < n) && !exc.contains i) := rfl
theorem hide_at (h0 : H) (exc : List Nat) (h : H) : hide h0 exc h = mask h0.length exc 0 h := rfl
theorem show_at (h0 : H) (exc : List Nat) (h h' : H) : show_ h0 exc h h' = unmask h0.length exc 0 h h' := rfl
theorem rnB_at (r : Nat → Nat) (els : List (List V)) (n cap : Nat) (l : Bool) : rnB r ⟨els, n, cap, l⟩ = ⟨els.map fun el => el.map (rnC r), n, cap, l⟩ := rfl
theorem foldC_at (h : H) (b i o : Nat) : foldC h b i o = foldK h b i o (rdC (rdB (h[b]?) i) o) := rfl
theorem emb_at (l : List Nat) (L b : Nat) : emb l L b = (l[b]?).getD (L + (b - l.length)) := rfl
theorem killFrom_at (n0 : Nat) (h : H) : killFrom n0 h = h.take n0 ++ (h.drop n0).map fun _ => Blk.dead := rfl
theorem cutS_at (K : V → H → Prop) (h : H) (s : ByteArray) (l r : Int) : cutS K h s l r = ((0 ≤ l ∧ l ≤ r ∧ r ≤ s.size) ∧ K (.s (.string (s.extract l.toNat r.toNat))) h) := rfl
theorem cutF_at (K : V → H → Prop) (h : H) (n : Nat) (els : List (List V)) (l r : Int) : cutF K h n els l r = ((0 ≤ l ∧ l ≤ r ∧ r ≤ els.length) ∧ K (.f n ((els.drop l.toNat).take (r.toNat - l.toNat))) h) := rfl
theorem leafs_at (els : List (List V)) : leafs els = els.all fun el => el.all cellOk := rfl
theorem nrs_at (els : List (List V)) : nrs els = els.all fun el => el.all nr := rfl
theorem nm_at (l : List Nat) (big b : Nat) : nm l big b = (l[b]?).getD big := rfl
theorem byteE_at (b : UInt8) : byteE b = [.s (.int .u8 b.toNat)] := rfl
end
end Go.W
