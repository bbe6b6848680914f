/- A layer for walking through code on abstract values and an abstract heap: its definitions and their soundness; no condition. -/
import Derived.Tactics
import Derived.Laws.Cells
import Derived.Laws.Slices
import Derived.Laws.Append
import Derived.Laws.Build
import Derived.Below
import Derived.OrdersHeld
set_option linter.unusedVariables false
set_option linter.unusedSimpArgs false
namespace Go.VL
open Go Go.RowKit

/-- Values of the abstract machine: what lies at a scalar is the value itself; a slice, a pointer and a function's captured variables name abstract blocks. -/
inductive V where
  | s (v : Value)
  | sl (b off len cap : Nat)
  | ptr (b off : Nat)
  | fn (f : Nat) (caps : List (Nat × Nat))
  | agg (cs : List V)
  | tup (vs : List V)
  | any
  deriving Inhabited

abbrev Phi := Nat → Option (Nat × Nat)

def place (φ : Phi) (b off : Nat) : Option Addr := (φ b).map fun p => ⟨p.1, p.2 + off, none⟩

def places (φ : Phi) : List (Nat × Nat) → Option (List Value)
  | [] => some []
  | c :: cs => match place φ c.1 c.2, places φ cs with
    | some a, some l => some (.pointer (some a) :: l)
    | _, _ => none

def one : Value → Bool
  | .agg _ => false
  | .tuple _ => false
  | _ => true

/-- The concrete value of a value of one cell. -/
def conc (φ : Phi) : V → Option Value
  | .s v => if one v then some v else none
  | .sl b off len cap => (place φ b off).map fun a => .slice (some a) len cap
  | .ptr b off => (place φ b off).map fun a => .pointer (some a)
  | .fn f caps => (places φ caps).map fun l => .func (.func f) #[] l.toArray
  | _ => none

def RelC (φ : Phi) : V → Value → Prop
  | .any, _ => True
  | x, v => conc φ x = some v

def All2 {α β : Type} (R : α → β → Prop) : List α → List β → Prop
  | [], [] => True
  | a :: as, b :: bs => R a b ∧ All2 R as bs
  | _, _ => False

/-- A component of a tuple: one cell, or an aggregate. -/
def RelQ (φ : Phi) : V → Value → Prop
  | .agg cs, v => ∃ l, v = .agg l ∧ All2 (RelC φ) cs l.toList
  | x, v => RelC φ x v

def RelV (φ : Phi) : V → Value → Prop
  | .tup vs, v => ∃ l, v = .tuple l ∧ All2 (RelQ φ) vs l.toList
  | x, v => RelQ φ x v

inductive St where
  | dead | ro | own
  deriving DecidableEq

structure Blk where
  cells : List V
  total : Nat
  ty : TypeId
  st : St

def Blk.none : Blk := ⟨[], 0, 0, .dead⟩

structure H where
  n : Nat
  get : Nat → Blk

def H.push (h : H) (k : Blk) : H := ⟨h.n + 1, fun b => if b = h.n then k else h.get b⟩
def H.set (h : H) (b : Nat) (k : Blk) : H := ⟨h.n, fun b' => if b' = b then k else h.get b'⟩

/-- What block b of the abstract heap is in the world. -/
def BlkRel (B : Nat) (φ : Phi) (w : World) (b : Nat) (k : Blk) : Prop :=
  match k.st with
  | .dead => True
  | .ro => ∃ blk base, φ b = some (blk, base) ∧ ∀ (i : Nat) (x : V), k.cells[i]? = some x → ∃ c, w.cell? ⟨blk, base + i, none⟩ = some c ∧ RelC φ x c
  | .own => ∃ blk c, φ b = some (blk, 0) ∧ B ≤ blk ∧ w.heap[blk]? = some (.cells c k.ty (0, 0)) ∧ c.size = k.total ∧
      ∀ (i : Nat) (x : V), k.cells[i]? = some x → ∃ v, c[i]? = some v ∧ RelC φ x v

def Blk.seen (k : Blk) : Prop := k.st = .own ∨ (k.st = .ro ∧ k.cells ≠ [])

structure Rel (B : Nat) (w0 : World) (φ : Phi) (h : H) (w : World) : Prop where
  below : Below B w0 w
  base : B ≤ w.heap.size
  dom : ∀ b, h.n ≤ b → φ b = none
  blk : ∀ b, b < h.n → BlkRel B φ w b (h.get b)
  sep : ∀ b b' k i k' i', b < h.n → b' < h.n → b ≠ b' → (h.get b).st = .own → (h.get b').seen → φ b = some (k, i) → φ b' = some (k', i') → k ≠ k'

def Ext (φ φ' : Phi) : Prop := ∀ b p, φ b = some p → φ' b = some p

theorem Ext.refl (φ : Phi) : Ext φ φ := fun _ _ h => h
theorem Ext.trans {φ φ' φ'' : Phi} (h : Ext φ φ') (h' : Ext φ' φ'') : Ext φ φ'' := fun b p e => h' b p (h b p e)

theorem place_ext {φ φ' : Phi} (h : Ext φ φ') {b off : Nat} {a : Addr} (e : place φ b off = some a) : place φ' b off = some a := by
  unfold place at *
  cases hb : φ b with
  | none => rw [hb] at e; cases e
  | some p => rw [hb] at e; rw [h b p hb]; exact e

theorem places_ext {φ φ' : Phi} (h : Ext φ φ') : ∀ {cs : List (Nat × Nat)} {l : List Value}, places φ cs = some l → places φ' cs = some l
  | [], l, e => e
  | c :: cs, l, e => by
    simp only [places] at *
    cases h1 : place φ c.1 c.2 with
    | none => rw [h1] at e; simp at e
    | some a =>
      cases h2 : places φ cs with
      | none => rw [h1, h2] at e; simp at e
      | some l' => rw [h1, h2] at e; rw [place_ext h h1, places_ext h h2]; exact e

theorem conc_ext {φ φ' : Phi} (h : Ext φ φ') {x : V} {v : Value} (e : conc φ x = some v) : conc φ' x = some v := by
  cases x with
  | s u => exact e
  | sl b off len cap =>
    simp only [conc] at *
    cases hp : place φ b off with
    | none => rw [hp] at e; cases e
    | some a => rw [hp] at e; rw [place_ext h hp]; exact e
  | ptr b off =>
    simp only [conc] at *
    cases hp : place φ b off with
    | none => rw [hp] at e; cases e
    | some a => rw [hp] at e; rw [place_ext h hp]; exact e
  | fn f caps =>
    simp only [conc] at *
    cases hp : places φ caps with
    | none => rw [hp] at e; cases e
    | some a => rw [hp] at e; rw [places_ext h hp]; exact e
  | agg cs => cases e
  | tup vs => cases e
  | any => cases e

theorem RelC.ext {φ φ' : Phi} (h : Ext φ φ') {x : V} {v : Value} (e : RelC φ x v) : RelC φ' x v := by
  cases x <;> first | exact conc_ext h e | trivial

theorem All2.mono {α β : Type} {R S : α → β → Prop} (h : ∀ a b, R a b → S a b) : ∀ {as : List α} {bs : List β}, All2 R as bs → All2 S as bs
  | [], [], _ => trivial
  | a :: as, b :: bs, e => ⟨h _ _ e.1, All2.mono h e.2⟩
  | [], _ :: _, e => e.elim
  | _ :: _, [], e => e.elim

theorem All2.length {α β : Type} {R : α → β → Prop} : ∀ {as : List α} {bs : List β}, All2 R as bs → as.length = bs.length
  | [], [], _ => rfl
  | a :: as, b :: bs, e => by simp [All2.length e.2]
  | [], _ :: _, e => e.elim
  | _ :: _, [], e => e.elim

theorem All2.get {α β : Type} {R : α → β → Prop} : ∀ {as : List α} {bs : List β}, All2 R as bs → ∀ (i : Nat) (a : α), as[i]? = some a → ∃ b, bs[i]? = some b ∧ R a b
  | [], [], _, i, a, h => by simp at h
  | a :: as, b :: bs, e, 0, x, h => by simp at h; subst h; exact ⟨b, rfl, e.1⟩
  | a :: as, b :: bs, e, i + 1, x, h => by simp at h; obtain ⟨y, h1, h2⟩ := All2.get e.2 i x h; exact ⟨y, by simpa using h1, h2⟩
  | [], _ :: _, e, _, _, _ => e.elim
  | _ :: _, [], e, _, _, _ => e.elim

theorem All2.of_get {α β : Type} {R : α → β → Prop} : ∀ {as : List α} {bs : List β}, as.length = bs.length → (∀ (i : Nat) (a : α) (b : β), as[i]? = some a → bs[i]? = some b → R a b) → All2 R as bs
  | [], [], _, _ => trivial
  | a :: as, b :: bs, hl, h => ⟨h 0 a b rfl rfl, All2.of_get (by simpa using hl) fun i x y hx hy => h (i + 1) x y (by simpa using hx) (by simpa using hy)⟩
  | [], _ :: _, hl, _ => by simp at hl
  | _ :: _, [], hl, _ => by simp at hl

theorem All2.append {α β : Type} {R : α → β → Prop} : ∀ {as : List α} {bs : List β} {as' : List α} {bs' : List β}, All2 R as bs → All2 R as' bs' → All2 R (as ++ as') (bs ++ bs')
  | [], [], _, _, _, h => h
  | _ :: _, _ :: _, _, _, e, h => ⟨e.1, All2.append e.2 h⟩
  | [], _ :: _, _, _, e, _ => e.elim
  | _ :: _, [], _, _, e, _ => e.elim

theorem RelQ.ext {φ φ' : Phi} (h : Ext φ φ') {x : V} {v : Value} (e : RelQ φ x v) : RelQ φ' x v := by
  cases x with
  | agg cs => obtain ⟨l, e1, e2⟩ := e; exact ⟨l, e1, e2.mono fun _ _ => RelC.ext h⟩
  | s u => exact RelC.ext (x := .s u) h e
  | sl b o l c => exact RelC.ext (x := .sl b o l c) h e
  | ptr b o => exact RelC.ext (x := .ptr b o) h e
  | fn f c => exact RelC.ext (x := .fn f c) h e
  | tup c => exact RelC.ext (x := .tup c) h e
  | any => trivial

theorem RelV.ext {φ φ' : Phi} (h : Ext φ φ') {x : V} {v : Value} (e : RelV φ x v) : RelV φ' x v := by
  cases x with
  | tup cs => obtain ⟨l, e1, e2⟩ := e; exact ⟨l, e1, e2.mono fun _ _ => RelQ.ext h⟩
  | s u => exact RelQ.ext (x := .s u) h e
  | sl b o l c => exact RelQ.ext (x := .sl b o l c) h e
  | ptr b o => exact RelQ.ext (x := .ptr b o) h e
  | fn f c => exact RelQ.ext (x := .fn f c) h e
  | agg c => exact RelQ.ext (x := .agg c) h e
  | any => trivial

abbrev Tau := Nat → V
def up (d : Nat) (v : V) (τ : Tau) : Tau := fun t => if t = d then v else τ t
def upo : Option Nat → V → Tau → Tau
  | some d, v, τ => up d v τ
  | none, _, τ => τ

def RelT (φ : Phi) (τ : Tau) (a : Act) : Prop := ∀ t, RelV φ (τ t) (a.tmps.getD t undef)

theorem RelT.ext {φ φ' : Phi} (h : Ext φ φ') {τ : Tau} {a : Act} (e : RelT φ τ a) : RelT φ' τ a := fun t => (e t).ext h

theorem RelT.put {φ : Phi} {τ : Tau} {a : Act} (e : RelT φ τ a) {d : Nat} {x : V} {v : Value} (hd : d < a.tmps.size) (hv : RelV φ x v) : RelT φ (up d x τ) (a.put (some d) v) := by
  intro t
  unfold up Act.put
  by_cases h : t = d
  · subst h; simp [hd]; exact hv
  · rw [if_neg h]
    have := e t
    simp only [Array.getD_eq_getD_getElem?, Array.getElem?_setIfInBounds] at *
    rw [if_neg (fun h' => h h'.symm)]; exact this

theorem RelT.putAny {φ : Phi} {τ : Tau} {a : Act} (e : RelT φ τ a) {d : Nat} {v : Value} : RelT φ (up d .any τ) (a.put (some d) v) := by
  intro t
  unfold up Act.put
  by_cases h : t = d
  · rw [if_pos h]; trivial
  · rw [if_neg h]
    have := e t
    simp only [Array.getD_eq_getD_getElem?, Array.getElem?_setIfInBounds] at *
    rw [if_neg (fun h' => h h'.symm)]; exact this

def ofV : Value → V
  | .agg cs => .agg (cs.toList.map .s)
  | v => .s v

def ev (τ : Tau) : Operand → V
  | .tmp t => τ t
  | .const v => ofV v
  | .global _ => .any
  | .func f => .fn f []

/-- A constant operand is of a kind that may stand for itself. -/
def constOk : Value → Bool
  | .agg cs => cs.all one
  | .tuple _ => false
  | _ => true
def opdOk : Operand → Bool
  | .const v => constOk v
  | _ => true

theorem RelC.s {φ : Phi} {v : Value} (h : one v = true) : RelC φ (.s v) v := by simp [RelC, conc, h]

theorem all2_s {φ : Phi} : ∀ {l : List Value}, l.all one = true → All2 (RelC φ) (l.map .s) l
  | [], _ => trivial
  | v :: l, h => by
    simp only [List.all_cons, Bool.and_eq_true] at h
    exact ⟨RelC.s h.1, all2_s h.2⟩

theorem ev_rel {φ : Phi} {τ : Tau} {a : Act} (e : RelT φ τ a) (x : Operand) (hx : opdOk x = true) : RelV φ (ev τ x) (a.eval x) := by
  cases x with
  | tmp t => exact e t
  | const v =>
    cases v with
    | agg cs =>
      refine ⟨cs, rfl, all2_s ?_⟩
      simp only [opdOk, constOk] at hx
      rw [← Array.all_toList] at hx; exact hx
    | tuple cs => simp [opdOk, constOk] at hx
    | _ => simp [ev, ofV, RelV, RelQ, RelC, conc, one, Act.eval]
  | global g => trivial
  | func f => simp [ev, RelV, RelQ, RelC, conc, places, Act.eval]

end Go.VL
