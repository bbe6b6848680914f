/- A layer for walking through code on abstract values, told apart by who owns the memory: its definitions and their soundness; no condition. -/
import Derived.Tactics
import Derived.Laws.Cells
import Derived.Laws.Slices
import Derived.Laws.Append
import Derived.Laws.Build
import Derived.Laws.AppendOwn
import Derived.Below
import Derived.OrdersHeld
import Derived.RangeFuncRecord
import Derived.RangeFuncCalls
import Derived.TacticsInMore
import Derived.Laws.Strings
import Derived.Laws.Strings2
import Derived.Laws.Strings3
import Derived.Laws.Unary
import Derived.Laws.MakeOwn
import Derived.WalkSpells
import Derived.Laws.StructEq
import Derived.Laws.BytesArg
import Derived.Laws.IdiomStrings
/- part W1 -/
set_option linter.unusedVariables false
set_option linter.unusedSimpArgs false
namespace Go.W
open Go Go.RowKit

inductive V where
  | s (v : Value)
  | f (n : Nat) (els : List (List V))
  | l (n : Nat) (els : List (List V))
  | lp (cs : List V)
  | z
  | sl (b off len cap : Nat)
  | ptr (b i o : Nat)
  | pd (cs : List V)
  | fn (f : Nat) (caps : List V)
  | agg (cs : List V)
  | tup (vs : List V)
  | any
  deriving Inhabited

def LIM : Nat := 9223372036854775807

def one : Value → Bool
  | .agg _ => false
  | .tuple _ => false
  | .string s => decide (s.size ≤ LIM)
  | _ => true

def All2 {α β : Type} (R : α → β → Prop) : List α → List β → Prop
  | [], [] => True
  | a :: as, b :: bs => R a b ∧ All2 R as bs
  | _, _ => False

theorem All2.mono {α β : Type} {R S : α → β → Prop} (h : ∀ a b, R a b → S a b) : ∀ {as : List α} {bs : List β}, All2 R as bs → All2 S as bs
  | [], [], _ => trivial
  | a :: as, b :: bs, e => ⟨h _ _ e.1, All2.mono h e.2⟩
  | [], _ :: _, e => e.elim
  | _ :: _, [], e => e.elim

theorem All2.length {α β : Type} {R : α → β → Prop} : ∀ {as : List α} {bs : List β}, All2 R as bs → as.length = bs.length
  | [], [], _ => rfl
  | a :: as, b :: bs, e => by simp [All2.length e.2]
  | [], _ :: _, e => e.elim
  | _ :: _, [], e => e.elim

theorem All2.get {α β : Type} {R : α → β → Prop} : ∀ {as : List α} {bs : List β}, All2 R as bs → ∀ (i : Nat) (a : α), as[i]? = some a → ∃ b, bs[i]? = some b ∧ R a b
  | [], [], _, i, a, h => by simp at h
  | a :: as, b :: bs, e, 0, x, h => by simp at h; subst h; exact ⟨b, rfl, e.1⟩
  | a :: as, b :: bs, e, i + 1, x, h => by simp at h; obtain ⟨y, h1, h2⟩ := All2.get e.2 i x h; exact ⟨y, by simpa using h1, h2⟩
  | [], _ :: _, e, _, _, _ => e.elim
  | _ :: _, [], e, _, _, _ => e.elim

theorem All2.of_get {α β : Type} {R : α → β → Prop} : ∀ {as : List α} {bs : List β}, as.length = bs.length → (∀ (i : Nat) (a : α) (b : β), as[i]? = some a → bs[i]? = some b → R a b) → All2 R as bs
  | [], [], _, _ => trivial
  | a :: as, b :: bs, hl, h => ⟨h 0 a b rfl rfl, All2.of_get (by simpa using hl) fun i x y hx hy => h (i + 1) x y (by simpa using hx) (by simpa using hy)⟩
  | [], _ :: _, hl, _ => by simp at hl
  | _ :: _, [], hl, _ => by simp at hl

theorem All2.append {α β : Type} {R : α → β → Prop} : ∀ {as : List α} {bs : List β} {as' : List α} {bs' : List β}, All2 R as bs → All2 R as' bs' → All2 R (as ++ as') (bs ++ bs')
  | [], [], _, _, _, h => h
  | _ :: _, _ :: _, _, _, e, h => ⟨e.1, All2.append e.2 h⟩
  | [], _ :: _, _, _, e, _ => e.elim
  | _ :: _, [], _, _, e, _ => e.elim

abbrev Zm := Nat → Nat → Option Value

mutual
def RZ (z : Zm) : V → Value → Prop
  | .s a, v => v = a ∧ one a = true
  | .any, _ => True
  | .z, v => ∃ p, v = .slice p 0 0
  | .f n els, v => (els = [] ∧ ∃ q, v = .slice q 0 0) ∨ ∃ k off cap, v = .slice (some ⟨k, off, none⟩) els.length cap ∧ els.length ≤ cap ∧ els.length ≤ LIM ∧ RZss z k n off els
  | .pd cs, v => ∃ k off, v = .pointer (some ⟨k, off, none⟩) ∧ RZs z k off cs
  | .fn f caps, v => ∃ l, v = .func (.func f) #[] l.toArray ∧ RZl z caps l
  | _, _ => False
def RZs (z : Zm) (k : Nat) : Nat → List V → Prop
  | _, [] => True
  | off, x :: xs => (∃ c, z k off = some c ∧ RZ z x c) ∧ RZs z k (off + 1) xs
def RZss (z : Zm) (k n : Nat) : Nat → List (List V) → Prop
  | _, [] => True
  | off, el :: els => el.length = n ∧ RZs z k off el ∧ RZss z k n (off + n) els
def RZl (z : Zm) : List V → List Value → Prop
  | [], vs => vs = []
  | x :: xs, vs => ∃ v r, vs = v :: r ∧ RZ z x v ∧ RZl z xs r
end
def FLe (z z' : Zm) : Prop := ∀ k o v, z k o = some v → z' k o = some v
theorem FLe.refl (z : Zm) : FLe z z := fun _ _ _ h => h
theorem FLe.trans {a b c : Zm} (h : FLe a b) (h' : FLe b c) : FLe a c := fun k o v e => h' k o v (h k o v e)

mutual
theorem RZ.mono {z z' : Zm} (h : FLe z z') : ∀ (x : V) (v : Value), RZ z x v → RZ z' x v
  | .s a, v, r => by simp only [RZ] at *; exact r
  | .any, v, r => by simp only [RZ]
  | .z, v, r => by simp only [RZ] at *; exact r
  | .f n els, v, r => by
    simp only [RZ] at *
    rcases r with r | ⟨k, off, cap, h1, h2, h3, h4⟩
    · exact .inl r
    · exact .inr ⟨k, off, cap, h1, h2, h3, RZss.mono h k n els off h4⟩
  | .pd cs, v, r => by
    simp only [RZ] at *
    obtain ⟨k, off, h1, h2⟩ := r
    exact ⟨k, off, h1, RZs.mono h k cs off h2⟩
  | .fn f caps, v, r => by
    simp only [RZ] at *
    obtain ⟨l, h1, h2⟩ := r
    exact ⟨l, h1, RZl.mono h caps l h2⟩
  | .l _ _, v, r => by simp [RZ] at r
  | .lp _, v, r => by simp [RZ] at r
  | .sl _ _ _ _, v, r => by simp [RZ] at r
  | .ptr _ _ _, v, r => by simp [RZ] at r
  | .agg _, v, r => by simp [RZ] at r
  | .tup _, v, r => by simp [RZ] at r
theorem RZs.mono {z z' : Zm} (h : FLe z z') (k : Nat) : ∀ (xs : List V) (off : Nat), RZs z k off xs → RZs z' k off xs
  | [], _, _ => by simp only [RZs]
  | x :: xs, off, r => by
    simp only [RZs] at *
    obtain ⟨⟨c, h1, h2⟩, h3⟩ := r
    exact ⟨⟨c, h _ _ _ h1, RZ.mono h x c h2⟩, RZs.mono h k xs _ h3⟩
theorem RZss.mono {z z' : Zm} (h : FLe z z') (k n : Nat) : ∀ (els : List (List V)) (off : Nat), RZss z k n off els → RZss z' k n off els
  | [], _, _ => by simp only [RZss]
  | el :: els, off, r => by
    simp only [RZss] at *
    exact ⟨r.1, RZs.mono h k el off r.2.1, RZss.mono h k n els _ r.2.2⟩
theorem RZl.mono {z z' : Zm} (h : FLe z z') : ∀ (xs : List V) (vs : List Value), RZl z xs vs → RZl z' xs vs
  | [], _, r => by simp only [RZl] at *; exact r
  | x :: xs, vs, r => by
    simp only [RZl] at *
    obtain ⟨v, t, h1, h2, h3⟩ := r
    exact ⟨v, t, h1, RZ.mono h x v h2, RZl.mono h xs t h3⟩
end
theorem RZs.nth {z : Zm} {k : Nat} : ∀ {xs : List V} {off j : Nat} {x : V}, RZs z k off xs → xs[j]? = some x → ∃ c, z k (off + j) = some c ∧ RZ z x c
  | [], _, j, x, _, h => by simp at h
  | y :: ys, off, 0, x, r, h => by
    simp at h; subst h; simp only [RZs] at r; exact r.1
  | y :: ys, off, j + 1, x, r, h => by
    simp only [RZs] at r
    obtain ⟨c, h1, h2⟩ := RZs.nth r.2 (by simpa using h)
    exact ⟨c, by rw [← h1]; congr 1; omega, h2⟩
theorem RZs.drop {z : Zm} {k : Nat} : ∀ {xs : List V} {off : Nat} (j : Nat), RZs z k off xs → RZs z k (off + j) (xs.drop j)
  | xs, off, 0, r => by simpa using r
  | [], off, j + 1, r => by simp [RZs]
  | y :: ys, off, j + 1, r => by
    simp only [RZs] at r
    have := RZs.drop j r.2
    rw [List.drop_succ_cons, show off + (j + 1) = off + 1 + j by omega]; exact this
theorem RZs.take {z : Zm} {k : Nat} : ∀ {xs : List V} {off : Nat} (j : Nat), RZs z k off xs → RZs z k off (xs.take j)
  | xs, off, 0, r => by simp [RZs]
  | [], off, j + 1, r => by simp [RZs]
  | y :: ys, off, j + 1, r => by
    simp only [RZs, List.take_succ_cons] at *
    exact ⟨r.1, RZs.take j r.2⟩
theorem RZss.nth {z : Zm} {k n : Nat} : ∀ {els : List (List V)} {off i : Nat} {el : List V}, RZss z k n off els → els[i]? = some el → el.length = n ∧ RZs z k (off + i * n) el
  | [], _, i, x, _, h => by simp at h
  | y :: ys, off, 0, x, r, h => by
    simp at h; subst h; simp only [RZss] at r; simpa using ⟨r.1, r.2.1⟩
  | y :: ys, off, i + 1, x, r, h => by
    simp only [RZss] at r
    obtain ⟨h1, h2⟩ := RZss.nth r.2.2 (by simpa using h)
    exact ⟨h1, by rw [show off + (i + 1) * n = off + n + i * n by rw [Nat.succ_mul]; omega]; exact h2⟩
theorem RZss.drop {z : Zm} {k n : Nat} : ∀ {els : List (List V)} {off : Nat} (j : Nat), RZss z k n off els → RZss z k n (off + j * n) (els.drop j)
  | els, off, 0, r => by simpa using r
  | [], off, j + 1, r => by simp [RZss]
  | y :: ys, off, j + 1, r => by
    simp only [RZss] at r
    have := RZss.drop j r.2.2
    rw [List.drop_succ_cons, show off + (j + 1) * n = off + n + j * n by rw [Nat.succ_mul]; omega]; exact this
theorem RZss.take {z : Zm} {k n : Nat} : ∀ {els : List (List V)} {off : Nat} (j : Nat), RZss z k n off els → RZss z k n off (els.take j)
  | els, off, 0, r => by simp [RZss]
  | [], off, j + 1, r => by simp [RZss]
  | y :: ys, off, j + 1, r => by
    simp only [RZss, List.take_succ_cons] at *
    exact ⟨r.1, r.2.1, RZss.take j r.2.2⟩
structure Phi where
  m : Nat → Option (Option Nat × Nat)
  z : Zm

def RelP (φ : Phi) : V → Value → Prop
  | .sl b off len cap, v => ∃ p n, φ.m b = some (p, n) ∧ len ≤ cap ∧ match p with
    | some k => v = .slice (some ⟨k, off * n, none⟩) len cap
    | none => (∃ q, v = .slice q 0 0) ∧ len = 0 ∧ cap = 0 ∧ off = 0
  | .ptr b i o, v => ∃ k n, φ.m b = some (some k, n) ∧ v = .pointer (some ⟨k, i * n + o, none⟩)
  | x, v => RZ φ.z x v

def RelC (φ : Phi) : V → Value → Prop
  | .fn f caps, v => ∃ l, v = .func (.func f) #[] l.toArray ∧ All2 (RelP φ) caps l
  | x, v => RelP φ x v

def RelQ (φ : Phi) : V → Value → Prop
  | .agg cs, v => ∃ l, v = .agg l ∧ All2 (RelC φ) cs l.toList
  | x, v => RelC φ x v

def RelV (φ : Phi) : V → Value → Prop
  | .tup vs, v => ∃ l, v = .tuple l ∧ All2 (RelQ φ) vs l.toList
  | x, v => RelQ φ x v

structure Ext (φ φ' : Phi) : Prop where
  m : ∀ b p, φ.m b = some p → φ'.m b = some p
  z : FLe φ.z φ'.z
theorem Ext.refl (φ : Phi) : Ext φ φ := ⟨fun _ _ h => h, FLe.refl _⟩
theorem RelP.ext {φ φ' : Phi} (h : Ext φ φ') {x : V} {v : Value} (r : RelP φ x v) : RelP φ' x v := by
  cases x with
  | sl b off len cap =>
    simp only [RelP] at *
    obtain ⟨p, n, h1, h2⟩ := r
    exact ⟨p, n, h.m _ _ h1, h2⟩
  | ptr b i o =>
    simp only [RelP] at *
    obtain ⟨k, n, h1, h2⟩ := r
    exact ⟨k, n, h.m _ _ h1, h2⟩
  | _ => simp only [RelP] at *; exact RZ.mono h.z _ _ r

theorem RelC.ext {φ φ' : Phi} (h : Ext φ φ') {x : V} {v : Value} (r : RelC φ x v) : RelC φ' x v := by
  cases x with
  | fn f caps =>
    simp only [RelC] at *
    obtain ⟨l, h1, h2⟩ := r
    exact ⟨l, h1, h2.mono fun _ _ => RelP.ext h⟩
  | _ => simp only [RelC] at *; exact RelP.ext h r

theorem RelQ.ext {φ φ' : Phi} (h : Ext φ φ') {x : V} {v : Value} (r : RelQ φ x v) : RelQ φ' x v := by
  cases x with
  | agg cs =>
    simp only [RelQ] at *
    obtain ⟨l, h1, h2⟩ := r
    exact ⟨l, h1, h2.mono fun _ _ => RelC.ext h⟩
  | _ => simp only [RelQ] at *; exact RelC.ext h r

theorem RelV.ext {φ φ' : Phi} (h : Ext φ φ') {x : V} {v : Value} (r : RelV φ x v) : RelV φ' x v := by
  cases x with
  | tup cs =>
    simp only [RelV] at *
    obtain ⟨l, h1, h2⟩ := r
    exact ⟨l, h1, h2.mono fun _ _ => RelQ.ext h⟩
  | _ => simp only [RelV] at *; exact RelQ.ext h r

theorem rz_l {z : Zm} : ∀ {xs : List V} {vs : List Value}, RZl z xs vs → All2 (RZ z) xs vs
  | [], vs, r => by simp only [RZl] at r; subst r; trivial
  | x :: xs, vs, r => by
    simp only [RZl] at r
    obtain ⟨v, t, rfl, h2, h3⟩ := r
    exact ⟨h2, rz_l h3⟩
theorem rz_of_l {z : Zm} : ∀ {xs : List V} {vs : List Value}, All2 (RZ z) xs vs → RZl z xs vs
  | [], [], r => by simp only [RZl]
  | x :: xs, v :: vs, r => by simp only [RZl]; exact ⟨v, vs, rfl, r.1, rz_of_l r.2⟩
  | [], _ :: _, e => e.elim
  | _ :: _, [], e => e.elim
theorem relP_of_rz {φ : Phi} {x : V} {v : Value} (r : RZ φ.z x v) : RelP φ x v := by
  cases x <;> first | exact r | simp [RZ] at r
theorem relC_of_rz {φ : Phi} {x : V} {v : Value} (r : RZ φ.z x v) : RelC φ x v := by
  cases x with
  | fn f caps =>
    simp only [RZ] at r
    obtain ⟨l, h1, h2⟩ := r
    exact ⟨l, h1, (rz_l h2).mono fun _ _ => relP_of_rz⟩
  | _ => exact relP_of_rz r
theorem relV_of_relC {φ : Phi} {x : V} {v : Value} (r : RelC φ x v) : RelV φ x v := by
  cases x with
  | agg cs => simp [RelC, RelP, RZ] at r
  | tup cs => simp [RelC, RelP, RZ] at r
  | _ => exact r
theorem relV_of_rz {φ : Phi} {x : V} {v : Value} (r : RZ φ.z x v) : RelV φ x v := relV_of_relC (relC_of_rz r)

abbrev Tau := Nat → V
structure Cx where
  P : Program
  g : Nat → V
  rd : Option Nat := none
  ml : Bool := true
def up (d : Nat) (v : V) (τ : Tau) : Tau := fun t => if t = d then v else τ t
def upo : Option Nat → V → Tau → Tau
  | some d, v, τ => up d v τ
  | none, _, τ => τ

def RelT (φ : Phi) (τ : Tau) (a : Act) : Prop := ∀ t, RelV φ (τ t) (a.tmps.getD t undef)

theorem RelT.ext {φ φ' : Phi} (h : Ext φ φ') {τ : Tau} {a : Act} (e : RelT φ τ a) : RelT φ' τ a := fun t => (e t).ext h

theorem RelT.put {φ : Phi} {τ : Tau} {a : Act} (e : RelT φ τ a) {d : Nat} {x : V} {v : Value} (hd : d < a.tmps.size) (hv : RelV φ x v) : RelT φ (up d x τ) (a.put (some d) v) := by
  intro t
  unfold up Act.put
  by_cases h : t = d
  · subst h; simp [hd]; exact hv
  · rw [if_neg h]
    have := e t
    simp only [Array.getD_eq_getD_getElem?, Array.getElem?_setIfInBounds] at *
    rw [if_neg (fun h' => h h'.symm)]; exact this

theorem relV_any {φ : Phi} {v : Value} : RelV φ .any v := by simp [RelV, RelQ, RelC, RelP, RZ]

theorem RelT.putAny {φ : Phi} {τ : Tau} {a : Act} (e : RelT φ τ a) {d : Nat} {v : Value} : RelT φ (up d .any τ) (a.put (some d) v) := by
  intro t
  unfold up Act.put
  by_cases h : t = d
  · rw [if_pos h]; exact relV_any
  · rw [if_neg h]
    have := e t
    simp only [Array.getD_eq_getD_getElem?, Array.getElem?_setIfInBounds] at *
    rw [if_neg (fun h' => h h'.symm)]; exact this

def ofV1 : Value → V
  | .slice none 0 0 => .z
  | v => .s v
def ofV : Value → V
  | .agg cs => .agg (cs.toList.map ofV1)
  | v => ofV1 v

def ev (C : Cx) (τ : Tau) : Operand → V
  | .tmp t => τ t
  | .const v => ofV v
  | .global g => C.g g
  | .func f => .fn f []

def RelG (C : Cx) (z : Zm) : Prop := ∀ g : Nat, RZ z (C.g g) (.pointer (some ⟨g, 0, none⟩))
theorem RelG.mono {C : Cx} {z z' : Zm} (h : FLe z z') (r : RelG C z) : RelG C z' := fun g => RZ.mono h _ _ (r g)

def constOk : Value → Bool
  | .agg cs => cs.all one
  | v => one v
def opdOk : Operand → Bool
  | .const v => constOk v
  | _ => true

theorem ofV1_rel {φ : Phi} {v : Value} (h : one v = true) : RelC φ (ofV1 v) v := by
  unfold ofV1
  split
  · simp [RelC, RelP, RZ]
  · simp [RelC, RelP, RZ, h]
theorem all2_ofV1 {φ : Phi} : ∀ {l : List Value}, l.all one = true → All2 (RelC φ) (l.map ofV1) l
  | [], _ => trivial
  | v :: l, h => by
    simp only [List.all_cons, Bool.and_eq_true] at h
    exact ⟨ofV1_rel h.1, all2_ofV1 h.2⟩

theorem ofV1_V (v : Value) : (∃ v', ofV1 v = .s v') ∨ ofV1 v = .z := by
  unfold ofV1; split
  · exact .inr rfl
  · exact .inl ⟨_, rfl⟩
theorem relV_ofV1 {φ : Phi} {v : Value} (h : one v = true) : RelV φ (ofV1 v) v := relV_of_relC (ofV1_rel h)

theorem ev_rel {C : Cx} {φ : Phi} {τ : Tau} {a : Act} (G : RelG C φ.z) (e : RelT φ τ a) (x : Operand) (hx : opdOk x = true) : RelV φ (ev C τ x) (a.eval x) := by
  cases x with
  | tmp t => exact e t
  | const v =>
    by_cases hv : ∃ cs, v = .agg cs
    · obtain ⟨cs, rfl⟩ := hv
      refine ⟨cs, rfl, all2_ofV1 ?_⟩
      simp only [opdOk, constOk] at hx
      rw [← Array.all_toList] at hx; exact hx
    · have e1 : ofV v = ofV1 v := by unfold ofV; split <;> simp_all
      have e2 : constOk v = one v := by unfold constOk; split <;> simp_all
      show RelV φ (ofV v) v
      rw [e1]; exact relV_ofV1 (by rw [← e2]; exact hx)
  | global g => exact relV_of_rz (G g)
  | func f => exact ⟨[], rfl, trivial⟩

end Go.W
/- part W2 -/
set_option linter.unusedVariables false
set_option linter.unusedSimpArgs false
namespace Go.W
open Go Go.RowKit

abbrev Fp := List Nat

mutual
/-- What a cell owns, and the blocks that it lies in. -/
def T (z : Zm) (w : World) : V → Value → Fp → Prop
  | .l n els, v, fp => (els = [] ∧ (∃ q, v = .slice q 0 0) ∧ fp = []) ∨ ∃ k c ty cap fq, v = .slice (some ⟨k, 0, none⟩) els.length cap ∧ w.heap[k]? = some (.cells c ty (0, 0)) ∧ c.size = cap * n ∧
      els.length ≤ cap ∧ els.length ≤ LIM ∧ fp = k :: fq ∧ Tss z w n els c.toList fq
  | .lp cs, v, fp => ∃ k c ty fq, v = .pointer (some ⟨k, 0, none⟩) ∧ w.heap[k]? = some (.cells c ty (0, 0)) ∧ c.size = cs.length ∧ fp = k :: fq ∧ Ts z w cs c.toList fq
  | .s a, v, fp => RZ z (.s a) v ∧ fp = []
  | .any, v, fp => fp = []
  | .z, v, fp => RZ z .z v ∧ fp = []
  | .f n els, v, fp => RZ z (.f n els) v ∧ fp = []
  | .pd cs, v, fp => RZ z (.pd cs) v ∧ fp = []
  | .fn f caps, v, fp => RZ z (.fn f caps) v ∧ fp = []
  | _, _, _ => False
def Ts (z : Zm) (w : World) : List V → List Value → Fp → Prop
  | [], vs, fp => fp = []
  | x :: xs, vs, fp => ∃ v r f1 f2, vs = v :: r ∧ fp = f1 ++ f2 ∧ T z w x v f1 ∧ Ts z w xs r f2
def Tss (z : Zm) (w : World) (n : Nat) : List (List V) → List Value → Fp → Prop
  | [], vs, fp => fp = []
  | el :: els, vs, fp => el.length = n ∧ ∃ f1 f2, fp = f1 ++ f2 ∧ Ts z w el vs f1 ∧ Tss z w n els (vs.drop n) f2
end
mutual
theorem T.mono {z z' : Zm} {w w' : World} (h : FLe z z') : ∀ (x : V) (v : Value) (fp : Fp), (∀ k ∈ fp, w'.heap[k]? = w.heap[k]?) → T z w x v fp → T z' w' x v fp
  | .l n els, v, fp, hw, r => by
    simp only [T] at *
    rcases r with r | ⟨k, c, ty, cap, fq, h1, h2, h3, h4, h5, rfl, h7⟩
    · exact .inl r
    · exact .inr ⟨k, c, ty, cap, fq, h1, by rw [hw k (by simp)]; exact h2, h3, h4, h5, rfl, Tss.mono h n els _ fq (fun j hj => hw j (by simp [hj])) h7⟩
  | .lp cs, v, fp, hw, r => by
    simp only [T] at *
    obtain ⟨k, c, ty, fq, h1, h2, h3, rfl, h5⟩ := r
    exact ⟨k, c, ty, fq, h1, by rw [hw k (by simp)]; exact h2, h3, rfl, Ts.mono h cs _ fq (fun j hj => hw j (by simp [hj])) h5⟩
  | .s a, v, fp, hw, r => by simp only [T] at *; exact ⟨RZ.mono h _ _ r.1, r.2⟩
  | .any, v, fp, hw, r => by simp only [T] at *; exact r
  | .z, v, fp, hw, r => by simp only [T] at *; exact ⟨RZ.mono h _ _ r.1, r.2⟩
  | .f n els, v, fp, hw, r => by simp only [T] at *; exact ⟨RZ.mono h _ _ r.1, r.2⟩
  | .pd cs, v, fp, hw, r => by simp only [T] at *; exact ⟨RZ.mono h _ _ r.1, r.2⟩
  | .fn f caps, v, fp, hw, r => by simp only [T] at *; exact ⟨RZ.mono h _ _ r.1, r.2⟩
  | .sl _ _ _ _, v, fp, hw, r => by simp [T] at r
  | .ptr _ _ _, v, fp, hw, r => by simp [T] at r
  | .agg _, v, fp, hw, r => by simp [T] at r
  | .tup _, v, fp, hw, r => by simp [T] at r
theorem Ts.mono {z z' : Zm} {w w' : World} (h : FLe z z') : ∀ (xs : List V) (vs : List Value) (fp : Fp), (∀ k ∈ fp, w'.heap[k]? = w.heap[k]?) → Ts z w xs vs fp → Ts z' w' xs vs fp
  | [], vs, fp, hw, r => by simp only [Ts] at *; exact r
  | x :: xs, vs, fp, hw, r => by
    simp only [Ts] at *
    obtain ⟨v, t, f1, f2, rfl, rfl, h3, h4⟩ := r
    exact ⟨v, t, f1, f2, rfl, rfl, T.mono h x v f1 (fun j hj => hw j (by simp [hj])) h3, Ts.mono h xs t f2 (fun j hj => hw j (by simp [hj])) h4⟩
theorem Tss.mono {z z' : Zm} {w w' : World} (h : FLe z z') (n : Nat) : ∀ (els : List (List V)) (vs : List Value) (fp : Fp), (∀ k ∈ fp, w'.heap[k]? = w.heap[k]?) → Tss z w n els vs fp → Tss z' w' n els vs fp
  | [], vs, fp, hw, r => by simp only [Tss] at *; exact r
  | el :: els, vs, fp, hw, r => by
    simp only [Tss] at *
    obtain ⟨h0, f1, f2, rfl, h3, h4⟩ := r
    exact ⟨h0, f1, f2, rfl, Ts.mono h el vs f1 (fun j hj => hw j (by simp [hj])) h3, Tss.mono h n els _ f2 (fun j hj => hw j (by simp [hj])) h4⟩
end
def CellB (w : World) (k : Nat) : Prop := ∃ c ty q, w.heap[k]? = some (.cells c ty q)
mutual
theorem T.cells {z : Zm} {w : World} : ∀ (x : V) (v : Value) (fp : Fp), T z w x v fp → ∀ k ∈ fp, CellB w k
  | .l n els, v, fp, r => by
    simp only [T] at r
    rcases r with ⟨-, -, rfl⟩ | ⟨k, c, ty, cap, fq, h1, h2, h3, h4, h5, rfl, h7⟩
    · intro k hk; cases hk
    · intro j hj
      rcases List.mem_cons.1 hj with rfl | hj
      · exact ⟨_, _, _, h2⟩
      · exact Tss.cells n els _ fq h7 j hj
  | .lp cs, v, fp, r => by
    simp only [T] at r
    obtain ⟨k, c, ty, fq, h1, h2, h3, rfl, h5⟩ := r
    intro j hj
    rcases List.mem_cons.1 hj with rfl | hj
    · exact ⟨_, _, _, h2⟩
    · exact Ts.cells cs _ fq h5 j hj
  | .s a, v, fp, r => by simp only [T] at r; obtain ⟨-, rfl⟩ := r; intro k hk; cases hk
  | .any, v, fp, r => by simp only [T] at r; subst r; intro k hk; cases hk
  | .z, v, fp, r => by simp only [T] at r; obtain ⟨-, rfl⟩ := r; intro k hk; cases hk
  | .f n els, v, fp, r => by simp only [T] at r; obtain ⟨-, rfl⟩ := r; intro k hk; cases hk
  | .pd cs, v, fp, r => by simp only [T] at r; obtain ⟨-, rfl⟩ := r; intro k hk; cases hk
  | .fn f caps, v, fp, r => by simp only [T] at r; obtain ⟨-, rfl⟩ := r; intro k hk; cases hk
  | .sl _ _ _ _, v, fp, r => by simp [T] at r
  | .ptr _ _ _, v, fp, r => by simp [T] at r
  | .agg _, v, fp, r => by simp [T] at r
  | .tup _, v, fp, r => by simp [T] at r
theorem Ts.cells {z : Zm} {w : World} : ∀ (xs : List V) (vs : List Value) (fp : Fp), Ts z w xs vs fp → ∀ k ∈ fp, CellB w k
  | [], vs, fp, r => by simp only [Ts] at r; subst r; intro k hk; cases hk
  | x :: xs, vs, fp, r => by
    simp only [Ts] at r
    obtain ⟨v, t, f1, f2, rfl, rfl, h3, h4⟩ := r
    intro j hj
    rcases List.mem_append.1 hj with hj | hj
    · exact T.cells x v f1 h3 j hj
    · exact Ts.cells xs t f2 h4 j hj
theorem Tss.cells {z : Zm} {w : World} (n : Nat) : ∀ (els : List (List V)) (vs : List Value) (fp : Fp), Tss z w n els vs fp → ∀ k ∈ fp, CellB w k
  | [], vs, fp, r => by simp only [Tss] at r; subst r; intro k hk; cases hk
  | el :: els, vs, fp, r => by
    simp only [Tss] at r
    obtain ⟨h0, f1, f2, rfl, h3, h4⟩ := r
    intro j hj
    rcases List.mem_append.1 hj with hj | hj
    · exact Ts.cells el vs f1 h3 j hj
    · exact Tss.cells n els _ f2 h4 j hj
end
section
variable (R : V → Value → Fp → Prop)
def Ls : List V → List Value → Fp → Prop
  | [], vs, fp => fp = []
  | x :: xs, vs, fp => ∃ v r f1 f2, vs = v :: r ∧ fp = f1 ++ f2 ∧ R x v f1 ∧ Ls xs r f2
def Lss (n : Nat) : List (List V) → List Value → Fp → Prop
  | [], vs, fp => fp = []
  | el :: els, vs, fp => el.length = n ∧ ∃ f1 f2, fp = f1 ++ f2 ∧ Ls R el vs f1 ∧ Lss n els (vs.drop n) f2
end

theorem ts_ls {z : Zm} {w : World} : ∀ {xs : List V} {vs : List Value} {fp : Fp}, Ts z w xs vs fp ↔ Ls (T z w) xs vs fp
  | [], vs, fp => by simp only [Ts, Ls]
  | x :: xs, vs, fp => by simp only [Ts, Ls, ts_ls (xs := xs)]
theorem tss_lss {z : Zm} {w : World} {n : Nat} : ∀ {els : List (List V)} {vs : List Value} {fp : Fp}, Tss z w n els vs fp ↔ Lss (T z w) n els vs fp
  | [], vs, fp => by simp only [Tss, Lss]
  | x :: xs, vs, fp => by simp only [Tss, Lss, ts_ls, tss_lss (els := xs)]

section
variable {R R' : V → Value → Fp → Prop}
theorem Ls.mono : ∀ {xs : List V} {vs : List Value} {fp : Fp}, (∀ x v f, (∀ k ∈ f, k ∈ fp) → R x v f → R' x v f) → Ls R xs vs fp → Ls R' xs vs fp
  | [], vs, fp, _, h => by simp only [Ls] at *; exact h
  | x :: xs, vs, fp, hr, h => by
    simp only [Ls] at *
    obtain ⟨v, r, f1, f2, rfl, rfl, h3, h4⟩ := h
    exact ⟨v, r, f1, f2, rfl, rfl, hr x v f1 (fun k hk => by simp [hk]) h3, Ls.mono (fun x v f hf => hr x v f fun k hk => by simp [hf k hk]) h4⟩
theorem Lss.mono {n : Nat} : ∀ {els : List (List V)} {vs : List Value} {fp : Fp}, (∀ x v f, (∀ k ∈ f, k ∈ fp) → R x v f → R' x v f) → Lss R n els vs fp → Lss R' n els vs fp
  | [], vs, fp, _, h => by simp only [Lss] at *; exact h
  | x :: xs, vs, fp, hr, h => by
    simp only [Lss] at *
    obtain ⟨h0, f1, f2, rfl, h3, h4⟩ := h
    exact ⟨h0, f1, f2, rfl, Ls.mono (fun x v f hf => hr x v f fun k hk => by simp [hf k hk]) h3, Lss.mono (fun x v f hf => hr x v f fun k hk => by simp [hf k hk]) h4⟩
theorem Ls.pre : ∀ {xs : List V} {vs vs' : List Value} {fp : Fp}, (∀ j, j < xs.length → vs'[j]? = vs[j]?) → Ls R xs vs fp → Ls R xs vs' fp
  | [], vs, vs', fp, _, h => by simp only [Ls] at *; exact h
  | x :: xs, vs, vs', fp, hr, h => by
    simp only [Ls] at *
    obtain ⟨v, r, f1, f2, rfl, rfl, h3, h4⟩ := h
    have h0 := hr 0 (by simp)
    cases vs' with
    | nil => simp at h0
    | cons v' r' =>
      simp at h0; subst h0
      exact ⟨v', r', f1, f2, rfl, rfl, h3, Ls.pre (fun j hj => by have := hr (j + 1) (by simpa using hj); simpa using this) h4⟩
theorem Lss.pre {n : Nat} : ∀ {els : List (List V)} {vs vs' : List Value} {fp : Fp}, (∀ j, j < els.length * n → vs'[j]? = vs[j]?) → Lss R n els vs fp → Lss R n els vs' fp
  | [], vs, vs', fp, _, h => by simp only [Lss] at *; exact h
  | x :: xs, vs, vs', fp, hr, h => by
    simp only [Lss] at *
    obtain ⟨h0, f1, f2, rfl, h3, h4⟩ := h
    refine ⟨h0, f1, f2, rfl, Ls.pre (fun j hj => hr j ?_) h3, Lss.pre (fun j hj => ?_) h4⟩
    · rw [List.length_cons, Nat.succ_mul]; omega
    · rw [List.getElem?_drop, List.getElem?_drop]; exact hr (n + j) (by rw [List.length_cons, Nat.succ_mul]; omega)
theorem Ls.nth : ∀ {xs : List V} {vs : List Value} {fp : Fp} {j : Nat} {x : V}, Ls R xs vs fp → xs[j]? = some x → ∃ v f, vs[j]? = some v ∧ R x v f ∧ ∀ k ∈ f, k ∈ fp
  | [], _, _, j, x, _, h => by simp at h
  | y :: ys, vs, fp, 0, x, r, h => by
    simp at h; subst h; simp only [Ls] at r
    obtain ⟨v, t, f1, f2, rfl, rfl, h3, h4⟩ := r
    exact ⟨v, f1, rfl, h3, fun k hk => by simp [hk]⟩
  | y :: ys, vs, fp, j + 1, x, r, h => by
    simp only [Ls] at r
    obtain ⟨v, t, f1, f2, rfl, rfl, h3, h4⟩ := r
    obtain ⟨u, f, e1, e2, e3⟩ := Ls.nth h4 (by simpa using h)
    exact ⟨u, f, by simpa using e1, e2, fun k hk => by simp [e3 k hk]⟩
theorem Lss.nth {n : Nat} : ∀ {els : List (List V)} {vs : List Value} {fp : Fp} {i : Nat} {el : List V}, Lss R n els vs fp → els[i]? = some el → el.length = n ∧ ∃ f, Ls R el (vs.drop (i * n)) f ∧ ∀ k ∈ f, k ∈ fp
  | [], _, _, j, x, _, h => by simp at h
  | y :: ys, vs, fp, 0, x, r, h => by
    simp at h; subst h; simp only [Lss] at r
    obtain ⟨h0, f1, f2, rfl, h3, h4⟩ := r
    exact ⟨h0, f1, by simpa using h3, fun k hk => by simp [hk]⟩
  | y :: ys, vs, fp, j + 1, x, r, h => by
    simp only [Lss] at r
    obtain ⟨h0, f1, f2, rfl, h3, h4⟩ := r
    obtain ⟨e1, f, e2, e3⟩ := Lss.nth h4 (by simpa using h)
    exact ⟨e1, f, by rw [List.drop_drop] at e2; rw [show (j + 1) * n = n + j * n by rw [Nat.succ_mul]; omega]; exact e2, fun k hk => by simp [e3 k hk]⟩
theorem Ls.each {Pk : Nat → Prop} (hR : ∀ x v f, R x v f → ∀ k ∈ f, Pk k) : ∀ {xs : List V} {vs : List Value} {fp : Fp}, Ls R xs vs fp → ∀ k ∈ fp, Pk k
  | [], vs, fp, h => by simp only [Ls] at h; subst h; intro k hk; cases hk
  | x :: xs, vs, fp, h => by
    simp only [Ls] at h
    obtain ⟨v, r, f1, f2, rfl, rfl, h3, h4⟩ := h
    intro j hj
    rcases List.mem_append.1 hj with hj | hj
    · exact hR _ _ _ h3 j hj
    · exact Ls.each hR h4 j hj
theorem Lss.each {Pk : Nat → Prop} (hR : ∀ x v f, R x v f → ∀ k ∈ f, Pk k) {n : Nat} : ∀ {els : List (List V)} {vs : List Value} {fp : Fp}, Lss R n els vs fp → ∀ k ∈ fp, Pk k
  | [], vs, fp, h => by simp only [Lss] at h; subst h; intro k hk; cases hk
  | x :: xs, vs, fp, h => by
    simp only [Lss] at h
    obtain ⟨h0, f1, f2, rfl, h3, h4⟩ := h
    intro j hj
    rcases List.mem_append.1 hj with hj | hj
    · exact Ls.each hR h3 j hj
    · exact Lss.each hR h4 j hj
theorem Lss.cell {n : Nat} {els : List (List V)} {vs : List Value} {fp : Fp} {i o : Nat} {el : List V} {x : V} (h : Lss R n els vs fp) (h1 : els[i]? = some el) (h2 : el[o]? = some x) :
    ∃ v f, vs[i * n + o]? = some v ∧ R x v f ∧ ∀ k ∈ f, k ∈ fp := by
  obtain ⟨e1, f, e2, e3⟩ := h.nth h1
  obtain ⟨v, g, e4, e5, e6⟩ := e2.nth h2
  exact ⟨v, g, by rw [List.getElem?_drop] at e4; exact e4, e5, fun k hk => e3 k (e6 k hk)⟩

theorem Ls.set : ∀ {xs : List V} {vs : List Value} {fp : Fp} {j : Nat}, Ls R xs vs fp → j < xs.length →
    ∃ f1 f f2 x v, fp = f1 ++ f ++ f2 ∧ xs[j]? = some x ∧ vs[j]? = some v ∧ R x v f ∧ ∀ (R' : V → Value → Fp → Prop), (∀ x v f, (∀ k ∈ f, k ∈ fp) → R x v f → R' x v f) → ∀ x' v' g, R' x' v' g → Ls R' (xs.set j x') (vs.set j v') (f1 ++ g ++ f2)
  | [], _, _, j, _, h => by simp at h
  | y :: ys, vs, fp, 0, r, h => by
    simp only [Ls] at r
    obtain ⟨v, t, f1, f2, rfl, rfl, h3, h4⟩ := r
    refine ⟨[], f1, f2, y, v, by simp, rfl, rfl, h3, fun R' hR x' v' g hg => ?_⟩
    simp only [List.set_cons_zero, Ls]
    exact ⟨v', t, g, f2, rfl, by simp, hg, h4.mono fun x v f hf => hR x v f fun k hk => by simp [hf k hk]⟩
  | y :: ys, vs, fp, j + 1, r, h => by
    simp only [Ls] at r
    obtain ⟨v, t, f1, f2, rfl, rfl, h3, h4⟩ := r
    obtain ⟨g1, f, g2, x, u, rfl, e3, e4, e5, e6⟩ := Ls.set h4 (by simpa using h)
    refine ⟨f1 ++ g1, f, g2, x, u, by simp, by simpa using e3, by simpa using e4, e5, fun R' hR x' v' g hg => ?_⟩
    simp only [List.set_cons_succ, Ls]
    exact ⟨v, _, f1, _, rfl, by simp, hR _ _ _ (fun k hk => by simp [hk]) h3, e6 R' (fun x v f hf => hR x v f fun k hk => List.mem_append_right _ (hf k hk)) x' v' g hg⟩

theorem Ls.len : ∀ {xs : List V} {vs : List Value} {fp : Fp}, Ls R xs vs fp → xs.length ≤ vs.length
  | [], _, _, _ => by simp
  | x :: xs, vs, fp, h => by
    simp only [Ls] at h
    obtain ⟨v, r, f1, f2, rfl, rfl, h3, h4⟩ := h
    have := h4.len
    simp; omega
theorem Lss.len {n : Nat} : ∀ {els : List (List V)} {vs : List Value} {fp : Fp}, Lss R n els vs fp → els.length * n ≤ vs.length
  | [], _, _, _ => by simp
  | x :: xs, vs, fp, h => by
    simp only [Lss] at h
    obtain ⟨h0, f1, f2, rfl, h3, h4⟩ := h
    have := h4.len
    have := h3.len
    simp [Nat.succ_mul] at *
    omega

theorem Lss.set {n : Nat} : ∀ {els : List (List V)} {vs : List Value} {fp : Fp} {i o : Nat} {el : List V}, Lss R n els vs fp → els[i]? = some el → o < el.length →
    ∃ f1 f f2 x v, fp = f1 ++ f ++ f2 ∧ el[o]? = some x ∧ vs[i * n + o]? = some v ∧ R x v f ∧ ∀ (R' : V → Value → Fp → Prop), (∀ x v f, (∀ k ∈ f, k ∈ fp) → R x v f → R' x v f) → ∀ x' v' g, R' x' v' g → Lss R' n (els.set i (el.set o x')) (vs.set (i * n + o) v') (f1 ++ g ++ f2)
  | [], _, _, i, o, el, _, h, _ => by simp at h
  | y :: ys, vs, fp, 0, o, el, r, h, ho => by
    simp at h; subst h
    simp only [Lss] at r
    obtain ⟨h0, f1, f2, rfl, h3, h4⟩ := r
    obtain ⟨g1, f, g2, x, u, rfl, e3, e4, e5, e6⟩ := h3.set ho
    refine ⟨g1, f, g2 ++ f2, x, u, by simp, e3, by simpa using e4, e5, fun R' hR x' v' g hg => ?_⟩
    simp only [List.set_cons_zero, Lss]
    refine ⟨by simpa using h0, g1 ++ g ++ g2, f2, by simp, by simpa using e6 R' (fun x v f hf => hR x v f fun k hk => List.mem_append_left _ (hf k hk)) x' v' g hg, ?_⟩
    have : (vs.set (0 * n + o) v').drop n = vs.drop n := by
      rw [List.drop_set_of_lt (by omega)]
    rw [this]; exact h4.mono fun x v f hf => hR x v f fun k hk => List.mem_append_right _ (hf k hk)
  | y :: ys, vs, fp, i + 1, o, el, r, h, ho => by
    simp only [Lss] at r
    obtain ⟨h0, f1, f2, rfl, h3, h4⟩ := r
    obtain ⟨g1, f, g2, x, u, rfl, e3, e4, e5, e6⟩ := Lss.set h4 (by simpa using h) ho
    have hi : (i + 1) * n + o = n + (i * n + o) := by rw [Nat.succ_mul]; omega
    refine ⟨f1 ++ g1, f, g2, x, u, by simp, e3, by rw [List.getElem?_drop] at e4; rw [hi]; exact e4, e5, fun R' hR x' v' g hg => ?_⟩
    simp only [List.set_cons_succ, Lss]
    refine ⟨h0, f1, g1 ++ g ++ g2, by simp, Ls.pre (fun j hj => ?_) (h3.mono fun x v f hf => hR x v f fun k hk => List.mem_append_left _ (hf k hk)), ?_⟩
    · rw [hi, List.getElem?_set_ne (by omega)]
    · rw [hi]
      have : (vs.set (n + (i * n + o)) v').drop n = (vs.drop n).set (i * n + o) v' := by
        rw [List.drop_set, if_neg (by omega), Nat.add_sub_cancel_left]
      rw [this]
      have h6 := e6 R' (fun x v f hf => hR x v f fun k hk => List.mem_append_right _ (hf k hk)) x' v' g hg
      exact h6

theorem Lss.append {n : Nat} : ∀ {xs ys : List (List V)} {vs us : List Value} {fp fq : Fp}, Lss R n xs vs fp → xs.length * n = vs.length → Lss R n ys us fq → Lss R n (xs ++ ys) (vs ++ us) (fp ++ fq)
  | [], ys, vs, us, fp, fq, h, hl, h' => by
    simp only [Lss] at h; subst h
    have : vs = [] := List.eq_nil_of_length_eq_zero (by simpa using hl.symm)
    subst this
    simpa using h'
  | x :: xs, ys, vs, us, fp, fq, h, hl, h' => by
    simp only [Lss] at h
    obtain ⟨h0, f1, f2, rfl, h3, h4⟩ := h
    have hlen : n ≤ vs.length := by rw [← hl, List.length_cons, Nat.succ_mul]; omega
    simp only [List.cons_append, Lss]
    refine ⟨h0, f1, f2 ++ fq, by simp, Ls.pre (fun j hj => by rw [List.getElem?_append_left (by omega)]) h3, ?_⟩
    rw [List.drop_append_of_le_length hlen]
    exact h4.append (by rw [List.length_drop, ← hl, List.length_cons, Nat.succ_mul]; omega) h'
theorem Lss.take {n : Nat} : ∀ {xs : List (List V)} {vs : List Value} {fp : Fp} (j : Nat), Lss R n xs vs fp → ∃ f1 f2, fp = f1 ++ f2 ∧ Lss R n (xs.take j) vs f1
  | xs, vs, fp, 0, h => ⟨[], fp, by simp, by simp [Lss]⟩
  | [], vs, fp, j + 1, h => by simp only [Lss] at h; subst h; exact ⟨[], [], rfl, by simp [Lss]⟩
  | x :: xs, vs, fp, j + 1, h => by
    simp only [Lss] at h
    obtain ⟨h0, f1, f2, rfl, h3, h4⟩ := h
    obtain ⟨g1, g2, rfl, e⟩ := Lss.take j h4
    refine ⟨f1 ++ g1, g2, by simp, ?_⟩
    simp only [List.take_succ_cons, Lss]
    exact ⟨h0, f1, g1, rfl, h3, e⟩
theorem Ls.of_all2 {Q : V → Value → Prop} (hq : ∀ x v, Q x v → R x v []) : ∀ {xs : List V} {vs : List Value}, All2 Q xs vs → Ls R xs vs []
  | [], [], _ => by simp [Ls]
  | x :: xs, v :: vs, h => by simp only [Ls]; exact ⟨v, vs, [], [], rfl, rfl, hq _ _ h.1, Ls.of_all2 hq h.2⟩
  | [], _ :: _, e => e.elim
  | _ :: _, [], e => e.elim
end

end Go.W
/- part W3 -/
set_option linter.unusedVariables false
set_option linter.unusedSimpArgs false
namespace Go.W
open Go Go.RowKit

structure Blk where
  els : List (List V)
  n : Nat
  cap : Nat
  live : Bool
  deriving Inhabited
def Blk.dead : Blk := ⟨[], 0, 0, false⟩
abbrev H := List Blk

def Dc (φ : Phi) (w : World) (x : V) (v : Value) (fp : Fp) : Prop := (RelC φ x v ∧ fp = []) ∨ T φ.z w x v fp

def BlkRel (φ : Phi) (w : World) (b : Nat) (B : Blk) (fp : Fp) : Prop :=
  if B.live = true then ∃ p, φ.m b = some (p, B.n) ∧ (∀ el ∈ B.els, el.length = B.n) ∧ B.els.length ≤ LIM ∧ match p with
    | none => B.els = [] ∧ B.cap = 0 ∧ fp = []
    | some k => ∃ c ty fq, w.heap[k]? = some (.cells c ty (0, 0)) ∧ c.size = B.cap * B.n ∧ B.els.length ≤ B.cap ∧ Lss (Dc φ w) B.n B.els c.toList fq ∧ fp = k :: fq
  else fp = []

structure Kept (S : Nat → Prop) (w w' : World) : Prop where
  os : w'.os = w.os
  tape : w'.tape = w.tape
  output : w'.output = w.output
  size : w.heap.size ≤ w'.heap.size
  block : ∀ k, k < w.heap.size → ¬ S k → w'.heap[k]? = w.heap[k]?

theorem Kept.refl (S : Nat → Prop) (w : World) : Kept S w w := ⟨rfl, rfl, rfl, Nat.le_refl _, fun _ _ _ => rfl⟩
def Mine (S : Nat → Prop) (w0 : World) (k : Nat) : Prop := S k ∨ w0.heap.size ≤ k
theorem Kept.grown {S : Nat → Prop} {w0 w w' : World} {row : Option Nat} (h : Kept S w0 w) (g : w.grownBy w' row) (hr : ∀ k, row = some k → Mine S w0 k) : Kept S w0 w' :=
  ⟨g.os.trans h.os, g.tape.trans h.tape, g.output.trans h.output, Nat.le_trans h.size g.size, fun j hj hs =>
    (g.block j (Nat.lt_of_lt_of_le hj h.size) (fun e => by rcases hr j e.symm with q | q; exact hs q; omega)).trans (h.block j hj hs)⟩
theorem Kept.below {w w' : World} (h : Kept (fun _ => False) w w') : Below w.heap.size w w' := ⟨h.os, h.tape, h.output, h.size, fun k hk => h.block k hk id⟩

structure RelF (S : Nat → Prop) (w0 : World) (φ : Phi) (h : H) (w : World) (F : Nat → Fp) : Prop where
  kept : Kept S w0 w
  dom : ∀ b, h.length ≤ b → φ.m b = none
  zok : ∀ k o v, φ.z k o = some v → w.cell? ⟨k, o, none⟩ = some v
  znot : ∀ b k o, k ∈ F b → φ.z k o = none
  mine : ∀ b k, k ∈ F b → Mine S w0 k ∧ k < w.heap.size
  nodup : ∀ b, (F b).Nodup
  disj : ∀ b b' k, k ∈ F b → k ∈ F b' → b = b'
  out : ∀ b, h.length ≤ b → F b = []
  blk : ∀ b B, h[b]? = some B → BlkRel φ w b B (F b)
def Rel (S : Nat → Prop) (w0 : World) (φ : Phi) (h : H) (w : World) : Prop := ∃ F, RelF S w0 φ h w F

structure ExtN (S : Nat → Prop) (w0 : World) (n : Nat) (φ φ' : Phi) : Prop where
  m : ∀ b, b < n → φ'.m b = φ.m b
  z : FLe φ.z φ'.z
  new : ∀ k o v, φ'.z k o = some v → φ.z k o = some v ∨ Mine S w0 k
theorem ExtN.refl (S : Nat → Prop) (w0 : World) (n : Nat) (φ : Phi) : ExtN S w0 n φ φ := ⟨fun _ _ => rfl, FLe.refl _, fun _ _ _ h => .inl h⟩
theorem ExtN.trans {S : Nat → Prop} {w0 : World} {n : Nat} {a b c : Phi} (h : ExtN S w0 n a b) (h' : ExtN S w0 n b c) : ExtN S w0 n a c :=
  ⟨fun j hj => (h'.m j hj).trans (h.m j hj), h.z.trans h'.z, fun k o v e => by
    rcases h'.new k o v e with e | e
    · exact h.new k o v e
    · exact .inr e⟩
theorem ExtN.mono {S : Nat → Prop} {w0 : World} {n n' : Nat} {a b : Phi} (hn : n' ≤ n) (h : ExtN S w0 n a b) : ExtN S w0 n' a b := ⟨fun j hj => h.m j (by omega), h.z, h.new⟩
theorem RelF.ext {S : Nat → Prop} {w0 w : World} {φ φ' : Phi} {h : H} {F : Nat → Fp} (R : RelF S w0 φ h w F) (e : ExtN S w0 h.length φ φ') : Ext φ φ' :=
  ⟨fun b p hb => (by
    rcases Nat.lt_or_ge b h.length with hlt | hge
    · rw [e.m b hlt]; exact hb
    · have := R.dom b hge
      rw [this] at hb; cases hb), e.z⟩
theorem Rel.ext {S : Nat → Prop} {w0 w : World} {φ φ' : Phi} {h : H} (R : Rel S w0 φ h w) (e : ExtN S w0 h.length φ φ') : Ext φ φ' := R.elim fun _ R => R.ext e

section
variable {S : Nat → Prop} {w0 w w' : World} {φ φ' : Phi} {h : H} {F : Nat → Fp}

theorem Dc.mono {x : V} {v : Value} {fp : Fp} (he : Ext φ φ') (hw : ∀ k ∈ fp, w'.heap[k]? = w.heap[k]?) (d : Dc φ w x v fp) : Dc φ' w' x v fp := by
  rcases d with ⟨d, rfl⟩ | d
  · exact .inl ⟨d.ext he, rfl⟩
  · exact .inr (T.mono he.z x v fp hw d)
theorem Dc.leaf {x : V} {v : Value} (r : RelC φ x v) : Dc φ w x v [] := .inl ⟨r, rfl⟩

theorem BlkRel.keep {b : Nat} {B : Blk} {fp : Fp} (r : BlkRel φ w b B fp) (he : Ext φ φ') (hw : ∀ k ∈ fp, w'.heap[k]? = w.heap[k]?) : BlkRel φ' w' b B fp := by
  unfold BlkRel at *
  split
  · rename_i hl
    rw [if_pos hl] at r
    obtain ⟨p, h1, h2, h3, h4⟩ := r
    refine ⟨p, he.m _ _ h1, h2, h3, ?_⟩
    cases p with
    | none => exact h4
    | some k =>
      obtain ⟨c, ty, fq, q1, q2, q3, q4, rfl⟩ := h4
      exact ⟨c, ty, fq, by rw [hw k (by simp)]; exact q1, q2, q3, q4.mono fun x v f hf d => d.mono he fun j hj => hw j (by simp [hf j hj]), rfl⟩
  · rename_i hl
    rw [if_neg hl] at r; exact r

theorem RelF.grow (R : RelF S w0 φ h w F) (g : w.grownBy w' none) : RelF S w0 φ h w' F :=
  ⟨R.kept.grown g (fun k e => by cases e), R.dom, fun k o v e => by
    have := R.zok k o v e
    rw [World.cell?_of_block (g.block k (World.block_lt_of_cell? _ _ this) (by simp))]; exact this,
   R.znot, fun b k hk => ⟨(R.mine b k hk).1, Nat.lt_of_lt_of_le (R.mine b k hk).2 g.size⟩, R.nodup, R.disj, R.out,
   fun b B hb => (R.blk b B hb).keep (Ext.refl φ) fun k hk => g.block k (R.mine b k hk).2 (by simp)⟩
theorem Rel.grow (R : Rel S w0 φ h w) (g : w.grownBy w' none) : Rel S w0 φ h w' := R.elim fun F R => ⟨F, R.grow g⟩

theorem Dc.cells {x : V} {v : Value} {fp : Fp} (d : Dc φ w x v fp) : ∀ k ∈ fp, CellB w k := by
  rcases d with ⟨-, rfl⟩ | d
  · intro k hk; cases hk
  · exact T.cells _ _ _ d
theorem BlkRel.cells {b : Nat} {B : Blk} {fp : Fp} (r : BlkRel φ w b B fp) : ∀ k ∈ fp, CellB w k := by
  unfold BlkRel at r
  split at r
  · obtain ⟨p, h1, h2, h3, h4⟩ := r
    cases p with
    | none => obtain ⟨-, -, rfl⟩ := h4; intro k hk; cases hk
    | some k =>
      obtain ⟨c, ty, fq, q1, q2, q3, q4, rfl⟩ := h4
      intro j hj
      rcases List.mem_cons.1 hj with rfl | hj
      · exact ⟨_, _, _, q1⟩
      · exact Lss.each (fun x v f d => Dc.cells d) q4 j hj
  · subst r; intro k hk; cases hk
theorem Rel.base (R : Rel S w0 φ h w) : ∃ S1 : Nat → Prop, (∀ k, S1 k → CellB w k ∧ Mine S w0 k) ∧ Rel S1 w φ h w ∧
    (∀ φ' h' w', Rel S1 w φ' h' w' → Rel S w0 φ' h' w') ∧ (∀ n φ1 φ', ExtN S1 w n φ1 φ' → ExtN S w0 n φ1 φ') := by
  obtain ⟨F, R⟩ := R
  have hS : ∀ k, (∃ b, k ∈ F b) → CellB w k ∧ Mine S w0 k := fun k ⟨b, hk⟩ => by
    refine ⟨?_, (R.mine b k hk).1⟩
    rcases Nat.lt_or_ge b h.length with hlt | hge
    · exact (R.blk b h[b] (List.getElem?_eq_getElem hlt)).cells k hk
    · rw [R.out b hge] at hk; cases hk
  have hM : ∀ k, Mine (fun k => ∃ b, k ∈ F b) w k → Mine S w0 k := fun k hk => by
    rcases hk with hk | hk
    · exact (hS k hk).2
    · exact .inr (Nat.le_trans R.kept.size hk)
  refine ⟨fun k => ∃ b, k ∈ F b, hS, ⟨F, Kept.refl _ _, R.dom, R.zok, R.znot, fun b k hk => ⟨.inl ⟨b, hk⟩, (R.mine b k hk).2⟩, R.nodup, R.disj, R.out, R.blk⟩, fun φ' h' w' ⟨F', R'⟩ => ?_, fun n φ1 φ' E => ⟨E.m, E.z, fun k o v e => (E.new k o v e).imp id (hM k)⟩⟩
  have k1 := R'.kept
  exact ⟨F', ⟨k1.os.trans R.kept.os, k1.tape.trans R.kept.tape, k1.output.trans R.kept.output, Nat.le_trans R.kept.size k1.size, fun j hj hs => by
    rw [k1.block j (Nat.lt_of_lt_of_le hj R.kept.size) fun hq => ?_]
    · exact R.kept.block j hj hs
    · rcases (hS j hq).2 with q | q
      · exact hs q
      · omega⟩, R'.dom, R'.zok, R'.znot, fun b k hk => ⟨hM k (R'.mine b k hk).1, (R'.mine b k hk).2⟩, R'.nodup, R'.disj, R'.out, R'.blk⟩
theorem Rel.other {w' : World} {r : Nat} (R : Rel S w0 φ h w) (g : w.grownBy w' (some r)) (hr : w0.heap.size ≤ r) (hc : ¬ CellB w r) : Rel S w0 φ h w' := by
  obtain ⟨F, R⟩ := R
  have hF : ∀ b k, k ∈ F b → k ≠ r := fun b k hk e => by
    subst e
    rcases Nat.lt_or_ge b h.length with hlt | hge
    · exact hc ((R.blk b h[b] (List.getElem?_eq_getElem hlt)).cells k hk)
    · rw [R.out b hge] at hk; cases hk
  exact ⟨F, R.kept.grown g (fun k e => by cases e; exact .inr hr), R.dom, fun k o v e => by
    have := R.zok k o v e
    have hk : k ≠ r := fun e => by
      subst e
      apply hc
      unfold World.cell? at this
      cases ho : w.heap[k]? with
      | none => simp [ho] at this
      | some ob => cases ob <;> first | exact ⟨_, _, _, ho⟩ | simp [ho] at this
    rw [World.cell?_of_block (g.block k (World.block_lt_of_cell? _ _ this) (by simpa using hk))]; exact this,
   R.znot, fun b k hk => ⟨(R.mine b k hk).1, Nat.lt_of_lt_of_le (R.mine b k hk).2 g.size⟩, R.nodup, R.disj, R.out,
   fun b B hb => (R.blk b B hb).keep (Ext.refl φ) fun k hk => g.block k (R.mine b k hk).2 (by simpa using hF b k hk)⟩

theorem RelF.step {h' : H} {bo b0 : Nat} {B0 : Blk} {fp0 : Fp} (R : RelF S w0 φ h w F) (he : Ext φ φ') (hz : φ'.z = φ.z) (hk : Kept S w0 w') (hsz : w.heap.size ≤ w'.heap.size)
    (hlen : b0 < h'.length) (hlen2 : h.length ≤ h'.length)
    (hdom : ∀ b, h'.length ≤ b → φ'.m b = none) (hsame : ∀ k, k < w.heap.size → k ∉ F bo → w'.heap[k]? = w.heap[k]?)
    (hbo : b0 = bo ∨ h.length ≤ b0) (hget0 : h'[b0]? = some B0) (hgeto : bo ≠ b0 → ∀ B, h'[bo]? = some B → B.live = false) (hget : ∀ b, b ≠ b0 → b ≠ bo → h'[b]? = h[b]?)
    (hfp : ∀ k ∈ fp0, k ∈ F bo ∨ w.heap.size ≤ k) (hlt : ∀ k ∈ fp0, k < w'.heap.size) (hnd : fp0.Nodup) (hB : BlkRel φ' w' b0 B0 fp0) :
    RelF S w0 φ' h' w' (fun b => if b = b0 then fp0 else if b = bo then [] else F b) := by
  have hmine : ∀ k ∈ fp0, Mine S w0 k := fun k hk' => by
    rcases hfp k hk' with q | q
    · exact (R.mine bo k q).1
    · exact .inr (Nat.le_trans R.kept.size q)
  have hzlt : ∀ k o v, φ.z k o = some v → k < w.heap.size := fun k o v e => World.block_lt_of_cell? _ _ (R.zok k o v e)
  have key : ∀ b k, b ≠ b0 → b ≠ bo → k ∈ F b → k ∉ fp0 ∧ k ∉ F bo ∧ k < w.heap.size := fun b k h1 h2 hkb => by
    have hl := (R.mine b k hkb).2
    have hno : k ∉ F bo := fun q => h2 (R.disj b bo k hkb q)
    exact ⟨fun q => by rcases hfp k q with q | q; exact hno q; omega, hno, hl⟩
  refine ⟨hk, hdom, fun k o v e => ?_, fun b k o hkb => ?_, fun b k hkb => ?_, fun b => ?_, fun b b' k h1 h2 => ?_, fun b hb => ?_, fun b B hb => ?_⟩
  · rw [hz] at e
    have := R.zok k o v e
    rw [World.cell?_of_block (hsame k (hzlt k o v e) (fun q => by rw [R.znot bo k o q] at e; cases e))]; exact this
  · rw [hz]
    by_cases e : b = b0
    · simp only [e, if_true] at hkb
      rcases hfp k hkb with q | q
      · exact R.znot bo k o q
      · cases hzk : φ.z k o with
        | none => rfl
        | some v => have := hzlt k o v hzk; omega
    · by_cases e2 : b = bo
      · simp only [e2] at hkb e; simp [e] at hkb
      · simp only [e, e2, if_false] at hkb; exact R.znot b k o hkb
  · by_cases e : b = b0
    · simp only [e, if_true] at hkb; exact ⟨hmine k hkb, hlt k hkb⟩
    · by_cases e2 : b = bo
      · simp only [e2] at hkb e; simp [e] at hkb
      · simp only [e, e2, if_false] at hkb; exact ⟨(R.mine b k hkb).1, Nat.lt_of_lt_of_le (R.mine b k hkb).2 hsz⟩
  · by_cases e : b = b0
    · simp only [e, if_true]; exact hnd
    · by_cases e2 : b = bo
      · simp only [e2] at e; simp [e, e2]
      · simp only [e, e2, if_false]; exact R.nodup b
  · by_cases e : b = b0
    · simp only [e, if_true] at h1
      by_cases e' : b' = b0
      · rw [e, e']
      · by_cases e2 : b' = bo
        · simp only [e2] at e' h2; simp [e'] at h2
        · simp only [e', e2, if_false] at h2; exact absurd h1 (key b' k e' e2 h2).1
    · by_cases e2 : b = bo
      · simp only [e2] at e h1; simp [e] at h1
      · simp only [e, e2, if_false] at h1
        by_cases e' : b' = b0
        · simp only [e', if_true] at h2; exact absurd h2 (key b k e e2 h1).1
        · by_cases e3 : b' = bo
          · simp only [e3] at e' h2; simp [e'] at h2
          · simp only [e', e3, if_false] at h2; exact R.disj b b' k h1 h2
  · have h1 : b ≠ b0 := by omega
    simp only [h1, if_false]
    split
    · rfl
    · exact R.out b (by omega)
  · by_cases e : b = b0
    · subst e
      rw [hget0] at hb; obtain rfl := Option.some.inj hb
      simp only [if_true]; exact hB
    · by_cases e2 : b = bo
      · subst e2
        have hd := hgeto e B hb
        simp only [e, if_false, if_true]
        unfold BlkRel; rw [if_neg (by simp [hd])]
      · rw [hget b e e2] at hb
        simp only [e, e2, if_false]
        exact (R.blk b B hb).keep he fun k hkb => hsame k (key b k e e2 hkb).2.2 (key b k e e2 hkb).2.1

def phiPush (φ : Phi) (n : Nat) (p : Option Nat × Nat) : Phi := ⟨fun b => if b = n then some p else φ.m b, φ.z⟩
theorem phiPush_ext {n : Nat} {p : Option Nat × Nat} (hn : φ.m n = none) : Ext φ (phiPush φ n p) :=
  ⟨fun b q hq => by
    unfold phiPush
    by_cases e : b = n
    · subst e; rw [hn] at hq; cases hq
    · simp only [e, if_false]; exact hq, FLe.refl _⟩
theorem phiPush_new {n : Nat} {p : Option Nat × Nat} : (phiPush φ n p).m n = some p := by simp [phiPush]
theorem phiPush_old {n b : Nat} {p : Option Nat × Nat} (hb : b ≠ n) : (phiPush φ n p).m b = φ.m b := by simp [phiPush, hb]
theorem phiPush_extN {n m : Nat} {p : Option Nat × Nat} (hm : m ≤ n) : ExtN S w0 m φ (phiPush φ n p) :=
  ⟨fun b hb => phiPush_old (by omega), FLe.refl _, fun _ _ _ e => .inl e⟩

theorem RelF.alloc (R : RelF S w0 φ h w F) (g : w.grownBy w' none) {j : Nat} (hj : w.heap.size ≤ j) {c : Array Value} {ty : TypeId} {els : List (List V)} {n cap : Nat}
    (hc : w'.heap[j]? = some (.cells c ty (0, 0))) (hcap : c.size = cap * n) (hle : els.length ≤ cap) (hlim : els.length ≤ LIM) (hn : ∀ el ∈ els, el.length = n) (hx : Lss (Dc φ w) n els c.toList []) :
    Rel S w0 (phiPush φ h.length (some j, n)) (h ++ [⟨els, n, cap, true⟩]) w' := by
  have he : Ext φ (phiPush φ h.length (some j, n)) := phiPush_ext (R.dom _ (Nat.le_refl _))
  refine ⟨_, R.step (bo := h.length) (b0 := h.length) (B0 := ⟨els, n, cap, true⟩) (fp0 := [j]) he rfl (R.kept.grown g fun k e => by cases e) g.size (by simp) (by simp) ?_ ?_ (.inl rfl) (by simp)
    (fun q => absurd rfl q) ?_ ?_ ?_ (by simp) ?_⟩
  · intro b hb
    simp at hb
    rw [phiPush_old (by omega)]; exact R.dom b (by omega)
  · exact fun k hk _ => g.block k hk (by simp)
  · intro b hb _
    rcases Nat.lt_or_ge b h.length with q | q
    · rw [List.getElem?_append_left q]
    · rw [List.getElem?_eq_none (by simp; omega), List.getElem?_eq_none (by omega)]
  · intro k hk; simp at hk; subst hk; exact .inr hj
  · intro k hk; simp at hk; subst hk; exact (Array.getElem?_eq_some_iff.1 hc).1
  · unfold BlkRel
    rw [if_pos rfl]
    exact ⟨some j, phiPush_new, hn, hlim, c, ty, [], hc, hcap, hle, hx.mono fun x v f hf d => d.mono he fun k hk => by simpa using hf k hk, rfl⟩

theorem RelF.allocNil (R : RelF S w0 φ h w F) (n : Nat) : Rel S w0 (phiPush φ h.length (none, n)) (h ++ [⟨[], n, 0, true⟩]) w := by
  have he : Ext φ (phiPush φ h.length (none, n)) := phiPush_ext (R.dom _ (Nat.le_refl _))
  refine ⟨_, R.step (w' := w) (bo := h.length) (b0 := h.length) (B0 := ⟨[], n, 0, true⟩) (fp0 := []) he rfl R.kept (Nat.le_refl _) (by simp) (by simp) ?_ (fun _ _ _ => rfl) (.inl rfl) (by simp)
    (fun q => absurd rfl q) ?_ (by simp) (by simp) (by simp) ?_⟩
  · intro b hb
    simp at hb
    rw [phiPush_old (by omega)]; exact R.dom b (by omega)
  · intro b hb _
    rcases Nat.lt_or_ge b h.length with q | q
    · rw [List.getElem?_append_left q]
    · rw [List.getElem?_eq_none (by simp; omega), List.getElem?_eq_none (by omega)]
  · unfold BlkRel
    rw [if_pos rfl]
    exact ⟨none, phiPush_new, by simp, by simp, rfl, rfl, rfl⟩

theorem RelF.place (R : RelF S w0 φ h w F) {b : Nat} {B : Blk} (hb : h[b]? = some B) (hl : B.live = true) : ∃ p, φ.m b = some (p, B.n) ∧ (∀ el ∈ B.els, el.length = B.n) ∧ B.els.length ≤ LIM ∧ match p with
    | none => B.els = [] ∧ B.cap = 0 ∧ F b = []
    | some k => ∃ c ty fq, w.heap[k]? = some (.cells c ty (0, 0)) ∧ c.size = B.cap * B.n ∧ B.els.length ≤ B.cap ∧ Lss (Dc φ w) B.n B.els c.toList fq ∧ F b = k :: fq := by
  have := R.blk b B hb
  unfold BlkRel at this
  rw [if_pos hl] at this; exact this

theorem RelF.write (R : RelF S w0 φ h w F) {b k : Nat} {B B' : Blk} {c' : Array Value} {ty : TypeId} {fq fq' : Fp} (hb : h[b]? = some B) (hl : B.live = true) (hk : φ.m b = some (some k, B.n))
    (hF : F b = k :: fq) (g : w.grownBy w' (some k)) (hl' : B'.live = true) (hn' : B'.n = B.n) (hc : w'.heap[k]? = some (.cells c' ty (0, 0))) (hcap : c'.size = B'.cap * B'.n) (hle : B'.els.length ≤ B'.cap) (hlim : B'.els.length ≤ LIM)
    (hn : ∀ el ∈ B'.els, el.length = B'.n) (hsub : fq'.Sublist fq) (hx : Lss (Dc φ w) B'.n B'.els c'.toList fq') : Rel S w0 φ (h.set b B') w' := by
  have hblt : b < h.length := (List.getElem?_eq_some_iff.1 hb).1
  have hnd := R.nodup b
  rw [hF] at hnd
  have hknot : k ∉ fq := (List.nodup_cons.1 hnd).1
  have hm : Mine S w0 k := (R.mine b k (by rw [hF]; simp)).1
  refine ⟨_, R.step (bo := b) (b0 := b) (B0 := B') (fp0 := k :: fq') (Ext.refl φ) rfl (R.kept.grown g fun j e => by cases e; exact hm) g.size (by simpa using hblt) (by simp) ?_ ?_ (.inl rfl) (by simp [hblt])
    (fun q => absurd rfl q) ?_ ?_ ?_ ?_ ?_⟩
  · intro j hj; exact R.dom j (by simpa using hj)
  · intro j hj hne
    exact g.block j hj (fun e => hne (by cases e; rw [hF]; simp))
  · intro j hj _
    rw [List.getElem?_set_ne (Ne.symm hj)]
  · intro j hj
    refine .inl ?_
    rw [hF]
    rcases List.mem_cons.1 hj with rfl | hj
    · simp
    · exact List.mem_cons_of_mem _ (hsub.subset hj)
  · intro j hj
    have : j ∈ F b := by
      rw [hF]
      rcases List.mem_cons.1 hj with rfl | hj
      · simp
      · exact List.mem_cons_of_mem _ (hsub.subset hj)
    exact Nat.lt_of_lt_of_le (R.mine b j this).2 g.size
  · exact List.nodup_cons.2 ⟨fun q => hknot (hsub.subset q), (List.nodup_cons.1 hnd).2.sublist hsub⟩
  · unfold BlkRel
    rw [if_pos hl']
    refine ⟨some k, by rw [hn']; exact hk, hn, hlim, c', ty, fq', hc, hcap, hle, hx.mono fun x v f hf d => d.mono (Ext.refl φ) fun j hj => ?_, rfl⟩
    have hj' : j ∈ fq := hsub.subset (hf j hj)
    have : j ∈ F b := by rw [hF]; exact List.mem_cons_of_mem _ hj'
    exact g.block j (R.mine b j this).2 (fun e => hknot (by cases e; exact hj'))

theorem RelF.move (R : RelF S w0 φ h w F) {b k : Nat} {B B' : Blk} {c' : Array Value} {ty : TypeId} {fq' : Fp} (hb : h[b]? = some B)
    (hsame : ∀ j, j < w.heap.size → j ∉ F b → w'.heap[j]? = w.heap[j]?) (hkept : Kept S w0 w') (hsz : w.heap.size ≤ w'.heap.size)
    (hl' : B'.live = true) (hc : w'.heap[k]? = some (.cells c' ty (0, 0))) (hcap : c'.size = B'.cap * B'.n) (hle : B'.els.length ≤ B'.cap) (hlim : B'.els.length ≤ LIM)
    (hn : ∀ el ∈ B'.els, el.length = B'.n) (hk : k ∈ F b ∨ w.heap.size ≤ k) (hsub : ∀ j ∈ fq', j ∈ F b) (hnd : (k :: fq').Nodup) (hx : Lss (Dc φ w') B'.n B'.els c'.toList fq') :
    Rel S w0 (phiPush φ h.length (some k, B'.n)) (h.set b Blk.dead ++ [B']) w' := by
  have hblt : b < h.length := (List.getElem?_eq_some_iff.1 hb).1
  have he : Ext φ (phiPush φ h.length (some k, B'.n)) := phiPush_ext (R.dom _ (Nat.le_refl _))
  refine ⟨_, R.step (bo := b) (b0 := h.length) (B0 := B') (fp0 := k :: fq') he rfl hkept hsz (by simp) (by simp) ?_ hsame (.inr (Nat.le_refl _)) (by simp) ?_ ?_ ?_ ?_ hnd ?_⟩
  · intro j hj
    simp at hj
    rw [phiPush_old (by omega)]; exact R.dom j (by omega)
  · intro _ C hC
    rw [List.getElem?_append_left (by simpa using hblt)] at hC
    simp [hblt] at hC; subst hC; rfl
  · intro j h1 h2
    rcases Nat.lt_or_ge j h.length with q | q
    · rw [List.getElem?_append_left (by simpa using q), List.getElem?_set_ne (Ne.symm h2)]
    · rw [List.getElem?_eq_none (by simp; omega), List.getElem?_eq_none (by omega)]
  · intro j hj
    rcases List.mem_cons.1 hj with rfl | hj
    · exact hk
    · exact .inl (hsub j hj)
  · intro j hj
    rcases List.mem_cons.1 hj with rfl | hj
    · exact (Array.getElem?_eq_some_iff.1 hc).1
    · exact Nat.lt_of_lt_of_le (R.mine b j (hsub j hj)).2 hsz
  · unfold BlkRel
    rw [if_pos hl']
    exact ⟨some k, phiPush_new, hn, hlim, c', ty, fq', hc, hcap, hle, hx.mono fun x v f hf d => d.mono he fun _ _ => rfl, rfl⟩

end
end Go.W
/- part W4 -/
set_option linter.unusedVariables false
set_option linter.unusedSimpArgs false
namespace Go.W
open Go Go.RowKit

inductive XV where
  | normal
  | exit (id : Nat)
  | ret
  | pan (v : V)
inductive Res where
  | ret (v : V)
  | pan (v : V)

def XRel (φ : Phi) : XV → Exit → Prop
  | .normal, e => e = .normal
  | .exit id, e => e = .exit id
  | .ret, e => e = .ret
  | .pan x, e => ∃ v, e = .panic [{ v, recovered := false }] ∧ RelV φ x v
def ResRel (φ : Phi) : Res → Ending → Prop
  | .ret x, e => ∃ v, e = .returned v ∧ RelV φ x v
  | .pan x, e => ∃ v, e = .panicked [{ v, recovered := false }] ∧ RelV φ x v

abbrev QT := XV → Tau → H → Prop

def Cx.fc (C : Cx) : Fence := { Fence.wide with round := C.rd }
theorem Cx.fc_wide {C : Cx} (h : C.rd = none) : C.fc = Fence.wide := by
  obtain ⟨P, g, rd⟩ := C
  simp only at h; subst h; rfl
theorem callsIn_fc {C : Cx} {n f : Nat} {vs : Array Value} {w : World} {R : Ending → World → Prop} : CallsIn C.fc n C.P f vs w R ↔ Calls C.P f vs w R := callsIn_wide (n := n)

def Cx.wpV (C : Cx) (c : Code) (Q : Exit → Act → World → Prop) (a : Act) (w : World) : Prop :=
  ∀ (b : Frame) (k : List Item) (cs : List Frame), b.roundOf = C.rd → b.kind = b.kind → (C.P.funcs[b.fn]?).isSome = true →
    ∃ e a' w', Q e a' w' ∧ ArrivesIn (Machine.fenced C.P C.fc) C.P (lone (b.atR a (.code c :: k)) cs w) b k cs e a' w'
theorem Cx.fenced (C : Cx) (m : Machine) : m.fenced C.P C.fc := fenced_wide C.P m
section
variable {C : Cx} {c x y : Code} {Q Q' : Exit → Act → World → Prop} {a : Act} {w : World}
theorem wpV_of (h : c.wpIn C.fc 0 C.P Q a w) : C.wpV c Q a w := fun b k cs h1 _ _ => h b k cs h1 trivial (fun d hd => by cases hd)
theorem wpV_mono (h : C.wpV c Q a w) (hq : ∀ e a w, Q e a w → Q' e a w) : C.wpV c Q' a w :=
  fun b k cs h1 h2 h3 => let ⟨e, a', w', q, r⟩ := h b k cs h1 h2 h3; ⟨e, a', w', hq _ _ _ q, r⟩
theorem wpV_seq (h : C.wpV x (Exit.then (C.wpV y Q) Q) a w) : C.wpV (.seq x y) Q a w := by
  intro b k cs h1 h2 h3
  obtain ⟨e, a₁, w₁, hq, harr⟩ := h b (.code y :: k) cs h1 h2 h3
  have one : StepsIn (Machine.fenced C.P C.fc) C.P (lone (b.atR a (.code (.seq x y) :: k)) cs w) (lone (b.atR a (.code x :: .code y :: k)) cs w) := .one (C.fenced _) stepR_seq
  cases e with
  | normal =>
    obtain ⟨e₂, a₂, w₂, hq₂, harr₂⟩ := hq b k cs h1 h2 h3
    exact ⟨e₂, a₂, w₂, hq₂, .of_steps (one.trans harr) harr₂⟩
  | exit id => exact ⟨_, a₁, w₁, hq, .of_steps one (.pass (x := .code y) rfl (fun _ _ => .inl (by simp)) harr)⟩
  | goto l => exact ⟨_, a₁, w₁, hq, .of_steps one (.pass (x := .code y) rfl (fun _ _ => .inl (by simp)) harr)⟩
  | ret => exact ⟨_, a₁, w₁, hq, .of_steps one (.pass (x := .code y) rfl (fun _ _ => .inl (by simp)) harr)⟩
  | panic ch => exact ⟨_, a₁, w₁, hq, .of_steps one (.pass (x := .code y) rfl (fun _ _ => .inl (by simp)) harr)⟩
  | outgrown => exact ⟨_, a₁, w₁, hq, .of_steps one (.pass (x := .code y) rfl (fun _ _ => .inl (by simp)) harr)⟩
theorem wpV_cond {o : Operand} {t : Bool} (hc : a.eval o = .bool t) (h : C.wpV (if t then x else y) Q a w) : C.wpV (.cond o x y) Q a w :=
  fun b k cs h1 h2 h3 => let ⟨e, a', w', q, r⟩ := h b k cs h1 h2 h3; ⟨e, a', w', q, .of_steps (.one (C.fenced _) (stepR_cond hc)) r⟩
theorem wpV_block {id : Nat} (h : C.wpV c (Exit.inBlock id Q) a w) : C.wpV (.block id c) Q a w := by
  intro b k cs h1 h2 h3
  obtain ⟨e, a₁, w₁, hq, harr⟩ := h b (.inBlock id :: k) cs h1 h2 h3
  have one : StepsIn (Machine.fenced C.P C.fc) C.P (lone (b.atR a (.code (.block id c) :: k)) cs w) (lone (b.atR a (.code c :: .inBlock id :: k)) cs w) := .one (C.fenced _) stepR_block
  cases e with
  | normal => exact ⟨.normal, a₁, w₁, hq, one.trans (StepsIn.trans harr (.one (C.fenced _) stepR_inBlock))⟩
  | exit id' =>
    by_cases hid : id' = id
    · simp only [Exit.inBlock, hid, if_true] at hq
      exact ⟨.normal, a₁, w₁, hq, one.trans (harr.1 k (by simp [exitTo, hid]))⟩
    · simp only [Exit.inBlock, hid, if_false] at hq
      have hx : exitTo id' (.inBlock id :: k) = exitTo id' k := by
        have : (id == id') = false := by simp; exact fun h => hid h.symm
        simp [exitTo, this]
      exact ⟨.exit id', a₁, w₁, hq, fun k' hk => one.trans (harr.1 k' (by rw [hx]; exact hk)), fun hr hk => let ⟨k₁, q1, q2⟩ := harr.2 hr (by rw [hx]; exact hk); ⟨k₁, q1, one.trans q2⟩⟩
  | goto l =>
    have hx : gotoIn l (.inBlock id :: k) = gotoIn l k := by simp [gotoIn]
    exact ⟨_, a₁, w₁, hq, fun k' hk => one.trans (harr.1 k' (by rw [hx]; exact hk)), fun hr hk => let ⟨k₁, q1, q2⟩ := harr.2 hr (by rw [hx]; exact hk); ⟨k₁, q1, one.trans q2⟩⟩
  | ret => exact ⟨_, a₁, w₁, hq, .of_steps one harr⟩
  | panic ch => exact ⟨_, a₁, w₁, hq, .of_steps one harr⟩
  | outgrown => exact ⟨_, a₁, w₁, hq, .of_steps (b := b) (k := k) (cs := cs) (e := .outgrown) one harr⟩
end

def Marks (w0 : World) (ms : List Deferred) (w : World) : Prop := ms.Nodup ∧ ∀ d ∈ ms, ∃ r, d = { target := .collected r, args := #[] } ∧ w0.heap.size ≤ r ∧ w.heap[r]? = some (.deferred (some []))
def Dfs (w0 : World) (ds : Bool × List Deferred) (a : Act) (w : World) : Prop := ∃ ms, a.defers = ms ++ ds.2 ∧ Marks w0 ms w ∧ (ds.1 = false → ms = [])
theorem Dfs.refl {w0 w : World} {a : Act} {b : Bool} : Dfs w0 (b, a.defers) a w := ⟨[], rfl, ⟨List.nodup_nil, by simp⟩, fun _ => rfl⟩
theorem Dfs.cast {w0 w : World} {a a' : Act} {ds : Bool × List Deferred} (e : a'.defers = a.defers) (d : Dfs w0 ds a w) : Dfs w0 ds a' w := by
  obtain ⟨ms, h1, h2⟩ := d; exact ⟨ms, e.trans h1, h2⟩

def Post (N n0 : Nat) (S : Nat → Prop) (w0 : World) (φ0 : Phi) (ds : Bool × List Deferred) (Q : QT) : Exit → Act → World → Prop := fun e a w =>
  ∃ x τ h φ, XRel φ x e ∧ Rel S w0 φ h w ∧ ExtN S w0 n0 φ0 φ ∧ n0 ≤ h.length ∧ RelT φ τ a ∧ a.tmps.size = N ∧ Dfs w0 ds a w ∧ Q x τ h

theorem Post.mono {N n0 : Nat} {S : Nat → Prop} {w0 : World} {φ0 φ1 : Phi} {ds : Bool × List Deferred} {Q Q' : QT} (he : ExtN S w0 n0 φ0 φ1) (hq : ∀ x τ h, Q x τ h → Q' x τ h) {e : Exit} {a : Act} {w : World}
    (p : Post N n0 S w0 φ1 ds Q e a w) : Post N n0 S w0 φ0 ds Q' e a w := by
  obtain ⟨x, τ, h, φ, p1, p2, p3, p4, p5, p6, p7, p8⟩ := p
  exact ⟨x, τ, h, φ, p1, p2, he.trans p3, p4, p5, p6, p7, hq _ _ _ p8⟩

theorem Dfs.later {S S1 : Nat → Prop} {w0 w w' : World} {b : Bool} {ds : List Deferred} {a a' : Act} (h : Kept S w0 w) (h' : Kept S1 w w') (hS : ∀ k, S1 k → CellB w k) (d : Dfs w0 (b, ds) a w) (d' : Dfs w (b, a.defers) a' w') : Dfs w0 (b, ds) a' w' := by
  obtain ⟨ms, e1, ⟨n1, m1⟩, z1⟩ := d
  obtain ⟨ms', e2, ⟨n2, m2⟩, z2⟩ := d'
  have lt : ∀ {r o}, w.heap[r]? = some o → r < w.heap.size := fun h => (Array.getElem?_eq_some_iff.1 h).1
  refine ⟨ms' ++ ms, by rw [e2, e1, List.append_assoc], ⟨List.nodup_append.2 ⟨n2, n1, fun x hx y hy e => ?_⟩, fun d hd => ?_⟩, fun hb => by rw [z1 hb, z2 hb]; rfl⟩
  · subst e
    obtain ⟨r, q1, q2, q3⟩ := m2 x hx
    obtain ⟨r', q4, q5, q6⟩ := m1 x hy
    rw [q1] at q4
    injection q4 with q4 _
    injection q4 with q4
    subst q4
    have := lt q6
    omega
  · rcases List.mem_append.1 hd with hd | hd
    · obtain ⟨r, q1, q2, q3⟩ := m2 d hd
      exact ⟨r, q1, Nat.le_trans h.size q2, q3⟩
    · obtain ⟨r, q1, q2, q3⟩ := m1 d hd
      refine ⟨r, q1, q2, ?_⟩
      rw [h'.block r (lt q3) fun hs => ?_]
      · exact q3
      · obtain ⟨c, ty, q, hc⟩ := hS r hs
        rw [q3] at hc; cases hc
theorem Rel.kept {S : Nat → Prop} {w0 w : World} {φ : Phi} {h : H} (R : Rel S w0 φ h w) : Kept S w0 w := R.elim fun _ R => R.kept
theorem Post.rebase {N n0 : Nat} {S S1 : Nat → Prop} {w0 w' w'' : World} {φ φ' : Phi} {h' : H} {mk : Bool} {ds : List Deferred} {Q : QT} {e : Exit} {a' a'' : Act} (R : Rel S w0 φ' h' w') (E : ExtN S w0 n0 φ φ') (d : Dfs w0 (mk, ds) a' w')
    (hS : ∀ k, S1 k → CellB w' k ∧ Mine S w0 k) (b1 : ∀ φ1 h1 w1, Rel S1 w' φ1 h1 w1 → Rel S w0 φ1 h1 w1) (b2 : ∀ n φ1 φ2, ExtN S1 w' n φ1 φ2 → ExtN S w0 n φ1 φ2)
    (p : Post N n0 S1 w' φ' (mk, a'.defers) Q e a'' w'') : Post N n0 S w0 φ (mk, ds) Q e a'' w'' := by
  obtain ⟨x, τ, h, φ2, p1, p2, p3, p4, p5, p6, p7, p8⟩ := p
  exact ⟨x, τ, h, φ2, p1, b1 _ _ _ p2, E.trans (b2 _ _ _ p3), p4, p5, p6, d.later R.kept p2.kept (fun k hk => (hS k hk).1) p7, p8⟩

def WC (C : Cx) (N n0 : Nat) (c : Code) (Q : QT) (τ : Tau) (h : H) : Prop :=
  ∀ S w0 φ a w, RelG C φ.z → Rel S w0 φ h w → n0 ≤ h.length → RelT φ τ a → a.tmps.size = N → C.wpV c (Post N n0 S w0 φ (C.ml, a.defers) Q) a w
def WO (C : Cx) (N n0 : Nat) (all os : List Oper) (Q : QT) (τ : Tau) (h : H) : Prop :=
  ∀ S w0 φ a w, RelG C φ.z → Rel S w0 φ h w → n0 ≤ h.length → RelT φ τ a → a.tmps.size = N → wpListIn C.fc 0 C.P all.toArray (Post N n0 S w0 φ (C.ml, a.defers) Q) os a w

def enters (P : Program) (f : Nat) : Bool := match P.funcs[f]? with
  | some fn => fn.name != "runtime.NumGoroutine" && fn.body.isSome
  | none => false
def CallG (P : Program) (f : Nat) (vs : Array Value) (w : World) (R : Ending → World → Prop) : Prop :=
  (enters P f = true ∧ Calls P f vs w R) ∨ ∃ v w', (callFunc f vs).run P w = .ok (.value v) w' ∧ R (.returned v) w'
theorem CallG.mono {P : Program} {f : Nat} {vs : Array Value} {w : World} {R R' : Ending → World → Prop} (h : CallG P f vs w R) (hr : ∀ e w, R e w → R' e w) : CallG P f vs w R' := by
  rcases h with ⟨h1, h2⟩ | ⟨v, w', h1, h2⟩
  · exact .inl ⟨h1, h2.mono hr⟩
  · exact .inr ⟨v, w', h1, hr _ _ h2⟩

def CallsV (C : Cx) (f : Nat) (args : List V) (h : H) (R : Res → H → Prop) : Prop :=
  ∀ S w0 φ (vs : Array Value) w, RelG C φ.z → Rel S w0 φ h w → All2 (RelV φ) args vs.toList →
    CallG C.P f vs w fun e w' => ∃ r φ' h', ResRel φ' r e ∧ Rel S w0 φ' h' w' ∧ ExtN S w0 h.length φ φ' ∧ h.length ≤ h'.length ∧ R r h'

theorem CallsV.mono {C : Cx} {f : Nat} {args : List V} {h : H} {R R' : Res → H → Prop} (c : CallsV C f args h R) (hr : ∀ r h', R r h' → R' r h') : CallsV C f args h R' :=
  fun S w0 φ vs w r0 r1 r2 => (c S w0 φ vs w r0 r1 r2).mono fun e w' ⟨r, φ', h', p1, p2, p3, p4, p5⟩ => ⟨r, φ', h', p1, p2, p3, p4, hr _ _ p5⟩

inductive It where
  | code (c : Code)
  | ops (all os : List Oper)
  | blk (id : Nat)

def SemK (C : Cx) (N n0 : Nat) (Q : QT) : List It → QT
  | [], x, τ, h => Q x τ h
  | .code c :: k, .normal, τ, h => WC C N n0 c (SemK C N n0 Q k) τ h
  | .ops all os :: k, .normal, τ, h => WO C N n0 all os (SemK C N n0 Q k) τ h
  | .blk id :: k, .exit id', τ, h => if id' = id then SemK C N n0 Q k .normal τ h else SemK C N n0 Q k (.exit id') τ h
  | _ :: k, x, τ, h => SemK C N n0 Q k x τ h

section
variable {C : Cx} {N n0 : Nat} {Q Q' : QT} {τ τ' : Tau} {h h' : H}

theorem WC.mono {c : Code} (hc : WC C N n0 c Q τ h) (hq : ∀ x τ h, Q x τ h → Q' x τ h) : WC C N n0 c Q' τ h :=
  fun S w0 φ a w r0 r1 r2 r3 r4 => wpV_mono (hc S w0 φ a w r0 r1 r2 r3 r4) fun _ _ _ p => p.mono (ExtN.refl ..) hq

theorem WC.seq {x y : Code} (hc : WC C N n0 x (fun e τ h => match e with | .normal => WC C N n0 y Q τ h | e => Q e τ h) τ h) : WC C N n0 (.seq x y) Q τ h := by
  intro S w0 φ a w r0 r1 r2 r3 r4
  refine wpV_seq (wpV_mono (hc S w0 φ a w r0 r1 r2 r3 r4) ?_)
  rintro e a' w' ⟨x', τ', h', φ', p1, p2, p3, p4, p5, p6, p7, p8⟩
  cases x' with
  | normal =>
    simp only [XRel] at p1; subst p1
    show C.wpV y _ a' w'
    obtain ⟨S1, hS, R1, b1, b2⟩ := p2.base
    exact wpV_mono (p8 S1 w' φ' a' w' (r0.mono p3.z) R1 p4 p5 p6) fun e a w p => p.rebase p2 p3 p7 hS b1 b2
  | exit id => simp only [XRel] at p1; subst p1; exact ⟨.exit id, τ', h', φ', rfl, p2, p3, p4, p5, p6, p7, p8⟩
  | ret => simp only [XRel] at p1; subst p1; exact ⟨.ret, τ', h', φ', rfl, p2, p3, p4, p5, p6, p7, p8⟩
  | pan v => obtain ⟨u, rfl, q⟩ := p1; exact ⟨.pan v, τ', h', φ', ⟨u, rfl, q⟩, p2, p3, p4, p5, p6, p7, p8⟩

theorem WC.block {id : Nat} {c : Code}
    (hc : WC C N n0 c (fun e τ h => match e with | .exit id' => if id' = id then Q .normal τ h else Q (.exit id') τ h | e => Q e τ h) τ h) : WC C N n0 (.block id c) Q τ h := by
  intro S w0 φ a w r0 r1 r2 r3 r4
  refine wpV_block (wpV_mono (hc S w0 φ a w r0 r1 r2 r3 r4) ?_)
  rintro e a' w' ⟨x', τ', h', φ', p1, p2, p3, p4, p5, p6, p7, p8⟩
  cases x' with
  | normal => simp only [XRel] at p1; subst p1; exact ⟨.normal, τ', h', φ', rfl, p2, p3, p4, p5, p6, p7, p8⟩
  | exit id' =>
    simp only [XRel] at p1; subst p1
    show if id' = id then _ else _
    by_cases e : id' = id
    · simp only [e, if_true] at p8 ⊢; exact ⟨.normal, τ', h', φ', rfl, p2, p3, p4, p5, p6, p7, p8⟩
    · simp only [e, if_false] at p8 ⊢; exact ⟨.exit id', τ', h', φ', rfl, p2, p3, p4, p5, p6, p7, p8⟩
  | ret => simp only [XRel] at p1; subst p1; exact ⟨.ret, τ', h', φ', rfl, p2, p3, p4, p5, p6, p7, p8⟩
  | pan v => obtain ⟨u, rfl, q⟩ := p1; exact ⟨.pan v, τ', h', φ', ⟨u, rfl, q⟩, p2, p3, p4, p5, p6, p7, p8⟩

theorem relV_bool {φ : Phi} {b : Bool} {v : Value} (r : RelV φ (.s (.bool b)) v) : v = .bool b := by
  simp only [RelV, RelQ, RelC, RelP, RZ] at r; exact r.1

theorem WC.cond {c : Operand} {x y : Code} {b : Bool} (ho : opdOk c = true) (hb : ev C τ c = .s (.bool b))
    (h1 : b = true → WC C N n0 x Q τ h) (h2 : b = false → WC C N n0 y Q τ h) : WC C N n0 (.cond c x y) Q τ h := by
  intro S w0 φ a w r0 r1 r2 r3 r4
  have e := ev_rel r0 r3 c ho
  rw [hb] at e
  have e := relV_bool e
  cases b with
  | true => exact wpV_cond e (h1 rfl S w0 φ a w r0 r1 r2 r3 r4)
  | false => exact wpV_cond e (h2 rfl S w0 φ a w r0 r1 r2 r3 r4)

theorem WC.region {id : Nat} {ops : Array Oper} (ho : WO C N n0 ops.toList ops.toList Q τ h) : WC C N n0 (.region id ops false) Q τ h := by
  intro S w0 φ a w r0 r1 r2 r3 r4
  refine wpV_of (wpIn_region_list ?_)
  have := ho S w0 φ a w r0 r1 r2 r3 r4
  rwa [Array.toArray_toList] at this

def Arr (n0 : Nat) (h h' : H) (M : V → V → Prop) : Prop :=
  ∀ S w0 φ w, Rel S w0 φ h w → n0 ≤ h.length → ∃ φ', Rel S w0 φ' h' w ∧ ExtN S w0 n0 φ φ' ∧ n0 ≤ h'.length ∧ ∀ x x' v, M x x' → RelV φ x v → RelV φ' x' v

theorem Arr.refl (n0 : Nat) (h : H) : Arr n0 h h fun x x' => x' = x ∨ x' = .any :=
  fun S w0 φ w R hn => ⟨φ, R, ExtN.refl .., hn, fun x x' v hm r => by rcases hm with rfl | rfl; exact r; exact relV_any⟩
theorem Arr.trans {h'' : H} {M M' : V → V → Prop} (a : Arr n0 h h' M) (b : Arr n0 h' h'' M') : Arr n0 h h'' fun x x'' => ∃ x', M x x' ∧ M' x' x'' :=
  fun S w0 φ w R hn => by
    obtain ⟨φ', R', e', hn', m'⟩ := a S w0 φ w R hn
    obtain ⟨φ'', R'', e'', hn'', m''⟩ := b S w0 φ' w R' hn'
    exact ⟨φ'', R'', e'.trans e'', hn'', fun x x'' v ⟨x', h1, h2⟩ r => m'' _ _ _ h2 (m' _ _ _ h1 r)⟩
theorem Arr.mono {M M' : V → V → Prop} (a : Arr n0 h h' M) (hm : ∀ x x', M' x x' → M x x') : Arr n0 h h' M' :=
  fun S w0 φ w R hn => by
    obtain ⟨φ', R', e', hn', m'⟩ := a S w0 φ w R hn
    exact ⟨φ', R', e', hn', fun x x' v q r => m' x x' v (hm _ _ q) r⟩

theorem WC.arr {c : Code} {M : V → V → Prop} (a : Arr n0 h h' M) (ht : ∀ t, M (τ t) (τ' t)) (hc : WC C N n0 c Q τ' h') : WC C N n0 c Q τ h := by
  intro S w0 φ act w r0 r1 r2 r3 r4
  obtain ⟨φ', R', e', hn', m'⟩ := a S w0 φ w r1 r2
  exact wpV_mono (hc S w0 φ' act w (r0.mono e'.z) R' hn' (fun t => m' _ _ _ (ht t) (r3 t)) r4) fun _ _ _ p => p.mono e' fun _ _ _ q => q

def Goes (n0 : Nat) (K : Tau → H → Prop) (τ : Tau) (h : H) : Prop := ∃ τ' h' M, Arr n0 h h' M ∧ (∀ t, M (τ t) (τ' t)) ∧ K τ' h'
theorem Goes.refl {K : Tau → H → Prop} (hk : K τ h) : Goes n0 K τ h := ⟨τ, h, _, Arr.refl n0 h, fun _ => .inl rfl, hk⟩

theorem WC.loop {c : Code} (I : Tau → H → Prop) (μ : Tau → H → Nat) (h0 : Goes n0 I τ h)
    (hr : ∀ τ h, I τ h → WC C N n0 c (fun e τ' h' => match e with | .normal => Goes n0 (fun τ' h' => I τ' h' ∧ μ τ' h' < μ τ h) τ' h' | e => Q e τ' h') τ h) : WC C N n0 (.loop c) Q τ h := by
  intro S w0 φ a w r0 r1 r2 r3 r4 b k cs hro hb hvl
  have key : ∀ n τ h, μ τ h = n → I τ h → ∀ φ1 a1 w1, ExtN S w0 n0 φ φ1 → Rel S w0 φ1 h w1 → n0 ≤ h.length → RelT φ1 τ a1 → a1.tmps.size = N → Dfs w0 (C.ml, a.defers) a1 w1 →
      ∃ e a' w', Post N n0 S w0 φ (C.ml, a.defers) Q e a' w' ∧ ArrivesIn (Machine.fenced C.P C.fc) C.P (lone (b.atR a1 (.code c :: .inLoop c :: k)) cs w1) b k cs e a' w' := by
    intro n
    induction n using Nat.strongRecOn with
    | _ n ih =>
      intro τ h hn hI φ1 a1 w1 he q1 q5 q2 q3 q4
      obtain ⟨S1, hS, R1, b1, b2⟩ := q1.base
      obtain ⟨e, a2, w2, hq, harr⟩ := hr τ h hI S1 w1 φ1 a1 w1 (r0.mono he.z) R1 q5 q2 q3 b (.inLoop c :: k) cs hro hb hvl
      have hq := hq.rebase q1 he q4 hS b1 b2
      obtain ⟨x', τ', h', φ', p1, p2, p3, p4, p5, p6, p7, p8⟩ := hq
      cases x' with
      | normal =>
        simp only [XRel] at p1; subst p1
        obtain ⟨τ'', h'', M, ar, ht, hI', hlt⟩ := p8
        obtain ⟨φ'', R'', e'', hn'', m''⟩ := ar S w0 φ' w2 p2 p4
        obtain ⟨e₂, a₂, w₂, hq₂, harr₂⟩ := ih (μ τ'' h'') (hn ▸ hlt) τ'' h'' rfl hI' φ'' a2 w2 (p3.trans e'') R'' hn'' (fun t => m'' _ _ _ (ht t) (p5 t)) p6 p7
        exact ⟨e₂, a₂, w₂, hq₂, .of_steps (StepsIn.trans harr (.one (C.fenced _) stepR_inLoop)) harr₂⟩
      | exit id =>
        simp only [XRel] at p1; subst p1
        exact ⟨_, a2, w2, ⟨.exit id, τ', h', φ', rfl, p2, p3, p4, p5, p6, p7, p8⟩, .pass (x := .inLoop c) rfl (fun _ _ => .inl (by simp)) harr⟩
      | ret =>
        simp only [XRel] at p1; subst p1
        exact ⟨_, a2, w2, ⟨.ret, τ', h', φ', rfl, p2, p3, p4, p5, p6, p7, p8⟩, .pass (x := .inLoop c) rfl (fun _ _ => .inl (by simp)) harr⟩
      | pan v =>
        obtain ⟨u, rfl, q⟩ := p1
        exact ⟨_, a2, w2, ⟨.pan v, τ', h', φ', ⟨u, rfl, q⟩, p2, p3, p4, p5, p6, p7, p8⟩, .pass (x := .inLoop c) rfl (fun _ _ => .inl (by simp)) harr⟩
  obtain ⟨τ1, h1, M, ar, ht, hI⟩ := h0
  obtain ⟨φ1, R1, e1, hn1, m1⟩ := ar S w0 φ w r1 r2
  obtain ⟨e, a', w', hq, harr⟩ := key _ τ1 h1 rfl hI φ1 a w e1 R1 hn1 (fun t => m1 _ _ _ (ht t) (r3 t)) r4 Dfs.refl
  exact ⟨e, a', w', hq, .of_steps (.one (C.fenced _) stepR_loop) harr⟩

end
end Go.W
/- part W5 -/
set_option linter.unusedVariables false
set_option linter.unusedSimpArgs false
namespace Go.W
open Go Go.RowKit

def bitAnd (k : IntKind) (a b : Int) : Int := k.wrap (BitVec.ofInt k.bits a &&& BitVec.ofInt k.bits b).toNat
def bitOr (k : IntKind) (a b : Int) : Int := k.wrap (BitVec.ofInt k.bits a ||| BitVec.ofInt k.bits b).toNat
def bitXor (k : IntKind) (a b : Int) : Int := k.wrap (BitVec.ofInt k.bits a ^^^ BitVec.ofInt k.bits b).toNat
def bitAndNot (k : IntKind) (a b : Int) : Int := k.wrap (BitVec.ofInt k.bits a &&& ~~~BitVec.ofInt k.bits b).toNat

def tSz (P : Program) (t : TypeId) : Option Nat := (P.info? t).map (·.size)
def tBytes (P : Program) (t : TypeId) : Option Nat := (P.info? t).map (·.bytes)
def tAgg (P : Program) (t : TypeId) : Option Bool := match P.underlying t with | some (.struct _) => some true | some (.array _ _) => some true | some _ => some false | none => none
def tZ (P : Program) (t : TypeId) : Option (List V) := ((P.info? t).bind (·.zero)).bind fun z => if z.cells.toList.all one = true then some (z.cells.toList.map ofV1) else none
def tElem (P : Program) (t : TypeId) : Option TypeId := match P.underlying t with | some (.slice e) => some e | _ => none
def tArr (P : Program) (t : TypeId) : Option (Nat × TypeId) := match P.underlying t with | some (.array n e) => some (n, e) | _ => none
def tFld (P : Program) (s f : Nat) : Option (Nat × TypeId) := match P.underlying s with | some (.struct fs) => (fs[f]?).map fun x => (x.offset, x.type) | _ => none
inductive TK where
  | bool | int (k : IntKind) | string | slice (e : TypeId) | ptr | iface | func | arr (n : Nat) (e : TypeId) | other
def tK (P : Program) (t : TypeId) : TK := match P.underlying t with
  | some .bool => .bool | some (.int k) => .int k | some .string => .string | some (.slice e) => .slice e | some (.pointer _) => .ptr | some (.interface _) => .iface | some (.func ..) => .func | some (.array n e) => .arr n e | _ => .other

def rdB : Option Blk → Nat → Option (List V)
  | some ⟨els, _, _, true⟩, i => els[i]?
  | _, _ => none
def rdC : Option (List V) → Nat → Option V
  | some el, o => el[o]?
  | none, _ => none
def rdN : Option (List V) → Nat → Nat → Option (List V)
  | some el, o, n => if o + n ≤ el.length then some ((el.drop o).take n) else none
  | none, _, _ => none
def wrL {α : Type} : List α → Nat → List α → List α
  | cs, _, [] => cs
  | cs, off, x :: xs => wrL (cs.set off x) (off + 1) xs
def wrE : Option (List V) → Nat → List V → List V
  | some el, o, xs => wrL el o xs
  | none, _, xs => xs
def wrB : Option Blk → Nat → Nat → List V → Blk
  | some ⟨els, n, cap, l⟩, i, o, xs => ⟨els.set i (wrE (els[i]?) o xs), n, cap, l⟩
  | none, _, _, _ => Blk.dead
def wrH (h : H) (b i o : Nat) (xs : List V) : H := h.set b (wrB (h[b]?) i o xs)
def strideB : Option Blk → Option Nat
  | some ⟨_, n, _, true⟩ => some n
  | _ => none

def isN : Option Nat → Prop
  | some _ => True
  | none => False
def sameN : Option Nat → Option Nat → Prop
  | some a, some b => a = b
  | _, _ => False
def cellOk : V → Bool
  | .s _ => true
  | .f _ _ => true
  | .z => true
  | .sl .. => true
  | .ptr .. => true
  | .pd _ => true
  | .fn .. => true
  | _ => false
def leafs (els : List (List V)) : Bool := els.all fun el => el.all cellOk

def cellsOf : V → Option (List V)
  | .agg cs => if cs.all cellOk = true then some cs else none
  | .s v => some [.s v]
  | .f n e => some [.f n e]
  | .z => some [.z]
  | .sl b o l c => some [.sl b o l c]
  | .ptr b i o => some [.ptr b i o]
  | .pd c => some [.pd c]
  | .fn f c => some [.fn f c]
  | _ => none

def fillV (place : Nat → Option (Nat × Nat)) (cells : List V) : List (Nat × V) → Option (List V)
  | [] => some cells
  | (i, v) :: rest => match place i, cellsOf v with
    | some (off, size), some xs => if xs.length = size ∧ off + xs.length ≤ cells.length then fillV place (wrL cells off xs) rest else none
    | _, _ => none
def fldPlace (P : Program) (t : TypeId) (i : Nat) : Option (Nat × Nat) := match tFld P t i with
  | some (off, ft) => (tSz P ft).map fun n => (off, n)
  | none => none
def bldOk (P : Program) (t : TypeId) : Bool := match P.underlying t with
  | some (.struct fs) => fs.toList.all fun f => (tSz P f.type).isSome
  | _ => false
def fillE (n : Nat) (els : List (List V)) : List (Nat × V) → Option (List (List V))
  | [] => some els
  | (i, v) :: rest => match cellsOf v with
    | some xs => if xs.length = n ∧ i < els.length then fillE n (els.set i xs) rest else none
    | none => none
def partsV (C : Cx) (τ : Tau) : List (Nat × Operand) → List (Nat × V)
  | [] => []
  | p :: r => (p.1, ev C τ p.2) :: partsV C τ r
def evs (C : Cx) (τ : Tau) : List Operand → List V
  | [] => []
  | x :: r => ev C τ x :: evs C τ r

section
variable (C : Cx) (K : V → H → Prop) (h : H)

def pickV : Bool → V → V → V
  | true, x, _ => x
  | false, _, y => y
def pickK (x y : V) : V → Prop
  | .s (.bool t) => K (pickV t x y) h
  | _ => False
def allocK : Option (List V) → Prop
  | some z => K (.ptr h.length 0 0) (h ++ [⟨[z], z.length, 1, true⟩])
  | none => False
def boxK : Option (List V) → Prop
  | some cs => K (.ptr h.length 0 0) (h ++ [⟨[cs], cs.length, 1, true⟩])
  | none => False
def buildK1 : Option (List V) → Prop
  | some cs => K (.agg cs) h
  | none => False
def buildK (place : Nat → Option (Nat × Nat)) (ps : List (Nat × V)) : Bool → Option (List V) → Prop
  | true, some z => buildK1 K h (fillV place z ps)
  | _, _ => False
def bsK2 (n len : Nat) : Option (List (List V)) → Prop
  | some els => (len * n ≤ 16777216 ∧ len ≤ 16777216) ∧ K (.sl h.length 0 len len) (h ++ [⟨els, n, len, true⟩])
  | none => False
def bsK1 (len : Nat) (ps : List (Nat × V)) : Option Nat → Option (List V) → Prop
  | some n, some z => z.length = n ∧ bsK2 K h n len (fillE n (List.replicate len z) ps)
  | _, _ => False
def bsK (len : Nat) (ps : List (Nat × V)) : Option TypeId → Prop
  | some e => bsK1 K h len ps (tSz C.P e) (tZ C.P e)
  | none => False

def ldV (b i o : Nat) : Option V → Prop
  | some (.l n els) => ∀ cap, els.length ≤ cap → K (.sl h.length 0 els.length cap) (wrH h b i o [.sl h.length 0 els.length cap] ++ [⟨els, n, cap, true⟩])
  | some (.lp cs) => K (.ptr h.length 0 0) (wrH h b i o [.ptr h.length 0 0] ++ [⟨[cs], cs.length, 1, true⟩])
  | some v => K v h
  | none => False
def ldA : Option (List V) → Prop
  | some cs => cs.all cellOk = true ∧ K (.agg cs) h
  | none => False
def ldO (b i o : Nat) : List V → List V → H → Prop
  | acc, [], h => K (.agg acc) h
  | acc, .l n els :: r, h => ∀ cap, els.length ≤ cap → ldO b i o (acc ++ [.sl h.length 0 els.length cap]) r (wrH h b i (o + acc.length) [.sl h.length 0 els.length cap] ++ [⟨els, n, cap, true⟩])
  | acc, .lp cs :: r, h => ldO b i o (acc ++ [.ptr h.length 0 0]) r (wrH h b i (o + acc.length) [.ptr h.length 0 0] ++ [⟨[cs], cs.length, 1, true⟩])
  | acc, v :: r, h => cellOk v = true ∧ ldO b i o (acc ++ [v]) r h
def ldB1 (b i o : Nat) (cs : List V) : Bool → Prop
  | true => K (.agg cs) h
  | false => ldO K b i o [] cs h
def ldB (b i o : Nat) : Option (List V) → Prop
  | some cs => ldB1 K h b i o cs (cs.all cellOk)
  | none => False
def ldT (b i o : Nat) : Option Bool → Option Nat → Prop
  | some true, some n => ldB K h b i o (rdN (rdB (h[b]?) i) o n)
  | some false, _ => ldV K h b i o (rdC (rdB (h[b]?) i) o)
  | _, _ => False
def ldC : Option V → Prop
  | some v => K v h
  | none => False
def ldF (cs : List V) : Option Bool → Option Nat → Prop
  | some true, some n => ldA K h (rdN (some cs) 0 n)
  | some false, _ => ldC K h (cs[0]?)
  | _, _ => False
def ldK (t : TypeId) : V → Prop
  | .ptr b i o => ldT K h b i o (tAgg C.P t) (tSz C.P t)
  | .pd cs => ldF K h cs (tAgg C.P t) (tSz C.P t)
  | _ => False

def fitsB : Option (List V) → Nat → Nat → Prop
  | some el, o, n => o + n ≤ el.length
  | none, _, _ => False
def stA (b i o : Nat) (sz : Option Nat) : Option (List V) → Prop
  | some cs => (sz = some cs.length ∧ fitsB (rdB (h[b]?) i) o cs.length) ∧ K .any (wrH h b i o cs)
  | none => False
def stK (t : TypeId) (x : V) : V → Prop
  | .ptr b i o => stA K h b i o (tSz C.P t) (cellsOf x)
  | _ => False

def nilK : V → Prop
  | .ptr b i o => K (.ptr b i o) h
  | .pd cs => K (.pd cs) h
  | .fn f cs => K (.fn f cs) h
  | .sl b off len cap => K (.sl b off len cap) h
  | _ => False

def intB (k : IntKind) (a : Int) (k' : IntKind) (b : Int) : BinOp → Prop
  | .shr => (0 ≤ b ∧ b ≤ k.bits) ∧ K (.s (.int k (a / 2 ^ b.toNat))) h
  | .add => k = k' ∧ K (.s (.int k (k.wrap (a + b)))) h
  | .sub => k = k' ∧ K (.s (.int k (k.wrap (a - b)))) h
  | .mul => k = k' ∧ K (.s (.int k (k.wrap (a * b)))) h
  | .quo => (k = k' ∧ b ≠ 0) ∧ K (.s (.int k (k.wrap (a.tdiv b)))) h
  | .rem => (k = k' ∧ b ≠ 0) ∧ K (.s (.int k (a.tmod b))) h
  | .eql => k = k' ∧ K (.s (.bool (decide (a = b)))) h
  | .neq => k = k' ∧ K (.s (.bool (!decide (a = b)))) h
  | .lss => k = k' ∧ K (.s (.bool (decide (a < b)))) h
  | .leq => k = k' ∧ K (.s (.bool (decide (a ≤ b)))) h
  | .gtr => k = k' ∧ K (.s (.bool (decide (b < a)))) h
  | .geq => k = k' ∧ K (.s (.bool (decide (b ≤ a)))) h
  | .and => k = k' ∧ K (.s (.int k (bitAnd k a b))) h
  | .or => k = k' ∧ K (.s (.int k (bitOr k a b))) h
  | .xor => k = k' ∧ K (.s (.int k (bitXor k a b))) h
  | .andNot => k = k' ∧ K (.s (.int k (bitAndNot k a b))) h
  | .shl => (0 ≤ b ∧ b ≤ k.bits) ∧ K (.s (.int k (k.wrap (a * 2 ^ b.toNat)))) h
def strB (a b : ByteArray) : BinOp → Prop
  | .add => a.size + b.size ≤ LIM ∧ K (.s (.string (a ++ b))) h
  | .eql => K (.s (.bool (decide (a = b)))) h
  | .neq => K (.s (.bool (!decide (a = b)))) h
  | .lss => K (.s (.bool (Op.bytesLess a.toList b.toList))) h
  | .leq => K (.s (.bool (Op.bytesLess a.toList b.toList || decide (a = b)))) h
  | .gtr => K (.s (.bool (!(Op.bytesLess a.toList b.toList || decide (a = b))))) h
  | .geq => K (.s (.bool (!Op.bytesLess a.toList b.toList))) h
  | _ => False
def boolB (a b : Bool) : BinOp → Prop
  | .eql => K (.s (.bool (a == b))) h
  | .neq => K (.s (.bool (a != b))) h
  | _ => False
def nilB (len : Nat) : BinOp → Prop
  | .eql => ∀ r, (0 < len → r = false) → K (.s (.bool r)) h
  | .neq => ∀ r, (0 < len → r = true) → K (.s (.bool r)) h
  | _ => False
def isT : TK → TK → Prop
  | .bool, .bool => True
  | .slice _, .slice _ => True
  | .ptr, .ptr => True
  | .iface, .iface => True
  | .string, .string => True
  | _, _ => False
def eqB (r : Bool) : BinOp → Prop
  | .eql => K (.s (.bool r)) h
  | .neq => K (.s (.bool (!r))) h
  | _ => False
inductive NK where
  | no | slice | iface
def isNil : Operand → NK
  | .const (.slice none _ _) => .slice
  | .const .nilIface => .iface
  | _ => .no
def nilC (t : TypeId) (op : BinOp) : V → Prop
  | .sl _ _ len _ => isT (tK C.P t) (.slice 0) ∧ nilB K h len op
  | .f _ els => isT (tK C.P t) (.slice 0) ∧ nilB K h els.length op
  | .z => isT (tK C.P t) (.slice 0) ∧ nilB K h 0 op
  | _ => False
def nilI (t : TypeId) (op : BinOp) : V → Prop
  | .s .nilIface => isT (tK C.P t) .iface ∧ eqB K h true op
  | .s (.iface _ _) => isT (tK C.P t) .iface ∧ eqB K h false op
  | _ => False
def eqCells : List V → List V → Option Bool
  | [], [] => some true
  | .s (.int k a) :: xs, .s (.int k' b) :: ys => match eqCells xs ys with
    | some r => if k = k' then some (decide (a = b) && r) else none
    | none => none
  | .s (.string a) :: xs, .s (.string b) :: ys => match eqCells xs ys with
    | some r => some (decide (a = b) && r)
    | none => none
  | .s (.bool a) :: xs, .s (.bool b) :: ys => match eqCells xs ys with
    | some r => some ((a == b) && r)
    | none => none
  | _, _ => none
def eqA (op : BinOp) : Option Bool → Prop
  | some r => eqB K h r op
  | none => False
def scalarK : TK → Bool
  | .int _ => true
  | .string => true
  | .bool => true
  | _ => false
def flatFields (P : Program) : Nat → List Field → Bool
  | _, [] => true
  | i, f :: r => f.name != "_" && f.offset == i && scalarK (tK P f.type) && flatFields P (i + 1) r
def eqStruct (P : Program) (t : TypeId) : Bool := match P.underlying t with
  | some (.struct fs) => !P.stoodInHeld t && !P.eqGuardType P.depth t && flatFields P 0 fs.toList
  | _ => false
def fieldTK (P : Program) (t : TypeId) : List TK := match P.underlying t with
  | some (.struct fs) => fs.toList.map fun f => tK P f.type
  | _ => []
def kindsOk : List TK → List V → Bool
  | [], [] => true
  | .int k :: ts, .s (.int k' _) :: xs => decide (k = k') && kindsOk ts xs
  | .string :: ts, .s (.string _) :: xs => kindsOk ts xs
  | .bool :: ts, .s (.bool _) :: xs => kindsOk ts xs
  | _, _ => false
def binK (t : TypeId) (op : BinOp) : V → V → Prop
  | .s (.int k a), .s (.int k' b) => intB K h k a k' b op
  | .s (.string a), .s (.string b) => strB K h a b op
  | .s (.bool a), .s (.bool b) => isT (tK C.P t) .bool ∧ boolB K h a b op
  | .ptr _ _ _, .s (.pointer none) => isT (tK C.P t) .ptr ∧ eqB K h false op
  | .pd _, .s (.pointer none) => isT (tK C.P t) .ptr ∧ eqB K h false op
  | .s (.pointer none), .s (.pointer none) => isT (tK C.P t) .ptr ∧ eqB K h true op
  | .agg xs, .agg ys => (eqStruct C.P t = true ∧ kindsOk (fieldTK C.P t) xs = true ∧ kindsOk (fieldTK C.P t) ys = true) ∧ eqA K h op (eqCells xs ys)
  | _, _ => False
def binR (t : TypeId) (op : BinOp) (x y : V) : NK → Prop
  | .no => binK C K h t op x y
  | .slice => nilC C K h t op x
  | .iface => nilI C K h t op x
def unK : UnOp → V → Prop
  | .not, .s (.bool b) => K (.s (.bool (!b))) h
  | .neg, .s (.int k n) => K (.s (.int k (k.wrap (0 - n)))) h
  | _, _ => False

def byteOf : List V → Option UInt8
  | [.s (.int .u8 n)] => some (UInt8.ofNat n.toNat)
  | _ => none
def bytesOf : List (List V) → Option (List UInt8)
  | [] => some []
  | el :: r => match byteOf el, bytesOf r with
    | some b, some l => some (b :: l)
    | _, _ => none
def bytesIn : List (List V) → Prop
  | [] => True
  | [.s (.int .u8 n)] :: r => (0 ≤ n ∧ n < 256) ∧ bytesIn r
  | _ :: _ => False
def cvBytes : Option (List UInt8) → Prop
  | some l => K (.s (.string ⟨l.toArray⟩)) h
  | none => False
def elsOf (off len : Nat) : Option Blk → Option (List (List V))
  | some ⟨els, _, _, true⟩ => if off + len ≤ els.length then some ((els.drop off).take len) else none
  | _ => none
def cvBytes1 : Option (List (List V)) → Prop
  | some els => bytesIn els ∧ cvBytes K h (bytesOf els)
  | none => False
def cvSl (e : TK) : V → Prop
  | .f n els => (e = .int .u8 ∧ n = 1 ∧ bytesIn els) ∧ cvBytes K h (bytesOf els)
  | .z => e = .int .u8 ∧ K (.s (.string ByteArray.empty)) h
  | .sl b off len cap => (e = .int .u8 ∧ strideB (h[b]?) = some 1) ∧ cvBytes1 K h (elsOf off len (h[b]?))
  | _ => False
def cvK : TK → TK → V → Prop
  | .int _, .int k, .s (.int _ n) => K (.s (.int k (k.wrap n))) h
  | .string, .string, .s (.string s) => K (.s (.string s)) h
  | .slice e, .string, x => cvSl K h (tK C.P e) x
  | _, _, _ => False

def mkK2 (l c : Int) : Option Nat → Option (List V) → Option Nat → Prop
  | some n, some z, some by_ => (0 ≤ l ∧ l ≤ c ∧ (by_ : Int) * c ≤ 140737488355328 ∧ c ≤ 4611686018427387904 ∧ z.length = n) ∧
      K (.sl h.length 0 l.toNat c.toNat) (h ++ [⟨List.replicate c.toNat z, n, c.toNat, true⟩])
  | _, _, _ => False
def mkK (e : Option TypeId) : V → V → Prop
  | .s (.int _ l), .s (.int _ c) => match e with
    | some e => mkK2 K h l c (tSz C.P e) (tZ C.P e) (tBytes C.P e)
    | none => False
  | _, _ => False

def intOfV : V → Option Int
  | .s (.int _ n) => some n
  | _ => none
def oI : Option V → Option Int
  | some v => intOfV v
  | none => none
def cutS (s : ByteArray) (l r : Int) : Prop := (0 ≤ l ∧ l ≤ r ∧ r ≤ s.size) ∧ K (.s (.string (s.extract l.toNat r.toNat))) h
def cutF (n : Nat) (els : List (List V)) (l r : Int) : Prop := (0 ≤ l ∧ l ≤ r ∧ r ≤ els.length) ∧ K (.f n ((els.drop l.toNat).take (r.toNat - l.toNat))) h
def cutE : Option Nat → Prop
  | some n => K (.f n []) h
  | none => False
def cutO (b off cap : Nat) (n : Option Nat) (l r : Nat) : Bool → Prop
  | true => K (.sl b (off + l) (r - l) (cap - l)) h
  | false => cutE K h n
def slK (t : TK) (lo hi mx : Option V) : V → Prop
  | .s (.string s) => match t, lo, hi, mx with
    | .string, none, none, none => K (.s (.string s)) h
    | .string, some (.s (.int _ l)), none, none => cutS K h s l s.size
    | .string, none, some (.s (.int _ r)), none => cutS K h s 0 r
    | .string, some (.s (.int _ l)), some (.s (.int _ r)), none => cutS K h s l r
    | _, _, _, _ => False
  | .f n els => match t, lo, hi, mx with
    | .slice e, none, none, none => tSz C.P e = some n ∧ K (.f n els) h
    | .slice e, some (.s (.int _ l)), none, none => tSz C.P e = some n ∧ cutF K h n els l els.length
    | .slice e, none, some (.s (.int _ r)), none => tSz C.P e = some n ∧ cutF K h n els 0 r
    | .slice e, some (.s (.int _ l)), some (.s (.int _ r)), none => tSz C.P e = some n ∧ cutF K h n els l r
    | .slice e, none, some (.s (.int _ r)), some (.s (.int _ m)) => (tSz C.P e = some n ∧ r = 0 ∧ m = 0) ∧ K .z h
    | _, _, _, _ => False
  | .z => match t, lo, hi, mx with
    | .slice e, none, none, none => isN (tSz C.P e) ∧ K .z h
    | .slice e, some (.s (.int _ l)), none, none => (isN (tSz C.P e) ∧ l = 0) ∧ K .z h
    | .slice e, none, some (.s (.int _ r)), none => (isN (tSz C.P e) ∧ r = 0) ∧ K .z h
    | .slice e, some (.s (.int _ l)), some (.s (.int _ r)), none => (isN (tSz C.P e) ∧ l = 0 ∧ r = 0) ∧ K .z h
    | .slice e, none, some (.s (.int _ r)), some (.s (.int _ m)) => (isN (tSz C.P e) ∧ r = 0 ∧ m = 0) ∧ K .z h
    | _, _, _, _ => False
  | .sl b off len cap => match t, lo, hi, mx with
    | .slice e, none, none, none => sameN (strideB (h[b]?)) (tSz C.P e) ∧ K (.sl b off len cap) h
    | .slice e, some (.s (.int _ l)), none, none => (sameN (strideB (h[b]?)) (tSz C.P e) ∧ 0 ≤ l ∧ l ≤ len ∧ len ≤ cap) ∧ cutO K h b off cap (tSz C.P e) l.toNat len (decide (l < len))
    | .slice e, none, some (.s (.int _ r)), none => sameN (strideB (h[b]?)) (tSz C.P e) ∧ (0 ≤ r ∧ r ≤ cap) ∧ K (.sl b off r.toNat cap) h
    | .slice e, some (.s (.int _ l)), some (.s (.int _ r)), none => (sameN (strideB (h[b]?)) (tSz C.P e) ∧ 0 ≤ l ∧ l ≤ r ∧ r ≤ cap) ∧ cutO K h b off cap (tSz C.P e) l.toNat r.toNat (decide (l < r))
    | .slice e, none, some (.s (.int _ r)), some (.s (.int _ m)) => (sameN (strideB (h[b]?)) (tSz C.P e) ∧ r = 0 ∧ m = 0) ∧ K .z h
    | .slice e, some (.s (.int _ l)), some (.s (.int _ r)), some (.s (.int _ m)) => (sameN (strideB (h[b]?)) (tSz C.P e) ∧ 0 ≤ l ∧ l ≤ r ∧ r ≤ m ∧ m ≤ cap) ∧ K .any h
    | _, _, _, _ => False
  | .pd cs => match t, lo, hi, mx with
    | .arr n e, none, none, none => (tSz C.P e = some 1 ∧ cs.length = n ∧ n ≤ LIM) ∧ K (.f 1 (cs.map fun c => [c])) h
    | _, _, _, _ => False
  | _ => False

def faK : Option (Nat × TypeId) → V → Prop
  | some (fo, ft), .ptr b i o => (∃ n, tSz C.P ft = some (n + 1)) ∧ K (.ptr b i (o + fo)) h
  | some (fo, ft), .pd cs => (∃ n, tSz C.P ft = some (n + 1)) ∧ K (.pd (cs.drop fo)) h
  | _, _ => False
def fdA (cs : List V) (fo : Nat) : Option Bool → Option Nat → Prop
  | some true, some n => fo + n ≤ cs.length ∧ K (.agg ((cs.drop fo).take n)) h
  | some false, _ => ldC K h (cs[fo]?)
  | _, _ => False
def fdK : Option (Nat × TypeId) → V → Prop
  | some (fo, ft), .agg cs => fdA K h cs fo (tAgg C.P ft) (tSz C.P ft)
  | _, _ => False
def iaF : Option (List V) → Prop
  | some el => K (.pd el) h
  | none => False
def iaA2 (i : Int) (n : Nat) : Option Nat → V → Prop
  | some s, .pd cs => (0 ≤ i ∧ i < n) ∧ K (.pd (cs.drop (i.toNat * s))) h
  | some s, .ptr b j o => (0 ≤ i ∧ i < n) ∧ K (.ptr b j (o + i.toNat * s)) h
  | _, _ => False
def iaA (i : Int) (x : V) : Option (Nat × TypeId) → Prop
  | some (n, e) => iaA2 K h i n (tSz C.P e) x
  | none => False
def iaK (ar : Option (Nat × TypeId)) (e : Option TypeId) (i : Int) : V → Prop
  | .sl b off len _ => match e with
    | some e => (sameN (strideB (h[b]?)) (tSz C.P e) ∧ 0 ≤ i ∧ i < len) ∧ K (.ptr b (off + i.toNat) 0) h
    | none => False
  | .f n els => match e with
    | some e => (tSz C.P e = some n ∧ 0 ≤ i) ∧ iaF K h (els[i.toNat]?)
    | none => False
  | .pd cs => iaA C K h i (.pd cs) ar
  | .ptr b j o => iaA C K h i (.ptr b j o) ar
  | _ => False
def iaI (ar : Option (Nat × TypeId)) (e : Option TypeId) (x : V) : V → Prop
  | .s (.int _ i) => iaK C K h ar e i x
  | _ => False
def taO (x : V) : Bool → Prop
  | true => K (.tup [x, .s (.bool true)]) h
  | false => False
def taK (asserted : TypeId) (ok : Bool) : V → Prop
  | .s (.iface t v) => (C.P.concrete asserted = true ∧ t = asserted ∧ constOk v = true) ∧ taO K h (ofV v) ok
  | _ => False
def ixC (i : Int) : Option UInt8 → Prop
  | some c => 0 ≤ i ∧ K (.s (.int .u8 c.toNat)) h
  | none => False
def ixK (t : TK) : V → V → Prop
  | .s (.string s), .s (.int _ i) => isT t .string ∧ ixC K h i (s[i.toNat]?)
  | _, _ => False
def exK (i : Nat) : V → Prop
  | .tup vs => ldC K h (vs[i]?)
  | _ => False
def scal : List V → Option (List Value)
  | [] => some []
  | .s v :: r => match scal r with
    | some l => some (v :: l)
    | none => none
  | _ :: _ => none
def miA (t : TypeId) : Option (List Value) → Prop
  | some l => K (.s (.iface t (.agg l.toArray))) h
  | none => False
def miK (t : TypeId) : V → Prop
  | .s v => C.P.concrete t = true ∧ K (.s (.iface t v)) h
  | .agg cs => C.P.concrete t = true ∧ miA K h t (scal cs)
  | _ => False
def capOk : V → Bool
  | .ptr .. => true
  | .pd _ => true
  | _ => false
def mfK (fn : Fn) (first : List Operand) (caps : List V) : Prop := match fn, first with
  | .func f, [] => caps.all capOk = true ∧ K (.fn f caps) h
  | _, _ => False
end

def opW (C : Cx) (τ : Tau) (h : H) (o : Op) (K : V → H → Prop) : Prop :=
  match o with
  | .move x => K (ev C τ x) h
  | .assign x => K (ev C τ x) h
  | .pick c a b => pickK K h (ev C τ a) (ev C τ b) (ev C τ c)
  | .alloc e => allocK K h (tZ C.P e)
  | .box _ x => boxK K h (cellsOf (ev C τ x))
  | .build t parts => buildK K h (fldPlace C.P t) (partsV C τ parts.toList) (bldOk C.P t) (tZ C.P t)
  | .buildSlice t len parts => bsK C K h len (partsV C τ parts.toList) (tElem C.P t)
  | .load t a => ldK C K h t (ev C τ a)
  | .store t a x => stK C K h t (ev C τ x) (ev C τ a)
  | .nilCheck x => nilK K h (ev C τ x)
  | .binOp op t x y _ => binR C K h t op (ev C τ x) (ev C τ y) (isNil y)
  | .unOp op _ x => unK K h op (ev C τ x)
  | .convert src dst x => cvK C K h (tK C.P src) (tK C.P dst) (ev C τ x)
  | .makeSlice t l c => mkK C K h (tElem C.P t) (ev C τ l) (ev C τ c)
  | .slice t x lo hi mx => slK C K h (tK C.P t) (lo.map (ev C τ)) (hi.map (ev C τ)) (mx.map (ev C τ)) (ev C τ x)
  | .fieldAddr s x f => faK C K h (tFld C.P s f) (ev C τ x)
  | .field s x f => fdK C K h (tFld C.P s f) (ev C τ x)
  | .indexAddr t x i => iaI C K h (tArr C.P t) (tElem C.P t) (ev C τ x) (ev C τ i)
  | .index t x i => ixK K h (tK C.P t) (ev C τ x) (ev C τ i)
  | .extract x i => exK K h i (ev C τ x)
  | .makeInterface t x => miK C K h t (ev C τ x)
  | .typeAssert x _ t ok => taK C K h t ok (ev C τ x)
  | .makeFunc fn first caps => mfK K h fn first.toList (evs C τ caps.toList)
  | _ => False

end Go.W
/- part W6 -/
set_option linter.unusedVariables false
set_option linter.unusedSimpArgs false
namespace Go.W
open Go Go.RowKit

section
variable {S : Nat → Prop} {w0 w : World} {φ φ' : Phi} {h : H} {F : Nat → Fp}

theorem s_rel {u v : Value} (r : RelV φ (.s u) v) : v = u ∧ one u = true := by simpa only [RelV, RelQ, RelC, RelP, RZ] using r
theorem z_rel {v : Value} (r : RelV φ .z v) : ∃ p, v = .slice p 0 0 := by simpa only [RelV, RelQ, RelC, RelP, RZ] using r
theorem f_rel {n : Nat} {els : List (List V)} {v : Value} (r : RelV φ (.f n els) v) :
    (els = [] ∧ ∃ q, v = .slice q 0 0) ∨ ∃ k off cap, v = .slice (some ⟨k, off, none⟩) els.length cap ∧ els.length ≤ cap ∧ els.length ≤ LIM ∧ RZss φ.z k n off els := by
  simpa only [RelV, RelQ, RelC, RelP, RZ] using r
theorem pd_rel {cs : List V} {v : Value} (r : RelV φ (.pd cs) v) : ∃ k off, v = .pointer (some ⟨k, off, none⟩) ∧ RZs φ.z k off cs := by
  simpa only [RelV, RelQ, RelC, RelP, RZ] using r
theorem sl_rel {b off len cap : Nat} {v : Value} (r : RelV φ (.sl b off len cap) v) : ∃ p n, φ.m b = some (p, n) ∧ match p with
    | some k => v = .slice (some ⟨k, off * n, none⟩) len cap
    | none => (∃ q, v = .slice q 0 0) ∧ len = 0 ∧ cap = 0 ∧ off = 0 := by
  obtain ⟨p, n, h1, _, h2⟩ := r; exact ⟨p, n, h1, h2⟩
theorem sl_le {b off len cap : Nat} {v : Value} (r : RelV φ (.sl b off len cap) v) : len ≤ cap := by obtain ⟨p, n, h1, h2, _⟩ := r; exact h2
theorem ptr_rel {b i o : Nat} {v : Value} (r : RelV φ (.ptr b i o) v) : ∃ k n, φ.m b = some (some k, n) ∧ v = .pointer (some ⟨k, i * n + o, none⟩) := r
theorem fn_rel {f : Nat} {caps : List V} {v : Value} (r : RelV φ (.fn f caps) v) : ∃ l, v = .func (.func f) #[] l.toArray ∧ All2 (RelP φ) caps l := r
theorem mk_s {u : Value} (h : one u = true) : RelV φ (.s u) u := by simp [RelV, RelQ, RelC, RelP, RZ, h]
theorem mk_sl {b off len cap k n : Nat} (h : φ.m b = some (some k, n)) (hl : len ≤ cap) : RelV φ (.sl b off len cap) (.slice (some ⟨k, off * n, none⟩) len cap) := ⟨some k, n, h, hl, rfl⟩
theorem mk_nil {b n : Nat} {q : Option Addr} (h : φ.m b = some (none, n)) : RelV φ (.sl b 0 0 0) (.slice q 0 0) := ⟨none, n, h, Nat.le_refl _, ⟨q, rfl⟩, rfl, rfl, rfl⟩
theorem mk_ptr {b i o k n : Nat} (h : φ.m b = some (some k, n)) : RelV φ (.ptr b i o) (.pointer (some ⟨k, i * n + o, none⟩)) := ⟨k, n, h, rfl⟩
theorem mk_z {q : Option Addr} : RelV φ .z (.slice q 0 0) := by simp only [RelV, RelQ, RelC, RelP, RZ]; exact ⟨q, rfl⟩
theorem mk_f0 {n : Nat} {q : Option Addr} : RelV φ (.f n []) (.slice q 0 0) := by simp [RelV, RelQ, RelC, RelP, RZ]
theorem mk_fe {n k off cap : Nat} : RelV φ (.f n []) (.slice (some ⟨k, off, none⟩) 0 cap) := by
  simp only [RelV, RelQ, RelC, RelP, RZ]
  exact .inr ⟨k, off, cap, rfl, by simp, by simp, by simp [RZss]⟩
theorem relC_of_relV {x : V} {v : Value} (hx : cellOk x = true) (r : RelV φ x v) : RelC φ x v := by
  cases x <;> first | exact r | simp [cellOk] at hx

theorem Dc.rel {x : V} {v : Value} {fp : Fp} (hl : ∀ n e, x ≠ .l n e) (hp : ∀ cs, x ≠ .lp cs) (d : Dc φ w x v fp) : RelC φ x v ∧ fp = [] := by
  rcases d with d | d
  · exact d
  · cases x with
    | l n e => exact absurd rfl (hl n e)
    | lp cs => exact absurd rfl (hp cs)
    | any => simp only [T] at d; exact ⟨by simp [RelC, RelP, RZ], d⟩
    | sl => simp [T] at d
    | ptr => simp [T] at d
    | agg => simp [T] at d
    | tup => simp [T] at d
    | _ => simp only [T] at d; exact ⟨relC_of_rz d.1, d.2⟩
theorem cellOk_not {x : V} (h : cellOk x = true) : (∀ n e, x ≠ .l n e) ∧ ∀ cs, x ≠ .lp cs :=
  ⟨fun n e q => (by subst q; cases h), fun cs q => (by subst q; cases h)⟩

theorem cellOk_one {x : V} {v : Value} (h : cellOk x = true) (r : RelC φ x v) : v.oneCell' = true ∧ v.cells = #[v] := by
  cases x with
  | s u =>
    simp only [RelC, RelP, RZ] at r
    obtain ⟨rfl, r⟩ := r
    cases v <;> first | (simp [one] at r; done) | exact ⟨rfl, rfl⟩
  | f n els =>
    simp only [RelC, RelP, RZ] at r
    rcases r with ⟨-, q, rfl⟩ | ⟨k, off, cap, rfl, -⟩ <;> exact ⟨rfl, rfl⟩
  | z => simp only [RelC, RelP, RZ] at r; obtain ⟨p, rfl⟩ := r; exact ⟨rfl, rfl⟩
  | pd cs => simp only [RelC, RelP, RZ] at r; obtain ⟨k, off, rfl, -⟩ := r; exact ⟨rfl, rfl⟩
  | sl b off len cap =>
    simp only [RelC, RelP] at r
    obtain ⟨p, n, -, -, r⟩ := r
    cases p with
    | none => obtain ⟨⟨q, rfl⟩, -⟩ := r; exact ⟨rfl, rfl⟩
    | some k => simp only at r; subst r; exact ⟨rfl, rfl⟩
  | ptr b i o => simp only [RelC, RelP] at r; obtain ⟨k, n, -, rfl⟩ := r; exact ⟨rfl, rfl⟩
  | fn f caps => obtain ⟨l, rfl, -⟩ := r; exact ⟨rfl, rfl⟩
  | _ => cases h

theorem all2_oneCell : ∀ {xs : List V} {vs : List Value}, xs.all cellOk = true → All2 (RelC φ) xs vs → ∀ v ∈ vs, v.oneCell' = true
  | [], [], _, _ => by simp
  | x :: xs, v :: vs, h, r => by
    simp only [List.all_cons, Bool.and_eq_true] at h
    intro u hu
    rcases List.mem_cons.1 hu with rfl | hu
    · exact (cellOk_one h.1 r.1).1
    · exact all2_oneCell h.2 r.2 u hu
  | [], _ :: _, _, r => r.elim
  | _ :: _, [], _, r => r.elim

theorem cellsOf_rel {x : V} {v : Value} {cs : List V} (h : cellsOf x = some cs) (r : RelV φ x v) : All2 (RelC φ) cs v.cells.toList ∧ cs.all cellOk = true := by
  cases x with
  | agg xs =>
    simp only [cellsOf] at h
    split at h
    · rename_i hx
      obtain rfl := Option.some.inj h
      obtain ⟨l, rfl, e⟩ := r
      exact ⟨e, hx⟩
    · cases h
  | tup vs => simp [cellsOf] at h
  | any => simp [cellsOf] at h
  | l n e => simp [cellsOf] at h
  | lp c => simp [cellsOf] at h
  | _ =>
    simp only [cellsOf, Option.some.injEq] at h
    subst h
    have r' := relC_of_relV (x := _) rfl r
    have := cellOk_one rfl r'
    rw [this.2]
    exact ⟨⟨r', trivial⟩, by simp [cellOk]⟩

variable {P : Program}
theorem run_sz {t : TypeId} {n : Nat} (h : tSz P t = some n) (w : World) : (sizeOf t).run P w = .ok n w := by
  unfold tSz at h
  cases hi : P.info? t with
  | none => rw [hi] at h; cases h
  | some i => rw [hi] at h; simp at h; subst h; simp [sizeOf, typeInfo, hi]
theorem run_agg {t : TypeId} {b : Bool} (h : tAgg P t = some b) (w : World) : (isAgg t).run P w = .ok b w := by
  unfold tAgg at h
  cases hu : P.underlying t with
  | none => rw [hu] at h; cases h
  | some d => rw [hu] at h; cases d <;> simp at h <;> subst h <;> simp [isAgg, underlying, hu]
theorem run_zero {t : TypeId} {z : List V} (h : tZ P t = some z) : ∃ v, (∀ w, (zeroValue t).run P w = .ok v w) ∧ v.cells.toList.map ofV1 = z ∧ v.cells.toList.all one = true ∧ (P.info? t).bind (·.zero) = some v := by
  unfold tZ at h
  cases hi : P.info? t with
  | none => rw [hi] at h; cases h
  | some i =>
    rw [hi] at h
    cases hz : i.zero with
    | none => simp [hz] at h
    | some v =>
      simp only [hz, Option.bind_some] at h
      split at h
      · rename_i h1
        exact ⟨v, fun w => by simp [zeroValue, typeInfo, hi, hz], Option.some.inj h, h1, by simp [hz]⟩
      · cases h
theorem underlying_of_tElem {t e : TypeId} (ht : tElem P t = some e) : P.underlying t = some (.slice e) := by
  unfold tElem at ht
  split at ht
  · rename_i e' hu; rw [hu]; rw [Option.some.inj ht]
  · cases ht
theorem run_elem {t e : TypeId} (ht : tElem P t = some e) (w : World) : (underlying t).run P w = .ok (.slice e) w := run_underlying (underlying_of_tElem ht) w
theorem underlying_of_tArr {t e : TypeId} {n : Nat} (ht : tArr P t = some (n, e)) : P.underlying t = some (.array n e) := by
  unfold tArr at ht; split at ht <;> first | (cases ht; done) | (rename_i hu; cases ht; exact hu)
theorem tK_arr {t e : TypeId} {n : Nat} (h : tK P t = .arr n e) : P.underlying t = some (.array n e) := by
  unfold tK at h; split at h <;> first | (cases h; done) | (rename_i hu; cases h; exact hu)
theorem tK_slice {t e : TypeId} (h : tK P t = .slice e) : P.underlying t = some (.slice e) := by
  unfold tK at h; split at h <;> first | (cases h; done) | (rename_i hu; cases h; exact hu)
theorem tK_string {t : TypeId} (h : tK P t = .string) : P.underlying t = some .string := by
  unfold tK at h; split at h <;> first | (cases h; done) | (rename_i hu; exact hu)
theorem tK_bool {t : TypeId} (h : tK P t = .bool) : P.underlying t = some .bool := by
  unfold tK at h; split at h <;> first | (cases h; done) | (rename_i hu; exact hu)
theorem tK_int {t : TypeId} {k : IntKind} (h : tK P t = .int k) : P.underlying t = some (.int k) := by
  unfold tK at h; split at h <;> first | (cases h; done) | (rename_i hu; cases h; exact hu)
theorem tK_ptr {t : TypeId} (h : tK P t = .ptr) : ∃ e, P.underlying t = some (.pointer e) := by
  unfold tK at h; split at h <;> first | (cases h; done) | (rename_i hu; exact ⟨_, hu⟩)
theorem isT_bool {k : TK} (h : isT k .bool) : k = .bool := by cases k <;> first | rfl | exact h.elim
theorem isT_string {k : TK} (h : isT k .string) : k = .string := by cases k <;> first | rfl | exact h.elim
theorem isT_ptr {k : TK} (h : isT k .ptr) : k = .ptr := by cases k <;> first | rfl | exact h.elim
theorem isT_slice {k : TK} {e : TypeId} (h : isT k (.slice e)) : ∃ e', k = .slice e' := by cases k <;> first | exact ⟨_, rfl⟩ | exact h.elim

theorem addr_add (blk off n : Nat) : (⟨blk, off, none⟩ : Addr).add n = ⟨blk, off + n, none⟩ := by
  unfold Addr.add; split <;> simp_all

theorem rdB_some {b i : Nat} {el : List V} (hr : rdB (h[b]?) i = some el) : ∃ B, h[b]? = some B ∧ B.live = true ∧ B.els[i]? = some el := by
  cases hb : h[b]? with
  | none => rw [hb] at hr; simp [rdB] at hr
  | some B =>
    rw [hb] at hr
    obtain ⟨els, n, cap, l⟩ := B
    cases l with
    | false => simp [rdB] at hr
    | true => exact ⟨_, rfl, rfl, hr⟩

theorem RelF.elem (R : RelF S w0 φ h w F) {b i k n : Nat} {el : List V} (hp : φ.m b = some (some k, n)) (hr : rdB (h[b]?) i = some el) :
    ∃ B c ty fq f, h[b]? = some B ∧ B.live = true ∧ B.els[i]? = some el ∧ B.n = n ∧ w.heap[k]? = some (.cells c ty (0, 0)) ∧ el.length = n ∧ F b = k :: fq ∧ Lss (Dc φ w) n B.els c.toList fq ∧
      Ls (Dc φ w) el (c.toList.drop (i * n)) f := by
  obtain ⟨B, hb, hl, he⟩ := rdB_some hr
  obtain ⟨p, h1, h2, h3, h4⟩ := R.place hb hl
  rw [hp] at h1; obtain ⟨rfl, rfl⟩ := Prod.mk.inj (Option.some.inj h1)
  obtain ⟨c, ty, fq, q1, q2, q3, q4, q5⟩ := h4
  obtain ⟨e1, f, e2, e3⟩ := q4.nth he
  exact ⟨B, c, ty, fq, f, hb, hl, he, rfl, q1, e1, q5, q4, e2⟩

theorem ls_all2 : ∀ {xs : List V} {vs : List Value} {f : Fp}, Ls (Dc φ w) xs vs f → xs.all cellOk = true → All2 (RelC φ) xs (vs.take xs.length)
  | [], vs, f, _, _ => by simp [All2]
  | x :: xs, vs, f, r, h => by
    simp only [Ls] at r
    obtain ⟨v, t, f1, f2, rfl, rfl, h3, h4⟩ := r
    simp only [List.all_cons, Bool.and_eq_true] at h
    have := cellOk_not h.1
    simp only [List.length_cons, List.take_succ_cons]
    exact ⟨(h3.rel this.1 this.2).1, ls_all2 h4 h.2⟩
theorem Ls.dropN {R : V → Value → Fp → Prop} : ∀ {xs : List V} {vs : List Value} {f : Fp} (j : Nat), Ls R xs vs f → ∃ g, Ls R (xs.drop j) (vs.drop j) g
  | xs, vs, f, 0, r => ⟨f, by simpa using r⟩
  | [], vs, f, j + 1, r => ⟨[], by simp [Ls]⟩
  | x :: xs, vs, f, j + 1, r => by
    simp only [Ls] at r
    obtain ⟨v, t, f1, f2, rfl, rfl, h3, h4⟩ := r
    simpa using Ls.dropN j h4
theorem Ls.takeN {R : V → Value → Fp → Prop} : ∀ {xs : List V} {vs : List Value} {f : Fp} (j : Nat), Ls R xs vs f → ∃ g, Ls R (xs.take j) vs g
  | xs, vs, f, 0, r => ⟨[], by simp [Ls]⟩
  | [], vs, f, j + 1, r => ⟨[], by simp [Ls]⟩
  | x :: xs, vs, f, j + 1, r => by
    simp only [Ls] at r
    obtain ⟨v, t, f1, f2, rfl, rfl, h3, h4⟩ := r
    obtain ⟨g, hg⟩ := Ls.takeN j h4
    exact ⟨f1 ++ g, by simp only [List.take_succ_cons, Ls]; exact ⟨v, t, f1, g, rfl, rfl, h3, hg⟩⟩

theorem RelF.agg (R : RelF S w0 φ h w F) {b i o m k n : Nat} {cs : List V} (hp : φ.m b = some (some k, n)) (hr : rdN (rdB (h[b]?) i) o m = some cs) (hok : cs.all cellOk = true) :
    cs.length = m ∧ ∃ l : List Value, l.length = m ∧ All2 (RelC φ) cs l ∧ ∀ j v, l[j]? = some v → w.cell? ⟨k, i * n + o + j, none⟩ = some v := by
  cases he : rdB (h[b]?) i with
  | none => rw [he] at hr; simp [rdN] at hr
  | some el =>
    rw [he] at hr
    simp only [rdN] at hr
    split at hr
    · rename_i hle
      obtain rfl := Option.some.inj hr
      obtain ⟨B, c, ty, fq, f, _, _, _, _, hc, hel, _, _, hls⟩ := R.elem hp he
      have hlen : ((el.drop o).take m).length = m := by simp; omega
      obtain ⟨g1, r1⟩ := hls.dropN o
      obtain ⟨g2, r2⟩ := r1.takeN m
      have ra := ls_all2 r2 hok
      rw [hlen] at ra
      refine ⟨hlen, _, by have := ra.length; rw [hlen] at this; exact this.symm, ra, fun j v hv => ?_⟩
      rw [List.getElem?_take] at hv
      split at hv
      · rw [List.getElem?_drop, List.getElem?_drop] at hv
        simp only [World.cell?, hc]
        rw [← Array.getElem?_toList, ← hv, Nat.add_assoc]; rfl
      · cases hv
    · cases hr

theorem rdC_some {el : Option (List V)} {o : Nat} {x : V} (hr : rdC el o = some x) : ∃ l, el = some l ∧ l[o]? = some x := by
  cases el with
  | none => simp [rdC] at hr
  | some l => exact ⟨l, rfl, hr⟩

theorem RelF.cell (R : RelF S w0 φ h w F) {b i o k n : Nat} {x : V} (hp : φ.m b = some (some k, n)) (hr : rdC (rdB (h[b]?) i) o = some x) :
    ∃ v f, w.cell? ⟨k, i * n + o, none⟩ = some v ∧ Dc φ w x v f := by
  obtain ⟨el, he, hx⟩ := rdC_some hr
  obtain ⟨B, c, ty, fq, f, _, _, _, _, hc, hel, _, _, hls⟩ := R.elem hp he
  obtain ⟨v, g, e1, e2, _⟩ := hls.nth hx
  rw [List.getElem?_drop] at e1
  exact ⟨v, g, by simp only [World.cell?, hc]; rw [← Array.getElem?_toList]; exact e1, e2⟩

theorem RelF.split (R : RelF S w0 φ h w F) {b k : Nat} {B' B1 : Blk} {p : Option Nat × Nat} {f1 f f2 : Fp} (hb : b < h.length) (hF : F b = k :: (f1 ++ f ++ f2))
    (hB : BlkRel (phiPush φ h.length p) w b B' (k :: (f1 ++ f2))) (hB1 : BlkRel (phiPush φ h.length p) w h.length B1 f) : Rel S w0 (phiPush φ h.length p) (h.set b B' ++ [B1]) w := by
  have he : Ext φ (phiPush φ h.length p) := phiPush_ext (R.dom _ (Nat.le_refl _))
  have hnd := R.nodup b
  rw [hF] at hnd
  have hsub : ∀ j, j ∈ k :: (f1 ++ f2) → j ∈ F b := fun j hj => by rw [hF]; simp at hj ⊢; rcases hj with q | q | q <;> simp [q]
  have hsub2 : ∀ j, j ∈ f → j ∈ F b := fun j hj => by rw [hF]; simp [hj]
  have hdis : ∀ j, j ∈ k :: (f1 ++ f2) → j ∉ f := fun j hj hf => by
    simp only [List.nodup_cons, List.nodup_append, List.mem_append, List.mem_cons] at hnd hj
    rcases hj with rfl | hj | hj
    · exact hnd.1 (.inl (.inr hf))
    · exact hnd.2.1.2.2 j hj j hf rfl
    · exact hnd.2.2.2 j (.inr hf) j hj rfl
  refine ⟨fun j => if j = b then k :: (f1 ++ f2) else if j = h.length then f else F j, R.kept, ?_, R.zok, ?_, ?_, ?_, ?_, ?_, ?_⟩
  · intro j hj; simp at hj; rw [phiPush_old (by omega)]; exact R.dom j (by omega)
  · intro j x o hx
    by_cases e : j = b
    · simp only [e, if_true] at hx; exact R.znot b x o (hsub x hx)
    · by_cases e2 : j = h.length
      · simp only [e2, if_true] at hx
        rw [if_neg (by omega)] at hx
        exact R.znot b x o (hsub2 x hx)
      · simp only [e, e2, if_false] at hx; exact R.znot j x o hx
  · intro j x hx
    by_cases e : j = b
    · simp only [e, if_true] at hx; exact R.mine b x (hsub x hx)
    · by_cases e2 : j = h.length
      · simp only [e2, if_true] at hx
        rw [if_neg (by omega)] at hx
        exact R.mine b x (hsub2 x hx)
      · simp only [e, e2, if_false] at hx; exact R.mine j x hx
  · intro j
    by_cases e : j = b
    · simp only [e, if_true]
      refine hnd.sublist (List.Sublist.cons_cons k ?_)
      exact List.Sublist.append (List.sublist_append_left f1 f) (List.Sublist.refl f2)
    · by_cases e2 : j = h.length
      · simp only [e2, if_true]
        rw [if_neg (by omega)]
        have := (List.nodup_cons.1 hnd).2
        exact (List.nodup_append.1 (List.nodup_append.1 this).1).2.1
      · simp only [e, e2, if_false]; exact R.nodup j
  · intro j j' x hx hx'
    by_cases e : j = b
    · simp only [e, if_true] at hx
      by_cases e' : j' = b
      · rw [e, e']
      · by_cases e2' : j' = h.length
        · simp only [e2', if_true] at hx'
          rw [if_neg (by omega)] at hx'
          exact absurd hx' (hdis x hx)
        · simp only [e', e2', if_false] at hx'
          exact e.trans (R.disj b j' x (hsub x hx) hx')
    · by_cases e2 : j = h.length
      · simp only [e2, if_true] at hx
        rw [if_neg (by omega)] at hx
        by_cases e' : j' = b
        · simp only [e', if_true] at hx'
          exact absurd hx (hdis x hx')
        · by_cases e2' : j' = h.length
          · rw [e2, e2']
          · simp only [e', e2', if_false] at hx'
            exact absurd (R.disj b j' x (hsub2 x hx) hx').symm e'
      · simp only [e, e2, if_false] at hx
        by_cases e' : j' = b
        · simp only [e', if_true] at hx'
          exact (R.disj j b x hx (hsub x hx')).trans e'.symm
        · by_cases e2' : j' = h.length
          · simp only [e2', if_true] at hx'
            rw [if_neg (by omega)] at hx'
            exact absurd (R.disj j b x hx (hsub2 x hx')) e
          · simp only [e', e2', if_false] at hx'; exact R.disj j j' x hx hx'
  · intro j hj
    simp at hj
    show (if j = b then _ else if j = h.length then _ else _) = _
    rw [if_neg (by omega), if_neg (by omega)]; exact R.out j (by omega)
  · intro j C hC
    by_cases e : j = b
    · subst e
      rw [List.getElem?_append_left (by simpa using hb)] at hC
      simp [hb] at hC; subst hC
      simp only [if_true]; exact hB
    · by_cases e2 : j = h.length
      · subst e2
        rw [List.getElem?_append_right (by simp)] at hC
        simp at hC; subst hC
        simp only [if_true]
        rw [if_neg (by omega)]; exact hB1
      · have hlt : j < h.length := by
          have := (List.getElem?_eq_some_iff.1 hC).1
          simp at this; omega
        rw [List.getElem?_append_left (by simpa using hlt), List.getElem?_set_ne (Ne.symm e)] at hC
        simp only [e, e2, if_false]
        exact (R.blk j C hC).keep he fun _ _ => rfl

theorem wrB_at {b i o : Nat} {B : Blk} {el : List V} {xs : List V} (hb : h[b]? = some B) (he : B.els[i]? = some el) : wrB (h[b]?) i o xs = { B with els := B.els.set i (wrL el o xs) } := by
  rw [hb]; obtain ⟨els, n, cap, l⟩ := B; simp only [wrB]; simp only at he; rw [he]; rfl

theorem set_same {α : Type} : ∀ {l : List α} {i : Nat} {a : α}, l[i]? = some a → l.set i a = l
  | [], _, _, h => by simp at h
  | x :: l, 0, a, h => by simp at h; simp [h]
  | x :: l, i + 1, a, h => by simp; exact set_same (by simpa using h)

theorem RelF.unfold (R : RelF S w0 φ h w F) {b i o k n : Nat} {x : V} {X : Blk → V → Prop} (hp : φ.m b = some (some k, n)) (hr : rdC (rdB (h[b]?) i) o = some x)
    (hB : ∀ v f, Dc φ w x v f → ∃ (p : Option Nat × Nat) (B1 : Blk) (x' : V), X B1 x' ∧ RelC (phiPush φ h.length p) x' v ∧ BlkRel (phiPush φ h.length p) w h.length B1 f) :
    ∃ v B1 x' φ', X B1 x' ∧ w.cell? ⟨k, i * n + o, none⟩ = some v ∧ Rel S w0 φ' (wrH h b i o [x'] ++ [B1]) w ∧ ExtN S w0 h.length φ φ' ∧ RelC φ' x' v := by
  obtain ⟨el, he, hx⟩ := rdC_some hr
  obtain ⟨B, c, ty, fq, f0, hb, hl, hel, rfl, hc, hlen, hF, hlss, _⟩ := R.elem hp he
  have hblt : b < h.length := (List.getElem?_eq_some_iff.1 hb).1
  have ho : o < el.length := (List.getElem?_eq_some_iff.1 hx).1
  obtain ⟨pp, g1, g2, g3, g4⟩ := R.place hb hl
  rw [hp] at g1; obtain ⟨rfl, -⟩ := Prod.mk.inj (Option.some.inj g1)
  obtain ⟨c', ty', fq', y1, y2, y3, y4, y5⟩ := g4
  rw [hc] at y1; cases y1
  obtain ⟨f1, f, f2, x0, v, rfl, e3, hv, hd, hset⟩ := hlss.set hel ho
  rw [hx] at e3; cases e3
  obtain ⟨p, B1, x', hX, hrx, hB1⟩ := hB v f hd
  have hE : Ext φ (phiPush φ h.length p) := phiPush_ext (R.dom _ (Nat.le_refl _))
  refine ⟨v, B1, x', _, hX, by simp only [World.cell?, hc]; rw [← Array.getElem?_toList]; exact hv, ?_, phiPush_extN (Nat.le_refl _), hrx⟩
  unfold wrH
  rw [wrB_at hb hel]
  refine R.split (f1 := f1) (f := f) (f2 := f2) hblt hF ?_ hB1
  unfold BlkRel
  rw [if_pos (by exact hl)]
  refine ⟨some k, by rw [phiPush_old (by omega)]; exact hp, ?_, by simpa using g3, c, ty, f1 ++ f2, hc, y2, by simpa using y3, ?_, rfl⟩
  · intro e' he'
    simp only at he'
    rcases List.mem_or_eq_of_mem_set he' with q | q
    · exact g2 e' q
    · subst q; simp only [wrL, List.length_set]; exact hlen
  · simp only [wrL]
    have := hset (Dc (phiPush φ h.length p) w) (fun x v f _ d => d.mono hE fun _ _ => rfl) x' v [] (.leaf hrx)
    rw [set_same hv] at this
    simpa using this
end
end Go.W
/- part W7 -/
set_option linter.unusedVariables false
set_option linter.unusedSimpArgs false
namespace Go.W
open Go Go.RowKit

def Did (P : Program) (o : Oper) (a : Act) (w : World) (S : Nat → Prop) (w0 : World) (φ : Phi) (n : Nat) (K : V → H → Prop) : Prop :=
  ∃ φ' x h' w', ExtN S w0 n φ φ' ∧ n ≤ h'.length ∧ Rel S w0 φ' h' w' ∧ K x h' ∧
    ((∃ v, (execOp a.eval o).run P w = .ok (.value v) w' ∧ RelV φ' x v) ∨ ((execOp a.eval o).run P w = .ok .skip w' ∧ x = .any))
def DidA (P : Program) (o : Oper) (a : Act) (φ : Phi) (K : V → Prop) : Prop :=
  ∃ x v, K x ∧ (∀ w, (execOp a.eval o).run P w = .ok (.value v) w) ∧ RelV φ x v

section
variable {C : Cx} {o : Oper} {a : Act} {w : World} {S : Nat → Prop} {w0 : World} {φ : Phi} {K : V → H → Prop} {h : H} {τ : Tau} {F : Nat → Fp}

theorem did_any {P : Program} {x : V} {v : Value} (hk : K x h) (hr : ∀ w, (execOp a.eval o).run P w = .ok (.value v) w) (r : RelV φ x v) : DidA P o a φ fun x => K x h := ⟨x, v, hk, hr, r⟩
theorem DidA.did {P : Program} (R : Rel S w0 φ h w) (d : DidA P o a φ fun x => K x h) : Did P o a w S w0 φ h.length K := by
  obtain ⟨x, v, h1, h2, h3⟩ := d; exact ⟨φ, x, h, w, ExtN.refl .., Nat.le_refl _, R, h1, .inl ⟨v, h2 w, h3⟩⟩
theorem did_val {P : Program} (R : Rel S w0 φ h w) {x : V} {v : Value} (hk : K x h) (hr : (execOp a.eval o).run P w = .ok (.value v) w) (r : RelV φ x v) : Did P o a w S w0 φ h.length K :=
  ⟨φ, x, h, w, ExtN.refl .., Nat.le_refl _, R, hk, .inl ⟨v, hr, r⟩⟩

theorem sem_move {x : Operand} (ho : o.op = .move x ∨ o.op = .assign x) (G : RelG C φ.z) (T : RelT φ τ a) (hx : opdOk x = true) (hk : K (ev C τ x) h) : DidA C.P o a φ (fun x => K x h) := by
  refine did_any hk (v := a.eval x) (fun w => ?_) (ev_rel G T x hx)
  unfold execOp; rcases ho with ho | ho <;> rw [ho] <;> rfl

theorem sem_pick {c x y : Operand} (ho : o.op = .pick c x y) (G : RelG C φ.z) (T : RelT φ τ a) (hc : opdOk c = true) (hx : opdOk x = true) (hy : opdOk y = true)
    (hw : pickK K h (ev C τ x) (ev C τ y) (ev C τ c)) : DidA C.P o a φ (fun x => K x h) := by
  have ec := ev_rel G T c hc
  unfold pickK at hw
  split at hw
  · rename_i t e
    rw [e] at ec
    have ec := relV_bool ec
    refine did_any hw (v := if t then a.eval x else a.eval y) (fun w => ?_) ?_
    · simp [execOp, ho, ec, asBool]
    · cases t
      · exact ev_rel G T y hy
      · exact ev_rel G T x hx
  · exact hw.elim

theorem grown_alloc (w : World) (ob : Obj) : w.grownBy (w.alloc ob) none := World.grownBy_alloc w ob none
theorem heap_new (w : World) (ob : Obj) : (w.alloc ob).heap[w.heap.size]? = some ob := heap_alloc_new w ob

theorem lss_all2 {n : Nat} : ∀ {els : List (List V)} {vs : List Value}, (∀ el ∈ els, el.length = n) → All2 (RelC φ) els.flatten vs → Lss (Dc φ w) n els vs []
  | [], vs, _, _ => by simp [Lss]
  | el :: els, vs, hn, r => by
    have hl := hn el (by simp)
    simp only [List.flatten_cons] at r
    have key : ∀ {xs ys : List V} {vs : List Value}, All2 (RelC φ) (xs ++ ys) vs → All2 (RelC φ) xs (vs.take xs.length) ∧ All2 (RelC φ) ys (vs.drop xs.length) := by
      intro xs
      induction xs with
      | nil => intro ys vs r; simpa [All2] using r
      | cons x xs ih =>
        intro ys vs r
        cases vs with
        | nil => exact r.elim
        | cons v vs =>
          obtain ⟨h1, h2⟩ := ih r.2
          exact ⟨⟨r.1, h1⟩, h2⟩
    obtain ⟨h1, h2⟩ := key r
    simp only [Lss]
    refine ⟨hl, [], [], rfl, ?_, ?_⟩
    · have := Ls.of_all2 (R := Dc φ w) (fun x v q => Dc.leaf q) h1
      refine Ls.pre (fun j hj => ?_) this
      rw [List.getElem?_take, if_pos hj]
    · rw [hl] at h2
      exact lss_all2 (fun el he => hn el (by simp [he])) h2

theorem did_new {P : Program} (R : Rel S w0 φ h w) {els : List (List V)} {n cap : Nat} {c : Array Value} {e : TypeId} (hn : ∀ el ∈ els, el.length = n) (hx : All2 (RelC φ) els.flatten (c.toList.take (els.length * n))) (hcap : c.size = cap * n)
    (hle : els.length ≤ cap) (hlim : els.length ≤ LIM) {x : V} {v : Value}
    (hk : K x (h ++ [⟨els, n, cap, true⟩])) (hr : (execOp a.eval o).run P w = .ok (.value v) (w.alloc (.cells c e)))
    (hv : ∀ φ' : Phi, φ'.m h.length = some (some w.heap.size, n) → RelV φ' x v) : Did P o a w S w0 φ h.length K := by
  obtain ⟨F, R⟩ := R
  have hls : Lss (Dc φ w) n els c.toList [] := by
    refine Lss.pre (fun j hj => ?_) (lss_all2 (φ := φ) (w := w) hn hx)
    rw [List.getElem?_take, if_pos hj]
  have R' := R.alloc (grown_alloc w (.cells c e)) (Nat.le_refl _) (heap_new w _) hcap hle hlim hn hls
  exact ⟨_, x, _, _, phiPush_extN (Nat.le_refl _), by simp, R', hk, .inl ⟨v, hr, hv _ phiPush_new⟩⟩

theorem ptr_new {n blk k : Nat} : ∀ φ' : Phi, φ'.m n = some (some blk, k) → RelV φ' (.ptr n 0 0) (.pointer (some ⟨blk, 0, none⟩)) := fun φ' e => by
  have := mk_ptr (φ := φ') (i := 0) (o := 0) e; simpa using this
theorem sl_new {n blk len cap k : Nat} (hl : len ≤ cap) : ∀ φ' : Phi, φ'.m n = some (some blk, k) → RelV φ' (.sl n 0 len cap) (.slice (some ⟨blk, 0, none⟩) len cap) := fun φ' e => by
  have := mk_sl (φ := φ') (off := 0) (len := len) (cap := cap) e hl; simpa using this

theorem take_all {α : Type} {l : List α} {n : Nat} (h : n = l.length) : l.take n = l := by rw [h, List.take_length]

theorem sem_alloc {e : TypeId} (ho : o.op = .alloc e) (R : Rel S w0 φ h w) (hw : allocK K h (tZ C.P e)) : Did C.P o a w S w0 φ h.length K := by
  unfold allocK at hw
  split at hw
  · rename_i z hz
    obtain ⟨v, hv, rfl, h1, _⟩ := run_zero hz
    refine did_new R (els := [v.cells.toList.map ofV1]) (n := v.cells.size) (cap := 1) (c := v.cells) (e := e) (by simp) ?_ (by simp) (by simp) (by simp [LIM]) (x := .ptr h.length 0 0) (v := .pointer (some ⟨w.heap.size, 0, none⟩)) ?_ ?_ ptr_new
    · rw [take_all (by simp)]; simpa using all2_ofV1 h1
    · simpa using hw
    · simp [execOp, ho, Instr.alloc, hv, newVar, newRow]
  · exact hw.elim

theorem sem_box {e : TypeId} {x : Operand} (ho : o.op = .box e x) (R : Rel S w0 φ h w) (G : RelG C φ.z) (T : RelT φ τ a) (hx : opdOk x = true) (hw : boxK K h (cellsOf (ev C τ x))) : Did C.P o a w S w0 φ h.length K := by
  have ex := ev_rel G T x hx
  unfold boxK at hw
  split at hw
  · rename_i cs hc
    obtain ⟨q1, q2⟩ := cellsOf_rel hc ex
    have hl := q1.length
    simp at hl
    refine did_new R (els := [cs]) (n := cs.length) (cap := 1) (c := (a.eval x).cells) (e := e) (by simp) ?_ (by simp [hl]) (by simp) (by simp [LIM]) (x := .ptr h.length 0 0) (v := .pointer (some ⟨w.heap.size, 0, none⟩)) hw ?_ ptr_new
    · rw [take_all (by simp [hl])]; simpa using q1
    · simp [execOp, ho, Instr.box, newVar, newRow]
  · exact hw.elim

theorem rel_place {b i o k n : Nat} {x : V} (R : RelF S w0 φ h w F) (hp : φ.m b = some (some k, n)) (hr : rdC (rdB (h[b]?) i) o = some x) (h1 : ∀ m e, x ≠ .l m e) (h2 : ∀ cs, x ≠ .lp cs) :
    ∃ v, w.cell? ⟨k, i * n + o, none⟩ = some v ∧ RelC φ x v := by
  obtain ⟨v, f, e1, e2⟩ := R.cell hp hr
  exact ⟨v, e1, (e2.rel h1 h2).1⟩

theorem open_l {b i o m k n : Nat} {els : List (List V)} (R : RelF S w0 φ h w F) (hp : φ.m b = some (some k, n)) (hcell : rdC (rdB (h[b]?) i) o = some (.l m els)) :
    ∃ cap φ', els.length ≤ cap ∧ Rel S w0 φ' (wrH h b i o [.sl h.length 0 els.length cap] ++ [⟨els, m, cap, true⟩]) w ∧ ExtN S w0 h.length φ φ' := by
  obtain ⟨v, B1, x', φ', ⟨cap, hle, rfl, rfl⟩, hc, R', E, hrx⟩ := R.unfold (X := fun B1 x' => ∃ cap, els.length ≤ cap ∧ B1 = ⟨els, m, cap, true⟩ ∧ x' = .sl h.length 0 els.length cap) hp hcell (by
    intro v f hd
    have hT : Go.W.T φ.z w (.l m els) v f := by
      rcases hd with ⟨q, -⟩ | q
      · simp [RelC, RelP, RZ] at q
      · exact q
    simp only [Go.W.T] at hT
    rcases hT with ⟨rfl, ⟨q, rfl⟩, rfl⟩ | ⟨k', c1, ty1, cap, fq1, rfl, q2, q3, q4, q5, rfl, q7⟩
    · refine ⟨(none, m), _, _, ⟨0, Nat.le_refl _, rfl, rfl⟩, relC_of_relV rfl (mk_nil phiPush_new), ?_⟩
      unfold BlkRel; rw [if_pos rfl]; exact ⟨none, phiPush_new, by simp, by simp, rfl, rfl, rfl⟩
    · refine ⟨(some k', m), _, _, ⟨cap, q4, rfl, rfl⟩, relC_of_relV rfl (sl_new q4 _ phiPush_new), ?_⟩
      have hl := tss_lss.1 q7
      have hn : ∀ el ∈ els, el.length = m := fun el hel => by
        obtain ⟨i, hi⟩ := List.mem_iff_getElem?.1 hel
        exact (hl.nth hi).1
      unfold BlkRel; rw [if_pos rfl]
      exact ⟨some k', phiPush_new, hn, q5, c1, ty1, fq1, q2, q3, q4, hl.mono fun x v f _ d => .inr (Go.W.T.mono (FLe.refl _) x v f (fun _ _ => rfl) d), rfl⟩)
  exact ⟨cap, φ', hle, R', E⟩
theorem open_lp {b i o k n : Nat} {cs : List V} (R : RelF S w0 φ h w F) (hp : φ.m b = some (some k, n)) (hcell : rdC (rdB (h[b]?) i) o = some (.lp cs)) :
    ∃ φ', Rel S w0 φ' (wrH h b i o [.ptr h.length 0 0] ++ [⟨[cs], cs.length, 1, true⟩]) w ∧ ExtN S w0 h.length φ φ' := by
  obtain ⟨v, B1, x', φ', ⟨rfl, rfl⟩, hc, R', E, hrx⟩ := R.unfold (X := fun B1 x' => B1 = ⟨[cs], cs.length, 1, true⟩ ∧ x' = .ptr h.length 0 0) hp hcell (by
    intro v f hd
    have hT : Go.W.T φ.z w (.lp cs) v f := by
      rcases hd with ⟨q, -⟩ | q
      · simp [RelC, RelP, RZ] at q
      · exact q
    simp only [Go.W.T] at hT
    obtain ⟨k', c1, ty1, fq1, rfl, q2, q3, rfl, q7⟩ := hT
    refine ⟨(some k', cs.length), _, _, ⟨rfl, rfl⟩, relC_of_relV rfl (ptr_new _ phiPush_new), ?_⟩
    have hl := ts_ls.1 q7
    unfold BlkRel; rw [if_pos rfl]
    refine ⟨some k', phiPush_new, by simp, by simp [LIM], c1, ty1, fq1, q2, by simp [q3], by simp, ?_, rfl⟩
    simp only [Lss]
    exact ⟨trivial, fq1, [], by simp, hl.mono fun x v f _ d => .inr (Go.W.T.mono (FLe.refl _) x v f (fun _ _ => rfl) d), rfl⟩)
  exact ⟨φ', R', E⟩
theorem rdN_some {el : Option (List V)} {o n : Nat} {cs : List V} (h : rdN el o n = some cs) : ∃ l, el = some l ∧ o + n ≤ l.length ∧ cs = (l.drop o).take n := by
  cases el with
  | none => simp [rdN] at h
  | some l =>
    simp only [rdN] at h
    split at h
    · rename_i q; exact ⟨l, rfl, q, (Option.some.inj h).symm⟩
    · cases h
theorem rdN_wr {b i o m : Nat} {acc r : List V} {x y : V} {B1 : Blk} (hcs : rdN (rdB (h[b]?) i) o m = some (acc ++ x :: r)) :
    rdC (rdB (h[b]?) i) (o + acc.length) = some x ∧ rdN (rdB ((wrH h b i (o + acc.length) [y] ++ [B1])[b]?) i) o m = some (acc ++ y :: r) := by
  obtain ⟨l, he, hle, e⟩ := rdN_some hcs
  obtain ⟨B, hb, hl, hel⟩ := rdB_some he
  have hblt : b < h.length := (List.getElem?_eq_some_iff.1 hb).1
  have hm : (acc ++ x :: r).length = m := by rw [e]; simp; omega
  have hx : l[o + acc.length]? = some x := by
    have : (acc ++ x :: r)[acc.length]? = some x := by simp
    rw [e, List.getElem?_take, List.getElem?_drop] at this
    split at this
    · exact this
    · cases this
  refine ⟨by rw [he]; exact hx, ?_⟩
  have hw : (wrH h b i (o + acc.length) [y] ++ [B1])[b]? = some { B with els := B.els.set i (l.set (o + acc.length) y) } := by
    unfold wrH
    rw [List.getElem?_append_left (by simpa using hblt), List.getElem?_set_self hblt, wrB_at hb hel]
    rfl
  rw [hw]
  have hi : i < B.els.length := (List.getElem?_eq_some_iff.1 hel).1
  have : rdB (some { B with els := B.els.set i (l.set (o + acc.length) y) }) i = some (l.set (o + acc.length) y) := by
    obtain ⟨els, n, cap, lv⟩ := B
    simp only at hl; subst hl
    simp only [rdB]
    rw [List.getElem?_set_self hi]
  rw [this]
  show (if o + m ≤ (l.set (o + acc.length) y).length then _ else _) = _
  rw [if_pos (by simpa using hle)]
  congr 1
  apply List.ext_getElem?
  intro j
  have hj := congrArg (fun t => t[j]?) e
  skip
  rw [List.getElem?_take, List.getElem?_drop] at hj ⊢
  by_cases hjm : j < m
  · rw [if_pos hjm] at hj ⊢
    by_cases q : j = acc.length
    · subst q
      rw [List.getElem?_set_self (by simp at hm; omega)]; simp
    · rw [List.getElem?_set_ne (by omega), ← hj]
      by_cases q2 : j < acc.length
      · rw [List.getElem?_append_left q2, List.getElem?_append_left q2]
      · rw [List.getElem?_append_right (by omega), List.getElem?_append_right (by omega)]
        obtain ⟨d, hd⟩ : ∃ d, j - acc.length = d + 1 := ⟨j - acc.length - 1, by omega⟩
        rw [hd]; rfl
  · rw [if_neg hjm, List.getElem?_eq_none]
    simp at hm ⊢; omega
theorem ld_openO {b i o m k n : Nat} : ∀ (r acc : List V) {φ : Phi} {h : H}, Rel S w0 φ h w → φ.m b = some (some k, n) → acc.all cellOk = true → rdN (rdB (h[b]?) i) o m = some (acc ++ r) → ldO K b i o acc r h →
    ∃ φ' cs' h', ExtN S w0 h.length φ φ' ∧ h.length ≤ h'.length ∧ Rel S w0 φ' h' w ∧ K (.agg cs') h' ∧ φ'.m b = some (some k, n) ∧ rdN (rdB (h'[b]?) i) o m = some cs' ∧ cs'.all cellOk = true
  | [], acc, φ, h, R, hp, ha, hr, hk => ⟨φ, acc, h, ExtN.refl .., Nat.le_refl _, R, hk, hp, by simpa using hr, ha⟩
  | x :: r, acc, φ, h, R, hp, ha, hr, hk => by
    have hblt : b < h.length := by
      obtain ⟨l, he, _⟩ := rdN_some hr
      obtain ⟨B, hb, _⟩ := rdB_some he
      exact (List.getElem?_eq_some_iff.1 hb).1
    have plain : cellOk x = true → ldO K b i o (acc ++ [x]) r h → ∃ φ' cs' h', ExtN S w0 h.length φ φ' ∧ h.length ≤ h'.length ∧ Rel S w0 φ' h' w ∧ K (.agg cs') h' ∧ φ'.m b = some (some k, n) ∧ rdN (rdB (h'[b]?) i) o m = some cs' ∧ cs'.all cellOk = true :=
      fun hx hk => ld_openO r (acc ++ [x]) R hp (by simp [ha, hx]) (by simpa using hr) hk
    cases x with
    | l n' els =>
      simp only [ldO] at hk
      obtain ⟨F, RF⟩ := R
      obtain ⟨cap, φ', hle, R', E⟩ := open_l RF hp (rdN_wr (y := V.any) (B1 := Blk.dead) hr).1
      obtain ⟨φ2, cs', h2, q1, q2, q3, q4, q5, q6, q7⟩ := ld_openO r (acc ++ [.sl h.length 0 els.length cap]) R' (by rw [E.m b hblt]; exact hp) (by simp [ha, cellOk]) (by have := (rdN_wr (y := .sl h.length 0 els.length cap) (B1 := ⟨els, n', cap, true⟩) hr).2; simpa using this) (hk cap hle)
      have hlen : (wrH h b i (o + acc.length) [.sl h.length 0 els.length cap] ++ ([⟨els, n', cap, true⟩] : H)).length = h.length + 1 := by simp [wrH]
      rw [hlen] at q1 q2
      exact ⟨φ2, cs', h2, E.trans (q1.mono (by omega)), by omega, q3, q4, q5, q6, q7⟩
    | lp cs =>
      simp only [ldO] at hk
      obtain ⟨F, RF⟩ := R
      obtain ⟨φ', R', E⟩ := open_lp RF hp (rdN_wr (y := V.any) (B1 := Blk.dead) hr).1
      obtain ⟨φ2, cs', h2, q1, q2, q3, q4, q5, q6, q7⟩ := ld_openO r (acc ++ [.ptr h.length 0 0]) R' (by rw [E.m b hblt]; exact hp) (by simp [ha, cellOk]) (by have := (rdN_wr (y := .ptr h.length 0 0) (B1 := ⟨[cs], cs.length, 1, true⟩) hr).2; simpa using this) hk
      have hlen : (wrH h b i (o + acc.length) [.ptr h.length 0 0] ++ ([⟨[cs], cs.length, 1, true⟩] : H)).length = h.length + 1 := by simp [wrH]
      rw [hlen] at q1 q2
      exact ⟨φ2, cs', h2, E.trans (q1.mono (by omega)), by omega, q3, q4, q5, q6, q7⟩
    | s v => simp only [ldO] at hk; exact plain hk.1 hk.2
    | f n' e => simp only [ldO] at hk; exact plain hk.1 hk.2
    | z => simp only [ldO] at hk; exact plain hk.1 hk.2
    | sl b' o' l' c' => simp only [ldO] at hk; exact plain hk.1 hk.2
    | ptr b' i' o' => simp only [ldO] at hk; exact plain hk.1 hk.2
    | pd c => simp only [ldO] at hk; exact plain hk.1 hk.2
    | fn f c => simp only [ldO] at hk; exact plain hk.1 hk.2
    | agg c => simp only [ldO] at hk; exact plain hk.1 hk.2
    | tup c => simp only [ldO] at hk; exact plain hk.1 hk.2
    | any => simp only [ldO] at hk; exact plain hk.1 hk.2
theorem ld_open {b i o m k n : Nat} {cs : List V} {φ : Phi} {h : H} (R : Rel S w0 φ h w) (hp : φ.m b = some (some k, n)) (hr : rdN (rdB (h[b]?) i) o m = some cs) (hk : ldB1 K h b i o cs (cs.all cellOk)) :
    ∃ φ' cs' h', ExtN S w0 h.length φ φ' ∧ h.length ≤ h'.length ∧ Rel S w0 φ' h' w ∧ K (.agg cs') h' ∧ φ'.m b = some (some k, n) ∧ rdN (rdB (h'[b]?) i) o m = some cs' ∧ cs'.all cellOk = true := by
  cases hc : cs.all cellOk with
  | true => rw [hc] at hk; exact ⟨φ, cs, h, ExtN.refl .., Nat.le_refl _, R, hk, hp, hr, hc⟩
  | false => rw [hc] at hk; exact ld_openO cs [] R hp rfl (by simpa using hr) hk

theorem sem_load {t : TypeId} {x : Operand} (ho : o.op = .load t x) (R : Rel S w0 φ h w) (G : RelG C φ.z) (T : RelT φ τ a) (hx : opdOk x = true) (hw : ldK C K h t (ev C τ x)) : Did C.P o a w S w0 φ h.length K := by
  have ex := ev_rel G T x hx
  obtain ⟨F, R⟩ := R
  unfold ldK at hw
  split at hw
  · rename_i b i ob e
    rw [e] at ex
    obtain ⟨k, n, hp, hv⟩ := ptr_rel ex
    unfold ldT at hw
    split at hw
    · rename_i m ha hm
      unfold ldB at hw
      split at hw
      · rename_i cs hcs
        obtain ⟨φ', cs', h', E, hl', ⟨F', R'⟩, hk, hp', hcs', hok⟩ := ld_open ⟨F, R⟩ hp hcs hw
        obtain ⟨h1, l, h2, h3, h4⟩ := R'.agg hp' hcs' hok
        have hl := run_loadCells_list (P := C.P) w ⟨k, i * n + ob, none⟩ l (fun j v e => by rw [addr_add]; exact h4 j v e)
        refine ⟨φ', _, h', w, E, hl', ⟨F', R'⟩, hk, .inl ⟨.agg l.toArray, ?_, ⟨l.toArray, rfl, by simpa using h3⟩⟩⟩
        simp [execOp, ho, Instr.loadAt, hv, Instr.sureAddr, loadVar, run_agg ha, run_sz hm, ← h2, hl]
      · exact hw.elim
    · rename_i ha
      have hrun : ∀ c, w.cell? ⟨k, i * n + ob, none⟩ = some c → (execOp a.eval o).run C.P w = .ok (.value c) w := fun c hc => by
        simp [execOp, ho, Instr.loadAt, hv, Instr.sureAddr, loadVar, run_agg ha, hc]
      unfold ldV at hw
      split at hw
      · -- a slice that the cell owns
        rename_i m els hcell
        obtain ⟨v, B1, x', φ', ⟨cap, hle, rfl, rfl⟩, hc, R', E, hrx⟩ := R.unfold (X := fun B1 x' => ∃ cap, els.length ≤ cap ∧ B1 = ⟨els, m, cap, true⟩ ∧ x' = .sl h.length 0 els.length cap) hp hcell (by
          intro v f hd
          have hT : Go.W.T φ.z w (.l m els) v f := by
            rcases hd with ⟨q, -⟩ | q
            · simp [RelC, RelP, RZ] at q
            · exact q
          simp only [Go.W.T] at hT
          rcases hT with ⟨rfl, ⟨q, rfl⟩, rfl⟩ | ⟨k', c1, ty1, cap, fq1, rfl, q2, q3, q4, q5, rfl, q7⟩
          · refine ⟨(none, m), _, _, ⟨0, Nat.le_refl _, rfl, rfl⟩, relC_of_relV rfl (mk_nil phiPush_new), ?_⟩
            unfold BlkRel; rw [if_pos rfl]; exact ⟨none, phiPush_new, by simp, by simp, rfl, rfl, rfl⟩
          · refine ⟨(some k', m), _, _, ⟨cap, q4, rfl, rfl⟩, relC_of_relV rfl (sl_new q4 _ phiPush_new), ?_⟩
            have hl := tss_lss.1 q7
            have hn : ∀ el ∈ els, el.length = m := fun el hel => by
              obtain ⟨i, hi⟩ := List.mem_iff_getElem?.1 hel
              exact (hl.nth hi).1
            unfold BlkRel; rw [if_pos rfl]
            exact ⟨some k', phiPush_new, hn, q5, c1, ty1, fq1, q2, q3, q4, hl.mono fun x v f _ d => .inr (Go.W.T.mono (FLe.refl _) x v f (fun _ _ => rfl) d), rfl⟩)
        exact ⟨φ', _, _, w, E, by simp [wrH], R', hw cap hle, .inl ⟨v, hrun v hc, relV_of_relC hrx⟩⟩
      · -- a pointer that the cell owns
        rename_i cs hcell
        obtain ⟨v, B1, x', φ', ⟨rfl, rfl⟩, hc, R', E, hrx⟩ := R.unfold (X := fun B1 x' => B1 = ⟨[cs], cs.length, 1, true⟩ ∧ x' = .ptr h.length 0 0) hp hcell (by
          intro v f hd
          have hT : Go.W.T φ.z w (.lp cs) v f := by
            rcases hd with ⟨q, -⟩ | q
            · simp [RelC, RelP, RZ] at q
            · exact q
          simp only [Go.W.T] at hT
          obtain ⟨k', c1, ty1, fq1, rfl, q2, q3, rfl, q7⟩ := hT
          refine ⟨(some k', cs.length), _, _, ⟨rfl, rfl⟩, relC_of_relV rfl (ptr_new _ phiPush_new), ?_⟩
          have hl := ts_ls.1 q7
          unfold BlkRel; rw [if_pos rfl]
          refine ⟨some k', phiPush_new, by simp, by simp [LIM], c1, ty1, fq1, q2, by simp [q3], by simp, ?_, rfl⟩
          simp only [Lss]
          exact ⟨trivial, fq1, [], by simp, hl.mono fun x v f _ d => .inr (Go.W.T.mono (FLe.refl _) x v f (fun _ _ => rfl) d), rfl⟩)
        exact ⟨φ', _, _, w, E, by simp [wrH], R', hw, .inl ⟨v, hrun v hc, relV_of_relC hrx⟩⟩
      · rename_i v hl hlp hcell
        obtain ⟨c, q1, q2⟩ := rel_place R hp hcell (fun m e q => hl m e q) (fun cs q => hlp cs q)
        exact did_val ⟨F, R⟩ hw (hrun c q1) (relV_of_relC q2)
      · exact hw.elim
    · exact hw.elim
  · rename_i cs e
    rw [e] at ex
    obtain ⟨k, off, hv, hz⟩ := pd_rel ex
    unfold ldF at hw
    split at hw
    · rename_i m ha hm
      unfold ldA at hw
      split at hw
      · rename_i cs' hcs
        obtain ⟨hok, hk⟩ := hw
        simp only [rdN] at hcs
        split at hcs
        · rename_i hle
          obtain rfl := Option.some.inj hcs
          simp only [List.drop_zero] at hk hok
          have hz' := RZs.take m hz
          have hlen : (cs.take m).length = m := by simp; omega
          have each : ∃ l : List Value, All2 (RelC φ) (cs.take m) l ∧ ∀ j v, l[j]? = some v → w.cell? ⟨k, off + j, none⟩ = some v := by
            clear hk hok hle hlen
            generalize cs.take m = ds at hz'
            clear hz hv
            induction ds generalizing off with
            | nil => exact ⟨[], trivial, fun j v h => by simp at h⟩
            | cons y ys ih =>
              simp only [RZs] at hz'
              obtain ⟨⟨c, h1, h2⟩, h3⟩ := hz'
              obtain ⟨l, e1, e2⟩ := ih (off + 1) h3
              refine ⟨c :: l, ⟨relC_of_rz h2, e1⟩, fun j v h => ?_⟩
              cases j with
              | zero => simp at h; subst h; exact R.zok _ _ _ h1
              | succ j => have := e2 j v (by simpa using h); rw [show off + (j + 1) = off + 1 + j by omega]; exact this
          obtain ⟨l, h3, h4⟩ := each
          have h2 : l.length = m := by rw [← h3.length]; exact hlen
          have hl := run_loadCells_list (P := C.P) w ⟨k, off, none⟩ l (fun j v e => by rw [addr_add]; exact h4 j v e)
          refine did_val ⟨F, R⟩ hk (v := .agg l.toArray) ?_ ⟨l.toArray, rfl, by simpa using h3⟩
          simp [execOp, ho, Instr.loadAt, hv, Instr.sureAddr, loadVar, run_agg ha, run_sz hm, ← h2, hl]
        · cases hcs
      · exact hw.elim
    · rename_i ha
      unfold ldC at hw
      split at hw
      · rename_i v hc
        obtain ⟨c, h1, h2⟩ := hz.nth hc
        have := R.zok _ _ _ h1
        exact did_val ⟨F, R⟩ hw (v := c) (by simp only [Nat.add_zero] at this; simp [execOp, ho, Instr.loadAt, hv, Instr.sureAddr, loadVar, run_agg ha, this]) (relV_of_rz h2)
      · exact hw.elim
    · exact hw.elim
  · exact hw.elim

end
end Go.W
/- part W8 -/
set_option linter.unusedVariables false
set_option linter.unusedSimpArgs false
namespace Go.W
open Go Go.RowKit

section
variable {C : Cx} {o : Oper} {a : Act} {w : World} {S : Nat → Prop} {w0 : World} {φ : Phi} {K : V → H → Prop} {h : H} {τ : Tau} {F : Nat → Fp}

theorem wrL_len {α : Type} : ∀ (cs : List α) (off : Nat) (xs : List α), (wrL cs off xs).length = cs.length
  | _, _, [] => rfl
  | cs, off, x :: xs => by simp only [wrL]; rw [wrL_len]; simp
theorem wrL_eq {α : Type} : ∀ (xs : List α) (cs : List α) (off : Nat), off + xs.length ≤ cs.length → wrL cs off xs = cs.take off ++ xs ++ cs.drop (off + xs.length)
  | [], cs, off, h => by simp [wrL]
  | x :: xs, cs, off, h => by
    simp only [wrL]
    simp at h
    rw [wrL_eq xs (cs.set off x) (off + 1) (by simp; omega)]
    have h1 : (cs.set off x).take (off + 1) = cs.take off ++ [x] := by
      rw [List.take_set, List.take_succ_eq_append_getElem (by omega : off < cs.length), List.set_append_right _ _ (by simp; omega)]
      simp [Nat.min_eq_left (by omega : off ≤ cs.length)]
    have h2 : (cs.set off x).drop (off + 1 + xs.length) = cs.drop (off + (x :: xs).length) := by
      rw [List.drop_set_of_lt (by omega)]; congr 1; simp; omega
    rw [h1, h2]; simp

theorem Lss.wr {R : V → Value → Fp → Prop} {Q : V → Value → Prop} (hq : ∀ x v, Q x v → R x v []) {n i : Nat} : ∀ {xs : List V} {us : List Value} {els : List (List V)} {el : List V} {vs : List Value} {fp : Fp} {o : Nat},
    All2 Q xs us → Lss R n els vs fp → els[i]? = some el → o + xs.length ≤ el.length →
    ∃ fp', fp'.Sublist fp ∧ Lss R n (els.set i (wrL el o xs)) (wrL vs (i * n + o) us) fp'
  | [], [], els, el, vs, fp, o, _, h, he, _ => ⟨fp, List.Sublist.refl _, by unfold wrL; rw [set_same he]; exact h⟩
  | x :: xs, u :: us, els, el, vs, fp, o, hx, h, he, hl => by
    simp at hl
    obtain ⟨f1, f, f2, x0, v0, rfl, e3, e4, e5, e6⟩ := h.set he (o := o) (by omega)
    have h1 := e6 R (fun _ _ _ _ q => q) x u [] (hq _ _ hx.1)
    have hi : i < els.length := (List.getElem?_eq_some_iff.1 he).1
    obtain ⟨fp', q1, q2⟩ := Lss.wr hq (o := o + 1) hx.2 h1 (el := el.set o x) (by rw [List.getElem?_set_self hi]) (by rw [List.length_set]; omega)
    refine ⟨fp', q1.trans ?_, ?_⟩
    · simp only [List.append_nil, List.append_assoc]
      exact List.Sublist.append (List.Sublist.refl _) (List.sublist_append_right f f2)
    · simp only [wrL]; rw [List.set_set] at q2; exact q2
  | [], _ :: _, _, _, _, _, _, hx, _, _, _ => hx.elim
  | _ :: _, [], _, _, _, _, _, hx, _, _, _ => hx.elim

theorem wr_sound {P : Program} (R : RelF S w0 φ h w F) {b i ob k n : Nat} {xs : List V} {vs : List Value} (hp : φ.m b = some (some k, n)) (hl : fitsB (rdB (h[b]?) i) ob xs.length)
    (hx : All2 (RelC φ) xs vs) (hok : xs.all cellOk = true) : ∃ w', (storeCells ⟨k, i * n + ob, none⟩ vs 0).run P w = .ok () w' ∧ Rel S w0 φ (wrH h b i ob xs) w' := by
  cases he : rdB (h[b]?) i with
  | none => rw [he] at hl; exact hl.elim
  | some el =>
    rw [he] at hl
    simp only [fitsB] at hl
    obtain ⟨B, c, ty, fq, f, hb, hlive, hel, rfl, hc, hlen, hF, hlss, _⟩ := R.elem hp he
    obtain ⟨pp, g1, g2, g3, g4⟩ := R.place hb hlive
    rw [hp] at g1; obtain ⟨rfl, -⟩ := Prod.mk.inj (Option.some.inj g1)
    obtain ⟨c', ty', fq', y1, y2, y3, y4, y5⟩ := g4
    rw [hc] at y1; cases y1
    have hvl := hx.length
    have hlb := hlss.len
    simp at hlb
    have hilt : i < B.els.length := (List.getElem?_eq_some_iff.1 hel).1
    have hfit : i * B.n + ob + vs.length ≤ c.size := by
      have : (i + 1) * B.n ≤ B.els.length * B.n := Nat.mul_le_mul_right _ hilt
      rw [Nat.succ_mul] at this; omega
    have hst := run_storeCells_at P k (i * B.n + ob) ty vs 0 c w hc (by simpa using hfit) (all2_oneCell hok hx)
    obtain ⟨fq2, q1, q2⟩ := hlss.wr (Q := RelC φ) (fun x v q => Dc.leaf q) hx hel hl
    rw [wrL_eq vs c.toList _ (by simpa using hfit)] at q2
    refine ⟨_, hst, ?_⟩
    unfold wrH
    rw [wrB_at hb hel]
    simp only [Nat.add_zero]
    refine R.write (k := k) (ty := ty) (fq := fq) (fq' := fq2) (c' := (c.toList.take (i * B.n + ob) ++ vs ++ c.toList.drop (i * B.n + ob + vs.length)).toArray) hb hlive hp hF
      ⟨rfl, rfl, rfl, by simp, fun j _ hj => setRow_other w k j _ (fun e => hj (by rw [e]))⟩ hlive rfl (setRow_heap w k c _ ty (0, 0) hc) ?_ (by simpa using y3) (by simpa using g3) ?_ q1 (by simpa using q2)
    · simp; rw [← y2]; omega
    · intro e' he'
      rcases List.mem_or_eq_of_mem_set he' with q | q
      · exact g2 e' q
      · subst q; rw [wrL_len]; exact hlen

theorem sem_store {t : TypeId} {p x : Operand} (ho : o.op = .store t p x) (R : Rel S w0 φ h w) (G : RelG C φ.z) (T : RelT φ τ a) (hp : opdOk p = true) (hx : opdOk x = true)
    (hw : stK C K h t (ev C τ x) (ev C τ p)) : Did C.P o a w S w0 φ h.length K := by
  have ep := ev_rel G T p hp
  have ex := ev_rel G T x hx
  obtain ⟨F, R⟩ := R
  unfold stK at hw
  split at hw
  · rename_i b i ob e1
    rw [e1] at ep
    obtain ⟨k, n, hpb, hv⟩ := ptr_rel ep
    unfold stA at hw
    split at hw
    · rename_i cs hcs
      obtain ⟨⟨hsz, hl⟩, hk⟩ := hw
      obtain ⟨q1, q2⟩ := cellsOf_rel hcs ex
      obtain ⟨w', hst, R'⟩ := wr_sound (P := C.P) R hpb hl q1 q2
      refine ⟨φ, .any, _, w', ExtN.refl .., by simp [wrH], R', hk, .inr ⟨?_, rfl⟩⟩
      have hlen : (a.eval x).cells.size = cs.length := by have := q1.length; simp at this; omega
      simp [execOp, ho, Instr.storeAt, hv, Instr.sureAddr, storeVar, run_sz hsz, hlen, hst]
    · exact hw.elim
  · exact hw.elim

theorem sem_nilCheck {x : Operand} (ho : o.op = .nilCheck x) (G : RelG C φ.z) (T : RelT φ τ a) (hx : opdOk x = true) (hw : nilK K h (ev C τ x)) : DidA C.P o a φ (fun x => K x h) := by
  have ex := ev_rel G T x hx
  unfold nilK at hw
  split at hw
  · rename_i b i ob e
    rw [e] at ex
    obtain ⟨k, n, hp, hv⟩ := ptr_rel ex
    exact did_any hw (v := a.eval x) (fun w => by simp [execOp, ho, hv]) ex
  · rename_i cs e
    rw [e] at ex
    obtain ⟨k, off, hv, hz⟩ := pd_rel ex
    exact did_any hw (v := a.eval x) (fun w => by simp [execOp, ho, hv]) ex
  · rename_i f cs e
    rw [e] at ex
    obtain ⟨l, hv, _⟩ := fn_rel ex
    exact did_any hw (v := a.eval x) (fun w => by simp [execOp, ho, hv]) ex
  · rename_i b off len cap e
    rw [e] at ex
    obtain ⟨p, n, hp, hv⟩ := sl_rel ex
    cases p with
    | none => obtain ⟨⟨q, hv⟩, _⟩ := hv; exact did_any hw (v := a.eval x) (fun w => by simp [execOp, ho, hv]) ex
    | some k => simp only at hv; exact did_any hw (v := a.eval x) (fun w => by simp [execOp, ho, hv]) ex
  · exact hw.elim

theorem beq_toList (a b : ByteArray) : (a.toList == b.toList) = decide (a = b) := by
  rw [Bool.eq_iff_iff]
  simp only [beq_iff_eq, decide_eq_true_eq]
  constructor
  · intro h
    rw [ByteArray.toList_eq, ByteArray.toList_eq] at h
    exact ByteArray.ext (Array.toList_inj.1 h)
  · rintro rfl; rfl

theorem run_equal_slice_nil {P : Program} {t e : TypeId} (hu : P.underlying t = some (.slice e)) (p : Option Addr) (n c n' c' : Nat) (w : World) :
    (Op.equal t (.slice p n c) (.slice none n' c')).run P w = .ok p.isNone w := by
  unfold Op.equal; rw [show Op.maxDepth = 9999 + 1 from rfl]; unfold Op.equalIn
  cases p <;> simp only [Sem.run_bind, run_underlying hu, Result.andThen_ok, Sem.run_pure] <;> rfl

theorem exec_bin {P : Program} {op : BinOp} {t u : TypeId} {x y : Operand} (ho : o.op = .binOp op t x y u) : execOp a.eval o = (do pure (.value (← (do eqGuard op t x y (a.eval x) (a.eval y); binOp op t (a.eval x) (a.eval y) : Sem Value))) : Sem Next) := by
  unfold execOp; rw [ho]
theorem did_bin {P : Program} {op : BinOp} {t u : TypeId} {x y : Operand} (ho : o.op = .binOp op t x y u) {v : Value} {y' : V} (hk : K y' h) (r : RelV φ y' v)
    (hr : ∀ w, (do eqGuard op t x y (a.eval x) (a.eval y); binOp op t (a.eval x) (a.eval y) : Sem Value).run P w = .ok v w) : DidA P o a φ fun x => K x h :=
  did_any hk (v := v) (fun w => by rw [exec_bin (P := P) ho, Sem.run_bind, hr]; rfl) r

theorem int_eq (p q : Int) : decide (p = q) = (p == q) := by by_cases h : p = q <;> simp [h]
theorem scalar_agg {P : Program} {t : TypeId} (h : scalarK (tK P t) = true) : tAgg P t = some false := by
  unfold tK at h
  unfold tAgg
  split at h <;> first | (simp [scalarK] at h; done) | (rename_i hu; rw [hu])
theorem run_part {P : Program} {t : TypeId} {xs : Array Value} {i : Nat} {v : Value} (h : tAgg P t = some false) (hv : xs[i]? = some v) (w : World) : (part t xs i).run P w = .ok v w := by
  simp [part, run_agg h, hv]
theorem run_eqFields {P : Program} {d : Nat} {xs ys : Array Value} {w : World} : ∀ (fs : List Field) (i : Nat) (cs ds : List V) (r : Bool), flatFields P i fs = true → kindsOk (fs.map fun f => tK P f.type) cs = true → kindsOk (fs.map fun f => tK P f.type) ds = true →
    All2 (RelC φ) cs (xs.toList.drop i) → All2 (RelC φ) ds (ys.toList.drop i) → eqCells cs ds = some r → (Op.eqFields (d + 1) xs ys fs).run P w = .ok r w
  | [], i, cs, ds, r, _, hk, hk', hx, hy, he => by
    cases cs with
    | cons c cs => simp [kindsOk] at hk
    | nil =>
      cases ds with
      | cons c cs => simp [kindsOk] at hk'
      | nil => simp [eqCells] at he; subst he; simp [Op.eqFields]
  | f :: fs, i, cs, ds, r, hf, hk, hk', hx, hy, he => by
    simp only [flatFields, Bool.and_eq_true, bne_iff_ne, ne_eq, beq_iff_eq] at hf
    obtain ⟨⟨⟨hname, rfl⟩, hsc⟩, hrest⟩ := hf
    have hag := scalar_agg hsc
    simp only [List.map_cons] at hk hk'
    cases cs with
    | nil => unfold kindsOk at hk; split at hk <;> simp_all
    | cons c cs =>
    cases ds with
    | nil => unfold kindsOk at hk'; split at hk' <;> simp_all
    | cons e ds =>
    cases hxd : xs.toList.drop f.offset with
    | nil => rw [hxd] at hx; exact hx.elim
    | cons u us =>
    cases hyd : ys.toList.drop f.offset with
    | nil => rw [hyd] at hy; exact hy.elim
    | cons v vs =>
    rw [hxd] at hx; rw [hyd] at hy
    have hxi : xs[f.offset]? = some u := by
      have := congrArg (fun l => l[0]?) hxd
      simpa using this
    have hyi : ys[f.offset]? = some v := by
      have := congrArg (fun l => l[0]?) hyd
      simpa using this
    have hxs : xs.toList.drop (f.offset + 1) = us := by rw [← List.drop_drop, hxd]; rfl
    have hys : ys.toList.drop (f.offset + 1) = vs := by rw [← List.drop_drop, hyd]; rfl
    have go : ∀ (rest : Bool), kindsOk (fs.map fun f => tK P f.type) cs = true → kindsOk (fs.map fun f => tK P f.type) ds = true → eqCells cs ds = some rest → (Op.eqFields (d + 1) xs ys fs).run P w = .ok rest w :=
      fun rest h1 h2 h3 => run_eqFields fs (f.offset + 1) cs ds rest hrest h1 h2 (by rw [hxs]; exact hx.2) (by rw [hys]; exact hy.2) h3
    have fin : ∀ (b rest : Bool), (Op.equalIn (d + 1) f.type u v).run P w = .ok b w → (Op.eqFields (d + 1) xs ys fs).run P w = .ok rest w → (Op.eqFields (d + 1) xs ys (f :: fs)).run P w = .ok (b && rest) w := by
      intro b rest h1 h2
      simp only [Op.eqFields, hname, ne_eq, not_false_eq_true, if_true, Sem.run_bind, run_part hag hxi, run_part hag hyi, Result.andThen_ok, h1]
      cases b <;> simp [h2]
    unfold eqCells at he
    split at he
    · rename_i e1 _; cases e1
    · rename_i k p xs' k' q ys' e1 e2
      cases e1; cases e2
      obtain ⟨rfl, -⟩ : u = .int k p ∧ _ := by simpa [RelC, RelP, RZ] using hx.1
      obtain ⟨rfl, -⟩ : v = .int k' q ∧ _ := by simpa [RelC, RelP, RZ] using hy.1
      split at he
      · rename_i rest hr
        split at he
        · rename_i hkk
          subst hkk
          obtain rfl := Option.some.inj he
          cases htk : tK P f.type with
          | int k0 =>
            rw [htk] at hk hk'
            simp only [kindsOk, Bool.and_eq_true, decide_eq_true_eq] at hk hk'
            rw [int_eq]
            exact fin _ _ (run_equalIn_int w d f.type k k0 p q (tK_int htk)) (go rest hk.2 hk'.2 hr)
          | _ => rw [htk] at hk; simp [kindsOk] at hk
        · cases he
      · cases he
    · rename_i p xs' q ys' e1 e2
      cases e1; cases e2
      obtain ⟨rfl, -⟩ : u = .string p ∧ _ := by simpa [RelC, RelP, RZ] using hx.1
      obtain ⟨rfl, -⟩ : v = .string q ∧ _ := by simpa [RelC, RelP, RZ] using hy.1
      split at he
      · rename_i rest hr
        obtain rfl := Option.some.inj he
        cases htk : tK P f.type with
        | string =>
          rw [htk] at hk hk'
          simp only [kindsOk] at hk hk'
          rw [← beq_toList]
          exact fin _ _ (run_equalIn_string w d f.type p q (tK_string htk)) (go rest hk hk' hr)
        | _ => rw [htk] at hk; simp [kindsOk] at hk
      · cases he
    · rename_i p xs' q ys' e1 e2
      cases e1; cases e2
      obtain ⟨rfl, -⟩ : u = .bool p ∧ _ := by simpa [RelC, RelP, RZ] using hx.1
      obtain ⟨rfl, -⟩ : v = .bool q ∧ _ := by simpa [RelC, RelP, RZ] using hy.1
      split at he
      · rename_i rest hr
        obtain rfl := Option.some.inj he
        cases htk : tK P f.type with
        | bool =>
          rw [htk] at hk hk'
          simp only [kindsOk] at hk hk'
          exact fin _ _ (run_equalIn_bool w d f.type p q (tK_bool htk)) (go rest hk hk' hr)
        | _ => rw [htk] at hk; simp [kindsOk] at hk
      · cases he
    · cases he

theorem sem_binK {op : BinOp} {t u : TypeId} {x y : Operand} (ho : o.op = .binOp op t x y u) (G : RelG C φ.z) (T : RelT φ τ a) (hx : opdOk x = true) (hy : opdOk y = true)
    (hw : binK C K h t op (ev C τ x) (ev C τ y)) : DidA C.P o a φ (fun x => K x h) := by
  have ex := ev_rel G T x hx
  have ey := ev_rel G T y hy
  unfold binK at hw
  split at hw
  · -- integers
    rename_i k p k' q e1 e2
    rw [e1] at ex; rw [e2] at ey
    obtain ⟨ex, -⟩ := s_rel ex
    obtain ⟨ey, -⟩ := s_rel ey
    simp only [intB, int_eq] at hw
    split at hw <;> first
      | exact hw.elim
      | (obtain ⟨rfl, hk⟩ := hw
         refine did_bin (P := C.P) ho hk (mk_s rfl) fun w => ?_
         rw [ex, ey]
         simp [go_sem, binOp, Op.intArith, Op.intCmp, bne]; done)
      | (obtain ⟨⟨rfl, hc⟩, hk⟩ := hw
         refine did_bin (P := C.P) ho hk (mk_s rfl) fun w => ?_
         rw [ex, ey]
         simp [go_sem, binOp, Op.intDiv, hc]; done)
      | (obtain ⟨⟨hc1, hc2⟩, hk⟩ := hw
         refine did_bin (P := C.P) ho hk (mk_s rfl) fun w => ?_
         rw [ex, ey]
         simp only [eqGuard_at_int, binOp_shr, binOp_shl, shift_shr _ _ _ _ hc1 hc2, shift_shl _ _ _ _ hc1 hc2, Sem.run_bind, Sem.run_pure, Result.andThen_ok]; done)
      | (obtain ⟨rfl, hk⟩ := hw
         refine did_bin (P := C.P) ho hk (mk_s rfl) fun w => ?_
         rw [ex, ey]
         simp [go_sem, binOp, Op.intBits, bitAnd, bitOr, bitXor, bitAndNot]; done)
  · -- texts
    rename_i p q e1 e2
    rw [e1] at ex; rw [e2] at ey
    obtain ⟨ex, -⟩ := s_rel ex
    obtain ⟨ey, -⟩ := s_rel ey
    unfold strB at hw
    split at hw <;> first
      | exact hw.elim
      | (refine did_bin (P := C.P) ho hw (mk_s rfl) fun w => ?_
         rw [ex, ey]
         simp [go_sem, eqGuard_at_string, binOp, Op.stringOp, beq_toList]; done)
      | (obtain ⟨hc, hk⟩ := hw
         refine did_bin (P := C.P) ho hk (mk_s (by simpa [one, ByteArray.size_append] using hc)) fun w => ?_
         rw [ex, ey]
         have : ((p.size : Int) + (q.size : Int)) ≤ 9223372036854775807 := by unfold LIM at hc; omega
         simp [go_sem, eqGuard_at_string, binOp, Op.stringOp, this])
  · -- truths
    rename_i p q e1 e2
    rw [e1] at ex; rw [e2] at ey
    obtain ⟨ex, -⟩ := s_rel ex
    obtain ⟨ey, -⟩ := s_rel ey
    obtain ⟨ht, hw⟩ := hw
    have hu := tK_bool (isT_bool ht)
    have he : ∀ w, (Op.equal t (.bool p) (.bool q)).run C.P w = .ok (p == q) w := fun w => by
      unfold Op.equal; rw [show Op.maxDepth = 9999 + 1 from rfl]; unfold Op.equalIn; simp only [Sem.run_bind, run_underlying hu, Result.andThen_ok, Sem.run_pure]
    unfold boolB at hw
    split at hw <;> first
      | exact hw.elim
      | (refine did_bin (P := C.P) ho hw (mk_s rfl) fun w => ?_
         rw [ex, ey]
         simp [eqGuard_at_bool, binOp, he, bne]; done)
  · rename_i b i ob e1 e2
    rw [e1] at ex; rw [e2] at ey
    obtain ⟨ht, hw⟩ := hw
    obtain ⟨e, hu⟩ := tK_ptr (isT_ptr ht)
    obtain ⟨ey, -⟩ := s_rel ey
    obtain ⟨k, n, _, ex⟩ := ptr_rel ex
    have he : ∀ ad w, (Op.equal t (.pointer (some ad)) (.pointer none)).run C.P w = .ok false w := fun ad w => by
      unfold Op.equal; rw [show Op.maxDepth = 9999 + 1 from rfl]; unfold Op.equalIn; simp only [Sem.run_bind, run_underlying hu, Result.andThen_ok, Sem.run_pure]
    unfold eqB at hw
    split at hw <;> first
      | exact hw.elim
      | (refine did_bin (P := C.P) ho hw (mk_s rfl) fun w => ?_
         rw [ex, ey]
         simp [eqGuard, binOp, he]; done)
  · rename_i cs e1 e2
    rw [e1] at ex; rw [e2] at ey
    obtain ⟨ht, hw⟩ := hw
    obtain ⟨e, hu⟩ := tK_ptr (isT_ptr ht)
    obtain ⟨ey, -⟩ := s_rel ey
    obtain ⟨k, off, ex, _⟩ := pd_rel ex
    have he : ∀ ad w, (Op.equal t (.pointer (some ad)) (.pointer none)).run C.P w = .ok false w := fun ad w => by
      unfold Op.equal; rw [show Op.maxDepth = 9999 + 1 from rfl]; unfold Op.equalIn; simp only [Sem.run_bind, run_underlying hu, Result.andThen_ok, Sem.run_pure]
    unfold eqB at hw
    split at hw <;> first
      | exact hw.elim
      | (refine did_bin (P := C.P) ho hw (mk_s rfl) fun w => ?_
         rw [ex, ey]
         simp [eqGuard, binOp, he]; done)
  · rename_i e1 e2
    rw [e1] at ex; rw [e2] at ey
    obtain ⟨ht, hw⟩ := hw
    obtain ⟨e, hu⟩ := tK_ptr (isT_ptr ht)
    obtain ⟨ey, -⟩ := s_rel ey
    obtain ⟨ex, -⟩ := s_rel ex
    have he : ∀ w, (Op.equal t (.pointer none) (.pointer none)).run C.P w = .ok true w := fun w => by
      unfold Op.equal; rw [show Op.maxDepth = 9999 + 1 from rfl]; unfold Op.equalIn; simp only [Sem.run_bind, run_underlying hu, Result.andThen_ok, Sem.run_pure]; rfl
    unfold eqB at hw
    split at hw <;> first
      | exact hw.elim
      | (refine did_bin (P := C.P) ho hw (mk_s rfl) fun w => ?_
         rw [ex, ey]
         simp [eqGuard, binOp, he]; done)
  · rename_i xs ys e1 e2
    rw [e1] at ex; rw [e2] at ey
    obtain ⟨⟨hs, hk1, hk2⟩, hw⟩ := hw
    obtain ⟨xl, ex, rx⟩ := ex
    obtain ⟨yl, ey, ry⟩ := ey
    unfold eqStruct at hs
    split at hs
    · rename_i fs hu
      simp only [Bool.and_eq_true, Bool.not_eq_true'] at hs
      obtain ⟨⟨h1, h2⟩, h3⟩ := hs
      have hfo : C.P.fieldsOf t = fs := by unfold Program.fieldsOf; rw [hu]
      have hu' : C.P.underlying t = some (.struct (C.P.fieldsOf t)) := by rw [hfo]; exact hu
      have hft : fieldTK C.P t = fs.toList.map fun f => tK C.P f.type := by unfold fieldTK; rw [hu]
      rw [hft] at hk1 hk2
      unfold eqA at hw
      split at hw
      · rename_i r hr
        have he : ∀ w, (Op.equalIn 10000 t (.agg xl) (.agg yl)).run C.P w = .ok r w := fun w => by
          rw [show (10000 : Nat) = 9998 + 1 + 1 from rfl, run_equalIn_struct w _ t xl yl hu' h1, hfo]
          exact run_eqFields fs.toList 0 xs ys r h3 hk1 hk2 (by simpa using rx) (by simpa using ry) hr
        unfold eqB at hw
        split at hw
        · refine did_bin (P := C.P) ho hw (mk_s rfl) fun w => ?_
          rw [ex, ey]
          simp only [Sem.run_bind, run_eqGuard_agg _ _ _ _ _ _ _ h2, Result.andThen_ok, run_eql_struct, he]
        · refine did_bin (P := C.P) ho hw (mk_s rfl) fun w => ?_
          rw [ex, ey]
          simp only [Sem.run_bind, run_eqGuard_agg _ _ _ _ _ _ _ h2, Result.andThen_ok, run_neq_struct, he]
        · exact hw.elim
      · exact hw.elim
    · cases hs
  · exact hw.elim

theorem sem_binOp {op : BinOp} {t u : TypeId} {x y : Operand} (ho : o.op = .binOp op t x y u) (G : RelG C φ.z) (T : RelT φ τ a) (hx : opdOk x = true) (hy : opdOk y = true)
    (hw : binR C K h t op (ev C τ x) (ev C τ y) (isNil y)) : DidA C.P o a φ (fun x => K x h) := by
  have ex := ev_rel G T x hx
  unfold binR at hw
  split at hw
  · exact sem_binK ho G T hx hy hw
  · -- nil slice
    rename_i hn
    have ey : ∃ n c, a.eval y = .slice none n c ∧ y = .const (.slice none n c) := by
      unfold isNil at hn
      split at hn <;> first | (cases hn; done) | exact ⟨_, _, rfl, rfl⟩
    obtain ⟨n', c', ey, rfl⟩ := ey
    have nilD : ∀ {len : Nat} {p : Option Addr} {n c : Nat} {e : TypeId}, C.P.underlying t = some (.slice e) → a.eval x = .slice p n c → (0 < len → p.isNone = false) → nilB K h len op → DidA C.P o a φ (fun x => K x h) := by
      intro len p n c e hu ex hp hw
      unfold nilB at hw
      split at hw
      · refine did_bin (P := C.P) ho (hw _ hp) (mk_s rfl) fun w => ?_
        rw [ex, ey]
        simp [eqGuard_at_slice, binOp, run_equal_slice_nil hu]
      · refine did_bin (P := C.P) ho (hw (!p.isNone) (fun q => by simp [hp q])) (mk_s rfl) fun w => ?_
        rw [ex, ey]
        simp [eqGuard_at_slice, binOp, run_equal_slice_nil hu]
      · exact hw.elim
    unfold nilC at hw
    split at hw
    · rename_i b off len cap e1
      rw [e1] at ex
      obtain ⟨ht, hw⟩ := hw
      obtain ⟨e, ht⟩ := isT_slice ht
      obtain ⟨p, n, _, hv⟩ := sl_rel ex
      cases p with
      | none => obtain ⟨⟨q, hv⟩, rfl, _⟩ := hv; exact nilD (tK_slice ht) hv (fun q => absurd q (by omega)) hw
      | some k => exact nilD (tK_slice ht) hv (fun _ => rfl) hw
    · rename_i n els e1
      rw [e1] at ex
      obtain ⟨ht, hw⟩ := hw
      obtain ⟨e, ht⟩ := isT_slice ht
      rcases f_rel ex with ⟨rfl, q, hv⟩ | ⟨k, off, cap, hv, _⟩
      · exact nilD (tK_slice ht) hv (fun q => by simp at q) hw
      · exact nilD (tK_slice ht) hv (fun _ => rfl) hw
    · rename_i e1
      rw [e1] at ex
      obtain ⟨ht, hw⟩ := hw
      obtain ⟨e, ht⟩ := isT_slice ht
      obtain ⟨p, hv⟩ := z_rel ex
      exact nilD (tK_slice ht) hv (fun q => absurd q (by omega)) hw
    · exact hw.elim
  · -- nil interface
    rename_i hn
    have ey : a.eval y = .nilIface ∧ y = .const .nilIface := by
      unfold isNil at hn
      split at hn <;> first | (cases hn; done) | exact ⟨rfl, rfl⟩
    obtain ⟨ey, rfl⟩ := ey
    have hu : isT (tK C.P t) .iface → ∃ ms, C.P.underlying t = some (.interface ms) := fun ht => by
      have : tK C.P t = .iface := by revert ht; cases tK C.P t <;> first | (intro _; rfl) | exact fun ht => ht.elim
      unfold tK at this
      split at this <;> first | (cases this; done) | (rename_i hu; exact ⟨_, hu⟩)
    unfold nilI at hw
    split at hw
    · rename_i e1
      rw [e1] at ex
      obtain ⟨ex, -⟩ := s_rel ex
      obtain ⟨ht, hw⟩ := hw
      obtain ⟨ms, hu⟩ := hu ht
      have he : ∀ w, (Op.equal t .nilIface .nilIface).run C.P w = .ok true w := fun w => by
        unfold Op.equal; rw [show Op.maxDepth = 9999 + 1 from rfl]; unfold Op.equalIn; simp only [Sem.run_bind, run_underlying hu, Result.andThen_ok, Sem.run_pure]
      unfold eqB at hw
      split at hw <;> first
        | exact hw.elim
        | (refine did_bin (P := C.P) ho hw (mk_s rfl) fun w => ?_
           rw [ex, ey]
           simp [eqGuard, binOp, he]; done)
    · rename_i t' v' e1
      rw [e1] at ex
      obtain ⟨ex, -⟩ := s_rel ex
      obtain ⟨ht, hw⟩ := hw
      obtain ⟨ms, hu⟩ := hu ht
      have he : ∀ w, (Op.equal t (.iface t' v') .nilIface).run C.P w = .ok false w := fun w => by
        unfold Op.equal; rw [show Op.maxDepth = 9999 + 1 from rfl]; unfold Op.equalIn; simp only [Sem.run_bind, run_underlying hu, Result.andThen_ok, Sem.run_pure]
      unfold eqB at hw
      split at hw <;> first
        | exact hw.elim
        | (refine did_bin (P := C.P) ho hw (mk_s rfl) fun w => ?_
           rw [ex, ey]
           simp [eqGuard, binOp, he]; done)
    · exact hw.elim

end
end Go.W
/- part W9 -/
set_option linter.unusedVariables false
set_option linter.unusedSimpArgs false
namespace Go.W
open Go Go.RowKit

section
variable {C : Cx} {o : Oper} {a : Act} {w : World} {S : Nat → Prop} {w0 : World} {φ : Phi} {K : V → H → Prop} {h : H} {τ : Tau} {F : Nat → Fp}

theorem sem_unOp {op : UnOp} {t : TypeId} {x : Operand} (ho : o.op = .unOp op t x) (G : RelG C φ.z) (T : RelT φ τ a) (hx : opdOk x = true)
    (hw : unK K h op (ev C τ x)) : DidA C.P o a φ (fun x => K x h) := by
  have ex := ev_rel G T x hx
  unfold unK at hw
  split at hw
  · rename_i b e
    rw [e] at ex
    obtain ⟨ex, -⟩ := s_rel ex
    exact did_any hw (v := .bool (!b)) (fun w => by simp [execOp, ho, ex, Op.unary]) (mk_s rfl)
  · rename_i k n e
    rw [e] at ex
    obtain ⟨ex, -⟩ := s_rel ex
    exact did_any hw (v := .int k (k.wrap (0 - n))) (fun w => by simp [execOp, ho, ex, Op.unary, Op.intArith]) (mk_s rfl)
  · exact hw.elim

theorem byteOf_rel {el : List V} {b : UInt8} (h : byteOf el = some b) : ∃ n, el = [.s (.int .u8 n)] ∧ b = UInt8.ofNat n.toNat := by
  unfold byteOf at h
  split at h
  · rename_i n; exact ⟨n, rfl, (Option.some.inj h).symm⟩
  · cases h
theorem bytesOf_nth : ∀ {els : List (List V)} {l : List UInt8}, bytesOf els = some l → els.length = l.length ∧ ∀ (j : Nat) (hj : j < l.length), ∃ n, els[j]? = some [.s (.int .u8 n)] ∧ l[j] = UInt8.ofNat n.toNat
  | [], l, h => by simp only [bytesOf, Option.some.injEq] at h; subst h; exact ⟨rfl, fun j hj => by simp at hj⟩
  | el :: els, l, h => by
    simp only [bytesOf] at h
    split at h
    · rename_i b l' h1 h2
      obtain rfl := Option.some.inj h
      obtain ⟨n, rfl, rfl⟩ := byteOf_rel h1
      obtain ⟨q1, q2⟩ := bytesOf_nth h2
      refine ⟨by simp [q1], fun j hj => ?_⟩
      cases j with
      | zero => exact ⟨n, rfl, rfl⟩
      | succ j => obtain ⟨n', e1, e2⟩ := q2 j (by simpa using hj); exact ⟨n', by simpa using e1, by simpa using e2⟩
    · cases h

theorem bytesIn_nth : ∀ {els : List (List V)} {j : Nat} {n : Int}, bytesIn els → els[j]? = some [.s (.int .u8 n)] → 0 ≤ n ∧ n < 256
  | [], j, n, _, h => by simp at h
  | el :: els, j, n, hb, h => by
    unfold bytesIn at hb
    split at hb
    · rename_i e; cases e
    · rename_i m r e
      cases e
      cases j with
      | zero => simp at h; subst h; exact hb.1
      | succ j => exact bytesIn_nth hb.2 (by simpa using h)
    · exact hb.elim

theorem bytes_run {P : Program} {w : World} {src dst e : TypeId} {k off cap : Nat} {els : List (List V)} {l : List UInt8} (hs : P.underlying src = some (.slice e)) (he : P.underlying e = some (.int .u8)) (hd : P.underlying dst = some .string)
    (hb : bytesOf els = some l) (hu : bytesIn els) (hc : ∀ j n, els[j]? = some [.s (.int .u8 n)] → w.cell? ⟨k, off + j, none⟩ = some (.int .u8 n)) :
    (convert src dst (.slice (some ⟨k, off, none⟩) els.length cap)).run P w = .ok (.string ⟨l.toArray⟩) w := by
  obtain ⟨q1, q2⟩ := bytesOf_nth hb
  rw [q1]
  refine run_convert_bytes_back w src dst e _ cap l hs he hd fun j hj => ?_
  obtain ⟨n, e1, e2⟩ := q2 j hj
  rw [addr_add, hc j n e1, e2]
  obtain ⟨h0, h1⟩ := bytesIn_nth hu e1
  congr 2
  rw [UInt8.toNat_ofNat']; omega
theorem str_one (l : List UInt8) (h : l.length ≤ LIM) : one (.string ⟨l.toArray⟩) = true := by simp [one, ByteArray.size, h]

theorem sem_convert {src dst : TypeId} {x : Operand} (ho : o.op = .convert src dst x) (R : Rel S w0 φ h w) (G : RelG C φ.z) (T : RelT φ τ a) (hx : opdOk x = true)
    (hw : cvK C K h (tK C.P src) (tK C.P dst) (ev C τ x)) : ∃ x' v, K x' h ∧ (execOp a.eval o).run C.P w = .ok (.value v) w ∧ RelV φ x' v := by
  have ex := ev_rel G T x hx
  obtain ⟨F, R⟩ := R
  unfold cvK at hw
  split at hw
  · rename_i k' k k'' n e1 e2 e3
    rw [e3] at ex
    obtain ⟨ex, -⟩ := s_rel ex
    refine ⟨_, .int k (k.wrap n), hw, ?_, mk_s rfl⟩
    simp [execOp, ho, ex, convert, run_underlying (tK_int e1), run_underlying (tK_int e2), Conv.intToInt]
  · rename_i s e1 e2 e3
    rw [e3] at ex
    obtain ⟨ex, h1⟩ := s_rel ex
    refine ⟨_, .string s, hw, ?_, mk_s h1⟩
    simp [execOp, ho, ex, convert, run_underlying (tK_string e1), run_underlying (tK_string e2)]
  · rename_i k1 k2 v1 e e1 e2
    have hs := tK_slice e1
    have hd := tK_string e2
    have fin : ∀ {k off cap : Nat} {els : List (List V)}, tK C.P e = .int .u8 → a.eval x = .slice (some ⟨k, off, none⟩) els.length cap → els.length ≤ LIM → bytesIn els → (∀ j n, els[j]? = some [.s (.int .u8 n)] → w.cell? ⟨k, off + j, none⟩ = some (.int .u8 n)) → cvBytes K h (bytesOf els) →
        ∃ x' v, K x' h ∧ (execOp a.eval o).run C.P w = .ok (.value v) w ∧ RelV φ x' v := by
      intro k off cap els he hv hlim hu hc hk
      unfold cvBytes at hk
      split at hk
      · rename_i l hl
        have := bytes_run (P := C.P) (w := w) (cap := cap) hs (tK_int he) hd hl hu hc
        exact ⟨_, .string ⟨l.toArray⟩, hk, by simp only [execOp, ho, hv, Sem.run_bind, this, Result.andThen_ok, Sem.run_pure], mk_s (str_one l (by rw [← (bytesOf_nth hl).1]; exact hlim))⟩
      · exact hk.elim
    have nil : ∀ {n c : Nat}, tK C.P e = .int .u8 → a.eval x = .slice none n c → K (.s (.string ByteArray.empty)) h → ∃ x' v, K x' h ∧ (execOp a.eval o).run C.P w = .ok (.value v) w ∧ RelV φ x' v := by
      intro n c he hv hk
      have := run_convert_bytes_nil (P := C.P) w src e hs (tK_int he) n c dst hd
      exact ⟨_, .string .empty, hk, by simp only [execOp, ho, hv, Sem.run_bind, this, Result.andThen_ok, Sem.run_pure], mk_s rfl⟩
    have emp : (⟨([] : List UInt8).toArray⟩ : ByteArray) = ByteArray.empty := rfl
    have nilq : ∀ {q : Option Addr}, tK C.P e = .int .u8 → a.eval x = .slice q 0 0 → K (.s (.string ByteArray.empty)) h → ∃ x' v, K x' h ∧ (execOp a.eval o).run C.P w = .ok (.value v) w ∧ RelV φ x' v := by
      intro q he hv hk
      cases q with
      | none => exact nil he hv hk
      | some ad =>
        have := run_convert_bytes_back (P := C.P) w src dst e ad 0 [] hs (tK_int he) hd (fun j hj => by simp at hj)
        exact ⟨_, .string .empty, hk, by
          have this' : (convert src dst (.slice (some ad) 0 0)).run C.P w = .ok (.string .empty) w := this
          simp only [execOp, ho, hv, Sem.run_bind, this', Result.andThen_ok, Sem.run_pure], mk_s rfl⟩
    unfold cvSl at hw
    split at hw
    · rename_i n els e3
      rw [e3] at ex
      obtain ⟨⟨he, rfl, hu⟩, hk⟩ := hw
      rcases f_rel ex with ⟨rfl, q, hv⟩ | ⟨k, off, cap, hv, h1, h2, h3⟩
      · exact nilq he hv (by simpa [cvBytes, bytesOf, emp] using hk)
      · refine fin he hv h2 hu (fun j n hj => ?_) hk
        obtain ⟨_, q⟩ := h3.nth hj
        obtain ⟨c, q1, q2⟩ := q.nth (j := 0) rfl
        simp only [RZ] at q2
        have := R.zok _ _ _ q1
        rw [q2.1] at this
        simpa using this
    · rename_i e3
      rw [e3] at ex
      obtain ⟨p, hv⟩ := z_rel ex
      obtain ⟨he, hk⟩ := hw
      exact nilq he hv hk
    · rename_i b off len cap e3
      rw [e3] at ex
      obtain ⟨⟨he, hst⟩, hk⟩ := hw
      unfold cvBytes1 at hk
      split at hk
      · rename_i els hels
        obtain ⟨hu, hk⟩ := hk
        unfold elsOf at hels
        split at hels
        · rename_i bels bn bcap hb
          split at hels
          · rename_i hle
            obtain rfl := Option.some.inj hels
            rw [hb] at hst
            simp only [strideB, Option.some.injEq] at hst
            subst hst
            obtain ⟨p, n, hp, hv⟩ := sl_rel ex
            obtain ⟨pp, g1, g2, g3, g4⟩ := R.place hb rfl
            rw [hp] at g1; obtain ⟨rfl, rfl⟩ := Prod.mk.inj (Option.some.inj g1)
            have hlen : ((bels.drop off).take len).length = len := by simp; omega
            cases p with
            | none =>
              obtain ⟨⟨q, hv⟩, rfl, rfl, rfl⟩ := hv
              obtain ⟨hB, -⟩ := g4
              simp only at hB; subst hB
              have hk' : K (.s (.string ByteArray.empty)) h := by simpa [cvBytes, bytesOf, emp] using hk
              exact nilq he hv hk'
            | some k =>
              simp only [Nat.mul_one] at hv
              obtain ⟨c, ty, fq, y1, y2, y3, y4, y5⟩ := g4
              refine fin (k := k) (off := off) (cap := cap) he (by rw [hlen]; exact hv) (by simp only at g3; rw [hlen]; omega) hu (fun j n hj => ?_) hk
              rw [List.getElem?_take] at hj
              split at hj
              · rw [List.getElem?_drop] at hj
                obtain ⟨v, f, r1, r2, _⟩ := y4.cell hj (o := 0) rfl
                have r3 := (r2.rel (fun _ _ q => by cases q) (fun _ q => by cases q)).1
                simp only [RelC, RelP, RZ] at r3
                rw [r3.1] at r1
                simp only [World.cell?, y1]
                rw [← Array.getElem?_toList]; simpa using r1
              · cases hj
          · cases hels
        · cases hels
      · exact hk.elim
    · exact hw.elim
  · exact hw.elim

theorem rep_list (z : Array Value) : ∀ len, (List.range (len * z.size)).map (fun x => z[x % z.size]!) = (List.replicate len z.toList).flatten
  | 0 => by simp
  | len + 1 => by
    have e1 : (List.range z.size).map (fun x => z[x % z.size]!) = z.toList := by
      apply List.ext_getElem?
      intro i
      by_cases hi : i < z.size
      · rw [List.getElem?_map, List.getElem?_range hi, Option.map_some, Nat.mod_eq_of_lt hi, Array.getElem?_toList, getElem!_pos z i hi, Array.getElem?_eq_getElem hi]
      · rw [List.getElem?_eq_none (by simp; omega), List.getElem?_eq_none (by simp; omega)]
    have e2 : (List.range (len * z.size)).map ((fun x => z[x % z.size]!) ∘ (z.size + ·)) = (List.range (len * z.size)).map (fun x => z[x % z.size]!) :=
      List.map_congr_left fun x _ => by show z[(z.size + x) % z.size]! = z[x % z.size]!; rw [Nat.add_mod_left]
    rw [Nat.succ_mul, Nat.add_comm, List.range_add, List.map_append, List.map_map, e1, e2, rep_list z len, List.replicate_succ, List.flatten_cons]

theorem rep_cells (z : Array Value) (n len : Nat) (hz : z.size = n) : (Array.range (len * n)).map (fun x => z[x % z.size]!) = ((List.replicate len z.toList).flatten).toArray := by
  subst hz
  apply Array.ext'
  rw [← rep_list]
  simp

theorem rep_flat (z : List Value) (len : Nat) : (List.replicate len (z.map ofV1)).flatten = ((List.replicate len z).flatten).map ofV1 := by
  induction len with
  | zero => rfl
  | succ n ih => rw [List.replicate_succ, List.flatten_cons, List.replicate_succ, List.flatten_cons, List.map_append, ih]
theorem all_rep {z : List Value} (h : z.all one = true) : ∀ len, ((List.replicate len z).flatten).all one = true
  | 0 => rfl
  | n + 1 => by simp only [List.replicate_succ, List.flatten_cons, List.all_append, h, all_rep h n, Bool.and_self]

theorem sem_makeSlice {t : TypeId} {l c : Operand} (ho : o.op = .makeSlice t l c) (R : Rel S w0 φ h w) (G : RelG C φ.z) (T : RelT φ τ a) (hl : opdOk l = true) (hc : opdOk c = true)
    (hw : mkK C K h (tElem C.P t) (ev C τ l) (ev C τ c)) : Did C.P o a w S w0 φ h.length K := by
  have el := ev_rel G T l hl
  have ec := ev_rel G T c hc
  unfold mkK at hw
  split at hw
  · rename_i kl l' kc c' e2 e3
    rw [e2] at el; rw [e3] at ec
    obtain ⟨el, -⟩ := s_rel el
    obtain ⟨ec, -⟩ := s_rel ec
    split at hw
    · rename_i e he
      unfold mkK2 at hw
      split at hw
      · rename_i n z by_ hn hz hby
        obtain ⟨⟨h0, h1, h2, h3, h4⟩, hk⟩ := hw
        obtain ⟨zv, hzv, rfl, h5, hiz⟩ := run_zero hz
        unfold tSz at hn; unfold tBytes at hby
        cases hi : C.P.info? e with
        | none => rw [hi] at hn; cases hn
        | some i =>
          rw [hi] at hn hby hiz
          simp at hn hby hiz
          subst hn hby
          have hzs : zv.cells.size = i.size := by simpa using h4
          have hm : madeCells zv.cells (c'.toNat * i.size) = ((List.replicate c'.toNat zv.cells.toList).flatten).toArray := by
            unfold madeCells; exact rep_cells zv.cells i.size c'.toNat hzs
          have hr := run_make (P := C.P) w t e i zv (underlying_of_tElem he) hi hiz kl kc l' c' h0 h1 (by omega) (by omega)
          refine did_new R (els := List.replicate c'.toNat (zv.cells.toList.map ofV1)) (n := i.size) (cap := c'.toNat) (c := madeCells zv.cells (c'.toNat * i.size)) (e := e) (by simp [hzs]) ?_ (by rw [size_madeCells])
            (by simp) (by simp [LIM]; omega) (x := .sl h.length 0 l'.toNat c'.toNat) (v := .slice (some ⟨w.heap.size, 0, none⟩) l'.toNat c'.toNat) hk ?_ (sl_new (by omega))
          · rw [hm, rep_flat]
            have hlen : ((List.replicate c'.toNat zv.cells.toList).flatten).length = c'.toNat * i.size := by simp [hzs]
            rw [take_all (by simp [hzs])]
            simpa using all2_ofV1 (φ := φ) (all_rep h5 c'.toNat)
          · simp only [execOp, ho, el, ec, Sem.run_bind, hr, Result.andThen_ok, Sem.run_pure]
      · exact hw.elim
    · exact hw.elim
  · exact hw.elim
end
end Go.W
/- part W10 -/
set_option linter.unusedVariables false
set_option linter.unusedSimpArgs false
namespace Go.W
open Go Go.RowKit

section
variable {C : Cx} {o : Oper} {a : Act} {w : World} {S : Nat → Prop} {w0 : World} {φ : Phi} {K : V → H → Prop} {h : H} {τ : Tau} {F : Nat → Fp}

theorem evs_rel (G : RelG C φ.z) (T : RelT φ τ a) : ∀ {xs : List Operand}, xs.all opdOk = true → All2 (RelV φ) (evs C τ xs) (xs.map a.eval)
  | [], _ => trivial
  | x :: xs, h => by
    simp only [List.all_cons, Bool.and_eq_true] at h
    exact ⟨ev_rel G T x h.1, evs_rel G T h.2⟩

theorem relP_of_relV {x : V} {v : Value} (hx : capOk x = true) (r : RelV φ x v) : RelP φ x v := by
  cases x <;> first | exact r | simp [capOk] at hx
theorem caps_rel : ∀ {xs : List V} {vs : List Value}, xs.all capOk = true → All2 (RelV φ) xs vs → All2 (RelP φ) xs vs
  | [], [], _, _ => trivial
  | x :: xs, v :: vs, h, r => by
    simp only [List.all_cons, Bool.and_eq_true] at h
    exact ⟨relP_of_relV h.1 r.1, caps_rel h.2 r.2⟩
  | [], _ :: _, _, r => r.elim
  | _ :: _, [], _, r => r.elim

theorem sem_makeFunc {fn : Fn} {first caps : Array Operand} (ho : o.op = .makeFunc fn first caps) (G : RelG C φ.z) (T : RelT φ τ a) (hx : caps.toList.all opdOk = true)
    (hw : mfK K h fn first.toList (evs C τ caps.toList)) : DidA C.P o a φ (fun x => K x h) := by
  unfold mfK at hw
  split at hw
  · rename_i f e1
    obtain ⟨hc, hk⟩ := hw
    have hf : first = #[] := by simpa using e1
    refine did_any hk (v := .func (.func f) #[] (caps.map a.eval)) (fun w => ?_) ?_
    · simp [execOp, ho, hf, Instr.makeFunc]
    · have e : (caps.toList.map a.eval).toArray = caps.map a.eval := by apply Array.ext'; simp
      exact ⟨_, by rw [e], caps_rel hc (evs_rel G T hx)⟩
  · exact hw.elim

theorem wrL_all2 {R : V → Value → Prop} : ∀ {cs : List V} {off : Nat} {xs : List V} {c : List Value} {vs : List Value}, All2 R cs c → All2 R xs vs → All2 R (wrL cs off xs) (wrL c off vs)
  | cs, off, [], c, [], hc, _ => hc
  | cs, off, x :: xs, c, v :: vs, hc, hx => by
    simp only [wrL]
    refine wrL_all2 ?_ hx.2
    refine All2.of_get (by simp [hc.length]) fun i y u e1 e2 => ?_
    rw [List.getElem?_set] at e1 e2
    by_cases e : off = i
    · rw [if_pos e] at e1 e2
      split at e1
      · rw [if_pos (by rw [← hc.length]; assumption)] at e2
        cases e1; cases e2; exact hx.1
      · cases e1
    · rw [if_neg e] at e1 e2
      obtain ⟨u', h1, h2⟩ := hc.get i y e1
      rw [e2] at h1; cases h1; exact h2
  | _, _, [], _, _ :: _, _, hx => hx.elim
  | _, _, _ :: _, _, [], _, hx => hx.elim

theorem fold_wrL (off : Nat) : ∀ (l : List Value) (k : Nat) (c : Array Value),
    (l.zipIdx k).foldl (fun cs (p : Value × Nat) => cs.setIfInBounds (off + p.2) p.1) c = (wrL c.toList (off + k) l).toArray
  | [], k, c => by simp [wrL]
  | v :: l, k, c => by
    simp only [List.zipIdx_cons, List.foldl_cons, wrL]
    rw [fold_wrL off l (k + 1)]
    simp [Nat.add_assoc, Array.toList_setIfInBounds]

theorem fill_rel {place : Nat → Option (Nat × Nat)} : ∀ {ps : List (Nat × V)} {qs : List (Nat × Value)} {cells cs : List V} {c : Array Value},
    All2 (fun p q => p.1 = q.1 ∧ RelV φ p.2 q.2) ps qs → All2 (RelC φ) cells c.toList → fillV place cells ps = some cs →
    ∃ c', Instr.fill place c qs = some c' ∧ All2 (RelC φ) cs c'.toList ∧ c'.size = c.size
  | [], [], cells, cs, c, _, hc, h => by simp [fillV] at h; subst h; exact ⟨c, rfl, hc, rfl⟩
  | (i, v) :: ps, (j, u) :: qs, cells, cs, c, hp, hc, h => by
    obtain ⟨⟨rfl, hr⟩, hp⟩ := hp
    simp only [fillV] at h
    split at h
    · rename_i off size xs e1 e2
      split at h
      · rename_i hl
        obtain ⟨q1, q2⟩ := cellsOf_rel e2 hr
        have hlen := q1.length
        have hcl := hc.length
        simp at hlen hcl
        obtain ⟨c', h1, h2, h3⟩ := fill_rel (c := (wrL c.toList off u.cells.toList).toArray) hp (by simpa using wrL_all2 hc q1) h
        refine ⟨c', ?_, h2, by rw [h3]; simp [wrL_len]⟩
        simp only [Instr.fill, e1]
        rw [if_neg (by simp; omega)]
        rw [← Array.foldl_toList, Array.toList_zipIdx, fold_wrL]
        exact h1
      · cases h
    · cases h
  | [], _ :: _, _, _, _, hp, _, _ => hp.elim
  | _ :: _, [], _, _, _, hp, _, _ => hp.elim

theorem parts_rel (G : RelG C φ.z) (T : RelT φ τ a) : ∀ {ps : List (Nat × Operand)}, (ps.map (·.2)).all opdOk = true →
    All2 (fun (p : Nat × V) (q : Nat × Value) => p.1 = q.1 ∧ RelV φ p.2 q.2) (partsV C τ ps) (ps.map fun p => (p.1, a.eval p.2))
  | [], _ => trivial
  | p :: ps, h => by
    simp only [List.map_cons, List.all_cons, Bool.and_eq_true] at h
    exact ⟨⟨rfl, ev_rel G T p.2 h.1⟩, parts_rel G T h.2⟩

theorem mapM_sizes {P : Program} : ∀ (fs : List Field) (w : World), (∀ f ∈ fs, (tSz P f.type).isSome = true) →
    (fs.mapM (m := Sem) fun f => do pure (f.offset, ← sizeOf f.type)).run P w = .ok (fs.map fun f => (f.offset, (tSz P f.type).getD 0)) w
  | [], w, _ => rfl
  | f :: fs, w, h => by
    obtain ⟨n, hn⟩ := Option.isSome_iff_exists.1 (h f (by simp))
    have ih := mapM_sizes fs w fun g hg => h g (by simp [hg])
    rw [List.mapM_cons]
    simp only [Sem.run_bind, run_sz hn, Result.andThen_ok, Sem.run_pure, ih, hn, List.map_cons, Option.getD_some]

theorem sem_build {t : TypeId} {ps : Array (Nat × Operand)} (ho : o.op = .build t ps) (G : RelG C φ.z) (T : RelT φ τ a) (hx : (ps.toList.map (·.2)).all opdOk = true)
    (hw : buildK K h (fldPlace C.P t) (partsV C τ ps.toList) (bldOk C.P t) (tZ C.P t)) : DidA C.P o a φ (fun x => K x h) := by
  unfold buildK at hw
  split at hw
  · rename_i z hb hz
    obtain ⟨zv, hzv, rfl, h1, _⟩ := run_zero (P := C.P) hz
    unfold buildK1 at hw
    split at hw
    · rename_i cs hf
      unfold bldOk at hb
      split at hb
      · rename_i fs hu
        have hpl : ∀ i, fldPlace C.P t i = ((fs.toList.map fun f => (f.offset, (tSz C.P f.type).getD 0)).toArray)[i]? := by
          intro i
          unfold fldPlace tFld
          rw [hu]
          simp only [List.getElem?_toArray, List.getElem?_map, Array.getElem?_toList]
          cases hfi : fs[i]? with
          | none => rfl
          | some f =>
            have hm : f ∈ fs.toList := by
              have := Array.mem_of_getElem? hfi
              simpa using this
            obtain ⟨n, hn⟩ := Option.isSome_iff_exists.1 (List.all_eq_true.1 hb f hm)
            simp [hn]
        obtain ⟨c', q1, q2, q3⟩ := fill_rel (place := fldPlace C.P t) (c := zv.cells) (parts_rel G T hx) (all2_ofV1 h1) hf
        have hplf : fldPlace C.P t = fun i => ((fs.toList.map fun f => (f.offset, (tSz C.P f.type).getD 0)).toArray)[i]? := funext hpl
        rw [hplf] at q1
        refine did_any hw (v := .agg c') (fun w => ?_) ⟨c', rfl, q2⟩
        have hm := mapM_sizes (P := C.P) fs.toList w fun f hf => List.all_eq_true.1 hb f hf
        have hps : (ps.map fun p => (p.1, a.eval p.2)).toList = ps.toList.map fun p => (p.1, a.eval p.2) := by simp
        simp only [execOp, ho, Instr.build, hzv, Sem.run_bind, Result.andThen_ok, run_underlying hu, Array.mapM_eq_mapM_toList, Sem.run_map, hm, hps, q1, Sem.run_pure]
      · cases hb
    · exact hw.elim
  · exact hw.elim

theorem wrL_right {α : Type} (A : List α) : ∀ (xs B : List α) (k : Nat), wrL (A ++ B) (A.length + k) xs = A ++ wrL B k xs
  | [], B, k => rfl
  | x :: xs, B, k => by
    simp only [wrL]
    rw [List.set_append_right _ _ (by omega), Nat.add_sub_cancel_left, Nat.add_assoc]
    exact wrL_right A xs (B.set k x) (k + 1)
theorem flat_set {α : Type} {n : Nat} : ∀ {els : List (List α)} {i : Nat} {xs : List α}, (∀ el ∈ els, el.length = n) → i < els.length → xs.length = n → (els.set i xs).flatten = wrL els.flatten (i * n) xs
  | [], i, xs, _, h, _ => by simp at h
  | el :: els, 0, xs, hn, _, hx => by
    have hl := hn el (by simp)
    simp only [List.set_cons_zero, List.flatten_cons, Nat.zero_mul]
    rw [wrL_eq _ _ _ (by simp; omega)]
    simp [hx, ← hl]
  | el :: els, i + 1, xs, hn, h, hx => by
    have hl := hn el (by simp)
    simp only [List.set_cons_succ, List.flatten_cons]
    have e1 : (i + 1) * n = el.length + i * n := by rw [Nat.succ_mul, hl]; omega
    rw [flat_set (fun e he => hn e (by simp [he])) (by simpa using h) hx, e1, wrL_right]

theorem fillE_rel {n : Nat} : ∀ {ps : List (Nat × V)} {els els' : List (List V)}, (∀ el ∈ els, el.length = n) → fillE n els ps = some els' →
    els'.length = els.length ∧ (∀ el ∈ els', el.length = n) ∧ fillV (fun i => some (i * n, n)) els.flatten ps = some els'.flatten
  | [], els, els', hn, h => by simp only [fillE, Option.some.injEq] at h; subst h; exact ⟨rfl, hn, rfl⟩
  | (i, v) :: ps, els, els', hn, h => by
    simp only [fillE] at h
    split at h
    · rename_i xs hxs
      split at h
      · rename_i hc
        have hn' : ∀ el ∈ els.set i xs, el.length = n := fun el he => by
          rcases List.mem_or_eq_of_mem_set he with q | q
          · exact hn el q
          · subst q; exact hc.1
        obtain ⟨h1, h2, h3⟩ := fillE_rel hn' h
        refine ⟨by simpa using h1, h2, ?_⟩
        simp only [fillV, hxs]
        have hfl : els.flatten.length = els.length * n := by
          clear h hn' h1 h2 h3 hc
          induction els with
          | nil => simp
          | cons e es ih => simp only [List.flatten_cons, List.length_append, List.length_cons, Nat.succ_mul]; rw [ih (fun x hx => hn x (by simp [hx])), hn e (by simp)]; omega
        have hfit : i * n + xs.length ≤ els.flatten.length := by
          rw [hfl, hc.1]
          have := Nat.mul_le_mul_right n hc.2
          rw [Nat.succ_mul] at this; omega
        rw [if_pos ⟨hc.1, hfit⟩, ← flat_set hn hc.2 hc.1]
        exact h3
      · cases h
    · cases h

theorem sem_buildSlice {t : TypeId} {len : Nat} {ps : Array (Nat × Operand)} (ho : o.op = .buildSlice t len ps) (R : Rel S w0 φ h w) (G : RelG C φ.z) (T : RelT φ τ a)
    (hx : (ps.toList.map (·.2)).all opdOk = true) (hw : bsK C K h len (partsV C τ ps.toList) (tElem C.P t)) : Did C.P o a w S w0 φ h.length K := by
  unfold bsK at hw
  split at hw
  · rename_i e he
    unfold bsK1 at hw
    split at hw
    · rename_i n z hn hz
      obtain ⟨h2, hw⟩ := hw
      obtain ⟨zv, hzv, rfl, h1, _⟩ := run_zero (P := C.P) hz
      unfold bsK2 at hw
      split at hw
      · rename_i els hf
        obtain ⟨⟨h3, h4⟩, hk⟩ := hw
        obtain ⟨g1, g2, g3⟩ := fillE_rel (by simp at h2; simp [h2]) hf
        have hzs : zv.cells.size = n := by simpa using h2
        obtain ⟨c', q1, q2, q3⟩ := fill_rel (place := fun i => some (i * n, n)) (c := ((List.replicate len zv.cells.toList).flatten).toArray) (parts_rel G T hx)
          (by rw [rep_flat]; simpa using all2_ofV1 (φ := φ) (all_rep h1 len)) g3
        have hsz : c'.size = len * n := by rw [q3]; simp [hzs]
        have hel : els.length = len := by simpa using g1
        refine did_new R (els := els) (n := n) (cap := len) (c := c') (e := e) g2 (by rw [take_all (by simp [hel, hsz])]; exact q2) hsz (by omega) (by
            unfold LIM; omega) (x := .sl h.length 0 len len) (v := .slice (some ⟨w.heap.size, 0, none⟩) len len) hk ?_ (sl_new (Nat.le_refl _))
        have hps : (ps.map fun p => (p.1, a.eval p.2)).toList = ps.toList.map fun p => (p.1, a.eval p.2) := by simp
        have hrc := rep_cells zv.cells n len hzs
        by_cases hz0 : len * n = 0
        · have hnil : ((List.replicate len zv.cells.toList).flatten).toArray = #[] := by
            apply Array.ext'
            have : ((List.replicate len zv.cells.toList).flatten).length = 0 := by simp [hzs, hz0]
            exact List.length_eq_zero_iff.1 this
          rw [hnil] at q1
          simp only [execOp, ho, Instr.buildSlice, Sem.run_bind, run_elem he, Result.andThen_ok, run_sz hn]
          rw [if_neg (by omega), if_pos hz0]
          simp only [Sem.run_bind, Sem.run_pure, Result.andThen_ok, hps, hz0, Array.range_zero', Array.map_empty, q1, newRow, run_newObj]
          rfl
        · simp only [execOp, ho, Instr.buildSlice, Sem.run_bind, run_elem he, Result.andThen_ok, run_sz hn]
          rw [if_neg (by omega), if_neg hz0]
          simp only [Sem.run_bind, Sem.run_pure, Result.andThen_ok, hzv, hps, hrc, q1, newRow, run_newObj]
          rfl
      · exact hw.elim
    · exact hw.elim
  · exact hw.elim

theorem sem_extract {x : Operand} {i : Nat} (ho : o.op = .extract x i) (G : RelG C φ.z) (T : RelT φ τ a) (hx : opdOk x = true)
    (hw : exK K h i (ev C τ x)) : DidA C.P o a φ (fun x => K x h) := by
  have ex := ev_rel G T x hx
  unfold exK at hw
  split at hw
  · rename_i vs e
    rw [e] at ex
    obtain ⟨l, hv, r⟩ := ex
    unfold ldC at hw
    split at hw
    · rename_i v hi
      obtain ⟨c, h1, h2⟩ := r.get i v hi
      refine did_any hw (v := c) (fun w => ?_) ?_
      · have h1' : l[i]? = some c := by simpa using h1
        simp [execOp, ho, hv, Instr.extract, h1']
      · cases v with
        | tup cs => simp [RelQ, RelC, RelP, RZ] at h2
        | _ => exact h2
    · exact hw.elim
  · exact hw.elim

theorem scal_rel : ∀ {xs : List V} {l vs : List Value}, scal xs = some l → All2 (RelC φ) xs vs → vs = l
  | [], l, [], h, _ => by simp [scal] at h; exact h.symm
  | .s v :: xs, l, u :: vs, h, r => by
    simp only [scal] at h
    split at h
    · rename_i l' hl
      obtain rfl := Option.some.inj h
      have h1 : u = v := by have := r.1; simp only [RelC, RelP, RZ] at this; exact this.1
      rw [h1, scal_rel hl r.2]
    · cases h
  | [], _, _ :: _, _, r => r.elim
  | _ :: _, _, [], _, r => r.elim
  | .f _ _ :: _, _, _ :: _, h, _ => by simp [scal] at h
  | .l _ _ :: _, _, _ :: _, h, _ => by simp [scal] at h
  | .lp _ :: _, _, _ :: _, h, _ => by simp [scal] at h
  | .z :: _, _, _ :: _, h, _ => by simp [scal] at h
  | .sl _ _ _ _ :: _, _, _ :: _, h, _ => by simp [scal] at h
  | .ptr _ _ _ :: _, _, _ :: _, h, _ => by simp [scal] at h
  | .pd _ :: _, _, _ :: _, h, _ => by simp [scal] at h
  | .fn _ _ :: _, _, _ :: _, h, _ => by simp [scal] at h
  | .agg _ :: _, _, _ :: _, h, _ => by simp [scal] at h
  | .tup _ :: _, _, _ :: _, h, _ => by simp [scal] at h
  | .any :: _, _, _ :: _, h, _ => by simp [scal] at h

theorem sem_makeInterface {t : TypeId} {x : Operand} (ho : o.op = .makeInterface t x) (G : RelG C φ.z) (T : RelT φ τ a) (hx : opdOk x = true)
    (hw : miK C K h t (ev C τ x)) : DidA C.P o a φ (fun x => K x h) := by
  have ex := ev_rel G T x hx
  unfold miK at hw
  split at hw
  · rename_i u e
    rw [e] at ex
    obtain ⟨ex, -⟩ := s_rel ex
    obtain ⟨hc, hk⟩ := hw
    refine did_any hk (v := .iface t u) (fun w => ?_) (mk_s rfl)
    simp [execOp, ho, ex, run_makeInterface _ _ _ hc]
  · rename_i cs e
    rw [e] at ex
    obtain ⟨l, ex, hl⟩ := ex
    obtain ⟨hc, hk⟩ := hw
    unfold miA at hk
    split at hk
    · rename_i vs hvs
      have hle := scal_rel hvs hl
      have hl' : l = vs.toArray := by apply Array.ext'; simpa using hle
      rw [hl'] at ex
      refine did_any hk (v := .iface t (.agg vs.toArray)) (fun w => ?_) (mk_s rfl)
      simp [execOp, ho, ex, run_makeInterface _ _ _ hc]
    · exact hk.elim
  · exact hw.elim

theorem sem_index {t : TypeId} {x i : Operand} (ho : o.op = .index t x i) (G : RelG C φ.z) (T : RelT φ τ a) (hx : opdOk x = true) (hi : opdOk i = true)
    (hw : ixK K h (tK C.P t) (ev C τ x) (ev C τ i)) : DidA C.P o a φ (fun x => K x h) := by
  have ex := ev_rel G T x hx
  have ei := ev_rel G T i hi
  unfold ixK at hw
  split at hw
  · rename_i s k n e1 e2
    rw [e1] at ex; rw [e2] at ei
    obtain ⟨ex, -⟩ := s_rel ex
    obtain ⟨ei, -⟩ := s_rel ei
    obtain ⟨ht, hw⟩ := hw
    unfold ixC at hw
    split at hw
    · rename_i c hc
      obtain ⟨h0, hk⟩ := hw
      refine did_any hk (v := .int .u8 c.toNat) (fun w => ?_) (mk_s rfl)
      simp [execOp, ho, ex, ei, Instr.index, asIntOf, run_underlying (tK_string (isT_string ht)), h0, hc]
    · exact hw.elim
  · exact hw.elim

theorem sem_indexAddr {t : TypeId} {x i : Operand} (ho : o.op = .indexAddr t x i) (R : Rel S w0 φ h w) (G : RelG C φ.z) (T : RelT φ τ a) (hx : opdOk x = true) (hi : opdOk i = true)
    (hw : iaI C K h (tArr C.P t) (tElem C.P t) (ev C τ x) (ev C τ i)) : DidA C.P o a φ (fun x => K x h) := by
  have ex := ev_rel G T x hx
  have ei := ev_rel G T i hi
  obtain ⟨F, R⟩ := R
  unfold iaI at hw
  split at hw
  · rename_i k j e2
    rw [e2] at ei
    obtain ⟨ei, -⟩ := s_rel ei
    unfold iaK at hw
    split at hw
    · rename_i b off len cap e1
      rw [e1] at ex
      split at hw
      · rename_i e he
        obtain ⟨⟨hst, h0, h1⟩, hk⟩ := hw
        obtain ⟨p, n, hp, hv⟩ := sl_rel ex
        cases p with
        | none => obtain ⟨_, rfl, _⟩ := hv; omega
        | some blk =>
          simp only at hv
          have hs : ∃ B, h[b]? = some B ∧ B.live = true ∧ tSz C.P e = some B.n := by
            unfold sameN at hst
            split at hst
            · rename_i a' b' hs1 hs2
              subst hst
              unfold strideB at hs1
              split at hs1
              · rename_i els n' cap' hb; exact ⟨_, hb, rfl, by rw [hs2, ← hs1]⟩
              · cases hs1
            · exact hst.elim
          obtain ⟨B, hb, hl, hsz⟩ := hs
          obtain ⟨pp, g1, _⟩ := R.place hb hl
          rw [hp] at g1; obtain ⟨rfl, rfl⟩ := Prod.mk.inj (Option.some.inj g1)
          refine did_any hk (v := .pointer (some ⟨blk, (off + j.toNat) * B.n + 0, none⟩)) (fun w => ?_) (mk_ptr hp)
          have e0 : off * B.n + j.toNat * B.n = (off + j.toNat) * B.n + 0 := by rw [Nat.add_mul]; omega
          simp [execOp, ho, hv, ei, Instr.indexAt, asIntOf, run_elem he, h0, h1, run_sz hsz, addr_add, Nat.add_mul]
      · exact hw.elim
    · rename_i n els e1
      rw [e1] at ex
      split at hw
      · rename_i e he
        obtain ⟨⟨hsz, h0⟩, hk⟩ := hw
        unfold iaF at hk
        split at hk
        · rename_i el hel
          have hlt := (List.getElem?_eq_some_iff.1 hel).1
          rcases f_rel ex with ⟨rfl, -⟩ | ⟨k', off, cap, hv, h1, h2, h3⟩
          · simp at hlt
          · obtain ⟨_, q⟩ := h3.nth hel
            have h1' : j < (els.length : Int) := by omega
            refine did_any hk (v := .pointer (some ⟨k', off + j.toNat * n, none⟩)) (fun w => ?_) ?_
            · simp [execOp, ho, hv, ei, Instr.indexAt, asIntOf, run_elem he, h0, h1', run_sz hsz, addr_add]
            · exact relV_of_rz (by simp only [RZ]; exact ⟨_, _, rfl, q⟩)
        · exact hk.elim
      · exact hw.elim
    · rename_i cs e1
      rw [e1] at ex
      unfold iaA at hw
      split at hw
      · rename_i n e har
        have hu := underlying_of_tArr har
        unfold iaA2 at hw
        split at hw
        · rename_i s cs' hsz e3
          cases e3
          obtain ⟨⟨h0, h1⟩, hk⟩ := hw
          obtain ⟨k', off, hv, q⟩ := pd_rel ex
          refine did_any hk (v := .pointer (some ⟨k', off + j.toNat * s, none⟩)) (fun w => ?_) (relV_of_rz (by simp only [RZ]; exact ⟨_, _, rfl, q.drop _⟩))
          simp [execOp, ho, hv, ei, Instr.indexAt, Instr.sureAddr, asIntOf, run_underlying hu, h0, h1, run_sz hsz, addr_add]
        · rename_i e3; cases e3
        · exact hw.elim
      · exact hw.elim
    · rename_i b jj oo e1
      rw [e1] at ex
      unfold iaA at hw
      split at hw
      · rename_i n e har
        have hu := underlying_of_tArr har
        unfold iaA2 at hw
        split at hw
        · rename_i e3; cases e3
        · rename_i s b' j' o' hsz e3
          cases e3
          obtain ⟨⟨h0, h1⟩, hk⟩ := hw
          obtain ⟨k', m, hp, hv⟩ := ptr_rel ex
          refine did_any hk (v := .pointer (some ⟨k', jj * m + (oo + j.toNat * s), none⟩)) (fun w => ?_) (mk_ptr hp)
          simp [execOp, ho, hv, ei, Instr.indexAt, Instr.sureAddr, asIntOf, run_underlying hu, h0, h1, run_sz hsz, addr_add, Nat.add_assoc]
        · exact hw.elim
      · exact hw.elim
    · exact hw.elim
  · exact hw.elim

theorem relQ_const {φ : Phi} {v : Value} (hx : constOk v = true) : RelQ φ (ofV v) v := by
  by_cases hv : ∃ cs, v = .agg cs
  · obtain ⟨cs, rfl⟩ := hv
    refine ⟨cs, rfl, all2_ofV1 ?_⟩
    simp only [constOk] at hx
    rw [← Array.all_toList] at hx; exact hx
  · have e1 : ofV v = ofV1 v := by unfold ofV; split <;> simp_all
    have e2 : constOk v = one v := by unfold constOk; split <;> simp_all
    rw [e1]
    have := ofV1_rel (φ := φ) (v := v) (by rw [← e2]; exact hx)
    rcases ofV1_V v with ⟨v', q⟩ | q
    · rw [q] at this ⊢; exact this
    · rw [q] at this ⊢; exact this
theorem sem_typeAssert {x : Operand} {u t : TypeId} {ok : Bool} (ho : o.op = .typeAssert x u t ok) (G : RelG C φ.z) (T : RelT φ τ a) (hx : opdOk x = true)
    (hw : taK C K h t ok (ev C τ x)) : DidA C.P o a φ (fun x => K x h) := by
  have ex := ev_rel G T x hx
  unfold taK at hw
  split at hw
  · rename_i t' v e
    rw [e] at ex
    obtain ⟨ex, -⟩ := s_rel ex
    obtain ⟨⟨hc, rfl, hv⟩, hk⟩ := hw
    cases ok with
    | false => exact hk.elim
    | true =>
      refine did_any hk (v := .tuple #[v, .bool true]) (fun w => ?_) ⟨_, rfl, relQ_const hv, ⟨rfl, rfl⟩, trivial⟩
      have hun : ∃ ty, C.P.underlying t' = some ty ∧ ∀ l, ty ≠ .interface l := by
        unfold Program.concrete at hc
        cases hu : C.P.underlying t' with
        | none => rw [hu] at hc; simp at hc
        | some ty => exact ⟨ty, rfl, fun l e => by rw [hu, e] at hc; simp at hc⟩
      obtain ⟨ty, hu, hne⟩ := hun
      simp only [execOp, ho, ex, Instr.typeAssert, Sem.run_bind, run_underlying hu, Result.andThen_ok]
      cases ty <;> first | (simp; done) | exact absurd rfl (hne _)
  · exact hw.elim

theorem sem_fieldAddr {s : TypeId} {x : Operand} {f : Nat} (ho : o.op = .fieldAddr s x f) (G : RelG C φ.z) (T : RelT φ τ a) (hx : opdOk x = true)
    (hw : faK C K h (tFld C.P s f) (ev C τ x)) : DidA C.P o a φ (fun x => K x h) := by
  have ex := ev_rel G T x hx
  have fld : ∀ {fo ft : Nat}, tFld C.P s f = some (fo, ft) → ∃ fs fd, C.P.underlying s = some (.struct fs) ∧ fs[f]? = some fd ∧ fd.offset = fo ∧ fd.type = ft := by
    intro fo ft e2
    unfold tFld at e2
    split at e2
    · rename_i fs hu
      cases hf : fs[f]? with
      | none => rw [hf] at e2; cases e2
      | some fd =>
        rw [hf] at e2
        obtain ⟨rfl, rfl⟩ := Prod.mk.inj (Option.some.inj e2)
        exact ⟨fs, fd, hu, hf, rfl, rfl⟩
    · cases e2
  unfold faK at hw
  split at hw
  · rename_i fo ft b i ob e2 e1
    rw [e1] at ex
    obtain ⟨k, n, hp, ex⟩ := ptr_rel ex
    obtain ⟨⟨m, hm⟩, hk⟩ := hw
    obtain ⟨fs, fd, hu, hf, rfl, rfl⟩ := fld e2
    refine did_any hk (v := .pointer (some ⟨k, i * n + (ob + fd.offset), none⟩)) (fun w => ?_) (mk_ptr hp)
    simp [execOp, ho, ex, Instr.fieldAt, run_underlying hu, hf, Instr.sureAddr, fieldPlace, run_sz hm, addr_add, Nat.add_assoc]
  · rename_i fo ft cs e2 e1
    rw [e1] at ex
    obtain ⟨k, off, ex, hz⟩ := pd_rel ex
    obtain ⟨⟨m, hm⟩, hk⟩ := hw
    obtain ⟨fs, fd, hu, hf, rfl, rfl⟩ := fld e2
    refine did_any hk (v := .pointer (some ⟨k, off + fd.offset, none⟩)) (fun w => ?_) (relV_of_rz (by simp only [RZ]; exact ⟨_, _, rfl, hz.drop fd.offset⟩))
    simp [execOp, ho, ex, Instr.fieldAt, run_underlying hu, hf, Instr.sureAddr, fieldPlace, run_sz hm, addr_add]
  · exact hw.elim

theorem sem_field {s : TypeId} {x : Operand} {f : Nat} (ho : o.op = .field s x f) (G : RelG C φ.z) (T : RelT φ τ a) (hx : opdOk x = true)
    (hw : fdK C K h (tFld C.P s f) (ev C τ x)) : DidA C.P o a φ (fun x => K x h) := by
  have ex := ev_rel G T x hx
  unfold fdK at hw
  split at hw
  · rename_i fo ft cs e2 e1
    rw [e1] at ex
    obtain ⟨l, ex, hl⟩ := ex
    unfold tFld at e2
    split at e2
    · rename_i fs hu
      cases hf : fs[f]? with
      | none => rw [hf] at e2; cases e2
      | some fd =>
        rw [hf] at e2
        obtain ⟨rfl, rfl⟩ := Prod.mk.inj (Option.some.inj e2)
        unfold fdA at hw
        split at hw
        · rename_i n ha hn
          obtain ⟨hlen, hk⟩ := hw
          refine did_any hk (v := .agg (l.extract fd.offset (fd.offset + n))) (fun w => ?_) ⟨_, rfl, ?_⟩
          · simp [execOp, ho, ex, Instr.field, run_underlying hu, hf, part, run_agg ha, run_sz hn, asAgg]
          · refine All2.of_get ?_ fun i x v h1 h2 => ?_
            · have := hl.length; simp at this; simp; omega
            · rw [List.getElem?_take] at h1
              split at h1
              · rename_i hin
                rw [List.getElem?_drop] at h1
                obtain ⟨c, h3, h4⟩ := hl.get _ x h1
                have : (l.extract fd.offset (fd.offset + n)).toList[i]? = l.toList[fd.offset + i]? := by
                  have hll := hl.length
                  simp at hll
                  simp only [Array.getElem?_toList, Array.getElem?_extract]
                  rw [if_pos (by omega)]
                rw [this] at h2; rw [h2] at h3; obtain rfl := Option.some.inj h3; exact h4
              · cases h1
        · rename_i ha
          unfold ldC at hw
          split at hw
          · rename_i v hi
            obtain ⟨c, h1, h2⟩ := hl.get _ v hi
            have h1' : l[fd.offset]? = some c := by simpa using h1
            refine did_any hw (v := c) (fun w => ?_) (relV_of_relC h2)
            simp [execOp, ho, ex, Instr.field, run_underlying hu, hf, part, run_agg ha, asAgg, h1']
          · exact hw.elim
        · exact hw.elim
    · cases e2
  · exact hw.elim
end
end Go.W
/- part W11 -/
set_option linter.unusedVariables false
set_option linter.unusedSimpArgs false
namespace Go.W
open Go Go.RowKit

section
variable {C : Cx} {o : Oper} {a : Act} {w : World} {S : Nat → Prop} {w0 : World} {φ : Phi} {K : V → H → Prop} {h : H} {τ : Tau} {F : Nat → Fp}

theorem sb0 {P : Program} {b : Bool} (len cap : Nat) (w : World) : (Instr.sliceBounds b len cap none none none).run P w = .ok (0, len, cap) w := by simp [Instr.sliceBounds]
theorem sb1 {P : Program} {b : Bool} {k : IntKind} {l : Int} {len cap : Nat} (h0 : 0 ≤ l) (h1 : l ≤ len) (w : World) : (Instr.sliceBounds b len cap (some (.int k l)) none none).run P w = .ok (l.toNat, len, cap) w := by
  simp [Instr.sliceBounds, Instr.sliceBound, asIntOf, h0, h1]
theorem sb2 {P : Program} {b : Bool} {k : IntKind} {r : Int} {len cap : Nat} (h0 : 0 ≤ r) (h1 : r ≤ cap) (w : World) : (Instr.sliceBounds b len cap none (some (.int k r)) none).run P w = .ok (0, r.toNat, cap) w := by
  simp [Instr.sliceBounds, Instr.sliceBound, asIntOf, h0, h1]
theorem sb3 {P : Program} {b : Bool} {k k' : IntKind} {l r : Int} {len cap : Nat} (h0 : 0 ≤ l) (h1 : l ≤ r) (h2 : r ≤ cap) (w : World) : (Instr.sliceBounds b len cap (some (.int k l)) (some (.int k' r)) none).run P w = .ok (l.toNat, r.toNat, cap) w := by
  have h3 : 0 ≤ r := by omega
  have h4 : l ≤ (r.toNat : Int) := by omega
  have h5 : max r 0 = r := by omega
  simp [Instr.sliceBounds, Instr.sliceBound, asIntOf, h0, h1, h2, h3, h4, h5]
theorem sb4 {P : Program} {b : Bool} {k k' : IntKind} {r m : Int} {len cap : Nat} (h0 : 0 ≤ r) (h1 : r ≤ m) (h2 : m ≤ cap) (w : World) : (Instr.sliceBounds b len cap none (some (.int k r)) (some (.int k' m))).run P w = .ok (0, r.toNat, m.toNat) w := by
  have h3 : 0 ≤ m := by omega
  have h4 : r ≤ (m.toNat : Int) := by omega
  have h5 : max m 0 = m := by omega
  simp [Instr.sliceBounds, Instr.sliceBound, asIntOf, h0, h1, h2, h3, h4, h5]

theorem sb5 {P : Program} {b : Bool} {k0 k k' : IntKind} {l r m : Int} {len cap : Nat} (hl : 0 ≤ l) (h0 : l ≤ r) (h1 : r ≤ m) (h2 : m ≤ cap) (w : World) : (Instr.sliceBounds b len cap (some (.int k0 l)) (some (.int k r)) (some (.int k' m))).run P w = .ok (l.toNat, r.toNat, m.toNat) w := by
  have h3 : 0 ≤ m := by omega
  have h4 : r ≤ (m.toNat : Int) := by omega
  have h5 : max m 0 = m := by omega
  have h6 : 0 ≤ r := by omega
  have h7 : l ≤ (r.toNat : Int) := by omega
  have h8 : max r 0 = r := by omega
  simp [Instr.sliceBounds, Instr.sliceBound, asIntOf, hl, h0, h1, h2, h3, h4, h5, h6, h7, h8]

theorem run_slice {P : Program} {t e : TypeId} {n : Nat} (hu : P.underlying t = some (.slice e)) (hn : tSz P e = some n) {p : Option Addr} {len cap : Nat} {lo hi mx : Option Value} {l r m : Nat} {w : World}
    (hb : (Instr.sliceBounds true len cap lo hi mx).run P w = .ok (l, r, m) w) :
    (Instr.slice t (.slice p len cap) lo hi mx).run P w = .ok (.slice (if m = l then p else p.map (·.add (l * n))) (r - l) (m - l)) w := by
  simp only [Instr.slice, Sem.run_bind, run_underlying hu, Result.andThen_ok, hb, run_sz hn, Sem.run_pure]
theorem run_sliceS {P : Program} {t : TypeId} (hu : P.underlying t = some .string) {s : ByteArray} {lo hi : Option Value} {l r m : Nat} {w : World}
    (hb : (Instr.sliceBounds false s.size s.size lo hi none).run P w = .ok (l, r, m) w) : (Instr.slice t (.string s) lo hi none).run P w = .ok (.string (s.extract l r)) w := by
  simp [Instr.slice, run_underlying hu, hb]

theorem opt_int {x : Option Operand} {k : IntKind} {l : Int} (G : RelG C φ.z) (T : RelT φ τ a) (hx : ∀ y, x = some y → opdOk y = true) (hv : x.map (ev C τ) = some (.s (.int k l))) : x.map a.eval = some (.int k l) := by
  cases x with
  | none => cases hv
  | some y =>
    simp only [Option.map_some, Option.some.injEq] at hv
    have ey := ev_rel G T y (hx y rfl)
    rw [hv] at ey
    simp [(s_rel ey).1]
theorem opt_none {x : Option Operand} (hv : x.map (ev C τ) = none) : x.map a.eval = none := by
  cases x with
  | none => rfl
  | some y => cases hv

theorem exec_slice {P : Program} {t : TypeId} {x : Operand} {lo hi mx : Option Operand} (ho : o.op = .slice t x lo hi mx) {xv v : Value} (hx : a.eval x = xv) (hs : ∀ p, xv ≠ .pointer p) {w : World}
    (hr : (Instr.slice t xv (lo.map a.eval) (hi.map a.eval) (mx.map a.eval)).run P w = .ok v w) (hu : (∃ e, P.underlying t = some (.slice e)) ∨ P.underlying t = some .string) : (execOp a.eval o).run P w = .ok (.value v) w := by
  rcases hu with ⟨e, hu⟩ | hu <;> simp [execOp, ho, hx, Instr.sliceAt, run_underlying hu, hr]

theorem rz_cut {z : Zm} {n : Nat} {els : List (List V)} {k off cap l r : Nat} (hle : els.length ≤ cap) (hlim : els.length ≤ LIM) (hz : RZss z k n off els) (hl : l ≤ r) (hr : r ≤ els.length) :
    RZ z (.f n ((els.drop l).take (r - l))) (.slice (if cap = l then some ⟨k, off, none⟩ else (some (⟨k, off, none⟩ : Addr)).map (·.add (l * n))) (r - l) (cap - l)) := by
  simp only [RZ]
  have hlen : ((els.drop l).take (r - l)).length = r - l := by simp; omega
  by_cases e : cap = l
  · rw [if_pos e]
    have : (els.drop l).take (r - l) = [] := List.eq_nil_of_length_eq_zero (by rw [hlen]; omega)
    refine .inr ⟨k, off, cap - l, by rw [hlen], by rw [hlen]; omega, by rw [hlen]; omega, ?_⟩
    rw [this]; simp [RZss]
  · rw [if_neg e]
    refine .inr ⟨k, off + l * n, cap - l, by rw [hlen]; simp [addr_add], by rw [hlen]; omega, by rw [hlen]; omega, (hz.drop l).take _⟩

theorem rz_pd_f {z : Zm} {k off : Nat} {cs : List V} (hl : cs.length ≤ LIM) (q : RZs z k off cs) : RZ z (.f 1 (cs.map fun c => [c])) (.slice (some ⟨k, off, none⟩) cs.length cs.length) := by
  simp only [RZ]
  refine .inr ⟨k, off, cs.length, by simp, by simp, by simpa using hl, ?_⟩
  have key : ∀ (cs : List V) (off : Nat), RZs z k off cs → RZss z k 1 off (cs.map fun c => [c]) := by
    intro cs
    induction cs with
    | nil => intro off _; simp only [List.map_nil, RZss]
    | cons c cs ih =>
      intro off q
      simp only [RZs] at q
      simp only [List.map_cons, RZss, RZs, List.length_singleton]
      exact ⟨trivial, ⟨q.1, trivial⟩, ih _ q.2⟩
  exact key cs off q
theorem sem_slice {t : TypeId} {x : Operand} {lo hi mx : Option Operand} (ho : o.op = .slice t x lo hi mx) (R : Rel S w0 φ h w) (G : RelG C φ.z) (T : RelT φ τ a) (hx : opdOk x = true)
    (hlo : ∀ y, lo = some y → opdOk y = true) (hhi : ∀ y, hi = some y → opdOk y = true) (hmx : ∀ y, mx = some y → opdOk y = true)
    (hw : slK C K h (tK C.P t) (lo.map (ev C τ)) (hi.map (ev C τ)) (mx.map (ev C τ)) (ev C τ x)) : DidA C.P o a φ (fun x => K x h) := by
  have ex := ev_rel G T x hx
  obtain ⟨F, R⟩ := R
  -- the places where it is cut, in the world
  have cuts : ∀ (b : Bool) (len cap : Nat), 
      (lo.map (ev C τ) = none → hi.map (ev C τ) = none → mx.map (ev C τ) = none → ∀ w, (Instr.sliceBounds b len cap (lo.map a.eval) (hi.map a.eval) (mx.map a.eval)).run C.P w = .ok (0, len, cap) w) ∧
      (∀ k l, lo.map (ev C τ) = some (.s (.int k l)) → hi.map (ev C τ) = none → mx.map (ev C τ) = none → 0 ≤ l → l ≤ len → ∀ w, (Instr.sliceBounds b len cap (lo.map a.eval) (hi.map a.eval) (mx.map a.eval)).run C.P w = .ok (l.toNat, len, cap) w) ∧
      (∀ k r, lo.map (ev C τ) = none → hi.map (ev C τ) = some (.s (.int k r)) → mx.map (ev C τ) = none → 0 ≤ r → r ≤ cap → ∀ w, (Instr.sliceBounds b len cap (lo.map a.eval) (hi.map a.eval) (mx.map a.eval)).run C.P w = .ok (0, r.toNat, cap) w) ∧
      (∀ k l k' r, lo.map (ev C τ) = some (.s (.int k l)) → hi.map (ev C τ) = some (.s (.int k' r)) → mx.map (ev C τ) = none → 0 ≤ l → l ≤ r → r ≤ cap → ∀ w, (Instr.sliceBounds b len cap (lo.map a.eval) (hi.map a.eval) (mx.map a.eval)).run C.P w = .ok (l.toNat, r.toNat, cap) w) ∧
      (∀ k r k' m, lo.map (ev C τ) = none → hi.map (ev C τ) = some (.s (.int k r)) → mx.map (ev C τ) = some (.s (.int k' m)) → 0 ≤ r → r ≤ m → m ≤ cap → ∀ w, (Instr.sliceBounds b len cap (lo.map a.eval) (hi.map a.eval) (mx.map a.eval)).run C.P w = .ok (0, r.toNat, m.toNat) w) := by
    intro b len cap
    refine ⟨fun e1 e2 e3 w => ?_, fun k l e1 e2 e3 h0 h1 w => ?_, fun k r e1 e2 e3 h0 h1 w => ?_, fun k l k' r e1 e2 e3 h0 h1 h2 w => ?_, fun k r k' m e1 e2 e3 h0 h1 h2 w => ?_⟩
    · rw [opt_none (a := a) e1, opt_none (a := a) e2, opt_none (a := a) e3]; exact sb0 ..
    · rw [opt_int G T hlo e1, opt_none (a := a) e2, opt_none (a := a) e3]; exact sb1 h0 h1 w
    · rw [opt_none (a := a) e1, opt_int G T hhi e2, opt_none (a := a) e3]; exact sb2 h0 h1 w
    · rw [opt_int G T hlo e1, opt_int G T hhi e2, opt_none (a := a) e3]; exact sb3 h0 h1 h2 w
    · rw [opt_none (a := a) e1, opt_int G T hhi e2, opt_int G T hmx e3]; exact sb4 h0 h1 h2 w
  unfold slK at hw
  split at hw
  · -- a text
    rename_i s e1
    rw [e1] at ex
    obtain ⟨ex, hone⟩ := s_rel ex
    obtain ⟨c0, c1, c2, c3, -⟩ := cuts false s.size s.size
    have fin : ∀ {l r m : Nat}, C.P.underlying t = some .string → mx.map (ev C τ) = none → K (.s (.string (s.extract l r))) h → (∀ w, (Instr.sliceBounds false s.size s.size (lo.map a.eval) (hi.map a.eval) (mx.map a.eval)).run C.P w = .ok (l, r, m) w) → DidA C.P o a φ (fun x => K x h) := by
      intro l r m hu hm hk hb
      have hm' := opt_none (a := a) hm
      rw [hm'] at hb
      refine did_any hk (v := .string (s.extract l r)) (fun w => ?_) (mk_s ?_)
      · exact exec_slice ho ex (fun p q => by cases q) (by rw [hm']; exact run_sliceS hu (hb w)) (.inr hu)
      · simp only [one, decide_eq_true_eq] at hone ⊢
        have : (s.extract l r).size ≤ s.size := by simp; omega
        omega
    split at hw
    · rename_i e2 e3 e4 e5
      have hu := tK_string e2
      refine fin (l := 0) (r := s.size) (m := s.size) hu e5 ?_ (fun w => c0 e3 e4 e5 w)
      have : s.extract 0 s.size = s := by simp
      rw [this]; exact hw
    · rename_i k l e2 e3 e4 e5
      obtain ⟨⟨h0, h1, -⟩, hk⟩ := hw
      exact fin (tK_string e2) e5 hk (fun w => c1 k l e3 e4 e5 h0 h1 w)
    · rename_i k r e2 e3 e4 e5
      obtain ⟨⟨-, h1, h2⟩, hk⟩ := hw
      exact fin (tK_string e2) e5 hk (fun w => c2 k r e3 e4 e5 h1 h2 w)
    · rename_i k l k' r e2 e3 e4 e5
      obtain ⟨⟨h0, h1, h2⟩, hk⟩ := hw
      exact fin (tK_string e2) e5 hk (fun w => c3 k l k' r e3 e4 e5 h0 h1 h2 w)
    · exact hw.elim
  · -- memory that stays
    rename_i n els e1
    rw [e1] at ex
    have fin : ∀ {e : TypeId} {l r : Nat}, tK C.P t = .slice e → tSz C.P e = some n → l ≤ r → r ≤ els.length → K (.f n ((els.drop l).take (r - l))) h →
        (∀ p cap, a.eval x = .slice p els.length cap → els.length ≤ cap → ∀ w, (Instr.sliceBounds true els.length cap (lo.map a.eval) (hi.map a.eval) (mx.map a.eval)).run C.P w = .ok (l, r, cap) w) → DidA C.P o a φ (fun x => K x h) := by
      intro e l r ht hn hlr hr hk hb
      have hu := tK_slice ht
      rcases f_rel ex with ⟨rfl, q, hv⟩ | ⟨k, off, cap, hv, h1, h2, h3⟩
      · have hr0 : r = 0 := by simpa using hr
        have hl0 : l = 0 := by omega
        subst hr0; subst hl0
        refine did_any hk (v := .slice q 0 0) (fun w => ?_) (relV_of_rz (by simp [RZ]))
        refine exec_slice ho hv (fun p q => by cases q) ?_ (.inl ⟨e, hu⟩)
        have := run_slice (p := q) hu hn (hb q 0 hv (by simp) w)
        simpa using this
      · refine did_any hk (v := _) (fun w => exec_slice ho hv (fun p q => by cases q) (run_slice hu hn (hb _ cap hv h1 w)) (.inl ⟨e, hu⟩)) (relV_of_rz (rz_cut h1 h2 h3 hlr hr))
    split at hw
    · rename_i e e2 e3 e4 e5
      obtain ⟨hn, hk⟩ := hw
      refine fin (l := 0) (r := els.length) e2 hn (Nat.zero_le _) (Nat.le_refl _) (by simpa using hk) (fun p cap _ _ w => (cuts true els.length cap).1 e3 e4 e5 w)
    · rename_i e k l e2 e3 e4 e5
      obtain ⟨hn, ⟨h0, h1, -⟩, hk⟩ := hw
      refine fin (l := l.toNat) (r := els.length) e2 hn (by omega) (Nat.le_refl _) (by simpa using hk) (fun p cap _ _ w => (cuts true els.length cap).2.1 k l e3 e4 e5 h0 h1 w)
    · rename_i e k r e2 e3 e4 e5
      obtain ⟨hn, ⟨-, h1, h2⟩, hk⟩ := hw
      refine fin (l := 0) (r := r.toNat) e2 hn (by omega) (by omega) (by simpa using hk) (fun p cap _ hc w => (cuts true els.length cap).2.2.1 k r e3 e4 e5 h1 (by omega) w)
    · rename_i e k l k' r e2 e3 e4 e5
      obtain ⟨hn, ⟨h0, h1, h2⟩, hk⟩ := hw
      refine fin (l := l.toNat) (r := r.toNat) e2 hn (by omega) (by omega) hk (fun p cap _ hc w => (cuts true els.length cap).2.2.2.1 k l k' r e3 e4 e5 h0 h1 (by omega) w)
    · rename_i e k r k' m e2 e3 e4 e5
      obtain ⟨⟨hn, rfl, rfl⟩, hk⟩ := hw
      have hu := tK_slice e2
      have go : ∀ {p : Option Addr} {cap : Nat}, a.eval x = .slice p els.length cap → DidA C.P o a φ (fun x => K x h) := by
        intro p cap hv
        refine did_any hk (v := .slice p 0 0) (fun w => exec_slice ho hv (fun p q => by cases q) ?_ (.inl ⟨e, hu⟩)) mk_z
        have := run_slice (p := p) hu hn ((cuts true els.length cap).2.2.2.2 k 0 k' 0 e3 e4 e5 (by omega) (by omega) (by omega) w)
        simpa using this
      rcases f_rel ex with ⟨rfl, q, hv⟩ | ⟨k, off, cap, hv, h1, h2, h3⟩
      · exact go hv
      · exact go hv
    · exact hw.elim
  · -- no room
    rename_i e1
    rw [e1] at ex
    obtain ⟨p, hv⟩ := z_rel ex
    obtain ⟨c0, c1, c2, c3, c4⟩ := cuts true 0 0
    have fin : ∀ {e : TypeId}, tK C.P t = .slice e → isN (tSz C.P e) → K .z h → (∀ w, (Instr.sliceBounds true 0 0 (lo.map a.eval) (hi.map a.eval) (mx.map a.eval)).run C.P w = .ok (0, 0, 0) w) → DidA C.P o a φ (fun x => K x h) := by
      intro e ht hn hk hb
      have hu := tK_slice ht
      cases hs : tSz C.P e with
      | none => rw [hs] at hn; exact hn.elim
      | some n =>
        refine did_any hk (v := .slice p 0 0) (fun w => exec_slice ho hv (fun p q => by cases q) ?_ (.inl ⟨e, hu⟩)) mk_z
        have := run_slice (p := p) hu hs (hb w)
        simpa using this
    split at hw
    · rename_i e e2 e3 e4 e5; exact fin e2 hw.1 hw.2 (fun w => c0 e3 e4 e5 w)
    · rename_i e k l e2 e3 e4 e5; obtain ⟨⟨hn, rfl⟩, hk⟩ := hw; exact fin e2 hn hk (fun w => c1 k 0 e3 e4 e5 (by omega) (by omega) w)
    · rename_i e k r e2 e3 e4 e5; obtain ⟨⟨hn, rfl⟩, hk⟩ := hw; exact fin e2 hn hk (fun w => c2 k 0 e3 e4 e5 (by omega) (by omega) w)
    · rename_i e k l k' r e2 e3 e4 e5; obtain ⟨⟨hn, rfl, rfl⟩, hk⟩ := hw; exact fin e2 hn hk (fun w => c3 k 0 k' 0 e3 e4 e5 (by omega) (by omega) (by omega) w)
    · rename_i e k r k' m e2 e3 e4 e5; obtain ⟨⟨hn, rfl, rfl⟩, hk⟩ := hw; exact fin e2 hn hk (fun w => c4 k 0 k' 0 e3 e4 e5 (by omega) (by omega) (by omega) w)
    · exact hw.elim
  · -- a block
    rename_i b off len cap e1
    rw [e1] at ex
    obtain ⟨p, n, hp, hv⟩ := sl_rel ex
    obtain ⟨c0, c1, c2, c3, c4⟩ := cuts true len cap
    have size : ∀ {e : TypeId}, sameN (strideB (h[b]?)) (tSz C.P e) → tSz C.P e = some n := by
      intro e hst
      unfold sameN at hst
      split at hst
      · rename_i a' b' hs1 hs2
        subst hst
        unfold strideB at hs1
        split at hs1
        · rename_i els n' cap' hb
          obtain ⟨pp, g1, _⟩ := R.place hb rfl
          rw [hp] at g1; cases g1
          cases hs1; exact hs2
        · cases hs1
      · exact hst.elim
    -- what comes out, by where the block lies
    have out : ∀ {e : TypeId} {l r : Nat}, tK C.P t = .slice e → tSz C.P e = some n → (∀ w, (Instr.sliceBounds true len cap (lo.map a.eval) (hi.map a.eval) (mx.map a.eval)).run C.P w = .ok (l, r, cap) w) →
        ∃ q, a.eval x = .slice q len cap ∧ ∀ w, (execOp a.eval o).run C.P w = .ok (.value (.slice (if cap = l then q else q.map (·.add (l * n))) (r - l) (cap - l))) w := by
      intro e l r ht hn hb
      have hu := tK_slice ht
      have hq : ∃ q, a.eval x = .slice q len cap := by
        cases p with
        | none => obtain ⟨⟨q, hv⟩, rfl, rfl, _⟩ := hv; exact ⟨q, hv⟩
        | some k => exact ⟨_, hv⟩
      obtain ⟨q, hq⟩ := hq
      exact ⟨q, hq, fun w => exec_slice ho hq (fun p q => by cases q) (run_slice hu hn (hb w)) (.inl ⟨e, hu⟩)⟩
    have same : ∀ {r : Nat}, r ≤ cap → (p = none → r = 0) → ∀ {q : Option Addr}, a.eval x = .slice q len cap → RelV φ (.sl b off r cap) (.slice (if cap = 0 then q else q.map (·.add (0 * n))) (r - 0) (cap - 0)) := by
      intro r hrc hr q hq
      cases p with
      | none =>
        obtain ⟨⟨q', hv⟩, rfl, rfl, rfl⟩ := hv
        rw [hr rfl]
        exact mk_nil hp
      | some k =>
        simp only at hv
        rw [hv] at hq; cases hq
        have : (if cap = 0 then (some (⟨k, off * n, none⟩ : Addr)) else (some (⟨k, off * n, none⟩ : Addr)).map (·.add (0 * n))) = some ⟨k, off * n, none⟩ := by
          split
          · rfl
          · simp [addr_add]
        rw [this]
        exact mk_sl hp hrc
    have cut : ∀ {l r : Nat}, l ≤ r → r ≤ cap → cutO K h b off cap (some n) l r (decide (l < r)) → ∀ {q : Option Addr}, a.eval x = .slice q len cap →
        ∃ x', K x' h ∧ RelV φ x' (.slice (if cap = l then q else q.map (·.add (l * n))) (r - l) (cap - l)) := by
      intro l r hlr hrc hk q hq
      by_cases hlt : l < r
      · rw [decide_eq_true hlt] at hk
        refine ⟨_, hk, ?_⟩
        rw [if_neg (by omega)]
        cases p with
        | none => obtain ⟨_, rfl, rfl, _⟩ := hv; omega
        | some k =>
          simp only at hv
          rw [hv] at hq; cases hq
          simp only [Option.map_some, addr_add, ← Nat.add_mul]
          exact mk_sl hp (by omega)
      · rw [decide_eq_false hlt] at hk
        refine ⟨_, hk, ?_⟩
        have : r - l = 0 := by omega
        rw [this]
        cases p with
        | none =>
          obtain ⟨_, rfl, rfl, _⟩ := hv
          have : l = 0 := by omega
          subst this
          exact mk_f0
        | some k =>
          simp only at hv
          rw [hv] at hq; cases hq
          split
          · exact mk_fe
          · simp only [Option.map_some, addr_add]; exact mk_fe
    split at hw
    · rename_i e e2 e3 e4 e5
      obtain ⟨hst, hk⟩ := hw
      obtain ⟨q, hq, hr⟩ := out e2 (size hst) (fun w => c0 e3 e4 e5 w)
      refine ⟨_, _, hk, hr, same (sl_le ex) (fun hn => ?_) hq⟩
      subst hn; exact hv.2.1
    · rename_i e k l e2 e3 e4 e5
      obtain ⟨⟨hst, h0, h1, h2⟩, hk⟩ := hw
      have hn := size hst
      rw [hn] at hk
      obtain ⟨q, hq, hr⟩ := out e2 hn (fun w => c1 k l e3 e4 e5 h0 h1 w)
      have hd : decide (l < (len : Int)) = decide (l.toNat < len) := by
        by_cases q : l < (len : Int)
        · rw [decide_eq_true q, decide_eq_true (by omega)]
        · rw [decide_eq_false q, decide_eq_false (by omega)]
      rw [hd] at hk
      obtain ⟨x', k1, k2⟩ := cut (by omega) h2 hk hq
      exact ⟨x', _, k1, hr, k2⟩
    · rename_i e k r e2 e3 e4 e5
      obtain ⟨hst, ⟨h0, h1⟩, hk⟩ := hw
      obtain ⟨q, hq, hr⟩ := out e2 (size hst) (fun w => c2 k r e3 e4 e5 h0 h1 w)
      refine ⟨_, _, hk, hr, same (by omega) (fun hn => ?_) hq⟩
      subst hn; obtain ⟨_, _, rfl, _⟩ := hv; omega
    · rename_i e k l k' r e2 e3 e4 e5
      obtain ⟨⟨hst, h0, h1, h2⟩, hk⟩ := hw
      have hn := size hst
      rw [hn] at hk
      obtain ⟨q, hq, hr⟩ := out e2 hn (fun w => c3 k l k' r e3 e4 e5 h0 h1 h2 w)
      have hd : decide (l < r) = decide (l.toNat < r.toNat) := by
        by_cases q : l < r
        · rw [decide_eq_true q, decide_eq_true (by omega)]
        · rw [decide_eq_false q, decide_eq_false (by omega)]
      rw [hd] at hk
      obtain ⟨x', k1, k2⟩ := cut (by omega) (by omega) hk hq
      exact ⟨x', _, k1, hr, k2⟩
    · rename_i e k r k' m e2 e3 e4 e5
      obtain ⟨⟨hst, rfl, rfl⟩, hk⟩ := hw
      have hu := tK_slice e2
      have hq : ∃ q, a.eval x = .slice q len cap := by
        cases p with
        | none => obtain ⟨⟨q, hv⟩, rfl, rfl, _⟩ := hv; exact ⟨q, hv⟩
        | some k => exact ⟨_, hv⟩
      obtain ⟨q, hq⟩ := hq
      refine did_any hk (v := .slice q 0 0) (fun w => exec_slice ho hq (fun p q => by cases q) ?_ (.inl ⟨e, hu⟩)) mk_z
      have := run_slice (p := q) hu (size hst) (c4 k 0 k' 0 e3 e4 e5 (by omega) (by omega) (by omega) w)
      simpa using this
    · rename_i e k l k' r k'' m e2 e3 e4 e5
      obtain ⟨⟨hst, h0, h1, h2, h3⟩, hk⟩ := hw
      have hu := tK_slice e2
      have hq : ∃ q, a.eval x = .slice q len cap := by
        cases p with
        | none => obtain ⟨⟨q, hv⟩, rfl, rfl, _⟩ := hv; exact ⟨q, hv⟩
        | some k => exact ⟨_, hv⟩
      obtain ⟨q, hq⟩ := hq
      have hb : ∀ w, (Instr.sliceBounds true len cap (lo.map a.eval) (hi.map a.eval) (mx.map a.eval)).run C.P w = .ok (l.toNat, r.toNat, m.toNat) w := fun w => by
        rw [opt_int G T hlo e3, opt_int G T hhi e4, opt_int G T hmx e5]; exact sb5 h0 h1 h2 h3 w
      exact did_any hk (fun w => exec_slice ho hq (fun p q => by cases q) (run_slice hu (size hst) (hb w)) (.inl ⟨e, hu⟩)) relV_any
    · exact hw.elim
  · rename_i cs e1
    rw [e1] at ex
    split at hw
    · rename_i n e e2 e3 e4 e5
      obtain ⟨⟨hsz, hl, hlim⟩, hk⟩ := hw
      have hu := tK_arr e2
      obtain ⟨k', off, hv, q⟩ := pd_rel ex
      subst hl
      have hb := fun w => (cuts false cs.length cs.length).1 e3 e4 e5 w
      refine did_any hk (v := .slice (some ⟨k', off, none⟩) cs.length cs.length) (fun w => ?_) (relV_of_rz (rz_pd_f hlim q))
      have hz : (⟨k', off, none⟩ : Addr).add (0 * 1) = ⟨k', off, none⟩ := by simp [addr_add]
      simp only [execOp, ho, hv, Instr.sliceAt, Sem.run_bind, run_underlying hu, Result.andThen_ok, Instr.sureAddr, Sem.run_pure, hb w, run_sz hsz, hz, ite_self, Nat.sub_zero]
    · exact hw.elim
  · exact hw.elim
end
end Go.W
/- part W12 -/
set_option linter.unusedVariables false
set_option linter.unusedSimpArgs false
namespace Go.W
open Go Go.RowKit

section
variable (K : V → H → Prop) (h : H)
def lenK : TK → V → Prop
  | .string, .s (.string s) => s.size ≤ LIM → K (.s (.int .i64 s.size)) h
  | .slice _, .f _ els => els.length ≤ LIM → K (.s (.int .i64 els.length)) h
  | .slice _, .sl _ _ len _ => K (.s (.int .i64 len)) h
  | .slice _, .z => K (.s (.int .i64 0)) h
  | _, _ => False
def capK : TK → V → Prop
  | .slice _, .f _ els => ∀ c : Nat, els.length ≤ c → K (.s (.int .i64 c)) h
  | .slice _, .sl _ _ _ cap => K (.s (.int .i64 cap)) h
  | .slice _, .z => K (.s (.int .i64 0)) h
  | _, _ => False
def minK : V → V → Prop
  | .s (.int k a), .s (.int _ b) => K (.s (.int k (if b < a then b else a))) h
  | _, _ => False
def maxK : V → V → Prop
  | .s (.int k a), .s (.int _ b) => K (.s (.int k (if a < b then b else a))) h
  | _, _ => False
end
def builtinW (C : Cx) (K : V → H → Prop) (h : H) (b : Builtin) (xs : List V) (ts : List TypeId) : Prop :=
  match b, xs, ts with
  | .len, [x], [t] => lenK K h (tK C.P t) x
  | .cap, [x], [t] => capK K h (tK C.P t) x
  | .min, [x, y], _ => minK K h x y
  | .max, [x, y], _ => maxK K h x y
  | _, _, _ => False

section
variable {C : Cx} {o : Oper} {a : Act} {w : World} {S : Nat → Prop} {w0 : World} {φ : Phi} {K : V → H → Prop} {h : H} {τ : Tau} {F : Nat → Fp}

theorem exec_builtin {P : Program} {c : Call} {b : Builtin} (ho : o.op = .call c) (hc : c.callee = .builtin b) :
    ∃ cs, ∀ w, (execOp a.eval o).run P w = (builtin b c.argTypes o.type cs (c.args.map a.eval)).run P w := by
  simp only [execOp, ho, resolve, hc, Sem.run_bind, Sem.run_pure, Result.andThen_ok, invoke]
  exact ⟨_, fun _ => rfl⟩
theorem arr2 {α : Type} {x : Array α} {p q : α} (h : x.toList = [p, q]) : x = #[p, q] := by
  apply Array.ext'; simpa using h
theorem arr1 {α : Type} {x : Array α} {p : α} (h : x.toList = [p]) : x = #[p] := by
  apply Array.ext'; simpa using h
theorem evs_one {xs : List Operand} {x : V} (h : evs C τ xs = [x]) : ∃ y, xs = [y] ∧ ev C τ y = x := by
  cases xs with
  | nil => cases h
  | cons y ys =>
    cases ys with
    | nil => simp only [evs, List.cons.injEq, and_true] at h; exact ⟨y, rfl, h⟩
    | cons z zs => simp [evs] at h
theorem evs_two {xs : List Operand} {x y : V} (h : evs C τ xs = [x, y]) : ∃ p q, xs = [p, q] ∧ ev C τ p = x ∧ ev C τ q = y := by
  cases xs with
  | nil => cases h
  | cons p ps =>
    cases ps with
    | nil => simp [evs] at h
    | cons q qs =>
      cases qs with
      | nil => simp only [evs, List.cons.injEq, and_true] at h; exact ⟨p, q, rfl, h.1, h.2⟩
      | cons z zs => simp [evs] at h

theorem builtinW_sound {c : Call} {b : Builtin} (ho : o.op = .call c) (hc : c.callee = .builtin b) (hok : c.args.toList.all opdOk = true) (G : RelG C φ.z) (T : RelT φ τ a)
    (hw : builtinW C K h b (evs C τ c.args.toList) c.argTypes.toList) : DidA C.P o a φ (fun x => K x h) := by
  unfold builtinW at hw
  split at hw
  · rename_i x t e1 e2
    obtain ⟨y, e3, rfl⟩ := evs_one e1
    have ha := arr1 e3
    have ht := arr1 e2
    rw [e3] at hok
    simp only [List.all_cons, List.all_nil, Bool.and_true] at hok
    have ex := ev_rel G T y hok
    obtain ⟨cs, hcs⟩ := exec_builtin (P := C.P) (a := a) ho hc
    unfold lenK at hw
    split at hw
    · rename_i s f1 f2
      rw [f2] at ex; obtain ⟨ex, hone⟩ := s_rel ex
      simp only [one, decide_eq_true_eq] at hone
      refine did_any (hw hone) (v := .int .i64 s.size) (fun w => ?_) (mk_s rfl)
      rw [hcs, ha, ht]
      simp [builtin, Builtin.len_, run_underlying (tK_string f1), ex, goInt]
    · rename_i e n els f1 f2
      rw [f2] at ex
      rcases f_rel ex with ⟨rfl, q, hv⟩ | ⟨k, off, cap, hv, h1, h2, h3⟩
      · refine did_any (hw (by simp)) (v := .int .i64 0) (fun w => ?_) (mk_s rfl)
        rw [hcs, ha, ht]
        simp [builtin, Builtin.len_, run_underlying (tK_slice f1), hv, goInt]
      · refine did_any (hw h2) (v := .int .i64 els.length) (fun w => ?_) (mk_s rfl)
        rw [hcs, ha, ht]
        simp [builtin, Builtin.len_, run_underlying (tK_slice f1), hv, goInt]
    · rename_i e b' off len cap f1 f2
      rw [f2] at ex
      obtain ⟨p, n, hp, hv⟩ := sl_rel ex
      refine did_any hw (v := .int .i64 len) (fun w => ?_) (mk_s rfl)
      rw [hcs, ha, ht]
      cases p with
      | none => obtain ⟨⟨q, hv⟩, rfl, _⟩ := hv; simp [builtin, Builtin.len_, run_underlying (tK_slice f1), hv, goInt]
      | some k => simp only at hv; simp [builtin, Builtin.len_, run_underlying (tK_slice f1), hv, goInt]
    · rename_i e f1 f2
      rw [f2] at ex
      obtain ⟨p, hv⟩ := z_rel ex
      refine did_any hw (v := .int .i64 0) (fun w => ?_) (mk_s rfl)
      rw [hcs, ha, ht]
      simp [builtin, Builtin.len_, run_underlying (tK_slice f1), hv, goInt]
    · exact hw.elim
  · rename_i x t e1 e2
    obtain ⟨y, e3, rfl⟩ := evs_one e1
    have ha := arr1 e3
    have ht := arr1 e2
    rw [e3] at hok
    simp only [List.all_cons, List.all_nil, Bool.and_true] at hok
    have ex := ev_rel G T y hok
    obtain ⟨cs, hcs⟩ := exec_builtin (P := C.P) (a := a) ho hc
    unfold capK at hw
    split at hw
    · rename_i e n els f1 f2
      rw [f2] at ex
      rcases f_rel ex with ⟨rfl, q, hv⟩ | ⟨k, off, cap, hv, h1, h2, h3⟩
      · refine did_any (hw 0 (by simp)) (v := .int .i64 0) (fun w => ?_) (mk_s rfl)
        rw [hcs, ha, ht]
        simp [builtin, Builtin.cap_, run_underlying (tK_slice f1), hv, goInt]
      · refine did_any (hw cap h1) (v := .int .i64 cap) (fun w => ?_) (mk_s rfl)
        rw [hcs, ha, ht]
        simp [builtin, Builtin.cap_, run_underlying (tK_slice f1), hv, goInt]
    · rename_i e b' off len cap f1 f2
      rw [f2] at ex
      obtain ⟨p, n, hp, hv⟩ := sl_rel ex
      refine did_any hw (v := .int .i64 cap) (fun w => ?_) (mk_s rfl)
      rw [hcs, ha, ht]
      cases p with
      | none => obtain ⟨⟨q, hv⟩, _, rfl, _⟩ := hv; simp [builtin, Builtin.cap_, run_underlying (tK_slice f1), hv, goInt]
      | some k => simp only at hv; simp [builtin, Builtin.cap_, run_underlying (tK_slice f1), hv, goInt]
    · rename_i e f1 f2
      rw [f2] at ex
      obtain ⟨p, hv⟩ := z_rel ex
      refine did_any hw (v := .int .i64 0) (fun w => ?_) (mk_s rfl)
      rw [hcs, ha, ht]
      simp [builtin, Builtin.cap_, run_underlying (tK_slice f1), hv, goInt]
    · exact hw.elim
  · rename_i x y e1
    obtain ⟨p, q, e3, rfl, rfl⟩ := evs_two e1
    have ha := arr2 e3
    rw [e3] at hok
    simp only [List.all_cons, List.all_nil, Bool.and_true, Bool.and_eq_true] at hok
    have ex := ev_rel G T p hok.1
    have ey := ev_rel G T q hok.2
    obtain ⟨cs, hcs⟩ := exec_builtin (P := C.P) (a := a) ho hc
    unfold minK at hw
    split at hw
    · rename_i k p k' q f1 f2
      rw [f1] at ex; obtain ⟨ex, -⟩ := s_rel ex
      rw [f2] at ey; obtain ⟨ey, -⟩ := s_rel ey
      refine did_any hw (v := .int k (if q < p then q else p)) (fun w => ?_) (mk_s rfl)
      rw [hcs, ha]
      simp [builtin, Builtin.min_, ex, ey, Builtin.min2]
    · exact hw.elim
  · rename_i x y e1
    obtain ⟨p, q, e3, rfl, rfl⟩ := evs_two e1
    have ha := arr2 e3
    rw [e3] at hok
    simp only [List.all_cons, List.all_nil, Bool.and_true, Bool.and_eq_true] at hok
    have ex := ev_rel G T p hok.1
    have ey := ev_rel G T q hok.2
    obtain ⟨cs, hcs⟩ := exec_builtin (P := C.P) (a := a) ho hc
    unfold maxK at hw
    split at hw
    · rename_i k p k' q f1 f2
      rw [f1] at ex; obtain ⟨ex, -⟩ := s_rel ex
      rw [f2] at ey; obtain ⟨ey, -⟩ := s_rel ey
      refine did_any hw (v := .int k (if p < q then q else p)) (fun w => ?_) (mk_s rfl)
      rw [hcs, ha]
      simp [builtin, Builtin.max_, ex, ey, Builtin.max2]
    · exact hw.elim
  · exact hw.elim

def isA : Op → Bool
  | .move _ | .assign _ | .pick .. | .build .. | .nilCheck _ | .binOp .. | .unOp .. | .makeInterface .. | .typeAssert .. | .makeFunc .. | .slice .. | .fieldAddr .. | .field .. | .indexAddr .. | .index .. | .extract .. => true
  | _ => false

theorem opW_any (hA : isA o.op = true) (hok : o.op.operands.all opdOk = true) (R : Rel S w0 φ h w) (G : RelG C φ.z) (T : RelT φ τ a) (hw : opW C τ h o.op K) : DidA C.P o a φ fun x => K x h := by
  cases hop : o.op <;> rw [hop] at hw hok hA <;> simp only [Op.operands, Array.all_push, List.all_toArray, Array.all_append, List.all_cons, List.all_nil, Bool.and_true, Bool.and_eq_true] at hok <;> simp only [opW] at hw
  case move x => exact sem_move (.inl hop) G T hok hw
  case assign x => exact sem_move (.inr hop) G T hok hw
  case pick c x y => exact sem_pick hop G T hok.1 hok.2.1 hok.2.2 hw
  case build t ps => exact sem_build hop G T hok hw
  case nilCheck x => exact sem_nilCheck hop G T hok hw
  case binOp op t x y u => exact sem_binOp hop G T hok.1 hok.2 hw
  case unOp op t x => exact sem_unOp hop G T hok hw
  case makeInterface t x => exact sem_makeInterface hop G T hok hw
  case typeAssert x u t ok => exact sem_typeAssert hop G T hok hw
  case makeFunc fn first caps => exact sem_makeFunc hop G T (by have := hok.2; rw [← Array.all_toList] at this; exact this) hw
  case slice t x lo hi mx =>
    refine sem_slice hop R G T ?_ ?_ ?_ ?_ hw
    · exact hok.1.1.1
    · rintro y rfl; simpa using hok.1.1.2
    · rintro y rfl; simpa using hok.1.2
    · rintro y rfl; simpa using hok.2
  case fieldAddr s x f => exact sem_fieldAddr hop G T hok hw
  case field s x f => exact sem_field hop G T hok hw
  case indexAddr t x i => exact sem_indexAddr hop R G T hok.1 hok.2 hw
  case index t x i => exact sem_index hop G T hok.1 hok.2 hw
  case extract x i => exact sem_extract hop G T hok hw
  all_goals cases hA

theorem opW_sound (hok : o.op.operands.all opdOk = true) (R : Rel S w0 φ h w) (G : RelG C φ.z) (T : RelT φ τ a) (hw : opW C τ h o.op K) : Did C.P o a w S w0 φ h.length K := by
  by_cases hA : isA o.op = true
  · exact (opW_any hA hok R G T hw).did R
  cases hop : o.op <;> rw [hop] at hw hok hA <;> simp only [Op.operands, Array.all_push, List.all_toArray, Array.all_append, List.all_cons, List.all_nil, Bool.and_true, Bool.and_eq_true] at hok
  case alloc e => exact sem_alloc hop R hw
  case box e x => exact sem_box hop R G T hok hw
  case buildSlice t n ps => exact sem_buildSlice hop R G T hok hw
  case load t x => exact sem_load hop R G T hok hw
  case store t p x => exact sem_store hop R G T hok.1 hok.2 hw
  case makeSlice t l c => exact sem_makeSlice hop R G T hok.1 hok.2 hw
  case convert s t x =>
    obtain ⟨x', v, h1, h2, h3⟩ := sem_convert hop R G T hok hw
    exact did_val R h1 h2 h3
  all_goals first
    | exact absurd rfl hA
    | (simp only [opW] at hw; done)

end
end Go.W
/- part W13 -/
set_option linter.unusedVariables false
set_option linter.unusedSimpArgs false
namespace Go.W
open Go Go.RowKit

section
variable {P : Program}
theorem run_app_room {w w' : World} {t ty e : TypeId} {i : TypeInfo} (ht : P.underlying t = some (.slice e)) (hi : P.info? e = some i) {p : Option Addr} {len cap m : Nat} {xv : Value} {news : List Value}
    (hlen : ∀ w, (Builtin.lenOf xv).run P w = .ok m w) (hf : (Builtin.firstCells i.size m xv).run P w = .ok news.toArray w) (hroom : len + m ≤ cap)
    (hst : match p with | some a => (storeCells (a.add (len * i.size)) news).run P w = .ok () w' | none => w' = w) :
    (Builtin.append_ #[t, t] ty #[.slice p len cap, xv]).run P w = .ok (.slice p (len + m) cap) w' := by
  cases p with
  | none => simp only at hst; subst hst; simp [Builtin.append_, run_underlying ht, sizeOf, typeInfo, hi, hlen, hroom, hf]
  | some a => simp only at hst; simp [Builtin.append_, run_underlying ht, sizeOf, typeInfo, hi, hlen, hroom, hf, hst]
theorem run_app_grow {w : World} {t ty e : TypeId} {i : TypeInfo} {z : Value} (ht : P.underlying t = some (.slice e)) (hi : P.info? e = some i) (hz : i.zero = some z) {p : Option Addr} {len cap m : Nat} {xv : Value} {olds news : List Value}
    (hlen : ∀ w, (Builtin.lenOf xv).run P w = .ok m w) (hf : (Builtin.firstCells i.size m xv).run P w.drew = .ok news.toArray w.drew)
    (ho : (Builtin.firstCells i.size len (.slice p len cap)).run P w.drew = .ok olds.toArray w.drew) (hg : cap < len + m) (h63 : len + m ≤ LIM) (hfit : (len + m) * i.bytes ≤ 140737488355328) :
    (Builtin.append_ #[t, t] ty #[.slice p len cap, xv]).run P w =
      .ok (.slice (some ⟨w.heap.size, 0, none⟩) (len + m) (grownCap w (len + m) cap e))
        (w.drew.alloc (.cells (olds.toArray ++ news.toArray ++ Builtin.zeroCells z.cells (grownCap w (len + m) cap e - (len + m))) e)) := by
  have hn : ¬ (len + m ≤ cap) := by omega
  have h63' : ¬ (9223372036854775807 < ((len : Int) + (m : Int))) := by unfold LIM at h63; omega
  have hfit' := growslice_fits hg hfit
  have h48' : ¬ (281474976710656 < Builtin.nextslicecap (len + m) cap * i.bytes) := by omega
  simp [Builtin.append_, run_underlying ht, sizeOf, typeInfo, zeroValue, hi, hz, hlen, hn, h63', h48', Question.forced, hf, ho, newRow, grownCap]
  congr 2; apply Array.ext'; simp
theorem run_app_make {w : World} {t u ty e : TypeId} {i : TypeInfo} {z : Value} {ku kx : IntKind} (ht : P.underlying t = some (.slice e)) (hu : P.underlying u = some (.int ku)) (hi : P.info? e = some i) (hz : i.zero = some z) {p : Option Addr} {len cap m : Nat} {x : Int} {olds : List Value}
    (hx : IntKind.i64.wrap x = m) (hm0 : 0 < m) (hsz : 0 < i.size)
    (ho : (Builtin.firstCells i.size len (.slice p len cap)).run P w.drew = .ok olds.toArray w.drew) (hg : cap < len + m) (h63 : len + m ≤ LIM) (hfit : (len + m) * i.bytes ≤ 140737488355328) :
    (Builtin.append_ #[t, u] ty #[.slice p len cap, .int kx x]).run P w =
      .ok (.slice (some ⟨w.heap.size, 0, none⟩) (len + m) (grownCap w (len + m) cap e))
        (w.drew.alloc (.cells (olds.toArray ++ Builtin.zeroCells z.cells m ++ Builtin.zeroCells z.cells (grownCap w (len + m) cap e - (len + m))) e)) := by
  have hn : ¬ (len + m ≤ cap) := by omega
  have h63' : ¬ (9223372036854775807 < ((len : Int) + (m : Int))) := by unfold LIM at h63; omega
  have hfit' := growslice_fits hg hfit
  have h48' : ¬ (281474976710656 < Builtin.nextslicecap (len + m) cap * i.bytes) := by omega
  have hm1 : ¬ (281474976710656 < (m : Int) * (i.bytes : Int)) := by
    have h1 : m * i.bytes ≤ (len + m) * i.bytes := Nat.mul_le_mul_right _ (by omega)
    have h2 : m * i.bytes ≤ 140737488355328 := Nat.le_trans h1 hfit
    rw [← Int.natCast_mul]
    generalize m * i.bytes = y at h2 ⊢
    omega
  have hm2 : ¬ ((m : Int) < 0) := by omega
  have hm3 : ¬ (m * i.size = 0) := by
    have := Nat.mul_pos hm0 hsz; omega
  simp [Builtin.append_, run_underlying ht, run_underlying hu, sizeOf, typeInfo, zeroValue, hi, hz, hn, h63', h48', Question.forced, ho, newRow, grownCap, asInt, asIntOf, hx, hm1, hm2, hm3]
end

section
variable (K : V → H → Prop) (h : H)
def newsOf (n : Nat) : V → Option (List (List V))
  | .f n' els => if n' = n then some els else none
  | .z => some []
  | .sl b off len _ => if strideB (h[b]?) = some n then elsOf off len (h[b]?) else none
  | _ => none
def blkIs (n cap len : Nat) : Option Blk → Prop
  | some ⟨els, n', cap', true⟩ => n' = n ∧ cap' = cap ∧ len ≤ els.length
  | _ => False
def takeTo (len : Nat) (els : List (List V)) : List (List V) := if len = els.length then els else els.take len
def keptB (len : Nat) : Option Blk → List (List V)
  | some ⟨els, _, _, _⟩ => takeTo len els
  | none => []
def appN (n by_ : Nat) (s : V) : Option (List (List V)) → Prop
  | some news => leafs news = true ∧ match s with
    | .sl b 0 len cap => (blkIs n cap len (h[b]?) ∧ (len + news.length) * by_ ≤ 140737488355328 ∧ len + news.length ≤ LIM) ∧
        ∀ cap', len + news.length ≤ cap' → (len + news.length ≤ cap → cap' = cap) → K (.sl h.length 0 (len + news.length) cap') (h.set b Blk.dead ++ [⟨keptB len (h[b]?) ++ news, n, cap', true⟩])
    | .z => (news.length * by_ ≤ 140737488355328 ∧ news.length ≤ LIM) ∧ ∀ cap', news.length ≤ cap' → K (.sl h.length 0 news.length cap') (h ++ [⟨news, n, cap', true⟩])
    | _ => False
  | none => False
def appT (s x : V) : Option Nat → Option Nat → Option (List V) → Prop
  | some n, some by_, some z => z.length = n ∧ appN K h n by_ s (newsOf h n x)
  | _, _, _ => False
def mkA (s x : V) : Option Nat → Option Nat → Option (List V) → Prop
  | some n, some by_, some z => match s, x with
    | .sl b 0 len cap, .s (.int _ m) => (z.length = n ∧ 0 < n ∧ 0 < m ∧ m ≤ 4611686018427387904 ∧ blkIs n cap len (h[b]?) ∧ cap < len + m.toNat ∧ (len + m.toNat) * by_ ≤ 140737488355328 ∧ len + m.toNat ≤ LIM ∧ leafs (keptB len (h[b]?)) = true) ∧
        ∀ cap', len + m.toNat ≤ cap' → K (.sl h.length 0 (len + m.toNat) cap') (h ++ [⟨keptB len (h[b]?) ++ List.replicate m.toNat z, n, cap', true⟩])
    | _, _ => False
  | _, _, _ => False
def appF (C : Cx) (t u e : TypeId) (s x : V) : TK → Prop
  | .int _ => mkA K h s x (tSz C.P e) (tBytes C.P e) (tZ C.P e)
  | _ => t = u ∧ appT K h s x (tSz C.P e) (tBytes C.P e) (tZ C.P e)
def appW (C : Cx) (t u : TypeId) (s x : V) : Prop := match tElem C.P t with
  | some e => appF K h C t u e s x (tK C.P u)
  | none => False
end

section
variable {C : Cx} {o : Oper} {a : Act} {w : World} {S : Nat → Prop} {w0 : World} {φ : Phi} {K : V → H → Prop} {h : H} {τ : Tau} {F : Nat → Fp}

theorem leafs_flat : ∀ {els : List (List V)}, leafs els = true → els.flatten.all cellOk = true
  | [], _ => rfl
  | el :: els, h => by
    simp only [leafs, List.all_cons, Bool.and_eq_true] at h
    simp only [List.flatten_cons, List.all_append, Bool.and_eq_true]
    exact ⟨h.1, leafs_flat (by simpa [leafs] using h.2)⟩
theorem rz_flat {z : Zm} {k n : Nat} : ∀ {els : List (List V)} {off : Nat}, RZss z k n off els → (∀ el ∈ els, el.length = n) ∧ ∃ vs : List Value, All2 (RZ z) els.flatten vs ∧ ∀ j v, vs[j]? = some v → z k (off + j) = some v
  | [], off, _ => ⟨by simp, [], trivial, fun j v h => by simp at h⟩
  | el :: els, off, r => by
    simp only [RZss] at r
    obtain ⟨h1, h2, h3⟩ := r
    obtain ⟨q1, vs, q2, q3⟩ := rz_flat h3
    have one : ∀ {xs : List V} {off : Nat}, RZs z k off xs → ∃ us : List Value, All2 (RZ z) xs us ∧ ∀ j v, us[j]? = some v → z k (off + j) = some v := by
      intro xs
      induction xs with
      | nil => exact fun _ => ⟨[], trivial, fun j v h => by simp at h⟩
      | cons y ys ih =>
        intro off r
        simp only [RZs] at r
        obtain ⟨⟨c, e1, e2⟩, e3⟩ := r
        obtain ⟨us, g1, g2⟩ := ih e3
        refine ⟨c :: us, ⟨e2, g1⟩, fun j v h => ?_⟩
        cases j with
        | zero => simp at h; subst h; exact e1
        | succ j => rw [show off + (j + 1) = off + 1 + j by omega]; exact g2 j v (by simpa using h)
    obtain ⟨us, g1, g2⟩ := one h2
    have hl : us.length = n := by rw [← g1.length]; exact h1
    refine ⟨fun x hx => by rcases List.mem_cons.1 hx with rfl | hx; exact h1; exact q1 x hx, us ++ vs, by simpa using g1.append q2, fun j v h => ?_⟩
    by_cases hj : j < n
    · rw [List.getElem?_append_left (by omega)] at h; exact g2 j v h
    · rw [List.getElem?_append_right (by omega), hl] at h
      have := q3 _ v h
      rw [← this]; congr 1; omega

theorem flat_len {n : Nat} : ∀ {els : List (List V)}, (∀ el ∈ els, el.length = n) → els.flatten.length = els.length * n
  | [], _ => by simp
  | e :: es, h => by
    simp only [List.flatten_cons, List.length_append, List.length_cons, Nat.succ_mul]
    rw [flat_len (fun x hx => h x (by simp [hx])), h e (by simp)]; omega

theorem Lss.dropN {R : V → Value → Fp → Prop} {n : Nat} : ∀ {els : List (List V)} {vs : List Value} {f : Fp} (j : Nat), Lss R n els vs f → ∃ g, Lss R n (els.drop j) (vs.drop (j * n)) g
  | els, vs, f, 0, r => ⟨f, by simpa using r⟩
  | [], vs, f, j + 1, r => ⟨[], by simp [Lss]⟩
  | x :: xs, vs, f, j + 1, r => by
    simp only [Lss] at r
    obtain ⟨h0, f1, f2, rfl, h3, h4⟩ := r
    obtain ⟨g, hg⟩ := Lss.dropN j h4
    refine ⟨g, ?_⟩
    rw [List.drop_succ_cons, show (j + 1) * n = n + j * n by rw [Nat.succ_mul]; omega, ← List.drop_drop]
    exact hg
theorem lss_cells {n : Nat} : ∀ {els : List (List V)} {vs : List Value} {f : Fp}, Lss (Dc φ w) n els vs f → els.flatten.all cellOk = true → All2 (RelC φ) els.flatten (vs.take (els.length * n))
  | [], vs, f, _, _ => by simp [All2]
  | el :: els, vs, f, hl, hok => by
    simp only [Lss] at hl
    obtain ⟨h0, f1, f2, _, h3, h4⟩ := hl
    simp only [List.flatten_cons, List.all_append, Bool.and_eq_true] at hok ⊢
    have r1 := ls_all2 h3 hok.1
    have r2 := lss_cells h4 hok.2
    have e : vs.take ((el :: els).length * n) = vs.take el.length ++ (vs.drop n).take (els.length * n) := by
      rw [List.length_cons, Nat.succ_mul, Nat.add_comm, List.take_add, h0]
    rw [e]; exact r1.append r2

theorem news_cells {P : Program} {x : V} {xv : Value} {n : Nat} {news : List (List V)} (R : RelF S w0 φ h w F) (r : RelV φ x xv) (hx : newsOf h n x = some news) (hok : leafs news = true) :
    (∀ el ∈ news, el.length = n) ∧ (∀ w, (Builtin.lenOf xv).run P w = .ok news.length w) ∧ ∃ vals : List Value, All2 (RelC φ) news.flatten vals ∧ vals.length = news.length * n ∧
      ∀ w', (∀ a, w'.cell? a = w.cell? a) → (Builtin.firstCells n news.length xv).run P w' = .ok vals.toArray w' := by
  unfold newsOf at hx
  split at hx
  · rename_i n' els
    split at hx
    · rename_i hn
      subst hn
      obtain rfl := Option.some.inj hx
      rcases f_rel r with ⟨rfl, q, hv⟩ | ⟨k, off, cap, hv, h1, h2, h3⟩
      · subst hv
        refine ⟨by simp, fun w => by simp [Builtin.lenOf], [], trivial, by simp, fun w' _ => ?_⟩
        cases q with
        | none => simp [Builtin.firstCells]
        | some ad => exact run_firstCells_some (P := P) w' n' 0 ad 0 0 [] (by simp) (fun j v e => by simp at e)
      · subst hv
        obtain ⟨q1, vs, q2, q3⟩ := rz_flat h3
        have hl : vs.length = els.length * n' := by rw [← q2.length, flat_len q1]
        refine ⟨q1, fun w => by simp [Builtin.lenOf], vs, q2.mono fun _ _ => relC_of_rz, hl, fun w' hw => ?_⟩
        exact run_firstCells_some (P := P) w' n' els.length _ els.length cap vs hl (fun j v e => by rw [hw, addr_add]; exact R.zok _ _ _ (q3 j v e))
    · cases hx
  · obtain rfl := Option.some.inj hx
    obtain ⟨q, rfl⟩ := z_rel r
    refine ⟨by simp, fun w => by simp [Builtin.lenOf], [], trivial, by simp, fun w' _ => ?_⟩
    cases q with
    | none => simp [Builtin.firstCells]
    | some ad => exact run_firstCells_some (P := P) w' n 0 ad 0 0 [] (by simp) (fun j v e => by simp at e)
  · rename_i b off len cap
    split at hx
    · rename_i hst
      unfold elsOf at hx
      split at hx
      · rename_i bels bn bcap hb
        rw [hb] at hst
        simp only [strideB, Option.some.injEq] at hst
        subst hst
        split at hx
        · rename_i hle
          obtain rfl := Option.some.inj hx
          obtain ⟨p, n', hp, hv⟩ := sl_rel r
          obtain ⟨pp, g1, g2, g3, g4⟩ := R.place hb rfl
          simp only at g2 g3
          rw [hp] at g1; obtain ⟨rfl, rfl⟩ := Prod.mk.inj (Option.some.inj g1)
          have hlen : ((bels.drop off).take len).length = len := by simp; omega
          have hel : ∀ el ∈ (bels.drop off).take len, el.length = n' := fun el he => g2 el (List.mem_of_mem_drop (List.mem_of_mem_take he))
          rw [hlen]
          cases p with
          | none =>
            obtain ⟨⟨q, rfl⟩, rfl, rfl, rfl⟩ := hv
            refine ⟨hel, fun w => by simp [Builtin.lenOf], [], by simp [All2], by simp, fun w' _ => ?_⟩
            cases q with
            | none => simp [Builtin.firstCells]
            | some ad => exact run_firstCells_some (P := P) w' n' 0 ad 0 0 [] (by simp) (fun j v e => by simp at e)
          | some k =>
            simp only at hv
            subst hv
            obtain ⟨c, ty, fq, y1, y2, y3, y4, y5⟩ := g4
            simp only at y2 y3 y4
            have hfl : ((bels.drop off).take len).flatten.length = len * n' := by rw [flat_len hel, hlen]
            obtain ⟨f1, hdrop⟩ := y4.dropN off
            obtain ⟨f2, f3, _, htake⟩ := hdrop.take len
            have hall := lss_cells htake (leafs_flat hok)
            rw [hlen] at hall
            have hvl : ((c.toList.drop (off * n')).take (len * n')).length = len * n' := by rw [← hall.length, hfl]
            refine ⟨hel, fun w => by simp [Builtin.lenOf], _, hall, hvl, fun w' hw => ?_⟩
            refine run_firstCells_some (P := P) w' n' len _ len cap _ hvl (fun j v e => ?_)
            rw [List.getElem?_take] at e
            split at e
            · rw [List.getElem?_drop] at e
              rw [hw, addr_add]
              simp only [World.cell?, y1]
              rw [← Array.getElem?_toList]; exact e
            · cases e
        · cases hx
      · cases hx
    · cases hx
  · cases hx

theorem RelF.kill (R : RelF S w0 φ h w F) {b : Nat} {B : Blk} (hb : h[b]? = some B) : Rel S w0 φ (h.set b Blk.dead) w := by
  have hblt : b < h.length := (List.getElem?_eq_some_iff.1 hb).1
  refine ⟨_, R.step (w' := w) (bo := b) (b0 := b) (B0 := Blk.dead) (fp0 := []) (Ext.refl φ) rfl R.kept (Nat.le_refl _) (by simpa using hblt) (by simp) ?_ (fun _ _ _ => rfl) (.inl rfl) (by simp [hblt])
    (fun q => absurd rfl q) ?_ (by simp) (by simp) (by simp) (by unfold BlkRel; rw [if_neg (by simp [Blk.dead])])⟩
  · intro j hj; exact R.dom j (by simpa using hj)
  · intro j hj _; rw [List.getElem?_set_ne (Ne.symm hj)]

theorem app_new {els news : List (List V)} {n cap : Nat} {olds vals : List Value} {z : Array Value} {e : TypeId} {h' : H} (R : Rel S w0 φ h' w) (h1 : Lss (Dc φ w) n els olds []) (hl1 : els.length * n = olds.length) (hn1 : ∀ el ∈ els, el.length = n)
    (h2 : All2 (RelC φ) news.flatten vals) (hn2 : ∀ el ∈ news, el.length = n) (hl2 : vals.length = news.length * n) (hz : z.size = n) (hcap : els.length + news.length ≤ cap) (hlim : els.length + news.length ≤ LIM) :
    Rel S w0 (phiPush φ h'.length (some w.heap.size, n)) (h' ++ [⟨els ++ news, n, cap, true⟩]) (w.drew.alloc (.cells (olds.toArray ++ vals.toArray ++ Builtin.zeroCells z (cap - (els.length + news.length))) e)) := by
  obtain ⟨F', R⟩ := R
  have g : w.grownBy (w.drew.alloc (.cells (olds.toArray ++ vals.toArray ++ Builtin.zeroCells z (cap - (els.length + news.length))) e)) none := ⟨rfl, rfl, rfl, by simp, fun k hk _ => heap_alloc_old w.drew _ hk⟩
  refine R.alloc g (Nat.le_refl _) (heap_alloc_new w.drew _) ?_ (by simpa using hcap) (by simpa using hlim) (fun el he => by
    rcases List.mem_append.1 he with q | q
    · exact hn1 el q
    · exact hn2 el q) ?_
  · simp only [Array.size_append, List.size_toArray, size_zeroCells, hz, hl2, ← hl1, ← Nat.add_mul]
    congr 1; omega
  · have := h1.append hl1 (lss_all2 (φ := φ) (w := w) hn2 h2)
    simp only [List.append_nil] at this
    refine Lss.pre (fun j hj => ?_) this
    have hj' : j < (olds ++ vals).length := by
      simp only [List.length_append, hl2, ← hl1, ← Nat.add_mul] at hj ⊢; exact hj
    simp only [Array.toList_append]
    rw [List.getElem?_append_left (by simpa using hj')]

theorem sem_append {c : Call} {s x : Operand} {t u : TypeId} (ho : o.op = .call c) (hc : c.callee = .builtin .append) (hargs : c.args.toList = [s, x]) (hts : c.argTypes.toList = [t, u]) (hok : c.args.toList.all opdOk = true)
    (R : Rel S w0 φ h w) (G : RelG C φ.z) (T : RelT φ τ a) (hw : appW K h C t u (ev C τ s) (ev C τ x)) : Did C.P o a w S w0 φ h.length K := by
  rw [hargs] at hok
  simp only [List.all_cons, List.all_nil, Bool.and_true, Bool.and_eq_true] at hok
  have es := ev_rel G T s hok.1
  have ex := ev_rel G T x hok.2
  obtain ⟨F, R⟩ := R
  have ha := arr2 hargs
  have hta := arr2 hts
  obtain ⟨cs, hcs⟩ := exec_builtin (P := C.P) (a := a) ho hc
  unfold appW at hw
  split at hw
  · rename_i e he
    have ht := underlying_of_tElem he
    unfold appF at hw
    split at hw
    · -- zeros
      rename_i ku hku
      have hu : C.P.underlying u = some (.int ku) := tK_int hku
      unfold mkA at hw
      split at hw
      · rename_i n by_ z hn hby hz
        obtain ⟨zv, hzv, rfl, hz1, hiz⟩ := run_zero hz
        unfold tSz at hn; unfold tBytes at hby
        cases hi : C.P.info? e with
        | none => rw [hi] at hn; cases hn
        | some i =>
        rw [hi] at hn hby hiz
        simp at hn hby hiz
        subst hn hby
        have run : ∀ {v w'}, (Builtin.append_ #[t, u] o.type #[a.eval s, a.eval x]).run C.P w = .ok v w' → (execOp a.eval o).run C.P w = .ok (.value v) w' := by
          intro v w' hr
          rw [hcs, ha, hta]
          simp only [builtin, Sem.run_bind, List.map_toArray, List.map_cons, List.map_nil]
          rw [hr]; rfl
        split at hw
        · rename_i b len cap kx m e1 e2
          obtain ⟨⟨hzl, hn0, hm0, hmL, hblk, hg, hbytes, hlim, hlf⟩, hk⟩ := hw
          rw [e1] at es
          rw [e2] at ex
          obtain ⟨ex, -⟩ := s_rel ex
          have hzs : zv.cells.size = i.size := by simpa using hzl
          have hwrap : IntKind.i64.wrap m = (m.toNat : Int) := by
            simp only [IntKind.wrap, IntKind.signed, IntKind.bits, Bool.true_and, decide_eq_true_eq, ge_iff_le]
            split <;> omega
          have hm0' : 0 < m.toNat := by omega
          have hzc : (Builtin.zeroCells zv.cells m.toNat).toList = (List.replicate m.toNat zv.cells.toList).flatten := by
            unfold Builtin.zeroCells; rw [rep_cells zv.cells zv.cells.size m.toNat rfl]
          have hv1 : All2 (RelC φ) (List.replicate m.toNat (zv.cells.toList.map ofV1)).flatten (Builtin.zeroCells zv.cells m.toNat).toList := by
            rw [hzc, rep_flat]; exact all2_ofV1 (φ := φ) (all_rep hz1 m.toNat)
          have hel : ∀ el ∈ List.replicate m.toNat (zv.cells.toList.map ofV1), el.length = i.size := fun el he => by rw [(List.mem_replicate.1 he).2]; simpa using hzs
          have hv2 : (Builtin.zeroCells zv.cells m.toNat).toList.length = (List.replicate m.toNat (zv.cells.toList.map ofV1)).length * i.size := by simp [size_zeroCells, hzs]
          unfold blkIs at hblk
          split at hblk
          · rename_i els n' cap' hb
            obtain ⟨rfl, rfl, hle⟩ := hblk
            obtain ⟨p, n', hp, hv⟩ := sl_rel es
            obtain ⟨pp, g1, g2, g3, g4⟩ := R.place hb rfl
            simp only at g2 g3
            rw [hp] at g1; obtain ⟨rfl, rfl⟩ := Prod.mk.inj (Option.some.inj g1)
            have hkept : keptB len (h[b]?) = els.take len := by
              rw [hb]; simp only [keptB, takeTo]; split
              · rename_i q; rw [q, List.take_length]
              · rfl
            rw [hkept] at hk hlf
            have hkl : (els.take len).length = len := by simp; omega
            cases p with
            | none =>
              obtain ⟨⟨q, hv⟩, rfl, rfl, -⟩ := hv
              obtain ⟨hB, -, hF⟩ := g4
              simp only at hB; subst hB
              have hr := run_app_make (P := C.P) (w := w) (ty := o.type) (kx := kx) ht hu hi hiz (p := q) (len := 0) (cap := 0) (olds := []) hwrap hm0' hn0 (by
                  cases q with
                  | none => simp [Builtin.firstCells]
                  | some ad => exact run_firstCells_some (P := C.P) w.drew i.size 0 ad 0 0 [] (by simp) (fun j v e => by simp at e)) (by omega) (by simpa using hlim) (by simpa using hbytes)
              rw [← hv, ← ex] at hr
              have R2 := app_new (els := []) (news := List.replicate m.toNat (zv.cells.toList.map ofV1)) (cap := grownCap w (0 + m.toNat) 0 e) (olds := []) (e := e) ⟨F, R⟩ (by simp [Lss]) (by simp) (by simp) hv1 hel hv2 hzs (by simpa using grownCap_ge w (0 + m.toNat) 0 e) (by simpa using hlim)
              refine ⟨_, _, _, _, phiPush_extN (Nat.le_refl _), by simp, R2, by simpa using hk _ (by simpa using grownCap_ge w (0 + m.toNat) 0 e), .inl ⟨_, run (by simpa using hr), ?_⟩⟩
              simpa using sl_new (by simpa using grownCap_ge w (0 + m.toNat) 0 e) _ phiPush_new
            | some k =>
              simp only [Nat.zero_mul] at hv
              obtain ⟨c0, ty, fq, y1, y2, y3, y4, y5⟩ := g4
              simp only at y2 y3 y4
              obtain ⟨fa, fb, hfq, hold⟩ := y4.take len
              have hlsz : len * i.size ≤ c0.size := by rw [y2]; exact Nat.mul_le_mul_right _ (by omega)
              have hkel : ∀ el ∈ els.take len, el.length = i.size := fun el he => g2 el (List.mem_of_mem_take he)
              have hold' := lss_all2 (w := w) hkel (lss_cells hold (leafs_flat hlf))
              rw [hkl] at hold'
              have hr := run_app_make (P := C.P) (w := w) (ty := o.type) (kx := kx) ht hu hi hiz (p := some ⟨k, 0, none⟩) (len := len) (cap := cap') (olds := c0.toList.take (len * i.size)) hwrap hm0' hn0
                  (run_firstCells_some (P := C.P) w.drew i.size len _ len cap' _ (by simp; omega) (fun j v e => by
                    rw [List.getElem?_take] at e
                    split at e
                    · rw [addr_add]
                      show w.cell? _ = _
                      simp only [World.cell?, y1, Nat.zero_add]
                      rw [← Array.getElem?_toList]; exact e
                    · cases e)) hg hlim hbytes
              rw [← hv, ← ex] at hr
              have hge := grownCap_ge w (len + m.toNat) cap' e
              have R2 := app_new (els := els.take len) (news := List.replicate m.toNat (zv.cells.toList.map ofV1)) (cap := grownCap w (len + m.toNat) cap' e) (olds := c0.toList.take (len * i.size)) (e := e) ⟨F, R⟩ hold' (by rw [hkl]; simp; omega) hkel hv1 hel hv2 hzs
                (by rw [hkl]; simpa using hge) (by rw [hkl]; simpa using hlim)
              rw [hkl] at R2
              refine ⟨_, _, _, _, phiPush_extN (Nat.le_refl _), by simp, R2, hk _ hge, .inl ⟨_, run (by simpa using hr), sl_new hge _ phiPush_new⟩⟩
          · exact hblk.elim
        · exact hw.elim
      · exact hw.elim
    obtain ⟨rfl, hw⟩ := hw
    unfold appT at hw
    split at hw
    · rename_i n by_ z hn hby hz
      obtain ⟨hzl, hw⟩ := hw
      obtain ⟨zv, hzv, rfl, hz1, hiz⟩ := run_zero hz
      unfold tSz at hn; unfold tBytes at hby
      cases hi : C.P.info? e with
      | none => rw [hi] at hn; cases hn
      | some i =>
      rw [hi] at hn hby hiz
      simp at hn hby hiz
      subst hn hby
      have hzs : zv.cells.size = i.size := by simpa using hzl
      unfold appN at hw
      split at hw
      · rename_i news hnews
        obtain ⟨hleaf, hw⟩ := hw
        obtain ⟨hel, hlen, vals, hv1, hv2, hv3⟩ := news_cells (P := C.P) R ex hnews hleaf
        have run : ∀ {v w'}, (Builtin.append_ #[t, t] o.type #[a.eval s, a.eval x]).run C.P w = .ok v w' → (execOp a.eval o).run C.P w = .ok (.value v) w' := by
          intro v w' hr
          rw [hcs, ha, hta]
          simp only [builtin, Sem.run_bind, List.map_toArray, List.map_cons, List.map_nil]
          rw [hr]; rfl
        split at hw
        · -- a block of one's own
          rename_i b len cap e1
          obtain ⟨⟨hblk, hbytes, hlim⟩, hk⟩ := hw
          rw [e1] at es
          unfold blkIs at hblk
          split at hblk
          · rename_i els n' cap' hb
            obtain ⟨rfl, rfl, hle⟩ := hblk
            obtain ⟨p, n', hp, hv⟩ := sl_rel es
            obtain ⟨pp, g1, g2, g3, g4⟩ := R.place hb rfl
            simp only at g2 g3
            rw [hp] at g1; obtain ⟨rfl, rfl⟩ := Prod.mk.inj (Option.some.inj g1)
            have hkept : keptB len (h[b]?) = els.take len := by
              rw [hb]; simp only [keptB, takeTo]; split
              · rename_i q; rw [q, List.take_length]
              · rfl
            rw [hkept] at hk
            have hkl : (els.take len).length = len := by simp; omega
            have hkel : ∀ el ∈ els.take len ++ news, el.length = i.size := fun el he => by
              rcases List.mem_append.1 he with q | q
              · exact g2 el (List.mem_of_mem_take q)
              · exact hel el q
            cases p with
            | none =>
              obtain ⟨⟨q, hv⟩, rfl, rfl, -⟩ := hv
              obtain ⟨hB, -, hF⟩ := g4
              simp only at hB; subst hB
              have R1 := R.kill hb
              have hset : (h.set b Blk.dead).length = h.length := by simp
              by_cases h0 : news.length = 0
              · have hn0 : news = [] := List.eq_nil_of_length_eq_zero h0
                have hr := run_app_room (P := C.P) (w := w) (w' := w) (ty := o.type) ht hi (p := q) (len := 0) (cap := 0) hlen (hv3 w fun _ => rfl) (by omega) (by
                  have hv0 : vals = [] := List.eq_nil_of_length_eq_zero (by rw [hv2, h0]; simp)
                  cases q with
                  | none => rfl
                  | some ad => rw [hv0]; simp [storeCells])
                rw [← hv] at hr
                subst hn0
                obtain ⟨F1, R1⟩ := R1
                have R2 := R1.allocNil i.size
                rw [hset] at R2
                refine ⟨_, _, _, w, phiPush_extN (Nat.le_refl _), by simp, R2, by simpa using hk 0 (by simp) (fun _ => rfl), .inl ⟨_, run hr, mk_nil phiPush_new⟩⟩
              · have hr := run_app_grow (P := C.P) (w := w) (ty := o.type) ht hi hiz (p := q) (len := 0) (cap := 0) (olds := []) hlen (hv3 w.drew fun _ => rfl) (by
                  cases q with
                  | none => simp [Builtin.firstCells]
                  | some ad => exact run_firstCells_some (P := C.P) w.drew i.size 0 ad 0 0 [] (by simp) (fun j v e => by simp at e)) (by omega) (by simpa using hlim) (by simpa using hbytes)
                rw [← hv] at hr
                have R2 := app_new (els := []) (news := news) (cap := grownCap w (0 + news.length) 0 e) (olds := []) (e := e) R1 (by simp [Lss]) (by simp) (by simp) hv1 hel hv2 hzs (by simpa using grownCap_ge w (0 + news.length) 0 e) (by simpa using hlim)
                rw [hset] at R2
                refine ⟨_, _, _, _, phiPush_extN (Nat.le_refl _), by simp, R2, by simpa using hk _ (by simpa using grownCap_ge w (0 + news.length) 0 e) (fun q => absurd q (by omega)), .inl ⟨_, run (by simpa using hr), ?_⟩⟩
                simpa using sl_new (by simpa using grownCap_ge w (0 + news.length) 0 e) _ phiPush_new
            | some k =>
              simp only [Nat.zero_mul] at hv
              obtain ⟨c0, ty, fq, y1, y2, y3, y4, y5⟩ := g4
              simp only at y2 y3 y4
              obtain ⟨fa, fb, hfq, hold⟩ := y4.take len
              have hlsz : len * i.size ≤ c0.size := by rw [y2]; exact Nat.mul_le_mul_right _ (by omega)
              have hnd := R.nodup b
              rw [y5] at hnd
              by_cases hroom : len + news.length ≤ cap'
              · -- in its place
                have hfit : len * i.size + vals.length ≤ c0.size := by rw [hv2, y2, ← Nat.add_mul]; exact Nat.mul_le_mul_right _ hroom
                have hst := run_storeCells_at C.P k (len * i.size) ty vals 0 c0 w y1 (by simpa using hfit) (all2_oneCell (leafs_flat hleaf) hv1)
                simp only [Nat.add_zero] at hst
                have hr := run_app_room (P := C.P) (w := w) (ty := o.type) ht hi (p := some ⟨k, 0, none⟩) (len := len) (cap := cap') hlen (hv3 w fun _ => rfl) hroom (by simp only; rw [addr_add, Nat.zero_add]; exact hst)
                rw [← hv] at hr
                have hh := setRow_heap w k c0 (c0.toList.take (len * i.size) ++ vals ++ c0.toList.drop (len * i.size + vals.length)).toArray ty (0, 0) y1
                have hkm : Mine S w0 k := (R.mine b k (by rw [y5]; simp)).1
                have gr : w.grownBy (w.setRow k (c0.toList.take (len * i.size) ++ vals ++ c0.toList.drop (len * i.size + vals.length)).toArray) (some k) :=
                  ⟨rfl, rfl, rfl, by simp, fun j _ hj => setRow_other w k j _ (fun e => hj (by rw [e]))⟩
                have hfa : ∀ j ∈ fa, j ∈ fq := fun j hj => by rw [hfq]; simp [hj]
                have R2 := R.move (w' := w.setRow k (c0.toList.take (len * i.size) ++ vals ++ c0.toList.drop (len * i.size + vals.length)).toArray) (k := k) (fq' := fa)
                  (B' := ⟨els.take len ++ news, i.size, cap', true⟩) hb (fun j hj hne => gr.block j hj (fun e => hne (by cases e; rw [y5]; simp))) (R.kept.grown gr fun j e => by cases e; exact hkm) gr.size rfl hh
                  (by simp; rw [← y2]; omega) (by simp [hkl]; omega) (by simp [hkl]; omega) hkel (.inl (by rw [y5]; simp)) (fun j hj => by rw [y5]; simp [hfa j hj])
                  (List.nodup_cons.2 ⟨fun q => (List.nodup_cons.1 hnd).1 (hfa k q), by
                    have := (List.nodup_cons.1 hnd).2
                    rw [hfq] at this; exact (List.nodup_append.1 this).1⟩) (by
                    have h3 := (Lss.pre (vs' := c0.toList.take (len * i.size)) (fun j hj => by rw [hkl] at hj; rw [List.getElem?_take, if_pos hj]) hold).append (by rw [hkl]; simp; omega) (lss_all2 (φ := φ) (w := w) hel hv1)
                    simp only [List.append_nil] at h3
                    have h4 := Lss.pre (vs' := (c0.toList.take (len * i.size) ++ vals ++ c0.toList.drop (len * i.size + vals.length))) (fun j hj => by
                      rw [List.getElem?_append_left (by
                        simp only [List.length_append, hkl, Nat.add_mul] at hj
                        simp only [List.length_append, List.length_take, hv2, Array.length_toList]; omega)]) h3
                    simp only
                    refine h4.mono fun x v f hf d => d.mono (Ext.refl φ) fun j hj => ?_
                    refine setRow_other w k j _ (fun e => ?_)
                    subst e; exact (List.nodup_cons.1 hnd).1 (hfa _ (hf _ hj)))
                exact ⟨_, _, _, _, phiPush_extN (Nat.le_refl _), by simp, R2, hk cap' hroom (fun _ => rfl), .inl ⟨_, run hr, sl_new hroom _ phiPush_new⟩⟩
              · -- in a new row
                have hr := run_app_grow (P := C.P) (w := w) (ty := o.type) ht hi hiz (p := some ⟨k, 0, none⟩) (len := len) (cap := cap') (olds := c0.toList.take (len * i.size)) hlen (hv3 w.drew fun _ => rfl)
                  (run_firstCells_some (P := C.P) w.drew i.size len _ len cap' _ (by simp; omega) (fun j v e => by
                    rw [List.getElem?_take] at e
                    split at e
                    · rw [addr_add]
                      show w.cell? _ = _
                      simp only [World.cell?, y1, Nat.zero_add]
                      rw [← Array.getElem?_toList]; exact e
                    · cases e)) (by omega) hlim hbytes
                rw [← hv] at hr
                have hge := grownCap_ge w (len + news.length) cap' e
                have gr : w.grownBy (w.drew.alloc (.cells ((c0.toList.take (len * i.size)).toArray ++ vals.toArray ++ Builtin.zeroCells zv.cells (grownCap w (len + news.length) cap' e - (len + news.length))) e)) none :=
                  ⟨rfl, rfl, rfl, by simp, fun k hk _ => heap_alloc_old w.drew _ hk⟩
                have hfa : ∀ j ∈ fa, j ∈ fq := fun j hj => by rw [hfq]; simp [hj]
                have hfaF : ∀ j ∈ fa, j ∈ F b := fun j hj => by rw [y5]; simp [hfa j hj]
                have R2 := R.move (w' := (w.drew.alloc (.cells ((c0.toList.take (len * i.size)).toArray ++ vals.toArray ++ Builtin.zeroCells zv.cells (grownCap w (len + news.length) cap' e - (len + news.length))) e))) (k := w.heap.size) (fq' := fa)
                  (B' := ⟨els.take len ++ news, i.size, grownCap w (len + news.length) cap' e, true⟩) hb (fun j hj hne => gr.block j hj (by simp)) (R.kept.grown gr fun j e => by cases e) gr.size rfl (heap_alloc_new w.drew _)
                  (by
                    have : ((c0.toList.take (len * i.size)).toArray).size = len * i.size := by simp; omega
                    simp only [Array.size_append, this, List.size_toArray, size_zeroCells, hzs, hv2, ← Nat.add_mul]
                    congr 1; omega) (by simp [hkl]; omega) (by simp [hkl]; omega) hkel (.inr (Nat.le_refl _)) hfaF
                  (List.nodup_cons.2 ⟨fun q => by have := (R.mine b _ (hfaF _ q)).2; omega, by
                    have := (List.nodup_cons.1 hnd).2
                    rw [hfq] at this; exact (List.nodup_append.1 this).1⟩) (by
                    have h3 := (Lss.pre (vs' := c0.toList.take (len * i.size)) (fun j hj => by rw [hkl] at hj; rw [List.getElem?_take, if_pos hj]) hold).append (by rw [hkl]; simp; omega) (lss_all2 (φ := φ) (w := w) hel hv1)
                    simp only [List.append_nil] at h3
                    have h4 := Lss.pre (vs' := ((c0.toList.take (len * i.size)).toArray ++ vals.toArray ++ Builtin.zeroCells zv.cells (grownCap w (len + news.length) cap' e - (len + news.length))).toList) (fun j hj => by
                      simp only [Array.toList_append]
                      rw [List.getElem?_append_left (by
                        simp only [List.length_append, hkl, Nat.add_mul] at hj
                        simp only [List.length_append, List.length_take, hv2, Array.length_toList]; omega)]) h3
                    simp only
                    refine h4.mono fun x v f hf d => d.mono (Ext.refl φ) fun j hj => ?_
                    exact gr.block j (R.mine b j (hfaF j (hf j hj))).2 (by simp))
                exact ⟨_, _, _, _, phiPush_extN (Nat.le_refl _), by simp, R2, hk _ hge (fun q => absurd q hroom), .inl ⟨_, run hr, sl_new hge _ phiPush_new⟩⟩
          · exact hblk.elim
        · rename_i e1
          obtain ⟨⟨hbytes, hlim⟩, hk⟩ := hw
          rw [e1] at es
          obtain ⟨q, hv⟩ := z_rel es
          by_cases h0 : news.length = 0
          · have hn0 : news = [] := List.eq_nil_of_length_eq_zero h0
            have hr := run_app_room (P := C.P) (w := w) (w' := w) (ty := o.type) ht hi (p := q) (len := 0) (cap := 0) hlen (hv3 w fun _ => rfl) (by omega) (by
              have hv0 : vals = [] := List.eq_nil_of_length_eq_zero (by rw [hv2, h0]; simp)
              cases q with
              | none => rfl
              | some ad => rw [hv0]; simp [storeCells])
            rw [← hv] at hr
            subst hn0
            have R2 := R.allocNil i.size
            refine ⟨_, _, _, w, phiPush_extN (Nat.le_refl _), by simp, R2, by simpa using hk 0 (by simp), .inl ⟨_, run hr, mk_nil phiPush_new⟩⟩
          · have hr := run_app_grow (P := C.P) (w := w) (ty := o.type) ht hi hiz (p := q) (len := 0) (cap := 0) (olds := []) hlen (hv3 w.drew fun _ => rfl) (by
              cases q with
              | none => simp [Builtin.firstCells]
              | some ad => exact run_firstCells_some (P := C.P) w.drew i.size 0 ad 0 0 [] (by simp) (fun j v e => by simp at e)) (by omega) (by simpa using hlim) (by simpa using hbytes)
            rw [← hv] at hr
            have R2 := app_new (els := []) (news := news) (cap := grownCap w (0 + news.length) 0 e) (olds := []) (e := e) ⟨F, R⟩ (by simp [Lss]) (by simp) (by simp) hv1 hel hv2 hzs (by simpa using grownCap_ge w (0 + news.length) 0 e) (by simpa using hlim)
            refine ⟨_, _, _, _, phiPush_extN (Nat.le_refl _), by simp, R2, by simpa using hk _ (by simpa using grownCap_ge w (0 + news.length) 0 e), .inl ⟨_, run (by simpa using hr), ?_⟩⟩
            simpa using sl_new (by simpa using grownCap_ge w (0 + news.length) 0 e) _ phiPush_new
        · exact hw.elim
      · exact hw.elim
    · exact hw.elim
  · exact hw.elim
end
end Go.W
