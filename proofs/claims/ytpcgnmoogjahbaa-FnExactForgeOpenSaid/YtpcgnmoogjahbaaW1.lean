/- A layer for walking through code on abstract values, told apart by who owns the memory: its definitions and their soundness; no condition. -/
import Derived.Tactics
import Derived.Laws.Cells
import Derived.Laws.Slices
import Derived.Laws.Append
import Derived.Laws.Build
import Derived.Laws.AppendOwn
import Derived.Below
import Derived.OrdersHeld
set_option linter.unusedVariables false
set_option linter.unusedSimpArgs false
namespace Go.W
open Go Go.RowKit

/-- Values of the abstract machine. f: a slice whose memory stays as it is; l, lp: a slice, a pointer whose memory is owned by the cell that holds it; z: a slice without room;
sl, ptr: a slice, a pointer in a block of the abstract heap; pd: a pointer to cells that stay as they are. -/
inductive V where
  | s (v : Value)
  | f (n : Nat) (els : List (List V))
  | l (n : Nat) (els : List (List V))
  | lp (cs : List V)
  | z
  | sl (b off len cap : Nat)
  | ptr (b i o : Nat)
  | pd (cs : List V)
  | fn (f : Nat) (caps : List V)
  | agg (cs : List V)
  | tup (vs : List V)
  | any
  deriving Inhabited

def LIM : Nat := 9223372036854775807

def one : Value → Bool
  | .agg _ => false
  | .tuple _ => false
  | .string s => decide (s.size ≤ LIM)
  | _ => true

def All2 {α β : Type} (R : α → β → Prop) : List α → List β → Prop
  | [], [] => True
  | a :: as, b :: bs => R a b ∧ All2 R as bs
  | _, _ => False

theorem All2.mono {α β : Type} {R S : α → β → Prop} (h : ∀ a b, R a b → S a b) : ∀ {as : List α} {bs : List β}, All2 R as bs → All2 S as bs
  | [], [], _ => trivial
  | a :: as, b :: bs, e => ⟨h _ _ e.1, All2.mono h e.2⟩
  | [], _ :: _, e => e.elim
  | _ :: _, [], e => e.elim

theorem All2.length {α β : Type} {R : α → β → Prop} : ∀ {as : List α} {bs : List β}, All2 R as bs → as.length = bs.length
  | [], [], _ => rfl
  | a :: as, b :: bs, e => by simp [All2.length e.2]
  | [], _ :: _, e => e.elim
  | _ :: _, [], e => e.elim

theorem All2.get {α β : Type} {R : α → β → Prop} : ∀ {as : List α} {bs : List β}, All2 R as bs → ∀ (i : Nat) (a : α), as[i]? = some a → ∃ b, bs[i]? = some b ∧ R a b
  | [], [], _, i, a, h => by simp at h
  | a :: as, b :: bs, e, 0, x, h => by simp at h; subst h; exact ⟨b, rfl, e.1⟩
  | a :: as, b :: bs, e, i + 1, x, h => by simp at h; obtain ⟨y, h1, h2⟩ := All2.get e.2 i x h; exact ⟨y, by simpa using h1, h2⟩
  | [], _ :: _, e, _, _, _ => e.elim
  | _ :: _, [], e, _, _, _ => e.elim

theorem All2.of_get {α β : Type} {R : α → β → Prop} : ∀ {as : List α} {bs : List β}, as.length = bs.length → (∀ (i : Nat) (a : α) (b : β), as[i]? = some a → bs[i]? = some b → R a b) → All2 R as bs
  | [], [], _, _ => trivial
  | a :: as, b :: bs, hl, h => ⟨h 0 a b rfl rfl, All2.of_get (by simpa using hl) fun i x y hx hy => h (i + 1) x y (by simpa using hx) (by simpa using hy)⟩
  | [], _ :: _, hl, _ => by simp at hl
  | _ :: _, [], hl, _ => by simp at hl

theorem All2.append {α β : Type} {R : α → β → Prop} : ∀ {as : List α} {bs : List β} {as' : List α} {bs' : List β}, All2 R as bs → All2 R as' bs' → All2 R (as ++ as') (bs ++ bs')
  | [], [], _, _, _, h => h
  | _ :: _, _ :: _, _, _, e, h => ⟨e.1, All2.append e.2 h⟩
  | [], _ :: _, _, _, e, _ => e.elim
  | _ :: _, [], _, _, e, _ => e.elim

/-! ### 1. Memory that stays -/
abbrev Zm := Nat → Nat → Option Value

mutual
def RZ (z : Zm) : V → Value → Prop
  | .s a, v => v = a ∧ one a = true
  | .any, _ => True
  | .z, v => ∃ p, v = .slice p 0 0
  | .f n els, v => (els = [] ∧ ∃ q, v = .slice q 0 0) ∨ ∃ k off cap, v = .slice (some ⟨k, off, none⟩) els.length cap ∧ els.length ≤ cap ∧ els.length ≤ LIM ∧ RZss z k n off els
  | .pd cs, v => ∃ k off, v = .pointer (some ⟨k, off, none⟩) ∧ RZs z k off cs
  | .fn f caps, v => ∃ l, v = .func (.func f) #[] l.toArray ∧ RZl z caps l
  | _, _ => False
def RZs (z : Zm) (k : Nat) : Nat → List V → Prop
  | _, [] => True
  | off, x :: xs => (∃ c, z k off = some c ∧ RZ z x c) ∧ RZs z k (off + 1) xs
def RZss (z : Zm) (k n : Nat) : Nat → List (List V) → Prop
  | _, [] => True
  | off, el :: els => el.length = n ∧ RZs z k off el ∧ RZss z k n (off + n) els
def RZl (z : Zm) : List V → List Value → Prop
  | [], vs => vs = []
  | x :: xs, vs => ∃ v r, vs = v :: r ∧ RZ z x v ∧ RZl z xs r
end

def FLe (z z' : Zm) : Prop := ∀ k o v, z k o = some v → z' k o = some v
theorem FLe.refl (z : Zm) : FLe z z := fun _ _ _ h => h
theorem FLe.trans {a b c : Zm} (h : FLe a b) (h' : FLe b c) : FLe a c := fun k o v e => h' k o v (h k o v e)

mutual
theorem RZ.mono {z z' : Zm} (h : FLe z z') : ∀ (x : V) (v : Value), RZ z x v → RZ z' x v
  | .s a, v, r => by simp only [RZ] at *; exact r
  | .any, v, r => by simp only [RZ]
  | .z, v, r => by simp only [RZ] at *; exact r
  | .f n els, v, r => by
    simp only [RZ] at *
    rcases r with r | ⟨k, off, cap, h1, h2, h3, h4⟩
    · exact .inl r
    · exact .inr ⟨k, off, cap, h1, h2, h3, RZss.mono h k n els off h4⟩
  | .pd cs, v, r => by
    simp only [RZ] at *
    obtain ⟨k, off, h1, h2⟩ := r
    exact ⟨k, off, h1, RZs.mono h k cs off h2⟩
  | .fn f caps, v, r => by
    simp only [RZ] at *
    obtain ⟨l, h1, h2⟩ := r
    exact ⟨l, h1, RZl.mono h caps l h2⟩
  | .l _ _, v, r => by simp [RZ] at r
  | .lp _, v, r => by simp [RZ] at r
  | .sl _ _ _ _, v, r => by simp [RZ] at r
  | .ptr _ _ _, v, r => by simp [RZ] at r
  | .agg _, v, r => by simp [RZ] at r
  | .tup _, v, r => by simp [RZ] at r
theorem RZs.mono {z z' : Zm} (h : FLe z z') (k : Nat) : ∀ (xs : List V) (off : Nat), RZs z k off xs → RZs z' k off xs
  | [], _, _ => by simp only [RZs]
  | x :: xs, off, r => by
    simp only [RZs] at *
    obtain ⟨⟨c, h1, h2⟩, h3⟩ := r
    exact ⟨⟨c, h _ _ _ h1, RZ.mono h x c h2⟩, RZs.mono h k xs _ h3⟩
theorem RZss.mono {z z' : Zm} (h : FLe z z') (k n : Nat) : ∀ (els : List (List V)) (off : Nat), RZss z k n off els → RZss z' k n off els
  | [], _, _ => by simp only [RZss]
  | el :: els, off, r => by
    simp only [RZss] at *
    exact ⟨r.1, RZs.mono h k el off r.2.1, RZss.mono h k n els _ r.2.2⟩
theorem RZl.mono {z z' : Zm} (h : FLe z z') : ∀ (xs : List V) (vs : List Value), RZl z xs vs → RZl z' xs vs
  | [], _, r => by simp only [RZl] at *; exact r
  | x :: xs, vs, r => by
    simp only [RZl] at *
    obtain ⟨v, t, h1, h2, h3⟩ := r
    exact ⟨v, t, h1, RZ.mono h x v h2, RZl.mono h xs t h3⟩
end

theorem RZs.nth {z : Zm} {k : Nat} : ∀ {xs : List V} {off j : Nat} {x : V}, RZs z k off xs → xs[j]? = some x → ∃ c, z k (off + j) = some c ∧ RZ z x c
  | [], _, j, x, _, h => by simp at h
  | y :: ys, off, 0, x, r, h => by
    simp at h; subst h; simp only [RZs] at r; exact r.1
  | y :: ys, off, j + 1, x, r, h => by
    simp only [RZs] at r
    obtain ⟨c, h1, h2⟩ := RZs.nth r.2 (by simpa using h)
    exact ⟨c, by rw [← h1]; congr 1; omega, h2⟩
theorem RZs.drop {z : Zm} {k : Nat} : ∀ {xs : List V} {off : Nat} (j : Nat), RZs z k off xs → RZs z k (off + j) (xs.drop j)
  | xs, off, 0, r => by simpa using r
  | [], off, j + 1, r => by simp [RZs]
  | y :: ys, off, j + 1, r => by
    simp only [RZs] at r
    have := RZs.drop j r.2
    rw [List.drop_succ_cons, show off + (j + 1) = off + 1 + j by omega]; exact this
theorem RZs.take {z : Zm} {k : Nat} : ∀ {xs : List V} {off : Nat} (j : Nat), RZs z k off xs → RZs z k off (xs.take j)
  | xs, off, 0, r => by simp [RZs]
  | [], off, j + 1, r => by simp [RZs]
  | y :: ys, off, j + 1, r => by
    simp only [RZs, List.take_succ_cons] at *
    exact ⟨r.1, RZs.take j r.2⟩
theorem RZss.nth {z : Zm} {k n : Nat} : ∀ {els : List (List V)} {off i : Nat} {el : List V}, RZss z k n off els → els[i]? = some el → el.length = n ∧ RZs z k (off + i * n) el
  | [], _, i, x, _, h => by simp at h
  | y :: ys, off, 0, x, r, h => by
    simp at h; subst h; simp only [RZss] at r; simpa using ⟨r.1, r.2.1⟩
  | y :: ys, off, i + 1, x, r, h => by
    simp only [RZss] at r
    obtain ⟨h1, h2⟩ := RZss.nth r.2.2 (by simpa using h)
    exact ⟨h1, by rw [show off + (i + 1) * n = off + n + i * n by rw [Nat.succ_mul]; omega]; exact h2⟩
theorem RZss.drop {z : Zm} {k n : Nat} : ∀ {els : List (List V)} {off : Nat} (j : Nat), RZss z k n off els → RZss z k n (off + j * n) (els.drop j)
  | els, off, 0, r => by simpa using r
  | [], off, j + 1, r => by simp [RZss]
  | y :: ys, off, j + 1, r => by
    simp only [RZss] at r
    have := RZss.drop j r.2.2
    rw [List.drop_succ_cons, show off + (j + 1) * n = off + n + j * n by rw [Nat.succ_mul]; omega]; exact this
theorem RZss.take {z : Zm} {k n : Nat} : ∀ {els : List (List V)} {off : Nat} (j : Nat), RZss z k n off els → RZss z k n off (els.take j)
  | els, off, 0, r => by simp [RZss]
  | [], off, j + 1, r => by simp [RZss]
  | y :: ys, off, j + 1, r => by
    simp only [RZss, List.take_succ_cons] at *
    exact ⟨r.1, r.2.1, RZss.take j r.2.2⟩
theorem RZl.length {z : Zm} : ∀ {xs : List V} {vs : List Value}, RZl z xs vs → xs.length = vs.length
  | [], vs, r => by simp only [RZl] at r; subst r; rfl
  | x :: xs, vs, r => by
    simp only [RZl] at r
    obtain ⟨v, t, rfl, h2, h3⟩ := r
    simp [RZl.length h3]

/-! ### 2. Values -/
structure Phi where
  m : Nat → Option (Option Nat × Nat)
  z : Zm

/-- A value of one cell, without a function's captured variables. -/
def RelP (φ : Phi) : V → Value → Prop
  | .sl b off len cap, v => ∃ p n, φ.m b = some (p, n) ∧ len ≤ cap ∧ match p with
    | some k => v = .slice (some ⟨k, off * n, none⟩) len cap
    | none => (∃ q, v = .slice q 0 0) ∧ len = 0 ∧ cap = 0 ∧ off = 0
  | .ptr b i o, v => ∃ k n, φ.m b = some (some k, n) ∧ v = .pointer (some ⟨k, i * n + o, none⟩)
  | x, v => RZ φ.z x v

def RelC (φ : Phi) : V → Value → Prop
  | .fn f caps, v => ∃ l, v = .func (.func f) #[] l.toArray ∧ All2 (RelP φ) caps l
  | x, v => RelP φ x v

/-- A component of a tuple: one cell, or an aggregate. -/
def RelQ (φ : Phi) : V → Value → Prop
  | .agg cs, v => ∃ l, v = .agg l ∧ All2 (RelC φ) cs l.toList
  | x, v => RelC φ x v

def RelV (φ : Phi) : V → Value → Prop
  | .tup vs, v => ∃ l, v = .tuple l ∧ All2 (RelQ φ) vs l.toList
  | x, v => RelQ φ x v

structure Ext (φ φ' : Phi) : Prop where
  m : ∀ b p, φ.m b = some p → φ'.m b = some p
  z : FLe φ.z φ'.z
theorem Ext.refl (φ : Phi) : Ext φ φ := ⟨fun _ _ h => h, FLe.refl _⟩
theorem Ext.trans {a b c : Phi} (h : Ext a b) (h' : Ext b c) : Ext a c := ⟨fun b p e => h'.m b p (h.m b p e), h.z.trans h'.z⟩

theorem RelP.ext {φ φ' : Phi} (h : Ext φ φ') {x : V} {v : Value} (r : RelP φ x v) : RelP φ' x v := by
  cases x with
  | sl b off len cap =>
    simp only [RelP] at *
    obtain ⟨p, n, h1, h2⟩ := r
    exact ⟨p, n, h.m _ _ h1, h2⟩
  | ptr b i o =>
    simp only [RelP] at *
    obtain ⟨k, n, h1, h2⟩ := r
    exact ⟨k, n, h.m _ _ h1, h2⟩
  | _ => simp only [RelP] at *; exact RZ.mono h.z _ _ r

theorem RelC.ext {φ φ' : Phi} (h : Ext φ φ') {x : V} {v : Value} (r : RelC φ x v) : RelC φ' x v := by
  cases x with
  | fn f caps =>
    simp only [RelC] at *
    obtain ⟨l, h1, h2⟩ := r
    exact ⟨l, h1, h2.mono fun _ _ => RelP.ext h⟩
  | _ => simp only [RelC] at *; exact RelP.ext h r

theorem RelQ.ext {φ φ' : Phi} (h : Ext φ φ') {x : V} {v : Value} (r : RelQ φ x v) : RelQ φ' x v := by
  cases x with
  | agg cs =>
    simp only [RelQ] at *
    obtain ⟨l, h1, h2⟩ := r
    exact ⟨l, h1, h2.mono fun _ _ => RelC.ext h⟩
  | _ => simp only [RelQ] at *; exact RelC.ext h r

theorem RelV.ext {φ φ' : Phi} (h : Ext φ φ') {x : V} {v : Value} (r : RelV φ x v) : RelV φ' x v := by
  cases x with
  | tup cs =>
    simp only [RelV] at *
    obtain ⟨l, h1, h2⟩ := r
    exact ⟨l, h1, h2.mono fun _ _ => RelQ.ext h⟩
  | _ => simp only [RelV] at *; exact RelQ.ext h r

theorem rz_l {z : Zm} : ∀ {xs : List V} {vs : List Value}, RZl z xs vs → All2 (RZ z) xs vs
  | [], vs, r => by simp only [RZl] at r; subst r; trivial
  | x :: xs, vs, r => by
    simp only [RZl] at r
    obtain ⟨v, t, rfl, h2, h3⟩ := r
    exact ⟨h2, rz_l h3⟩
theorem rz_of_l {z : Zm} : ∀ {xs : List V} {vs : List Value}, All2 (RZ z) xs vs → RZl z xs vs
  | [], [], r => by simp only [RZl]
  | x :: xs, v :: vs, r => by simp only [RZl]; exact ⟨v, vs, rfl, r.1, rz_of_l r.2⟩
  | [], _ :: _, e => e.elim
  | _ :: _, [], e => e.elim
theorem relP_of_rz {φ : Phi} {x : V} {v : Value} (r : RZ φ.z x v) : RelP φ x v := by
  cases x <;> first | exact r | simp [RZ] at r
theorem relC_of_rz {φ : Phi} {x : V} {v : Value} (r : RZ φ.z x v) : RelC φ x v := by
  cases x with
  | fn f caps =>
    simp only [RZ] at r
    obtain ⟨l, h1, h2⟩ := r
    exact ⟨l, h1, (rz_l h2).mono fun _ _ => relP_of_rz⟩
  | _ => exact relP_of_rz r
theorem relV_of_relC {φ : Phi} {x : V} {v : Value} (r : RelC φ x v) : RelV φ x v := by
  cases x with
  | agg cs => simp [RelC, RelP, RZ] at r
  | tup cs => simp [RelC, RelP, RZ] at r
  | _ => exact r
theorem relV_of_rz {φ : Phi} {x : V} {v : Value} (r : RZ φ.z x v) : RelV φ x v := relV_of_relC (relC_of_rz r)

/-! ### 3. Temporaries and operands -/
abbrev Tau := Nat → V
/-- A program, and what its package-level variables hold. -/
structure Cx where
  P : Program
  g : Nat → V
def up (d : Nat) (v : V) (τ : Tau) : Tau := fun t => if t = d then v else τ t
def upo : Option Nat → V → Tau → Tau
  | some d, v, τ => up d v τ
  | none, _, τ => τ

def RelT (φ : Phi) (τ : Tau) (a : Act) : Prop := ∀ t, RelV φ (τ t) (a.tmps.getD t undef)

theorem RelT.ext {φ φ' : Phi} (h : Ext φ φ') {τ : Tau} {a : Act} (e : RelT φ τ a) : RelT φ' τ a := fun t => (e t).ext h

theorem RelT.put {φ : Phi} {τ : Tau} {a : Act} (e : RelT φ τ a) {d : Nat} {x : V} {v : Value} (hd : d < a.tmps.size) (hv : RelV φ x v) : RelT φ (up d x τ) (a.put (some d) v) := by
  intro t
  unfold up Act.put
  by_cases h : t = d
  · subst h; simp [hd]; exact hv
  · rw [if_neg h]
    have := e t
    simp only [Array.getD_eq_getD_getElem?, Array.getElem?_setIfInBounds] at *
    rw [if_neg (fun h' => h h'.symm)]; exact this

theorem relV_any {φ : Phi} {v : Value} : RelV φ .any v := by simp [RelV, RelQ, RelC, RelP, RZ]

theorem RelT.putAny {φ : Phi} {τ : Tau} {a : Act} (e : RelT φ τ a) {d : Nat} {v : Value} : RelT φ (up d .any τ) (a.put (some d) v) := by
  intro t
  unfold up Act.put
  by_cases h : t = d
  · rw [if_pos h]; exact relV_any
  · rw [if_neg h]
    have := e t
    simp only [Array.getD_eq_getD_getElem?, Array.getElem?_setIfInBounds] at *
    rw [if_neg (fun h' => h h'.symm)]; exact this

/-- A constant as a value of the abstract machine: nil is a slice without room. -/
def ofV1 : Value → V
  | .slice none 0 0 => .z
  | v => .s v
def ofV : Value → V
  | .agg cs => .agg (cs.toList.map ofV1)
  | v => ofV1 v

def ev (C : Cx) (τ : Tau) : Operand → V
  | .tmp t => τ t
  | .const v => ofV v
  | .global g => C.g g
  | .func f => .fn f []

/-- What is said of package-level variables holds. -/
def RelG (C : Cx) (z : Zm) : Prop := ∀ g : Nat, RZ z (C.g g) (.pointer (some ⟨g, 0, none⟩))
theorem RelG.mono {C : Cx} {z z' : Zm} (h : FLe z z') (r : RelG C z) : RelG C z' := fun g => RZ.mono h _ _ (r g)

def constOk : Value → Bool
  | .agg cs => cs.all one
  | v => one v
def opdOk : Operand → Bool
  | .const v => constOk v
  | _ => true

theorem ofV1_rel {φ : Phi} {v : Value} (h : one v = true) : RelC φ (ofV1 v) v := by
  unfold ofV1
  split
  · simp [RelC, RelP, RZ]
  · simp [RelC, RelP, RZ, h]
theorem all2_ofV1 {φ : Phi} : ∀ {l : List Value}, l.all one = true → All2 (RelC φ) (l.map ofV1) l
  | [], _ => trivial
  | v :: l, h => by
    simp only [List.all_cons, Bool.and_eq_true] at h
    exact ⟨ofV1_rel h.1, all2_ofV1 h.2⟩

theorem ofV1_V (v : Value) : (∃ v', ofV1 v = .s v') ∨ ofV1 v = .z := by
  unfold ofV1; split
  · exact .inr rfl
  · exact .inl ⟨_, rfl⟩
theorem relV_ofV1 {φ : Phi} {v : Value} (h : one v = true) : RelV φ (ofV1 v) v := relV_of_relC (ofV1_rel h)

theorem ev_rel {C : Cx} {φ : Phi} {τ : Tau} {a : Act} (G : RelG C φ.z) (e : RelT φ τ a) (x : Operand) (hx : opdOk x = true) : RelV φ (ev C τ x) (a.eval x) := by
  cases x with
  | tmp t => exact e t
  | const v =>
    by_cases hv : ∃ cs, v = .agg cs
    · obtain ⟨cs, rfl⟩ := hv
      refine ⟨cs, rfl, all2_ofV1 ?_⟩
      simp only [opdOk, constOk] at hx
      rw [← Array.all_toList] at hx; exact hx
    · have e1 : ofV v = ofV1 v := by unfold ofV; split <;> simp_all
      have e2 : constOk v = one v := by unfold constOk; split <;> simp_all
      show RelV φ (ofV v) v
      rw [e1]; exact relV_ofV1 (by rw [← e2]; exact hx)
  | global g => exact relV_of_rz (G g)
  | func f => exact ⟨[], rfl, trivial⟩

end Go.W
