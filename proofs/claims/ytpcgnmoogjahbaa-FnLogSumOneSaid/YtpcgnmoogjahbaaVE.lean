/- A layer for walking through code on abstract values and an abstract heap: its definitions and their soundness; no condition. -/
import Derived.Test.YtpcgnmoogjahbaaVD
set_option linter.unusedVariables false
set_option linter.unusedSimpArgs false
namespace Go.VL
open Go Go.RowKit

/-- The builtins that make no memory. -/
def builtinW (P : Program) (τ : Tau) (h : H) (b : Builtin) (args : List Operand) (ts : List TypeId) (K : V → H → Prop) : Prop :=
  match b, args, ts with
  | .len, [x], [t] => match ev τ x, tK P t with
    | .s (.string s), .string => K (.s (.int .i64 s.size)) h
    | .sl _ _ len _, .slice _ => K (.s (.int .i64 len)) h
    | .s (.slice none n _), .slice _ => K (.s (.int .i64 n)) h
    | _, _ => False
  | .cap, [x], [t] => match ev τ x, tK P t with
    | .sl _ _ _ cap, .slice _ => K (.s (.int .i64 cap)) h
    | .s (.slice none _ n), .slice _ => K (.s (.int .i64 n)) h
    | _, _ => False
  | .min, [x, y], _ => match ev τ x, ev τ y with
    | .s (.int k a), .s (.int _ b) => K (.s (.int k (if b < a then b else a))) h
    | _, _ => False
  | .max, [x, y], _ => match ev τ x, ev τ y with
    | .s (.int k a), .s (.int _ b) => K (.s (.int k (if a < b then b else a))) h
    | _, _ => False
  | _, _, _ => False

/-- append: the value and the heap behind it. -/
def AppV (P : Program) (h : H) (s x : V) (t u : TypeId) (R : V → H → Prop) : Prop :=
  ∀ B w0 φ w sv xv ty, Rel B w0 φ h w → RelV φ s sv → RelV φ x xv →
    ∃ v w' φ' r h', (Builtin.append_ #[t, u] ty #[sv, xv]).run P w = .ok v w' ∧ Rel B w0 φ' h' w' ∧ Ext φ φ' ∧ RelV φ' r v ∧ R r h'

/-- copy, clear: what is written. -/
def CopyV (P : Program) (h : H) (d x : V) (t u : TypeId) (R : V → H → Prop) : Prop :=
  ∀ B w0 φ w dv xv ty, Rel B w0 φ h w → RelV φ d dv → RelV φ x xv →
    ∃ v w' φ' r h', (Builtin.copy_ #[t, u] ty #[dv, xv]).run P w = .ok v w' ∧ Rel B w0 φ' h' w' ∧ Ext φ φ' ∧ RelV φ' r v ∧ R r h'
def ClearV (P : Program) (h : H) (d : V) (t : TypeId) (R : V → H → Prop) : Prop :=
  ∀ B w0 φ w dv ty, Rel B w0 φ h w → RelV φ d dv →
    ∃ v w' φ' r h', (Builtin.clear_ #[t] ty #[dv]).run P w = .ok v w' ∧ Rel B w0 φ' h' w' ∧ Ext φ φ' ∧ RelV φ' r v ∧ R r h'
/-- A conversion that makes memory or reads it. -/
def ConvV (P : Program) (h : H) (src dst : TypeId) (x : V) (R : V → H → Prop) : Prop :=
  ∀ B w0 φ w xv, Rel B w0 φ h w → RelV φ x xv →
    ∃ v w' φ' r h', (convert src dst xv).run P w = .ok v w' ∧ Rel B w0 φ' h' w' ∧ Ext φ φ' ∧ RelV φ' r v ∧ R r h'
/-- A test for equality of what is no scalar. -/
def EqV (P : Program) (h : H) (op : BinOp) (t : TypeId) (x y : V) (R : V → H → Prop) : Prop :=
  ∀ B w0 φ w xv yv (ox oy : Operand), Rel B w0 φ h w → RelV φ x xv → RelV φ y yv →
    ∃ v w' φ' r h', (do eqGuard op t ox oy xv yv; binOp op t xv yv : Sem Value).run P w = .ok v w' ∧ Rel B w0 φ' h' w' ∧ Ext φ φ' ∧ RelV φ' r v ∧ R r h'

def popTo (id : Nat) : List It → Option (List It)
  | [] => none
  | .blk id' :: k => if id = id' then some k else popTo id k
  | _ :: k => popTo id k

/-- The static part of an operation: its operands may stand for themselves, its slot is one. -/
def opOk (N : Nat) (o : Oper) : Bool := (match o.dst with | some d => decide (d < N) | none => true) && o.op.operands.all opdOk
def codeOk (N : Nat) : Code → Bool
  | .region _ ops _ => ops.all (opOk N)
  | .seq a b => codeOk N a && codeOk N b
  | .cond c a b => opdOk c && (codeOk N a && codeOk N b)
  | .block _ c => codeOk N c
  | .loop c => codeOk N c
  | .rangeFunc .. => false
  | .scope _ => false
  | .goto _ => false
  | .refuse _ => false
  | _ => true
def itOk (N : Nat) : It → Bool
  | .code c => codeOk N c
  | .ops all os => all.all (opOk N) && os.all (opOk N)
  | .blk _ => true


def gV (all : List Oper) (τ : Tau) (j : Nat) : Option Bool :=
  match (all[j]?).bind (·.dst) with
  | some t => match τ t with
    | .s (.bool b) => some b
    | _ => none
  | none => none

def gSet (all : List Oper) (j : Nat) (b : Bool) (τ : Tau) : Tau := match (all[j]?).bind (·.dst) with
  | some t => up t (.s (.bool b)) τ
  | none => τ
theorem gSet_eq {all : List Oper} {τ : Tau} {j : Nat} {b : Bool} (h : gV all τ j = some b) : gSet all j b τ = τ := by
  unfold gV at h
  unfold gSet
  split at h
  · split at h
    · rename_i b' hb
      obtain rfl := Option.some.inj h
      funext i
      unfold up
      split
      · rename_i e; subst e; exact hb.symm
      · rfl
    · cases h
  · cases h
theorem gSet_want {all : List Oper} {τ : Tau} {j : Nat} {b want : Bool} (h : gV all τ j = some b) (e : b = want) : gSet all j want τ = τ := by subst e; exact gSet_eq h
theorem gSet_not {all : List Oper} {τ : Tau} {j : Nat} {b want : Bool} (h : gV all τ j = some b) (e : ¬ b = want) : gSet all j (!want) τ = τ := by
  have : (!want) = b := by cases b <;> cases want <;> simp_all
  rw [this]; exact gSet_eq h

/-- Where the walk stops: the loop, the region that draws, the call, the append. -/
def LoopThen (P : Program) (N : Nat) (Q : QT) (body : Code) (k : List It) (τ : Tau) (h : H) : Prop :=
  codeOk N body = true → k.all (itOk N) = true → WC P N (.loop body) (SemK P N Q k) τ h
def DrawThen (P : Program) (N : Nat) (Q : QT) (id : Nat) (ops : Array Oper) (k : List It) (τ : Tau) (h : H) : Prop :=
  ops.all (opOk N) = true → k.all (itOk N) = true → WC P N (.region id ops true) (SemK P N Q k) τ h
def CallThen (P : Program) (N : Nat) (Q : QT) (f : Nat) (args : List V) (d : Option Nat) (k : List It) (τ : Tau) (h : H) : Prop :=
  k.all (itOk N) = true → CallsV P f args h fun r h' => match r with
    | .ret v => SemK P N Q k .normal (upo d v τ) h'
    | .pan v => SemK P N Q k (.pan v) τ h'
def AppThen (P : Program) (N : Nat) (Q : QT) (s x : V) (t u : TypeId) (d : Option Nat) (k : List It) (τ : Tau) (h : H) : Prop :=
  k.all (itOk N) = true → AppV P h s x t u fun v h' => SemK P N Q k .normal (upo d v τ) h'
def CopyThen (P : Program) (N : Nat) (Q : QT) (s x : V) (t u : TypeId) (d : Option Nat) (k : List It) (τ : Tau) (h : H) : Prop :=
  k.all (itOk N) = true → CopyV P h s x t u fun v h' => SemK P N Q k .normal (upo d v τ) h'
def ClearThen (P : Program) (N : Nat) (Q : QT) (s : V) (t : TypeId) (d : Option Nat) (k : List It) (τ : Tau) (h : H) : Prop :=
  k.all (itOk N) = true → ClearV P h s t fun v h' => SemK P N Q k .normal (upo d v τ) h'
def ConvThen (P : Program) (N : Nat) (Q : QT) (src dst : TypeId) (x : V) (d : Option Nat) (k : List It) (τ : Tau) (h : H) : Prop :=
  k.all (itOk N) = true → ConvV P h src dst x fun v h' => SemK P N Q k .normal (upo d v τ) h'
def EqThen (P : Program) (N : Nat) (Q : QT) (op : BinOp) (t : TypeId) (x y : V) (d : Option Nat) (k : List It) (τ : Tau) (h : H) : Prop :=
  k.all (itOk N) = true → EqV P h op t x y fun v h' => SemK P N Q k .normal (upo d v τ) h'

def isConv (P : Program) (src dst : TypeId) : Bool := match tK P src, tK P dst with
  | .string, .slice _ => true
  | .slice _, .string => true
  | _, _ => false

def Run (P : Program) (N : Nat) : Nat → QT → List It → Tau → H → Prop
  | 0, _, _, _, _ => False
  | n + 1, Q, [], τ, h => Q .normal τ h
  | n + 1, Q, .code c :: k, τ, h => match c with
    | .skip => Run P N n Q k τ h
    | .label _ => Run P N n Q k τ h
    | .seq a b => Run P N n Q (.code a :: .code b :: k) τ h
    | .block id c => Run P N n Q (.code c :: .blk id :: k) τ h
    | .cond c x y => match ev τ c with
      | .s (.bool b) => (b = true → Run P N n Q (.code x :: k) τ h) ∧ (b = false → Run P N n Q (.code y :: k) τ h)
      | _ => False
    | .region id ops draw => if draw then DrawThen P N Q id ops k τ h else Run P N n Q (.ops ops.toList ops.toList :: k) τ h
    | .loop body => LoopThen P N Q body k τ h
    | .exit id => match popTo id k with
      | some k' => Run P N n Q k' τ h
      | none => Q (.exit id) τ h
    | .ret => Q .ret τ h
    | _ => False
  | n + 1, Q, .blk _ :: k, τ, h => Run P N n Q k τ h
  | n + 1, Q, .ops all [] :: k, τ, h => Run P N n Q k τ h
  | n + 1, Q, .ops all (o :: os) :: k, τ, h => match o.guard with
    | none => match o.op with
      | .call c => match c.callee with
        | .builtin b => match b with
          | .append => match c.args.toList, c.argTypes.toList with
            | [s, x], [t, u] => AppThen P N Q (ev τ s) (ev τ x) t u o.dst (.ops all os :: k) τ h
            | _, _ => False
          | .copy => match c.args.toList, c.argTypes.toList with
            | [s, x], [t, u] => CopyThen P N Q (ev τ s) (ev τ x) t u o.dst (.ops all os :: k) τ h
            | _, _ => False
          | .clear => match c.args.toList, c.argTypes.toList with
            | [s], [t] => ClearThen P N Q (ev τ s) t o.dst (.ops all os :: k) τ h
            | _, _ => False
          | b => builtinW P τ h b c.args.toList c.argTypes.toList fun v h' => Run P N n Q (.ops all os :: k) (upo o.dst v τ) h'
        | .value f => match ev τ f with
          | .fn f caps => CallThen P N Q f (c.args.toList.map (ev τ) ++ caps.map fun p => .ptr p.1 p.2) o.dst (.ops all os :: k) τ h
          | _ => False
        | .invoke _ _ => False
      | .convert src dst x => if isConv P src dst then ConvThen P N Q src dst (ev τ x) o.dst (.ops all os :: k) τ h
        else opW P τ h (.convert src dst x) fun v h' => Run P N n Q (.ops all os :: k) (upo o.dst v τ) h'
      | .binOp op t x y u => if tAgg P t = some true then EqThen P N Q op t (ev τ x) (ev τ y) o.dst (.ops all os :: k) τ h
        else opW P τ h (.binOp op t x y u) fun v h' => Run P N n Q (.ops all os :: k) (upo o.dst v τ) h'
      | .panic x => match ev τ x with
        | .s (.iface t v) => Q (.pan (.s (.iface t v))) τ h
        | _ => False
      | op => opW P τ h op fun v h' => Run P N n Q (.ops all os :: k) (upo o.dst v τ) h'
    | some (j, want) => match gV all τ j with
      | some b => (b = want → Run P N n Q (.ops all ({ o with guard := none } :: os) :: k) (gSet all j want τ) h) ∧ (¬ b = want → Run P N n Q (.ops all os :: k) (upo o.dst .any (gSet all j (!want) τ)) h)
      | none => False

end Go.VL
