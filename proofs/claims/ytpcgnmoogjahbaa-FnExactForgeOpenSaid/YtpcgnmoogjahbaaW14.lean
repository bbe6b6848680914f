/- A layer for walking through code on abstract values, told apart by who owns the memory: its definitions and their soundness; no condition. -/
import Derived.Test.YtpcgnmoogjahbaaW13
set_option linter.unusedVariables false
set_option linter.unusedSimpArgs false
namespace Go.W
open Go Go.RowKit

/-! ### copy, clear: what is written -/
def CopyV (C : Cx) (h : H) (d x : V) (t u : TypeId) (R : V → H → Prop) : Prop :=
  ∀ S w0 φ w dv xv ty, Rel S w0 φ h w → RelV φ d dv → RelV φ x xv →
    ∃ v w' φ' r h', (Builtin.copy_ #[t, u] ty #[dv, xv]).run C.P w = .ok v w' ∧ Rel S w0 φ' h' w' ∧ ExtN S w0 h.length φ φ' ∧ h.length ≤ h'.length ∧ RelV φ' r v ∧ R r h'
def ClearV (C : Cx) (h : H) (d : V) (t : TypeId) (R : V → H → Prop) : Prop :=
  ∀ S w0 φ w dv ty, Rel S w0 φ h w → RelV φ d dv →
    ∃ v w' φ' r h', (Builtin.clear_ #[t] ty #[dv]).run C.P w = .ok v w' ∧ Rel S w0 φ' h' w' ∧ ExtN S w0 h.length φ φ' ∧ h.length ≤ h'.length ∧ RelV φ' r v ∧ R r h'

def popTo (id : Nat) : List It → Option (List It)
  | [] => none
  | .blk id' :: k => if id = id' then some k else popTo id k
  | _ :: k => popTo id k

def opOk (N : Nat) (o : Oper) : Bool := (match o.dst with | some d => decide (d < N) | none => true) && o.op.operands.all opdOk
def codeOk (N : Nat) : Code → Bool
  | .region _ ops _ => ops.all (opOk N)
  | .seq a b => codeOk N a && codeOk N b
  | .cond c a b => opdOk c && (codeOk N a && codeOk N b)
  | .block _ c => codeOk N c
  | .loop c => codeOk N c
  | .rangeFunc .. => false
  | .scope _ => false
  | .goto _ => false
  | .refuse _ => false
  | _ => true
def itOk (N : Nat) : It → Bool
  | .code c => codeOk N c
  | .ops all os => all.all (opOk N) && os.all (opOk N)
  | .blk _ => true

def boolOf : V → Option Bool
  | .s (.bool b) => some b
  | _ => none
def dstOf (all : List Oper) (j : Nat) : Option Nat := (all[j]?).bind (·.dst)
def gW (τ : Tau) : Option Nat → Option Bool
  | some t => boolOf (τ t)
  | none => none
def gV (all : List Oper) (τ : Tau) (j : Nat) : Option Bool := gW τ (dstOf all j)
def gS (b : Bool) (τ : Tau) : Option Nat → Tau
  | some t => up t (.s (.bool b)) τ
  | none => τ
def gSet (all : List Oper) (j : Nat) (b : Bool) (τ : Tau) : Tau := gS b τ (dstOf all j)
theorem gSet_eq {all : List Oper} {τ : Tau} {j : Nat} {b : Bool} (h : gV all τ j = some b) : gSet all j b τ = τ := by
  unfold gV at h
  unfold gSet
  generalize dstOf all j = d at h ⊢
  cases d with
  | none => rfl
  | some t =>
    simp only [gW] at h
    unfold boolOf at h
    split at h
    · rename_i b' hb
      obtain rfl := Option.some.inj h
      funext i
      simp only [gS]
      unfold up
      split
      · rename_i e; subst e; exact hb.symm
      · rfl
    · cases h
theorem gSet_want {all : List Oper} {τ : Tau} {j : Nat} {b want : Bool} (h : gV all τ j = some b) (e : b = want) : gSet all j want τ = τ := by subst e; exact gSet_eq h
theorem gSet_not {all : List Oper} {τ : Tau} {j : Nat} {b want : Bool} (h : gV all τ j = some b) (e : ¬ b = want) : gSet all j (!want) τ = τ := by
  have : (!want) = b := by cases b <;> cases want <;> simp_all
  rw [this]; exact gSet_eq h

/-- Either way of a truth value. -/
def bcase (b : Bool) (x y : Prop) : Prop := (b = true → x) ∧ (b = false → y)
theorem bcase_true (x y : Prop) : bcase true x y = x := by simp [bcase]
theorem bcase_false (x y : Prop) : bcase false x y = y := by simp [bcase]
theorem bcase_of {b : Bool} {x y : Prop} (h1 : b = true → x) (h2 : b = false → y) : bcase b x y := ⟨h1, h2⟩
theorem bcase_dec {p : Prop} [Decidable p] {x y : Prop} (h1 : p → x) (h2 : ¬ p → y) : bcase (decide p) x y := ⟨fun h => h1 (of_decide_eq_true h), fun h => h2 (of_decide_eq_false h)⟩

/-- Where the walk stops: the loop, the region that draws, the call, copy, clear. -/
def LoopThen (C : Cx) (N n0 : Nat) (Q : QT) (body : Code) (k : List It) (τ : Tau) (h : H) : Prop :=
  codeOk N body = true → k.all (itOk N) = true → WC C N n0 (.loop body) (SemK C N n0 Q k) τ h
def DrawThen (C : Cx) (N n0 : Nat) (Q : QT) (id : Nat) (ops : Array Oper) (k : List It) (τ : Tau) (h : H) : Prop :=
  ops.all (opOk N) = true → k.all (itOk N) = true → WC C N n0 (.region id ops true) (SemK C N n0 Q k) τ h
def CallThen (C : Cx) (N n0 : Nat) (Q : QT) (f : Nat) (args : List V) (d : Option Nat) (k : List It) (τ : Tau) (h : H) : Prop :=
  k.all (itOk N) = true → ∀ S w0 φ (a : Act) (vs : Array Value) w, RelG C φ.z → Rel S w0 φ h w → n0 ≤ h.length → RelT φ τ a → All2 (RelV φ) args vs.toList →
    CallG C.P f vs w fun e w' => ∃ r τ' φ' h', ResRel φ' r e ∧ Rel S w0 φ' h' w' ∧ ExtN S w0 n0 φ φ' ∧ n0 ≤ h'.length ∧ RelT φ' τ' a ∧ match r with
      | .ret v => SemK C N n0 Q k .normal (upo d v τ') h'
      | .pan v => SemK C N n0 Q k (.pan v) τ' h'
def CopyThen (C : Cx) (N n0 : Nat) (Q : QT) (s x : V) (t u : TypeId) (d : Option Nat) (k : List It) (τ : Tau) (h : H) : Prop :=
  k.all (itOk N) = true → CopyV C h s x t u fun v h' => SemK C N n0 Q k .normal (upo d v τ) h'
def ClearThen (C : Cx) (N n0 : Nat) (Q : QT) (s : V) (t : TypeId) (d : Option Nat) (k : List It) (τ : Tau) (h : H) : Prop :=
  k.all (itOk N) = true → ClearV C h s t fun v h' => SemK C N n0 Q k .normal (upo d v τ) h'

section
variable (C : Cx) (N n0 : Nat)
/-- What comes behind an operation. -/
def RunK (R : List It → Tau → H → Prop) (items : List It) (d : Option Nat) (τ : Tau) : V → H → Prop := fun v h' => R items (upo d v τ) h'
def callR (Q : QT) (args : List V) (d : Option Nat) (items : List It) (τ : Tau) (h : H) : V → Prop
  | .fn f caps => CallThen C N n0 Q f (args ++ caps) d items τ h
  | _ => False
def panR (Q : QT) (τ : Tau) (h : H) : V → Prop
  | .s (.iface t v) => Q (.pan (.s (.iface t v))) τ h
  | _ => False
def copyR (Q : QT) (d : Option Nat) (items : List It) (τ : Tau) (h : H) : List V → List TypeId → Prop
  | [s, x], [t, u] => CopyThen C N n0 Q s x t u d items τ h
  | _, _ => False
def clearR (Q : QT) (d : Option Nat) (items : List It) (τ : Tau) (h : H) : List V → List TypeId → Prop
  | [s], [t] => ClearThen C N n0 Q s t d items τ h
  | _, _ => False
def appR (K : V → H → Prop) (h : H) : List V → List TypeId → Prop
  | [s, x], [t, u] => appW K h C t u s x
  | _, _ => False
def bltR (R : List It → Tau → H → Prop) (Q : QT) (d : Option Nat) (items : List It) (τ : Tau) (h : H) (xs : List V) (ts : List TypeId) : Builtin → Prop
  | .append => appR C (RunK R items d τ) h xs ts
  | .copy => copyR C N n0 Q d items τ h xs ts
  | .clear => clearR C N n0 Q d items τ h xs ts
  | b => builtinW C (RunK R items d τ) h b xs ts
/-- An operation without a guard. -/
def opRun (R : List It → Tau → H → Prop) (Q : QT) (items : List It) (d : Option Nat) (τ : Tau) (h : H) : Op → Prop
  | .call ⟨.builtin b, args, ts⟩ => bltR C N n0 R Q d items τ h (evs C τ args.toList) ts.toList b
  | .call ⟨.value f, args, _⟩ => callR C N n0 Q (evs C τ args.toList) d items τ h (ev C τ f)
  | .call ⟨.invoke _ _, _, _⟩ => False
  | .panic x => panR Q τ h (ev C τ x)
  | op => opW C τ h op (RunK R items d τ)
def exitK (R : List It → Tau → H → Prop) (Q : QT) (id : Nat) (τ : Tau) (h : H) : Option (List It) → Prop
  | some k' => R k' τ h
  | none => Q (.exit id) τ h
def condR (R : List It → Tau → H → Prop) (x y : Code) (k : List It) (τ : Tau) (h : H) : V → Prop
  | .s (.bool b) => bcase b (R (.code x :: k) τ h) (R (.code y :: k) τ h)
  | _ => False
def guardR (R : List It → Tau → H → Prop) (all os : List Oper) (k : List It) (d : Option Nat) (o : Oper) (j : Nat) (τ : Tau) (h : H) : Bool → Option Bool → Prop
  | true, some b => bcase b (R (.ops all (o :: os) :: k) (gSet all j true τ) h) (R (.ops all os :: k) (upo d .any (gSet all j false τ)) h)
  | false, some b => bcase b (R (.ops all os :: k) (upo d .any (gSet all j true τ)) h) (R (.ops all (o :: os) :: k) (gSet all j false τ) h)
  | _, none => False

def Run : Nat → QT → List It → Tau → H → Prop
  | 0, _, _, _, _ => False
  | n + 1, Q, [], τ, h => Q .normal τ h
  | n + 1, Q, .code .skip :: k, τ, h => Run n Q k τ h
  | n + 1, Q, .code (.label _) :: k, τ, h => Run n Q k τ h
  | n + 1, Q, .code (.seq a b) :: k, τ, h => Run n Q (.code a :: .code b :: k) τ h
  | n + 1, Q, .code (.block id c) :: k, τ, h => Run n Q (.code c :: .blk id :: k) τ h
  | n + 1, Q, .code (.cond c x y) :: k, τ, h => condR (Run n Q) x y k τ h (ev C τ c)
  | n + 1, Q, .code (.region id ops true) :: k, τ, h => DrawThen C N n0 Q id ops k τ h
  | n + 1, Q, .code (.region id ops false) :: k, τ, h => Run n Q (.ops ops.toList ops.toList :: k) τ h
  | n + 1, Q, .code (.loop body) :: k, τ, h => LoopThen C N n0 Q body k τ h
  | n + 1, Q, .code (.exit id) :: k, τ, h => exitK (Run n Q) Q id τ h (popTo id k)
  | n + 1, Q, .code .ret :: k, τ, h => Q .ret τ h
  | n + 1, Q, .code _ :: k, τ, h => False
  | n + 1, Q, .blk _ :: k, τ, h => Run n Q k τ h
  | n + 1, Q, .ops all [] :: k, τ, h => Run n Q k τ h
  | n + 1, Q, .ops all (⟨d, op, _, _, _, none⟩ :: os) :: k, τ, h => opRun C N n0 (Run n Q) Q (.ops all os :: k) d τ h op
  | n + 1, Q, .ops all (⟨d, op, ty, pos, after, some (j, want)⟩ :: os) :: k, τ, h => guardR (Run n Q) all os k d ⟨d, op, ty, pos, after, none⟩ j τ h want (gV all τ j)
end

/-! ### Soundness -/
section
variable {C : Cx} {N n0 : Nat} {all os : List Oper} {o : Oper} {Q : QT} {τ : Tau} {h : H} {k : List It}

theorem upon_did {S : Nat → Prop} {w0 w : World} {φ : Phi} {K : V → H → Prop} {a : Act} {n : Nat} {next : Act → World → Prop} {Q : Exit → Act → World → Prop} (hd : Did C.P o a w S w0 φ n K)
    (hn : ∀ φ' x h' w' v, ExtN S w0 n φ φ' → n ≤ h'.length → Rel S w0 φ' h' w' → K x h' → (RelV φ' x v ∨ x = .any) → next (a.put o.dst v) w') : o.wp C.P a w next Q := by
  obtain ⟨φ', x, h', w', E, hl, R', hk, hr⟩ := hd
  unfold Oper.wp
  rcases hr with ⟨v, hr, rv⟩ | ⟨hr, rfl⟩
  · rw [hr]; exact hn φ' x h' w' v E hl R' hk (.inl rv)
  · rw [hr]; exact hn φ' .any h' w' undef E hl R' hk (.inr rfl)

theorem put_rel {φ : Phi} {a : Act} {x : V} {v : Value} (T : RelT φ τ a) (hN : a.tmps.size = N) (hd : (match o.dst with | some d => decide (d < N) | none => true) = true) (r : RelV φ x v ∨ x = .any) :
    RelT φ (upo o.dst x τ) (a.put o.dst v) ∧ (a.put o.dst v).tmps.size = N ∧ (a.put o.dst v).defers = a.defers := by
  cases hdst : o.dst with
  | none => exact ⟨T, hN, rfl⟩
  | some d =>
    rw [hdst] at hd
    simp only [decide_eq_true_eq] at hd
    refine ⟨?_, by simp [Act.put, hN], rfl⟩
    rcases r with r | rfl
    · exact T.put (by rw [hN]; exact hd) r
    · exact T.putAny

theorem upon_mono {P : Program} {a : Act} {K K' : Act → World → Prop} {Q Q' : Exit → Act → World → Prop} (hk : ∀ a w, K a w → K' a w) (hq : ∀ e a w, Q e a w → Q' e a w) {r : Result Next}
    (hu : o.upon P a K Q r) : o.upon P a K' Q' r := by
  cases r with
  | ok n w' =>
    cases n <;> simp only [Oper.upon] at hu ⊢
    case value u => exact hk _ _ hu
    case skip => exact hk _ _ hu
    case defer d => exact hk _ _ hu
    case enter f args =>
      refine Calls.mono hu fun e w'' he => ?_
      cases e with
      | returned u => exact hk _ _ he
      | panicked c => exact hq _ _ _ he
      | outgrown => obtain ⟨a, w, h⟩ := he; exact ⟨a, w, hq _ _ _ h⟩
    case row row args => exact Rows.mono hu fun u w'' he => hk _ _ he
  | halt x w' =>
    cases x <;> simp only [Oper.upon] at hu ⊢
    case panic u => exact hq _ _ _ hu

theorem wpList_mono {P : Program} {ops : Array Oper} {Q Q' : Exit → Act → World → Prop} (hq : ∀ e a w, Q e a w → Q' e a w) : ∀ {l : List Oper} {a : Act} {w : World}, wpList P ops Q l a w → wpList P ops Q' l a w
  | [], a, w, h => hq _ _ _ h
  | o :: l, a, w, h => by
    unfold wpList at h ⊢
    split
    · rename_i hw
      rw [if_pos hw] at h
      rcases h with h | ⟨h1, a', w', h2⟩
      · exact .inl (upon_mono (fun a w h => wpList_mono hq h) hq h)
      · exact .inr ⟨h1, a', w', hq _ _ _ h2⟩
    · rename_i hw
      rw [if_neg hw] at h
      exact wpList_mono hq h

/-- What stands for the list behind an operation, from later names on. -/
theorem WO.later {S : Nat → Prop} {w0 : World} {φ φ' : Phi} {a a' : Act} {w' : World} (E : ExtN S w0 n0 φ φ') (hds : a'.defers = a.defers) (hk : WO C N n0 all os Q τ h) (G : RelG C φ'.z) (R : Rel S w0 φ' h w') (hl : n0 ≤ h.length) (T : RelT φ' τ a')
    (hN : a'.tmps.size = N) : wpList C.P all.toArray (Post N n0 S w0 φ a.defers Q) os a' w' := by
  have := hk S w0 φ' a' w' G R hl T hN
  rw [hds] at this
  exact wpList_mono (fun e a w p => p.mono E fun _ _ _ q => q) this

/-- One operation that is no call, and what comes behind it. -/
theorem WO.step (hg : o.guard = none) (hd : (match o.dst with | some d => decide (d < N) | none => true) = true)
    (hs : ∀ S w0 φ a w, RelG C φ.z → Rel S w0 φ h w → RelT φ τ a → Did C.P o a w S w0 φ h.length fun x h' => WO C N n0 all os Q (upo o.dst x τ) h') : WO C N n0 all (o :: os) Q τ h := by
  intro S w0 φ a w G R hn T hN
  refine wpList_plain hg fun K hK => ?_
  refine upon_did (hs S w0 φ a w G R T) fun φ' x h' w' v E hl R' hk r => ?_
  obtain ⟨q1, q2, q3⟩ := put_rel (o := o) (T.ext (R.ext E)) hN hd r
  exact hK _ _ (WO.later (E.mono hn) q3 hk (G.mono E.z) R' (by omega) q1 q2)

theorem WO.nil (hq : Q .normal τ h) : WO C N n0 all [] Q τ h :=
  fun S w0 φ a w G R hn T hN => ⟨.normal, τ, h, φ, rfl, R, ExtN.refl .., hn, T, hN, rfl, hq⟩

theorem guard_yields {φ : Phi} {a : Act} {j : Nat} {b : Bool} (T : RelT φ τ a) (hN : a.tmps.size = N) (hall : all.all (opOk N) = true) (hg : gV all τ j = some b) :
    yielded all.toArray a.tmps j = some b := by
  unfold gV at hg
  cases ht : dstOf all j with
  | none => rw [ht] at hg; cases hg
  | some t =>
    rw [ht] at hg
    simp only [gW] at hg
    unfold boolOf at hg
    split at hg
    · rename_i b' hb
      obtain rfl := Option.some.inj hg
      have e := T t
      rw [hb] at e
      have e := relV_bool e
      unfold dstOf at ht
      unfold yielded
      simp only [List.getElem?_toArray, ht, Option.bind_some]
      cases hj : all[j]? with
      | none => rw [hj] at ht; cases ht
      | some oj =>
        rw [hj] at ht
        simp only [Option.bind_some] at ht
        have hm := List.mem_of_getElem? hj
        have hok := List.all_eq_true.1 hall oj hm
        simp only [opOk, ht, Bool.and_eq_true, decide_eq_true_eq] at hok
        have hlt : t < a.tmps.size := by rw [hN]; exact hok.1
        rw [Array.getElem?_eq_getElem hlt]
        have : a.tmps.getD t undef = a.tmps[t] := by simp [Array.getD, hlt]
        rw [this] at e
        rw [e]
    · cases hg

theorem WO.guarded {j : Nat} {want b : Bool} (hg : o.guard = some (j, want)) (hall : all.all (opOk N) = true) (hd : (match o.dst with | some d => decide (d < N) | none => true) = true)
    (hb : gV all τ j = some b) (h1 : b = want → WO C N n0 all ({ o with guard := none } :: os) Q τ h) (h2 : ¬ b = want → WO C N n0 all os Q (upo o.dst .any τ) h) : WO C N n0 all (o :: os) Q τ h := by
  intro S w0 φ a w G R hn T hN
  have hy := guard_yields T hN hall hb
  by_cases e : b = want
  · subst e
    have := h1 rfl S w0 φ a w G R hn T hN
    unfold wpList at this ⊢
    rw [if_pos (by simp [Region.wanted])] at this
    rw [if_pos (by simp [Region.wanted, hg, hy])]
    exact this
  · unfold wpList
    rw [if_neg (by simp [Region.wanted, hg, hy, e])]
    obtain ⟨q1, q2, q3⟩ := put_rel (o := o) (v := undef) (x := .any) T hN hd (.inr rfl)
    exact WO.later (ExtN.refl ..) q3 (h2 e) G R hn q1 q2

theorem call_args {c : Call} {b : Builtin} (ho : o.op = .call c) (hc : c.callee = .builtin b) (hok : opOk N o = true) : c.args.toList.all opdOk = true := by
  simp only [opOk, Bool.and_eq_true, ho, Op.operands, Call.operands, hc] at hok
  rw [← Array.all_toList] at hok
  simpa using hok.2

theorem fn_caps {φ : Phi} : ∀ {caps : List V} {l : List Value}, All2 (RelP φ) caps l → All2 (RelV φ) caps l
  | [], [], _ => trivial
  | x :: xs, v :: vs, r => ⟨by
      have := r.1
      cases x with
      | fn f c =>
        simp only [RelP] at this
        exact relV_of_rz this
      | agg c => simp [RelP, RZ] at this
      | tup c => simp [RelP, RZ] at this
      | _ => exact this, fn_caps r.2⟩
  | [], _ :: _, r => r.elim
  | _ :: _, [], r => r.elim

/-- A call of a Go function. -/
theorem WO.call {c : Call} {fo : Operand} {f : Nat} {caps : List V} (hg : o.guard = none) (ho : o.op = .call c) (hcl : c.callee = .value fo) (hok : opOk N o = true) (hf : ev C τ fo = .fn f caps)
    (hc : ∀ S w0 φ (a : Act) (vs : Array Value) w, RelG C φ.z → Rel S w0 φ h w → n0 ≤ h.length → RelT φ τ a → All2 (RelV φ) (evs C τ c.args.toList ++ caps) vs.toList →
      CallG C.P f vs w fun e w' => ∃ r τ' φ' h', ResRel φ' r e ∧ Rel S w0 φ' h' w' ∧ ExtN S w0 n0 φ φ' ∧ n0 ≤ h'.length ∧ RelT φ' τ' a ∧ match r with
        | .ret v => WO C N n0 all os Q (upo o.dst v τ') h'
        | .pan v => Q (.pan v) τ' h') : WO C N n0 all (o :: os) Q τ h := by
  intro S w0 φ a w G R hn T hN
  simp only [opOk, Bool.and_eq_true] at hok
  obtain ⟨hd, hop⟩ := hok
  rw [ho] at hop
  simp only [Op.operands, Call.operands, hcl] at hop
  rw [← Array.all_toList] at hop
  simp only [Array.toList_append, List.all_append, Bool.and_eq_true] at hop
  have ef := ev_rel G T fo (by have := hop.1; simpa using this)
  rw [hf] at ef
  obtain ⟨cl, ef, hp⟩ := fn_rel ef
  refine wpList_plain hg fun K hK => ?_
  have hrun : (execOp a.eval o).run C.P w = (callFunc f (#[] ++ c.args.map a.eval ++ cl.toArray)).run C.P w := by
    simp only [execOp, ho, resolve, hcl, ef, Deferred.ofValue, Sem.run_bind, Sem.run_pure, Result.andThen_ok, invoke]
  have hargs : All2 (RelV φ) (evs C τ c.args.toList ++ caps) (#[] ++ c.args.map a.eval ++ cl.toArray).toList := by
    have h1 := evs_rel G T (xs := c.args.toList) hop.2
    simpa using h1.append (fn_caps hp)
  have hgo := hc S w0 φ a _ w G R hn T hargs
  rcases hgo with ⟨he, hcalls⟩ | ⟨v, w', hv, r, τ', φ', h', p1, p2, p3, p4, p5, p6⟩
  · have hrun2 : (execOp a.eval o).run C.P w = .ok (.enter f (#[] ++ c.args.map a.eval ++ cl.toArray)) w := by
      rw [hrun]
      unfold enters at he
      cases hfn : C.P.funcs[f]? with
      | none => rw [hfn] at he; cases he
      | some fn =>
        rw [hfn] at he
        simp only [Bool.and_eq_true, bne_iff_ne, ne_eq] at he
        have h1 : ¬ fn.name = "runtime.NumGoroutine" := he.1
        have h2 : fn.body.isNone = false := by
          cases hb : fn.body with
          | none => rw [hb] at he; exact absurd he.2 (by simp)
          | some _ => rfl
        simp only [callFunc, run_program, Sem.run_bind, Result.andThen_ok, hfn]
        simp [h1, h2]
    unfold Oper.wp
    rw [hrun2]
    simp only [Oper.upon]
    refine hcalls.mono fun e w' ⟨r, τ', φ', h', p1, p2, p3, p4, p5, p6⟩ => ?_
    cases r with
    | ret v =>
      obtain ⟨cv, rfl, rv⟩ := p1
      obtain ⟨q1, q2, q3⟩ := put_rel (o := o) p5 hN hd (.inl rv)
      exact hK _ _ (WO.later p3 q3 p6 (G.mono p3.z) p2 p4 q1 q2)
    | pan v =>
      obtain ⟨cv, rfl, rv⟩ := p1
      exact ⟨.pan v, τ', h', φ', ⟨cv, rfl, rv⟩, p2, p3, p4, p5, hN, rfl, p6⟩
  · unfold Oper.wp
    rw [hrun, hv]
    simp only [Oper.upon]
    cases r with
    | ret x =>
      obtain ⟨cv, e, rv⟩ := p1
      cases e
      obtain ⟨q1, q2, q3⟩ := put_rel (o := o) p5 hN hd (.inl rv)
      exact hK _ _ (WO.later p3 q3 p6 (G.mono p3.z) p2 p4 q1 q2)
    | pan x => obtain ⟨cv, e, rv⟩ := p1; cases e

theorem WO.panic {x : Operand} {t : TypeId} {v : Value} (hg : o.guard = none) (ho : o.op = .panic x) (hok : opOk N o = true) (hx : ev C τ x = .s (.iface t v))
    (hq : Q (.pan (.s (.iface t v))) τ h) : WO C N n0 all (o :: os) Q τ h := by
  simp only [opOk, Bool.and_eq_true, ho, Op.operands] at hok
  have hxo : opdOk x = true := by simpa using hok.2
  intro S w0 φ a w G R hn T hN
  have ex := ev_rel G T x hxo
  rw [hx] at ex
  obtain ⟨ex, -⟩ := s_rel ex
  refine wpList_plain hg fun K hK => ?_
  unfold Oper.wp
  have : (execOp a.eval o).run C.P w = .halt (.panic (.iface t v)) w := by simp [execOp, ho, ex, Instr.panic]
  rw [this]
  exact ⟨.pan _, τ, h, φ, ⟨_, rfl, mk_s rfl⟩, R, ExtN.refl .., hn, T, hN, rfl, hq⟩

theorem WO.copy {c : Call} {s x : Operand} {t u : TypeId} (hg : o.guard = none) (ho : o.op = .call c) (hc : c.callee = .builtin .copy) (hok : opOk N o = true)
    (ha : c.args.toList = [s, x]) (ht : c.argTypes.toList = [t, u]) (hv : CopyV C h (ev C τ s) (ev C τ x) t u fun v h' => WO C N n0 all os Q (upo o.dst v τ) h') : WO C N n0 all (o :: os) Q τ h := by
  have hargs := call_args ho hc hok
  rw [ha] at hargs
  simp only [List.all_cons, List.all_nil, Bool.and_true, Bool.and_eq_true] at hargs
  simp only [opOk, Bool.and_eq_true] at hok
  refine WO.step hg hok.1 fun S w0 φ a w G R T => ?_
  obtain ⟨v, w', φ', r, h', q1, q2, q3, q4, q5, q6⟩ := hv S w0 φ w (a.eval s) (a.eval x) o.type R (ev_rel G T s hargs.1) (ev_rel G T x hargs.2)
  obtain ⟨cs, hcs⟩ := exec_builtin (P := C.P) (a := a) ho hc
  refine ⟨φ', r, h', w', q3, q4, q2, q6, .inl ⟨v, ?_, q5⟩⟩
  rw [hcs, arr2 ha, arr2 ht]
  simp only [builtin, Sem.run_bind, List.map_toArray, List.map_cons, List.map_nil]
  rw [q1]; rfl
theorem WO.clear {c : Call} {s : Operand} {t : TypeId} (hg : o.guard = none) (ho : o.op = .call c) (hc : c.callee = .builtin .clear) (hok : opOk N o = true)
    (ha : c.args.toList = [s]) (ht : c.argTypes.toList = [t]) (hv : ClearV C h (ev C τ s) t fun v h' => WO C N n0 all os Q (upo o.dst v τ) h') : WO C N n0 all (o :: os) Q τ h := by
  have hargs := call_args ho hc hok
  rw [ha] at hargs
  simp only [List.all_cons, List.all_nil, Bool.and_true] at hargs
  simp only [opOk, Bool.and_eq_true] at hok
  refine WO.step hg hok.1 fun S w0 φ a w G R T => ?_
  obtain ⟨v, w', φ', r, h', q1, q2, q3, q4, q5, q6⟩ := hv S w0 φ w (a.eval s) o.type R (ev_rel G T s hargs)
  obtain ⟨cs, hcs⟩ := exec_builtin (P := C.P) (a := a) ho hc
  refine ⟨φ', r, h', w', q3, q4, q2, q6, .inl ⟨v, ?_, q5⟩⟩
  rw [hcs, arr1 ha, arr1 ht]
  simp only [builtin, Sem.run_bind, List.map_toArray, List.map_cons, List.map_nil]
  rw [q1]; rfl

end
end Go.W
