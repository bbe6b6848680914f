/- A layer for walking through code on abstract values, told apart by who owns the memory: its definitions and their soundness; no condition. -/
import Derived.Test.YtlhkfjannhhcbaaGreatDoorG1
import Derived.Still
import Derived.OrdersHeld
/- part W14 -/
set_option linter.unusedVariables false
set_option linter.unusedSimpArgs false
namespace Go.W
open Go Go.RowKit

def CopyV (C : Cx) (h : H) (d x : V) (t u : TypeId) (R : V → H → Prop) : Prop :=
  ∀ S w0 φ w dv xv ty, Rel S w0 φ h w → RelV φ d dv → RelV φ x xv →
    ∃ v w' φ' r h', (Builtin.copy_ #[t, u] ty #[dv, xv]).run C.P w = .ok v w' ∧ Rel S w0 φ' h' w' ∧ ExtN S w0 h.length φ φ' ∧ h.length ≤ h'.length ∧ RelV φ' r v ∧ R r h'
def ClearV (C : Cx) (h : H) (d : V) (t : TypeId) (R : V → H → Prop) : Prop :=
  ∀ S w0 φ w dv ty, Rel S w0 φ h w → RelV φ d dv →
    ∃ v w' φ' r h', (Builtin.clear_ #[t] ty #[dv]).run C.P w = .ok v w' ∧ Rel S w0 φ' h' w' ∧ ExtN S w0 h.length φ φ' ∧ h.length ≤ h'.length ∧ RelV φ' r v ∧ R r h'

def popTo (id : Nat) : List It → Option (List It)
  | [] => none
  | .blk id' :: k => if id = id' then some k else popTo id k
  | _ :: k => popTo id k

def opOk (N : Nat) (o : Oper) : Bool := (match o.dst with | some d => decide (d < N) | none => true) && o.op.operands.all opdOk
def codeOk (N : Nat) : Code → Bool
  | .region _ ops _ => ops.all (opOk N)
  | .seq a b => codeOk N a && codeOk N b
  | .cond c a b => opdOk c && (codeOk N a && codeOk N b)
  | .block _ c => codeOk N c
  | .loop c => codeOk N c
  | .rangeFunc g ps a c => (opdOk g && ps.all (· < N)) && (codeOk N a && codeOk N c)
  | .scope _ => false
  | .goto _ => false
  | .refuse _ => false
  | _ => true
def itOk (N : Nat) : It → Bool
  | .code c => codeOk N c
  | .ops all os => all.all (opOk N) && os.all (opOk N)
  | .blk _ => true

def boolOf : V → Option Bool
  | .s (.bool b) => some b
  | _ => none
def dstOf (all : List Oper) (j : Nat) : Option Nat := (all[j]?).bind (·.dst)
def gW (τ : Tau) : Option Nat → Option Bool
  | some t => boolOf (τ t)
  | none => none
def gV (all : List Oper) (τ : Tau) (j : Nat) : Option Bool := gW τ (dstOf all j)
def gS (b : Bool) (τ : Tau) : Option Nat → Tau
  | some t => up t (.s (.bool b)) τ
  | none => τ
def gSet (all : List Oper) (j : Nat) (b : Bool) (τ : Tau) : Tau := gS b τ (dstOf all j)
theorem gSet_eq {all : List Oper} {τ : Tau} {j : Nat} {b : Bool} (h : gV all τ j = some b) : gSet all j b τ = τ := by
  unfold gV at h
  unfold gSet
  generalize dstOf all j = d at h ⊢
  cases d with
  | none => rfl
  | some t =>
    simp only [gW] at h
    unfold boolOf at h
    split at h
    · rename_i b' hb
      obtain rfl := Option.some.inj h
      funext i
      simp only [gS]
      unfold up
      split
      · rename_i e; subst e; exact hb.symm
      · rfl
    · cases h
theorem gSet_want {all : List Oper} {τ : Tau} {j : Nat} {b want : Bool} (h : gV all τ j = some b) (e : b = want) : gSet all j want τ = τ := by subst e; exact gSet_eq h
theorem gSet_not {all : List Oper} {τ : Tau} {j : Nat} {b want : Bool} (h : gV all τ j = some b) (e : ¬ b = want) : gSet all j (!want) τ = τ := by
  have : (!want) = b := by cases b <;> cases want <;> simp_all
  rw [this]; exact gSet_eq h

def undB : V → Prop
  | .tup [] => True
  | _ => False
def undW (τ : Tau) : Option Nat → Prop
  | some t => undB (τ t)
  | none => False
def gU (all : List Oper) (τ : Tau) (j : Nat) : Prop := undW τ (dstOf all j)

def bcase (b : Bool) (x y : Prop) : Prop := (b = true → x) ∧ (b = false → y)
theorem bcase_true (x y : Prop) : bcase true x y = x := by simp [bcase]
theorem bcase_false (x y : Prop) : bcase false x y = y := by simp [bcase]
def LoopThen (C : Cx) (N n0 : Nat) (Q : QT) (body : Code) (k : List It) (τ : Tau) (h : H) : Prop :=
  codeOk N body = true → k.all (itOk N) = true → WC C N n0 (.loop body) (SemK C N n0 Q k) τ h
def RangeThen (C : Cx) (N n0 : Nat) (Q : QT) (g : Operand) (ps : Array Tmp) (x y : Code) (k : List It) (τ : Tau) (h : H) : Prop :=
  ((opdOk g && ps.all (· < N)) && (codeOk N x && codeOk N y)) = true → k.all (itOk N) = true → WC C N n0 (.rangeFunc g ps x y) (SemK C N n0 Q k) τ h
def DrawThen (C : Cx) (N n0 : Nat) (Q : QT) (id : Nat) (ops : Array Oper) (k : List It) (τ : Tau) (h : H) : Prop :=
  ops.all (opOk N) = true → k.all (itOk N) = true → WC C N n0 (.region id ops true) (SemK C N n0 Q k) τ h
def CallThen (C : Cx) (N n0 : Nat) (Q : QT) (f : Nat) (args : List V) (d : Option Nat) (k : List It) (τ : Tau) (h : H) : Prop :=
  k.all (itOk N) = true → ∀ S w0 φ (a : Act) (vs : Array Value) w, RelG C φ.z → Rel S w0 φ h w → n0 ≤ h.length → RelT φ τ a → All2 (RelV φ) args vs.toList →
    CallG C.P f vs w fun e w' => ∃ r τ' φ' h', ResRel φ' r e ∧ Rel S w0 φ' h' w' ∧ ExtN S w0 n0 φ φ' ∧ n0 ≤ h'.length ∧ RelT φ' τ' a ∧ match r with
      | .ret v => SemK C N n0 Q k .normal (upo d v τ') h'
      | .pan v => SemK C N n0 Q k (.pan v) τ' h'
def CopyThen (C : Cx) (N n0 : Nat) (Q : QT) (s x : V) (t u : TypeId) (d : Option Nat) (k : List It) (τ : Tau) (h : H) : Prop :=
  k.all (itOk N) = true → CopyV C h s x t u fun v h' => SemK C N n0 Q k .normal (upo d v τ) h'
def ClearThen (C : Cx) (N n0 : Nat) (Q : QT) (s : V) (t : TypeId) (d : Option Nat) (k : List It) (τ : Tau) (h : H) : Prop :=
  k.all (itOk N) = true → ClearV C h s t fun v h' => SemK C N n0 Q k .normal (upo d v τ) h'

section
variable (C : Cx) (N n0 : Nat)
def RunK (R : List It → Tau → H → Prop) (items : List It) (d : Option Nat) (τ : Tau) : V → H → Prop := fun v h' => R items (upo d v τ) h'
def callR (Q : QT) (args : List V) (d : Option Nat) (items : List It) (τ : Tau) (h : H) : V → Prop
  | .fn f caps => CallThen C N n0 Q f (args ++ caps) d items τ h
  | _ => False
def panR (Q : QT) (τ : Tau) (h : H) : V → Prop
  | .s (.iface t v) => Q (.pan (.s (.iface t v))) τ h
  | _ => False
def copyR (Q : QT) (d : Option Nat) (items : List It) (τ : Tau) (h : H) : List V → List TypeId → Prop
  | [s, x], [t, u] => CopyThen C N n0 Q s x t u d items τ h
  | _, _ => False
def clearR (Q : QT) (d : Option Nat) (items : List It) (τ : Tau) (h : H) : List V → List TypeId → Prop
  | [s], [t] => ClearThen C N n0 Q s t d items τ h
  | _, _ => False
def appR (K : V → H → Prop) (h : H) : List V → List TypeId → Prop
  | [s, x], [t, u] => appW K h C t u s x
  | _, _ => False
def bltR (R : List It → Tau → H → Prop) (Q : QT) (d : Option Nat) (items : List It) (τ : Tau) (h : H) (xs : List V) (ts : List TypeId) : Builtin → Prop
  | .append => appR C (RunK R items d τ) h xs ts
  | .copy => copyR C N n0 Q d items τ h xs ts
  | .clear => clearR C N n0 Q d items τ h xs ts
  | b => builtinW C (RunK R items d τ) h b xs ts
def opRun (R : List It → Tau → H → Prop) (Q : QT) (items : List It) (d : Option Nat) (τ : Tau) (h : H) : Op → Prop
  | .call ⟨.builtin b, args, ts⟩ => bltR C N n0 R Q d items τ h (evs C τ args.toList) ts.toList b
  | .call ⟨.value f, args, _⟩ => callR C N n0 Q (evs C τ args.toList) d items τ h (ev C τ f)
  | .call ⟨.invoke _ _, _, _⟩ => False
  | .panic x => panR Q τ h (ev C τ x)
  | op => opW C τ h op (RunK R items d τ)
def exitK (R : List It → Tau → H → Prop) (Q : QT) (id : Nat) (τ : Tau) (h : H) : Option (List It) → Prop
  | some k' => R k' τ h
  | none => Q (.exit id) τ h
def condR (R : List It → Tau → H → Prop) (x y : Code) (k : List It) (τ : Tau) (h : H) : V → Prop
  | .s (.bool b) => bcase b (R (.code x :: k) τ h) (R (.code y :: k) τ h)
  | _ => False
def guardR (R : List It → Tau → H → Prop) (all os : List Oper) (k : List It) (d : Option Nat) (o : Oper) (j : Nat) (τ : Tau) (h : H) : Bool → Option Bool → Prop
  | true, some b => bcase b (R (.ops all (o :: os) :: k) (gSet all j true τ) h) (R (.ops all os :: k) (upo d (.tup []) (gSet all j false τ)) h)
  | false, some b => bcase b (R (.ops all os :: k) (upo d (.tup []) (gSet all j true τ)) h) (R (.ops all (o :: os) :: k) (gSet all j false τ) h)
  | _, none => gU all τ j ∧ R (.ops all os :: k) (upo d (.tup []) τ) h

def Run : Nat → QT → List It → Tau → H → Prop
  | 0, _, _, _, _ => False
  | n + 1, Q, [], τ, h => Q .normal τ h
  | n + 1, Q, .code .skip :: k, τ, h => Run n Q k τ h
  | n + 1, Q, .code (.label _) :: k, τ, h => Run n Q k τ h
  | n + 1, Q, .code (.seq a b) :: k, τ, h => Run n Q (.code a :: .code b :: k) τ h
  | n + 1, Q, .code (.block id c) :: k, τ, h => Run n Q (.code c :: .blk id :: k) τ h
  | n + 1, Q, .code (.cond c x y) :: k, τ, h => condR (Run n Q) x y k τ h (ev C τ c)
  | n + 1, Q, .code (.region id ops true) :: k, τ, h => DrawThen C N n0 Q id ops k τ h
  | n + 1, Q, .code (.region id ops false) :: k, τ, h => Run n Q (.ops ops.toList ops.toList :: k) τ h
  | n + 1, Q, .code (.loop body) :: k, τ, h => LoopThen C N n0 Q body k τ h
  | n + 1, Q, .code (.exit id) :: k, τ, h => exitK (Run n Q) Q id τ h (popTo id k)
  | n + 1, Q, .code .ret :: k, τ, h => Q .ret τ h
  | n + 1, Q, .code (.rangeFunc g ps x y) :: k, τ, h => RangeThen C N n0 Q g ps x y k τ h
  | n + 1, Q, .code _ :: k, τ, h => False
  | n + 1, Q, .blk _ :: k, τ, h => Run n Q k τ h
  | n + 1, Q, .ops all [] :: k, τ, h => Run n Q k τ h
  | n + 1, Q, .ops all (⟨d, op, _, _, _, none⟩ :: os) :: k, τ, h => opRun C N n0 (Run n Q) Q (.ops all os :: k) d τ h op
  | n + 1, Q, .ops all (⟨d, op, ty, pos, after, some (j, want)⟩ :: os) :: k, τ, h => guardR (Run n Q) all os k d ⟨d, op, ty, pos, after, none⟩ j τ h want (gV all τ j)
end

section
variable {C : Cx} {N n0 : Nat} {all os : List Oper} {o : Oper} {Q : QT} {τ : Tau} {h : H} {k : List It}

theorem not_defer {P : Program} {ρ : Operand → Value} {w w' : World} {r : Next} (hr : (execOp ρ o).run P w = .ok r w') (hn : ∀ d, r ≠ .defer d) : ∀ c, o.op ≠ .defer c := by
  intro c hc
  simp only [execOp, hc, Sem.run_bind] at hr
  cases hres : (resolve ρ c o.type).run P w with
  | ok d w1 =>
    rw [hres] at hr
    simp only [Result.andThen, Sem.run_pure] at hr
    injection hr with hr
    exact hn d hr.symm
  | halt x w1 => rw [hres] at hr; simp [Result.andThen] at hr
theorem run_semAt {P : Program} {ρ : Operand → Value} {w w' : World} {r : Next} {rd : Option Nat} (hr : (execOp ρ o).run P w = .ok r w') (hn : ∀ d, r ≠ .defer d) : (o.semAt rd ρ).run P w = .ok r w' := by
  rw [Oper.semAt_eq rd ρ o (not_defer hr hn)]; exact hr
theorem upon_did {S : Nat → Prop} {w0 w : World} {φ : Phi} {K : V → H → Prop} {a : Act} {n : Nat} {next : Act → World → Prop} {Q : Exit → Act → World → Prop} (hd : Did C.P o a w S w0 φ n K)
    (hn : ∀ φ' x h' w' v, ExtN S w0 n φ φ' → n ≤ h'.length → Rel S w0 φ' h' w' → K x h' → (RelV φ' x v ∨ x = .any) → next (a.put o.dst v) w') : o.wpIn C.fc 0 C.P a w next Q := by
  obtain ⟨φ', x, h', w', E, hl, R', hk, hr⟩ := hd
  refine ⟨fun _ _ => trivial, ?_⟩
  rcases hr with ⟨v, hr, rv⟩ | ⟨hr, rfl⟩
  · rw [run_semAt hr (by simp)]; exact hn φ' x h' w' v E hl R' hk (.inl rv)
  · rw [run_semAt hr (by simp)]; exact hn φ' .any h' w' undef E hl R' hk (.inr rfl)

theorem put_rel {φ : Phi} {a : Act} {x : V} {v : Value} (T : RelT φ τ a) (hN : a.tmps.size = N) (hd : (match o.dst with | some d => decide (d < N) | none => true) = true) (r : RelV φ x v ∨ x = .any) :
    RelT φ (upo o.dst x τ) (a.put o.dst v) ∧ (a.put o.dst v).tmps.size = N ∧ (a.put o.dst v).defers = a.defers := by
  cases hdst : o.dst with
  | none => exact ⟨T, hN, rfl⟩
  | some d =>
    rw [hdst] at hd
    simp only [decide_eq_true_eq] at hd
    refine ⟨?_, by simp [Act.put, hN], rfl⟩
    rcases r with r | rfl
    · exact T.put (by rw [hN]; exact hd) r
    · exact T.putAny

theorem upon_mono {F : Fence} {n : Nat} {P : Program} {a : Act} {K K' : Act → World → Prop} {Q Q' : Exit → Act → World → Prop} (hk : ∀ a w, K a w → K' a w) (hq : ∀ e a w, Q e a w → Q' e a w) {r : Result Next}
    (hu : o.uponIn F n P a K Q r) : o.uponIn F n P a K' Q' r := by
  have he : ∀ (e : Ending) (w'' : World), (match e, w'' with | .returned v, w'' => K (a.put o.dst v) w'' | .panicked chain, w'' => Q (.panic chain) a w'' | .outgrown, _ => LetsOut Q) →
      (match e, w'' with | .returned v, w'' => K' (a.put o.dst v) w'' | .panicked chain, w'' => Q' (.panic chain) a w'' | .outgrown, _ => LetsOut Q') := by
    intro e w'' he
    cases e with
    | returned u => exact hk _ _ he
    | panicked c => exact hq _ _ _ he
    | outgrown => obtain ⟨a, w, h⟩ := he; exact ⟨a, w, hq _ _ _ h⟩
  cases r with
  | ok n w' =>
    cases n <;> simp only [Oper.uponIn] at hu ⊢
    case value u => exact hk _ _ hu
    case skip => exact hk _ _ hu
    case defer d => exact hk _ _ hu
    case enter f args => exact ⟨hu.1, ⟨hu.2.1, fun cs hr => let ⟨e, w', fr, r, s⟩ := hu.2.2 cs hr; ⟨e, w', fr, he e w' r, s⟩⟩⟩
    case row row args => exact ⟨hu.1, RowsIn.mono hu.2 fun u w'' he => hk _ _ he⟩
    case round l f tmps assign body => exact ⟨hu.1, RoundIn.mono hu.2 he⟩
  | halt x w' =>
    cases x <;> simp only [Oper.uponIn] at hu ⊢
    case panic u => exact hq _ _ _ hu

theorem wpList_mono {F : Fence} {n : Nat} {P : Program} {ops : Array Oper} {Q Q' : Exit → Act → World → Prop} (hq : ∀ e a w, Q e a w → Q' e a w) : ∀ {l : List Oper} {a : Act} {w : World}, wpListIn F n P ops Q l a w → wpListIn F n P ops Q' l a w
  | [], a, w, h => hq _ _ _ h
  | o :: l, a, w, h => by
    unfold wpListIn at h ⊢
    split
    · rename_i hw
      rw [if_pos hw] at h
      exact ⟨h.1, upon_mono (fun a w h => wpList_mono hq h) hq h.2⟩
    · rename_i hw
      rw [if_neg hw] at h
      exact ⟨h.1, wpList_mono hq h.2⟩

theorem WO.later {S : Nat → Prop} {w0 : World} {φ φ' : Phi} {a a' : Act} {w' : World} (E : ExtN S w0 n0 φ φ') (hds : a'.defers = a.defers) (hk : WO C N n0 all os Q τ h) (G : RelG C φ'.z) (R : Rel S w0 φ' h w') (hl : n0 ≤ h.length) (T : RelT φ' τ a')
    (hN : a'.tmps.size = N) : wpListIn C.fc 0 C.P all.toArray (Post N n0 S w0 φ (C.ml, a.defers) Q) os a' w' := by
  have := hk S w0 φ' a' w' G R hl T hN
  rw [hds] at this
  exact wpList_mono (fun e a w p => p.mono E fun _ _ _ q => q) this

theorem WO.step (hg : o.guard = none) (hd : (match o.dst with | some d => decide (d < N) | none => true) = true)
    (hs : ∀ S w0 φ a w, RelG C φ.z → Rel S w0 φ h w → RelT φ τ a → Did C.P o a w S w0 φ h.length fun x h' => WO C N n0 all os Q (upo o.dst x τ) h') : WO C N n0 all (o :: os) Q τ h := by
  intro S w0 φ a w G R hn T hN
  refine wpListIn_plain hg fun K hK => ?_
  refine upon_did (hs S w0 φ a w G R T) fun φ' x h' w' v E hl R' hk r => ?_
  obtain ⟨q1, q2, q3⟩ := put_rel (o := o) (T.ext (R.ext E)) hN hd r
  exact hK _ _ (WO.later (E.mono hn) q3 hk (G.mono E.z) R' (by omega) q1 q2)

theorem WO.nil (hq : Q .normal τ h) : WO C N n0 all [] Q τ h :=
  fun S w0 φ a w G R hn T hN => ⟨.normal, τ, h, φ, rfl, R, ExtN.refl .., hn, T, hN, Dfs.refl, hq⟩

theorem guard_yields {φ : Phi} {a : Act} {j : Nat} {b : Bool} (T : RelT φ τ a) (hN : a.tmps.size = N) (hall : all.all (opOk N) = true) (hg : gV all τ j = some b) :
    yielded all.toArray a.tmps j = some b := by
  unfold gV at hg
  cases ht : dstOf all j with
  | none => rw [ht] at hg; cases hg
  | some t =>
    rw [ht] at hg
    simp only [gW] at hg
    unfold boolOf at hg
    split at hg
    · rename_i b' hb
      obtain rfl := Option.some.inj hg
      have e := T t
      rw [hb] at e
      have e := relV_bool e
      unfold dstOf at ht
      unfold yielded
      simp only [List.getElem?_toArray, ht, Option.bind_some]
      cases hj : all[j]? with
      | none => rw [hj] at ht; cases ht
      | some oj =>
        rw [hj] at ht
        simp only [Option.bind_some] at ht
        have hm := List.mem_of_getElem? hj
        have hok := List.all_eq_true.1 hall oj hm
        simp only [opOk, ht, Bool.and_eq_true, decide_eq_true_eq] at hok
        have hlt : t < a.tmps.size := by rw [hN]; exact hok.1
        rw [Array.getElem?_eq_getElem hlt]
        have : a.tmps.getD t undef = a.tmps[t] := by simp [Array.getD, hlt]
        rw [this] at e
        rw [e]
    · cases hg

theorem und_rel {φ : Phi} : RelV φ (.tup []) undef := ⟨#[], rfl, trivial⟩
theorem guard_und {φ : Phi} {a : Act} {j : Nat} (T : RelT φ τ a) (hN : a.tmps.size = N) (hall : all.all (opOk N) = true) (hu : gU all τ j) :
    yielded all.toArray a.tmps j = none := by
  unfold gU at hu
  cases ht : dstOf all j with
  | none => rw [ht] at hu; exact hu.elim
  | some t =>
    rw [ht] at hu
    simp only [undW] at hu
    unfold undB at hu
    split at hu
    · rename_i hb
      have e := T t
      rw [hb] at e
      obtain ⟨l, e, _⟩ := e
      unfold dstOf at ht
      unfold yielded
      simp only [List.getElem?_toArray, ht, Option.bind_some]
      cases hj : all[j]? with
      | none => rw [hj] at ht; cases ht
      | some oj =>
        rw [hj] at ht
        simp only [Option.bind_some] at ht
        have hm := List.mem_of_getElem? hj
        have hok := List.all_eq_true.1 hall oj hm
        simp only [opOk, ht, Bool.and_eq_true, decide_eq_true_eq] at hok
        have hlt : t < a.tmps.size := by rw [hN]; exact hok.1
        rw [Array.getElem?_eq_getElem hlt]
        have : a.tmps.getD t undef = a.tmps[t] := by simp [Array.getD, hlt]
        rw [this] at e
        rw [e]
    · exact hu.elim

theorem WO.guarded {j : Nat} {want b : Bool} (hg : o.guard = some (j, want)) (hall : all.all (opOk N) = true) (hd : (match o.dst with | some d => decide (d < N) | none => true) = true)
    (hb : gV all τ j = some b) (h1 : b = want → WO C N n0 all ({ o with guard := none } :: os) Q τ h) (h2 : ¬ b = want → WO C N n0 all os Q (upo o.dst (.tup []) τ) h) : WO C N n0 all (o :: os) Q τ h := by
  intro S w0 φ a w G R hn T hN
  have hy := guard_yields T hN hall hb
  by_cases e : b = want
  · subst e
    have := h1 rfl S w0 φ a w G R hn T hN
    unfold wpListIn at this ⊢
    rw [if_pos (by simp [Region.wanted])] at this
    rw [if_pos (by simp [Region.wanted, hg, hy])]
    exact this
  · unfold wpListIn
    rw [if_neg (by simp [Region.wanted, hg, hy, e])]
    refine ⟨fun _ _ => trivial, ?_⟩
    obtain ⟨q1, q2, q3⟩ := put_rel (o := o) (v := undef) (x := .tup []) T hN hd (.inl und_rel)
    exact WO.later (ExtN.refl ..) q3 (h2 e) G R hn q1 q2
theorem WO.passed {j : Nat} {want : Bool} (hg : o.guard = some (j, want)) (hall : all.all (opOk N) = true) (hd : (match o.dst with | some d => decide (d < N) | none => true) = true)
    (hu : gU all τ j) (h2 : WO C N n0 all os Q (upo o.dst (.tup []) τ) h) : WO C N n0 all (o :: os) Q τ h := by
  intro S w0 φ a w G R hn T hN
  have hy := guard_und T hN hall hu
  unfold wpListIn
  rw [if_neg (by simp [Region.wanted, hg, hy])]
  refine ⟨fun _ _ => trivial, ?_⟩
  obtain ⟨q1, q2, q3⟩ := put_rel (o := o) (v := undef) (x := .tup []) T hN hd (.inl und_rel)
  exact WO.later (ExtN.refl ..) q3 h2 G R hn q1 q2

theorem call_args {c : Call} {b : Builtin} (ho : o.op = .call c) (hc : c.callee = .builtin b) (hok : opOk N o = true) : c.args.toList.all opdOk = true := by
  simp only [opOk, Bool.and_eq_true, ho, Op.operands, Call.operands, hc] at hok
  rw [← Array.all_toList] at hok
  simpa using hok.2

theorem fn_caps {φ : Phi} : ∀ {caps : List V} {l : List Value}, All2 (RelP φ) caps l → All2 (RelV φ) caps l
  | [], [], _ => trivial
  | x :: xs, v :: vs, r => ⟨by
      have := r.1
      cases x with
      | fn f c =>
        simp only [RelP] at this
        exact relV_of_rz this
      | agg c => simp [RelP, RZ] at this
      | tup c => simp [RelP, RZ] at this
      | _ => exact this, fn_caps r.2⟩
  | [], _ :: _, r => r.elim
  | _ :: _, [], r => r.elim

theorem WO.call {c : Call} {fo : Operand} {f : Nat} {caps : List V} (hg : o.guard = none) (ho : o.op = .call c) (hcl : c.callee = .value fo) (hok : opOk N o = true) (hf : ev C τ fo = .fn f caps)
    (hc : ∀ S w0 φ (a : Act) (vs : Array Value) w, RelG C φ.z → Rel S w0 φ h w → n0 ≤ h.length → RelT φ τ a → All2 (RelV φ) (evs C τ c.args.toList ++ caps) vs.toList →
      CallG C.P f vs w fun e w' => ∃ r τ' φ' h', ResRel φ' r e ∧ Rel S w0 φ' h' w' ∧ ExtN S w0 n0 φ φ' ∧ n0 ≤ h'.length ∧ RelT φ' τ' a ∧ match r with
        | .ret v => WO C N n0 all os Q (upo o.dst v τ') h'
        | .pan v => Q (.pan v) τ' h') : WO C N n0 all (o :: os) Q τ h := by
  intro S w0 φ a w G R hn T hN
  simp only [opOk, Bool.and_eq_true] at hok
  obtain ⟨hd, hop⟩ := hok
  rw [ho] at hop
  simp only [Op.operands, Call.operands, hcl] at hop
  rw [← Array.all_toList] at hop
  simp only [Array.toList_append, List.all_append, Bool.and_eq_true] at hop
  have ef := ev_rel G T fo (by have := hop.1; simpa using this)
  rw [hf] at ef
  obtain ⟨cl, ef, hp⟩ := fn_rel ef
  refine wpListIn_plain hg fun K hK => ?_
  have hrun : (execOp a.eval o).run C.P w = (callFunc f (#[] ++ c.args.map a.eval ++ cl.toArray)).run C.P w := by
    simp only [execOp, ho, resolve, hcl, ef, Deferred.ofValue, Sem.run_bind, Sem.run_pure, Result.andThen_ok, invoke]
  have hargs : All2 (RelV φ) (evs C τ c.args.toList ++ caps) (#[] ++ c.args.map a.eval ++ cl.toArray).toList := by
    have h1 := evs_rel G T (xs := c.args.toList) hop.2
    simpa using h1.append (fn_caps hp)
  have hgo := hc S w0 φ a _ w G R hn T hargs
  rcases hgo with ⟨he, hcalls⟩ | ⟨v, w', hv, r, τ', φ', h', p1, p2, p3, p4, p5, p6⟩
  · have hrun2 : (execOp a.eval o).run C.P w = .ok (.enter f (#[] ++ c.args.map a.eval ++ cl.toArray)) w := by
      rw [hrun]
      unfold enters at he
      cases hfn : C.P.funcs[f]? with
      | none => rw [hfn] at he; cases he
      | some fn =>
        rw [hfn] at he
        simp only [Bool.and_eq_true, bne_iff_ne, ne_eq] at he
        have h1 : ¬ fn.name = "runtime.NumGoroutine" := he.1
        have h2 : fn.body.isNone = false := by
          cases hb : fn.body with
          | none => rw [hb] at he; exact absurd he.2 (by simp)
          | some _ => rfl
        simp only [callFunc, run_program, Sem.run_bind, Result.andThen_ok, hfn]
        simp [h1, h2]
    refine ⟨fun _ _ => trivial, ?_⟩
    rw [run_semAt hrun2 (by simp)]
    refine ⟨fun h => (by cases h), callsIn_fc.2 ?_⟩
    refine hcalls.mono fun e w' ⟨r, τ', φ', h', p1, p2, p3, p4, p5, p6⟩ => ?_
    cases r with
    | ret v =>
      obtain ⟨cv, rfl, rv⟩ := p1
      obtain ⟨q1, q2, q3⟩ := put_rel (o := o) p5 hN hd (.inl rv)
      exact hK _ _ (WO.later p3 q3 p6 (G.mono p3.z) p2 p4 q1 q2)
    | pan v =>
      obtain ⟨cv, rfl, rv⟩ := p1
      exact ⟨.pan v, τ', h', φ', ⟨cv, rfl, rv⟩, p2, p3, p4, p5, hN, Dfs.refl, p6⟩
  · refine ⟨fun _ _ => trivial, ?_⟩
    rw [run_semAt (hrun.trans hv) (by simp)]
    simp only [Oper.uponIn]
    cases r with
    | ret x =>
      obtain ⟨cv, e, rv⟩ := p1
      cases e
      obtain ⟨q1, q2, q3⟩ := put_rel (o := o) p5 hN hd (.inl rv)
      exact hK _ _ (WO.later p3 q3 p6 (G.mono p3.z) p2 p4 q1 q2)
    | pan x => obtain ⟨cv, e, rv⟩ := p1; cases e

theorem WO.panic {x : Operand} {t : TypeId} {v : Value} (hg : o.guard = none) (ho : o.op = .panic x) (hok : opOk N o = true) (hx : ev C τ x = .s (.iface t v))
    (hq : Q (.pan (.s (.iface t v))) τ h) : WO C N n0 all (o :: os) Q τ h := by
  simp only [opOk, Bool.and_eq_true, ho, Op.operands] at hok
  have hxo : opdOk x = true := by simpa using hok.2
  intro S w0 φ a w G R hn T hN
  have ex := ev_rel G T x hxo
  rw [hx] at ex
  obtain ⟨ex, -⟩ := s_rel ex
  refine wpListIn_plain hg fun K hK => ?_
  have : (o.semAt C.fc.round a.eval).run C.P w = .halt (.panic (.iface t v)) w := by rw [Oper.semAt_eq _ _ _ (by rw [ho]; intro c hc; cases hc)]; simp [execOp, ho, ex, Instr.panic]
  refine ⟨fun _ _ => trivial, ?_⟩
  rw [this]
  exact ⟨.pan _, τ, h, φ, ⟨_, rfl, mk_s rfl⟩, R, ExtN.refl .., hn, T, hN, Dfs.refl, hq⟩

theorem WO.copy {c : Call} {s x : Operand} {t u : TypeId} (hg : o.guard = none) (ho : o.op = .call c) (hc : c.callee = .builtin .copy) (hok : opOk N o = true)
    (ha : c.args.toList = [s, x]) (ht : c.argTypes.toList = [t, u]) (hv : CopyV C h (ev C τ s) (ev C τ x) t u fun v h' => WO C N n0 all os Q (upo o.dst v τ) h') : WO C N n0 all (o :: os) Q τ h := by
  have hargs := call_args ho hc hok
  rw [ha] at hargs
  simp only [List.all_cons, List.all_nil, Bool.and_true, Bool.and_eq_true] at hargs
  simp only [opOk, Bool.and_eq_true] at hok
  refine WO.step hg hok.1 fun S w0 φ a w G R T => ?_
  obtain ⟨v, w', φ', r, h', q1, q2, q3, q4, q5, q6⟩ := hv S w0 φ w (a.eval s) (a.eval x) o.type R (ev_rel G T s hargs.1) (ev_rel G T x hargs.2)
  obtain ⟨cs, hcs⟩ := exec_builtin (P := C.P) (a := a) ho hc
  refine ⟨φ', r, h', w', q3, q4, q2, q6, .inl ⟨v, ?_, q5⟩⟩
  rw [hcs, arr2 ha, arr2 ht]
  simp only [builtin, Sem.run_bind, List.map_toArray, List.map_cons, List.map_nil]
  rw [q1]; rfl
theorem WO.clear {c : Call} {s : Operand} {t : TypeId} (hg : o.guard = none) (ho : o.op = .call c) (hc : c.callee = .builtin .clear) (hok : opOk N o = true)
    (ha : c.args.toList = [s]) (ht : c.argTypes.toList = [t]) (hv : ClearV C h (ev C τ s) t fun v h' => WO C N n0 all os Q (upo o.dst v τ) h') : WO C N n0 all (o :: os) Q τ h := by
  have hargs := call_args ho hc hok
  rw [ha] at hargs
  simp only [List.all_cons, List.all_nil, Bool.and_true] at hargs
  simp only [opOk, Bool.and_eq_true] at hok
  refine WO.step hg hok.1 fun S w0 φ a w G R T => ?_
  obtain ⟨v, w', φ', r, h', q1, q2, q3, q4, q5, q6⟩ := hv S w0 φ w (a.eval s) o.type R (ev_rel G T s hargs)
  obtain ⟨cs, hcs⟩ := exec_builtin (P := C.P) (a := a) ho hc
  refine ⟨φ', r, h', w', q3, q4, q2, q6, .inl ⟨v, ?_, q5⟩⟩
  rw [hcs, arr1 ha, arr1 ht]
  simp only [builtin, Sem.run_bind, List.map_toArray, List.map_cons, List.map_nil]
  rw [q1]; rfl

end
end Go.W
/- part W15 -/
set_option linter.unusedVariables false
set_option linter.unusedSimpArgs false
namespace Go.W
open Go Go.RowKit

section
variable {C : Cx} {N n0 : Nat} {Q : QT} {τ τ' : Tau} {h h' : H} {k : List It}

theorem semK_pan {v : V} : ∀ {k : List It}, Q (.pan v) τ h → SemK C N n0 Q k (.pan v) τ h
  | [], hq => hq
  | .code _ :: k, hq => semK_pan (k := k) hq
  | .ops _ _ :: k, hq => semK_pan (k := k) hq
  | .blk _ :: k, hq => semK_pan (k := k) hq
theorem semK_ret : ∀ {k : List It}, Q .ret τ h → SemK C N n0 Q k .ret τ h
  | [], hq => hq
  | .code _ :: k, hq => semK_ret (k := k) hq
  | .ops _ _ :: k, hq => semK_ret (k := k) hq
  | .blk _ :: k, hq => semK_ret (k := k) hq
theorem semK_exit {id : Nat} : ∀ {k : List It}, (match popTo id k with | some k' => SemK C N n0 Q k' .normal τ h | none => Q (.exit id) τ h) → SemK C N n0 Q k (.exit id) τ h
  | [], hq => hq
  | .code _ :: k, hq => semK_exit (k := k) hq
  | .ops _ _ :: k, hq => semK_exit (k := k) hq
  | .blk id' :: k, hq => by
    simp only [popTo] at hq
    simp only [SemK]
    by_cases e : id = id'
    · rw [if_pos e] at hq ⊢; exact hq
    · rw [if_neg e] at hq ⊢; exact semK_exit (k := k) hq

theorem popTo_ok {id : Nat} : ∀ {k k' : List It}, popTo id k = some k' → k.all (itOk N) = true → k'.all (itOk N) = true
  | [], _, h, _ => by cases h
  | .code _ :: k, k', h, ho => by simp only [List.all_cons, Bool.and_eq_true] at ho; exact popTo_ok (k := k) h ho.2
  | .ops _ _ :: k, k', h, ho => by simp only [List.all_cons, Bool.and_eq_true] at ho; exact popTo_ok (k := k) h ho.2
  | .blk id' :: k, k', h, ho => by
    simp only [List.all_cons, Bool.and_eq_true] at ho
    simp only [popTo] at h
    split at h
    · obtain rfl := Option.some.inj h; exact ho.2
    · exact popTo_ok (k := k) h ho.2

theorem Did.mono {P : Program} {o : Oper} {a : Act} {w : World} {S : Nat → Prop} {w0 : World} {φ : Phi} {n : Nat} {K K' : V → H → Prop} (d : Did P o a w S w0 φ n K) (hk : ∀ v h, K v h → K' v h) : Did P o a w S w0 φ n K' := by
  obtain ⟨φ', x, h', w', q1, q2, q3, q4, q5⟩ := d
  exact ⟨φ', x, h', w', q1, q2, q3, hk _ _ q4, q5⟩

theorem Run_sound : ∀ (n : Nat) (Q : QT) (k : List It) (τ : Tau) (h : H), k.all (itOk N) = true → Run C N n0 n Q k τ h → SemK C N n0 Q k .normal τ h
  | 0, _, _, _, _, _, hr => by simp only [Run] at hr
  | n + 1, Q, [], τ, h, _, hr => by simp only [Run] at hr; exact hr
  | n + 1, Q, .blk id :: k, τ, h, ho, hr => by
    simp only [List.all_cons, Bool.and_eq_true] at ho
    simp only [Run] at hr
    exact Run_sound n Q k τ h ho.2 hr
  | n + 1, Q, .code c :: k, τ, h, ho, hr => by
    simp only [List.all_cons, Bool.and_eq_true, itOk] at ho
    show WC C N n0 c (SemK C N n0 Q k) τ h
    cases c with
    | skip => simp only [Run] at hr; exact fun S w0 φ a w G R hn T hN => wpV_of (wpIn_skip ⟨.normal, τ, h, φ, rfl, R, ExtN.refl .., hn, T, hN, Dfs.refl, Run_sound n Q k τ h ho.2 hr⟩)
    | label l => simp only [Run] at hr; exact fun S w0 φ a w G R hn T hN => wpV_of (wpIn_label ⟨.normal, τ, h, φ, rfl, R, ExtN.refl .., hn, T, hN, Dfs.refl, Run_sound n Q k τ h ho.2 hr⟩)
    | seq x y =>
      simp only [Run] at hr
      simp only [codeOk, Bool.and_eq_true] at ho
      have := Run_sound n Q (.code x :: .code y :: k) τ h (by simp only [List.all_cons, itOk, ho.1.1, ho.1.2, ho.2, Bool.and_self]) hr
      refine WC.seq (WC.mono this fun x τ h q => ?_)
      cases x with
      | normal => exact q
      | exit id => exact q
      | ret => exact q
      | pan v => exact q
    | block id x =>
      simp only [Run] at hr
      simp only [codeOk] at ho
      have := Run_sound n Q (.code x :: .blk id :: k) τ h (by simp only [List.all_cons, itOk, ho.1, ho.2, Bool.and_self]) hr
      refine WC.block (WC.mono this fun x τ h q => ?_)
      cases x with
      | normal => exact q
      | exit id => exact q
      | ret => exact q
      | pan v => exact q
    | cond c x y =>
      simp only [Run] at hr
      simp only [codeOk, Bool.and_eq_true] at ho
      unfold condR at hr
      split at hr
      · rename_i b hb
        exact WC.cond ho.1.1 hb
          (fun e => Run_sound n Q (.code x :: k) τ h (by simp only [List.all_cons, itOk, ho.1.2.1, ho.2, Bool.and_self]) (hr.1 e))
          (fun e => Run_sound n Q (.code y :: k) τ h (by simp only [List.all_cons, itOk, ho.1.2.2, ho.2, Bool.and_self]) (hr.2 e))
      · exact hr.elim
    | region id ops draw =>
      simp only [codeOk] at ho
      cases draw with
      | true => simp only [Run] at hr; exact hr ho.1 ho.2
      | false =>
        simp only [Run] at hr
        have hall : ops.toList.all (opOk N) = true := by rw [Array.all_toList]; exact ho.1
        exact WC.region (Run_sound n Q (.ops ops.toList ops.toList :: k) τ h (by simp only [List.all_cons, itOk, hall, ho.2, Bool.and_self]) hr)
    | loop x => simp only [Run] at hr; simp only [codeOk] at ho; exact hr ho.1 ho.2
    | exit id =>
      simp only [Run] at hr
      refine fun S w0 φ a w G R hn T hN => wpV_of (wpIn_exit ⟨.exit id, τ, h, φ, rfl, R, ExtN.refl .., hn, T, hN, Dfs.refl, semK_exit ?_⟩)
      cases hp : popTo id k with
      | none => rw [hp] at hr; exact hr
      | some k' => rw [hp] at hr; exact Run_sound n Q k' τ h (popTo_ok hp ho.2) hr
    | ret => simp only [Run] at hr; exact fun S w0 φ a w G R hn T hN => wpV_of (wpIn_ret ⟨.ret, τ, h, φ, rfl, R, ExtN.refl .., hn, T, hN, Dfs.refl, semK_ret hr⟩)
    | rangeFunc f ps x y => simp only [Run] at hr; simp only [codeOk] at ho; exact hr ho.1 ho.2
    | scope x => simp only [Run] at hr
    | goto l => simp only [Run] at hr
    | refuse s => simp only [Run] at hr
  | n + 1, Q, .ops all [] :: k, τ, h, ho, hr => by
    simp only [List.all_cons, Bool.and_eq_true] at ho
    simp only [Run] at hr
    exact WO.nil (Run_sound n Q k τ h ho.2 hr)
  | n + 1, Q, .ops all (o :: os) :: k, τ, h, ho, hr => by
    simp only [List.all_cons, Bool.and_eq_true, itOk] at ho
    obtain ⟨⟨hall, hoo, hos⟩, hk⟩ := ho
    have hd := hoo
    simp only [opOk, Bool.and_eq_true] at hd
    have rest : ∀ τ h, Run C N n0 n Q (.ops all os :: k) τ h → WO C N n0 all os (SemK C N n0 Q k) τ h := fun τ h hr =>
      Run_sound n Q (.ops all os :: k) τ h (by simp only [List.all_cons, itOk, hall, hos, hk, Bool.and_self]) hr
    have hks : (It.ops all os :: k).all (itOk N) = true := by simp only [List.all_cons, itOk, hall, hos, hk, Bool.and_self]
    show WO C N n0 all (o :: os) (SemK C N n0 Q k) τ h
    have opd : o.guard = none → opW C τ h o.op (RunK (Run C N n0 n Q) (.ops all os :: k) o.dst τ) → WO C N n0 all (o :: os) (SemK C N n0 Q k) τ h := fun hg hw =>
      WO.step hg hd.1 fun S w0 φ a w G R T => (opW_sound (by have := hd.2; rw [← Array.all_toList] at this ⊢; exact this) R G T hw).mono fun v h' q => rest _ _ q
    obtain ⟨d, op, ty, pos, after, g⟩ := o
    cases g with
    | none =>
      simp only [Run] at hr
      unfold opRun at hr
      split at hr
      · -- a builtin
        rename_i b args ts
        unfold bltR at hr
        split at hr
        · unfold appR at hr
          split at hr
          · rename_i s x t u ha ht
            obtain ⟨p, q, e3, rfl, rfl⟩ := evs_two ha
            exact WO.step rfl hd.1 fun S w0 φ a w G R T => (sem_append (c := ⟨.builtin .append, args, ts⟩) rfl rfl e3 ht (call_args rfl rfl hoo) R G T hr).mono fun v h' q => rest _ _ q
          · exact hr.elim
        · unfold copyR at hr
          split at hr
          · rename_i s x t u ha ht
            obtain ⟨p, q, e3, rfl, rfl⟩ := evs_two ha
            exact WO.copy (c := ⟨.builtin .copy, args, ts⟩) rfl rfl rfl hoo e3 ht (hr hks)
          · exact hr.elim
        · unfold clearR at hr
          split at hr
          · rename_i s t ha ht
            obtain ⟨p, e3, rfl⟩ := evs_one ha
            exact WO.clear (c := ⟨.builtin .clear, args, ts⟩) rfl rfl rfl hoo e3 ht (hr hks)
          · exact hr.elim
        · exact WO.step rfl hd.1 fun S w0 φ a w G R T => ((builtinW_sound (c := ⟨.builtin _, args, ts⟩) rfl rfl (call_args rfl rfl hoo) G T hr).did R).mono fun v h' q => rest _ _ q
      · -- a call
        rename_i f args ts
        unfold callR at hr
        split at hr
        · rename_i f' caps hf
          exact WO.call (c := ⟨.value f, args, ts⟩) rfl rfl rfl hoo hf (hr hks)
        · exact hr.elim
      · exact hr.elim
      · rename_i x
        unfold panR at hr
        split at hr
        · rename_i t v hx
          exact WO.panic rfl rfl hoo hx (semK_pan hr)
        · exact hr.elim
      · exact opd rfl hr
    | some jw =>
      obtain ⟨j, want⟩ := jw
      simp only [Run] at hr
      have hoo' : opOk N ⟨d, op, ty, pos, after, none⟩ = true := hoo
      have withOp : ∀ τ h, Run C N n0 n Q (.ops all (⟨d, op, ty, pos, after, none⟩ :: os) :: k) τ h → WO C N n0 all (⟨d, op, ty, pos, after, none⟩ :: os) (SemK C N n0 Q k) τ h := fun τ h hr =>
        Run_sound n Q (.ops all (⟨d, op, ty, pos, after, none⟩ :: os) :: k) τ h (by simp only [List.all_cons, itOk, hall, hoo', hos, hk, Bool.and_self]) hr
      unfold guardR at hr
      split at hr
      · rename_i b hb
        refine WO.guarded (b := b) (want := true) rfl hall hd.1 hb (fun e => ?_) (fun e => ?_)
        · have q := hr.1 e; rw [gSet_want hb e] at q; exact withOp _ _ q
        · have e' : b = false := by simpa using e
          have q := hr.2 e'; rw [gSet_want hb e'] at q; exact rest _ _ q
      · rename_i b hb
        refine WO.guarded (b := b) (want := false) rfl hall hd.1 hb (fun e => ?_) (fun e => ?_)
        · have q := hr.2 e; rw [gSet_want hb e] at q; exact withOp _ _ q
        · have e' : b = true := by simpa using e
          have q := hr.1 e'; rw [gSet_want hb e'] at q; exact rest _ _ q
      · exact WO.passed rfl hall hd.1 hr.1 (rest _ _ hr.2)

def notTup : V → Bool
  | .tup _ => false
  | _ => true
section
variable (C : Cx) (h : H)
def rsA (K : List V → Prop) (R : (List V → Prop) → Prop) : Option (List V) → Prop
  | some cs => cs.all cellOk = true ∧ R fun vs => K (.agg cs :: vs)
  | none => False
def rsC (K : List V → Prop) (R : (List V → Prop) → Prop) : Option V → Prop
  | some (.l _ _) => False
  | some (.lp _) => False
  | some v => notTup v = true ∧ R fun vs => K (v :: vs)
  | none => False
def rsT (K : List V → Prop) (R : (List V → Prop) → Prop) (b i o : Nat) : Option Bool → Option Nat → Prop
  | some true, some n => rsA K R (rdN (rdB (h[b]?) i) o n)
  | some false, _ => rsC K R (rdC (rdB (h[b]?) i) o)
  | _, _ => False
def rsP (K : List V → Prop) (R : (List V → Prop) → Prop) (t : TypeId) : V → Prop
  | .ptr b i o => rsT h K R b i o (tAgg C.P t) (tSz C.P t)
  | _ => False
def resW (τ : Tau) : List ResultVar → (List V → Prop) → Prop
  | [], K => K []
  | .tmp t :: rs, K => resW τ rs fun vs => K (τ t :: vs)
  | .cell a t :: rs, K => rsP C h K (resW τ rs) t (τ a)
end

def Up (n0 : Nat) (R : Res → H → Prop) : Res → H → Prop
  | .ret v, h => ∃ v' h' M, Arr n0 h h' M ∧ M v v' ∧ R (.ret v') h'
  | .pan v, h => ∃ v' h' M, Arr n0 h h' M ∧ M v v' ∧ R (.pan v') h'
theorem Up.refl {R : Res → H → Prop} {r : Res} (hr : R r h) : Up n0 R r h := by
  cases r with
  | ret v => exact ⟨v, h, _, Arr.refl n0 h, .inl rfl, hr⟩
  | pan v => exact ⟨v, h, _, Arr.refl n0 h, .inl rfl, hr⟩
def tupOf (n0 : Nat) (R : Res → H → Prop) (h : H) : List V → Prop
  | [v] => Up n0 R (.ret v) h
  | vs => vs.all notTup = true ∧ Up n0 R (.ret (.tup vs)) h
def bodyQ (C : Cx) (n0 : Nat) (fn : Func) (R : Res → H → Prop) : QT
  | .normal, τ, h => resW C h τ fn.results.toList (tupOf n0 R h)
  | .ret, τ, h => resW C h τ fn.results.toList (tupOf n0 R h)
  | .pan v, τ, h => Up n0 R (.pan v) h
  | .exit _, _, _ => False

def argsT : List V → Tau
  | [], _ => .any
  | v :: _, 0 => v
  | _ :: r, t + 1 => argsT r t

theorem argsT_get : ∀ (args : List V) (t : Nat), argsT args t = args.getD t .any
  | [], t => by simp [argsT]
  | v :: r, 0 => by simp [argsT]
  | v :: r, t + 1 => by simp only [argsT]; rw [argsT_get r t]; simp

theorem argsT_rel {φ : Phi} {args : List V} {vs : Array Value} {k : Nat} (h : All2 (RelV φ) args vs.toList) : RelT φ (argsT args) { tmps := vs ++ Array.replicate k undef, defers := [] } := by
  intro t
  have hl := h.length
  simp at hl
  rw [argsT_get, List.getD_eq_getElem?_getD]
  by_cases ht : t < args.length
  · rw [List.getElem?_eq_getElem ht]
    obtain ⟨v, h1, h2⟩ := h.get t _ (List.getElem?_eq_getElem ht)
    have : (vs ++ Array.replicate k undef).getD t undef = v := by
      rw [Array.getD_eq_getD_getElem?, Array.getElem?_append_left (by omega)]
      rw [Array.getElem?_toList] at h1
      rw [h1]; rfl
    simp only [this, Option.getD_some]; exact h2
  · rw [List.getElem?_eq_none (by omega)]; exact relV_any

theorem relQ_of_relV {φ : Phi} {x : V} {v : Value} (hn : notTup x = true) (r : RelV φ x v) : RelQ φ x v := by
  cases x with
  | tup vs => cases hn
  | _ => exact r

theorem resW_sound {S : Nat → Prop} {w0 : World} {φ : Phi} {w : World} {a : Act} (R : Rel S w0 φ h w) (T : RelT φ τ a) : ∀ (rs : List ResultVar) (K : List V → Prop), resW C h τ rs K →
    ∃ vs cs, (rs.mapM (m := Sem) fun | .tmp t => pure (a.tmps.getD t undef) | .cell p t => do loadVar t (← asAddr (a.tmps.getD p undef))).run C.P w = .ok cs w ∧ All2 (RelV φ) vs cs ∧ K vs
  | [], K, hk => ⟨[], [], rfl, trivial, hk⟩
  | .tmp t :: rs, K, hk => by
    simp only [resW] at hk
    obtain ⟨vs, cs, h1, h2, h3⟩ := resW_sound R T rs _ hk
    refine ⟨τ t :: vs, a.tmps.getD t undef :: cs, ?_, ⟨T t, h2⟩, h3⟩
    rw [List.mapM_cons]
    simp only [Sem.run_bind, Sem.run_pure, Result.andThen_ok, h1]
  | .cell p t :: rs, K, hk => by
    simp only [resW] at hk
    have ep := T p
    unfold rsP at hk
    split at hk
    · rename_i b i o e
      rw [e] at ep
      obtain ⟨k, n, hp, hv⟩ := ptr_rel ep
      obtain ⟨F, RF⟩ := R
      unfold rsT at hk
      split at hk
      · rename_i m ha hm
        unfold rsA at hk
        split at hk
        · rename_i cs' hcs
          obtain ⟨hok, hk⟩ := hk
          obtain ⟨h1, l, h2, h3, h4⟩ := RF.agg hp hcs hok
          have hl := run_loadCells_list (P := C.P) w ⟨k, i * n + o, none⟩ l (fun j v e => by rw [addr_add]; exact h4 j v e)
          obtain ⟨vs, cs, q1, q2, q3⟩ := resW_sound ⟨F, RF⟩ T rs _ hk
          refine ⟨.agg cs' :: vs, .agg l.toArray :: cs, ?_, ⟨⟨l.toArray, rfl, by simpa using h3⟩, q2⟩, q3⟩
          have hlv : (do loadVar t (← asAddr (a.tmps.getD p undef)) : Sem Value).run C.P w = .ok (.agg l.toArray) w := by
            simp only [hv, asAddr, Sem.run_bind, Sem.run_pure, Result.andThen_ok, loadVar, run_agg ha, if_true, run_sz hm, ← h2, hl]
          rw [List.mapM_cons, Sem.run_bind]
          show Result.andThen (Sem.run C.P (do loadVar t (← asAddr (a.tmps.getD p undef)) : Sem Value) w) _ = _
          rw [hlv]
          simp only [Result.andThen_ok, Sem.run_bind, q1, Sem.run_pure]
        · exact hk.elim
      · rename_i ha
        unfold rsC at hk
        split at hk
        · exact hk.elim
        · exact hk.elim
        · rename_i v hl hlp hr
          obtain ⟨hnt, hk⟩ := hk
          obtain ⟨c, q2, q3⟩ := rel_place RF hp hr (fun m e q => hl m e q) (fun cs q => hlp cs q)
          obtain ⟨vs, cs, p1, p2, p3⟩ := resW_sound ⟨F, RF⟩ T rs _ hk
          refine ⟨v :: vs, c :: cs, ?_, ⟨relV_of_relC q3, p2⟩, p3⟩
          have hlv : (do loadVar t (← asAddr (a.tmps.getD p undef)) : Sem Value).run C.P w = .ok c w := by
            simp [hv, asAddr, loadVar, run_agg ha, q2]
          rw [List.mapM_cons, Sem.run_bind]
          show Result.andThen (Sem.run C.P (do loadVar t (← asAddr (a.tmps.getD p undef)) : Sem Value) w) _ = _
          rw [hlv]
          simp only [Result.andThen_ok, Sem.run_bind, p1, Sem.run_pure]
        · exact hk.elim
      · exact hk.elim
    · exact hk.elim

theorem results_run {S : Nat → Prop} {w0 : World} {φ : Phi} {w : World} {a : Act} {fn : Func} {R : Res → H → Prop} (Rl : Rel S w0 φ h w) (T : RelT φ τ a)
    (hk : resW C h τ fn.results.toList (tupOf n0 R h)) : ∃ v r, (results fn a.tmps).run C.P w = .ok v w ∧ ResRel φ r (.returned v) ∧ Up n0 R r h := by
  obtain ⟨vs, cs, h1, h2, h3⟩ := resW_sound Rl T _ _ hk
  have hl := h2.length
  have hrun : (fn.results.mapM (m := Sem) fun | .tmp t => pure (a.tmps.getD t undef) | .cell p t => do loadVar t (← asAddr (a.tmps.getD p undef))).run C.P w = .ok cs.toArray w := by
    rw [Array.mapM_eq_mapM_toList, Sem.run_map, h1]; rfl
  have key : (results fn a.tmps).run C.P w = .ok (if hh : cs.toArray.size = 1 then cs.toArray[0] else .tuple cs.toArray) w := by
    unfold results
    rw [Sem.run_bind]
    exact (congrArg (fun r => Result.andThen r fun (vs : Array Value) w => (pure (if h : vs.size = 1 then vs[0] else .tuple vs) : Sem Value).run C.P w) hrun).trans rfl
  match vs, cs, h2, h3, hl, key with
  | [v], [c], h2, h3, _, key => exact ⟨c, .ret v, by rw [key, dif_pos (by simp)]; simp, ⟨c, rfl, h2.1⟩, h3⟩
  | [], [], h2, h3, _, key => exact ⟨.tuple #[], .ret (.tup []), by rw [key, dif_neg (by simp)], ⟨_, rfl, ⟨_, rfl, trivial⟩⟩, h3.2⟩
  | v :: v' :: vs, c :: c' :: cs, h2, h3, _, key =>
    refine ⟨.tuple (c :: c' :: cs).toArray, .ret (.tup (v :: v' :: vs)), by rw [key, dif_neg (by simp)], ⟨_, rfl, ⟨_, rfl, ?_⟩⟩, h3.2⟩
    have hq := h3.1
    have : ∀ {vs : List V} {cs : List Value}, vs.all notTup = true → All2 (RelV φ) vs cs → All2 (RelQ φ) vs cs := by
      intro vs
      induction vs with
      | nil => intro cs _ h; cases cs <;> exact h
      | cons x xs ih =>
        intro cs hn h
        cases cs with
        | nil => exact h
        | cons c cs => simp only [List.all_cons, Bool.and_eq_true] at hn; exact ⟨relQ_of_relV hn.1 h.1, ih hn.2 h.2⟩
    exact this hq h2

theorem leaves_marks {fn : Func} {tmps : Array Value} {R : Ending → World → Prop} {S : Nat → Prop} {w0 : World} {φ : Phi} {u : FrameMode} (hu : u ≠ .run) : ∀ (ms : List Deferred) (w : World), Marks w0 ms w → Rel S w0 φ h w →
    (∀ w', Rel S w0 φ h w' → LeavesIn Fence.wide 0 C.P fn tmps R [] u w') → LeavesInM Fence.wide 0 C.P fn tmps R ms u w
  | [], w, _, Rl, k => k w Rl
  | d :: ms, w, ⟨hnd, hm⟩, Rl, k => by
    obtain ⟨r, rfl, h1, h2⟩ := hm d (by simp)
    have hn := (List.nodup_cons.1 hnd)
    refine ⟨hu, .inl ⟨r, w.putObj r (.deferred none), rfl, run_takeDeferred h2, leaves_marks hu ms _ ⟨hn.2, fun d' hd' => ?_⟩ (Rl.other (grownBy_putObj' w r _) h1 (fun ⟨c, ty, q, hc⟩ => by rw [h2] at hc; cases hc)) k⟩⟩
    obtain ⟨r', rfl, q1, q2⟩ := hm d' (by simp [hd'])
    refine ⟨r', rfl, q1, ?_⟩
    rw [World.putObj_heap_other (fun e => hn.1 (by rw [← e]; exact hd'))]
    exact q2
theorem calls_of_wpV {f : Nat} {fn : Func} {c : Code} {vs : Array Value} {w : World} {R : Ending → World → Prop} (hf : C.P.funcs[f]? = some fn) (hb : fn.body = some c) (hrd : C.rd = none)
    (h : C.wpV c (bodyPostM Fence.wide 0 C.P fn R) { tmps := vs ++ Array.replicate (fn.ntmps - vs.size) undef, defers := [] } w) : Calls C.P f vs w R := by
  refine callsIn_wide (n := 0).1 ⟨trivial, fun cs hr => ?_⟩
  let b : Frame := { (default : Frame) with fn := f, kind := .normal, roundOf := none }
  have henter : Frame.enter C.P f vs .normal = b.atR { tmps := vs ++ Array.replicate (fn.ntmps - vs.size) undef, defers := [] } [.code c] := by
    simp [Frame.enter, Frame.atR, hf, hb, b]
  obtain ⟨e, a', w', hq, harr⟩ := h b [] cs hrd.symm rfl (by simp [b, hf])
  rw [← henter, Cx.fc_wide hrd] at harr
  have out : ∀ (u : FrameMode) (todo : List Item), StepsIn (Machine.fenced C.P Fence.wide) C.P (lone (Frame.enter C.P f vs .normal) cs w) (lone { b.atR a' todo with mode := u } cs w') → LeavesInM Fence.wide 0 C.P fn a'.tmps R a'.defers u w' →
      ∃ e w'' fr, R e w'' ∧ ComesIn (Machine.fenced C.P Fence.wide) C.P (lone (Frame.enter C.P f vs .normal) cs w) (lone fr cs w'') e ∧ fr.fn = f ∧ fr.leaving C.P w'' e := fun u todo hs hl => by
    obtain ⟨e', w'', fr', hR, hs', hfn, hlv⟩ := leaves_stepsInM a'.defers u w' { b.atR a' todo with mode := u } cs rfl rfl rfl hf rfl trivial hr hl
    exact ⟨e', w'', fr', hR, ComesIn.of_steps hs hs', hfn, hlv⟩
  cases e with
  | normal => exact out .returning [] (StepsIn.trans harr (.one (fenced_wide _ _) (stepR_end rfl))) hq
  | ret => obtain ⟨todo, hs⟩ := harr.1 rfl; exact out .returning todo hs hq
  | panic chain => obtain ⟨todo, hs⟩ := harr; exact out (.panicking chain) todo hs hq
  | exit id => exact hq.elim
  | goto l => exact hq.elim
  | outgrown => exact ⟨.outgrown, w', b, hq, harr.resolve_left (by simp [b]), rfl, trivial⟩
theorem calls_of_wc {f : Nat} {fn : Func} {c : Code} {args : List V} {R : Res → H → Prop} (hf : C.P.funcs[f]? = some fn) (hb : fn.body = some c) (hn : enters C.P f = true)
    (hc : codeOk fn.ntmps c = true) (hl : args.length ≤ fn.ntmps) (hsem : WC C fn.ntmps h.length c (bodyQ C h.length fn R) (argsT args) h) (hrd : C.rd = none := by rfl) : CallsV C f args h R := by
  intro S w0 φ vs w G Rl ha
  refine .inl ⟨hn, ?_⟩
  refine calls_of_wpV hf hb hrd ?_
  have hlen := ha.length
  simp at hlen
  have := hsem S w0 φ { tmps := vs ++ Array.replicate (fn.ntmps - vs.size) undef, defers := [] } w G Rl (Nat.le_refl _) (argsT_rel ha) (by simp; omega)
  refine wpV_mono this ?_
  rintro e a w' ⟨x, τ, h', φ', p1, p2, p3, p4, p5, p6, p7, p8⟩
  obtain ⟨ms, hms, hmk, -⟩ := p7
  simp only [List.append_nil] at hms
  have fin : ∀ {v : Value} {r : Res} {w'' : World}, Rel S w0 φ' h' w'' → ResRel φ' r (.returned v) → Up h.length R r h' → ∃ r φ'' h'', ResRel φ'' r (.returned v) ∧ Rel S w0 φ'' h'' w'' ∧ ExtN S w0 h.length φ φ'' ∧ h.length ≤ h''.length ∧ R r h'' := by
    intro v r w'' p2 q2 q3
    cases r with
    | ret x =>
      obtain ⟨v', h'', M, ar, hm, hR⟩ := q3
      obtain ⟨φ'', R'', e'', hn'', m''⟩ := ar S w0 φ' w'' p2 p4
      obtain ⟨cv, e, rv⟩ := q2
      exact ⟨.ret v', φ'', h'', ⟨cv, e, m'' _ _ _ hm rv⟩, R'', p3.trans e'', hn'', hR⟩
    | pan x => obtain ⟨cv, e, rv⟩ := q2; cases e
  have ends : resW C h' τ fn.results.toList (tupOf h.length R h') → LeavesInM Fence.wide 0 C.P fn a.tmps (fun e w' => ∃ r φ' h', ResRel φ' r e ∧ Rel S w0 φ' h' w' ∧ ExtN S w0 h.length φ φ' ∧ h.length ≤ h'.length ∧ R r h') a.defers .returning w' := fun q => by
    rw [hms]
    refine leaves_marks (by simp) ms w' hmk p2 fun w'' Rl'' => ?_
    obtain ⟨v, r, q1, q2, q3⟩ := results_run Rl'' p5 q
    exact ⟨v, q1, fin Rl'' q2 q3⟩
  cases x with
  | normal => simp only [XRel] at p1; subst p1; exact ends p8
  | ret => simp only [XRel] at p1; subst p1; exact ends p8
  | exit id => exact p8.elim
  | pan v =>
    obtain ⟨u, rfl, q⟩ := p1
    obtain ⟨v', h'', M, ar, hm, hR⟩ := p8
    show LeavesInM Fence.wide 0 C.P fn a.tmps _ a.defers (.panicking _) w'
    rw [hms]
    refine leaves_marks (by simp) ms w' hmk p2 fun w'' Rl'' => ?_
    obtain ⟨φ'', R'', e'', hn'', m''⟩ := ar S w0 φ' w'' Rl'' p4
    exact ⟨.pan v', φ'', h'', ⟨u, rfl, m'' _ _ _ hm q⟩, R'', p3.trans e'', hn'', hR⟩
theorem calls_of_run {f : Nat} {fn : Func} {c : Code} {args : List V} {R : Res → H → Prop} (hf : C.P.funcs[f]? = some fn) (hb : fn.body = some c) (hn : enters C.P f = true)
    (hc : codeOk fn.ntmps c = true) (hl : args.length ≤ fn.ntmps) (n : Nat) (hr : Run C fn.ntmps h.length n (bodyQ C h.length fn R) [.code c] (argsT args) h) (hrd : C.rd = none := by rfl) : CallsV C f args h R :=
  calls_of_wc hf hb hn hc hl (Run_sound n _ [.code c] (argsT args) h (by simp [itOk, hc]) hr) hrd

def loopQ (C : Cx) (N n0 m : Nat) (Q : QT) (k : List It) (I : Tau → H → Prop) : QT
  | .normal, τ, h => Goes n0 I τ h
  | .exit id, τ, h => exitK (Run C N n0 m Q) Q id τ h (popTo id k)
  | .ret, τ, h => Q .ret τ h
  | .pan v, τ, h => Q (.pan v) τ h

def callQ (C : Cx) (N n0 m : Nat) (Q : QT) (k : List It) (d : Option Nat) (τ : Tau) : Res → H → Prop
  | .ret v, h => Run C N n0 m Q k (upo d v τ) h
  | .pan v, h => Q (.pan v) τ h
theorem CallThen.of {f : Nat} {args : List V} {d : Option Nat} {R : Res → H → Prop} (m : Nat) (hc : CallsV C f args h R)
    (hr : ∀ r h', R r h' → callQ C N n0 m Q k d τ r h') : CallThen C N n0 Q f args d k τ h := by
  intro hk S w0 φ a vs w G Rl hn T ha
  refine (hc S w0 φ vs w G Rl ha).mono fun e w' ⟨r, φ', h', p1, p2, p3, p4, p5⟩ => ?_
  exact ⟨r, τ, φ', h', p1, p2, p3.mono hn, by omega, T.ext (Rl.ext p3), by
    have q := hr r h' p5
    cases r with
    | ret v => exact Run_sound m Q k _ _ hk q
    | pan v => exact semK_pan q⟩

theorem CallThen.arr {f : Nat} {args args' : List V} {d : Option Nat} {M : V → V → Prop} (ar : Arr n0 h h' M) (ha : All2 M args args') (ht : ∀ t, M (τ t) (τ' t)) (hc : CallThen C N n0 Q f args' d k τ' h') : CallThen C N n0 Q f args d k τ h := by
  intro hk S w0 φ a vs w G Rl hn T hargs
  obtain ⟨φ', R', e', hn', m'⟩ := ar S w0 φ w Rl hn
  have hargs' : All2 (RelV φ') args' vs.toList := by
    have key : ∀ {xs ys : List V} {us : List Value}, All2 M xs ys → All2 (RelV φ) xs us → All2 (RelV φ') ys us := by
      intro xs
      induction xs with
      | nil => intro ys us h1 h2; cases ys <;> cases us <;> first | trivial | exact h1.elim | exact h2.elim
      | cons x xs ih =>
        intro ys us h1 h2
        cases ys with
        | nil => exact h1.elim
        | cons y ys =>
          cases us with
          | nil => exact h2.elim
          | cons u us => exact ⟨m' _ _ _ h1.1 h2.1, ih h1.2 h2.2⟩
    exact key ha hargs
  refine (hc hk S w0 φ' a vs w (G.mono e'.z) R' hn' (fun t => m' _ _ _ (ht t) (T t)) hargs').mono fun e w' ⟨r, τ1, φ1, h1, p1, p2, p3, p4, p5, p6⟩ => ?_
  exact ⟨r, τ1, φ1, h1, p1, p2, e'.trans p3, p4, p5, p6⟩
theorem LoopThen.arr {body : Code} {M : V → V → Prop} (ar : Arr n0 h h' M) (ht : ∀ t, M (τ t) (τ' t)) (hc : LoopThen C N n0 Q body k τ' h') : LoopThen C N n0 Q body k τ h :=
  fun hb hk => WC.arr ar ht (hc hb hk)

theorem CopyThen.of {s x : V} {t u : TypeId} {d : Option Nat} {R : V → H → Prop} (m : Nat) (hc : CopyV C h s x t u R) (hr : ∀ v h', R v h' → Run C N n0 m Q k (upo d v τ) h') :
    CopyThen C N n0 Q s x t u d k τ h := by
  intro hk S w0 φ w sv xv ty R1 r1 r2
  obtain ⟨v, w', φ', r, h', q1, q2, q3, q4, q5, q6⟩ := hc S w0 φ w sv xv ty R1 r1 r2
  exact ⟨v, w', φ', r, h', q1, q2, q3, q4, q5, Run_sound m Q k _ _ hk (hr _ _ q6)⟩
end
end Go.W
/- part W16 -/
set_option linter.unusedVariables false
set_option linter.unusedSimpArgs false
namespace Go.W
open Go Go.RowKit

def rnP (r : Nat → Nat) : V → V
  | .sl b off len cap => .sl (r b) off len cap
  | .ptr b i o => .ptr (r b) i o
  | x => x
def rnC (r : Nat → Nat) : V → V
  | .fn f caps => .fn f (caps.map (rnP r))
  | x => rnP r x
def rnQ (r : Nat → Nat) : V → V
  | .agg cs => .agg (cs.map (rnC r))
  | x => rnC r x
def rnV (r : Nat → Nat) : V → V
  | .tup vs => .tup (vs.map (rnQ r))
  | x => rnQ r x
def rnB (r : Nat → Nat) (B : Blk) : Blk := ⟨B.els.map fun el => el.map (rnC r), B.n, B.cap, B.live⟩
def nm (l : List Nat) (big : Nat) (b : Nat) : Nat := (l[b]?).getD big

section
variable {S : Nat → Prop} {w0 w : World} {φ φ' : Phi} {h h' : H} {F : Nat → Fp} {n0 : Nat}

theorem all2_map {α β γ : Type} {R : γ → β → Prop} {f : α → γ} : ∀ {xs : List α} {ys : List β}, All2 R (xs.map f) ys ↔ All2 (fun x y => R (f x) y) xs ys
  | [], [] => Iff.rfl
  | [], _ :: _ => Iff.rfl
  | _ :: _, [] => Iff.rfl
  | x :: xs, y :: ys => by simp only [List.map_cons, All2, all2_map (xs := xs)]

structure Rn (r : Nat → Nat) (φ φ' : Phi) : Prop where
  m : ∀ b p, φ.m (r b) = some p → φ'.m b = some p
  z : FLe φ.z φ'.z
theorem Rn.p {r : Nat → Nat} (hr : Rn r φ φ') {x : V} {v : Value} (h : RelP φ (rnP r x) v) : RelP φ' x v := by
  cases x with
  | sl b off len cap => simp only [rnP, RelP] at *; obtain ⟨p, n, h1, h2⟩ := h; exact ⟨p, n, hr.m _ _ h1, h2⟩
  | ptr b i o => simp only [rnP, RelP] at *; obtain ⟨k, n, h1, h2⟩ := h; exact ⟨k, n, hr.m _ _ h1, h2⟩
  | _ => simp only [rnP, RelP] at *; exact RZ.mono hr.z _ _ h
theorem Rn.c {r : Nat → Nat} (hr : Rn r φ φ') {x : V} {v : Value} (h : RelC φ (rnC r x) v) : RelC φ' x v := by
  cases x with
  | fn f caps =>
    simp only [rnC, RelC] at *
    obtain ⟨l, h1, h2⟩ := h
    exact ⟨l, h1, (all2_map.1 h2).mono fun _ _ => hr.p⟩
  | s a => exact hr.p (x := .s a) (v := v) h
  | f n e => exact hr.p (x := .f n e) (v := v) h
  | l n e => exact hr.p (x := .l n e) (v := v) h
  | lp c => exact hr.p (x := .lp c) (v := v) h
  | z => exact hr.p (x := .z) (v := v) h
  | sl b o l c => exact hr.p (x := .sl b o l c) (v := v) h
  | ptr b i o => exact hr.p (x := .ptr b i o) (v := v) h
  | pd c => exact hr.p (x := .pd c) (v := v) h
  | agg c => exact hr.p (x := .agg c) (v := v) h
  | tup c => exact hr.p (x := .tup c) (v := v) h
  | any => exact hr.p (x := .any) (v := v) h
theorem Rn.q {r : Nat → Nat} (hr : Rn r φ φ') {x : V} {v : Value} (h : RelQ φ (rnQ r x) v) : RelQ φ' x v := by
  cases x with
  | agg cs =>
    simp only [rnQ, RelQ] at *
    obtain ⟨l, h1, h2⟩ := h
    exact ⟨l, h1, (all2_map.1 h2).mono fun _ _ => hr.c⟩
  | s a => exact hr.c (x := .s a) (v := v) h
  | f n e => exact hr.c (x := .f n e) (v := v) h
  | l n e => exact hr.c (x := .l n e) (v := v) h
  | lp c => exact hr.c (x := .lp c) (v := v) h
  | z => exact hr.c (x := .z) (v := v) h
  | sl b o l c => exact hr.c (x := .sl b o l c) (v := v) h
  | ptr b i o => exact hr.c (x := .ptr b i o) (v := v) h
  | pd c => exact hr.c (x := .pd c) (v := v) h
  | fn f c => exact hr.c (x := .fn f c) (v := v) h
  | tup c => exact hr.c (x := .tup c) (v := v) h
  | any => exact hr.c (x := .any) (v := v) h
theorem Rn.v {r : Nat → Nat} (hr : Rn r φ φ') {x : V} {v : Value} (h : RelV φ (rnV r x) v) : RelV φ' x v := by
  cases x with
  | tup cs =>
    simp only [rnV, RelV] at *
    obtain ⟨l, h1, h2⟩ := h
    exact ⟨l, h1, (all2_map.1 h2).mono fun _ _ => hr.q⟩
  | s a => exact hr.q (x := .s a) (v := v) h
  | f n e => exact hr.q (x := .f n e) (v := v) h
  | l n e => exact hr.q (x := .l n e) (v := v) h
  | lp c => exact hr.q (x := .lp c) (v := v) h
  | z => exact hr.q (x := .z) (v := v) h
  | sl b o l c => exact hr.q (x := .sl b o l c) (v := v) h
  | ptr b i o => exact hr.q (x := .ptr b i o) (v := v) h
  | pd c => exact hr.q (x := .pd c) (v := v) h
  | fn f c => exact hr.q (x := .fn f c) (v := v) h
  | agg c => exact hr.q (x := .agg c) (v := v) h
  | any => exact hr.q (x := .any) (v := v) h

theorem t_rn {z : Zm} {r : Nat → Nat} {x : V} {v : Value} {fp : Fp} (h : T z w (rnC r x) v fp) : T z w x v fp ∨ ∃ f caps, x = .fn f caps := by
  cases x <;> first | exact .inl h | exact .inr ⟨_, _, rfl⟩

theorem Dc.rn {r : Nat → Nat} (hr : Rn r φ φ') {x : V} {v : Value} {fp : Fp} (h : Dc φ w (rnC r x) v fp) : Dc φ' w x v fp := by
  rcases h with ⟨h, rfl⟩ | h
  · exact .inl ⟨hr.c h, rfl⟩
  · by_cases hx : ∃ f caps, x = .fn f caps
    · obtain ⟨f, caps, rfl⟩ := hx
      simp only [rnC, T] at h
      exact .inl ⟨hr.c (x := .fn f caps) (relC_of_rz h.1), h.2⟩
    · rcases t_rn h with h | h
      · exact .inr (T.mono hr.z x v fp (fun _ _ => rfl) h)
      · exact absurd h hx

theorem ls_map {R R' : V → Value → Fp → Prop} {f : V → V} (hf : ∀ x v fp, R (f x) v fp → R' x v fp) : ∀ {xs : List V} {vs : List Value} {fp : Fp}, Ls R (xs.map f) vs fp → Ls R' xs vs fp
  | [], _, _, h => h
  | x :: xs, vs, fp, h => by
    simp only [List.map_cons, Ls] at *
    obtain ⟨v, t, f1, f2, rfl, rfl, h3, h4⟩ := h
    exact ⟨v, t, f1, f2, rfl, rfl, hf _ _ _ h3, ls_map hf h4⟩
theorem lss_map {R R' : V → Value → Fp → Prop} {f : V → V} (hf : ∀ x v fp, R (f x) v fp → R' x v fp) {n : Nat} : ∀ {els : List (List V)} {vs : List Value} {fp : Fp}, Lss R n (els.map fun el => el.map f) vs fp → Lss R' n els vs fp
  | [], _, _, h => h
  | x :: xs, vs, fp, h => by
    simp only [List.map_cons, Lss] at *
    obtain ⟨h0, f1, f2, rfl, h3, h4⟩ := h
    exact ⟨by simpa using h0, f1, f2, rfl, ls_map hf h3, lss_map hf h4⟩

def gcOk (l : List Nat) (h h' : H) (n0 : Nat) : Prop :=
  l.length = h'.length ∧ l.Nodup ∧ n0 ≤ h'.length ∧ (∀ i, i < n0 → l[i]? = some i) ∧ ∀ i B', h'[i]? = some B' → B'.live = true → ∃ B, h[nm l h.length i]? = some B ∧ B = rnB (nm l h.length) B'
theorem Arr.gc {l : List Nat} (hg : gcOk l h h' n0) : Arr n0 h h' fun x x' => x' = .any ∨ x = rnV (nm l h.length) x' := by
  intro S w0 φ w ⟨F, R⟩ hn
  obtain ⟨g1, g2, g3, g4, g5⟩ := hg
  let r := nm l h.length
  let φ' : Phi := ⟨fun i => if i < h'.length then φ.m (r i) else none, φ.z⟩
  have hrm : ∀ b p, φ.m (r b) = some p → φ'.m b = some p := fun b p hb => by
    show (if b < h'.length then φ.m (r b) else none) = some p
    by_cases q : b < h'.length
    · rw [if_pos q]; exact hb
    · have : r b = h.length := by
        show (l[b]?).getD h.length = h.length
        rw [List.getElem?_eq_none (by omega)]; rfl
      rw [this, R.dom _ (Nat.le_refl _)] at hb; cases hb
  have hr : Rn r φ φ' := ⟨hrm, FLe.refl _⟩
  have live : ∀ i : Nat, Decidable (∃ B : Blk, h'[i]? = some B ∧ B.live = true) := fun i => Classical.propDecidable _
  have F'def : ∃ F' : Nat → Fp, ∀ i : Nat, ((∃ B : Blk, h'[i]? = some B ∧ B.live = true) → F' i = F (r i)) ∧ (¬ (∃ B : Blk, h'[i]? = some B ∧ B.live = true) → F' i = []) :=
    ⟨fun i => @ite _ _ (live i) (F (r i)) [], fun i => ⟨fun q => by simp [q], fun q => by simp [q]⟩⟩
  obtain ⟨F', hF'⟩ := F'def
  have sub : ∀ i k, k ∈ F' i → (∃ B : Blk, h'[i]? = some B ∧ B.live = true) ∧ k ∈ F (r i) := fun i k hk => by
    by_cases q : ∃ B : Blk, h'[i]? = some B ∧ B.live = true
    · exact ⟨q, by rw [(hF' i).1 q] at hk; exact hk⟩
    · rw [(hF' i).2 q] at hk; simp at hk
  have inj : ∀ i j, i < h'.length → j < h'.length → r i = r j → i = j := by
    intro i j hi hj e
    have hi' : i < l.length := by omega
    have hj' : j < l.length := by omega
    have e1 : r i = l[i] := by show (l[i]?).getD h.length = _; rw [List.getElem?_eq_getElem hi']; rfl
    have e2 : r j = l[j] := by show (l[j]?).getD h.length = _; rw [List.getElem?_eq_getElem hj']; rfl
    rw [e1, e2] at e
    exact (List.getElem_inj g2).1 e
  refine ⟨φ', ⟨F', R.kept, fun b hb => ?_, R.zok, fun b k o hk => R.znot _ k o (sub b k hk).2, fun b k hk => R.mine _ k (sub b k hk).2, fun b => ?_, fun b b' k hk hk' => ?_, fun b hb => ?_, fun b B' hb => ?_⟩, ⟨fun b hb => ?_, FLe.refl _, fun _ _ _ e => .inl e⟩, g3, fun x x' v hm rv => ?_⟩
  · show (if b < h'.length then φ.m (r b) else none) = none
    rw [if_neg (by omega)]
  · by_cases q : ∃ B : Blk, h'[b]? = some B ∧ B.live = true
    · rw [(hF' b).1 q]; exact R.nodup _
    · rw [(hF' b).2 q]; exact List.nodup_nil
  · obtain ⟨⟨B, q1, _⟩, q2⟩ := sub b k hk
    obtain ⟨⟨B2, q3, _⟩, q4⟩ := sub b' k hk'
    exact inj b b' (List.getElem?_eq_some_iff.1 q1).1 (List.getElem?_eq_some_iff.1 q3).1 (R.disj _ _ k q2 q4)
  · exact (hF' b).2 fun ⟨B, q, _⟩ => by have := (List.getElem?_eq_some_iff.1 q).1; omega
  · by_cases hl : B'.live = true
    · rw [(hF' b).1 ⟨B', hb, hl⟩]
      obtain ⟨B, q1, rfl⟩ := g5 b B' hb hl
      have hlt : b < h'.length := (List.getElem?_eq_some_iff.1 hb).1
      have := R.blk _ _ q1
      unfold BlkRel at this ⊢
      rw [if_pos (by exact hl)] at this
      rw [if_pos hl]
      obtain ⟨p, k1, k2, k3, k4⟩ := this
      simp only [rnB] at k1 k2 k3 k4
      refine ⟨p, by show (if b < h'.length then φ.m (r b) else none) = _; rw [if_pos hlt]; exact k1, fun el he => ?_, by simpa using k3, ?_⟩
      · have := k2 (el.map (rnC r)) (List.mem_map.2 ⟨el, he, rfl⟩); simpa using this
      · cases p with
        | none => simp only at k4 ⊢; exact ⟨by simpa using k4.1, k4.2⟩
        | some k =>
          simp only at k4 ⊢
          obtain ⟨c, ty, fq, e1, e2, e3, e4, e5⟩ := k4
          exact ⟨c, ty, fq, e1, e2, by simpa using e3, lss_map (fun x v fp => Dc.rn hr) e4, e5⟩
    · rw [(hF' b).2 fun ⟨B, q, q'⟩ => by rw [hb] at q; cases q; exact hl q']
      unfold BlkRel; rw [if_neg hl]
  · show (if b < h'.length then φ.m (r b) else none) = φ.m b
    rw [if_pos (by omega)]
    have : r b = b := by show (l[b]?).getD h.length = b; rw [g4 b hb]; rfl
    rw [this]
  · rcases hm with rfl | rfl
    · exact relV_any
    · exact hr.v rv

end
end Go.W
/- part W17 -/
set_option linter.unusedVariables false
set_option linter.unusedSimpArgs false
namespace Go.W
open Go Go.RowKit

mutual
/-- A tree of cells as memory that stays. -/
def fz : V → V
  | .l n els => .f n (fzss els)
  | .lp cs => .pd (fzs cs)
  | .s v => .s v
  | .f n els => .f n els
  | .z => .z
  | .sl b o l c => .sl b o l c
  | .ptr b i o => .ptr b i o
  | .pd cs => .pd cs
  | .fn f c => .fn f c
  | .agg c => .agg c
  | .tup c => .tup c
  | .any => .any
def fzs : List V → List V
  | [] => []
  | x :: xs => fz x :: fzs xs
def fzss : List (List V) → List (List V)
  | [] => []
  | x :: xs => fzs x :: fzss xs
end
theorem fzs_map : ∀ xs, fzs xs = xs.map fz
  | [] => rfl
  | x :: xs => by simp only [fzs, List.map_cons, fzs_map xs]
theorem fzss_map : ∀ xs, fzss xs = xs.map fun el => el.map fz
  | [] => rfl
  | x :: xs => by simp only [fzss, List.map_cons, fzs_map, fzss_map xs]

theorem fzs_len : ∀ xs, (fzs xs).length = xs.length := fun xs => by rw [fzs_map]; simp
theorem fzss_len : ∀ xs, (fzss xs).length = xs.length := fun xs => by rw [fzss_map]; simp

section
variable {z z' : Zm} {w : World}
mutual
theorem T.rz (h : FLe z z') : ∀ (x : V) (v : Value) (fp : Fp), (∀ k ∈ fp, ∀ o u, w.cell? ⟨k, o, none⟩ = some u → z' k o = some u) → T z w x v fp → RZ z' (fz x) v
  | .l n els, v, fp, hw, r => by
    simp only [T] at r
    simp only [fz, RZ, fzss_len]
    rcases r with ⟨rfl, q, rfl⟩ | ⟨k, c, ty, cap, fq, rfl, h2, h3, h4, h5, rfl, h7⟩
    · exact .inl ⟨by simp [fzss], q⟩
    · refine .inr ⟨k, 0, cap, rfl, h4, h5, Tss.rz h n els c.toList fq k 0 (fun j hj => hw j (by simp [hj])) (fun i u hu => hw k (by simp) _ _ ?_) h7⟩
      simp only [World.cell?, h2, Nat.zero_add]; simpa using hu
  | .lp cs, v, fp, hw, r => by
    simp only [T] at r
    simp only [fz, RZ]
    obtain ⟨k, c, ty, fq, rfl, h2, h3, rfl, h5⟩ := r
    refine ⟨k, 0, rfl, Ts.rz h cs c.toList fq k 0 (fun j hj => hw j (by simp [hj])) (fun i u hu => hw k (by simp) _ _ ?_) h5⟩
    simp only [World.cell?, h2, Nat.zero_add]; simpa using hu
  | .s a, v, fp, hw, r => by simp only [T, fz] at *; exact RZ.mono h _ _ r.1
  | .any, v, fp, hw, r => by simp only [fz, RZ]
  | .z, v, fp, hw, r => by simp only [T, fz] at *; exact RZ.mono h _ _ r.1
  | .f n els, v, fp, hw, r => by simp only [T, fz] at *; exact RZ.mono h _ _ r.1
  | .pd cs, v, fp, hw, r => by simp only [T, fz] at *; exact RZ.mono h _ _ r.1
  | .fn f caps, v, fp, hw, r => by simp only [T, fz] at *; exact RZ.mono h _ _ r.1
  | .sl _ _ _ _, v, fp, hw, r => by simp [T] at r
  | .ptr _ _ _, v, fp, hw, r => by simp [T] at r
  | .agg _, v, fp, hw, r => by simp [T] at r
  | .tup _, v, fp, hw, r => by simp [T] at r
theorem Ts.rz (h : FLe z z') : ∀ (xs : List V) (vs : List Value) (fp : Fp) (k off : Nat), (∀ k ∈ fp, ∀ o u, w.cell? ⟨k, o, none⟩ = some u → z' k o = some u) → (∀ (i : Nat) u, vs[i]? = some u → z' k (off + i) = some u) →
    Ts z w xs vs fp → RZs z' k off (fzs xs)
  | [], vs, fp, k, off, hw, hv, r => by simp only [fzs, RZs]
  | x :: xs, vs, fp, k, off, hw, hv, r => by
    simp only [Ts] at r
    obtain ⟨v, t, f1, f2, rfl, rfl, h3, h4⟩ := r
    simp only [fzs, RZs]
    exact ⟨⟨v, by simpa using hv 0 v rfl, T.rz h x v f1 (fun j hj => hw j (by simp [hj])) h3⟩,
      Ts.rz h xs t f2 k (off + 1) (fun j hj => hw j (by simp [hj])) (fun i u hu => by have := hv (i + 1) u (by simpa using hu); rw [← this]; congr 1; omega) h4⟩
theorem Tss.rz (h : FLe z z') (n : Nat) : ∀ (els : List (List V)) (vs : List Value) (fp : Fp) (k off : Nat), (∀ k ∈ fp, ∀ o u, w.cell? ⟨k, o, none⟩ = some u → z' k o = some u) → (∀ (i : Nat) u, vs[i]? = some u → z' k (off + i) = some u) →
    Tss z w n els vs fp → RZss z' k n off (fzss els)
  | [], vs, fp, k, off, hw, hv, r => by simp only [fzss, RZss]
  | el :: els, vs, fp, k, off, hw, hv, r => by
    simp only [Tss] at r
    obtain ⟨h0, f1, f2, rfl, h3, h4⟩ := r
    simp only [fzss, RZss]
    exact ⟨by rw [fzs_len]; exact h0, Ts.rz h el vs f1 k off (fun j hj => hw j (by simp [hj])) hv h3,
      Tss.rz h n els (vs.drop n) f2 k (off + n) (fun j hj => hw j (by simp [hj])) (fun i u hu => by rw [List.getElem?_drop] at hu; have := hv (n + i) u hu; rw [← this]; congr 1; omega) h4⟩
end
end

def frz (n0 : Nat) : Nat → H → V → V
  | _, _, .s v => .s v
  | _, _, .f n els => .f n els
  | _, _, .z => .z
  | _, _, .pd cs => .pd cs
  | _, _, .l n els => .f n (fzss els)
  | _, _, .lp cs => .pd (fzs cs)
  | k + 1, h, .sl b off len _ => if b < n0 then .any else match strideB (h[b]?), elsOf off len (h[b]?) with
    | some n, some els => .f n (els.map fun el => el.map (frz n0 k h))
    | _, _ => .any
  | k + 1, h, .ptr b i o => if b < n0 then .any else match rdB (h[b]?) i with
    | some el => .pd ((el.drop o).map (frz n0 k h))
    | none => .any
  | k + 1, h, .fn f caps => .fn f (caps.map (frz n0 k h))
  | k + 1, h, .agg cs => .agg (cs.map (frz n0 k h))
  | k + 1, h, .tup vs => .tup (vs.map (frz n0 k h))
  | _, _, _ => .any

section
variable {S : Nat → Prop} {w0 w : World} {φ : Phi} {h : H} {F : Nat → Fp}

structure AllZ (n0 : Nat) (F : Nat → Fp) (w : World) (z z' : Zm) : Prop where
  le : FLe z z'
  own : ∀ b k, n0 ≤ b → k ∈ F b → ∀ o u, w.cell? ⟨k, o, none⟩ = some u → z' k o = some u

theorem frz_cell {n0 : Nat} (R : RelF S w0 φ h w F) {z' : Zm} (hz : AllZ n0 F w φ.z z') : ∀ (d : Nat) (x : V) (v : Value), RelC φ x v → RZ z' (frz n0 d h x) v := by
  intro d
  induction d with
  | zero =>
    intro x v r
    cases x <;> simp only [frz] <;> first
      | exact RZ.mono hz.le _ _ r
      | (simp [RelC, RelP, RZ] at r; done)
      | simp only [RZ]
  | succ d ih =>
    intro x v r
    have cell : ∀ {x : V} {v : Value} {b : Nat} {f : Fp}, n0 ≤ b → Dc φ w x v f → (∀ k ∈ f, k ∈ F b) → RZ z' (frz n0 d h x) v := by
      intro x v b f hb0 hd hf
      rcases hd with ⟨hd, -⟩ | hd
      · exact ih x v hd
      · cases x with
        | l n els => have := T.rz hz.le (.l n els) v f (fun k hk => hz.own b k hb0 (hf k hk)) hd; cases d <;> simpa only [frz, fz] using this
        | lp cs => have := T.rz hz.le (.lp cs) v f (fun k hk => hz.own b k hb0 (hf k hk)) hd; cases d <;> simpa only [frz, fz] using this
        | any => cases d <;> simp only [frz, RZ]
        | sl => simp [T] at hd
        | ptr => simp [T] at hd
        | agg => simp [T] at hd
        | tup => simp [T] at hd
        | _ => simp only [T] at hd; exact ih _ v (relC_of_rz hd.1)
    cases x with
    | s a => simp only [frz]; exact RZ.mono hz.le _ _ r
    | f n els => simp only [frz]; exact RZ.mono hz.le _ _ r
    | z => simp only [frz]; exact RZ.mono hz.le _ _ r
    | pd cs => simp only [frz]; exact RZ.mono hz.le _ _ r
    | l n els => simp [RelC, RelP, RZ] at r
    | lp cs => simp [RelC, RelP, RZ] at r
    | agg cs => simp [RelC, RelP, RZ] at r
    | tup cs => simp [RelC, RelP, RZ] at r
    | any => simp only [frz, RZ]
    | fn f caps =>
      obtain ⟨l, rfl, r⟩ := r
      simp only [frz, RZ]
      refine ⟨l, rfl, rz_of_l (all2_map.2 (r.mono fun x v q => ih x v ?_))⟩
      cases x with
      | fn f c => exact relC_of_rz q
      | _ => exact q
    | ptr b i o =>
      simp only [frz]
      split
      · simp only [RZ]
      rename_i hb0
      have hb0 : n0 ≤ b := by omega
      split
      · rename_i el he
        obtain ⟨k, n, hp, rfl⟩ := r
        obtain ⟨B, c, ty, fq, f, hb, hl, hel, rfl, hc, hlen, hF, hlss, hls0⟩ := R.elem hp he
        obtain ⟨_, f', hls, hf'⟩ := hlss.nth hel
        have key : ∀ {xs : List V} {vs : List Value} {f : Fp} {off : Nat}, Ls (Dc φ w) xs vs f → (∀ k ∈ f, k ∈ F b) → (∀ (j : Nat) u, vs[j]? = some u → z' k (off + j) = some u) → RZs z' k off (xs.map (frz n0 d h)) := by
          intro xs
          induction xs with
          | nil => intro vs f off _ _ _; simp only [List.map_nil, RZs]
          | cons x xs ihx =>
            intro vs f off hls hf hv
            simp only [Ls] at hls
            obtain ⟨v, t, f1, f2, rfl, rfl, h3, h4⟩ := hls
            simp only [List.map_cons, RZs]
            exact ⟨⟨v, by simpa using hv 0 v rfl, cell hb0 h3 fun k hk => hf k (by simp [hk])⟩, ihx h4 (fun k hk => hf k (by simp [hk])) fun j u hu => by
              have := hv (j + 1) u (by simpa using hu); rw [← this]; congr 1; omega⟩
        have hall : RZs z' k (i * B.n) (el.map (frz n0 d h)) := key hls (fun k hk => by rw [hF]; exact List.mem_cons_of_mem _ (hf' k hk)) (fun j u hu => by
          rw [List.getElem?_drop] at hu
          refine hz.own b k hb0 (by rw [hF]; simp) _ _ ?_
          simp only [World.cell?, hc]; rw [← Array.getElem?_toList]; exact hu)
        simp only [RZ]
        refine ⟨k, i * B.n + o, rfl, ?_⟩
        have := hall.drop o
        rwa [List.map_drop]
      · simp only [RZ]
    | sl b off len cap =>
      simp only [frz]
      split
      · simp only [RZ]
      rename_i hb0
      have hb0 : n0 ≤ b := by omega
      split
      · rename_i n els hst hels
        obtain ⟨p, n', hp, hcl, hv⟩ := r
        unfold elsOf at hels
        split at hels
        · rename_i bels bn bcap hb
          rw [hb] at hst
          simp only [strideB, Option.some.injEq] at hst
          subst hst
          split at hels
          · rename_i hle
            obtain rfl := Option.some.inj hels
            obtain ⟨pp, g1, g2, g3, g4⟩ := R.place hb rfl
            simp only at g2 g3
            rw [hp] at g1; obtain ⟨rfl, rfl⟩ := Prod.mk.inj (Option.some.inj g1)
            have hlen : ((bels.drop off).take len).length = len := by simp; omega
            cases p with
            | none =>
              obtain ⟨⟨q, rfl⟩, rfl, rfl, rfl⟩ := hv
              simp only [RZ]
              exact .inl ⟨by simp, q, rfl⟩
            | some k =>
              simp only at hv
              subst hv
              obtain ⟨c, ty, fq, y1, y2, y3, y4, y5⟩ := g4
              simp only at y2 y3 y4
              simp only [RZ, List.length_map, hlen]
              have key : ∀ {els : List (List V)} {vs : List Value} {f : Fp} {off : Nat}, Lss (Dc φ w) n' els vs f → (∀ k ∈ f, k ∈ F b) → (∀ (j : Nat) u, vs[j]? = some u → z' k (off + j) = some u) →
                  RZss z' k n' off (els.map fun el => el.map (frz n0 d h)) := by
                intro els
                induction els with
                | nil => intro vs f off _ _ _; simp only [List.map_nil, RZss]
                | cons el els ihe =>
                  intro vs f off hl hf hv
                  simp only [Lss] at hl
                  obtain ⟨h0, f1, f2, rfl, h3, h4⟩ := hl
                  simp only [List.map_cons, RZss]
                  refine ⟨by simpa using h0, ?_, ihe h4 (fun k hk => hf k (by simp [hk])) fun j u hu => by
                    rw [List.getElem?_drop] at hu; have := hv (n' + j) u hu; rw [← this]; congr 1; omega⟩
                  have one : ∀ {xs : List V} {vs : List Value} {f : Fp} {off : Nat}, Ls (Dc φ w) xs vs f → (∀ k ∈ f, k ∈ F b) → (∀ (j : Nat) u, vs[j]? = some u → z' k (off + j) = some u) → RZs z' k off (xs.map (frz n0 d h)) := by
                    intro xs
                    induction xs with
                    | nil => intro vs f off _ _ _; simp only [List.map_nil, RZs]
                    | cons x xs ihx =>
                      intro vs f off hls hf hv
                      simp only [Ls] at hls
                      obtain ⟨v, t, f1, f2, rfl, rfl, h3, h4⟩ := hls
                      simp only [List.map_cons, RZs]
                      exact ⟨⟨v, by simpa using hv 0 v rfl, cell hb0 h3 fun k hk => hf k (by simp [hk])⟩, ihx h4 (fun k hk => hf k (by simp [hk])) fun j u hu => by
                        have := hv (j + 1) u (by simpa using hu); rw [← this]; congr 1; omega⟩
                  exact one h3 (fun k hk => hf k (by simp [hk])) hv
              have hall : RZss z' k n' 0 (bels.map fun el => el.map (frz n0 d h)) := key y4 (fun k hk => by rw [y5]; exact List.mem_cons_of_mem _ hk) (fun j u hu => by
                refine hz.own b k hb0 (by rw [y5]; simp) _ _ ?_
                simp only [World.cell?, y1, Nat.zero_add]; rw [← Array.getElem?_toList]; exact hu)
              -- what the slice may hold at all
              refine .inr ⟨k, off * n', cap, rfl, hcl, by omega, ?_⟩
              have := (hall.drop off).take len
              rw [Nat.zero_add, ← List.map_drop, ← List.map_take] at this
              exact this
          · cases hels
        · cases hels
      · simp only [RZ]

theorem frz_q {n0 : Nat} (R : RelF S w0 φ h w F) {φ' : Phi} (hz : AllZ n0 F w φ.z φ'.z) (d : Nat) {x : V} {v : Value} (r : RelQ φ x v) : RelV φ' (frz n0 d h x) v ∧ RelQ φ' (frz n0 d h x) v := by
  by_cases hx : ∃ cs, x = .agg cs
  · obtain ⟨cs, rfl⟩ := hx
    obtain ⟨l, rfl, r⟩ := r
    cases d with
    | zero => simp only [frz]; exact ⟨relV_any, by simp [RelQ, RelC, RelP, RZ]⟩
    | succ d =>
      have : All2 (RelC φ') (cs.map (frz n0 d h)) l.toList := all2_map.2 (r.mono fun x v q => relC_of_rz (frz_cell R hz d x v q))
      simp only [frz]
      exact ⟨⟨l, rfl, this⟩, ⟨l, rfl, this⟩⟩
  · have r' : RelC φ x v := by cases x <;> first | exact r | exact absurd ⟨_, rfl⟩ hx
    have := frz_cell R hz d x v r'
    have hc := relC_of_rz this
    refine ⟨relV_of_rz this, ?_⟩
    generalize frz n0 d h x = y at hc
    cases y with
    | agg c => simp [RelC, RelP, RZ] at hc
    | _ => exact hc

theorem frz_v {n0 : Nat} (R : RelF S w0 φ h w F) {φ' : Phi} (hz : AllZ n0 F w φ.z φ'.z) (d : Nat) {x : V} {v : Value} (r : RelV φ x v) : RelV φ' (frz n0 d h x) v := by
  by_cases hx : ∃ cs, x = .tup cs
  · obtain ⟨cs, rfl⟩ := hx
    obtain ⟨l, rfl, r⟩ := r
    cases d with
    | zero => simp only [frz]; exact relV_any
    | succ d =>
      simp only [frz]
      exact ⟨l, rfl, all2_map.2 (r.mono fun x v q => (frz_q R hz d q).2)⟩
  · have r' : RelQ φ x v := by cases x <;> first | exact r | exact absurd ⟨_, rfl⟩ hx
    exact (frz_q R hz d r').1

def killFrom (n0 : Nat) (h : H) : H := h.take n0 ++ (h.drop n0).map fun _ => Blk.dead
theorem Arr.frz {n0 : Nat} (d : Nat) : Arr n0 h (killFrom n0 h) fun x x' => x' = x ∨ x' = frz n0 d h x := by
  intro S w0 φ w ⟨F, R⟩ hn
  have hlen : (killFrom n0 h).length = h.length := by simp [killFrom]; omega
  have dec : ∀ k : Nat, Decidable (∃ b, n0 ≤ b ∧ k ∈ F b) := fun k => Classical.propDecidable _
  obtain ⟨z', hz1, hz2⟩ : ∃ z' : Zm, (∀ k, (∃ b, n0 ≤ b ∧ k ∈ F b) → ∀ o, z' k o = w.cell? ⟨k, o, none⟩) ∧ (∀ k, ¬ (∃ b, n0 ≤ b ∧ k ∈ F b) → ∀ o, z' k o = φ.z k o) :=
    ⟨fun k o => @ite _ _ (dec k) (w.cell? ⟨k, o, none⟩) (φ.z k o), fun k q o => by simp [q], fun k q o => by simp [q]⟩
  have hle : FLe φ.z z' := fun k o v e => by
    by_cases q : ∃ b, n0 ≤ b ∧ k ∈ F b
    · obtain ⟨b, _, hk⟩ := q; rw [R.znot b k o hk] at e; cases e
    · rw [hz2 k q]; exact e
  have hall : AllZ n0 F w φ.z z' := ⟨hle, fun b k hb hk o u hu => by rw [hz1 k ⟨b, hb, hk⟩]; exact hu⟩
  have hext : Ext φ ⟨φ.m, z'⟩ := ⟨fun _ _ h => h, hle⟩
  refine ⟨⟨φ.m, z'⟩, ⟨fun b => if b < n0 then F b else [], R.kept, fun b hb => R.dom b (by omega), fun k o v e => ?_, fun b k o hk => ?_, fun b k hk => ?_, fun b => ?_, fun b b' k hk hk' => ?_, fun b hb => ?_, fun b B hb => ?_⟩,
    ⟨fun _ _ => rfl, hle, fun k o v e => ?_⟩, by omega, fun x x' v hm r => ?_⟩
  · by_cases q : ∃ b, n0 ≤ b ∧ k ∈ F b
    · rw [← hz1 k q]; exact e
    · have e : z' k o = some v := e
      rw [hz2 k q] at e; exact R.zok k o v e
  · have hk : k ∈ (if b < n0 then F b else []) := hk
    split at hk
    · rename_i hb
      show z' k o = none
      rw [hz2 k fun ⟨b', h1, h2⟩ => by have := R.disj b b' k hk h2; omega]
      exact R.znot b k o hk
    · simp at hk
  · have hk : k ∈ (if b < n0 then F b else []) := hk
    split at hk
    · exact R.mine b k hk
    · simp at hk
  · show (if b < n0 then F b else []).Nodup
    split
    · exact R.nodup b
    · exact List.nodup_nil
  · have hk : k ∈ (if b < n0 then F b else []) := hk
    have hk' : k ∈ (if b' < n0 then F b' else []) := hk'
    split at hk
    · split at hk'
      · exact R.disj b b' k hk hk'
      · simp at hk'
    · simp at hk
  · show (if b < n0 then F b else []) = []
    split
    · omega
    · rfl
  · show BlkRel _ w b B (if b < n0 then F b else [])
    by_cases q : b < n0
    · rw [if_pos q]
      have : h[b]? = some B := by
        unfold killFrom at hb
        rw [List.getElem?_append_left (by simp; omega), List.getElem?_take, if_pos q] at hb; exact hb
      exact (R.blk b B this).keep hext fun _ _ => rfl
    · rw [if_neg q]
      unfold killFrom at hb
      rw [List.getElem?_append_right (by simp; omega)] at hb
      obtain ⟨_, _, rfl⟩ := List.mem_map.1 (List.mem_of_getElem? hb)
      unfold BlkRel; rw [if_neg (by simp [Blk.dead])]
  · by_cases q : ∃ b, n0 ≤ b ∧ k ∈ F b
    · obtain ⟨b, _, hk⟩ := q; exact .inr (R.mine b k hk).1
    · have e : z' k o = some v := e
      rw [hz2 k q] at e; exact .inl e
  · rcases hm with rfl | rfl
    · exact r.ext hext
    · exact frz_v R hall d r
end
end Go.W
/- part W18 -/
set_option linter.unusedVariables false
set_option linter.unusedSimpArgs false
namespace Go.W
open Go Go.RowKit

def leC : V → V → Prop
  | _, .any => True
  | .z, .f _ els => els = []
  | x, y => x = y
def leL : List V → List V → Prop
  | [], [] => True
  | x :: xs, y :: ys => leC x y ∧ leL xs ys
  | _, _ => False
section
variable {S : Nat → Prop} {w0 w : World} {φ φ' : Phi} {h h' : H} {F : Nat → Fp} {n0 : Nat}

def ownOf : V → Option Blk → Option V
  | .sl _ off len cap, some ⟨els, n, cap', true⟩ => if off = 0 ∧ len = els.length ∧ cap = cap' then some (.l n els) else none
  | .ptr _ i o, some ⟨[el], _, cap', true⟩ => if i = 0 ∧ o = 0 ∧ cap' = 1 then some (.lp el) else none
  | _, _ => none
def refB : V → Option Nat
  | .sl b _ _ _ => some b
  | .ptr b _ _ => some b
  | _ => none
def nr : V → Bool
  | .s _ => true
  | .f _ _ => true
  | .l _ _ => true
  | .lp _ => true
  | .z => true
  | .pd _ => true
  | _ => false
def nrs (els : List (List V)) : Bool := els.all fun el => el.all nr
def elsB : Option Blk → List (List V)
  | some B => B.els
  | none => []

def foldK (h : H) (b i o : Nat) : Option V → H
  | some x => match refB x with
    | some b1 => match ownOf x (h[b1]?) with
      | some y => if nrs (elsB (h[b1]?)) = true ∧ b1 ≠ b then (wrH h b i o [y]).set b1 Blk.dead else h
      | none => h
    | none => h
  | none => h
def foldC (h : H) (b i o : Nat) : H := foldK h b i o (rdC (rdB (h[b]?) i) o)

theorem nr_T {x : V} {v : Value} {f : Fp} (hn : nr x = true) (d : Dc φ w x v f) : T φ.z w x v f := by
  rcases d with ⟨r, rfl⟩ | d
  · cases x with
    | s a => simp only [T]; exact ⟨r, trivial⟩
    | f n e => simp only [T]; exact ⟨r, trivial⟩
    | z => simp only [T]; exact ⟨r, trivial⟩
    | pd c => simp only [T]; exact ⟨r, trivial⟩
    | l n e => simp [RelC, RelP, RZ] at r
    | lp c => simp [RelC, RelP, RZ] at r
    | _ => cases hn
  · exact d
theorem nr_ls : ∀ {xs : List V} {vs : List Value} {f : Fp}, xs.all nr = true → Ls (Dc φ w) xs vs f → Ls (T φ.z w) xs vs f
  | [], _, _, _, h => h
  | x :: xs, vs, f, hn, h => by
    simp only [List.all_cons, Bool.and_eq_true] at hn
    simp only [Ls] at *
    obtain ⟨v, t, f1, f2, e1, e2, h3, h4⟩ := h
    exact ⟨v, t, f1, f2, e1, e2, nr_T hn.1 h3, nr_ls hn.2 h4⟩
theorem nr_lss {n : Nat} : ∀ {els : List (List V)} {vs : List Value} {f : Fp}, nrs els = true → Lss (Dc φ w) n els vs f → Lss (T φ.z w) n els vs f
  | [], _, _, _, h => h
  | x :: xs, vs, f, hn, h => by
    simp only [nrs, List.all_cons, Bool.and_eq_true] at hn
    simp only [Lss] at *
    obtain ⟨h0, f1, f2, e1, h3, h4⟩ := h
    exact ⟨h0, f1, f2, e1, nr_ls hn.1 h3, nr_lss (by simpa [nrs] using hn.2) h4⟩

theorem RelF.join (R : RelF S w0 φ h w F) {b b1 k : Nat} {B' : Blk} {f1 f2 : Fp} (hb : b < h.length) (hne : b1 ≠ b) (hlt1 : b1 < h.length) (hF : F b = k :: (f1 ++ f2)) (hB : BlkRel φ w b B' (k :: (f1 ++ F b1 ++ f2))) :
    Rel S w0 φ ((h.set b B').set b1 Blk.dead) w := by
  have hnd := R.nodup b
  rw [hF] at hnd
  have mem : ∀ x, x ∈ k :: (f1 ++ F b1 ++ f2) → x ∈ F b ∨ x ∈ F b1 := fun x hx => by
    rw [hF]; simp at hx ⊢; rcases hx with q | q | q | q <;> simp [q]
  have dis : ∀ x, x ∈ F b → x ∉ F b1 := fun x h1 h2 => hne (R.disj b b1 x h1 h2).symm
  refine ⟨fun j => if j = b then k :: (f1 ++ F b1 ++ f2) else if j = b1 then [] else F j, R.kept, ?_, R.zok, ?_, ?_, ?_, ?_, ?_, ?_⟩
  · intro j hj; exact R.dom j (by simpa using hj)
  · intro j x o hx
    by_cases e : j = b
    · simp only [e, if_true] at hx
      rcases mem x hx with q | q
      · exact R.znot b x o q
      · exact R.znot b1 x o q
    · by_cases e2 : j = b1
      · simp only [e2, if_neg hne, if_true] at hx; simp at hx
      · simp only [e, e2, if_false] at hx; exact R.znot j x o hx
  · intro j x hx
    by_cases e : j = b
    · simp only [e, if_true] at hx
      rcases mem x hx with q | q
      · exact R.mine b x q
      · exact R.mine b1 x q
    · by_cases e2 : j = b1
      · simp only [e2, if_neg hne, if_true] at hx; simp at hx
      · simp only [e, e2, if_false] at hx; exact R.mine j x hx
  · intro j
    by_cases e : j = b
    · simp only [e, if_true]
      have h1 := R.nodup b1
      have hk : ∀ x ∈ F b1, x ∉ k :: (f1 ++ f2) := fun x hx hx' => dis x (by rw [hF]; exact hx') hx
      simp only [List.nodup_cons, List.nodup_append, List.mem_append] at hnd ⊢
      refine ⟨fun q => ?_, ⟨hnd.2.1, h1, fun x hx y hy e => ?_⟩, hnd.2.2.1, fun x hx y hy e => ?_⟩
      · rcases q with (q | q) | q
        · exact hnd.1 (.inl q)
        · exact hk k q (by simp)
        · exact hnd.1 (.inr q)
      · subst e; exact hk x hy (by simp [hx])
      · subst e
        rcases hx with hx | hx
        · exact hnd.2.2.2 x hx x hy rfl
        · exact hk x hx (by simp [hy])
    · by_cases e2 : j = b1
      · simp only [e2, if_neg hne, if_true]; exact List.nodup_nil
      · simp only [e, e2, if_false]; exact R.nodup j
  · intro j j' x hx hx'
    have key : ∀ j, x ∈ (if j = b then k :: (f1 ++ F b1 ++ f2) else if j = b1 then [] else F j) → (j = b ∧ (x ∈ F b ∨ x ∈ F b1)) ∨ (j ≠ b ∧ j ≠ b1 ∧ x ∈ F j) := by
      intro j hx
      by_cases e : j = b
      · simp only [e, if_true] at hx; exact .inl ⟨e, mem x hx⟩
      · by_cases e2 : j = b1
        · simp only [e2, if_neg hne, if_true] at hx; simp at hx
        · simp only [e, e2, if_false] at hx; exact .inr ⟨e, e2, hx⟩
    rcases key j hx with ⟨e, q⟩ | ⟨n1, n2, q⟩ <;> rcases key j' hx' with ⟨e', q'⟩ | ⟨n1', n2', q'⟩
    · rw [e, e']
    · rcases q with q | q
      · exact absurd (R.disj b j' x q q').symm n1'
      · exact absurd (R.disj b1 j' x q q').symm n2'
    · rcases q' with q' | q'
      · exact absurd (R.disj j b x q q') n1
      · exact absurd (R.disj j b1 x q q') n2
    · exact R.disj j j' x q q'
  · intro j hj
    simp at hj
    show (if j = b then _ else if j = b1 then _ else _) = _
    rw [if_neg (by omega), if_neg (by omega)]; exact R.out j hj
  · intro j C hC
    by_cases e2 : j = b1
    · subst e2
      simp [hlt1] at hC; subst hC
      simp only [if_neg hne, if_true]
      unfold BlkRel; rw [if_neg (by simp [Blk.dead])]
    · rw [List.getElem?_set_ne (Ne.symm e2)] at hC
      by_cases e : j = b
      · subst e
        simp [hb] at hC; subst hC
        simp only [if_true]; exact hB
      · rw [List.getElem?_set_ne (Ne.symm e)] at hC
        simp only [e, e2, if_false]; exact R.blk j C hC

theorem Arr.foldC (n0 : Nat) (h : H) (b i o : Nat) : Arr n0 h (Go.W.foldC h b i o) fun x x' => x' = x := by
  intro S w0 φ w ⟨F, R⟩ hn
  have same : Rel S w0 φ h w := ⟨F, R⟩
  have stay : Go.W.foldC h b i o = h → ∃ φ', Rel S w0 φ' (Go.W.foldC h b i o) w ∧ ExtN S w0 n0 φ φ' ∧ n0 ≤ (Go.W.foldC h b i o).length ∧ ∀ x x' v, x' = x → RelV φ x v → RelV φ' x' v := fun e => by
    rw [e]; exact ⟨φ, same, ExtN.refl .., hn, fun x x' v hm r => by subst hm; exact r⟩
  unfold Go.W.foldC at *
  cases hx : rdC (rdB (h[b]?) i) o with
  | none => rw [hx] at stay; exact stay rfl
  | some x =>
    rw [hx] at stay
    simp only [foldK] at stay ⊢
    cases hr : refB x with
    | none => rw [hr] at stay; exact stay rfl
    | some b1 =>
      rw [hr] at stay
      simp only at stay ⊢
      cases ho : ownOf x (h[b1]?) with
      | none => rw [ho] at stay; exact stay rfl
      | some y =>
        rw [ho] at stay
        simp only at stay ⊢
        split
        · rename_i hc
          obtain ⟨hnr, hne⟩ := hc
          clear stay
          obtain ⟨el, he, hxo⟩ := rdC_some hx
          obtain ⟨B, hb, hl, hel⟩ := rdB_some he
          obtain ⟨p, g1, g2, g3, g4⟩ := R.place hb hl
          have hlt : b < h.length := (List.getElem?_eq_some_iff.1 hb).1
          have hol : o < el.length := (List.getElem?_eq_some_iff.1 hxo).1
          cases p with
          | none => rw [g4.1] at hel; simp at hel
          | some k =>
            obtain ⟨c, ty, fq, y1, y2, y3, y4, y5⟩ := g4
            obtain ⟨f1, f, f2, x0, v, rfl, e3, hv, hd, hset⟩ := y4.set hel hol
            rw [hxo] at e3; cases e3
            have hxc : RelC φ x v ∧ f = [] := hd.rel (fun n e q => by subst q; cases hr) (fun cs q => by subst q; cases hr)
            obtain ⟨hxc, rfl⟩ := hxc
            -- the other block
            have hB1 : ∃ B1, h[b1]? = some B1 ∧ B1.live = true ∧ Dc φ w y v (F b1) := by
              unfold ownOf at ho
              split at ho
              · rename_i b2 off len cap els n cap' hb1
                simp only [refB, Option.some.injEq] at hr
                subst hr
                split at ho
                · rename_i hq
                  obtain ⟨rfl, rfl, rfl⟩ := hq
                  obtain rfl := Option.some.inj ho
                  refine ⟨_, hb1, rfl, ?_⟩
                  obtain ⟨p, n', q1, q2, q3⟩ := hxc
                  obtain ⟨p1, k1, k2, k3, k4⟩ := R.place hb1 rfl
                  simp only at k1 k2 k3 k4
                  rw [q1] at k1; obtain ⟨rfl, rfl⟩ := Prod.mk.inj (Option.some.inj k1)
                  right
                  simp only [T]
                  rw [hb1] at hnr
                  cases p with
                  | none => obtain ⟨⟨q, rfl⟩, _⟩ := q3; exact .inl ⟨k4.1, ⟨q, rfl⟩, k4.2.2⟩
                  | some k' =>
                    simp only [Nat.zero_mul] at q3
                    subst q3
                    obtain ⟨c1, ty1, fq1, z1, z2, z3, z4, z5⟩ := k4
                    exact .inr ⟨k', c1, ty1, _, fq1, rfl, z1, z2, z3, k3, z5, tss_lss.2 (nr_lss hnr z4)⟩
                · cases ho
              · rename_i b2 i2 o2 el1 n1 cap' hb1
                simp only [refB, Option.some.injEq] at hr
                subst hr
                split at ho
                · rename_i hq
                  obtain ⟨rfl, rfl, rfl⟩ := hq
                  obtain rfl := Option.some.inj ho
                  refine ⟨_, hb1, rfl, ?_⟩
                  obtain ⟨k', n', q1, rfl⟩ := hxc
                  obtain ⟨p1, k1, k2, k3, k4⟩ := R.place hb1 rfl
                  simp only at k1 k2 k3 k4
                  rw [q1] at k1; obtain ⟨rfl, rfl⟩ := Prod.mk.inj (Option.some.inj k1)
                  right
                  simp only [T]
                  rw [hb1] at hnr
                  obtain ⟨c1, ty1, fq1, z1, z2, z3, z4, z5⟩ := k4
                  have hel1 := k2 el1 (by simp)
                  have := nr_lss (els := [el1]) hnr z4
                  simp only [Lss] at this
                  obtain ⟨_, fa, fb, rfl, q2, q3⟩ := this
                  subst q3
                  simp only [List.append_nil] at z5
                  exact ⟨k', c1, ty1, fa, by simp, z1, by rw [z2]; simp [hel1], z5, ts_ls.2 q2⟩
                · cases ho
              · cases ho
            obtain ⟨B1, hb1, hl1, hdy⟩ := hB1
            have hlt1 : b1 < h.length := (List.getElem?_eq_some_iff.1 hb1).1
            refine ⟨φ, ?_, ExtN.refl .., by simp [wrH]; omega, fun x x' v hm r => by subst hm; exact r⟩
            unfold wrH
            rw [wrB_at hb hel]
            refine R.join (f1 := f1) (f2 := f2) hlt hne hlt1 (by simpa using y5) ?_
            unfold BlkRel
            rw [if_pos (by exact hl)]
            refine ⟨some k, g1, ?_, by simpa using g3, c, ty, f1 ++ F b1 ++ f2, y1, y2, by simpa using y3, ?_, rfl⟩
            · intro e' he'
              simp only at he'
              rcases List.mem_or_eq_of_mem_set he' with q | q
              · exact g2 e' q
              · subst q; simp only [wrL, List.length_set]; exact g2 el (List.mem_of_getElem? hel)
            · simp only [wrL]
              have := hset (Dc φ w) (fun _ _ _ _ d => d) y v (F b1) hdy
              rw [set_same hv] at this
              exact this
        · rename_i hc
          rw [if_neg hc] at stay; exact stay rfl

def folds (h : H) : List (Nat × Nat × Nat) → H
  | [] => h
  | (b, i, o) :: r => folds (foldC h b i o) r
theorem Arr.folds (n0 : Nat) : ∀ (l : List (Nat × Nat × Nat)) (h : H), Arr n0 h (Go.W.folds h l) fun x x' => x' = x
  | [], h => (Arr.refl n0 h).mono fun x x' e => .inl e
  | (b, i, o) :: r, h => ((Arr.foldC n0 h b i o).trans (Arr.folds n0 r (Go.W.foldC h b i o))).mono fun x x' e => ⟨x, rfl, e⟩

end
end Go.W
/- part W19 -/
set_option linter.unusedVariables false
set_option linter.unusedSimpArgs false
namespace Go.W
open Go Go.RowKit

section
variable {S : Nat → Prop} {w0 w : World} {φ φ' : Phi} {h h' : H} {F : Nat → Fp} {n0 : Nat}
structure Rf (r : Nat → Nat) (φ φ' : Phi) : Prop where
  m : ∀ b p, φ.m b = some p → φ'.m (r b) = some p
  z : FLe φ.z φ'.z
theorem Rf.p {r : Nat → Nat} (hr : Rf r φ φ') {x : V} {v : Value} (h : RelP φ x v) : RelP φ' (rnP r x) v := by
  cases x with
  | sl b off len cap => simp only [rnP, RelP] at *; obtain ⟨p, n, h1, h2⟩ := h; exact ⟨p, n, hr.m _ _ h1, h2⟩
  | ptr b i o => simp only [rnP, RelP] at *; obtain ⟨k, n, h1, h2⟩ := h; exact ⟨k, n, hr.m _ _ h1, h2⟩
  | _ => simp only [rnP, RelP] at *; exact RZ.mono hr.z _ _ h
theorem all2_to {α β γ : Type} {R : α → β → Prop} {R' : γ → β → Prop} {f : α → γ} (h : ∀ x y, R x y → R' (f x) y) {xs : List α} {ys : List β} (a : All2 R xs ys) : All2 R' (xs.map f) ys :=
  all2_map.2 (a.mono h)
theorem Rf.c {r : Nat → Nat} (hr : Rf r φ φ') {x : V} {v : Value} (h : RelC φ x v) : RelC φ' (rnC r x) v := by
  cases x with
  | fn f caps =>
    simp only [rnC, RelC] at *
    obtain ⟨l, h1, h2⟩ := h
    exact ⟨l, h1, all2_to (f := rnP r) (fun _ _ => hr.p) h2⟩
  | s a => exact hr.p (x := .s a) (v := v) h
  | f n e => exact hr.p (x := .f n e) (v := v) h
  | l n e => exact hr.p (x := .l n e) (v := v) h
  | lp c => exact hr.p (x := .lp c) (v := v) h
  | z => exact hr.p (x := .z) (v := v) h
  | sl b o l c => exact hr.p (x := .sl b o l c) (v := v) h
  | ptr b i o => exact hr.p (x := .ptr b i o) (v := v) h
  | pd c => exact hr.p (x := .pd c) (v := v) h
  | agg c => exact hr.p (x := .agg c) (v := v) h
  | tup c => exact hr.p (x := .tup c) (v := v) h
  | any => exact hr.p (x := .any) (v := v) h
theorem Rf.q {r : Nat → Nat} (hr : Rf r φ φ') {x : V} {v : Value} (h : RelQ φ x v) : RelQ φ' (rnQ r x) v := by
  cases x with
  | agg cs =>
    simp only [rnQ, RelQ] at *
    obtain ⟨l, h1, h2⟩ := h
    exact ⟨l, h1, all2_to (f := rnC r) (fun _ _ => hr.c) h2⟩
  | s a => exact hr.c (x := .s a) (v := v) h
  | f n e => exact hr.c (x := .f n e) (v := v) h
  | l n e => exact hr.c (x := .l n e) (v := v) h
  | lp c => exact hr.c (x := .lp c) (v := v) h
  | z => exact hr.c (x := .z) (v := v) h
  | sl b o l c => exact hr.c (x := .sl b o l c) (v := v) h
  | ptr b i o => exact hr.c (x := .ptr b i o) (v := v) h
  | pd c => exact hr.c (x := .pd c) (v := v) h
  | fn f c => exact hr.c (x := .fn f c) (v := v) h
  | tup c => exact hr.c (x := .tup c) (v := v) h
  | any => exact hr.c (x := .any) (v := v) h
theorem Rf.v {r : Nat → Nat} (hr : Rf r φ φ') {x : V} {v : Value} (h : RelV φ x v) : RelV φ' (rnV r x) v := by
  cases x with
  | tup cs =>
    simp only [rnV, RelV] at *
    obtain ⟨l, h1, h2⟩ := h
    exact ⟨l, h1, all2_to (f := rnQ r) (fun _ _ => hr.q) h2⟩
  | s a => exact hr.q (x := .s a) (v := v) h
  | f n e => exact hr.q (x := .f n e) (v := v) h
  | l n e => exact hr.q (x := .l n e) (v := v) h
  | lp c => exact hr.q (x := .lp c) (v := v) h
  | z => exact hr.q (x := .z) (v := v) h
  | sl b o l c => exact hr.q (x := .sl b o l c) (v := v) h
  | ptr b i o => exact hr.q (x := .ptr b i o) (v := v) h
  | pd c => exact hr.q (x := .pd c) (v := v) h
  | fn f c => exact hr.q (x := .fn f c) (v := v) h
  | agg c => exact hr.q (x := .agg c) (v := v) h
  | any => exact hr.q (x := .any) (v := v) h
theorem Dc.rf {r : Nat → Nat} (hr : Rf r φ φ') {x : V} {v : Value} {fp : Fp} (h : Dc φ w x v fp) : Dc φ' w (rnC r x) v fp := by
  rcases h with ⟨h, rfl⟩ | h
  · exact .inl ⟨hr.c h, rfl⟩
  · cases x with
    | fn f caps => simp only [T] at h; exact .inl ⟨hr.c (x := .fn f caps) (relC_of_rz h.1), h.2⟩
    | sl b o l c => simp [T, RZ] at h
    | ptr b i o => simp [T, RZ] at h
    | _ => exact .inr (T.mono hr.z _ v fp (fun _ _ => rfl) h)
theorem ls_to {R R' : V → Value → Fp → Prop} {f : V → V} (hf : ∀ x v fp, R x v fp → R' (f x) v fp) : ∀ {xs : List V} {vs : List Value} {fp : Fp}, Ls R xs vs fp → Ls R' (xs.map f) vs fp
  | [], _, _, h => h
  | x :: xs, vs, fp, h => by
    simp only [List.map_cons, Ls] at *
    obtain ⟨v, t, f1, f2, rfl, rfl, h3, h4⟩ := h
    exact ⟨v, t, f1, f2, rfl, rfl, hf _ _ _ h3, ls_to hf h4⟩
theorem lss_to {R R' : V → Value → Fp → Prop} {f : V → V} (hf : ∀ x v fp, R x v fp → R' (f x) v fp) {n : Nat} : ∀ {els : List (List V)} {vs : List Value} {fp : Fp}, Lss R n els vs fp → Lss R' n (els.map fun el => el.map f) vs fp
  | [], _, _, h => h
  | x :: xs, vs, fp, h => by
    simp only [List.map_cons, Lss] at *
    obtain ⟨h0, f1, f2, rfl, h3, h4⟩ := h
    exact ⟨by simpa using h0, f1, f2, rfl, ls_to hf h3, lss_to hf h4⟩
theorem BlkRel.rf {r : Nat → Nat} (hr : Rf r φ φ') {b : Nat} {B : Blk} {fp : Fp} (h : BlkRel φ w b B fp) : BlkRel φ' w (r b) (rnB r B) fp := by
  unfold BlkRel at *
  by_cases hl : B.live = true
  · rw [if_pos hl] at h
    rw [if_pos (by exact hl)]
    obtain ⟨p, k1, k2, k3, k4⟩ := h
    refine ⟨p, hr.m _ _ k1, fun el he => ?_, by simpa [rnB] using k3, ?_⟩
    · obtain ⟨e, h1, rfl⟩ := List.mem_map.1 he
      simpa [rnB] using k2 e h1
    · cases p with
      | none => exact ⟨by simp [rnB, k4.1], k4.2⟩
      | some k =>
        obtain ⟨c, ty, fq, e1, e2, e3, e4, e5⟩ := k4
        exact ⟨c, ty, fq, e1, e2, by simpa [rnB] using e3, lss_to (f := rnC r) (fun x v fp => Dc.rf hr) e4, e5⟩
  · rw [if_neg hl] at h
    rw [if_neg (by exact hl)]; exact h
theorem BlkRel.rn {r : Nat → Nat} (hr : Rn r φ φ') {b : Nat} {B : Blk} {fp : Fp} (h : BlkRel φ w (r b) (rnB r B) fp) : BlkRel φ' w b B fp := by
  unfold BlkRel at *
  by_cases hl : B.live = true
  · rw [if_pos (by exact hl)] at h
    rw [if_pos hl]
    obtain ⟨p, k1, k2, k3, k4⟩ := h
    simp only [rnB] at k1 k2 k3 k4
    refine ⟨p, hr.m _ _ k1, fun el he => ?_, by simpa using k3, ?_⟩
    · have := k2 (el.map (rnC r)) (List.mem_map.2 ⟨el, he, rfl⟩); simpa using this
    · cases p with
      | none => exact ⟨by simpa using k4.1, k4.2⟩
      | some k =>
        obtain ⟨c, ty, fq, e1, e2, e3, e4, e5⟩ := k4
        exact ⟨c, ty, fq, e1, e2, by simpa using e3, lss_map (fun x v fp => Dc.rn hr) e4, e5⟩
  · rw [if_neg (by exact hl)] at h
    rw [if_neg hl]; exact h
end

def emb (l : List Nat) (L : Nat) (b : Nat) : Nat := (l[b]?).getD (L + (b - l.length))
def setAll : H → List Nat → H → H
  | H, [], h => H ++ h
  | H, i :: l, B :: h => setAll (H.set i B) l h
  | H, _ :: _, [] => H
def rnRes (r : Nat → Nat) : Res → Res
  | .ret v => .ret (rnV r v)
  | .pan v => .pan (rnV r v)

theorem setAll_spec : ∀ (l : List Nat) (H h : Go.W.H), l.length ≤ h.length → l.Nodup → (∀ b ∈ l, b < H.length) →
    (setAll H l h).length = H.length + (h.length - l.length) ∧ (∀ i b : Nat, l[i]? = some b → (setAll H l h)[b]? = h[i]?) ∧ (∀ b : Nat, b < H.length → b ∉ l → (setAll H l h)[b]? = H[b]?) ∧ (∀ j : Nat, (setAll H l h)[H.length + j]? = h[l.length + j]?)
  | [], H, h, _, _, _ => by
    refine ⟨by simp [setAll], fun i b e => by simp at e, fun b hb _ => by simp [setAll, List.getElem?_append_left hb], fun j => ?_⟩
    simp only [setAll]; rw [List.getElem?_append_right (by omega)]; congr 1; simp
  | b0 :: l, H, [], hl, _, _ => by simp at hl
  | b0 :: l, H, B :: h, hl, hn, hb => by
    simp only [List.nodup_cons] at hn
    have hl' : l.length ≤ h.length := by simpa using hl
    obtain ⟨h1, h2, h3, h4⟩ := setAll_spec l (H.set b0 B) h hl' hn.2 (fun b hb' => by simpa using hb b (by simp [hb']))
    have hb0 := hb b0 (by simp)
    simp only [setAll]
    refine ⟨by simp at h1 ⊢; omega, fun i b e => ?_, fun b hbl hbn => ?_, fun j => ?_⟩
    · cases i with
      | zero =>
        simp at e; subst e
        rw [h3 b0 (by simpa using hb0) hn.1]; simp [hb0]
      | succ i =>
        simp at e ⊢
        exact h2 i b e
    · simp at hbn
      rw [h3 b (by simpa using hbl) hbn.2, List.getElem?_set_ne (Ne.symm hbn.1)]
    · have := h4 j
      simp only [List.length_set] at this
      rw [this, show (b0 :: l).length + j = (l.length + j) + 1 by simp; omega]; rfl

theorem CallsV.frame {C : Cx} {f : Nat} {args : List V} {h0 : H} {R : Res → H → Prop} (c : CallsV C f args h0 R) (l : List Nat) (H : H) (hl : l.length = h0.length) (hn : l.Nodup)
    (hb : ∀ (i : Nat) B, h0[i]? = some B → ∃ b : Nat, l[i]? = some b ∧ H[b]? = some (rnB (emb l H.length) B)) :
    CallsV C f (args.map (rnV (emb l H.length))) H fun res h' => ∃ r h1, R r h1 ∧ res = rnRes (emb l H.length) r ∧ h' = setAll H l (h1.map (rnB (emb l H.length))) := by
  intro S w0 φ vs w G ⟨F, RF⟩ ha
  have hlt : ∀ i b : Nat, l[i]? = some b → b < H.length := fun i b e => by
    have : i < h0.length := by have := (List.getElem?_eq_some_iff.1 e).1; omega
    obtain ⟨b', q1, q2⟩ := hb i _ (List.getElem?_eq_getElem this)
    rw [e] at q1; cases q1
    exact (List.getElem?_eq_some_iff.1 q2).1
  have hmem : ∀ b ∈ l, b < H.length := fun b hb' => by obtain ⟨i, hi, e⟩ := List.mem_iff_getElem.1 hb'; exact hlt i b (by rw [List.getElem?_eq_getElem hi, e])
  have hemb : ∀ i b : Nat, l[i]? = some b → emb l H.length i = b := fun i b e => by unfold emb; rw [e]; rfl
  have hinj : ∀ i j b : Nat, l[i]? = some b → l[j]? = some b → i = j := fun i j b e1 e2 => by
    obtain ⟨i1, e1⟩ := List.getElem?_eq_some_iff.1 e1
    obtain ⟨j1, e2⟩ := List.getElem?_eq_some_iff.1 e2
    exact (List.getElem_inj hn).1 (e1.trans e2.symm)
  -- the callee's view
  let φ0 : Phi := ⟨fun i => match l[i]? with | some b => φ.m b | none => none, φ.z⟩
  let F0 : Nat → Fp := fun i => match l[i]? with | some b => F b | none => []
  let S0 : Nat → Prop := fun k => ∃ i, k ∈ F0 i
  have hF0 : ∀ (i k : Nat), k ∈ F0 i → ∃ b : Nat, l[i]? = some b ∧ k ∈ F b := fun i k hk => by
    simp only [F0] at hk
    split at hk
    · rename_i b e; exact ⟨b, e, hk⟩
    · simp at hk
  have hrn : Rn (emb l H.length) φ φ0 := ⟨fun i p e => (by
    show (match l[i]? with | some b => φ.m b | none => none) = some p
    unfold emb at e
    cases hi : l[i]? with
    | some b => rw [hi] at e; exact e
    | none => rw [hi] at e; simp only [Option.getD_none] at e; rw [RF.dom _ (by omega)] at e; exact absurd e (by simp)), FLe.refl _⟩
  have hS0 : ∀ k, S0 k → Mine S w0 k ∧ k < w.heap.size := fun k ⟨i, hk⟩ => by
    obtain ⟨b, _, hk⟩ := hF0 i k hk
    exact RF.mine b k hk
  have R0 : RelF S0 w φ0 h0 w F0 := by
    refine ⟨Kept.refl _ _, fun i hi => ?_, RF.zok, fun i k o hk => ?_, fun i k hk => ?_, fun i => ?_, fun i j k hk hk' => ?_, fun i hi => ?_, fun i B hB => ?_⟩
    · show (match l[i]? with | some b => φ.m b | none => none) = none
      rw [List.getElem?_eq_none (by omega)]
    · obtain ⟨b, _, hk⟩ := hF0 i k hk; exact RF.znot b k o hk
    · obtain ⟨b, _, hk'⟩ := hF0 i k hk; exact ⟨.inl ⟨i, hk⟩, (RF.mine b k hk').2⟩
    · simp only [F0]; split
      · exact RF.nodup _
      · exact List.nodup_nil
    · obtain ⟨b, e1, q1⟩ := hF0 i k hk
      obtain ⟨b', e2, q2⟩ := hF0 j k hk'
      have := RF.disj b b' k q1 q2
      subst this
      exact hinj i j b e1 e2
    · simp only [F0]; rw [List.getElem?_eq_none (by omega)]
    · obtain ⟨b, e1, e2⟩ := hb i B hB
      have h1 := RF.blk b _ e2
      have : F0 i = F b := by simp only [F0, e1]
      rw [this]
      exact BlkRel.rn hrn (by rw [hemb i b e1]; exact h1)
  have hargs : All2 (RelV φ0) args vs.toList := (all2_map.1 ha).mono fun _ _ => hrn.v
  refine (c S0 w φ0 vs w G ⟨F0, R0⟩ hargs).mono fun e w1 ⟨r, φ1, h1, p1, ⟨F1, R1⟩, p3, p4, p5⟩ => ?_
  -- back
  have hL : l.length ≤ h1.length := by omega
  let ρ := emb l H.length
  let φ2 : Phi := ⟨fun b => if b < H.length then φ.m b else φ1.m (l.length + (b - H.length)), φ1.z⟩
  have hρ : ∀ i : Nat, (∃ b : Nat, l[i]? = some b ∧ ρ i = b ∧ b < H.length) ∨ (l.length ≤ i ∧ ρ i = H.length + (i - l.length)) := fun i => by
    show (∃ b, l[i]? = some b ∧ emb l H.length i = b ∧ b < H.length) ∨ (l.length ≤ i ∧ emb l H.length i = _)
    cases hi : l[i]? with
    | some b => exact .inl ⟨b, rfl, hemb i b hi, hlt i b hi⟩
    | none =>
      have := List.getElem?_eq_none_iff.1 hi
      exact .inr ⟨this, by unfold emb; rw [hi]; rfl⟩
  have hrf : Rf ρ φ1 φ2 := ⟨fun i p e => by
    show (if ρ i < H.length then φ.m (ρ i) else φ1.m (l.length + (ρ i - H.length))) = some p
    rcases hρ i with ⟨b, q1, q2, q3⟩ | ⟨q1, q2⟩
    · rw [q2, if_pos q3]
      have hi : i < h0.length := by have := (List.getElem?_eq_some_iff.1 q1).1; omega
      rw [p3.m i hi] at e
      have : φ0.m i = φ.m b := by show (match l[i]? with | some b => φ.m b | none => none) = _; rw [q1]
      rw [this] at e; exact e
    · rw [q2, if_neg (by omega), show l.length + (H.length + (i - l.length) - H.length) = i by omega]; exact e, FLe.refl _⟩
  have hS0' : ∀ k, Mine S0 w k → Mine S w0 k := fun k hk => by
    rcases hk with q | q
    · exact (hS0 k q).1
    · exact .inr (Nat.le_trans RF.kept.size q)
  have hfree : ∀ b, b < H.length → b ∉ l → ∀ k ∈ F b, ¬ Mine S0 w k := fun b hbl hbn k hk hm => by
    rcases hm with ⟨i, q⟩ | q
    · obtain ⟨b', e, q⟩ := hF0 i k q
      have := RF.disj b b' k hk q
      subst this
      exact hbn (List.mem_of_getElem? e)
    · have := (RF.mine b k hk).2; omega
  have hext : ExtN S w0 H.length φ φ2 := ⟨fun b hbl => by show (if b < H.length then _ else _) = _; rw [if_pos hbl], p3.z, fun k o v e => by
    rcases p3.new k o v e with q | q
    · exact .inl q
    · exact .inr (hS0' k q)⟩
  have hkept : Kept S w0 w1 := by
    have k1 := R1.kept
    refine ⟨k1.os.trans RF.kept.os, k1.tape.trans RF.kept.tape, k1.output.trans RF.kept.output, Nat.le_trans RF.kept.size k1.size, fun j hj hs => ?_⟩
    rw [k1.block j (Nat.lt_of_lt_of_le hj RF.kept.size) fun hq => ?_]
    · exact RF.kept.block j hj hs
    · rcases (hS0 j hq).1 with q | q
      · exact hs q
      · omega
  obtain ⟨g1, g2, g3, g4⟩ := setAll_spec l H (h1.map (rnB ρ)) (by simpa using hL) hn hmem
  have hidx : ∀ b, Decidable (b ∈ l) := fun b => inferInstance
  -- the footprints
  have key : ∃ F2 : Nat → Fp, (∀ i, F2 (ρ i) = F1 i) ∧ (∀ b, b < H.length → b ∉ l → F2 b = F b) := by
    refine ⟨fun b => if b < H.length then (if b ∈ l then F1 (l.idxOf b) else F b) else F1 (l.length + (b - H.length)), fun i => ?_, fun b h1 h2 => ?_⟩
    · rcases hρ i with ⟨b, q1, q2, q3⟩ | ⟨q1, q2⟩
      · simp only [q2, q3, if_true, List.mem_of_getElem? q1]
        obtain ⟨hi, e⟩ := List.getElem?_eq_some_iff.1 q1
        have hm := List.mem_of_getElem? q1
        have : l[l.idxOf b]? = some b := by
          rw [List.getElem?_eq_getElem (List.idxOf_lt_length_of_mem hm)]; simp
        rw [hinj _ i b this q1]
      · simp only [q2]
        rw [if_neg (by omega), show l.length + (H.length + (i - l.length) - H.length) = i by omega]
    · simp only [h1, h2, if_true, if_false]
  obtain ⟨F2, hF2, hF2'⟩ := key
  have hsplit : ∀ b, (∃ i, b = ρ i) ∨ (b < H.length ∧ b ∉ l) := fun b => by
    by_cases hbl : b < H.length
    · by_cases hbm : b ∈ l
      · obtain ⟨i, hi, e⟩ := List.mem_iff_getElem.1 hbm
        exact .inl ⟨i, (hemb i b (by rw [List.getElem?_eq_getElem hi, e])).symm⟩
      · exact .inr ⟨hbl, hbm⟩
    · refine .inl ⟨l.length + (b - H.length), ?_⟩
      show b = emb l H.length _
      unfold emb
      rw [List.getElem?_eq_none (by omega)]
      simp only [Option.getD_none]; omega
  have hρinj : ∀ i j, ρ i = ρ j → i = j := fun i j e => by
    rcases hρ i with ⟨b, q1, q2, q3⟩ | ⟨q1, q2⟩ <;> rcases hρ j with ⟨b', q1', q2', q3'⟩ | ⟨q1', q2'⟩
    · rw [q2, q2'] at e; subst e; exact hinj i j b q1 q1'
    · omega
    · omega
    · omega
  have mine1 : ∀ i k, k ∈ F1 i → Mine S0 w k := fun i k hk => (R1.mine i k hk).1
  refine ⟨rnRes ρ r, φ2, setAll H l (h1.map (rnB ρ)), ?_, ⟨F2, hkept, ?_, R1.zok, ?_, ?_, ?_, ?_, ?_, ?_⟩, hext, by rw [g1]; omega, r, h1, p5, rfl, rfl⟩
  · cases r with
    | ret x => obtain ⟨v, e, rv⟩ := p1; exact ⟨v, e, hrf.v rv⟩
    | pan x => obtain ⟨v, e, rv⟩ := p1; exact ⟨v, e, hrf.v rv⟩
  · intro b hbl
    rw [g1] at hbl
    simp only [List.length_map] at hbl
    show (if b < H.length then _ else _) = none
    rw [if_neg (by omega)]
    exact R1.dom _ (by omega)
  · intro b k o hk
    rcases hsplit b with ⟨i, rfl⟩ | ⟨q1, q2⟩
    · rw [hF2] at hk; exact R1.znot i k o hk
    · rw [hF2' b q1 q2] at hk
      cases hz : φ2.z k o with
      | none => rfl
      | some v =>
        rcases p3.new k o v hz with q | q
        · have := RF.znot b k o hk
          rw [show φ0.z = φ.z from rfl] at q
          rw [this] at q; cases q
        · exact absurd q (hfree b q1 q2 k hk)
  · intro b k hk
    rcases hsplit b with ⟨i, rfl⟩ | ⟨q1, q2⟩
    · rw [hF2] at hk; exact ⟨hS0' k (mine1 i k hk), (R1.mine i k hk).2⟩
    · rw [hF2' b q1 q2] at hk; exact ⟨(RF.mine b k hk).1, Nat.lt_of_lt_of_le (RF.mine b k hk).2 R1.kept.size⟩
  · intro b
    rcases hsplit b with ⟨i, rfl⟩ | ⟨q1, q2⟩
    · rw [hF2]; exact R1.nodup i
    · rw [hF2' b q1 q2]; exact RF.nodup b
  · intro b b' k hk hk'
    rcases hsplit b with ⟨i, rfl⟩ | ⟨q1, q2⟩ <;> rcases hsplit b' with ⟨j, rfl⟩ | ⟨q1', q2'⟩
    · rw [hF2] at hk hk'; rw [R1.disj i j k hk hk']
    · rw [hF2] at hk; rw [hF2' b' q1' q2'] at hk'; exact absurd (mine1 i k hk) (hfree b' q1' q2' k hk')
    · rw [hF2] at hk'; rw [hF2' b q1 q2] at hk; exact absurd (mine1 j k hk') (hfree b q1 q2 k hk)
    · rw [hF2' b q1 q2] at hk; rw [hF2' b' q1' q2'] at hk'; exact RF.disj b b' k hk hk'
  · intro b hbl
    rw [g1] at hbl
    simp only [List.length_map] at hbl
    rcases hsplit b with ⟨i, rfl⟩ | ⟨q1, q2⟩
    · rw [hF2]
      refine R1.out i ?_
      rcases hρ i with ⟨b', q1, q2, q3⟩ | ⟨q1, q2⟩ <;> omega
    · omega
  · intro b B hB
    rcases hsplit b with ⟨i, rfl⟩ | ⟨q1, q2⟩
    · have : ∃ B1, h1[i]? = some B1 ∧ B = rnB ρ B1 := by
        rcases hρ i with ⟨b', q1, q2, q3⟩ | ⟨q1, q2⟩
        · rw [q2, g2 i b' q1] at hB
          simp only [List.getElem?_map, Option.map_eq_some_iff] at hB
          obtain ⟨B1, e1, e2⟩ := hB
          exact ⟨B1, e1, e2.symm⟩
        · rw [q2, g4, show l.length + (i - l.length) = i by omega] at hB
          simp only [List.getElem?_map, Option.map_eq_some_iff] at hB
          obtain ⟨B1, e1, e2⟩ := hB
          exact ⟨B1, e1, e2.symm⟩
      obtain ⟨B1, e1, rfl⟩ := this
      rw [hF2]
      exact BlkRel.rf hrf (R1.blk i B1 e1)
    · rw [g3 b q1 q2] at hB
      rw [hF2' b q1 q2]
      refine (RF.blk b B hB).keep ⟨fun j p e => ?_, p3.z⟩ fun k hk => ?_
      · rcases Nat.lt_or_ge j H.length with q | q
        · show (if j < H.length then _ else _) = _; rw [if_pos q]; exact e
        · rw [RF.dom j q] at e; cases e
      · exact R1.kept.block k (RF.mine b k hk).2 fun hq => hfree b q1 q2 k hk (.inl hq)

theorem CallsV.lift {C : Cx} {f : Nat} {args : List V} {R : Res → H → Prop} (c : CallsV C f args [] R) (H : H) :
    CallsV C f (args.map (rnV (H.length + ·))) H fun res h' => ∃ r h1, R r h1 ∧ res = rnRes (H.length + ·) r ∧ h' = H ++ h1.map (rnB (H.length + ·)) := by
  have e : emb [] H.length = (H.length + ·) := by funext b; simp [emb]
  have := CallsV.frame c [] H rfl List.nodup_nil (fun i B e => by simp at e)
  rw [e] at this
  exact this.mono fun r h' ⟨r1, h1, q1, q2, q3⟩ => ⟨r1, h1, q1, q2, by rw [q3]; cases h1 <;> simp [setAll]⟩
end Go.W
/- part W20 -/
set_option linter.unusedVariables false
set_option linter.unusedSimpArgs false
namespace Go.W
open Go Go.RowKit

def hid (n : Nat) (exc : List Nat) (i : Nat) : Bool := decide (i < n) && !exc.contains i
def mask (n : Nat) (exc : List Nat) : Nat → H → H
  | _, [] => []
  | i, B :: h => (if hid n exc i = true then Blk.dead else B) :: mask n exc (i + 1) h
def unmask (n : Nat) (exc : List Nat) : Nat → H → H → H
  | _, [], h' => h'
  | _, _ :: _, [] => []
  | i, B :: h, B' :: h' => (if hid n exc i = true then B else B') :: unmask n exc (i + 1) h h'

theorem mask_len {n : Nat} {exc : List Nat} : ∀ (i : Nat) (h : H), (mask n exc i h).length = h.length
  | _, [] => rfl
  | i, B :: h => by simp [mask, mask_len (i + 1) h]
theorem unmask_len {n : Nat} {exc : List Nat} : ∀ (i : Nat) (h h' : H), h.length ≤ h'.length → (unmask n exc i h h').length = h'.length
  | _, [], h', _ => rfl
  | i, B :: h, [], hl => by simp at hl
  | i, B :: h, B' :: h', hl => by simp [unmask, unmask_len (i + 1) h h' (by simpa using hl)]
theorem mask_get {n : Nat} {exc : List Nat} : ∀ (i : Nat) (h : H) (j : Nat), (mask n exc i h)[j]? = (h[j]?).map fun B => if hid n exc (i + j) = true then Blk.dead else B
  | _, [], j => by simp [mask]
  | i, B :: h, 0 => by simp [mask]
  | i, B :: h, j + 1 => by simp only [mask, List.getElem?_cons_succ]; rw [mask_get (i + 1) h j, show i + 1 + j = i + (j + 1) by omega]
theorem unmask_get {n : Nat} {exc : List Nat} : ∀ (i : Nat) (h h' : H) (j : Nat), h.length ≤ h'.length → (unmask n exc i h h')[j]? = if j < h.length ∧ hid n exc (i + j) = true then h[j]? else h'[j]?
  | _, [], h', j, _ => by simp [unmask]
  | i, B :: h, [], j, hl => by simp at hl
  | i, B :: h, B' :: h', 0, hl => by simp only [unmask, List.getElem?_cons_zero]; by_cases q : hid n exc i = true <;> simp [q]
  | i, B :: h, B' :: h', j + 1, hl => by
    simp only [unmask, List.getElem?_cons_succ]
    rw [unmask_get (i + 1) h h' j (by simpa using hl), show i + 1 + j = i + (j + 1) by omega]
    simp

section
variable {S : Nat → Prop} {w0 w : World} {φ : Phi} {h : H}

theorem Rel.hide (R : Rel S w0 φ h w) (n : Nat) (exc : List Nat) : ∃ S1 : Nat → Prop, Rel S1 w φ (mask n exc 0 h) w ∧
    ∀ φ' h' w', Rel S1 w φ' h' w' → ExtN S1 w h.length φ φ' → h.length ≤ h'.length →
      Rel S w0 φ' (unmask n exc 0 h h') w' ∧ ExtN S w0 h.length φ φ' ∧ ∀ b k m, b < h.length → hid n exc b = true → φ.m b = some (some k, m) → (∃ B, h[b]? = some B ∧ B.live = true) → w'.heap[k]? = w.heap[k]? := by
  obtain ⟨F, R⟩ := R
  let F1 : Nat → Fp := fun b => if hid n exc b = true then [] else F b
  let S1 : Nat → Prop := fun k => ∃ b, k ∈ F1 b
  have hF1 : ∀ b k, k ∈ F1 b → hid n exc b = false ∧ k ∈ F b := fun b k hk => by
    simp only [F1] at hk
    split at hk
    · simp at hk
    · rename_i q; exact ⟨by simpa using q, hk⟩
  have hS1 : ∀ k, S1 k → Mine S w0 k ∧ k < w.heap.size := fun k ⟨b, hk⟩ => R.mine b k (hF1 b k hk).2
  refine ⟨S1, ⟨F1, Kept.refl _ _, fun b hb => R.dom b (by rw [mask_len] at hb; exact hb), R.zok, fun b k o hk => R.znot b k o (hF1 b k hk).2, fun b k hk => ⟨.inl ⟨b, hk⟩, (R.mine b k (hF1 b k hk).2).2⟩, fun b => ?_,
    fun b b' k hk hk' => R.disj b b' k (hF1 b k hk).2 (hF1 b' k hk').2, fun b hb => ?_, fun b B hB => ?_⟩, ?_⟩
  · simp only [F1]; split
    · exact List.nodup_nil
    · exact R.nodup b
  · simp only [F1]; split
    · rfl
    · exact R.out b (by rw [mask_len] at hb; exact hb)
  · rw [mask_get, Nat.zero_add] at hB
    simp only [Option.map_eq_some_iff] at hB
    obtain ⟨B0, hB0, hB⟩ := hB
    simp only [F1]
    split at hB
    · rename_i q; rw [if_pos q]; subst hB
      unfold BlkRel; rw [if_neg (by simp [Blk.dead])]
    · rename_i q; rw [if_neg q]; subst hB; exact R.blk b _ hB0
  intro φ' h' w' ⟨F', R'⟩ E hl
  have hS' : ∀ k, Mine S1 w k → Mine S w0 k := fun k hk => by
    rcases hk with q | q
    · exact (hS1 k q).1
    · exact .inr (Nat.le_trans R.kept.size q)
  have hfree : ∀ b, hid n exc b = true → ∀ k ∈ F b, ¬ Mine S1 w k := fun b hb k hk hm => by
    rcases hm with ⟨b', q⟩ | q
    · obtain ⟨q1, q2⟩ := hF1 b' k q
      have := R.disj b b' k hk q2
      subst this
      rw [hb] at q1; cases q1
    · have := (R.mine b k hk).2; omega
  have hkeep : ∀ b, hid n exc b = true → ∀ k ∈ F b, w'.heap[k]? = w.heap[k]? := fun b hb k hk =>
    R'.kept.block k (R.mine b k hk).2 fun hq => hfree b hb k hk (.inl hq)
  let c : Nat → Bool := fun b => decide (b < h.length) && hid n exc b
  have hc : ∀ b, c b = true ↔ b < h.length ∧ hid n exc b = true := fun b => by simp [c]
  let F2 : Nat → Fp := fun b => if c b = true then F b else F' b
  have hF2 : ∀ b k, k ∈ F2 b → (c b = true ∧ k ∈ F b) ∨ (c b = false ∧ k ∈ F' b) := fun b k hk => by
    simp only [F2] at hk
    split at hk
    · rename_i q; exact .inl ⟨q, hk⟩
    · rename_i q; exact .inr ⟨by simpa using q, hk⟩
  refine ⟨⟨F2, ?_, fun b hb => ?_, R'.zok, fun b k o hk => ?_, fun b k hk => ?_, fun b => ?_, fun b b' k hk hk' => ?_, fun b hb => ?_, fun b B hB => ?_⟩, ⟨E.m, E.z, fun k o v e => ?_⟩, fun b k m hb hh hm hlv => ?_⟩
  · have k1 := R'.kept
    refine ⟨k1.os.trans R.kept.os, k1.tape.trans R.kept.tape, k1.output.trans R.kept.output, Nat.le_trans R.kept.size k1.size, fun j hj hs => ?_⟩
    rw [k1.block j (Nat.lt_of_lt_of_le hj R.kept.size) fun hq => ?_]
    · exact R.kept.block j hj hs
    · rcases (hS1 j hq).1 with q | q
      · exact hs q
      · omega
  · rw [unmask_len 0 h h' hl] at hb; exact R'.dom b hb
  · rcases hF2 b k hk with ⟨q1, q2⟩ | ⟨q1, q2⟩
    · cases hz : φ'.z k o with
      | none => rfl
      | some v =>
        rcases E.new k o v hz with q | q
        · rw [R.znot b k o q2] at q; cases q
        · exact absurd q (hfree b ((hc b).1 q1).2 k q2)
    · exact R'.znot b k o q2
  · rcases hF2 b k hk with ⟨q1, q2⟩ | ⟨q1, q2⟩
    · exact ⟨(R.mine b k q2).1, Nat.lt_of_lt_of_le (R.mine b k q2).2 R'.kept.size⟩
    · exact ⟨hS' k (R'.mine b k q2).1, (R'.mine b k q2).2⟩
  · simp only [F2]; split
    · exact R.nodup b
    · exact R'.nodup b
  · rcases hF2 b k hk with ⟨q1, q2⟩ | ⟨q1, q2⟩ <;> rcases hF2 b' k hk' with ⟨q3, q4⟩ | ⟨q3, q4⟩
    · exact R.disj b b' k q2 q4
    · exact absurd (R'.mine b' k q4).1 (hfree b ((hc b).1 q1).2 k q2)
    · exact absurd (R'.mine b k q2).1 (hfree b' ((hc b').1 q3).2 k q4)
    · exact R'.disj b b' k q2 q4
  · rw [unmask_len 0 h h' hl] at hb
    simp only [F2]
    rw [if_neg (by rw [hc]; omega)]
    exact R'.out b hb
  · rw [unmask_get 0 h h' b hl, Nat.zero_add] at hB
    simp only [F2]
    by_cases q : b < h.length ∧ hid n exc b = true
    · rw [if_pos q] at hB
      rw [if_pos ((hc b).2 q)]
      refine (R.blk b B hB).keep ⟨fun j p e => ?_, E.z⟩ (hkeep b q.2)
      rcases Nat.lt_or_ge j h.length with q | q
      · rw [E.m j q]; exact e
      · rw [R.dom j q] at e; cases e
    · rw [if_neg q] at hB
      rw [if_neg (by rw [hc]; exact q)]
      exact R'.blk b B hB
  · rcases E.new k o v e with q | q
    · exact .inl q
    · exact .inr (hS' k q)
  · obtain ⟨B, hB, hlv⟩ := hlv
    have := R.blk b B hB
    unfold BlkRel at this
    rw [if_pos hlv] at this
    obtain ⟨p, k1, _, _, k4⟩ := this
    rw [hm] at k1
    obtain ⟨rfl, -⟩ := Prod.mk.inj (Option.some.inj k1)
    obtain ⟨c', ty, fq, _, _, _, _, e⟩ := k4
    exact hkeep b hh k (by rw [e]; simp)
end
end Go.W
/- part W21 -/
set_option linter.unusedVariables false
set_option linter.unusedSimpArgs false
namespace Go.W
open Go Go.RowKit

def PanFree (Q : QT) : Prop := ∀ v τ τ' h, Q (.pan v) τ h → Q (.pan v) τ' h
theorem panFree_semK {C : Cx} {N n0 : Nat} {Q : QT} (hQ : PanFree Q) : ∀ k : List It, PanFree (SemK C N n0 Q k)
  | [] => hQ
  | .code c :: k => fun v τ τ' h q => panFree_semK hQ k v τ τ' h q
  | .ops _ _ :: k => fun v τ τ' h q => panFree_semK hQ k v τ τ' h q
  | .blk _ :: k => fun v τ τ' h q => panFree_semK hQ k v τ τ' h q
theorem panFree_body {C : Cx} {n0 : Nat} (fn : Func) (R : Res → H → Prop) : PanFree (bodyQ C n0 fn R) := fun v τ τ' h q => q
def restr (nw : List Nat) (τ : Tau) : Tau := fun t => if nw.contains t = true then .any else τ t
theorem restr_nil (τ : Tau) : restr [] τ = τ := rfl
def addN : Option Nat → List Nat → List Nat
  | some d, nw => d :: nw
  | none, nw => nw

structure SW (ws : World) (φs : Phi) (h0 : H) (exc : List Nat) (w : World) : Prop where
  z : ∀ k o v, φs.z k o = some v → w.cell? ⟨k, o, none⟩ = some v
  m : ∀ b k n, hid h0.length exc b = true → φs.m b = some (some k, n) → (∃ B, h0[b]? = some B ∧ B.live = true) → w.heap[k]? = ws.heap[k]?
def Stay (h0 : H) (exc : List Nat) (h : H) : Prop := h0.length ≤ h.length ∧ ∀ b, hid h0.length exc b = true → h[b]? = h0[b]?

section
variable {C : Cx} {N n0 : Nat} {Q : QT} {τ : Tau} {h : H} {k : List It} {o : Oper}

def flCk (C : Cx) (K : V → H → Prop) (h0 : H) (exc : List Nat) (b : Nat) : Option V → Prop
  | some v => (hid h0.length exc b = true ∧ cellOk v = true) ∧ K v h0
  | none => False
def flA (C : Cx) (K : V → H → Prop) (h0 : H) (exc : List Nat) (b : Nat) : Option (List V) → Prop
  | some cs => (hid h0.length exc b = true ∧ cs.all cellOk = true) ∧ K (.agg cs) h0
  | none => False
def flT (C : Cx) (K : V → H → Prop) (h0 : H) (exc : List Nat) (b i o : Nat) : Option Bool → Option Nat → Prop
  | some true, some n => flA C K h0 exc b (rdN (rdB (h0[b]?) i) o n)
  | some false, _ => flCk C K h0 exc b (rdC (rdB (h0[b]?) i) o)
  | _, _ => False
def flK (C : Cx) (K : V → H → Prop) (h0 : H) (exc : List Nat) (t : TypeId) : V → Prop
  | .ptr b i o => flT C K h0 exc b i o (tAgg C.P t) (tSz C.P t)
  | .pd cs => ldF K h0 cs (tAgg C.P t) (tSz C.P t)
  | _ => False
def oldW (C : Cx) (K : V → H → Prop) (h0 : H) (exc : List Nat) (σ : Tau) : Op → Prop
  | .load t x => flK C K h0 exc t (ev C σ x)
  | .call ⟨.builtin b, args, ts⟩ => builtinW C K h0 b (evs C σ args.toList) ts.toList
  | op => isA op = true ∧ opW C σ h0 op K
def newW (C : Cx) (K : V → H → Prop) (τ : Tau) (h : H) : Op → Prop
  | .call ⟨.builtin b, args, ts⟩ => builtinW C K h b (evs C τ args.toList) ts.toList
  | op => isA op = true ∧ opW C τ h op K

theorem Dc.plain {w : World} {φ : Phi} {x : V} {v : Value} {f : Fp} (d : Dc φ w x v f) (hx : cellOk x = true) : RelC φ x v :=
  (d.rel (fun n e q => by subst q; cases hx) (fun cs q => by subst q; cases hx)).1

theorem sw_cell {ws w : World} {φs : Phi} {h0 : H} {exc : List Nat} (hS : SW ws φs h0 exc w) {b k n off : Nat} {v : Value} (hh : hid h0.length exc b = true) (hp : φs.m b = some (some k, n)) (hl : ∃ B, h0[b]? = some B ∧ B.live = true)
    (hc : ws.cell? ⟨k, off, none⟩ = some v) : w.cell? ⟨k, off, none⟩ = some v := by
  have := hS.m b k n hh hp hl
  simp only [World.cell?] at hc ⊢
  rw [this]; exact hc
theorem rdB_live {b i : Nat} {el : List V} {h0 : H} (h : rdB (h0[b]?) i = some el) : ∃ B, h0[b]? = some B ∧ B.live = true := by
  obtain ⟨B, h1, h2, _⟩ := rdB_some h; exact ⟨B, h1, h2⟩

theorem oldW_sound {a : Act} {S : Nat → Prop} {w0 : World} {φs : Phi} {h0 : H} {exc : List Nat} {ws : World} {σ : Tau} {K : V → H → Prop} (hok : opOk N o = true) (G : RelG C φs.z) (Rs : Rel S w0 φs h0 ws)
    (T : RelT φs σ a) (hw : oldW C K h0 exc σ o.op) : ∃ x v, K x h0 ∧ (∀ w, SW ws φs h0 exc w → (execOp a.eval o).run C.P w = .ok (.value v) w) ∧ RelV φs x v := by
  have hop := hok
  simp only [opOk, Bool.and_eq_true] at hop
  have hop2 : o.op.operands.all opdOk = true := by have := hop.2; rw [← Array.all_toList] at this ⊢; exact this
  unfold oldW at hw
  split at hw
  · rename_i t x ho
    rw [ho] at hop2
    have ex := ev_rel G T x (by simpa [Op.operands] using hop2)
    obtain ⟨F, RF⟩ := Rs
    unfold flK at hw
    split at hw
    · rename_i b i ob e
      rw [e] at ex
      obtain ⟨kk, n, hp, hv⟩ := ptr_rel ex
      unfold flT at hw
      split at hw
      · rename_i m ha hm
        unfold flA at hw
        split at hw
        · rename_i cs hcs
          obtain ⟨⟨hh, hok'⟩, hk⟩ := hw
          obtain ⟨h1, l, h2, h3, h4⟩ := RF.agg hp hcs hok'
          have hlive : ∃ B, h0[b]? = some B ∧ B.live = true := by
            cases he : rdB (h0[b]?) i with
            | none => rw [he] at hcs; simp [rdN] at hcs
            | some el => exact rdB_live he
          refine ⟨.agg cs, .agg l.toArray, hk, fun w hS => ?_, ⟨l.toArray, rfl, by simpa using h3⟩⟩
          have hl := run_loadCells_list (P := C.P) w ⟨kk, i * n + ob, none⟩ l (fun j v e => by rw [addr_add]; exact sw_cell hS hh hp hlive (h4 j v e))
          simp [execOp, ho, Instr.loadAt, hv, Instr.sureAddr, loadVar, run_agg ha, run_sz hm, ← h2, hl]
        · exact hw.elim
      · rename_i ha
        unfold flCk at hw
        split at hw
        · rename_i v hr
          obtain ⟨⟨hh, hok'⟩, hk⟩ := hw
          obtain ⟨c, f, q2, q3⟩ := RF.cell hp hr
          have hlive : ∃ B, h0[b]? = some B ∧ B.live = true := by
            obtain ⟨el, he, _⟩ := rdC_some hr; exact rdB_live he
          refine ⟨v, c, hk, fun w hS => ?_, relV_of_relC (q3.plain hok')⟩
          have := sw_cell hS hh hp hlive q2
          simp [execOp, ho, Instr.loadAt, hv, Instr.sureAddr, loadVar, run_agg ha, this]
        · exact hw.elim
      · exact hw.elim
    · rename_i cs e
      rw [e] at ex
      obtain ⟨kk, off, hv, hz⟩ := pd_rel ex
      unfold ldF at hw
      split at hw
      · rename_i m ha hm
        unfold ldA at hw
        split at hw
        · rename_i ds hds
          obtain ⟨hok', hk⟩ := hw
          simp only [rdN] at hds
          split at hds
          · rename_i hle
            obtain rfl := Option.some.inj hds
            simp only [List.drop_zero] at hk hok' ⊢
            have hz' := hz.take m
            have key : ∀ {xs : List V} {off : Nat}, RZs φs.z kk off xs → ∃ l : List Value, l.length = xs.length ∧ All2 (RelC φs) xs l ∧ ∀ (j : Nat) v, l[j]? = some v → φs.z kk (off + j) = some v := by
              intro xs
              induction xs with
              | nil => intro off _; exact ⟨[], rfl, trivial, fun j v e => by simp at e⟩
              | cons x xs ih =>
                intro off r
                simp only [RZs] at r
                obtain ⟨⟨c, c1, c2⟩, r2⟩ := r
                obtain ⟨l, l1, l2, l3⟩ := ih r2
                refine ⟨c :: l, by simp [l1], ⟨relC_of_rz c2, l2⟩, fun j v e => ?_⟩
                cases j with
                | zero => simp at e; subst e; exact c1
                | succ j => simp at e; have := l3 j v e; rw [show off + (j + 1) = off + 1 + j by omega]; exact this
            obtain ⟨l, l1, l2, l3⟩ := key hz'
            have l1' : l.length = m := by rw [l1, List.length_take]; omega
            refine ⟨.agg (cs.take m), .agg l.toArray, hk, fun w hS => ?_, ⟨l.toArray, rfl, by simpa using l2⟩⟩
            have hl := run_loadCells_list (P := C.P) w ⟨kk, off, none⟩ l (fun j v e => by rw [addr_add]; exact hS.z _ _ _ (l3 j v e))
            simp [execOp, ho, Instr.loadAt, hv, Instr.sureAddr, loadVar, run_agg ha, run_sz hm, ← l1', hl]
          · cases hds
        · exact hw.elim
      · rename_i ha
        unfold ldC at hw
        split at hw
        · rename_i v hr
          obtain ⟨c, c1, c2⟩ := hz.nth hr
          refine ⟨v, c, hw, fun w hS => ?_, relV_of_rz c2⟩
          have := hS.z _ _ _ c1
          rw [Nat.add_zero] at this
          simp [execOp, ho, Instr.loadAt, hv, Instr.sureAddr, loadVar, run_agg ha, this]
        · exact hw.elim
      · exact hw.elim
    · exact hw.elim
  · rename_i b args ts ho
    obtain ⟨x, v, h1, h2, h3⟩ := builtinW_sound (c := ⟨.builtin b, args, ts⟩) ho rfl (call_args ho rfl hok) G T hw
    exact ⟨x, v, h1, fun w _ => h2 w, h3⟩
  · obtain ⟨hA, hw⟩ := hw
    obtain ⟨x, v, h1, h2, h3⟩ := opW_any hA hop2 Rs G T hw
    exact ⟨x, v, h1, fun w _ => h2 w, h3⟩

theorem newW_sound {a : Act} {S : Nat → Prop} {w0 : World} {φ : Phi} {w : World} {K : V → H → Prop} (hok : opOk N o = true) (G : RelG C φ.z) (R : Rel S w0 φ h w)
    (T : RelT φ τ a) (hw : newW C K τ h o.op) : ∃ x v, K x h ∧ (∀ w, (execOp a.eval o).run C.P w = .ok (.value v) w) ∧ RelV φ x v := by
  have hop := hok
  simp only [opOk, Bool.and_eq_true] at hop
  have hop2 : o.op.operands.all opdOk = true := by have := hop.2; rw [← Array.all_toList] at this ⊢; exact this
  unfold newW at hw
  split at hw
  · rename_i b args ts ho
    exact builtinW_sound (c := ⟨.builtin b, args, ts⟩) ho rfl (call_args ho rfl hok) G T hw
  · exact opW_any hw.1 hop2 R G T hw.2

inductive TD where
  | done
  | old (i : Nat) (t : TD)
  | new (i : Nat) (t : TD)
  | go (i : Nat) (t : TD)
  | or (i : Nat) (t r : TD)
def freeOk (ops : Array Oper) (listed : Array Bool) (i : Nat) : Bool := Region.free .any ops listed i && (Region.ready .any ops listed).contains i
def drawOk (ops : Array Oper) : List Nat → Array Bool → TD → Bool
  | pre, listed, .done => pre.isEmpty && (Region.ready .any ops listed).isEmpty
  | pre, listed, .old i t => (pre.isEmpty && freeOk ops listed i) && drawOk ops [] (listed.setIfInBounds i true) t
  | pre, listed, .new i t => (pre.isEmpty && freeOk ops listed i) && drawOk ops [] (listed.setIfInBounds i true) t
  | pre, listed, .go i t => (Region.ready .any ops listed == pre ++ [i]) && drawOk ops [] (listed.setIfInBounds i true) t
  | pre, listed, .or i t r => drawOk ops [] (listed.setIfInBounds i true) t && drawOk ops (pre ++ [i]) listed r

def WD (C : Cx) (N n0 : Nat) (Q : QT) (h0 : H) (exc : List Nat) (ops : Array Oper) (fuel : Nat) (listed : Array Bool) (nw : List Nat) (τ : Tau) (h : H) : Prop :=
  ∀ S w0 φs ws φ a w, RelG C φs.z → Rel S w0 φs h0 ws → ExtN S w0 h0.length φs φ → Rel S w0 φ h w → Stay h0 exc h → n0 ≤ h0.length → RelT φ τ a → RelT φs (restr nw τ) a → a.tmps.size = N → SW ws φs h0 exc w →
    wpAnyH C.P .any ops (Post N n0 S w0 φs (C.ml, a.defers) Q) (SW ws φs h0 exc) fuel listed a w

abbrev hide (h0 : H) (exc : List Nat) (h : H) : H := mask h0.length exc 0 h
abbrev show_ (h0 : H) (exc : List Nat) (h h' : H) : H := unmask h0.length exc 0 h h'

def dres (Q : QT) (K : V → H → Prop) (τ : Tau) (G : H → H) : Res → H → Prop
  | .ret v, h' => K v (G h')
  | .pan v, h' => Q (.pan v) τ (G h')
def DCall (C : Cx) (N n0 : Nat) (Q : QT) (h0 : H) (exc : List Nat) (ops : Array Oper) (fuel : Nat) (listed : Array Bool) (k : List It) (f : Nat) (args : List V) (d : Option Nat) (nw : List Nat) (τ : Tau) (h : H) : Prop :=
  PanFree Q → k.all (itOk N) = true → ops.all (opOk N) = true → Region.noSelect ops = true →
    CallsV C f args (hide h0 exc h) (dres Q (fun v h' => WD C N n0 (SemK C N n0 Q k) h0 exc ops fuel listed (addN d nw) (upo d v τ) h') τ (show_ h0 exc h))
def DCopy (C : Cx) (N n0 : Nat) (Q : QT) (h0 : H) (exc : List Nat) (ops : Array Oper) (fuel : Nat) (listed : Array Bool) (k : List It) (s x : V) (t u : TypeId) (d : Option Nat) (nw : List Nat) (τ : Tau) (h : H) : Prop :=
  PanFree Q → k.all (itOk N) = true → ops.all (opOk N) = true → Region.noSelect ops = true →
    CopyV C (hide h0 exc h) s x t u (fun v h' => WD C N n0 (SemK C N n0 Q k) h0 exc ops fuel listed (addN d nw) (upo d v τ) (show_ h0 exc h h'))

section
variable (C : Cx) (N n0 m : Nat) (Q : QT) (k : List It) (h0 : H) (exc : List Nat) (ops : Array Oper)
def dcallR (fuel : Nat) (listed : Array Bool) (args : List V) (d : Option Nat) (nw : List Nat) (τ : Tau) (h : H) : V → Prop
  | .fn f caps => DCall C N n0 Q h0 exc ops fuel listed k f (args ++ caps) d nw τ h
  | _ => False
def dcopyR (fuel : Nat) (listed : Array Bool) (d : Option Nat) (nw : List Nat) (τ : Tau) (h : H) : List V → List TypeId → Prop
  | [s, x], [t, u] => DCopy C N n0 Q h0 exc ops fuel listed k s x t u d nw τ h
  | _, _ => False
def effN (R : List Nat → Tau → H → Prop) (d : Option Nat) (nw : List Nat) (τ : Tau) (h : H) : V → H → Prop := fun v h' => R (addN d nw) (upo d v τ) (show_ h0 exc h h')
def oldN (R : List Nat → Tau → H → Prop) (d : Option Nat) (nw : List Nat) (τ : Tau) (h : H) : V → H → Prop := fun v _ => R nw (upo d v τ) h
def newN (R : List Nat → Tau → H → Prop) (d : Option Nat) (nw : List Nat) (τ : Tau) (h : H) : V → H → Prop := fun v _ => R (addN d nw) (upo d v τ) h
def effW (fuel : Nat) (listed : Array Bool) (R : List Nat → Tau → H → Prop) (d : Option Nat) (nw : List Nat) (τ : Tau) (h : H) : Op → Prop
  | .call ⟨.value f, args, _⟩ => dcallR C N n0 Q k h0 exc ops fuel listed (evs C τ args.toList) d nw τ h (ev C τ f)
  | .call ⟨.builtin .append, args, ts⟩ => appR C (effN h0 exc R d nw τ h) (hide h0 exc h) (evs C τ args.toList) ts.toList
  | .call ⟨.builtin .copy, args, ts⟩ => dcopyR C N n0 Q k h0 exc ops fuel listed d nw τ h (evs C τ args.toList) ts.toList
  | .call ⟨.builtin b, args, ts⟩ => builtinW C (newN R d nw τ h) h b (evs C τ args.toList) ts.toList
  | .call ⟨.invoke _ _, _, _⟩ => False
  | .panic x => panR Q τ h (ev C τ x)
  | op => opW C τ (hide h0 exc h) op (effN h0 exc R d nw τ h)
def guardD (yes no skip : Prop) : Bool → Option Bool → Prop
  | true, some b => bcase b yes no
  | false, some b => bcase b no yes
  | _, none => skip
inductive Md where
  | old | new | eff
def actW (fuel : Nat) (listed : Array Bool) (R : List Nat → Tau → H → Prop) (d : Option Nat) (nw : List Nat) (τ : Tau) (h : H) (op : Op) : Md → Prop
  | .old => oldW C (oldN R d nw τ h) h0 exc (restr nw τ) op
  | .new => newW C (newN R d nw τ h) τ h op
  | .eff => effW C N n0 Q k h0 exc ops fuel listed R d nw τ h op
def nodeW (fuel : Nat) (listed : Array Bool) (R : List Nat → Tau → H → Prop) (nw : List Nat) (τ : Tau) (h : H) (md : Md) : Option Oper → Prop
  | none => False
  | some ⟨d, op, _, _, _, none⟩ => actW C N n0 Q k h0 exc ops fuel listed R d nw τ h op md
  | some ⟨d, op, _, _, _, some (j, want)⟩ => guardD (actW C N n0 Q k h0 exc ops fuel listed R d nw (gSet ops.toList j want τ) h op md) (R (addN d nw) (upo d (.tup []) (gSet ops.toList j (!want) τ)) h) (gU ops.toList τ j ∧ R (addN d nw) (upo d (.tup []) τ) h) want (gV ops.toList τ j)
def RunD : Nat → Array Bool → TD → List Nat → Tau → H → Prop
  | _, _, .done, _, τ, h => Run C N n0 m Q k τ h
  | fuel + 1, listed, .old i td, nw, τ, h => nodeW C N n0 Q k h0 exc ops fuel (listed.setIfInBounds i true) (RunD fuel (listed.setIfInBounds i true) td) nw τ h .old (ops.toList[i]?)
  | fuel + 1, listed, .new i td, nw, τ, h => nodeW C N n0 Q k h0 exc ops fuel (listed.setIfInBounds i true) (RunD fuel (listed.setIfInBounds i true) td) nw τ h .new (ops.toList[i]?)
  | fuel + 1, listed, .go i td, nw, τ, h => nodeW C N n0 Q k h0 exc ops fuel (listed.setIfInBounds i true) (RunD fuel (listed.setIfInBounds i true) td) nw τ h .eff (ops.toList[i]?)
  | fuel + 1, listed, .or i td r, nw, τ, h => nodeW C N n0 Q k h0 exc ops fuel (listed.setIfInBounds i true) (RunD fuel (listed.setIfInBounds i true) td) nw τ h .eff (ops.toList[i]?) ∧ RunD (fuel + 1) listed r nw τ h
  | _, _, _, _, _, _ => False
end
end
end Go.W
/- part W22 -/
set_option linter.unusedVariables false
set_option linter.unusedSimpArgs false
namespace Go.W
open Go Go.RowKit

section
variable {C : Cx} {N n0 m : Nat} {Q : QT} {τ : Tau} {h h' : H} {k : List It} {o : Oper} {h0 : H} {exc : List Nat} {ops : Array Oper} {S : Nat → Prop} {w0 ws w w' : World} {φs φ φ' : Phi} {a : Act} {nw : List Nat}

theorem put_ne {d t : Nat} {v : Value} (e : ¬ t = d) : (a.put (some d) v).tmps.getD t undef = a.tmps.getD t undef := by
  unfold Act.put
  simp only [Array.getD_eq_getD_getElem?, Array.getElem?_setIfInBounds]
  rw [if_neg (fun h' => e h'.symm)]
theorem restr_put {x : V} {v : Value} (d : Option Nat) (T : RelT φ (restr nw τ) a) : RelT φ (restr (addN d nw) (upo d x τ)) (a.put d v) := by
  cases d with
  | none => exact T
  | some d =>
    intro t
    by_cases e : t = d
    · subst e
      have : restr (addN (some t) nw) (upo (some t) x τ) t = .any := by
        show (if (t :: nw).contains t = true then V.any else _) = _
        rw [if_pos (by simp)]
      rw [this]; exact relV_any
    · rw [put_ne e]
      have := T t
      unfold restr at this ⊢
      simp only [addN, upo, up, if_neg e, List.contains_cons, beq_iff_eq, e, Bool.or_eq_true, false_or] at this ⊢
      exact this
theorem restr_old {x : V} {v : Value} (d : Option Nat) (hd : (match d with | some d => decide (d < N) | none => true) = true) (hN : a.tmps.size = N) (r : RelV φ x v) (T : RelT φ (restr nw τ) a) : RelT φ (restr nw (upo d x τ)) (a.put d v) := by
  cases d with
  | none => exact T
  | some d =>
    simp only [decide_eq_true_eq] at hd
    intro t
    by_cases e : t = d
    · subst e
      unfold restr
      split
      · exact relV_any
      · simp only [upo, up, if_true]
        have : (a.put (some t) v).tmps.getD t undef = v := by
          unfold Act.put; simp [Array.getD_eq_getD_getElem?, hN, hd]
        rw [this]; exact r
    · rw [put_ne e]
      have := T t
      unfold restr at this ⊢
      simp only [upo, up, if_neg e] at this ⊢
      exact this

theorem post_panic {ds : Bool × List Deferred} {Q' : QT} (hQ : PanFree Q') (c : List PanicEntry) (a : Act) (w : World) (d : Option Nat) (v : Value)
    (p : Post N n0 S w0 φ ds Q' (.panic c) (a.put d v) w) : Post N n0 S w0 φ ds Q' (.panic c) a w := by
  obtain ⟨x, τ, h, φ', p1, p2, p3, p4, p5, p6, p7, p8⟩ := p
  cases x with
  | normal => simp only [XRel] at p1; cases p1
  | exit id => simp only [XRel] at p1; cases p1
  | ret => simp only [XRel] at p1; cases p1
  | pan u =>
    refine ⟨.pan u, fun _ => .any, h, φ', p1, p2, p3, p4, fun t => relV_any, ?_, ?_, hQ _ _ _ _ p8⟩
    · cases d with
      | none => exact p6
      | some d => simpa [Act.put] using p6
    · exact p7.cast (by cases d <;> rfl)

theorem Stay.show (hst : Stay h0 exc h) (hl : h.length ≤ h'.length) : Stay h0 exc (show_ h0 exc h h') := by
  refine ⟨by rw [unmask_len 0 h h' hl]; exact Nat.le_trans hst.1 hl, fun b hb => ?_⟩
  have hlt : b < h0.length := by simp only [hid, Bool.and_eq_true, decide_eq_true_eq] at hb; exact hb.1
  rw [unmask_get 0 h h' b hl, Nat.zero_add, if_pos ⟨Nat.lt_of_lt_of_le hlt hst.1, hb⟩]
  exact hst.2 b hb

structure Mid (C : Cx) (N n0 : Nat) (h0 : H) (exc : List Nat) (S : Nat → Prop) (w0 : World) (φs : Phi) (ws : World) (φ : Phi) (a : Act) (w : World) (nw : List Nat) (τ : Tau) (h : H) : Prop where
  G : RelG C φs.z
  Rs : Rel S w0 φs h0 ws
  E : ExtN S w0 h0.length φs φ
  R : Rel S w0 φ h w
  st : Stay h0 exc h
  n : n0 ≤ h0.length
  T : RelT φ τ a
  To : RelT φs (restr nw τ) a
  N : a.tmps.size = N
  S : SW ws φs h0 exc w

theorem Mid.next {x : V} {v : Value} (M : Mid C N n0 h0 exc S w0 φs ws φ a w nw τ h) (hd : (match o.dst with | some d => decide (d < N) | none => true) = true) :
    ∃ S1 : Nat → Prop, Rel S1 w φ (hide h0 exc h) w ∧ RelG C φ.z ∧ (∀ φ' h' w', Rel S1 w φ' h' w' → ExtN S1 w h.length φ φ' → h.length ≤ h'.length → ExtN S w0 n0 φs φ' ∧ Rel S w0 φ' (show_ h0 exc h h') w' ∧ n0 ≤ (show_ h0 exc h h').length ∧ RelT φ' τ a) ∧
      ∀ φ' h' w' x v, Rel S1 w φ' h' w' → ExtN S1 w h.length φ φ' → h.length ≤ h'.length → (RelV φ' x v ∨ x = .any) → Mid C N n0 h0 exc S w0 φs ws φ' (a.put o.dst v) w' (addN o.dst nw) (upo o.dst x τ) (show_ h0 exc h h') := by
  obtain ⟨S1, R1, back⟩ := M.R.hide h0.length exc
  refine ⟨S1, R1, M.G.mono M.E.z, fun φ' h' w' q1 q2 q3 => ?_, fun φ' h' w' x v q1 q2 q3 hr => ?_⟩
  · obtain ⟨R2, E2, km⟩ := back φ' h' w' q1 q2 q3
    exact ⟨(M.E.mono M.n).trans (E2.mono (Nat.le_trans M.n M.st.1)), R2, by rw [unmask_len 0 h h' q3]; exact Nat.le_trans M.n (Nat.le_trans M.st.1 q3), M.T.ext (M.R.ext E2)⟩
  · obtain ⟨R2, E2, km⟩ := back φ' h' w' q1 q2 q3
    obtain ⟨t1, t2, t3⟩ := put_rel (o := o) (M.T.ext (M.R.ext E2)) M.N hd hr
    refine ⟨M.G, M.Rs, M.E.trans (E2.mono M.st.1), R2, M.st.show q3, M.n, t1, restr_put o.dst M.To, t2, ⟨fun kk oo vv e => ?_, fun b kk n hh hm hl => ?_⟩⟩
    · obtain ⟨F2, RF2⟩ := R2
      exact RF2.zok kk oo vv (E2.z _ _ _ (M.E.z _ _ _ e))
    · have hlt : b < h0.length := by simp only [hid, Bool.and_eq_true, decide_eq_true_eq] at hh; exact hh.1
      rw [km b kk n (Nat.lt_of_lt_of_le hlt M.st.1) hh (by rw [M.E.m b hlt]; exact hm) (by rw [M.st.2 b hh]; exact hl)]
      exact M.S.m b kk n hh hm hl

theorem Mid.wd {fuel : Nat} {listed : Array Bool} {d : Option Nat} {v : Value} (M : Mid C N n0 h0 exc S w0 φs ws φ (a.put d v) w nw τ h) (hw : WD C N n0 Q h0 exc ops fuel listed nw τ h) :
    SW ws φs h0 exc w ∧ wpAnyH C.P .any ops (Post N n0 S w0 φs (C.ml, a.defers) Q) (SW ws φs h0 exc) fuel listed (a.put d v) w := by
  have e : (a.put d v).defers = a.defers := by cases d <;> rfl
  have := hw S w0 φs ws φ _ w M.G M.Rs M.E M.R M.st M.n M.T M.To M.N M.S
  rw [e] at this
  exact ⟨M.S, this⟩

theorem call_wp {c : Call} {fo : Operand} {f : Nat} {caps : List V} (ho : o.op = .call c) (hcl : c.callee = .value fo) (hok : opOk N o = true) (hf : ev C τ fo = .fn f caps) {hh : H}
    {R : Res → H → Prop} (hc : CallsV C f (evs C τ c.args.toList ++ caps) hh R) {K : Act → World → Prop}
    {Qp : Exit → Act → World → Prop} (G : RelG C φ.z) (Rl : Rel S w0 φ hh w) (T : RelT φ τ a)
    (hret : ∀ φ' x v h' w', ExtN S w0 hh.length φ φ' → hh.length ≤ h'.length → Rel S w0 φ' h' w' → RelV φ' x v → R (.ret x) h' → K (a.put o.dst v) w')
    (hpan : ∀ φ' x v h' w', ExtN S w0 hh.length φ φ' → hh.length ≤ h'.length → Rel S w0 φ' h' w' → RelV φ' x v → R (.pan x) h' → Qp (.panic [{ v, recovered := false }]) a w') : o.wp C.P a w K Qp := by
  simp only [opOk, Bool.and_eq_true] at hok
  obtain ⟨hd, hop⟩ := hok
  rw [ho] at hop
  simp only [Op.operands, Call.operands, hcl] at hop
  rw [← Array.all_toList] at hop
  simp only [Array.toList_append, List.all_append, Bool.and_eq_true] at hop
  have ef := ev_rel G T fo (by have := hop.1; simpa using this)
  rw [hf] at ef
  obtain ⟨cl, ef, hp⟩ := fn_rel ef
  have hrun : (execOp a.eval o).run C.P w = (callFunc f (#[] ++ c.args.map a.eval ++ cl.toArray)).run C.P w := by
    simp only [execOp, ho, resolve, hcl, ef, Deferred.ofValue, Sem.run_bind, Sem.run_pure, Result.andThen_ok, invoke]
  have hargs : All2 (RelV φ) (evs C τ c.args.toList ++ caps) (#[] ++ c.args.map a.eval ++ cl.toArray).toList := by
    have h1 := evs_rel G T (xs := c.args.toList) hop.2
    simpa using h1.append (fn_caps hp)
  rcases hc S w0 φ _ w G Rl hargs with ⟨he, hcalls⟩ | ⟨v, w', hv, r, φ', h', p1, p2, p3, p4, p5⟩
  · have hrun2 : (execOp a.eval o).run C.P w = .ok (.enter f (#[] ++ c.args.map a.eval ++ cl.toArray)) w := by
      rw [hrun]
      unfold enters at he
      cases hfn : C.P.funcs[f]? with
      | none => rw [hfn] at he; cases he
      | some fn =>
        rw [hfn] at he
        simp only [Bool.and_eq_true, bne_iff_ne, ne_eq] at he
        have h1 : ¬ fn.name = "runtime.NumGoroutine" := he.1
        have h2 : fn.body.isNone = false := by
          cases hb : fn.body with
          | none => rw [hb] at he; exact absurd he.2 (by simp)
          | some _ => rfl
        simp only [callFunc, run_program, Sem.run_bind, Result.andThen_ok, hfn]
        simp [h1, h2]
    unfold Oper.wp
    rw [hrun2]
    simp only [Oper.upon]
    refine hcalls.mono fun e w' ⟨r, φ', h', p1, p2, p3, p4, p5⟩ => ?_
    cases r with
    | ret x =>
      obtain ⟨cv, rfl, rv⟩ := p1
      exact hret φ' x cv h' w' p3 p4 p2 rv p5
    | pan x =>
      obtain ⟨cv, rfl, rv⟩ := p1
      exact hpan φ' x cv h' w' p3 p4 p2 rv p5
  · unfold Oper.wp
    rw [hrun, hv]
    simp only [Oper.upon]
    cases r with
    | ret x =>
      obtain ⟨cv, e, rv⟩ := p1
      cases e
      exact hret φ' x v h' w' p3 p4 p2 rv p5
    | pan x => obtain ⟨cv, e, rv⟩ := p1; cases e

theorem eff_sound (hQ : PanFree Q) (hk : k.all (itOk N) = true) (hops : ops.all (opOk N) = true) (hsel : Region.noSelect ops = true) {i : Nat} {fuel : Nat} {listed : Array Bool} (hok : opOk N o = true) {RR : List Nat → Tau → H → Prop}
    (ih : ∀ nw τ h, RR nw τ h → WD C N n0 (SemK C N n0 Q k) h0 exc ops fuel listed nw τ h) (M : Mid C N n0 h0 exc S w0 φs ws φ a w nw τ h)
    (he : effW C N n0 Q k h0 exc ops fuel listed RR o.dst nw τ h o.op) :
    o.wp C.P a w (fun a' w' => SW ws φs h0 exc w' ∧ wpAnyH C.P .any ops (Post N n0 S w0 φs (C.ml, a.defers) (SemK C N n0 Q k)) (SW ws φs h0 exc) fuel listed a' w') (Post N n0 S w0 φs (C.ml, a.defers) (SemK C N n0 Q k)) := by
  have hdst := hok
  simp only [opOk, Bool.and_eq_true] at hdst
  have hop2 : o.op.operands.all opdOk = true := by have := hdst.2; rw [← Array.all_toList] at this ⊢; exact this
  obtain ⟨S1, R1, G1, back, next⟩ := M.next (o := o) (x := .any) (v := undef) hdst.1
  have hml : (hide h0 exc h).length = h.length := mask_len 0 h
  -- an operation that has been carried out
  have fin : ∀ {K : V → H → Prop}, Did C.P o a w S1 w φ (hide h0 exc h).length K → (∀ v h', K v h' → WD C N n0 (SemK C N n0 Q k) h0 exc ops fuel listed (addN o.dst nw) (upo o.dst v τ) (show_ h0 exc h h')) →
      o.wp C.P a w (fun a' w' => SW ws φs h0 exc w' ∧ wpAnyH C.P .any ops (Post N n0 S w0 φs (C.ml, a.defers) (SemK C N n0 Q k)) (SW ws φs h0 exc) fuel listed a' w') (Post N n0 S w0 φs (C.ml, a.defers) (SemK C N n0 Q k)) := by
    intro K hd hK
    obtain ⟨φ', x, h', w', E', hl, R', hkk, hrun⟩ := hd
    rw [hml] at E' hl
    unfold Oper.wp
    rcases hrun with ⟨v, hrun, rv⟩ | ⟨hrun, rfl⟩
    · rw [hrun]
      exact (next φ' h' w' x v R' E' hl (.inl rv)).wd (hK _ _ hkk)
    · rw [hrun]
      exact (next φ' h' w' .any undef R' E' hl (.inr rfl)).wd (hK _ _ hkk)
  unfold effW at he
  split at he
  · rename_i fo args ts hc
    unfold dcallR at he
    split at he
    · rename_i f caps hf
      refine call_wp (c := ⟨.value fo, args, ts⟩) hc rfl hok hf (he hQ hk hops hsel) G1 R1 M.T (fun φ' x v h' w' E' hl R' rv q => ?_) (fun φ' x v h' w' E' hl R' rv q => ?_)
      · rw [hml] at E' hl
        exact (next φ' h' w' x v R' E' hl (.inl rv)).wd q
      · rw [hml] at E' hl
        obtain ⟨b1, b2, b3, b4⟩ := back φ' h' w' R' E' hl
        exact ⟨.pan x, τ, _, φ', ⟨v, rfl, rv⟩, b2, b1, b3, b4, M.N, Dfs.refl, semK_pan q⟩
    · exact he.elim
  · rename_i args ts hc
    unfold appR at he
    split at he
    · rename_i s x t u ha ht
      obtain ⟨p, q, e3, rfl, rfl⟩ := evs_two ha
      exact fin (sem_append (c := ⟨.builtin .append, args, ts⟩) hc rfl e3 ht (call_args hc rfl hok) R1 G1 M.T he) fun v h' q => ih _ _ _ q
    · exact he.elim
  · rename_i args ts hc
    unfold dcopyR at he
    split at he
    · rename_i s x t u ha ht
      obtain ⟨p, q, e3, rfl, rfl⟩ := evs_two ha
      have hargs := call_args (c := ⟨.builtin .copy, args, ts⟩) hc rfl hok
      rw [e3] at hargs
      simp only [List.all_cons, List.all_nil, Bool.and_true, Bool.and_eq_true] at hargs
      obtain ⟨v, w', φ', r, h', q1, q2, q3, q4, q5, q6⟩ := he hQ hk hops hsel S1 w φ w (a.eval p) (a.eval q) o.type R1 (ev_rel G1 M.T p hargs.1) (ev_rel G1 M.T q hargs.2)
      rw [hml] at q3 q4
      obtain ⟨cs, hcs⟩ := exec_builtin (P := C.P) (a := a) (c := ⟨.builtin .copy, args, ts⟩) hc rfl
      unfold Oper.wp
      have hrun : (execOp a.eval o).run C.P w = .ok (.value v) w' := by
        rw [hcs, arr2 e3, arr2 ht]
        simp only [builtin, Sem.run_bind, List.map_toArray, List.map_cons, List.map_nil]
        rw [q1]; rfl
      rw [hrun]
      exact (next φ' h' w' r v q2 q3 q4 (.inl q5)).wd q6
    · exact he.elim
  · rename_i b args ts _ _ hc
    obtain ⟨x, v, h1, h2, h3⟩ := builtinW_sound (c := ⟨.builtin b, args, ts⟩) hc rfl (call_args hc rfl hok) G1 M.T he
    unfold Oper.wp
    rw [h2 w]
    obtain ⟨t1, t2, t3⟩ := put_rel (o := o) M.T M.N hdst.1 (.inl h3)
    have M' : Mid C N n0 h0 exc S w0 φs ws φ (a.put o.dst v) w (addN o.dst nw) (upo o.dst x τ) h := ⟨M.G, M.Rs, M.E, M.R, M.st, M.n, t1, restr_put o.dst M.To, t2, M.S⟩
    exact M'.wd (ih _ _ _ h1)
  · exact he.elim
  · rename_i x hx
    unfold panR at he
    split at he
    · rename_i t u hu
      rw [hx] at hop2
      have hxo : opdOk x = true := by simpa [Op.operands] using hop2
      have ex := ev_rel (M.G.mono M.E.z) M.T x hxo
      rw [hu] at ex
      obtain ⟨ex, -⟩ := s_rel ex
      have hrun : (execOp a.eval o).run C.P w = .halt (.panic (.iface t u)) w := by simp [execOp, hx, ex, Instr.panic]
      unfold Oper.wp
      rw [hrun]
      exact ⟨.pan _, τ, h, φ, ⟨_, rfl, mk_s rfl⟩, M.R, M.E.mono M.n, Nat.le_trans M.n M.st.1, M.T, M.N, Dfs.refl, semK_pan he⟩
    · exact he.elim
  · exact fin (opW_sound hop2 R1 G1 M.T he) fun v h' q => ih _ _ _ q

def Each (C : Cx) (N n0 : Nat) (Q : QT) (h0 : H) (exc : List Nat) (ops : Array Oper) (i fuel : Nat) (listed : Array Bool) (nw : List Nat) (τ : Tau) (h : H) : Prop :=
  ∀ S w0 φs ws φ a w, Mid C N n0 h0 exc S w0 φs ws φ a w nw τ h →
    wpOp C.P ops (Post N n0 S w0 φs (C.ml, a.defers) Q) i (fun a' w' => SW ws φs h0 exc w' ∧ wpAnyH C.P .any ops (Post N n0 S w0 φs (C.ml, a.defers) Q) (SW ws φs h0 exc) fuel (listed.setIfInBounds i true) a' w') a w

theorem guardD_split {j : Nat} {want : Bool} {b : Option Bool} {yes no skip : Prop} (h : guardD yes no skip want b) : (∃ b', b = some b' ∧ (b' = want → yes) ∧ (¬ b' = want → no)) ∨ skip := by
  unfold guardD at h
  split at h
  · rename_i b'; exact .inl ⟨b', rfl, h.1, fun e => h.2 (by simpa using e)⟩
  · rename_i b'; exact .inl ⟨b', rfl, h.2, fun e => h.1 (by simpa using e)⟩
  · exact .inr h

theorem node_sound (hQ : PanFree Q) (hk : k.all (itOk N) = true) (hops : ops.all (opOk N) = true) (hsel : Region.noSelect ops = true) {i fuel : Nat} {listed : Array Bool} {RR : List Nat → Tau → H → Prop}
    (ih : ∀ nw τ h, RR nw τ h → WD C N n0 (SemK C N n0 Q k) h0 exc ops fuel (listed.setIfInBounds i true) nw τ h)
    (hr : nodeW C N n0 Q k h0 exc ops fuel (listed.setIfInBounds i true) RR nw τ h .eff (ops.toList[i]?)) : Each C N n0 (SemK C N n0 Q k) h0 exc ops i fuel listed nw τ h := by
  intro S w0 φs ws φ a w M
  cases hoi' : ops.toList[i]? with
  | none => rw [hoi'] at hr; exact hr.elim
  | some o =>
    rw [hoi'] at hr
    have hoi : ops[i]? = some o := by rw [← Array.getElem?_toList]; exact hoi'
    have hok : opOk N o = true := Array.all_eq_true_iff_forall_mem.1 hops o (Array.mem_of_getElem? hoi)
    have hdst := hok
    simp only [opOk, Bool.and_eq_true] at hdst
    have hallT : ops.toList.all (opOk N) = true := by rw [Array.all_toList]; exact hops
    obtain ⟨d, op, ty, pos, after, g⟩ := o
    unfold wpOp
    simp only [hoi]
    cases g with
    | none =>
      have hw : Region.wanted ⟨d, op, ty, pos, after, none⟩ (yielded ops a.tmps) = true := by simp [Region.wanted]
      simp only [hw, if_true]
      exact .inl (eff_sound hQ hk hops hsel hok (i := i) ih M hr)
    | some jw =>
      obtain ⟨j, want⟩ := jw
      simp only [nodeW] at hr
      rcases guardD_split (j := j) hr with ⟨b, hb, h1, h2⟩ | ⟨hu, q⟩
      rotate_left
      · have hy := guard_und M.T M.N hallT hu
        rw [Array.toArray_toList] at hy
        have hw : Region.wanted ⟨d, op, ty, pos, after, some (j, want)⟩ (yielded ops a.tmps) = false := by simp [Region.wanted, hy]
        simp only [hw, Bool.false_eq_true, if_false]
        obtain ⟨t1, t2, t3⟩ := put_rel (o := ⟨d, op, ty, pos, after, some (j, want)⟩) (v := undef) (x := .tup []) M.T M.N hdst.1 (.inl und_rel)
        have M' : Mid C N n0 h0 exc S w0 φs ws φ (a.put d undef) w (addN d nw) (upo d (.tup []) τ) h := ⟨M.G, M.Rs, M.E, M.R, M.st, M.n, t1, restr_put d M.To, t2, M.S⟩
        exact M'.wd (ih _ _ _ q)
      have hy := guard_yields M.T M.N hallT hb
      rw [Array.toArray_toList] at hy
      by_cases e : b = want
      · have hw : Region.wanted ⟨d, op, ty, pos, after, some (j, want)⟩ (yielded ops a.tmps) = true := by simp [Region.wanted, hy, e]
        simp only [hw, if_true]
        have q := h1 e
        rw [gSet_want hb e] at q
        exact .inl (eff_sound hQ hk hops hsel hok (i := i) ih M q)
      · have hw : Region.wanted ⟨d, op, ty, pos, after, some (j, want)⟩ (yielded ops a.tmps) = false := by simp [Region.wanted, hy, e]
        simp only [hw, Bool.false_eq_true, if_false]
        have q := h2 e
        rw [gSet_not hb e] at q
        obtain ⟨t1, t2, t3⟩ := put_rel (o := ⟨d, op, ty, pos, after, some (j, want)⟩) (v := undef) (x := .tup []) M.T M.N hdst.1 (.inl und_rel)
        have M' : Mid C N n0 h0 exc S w0 φs ws φ (a.put d undef) w (addN d nw) (upo d (.tup []) τ) h := ⟨M.G, M.Rs, M.E, M.R, M.st, M.n, t1, restr_put d M.To, t2, M.S⟩
        exact M'.wd (ih _ _ _ q)

theorem first_sound (hQ : PanFree Q) (hops : ops.all (opOk N) = true) (hsel : Region.noSelect ops = true) {i fuel : Nat} {listed : Array Bool} {RR : List Nat → Tau → H → Prop} {Q' : QT} (hQ' : PanFree Q') (md : Md) (hmd : ∀ x, md = x → x = .old ∨ x = .new)
    (hfree : freeOk ops listed i = true) (ih : ∀ nw τ h, RR nw τ h → WD C N n0 Q' h0 exc ops fuel (listed.setIfInBounds i true) nw τ h)
    (hr : nodeW C N n0 Q k h0 exc ops fuel (listed.setIfInBounds i true) RR nw τ h md (ops.toList[i]?)) : WD C N n0 Q' h0 exc ops (fuel + 1) listed nw τ h := by
  intro S w0 φs ws φ a w G Rs E R hst hn T To hN hS
  have M : Mid C N n0 h0 exc S w0 φs ws φ a w nw τ h := ⟨G, Rs, E, R, hst, hn, T, To, hN, hS⟩
  simp only [freeOk, Bool.and_eq_true] at hfree
  cases hoi' : ops.toList[i]? with
  | none => rw [hoi'] at hr; exact hr.elim
  | some o =>
    rw [hoi'] at hr
    have hoi : ops[i]? = some o := by rw [← Array.getElem?_toList]; exact hoi'
    have hok : opOk N o = true := Array.all_eq_true_iff_forall_mem.1 hops o (Array.mem_of_getElem? hoi)
    have hdst := hok
    simp only [opOk, Bool.and_eq_true] at hdst
    have hallT : ops.toList.all (opOk N) = true := by rw [Array.all_toList]; exact hops
    have act : Region.wanted o (yielded ops a.tmps) = true → actW C N n0 Q k h0 exc ops fuel (listed.setIfInBounds i true) RR o.dst nw τ h o.op md →
        wpAnyH C.P .any ops (Post N n0 S w0 φs (C.ml, a.defers) Q') (SW ws φs h0 exc) (fuel + 1) listed a w := by
      intro hw ha
      cases md with
      | eff => rcases hmd _ rfl with q | q <;> cases q
      | old =>
        obtain ⟨x, v, q1, q2, q3⟩ := oldW_sound hok G Rs To ha
        obtain ⟨t1, t2, t3⟩ := put_rel (o := o) T hN hdst.1 (.inl (q3.ext (Rs.ext E)))
        refine wpAnyH_take hoi hsel hfree.1 hfree.2 (fun c a' w' p => post_panic hQ' c a' w' _ _ p) (v := v) (.inl ⟨hw, fun w hw => q2 w hw⟩) hS ?_
        have M' : Mid C N n0 h0 exc S w0 φs ws φ (a.put o.dst v) w nw (upo o.dst x τ) h := ⟨G, Rs, E, R, hst, hn, t1, restr_old o.dst hdst.1 hN q3 To, t2, hS⟩
        exact (M'.wd (ih _ _ _ q1)).2
      | new =>
        obtain ⟨x, v, q1, q2, q3⟩ := newW_sound hok (G.mono E.z) R T ha
        obtain ⟨t1, t2, t3⟩ := put_rel (o := o) T hN hdst.1 (.inl q3)
        refine wpAnyH_take hoi hsel hfree.1 hfree.2 (fun c a' w' p => post_panic hQ' c a' w' _ _ p) (v := v) (.inl ⟨hw, fun w _ => q2 w⟩) hS ?_
        have M' : Mid C N n0 h0 exc S w0 φs ws φ (a.put o.dst v) w (addN o.dst nw) (upo o.dst x τ) h := ⟨G, Rs, E, R, hst, hn, t1, restr_put o.dst To, t2, hS⟩
        exact (M'.wd (ih _ _ _ q1)).2
    obtain ⟨d, op, ty, pos, after, g⟩ := o
    cases g with
    | none => exact act (by simp [Region.wanted]) hr
    | some jw =>
      obtain ⟨j, want⟩ := jw
      simp only [nodeW] at hr
      rcases guardD_split (j := j) hr with ⟨b, hb, h1, h2⟩ | ⟨hu, q⟩
      rotate_left
      · have hy := guard_und T hN hallT hu
        rw [Array.toArray_toList] at hy
        have hw : Region.wanted ⟨d, op, ty, pos, after, some (j, want)⟩ (yielded ops a.tmps) = false := by simp [Region.wanted, hy]
        obtain ⟨t1, t2, t3⟩ := put_rel (o := ⟨d, op, ty, pos, after, some (j, want)⟩) (v := undef) (x := .tup []) T hN hdst.1 (.inl und_rel)
        refine wpAnyH_take hoi hsel hfree.1 hfree.2 (fun c a' w' p => post_panic hQ' c a' w' _ _ p) (v := undef) (.inr ⟨hw, rfl⟩) hS ?_
        have M' : Mid C N n0 h0 exc S w0 φs ws φ (a.put d undef) w (addN d nw) (upo d (.tup []) τ) h := ⟨G, Rs, E, R, hst, hn, t1, restr_put d To, t2, hS⟩
        exact (M'.wd (ih _ _ _ q)).2
      have hy := guard_yields T hN hallT hb
      rw [Array.toArray_toList] at hy
      by_cases e : b = want
      · have q := h1 e
        rw [gSet_want hb e] at q
        exact act (by simp [Region.wanted, hy, e]) q
      · have hw : Region.wanted ⟨d, op, ty, pos, after, some (j, want)⟩ (yielded ops a.tmps) = false := by simp [Region.wanted, hy, e]
        have q := h2 e
        rw [gSet_not hb e] at q
        obtain ⟨t1, t2, t3⟩ := put_rel (o := ⟨d, op, ty, pos, after, some (j, want)⟩) (v := undef) (x := .tup []) T hN hdst.1 (.inl und_rel)
        refine wpAnyH_take hoi hsel hfree.1 hfree.2 (fun c a' w' p => post_panic hQ' c a' w' _ _ p) (v := undef) (.inr ⟨hw, rfl⟩) hS ?_
        have M' : Mid C N n0 h0 exc S w0 φs ws φ (a.put d undef) w (addN d nw) (upo d (.tup []) τ) h := ⟨G, Rs, E, R, hst, hn, t1, restr_put d To, t2, hS⟩
        exact (M'.wd (ih _ _ _ q)).2

theorem RunD_both (hQ : PanFree Q) (hk : k.all (itOk N) = true) (hops : ops.all (opOk N) = true) (hsel : Region.noSelect ops = true) :
    ∀ (td : TD) (pre : List Nat) (fuel : Nat) (listed : Array Bool) (nw : List Nat) (τ : Tau) (h : H), drawOk ops pre listed td = true → RunD C N n0 m Q k h0 exc ops fuel listed td nw τ h →
      (pre = [] → WD C N n0 (SemK C N n0 Q k) h0 exc ops fuel listed nw τ h) ∧
      (∀ fuel', fuel = fuel' + 1 → pre ≠ [] → ∀ j ∈ Region.ready .any ops listed, j ∉ pre → Each C N n0 (SemK C N n0 Q k) h0 exc ops j fuel' listed nw τ h) ∧
      (pre ≠ [] → fuel ≠ 0 ∧ Region.ready .any ops listed ≠ [])
  | .done, pre, fuel, listed, nw, τ, h, hd, hr => by
    simp only [drawOk, Bool.and_eq_true, List.isEmpty_iff] at hd
    refine ⟨fun _ => ?_, fun _ _ hp => absurd hd.1 hp, fun hp => absurd hd.1 hp⟩
    intro S w0 φs ws φ a w G Rs E R hst hn T To hN hS
    have hr' : Run C N n0 m Q k τ h := by unfold RunD at hr; exact hr
    exact wpAnyH_done hd.2 ⟨.normal, τ, h, φ, rfl, R, E.mono hn, Nat.le_trans hn hst.1, T, hN, Dfs.refl, Run_sound m Q k τ h hk hr'⟩ fuel
  | .old i td, pre, 0, listed, nw, τ, h, hd, hr => by simp only [RunD] at hr
  | .new i td, pre, 0, listed, nw, τ, h, hd, hr => by simp only [RunD] at hr
  | .go i td, pre, 0, listed, nw, τ, h, hd, hr => by simp only [RunD] at hr
  | .or i td r, pre, 0, listed, nw, τ, h, hd, hr => by simp only [RunD] at hr
  | .old i td, pre, fuel + 1, listed, nw, τ, h, hd, hr => by
    simp only [drawOk, Bool.and_eq_true, List.isEmpty_iff] at hd
    obtain ⟨⟨hpre, hd1⟩, hd2⟩ := hd
    refine ⟨fun _ => ?_, fun _ _ hp => absurd hpre hp, fun hp => absurd hpre hp⟩
    simp only [RunD] at hr
    exact first_sound hQ hops hsel (panFree_semK hQ k) .old (fun x e => .inl e.symm) hd1 (fun nw τ h q => (RunD_both hQ hk hops hsel td [] fuel (listed.setIfInBounds i true) nw τ h hd2 q).1 rfl) hr
  | .new i td, pre, fuel + 1, listed, nw, τ, h, hd, hr => by
    simp only [drawOk, Bool.and_eq_true, List.isEmpty_iff] at hd
    obtain ⟨⟨hpre, hd1⟩, hd2⟩ := hd
    refine ⟨fun _ => ?_, fun _ _ hp => absurd hpre hp, fun hp => absurd hpre hp⟩
    simp only [RunD] at hr
    exact first_sound hQ hops hsel (panFree_semK hQ k) .new (fun x e => .inr e.symm) hd1 (fun nw τ h q => (RunD_both hQ hk hops hsel td [] fuel (listed.setIfInBounds i true) nw τ h hd2 q).1 rfl) hr
  | .go i td, pre, fuel + 1, listed, nw, τ, h, hd, hr => by
    simp only [drawOk, Bool.and_eq_true, beq_iff_eq] at hd
    obtain ⟨hd1, hd2⟩ := hd
    simp only [RunD] at hr
    have each := node_sound hQ hk hops hsel (fun nw τ h q => (RunD_both hQ hk hops hsel td [] fuel (listed.setIfInBounds i true) nw τ h hd2 q).1 rfl) hr
    refine ⟨fun hp => ?_, fun fuel' hf hp j hj hnj => ?_, fun hp => ⟨by omega, by rw [hd1]; simp⟩⟩
    · subst hp
      intro S w0 φs ws φ a w G Rs E R hst hn T To hN hS
      refine wpAnyH_all hd1 (by simp) fun j hj => ?_
      simp only [List.nil_append, List.mem_singleton] at hj
      subst hj
      exact each S w0 φs ws φ a w ⟨G, Rs, E, R, hst, hn, T, To, hN, hS⟩
    · obtain rfl : fuel = fuel' := by omega
      rw [hd1] at hj
      simp only [List.mem_append, List.mem_singleton] at hj
      rcases hj with hj | rfl
      · exact absurd hj hnj
      · exact each
  | .or i td r, pre, fuel + 1, listed, nw, τ, h, hd, hr => by
    simp only [drawOk, Bool.and_eq_true] at hd
    obtain ⟨hd1, hd2⟩ := hd
    simp only [RunD] at hr
    obtain ⟨hr1, hr2⟩ := hr
    obtain ⟨-, rest, hne⟩ := RunD_both hQ hk hops hsel r (pre ++ [i]) (fuel + 1) listed nw τ h hd2 hr2
    have hne2 := hne (by simp)
    have each := node_sound hQ hk hops hsel (fun nw τ h q => (RunD_both hQ hk hops hsel td [] fuel (listed.setIfInBounds i true) nw τ h hd1 q).1 rfl) hr1
    have all : ∀ j ∈ Region.ready .any ops listed, j ∉ pre → Each C N n0 (SemK C N n0 Q k) h0 exc ops j fuel listed nw τ h := by
      intro j hj hnj
      by_cases e : j = i
      · subst e; exact each
      · exact rest fuel rfl (by simp) j hj (by simp [hnj, e])
    refine ⟨fun hp => ?_, fun fuel' hf hp j hj hnj => ?_, fun hp => ⟨by omega, hne2.2⟩⟩
    · subst hp
      intro S w0 φs ws φ a w G Rs E R hst hn T To hN hS
      exact wpAnyH_all rfl hne2.2 fun j hj => all j hj (by simp) S w0 φs ws φ a w ⟨G, Rs, E, R, hst, hn, T, To, hN, hS⟩
    · obtain rfl : fuel = fuel' := by omega
      exact all j hj hnj

theorem DrawThen.of {id : Nat} (m : Nat) (exc : List Nat) (td : TD) (hQ : PanFree Q) (hm : C.P.follows .mixedOrders = true) (hsel : Region.noSelect ops = true)
    (hd : drawOk ops [] (Array.replicate ops.size false) td = true) (hr : RunD C N n0 m Q k h exc ops ops.size (Array.replicate ops.size false) td [] τ h) (hrd : C.rd = none := by rfl) : DrawThen C N n0 Q id ops k τ h := by
  intro hops hk S w0 φ a w G R hn T hN
  refine wpV_of ?_
  rw [Cx.fc_wide hrd]
  refine wpIn_wide.2 ?_
  have R' : Rel S w0 φ h { w with drawn := w.drawn + 1 } := R.grow ⟨rfl, rfl, rfl, Nat.le_refl _, fun _ _ _ => rfl⟩
  refine wp_region_held (S := SW { w with drawn := w.drawn + 1 } φ h exc) hm ?_
  refine (RunD_both hQ hk hops hsel td [] _ _ [] τ h hd hr).1 rfl S w0 φ _ φ a _ G R' (ExtN.refl ..) R' ⟨Nat.le_refl _, fun _ _ => rfl⟩ hn T (by rw [restr_nil]; exact T) hN ⟨?_, fun _ _ _ _ _ _ => rfl⟩
  obtain ⟨F, RF⟩ := R'
  exact RF.zok

def dcallQ (C : Cx) (N n0 m : Nat) (Q : QT) (k : List It) (h0 : H) (exc : List Nat) (ops : Array Oper) (fuel : Nat) (listed : Array Bool) (td : TD) (d : Option Nat) (nw : List Nat) (τ : Tau) (h : H) : Res → H → Prop
  | .ret v, h' => RunD C N n0 m Q k h0 exc ops fuel listed td (addN d nw) (upo d v τ) (show_ h0 exc h h')
  | .pan v, h' => Q (.pan v) τ (show_ h0 exc h h')
theorem DCall.of {fuel : Nat} {listed : Array Bool} {f : Nat} {args : List V} {d : Option Nat} {R : Res → H → Prop} (m : Nat) (td : TD) (hd : drawOk ops [] listed td = true) (hc : CallsV C f args (hide h0 exc h) R)
    (hr : ∀ r h', R r h' → dcallQ C N n0 m Q k h0 exc ops fuel listed td d nw τ h r h') : DCall C N n0 Q h0 exc ops fuel listed k f args d nw τ h := by
  intro hQ hk hops hsel
  refine CallsV.mono hc fun r h' q => ?_
  have := hr r h' q
  cases r with
  | ret v => exact (RunD_both hQ hk hops hsel td [] _ _ _ _ _ hd this).1 rfl
  | pan v => exact this
theorem DCopy.of {fuel : Nat} {listed : Array Bool} {s x : V} {t u : TypeId} {d : Option Nat} {R : V → H → Prop} (m : Nat) (td : TD) (hd : drawOk ops [] listed td = true) (hc : CopyV C (hide h0 exc h) s x t u R)
    (hr : ∀ v h', R v h' → RunD C N n0 m Q k h0 exc ops fuel listed td (addN d nw) (upo d v τ) (show_ h0 exc h h')) : DCopy C N n0 Q h0 exc ops fuel listed k s x t u d nw τ h := by
  intro hQ hk hops hsel S w0 φ w sv xv ty R1 r1 r2
  obtain ⟨v, w', φ', r, h', q1, q2, q3, q4, q5, q6⟩ := hc S w0 φ w sv xv ty R1 r1 r2
  exact ⟨v, w', φ', r, h', q1, q2, q3, q4, q5, (RunD_both hQ hk hops hsel td [] _ _ _ _ _ hd (hr _ _ q6)).1 rfl⟩

end
end Go.W
/- part W23 -/
set_option linter.unusedVariables false
set_option linter.unusedSimpArgs false
namespace Go.W
open Go Go.RowKit

section
variable {C : Cx} {N n0 : Nat}
def fillS (place : Nat → Option (Nat × Nat)) (cells : List V) (rest : List (Nat × V)) : Option (Nat × Nat) → Option (List V) → Option (List V)
  | some (off, size), some xs => if xs.length = size ∧ off + xs.length ≤ cells.length then fillV place (wrL cells off xs) rest else none
  | _, _ => none
theorem fillV_cons (place : Nat → Option (Nat × Nat)) (cells : List V) (i : Nat) (v : V) (rest : List (Nat × V)) : fillV place cells ((i, v) :: rest) = fillS place cells rest (place i) (cellsOf v) := by
  simp only [fillV]; unfold fillS; rfl
def fillES (n : Nat) (els : List (List V)) (i : Nat) (rest : List (Nat × V)) : Option (List V) → Option (List (List V))
  | some xs => if xs.length = n ∧ i < els.length then fillE n (els.set i xs) rest else none
  | none => none
theorem fillE_cons (n : Nat) (els : List (List V)) (i : Nat) (v : V) (rest : List (Nat × V)) : fillE n els ((i, v) :: rest) = fillES n els i rest (cellsOf v) := by
  simp only [fillE]; unfold fillES; rfl
def andO (p b : Bool) (k : Bool) : Option Bool → Option Bool
  | some r => if k = true then some (p && r) else none
  | none => none
theorem andO_some (p b k r : Bool) : andO p b k (some r) = if k = true then some (p && r) else none := rfl
theorem eqCells_int (k : IntKind) (a : Int) (xs : List V) (k' : IntKind) (b : Int) (ys : List V) : eqCells (.s (.int k a) :: xs) (.s (.int k' b) :: ys) = andO (decide (a = b)) true (decide (k = k')) (eqCells xs ys) := by
  simp only [eqCells]; unfold andO; cases eqCells xs ys <;> simp
theorem eqCells_str (a b : ByteArray) (xs ys : List V) : eqCells (.s (.string a) :: xs) (.s (.string b) :: ys) = andO (decide (a = b)) true true (eqCells xs ys) := by
  simp only [eqCells]; unfold andO; cases eqCells xs ys <;> simp
theorem eqCells_bool (a b : Bool) (xs ys : List V) : eqCells (.s (.bool a) :: xs) (.s (.bool b) :: ys) = andO (a == b) true true (eqCells xs ys) := by
  simp only [eqCells]; unfold andO; cases eqCells xs ys <;> simp
def bytesS : Option UInt8 → Option (List UInt8) → Option (List UInt8)
  | some b, some l => some (b :: l)
  | _, _ => none
theorem bytesOf_cons (el : List V) (r : List (List V)) : bytesOf (el :: r) = bytesS (byteOf el) (bytesOf r) := by simp only [bytesOf]; unfold bytesS; rfl
def scalS (v : Value) : Option (List Value) → Option (List Value)
  | some l => some (v :: l)
  | none => none
theorem scal_cons (v : Value) (r : List V) : scal (.s v :: r) = scalS v (scal r) := by simp only [scal]; unfold scalS; rfl
def frzL (n0 k : Nat) (h : H) : Option Nat → Option (List (List V)) → V
  | some n, some els => .f n (els.map fun el => el.map (frz n0 k h))
  | _, _ => .any
def frzP (n0 k : Nat) (h : H) (o : Nat) : Option (List V) → V
  | some el => .pd ((el.drop o).map (frz n0 k h))
  | none => .any
theorem frz_sl (n0 k : Nat) (h : H) (b off len cap : Nat) : frz n0 (k + 1) h (.sl b off len cap) = if b < n0 then .any else frzL n0 k h (strideB (h[b]?)) (elsOf off len (h[b]?)) := by
  simp only [frz]; unfold frzL; rfl
theorem frz_ptr (n0 k : Nat) (h : H) (b i o : Nat) : frz n0 (k + 1) h (.ptr b i o) = if b < n0 then .any else frzP n0 k h o (rdB (h[b]?) i) := by
  simp only [frz]; unfold frzP; rfl
def foldS2 (h : H) (b i o b1 : Nat) : Option V → H
  | some y => if nrs (elsB (h[b1]?)) = true ∧ b1 ≠ b then (wrH h b i o [y]).set b1 Blk.dead else h
  | none => h
def foldS1 (h : H) (b i o : Nat) (x : V) : Option Nat → H
  | some b1 => foldS2 h b i o b1 (ownOf x (h[b1]?))
  | none => h
theorem foldK_some (h : H) (b i o : Nat) (x : V) : foldK h b i o (some x) = foldS1 h b i o x (refB x) := by
  simp only [foldK]; unfold foldS1 foldS2; rfl

theorem up_at (d : Nat) (v : V) (τ : Tau) (t : Nat) : up d v τ t = if t = d then v else τ t := rfl
theorem argsT_at (v : V) (r : List V) (t : Nat) : argsT (v :: r) (t + 1) = argsT r t := rfl
theorem argsT_zero (v : V) (r : List V) : argsT (v :: r) 0 = v := rfl
theorem dstOf_zero (d : Option Nat) (op : Op) (ty : TypeId) (pos : String) (after g) (r : List Oper) : dstOf (⟨d, op, ty, pos, after, g⟩ :: r) 0 = d := by simp [dstOf]
theorem dstOf_succ (o : Oper) (r : List Oper) (j : Nat) : dstOf (o :: r) (j + 1) = dstOf r j := by simp [dstOf]
theorem gV_at (all : List Oper) (τ : Tau) (j : Nat) : gV all τ j = gW τ (dstOf all j) := rfl
theorem gSet_at (all : List Oper) (j : Nat) (b : Bool) (τ : Tau) : gSet all j b τ = gS b τ (dstOf all j) := rfl
theorem wrH_at (h : H) (b i o : Nat) (xs : List V) : wrH h b i o xs = h.set b (wrB (h[b]?) i o xs) := rfl
theorem runK_at (R : List It → Tau → H → Prop) (items : List It) (d : Option Nat) (τ : Tau) (v : V) (h : H) : RunK R items d τ v h = R items (upo d v τ) h := rfl
theorem effN_at (h0 : H) (exc : List Nat) (R : List Nat → Tau → H → Prop) (d : Option Nat) (nw : List Nat) (τ : Tau) (h : H) (v : V) (h' : H) : effN h0 exc R d nw τ h v h' = R (addN d nw) (upo d v τ) (show_ h0 exc h h') := rfl
theorem oldN_at (R : List Nat → Tau → H → Prop) (d : Option Nat) (nw : List Nat) (τ : Tau) (h : H) (v : V) (h' : H) : oldN R d nw τ h v h' = R nw (upo d v τ) h := rfl
theorem newN_at (R : List Nat → Tau → H → Prop) (d : Option Nat) (nw : List Nat) (τ : Tau) (h : H) (v : V) (h' : H) : newN R d nw τ h v h' = R (addN d nw) (upo d v τ) h := rfl
def appE (K : V → H → Prop) (h : H) (C : Cx) (t u : TypeId) (s x : V) : Option TypeId → Prop
  | some e => appF K h C t u e s x (tK C.P u)
  | none => False
theorem appW_at (K : V → H → Prop) (h : H) (C : Cx) (t u : TypeId) (s x : V) : appW K h C t u s x = appE K h C t u s x (tElem C.P t) := by unfold appW appE; rfl
theorem mem_nil (t : Nat) : ([] : List Nat).contains t = false := rfl
theorem mem_cons (a : Nat) (l : List Nat) (t : Nat) : (a :: l).contains t = (t == a || l.contains t) := rfl
theorem restr_at (nw : List Nat) (τ : Tau) (t : Nat) : restr nw τ t = if nw.contains t = true then .any else τ t := rfl
theorem hid_at (n : Nat) (exc : List Nat) (i : Nat) : hid n exc i = (decide (i < n) && !exc.contains i) := rfl
theorem hide_at (h0 : H) (exc : List Nat) (h : H) : hide h0 exc h = mask h0.length exc 0 h := rfl
theorem show_at (h0 : H) (exc : List Nat) (h h' : H) : show_ h0 exc h h' = unmask h0.length exc 0 h h' := rfl
theorem rnB_at (r : Nat → Nat) (els : List (List V)) (n cap : Nat) (l : Bool) : rnB r ⟨els, n, cap, l⟩ = ⟨els.map fun el => el.map (rnC r), n, cap, l⟩ := rfl
theorem foldC_at (h : H) (b i o : Nat) : foldC h b i o = foldK h b i o (rdC (rdB (h[b]?) i) o) := rfl
theorem emb_at (l : List Nat) (L b : Nat) : emb l L b = (l[b]?).getD (L + (b - l.length)) := rfl
theorem killFrom_at (n0 : Nat) (h : H) : killFrom n0 h = h.take n0 ++ (h.drop n0).map fun _ => Blk.dead := rfl
theorem cutS_at (K : V → H → Prop) (h : H) (s : ByteArray) (l r : Int) : cutS K h s l r = ((0 ≤ l ∧ l ≤ r ∧ r ≤ s.size) ∧ K (.s (.string (s.extract l.toNat r.toNat))) h) := rfl
theorem cutF_at (K : V → H → Prop) (h : H) (n : Nat) (els : List (List V)) (l r : Int) : cutF K h n els l r = ((0 ≤ l ∧ l ≤ r ∧ r ≤ els.length) ∧ K (.f n ((els.drop l.toNat).take (r.toNat - l.toNat))) h) := rfl
theorem nm_at (l : List Nat) (big b : Nat) : nm l big b = (l[b]?).getD big := rfl
end
def gXW (τ : Tau) : Option Nat → V
  | some t => τ t
  | none => .any
def gX (all : List Oper) (τ : Tau) (j : Nat) : V := gXW τ (dstOf all j)
theorem gX_at (all : List Oper) (τ : Tau) (j : Nat) : gX all τ j = gXW τ (dstOf all j) := rfl
theorem gXW_some (τ : Tau) (t : Nat) : gXW τ (some t) = τ t := rfl
theorem gX_cases (all : List Oper) (τ : Tau) (j : Nat) : (∃ b, gX all τ j = .s (.bool b) ∧ gV all τ j = some b) ∨ (gX all τ j = .tup [] ∧ gV all τ j = none ∧ gU all τ j) ∨ ((∀ b, gX all τ j ≠ .s (.bool b)) ∧ gX all τ j ≠ .tup [] ∧ gV all τ j = none ∧ ¬ gU all τ j) := by
  unfold gX gV gU
  cases dstOf all j with
  | none => exact .inr (.inr ⟨fun b => by simp [gXW], by simp [gXW], rfl, id⟩)
  | some t =>
    simp only [gXW, gW, undW]
    by_cases h : ∃ b, τ t = .s (.bool b)
    · obtain ⟨b, h⟩ := h; exact .inl ⟨b, h, by rw [h]; rfl⟩
    · by_cases h2 : τ t = .tup []
      · exact .inr (.inl ⟨h2, by rw [h2]; rfl, by rw [h2]; trivial⟩)
      · refine .inr (.inr ⟨fun b e => h ⟨b, e⟩, h2, ?_, ?_⟩)
        · unfold boolOf; split
          · rename_i b e; exact absurd ⟨b, e⟩ h
          · rfl
        · unfold undB; split
          · rename_i e; exact absurd e h2
          · exact id
def guardV (R : List It → Tau → H → Prop) (all os : List Oper) (k : List It) (d : Option Tmp) (o : Oper) (j : Nat) (τ : Tau) (h : H) : Bool → V → Prop
  | true, .s (.bool b) => bcase b (R (.ops all (o :: os) :: k) (gSet all j true τ) h) (R (.ops all os :: k) (upo d (.tup []) (gSet all j false τ)) h)
  | false, .s (.bool b) => bcase b (R (.ops all os :: k) (upo d (.tup []) (gSet all j true τ)) h) (R (.ops all (o :: os) :: k) (gSet all j false τ) h)
  | _, .tup [] => R (.ops all os :: k) (upo d (.tup []) τ) h
  | _, _ => False
theorem guardR_g (R : List It → Tau → H → Prop) (all os : List Oper) (k : List It) (d : Option Tmp) (o : Oper) (j : Nat) (τ : Tau) (h : H) (want : Bool) : guardR R all os k d o j τ h want (gV all τ j) = guardV R all os k d o j τ h want (gX all τ j) := by
  rcases gX_cases all τ j with ⟨b, e1, e2⟩ | ⟨e1, e2, e3⟩ | ⟨e1, e2, e3, e4⟩
  · rw [e1, e2]; cases want <;> rfl
  · rw [e1, e2]; cases want <;> simp [guardR, guardV, e3]
  · rw [e3]
    have : guardV R all os k d o j τ h want (gX all τ j) = False := by
      unfold guardV; split
      · rename_i b e; exact absurd e (e1 b)
      · rename_i b e; exact absurd e (e1 b)
      · rename_i e; exact absurd e e2
      · rfl
    rw [this]; cases want <;> simp [guardR, e4]
section
variable (C : Cx) (N n0 : Nat) (Q : QT) (k : List It) (h0 : H) (exc : List Nat) (ops : Array Oper)
def guardE (fuel : Nat) (listed : Array Bool) (R : List Nat → Tau → H → Prop) (d : Option Tmp) (nw : List Nat) (τ : Tau) (h : H) (op : Op) (md : Md) (j : Nat) : Bool → V → Prop
  | true, .s (.bool b) => bcase b (actW C N n0 Q k h0 exc ops fuel listed R d nw (gSet ops.toList j true τ) h op md) (R (addN d nw) (upo d (.tup []) (gSet ops.toList j false τ)) h)
  | false, .s (.bool b) => bcase b (R (addN d nw) (upo d (.tup []) (gSet ops.toList j true τ)) h) (actW C N n0 Q k h0 exc ops fuel listed R d nw (gSet ops.toList j false τ) h op md)
  | _, .tup [] => R (addN d nw) (upo d (.tup []) τ) h
  | _, _ => False
theorem nodeW_g (fuel : Nat) (listed : Array Bool) (R : List Nat → Tau → H → Prop) (nw : List Nat) (τ : Tau) (h : H) (md : Md) (d : Option Tmp) (op : Op) (type : TypeId) (pos : String) (after : Array Edge) (j : Nat) (want : Bool) :
    nodeW C N n0 Q k h0 exc ops fuel listed R nw τ h md (some { dst := d, op := op, type := type, pos := pos, after := after, guard := some (j, want) }) = guardE C N n0 Q k h0 exc ops fuel listed R d nw τ h op md j want (gX ops.toList τ j) := by
  rw [nodeW]
  rcases gX_cases ops.toList τ j with ⟨b, e1, e2⟩ | ⟨e1, e2, e3⟩ | ⟨e1, e2, e3, e4⟩
  · rw [e1, e2]; cases want <;> rfl
  · rw [e1, e2]; cases want <;> simp [guardD, guardE, e3]
  · rw [e3]
    have : guardE C N n0 Q k h0 exc ops fuel listed R d nw τ h op md j want (gX ops.toList τ j) = False := by
      unfold guardE; split
      · rename_i b e; exact absurd e (e1 b)
      · rename_i b e; exact absurd e (e1 b)
      · rename_i e; exact absurd e e2
      · rfl
    rw [this]; cases want <;> simp [guardD, e4]
end
theorem guardV_t (R : List It → Tau → H → Prop) (all os : List Oper) (k : List It) (d : Option Nat) (o : Oper) (j : Nat) (τ : Tau) (h : H) (b : Bool) : guardV R all os k d o j τ h true (.s (.bool b)) = bcase b (R (.ops all (o :: os) :: k) (gSet all j true τ) h) (R (.ops all os :: k) (upo d (.tup []) (gSet all j false τ)) h) := rfl
theorem guardV_f (R : List It → Tau → H → Prop) (all os : List Oper) (k : List It) (d : Option Nat) (o : Oper) (j : Nat) (τ : Tau) (h : H) (b : Bool) : guardV R all os k d o j τ h false (.s (.bool b)) = bcase b (R (.ops all os :: k) (upo d (.tup []) (gSet all j true τ)) h) (R (.ops all (o :: os) :: k) (gSet all j false τ) h) := rfl
theorem guardV_u (R : List It → Tau → H → Prop) (all os : List Oper) (k : List It) (d : Option Nat) (o : Oper) (j : Nat) (τ : Tau) (h : H) (x : Bool) : guardV R all os k d o j τ h x (.tup []) = R (.ops all os :: k) (upo d (.tup []) τ) h := by cases x <;> rfl
theorem Run_g (C : Cx) (N n0 : Nat) (x : QT) (x_1 : Tau) (x_2 : H) (n : Nat) (all : List Oper) (d : Option Tmp) (op : Op) (ty : TypeId) (pos : String) (after : Array Edge) (j : Nat) (want : Bool) (os : List Oper) (k : List It) : Run C N n0 n.succ x (It.ops all ({ dst := d, op := op, type := ty, pos := pos, after := after, guard := some (j, want) } :: os) :: k) x_1 x_2 = guardV (Run C N n0 n x) all os k d { dst := d, op := op, type := ty, pos := pos, after := after, guard := none } j x_1 x_2 want (gX all x_1 j) := by
  rw [← guardR_g]; simp only [Run]
section
variable (C : Cx) (N n0 : Nat) (Q : QT) (k : List It) (h0 : H) (exc : List Nat) (ops : Array Oper) (fuel : Nat) (listed : Array Bool) (R : List Nat → Tau → H → Prop) (d : Option Tmp) (nw : List Nat) (τ : Tau) (h : H) (op : Op) (md : Md) (j : Nat)
theorem guardE_t (b : Bool) : guardE C N n0 Q k h0 exc ops fuel listed R d nw τ h op md j true (.s (.bool b)) = bcase b (actW C N n0 Q k h0 exc ops fuel listed R d nw (gSet ops.toList j true τ) h op md) (R (addN d nw) (upo d (.tup []) (gSet ops.toList j false τ)) h) := rfl
theorem guardE_f (b : Bool) : guardE C N n0 Q k h0 exc ops fuel listed R d nw τ h op md j false (.s (.bool b)) = bcase b (R (addN d nw) (upo d (.tup []) (gSet ops.toList j true τ)) h) (actW C N n0 Q k h0 exc ops fuel listed R d nw (gSet ops.toList j false τ) h op md) := rfl
theorem guardE_u (x : Bool) : guardE C N n0 Q k h0 exc ops fuel listed R d nw τ h op md j x (.tup []) = R (addN d nw) (upo d (.tup []) τ) h := by cases x <;> rfl
end
end Go.W
