/- A layer for walking through code on abstract values and an abstract heap: its definitions and their soundness; no condition. -/
import Derived.Test.YtpcgnmoogjahbaaVW
set_option linter.unusedVariables false
set_option linter.unusedSimpArgs false
namespace Go.VL
open Go Go.RowKit

/-- Either way of a truth value. -/
def bcase (b : Bool) (x y : Prop) : Prop := (b = true → x) ∧ (b = false → y)
theorem bcase_true (x y : Prop) : bcase true x y = x := by simp [bcase]
theorem bcase_false (x y : Prop) : bcase false x y = y := by simp [bcase]
theorem bcase_same (b : Bool) (x : Prop) : bcase b x x = x := by cases b <;> simp [bcase]
theorem bcase_of {b : Bool} {x y : Prop} (h1 : b = true → x) (h2 : b = false → y) : bcase b x y := ⟨h1, h2⟩
theorem bcase_dec {p : Prop} [Decidable p] {x y : Prop} (h1 : p → x) (h2 : ¬ p → y) : bcase (decide p) x y := ⟨fun h => h1 (of_decide_eq_true h), fun h => h2 (of_decide_eq_false h)⟩
theorem bcase_want_true {b : Bool} {x y : Prop} : ((b = true → x) ∧ (¬ b = true → y)) = bcase b x y := by cases b <;> simp [bcase]
theorem bcase_want_false {b : Bool} {x y : Prop} : ((b = false → x) ∧ (¬ b = false → y)) = bcase b y x := by cases b <;> simp [bcase]

section
variable {P : Program} {N n m : Nat} {Q : QT} {k : List It} {τ : Tau} {h : H}

/-- What comes behind an operation. -/
def RunK (P : Program) (N n : Nat) (Q : QT) (items : List It) (d : Option Nat) (τ : Tau) : V → H → Prop := fun v h' => Run P N n Q items (upo d v τ) h'
theorem runK_at (items : List It) (d : Option Nat) (v : V) : RunK P N n Q items d τ v h = Run P N n Q items (upo d v τ) h := by unfold RunK; rfl

theorem upo_some (d : Nat) (v : V) (τ : Tau) : upo (some d) v τ = up d v τ := by unfold upo; rfl
theorem upo_none (v : V) (τ : Tau) : upo none v τ = τ := by unfold upo; rfl
theorem up_at (d : Nat) (v : V) (τ : Tau) (i : Nat) : up d v τ i = if i = d then v else τ i := by unfold up; rfl
theorem ev_tmp (τ : Tau) (i : Nat) : ev τ (.tmp i) = τ i := by unfold ev; rfl
theorem ev_const (τ : Tau) (v : Value) : ev τ (.const v) = ofV v := by unfold ev; rfl
theorem ev_func (τ : Tau) (f : Nat) : ev τ (.func f) = .fn f [] := by unfold ev; rfl

theorem run_nil : Run P N (n + 1) Q [] τ h = Q .normal τ h := by rw [Run]
theorem run_blk (id : Nat) : Run P N (n + 1) Q (.blk id :: k) τ h = Run P N n Q k τ h := by rw [Run]
theorem run_done (all : List Oper) : Run P N (n + 1) Q (.ops all [] :: k) τ h = Run P N n Q k τ h := by rw [Run]
theorem run_skip : Run P N (n + 1) Q (.code .skip :: k) τ h = Run P N n Q k τ h := by rw [Run]
theorem run_label (l) : Run P N (n + 1) Q (.code (.label l) :: k) τ h = Run P N n Q k τ h := by rw [Run]
theorem run_seq (a b : Code) : Run P N (n + 1) Q (.code (.seq a b) :: k) τ h = Run P N n Q (.code a :: .code b :: k) τ h := by rw [Run]
theorem run_block (id : Nat) (c : Code) : Run P N (n + 1) Q (.code (.block id c) :: k) τ h = Run P N n Q (.code c :: .blk id :: k) τ h := by rw [Run]
theorem run_region (id : Nat) (ops : Array Oper) : Run P N (n + 1) Q (.code (.region id ops false) :: k) τ h = Run P N n Q (.ops ops.toList ops.toList :: k) τ h := by rw [Run]; simp
theorem run_draw (id : Nat) (ops : Array Oper) : Run P N (n + 1) Q (.code (.region id ops true) :: k) τ h = DrawThen P N Q id ops k τ h := by rw [Run]; simp
theorem run_loop (c : Code) : Run P N (n + 1) Q (.code (.loop c) :: k) τ h = LoopThen P N Q c k τ h := by rw [Run]
theorem run_exit (id : Nat) : Run P N (n + 1) Q (.code (.exit id) :: k) τ h = (match popTo id k with
    | some k' => Run P N n Q k' τ h
    | none => Q (.exit id) τ h) := by rw [Run]; rfl
theorem run_ret : Run P N (n + 1) Q (.code .ret :: k) τ h = Q .ret τ h := by rw [Run]
theorem run_cond (c : Operand) (x y : Code) : Run P N (n + 1) Q (.code (.cond c x y) :: k) τ h = (match ev τ c with
    | .s (.bool b) => bcase b (Run P N n Q (.code x :: k) τ h) (Run P N n Q (.code y :: k) τ h)
    | _ => False) := by rw [Run]; rfl

/-- An operation without a guard. -/
def opRun (P : Program) (N n : Nat) (Q : QT) (all os : List Oper) (k : List It) (d : Option Nat) (τ : Tau) (h : H) (op : Op) : Prop :=
  match op with
  | .call c => match c.callee with
    | .builtin b => match b with
      | .append => match c.args.toList, c.argTypes.toList with
        | [s, x], [t, u] => AppThen P N Q (ev τ s) (ev τ x) t u d (.ops all os :: k) τ h
        | _, _ => False
      | .copy => match c.args.toList, c.argTypes.toList with
        | [s, x], [t, u] => CopyThen P N Q (ev τ s) (ev τ x) t u d (.ops all os :: k) τ h
        | _, _ => False
      | .clear => match c.args.toList, c.argTypes.toList with
        | [s], [t] => ClearThen P N Q (ev τ s) t d (.ops all os :: k) τ h
        | _, _ => False
      | b => builtinW P τ h b c.args.toList c.argTypes.toList (RunK P N n Q (.ops all os :: k) d τ)
    | .value f => match ev τ f with
      | .fn f caps => CallThen P N Q f (c.args.toList.map (ev τ) ++ caps.map fun p => .ptr p.1 p.2) d (.ops all os :: k) τ h
      | _ => False
    | .invoke _ _ => False
  | .convert src dst x => if isConv P src dst then ConvThen P N Q src dst (ev τ x) d (.ops all os :: k) τ h
    else opW P τ h (.convert src dst x) (RunK P N n Q (.ops all os :: k) d τ)
  | .binOp op t x y u => if tAgg P t = some true then EqThen P N Q op t (ev τ x) (ev τ y) d (.ops all os :: k) τ h
    else opW P τ h (.binOp op t x y u) (RunK P N n Q (.ops all os :: k) d τ)
  | .panic x => match ev τ x with
    | .s (.iface t v) => Q (.pan (.s (.iface t v))) τ h
    | _ => False
  | op => opW P τ h op (RunK P N n Q (.ops all os :: k) d τ)

theorem run_op (all os : List Oper) (d : Option Nat) (op : Op) (ty : TypeId) (pos : String) (after) : Run P N (n + 1) Q (.ops all (⟨d, op, ty, pos, after, none⟩ :: os) :: k) τ h = opRun P N n Q all os k d τ h op := by
  rw [Run]; unfold opRun RunK; rfl
theorem run_guard_true (all os : List Oper) (d : Option Nat) (op : Op) (ty : TypeId) (pos : String) (after) (j : Nat) :
    Run P N (n + 1) Q (.ops all (⟨d, op, ty, pos, after, some (j, true)⟩ :: os) :: k) τ h = (match gV all τ j with
      | some b => bcase b (Run P N n Q (.ops all (⟨d, op, ty, pos, after, none⟩ :: os) :: k) (gSet all j true τ) h) (Run P N n Q (.ops all os :: k) (upo d .any (gSet all j false τ)) h)
      | none => False) := by
  rw [Run]
  simp only
  cases gV all τ j with
  | none => rfl
  | some b => exact bcase_want_true
theorem run_guard_false (all os : List Oper) (d : Option Nat) (op : Op) (ty : TypeId) (pos : String) (after) (j : Nat) :
    Run P N (n + 1) Q (.ops all (⟨d, op, ty, pos, after, some (j, false)⟩ :: os) :: k) τ h = (match gV all τ j with
      | some b => bcase b (Run P N n Q (.ops all os :: k) (upo d .any (gSet all j true τ)) h) (Run P N n Q (.ops all (⟨d, op, ty, pos, after, none⟩ :: os) :: k) (gSet all j false τ) h)
      | none => False) := by
  rw [Run]
  simp only
  cases gV all τ j with
  | none => rfl
  | some b => exact bcase_want_false

/-! Regions that draw and only read. -/
def RunPK (P : Program) (N m : Nat) (Q : QT) (k : List It) (all os : List Oper) (d : Option Nat) (τ : Tau) (h : H) : V → H → Prop := fun v _ => RunP P N m Q k all os (upo d v τ) h
theorem runPK_at (all os : List Oper) (d : Option Nat) (v : V) (h' : H) : RunPK P N m Q k all os d τ h v h' = RunP P N m Q k all os (upo d v τ) h := by unfold RunPK; rfl
theorem runP_nil (all : List Oper) : RunP P N m Q k all [] τ h = Run P N m Q k τ h := by rw [RunP]
theorem runP_op (all os : List Oper) (d : Option Nat) (op : Op) (ty : TypeId) (pos : String) (after) : RunP P N m Q k all (⟨d, op, ty, pos, after, none⟩ :: os) τ h = pureW P τ h ⟨d, op, ty, pos, after, none⟩ (RunPK P N m Q k all os d τ h) := by
  rw [RunP]; unfold RunPK; rfl
theorem runP_guard_true (all os : List Oper) (d : Option Nat) (op : Op) (ty : TypeId) (pos : String) (after) (j : Nat) :
    RunP P N m Q k all (⟨d, op, ty, pos, after, some (j, true)⟩ :: os) τ h = (match gV all τ j with
      | some b => bcase b (RunP P N m Q k all (⟨d, op, ty, pos, after, none⟩ :: os) (gSet all j true τ) h) (RunP P N m Q k all os (upo d .any (gSet all j false τ)) h)
      | none => False) := by
  rw [RunP]
  simp only
  cases gV all τ j with
  | none => rfl
  | some b => simp only [runP_op]; exact bcase_want_true
theorem runP_guard_false (all os : List Oper) (d : Option Nat) (op : Op) (ty : TypeId) (pos : String) (after) (j : Nat) :
    RunP P N m Q k all (⟨d, op, ty, pos, after, some (j, false)⟩ :: os) τ h = (match gV all τ j with
      | some b => bcase b (RunP P N m Q k all os (upo d .any (gSet all j true τ)) h) (RunP P N m Q k all (⟨d, op, ty, pos, after, none⟩ :: os) (gSet all j false τ) h)
      | none => False) := by
  rw [RunP]
  simp only
  cases gV all τ j with
  | none => rfl
  | some b => simp only [runP_op]; exact bcase_want_false

/-! Regions that draw. -/
variable {h0 : H} {exc : List Nat} {ops : Array Oper} {fuel : Nat} {listed : Array Bool} {td : TD}
def RunDF (P : Program) (N m : Nat) (Q : QT) (k : List It) (h0 : H) (exc : List Nat) (ops : Array Oper) (fuel : Nat) (listed : Array Bool) (td : TD) (d : Option Nat) (τ : Tau) (h : H) : V → H → Prop := fun v _ => RunD P N m Q k h0 exc ops fuel listed td (upo d v τ) h
theorem runDF_at (d : Option Nat) (v : V) (h' : H) : RunDF P N m Q k h0 exc ops fuel listed td d τ h v h' = RunD P N m Q k h0 exc ops fuel listed td (upo d v τ) h := by unfold RunDF; rfl
def RunDE (P : Program) (N m : Nat) (Q : QT) (k : List It) (h0 : H) (exc : List Nat) (ops : Array Oper) (fuel : Nat) (listed : Array Bool) (td : TD) (d : Option Nat) (τ : Tau) : V → H → Prop := fun v h' => RunD P N m Q k h0 exc ops fuel listed td (upo d v τ) h'
theorem runDE_at (d : Option Nat) (v : V) : RunDE P N m Q k h0 exc ops fuel listed td d τ v h = RunD P N m Q k h0 exc ops fuel listed td (upo d v τ) h := by unfold RunDE; rfl
def RunDS (P : Program) (N m : Nat) (Q : QT) (k : List It) (h0 : H) (exc : List Nat) (ops : Array Oper) (fuel : Nat) (listed : Array Bool) (td : TD) (d : Option Nat) (τ : Tau) : V → H → Prop := fun v h' => (Stay h0 exc h' ∧ h0.n ≤ h'.n) ∧ RunD P N m Q k h0 exc ops fuel listed td (upo d v τ) h'
theorem runDS_at (d : Option Nat) (v : V) : RunDS P N m Q k h0 exc ops fuel listed td d τ v h = ((Stay h0 exc h ∧ h0.n ≤ h.n) ∧ RunD P N m Q k h0 exc ops fuel listed td (upo d v τ) h) := by unfold RunDS; rfl

/-- An operation of such a region in its turn. -/
def effR (P : Program) (N m : Nat) (Q : QT) (k : List It) (h0 : H) (exc : List Nat) (ops : Array Oper) (fuel : Nat) (listed : Array Bool) (td : TD) (d : Option Nat) (τ : Tau) (h : H) (op : Op) : Prop :=
    match op with
    | .call c => match c.callee with
      | .value f => match ev τ f with
        | .fn f caps => DCall P N Q h0 exc ops fuel listed k f (c.args.toList.map (ev τ) ++ caps.map fun p => .ptr p.1 p.2) d τ h
        | _ => False
      | .builtin b => match b with
        | .append => match c.args.toList, c.argTypes.toList with
          | [s, x], [t, u] => DApp P N Q h0 exc ops fuel listed k (ev τ s) (ev τ x) t u d τ h
          | _, _ => False
        | .copy => match c.args.toList, c.argTypes.toList with
          | [s, x], [t, u] => DCopy P N Q h0 exc ops fuel listed k (ev τ s) (ev τ x) t u d τ h
          | _, _ => False
        | b => builtinW P τ h b c.args.toList c.argTypes.toList (RunDE P N m Q k h0 exc ops fuel listed td d τ)
      | _ => False
    | .convert src dst x => if isConv P src dst then DConv P N Q h0 exc ops fuel listed k src dst (ev τ x) d τ h
      else opW P τ h (.convert src dst x) (RunDE P N m Q k h0 exc ops fuel listed td d τ)
    | .binOp op t x y u => if tAgg P t = some true then DEq P N Q h0 exc ops fuel listed k op t (ev τ x) (ev τ y) d τ h
      else opW P τ h (.binOp op t x y u) (RunDE P N m Q k h0 exc ops fuel listed td d τ)
    | op => opW P τ h op (RunDS P N m Q k h0 exc ops fuel listed td d τ)

/-- One operation, by its guard. -/
def stepR (P : Program) (N m : Nat) (Q : QT) (k : List It) (h0 : H) (exc : List Nat) (ops : Array Oper) (fuel : Nat) (listed : Array Bool) (td : TD) (fl : Bool) (τ : Tau) (h : H) : Oper → Prop
  | ⟨d, op, ty, pos, after, none⟩ => match fl with
    | true => floatC P h0 exc τ h ⟨d, op, ty, pos, after, none⟩ (RunDF P N m Q k h0 exc ops fuel listed td d τ h)
    | false => effR P N m Q k h0 exc ops fuel listed td d τ h op
  | ⟨d, op, ty, pos, after, some (j, want)⟩ => match gV ops.toList τ j, fl, want with
    | some b, true, true => bcase b (floatC P h0 exc (gSet ops.toList j true τ) h ⟨d, op, ty, pos, after, some (j, want)⟩ (RunDF P N m Q k h0 exc ops fuel listed td d (gSet ops.toList j true τ) h)) (RunD P N m Q k h0 exc ops fuel listed td (upo d .any (gSet ops.toList j false τ)) h)
    | some b, true, false => bcase b (RunD P N m Q k h0 exc ops fuel listed td (upo d .any (gSet ops.toList j true τ)) h) (floatC P h0 exc (gSet ops.toList j false τ) h ⟨d, op, ty, pos, after, some (j, want)⟩ (RunDF P N m Q k h0 exc ops fuel listed td d (gSet ops.toList j false τ) h))
    | some b, false, true => bcase b (effR P N m Q k h0 exc ops fuel listed td d (gSet ops.toList j true τ) h op) (RunD P N m Q k h0 exc ops fuel listed td (upo d .any (gSet ops.toList j false τ)) h)
    | some b, false, false => bcase b (RunD P N m Q k h0 exc ops fuel listed td (upo d .any (gSet ops.toList j true τ)) h) (effR P N m Q k h0 exc ops fuel listed td d (gSet ops.toList j false τ) h op)
    | none, _, _ => False

theorem effR_eq (d : Option Nat) (op : Op) (ty : TypeId) (pos : String) (after g) :
    RunD.effW P N m Q k h0 exc ops fuel listed ⟨d, op, ty, pos, after, g⟩ τ h (fun τ' h' => RunD P N m Q k h0 exc ops fuel listed td τ' h') = effR P N m Q k h0 exc ops fuel listed td d τ h op := by
  unfold RunD.effW effR RunDE RunDS; rfl

theorem runD_done : RunD P N m Q k h0 exc ops fuel listed .done τ h = Run P N m Q k τ h := by unfold RunD; rfl
theorem runD_go (fl : Bool) (i : Nat) : RunD P N m Q k h0 exc ops (fuel + 1) listed (.go fl i td) τ h = (match ops.toList[i]? with
    | none => False
    | some o => stepR P N m Q k h0 exc ops fuel (listed.setIfInBounds i true) td fl τ h o) := by
  rw [RunD]
  cases ops.toList[i]? with
  | none => rfl
  | some o =>
    obtain ⟨d, op, ty, pos, after, g⟩ := o
    cases g with
    | none => cases fl <;> simp only [stepR, effR_eq, Bool.false_eq_true, if_false, if_true] <;> rfl
    | some p =>
      obtain ⟨j, want⟩ := p
      simp only [stepR, effR_eq]
      cases gV ops.toList τ j with
      | none => rfl
      | some b =>
        cases fl <;> cases want
        · simp only [Bool.false_eq_true, if_false]; exact bcase_want_false
        · simp only [Bool.false_eq_true, if_false]; exact bcase_want_true
        · exact bcase_want_false
        · exact bcase_want_true
theorem runD_or (i : Nat) (r : TD) : RunD P N m Q k h0 exc ops (fuel + 1) listed (.or i td r) τ h = ((match ops.toList[i]? with
    | none => False
    | some o => stepR P N m Q k h0 exc ops fuel (listed.setIfInBounds i true) td false τ h o) ∧ RunD P N m Q k h0 exc ops (fuel + 1) listed r τ h) := by
  rw [RunD]
  congr 1
  cases ops.toList[i]? with
  | none => rfl
  | some o =>
    obtain ⟨d, op, ty, pos, after, g⟩ := o
    cases g with
    | none => simp only [stepR, effR_eq]
    | some p =>
      obtain ⟨j, want⟩ := p
      simp only [stepR, effR_eq]
      cases gV ops.toList τ j with
      | none => rfl
      | some b =>
        cases want
        · exact bcase_want_false
        · exact bcase_want_true
end
end Go.VL
