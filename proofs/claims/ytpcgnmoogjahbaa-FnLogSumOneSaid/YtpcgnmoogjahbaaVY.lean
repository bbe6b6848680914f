/- A layer for walking through code on abstract values and an abstract heap: its definitions and their soundness; no condition. -/
import Derived.Test.YtpcgnmoogjahbaaVX
set_option linter.unusedVariables false
set_option linter.unusedSimpArgs false
namespace Go.VL
open Go Go.RowKit

/-! A walk's steps as equations that are met as they stand: no 'match' stays in a goal. -/
section
variable {P : Program} {N n m : Nat} {Q : QT} {k : List It} {τ : Tau} {h : H} {K : V → H → Prop}

def boolOf : V → Option Bool
  | .s (.bool b) => some b
  | _ => none
theorem boolOf_bool (b : Bool) : boolOf (.s (.bool b)) = some b := by unfold boolOf; rfl
def dstOf (all : List Oper) (j : Nat) : Option Nat := (all[j]?).bind (·.dst)
theorem dstOf_zero (d : Option Nat) (op : Op) (ty : TypeId) (pos : String) (after g) (r : List Oper) : dstOf (⟨d, op, ty, pos, after, g⟩ :: r) 0 = d := by simp [dstOf]
theorem dstOf_succ (o : Oper) (r : List Oper) (j : Nat) : dstOf (o :: r) (j + 1) = dstOf r j := by simp [dstOf]
def gW (τ : Tau) : Option Nat → Option Bool
  | some t => boolOf (τ t)
  | none => none
theorem gW_some (t : Nat) : gW τ (some t) = boolOf (τ t) := by unfold gW; rfl
theorem gV_eq (all : List Oper) (j : Nat) : gV all τ j = gW τ (dstOf all j) := by
  unfold gV gW dstOf boolOf; rfl
def gS (b : Bool) (τ : Tau) : Option Nat → Tau
  | some t => up t (.s (.bool b)) τ
  | none => τ
theorem gS_some (b : Bool) (t : Nat) : gS b τ (some t) = up t (.s (.bool b)) τ := by unfold gS; rfl
theorem gSet_at (all : List Oper) (j : Nat) (b : Bool) : gSet all j b τ = gS b τ (dstOf all j) := by unfold gSet gS dstOf; rfl

def exitK (P : Program) (N n : Nat) (Q : QT) (id : Nat) (τ : Tau) (h : H) : Option (List It) → Prop
  | some k' => Run P N n Q k' τ h
  | none => Q (.exit id) τ h
theorem exitK_some (id : Nat) (k' : List It) : exitK P N n Q id τ h (some k') = Run P N n Q k' τ h := by unfold exitK; rfl
theorem exitK_none (id : Nat) : exitK P N n Q id τ h none = Q (.exit id) τ h := by unfold exitK; rfl
theorem run_exit' (id : Nat) : Run P N (n + 1) Q (.code (.exit id) :: k) τ h = exitK P N n Q id τ h (popTo id k) := by rw [Run]; unfold exitK; rfl
theorem popTo_nil (id : Nat) : popTo id [] = none := by rw [popTo]
theorem popTo_code (id : Nat) (c : Code) : popTo id (.code c :: k) = popTo id k := by rw [popTo]; simp
theorem popTo_ops (id : Nat) (a b : List Oper) : popTo id (.ops a b :: k) = popTo id k := by rw [popTo]; simp
theorem popTo_same (id : Nat) : popTo id (.blk id :: k) = some k := by rw [popTo]; simp
theorem popTo_blk (id id' : Nat) (h : (id == id') = false) : popTo id (.blk id' :: k) = popTo id k := by
  rw [popTo, if_neg (by simpa using h)]
def condR (P : Program) (N n : Nat) (Q : QT) (x y : Code) (k : List It) (τ : Tau) (h : H) : V → Prop
  | .s (.bool b) => bcase b (Run P N n Q (.code x :: k) τ h) (Run P N n Q (.code y :: k) τ h)
  | _ => False
theorem condR_bool (x y : Code) (b : Bool) : condR P N n Q x y k τ h (.s (.bool b)) = bcase b (Run P N n Q (.code x :: k) τ h) (Run P N n Q (.code y :: k) τ h) := by unfold condR; rfl
theorem run_cond' (c : Operand) (x y : Code) : Run P N (n + 1) Q (.code (.cond c x y) :: k) τ h = condR P N n Q x y k τ h (ev τ c) := by rw [run_cond]; unfold condR; rfl

def guardR (P : Program) (N n : Nat) (Q : QT) (all os : List Oper) (k : List It) (d : Option Nat) (o : Oper) (j : Nat) (want : Bool) (τ : Tau) (h : H) : Option Bool → Prop
  | some b => match want with
    | true => bcase b (Run P N n Q (.ops all (o :: os) :: k) (gSet all j true τ) h) (Run P N n Q (.ops all os :: k) (upo d .any (gSet all j false τ)) h)
    | false => bcase b (Run P N n Q (.ops all os :: k) (upo d .any (gSet all j true τ)) h) (Run P N n Q (.ops all (o :: os) :: k) (gSet all j false τ) h)
  | none => False
theorem guardR_true (all os : List Oper) (d : Option Nat) (o : Oper) (j : Nat) (b : Bool) : guardR P N n Q all os k d o j true τ h (some b) =
    bcase b (Run P N n Q (.ops all (o :: os) :: k) (gSet all j true τ) h) (Run P N n Q (.ops all os :: k) (upo d .any (gSet all j false τ)) h) := by unfold guardR; rfl
theorem guardR_false (all os : List Oper) (d : Option Nat) (o : Oper) (j : Nat) (b : Bool) : guardR P N n Q all os k d o j false τ h (some b) =
    bcase b (Run P N n Q (.ops all os :: k) (upo d .any (gSet all j true τ)) h) (Run P N n Q (.ops all (o :: os) :: k) (gSet all j false τ) h) := by unfold guardR; rfl
theorem run_guard (all os : List Oper) (d : Option Nat) (op : Op) (ty : TypeId) (pos : String) (after) (j : Nat) (want : Bool) :
    Run P N (n + 1) Q (.ops all (⟨d, op, ty, pos, after, some (j, want)⟩ :: os) :: k) τ h = guardR P N n Q all os k d ⟨d, op, ty, pos, after, none⟩ j want τ h (gV all τ j) := by
  cases want with
  | true => rw [run_guard_true]; unfold guardR; rfl
  | false => rw [run_guard_false]; unfold guardR; rfl

def guardP (P : Program) (N m : Nat) (Q : QT) (k : List It) (all os : List Oper) (d : Option Nat) (o : Oper) (j : Nat) (want : Bool) (τ : Tau) (h : H) : Option Bool → Prop
  | some b => match want with
    | true => bcase b (RunP P N m Q k all (o :: os) (gSet all j true τ) h) (RunP P N m Q k all os (upo d .any (gSet all j false τ)) h)
    | false => bcase b (RunP P N m Q k all os (upo d .any (gSet all j true τ)) h) (RunP P N m Q k all (o :: os) (gSet all j false τ) h)
  | none => False
theorem guardP_true (all os : List Oper) (d : Option Nat) (o : Oper) (j : Nat) (b : Bool) : guardP P N m Q k all os d o j true τ h (some b) =
    bcase b (RunP P N m Q k all (o :: os) (gSet all j true τ) h) (RunP P N m Q k all os (upo d .any (gSet all j false τ)) h) := by unfold guardP; rfl
theorem guardP_false (all os : List Oper) (d : Option Nat) (o : Oper) (j : Nat) (b : Bool) : guardP P N m Q k all os d o j false τ h (some b) =
    bcase b (RunP P N m Q k all os (upo d .any (gSet all j true τ)) h) (RunP P N m Q k all (o :: os) (gSet all j false τ) h) := by unfold guardP; rfl
theorem runP_guard (all os : List Oper) (d : Option Nat) (op : Op) (ty : TypeId) (pos : String) (after) (j : Nat) (want : Bool) :
    RunP P N m Q k all (⟨d, op, ty, pos, after, some (j, want)⟩ :: os) τ h = guardP P N m Q k all os d ⟨d, op, ty, pos, after, none⟩ j want τ h (gV all τ j) := by
  cases want with
  | true => rw [runP_guard_true]; unfold guardP; rfl
  | false => rw [runP_guard_false]; unfold guardP; rfl

section
variable {h0 : H} {exc : List Nat} {ops : Array Oper} {fuel : Nat} {listed : Array Bool} {td : TD}
def nthOf (P : Program) (N m : Nat) (Q : QT) (k : List It) (h0 : H) (exc : List Nat) (ops : Array Oper) (fuel : Nat) (listed : Array Bool) (td : TD) (fl : Bool) (τ : Tau) (h : H) : Option Oper → Prop
  | none => False
  | some o => stepR P N m Q k h0 exc ops fuel listed td fl τ h o
theorem nthOf_some (fl : Bool) (o : Oper) : nthOf P N m Q k h0 exc ops fuel listed td fl τ h (some o) = stepR P N m Q k h0 exc ops fuel listed td fl τ h o := by unfold nthOf; rfl
theorem runD_go' (fl : Bool) (i : Nat) : RunD P N m Q k h0 exc ops (fuel + 1) listed (.go fl i td) τ h = nthOf P N m Q k h0 exc ops fuel (listed.setIfInBounds i true) td fl τ h (ops.toList[i]?) := by
  rw [runD_go]; unfold nthOf; rfl
theorem runD_or' (i : Nat) (r : TD) : RunD P N m Q k h0 exc ops (fuel + 1) listed (.or i td r) τ h =
    (nthOf P N m Q k h0 exc ops fuel (listed.setIfInBounds i true) td false τ h (ops.toList[i]?) ∧ RunD P N m Q k h0 exc ops (fuel + 1) listed r τ h) := by
  rw [runD_or]; unfold nthOf; rfl
theorem stepR_take (d : Option Nat) (op : Op) (ty : TypeId) (pos : String) (after) : stepR P N m Q k h0 exc ops fuel listed td true τ h ⟨d, op, ty, pos, after, none⟩ =
    floatC P h0 exc τ h ⟨d, op, ty, pos, after, none⟩ (RunDF P N m Q k h0 exc ops fuel listed td d τ h) := by unfold stepR; rfl
theorem stepR_turn (d : Option Nat) (op : Op) (ty : TypeId) (pos : String) (after) : stepR P N m Q k h0 exc ops fuel listed td false τ h ⟨d, op, ty, pos, after, none⟩ =
    effR P N m Q k h0 exc ops fuel listed td d τ h op := by unfold stepR; rfl
def guardD (P : Program) (N m : Nat) (Q : QT) (k : List It) (h0 : H) (exc : List Nat) (ops : Array Oper) (fuel : Nat) (listed : Array Bool) (td : TD) (d : Option Nat) (o : Oper) (j : Nat) (fl want : Bool) (τ : Tau) (h : H) : Option Bool → Prop
  | some b => match want with
    | true => bcase b (stepR P N m Q k h0 exc ops fuel listed td fl (gSet ops.toList j true τ) h o) (RunD P N m Q k h0 exc ops fuel listed td (upo d .any (gSet ops.toList j false τ)) h)
    | false => bcase b (RunD P N m Q k h0 exc ops fuel listed td (upo d .any (gSet ops.toList j true τ)) h) (stepR P N m Q k h0 exc ops fuel listed td fl (gSet ops.toList j false τ) h o)
  | none => False
theorem guardD_true (d : Option Nat) (o : Oper) (j : Nat) (fl b : Bool) : guardD P N m Q k h0 exc ops fuel listed td d o j fl true τ h (some b) =
    bcase b (stepR P N m Q k h0 exc ops fuel listed td fl (gSet ops.toList j true τ) h o) (RunD P N m Q k h0 exc ops fuel listed td (upo d .any (gSet ops.toList j false τ)) h) := by unfold guardD; rfl
theorem guardD_false (d : Option Nat) (o : Oper) (j : Nat) (fl b : Bool) : guardD P N m Q k h0 exc ops fuel listed td d o j fl false τ h (some b) =
    bcase b (RunD P N m Q k h0 exc ops fuel listed td (upo d .any (gSet ops.toList j true τ)) h) (stepR P N m Q k h0 exc ops fuel listed td fl (gSet ops.toList j false τ) h o) := by unfold guardD; rfl
theorem floatC_guard (d : Option Nat) (op : Op) (ty : TypeId) (pos : String) (after g g') (K : V → H → Prop) : floatC P h0 exc τ h ⟨d, op, ty, pos, after, g⟩ K = floatC P h0 exc τ h ⟨d, op, ty, pos, after, g'⟩ K := by
  unfold floatC floatW; rfl
theorem stepR_guard (d : Option Nat) (op : Op) (ty : TypeId) (pos : String) (after) (j : Nat) (fl want : Bool) : stepR P N m Q k h0 exc ops fuel listed td fl τ h ⟨d, op, ty, pos, after, some (j, want)⟩ =
    guardD P N m Q k h0 exc ops fuel listed td d ⟨d, op, ty, pos, after, none⟩ j fl want τ h (gV ops.toList τ j) := by
  unfold guardD
  cases hg : gV ops.toList τ j with
  | none => simp only [stepR, hg]
  | some b =>
    cases fl <;> cases want <;> simp only [stepR, hg] <;> (congr 1)
end

theorem opRun_move (all os : List Oper) (d : Option Nat) (x : Operand) : opRun P N n Q all os k d τ h (.move x) = opW P τ h (.move x) (RunK P N n Q (.ops all os :: k) d τ) := by unfold opRun; rfl
theorem effR_move {h0 : H} {exc : List Nat} {ops : Array Oper} {fuel : Nat} {listed : Array Bool} {td : TD} (d : Option Nat) (x : Operand) : effR P N m Q k h0 exc ops fuel listed td d τ h (.move x) = opW P τ h (.move x) (RunDS P N m Q k h0 exc ops fuel listed td d τ) := by unfold effR; rfl
theorem floatC_move {h0 : H} {exc : List Nat} (d : Option Nat) (x : Operand) (ty : TypeId) (pos : String) (after g) : floatC P h0 exc τ h ⟨d, .move x, ty, pos, after, g⟩ K = opW P τ h (.move x) K := by unfold floatC floatW; simp only [isA, if_true]
theorem pureW_move (d : Option Nat) (x : Operand) (ty : TypeId) (pos : String) (after g) : pureW P τ h ⟨d, .move x, ty, pos, after, g⟩ K = opW P τ h (.move x) K := by unfold pureW; simp only [isA, if_true]
theorem opRun_assign (all os : List Oper) (d : Option Nat) (x : Operand) : opRun P N n Q all os k d τ h (.assign x) = opW P τ h (.assign x) (RunK P N n Q (.ops all os :: k) d τ) := by unfold opRun; rfl
theorem effR_assign {h0 : H} {exc : List Nat} {ops : Array Oper} {fuel : Nat} {listed : Array Bool} {td : TD} (d : Option Nat) (x : Operand) : effR P N m Q k h0 exc ops fuel listed td d τ h (.assign x) = opW P τ h (.assign x) (RunDS P N m Q k h0 exc ops fuel listed td d τ) := by unfold effR; rfl
theorem floatC_assign {h0 : H} {exc : List Nat} (d : Option Nat) (x : Operand) (ty : TypeId) (pos : String) (after g) : floatC P h0 exc τ h ⟨d, .assign x, ty, pos, after, g⟩ K = opW P τ h (.assign x) K := by unfold floatC floatW; simp only [isA, if_true]
theorem pureW_assign (d : Option Nat) (x : Operand) (ty : TypeId) (pos : String) (after g) : pureW P τ h ⟨d, .assign x, ty, pos, after, g⟩ K = opW P τ h (.assign x) K := by unfold pureW; simp only [isA, if_true]
theorem opRun_pick (all os : List Oper) (d : Option Nat) (c a b : Operand) : opRun P N n Q all os k d τ h (.pick c a b) = opW P τ h (.pick c a b) (RunK P N n Q (.ops all os :: k) d τ) := by unfold opRun; rfl
theorem effR_pick {h0 : H} {exc : List Nat} {ops : Array Oper} {fuel : Nat} {listed : Array Bool} {td : TD} (d : Option Nat) (c a b : Operand) : effR P N m Q k h0 exc ops fuel listed td d τ h (.pick c a b) = opW P τ h (.pick c a b) (RunDS P N m Q k h0 exc ops fuel listed td d τ) := by unfold effR; rfl
theorem floatC_pick {h0 : H} {exc : List Nat} (d : Option Nat) (c a b : Operand) (ty : TypeId) (pos : String) (after g) : floatC P h0 exc τ h ⟨d, .pick c a b, ty, pos, after, g⟩ K = opW P τ h (.pick c a b) K := by unfold floatC floatW; simp only [isA, if_true]
theorem pureW_pick (d : Option Nat) (c a b : Operand) (ty : TypeId) (pos : String) (after g) : pureW P τ h ⟨d, .pick c a b, ty, pos, after, g⟩ K = opW P τ h (.pick c a b) K := by unfold pureW; simp only [isA, if_true]
theorem opRun_alloc (all os : List Oper) (d : Option Nat) (e : TypeId) : opRun P N n Q all os k d τ h (.alloc e) = opW P τ h (.alloc e) (RunK P N n Q (.ops all os :: k) d τ) := by unfold opRun; rfl
theorem effR_alloc {h0 : H} {exc : List Nat} {ops : Array Oper} {fuel : Nat} {listed : Array Bool} {td : TD} (d : Option Nat) (e : TypeId) : effR P N m Q k h0 exc ops fuel listed td d τ h (.alloc e) = opW P τ h (.alloc e) (RunDS P N m Q k h0 exc ops fuel listed td d τ) := by unfold effR; rfl
theorem opRun_box (all os : List Oper) (d : Option Nat) (e : TypeId) (v : Operand) : opRun P N n Q all os k d τ h (.box e v) = opW P τ h (.box e v) (RunK P N n Q (.ops all os :: k) d τ) := by unfold opRun; rfl
theorem effR_box {h0 : H} {exc : List Nat} {ops : Array Oper} {fuel : Nat} {listed : Array Bool} {td : TD} (d : Option Nat) (e : TypeId) (v : Operand) : effR P N m Q k h0 exc ops fuel listed td d τ h (.box e v) = opW P τ h (.box e v) (RunDS P N m Q k h0 exc ops fuel listed td d τ) := by unfold effR; rfl
theorem opRun_build (all os : List Oper) (d : Option Nat) (t : TypeId) (ps : Array (Nat × Operand)) : opRun P N n Q all os k d τ h (.build t ps) = opW P τ h (.build t ps) (RunK P N n Q (.ops all os :: k) d τ) := by unfold opRun; rfl
theorem effR_build {h0 : H} {exc : List Nat} {ops : Array Oper} {fuel : Nat} {listed : Array Bool} {td : TD} (d : Option Nat) (t : TypeId) (ps : Array (Nat × Operand)) : effR P N m Q k h0 exc ops fuel listed td d τ h (.build t ps) = opW P τ h (.build t ps) (RunDS P N m Q k h0 exc ops fuel listed td d τ) := by unfold effR; rfl
theorem floatC_build {h0 : H} {exc : List Nat} (d : Option Nat) (t : TypeId) (ps : Array (Nat × Operand)) (ty : TypeId) (pos : String) (after g) : floatC P h0 exc τ h ⟨d, .build t ps, ty, pos, after, g⟩ K = opW P τ h (.build t ps) K := by unfold floatC floatW; simp only [isA, if_true]
theorem pureW_build (d : Option Nat) (t : TypeId) (ps : Array (Nat × Operand)) (ty : TypeId) (pos : String) (after g) : pureW P τ h ⟨d, .build t ps, ty, pos, after, g⟩ K = opW P τ h (.build t ps) K := by unfold pureW; simp only [isA, if_true]
theorem opRun_buildSlice (all os : List Oper) (d : Option Nat) (t : TypeId) (l : Nat) (ps : Array (Nat × Operand)) : opRun P N n Q all os k d τ h (.buildSlice t l ps) = opW P τ h (.buildSlice t l ps) (RunK P N n Q (.ops all os :: k) d τ) := by unfold opRun; rfl
theorem effR_buildSlice {h0 : H} {exc : List Nat} {ops : Array Oper} {fuel : Nat} {listed : Array Bool} {td : TD} (d : Option Nat) (t : TypeId) (l : Nat) (ps : Array (Nat × Operand)) : effR P N m Q k h0 exc ops fuel listed td d τ h (.buildSlice t l ps) = opW P τ h (.buildSlice t l ps) (RunDS P N m Q k h0 exc ops fuel listed td d τ) := by unfold effR; rfl
theorem opRun_load (all os : List Oper) (d : Option Nat) (t : TypeId) (a : Operand) : opRun P N n Q all os k d τ h (.load t a) = opW P τ h (.load t a) (RunK P N n Q (.ops all os :: k) d τ) := by unfold opRun; rfl
theorem effR_load {h0 : H} {exc : List Nat} {ops : Array Oper} {fuel : Nat} {listed : Array Bool} {td : TD} (d : Option Nat) (t : TypeId) (a : Operand) : effR P N m Q k h0 exc ops fuel listed td d τ h (.load t a) = opW P τ h (.load t a) (RunDS P N m Q k h0 exc ops fuel listed td d τ) := by unfold effR; rfl
theorem pureW_load (d : Option Nat) (t : TypeId) (a : Operand) (ty : TypeId) (pos : String) (after g) : pureW P τ h ⟨d, .load t a, ty, pos, after, g⟩ K = opW P τ h (.load t a) K := by unfold pureW; rfl
theorem opRun_store (all os : List Oper) (d : Option Nat) (t : TypeId) (a v : Operand) : opRun P N n Q all os k d τ h (.store t a v) = opW P τ h (.store t a v) (RunK P N n Q (.ops all os :: k) d τ) := by unfold opRun; rfl
theorem effR_store {h0 : H} {exc : List Nat} {ops : Array Oper} {fuel : Nat} {listed : Array Bool} {td : TD} (d : Option Nat) (t : TypeId) (a v : Operand) : effR P N m Q k h0 exc ops fuel listed td d τ h (.store t a v) = opW P τ h (.store t a v) (RunDS P N m Q k h0 exc ops fuel listed td d τ) := by unfold effR; rfl
theorem opRun_nilCheck (all os : List Oper) (d : Option Nat) (x : Operand) : opRun P N n Q all os k d τ h (.nilCheck x) = opW P τ h (.nilCheck x) (RunK P N n Q (.ops all os :: k) d τ) := by unfold opRun; rfl
theorem effR_nilCheck {h0 : H} {exc : List Nat} {ops : Array Oper} {fuel : Nat} {listed : Array Bool} {td : TD} (d : Option Nat) (x : Operand) : effR P N m Q k h0 exc ops fuel listed td d τ h (.nilCheck x) = opW P τ h (.nilCheck x) (RunDS P N m Q k h0 exc ops fuel listed td d τ) := by unfold effR; rfl
theorem floatC_nilCheck {h0 : H} {exc : List Nat} (d : Option Nat) (x : Operand) (ty : TypeId) (pos : String) (after g) : floatC P h0 exc τ h ⟨d, .nilCheck x, ty, pos, after, g⟩ K = opW P τ h (.nilCheck x) K := by unfold floatC floatW; simp only [isA, if_true]
theorem pureW_nilCheck (d : Option Nat) (x : Operand) (ty : TypeId) (pos : String) (after g) : pureW P τ h ⟨d, .nilCheck x, ty, pos, after, g⟩ K = opW P τ h (.nilCheck x) K := by unfold pureW; simp only [isA, if_true]
theorem opRun_unOp (all os : List Oper) (d : Option Nat) (op : UnOp) (t : TypeId) (x : Operand) : opRun P N n Q all os k d τ h (.unOp op t x) = opW P τ h (.unOp op t x) (RunK P N n Q (.ops all os :: k) d τ) := by unfold opRun; rfl
theorem effR_unOp {h0 : H} {exc : List Nat} {ops : Array Oper} {fuel : Nat} {listed : Array Bool} {td : TD} (d : Option Nat) (op : UnOp) (t : TypeId) (x : Operand) : effR P N m Q k h0 exc ops fuel listed td d τ h (.unOp op t x) = opW P τ h (.unOp op t x) (RunDS P N m Q k h0 exc ops fuel listed td d τ) := by unfold effR; rfl
theorem floatC_unOp {h0 : H} {exc : List Nat} (d : Option Nat) (op : UnOp) (t : TypeId) (x : Operand) (ty : TypeId) (pos : String) (after g) : floatC P h0 exc τ h ⟨d, .unOp op t x, ty, pos, after, g⟩ K = opW P τ h (.unOp op t x) K := by unfold floatC floatW; simp only [isA, if_true]
theorem pureW_unOp (d : Option Nat) (op : UnOp) (t : TypeId) (x : Operand) (ty : TypeId) (pos : String) (after g) : pureW P τ h ⟨d, .unOp op t x, ty, pos, after, g⟩ K = opW P τ h (.unOp op t x) K := by unfold pureW; simp only [isA, if_true]
theorem opRun_makeSlice (all os : List Oper) (d : Option Nat) (t : TypeId) (l c : Operand) : opRun P N n Q all os k d τ h (.makeSlice t l c) = opW P τ h (.makeSlice t l c) (RunK P N n Q (.ops all os :: k) d τ) := by unfold opRun; rfl
theorem effR_makeSlice {h0 : H} {exc : List Nat} {ops : Array Oper} {fuel : Nat} {listed : Array Bool} {td : TD} (d : Option Nat) (t : TypeId) (l c : Operand) : effR P N m Q k h0 exc ops fuel listed td d τ h (.makeSlice t l c) = opW P τ h (.makeSlice t l c) (RunDS P N m Q k h0 exc ops fuel listed td d τ) := by unfold effR; rfl
theorem opRun_slice (all os : List Oper) (d : Option Nat) (t : TypeId) (x : Operand) (lo hi mx : Option Operand) : opRun P N n Q all os k d τ h (.slice t x lo hi mx) = opW P τ h (.slice t x lo hi mx) (RunK P N n Q (.ops all os :: k) d τ) := by unfold opRun; rfl
theorem effR_slice {h0 : H} {exc : List Nat} {ops : Array Oper} {fuel : Nat} {listed : Array Bool} {td : TD} (d : Option Nat) (t : TypeId) (x : Operand) (lo hi mx : Option Operand) : effR P N m Q k h0 exc ops fuel listed td d τ h (.slice t x lo hi mx) = opW P τ h (.slice t x lo hi mx) (RunDS P N m Q k h0 exc ops fuel listed td d τ) := by unfold effR; rfl
theorem floatC_slice {h0 : H} {exc : List Nat} (d : Option Nat) (t : TypeId) (x : Operand) (lo hi mx : Option Operand) (ty : TypeId) (pos : String) (after g) : floatC P h0 exc τ h ⟨d, .slice t x lo hi mx, ty, pos, after, g⟩ K = opW P τ h (.slice t x lo hi mx) K := by unfold floatC floatW; simp only [isA, if_true]
theorem pureW_slice (d : Option Nat) (t : TypeId) (x : Operand) (lo hi mx : Option Operand) (ty : TypeId) (pos : String) (after g) : pureW P τ h ⟨d, .slice t x lo hi mx, ty, pos, after, g⟩ K = opW P τ h (.slice t x lo hi mx) K := by unfold pureW; simp only [isA, if_true]
theorem opRun_fieldAddr (all os : List Oper) (d : Option Nat) (t : TypeId) (x : Operand) (f : Nat) : opRun P N n Q all os k d τ h (.fieldAddr t x f) = opW P τ h (.fieldAddr t x f) (RunK P N n Q (.ops all os :: k) d τ) := by unfold opRun; rfl
theorem effR_fieldAddr {h0 : H} {exc : List Nat} {ops : Array Oper} {fuel : Nat} {listed : Array Bool} {td : TD} (d : Option Nat) (t : TypeId) (x : Operand) (f : Nat) : effR P N m Q k h0 exc ops fuel listed td d τ h (.fieldAddr t x f) = opW P τ h (.fieldAddr t x f) (RunDS P N m Q k h0 exc ops fuel listed td d τ) := by unfold effR; rfl
theorem floatC_fieldAddr {h0 : H} {exc : List Nat} (d : Option Nat) (t : TypeId) (x : Operand) (f : Nat) (ty : TypeId) (pos : String) (after g) : floatC P h0 exc τ h ⟨d, .fieldAddr t x f, ty, pos, after, g⟩ K = opW P τ h (.fieldAddr t x f) K := by unfold floatC floatW; simp only [isA, if_true]
theorem pureW_fieldAddr (d : Option Nat) (t : TypeId) (x : Operand) (f : Nat) (ty : TypeId) (pos : String) (after g) : pureW P τ h ⟨d, .fieldAddr t x f, ty, pos, after, g⟩ K = opW P τ h (.fieldAddr t x f) K := by unfold pureW; simp only [isA, if_true]
theorem opRun_field (all os : List Oper) (d : Option Nat) (t : TypeId) (x : Operand) (f : Nat) : opRun P N n Q all os k d τ h (.field t x f) = opW P τ h (.field t x f) (RunK P N n Q (.ops all os :: k) d τ) := by unfold opRun; rfl
theorem effR_field {h0 : H} {exc : List Nat} {ops : Array Oper} {fuel : Nat} {listed : Array Bool} {td : TD} (d : Option Nat) (t : TypeId) (x : Operand) (f : Nat) : effR P N m Q k h0 exc ops fuel listed td d τ h (.field t x f) = opW P τ h (.field t x f) (RunDS P N m Q k h0 exc ops fuel listed td d τ) := by unfold effR; rfl
theorem floatC_field {h0 : H} {exc : List Nat} (d : Option Nat) (t : TypeId) (x : Operand) (f : Nat) (ty : TypeId) (pos : String) (after g) : floatC P h0 exc τ h ⟨d, .field t x f, ty, pos, after, g⟩ K = opW P τ h (.field t x f) K := by unfold floatC floatW; simp only [isA, if_true]
theorem pureW_field (d : Option Nat) (t : TypeId) (x : Operand) (f : Nat) (ty : TypeId) (pos : String) (after g) : pureW P τ h ⟨d, .field t x f, ty, pos, after, g⟩ K = opW P τ h (.field t x f) K := by unfold pureW; simp only [isA, if_true]
theorem opRun_indexAddr (all os : List Oper) (d : Option Nat) (t : TypeId) (x i : Operand) : opRun P N n Q all os k d τ h (.indexAddr t x i) = opW P τ h (.indexAddr t x i) (RunK P N n Q (.ops all os :: k) d τ) := by unfold opRun; rfl
theorem effR_indexAddr {h0 : H} {exc : List Nat} {ops : Array Oper} {fuel : Nat} {listed : Array Bool} {td : TD} (d : Option Nat) (t : TypeId) (x i : Operand) : effR P N m Q k h0 exc ops fuel listed td d τ h (.indexAddr t x i) = opW P τ h (.indexAddr t x i) (RunDS P N m Q k h0 exc ops fuel listed td d τ) := by unfold effR; rfl
theorem floatC_indexAddr {h0 : H} {exc : List Nat} (d : Option Nat) (t : TypeId) (x i : Operand) (ty : TypeId) (pos : String) (after g) : floatC P h0 exc τ h ⟨d, .indexAddr t x i, ty, pos, after, g⟩ K = opW P τ h (.indexAddr t x i) K := by unfold floatC floatW; simp only [isA, if_true]
theorem pureW_indexAddr (d : Option Nat) (t : TypeId) (x i : Operand) (ty : TypeId) (pos : String) (after g) : pureW P τ h ⟨d, .indexAddr t x i, ty, pos, after, g⟩ K = opW P τ h (.indexAddr t x i) K := by unfold pureW; simp only [isA, if_true]
theorem opRun_index (all os : List Oper) (d : Option Nat) (t : TypeId) (x i : Operand) : opRun P N n Q all os k d τ h (.index t x i) = opW P τ h (.index t x i) (RunK P N n Q (.ops all os :: k) d τ) := by unfold opRun; rfl
theorem effR_index {h0 : H} {exc : List Nat} {ops : Array Oper} {fuel : Nat} {listed : Array Bool} {td : TD} (d : Option Nat) (t : TypeId) (x i : Operand) : effR P N m Q k h0 exc ops fuel listed td d τ h (.index t x i) = opW P τ h (.index t x i) (RunDS P N m Q k h0 exc ops fuel listed td d τ) := by unfold effR; rfl
theorem floatC_index {h0 : H} {exc : List Nat} (d : Option Nat) (t : TypeId) (x i : Operand) (ty : TypeId) (pos : String) (after g) : floatC P h0 exc τ h ⟨d, .index t x i, ty, pos, after, g⟩ K = opW P τ h (.index t x i) K := by unfold floatC floatW; simp only [isA, if_true]
theorem pureW_index (d : Option Nat) (t : TypeId) (x i : Operand) (ty : TypeId) (pos : String) (after g) : pureW P τ h ⟨d, .index t x i, ty, pos, after, g⟩ K = opW P τ h (.index t x i) K := by unfold pureW; simp only [isA, if_true]
theorem opRun_extract (all os : List Oper) (d : Option Nat) (x : Operand) (i : Nat) : opRun P N n Q all os k d τ h (.extract x i) = opW P τ h (.extract x i) (RunK P N n Q (.ops all os :: k) d τ) := by unfold opRun; rfl
theorem effR_extract {h0 : H} {exc : List Nat} {ops : Array Oper} {fuel : Nat} {listed : Array Bool} {td : TD} (d : Option Nat) (x : Operand) (i : Nat) : effR P N m Q k h0 exc ops fuel listed td d τ h (.extract x i) = opW P τ h (.extract x i) (RunDS P N m Q k h0 exc ops fuel listed td d τ) := by unfold effR; rfl
theorem floatC_extract {h0 : H} {exc : List Nat} (d : Option Nat) (x : Operand) (i : Nat) (ty : TypeId) (pos : String) (after g) : floatC P h0 exc τ h ⟨d, .extract x i, ty, pos, after, g⟩ K = opW P τ h (.extract x i) K := by unfold floatC floatW; simp only [isA, if_true]
theorem pureW_extract (d : Option Nat) (x : Operand) (i : Nat) (ty : TypeId) (pos : String) (after g) : pureW P τ h ⟨d, .extract x i, ty, pos, after, g⟩ K = opW P τ h (.extract x i) K := by unfold pureW; simp only [isA, if_true]
theorem opRun_makeInterface (all os : List Oper) (d : Option Nat) (t : TypeId) (x : Operand) : opRun P N n Q all os k d τ h (.makeInterface t x) = opW P τ h (.makeInterface t x) (RunK P N n Q (.ops all os :: k) d τ) := by unfold opRun; rfl
theorem effR_makeInterface {h0 : H} {exc : List Nat} {ops : Array Oper} {fuel : Nat} {listed : Array Bool} {td : TD} (d : Option Nat) (t : TypeId) (x : Operand) : effR P N m Q k h0 exc ops fuel listed td d τ h (.makeInterface t x) = opW P τ h (.makeInterface t x) (RunDS P N m Q k h0 exc ops fuel listed td d τ) := by unfold effR; rfl
theorem floatC_makeInterface {h0 : H} {exc : List Nat} (d : Option Nat) (t : TypeId) (x : Operand) (ty : TypeId) (pos : String) (after g) : floatC P h0 exc τ h ⟨d, .makeInterface t x, ty, pos, after, g⟩ K = opW P τ h (.makeInterface t x) K := by unfold floatC floatW; simp only [isA, if_true]
theorem pureW_makeInterface (d : Option Nat) (t : TypeId) (x : Operand) (ty : TypeId) (pos : String) (after g) : pureW P τ h ⟨d, .makeInterface t x, ty, pos, after, g⟩ K = opW P τ h (.makeInterface t x) K := by unfold pureW; simp only [isA, if_true]
theorem opRun_makeFunc (all os : List Oper) (d : Option Nat) (fn : Fn) (first caps : Array Operand) : opRun P N n Q all os k d τ h (.makeFunc fn first caps) = opW P τ h (.makeFunc fn first caps) (RunK P N n Q (.ops all os :: k) d τ) := by unfold opRun; rfl
theorem effR_makeFunc {h0 : H} {exc : List Nat} {ops : Array Oper} {fuel : Nat} {listed : Array Bool} {td : TD} (d : Option Nat) (fn : Fn) (first caps : Array Operand) : effR P N m Q k h0 exc ops fuel listed td d τ h (.makeFunc fn first caps) = opW P τ h (.makeFunc fn first caps) (RunDS P N m Q k h0 exc ops fuel listed td d τ) := by unfold effR; rfl
theorem floatC_makeFunc {h0 : H} {exc : List Nat} (d : Option Nat) (fn : Fn) (first caps : Array Operand) (ty : TypeId) (pos : String) (after g) : floatC P h0 exc τ h ⟨d, .makeFunc fn first caps, ty, pos, after, g⟩ K = opW P τ h (.makeFunc fn first caps) K := by unfold floatC floatW; simp only [isA, if_true]
theorem pureW_makeFunc (d : Option Nat) (fn : Fn) (first caps : Array Operand) (ty : TypeId) (pos : String) (after g) : pureW P τ h ⟨d, .makeFunc fn first caps, ty, pos, after, g⟩ K = opW P τ h (.makeFunc fn first caps) K := by unfold pureW; simp only [isA, if_true]
def eqR (P : Program) (N n : Nat) (Q : QT) (items : List It) (d : Option Nat) (op : BinOp) (t : TypeId) (x y : Operand) (u : TypeId) (τ : Tau) (h : H) : Option Bool → Prop
  | some true => EqThen P N Q op t (ev τ x) (ev τ y) d items τ h
  | _ => opW P τ h (.binOp op t x y u) (RunK P N n Q items d τ)
theorem eqR_true (items : List It) (d : Option Nat) (op : BinOp) (t : TypeId) (x y : Operand) (u) : eqR P N n Q items d op t x y u τ h (some true) = EqThen P N Q op t (ev τ x) (ev τ y) d items τ h := by unfold eqR; rfl
theorem eqR_false (items : List It) (d : Option Nat) (op : BinOp) (t : TypeId) (x y : Operand) (u) : eqR P N n Q items d op t x y u τ h (some false) = opW P τ h (.binOp op t x y u) (RunK P N n Q items d τ) := by unfold eqR; rfl
theorem opRun_binOp (all os : List Oper) (d : Option Nat) (op : BinOp) (t : TypeId) (x y : Operand) (u) : opRun P N n Q all os k d τ h (.binOp op t x y u) = eqR P N n Q (.ops all os :: k) d op t x y u τ h (tAgg P t) := by
  have e : opRun P N n Q all os k d τ h (.binOp op t x y u) = if tAgg P t = some true then EqThen P N Q op t (ev τ x) (ev τ y) d (.ops all os :: k) τ h else opW P τ h (.binOp op t x y u) (RunK P N n Q (.ops all os :: k) d τ) := by unfold opRun; rfl
  rw [e]
  cases tAgg P t with
  | none => simp [eqR]
  | some b => cases b <;> simp [eqR]
def eqD (P : Program) (N m : Nat) (Q : QT) (k : List It) (h0 : H) (exc : List Nat) (ops : Array Oper) (fuel : Nat) (listed : Array Bool) (td : TD) (d : Option Nat) (op : BinOp) (t : TypeId) (x y : Operand) (u : TypeId) (τ : Tau) (h : H) : Option Bool → Prop
  | some true => DEq P N Q h0 exc ops fuel listed k op t (ev τ x) (ev τ y) d τ h
  | _ => opW P τ h (.binOp op t x y u) (RunDE P N m Q k h0 exc ops fuel listed td d τ)
theorem eqD_true {h0 : H} {exc : List Nat} {ops : Array Oper} {fuel : Nat} {listed : Array Bool} {td : TD} (d : Option Nat) (op : BinOp) (t : TypeId) (x y : Operand) (u) : eqD P N m Q k h0 exc ops fuel listed td d op t x y u τ h (some true) = DEq P N Q h0 exc ops fuel listed k op t (ev τ x) (ev τ y) d τ h := by unfold eqD; rfl
theorem eqD_false {h0 : H} {exc : List Nat} {ops : Array Oper} {fuel : Nat} {listed : Array Bool} {td : TD} (d : Option Nat) (op : BinOp) (t : TypeId) (x y : Operand) (u) : eqD P N m Q k h0 exc ops fuel listed td d op t x y u τ h (some false) = opW P τ h (.binOp op t x y u) (RunDE P N m Q k h0 exc ops fuel listed td d τ) := by unfold eqD; rfl
theorem effR_binOp {h0 : H} {exc : List Nat} {ops : Array Oper} {fuel : Nat} {listed : Array Bool} {td : TD} (d : Option Nat) (op : BinOp) (t : TypeId) (x y : Operand) (u) : effR P N m Q k h0 exc ops fuel listed td d τ h (.binOp op t x y u) = eqD P N m Q k h0 exc ops fuel listed td d op t x y u τ h (tAgg P t) := by
  have e : effR P N m Q k h0 exc ops fuel listed td d τ h (.binOp op t x y u) = if tAgg P t = some true then DEq P N Q h0 exc ops fuel listed k op t (ev τ x) (ev τ y) d τ h else opW P τ h (.binOp op t x y u) (RunDE P N m Q k h0 exc ops fuel listed td d τ) := by unfold effR; rfl
  rw [e]
  cases tAgg P t with
  | none => simp [eqD]
  | some b => cases b <;> simp [eqD]
theorem floatC_binOp {h0 : H} {exc : List Nat} (d : Option Nat) (op : BinOp) (t : TypeId) (x y : Operand) (u) (ty : TypeId) (pos : String) (after g) : floatC P h0 exc τ h ⟨d, .binOp op t x y u, ty, pos, after, g⟩ K = opW P τ h (.binOp op t x y u) K := by unfold floatC floatW; simp only [isA, if_true]
theorem pureW_binOp (d : Option Nat) (op : BinOp) (t : TypeId) (x y : Operand) (u) (ty : TypeId) (pos : String) (after g) : pureW P τ h ⟨d, .binOp op t x y u, ty, pos, after, g⟩ K = opW P τ h (.binOp op t x y u) K := by unfold pureW; simp only [isA, if_true]
def cvB : TK → TK → Bool
  | .string, .slice _ => true
  | .slice _, .string => true
  | _, _ => false
theorem cvB_to (e : TypeId) : cvB (.string) (.slice e) = true := by unfold cvB; rfl
theorem cvB_of (e : TypeId) : cvB (.slice e) (.string) = true := by unfold cvB; rfl
theorem cvB_ii (a b : IntKind) : cvB (.int a) (.int b) = false := by unfold cvB; rfl
theorem cvB_ss : cvB .string .string = false := by unfold cvB; rfl
theorem isConv_eq (s d : TypeId) : isConv P s d = cvB (tK P s) (tK P d) := by unfold isConv cvB; rfl
def cvR (P : Program) (N n : Nat) (Q : QT) (items : List It) (d : Option Nat) (src dst : TypeId) (x : Operand) (τ : Tau) (h : H) : Bool → Prop
  | true => ConvThen P N Q src dst (ev τ x) d items τ h
  | false => opW P τ h (.convert src dst x) (RunK P N n Q items d τ)
def cvD (P : Program) (N m : Nat) (Q : QT) (k : List It) (h0 : H) (exc : List Nat) (ops : Array Oper) (fuel : Nat) (listed : Array Bool) (td : TD) (d : Option Nat) (src dst : TypeId) (x : Operand) (τ : Tau) (h : H) : Bool → Prop
  | true => DConv P N Q h0 exc ops fuel listed k src dst (ev τ x) d τ h
  | false => opW P τ h (.convert src dst x) (RunDE P N m Q k h0 exc ops fuel listed td d τ)
/-- Values for a conversion that is taken first; the walk stops there. -/
def FConvK (P : Program) (h0 : H) (exc : List Nat) (src dst : TypeId) (x : V) (h : H) (K : V → H → Prop) : Prop := FConvV P h0 exc src dst x fun v => K v h
theorem FConvK.of {h0 : H} {exc : List Nat} {src dst : TypeId} {x v : V} {h : H} {K : V → H → Prop} (hf : ∀ {R : V → Prop}, R v → FConvV P h0 exc src dst x R) (hk : K v h) : FConvK P h0 exc src dst x h K := hf hk
def cvF (P : Program) (h0 : H) (exc : List Nat) (src dst : TypeId) (x : Operand) (τ : Tau) (h : H) (K : V → H → Prop) : Bool → Prop
  | true => FConvK P h0 exc src dst (ev τ x) h K
  | false => opW P τ h (.convert src dst x) K
theorem cvR_true (items : List It) (d : Option Nat) (src dst : TypeId) (x : Operand) : cvR P N n Q items d src dst x τ h true = ConvThen P N Q src dst (ev τ x) d items τ h := by unfold cvR; rfl
theorem cvR_false (items : List It) (d : Option Nat) (src dst : TypeId) (x : Operand) : cvR P N n Q items d src dst x τ h false = opW P τ h (.convert src dst x) (RunK P N n Q items d τ) := by unfold cvR; rfl
theorem cvD_true {h0 : H} {exc : List Nat} {ops : Array Oper} {fuel : Nat} {listed : Array Bool} {td : TD} (d : Option Nat) (src dst : TypeId) (x : Operand) : cvD P N m Q k h0 exc ops fuel listed td d src dst x τ h true = DConv P N Q h0 exc ops fuel listed k src dst (ev τ x) d τ h := by unfold cvD; rfl
theorem cvD_false {h0 : H} {exc : List Nat} {ops : Array Oper} {fuel : Nat} {listed : Array Bool} {td : TD} (d : Option Nat) (src dst : TypeId) (x : Operand) : cvD P N m Q k h0 exc ops fuel listed td d src dst x τ h false = opW P τ h (.convert src dst x) (RunDE P N m Q k h0 exc ops fuel listed td d τ) := by unfold cvD; rfl
theorem cvF_true {h0 : H} {exc : List Nat} (src dst : TypeId) (x : Operand) : cvF P h0 exc src dst x τ h K true = FConvK P h0 exc src dst (ev τ x) h K := by unfold cvF; rfl
theorem cvF_false {h0 : H} {exc : List Nat} (src dst : TypeId) (x : Operand) : cvF P h0 exc src dst x τ h K false = opW P τ h (.convert src dst x) K := by unfold cvF; rfl
theorem opRun_convert (all os : List Oper) (d : Option Nat) (s t : TypeId) (x : Operand) : opRun P N n Q all os k d τ h (.convert s t x) = cvR P N n Q (.ops all os :: k) d s t x τ h (cvB (tK P s) (tK P t)) := by
  have e : opRun P N n Q all os k d τ h (.convert s t x) = if isConv P s t then ConvThen P N Q s t (ev τ x) d (.ops all os :: k) τ h else opW P τ h (.convert s t x) (RunK P N n Q (.ops all os :: k) d τ) := by unfold opRun; rfl
  rw [e, ← isConv_eq]
  cases isConv P s t <;> simp [cvR]
theorem effR_convert {h0 : H} {exc : List Nat} {ops : Array Oper} {fuel : Nat} {listed : Array Bool} {td : TD} (d : Option Nat) (s t : TypeId) (x : Operand) : effR P N m Q k h0 exc ops fuel listed td d τ h (.convert s t x) = cvD P N m Q k h0 exc ops fuel listed td d s t x τ h (cvB (tK P s) (tK P t)) := by
  have e : effR P N m Q k h0 exc ops fuel listed td d τ h (.convert s t x) = if isConv P s t then DConv P N Q h0 exc ops fuel listed k s t (ev τ x) d τ h else opW P τ h (.convert s t x) (RunDE P N m Q k h0 exc ops fuel listed td d τ) := by unfold effR; rfl
  rw [e, ← isConv_eq]
  cases isConv P s t <;> simp [cvD]
theorem floatC_convert {h0 : H} {exc : List Nat} (d : Option Nat) (s t : TypeId) (x : Operand) (ty : TypeId) (pos : String) (after g) : floatC P h0 exc τ h ⟨d, .convert s t x, ty, pos, after, g⟩ K = cvF P h0 exc s t x τ h K (cvB (tK P s) (tK P t)) := by
  have e : floatC P h0 exc τ h ⟨d, .convert s t x, ty, pos, after, g⟩ K = if isConv P s t then FConvV P h0 exc s t (ev τ x) (fun v => K v h) else floatW P h0 exc τ h ⟨d, .convert s t x, ty, pos, after, g⟩ K := by unfold floatC; rfl
  rw [e, ← isConv_eq]
  cases isConv P s t <;> simp [cvF, floatW, isA, FConvK]
theorem pureW_convert (d : Option Nat) (s t : TypeId) (x : Operand) (ty : TypeId) (pos : String) (after g) : pureW P τ h ⟨d, .convert s t x, ty, pos, after, g⟩ K = opW P τ h (.convert s t x) K := by unfold pureW; simp only [isA, if_true]
def panR (Q : QT) (τ : Tau) (h : H) : V → Prop
  | .s (.iface t v) => Q (.pan (.s (.iface t v))) τ h
  | _ => False
theorem panR_iface (t : TypeId) (v : Value) : panR Q τ h (.s (.iface t v)) = Q (.pan (.s (.iface t v))) τ h := by unfold panR; rfl
theorem opRun_panic (all os : List Oper) (d : Option Nat) (x : Operand) : opRun P N n Q all os k d τ h (.panic x) = panR Q τ h (ev τ x) := by unfold opRun panR; rfl
def callR (P : Program) (N : Nat) (Q : QT) (args : List V) (d : Option Nat) (items : List It) (τ : Tau) (h : H) : V → Prop
  | .fn f caps => CallThen P N Q f (args ++ caps.map fun p => .ptr p.1 p.2) d items τ h
  | _ => False
def callD (P : Program) (N : Nat) (Q : QT) (h0 : H) (exc : List Nat) (ops : Array Oper) (fuel : Nat) (listed : Array Bool) (k : List It) (args : List V) (d : Option Nat) (τ : Tau) (h : H) : V → Prop
  | .fn f caps => DCall P N Q h0 exc ops fuel listed k f (args ++ caps.map fun p => .ptr p.1 p.2) d τ h
  | _ => False
theorem callR_fn (args : List V) (d : Option Nat) (items : List It) (f : Nat) (caps : List (Nat × Nat)) : callR P N Q args d items τ h (.fn f caps) = CallThen P N Q f (args ++ caps.map fun p => .ptr p.1 p.2) d items τ h := by unfold callR; rfl
theorem callD_fn {h0 : H} {exc : List Nat} {ops : Array Oper} {fuel : Nat} {listed : Array Bool} (args : List V) (d : Option Nat) (f : Nat) (caps : List (Nat × Nat)) : callD P N Q h0 exc ops fuel listed k args d τ h (.fn f caps) = DCall P N Q h0 exc ops fuel listed k f (args ++ caps.map fun p => .ptr p.1 p.2) d τ h := by unfold callD; rfl
theorem opRun_call (all os : List Oper) (d : Option Nat) (f : Operand) (args : Array Operand) (ts : Array TypeId) : opRun P N n Q all os k d τ h (.call ⟨.value f, args, ts⟩) = callR P N Q (args.toList.map (ev τ)) d (.ops all os :: k) τ h (ev τ f) := by unfold opRun callR; rfl
theorem effR_call {h0 : H} {exc : List Nat} {ops : Array Oper} {fuel : Nat} {listed : Array Bool} {td : TD} (d : Option Nat) (f : Operand) (args : Array Operand) (ts : Array TypeId) : effR P N m Q k h0 exc ops fuel listed td d τ h (.call ⟨.value f, args, ts⟩) = callD P N Q h0 exc ops fuel listed k (args.toList.map (ev τ)) d τ h (ev τ f) := by unfold effR callD; rfl
theorem opRun_len (all os : List Oper) (d : Option Nat) (args : Array Operand) (ts : Array TypeId) : opRun P N n Q all os k d τ h (.call ⟨.builtin .len, args, ts⟩) = builtinW P τ h .len args.toList ts.toList (RunK P N n Q (.ops all os :: k) d τ) := by unfold opRun; rfl
theorem effR_len {h0 : H} {exc : List Nat} {ops : Array Oper} {fuel : Nat} {listed : Array Bool} {td : TD} (d : Option Nat) (args : Array Operand) (ts : Array TypeId) : effR P N m Q k h0 exc ops fuel listed td d τ h (.call ⟨.builtin .len, args, ts⟩) = builtinW P τ h .len args.toList ts.toList (RunDE P N m Q k h0 exc ops fuel listed td d τ) := by unfold effR; rfl
theorem floatC_len {h0 : H} {exc : List Nat} (d : Option Nat) (args : Array Operand) (ts : Array TypeId) (ty : TypeId) (pos : String) (after g) : floatC P h0 exc τ h ⟨d, .call ⟨.builtin .len, args, ts⟩, ty, pos, after, g⟩ K = builtinW P τ h .len args.toList ts.toList K := by unfold floatC floatW; rfl
theorem pureW_len (d : Option Nat) (args : Array Operand) (ts : Array TypeId) (ty : TypeId) (pos : String) (after g) : pureW P τ h ⟨d, .call ⟨.builtin .len, args, ts⟩, ty, pos, after, g⟩ K = builtinW P τ h .len args.toList ts.toList K := by unfold pureW; rfl
theorem opRun_cap (all os : List Oper) (d : Option Nat) (args : Array Operand) (ts : Array TypeId) : opRun P N n Q all os k d τ h (.call ⟨.builtin .cap, args, ts⟩) = builtinW P τ h .cap args.toList ts.toList (RunK P N n Q (.ops all os :: k) d τ) := by unfold opRun; rfl
theorem effR_cap {h0 : H} {exc : List Nat} {ops : Array Oper} {fuel : Nat} {listed : Array Bool} {td : TD} (d : Option Nat) (args : Array Operand) (ts : Array TypeId) : effR P N m Q k h0 exc ops fuel listed td d τ h (.call ⟨.builtin .cap, args, ts⟩) = builtinW P τ h .cap args.toList ts.toList (RunDE P N m Q k h0 exc ops fuel listed td d τ) := by unfold effR; rfl
theorem floatC_cap {h0 : H} {exc : List Nat} (d : Option Nat) (args : Array Operand) (ts : Array TypeId) (ty : TypeId) (pos : String) (after g) : floatC P h0 exc τ h ⟨d, .call ⟨.builtin .cap, args, ts⟩, ty, pos, after, g⟩ K = builtinW P τ h .cap args.toList ts.toList K := by unfold floatC floatW; rfl
theorem pureW_cap (d : Option Nat) (args : Array Operand) (ts : Array TypeId) (ty : TypeId) (pos : String) (after g) : pureW P τ h ⟨d, .call ⟨.builtin .cap, args, ts⟩, ty, pos, after, g⟩ K = builtinW P τ h .cap args.toList ts.toList K := by unfold pureW; rfl
theorem opRun_min (all os : List Oper) (d : Option Nat) (args : Array Operand) (ts : Array TypeId) : opRun P N n Q all os k d τ h (.call ⟨.builtin .min, args, ts⟩) = builtinW P τ h .min args.toList ts.toList (RunK P N n Q (.ops all os :: k) d τ) := by unfold opRun; rfl
theorem effR_min {h0 : H} {exc : List Nat} {ops : Array Oper} {fuel : Nat} {listed : Array Bool} {td : TD} (d : Option Nat) (args : Array Operand) (ts : Array TypeId) : effR P N m Q k h0 exc ops fuel listed td d τ h (.call ⟨.builtin .min, args, ts⟩) = builtinW P τ h .min args.toList ts.toList (RunDE P N m Q k h0 exc ops fuel listed td d τ) := by unfold effR; rfl
theorem floatC_min {h0 : H} {exc : List Nat} (d : Option Nat) (args : Array Operand) (ts : Array TypeId) (ty : TypeId) (pos : String) (after g) : floatC P h0 exc τ h ⟨d, .call ⟨.builtin .min, args, ts⟩, ty, pos, after, g⟩ K = builtinW P τ h .min args.toList ts.toList K := by unfold floatC floatW; rfl
theorem pureW_min (d : Option Nat) (args : Array Operand) (ts : Array TypeId) (ty : TypeId) (pos : String) (after g) : pureW P τ h ⟨d, .call ⟨.builtin .min, args, ts⟩, ty, pos, after, g⟩ K = builtinW P τ h .min args.toList ts.toList K := by unfold pureW; rfl
theorem opRun_max (all os : List Oper) (d : Option Nat) (args : Array Operand) (ts : Array TypeId) : opRun P N n Q all os k d τ h (.call ⟨.builtin .max, args, ts⟩) = builtinW P τ h .max args.toList ts.toList (RunK P N n Q (.ops all os :: k) d τ) := by unfold opRun; rfl
theorem effR_max {h0 : H} {exc : List Nat} {ops : Array Oper} {fuel : Nat} {listed : Array Bool} {td : TD} (d : Option Nat) (args : Array Operand) (ts : Array TypeId) : effR P N m Q k h0 exc ops fuel listed td d τ h (.call ⟨.builtin .max, args, ts⟩) = builtinW P τ h .max args.toList ts.toList (RunDE P N m Q k h0 exc ops fuel listed td d τ) := by unfold effR; rfl
theorem floatC_max {h0 : H} {exc : List Nat} (d : Option Nat) (args : Array Operand) (ts : Array TypeId) (ty : TypeId) (pos : String) (after g) : floatC P h0 exc τ h ⟨d, .call ⟨.builtin .max, args, ts⟩, ty, pos, after, g⟩ K = builtinW P τ h .max args.toList ts.toList K := by unfold floatC floatW; rfl
theorem pureW_max (d : Option Nat) (args : Array Operand) (ts : Array TypeId) (ty : TypeId) (pos : String) (after g) : pureW P τ h ⟨d, .call ⟨.builtin .max, args, ts⟩, ty, pos, after, g⟩ K = builtinW P τ h .max args.toList ts.toList K := by unfold pureW; rfl
theorem opRun_append (all os : List Oper) (d : Option Nat) (s x : Operand) (t u : TypeId) : opRun P N n Q all os k d τ h (.call ⟨.builtin .append, #[s, x], #[t, u]⟩) = AppThen P N Q (ev τ s) (ev τ x) t u d (.ops all os :: k) τ h := by unfold opRun; rfl
theorem opRun_copy (all os : List Oper) (d : Option Nat) (s x : Operand) (t u : TypeId) : opRun P N n Q all os k d τ h (.call ⟨.builtin .copy, #[s, x], #[t, u]⟩) = CopyThen P N Q (ev τ s) (ev τ x) t u d (.ops all os :: k) τ h := by unfold opRun; rfl
theorem opRun_clear (all os : List Oper) (d : Option Nat) (s : Operand) (t : TypeId) : opRun P N n Q all os k d τ h (.call ⟨.builtin .clear, #[s], #[t]⟩) = ClearThen P N Q (ev τ s) t d (.ops all os :: k) τ h := by unfold opRun; rfl
theorem effR_append {h0 : H} {exc : List Nat} {ops : Array Oper} {fuel : Nat} {listed : Array Bool} {td : TD} (d : Option Nat) (s x : Operand) (t u : TypeId) : effR P N m Q k h0 exc ops fuel listed td d τ h (.call ⟨.builtin .append, #[s, x], #[t, u]⟩) = DApp P N Q h0 exc ops fuel listed k (ev τ s) (ev τ x) t u d τ h := by unfold effR; rfl
theorem effR_copy {h0 : H} {exc : List Nat} {ops : Array Oper} {fuel : Nat} {listed : Array Bool} {td : TD} (d : Option Nat) (s x : Operand) (t u : TypeId) : effR P N m Q k h0 exc ops fuel listed td d τ h (.call ⟨.builtin .copy, #[s, x], #[t, u]⟩) = DCopy P N Q h0 exc ops fuel listed k (ev τ s) (ev τ x) t u d τ h := by unfold effR; rfl
theorem opW_move (x : Operand) : opW P τ h (.move x) K = K (ev τ x) h := by unfold opW; rfl
theorem opW_assign (x : Operand) : opW P τ h (.assign x) K = K (ev τ x) h := by unfold opW; rfl
def pickV : Bool → V → V → V
  | true, x, _ => x
  | false, _, y => y
def pickK (K : V → H → Prop) (h : H) (x y : V) : V → Prop
  | .s (.bool t) => K (pickV t x y) h
  | _ => False
theorem pickV_true (x y : V) : pickV true x y = x := by unfold pickV; rfl
theorem pickV_false (x y : V) : pickV false x y = y := by unfold pickV; rfl
theorem pickV_bool (t a b : Bool) : pickV t (.s (.bool a)) (.s (.bool b)) = .s (.bool (cond t a b)) := by cases t <;> rfl
theorem pickK_bool (x y : V) (t : Bool) : pickK K h x y (.s (.bool t)) = K (pickV t x y) h := by unfold pickK; rfl
theorem opW_pick (c a b : Operand) : opW P τ h (.pick c a b) K = pickK K h (ev τ a) (ev τ b) (ev τ c) := by
  have e : opW P τ h (.pick c a b) K = (match ev τ c with | .s (.bool t) => K (if t then ev τ a else ev τ b) h | _ => False) := by unfold opW; rfl
  rw [e]
  generalize ev τ c = v
  unfold pickK
  cases v with
  | s u => cases u with
    | bool t => cases t <;> rfl
    | _ => rfl
  | _ => rfl
def allocK (K : V → H → Prop) (h : H) (e : TypeId) : Option (List Value) → Prop
  | some z => z.all one = true ∧ K (.ptr h.n 0) (h.push ⟨z.map .s, z.length, e, .own⟩)
  | none => False
theorem allocK_some (e : TypeId) (z : List Value) : allocK K h e (some z) = (z.all one = true ∧ K (.ptr h.n 0) (h.push ⟨z.map .s, z.length, e, .own⟩)) := by unfold allocK; rfl
theorem opW_alloc (e : TypeId) : opW P τ h (.alloc e) K = allocK K h e (tZero P e) := by unfold opW allocK; rfl
def boxK (K : V → H → Prop) (h : H) (e : TypeId) : Option (List V) → Prop
  | some cs => K (.ptr h.n 0) (h.push ⟨cs, cs.length, e, .own⟩)
  | none => False
theorem boxK_some (e : TypeId) (cs : List V) : boxK K h e (some cs) = K (.ptr h.n 0) (h.push ⟨cs, cs.length, e, .own⟩) := by unfold boxK; rfl
theorem opW_box (e : TypeId) (x : Operand) : opW P τ h (.box e x) K = boxK K h e (cellsOf (ev τ x)) := by unfold opW boxK; rfl
theorem cellsOf_int (k : IntKind) (x : Int) : cellsOf (.s (.int k x)) = some [.s (.int k x)] := by rfl
theorem cellsOf_bool (b : Bool) : cellsOf (.s (.bool b)) = some [.s (.bool b)] := by rfl
theorem cellsOf_string (b : ByteArray) : cellsOf (.s (.string b)) = some [.s (.string b)] := by rfl
theorem cellsOf_slice (a : Option Addr) (l c : Nat) : cellsOf (.s (.slice a l c)) = some [.s (.slice a l c)] := by rfl
theorem cellsOf_iface (t : TypeId) (v : Value) : cellsOf (.s (.iface t v)) = some [.s (.iface t v)] := by rfl
theorem cellsOf_sl (b o l c : Nat) : cellsOf (.sl b o l c) = some [.sl b o l c] := by rfl
theorem cellsOf_ptr (b o : Nat) : cellsOf (.ptr b o) = some [.ptr b o] := by rfl
theorem cellsOf_fn (f : Nat) (cs) : cellsOf (.fn f cs) = some [.fn f cs] := by rfl
def aggC (cs : List V) : Bool → Option (List V)
  | true => some cs
  | false => none
theorem aggC_true (cs : List V) : aggC cs true = some cs := by unfold aggC; rfl
theorem cellsOf_agg (cs : List V) : cellsOf (.agg cs) = aggC cs (cs.all cellOk) := by unfold cellsOf aggC; simp only; cases cs.all cellOk <;> rfl
theorem cellOk_int (k : IntKind) (x : Int) : cellOk (.s (.int k x)) = true := by rfl
theorem cellOk_bool (b : Bool) : cellOk (.s (.bool b)) = true := by rfl
theorem cellOk_string (c : ByteArray) : cellOk (.s (.string c)) = true := by rfl
theorem cellOk_slice (a : Option Addr) (l : Nat) (m : Nat) : cellOk (.s (.slice a l m)) = true := by rfl
theorem cellOk_iface (t : TypeId) (u : Value) : cellOk (.s (.iface t u)) = true := by rfl
theorem cellOk_sl (i : Nat) (o : Nat) (l : Nat) (m : Nat) : cellOk (.sl i o l m) = true := by rfl
theorem cellOk_ptr (i : Nat) (o : Nat) : cellOk (.ptr i o) = true := by rfl
theorem one_int (k : IntKind) (x : Int) : one (.int k x) = true := by rfl
theorem one_bool (b : Bool) : one (.bool b) = true := by rfl
theorem one_string (c : ByteArray) : one (.string c) = true := by rfl
theorem one_slice (a : Option Addr) (l : Nat) (m : Nat) : one (.slice a l m) = true := by rfl
theorem one_iface (t : TypeId) (u : Value) : one (.iface t u) = true := by rfl
def fillB (place : Nat → Option (Nat × Nat)) (cells xs : List V) (off : Nat) (rest : List (Nat × V)) : Bool → Option (List V)
  | true => fillV place (wrL cells off xs) rest
  | false => none
def fillK (place : Nat → Option (Nat × Nat)) (cells : List V) (rest : List (Nat × V)) : Option (Nat × Nat) → Option (List V) → Option (List V)
  | some (off, size), some xs => fillB place cells xs off rest (Nat.beq xs.length size && Nat.ble (off + xs.length) cells.length)
  | _, _ => none
theorem fillB_true (place : Nat → Option (Nat × Nat)) (cells xs : List V) (off : Nat) (rest : List (Nat × V)) : fillB place cells xs off rest true = fillV place (wrL cells off xs) rest := by unfold fillB; rfl
theorem fillK_some (place : Nat → Option (Nat × Nat)) (cells xs : List V) (rest : List (Nat × V)) (off size : Nat) : fillK place cells rest (some (off, size)) (some xs) = fillB place cells xs off rest (Nat.beq xs.length size && Nat.ble (off + xs.length) cells.length) := by unfold fillK; rfl
theorem fillV_nil (place : Nat → Option (Nat × Nat)) (cells : List V) : fillV place cells [] = some cells := by rw [fillV]
theorem fillV_cons (place : Nat → Option (Nat × Nat)) (cells : List V) (i : Nat) (v : V) (rest : List (Nat × V)) : fillV place cells ((i, v) :: rest) = fillK place cells rest (place i) (cellsOf v) := by
  rw [fillV]; unfold fillK
  cases place i with
  | none => rfl
  | some p =>
    cases cellsOf v with
    | none => rfl
    | some xs =>
      obtain ⟨off, size⟩ := p
      simp only
      by_cases e : xs.length = size ∧ off + xs.length ≤ cells.length
      · have e1 : Nat.beq xs.length size = true := by rw [e.1]; exact Nat.beq_refl _
        have e2 : Nat.ble (off + xs.length) cells.length = true := Nat.ble_eq_true_of_le e.2
        rw [if_pos e, e1, e2]; rfl
      · rw [if_neg e]
        have : (Nat.beq xs.length size && Nat.ble (off + xs.length) cells.length) = false := by
          cases h1 : Nat.beq xs.length size with
          | false => rfl
          | true =>
            cases h2 : Nat.ble (off + xs.length) cells.length with
            | false => rfl
            | true => exact absurd ⟨Nat.eq_of_beq_eq_true h1, Nat.le_of_ble_eq_true h2⟩ e
        rw [this]; rfl
theorem wrL_nil (cs : List V) (off : Nat) : wrL cs off [] = cs := by rw [wrL]
theorem wrL_cons (cs : List V) (off : Nat) (x : V) (xs : List V) : wrL cs off (x :: xs) = wrL (cs.set off x) (off + 1) xs := by rw [wrL]
def buildK2 (K : V → H → Prop) (h : H) (z : List Value) : Option (List V) → Prop
  | some cs => z.all one = true ∧ K (.agg cs) h
  | none => False
def buildK1 (K : V → H → Prop) (h : H) (place : Nat → Option (Nat × Nat)) (ps : List (Nat × V)) : Bool → Option (List Value) → Prop
  | true, some z => buildK2 K h z (fillV place (z.map .s) ps)
  | _, _ => False
theorem buildK2_some (z : List Value) (cs : List V) : buildK2 K h z (some cs) = (z.all one = true ∧ K (.agg cs) h) := by unfold buildK2; rfl
theorem buildK1_some (place : Nat → Option (Nat × Nat)) (ps : List (Nat × V)) (z : List Value) : buildK1 K h place ps true (some z) = buildK2 K h z (fillV place (z.map .s) ps) := by unfold buildK1; rfl
def partsV (τ : Tau) : List (Nat × Operand) → List (Nat × V)
  | [] => []
  | (i, x) :: r => (i, ev τ x) :: partsV τ r
theorem partsV_eq (τ : Tau) : ∀ ps, partsV τ ps = ps.map fun p => (p.1, ev τ p.2)
  | [] => rfl
  | (i, x) :: r => by rw [partsV, partsV_eq τ r]; rfl
theorem partsV_nil : partsV τ [] = [] := by rw [partsV]
theorem partsV_cons (i : Nat) (x : Operand) (r : List (Nat × Operand)) : partsV τ ((i, x) :: r) = (i, ev τ x) :: partsV τ r := by rw [partsV]
theorem opW_build (t : TypeId) (ps : Array (Nat × Operand)) : opW P τ h (.build t ps) K = buildK1 K h (fldPlace P t) (partsV τ ps.toList) (bldOk P t) (tZero P t) := by rw [partsV_eq]; unfold opW buildK1 buildK2; rfl
def bsK3 (K : V → H → Prop) (h : H) (len : Nat) (e : TypeId) (n : Nat) (z : List Value) : Option (List V) → Prop
  | some cs => (z.all one = true ∧ z.length = n ∧ len * n ≤ 16777216) ∧ K (.sl h.n 0 len len) (h.push ⟨cs, len * n, e, .own⟩)
  | none => False
def placeN (n i : Nat) : Option (Nat × Nat) := some (i * n, n)
def bsK2 (K : V → H → Prop) (h : H) (len : Nat) (ps : List (Nat × V)) (e : TypeId) : Option Nat → Option (List Value) → Prop
  | some n, some z => bsK3 K h len e n z (fillV (placeN n) ((List.replicate len (z.map .s)).flatten) ps)
  | _, _ => False
def bsK1 (P : Program) (K : V → H → Prop) (h : H) (len : Nat) (ps : List (Nat × V)) : Option TypeId → Prop
  | some e => bsK2 K h len ps e (tSz P e) (tZero P e)
  | none => False
theorem placeN_eq (n i : Nat) : placeN n i = some (i * n, n) := by unfold placeN; rfl
theorem bsK3_some (len : Nat) (e : TypeId) (n : Nat) (z : List Value) (cs : List V) : bsK3 K h len e n z (some cs) = ((z.all one = true ∧ z.length = n ∧ len * n ≤ 16777216) ∧ K (.sl h.n 0 len len) (h.push ⟨cs, len * n, e, .own⟩)) := by unfold bsK3; rfl
theorem bsK2_some (len : Nat) (ps : List (Nat × V)) (e : TypeId) (n : Nat) (z : List Value) : bsK2 K h len ps e (some n) (some z) = bsK3 K h len e n z (fillV (placeN n) ((List.replicate len (z.map .s)).flatten) ps) := by unfold bsK2; rfl
theorem bsK1_some (len : Nat) (ps : List (Nat × V)) (e : TypeId) : bsK1 P K h len ps (some e) = bsK2 K h len ps e (tSz P e) (tZero P e) := by unfold bsK1; rfl
theorem opW_buildSlice (t : TypeId) (len : Nat) (ps : Array (Nat × Operand)) : opW P τ h (.buildSlice t len ps) K = bsK1 P K h len (partsV τ ps.toList) (tElem P t) := by rw [partsV_eq]; unfold opW bsK1 bsK2 bsK3 placeN; rfl
def ldV (K : V → H → Prop) (h : H) (b : Nat) : Option V → Prop
  | some v => b < h.n ∧ K v h
  | none => False
def ldA (K : V → H → Prop) (h : H) (b : Nat) : Option (List V) → Prop
  | some cs => b < h.n ∧ K (.agg cs) h
  | none => False
def ldN (K : V → H → Prop) (h : H) (b off : Nat) : Option Nat → Prop
  | some n => ldA K h b (h.rdN b off n)
  | none => False
def ldT (P : Program) (K : V → H → Prop) (h : H) (t : TypeId) (b off : Nat) : Option Bool → Prop
  | some true => ldN K h b off (tSz P t)
  | some false => ldV K h b (h.rd b off)
  | none => False
def ldK (P : Program) (K : V → H → Prop) (h : H) (t : TypeId) : V → Prop
  | .ptr b off => ldT P K h t b off (tAgg P t)
  | _ => False
theorem ldV_some (b : Nat) (v : V) : ldV K h b (some v) = (b < h.n ∧ K v h) := by unfold ldV; rfl
theorem ldA_some (b : Nat) (cs : List V) : ldA K h b (some cs) = (b < h.n ∧ K (.agg cs) h) := by unfold ldA; rfl
theorem ldN_some (b off n : Nat) : ldN K h b off (some n) = ldA K h b (h.rdN b off n) := by unfold ldN; rfl
theorem ldT_true (t : TypeId) (b off : Nat) : ldT P K h t b off (some true) = ldN K h b off (tSz P t) := by unfold ldT; rfl
theorem ldT_false (t : TypeId) (b off : Nat) : ldT P K h t b off (some false) = ldV K h b (h.rd b off) := by unfold ldT; rfl
theorem ldK_ptr (t : TypeId) (b off : Nat) : ldK P K h t (.ptr b off) = ldT P K h t b off (tAgg P t) := by unfold ldK; rfl
theorem opW_load (t : TypeId) (a : Operand) : opW P τ h (.load t a) K = ldK P K h t (ev τ a) := by
  have e : opW P τ h (.load t a) K = (match ev τ a with
    | .ptr b off => match tAgg P t with
      | some true => match tSz P t with
        | some n => match h.rdN b off n with
          | some cs => b < h.n ∧ K (.agg cs) h
          | none => False
        | none => False
      | some false => match h.rd b off with
        | some v => b < h.n ∧ K v h
        | none => False
      | none => False
    | _ => False) := by unfold opW; rfl
  rw [e]
  unfold ldK ldT ldN ldA ldV
  cases ev τ a with
  | ptr b off => cases tAgg P t with
    | none => rfl
    | some x => cases x <;> rfl
  | _ => rfl
def flV (K : V → H → Prop) (h0 : H) (exc : List Nat) (h : H) (b : Nat) : Option V → Prop
  | some v => (b < h0.n ∧ b ∉ exc ∧ cellOk v = true) ∧ K v h
  | none => False
def flA (K : V → H → Prop) (h0 : H) (exc : List Nat) (h : H) (b : Nat) : Option (List V) → Prop
  | some cs => (b < h0.n ∧ b ∉ exc ∧ cs.all cellOk = true) ∧ K (.agg cs) h
  | none => False
def flN (K : V → H → Prop) (h0 : H) (exc : List Nat) (h : H) (b off : Nat) : Option Nat → Prop
  | some n => flA K h0 exc h b (h0.rdN b off n)
  | none => False
def flT (P : Program) (K : V → H → Prop) (h0 : H) (exc : List Nat) (h : H) (t : TypeId) (b off : Nat) : Option Bool → Prop
  | some true => flN K h0 exc h b off (tSz P t)
  | some false => flV K h0 exc h b (h0.rd b off)
  | none => False
def flK (P : Program) (K : V → H → Prop) (h0 : H) (exc : List Nat) (h : H) (t : TypeId) : V → Prop
  | .ptr b off => flT P K h0 exc h t b off (tAgg P t)
  | _ => False
theorem flV_some {h0 : H} {exc : List Nat} (b : Nat) (v : V) : flV K h0 exc h b (some v) = ((b < h0.n ∧ b ∉ exc ∧ cellOk v = true) ∧ K v h) := by unfold flV; rfl
theorem flA_some {h0 : H} {exc : List Nat} (b : Nat) (cs : List V) : flA K h0 exc h b (some cs) = ((b < h0.n ∧ b ∉ exc ∧ cs.all cellOk = true) ∧ K (.agg cs) h) := by unfold flA; rfl
theorem flN_some {h0 : H} {exc : List Nat} (b off n : Nat) : flN K h0 exc h b off (some n) = flA K h0 exc h b (h0.rdN b off n) := by unfold flN; rfl
theorem flT_true {h0 : H} {exc : List Nat} (t : TypeId) (b off : Nat) : flT P K h0 exc h t b off (some true) = flN K h0 exc h b off (tSz P t) := by unfold flT; rfl
theorem flT_false {h0 : H} {exc : List Nat} (t : TypeId) (b off : Nat) : flT P K h0 exc h t b off (some false) = flV K h0 exc h b (h0.rd b off) := by unfold flT; rfl
theorem flK_ptr {h0 : H} {exc : List Nat} (t : TypeId) (b off : Nat) : flK P K h0 exc h t (.ptr b off) = flT P K h0 exc h t b off (tAgg P t) := by unfold flK; rfl
theorem floatC_load {h0 : H} {exc : List Nat} (d : Option Nat) (t : TypeId) (a : Operand) (ty : TypeId) (pos : String) (after g) : floatC P h0 exc τ h ⟨d, .load t a, ty, pos, after, g⟩ K = flK P K h0 exc h t (ev τ a) := by
  have e : floatC P h0 exc τ h ⟨d, .load t a, ty, pos, after, g⟩ K = (match ev τ a with
    | .ptr b off => match tAgg P t with
      | some true => match tSz P t with
        | some n => match h0.rdN b off n with
          | some cs => (b < h0.n ∧ b ∉ exc ∧ cs.all cellOk = true) ∧ K (.agg cs) h
          | none => False
        | none => False
      | some false => match h0.rd b off with
        | some v => (b < h0.n ∧ b ∉ exc ∧ cellOk v = true) ∧ K v h
        | none => False
      | none => False
    | _ => False) := by unfold floatC floatW; rfl
  rw [e]
  unfold flK flT flN flA flV
  cases ev τ a with
  | ptr b off => cases tAgg P t with
    | none => rfl
    | some x => cases x <;> rfl
  | _ => rfl
def stK (P : Program) (K : V → H → Prop) (h : H) (t : TypeId) : V → Option (List V) → Prop
  | .ptr b off, some cs => (b < h.n ∧ (h.get b).st = .own ∧ tSz P t = some cs.length ∧ off + cs.length ≤ (h.get b).cells.length) ∧ K .any (h.wr b off cs)
  | _, _ => False
theorem stK_ptr (t : TypeId) (b off : Nat) (cs : List V) : stK P K h t (.ptr b off) (some cs) = ((b < h.n ∧ (h.get b).st = .own ∧ tSz P t = some cs.length ∧ off + cs.length ≤ (h.get b).cells.length) ∧ K .any (h.wr b off cs)) := by unfold stK; rfl
theorem opW_store (t : TypeId) (a x : Operand) : opW P τ h (.store t a x) K = stK P K h t (ev τ a) (cellsOf (ev τ x)) := by unfold opW stK; rfl
def nilK (K : V → H → Prop) (h : H) : V → Prop
  | .ptr b off => K (.ptr b off) h
  | .fn f cs => K (.fn f cs) h
  | .sl b off len cap => K (.sl b off len cap) h
  | _ => False
theorem nilK_ptr (b off : Nat) : nilK K h (.ptr b off) = K (.ptr b off) h := by unfold nilK; rfl
theorem nilK_fn (f : Nat) (cs) : nilK K h (.fn f cs) = K (.fn f cs) h := by unfold nilK; rfl
theorem nilK_sl (b off len cap : Nat) : nilK K h (.sl b off len cap) = K (.sl b off len cap) h := by unfold nilK; rfl
theorem opW_nilCheck (x : Operand) : opW P τ h (.nilCheck x) K = nilK K h (ev τ x) := by unfold opW nilK; rfl
def binN (P : Program) (K : V → H → Prop) (h : H) (op : BinOp) (t : TypeId) (a b : Value) : Option Value → Prop
  | some v => bOk P t a ∧ K (.s v) h
  | none => match op, a, b with
        | .eql, .slice none _ _, .slice none _ _ => (∃ e, tK P t = .slice e) ∧ K (.s (.bool true)) h
        | .neq, .slice none _ _, .slice none _ _ => (∃ e, tK P t = .slice e) ∧ K (.s (.bool false)) h
        | _, _, _ => False
def binK (P : Program) (K : V → H → Prop) (h : H) (op : BinOp) (t : TypeId) : V → V → Prop
  | .s a, .s b => binN P K h op t a b (binV op a b)
  | .sl _ _ _ _, .s (.slice none _ _) => match op with
      | .eql => (∃ e, tK P t = .slice e) ∧ K (.s (.bool false)) h
      | .neq => (∃ e, tK P t = .slice e) ∧ K (.s (.bool true)) h
      | _ => False
  | _, _ => False
def isSl : TK → Prop
  | .slice _ => True
  | _ => False
theorem isSl_slice (e : TypeId) : isSl (.slice e) = True := by unfold isSl; rfl
theorem isSl_iff (t : TK) : (∃ e, t = .slice e) = isSl t := by cases t <;> simp [isSl]
theorem binK_ss (op : BinOp) (t : TypeId) (a b : Value) : binK P K h op t (.s a) (.s b) = binN P K h op t a b (binV op a b) := by unfold binK; rfl
theorem binK_eql (t : TypeId) (b o l c : Nat) (x y : Nat) : binK P K h .eql t (.sl b o l c) (.s (.slice none x y)) = (isSl (tK P t) ∧ K (.s (.bool false)) h) := by rw [← isSl_iff]; unfold binK; rfl
theorem binK_neq (t : TypeId) (b o l c : Nat) (x y : Nat) : binK P K h .neq t (.sl b o l c) (.s (.slice none x y)) = (isSl (tK P t) ∧ K (.s (.bool true)) h) := by rw [← isSl_iff]; unfold binK; rfl
theorem binN_some (op : BinOp) (t : TypeId) (a b v : Value) : binN P K h op t a b (some v) = (bOk P t a ∧ K (.s v) h) := by unfold binN; rfl
theorem binK_nil_eql (t : TypeId) (x y x1 y1 : Nat) : binK P K h .eql t (.s (.slice none x y)) (.s (.slice none x1 y1)) = (isSl (tK P t) ∧ K (.s (.bool true)) h) := by rw [← isSl_iff]; unfold binK binN binV; rfl
theorem binK_nil_neq (t : TypeId) (x y x1 y1 : Nat) : binK P K h .neq t (.s (.slice none x y)) (.s (.slice none x1 y1)) = (isSl (tK P t) ∧ K (.s (.bool false)) h) := by rw [← isSl_iff]; unfold binK binN binV; rfl
theorem opW_binOp (op : BinOp) (t : TypeId) (x y : Operand) (u) : opW P τ h (.binOp op t x y u) K = binK P K h op t (ev τ x) (ev τ y) := by
  have e : opW P τ h (.binOp op t x y u) K = (match ev τ x, ev τ y with
    | .s a, .s b => match binV op a b with
      | some v => bOk P t a ∧ K (.s v) h
      | none => match op, a, b with
        | .eql, .slice none _ _, .slice none _ _ => (∃ e, tK P t = .slice e) ∧ K (.s (.bool true)) h
        | .neq, .slice none _ _, .slice none _ _ => (∃ e, tK P t = .slice e) ∧ K (.s (.bool false)) h
        | _, _, _ => False
    | .sl _ _ _ _, .s (.slice none _ _) => match op with
      | .eql => (∃ e, tK P t = .slice e) ∧ K (.s (.bool false)) h
      | .neq => (∃ e, tK P t = .slice e) ∧ K (.s (.bool true)) h
      | _ => False
    | _, _ => False) := by unfold opW; rfl
  rw [e]
  unfold binK binN
  cases ev τ x with
  | s a => cases ev τ y <;> rfl
  | sl b o l c => cases ev τ y with
    | s v => cases v with
      | slice a _ _ => cases a <;> rfl
      | _ => rfl
    | _ => rfl
  | _ => rfl
theorem binV_add_int (k : IntKind) (a b : Int) : binV .add (.int k a) (.int k b) = some (.int k (k.wrap (a + b))) := by simp [binV]
theorem binV_sub_int (k : IntKind) (a b : Int) : binV .sub (.int k a) (.int k b) = some (.int k (k.wrap (a - b))) := by simp [binV]
theorem binV_mul_int (k : IntKind) (a b : Int) : binV .mul (.int k a) (.int k b) = some (.int k (k.wrap (a * b))) := by simp [binV]
theorem binV_eql_int (k : IntKind) (a b : Int) : binV .eql (.int k a) (.int k b) = some (.bool (a == b)) := by simp [binV]
theorem binV_neq_int (k : IntKind) (a b : Int) : binV .neq (.int k a) (.int k b) = some (.bool (a != b)) := by simp [binV]
theorem binV_lss_int (k : IntKind) (a b : Int) : binV .lss (.int k a) (.int k b) = some (.bool (decide (a < b))) := by simp [binV]
theorem binV_leq_int (k : IntKind) (a b : Int) : binV .leq (.int k a) (.int k b) = some (.bool (decide (a ≤ b))) := by simp [binV]
theorem binV_gtr_int (k : IntKind) (a b : Int) : binV .gtr (.int k a) (.int k b) = some (.bool (decide (b < a))) := by simp [binV]
theorem binV_geq_int (k : IntKind) (a b : Int) : binV .geq (.int k a) (.int k b) = some (.bool (decide (b ≤ a))) := by simp [binV]
theorem binV_quo_int (k : IntKind) (a b : Int) (hb : b ≠ 0) : binV .quo (.int k a) (.int k b) = some (.int k (k.wrap (a.tdiv b))) := by simp [binV, hb]
theorem binV_rem_int (k : IntKind) (a b : Int) (hb : b ≠ 0) : binV .rem (.int k a) (.int k b) = some (.int k (a.tmod b)) := by simp [binV, hb]
theorem binV_shr_int (k k' : IntKind) (a b : Int) (hb : 0 ≤ b ∧ b ≤ k.bits) : binV .shr (.int k a) (.int k' b) = some (.int k (a / 2 ^ b.toNat)) := by simp [binV, hb.1, hb.2]
theorem binV_add_str (a b : ByteArray) (hb : a.size + b.size ≤ 9223372036854775807) : binV .add (.string a) (.string b) = some (.string (a ++ b)) := by simp [binV, hb]
theorem binV_eql_str (a b : ByteArray) : binV .eql (.string a) (.string b) = some (.bool (decide (a = b))) := by rfl
theorem binV_neq_str (a b : ByteArray) : binV .neq (.string a) (.string b) = some (.bool (!decide (a = b))) := by rfl
theorem binV_lss_str (a b : ByteArray) : binV .lss (.string a) (.string b) = some (.bool (Op.bytesLess a.toList b.toList)) := by rfl
theorem binV_leq_str (a b : ByteArray) : binV .leq (.string a) (.string b) = some (.bool (Op.bytesLess a.toList b.toList || decide (a = b))) := by rfl
theorem binV_gtr_str (a b : ByteArray) : binV .gtr (.string a) (.string b) = some (.bool (!(Op.bytesLess a.toList b.toList || decide (a = b)))) := by rfl
theorem binV_geq_str (a b : ByteArray) : binV .geq (.string a) (.string b) = some (.bool (!Op.bytesLess a.toList b.toList)) := by rfl
theorem binV_eql_bool (a b : Bool) : binV .eql (.bool a) (.bool b) = some (.bool (a == b)) := by rfl
theorem binV_neq_bool (a b : Bool) : binV .neq (.bool a) (.bool b) = some (.bool (a != b)) := by rfl
theorem bOk_int (t : TypeId) (k : IntKind) (a : Int) : bOk P t (.int k a) = True := by rfl
theorem bOk_str (t : TypeId) (a : ByteArray) : bOk P t (.string a) = True := by rfl
theorem bOk_bool (t : TypeId) (a : Bool) : bOk P t (.bool a) = (tK P t = .bool) := by rfl
def unK (K : V → H → Prop) (h : H) : UnOp → V → Prop
  | .not, .s (.bool b) => K (.s (.bool (!b))) h
  | .neg, .s (.int k n) => K (.s (.int k (k.wrap (0 - n)))) h
  | _, _ => False
theorem unK_not (b : Bool) : unK K h .not (.s (.bool b)) = K (.s (.bool (!b))) h := by unfold unK; rfl
theorem unK_neg (k : IntKind) (x : Int) : unK K h .neg (.s (.int k x)) = K (.s (.int k (k.wrap (0 - x)))) h := by unfold unK; rfl
theorem opW_unOp (op : UnOp) (t : TypeId) (x : Operand) : opW P τ h (.unOp op t x) K = unK K h op (ev τ x) := by unfold opW unK; rfl
def cvK (K : V → H → Prop) (h : H) : TK → TK → V → Prop
  | .int _, .int k, .s (.int _ n) => K (.s (.int k (k.wrap n))) h
  | .string, .string, .s (.string s) => K (.s (.string s)) h
  | _, _, _ => False
theorem cvK_int (a k b : IntKind) (x : Int) : cvK K h (.int a) (.int k) (.s (.int b x)) = K (.s (.int k (k.wrap x))) h := by unfold cvK; rfl
theorem cvK_str (s : ByteArray) : cvK K h .string .string (.s (.string s)) = K (.s (.string s)) h := by unfold cvK; rfl
theorem opW_convert (s d : TypeId) (x : Operand) : opW P τ h (.convert s d x) K = cvK K h (tK P s) (tK P d) (ev τ x) := by unfold opW cvK; rfl
def mkK2 (K : V → H → Prop) (h : H) (e : TypeId) (l c : Int) : Option Nat → Option (List Value) → Option Nat → Prop
  | some n, some z, some by_ => (0 ≤ l ∧ l ≤ c ∧ (by_ : Int) * c ≤ 140737488355328 ∧ c ≤ 9223372036854775807 ∧ z.length = n ∧ z.all one = true) ∧
          K (.sl h.n 0 l.toNat c.toNat) (h.push ⟨(List.replicate c.toNat (z.map .s)).flatten, c.toNat * n, e, .own⟩)
  | _, _, _ => False
def mkK (P : Program) (K : V → H → Prop) (h : H) : Option TypeId → V → V → Prop
  | some e, .s (.int _ l), .s (.int _ c) => mkK2 K h e l c (tSz P e) (tZero P e) (tBytes P e)
  | _, _, _ => False
theorem mkK2_some (e : TypeId) (l c : Int) (n by_ : Nat) (z : List Value) : mkK2 K h e l c (some n) (some z) (some by_) = ((0 ≤ l ∧ l ≤ c ∧ (by_ : Int) * c ≤ 140737488355328 ∧ c ≤ 9223372036854775807 ∧ z.length = n ∧ z.all one = true) ∧ K (.sl h.n 0 l.toNat c.toNat) (h.push ⟨(List.replicate c.toNat (z.map .s)).flatten, c.toNat * n, e, .own⟩)) := by unfold mkK2; rfl
theorem mkK_int (e : TypeId) (k k' : IntKind) (l c : Int) : mkK P K h (some e) (.s (.int k l)) (.s (.int k' c)) = mkK2 K h e l c (tSz P e) (tZero P e) (tBytes P e) := by unfold mkK; rfl
theorem opW_makeSlice (t : TypeId) (l c : Operand) : opW P τ h (.makeSlice t l c) K = mkK P K h (tElem P t) (ev τ l) (ev τ c) := by unfold opW mkK mkK2; rfl
def oV (τ : Tau) : Option Operand → Option V
  | none => none
  | some x => some (ev τ x)
def slC (b off len cap n : Nat) (l r : Int) : V := if cap = l.toNat then .sl b off len (cap - l.toNat) else .sl b (off + l.toNat * n) len (cap - l.toNat)
def slS (K : V → H → Prop) (h : H) (s : ByteArray) : Option (Option Int) → Option (Option Int) → Option (Option Int) → Prop
      | none, none, none => K (.s (.string s)) h
      | some (some l), none, none => (0 ≤ l ∧ l ≤ s.size) ∧ K (.s (.string (s.extract l.toNat s.size))) h
      | none, some (some r), none => (0 ≤ r ∧ r ≤ s.size) ∧ K (.s (.string (s.extract 0 r.toNat))) h
      | some (some l), some (some r), none => (0 ≤ l ∧ l ≤ r ∧ r ≤ s.size) ∧ K (.s (.string (s.extract l.toNat r.toNat))) h
      | _, _, _ => False
def slL (K : V → H → Prop) (h : H) (b off len cap n : Nat) : Option (Option Int) → Option (Option Int) → Option (Option Int) → Prop
        | none, none, none => K (.sl b off len cap) h
        | some (some l), none, none => (0 ≤ l ∧ l ≤ len) ∧ K (slC b off (len - l.toNat) cap n l len) h
        | none, some (some r), none => (0 ≤ r ∧ r ≤ cap) ∧ K (.sl b off r.toNat cap) h
        | some (some l), some (some r), none => (0 ≤ l ∧ l ≤ r ∧ r ≤ cap) ∧ K (slC b off (r.toNat - l.toNat) cap n l r) h
        | none, some (some r), some (some m) => (0 ≤ r ∧ r ≤ m ∧ m ≤ cap) ∧ K (.sl b off r.toNat m.toNat) h
        | _, _, _ => False
def slN (K : V → H → Prop) (h : H) (b off len cap : Nat) (lo hi mx : Option (Option Int)) : Option Nat → Prop
  | some n => slL K h b off len cap n lo hi mx
  | none => False
def slK (P : Program) (K : V → H → Prop) (h : H) (lo hi mx : Option (Option Int)) : V → TK → Prop
  | .s (.string s), .string => slS K h s lo hi mx
  | .sl b off len cap, .slice e => slN K h b off len cap lo hi mx (tSz P e)
  | _, _ => False
def oI (τ : Tau) : Option Operand → Option (Option Int)
  | none => none
  | some x => some (intOfV (ev τ x))
theorem oI_none : oI τ none = none := by unfold oI; rfl
theorem oI_some (x : Operand) : oI τ (some x) = some (intOfV (ev τ x)) := by unfold oI; rfl
theorem intOfV_int (k : IntKind) (x : Int) : intOfV (.s (.int k x)) = some x := by unfold intOfV; rfl
theorem slK_str (lo hi mx : Option (Option Int)) (s : ByteArray) : slK P K h lo hi mx (.s (.string s)) .string = slS K h s lo hi mx := by unfold slK; rfl
theorem slK_sl (lo hi mx : Option (Option Int)) (b off len cap : Nat) (e : TypeId) : slK P K h lo hi mx (.sl b off len cap) (.slice e) = slN K h b off len cap lo hi mx (tSz P e) := by unfold slK; rfl
theorem slN_some (b off len cap : Nat) (lo hi mx : Option (Option Int)) (n : Nat) : slN K h b off len cap lo hi mx (some n) = slL K h b off len cap n lo hi mx := by unfold slN; rfl
theorem slS_0 (s : ByteArray) : slS K h s none none none = K (.s (.string s)) h := by unfold slS; rfl
theorem slS_1 (s : ByteArray) (l : Int) : slS K h s (some (some l)) none none = ((0 ≤ l ∧ l ≤ s.size) ∧ K (.s (.string (s.extract l.toNat s.size))) h) := by unfold slS; rfl
theorem slS_2 (s : ByteArray) (r : Int) : slS K h s none (some (some r)) none = ((0 ≤ r ∧ r ≤ s.size) ∧ K (.s (.string (s.extract 0 r.toNat))) h) := by unfold slS; rfl
theorem slS_3 (s : ByteArray) (l r : Int) : slS K h s (some (some l)) (some (some r)) none = ((0 ≤ l ∧ l ≤ r ∧ r ≤ s.size) ∧ K (.s (.string (s.extract l.toNat r.toNat))) h) := by unfold slS; rfl
theorem slL_0 (b off len cap n : Nat) : slL K h b off len cap n none none none = K (.sl b off len cap) h := by unfold slL; rfl
theorem slL_1 (b off len cap n : Nat) (l : Int) : slL K h b off len cap n (some (some l)) none none = ((0 ≤ l ∧ l ≤ len) ∧ K (slC b off (len - l.toNat) cap n l len) h) := by unfold slL; rfl
theorem slL_2 (b off len cap n : Nat) (r : Int) : slL K h b off len cap n none (some (some r)) none = ((0 ≤ r ∧ r ≤ cap) ∧ K (.sl b off r.toNat cap) h) := by unfold slL; rfl
theorem slL_3 (b off len cap n : Nat) (l r : Int) : slL K h b off len cap n (some (some l)) (some (some r)) none = ((0 ≤ l ∧ l ≤ r ∧ r ≤ cap) ∧ K (slC b off (r.toNat - l.toNat) cap n l r) h) := by unfold slL; rfl
theorem slL_4 (b off len cap n : Nat) (r m : Int) : slL K h b off len cap n none (some (some r)) (some (some m)) = ((0 ≤ r ∧ r ≤ m ∧ m ≤ cap) ∧ K (.sl b off r.toNat m.toNat) h) := by unfold slL; rfl
theorem opW_slice (t : TypeId) (x : Operand) (lo hi mx : Option Operand) : opW P τ h (.slice t x lo hi mx) K = slK P K h (oI τ lo) (oI τ hi) (oI τ mx) (ev τ x) (tK P t) := by
  have e : ∀ o : Option Operand, o.map (intOfV ∘ ev τ) = oI τ o := fun o => by cases o <;> rfl
  unfold opW slK slS slN slL slC
  simp only [e]
  cases ev τ x with
  | s a => cases a with
    | string s => cases tK P t with
      | string =>
        simp only
        have e1 : oI τ none = none := rfl
        have e2 : ∀ y, oI τ (some y) = some (intOfV (ev τ y)) := fun _ => rfl
        cases lo <;> cases hi <;> cases mx <;> simp only [e1, e2] <;> (try rfl)
        all_goals (cases intOfV (ev τ _) <;> first | rfl | (cases intOfV (ev τ _) <;> first | rfl | (cases intOfV (ev τ _) <;> rfl)))
      | _ => rfl
    | _ => rfl
  | sl b off len cap => cases tK P t with
    | slice e =>
      simp only
      cases tSz P e <;> rfl
    | _ => rfl
  | _ => rfl
def posSz : Option Nat → Bool
  | some (n + 1) => true
  | _ => false
def faK (P : Program) (K : V → H → Prop) (h : H) : V → Option (Nat × TypeId) → Prop
  | .ptr b off, some (fo, ft) => posSz (tSz P ft) = true ∧ K (.ptr b (off + fo)) h
  | _, _ => False
theorem posSz_succ (n : Nat) : posSz (some (n + 1)) = true := by rfl
theorem faK_ptr (b off fo : Nat) (ft : TypeId) : faK P K h (.ptr b off) (some (fo, ft)) = (posSz (tSz P ft) = true ∧ K (.ptr b (off + fo)) h) := by unfold faK; rfl
theorem opW_fieldAddr (s : TypeId) (x : Operand) (f : Nat) : opW P τ h (.fieldAddr s x f) K = faK P K h (ev τ x) (tFld P s f) := by
  have e : ∀ o : Option Nat, (∃ n, o = some (n + 1)) = (posSz o = true) := fun o => by
    cases o with
    | none => simp [posSz]
    | some n => cases n <;> simp [posSz]
  unfold opW faK
  simp only [e]
  rfl
def fdV (K : V → H → Prop) (h : H) : Option V → Prop
  | some v => K v h
  | none => False
def fdK2 (K : V → H → Prop) (h : H) (cs : List V) (fo : Nat) : Option Bool → Option Nat → Prop
  | some true, some n => fo + n ≤ cs.length ∧ K (.agg ((cs.drop fo).take n)) h
  | some false, _ => fdV K h (cs[fo]?)
  | _, _ => False
def fdK (P : Program) (K : V → H → Prop) (h : H) : V → Option (Nat × TypeId) → Prop
  | .agg cs, some (fo, ft) => fdK2 K h cs fo (tAgg P ft) (tSz P ft)
  | _, _ => False
theorem fdV_some (v : V) : fdV K h (some v) = K v h := by unfold fdV; rfl
theorem fdK2_true (cs : List V) (fo n : Nat) : fdK2 K h cs fo (some true) (some n) = (fo + n ≤ cs.length ∧ K (.agg ((cs.drop fo).take n)) h) := by unfold fdK2; rfl
theorem fdK2_false (cs : List V) (fo : Nat) (n : Option Nat) : fdK2 K h cs fo (some false) n = fdV K h (cs[fo]?) := by unfold fdK2; rfl
theorem fdK_agg (cs : List V) (fo : Nat) (ft : TypeId) : fdK P K h (.agg cs) (some (fo, ft)) = fdK2 K h cs fo (tAgg P ft) (tSz P ft) := by unfold fdK; rfl
theorem opW_field (s : TypeId) (x : Operand) (f : Nat) : opW P τ h (.field s x f) K = fdK P K h (ev τ x) (tFld P s f) := by
  have e : opW P τ h (.field s x f) K = (match ev τ x, tFld P s f with
    | .agg cs, some (fo, ft) => match tAgg P ft, tSz P ft with
      | some true, some n => fo + n ≤ cs.length ∧ K (.agg ((cs.drop fo).take n)) h
      | some false, _ => match cs[fo]? with
        | some v => K v h
        | none => False
      | _, _ => False
    | _, _ => False) := by unfold opW; rfl
  rw [e]
  unfold fdK fdK2 fdV
  cases ev τ x with
  | agg cs => cases tFld P s f with
    | none => rfl
    | some p =>
      obtain ⟨fo, ft⟩ := p
      simp only
  | _ => rfl
def iaK2 (K : V → H → Prop) (h : H) (b off len : Nat) (i : Int) : Option Nat → Prop
  | some n => (0 ≤ i ∧ i < len) ∧ K (.ptr b (off + i.toNat * n)) h
  | none => False
def iaK (P : Program) (K : V → H → Prop) (h : H) : V → V → Option TypeId → Prop
  | .sl b off len _, .s (.int _ i), some e => iaK2 K h b off len i (tSz P e)
  | _, _, _ => False
theorem iaK2_some (b off len : Nat) (i : Int) (n : Nat) : iaK2 K h b off len i (some n) = ((0 ≤ i ∧ i < len) ∧ K (.ptr b (off + i.toNat * n)) h) := by unfold iaK2; rfl
theorem iaK_sl (b off len cap : Nat) (k : IntKind) (i : Int) (e : TypeId) : iaK P K h (.sl b off len cap) (.s (.int k i)) (some e) = iaK2 K h b off len i (tSz P e) := by unfold iaK; rfl
theorem opW_indexAddr (t : TypeId) (x i : Operand) : opW P τ h (.indexAddr t x i) K = iaK P K h (ev τ x) (ev τ i) (tElem P t) := by unfold opW iaK iaK2; rfl
def ixK2 (K : V → H → Prop) (h : H) (i : Int) : Option UInt8 → Prop
  | some c => 0 ≤ i ∧ K (.s (.int .u8 c.toNat)) h
  | none => False
def ixK (K : V → H → Prop) (h : H) : V → V → TK → Prop
  | .s (.string s), .s (.int _ i), .string => ixK2 K h i (s[i.toNat]?)
  | _, _, _ => False
theorem ixK2_some (i : Int) (c : UInt8) : ixK2 K h i (some c) = (0 ≤ i ∧ K (.s (.int .u8 c.toNat)) h) := by unfold ixK2; rfl
theorem ixK_str (s : ByteArray) (k : IntKind) (i : Int) : ixK K h (.s (.string s)) (.s (.int k i)) .string = ixK2 K h i (s[i.toNat]?) := by unfold ixK; rfl
theorem opW_index (t : TypeId) (x i : Operand) : opW P τ h (.index t x i) K = ixK K h (ev τ x) (ev τ i) (tK P t) := by unfold opW ixK ixK2; rfl
def exK (K : V → H → Prop) (h : H) (i : Nat) : V → Prop
  | .tup vs => fdV K h (vs[i]?)
  | _ => False
theorem exK_tup (i : Nat) (vs : List V) : exK K h i (.tup vs) = fdV K h (vs[i]?) := by unfold exK; rfl
theorem opW_extract (x : Operand) (i : Nat) : opW P τ h (.extract x i) K = exK K h i (ev τ x) := by unfold opW exK fdV; rfl
def miK (P : Program) (K : V → H → Prop) (h : H) (t : TypeId) : V → Prop
  | .s v => P.concrete t = true ∧ K (.s (.iface t v)) h
  | _ => False
theorem miK_s (t : TypeId) (v : Value) : miK P K h t (.s v) = (P.concrete t = true ∧ K (.s (.iface t v)) h) := by unfold miK; rfl
theorem opW_makeInterface (t : TypeId) (x : Operand) : opW P τ h (.makeInterface t x) K = miK P K h t (ev τ x) := by unfold opW miK; rfl
def mfK (K : V → H → Prop) (h : H) : Fn → List Operand → Option (List (Nat × Nat)) → Prop
  | .func f, [], some ps => K (.fn f ps) h
  | _, _, _ => False
theorem mfK_func (f : Nat) (ps : List (Nat × Nat)) : mfK K h (.func f) [] (some ps) = K (.fn f ps) h := by unfold mfK; rfl
theorem opW_makeFunc (fn : Fn) (first caps : Array Operand) : opW P τ h (.makeFunc fn first caps) K = mfK K h fn first.toList (ptrsOf (caps.toList.map (ev τ))) := by unfold opW mfK; rfl
theorem ptrsOf_nil : ptrsOf [] = some [] := by rw [ptrsOf]
theorem ptrsOf_cons (b o : Nat) (r : List V) : ptrsOf (.ptr b o :: r) = (ptrsOf r).map fun l => (b, o) :: l := by rw [ptrsOf]
def lenK (K : V → H → Prop) (h : H) : V → TK → Prop
  | .s (.string s), .string => K (.s (.int .i64 s.size)) h
  | .sl _ _ len _, .slice _ => K (.s (.int .i64 len)) h
  | .s (.slice none n _), .slice _ => K (.s (.int .i64 n)) h
  | _, _ => False
def capK (K : V → H → Prop) (h : H) : V → TK → Prop
  | .sl _ _ _ cap, .slice _ => K (.s (.int .i64 cap)) h
  | .s (.slice none _ n), .slice _ => K (.s (.int .i64 n)) h
  | _, _ => False
def minK (K : V → H → Prop) (h : H) : V → V → Prop
  | .s (.int k a), .s (.int _ b) => K (.s (.int k (if b < a then b else a))) h
  | _, _ => False
def maxK (K : V → H → Prop) (h : H) : V → V → Prop
  | .s (.int k a), .s (.int _ b) => K (.s (.int k (if a < b then b else a))) h
  | _, _ => False
theorem lenK_str (s : ByteArray) : lenK K h (.s (.string s)) .string = K (.s (.int .i64 s.size)) h := by unfold lenK; rfl
theorem lenK_sl (b o l c : Nat) (e : TypeId) : lenK K h (.sl b o l c) (.slice e) = K (.s (.int .i64 l)) h := by unfold lenK; rfl
theorem lenK_nil (l c : Nat) (e : TypeId) : lenK K h (.s (.slice none l c)) (.slice e) = K (.s (.int .i64 l)) h := by unfold lenK; rfl
theorem capK_sl (b o l c : Nat) (e : TypeId) : capK K h (.sl b o l c) (.slice e) = K (.s (.int .i64 c)) h := by unfold capK; rfl
theorem capK_nil (l c : Nat) (e : TypeId) : capK K h (.s (.slice none l c)) (.slice e) = K (.s (.int .i64 c)) h := by unfold capK; rfl
theorem minK_int (k k' : IntKind) (a b : Int) : minK K h (.s (.int k a)) (.s (.int k' b)) = K (.s (.int k (if b < a then b else a))) h := by unfold minK; rfl
theorem maxK_int (k k' : IntKind) (a b : Int) : maxK K h (.s (.int k a)) (.s (.int k' b)) = K (.s (.int k (if a < b then b else a))) h := by unfold maxK; rfl
theorem builtinW_len (x : Operand) (t : TypeId) : builtinW P τ h .len [x] [t] K = lenK K h (ev τ x) (tK P t) := by unfold builtinW lenK; rfl
theorem builtinW_cap (x : Operand) (t : TypeId) : builtinW P τ h .cap [x] [t] K = capK K h (ev τ x) (tK P t) := by unfold builtinW capK; rfl
theorem builtinW_min (x y : Operand) (ts : List TypeId) : builtinW P τ h .min [x, y] ts K = minK K h (ev τ x) (ev τ y) := by unfold builtinW minK; rfl
theorem builtinW_max (x y : Operand) (ts : List TypeId) : builtinW P τ h .max [x, y] ts K = maxK K h (ev τ x) (ev τ y) := by unfold builtinW maxK; rfl
theorem ofV_int (k : IntKind) (x : Int) : ofV (.int k x) = .s (.int k x) := by rfl
theorem ofV_bool (b : Bool) : ofV (.bool b) = .s (.bool b) := by rfl
theorem ofV_string (c : ByteArray) : ofV (.string c) = .s (.string c) := by rfl
theorem ofV_slice (a : Option Addr) (l : Nat) (m : Nat) : ofV (.slice a l m) = .s (.slice a l m) := by rfl
def resC (P : Program) (τ : Tau) (h : H) (t : TypeId) (rs : List ResultVar) (K : List V → Prop) : V → Option Bool → Prop
  | .ptr b off, some true => match tSz P t with
        | some n => match h.rdN b off n with
          | some cs => b < h.n ∧ resW P τ h rs fun vs => K (.agg cs :: vs)
          | none => False
        | none => False
  | .ptr b off, some false => match h.rd b off with
        | some v => (b < h.n ∧ notTup v = true) ∧ resW P τ h rs fun vs => K (v :: vs)
        | none => False
  | _, _ => False
def resN (P : Program) (τ : Tau) (h : H) (b : Nat) (rs : List ResultVar) (K : List V → Prop) : Option (List V) → Prop
  | some cs => b < h.n ∧ resW P τ h rs fun vs => K (.agg cs :: vs)
  | none => False
def resM (P : Program) (τ : Tau) (h : H) (b off : Nat) (rs : List ResultVar) (K : List V → Prop) : Option Nat → Prop
  | some n => resN P τ h b rs K (h.rdN b off n)
  | none => False
def resV (P : Program) (τ : Tau) (h : H) (b : Nat) (rs : List ResultVar) (K : List V → Prop) : Option V → Prop
  | some v => (b < h.n ∧ notTup v = true) ∧ resW P τ h rs fun vs => K (v :: vs)
  | none => False
theorem resW_nil (K : List V → Prop) : resW P τ h [] K = K [] := by rw [resW]
theorem resW_tmp (t : Nat) (rs : List ResultVar) (K : List V → Prop) : resW P τ h (.tmp t :: rs) K = resW P τ h rs fun vs => K (τ t :: vs) := by rw [resW]
theorem resW_cell (a t : Nat) (rs : List ResultVar) (K : List V → Prop) : resW P τ h (.cell a t :: rs) K = resC P τ h t rs K (τ a) (tAgg P t) := by
  rw [resW]; unfold resC
  cases τ a with
  | ptr b off => cases tAgg P t with
    | none => rfl
    | some x => cases x <;> rfl
  | _ => rfl
theorem resC_true (t b off : Nat) (rs : List ResultVar) (K : List V → Prop) : resC P τ h t rs K (.ptr b off) (some true) = resM P τ h b off rs K (tSz P t) := by unfold resC resM resN; rfl
theorem resC_false (t b off : Nat) (rs : List ResultVar) (K : List V → Prop) : resC P τ h t rs K (.ptr b off) (some false) = resV P τ h b rs K (h.rd b off) := by unfold resC resV; rfl
theorem resM_some (b off n : Nat) (rs : List ResultVar) (K : List V → Prop) : resM P τ h b off rs K (some n) = resN P τ h b rs K (h.rdN b off n) := by unfold resM; rfl
theorem resN_some (b : Nat) (rs : List ResultVar) (K : List V → Prop) (cs : List V) : resN P τ h b rs K (some cs) = (b < h.n ∧ resW P τ h rs fun vs => K (.agg cs :: vs)) := by unfold resN; rfl
theorem resV_some (b : Nat) (rs : List ResultVar) (K : List V → Prop) (v : V) : resV P τ h b rs K (some v) = ((b < h.n ∧ notTup v = true) ∧ resW P τ h rs fun vs => K (v :: vs)) := by unfold resV; rfl
theorem notTup_s (u : Value) : notTup (.s u) = true := by rfl
theorem notTup_sl (p : Nat) (q : Nat) (r : Nat) (z : Nat) : notTup (.sl p q r z) = true := by rfl
theorem notTup_ptr (p : Nat) (q : Nat) : notTup (.ptr p q) = true := by rfl
theorem notTup_agg (cs : List V) : notTup (.agg cs) = true := by rfl
theorem notTup_fn (f : Nat) (ps : List (Nat × Nat)) : notTup (.fn f ps) = true := by rfl
theorem tupOf_one (R : Res → H → Prop) (v : V) : tupOf R h [v] = R (.ret v) h := by rfl
theorem tupOf_nil (R : Res → H → Prop) : tupOf R h [] = (true = true ∧ R (.ret (.tup [])) h) := by rfl
theorem tupOf_two (R : Res → H → Prop) (v u : V) (r : List V) : tupOf R h (v :: u :: r) = ((v :: u :: r).all notTup = true ∧ R (.ret (.tup (v :: u :: r))) h) := by rfl
theorem bodyQ_normal (fn : Func) (R : Res → H → Prop) : bodyQ P fn R .normal τ h = resW P τ h fn.results.toList (tupOf R h) := by rfl
theorem bodyQ_ret (fn : Func) (R : Res → H → Prop) : bodyQ P fn R .ret τ h = resW P τ h fn.results.toList (tupOf R h) := by rfl
theorem bodyQ_pan (fn : Func) (R : Res → H → Prop) (v : V) : bodyQ P fn R (.pan v) τ h = R (.pan v) h := by rfl
def loopX (P : Program) (N m : Nat) (Q : QT) (id : Nat) (τ : Tau) (h : H) : Option (List It) → Prop
  | some k' => Run P N m Q k' τ h
  | none => Q (.exit id) τ h
theorem loopX_some (id : Nat) (k' : List It) : loopX P N m Q id τ h (some k') = Run P N m Q k' τ h := by unfold loopX; rfl
theorem loopX_none (id : Nat) : loopX P N m Q id τ h none = Q (.exit id) τ h := by unfold loopX; rfl
theorem loopQ_normal (I : Tau → H → Prop) (μ : Tau → H → Nat) (μ0 : Nat) : loopQ P N m Q k I μ μ0 .normal τ h = (I τ h ∧ μ τ h < μ0) := by rfl
theorem loopQ_exit (I : Tau → H → Prop) (μ : Tau → H → Nat) (μ0 : Nat) (id : Nat) : loopQ P N m Q k I μ μ0 (.exit id) τ h = loopX P N m Q id τ h (popTo id k) := by unfold loopQ loopX; rfl
theorem loopQ_ret (I : Tau → H → Prop) (μ : Tau → H → Nat) (μ0 : Nat) : loopQ P N m Q k I μ μ0 .ret τ h = Q .ret τ h := by rfl
theorem loopQ_pan (I : Tau → H → Prop) (μ : Tau → H → Nat) (μ0 : Nat) (v : V) : loopQ P N m Q k I μ μ0 (.pan v) τ h = Q (.pan v) τ h := by rfl
theorem callQ_ret (d : Option Nat) (v : V) : callQ P N m Q k d τ (.ret v) h = Run P N m Q k (upo d v τ) h := by rfl
theorem callQ_pan (d : Option Nat) (v : V) : callQ P N m Q k d τ (.pan v) h = Q (.pan v) τ h := by rfl
theorem dcallQ_ret {h0 : H} {exc : List Nat} {ops : Array Oper} {fuel : Nat} {listed : Array Bool} {td : TD} (d : Option Nat) (v : V) : dcallQ P N m Q k h0 exc ops fuel listed td d τ (.ret v) h = ((Stay h0 exc h ∧ h0.n ≤ h.n) ∧ RunD P N m Q k h0 exc ops fuel listed td (upo d v τ) h) := by rfl
theorem dcallQ_pan {h0 : H} {exc : List Nat} {ops : Array Oper} {fuel : Nat} {listed : Array Bool} {td : TD} (d : Option Nat) (v : V) : dcallQ P N m Q k h0 exc ops fuel listed td d τ (.pan v) h = Q (.pan v) τ h := by rfl
theorem argsT_at (l : List V) (t : Nat) : argsT l t = l.getD t .any := by rfl
end
end Go.VL
