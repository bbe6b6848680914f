/- A layer for walking through code on abstract values and an abstract heap: its definitions and their soundness; no condition. -/
import Derived.Test.YtpcgnmoogjahbaaVB
set_option linter.unusedVariables false
set_option linter.unusedSimpArgs false
namespace Go.VL
open Go Go.RowKit

/-- How a piece of code ends. -/
inductive XV where
  | normal
  | exit (id : Nat)
  | ret
  | pan (v : V)

inductive Res where
  | ret (v : V)
  | pan (v : V)

def XRel (φ : Phi) : XV → Exit → Prop
  | .normal, e => e = .normal
  | .exit id, e => e = .exit id
  | .ret, e => e = .ret
  | .pan x, e => ∃ v, e = .panic [{ v, recovered := false }] ∧ RelV φ x v

def ResRel (φ : Phi) : Res → Ending → Prop
  | .ret x, e => ∃ v, e = .returned v ∧ RelV φ x v
  | .pan x, e => ∃ v, e = .panicked [{ v, recovered := false }] ∧ RelV φ x v

abbrev QT := XV → Tau → H → Prop

def Post (N B : Nat) (w0 : World) (φ0 : Phi) (ds : List Deferred) (Q : QT) : Exit → Act → World → Prop := fun e a w =>
  ∃ x τ h φ, XRel φ x e ∧ Rel B w0 φ h w ∧ Ext φ0 φ ∧ RelT φ τ a ∧ a.tmps.size = N ∧ a.defers = ds ∧ Q x τ h

theorem Post.mono {N B : Nat} {w0 : World} {φ0 φ1 : Phi} {ds : List Deferred} {Q Q' : QT} (he : Ext φ0 φ1) (hq : ∀ x τ h, Q x τ h → Q' x τ h) {e : Exit} {a : Act} {w : World}
    (p : Post N B w0 φ1 ds Q e a w) : Post N B w0 φ0 ds Q' e a w := by
  obtain ⟨x, τ, h, φ, p1, p2, p3, p4, p5, p6, p7⟩ := p
  exact ⟨x, τ, h, φ, p1, p2, he.trans p3, p4, p5, p6, hq _ _ _ p7⟩

/-- The code c, from the abstract state on, ends as Q says. -/
def WC (P : Program) (N : Nat) (c : Code) (Q : QT) (τ : Tau) (h : H) : Prop :=
  ∀ B w0 φ a w, Rel B w0 φ h w → RelT φ τ a → a.tmps.size = N → c.wp P (Post N B w0 φ a.defers Q) a w

/-- The operations os of the region all. -/
def WO (P : Program) (N : Nat) (all os : List Oper) (Q : QT) (τ : Tau) (h : H) : Prop :=
  ∀ B w0 φ a w, Rel B w0 φ h w → RelT φ τ a → a.tmps.size = N → wpList P all.toArray (Post N B w0 φ a.defers Q) os a w

def enters (P : Program) (f : Nat) : Bool := match P.funcs[f]? with
  | some fn => fn.name != "runtime.NumGoroutine" && fn.body.isSome
  | none => false

/-- A call of f. -/
def CallsV (P : Program) (f : Nat) (args : List V) (h : H) (R : Res → H → Prop) : Prop :=
  enters P f = true ∧ ∀ B w0 φ (vs : Array Value) w, Rel B w0 φ h w → All2 (RelV φ) args vs.toList →
    Calls P f vs w fun e w' => ∃ r φ' h', ResRel φ' r e ∧ Rel B w0 φ' h' w' ∧ Ext φ φ' ∧ R r h'

theorem CallsV.mono {P : Program} {f : Nat} {args : List V} {h : H} {R R' : Res → H → Prop} (c : CallsV P f args h R) (hr : ∀ r h', R r h' → R' r h') : CallsV P f args h R' :=
  ⟨c.1, fun B w0 φ vs w r1 r2 => (c.2 B w0 φ vs w r1 r2).mono fun e w' ⟨r, φ', h', p1, p2, p3, p4⟩ => ⟨r, φ', h', p1, p2, p3, hr _ _ p4⟩⟩

inductive It where
  | code (c : Code)
  | ops (all os : List Oper)
  | blk (id : Nat)

/-- What the items that wait come to. -/
def SemK (P : Program) (N : Nat) (Q : QT) : List It → QT
  | [], x, τ, h => Q x τ h
  | .code c :: k, .normal, τ, h => WC P N c (SemK P N Q k) τ h
  | .ops all os :: k, .normal, τ, h => WO P N all os (SemK P N Q k) τ h
  | .blk id :: k, .exit id', τ, h => if id' = id then SemK P N Q k .normal τ h else SemK P N Q k (.exit id') τ h
  | _ :: k, x, τ, h => SemK P N Q k x τ h

theorem WC.mono {P : Program} {N : Nat} {c : Code} {Q Q' : QT} {τ : Tau} {h : H} (hc : WC P N c Q τ h) (hq : ∀ x τ h, Q x τ h → Q' x τ h) : WC P N c Q' τ h :=
  fun B w0 φ a w r1 r2 r3 => wp_mono (hc B w0 φ a w r1 r2 r3) fun _ _ _ p => p.mono (Ext.refl φ) hq

theorem WC.seq {P : Program} {N : Nat} {x y : Code} {Q : QT} {τ : Tau} {h : H}
    (hc : WC P N x (fun e τ h => match e with | .normal => WC P N y Q τ h | e => Q e τ h) τ h) : WC P N (.seq x y) Q τ h := by
  intro B w0 φ a w r1 r2 r3
  refine wp_seq (wp_mono (hc B w0 φ a w r1 r2 r3) ?_)
  rintro e a' w' ⟨x', τ', h', φ', p1, p2, p3, p4, p5, p6, p7⟩
  cases x' with
  | normal =>
    simp only [XRel] at p1; subst p1
    show Code.wp P y _ a' w'
    refine wp_mono (p7 B w0 φ' a' w' p2 p4 p5) fun e a w p => ?_
    rw [p6] at p; exact p.mono p3 fun _ _ _ q => q
  | exit id => simp only [XRel] at p1; subst p1; exact ⟨.exit id, τ', h', φ', rfl, p2, p3, p4, p5, p6, p7⟩
  | ret => simp only [XRel] at p1; subst p1; exact ⟨.ret, τ', h', φ', rfl, p2, p3, p4, p5, p6, p7⟩
  | pan v => obtain ⟨u, rfl, q⟩ := p1; exact ⟨.pan v, τ', h', φ', ⟨u, rfl, q⟩, p2, p3, p4, p5, p6, p7⟩

theorem WC.block {P : Program} {N : Nat} {id : Nat} {c : Code} {Q : QT} {τ : Tau} {h : H}
    (hc : WC P N c (fun e τ h => match e with | .exit id' => if id' = id then Q .normal τ h else Q (.exit id') τ h | e => Q e τ h) τ h) : WC P N (.block id c) Q τ h := by
  intro B w0 φ a w r1 r2 r3
  refine wp_block (wp_mono (hc B w0 φ a w r1 r2 r3) ?_)
  rintro e a' w' ⟨x', τ', h', φ', p1, p2, p3, p4, p5, p6, p7⟩
  cases x' with
  | normal => simp only [XRel] at p1; subst p1; exact ⟨.normal, τ', h', φ', rfl, p2, p3, p4, p5, p6, p7⟩
  | exit id' =>
    simp only [XRel] at p1; subst p1
    show if id' = id then _ else _
    by_cases e : id' = id
    · simp only [e, if_true] at p7 ⊢; exact ⟨.normal, τ', h', φ', rfl, p2, p3, p4, p5, p6, p7⟩
    · simp only [e, if_false] at p7 ⊢; exact ⟨.exit id', τ', h', φ', rfl, p2, p3, p4, p5, p6, p7⟩
  | ret => simp only [XRel] at p1; subst p1; exact ⟨.ret, τ', h', φ', rfl, p2, p3, p4, p5, p6, p7⟩
  | pan v => obtain ⟨u, rfl, q⟩ := p1; exact ⟨.pan v, τ', h', φ', ⟨u, rfl, q⟩, p2, p3, p4, p5, p6, p7⟩

theorem WC.cond {P : Program} {N : Nat} {c : Operand} {x y : Code} {Q : QT} {τ : Tau} {h : H} {b : Bool} (ho : opdOk c = true) (hb : ev τ c = .s (.bool b))
    (h1 : b = true → WC P N x Q τ h) (h2 : b = false → WC P N y Q τ h) : WC P N (.cond c x y) Q τ h := by
  intro B w0 φ a w r1 r2 r3
  have e := ev_rel r2 c ho
  rw [hb] at e
  simp only [RelV, RelQ, RelC, conc, one, if_true, Option.some.injEq] at e
  cases b with
  | true => exact wp_cond_true e.symm (h1 rfl B w0 φ a w r1 r2 r3)
  | false => exact wp_cond_false e.symm (h2 rfl B w0 φ a w r1 r2 r3)

theorem WC.region {P : Program} {N id : Nat} {ops : Array Oper} {Q : QT} {τ : Tau} {h : H} (ho : WO P N ops.toList ops.toList Q τ h) : WC P N (.region id ops false) Q τ h := by
  intro B w0 φ a w r1 r2 r3
  refine wp_region_list ?_
  have := ho B w0 φ a w r1 r2 r3
  rwa [Array.toArray_toList] at this

/-- The loop: I holds at each round's head. -/
theorem WC.loop {P : Program} {N : Nat} {c : Code} {Q : QT} {τ : Tau} {h : H} (I : Tau → H → Prop) (μ : Tau → H → Nat) (h0 : I τ h)
    (hr : ∀ τ h, I τ h → WC P N c (fun e τ' h' => match e with | .normal => I τ' h' ∧ μ τ' h' < μ τ h | e => Q e τ' h') τ h) : WC P N (.loop c) Q τ h := by
  intro B w0 φ a w r1 r2 r3 b k cs
  -- by the measure, over the abstract states
  have key : ∀ n τ h, μ τ h = n → I τ h → ∀ φ1 a1 w1, Ext φ φ1 → Rel B w0 φ1 h w1 → RelT φ1 τ a1 → a1.tmps.size = N → a1.defers = a.defers →
      ∃ e a' w', Post N B w0 φ a.defers Q e a' w' ∧ Arrives P (lone (b.at a1 (.code c :: .inLoop c :: k)) cs w1) b k cs e a' w' := by
    intro n
    induction n using Nat.strongRecOn with
    | _ n ih =>
      intro τ h hn hI φ1 a1 w1 he q1 q2 q3 q4
      obtain ⟨e, a2, w2, hq, harr⟩ := hr τ h hI B w0 φ1 a1 w1 q1 q2 q3 b (.inLoop c :: k) cs
      obtain ⟨x', τ', h', φ', p1, p2, p3, p4, p5, p6, p7⟩ := hq
      cases x' with
      | normal =>
        simp only [XRel] at p1; subst p1
        obtain ⟨hI', hlt⟩ := p7
        obtain ⟨e₂, a₂, w₂, hq₂, harr₂⟩ := ih (μ τ' h') (hn ▸ hlt) τ' h' rfl hI' φ' a2 w2 (he.trans p3) p2 p4 p5 (p6.trans q4)
        exact ⟨e₂, a₂, w₂, hq₂, .of_steps (Steps.trans harr (.one step_inLoop)) harr₂⟩
      | exit id =>
        simp only [XRel] at p1; subst p1
        exact ⟨_, a2, w2, ⟨.exit id, τ', h', φ', rfl, p2, he.trans p3, p4, p5, p6.trans q4, p7⟩, .pass (x := .inLoop c) rfl (fun _ _ => .inl (by simp)) harr⟩
      | ret =>
        simp only [XRel] at p1; subst p1
        exact ⟨_, a2, w2, ⟨.ret, τ', h', φ', rfl, p2, he.trans p3, p4, p5, p6.trans q4, p7⟩, .pass (x := .inLoop c) rfl (fun _ _ => .inl (by simp)) harr⟩
      | pan v =>
        obtain ⟨u, rfl, q⟩ := p1
        exact ⟨_, a2, w2, ⟨.pan v, τ', h', φ', ⟨u, rfl, q⟩, p2, he.trans p3, p4, p5, p6.trans q4, p7⟩, .pass (x := .inLoop c) rfl (fun _ _ => .inl (by simp)) harr⟩
  obtain ⟨e, a', w', hq, harr⟩ := key _ τ h rfl h0 φ a w (Ext.refl φ) r1 r2 r3 rfl
  exact ⟨e, a', w', hq, .of_steps (.one step_loop) harr⟩

end Go.VL
