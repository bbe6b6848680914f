/- A layer for walking through code on abstract values, told apart by who owns the memory: its definitions and their soundness; no condition. -/
import Derived.Test.YtpcgnmoogjahbaaW3
set_option linter.unusedVariables false
set_option linter.unusedSimpArgs false
namespace Go.W
open Go Go.RowKit

/-- How a piece of code ends. -/
inductive XV where
  | normal
  | exit (id : Nat)
  | ret
  | pan (v : V)
inductive Res where
  | ret (v : V)
  | pan (v : V)

def XRel (φ : Phi) : XV → Exit → Prop
  | .normal, e => e = .normal
  | .exit id, e => e = .exit id
  | .ret, e => e = .ret
  | .pan x, e => ∃ v, e = .panic [{ v, recovered := false }] ∧ RelV φ x v
def ResRel (φ : Phi) : Res → Ending → Prop
  | .ret x, e => ∃ v, e = .returned v ∧ RelV φ x v
  | .pan x, e => ∃ v, e = .panicked [{ v, recovered := false }] ∧ RelV φ x v

abbrev QT := XV → Tau → H → Prop

def Post (N n0 : Nat) (S : Nat → Prop) (w0 : World) (φ0 : Phi) (ds : List Deferred) (Q : QT) : Exit → Act → World → Prop := fun e a w =>
  ∃ x τ h φ, XRel φ x e ∧ Rel S w0 φ h w ∧ ExtN S w0 n0 φ0 φ ∧ n0 ≤ h.length ∧ RelT φ τ a ∧ a.tmps.size = N ∧ a.defers = ds ∧ Q x τ h

theorem Post.mono {N n0 : Nat} {S : Nat → Prop} {w0 : World} {φ0 φ1 : Phi} {ds : List Deferred} {Q Q' : QT} (he : ExtN S w0 n0 φ0 φ1) (hq : ∀ x τ h, Q x τ h → Q' x τ h) {e : Exit} {a : Act} {w : World}
    (p : Post N n0 S w0 φ1 ds Q e a w) : Post N n0 S w0 φ0 ds Q' e a w := by
  obtain ⟨x, τ, h, φ, p1, p2, p3, p4, p5, p6, p7, p8⟩ := p
  exact ⟨x, τ, h, φ, p1, p2, he.trans p3, p4, p5, p6, p7, hq _ _ _ p8⟩

/-- The code c, from the abstract state on, ends as Q says. n0: how many blocks there were when the function was entered. -/
def WC (C : Cx) (N n0 : Nat) (c : Code) (Q : QT) (τ : Tau) (h : H) : Prop :=
  ∀ S w0 φ a w, RelG C φ.z → Rel S w0 φ h w → n0 ≤ h.length → RelT φ τ a → a.tmps.size = N → c.wp C.P (Post N n0 S w0 φ a.defers Q) a w
/-- The operations os of the region all. -/
def WO (C : Cx) (N n0 : Nat) (all os : List Oper) (Q : QT) (τ : Tau) (h : H) : Prop :=
  ∀ S w0 φ a w, RelG C φ.z → Rel S w0 φ h w → n0 ≤ h.length → RelT φ τ a → a.tmps.size = N → wpList C.P all.toArray (Post N n0 S w0 φ a.defers Q) os a w

def enters (P : Program) (f : Nat) : Bool := match P.funcs[f]? with
  | some fn => fn.name != "runtime.NumGoroutine" && fn.body.isSome
  | none => false
/-- A call of f: it is entered, or it answers at once. -/
def CallG (P : Program) (f : Nat) (vs : Array Value) (w : World) (R : Ending → World → Prop) : Prop :=
  (enters P f = true ∧ Calls P f vs w R) ∨ ∃ v w', (callFunc f vs).run P w = .ok (.value v) w' ∧ R (.returned v) w'
theorem CallG.mono {P : Program} {f : Nat} {vs : Array Value} {w : World} {R R' : Ending → World → Prop} (h : CallG P f vs w R) (hr : ∀ e w, R e w → R' e w) : CallG P f vs w R' := by
  rcases h with ⟨h1, h2⟩ | ⟨v, w', h1, h2⟩
  · exact .inl ⟨h1, h2.mono hr⟩
  · exact .inr ⟨v, w', h1, hr _ _ h2⟩

def CallsV (C : Cx) (f : Nat) (args : List V) (h : H) (R : Res → H → Prop) : Prop :=
  ∀ S w0 φ (vs : Array Value) w, RelG C φ.z → Rel S w0 φ h w → All2 (RelV φ) args vs.toList →
    CallG C.P f vs w fun e w' => ∃ r φ' h', ResRel φ' r e ∧ Rel S w0 φ' h' w' ∧ ExtN S w0 h.length φ φ' ∧ h.length ≤ h'.length ∧ R r h'

theorem CallsV.mono {C : Cx} {f : Nat} {args : List V} {h : H} {R R' : Res → H → Prop} (c : CallsV C f args h R) (hr : ∀ r h', R r h' → R' r h') : CallsV C f args h R' :=
  fun S w0 φ vs w r0 r1 r2 => (c S w0 φ vs w r0 r1 r2).mono fun e w' ⟨r, φ', h', p1, p2, p3, p4, p5⟩ => ⟨r, φ', h', p1, p2, p3, p4, hr _ _ p5⟩

inductive It where
  | code (c : Code)
  | ops (all os : List Oper)
  | blk (id : Nat)

/-- What the items that wait come to. -/
def SemK (C : Cx) (N n0 : Nat) (Q : QT) : List It → QT
  | [], x, τ, h => Q x τ h
  | .code c :: k, .normal, τ, h => WC C N n0 c (SemK C N n0 Q k) τ h
  | .ops all os :: k, .normal, τ, h => WO C N n0 all os (SemK C N n0 Q k) τ h
  | .blk id :: k, .exit id', τ, h => if id' = id then SemK C N n0 Q k .normal τ h else SemK C N n0 Q k (.exit id') τ h
  | _ :: k, x, τ, h => SemK C N n0 Q k x τ h

section
variable {C : Cx} {N n0 : Nat} {Q Q' : QT} {τ τ' : Tau} {h h' : H}

theorem WC.mono {c : Code} (hc : WC C N n0 c Q τ h) (hq : ∀ x τ h, Q x τ h → Q' x τ h) : WC C N n0 c Q' τ h :=
  fun S w0 φ a w r0 r1 r2 r3 r4 => wp_mono (hc S w0 φ a w r0 r1 r2 r3 r4) fun _ _ _ p => p.mono (ExtN.refl ..) hq

theorem WC.seq {x y : Code} (hc : WC C N n0 x (fun e τ h => match e with | .normal => WC C N n0 y Q τ h | e => Q e τ h) τ h) : WC C N n0 (.seq x y) Q τ h := by
  intro S w0 φ a w r0 r1 r2 r3 r4
  refine wp_seq (wp_mono (hc S w0 φ a w r0 r1 r2 r3 r4) ?_)
  rintro e a' w' ⟨x', τ', h', φ', p1, p2, p3, p4, p5, p6, p7, p8⟩
  cases x' with
  | normal =>
    simp only [XRel] at p1; subst p1
    show Code.wp C.P y _ a' w'
    refine wp_mono (p8 S w0 φ' a' w' (r0.mono p3.z) p2 p4 p5 p6) fun e a w p => ?_
    rw [p7] at p; exact p.mono p3 fun _ _ _ q => q
  | exit id => simp only [XRel] at p1; subst p1; exact ⟨.exit id, τ', h', φ', rfl, p2, p3, p4, p5, p6, p7, p8⟩
  | ret => simp only [XRel] at p1; subst p1; exact ⟨.ret, τ', h', φ', rfl, p2, p3, p4, p5, p6, p7, p8⟩
  | pan v => obtain ⟨u, rfl, q⟩ := p1; exact ⟨.pan v, τ', h', φ', ⟨u, rfl, q⟩, p2, p3, p4, p5, p6, p7, p8⟩

theorem WC.block {id : Nat} {c : Code}
    (hc : WC C N n0 c (fun e τ h => match e with | .exit id' => if id' = id then Q .normal τ h else Q (.exit id') τ h | e => Q e τ h) τ h) : WC C N n0 (.block id c) Q τ h := by
  intro S w0 φ a w r0 r1 r2 r3 r4
  refine wp_block (wp_mono (hc S w0 φ a w r0 r1 r2 r3 r4) ?_)
  rintro e a' w' ⟨x', τ', h', φ', p1, p2, p3, p4, p5, p6, p7, p8⟩
  cases x' with
  | normal => simp only [XRel] at p1; subst p1; exact ⟨.normal, τ', h', φ', rfl, p2, p3, p4, p5, p6, p7, p8⟩
  | exit id' =>
    simp only [XRel] at p1; subst p1
    show if id' = id then _ else _
    by_cases e : id' = id
    · simp only [e, if_true] at p8 ⊢; exact ⟨.normal, τ', h', φ', rfl, p2, p3, p4, p5, p6, p7, p8⟩
    · simp only [e, if_false] at p8 ⊢; exact ⟨.exit id', τ', h', φ', rfl, p2, p3, p4, p5, p6, p7, p8⟩
  | ret => simp only [XRel] at p1; subst p1; exact ⟨.ret, τ', h', φ', rfl, p2, p3, p4, p5, p6, p7, p8⟩
  | pan v => obtain ⟨u, rfl, q⟩ := p1; exact ⟨.pan v, τ', h', φ', ⟨u, rfl, q⟩, p2, p3, p4, p5, p6, p7, p8⟩

theorem relV_bool {φ : Phi} {b : Bool} {v : Value} (r : RelV φ (.s (.bool b)) v) : v = .bool b := by
  simp only [RelV, RelQ, RelC, RelP, RZ] at r; exact r.1

theorem WC.cond {c : Operand} {x y : Code} {b : Bool} (ho : opdOk c = true) (hb : ev C τ c = .s (.bool b))
    (h1 : b = true → WC C N n0 x Q τ h) (h2 : b = false → WC C N n0 y Q τ h) : WC C N n0 (.cond c x y) Q τ h := by
  intro S w0 φ a w r0 r1 r2 r3 r4
  have e := ev_rel r0 r3 c ho
  rw [hb] at e
  have e := relV_bool e
  cases b with
  | true => exact wp_cond_true e (h1 rfl S w0 φ a w r0 r1 r2 r3 r4)
  | false => exact wp_cond_false e (h2 rfl S w0 φ a w r0 r1 r2 r3 r4)

theorem WC.region {id : Nat} {ops : Array Oper} (ho : WO C N n0 ops.toList ops.toList Q τ h) : WC C N n0 (.region id ops false) Q τ h := by
  intro S w0 φ a w r0 r1 r2 r3 r4
  refine wp_region_list ?_
  have := ho S w0 φ a w r0 r1 r2 r3 r4
  rwa [Array.toArray_toList] at this

/-! ### Steps without code: the same world under another name -/
def Arr (n0 : Nat) (h h' : H) (M : V → V → Prop) : Prop :=
  ∀ S w0 φ w, Rel S w0 φ h w → n0 ≤ h.length → ∃ φ', Rel S w0 φ' h' w ∧ ExtN S w0 n0 φ φ' ∧ n0 ≤ h'.length ∧ ∀ x x' v, M x x' → RelV φ x v → RelV φ' x' v

theorem Arr.refl (n0 : Nat) (h : H) : Arr n0 h h fun x x' => x' = x ∨ x' = .any :=
  fun S w0 φ w R hn => ⟨φ, R, ExtN.refl .., hn, fun x x' v hm r => by rcases hm with rfl | rfl; exact r; exact relV_any⟩
theorem Arr.trans {h'' : H} {M M' : V → V → Prop} (a : Arr n0 h h' M) (b : Arr n0 h' h'' M') : Arr n0 h h'' fun x x'' => ∃ x', M x x' ∧ M' x' x'' :=
  fun S w0 φ w R hn => by
    obtain ⟨φ', R', e', hn', m'⟩ := a S w0 φ w R hn
    obtain ⟨φ'', R'', e'', hn'', m''⟩ := b S w0 φ' w R' hn'
    exact ⟨φ'', R'', e'.trans e'', hn'', fun x x'' v ⟨x', h1, h2⟩ r => m'' _ _ _ h2 (m' _ _ _ h1 r)⟩
theorem Arr.mono {M M' : V → V → Prop} (a : Arr n0 h h' M) (hm : ∀ x x', M' x x' → M x x') : Arr n0 h h' M' :=
  fun S w0 φ w R hn => by
    obtain ⟨φ', R', e', hn', m'⟩ := a S w0 φ w R hn
    exact ⟨φ', R', e', hn', fun x x' v q r => m' x x' v (hm _ _ q) r⟩

theorem WC.arr {c : Code} {M : V → V → Prop} (a : Arr n0 h h' M) (ht : ∀ t, M (τ t) (τ' t)) (hc : WC C N n0 c Q τ' h') : WC C N n0 c Q τ h := by
  intro S w0 φ act w r0 r1 r2 r3 r4
  obtain ⟨φ', R', e', hn', m'⟩ := a S w0 φ w r1 r2
  exact wp_mono (hc S w0 φ' act w (r0.mono e'.z) R' hn' (fun t => m' _ _ _ (ht t) (r3 t)) r4) fun _ _ _ p => p.mono e' fun _ _ _ q => q

/-- By a step without code the state comes to one of which K holds. -/
def Goes (n0 : Nat) (K : Tau → H → Prop) (τ : Tau) (h : H) : Prop := ∃ τ' h' M, Arr n0 h h' M ∧ (∀ t, M (τ t) (τ' t)) ∧ K τ' h'
theorem Goes.refl {K : Tau → H → Prop} (hk : K τ h) : Goes n0 K τ h := ⟨τ, h, _, Arr.refl n0 h, fun _ => .inl rfl, hk⟩

/-- The loop: I holds at each round's head. -/
theorem WC.loop {c : Code} (I : Tau → H → Prop) (μ : Tau → H → Nat) (h0 : Goes n0 I τ h)
    (hr : ∀ τ h, I τ h → WC C N n0 c (fun e τ' h' => match e with | .normal => Goes n0 (fun τ' h' => I τ' h' ∧ μ τ' h' < μ τ h) τ' h' | e => Q e τ' h') τ h) : WC C N n0 (.loop c) Q τ h := by
  intro S w0 φ a w r0 r1 r2 r3 r4 b k cs
  have key : ∀ n τ h, μ τ h = n → I τ h → ∀ φ1 a1 w1, ExtN S w0 n0 φ φ1 → Rel S w0 φ1 h w1 → n0 ≤ h.length → RelT φ1 τ a1 → a1.tmps.size = N → a1.defers = a.defers →
      ∃ e a' w', Post N n0 S w0 φ a.defers Q e a' w' ∧ Arrives C.P (lone (b.at a1 (.code c :: .inLoop c :: k)) cs w1) b k cs e a' w' := by
    intro n
    induction n using Nat.strongRecOn with
    | _ n ih =>
      intro τ h hn hI φ1 a1 w1 he q1 q5 q2 q3 q4
      obtain ⟨e, a2, w2, hq, harr⟩ := hr τ h hI S w0 φ1 a1 w1 (r0.mono he.z) q1 q5 q2 q3 b (.inLoop c :: k) cs
      obtain ⟨x', τ', h', φ', p1, p2, p3, p4, p5, p6, p7, p8⟩ := hq
      cases x' with
      | normal =>
        simp only [XRel] at p1; subst p1
        obtain ⟨τ'', h'', M, ar, ht, hI', hlt⟩ := p8
        obtain ⟨φ'', R'', e'', hn'', m''⟩ := ar S w0 φ' w2 p2 p4
        obtain ⟨e₂, a₂, w₂, hq₂, harr₂⟩ := ih (μ τ'' h'') (hn ▸ hlt) τ'' h'' rfl hI' φ'' a2 w2 ((he.trans p3).trans e'') R'' hn'' (fun t => m'' _ _ _ (ht t) (p5 t)) p6 (p7.trans q4)
        exact ⟨e₂, a₂, w₂, hq₂, .of_steps (Steps.trans harr (.one step_inLoop)) harr₂⟩
      | exit id =>
        simp only [XRel] at p1; subst p1
        exact ⟨_, a2, w2, ⟨.exit id, τ', h', φ', rfl, p2, he.trans p3, p4, p5, p6, p7.trans q4, p8⟩, .pass (x := .inLoop c) rfl (fun _ _ => .inl (by simp)) harr⟩
      | ret =>
        simp only [XRel] at p1; subst p1
        exact ⟨_, a2, w2, ⟨.ret, τ', h', φ', rfl, p2, he.trans p3, p4, p5, p6, p7.trans q4, p8⟩, .pass (x := .inLoop c) rfl (fun _ _ => .inl (by simp)) harr⟩
      | pan v =>
        obtain ⟨u, rfl, q⟩ := p1
        exact ⟨_, a2, w2, ⟨.pan v, τ', h', φ', ⟨u, rfl, q⟩, p2, he.trans p3, p4, p5, p6, p7.trans q4, p8⟩, .pass (x := .inLoop c) rfl (fun _ _ => .inl (by simp)) harr⟩
  obtain ⟨τ1, h1, M, ar, ht, hI⟩ := h0
  obtain ⟨φ1, R1, e1, hn1, m1⟩ := ar S w0 φ w r1 r2
  obtain ⟨e, a', w', hq, harr⟩ := key _ τ1 h1 rfl hI φ1 a w e1 R1 hn1 (fun t => m1 _ _ _ (ht t) (r3 t)) r4 rfl
  exact ⟨e, a', w', hq, .of_steps (.one step_loop) harr⟩

end
end Go.W
