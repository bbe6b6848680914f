/- What functions of the program answer, walked on the abstract layer, and closed facts of the program; the conditions stand in each theorem. -/
import Derived.Test.YtijefmjfdhfjmaaDoorG3
import Derived.RecoverIn
import Derived.RangeFuncLeaves
import Derived.Test.YtijefmjfdhfjmaaDoorProg
/- part W46 -/
set_option linter.unusedVariables false
set_option linter.unusedSimpArgs false
namespace Go.W
open Go Go.RowKit

/-! ### Functions that defer a call, deferred calls that recover -/
/-- The codes of a sequence. -/
def spine : Code → List Code
  | .seq a b => spine a ++ spine b
  | c => [c]
/-- The first code of a sequence, and the others. -/
def headC : Code → Code × List Code
  | .seq a b => ((headC a).1, (headC a).2 ++ [b])
  | c => (c, [])

section
variable {C : Cx} {Q Q' : Exit → Act → World → Prop} {a : Act} {w : World}
def Cx.wpL (C : Cx) : List Code → (Exit → Act → World → Prop) → Act → World → Prop
  | [], Q, a, w => Q .normal a w
  | c :: k, Q, a, w => C.wpV c (Exit.then (C.wpL k Q) Q) a w
theorem then_mono {N N' : Act → World → Prop} (hn : ∀ a w, N a w → N' a w) (hq : ∀ e a w, Q e a w → Q' e a w) : ∀ e a w, Exit.then N Q e a w → Exit.then N' Q' e a w
  | .normal, a, w, h => hn _ _ h
  | .exit _, a, w, h => hq _ _ _ h
  | .goto _, a, w, h => hq _ _ _ h
  | .ret, a, w, h => hq _ _ _ h
  | .panic _, a, w, h => hq _ _ _ h
  | .outgrown, a, w, h => hq _ _ _ h
theorem wpL_append : ∀ {l1 l2 : List Code} {a : Act} {w : World}, C.wpL l1 (Exit.then (C.wpL l2 Q) Q) a w → C.wpL (l1 ++ l2) Q a w
  | [], l2, a, w, h => h
  | c :: l1, l2, a, w, h => by
    show C.wpV c _ a w
    refine wpV_mono h fun e a w p => ?_
    cases e with
    | normal => exact wpL_append (l1 := l1) p
    | exit id => exact p
    | goto l => exact p
    | ret => exact p
    | panic ch => exact p
    | outgrown => exact p
theorem then_normal {N : Act → World → Prop} : ∀ e a w, Exit.then (fun a w => Q .normal a w) Q e a w → Q e a w
  | .normal, a, w, h => h
  | .exit _, a, w, h => h
  | .goto _, a, w, h => h
  | .ret, a, w, h => h
  | .panic _, a, w, h => h
  | .outgrown, a, w, h => h
theorem wpL_unapp : ∀ {l1 l2 : List Code} {a : Act} {w : World}, C.wpL (l1 ++ l2) Q a w → C.wpL l1 (Exit.then (C.wpL l2 Q) Q) a w
  | [], l2, a, w, h => h
  | c :: l1, l2, a, w, h => by
    show C.wpV c _ a w
    refine wpV_mono h fun e a w p => ?_
    cases e with
    | normal => exact wpL_unapp (l1 := l1) p
    | exit id => exact p
    | goto l => exact p
    | ret => exact p
    | panic ch => exact p
    | outgrown => exact p
theorem wpV_spine : ∀ {c : Code} {Q : Exit → Act → World → Prop} {a : Act} {w : World}, C.wpL (spine c) Q a w → C.wpV c Q a w := by
  have one : ∀ {c : Code} {Q : Exit → Act → World → Prop} {a : Act} {w : World}, C.wpL [c] Q a w → C.wpV c Q a w := fun h => wpV_mono h (then_normal (N := fun _ _ => True))
  intro c
  induction c with
  | seq x y ihx ihy =>
    intro Q a w h
    refine wpV_seq (ihx ?_)
    have h := wpL_unapp h
    have mono : ∀ {l : List Code} {Q Q' : Exit → Act → World → Prop} {a : Act} {w : World}, (∀ e a w, Q e a w → Q' e a w) → C.wpL l Q a w → C.wpL l Q' a w := by
      intro l
      induction l with
      | nil => intro Q Q' a w hq h; exact hq _ _ _ h
      | cons c l ih => intro Q Q' a w hq h; exact wpV_mono h (then_mono (fun a w h => ih hq h) hq)
    exact mono (then_mono (fun a w h => ihy h) fun _ _ _ h => h) h
  | _ => intro Q a w h; exact one h

/-- A list of codes that waits. -/
theorem wpL_arrives : ∀ {ks : List Code} {Q : Exit → Act → World → Prop} {a : Act} {w : World}, C.wpL ks Q a w → ∀ (b : Frame) (k : List Item) (cs : List Frame), b.roundOf = C.rd → (C.P.funcs[b.fn]?).isSome = true →
    ∃ e a' w', Q e a' w' ∧ ArrivesIn (Machine.fenced C.P C.fc) C.P (lone (b.atR a (ks.map Item.code ++ k)) cs w) b k cs e a' w'
  | [], Q, a, w, h, b, k, cs, h1, h2 => ⟨.normal, a, w, h, StepsIn.refl ..⟩
  | c :: ks, Q, a, w, h, b, k, cs, h1, h2 => by
    obtain ⟨e, a₁, w₁, hq, harr⟩ := h b (ks.map Item.code ++ k) cs h1 rfl h2
    have key : ∀ {e : Exit}, e ≠ .normal → ∀ (l : List Code), ArrivesIn (Machine.fenced C.P C.fc) C.P (lone (b.atR a (.code c :: (ks.map Item.code ++ k))) cs w) b (l.map Item.code ++ k) cs e a₁ w₁ →
        ArrivesIn (Machine.fenced C.P C.fc) C.P (lone (b.atR a (.code c :: (ks.map Item.code ++ k))) cs w) b k cs e a₁ w₁ := by
      intro e he l
      induction l with
      | nil => intro h; exact h
      | cons x l ih => intro h; exact ih (.pass (x := .code x) rfl (fun _ _ => .inl he) h)
    cases e with
    | normal =>
      obtain ⟨e₂, a₂, w₂, hq₂, harr₂⟩ := wpL_arrives (ks := ks) hq b k cs h1 h2
      exact ⟨e₂, a₂, w₂, hq₂, .of_steps harr harr₂⟩
    | exit id => exact ⟨_, a₁, w₁, hq, key (by simp) ks harr⟩
    | goto l => exact ⟨_, a₁, w₁, hq, key (by simp) ks harr⟩
    | ret => exact ⟨_, a₁, w₁, hq, key (by simp) ks harr⟩
    | panic ch => exact ⟨_, a₁, w₁, hq, key (by simp) ks harr⟩
    | outgrown => exact ⟨_, a₁, w₁, hq, key (by simp) ks harr⟩

theorem head_steps : ∀ (c : Code) (b : Frame) (a : Act) (k : List Item) (cs : List Frame) (w : World),
    StepsIn (Machine.fenced C.P C.fc) C.P (lone (b.atR a (.code c :: k)) cs w) (lone (b.atR a (.code (headC c).1 :: ((headC c).2.map Item.code ++ k))) cs w) := by
  intro c
  induction c with
  | seq x y ihx ihy =>
    intro b a k cs w
    refine .head (C.fenced _) stepR_seq ?_
    have := ihx b a (.code y :: k) cs w
    simpa [headC] using this
  | _ => intro b a k cs w; exact StepsIn.refl ..

theorem wpList_append {F : Fence} {n : Nat} {P : Program} {ops : Array Oper} {Q : Exit → Act → World → Prop} : ∀ {l1 l2 : List Oper} {a : Act} {w : World},
    wpListIn F n P ops (Exit.then (wpListIn F n P ops Q l2) Q) l1 a w → wpListIn F n P ops Q (l1 ++ l2) a w
  | [], l2, a, w, h => h
  | o :: l1, l2, a, w, h => by
    simp only [List.cons_append]
    unfold wpListIn at h ⊢
    split
    · rename_i hw
      rw [if_pos hw] at h
      refine ⟨h.1, ?_⟩
      have hu := h.2
      have hq : ∀ (ch : List PanicEntry) (a : Act) (w : World), Exit.then (wpListIn F n P ops Q l2) Q (.panic ch) a w → Q (.panic ch) a w := fun _ _ _ h => h
      have ho : LetsOut (Exit.then (wpListIn F n P ops Q l2) Q) → LetsOut Q := fun ⟨a, w, h⟩ => ⟨a, w, h⟩
      have hk : ∀ a w, wpListIn F n P ops (Exit.then (wpListIn F n P ops Q l2) Q) l1 a w → wpListIn F n P ops Q (l1 ++ l2) a w := fun a w h => wpList_append h
      have he : ∀ (e : Ending) (w'' : World), (match e, w'' with | .returned v, w'' => wpListIn F n P ops (Exit.then (wpListIn F n P ops Q l2) Q) l1 (a.put o.dst v) w'' | .panicked chain, w'' => Exit.then (wpListIn F n P ops Q l2) Q (.panic chain) a w'' | .outgrown, _ => LetsOut (Exit.then (wpListIn F n P ops Q l2) Q)) →
          (match e, w'' with | .returned v, w'' => wpListIn F n P ops Q (l1 ++ l2) (a.put o.dst v) w'' | .panicked chain, w'' => Q (.panic chain) a w'' | .outgrown, _ => LetsOut Q) := by
        intro e w'' he
        cases e with
        | returned u => exact hk _ _ he
        | panicked c => exact hq _ _ _ he
        | outgrown => exact ho he
      generalize (o.semAt F.round a.eval).run P w = r at hu
      cases r with
      | ok n w' =>
        cases n <;> simp only [Oper.uponIn] at hu ⊢
        case value u => exact hk _ _ hu
        case skip => exact hk _ _ hu
        case defer d => exact hk _ _ hu
        case enter f args => exact ⟨hu.1, ⟨hu.2.1, fun cs hr => let ⟨e, w', fr, r, s⟩ := hu.2.2 cs hr; ⟨e, w', fr, he e w' r, s⟩⟩⟩
        case row row args => exact ⟨hu.1, RowsIn.mono hu.2 fun u w'' he => hk _ _ he⟩
        case round l f tmps assign body => exact ⟨hu.1, RoundIn.mono hu.2 he⟩
      | halt x w' =>
        cases x <;> simp only [Oper.uponIn] at hu ⊢
        case panic u => exact hq _ _ _ hu
    · rename_i hw
      rw [if_neg hw] at h
      exact ⟨h.1, wpList_append h.2⟩
end
end Go.W
/- part W47 -/
set_option linter.unusedVariables false
set_option linter.unusedSimpArgs false
namespace Go.W
open Go Go.RowKit

/-! ### Functions that defer a call: what they come to -/
def modeOf : Option Value → Bool → FrameMode
  | none, _ => .returning
  | some v, r => .panicking [{ v, recovered := r }]
def RelO (φ : Phi) : Option V → Option Value → Prop
  | none, none => True
  | some x, some v => RelV φ x v
  | _, _ => False

/-- A deferred call, on the way out of a function that returns or panics: R: has it recovered? -/
def CallsDV (C : Cx) (g : Nat) (args : List V) (h : H) (p : Option V) (R : Bool → H → Prop) : Prop :=
  ∀ S w0 φ (vs : Array Value) w pv, RelG C φ.z → Rel S w0 φ h w → All2 (RelV φ) args vs.toList → RelO φ p pv →
    enters C.P g = true ∧ CallsDIn Fence.wide 0 C.P g vs (modeOf pv false) w fun e u' w' => ∃ rec φ' h' v, e = .returned v ∧ u' = modeOf pv rec ∧ Rel S w0 φ' h' w' ∧ ExtN S w0 h.length φ φ' ∧ h.length ≤ h'.length ∧ R rec h'

abbrev Cx.nm (C : Cx) : Cx := { P := C.P, g := C.g, rd := C.rd, ml := false }
theorem CallsV.nm {C : Cx} {f : Nat} {args : List V} {h : H} {R : Res → H → Prop} (c : CallsV C f args h R) : CallsV C.nm f args h R := c

section
variable {C : Cx} {N n0 : Nat} {Q : QT} {τ : Tau} {h : H}
theorem semK_skip {rest : List It} : ∀ {pre : List Code} {x : XV} {τ : Tau} {h : H}, x ≠ .normal → SemK C N n0 Q (pre.map It.code ++ rest) x τ h → SemK C N n0 Q rest x τ h
  | [], x, τ, h, hx, hq => hq
  | c :: pre, x, τ, h, hx, hq => by
    refine semK_skip (pre := pre) hx ?_
    cases x with
    | normal => exact absurd rfl hx
    | exit id => exact hq
    | ret => exact hq
    | pan v => exact hq
theorem semK_last {pre : List Code} {x : XV} {τ : Tau} {h : H} (hx : x ≠ .normal) (hq : SemK C N n0 Q (pre.map It.code) x τ h) : Q x τ h := by
  have := semK_skip (pre := pre) (rest := []) hx (by rw [List.append_nil]; exact hq)
  exact this
theorem wpL_mono {Q Q' : Exit → Act → World → Prop} (hq : ∀ e a w, Q e a w → Q' e a w) : ∀ {l : List Code} {a : Act} {w : World}, C.wpL l Q a w → C.wpL l Q' a w
  | [], a, w, h => hq _ _ _ h
  | c :: l, a, w, h => wpV_mono h (then_mono (fun a w h => wpL_mono hq h) hq)
theorem sem_wpL {rest : List It} : ∀ {pre : List Code} {τ : Tau} {h : H}, SemK C N n0 Q (pre.map It.code ++ rest) .normal τ h → ∀ {S : Nat → Prop} {w0 : World} {φ : Phi} {a : Act} {w : World},
    RelG C φ.z → Rel S w0 φ h w → n0 ≤ h.length → RelT φ τ a → a.tmps.size = N → C.wpL pre (Post N n0 S w0 φ (C.ml, a.defers) (SemK C N n0 Q rest)) a w
  | [], τ, h, hs, S, w0, φ, a, w, G, R, hn, T, hN => ⟨.normal, τ, h, φ, rfl, R, ExtN.refl .., hn, T, hN, Dfs.refl, hs⟩
  | c :: pre, τ, h, hs, S, w0, φ, a, w, G, R, hn, T, hN => by
    refine wpV_mono (hs S w0 φ a w G R hn T hN) ?_
    rintro e a' w' ⟨x', τ', h', φ', p1, p2, p3, p4, p5, p6, p7, p8⟩
    cases x' with
    | normal =>
      simp only [XRel] at p1; subst p1
      obtain ⟨S1, hS, R1, b1, b2⟩ := p2.base
      exact wpL_mono (fun e a w p => p.rebase p2 p3 p7 hS b1 b2) (sem_wpL (pre := pre) p8 (G.mono p3.z) R1 p4 p5 p6)
    | exit id => simp only [XRel] at p1; subst p1; exact ⟨.exit id, τ', h', φ', rfl, p2, p3, p4, p5, p6, p7, semK_skip (by simp) p8⟩
    | ret => simp only [XRel] at p1; subst p1; exact ⟨.ret, τ', h', φ', rfl, p2, p3, p4, p5, p6, p7, semK_skip (by simp) p8⟩
    | pan v => obtain ⟨u, rfl, q⟩ := p1; exact ⟨.pan v, τ', h', φ', ⟨u, rfl, q⟩, p2, p3, p4, p5, p6, p7, semK_skip (by simp) p8⟩

theorem spine_ok : ∀ {c : Code}, codeOk N c = true → (spine c).all (codeOk N) = true := by
  intro c
  induction c with
  | seq x y ihx ihy =>
    intro h
    simp only [codeOk, Bool.and_eq_true] at h
    simp only [spine, List.all_append, Bool.and_eq_true]
    exact ⟨ihx h.1, ihy h.2⟩
  | _ => intro h; simpa [spine] using h
theorem head_ok : ∀ {c : Code}, codeOk N c = true → codeOk N (headC c).1 = true ∧ (headC c).2.all (codeOk N) = true := by
  intro c
  induction c with
  | seq x y ihx ihy =>
    intro h
    simp only [codeOk, Bool.and_eq_true] at h
    simp only [headC, List.all_append, Bool.and_eq_true]
    exact ⟨(ihx h.1).1, (ihx h.1).2, by simp [h.2]⟩
  | _ => intro h; exact ⟨h, rfl⟩
theorem items_ok {l : List Code} {k : List It} (h : l.all (codeOk N) = true) (hk : k.all (itOk N) = true) : (l.map It.code ++ k).all (itOk N) = true := by
  rw [List.all_append, hk, List.all_map]
  simpa [Function.comp_def, itOk] using h

/-- Marks that lie above other deferred calls. -/
theorem leaves_marksT {fn : Func} {tmps : Array Value} {R : Ending → World → Prop} {S : Nat → Prop} {w0 : World} {φ : Phi} {u : FrameMode} {ds : List Deferred} (hu : u ≠ .run) : ∀ (ms : List Deferred) (w : World), Marks w0 ms w → Rel S w0 φ h w →
    (∀ w', Rel S w0 φ h w' → LeavesInM Fence.wide 0 C.P fn tmps R ds u w') → LeavesInM Fence.wide 0 C.P fn tmps R (ms ++ ds) u w
  | [], w, _, Rl, k => k w Rl
  | d :: ms, w, ⟨hnd, hm⟩, Rl, k => by
    obtain ⟨r, rfl, h1, h2⟩ := hm d (by simp)
    have hn := (List.nodup_cons.1 hnd)
    refine ⟨hu, .inl ⟨r, w.putObj r (.deferred none), rfl, run_takeDeferred h2, leaves_marksT hu ms _ ⟨hn.2, fun d' hd' => ?_⟩ (Rl.other (grownBy_putObj' w r _) h1 (fun ⟨c, ty, q, hc⟩ => by rw [h2] at hc; cases hc)) k⟩⟩
    obtain ⟨r', rfl, q1, q2⟩ := hm d' (by simp [hd'])
    refine ⟨r', rfl, q1, ?_⟩
    rw [World.putObj_heap_other (fun e => hn.1 (by rw [← e]; exact hd'))]
    exact q2

/-- What a function that has deferred the closure g with caps must come to. -/
def defQ (C : Cx) (n0 : Nat) (fn : Func) (R : Res → H → Prop) (g : Nat) (caps : List V) : QT
  | .normal, τ, h => CallsDV C g caps h none fun _ h' => resW C h' τ fn.results.toList (tupOf n0 R h')
  | .ret, τ, h => CallsDV C g caps h none fun _ h' => resW C h' τ fn.results.toList (tupOf n0 R h')
  | .pan v, τ, h => CallsDV C g caps h (some v) fun rec h' => (rec = true → resW C h' τ fn.results.toList (tupOf n0 R h')) ∧ (rec = false → Up n0 R (.pan v) h')
  | .exit _, _, _ => False
def defK (C : Cx) (N n0 m : Nat) (fn : Func) (R : Res → H → Prop) (all os : List Oper) (post : List Code) (τ : Tau) (h : H) : V → Prop
  | .fn g caps => Run C N h.length m (defQ C n0 fn R g caps) (.ops all os :: post.map It.code) τ h
  | _ => False
def defQ1 (C : Cx) (N n0 m : Nat) (fn : Func) (R : Res → H → Prop) (all os : List Oper) (post : List Code) (fo : Operand) : QT
  | .normal, τ, h => defK C N n0 m fn R all os post τ h (ev C τ fo)
  | .ret, τ, h => resW C h τ fn.results.toList (tupOf n0 R h)
  | .pan v, τ, h => Up n0 R (.pan v) h
  | .exit _, _, _ => False

/-- What CallsV's callers are told. -/
def Tell (S : Nat → Prop) (w0 : World) (φ : Phi) (h : H) (R : Res → H → Prop) (e : Ending) (w' : World) : Prop :=
  ∃ r φ' h', ResRel φ' r e ∧ Rel S w0 φ' h' w' ∧ ExtN S w0 h.length φ φ' ∧ h.length ≤ h'.length ∧ R r h'
theorem tell_ret {S : Nat → Prop} {w0 w'' : World} {φ φ' : Phi} {h' : H} {R : Res → H → Prop} {v : Value} {r : Res} (p3 : ExtN S w0 h.length φ φ') (p4 : h.length ≤ h'.length) (p2 : Rel S w0 φ' h' w'') (q2 : ResRel φ' r (.returned v)) (q3 : Up h.length R r h') : Tell S w0 φ h R (.returned v) w'' := by
  cases r with
  | ret x =>
    obtain ⟨v', h'', M, ar, hm, hR⟩ := q3
    obtain ⟨φ'', R'', e'', hn'', m''⟩ := ar S w0 φ' w'' p2 p4
    obtain ⟨cv, e, rv⟩ := q2
    exact ⟨.ret v', φ'', h'', ⟨cv, e, m'' _ _ _ hm rv⟩, R'', p3.trans e'', hn'', hR⟩
  | pan x => obtain ⟨cv, e, rv⟩ := q2; cases e
theorem tell_pan {S : Nat → Prop} {w0 w'' : World} {φ φ' : Phi} {h' : H} {R : Res → H → Prop} {u : Value} {v : V} (p3 : ExtN S w0 h.length φ φ') (p4 : h.length ≤ h'.length) (p2 : Rel S w0 φ' h' w'') (q : RelV φ' v u) (q3 : Up h.length R (.pan v) h') : Tell S w0 φ h R (.panicked [{ v := u, recovered := false }]) w'' := by
  obtain ⟨v', h'', M, ar, hm, hR⟩ := q3
  obtain ⟨φ'', R'', e'', hn'', m''⟩ := ar S w0 φ' w'' p2 p4
  exact ⟨.pan v', φ'', h'', ⟨u, rfl, m'' _ _ _ hm q⟩, R'', p3.trans e'', hn'', hR⟩

theorem settle_returning : settle .returning = .returning := rfl
theorem settle_rec (v : Value) : settle (.panicking [{ v := v, recovered := true }]) = .returning := rfl
theorem settle_not (v : Value) : settle (.panicking [{ v := v, recovered := false }]) = .panicking [{ v := v, recovered := false }] := rfl

/-- The way out of a function that has deferred one closure. -/
theorem out_def {fn : Func} {R : Res → H → Prop} {g : Nat} {caps : List V} {cl : Array Value} {S : Nat → Prop} {w0 w1 : World} {φ φ1 : Phi} {h1 : H} {e : Exit} {a : Act} {w : World} (G : RelG C φ.z) (hx : ExtN S w0 h.length φ φ1)
    (R1 : Rel S w0 φ1 h1 w1) (hn1 : h.length ≤ h1.length) (hp : All2 (RelP φ1) caps cl.toList)
    (p : Post N h1.length S w0 φ1 (C.ml, [{ target := .fn (.func g) cl, args := #[] }]) (defQ C h.length fn R g caps) e a w) : bodyPostM Fence.wide 0 C.P fn (Tell S w0 φ h R) e a w := by
  obtain ⟨x, τ, h', φ', p1, p2, p3, p4, p5, p6, p7, p8⟩ := p
  obtain ⟨ms, hms, hmk, -⟩ := p7
  have hE : ExtN S w0 h.length φ φ' := hx.trans (p3.mono hn1)
  have hcl : All2 (RelV φ') caps cl.toList := fn_caps (hp.mono fun _ _ r => r.ext (R1.ext p3))
  have inv : ∀ w'', enters C.P g = true → (invoke (.fn (.func g) cl) #[]).run C.P w'' = .ok (.enter g cl) w'' := fun w'' he => by
    unfold enters at he
    cases hfn : C.P.funcs[g]? with
    | none => rw [hfn] at he; cases he
    | some fn =>
      rw [hfn] at he
      simp only [Bool.and_eq_true, bne_iff_ne, ne_eq] at he
      have q1 : ¬ fn.name = "runtime.NumGoroutine" := he.1
      have q2 : fn.body.isNone = false := by
        cases hb : fn.body with
        | none => rw [hb] at he; exact absurd he.2 (by simp)
        | some _ => rfl
      simp only [invoke, callFunc, run_program, Sem.run_bind, Result.andThen_ok, hfn]
      simp [q1, q2]
  have hlen : h.length ≤ h'.length := by omega
  have res : ∀ {h'' : H} {φ'' : Phi} {w'' : World}, Rel S w0 φ'' h'' w'' → ExtN S w0 h'.length φ' φ'' → h'.length ≤ h''.length → resW C h'' τ fn.results.toList (tupOf h.length R h'') → LeavesInM Fence.wide 0 C.P fn a.tmps (Tell S w0 φ h R) [] .returning w'' := fun R'' E'' hl'' q => by
    obtain ⟨v, r, q1, q2, q3⟩ := results_run R'' (p5.ext (p2.ext E'')) q
    exact ⟨v, q1, tell_ret (hE.trans (E''.mono hlen)) (by omega) R'' q2 q3⟩
  have ret : CallsDV C g caps h' none (fun _ h' => resW C h' τ fn.results.toList (tupOf h.length R h')) → LeavesInM Fence.wide 0 C.P fn a.tmps (Tell S w0 φ h R) a.defers .returning w := fun q => by
    rw [hms]
    refine leaves_marksT (by simp) ms w hmk p2 fun w'' Rl => ?_
    obtain ⟨he, q⟩ := q S w0 φ' cl w'' none (G.mono hE.z) Rl hcl trivial
    refine ⟨by simp, .inr ⟨fun hd => (by cases hd), _, _, _, _, rfl, inv w'' he, fun _ _ => trivial, q.mono fun e u' w3 ⟨rec, φ'', h'', v, r1, r2, r3, r4, r5, r6⟩ => ?_⟩⟩
    subst r1; subst r2
    exact res r3 r4 r5 r6
  cases x with
  | normal => simp only [XRel] at p1; subst p1; exact ret p8
  | ret => simp only [XRel] at p1; subst p1; exact ret p8
  | exit id => exact p8.elim
  | pan v =>
    obtain ⟨u, rfl, q⟩ := p1
    show LeavesInM Fence.wide 0 C.P fn a.tmps (Tell S w0 φ h R) a.defers (.panicking _) w
    rw [hms]
    refine leaves_marksT (by simp) ms w hmk p2 fun w'' Rl => ?_
    obtain ⟨he, q'⟩ := p8 S w0 φ' cl w'' (some u) (G.mono hE.z) Rl hcl q
    refine ⟨by simp, .inr ⟨fun hd => (by cases hd), _, _, _, _, rfl, inv w'' he, fun _ _ => trivial, q'.mono fun e u' w3 ⟨rec, φ'', h'', v', r1, r2, r3, r4, r5, r6⟩ => ?_⟩⟩
    subst r1; subst r2
    cases rec with
    | true => exact res r3 r4 r5 (r6.1 rfl)
    | false => exact tell_pan (hE.trans (r4.mono hlen)) (by omega) r3 (q.ext (p2.ext r4)) (r6.2 rfl)

theorem run_defer {P : Program} {a : Act} {o : Oper} {fo : Operand} {ts : Array TypeId} {g : Nat} {cl : Array Value} {w : World} {rd : Option Nat} (hrd : rd = none) (ho : o.op = .defer ⟨.value fo, #[], ts⟩) (hv : a.eval fo = .func (.func g) #[] cl) :
    (o.semAt rd a.eval).run P w = .ok (.defer { target := .fn (.func g) cl, args := #[] }) w := by
  subst hrd
  rw [Oper.semAt_none]
  simp only [execOp, ho, resolve, hv, Deferred.ofValue, Sem.run_bind, Sem.run_pure, Result.andThen_ok]
  simp

/-- A function that defers one closure, at the outermost level of its body. -/
theorem calls_of_defer {f : Nat} {fn : Func} {c : Code} {args : List V} {R : Res → H → Prop} (hf : C.P.funcs[f]? = some fn) (hb : fn.body = some c) (hn : enters C.P f = true) (hc : codeOk fn.ntmps c = true) (hl : args.length ≤ fn.ntmps)
    {pre post : List Code} {id : Nat} {ops : Array Oper} {os1 os2 : List Oper} {o : Oper} {fo : Operand} {ts : Array TypeId} (hsp : spine c = pre ++ .region id ops false :: post) (hops : ops.toList = os1 ++ o :: os2)
    (ho : o.op = .defer ⟨.value fo, #[], ts⟩) (hg : o.guard = none) (hd : o.dst = none) (n m : Nat)
    (hr : Run C.nm fn.ntmps h.length n (defQ1 C fn.ntmps h.length m fn R ops.toList os2 post fo) (pre.map It.code ++ [.ops ops.toList os1]) (argsT args) h) (hrd : C.rd = none := by rfl) : CallsV C f args h R := by
  intro S w0 φ vs w G Rl ha
  refine .inl ⟨hn, ?_⟩
  refine calls_of_wpV hf hb hrd (wpV_spine ?_)
  have hsok := spine_ok hc
  rw [hsp, List.all_append, List.all_cons, Bool.and_eq_true, Bool.and_eq_true] at hsok
  obtain ⟨hpre, hreg, hpost⟩ := hsok
  simp only [codeOk] at hreg
  have hall : ops.toList.all (opOk fn.ntmps) = true := by rw [Array.all_toList]; exact hreg
  have hsplit := hall
  rw [hops, List.all_append, List.all_cons, Bool.and_eq_true, Bool.and_eq_true] at hsplit
  obtain ⟨hos1, hoo, hos2⟩ := hsplit
  have hfo : opdOk fo = true := by
    simp only [opOk, Bool.and_eq_true, ho, Op.operands, Call.operands] at hoo
    simpa using hoo.2
  have hlen := ha.length
  simp at hlen
  rw [hsp]
  refine wpL_append ?_
  have s1 := Run_sound n _ _ _ h (items_ok hpre (k := [.ops ops.toList os1]) (by simp [itOk, hall, hos1])) hr
  have w1 := sem_wpL s1 (S := S) (w0 := w0) (a := { tmps := vs ++ Array.replicate (fn.ntmps - vs.size) undef, defers := [] }) G Rl (Nat.le_refl _) (argsT_rel ha) (by simp; omega)
  have hpl : ∀ {l : List Code} {Q : Exit → Act → World → Prop} {a : Act} {w : World}, C.nm.wpL l Q a w → C.wpL l Q a w := by
    intro l
    induction l with
    | nil => intro Q a w h; exact h
    | cons c l ih => intro Q a w h; exact wpV_mono (C := C) h (then_mono (fun a w h => ih h) fun _ _ _ h => h)
  refine hpl (wpL_mono ?_ w1)
  rintro e a' w' ⟨x', τ', h', φ', p1, p2, p3, p4, p5, p6, p7, p8⟩
  have none' : ∀ {a : Act} {w : World}, Dfs w0 (false, []) a w → a.defers = [] := fun ⟨ms, h1, _, h2⟩ => by rw [h1, h2 rfl]; rfl
  have early : ∀ {x : XV} {e : Exit} {τ : Tau} {h1 : H} {φ1 : Phi} {a : Act} {w : World}, x ≠ .normal → XRel φ1 x e → Rel S w0 φ1 h1 w → ExtN S w0 h.length φ φ1 → h.length ≤ h1.length → RelT φ1 τ a → a.defers = [] → defQ1 C fn.ntmps h.length m fn R ops.toList os2 post fo x τ h1 →
      bodyPostM Fence.wide 0 C.P fn (Tell S w0 φ h R) e a w := by
    intro x e τ h1 φ1 a w hx q1 q2 q3 q4 q5 q6 q7
    cases x with
    | normal => exact absurd rfl hx
    | exit id => exact q7.elim
    | ret =>
      simp only [XRel] at q1; subst q1
      show LeavesInM _ _ _ _ _ _ a.defers _ _
      rw [q6]
      obtain ⟨v, r, r1, r2, r3⟩ := results_run q2 q5 q7
      exact ⟨v, r1, tell_ret q3 q4 q2 r2 r3⟩
    | pan v =>
      obtain ⟨u, rfl, q⟩ := q1
      show LeavesInM _ _ _ _ _ _ a.defers _ _
      rw [q6]
      exact tell_pan q3 q4 q2 q q7
  have p7' := none' p7
  cases x' with
  | exit id => simp only [XRel] at p1; subst p1; exact (p8 : False).elim
  | ret => simp only [XRel] at p1; subst p1; exact early (x := .ret) (e := .ret) (by simp) rfl p2 p3 p4 p5 p7' p8
  | pan v => obtain ⟨u, rfl, q⟩ := p1; exact early (x := .pan v) (e := .panic _) (by simp) ⟨u, rfl, q⟩ p2 p3 p4 p5 p7' p8
  | normal =>
    simp only [XRel] at p1; subst p1
    show C.wpV (.region id ops false) _ a' w'
    refine wpV_of (wpIn_region_list ?_)
    rw [hops]
    refine wpList_append ?_
    obtain ⟨S1, hS, R1, b1, b2⟩ := p2.base
    have w2 := p8 S1 w' φ' a' w' (G.mono p3.z) R1 p4 p5 p6
    rw [Array.toArray_toList] at w2
    refine wpList_mono ?_ w2
    intro e a2 w2' p
    have p := p.rebase p2 p3 p7 hS b1 b2
    obtain ⟨x2, τ2, h2, φ2, r1, r2, r3, r4, r5, r6, r7, r8⟩ := p
    have r7' := none' r7
    have keep : ∀ {e : Exit} {a : Act} {w : World}, e ≠ .normal → bodyPostM Fence.wide 0 C.P fn (Tell S w0 φ h R) e a w →
        Exit.then (wpListIn C.fc 0 C.P ops (Exit.then (C.wpL post (bodyPostM Fence.wide 0 C.P fn (Tell S w0 φ h R))) (bodyPostM Fence.wide 0 C.P fn (Tell S w0 φ h R))) (o :: os2)) (Exit.then (C.wpL post (bodyPostM Fence.wide 0 C.P fn (Tell S w0 φ h R))) (bodyPostM Fence.wide 0 C.P fn (Tell S w0 φ h R))) e a w := by
      intro e a w he q
      cases e with
      | normal => exact absurd rfl he
      | _ => exact q
    cases x2 with
    | exit id => simp only [XRel] at r1; subst r1; exact (r8 : False).elim
    | ret => simp only [XRel] at r1; subst r1; exact keep (e := .ret) (by simp) (early (x := .ret) (by simp) rfl r2 r3 r4 r5 r7' r8)
    | pan v => obtain ⟨u, rfl, q⟩ := r1; exact keep (by simp) (early (x := .pan v) (by simp) ⟨u, rfl, q⟩ r2 r3 r4 r5 r7' r8)
    | normal =>
      simp only [XRel] at r1; subst r1
      show wpListIn C.fc 0 C.P ops _ (o :: os2) a2 w2'
      have r8 : defK C fn.ntmps h.length m fn R ops.toList os2 post τ2 h2 (ev C τ2 fo) := r8
      unfold defK at r8
      split at r8
      · rename_i g caps hfv
        have ef := ev_rel (G.mono r3.z) r5 fo hfo
        rw [hfv] at ef
        obtain ⟨cl, ef, hp⟩ := fn_rel ef
        refine wpListIn_plain hg fun K hK => ?_
        refine ⟨fun _ _ => trivial, ?_⟩
        rw [show C.fc.round = none from hrd, run_defer rfl ho ef]
        refine hK _ _ ?_
        rw [hd]
        obtain ⟨S2, hS2, R2, b3, b4⟩ := r2.base
        have s2 := Run_sound m _ _ _ h2 (by simp only [List.all_cons, itOk, hall, hos2, Bool.and_self, Bool.true_and]; have := items_ok hpost (k := []) rfl; simpa using this) r8
        have w3 := s2 S2 w2' φ2 { a2 with defers := { target := .fn (.func g) cl.toArray, args := #[] } :: a2.defers } w2' (G.mono r3.z) R2 (Nat.le_refl _) r5 r6
        rw [Array.toArray_toList] at w3
        refine wpList_mono ?_ w3
        intro e a3 w3' p
        have d3 : Dfs w0 (C.ml, [{ target := .fn (.func g) cl.toArray, args := #[] }]) { a2 with defers := { target := .fn (.func g) cl.toArray, args := #[] } :: a2.defers } w2' := ⟨[], by simp [r7'], ⟨List.nodup_nil, by simp⟩, fun _ => rfl⟩
        have p := p.rebase r2 (ExtN.refl S w0 h2.length φ2) d3 hS2 b3 b4
        have fin : ∀ {e : Exit} {a : Act} {w : World}, Post fn.ntmps h2.length S w0 φ2 (C.ml, [{ target := .fn (.func g) cl.toArray, args := #[] }]) (defQ C h.length fn R g caps) e a w → bodyPostM Fence.wide 0 C.P fn (Tell S w0 φ h R) e a w := fun p =>
          out_def G r3 r2 r4 (by simpa using hp) p
        obtain ⟨x3, τ3, h3, φ3, t1, t2, t3, t4, t5, t6, t7, t8⟩ := p
        cases x3 with
        | normal =>
          simp only [XRel] at t1; subst t1
          obtain ⟨S3, hS3, R3, b5, b6⟩ := t2.base
          have t8 : SemK C fn.ntmps h2.length (defQ C h.length fn R g caps) (post.map It.code ++ []) .normal τ3 h3 := by rw [List.append_nil]; exact t8
          refine wpL_mono (fun e a w p => fin ?_) (sem_wpL t8 (G.mono (r3.z.trans t3.z)) R3 t4 t5 t6)
          exact p.rebase t2 t3 t7 hS3 b5 b6
        | exit id => simp only [XRel] at t1; subst t1; exact fin (e := .exit id) ⟨.exit id, τ3, h3, φ3, rfl, t2, t3, t4, t5, t6, t7, semK_last (by simp) t8⟩
        | ret => simp only [XRel] at t1; subst t1; exact fin (e := .ret) ⟨.ret, τ3, h3, φ3, rfl, t2, t3, t4, t5, t6, t7, semK_last (by simp) t8⟩
        | pan v => obtain ⟨u, rfl, q⟩ := t1; exact fin (e := .panic _) ⟨.pan v, τ3, h3, φ3, ⟨u, rfl, q⟩, t2, t3, t4, t5, t6, t7, semK_last (by simp) t8⟩
      · exact r8.elim
end
end Go.W
/- part W48 -/
set_option linter.unusedVariables false
set_option linter.unusedSimpArgs false
namespace Go.W
open Go Go.RowKit

/-! ### Deferred calls that recover -/
def pV : Option V → V
  | some v => v
  | none => .s .nilIface
def recQ (R : Bool → H → Prop) (b : Bool) : QT
  | .normal, _, h => R b h
  | .ret, _, h => R b h
  | _, _, _ => False

section
variable {C : Cx}
theorem run_recover {P : Program} {a : Act} {o : Oper} {ts : Array TypeId} {w : World} {rd : Option Nat} (hrd : rd = none) (ho : o.op = .call ⟨.builtin .recover, #[], ts⟩) : (o.semAt rd a.eval).run P w = .ok .recover w := by
  subst hrd
  rw [Oper.semAt_none]
  simp only [execOp, ho, resolve, Sem.run_bind, Sem.run_pure, Result.andThen_ok, invoke, builtin]
  
/-- A deferred closure whose first operation is recover. -/
theorem callsD_of_run {f : Nat} {fn : Func} {c : Code} {args : List V} {h : H} {p : Option V} {R : Bool → H → Prop} (hf : C.P.funcs[f]? = some fn) (hb : fn.body = some c) (hn : enters C.P f = true) (hc : codeOk fn.ntmps c = true) (hl : args.length ≤ fn.ntmps)
    (hrs : fn.results = #[]) {post : List Code} {id : Nat} {ops : Array Oper} {os2 : List Oper} {o : Oper} {d : Nat} {ts : Array TypeId} (hh : headC c = (.region id ops false, post)) (hops : ops.toList = o :: os2)
    (ho : o.op = .call ⟨.builtin .recover, #[], ts⟩) (hg : o.guard = none) (hd : o.dst = some d) (n : Nat)
    (hr : Run C.nm fn.ntmps h.length n (recQ R p.isSome) (.ops ops.toList os2 :: post.map It.code) (up d (pV p) (argsT args)) h) (hrd : C.rd = none := by rfl) : CallsDV C f args h p R := by
  intro S w0 φ vs w pv G Rl ha hp
  refine ⟨hn, trivial, fun c₀ cs hu hroom => ?_⟩
  have hfe : Machine.fenced C.P C.nm.fc = Machine.fenced C.P Fence.wide := rfl
  have fw : ∀ m : Machine, m.fenced C.P Fence.wide := fenced_wide C.P
  let b : Frame := { (default : Frame) with fn := f, kind := .deferred, roundOf := none }
  have hbv : (C.P.funcs[b.fn]?).isSome = true := by simp [b, hf]
  have henter : Frame.enter C.P f vs .deferred = b.atR { tmps := vs ++ Array.replicate (fn.ntmps - vs.size) undef, defers := [] } [.code c] := by
    simp [Frame.enter, Frame.atR, hf, hb, b]
  generalize ha0 : ({ tmps := vs ++ Array.replicate (fn.ntmps - vs.size) undef, defers := [] } : Act) = a0 at henter
  have hlen := ha.length
  simp at hlen
  have hN : a0.tmps.size = fn.ntmps := by rw [← ha0]; simp; omega
  have hT : RelT φ (argsT args) a0 := by rw [← ha0]; exact argsT_rel ha
  have hD : a0.defers = [] := by rw [← ha0]
  have hok := head_ok hc
  rw [hh] at hok
  obtain ⟨hreg, hpost⟩ := hok
  simp only [codeOk] at hreg
  have hall : ops.toList.all (opOk fn.ntmps) = true := by rw [Array.all_toList]; exact hreg
  have hsplit := hall
  rw [hops, List.all_cons, Bool.and_eq_true] at hsplit
  obtain ⟨hoo, hos2⟩ := hsplit
  have hsz : ops.size = os2.length + 1 := by rw [← Array.length_toList, hops]; rfl
  have h0 : ops[0]? = some o := by rw [← Array.getElem?_toList, hops]; rfl
  -- to the region's first operation
  have s1 := head_steps (C := C) c b a0 [] (c₀ :: cs) w
  rw [hh] at s1
  have s2 : StepsIn (Machine.fenced C.P Fence.wide) C.P (lone (b.atR a0 (.code (.region id ops false) :: (post.map Item.code ++ []))) (c₀ :: cs) w) (lone (b.atR a0 (.inRegion ops (List.range ops.size) :: (post.map Item.code ++ []))) (c₀ :: cs) w) := .one (fw _) stepR_region
  have hrange : List.range ops.size = 0 :: List.range' 1 os2.length := by rw [hsz, List.range_eq_range']; simp [List.range'_succ]
  rw [hrange] at s2
  -- recover
  have hw : Region.wanted o (yielded ops a0.tmps) = true := by simp [Region.wanted, hg]
  let a1 : Act := a0.put (some d) (match pv with | some v => v | none => .nilIface)
  let c1 : Frame := { c₀ with mode := modeOf pv pv.isSome }
  have s3 : StepsIn (Machine.fenced C.P Fence.wide) C.P (lone (b.atR a0 (.inRegion ops (0 :: List.range' 1 os2.length) :: (post.map Item.code ++ []))) (c₀ :: cs) w) (lone (b.atR a1 (.inRegion ops (List.range' 1 os2.length) :: (post.map Item.code ++ []))) (c1 :: cs) w) := by
    generalize post.map Item.code ++ [] = kk
    have hbr : b.roundOf = none := rfl
    refine .one (fw _) (step_lone_go ?_)
    have hg' := stepGR_op (P := C.P) (b := b) (k := kk) (cs := c₀ :: cs) (w := w) (a := a0) (rest := List.range' 1 os2.length) h0 hw
    rw [hg']
    have hfin : ∀ v, (b.atR a0 (.inRegion ops (0 :: List.range' 1 os2.length) :: (kk))).finish v = b.atR (a0.put (some d) v) (.inRegion ops (List.range' 1 os2.length) :: (kk)) := by
      intro v; rw [Frame.finish_atR, h0]; simp [hd]
    have hk : (b.atR a0 (.inRegion ops (0 :: List.range' 1 os2.length) :: (kk))).kind = .deferred := rfl
    have htr := tryRecover_deferred hk (c₀ :: cs)
    have hrr := run_recover (P := C.P) (a := a0) (w := w) (rd := b.roundOf) rfl ho
    cases pv with
    | none =>
      have hrec : recoverD (c₀ :: cs) = none := by simp [recoverD, hu, modeOf]
      have hc1 : c1 = c₀ := by simp only [c1, modeOf]; rw [show (FrameMode.returning) = c₀.mode by rw [hu]; rfl]
      rw [hrec] at htr
      rw [hc1, ← hfin]
      simp only [Frame.atR, hbr] at htr hrr ⊢
      simp [stepG.apply, hrr, htr, hbr]
    | some v =>
      have hrec : recoverD (c₀ :: cs) = some (v, c1 :: cs) := by simp [recoverD, hu, modeOf, c1]
      rw [hrec] at htr
      rw [← hfin]
      simp only [Frame.atR, hbr] at htr hrr ⊢
      simp [stepG.apply, hrr, htr, hbr]
  -- what is left
  have hd' : d < fn.ntmps := by simp only [opOk, hd, Bool.and_eq_true, decide_eq_true_eq] at hoo; exact hoo.1
  have hT1 : RelT φ (up d (pV p) (argsT args)) a1 := by
    refine hT.put (by rw [hN]; exact hd') ?_
    cases p with
    | none => cases pv with
      | none => exact mk_s rfl
      | some v => exact hp.elim
    | some x => cases pv with
      | none => exact hp.elim
      | some v => exact hp
  have hN1 : a1.tmps.size = fn.ntmps := by simp [a1, Act.put, hN]
  have hD1 : a1.defers = [] := hD
  have sem := Run_sound n _ _ _ h (by simp only [List.all_cons, itOk, hall, hos2, Bool.and_self, Bool.true_and]; have := items_ok hpost (k := []) rfl; simpa using this) hr
  have w1 := sem S w0 φ a1 w G Rl (Nat.le_refl _) hT1 hN1
  rw [Array.toArray_toList] at w1
  have w1 := (wpOpsIn_eq_wpListIn (F := C.nm.fc) (n := 0) (P := C.P) (Q := Post fn.ntmps h.length S w0 φ (C.nm.ml, a1.defers) (SemK C.nm fn.ntmps h.length (recQ R p.isSome) (post.map It.code))) os2 1 (fun j => by rw [← Array.getElem?_toList, hops, Nat.add_comm]; rfl)) ▸ w1
  obtain ⟨e, a2, w2, hq, harr⟩ := wp_opsIn _ _ _ w1 b (post.map Item.code ++ []) (c1 :: cs) hrd.symm trivial (fun d hd => by cases hd)
  have s123 := (StepsIn.trans s1 s2).trans s3
  rw [hfe] at harr
  -- the end
  have fin : ∀ {e : Exit} {a3 : Act} {w3 : World}, Post fn.ntmps h.length S w0 φ (false, []) (recQ R p.isSome) e a3 w3 → ArrivesIn (Machine.fenced C.P Fence.wide) C.P (lone (Frame.enter C.P f vs .deferred) (c₀ :: cs) w) b [] (c1 :: cs) e a3 w3 →
      ∃ e u' w' fr, (∃ rec φ' h' v, e = .returned v ∧ u' = modeOf pv rec ∧ Rel S w0 φ' h' w' ∧ ExtN S w0 h.length φ φ' ∧ h.length ≤ h'.length ∧ R rec h') ∧
        ComesIn (Machine.fenced C.P Fence.wide) C.P (lone (Frame.enter C.P f vs .deferred) (c₀ :: cs) w) (lone fr ({ c₀ with mode := u' } :: cs) w') e ∧ fr.kind = .deferred ∧ fr.fn = f ∧ fr.going C.P w' e := by
    intro e a3 w3 p harr
    obtain ⟨x, τ', h', φ', p1, p2, p3, p4, p5, p6, ⟨ms, hms, -, hz⟩, p8⟩ := p
    have hds : a3.defers = [] := by rw [hms, hz rfl]; rfl
    have hps : p.isSome = pv.isSome := by
      cases p <;> cases pv <;> first | rfl | exact hp.elim
    obtain ⟨rv, r, res, -, -⟩ := results_run (n0 := 0) (R := fun _ _ => True) (fn := fn) p2 p5 (by rw [hrs]; exact ⟨rfl, Up.refl trivial⟩)
    have tell : R p.isSome h' → ∃ rec φ' h' v, Ending.returned rv = .returned v ∧ modeOf pv pv.isSome = modeOf pv rec ∧ Rel S w0 φ' h' w3 ∧ ExtN S w0 h.length φ φ' ∧ h.length ≤ h'.length ∧ R rec h' := fun q => ⟨_, φ', h', _, rfl, rfl, p2, p3, p4, hps ▸ q⟩
    cases x with
    | normal =>
      simp only [XRel] at p1; subst p1
      exact ⟨.returned rv, modeOf pv pv.isSome, w3, { b.atR a3 [] with mode := .returning }, tell p8, StepsIn.trans harr (.one (fw _) (stepR_end rfl)), rfl, rfl, rfl, hds, fn, hf, res⟩
    | ret =>
      simp only [XRel] at p1; subst p1
      obtain ⟨todo, hs⟩ := harr.1 rfl
      exact ⟨.returned rv, modeOf pv pv.isSome, w3, { b.atR a3 todo with mode := .returning }, tell p8, hs, rfl, rfl, rfl, hds, fn, hf, res⟩
    | exit id => exact (p8 : False).elim
    | pan v => exact (p8 : False).elim
  have back : ∀ {l : List Code} {e : Exit} {a3 : Act} {w3 : World}, e ≠ .normal → ArrivesIn (Machine.fenced C.P Fence.wide) C.P (lone (Frame.enter C.P f vs .deferred) (c₀ :: cs) w) b (l.map Item.code ++ []) (c1 :: cs) e a3 w3 → ArrivesIn (Machine.fenced C.P Fence.wide) C.P (lone (Frame.enter C.P f vs .deferred) (c₀ :: cs) w) b [] (c1 :: cs) e a3 w3 := by
    intro l e a3 w3 he
    induction l with
    | nil => intro h; exact h
    | cons x l ih => intro h; exact ih (.pass (x := .code x) rfl (fun _ _ => .inl he) h)
  have harr := ArrivesIn.of_steps (henter ▸ s123) harr
  have hds1 : (C.nm.ml, a1.defers) = (false, ([] : List Deferred)) := by rw [hD1]
  rw [hds1] at hq
  have skip : ∀ {x : XV} {e : Exit} {τ : Tau} {h1 : H} {φ1 : Phi}, x ≠ .normal → XRel φ1 x e → Rel S w0 φ1 h1 w2 → ExtN S w0 h.length φ φ1 → h.length ≤ h1.length → RelT φ1 τ a2 → a2.tmps.size = fn.ntmps → Dfs w0 (false, []) a2 w2 → SemK C.nm fn.ntmps h.length (recQ R p.isSome) (post.map It.code) x τ h1 →
      Post fn.ntmps h.length S w0 φ (false, []) (recQ R p.isSome) e a2 w2 := fun hx q1 q2 q3 q4 q5 q6 q7 q8 => ⟨_, _, _, _, q1, q2, q3, q4, q5, q6, q7, semK_last hx q8⟩
  obtain ⟨x, τ', h', φ', p1, p2, p3, p4, p5, p6, p7, p8⟩ := hq
  cases x with
  | normal =>
    simp only [XRel] at p1; subst p1
    obtain ⟨S1, hS, R1, b1, b2⟩ := p2.base
    have p8 : SemK C.nm fn.ntmps h.length (recQ R p.isSome) (post.map It.code ++ []) .normal τ' h' := by rw [List.append_nil]; exact p8
    obtain ⟨e3, a3, w3, hq3, harr3⟩ := wpL_arrives (sem_wpL p8 (G.mono p3.z) R1 p4 p5 p6) b [] (c1 :: cs) hrd.symm hbv
    rw [hfe] at harr3
    exact fin (hq3.rebase p2 p3 p7 hS b1 b2) (.of_steps harr harr3)
  | exit id => simp only [XRel] at p1; subst p1; exact fin (skip (x := .exit id) (e := .exit id) (by simp) rfl p2 p3 p4 p5 p6 p7 p8) (back (by simp) harr)
  | ret => simp only [XRel] at p1; subst p1; exact fin (skip (x := .ret) (e := .ret) (by simp) rfl p2 p3 p4 p5 p6 p7 p8) (back (by simp) harr)
  | pan v => obtain ⟨u, rfl, q⟩ := p1; exact fin (skip (x := .pan v) (by simp) ⟨u, rfl, q⟩ p2 p3 p4 p5 p6 p7 p8) (back (by simp) harr)
end
end Go.W
/- part W49 -/
set_option linter.unusedVariables false
set_option linter.unusedSimpArgs false
namespace Go.W
open Go Go.RowKit

/-! ### Functions that write into what their caller owns, and may panic -/
section
variable {C : Cx} {h : H} {N n0 m : Nat} {Q : QT} {k : List It} {τ : Tau}
def shr1 (h : H) (b j : Nat) : Option Blk → H
  | some ⟨els, n, cap, true⟩ => h.set b ⟨els.take j, n, cap, true⟩
  | _ => h
/-- What blocks hold behind a place is forgotten. -/
def shrinks (h : H) : List (Nat × Nat) → H
  | [] => h
  | (b, j) :: r => shrinks (shr1 h b j (h[b]?)) r
theorem Arr.shrinks (n0 : Nat) : ∀ (l : List (Nat × Nat)) (h : H), Arr n0 h (Go.W.shrinks h l) fun x x' => x' = x
  | [], h => (Arr.refl n0 h).mono fun x x' e => .inl e
  | (b, j) :: r, h => by
    have one : Arr n0 h (shr1 h b j (h[b]?)) fun x x' => x' = x := by
      unfold shr1
      split
      · rename_i els n cap hb; exact Arr.shrink hb
      · exact (Arr.refl n0 h).mono fun x x' e => .inl e
    exact (one.trans (Arr.shrinks n0 r _)).mono fun x x' e => ⟨x, rfl, e⟩
/-- What is told at a function's end: blocks are shortened, folded, let go. -/
theorem Up.gcF {R : Res → H → Prop} {r : V} (r' : V) (sh : List (Nat × Nat)) (fl : List (Nat × Nat × Nat)) (l : List Nat) (hs : H) (hn : l.Nodup) (ht : l.take n0 = List.range n0) (hg : gcL (nm l (folds (shrinks h sh) fl).length) (folds (shrinks h sh) fl) l hs)
    (he : r = rnV (nm l (folds (shrinks h sh) fl).length) r') (hr : R (.ret r') hs) : Up n0 R (.ret r) h :=
  ⟨r', hs, _, ((Arr.shrinks n0 sh h).trans (Arr.folds n0 fl _)).trans (Arr.gc (gcOk_ofN hn ht hg)), ⟨r, ⟨r, rfl, rfl⟩, .inr he⟩, hr⟩
theorem Goes.foldS {K : Tau → H → Prop} (sh : List (Nat × Nat)) (fl : List (Nat × Nat × Nat)) (l : List Nat) (T : List (Nat × V)) (h' : H) (hn : l.Nodup) (hr : l.take n0 = List.range n0) (hg : gcL (nm l (folds (shrinks h sh) fl).length) (folds (shrinks h sh) fl) l h') (ht : keepT τ (nm l (folds (shrinks h sh) fl).length) T)
    (hk : K (keepL T) h') : Goes n0 K τ h :=
  ⟨_, h', _, ((Arr.shrinks n0 sh h).trans (Arr.folds n0 fl _)).trans (Arr.gc (gcOk_ofN hn hr hg)), fun t => ⟨_, ⟨_, rfl, rfl⟩, keepT_spec ht t⟩, hk⟩
theorem shrinks_nil (h : H) : shrinks h [] = h := rfl
theorem shrinks_cons (h : H) (b j : Nat) (r : List (Nat × Nat)) : shrinks h ((b, j) :: r) = shrinks (shr1 h b j (h[b]?)) r := rfl
theorem shr1_some (h : H) (b j : Nat) (els : List (List V)) (n cap : Nat) : shr1 h b j (some ⟨els, n, cap, true⟩) = h.set b ⟨els.take j, n, cap, true⟩ := rfl
theorem folds_cons (h : H) (b i o : Nat) (r : List (Nat × Nat × Nat)) : folds h ((b, i, o) :: r) = folds (foldC h b i o) r := rfl

theorem CallsV.len {f : Nat} {args : List V} {R : Res → H → Prop} (c : CallsV C f args h R) : CallsV C f args h fun r h' => R r h' ∧ h.length ≤ h'.length :=
  fun S w0 φ vs w r0 r1 r2 => (c S w0 φ vs w r0 r1 r2).mono fun e w' ⟨r, φ', h', p1, p2, p3, p4, p5⟩ => ⟨r, φ', h', p1, p2, p3, p4, p5, p4⟩

/-- A contract over the blocks hs, at the caller's. -/
theorem CallsV.frameL {f : Nat} {args args' : List V} {hs : H} {R : Res → H → Prop} (p : CallsV C f args hs R) (bs : List Nat) (H : H) (hn : bs.Nodup) (hg : gcL (emb bs H.length) H bs hs) (ha : args' = args.map (rnV (emb bs H.length))) :
    CallsV C f args' H fun res h' => ∃ r h1, R r h1 ∧ hs.length ≤ h1.length ∧ res = rnRes (emb bs H.length) r ∧ h' = setAll H bs (h1.map (rnB (emb bs H.length))) := by
  obtain ⟨g1, g2⟩ := gcL_spec hg
  have := CallsV.frame p.len bs H g1 hn g2
  rw [← ha] at this
  exact this.mono fun res h' ⟨x, h1, ⟨q1, q2⟩, q3, q4⟩ => ⟨x, h1, q1, q2, q3, q4⟩

theorem foldC_length (h : H) (b i o : Nat) : (foldC h b i o).length = h.length := by
  unfold foldC foldK
  split
  · split
    · split
      · split <;> simp [wrH]
      · rfl
    · rfl
  · rfl
theorem folds_length : ∀ (fl : List (Nat × Nat × Nat)) (h : H), (folds h fl).length = h.length
  | [], h => rfl
  | (b, i, o) :: r, h => (folds_length r _).trans (foldC_length h b i o)
theorem shrinks_length : ∀ (sh : List (Nat × Nat)) (h : H), (shrinks h sh).length = h.length
  | [], h => rfl
  | (b, j) :: r, h => by
    refine (shrinks_length r _).trans ?_
    unfold shr1; split <;> simp
/-- Blocks are shortened and folded ahead of a call. -/
theorem CallsV.fold {f : Nat} {args : List V} {R : Res → H → Prop} (sh : List (Nat × Nat)) (fl : List (Nat × Nat × Nat)) (c : CallsV C f args (folds (shrinks h sh) fl) R) : CallsV C f args h R := by
  intro S w0 φ vs w G Rl ha
  have ar : Arr h.length h (folds (shrinks h sh) fl) fun x x' => x' = x := ((Arr.shrinks h.length sh h).trans (Arr.folds h.length fl _)).mono fun x x' e => ⟨x, rfl, e⟩
  obtain ⟨φ', R', e', -, m'⟩ := ar S w0 φ w Rl (Nat.le_refl _)
  have hl : (folds (shrinks h sh) fl).length = h.length := (folds_length fl _).trans (shrinks_length sh h)
  have ha' : All2 (RelV φ') args vs.toList := ha.mono fun x v r => m' x x v rfl r
  refine (c S w0 φ' vs w (G.mono e'.z) R' ha').mono fun e w' ⟨r, φ'', h'', p1, p2, p3, p4, p5⟩ => ⟨r, φ'', h'', p1, p2, e'.trans (hl ▸ p3), by omega, p5⟩

/-- f is handed the blocks hs: it answers r and leaves them as hs', or it panics with v. -/
def EditP (C : Cx) (f : Nat) (args : List V) (hs : H) (ok : Option (V × H)) (v : V) : Prop :=
  CallsV C f args hs fun res h' => match ok with
    | some p => res = .ret p.1 ∧ h' = p.2
    | none => res = .pan v
theorem CallThen.editP {f : Nat} {args args' : List V} {hs : H} {ok : Option (V × H)} {v : V} {d : Option Nat} (p : EditP C f args hs ok v) (bs : List Nat) (hn : bs.Nodup) (hg : gcL (emb bs h.length) h bs hs) (ha : args' = args.map (rnV (emb bs h.length)))
    (hv : ∀ ρ, rnV ρ v = v) (hok : ∀ q, ok = some q → (∀ ρ, rnV ρ q.1 = q.1) ∧ q.2.all (fun B => nrs B.els) = true) (m : Nat)
    (hr : ∀ q, ok = some q → Run C N n0 m Q k (upo d q.1 τ) (setAll h bs q.2)) (hp : ok = none → ∀ h1 : H, hs.length ≤ h1.length → Q (.pan v) τ (setAll h bs h1)) : CallThen C N n0 Q f args' d k τ h :=
  CallThen.of m (p.frameL bs h hn hg ha) fun res h' ⟨r, h1, q1, q2, q3, q4⟩ => by
    cases ok with
    | none =>
      simp only at q1
      subst q1; subst q3; subst q4
      show Q (.pan (rnV _ v)) τ _
      rw [hv]
      exact hp rfl _ (by simpa using q2)
    | some q =>
      simp only at q1
      obtain ⟨rfl, rfl⟩ := q1
      obtain ⟨k1, k2⟩ := hok q rfl
      subst q3; subst q4
      show Run C N n0 m Q k (upo d (rnV _ q.1) τ) _
      rw [k1, map_same fun B hB => nrs_rn _ (List.all_eq_true.1 k2 B hB)]
      exact hr q rfl
end
set_option linter.all false in
noncomputable def WB11 := And.intro (And.intro @shrinks_nil @shrinks_cons) (And.intro @shr1_some (And.intro @folds_cons @folds_nil))
end Go.W
/- part TyS -/
/- Closed facts on the types of the program: sizes, kinds, zero values, fields; each is computed by the kernel. -/
set_option maxRecDepth 100000
namespace Go.Proofs.YtijefmjfdhfjmaaDoor
open Go Go.W

noncomputable def C : Cx := { P := Tryd.prog, g := fun i => if i = 0 then .pd [.s (.string ⟨#[43]⟩), .s (.string ⟨#[45]⟩), .s (.string ⟨#[42]⟩), .s (.string ⟨#[47]⟩), .s (.string ⟨#[37]⟩), .s (.string ⟨#[60]⟩), .s (.string ⟨#[60, 61]⟩), .s (.string ⟨#[61]⟩), .s (.string ⟨#[110, 111, 116]⟩), .s (.string ⟨#[97, 116]⟩), .s (.string ⟨#[108, 101, 110]⟩), .s (.string ⟨#[112, 117, 116]⟩), .s (.string ⟨#[106, 111, 105, 110]⟩), .s (.string ⟨#[112, 114, 105, 110, 116]⟩)] else .any }
theorem cp : C.P = Tryd.prog := rfl
theorem cg0 : C.g 0 = .pd [.s (.string ⟨#[43]⟩), .s (.string ⟨#[45]⟩), .s (.string ⟨#[42]⟩), .s (.string ⟨#[47]⟩), .s (.string ⟨#[37]⟩), .s (.string ⟨#[60]⟩), .s (.string ⟨#[60, 61]⟩), .s (.string ⟨#[61]⟩), .s (.string ⟨#[110, 111, 116]⟩), .s (.string ⟨#[97, 116]⟩), .s (.string ⟨#[108, 101, 110]⟩), .s (.string ⟨#[112, 117, 116]⟩), .s (.string ⟨#[106, 111, 105, 110]⟩), .s (.string ⟨#[112, 114, 105, 110, 116]⟩)] := rfl
theorem ty1 : tSz C.P 1 = some 1 ∧ tBytes C.P 1 = some 8 ∧ tAgg C.P 1 = some false ∧ tZ C.P 1 = some [.s .nilFunc] ∧ tK C.P 1 = .func := ⟨by kernel_rfl, by kernel_rfl, by kernel_rfl, by kernel_rfl, by kernel_rfl⟩
theorem ty2 : tSz C.P 2 = some 1 ∧ tBytes C.P 2 = some 8 ∧ tAgg C.P 2 = some false ∧ tZ C.P 2 = some [.s (.int .i64 0)] ∧ tK C.P 2 = .int .i64 := ⟨by kernel_rfl, by kernel_rfl, by kernel_rfl, by kernel_rfl, by kernel_rfl⟩
theorem ty3 : tSz C.P 3 = some 1 ∧ tBytes C.P 3 = some 8 ∧ tAgg C.P 3 = some false ∧ tZ C.P 3 = some [.s (.int .i64 0)] ∧ tK C.P 3 = .int .i64 := ⟨by kernel_rfl, by kernel_rfl, by kernel_rfl, by kernel_rfl, by kernel_rfl⟩
theorem ty4 : tSz C.P 4 = some 1 ∧ tBytes C.P 4 = some 1 ∧ tAgg C.P 4 = some false ∧ tZ C.P 4 = some [.s (.bool false)] ∧ tK C.P 4 = .bool := ⟨by kernel_rfl, by kernel_rfl, by kernel_rfl, by kernel_rfl, by kernel_rfl⟩
theorem ty5 : tSz C.P 5 = some 1 ∧ tBytes C.P 5 = some 1 ∧ tAgg C.P 5 = some false ∧ tZ C.P 5 = some [.s (.int .u8 0)] ∧ tK C.P 5 = .int .u8 := ⟨by kernel_rfl, by kernel_rfl, by kernel_rfl, by kernel_rfl, by kernel_rfl⟩
theorem ty6 : tSz C.P 6 = some 1 ∧ tBytes C.P 6 = some 1 ∧ tAgg C.P 6 = some false ∧ tZ C.P 6 = some [.s (.int .u8 0)] ∧ tK C.P 6 = .int .u8 := ⟨by kernel_rfl, by kernel_rfl, by kernel_rfl, by kernel_rfl, by kernel_rfl⟩
theorem ty7 : tSz C.P 7 = some 4 ∧ tBytes C.P 7 = some 24 ∧ tAgg C.P 7 = some true ∧ tZ C.P 7 = some [.s (.int .i64 0), .s (.int .i64 0), .s (.bool false), .s (.int .u8 0)] ∧ tK C.P 7 = .other ∧ tFld C.P 7 0 = some (0, 2) ∧ fldPlace C.P 7 0 = some (0, 1) ∧ tFld C.P 7 1 = some (1, 3) ∧ fldPlace C.P 7 1 = some (1, 1) ∧ tFld C.P 7 2 = some (2, 4) ∧ fldPlace C.P 7 2 = some (2, 1) ∧ tFld C.P 7 3 = some (3, 6) ∧ fldPlace C.P 7 3 = some (3, 1) ∧ bldOk C.P 7 = true := ⟨by kernel_rfl, by kernel_rfl, by kernel_rfl, by kernel_rfl, by kernel_rfl, by kernel_rfl, by kernel_rfl, by kernel_rfl, by kernel_rfl, by kernel_rfl, by kernel_rfl, by kernel_rfl, by kernel_rfl, by kernel_rfl⟩
theorem ty8 : tSz C.P 8 = some 4 ∧ tBytes C.P 8 = some 24 ∧ tAgg C.P 8 = some true ∧ tZ C.P 8 = some [.s (.int .i64 0), .s (.int .i64 0), .s (.bool false), .s (.int .u8 0)] ∧ tK C.P 8 = .other ∧ tFld C.P 8 0 = some (0, 2) ∧ fldPlace C.P 8 0 = some (0, 1) ∧ tFld C.P 8 1 = some (1, 3) ∧ fldPlace C.P 8 1 = some (1, 1) ∧ tFld C.P 8 2 = some (2, 4) ∧ fldPlace C.P 8 2 = some (2, 1) ∧ tFld C.P 8 3 = some (3, 6) ∧ fldPlace C.P 8 3 = some (3, 1) ∧ bldOk C.P 8 = true := ⟨by kernel_rfl, by kernel_rfl, by kernel_rfl, by kernel_rfl, by kernel_rfl, by kernel_rfl, by kernel_rfl, by kernel_rfl, by kernel_rfl, by kernel_rfl, by kernel_rfl, by kernel_rfl, by kernel_rfl, by kernel_rfl⟩
theorem ty9 : tSz C.P 9 = some 1 ∧ tBytes C.P 9 = some 16 ∧ tAgg C.P 9 = some false ∧ tZ C.P 9 = some [.s (.string ⟨#[]⟩)] ∧ tK C.P 9 = .string := ⟨by kernel_rfl, by kernel_rfl, by kernel_rfl, by kernel_rfl, by kernel_rfl⟩
theorem ty10 : tSz C.P 10 = some 1 ∧ tBytes C.P 10 = some 16 ∧ tAgg C.P 10 = some false ∧ tZ C.P 10 = some [.s (.string ⟨#[]⟩)] ∧ tK C.P 10 = .string := ⟨by kernel_rfl, by kernel_rfl, by kernel_rfl, by kernel_rfl, by kernel_rfl⟩
theorem ty11 : tSz C.P 11 = some 1 ∧ tBytes C.P 11 = some 16 ∧ tAgg C.P 11 = some false ∧ tZ C.P 11 = some [.s (.string ⟨#[]⟩)] ∧ tK C.P 11 = .string := ⟨by kernel_rfl, by kernel_rfl, by kernel_rfl, by kernel_rfl, by kernel_rfl⟩
theorem ty12 : tSz C.P 12 = some 1 ∧ tBytes C.P 12 = some 8 ∧ tAgg C.P 12 = some false ∧ tZ C.P 12 = some [.s (.int .u64 0)] ∧ tK C.P 12 = .int .u64 := ⟨by kernel_rfl, by kernel_rfl, by kernel_rfl, by kernel_rfl, by kernel_rfl⟩
theorem ty13 : tSz C.P 13 = some 2 ∧ tBytes C.P 13 = some 24 ∧ tAgg C.P 13 = some true ∧ tZ C.P 13 = some [.s (.string ⟨#[]⟩), .s (.int .u64 0)] ∧ tK C.P 13 = .other ∧ tFld C.P 13 0 = some (0, 9) ∧ fldPlace C.P 13 0 = some (0, 1) ∧ tFld C.P 13 1 = some (1, 12) ∧ fldPlace C.P 13 1 = some (1, 1) ∧ bldOk C.P 13 = true := ⟨by kernel_rfl, by kernel_rfl, by kernel_rfl, by kernel_rfl, by kernel_rfl, by kernel_rfl, by kernel_rfl, by kernel_rfl, by kernel_rfl, by kernel_rfl⟩
theorem ty14 : tSz C.P 14 = some 2 ∧ tBytes C.P 14 = some 24 ∧ tAgg C.P 14 = some true ∧ tZ C.P 14 = some [.s (.string ⟨#[]⟩), .s (.int .u64 0)] ∧ tK C.P 14 = .other ∧ tFld C.P 14 0 = some (0, 9) ∧ fldPlace C.P 14 0 = some (0, 1) ∧ tFld C.P 14 1 = some (1, 12) ∧ fldPlace C.P 14 1 = some (1, 1) ∧ bldOk C.P 14 = true := ⟨by kernel_rfl, by kernel_rfl, by kernel_rfl, by kernel_rfl, by kernel_rfl, by kernel_rfl, by kernel_rfl, by kernel_rfl, by kernel_rfl, by kernel_rfl⟩
theorem ty15 : tSz C.P 15 = some 1 ∧ tBytes C.P 15 = some 8 ∧ tAgg C.P 15 = some false ∧ tZ C.P 15 = some [.s (.pointer none)] ∧ tK C.P 15 = .ptr := ⟨by kernel_rfl, by kernel_rfl, by kernel_rfl, by kernel_rfl, by kernel_rfl⟩
theorem ty16 : tSz C.P 16 = some 1 ∧ tBytes C.P 16 = some 8 ∧ tAgg C.P 16 = some false ∧ tZ C.P 16 = some [.s (.pointer none)] ∧ tK C.P 16 = .ptr := ⟨by kernel_rfl, by kernel_rfl, by kernel_rfl, by kernel_rfl, by kernel_rfl⟩
theorem ty17 : tSz C.P 17 = some 1 ∧ tBytes C.P 17 = some 8 ∧ tAgg C.P 17 = some false ∧ tZ C.P 17 = some [.s (.pointer none)] ∧ tK C.P 17 = .ptr := ⟨by kernel_rfl, by kernel_rfl, by kernel_rfl, by kernel_rfl, by kernel_rfl⟩
theorem ty18 : tSz C.P 18 = some 1 ∧ tBytes C.P 18 = some 8 ∧ tAgg C.P 18 = some true ∧ tZ C.P 18 = some [.s (.pointer none)] ∧ tK C.P 18 = .other ∧ tFld C.P 18 0 = some (0, 17) ∧ fldPlace C.P 18 0 = some (0, 1) ∧ bldOk C.P 18 = true := ⟨by kernel_rfl, by kernel_rfl, by kernel_rfl, by kernel_rfl, by kernel_rfl, by kernel_rfl, by kernel_rfl, by kernel_rfl⟩
theorem ty19 : tSz C.P 19 = some 1 ∧ tBytes C.P 19 = some 8 ∧ tAgg C.P 19 = some true ∧ tZ C.P 19 = some [.s (.pointer none)] ∧ tK C.P 19 = .other ∧ tFld C.P 19 0 = some (0, 17) ∧ fldPlace C.P 19 0 = some (0, 1) ∧ bldOk C.P 19 = true := ⟨by kernel_rfl, by kernel_rfl, by kernel_rfl, by kernel_rfl, by kernel_rfl, by kernel_rfl, by kernel_rfl, by kernel_rfl⟩
theorem ty20 : tSz C.P 20 = some 1 ∧ tBytes C.P 20 = some 16 ∧ tAgg C.P 20 = some false ∧ tZ C.P 20 = some [.s .nilIface] ∧ tK C.P 20 = .iface := ⟨by kernel_rfl, by kernel_rfl, by kernel_rfl, by kernel_rfl, by kernel_rfl⟩
theorem ty21 : tSz C.P 21 = some 1 ∧ tBytes C.P 21 = some 4 ∧ tAgg C.P 21 = some false ∧ tZ C.P 21 = some [.s (.int .i32 0)] ∧ tK C.P 21 = .int .i32 := ⟨by kernel_rfl, by kernel_rfl, by kernel_rfl, by kernel_rfl, by kernel_rfl⟩
theorem ty22 : tSz C.P 22 = some 1 ∧ tBytes C.P 22 = some 24 ∧ tAgg C.P 22 = some false ∧ tZ C.P 22 = some [.z] ∧ tK C.P 22 = .slice 73 ∧ tElem C.P 22 = some 73 := ⟨by kernel_rfl, by kernel_rfl, by kernel_rfl, by kernel_rfl, by kernel_rfl, by kernel_rfl⟩
theorem ty23 : tSz C.P 23 = some 1 ∧ tBytes C.P 23 = some 24 ∧ tAgg C.P 23 = some false ∧ tZ C.P 23 = some [.z] ∧ tK C.P 23 = .slice 3 ∧ tElem C.P 23 = some 3 := ⟨by kernel_rfl, by kernel_rfl, by kernel_rfl, by kernel_rfl, by kernel_rfl, by kernel_rfl⟩
theorem ty24 : tSz C.P 24 = some 2 ∧ tBytes C.P 24 = some 48 ∧ tAgg C.P 24 = some true ∧ tZ C.P 24 = some [.z, .z] ∧ tK C.P 24 = .other ∧ tFld C.P 24 0 = some (0, 22) ∧ fldPlace C.P 24 0 = some (0, 1) ∧ tFld C.P 24 1 = some (1, 23) ∧ fldPlace C.P 24 1 = some (1, 1) ∧ bldOk C.P 24 = true := ⟨by kernel_rfl, by kernel_rfl, by kernel_rfl, by kernel_rfl, by kernel_rfl, by kernel_rfl, by kernel_rfl, by kernel_rfl, by kernel_rfl, by kernel_rfl⟩
theorem ty25 : tSz C.P 25 = some 2 ∧ tBytes C.P 25 = some 48 ∧ tAgg C.P 25 = some true ∧ tZ C.P 25 = some [.z, .z] ∧ tK C.P 25 = .other ∧ tFld C.P 25 0 = some (0, 22) ∧ fldPlace C.P 25 0 = some (0, 1) ∧ tFld C.P 25 1 = some (1, 23) ∧ fldPlace C.P 25 1 = some (1, 1) ∧ bldOk C.P 25 = true := ⟨by kernel_rfl, by kernel_rfl, by kernel_rfl, by kernel_rfl, by kernel_rfl, by kernel_rfl, by kernel_rfl, by kernel_rfl, by kernel_rfl, by kernel_rfl⟩
theorem ty26 : tSz C.P 26 = some 1 ∧ tBytes C.P 26 = some 8 ∧ tAgg C.P 26 = some false ∧ tZ C.P 26 = some [.s .nilFunc] ∧ tK C.P 26 = .func := ⟨by kernel_rfl, by kernel_rfl, by kernel_rfl, by kernel_rfl, by kernel_rfl⟩
theorem ty27 : tSz C.P 27 = some 3 ∧ tBytes C.P 27 = some 24 ∧ tAgg C.P 27 = some true ∧ tZ C.P 27 = some [.s (.int .i64 0), .s (.int .i64 0), .s (.int .i64 0)] ∧ tK C.P 27 = .other ∧ tFld C.P 27 0 = some (0, 3) ∧ fldPlace C.P 27 0 = some (0, 1) ∧ tFld C.P 27 1 = some (1, 3) ∧ fldPlace C.P 27 1 = some (1, 1) ∧ tFld C.P 27 2 = some (2, 3) ∧ fldPlace C.P 27 2 = some (2, 1) ∧ bldOk C.P 27 = true := ⟨by kernel_rfl, by kernel_rfl, by kernel_rfl, by kernel_rfl, by kernel_rfl, by kernel_rfl, by kernel_rfl, by kernel_rfl, by kernel_rfl, by kernel_rfl, by kernel_rfl, by kernel_rfl⟩
theorem ty28 : tSz C.P 28 = some 3 ∧ tBytes C.P 28 = some 24 ∧ tAgg C.P 28 = some true ∧ tZ C.P 28 = some [.s (.int .i64 0), .s (.int .i64 0), .s (.int .i64 0)] ∧ tK C.P 28 = .other ∧ tFld C.P 28 0 = some (0, 3) ∧ fldPlace C.P 28 0 = some (0, 1) ∧ tFld C.P 28 1 = some (1, 3) ∧ fldPlace C.P 28 1 = some (1, 1) ∧ tFld C.P 28 2 = some (2, 3) ∧ fldPlace C.P 28 2 = some (2, 1) ∧ bldOk C.P 28 = true := ⟨by kernel_rfl, by kernel_rfl, by kernel_rfl, by kernel_rfl, by kernel_rfl, by kernel_rfl, by kernel_rfl, by kernel_rfl, by kernel_rfl, by kernel_rfl, by kernel_rfl, by kernel_rfl⟩
theorem ty29 : tSz C.P 29 = some 1 ∧ tBytes C.P 29 = some 8 ∧ tAgg C.P 29 = some false ∧ tZ C.P 29 = some [.s .nilFunc] ∧ tK C.P 29 = .func := ⟨by kernel_rfl, by kernel_rfl, by kernel_rfl, by kernel_rfl, by kernel_rfl⟩
theorem ty30 : tSz C.P 30 = some 1 ∧ tBytes C.P 30 = some 24 ∧ tAgg C.P 30 = some false ∧ tZ C.P 30 = some [.z] ∧ tK C.P 30 = .slice 49 ∧ tElem C.P 30 = some 49 := ⟨by kernel_rfl, by kernel_rfl, by kernel_rfl, by kernel_rfl, by kernel_rfl, by kernel_rfl⟩
theorem ty31 : tSz C.P 31 = some 2 ∧ tBytes C.P 31 = some 48 ∧ tAgg C.P 31 = some true ∧ tZ C.P 31 = some [.z, .z] ∧ tK C.P 31 = .other ∧ tFld C.P 31 0 = some (0, 30) ∧ fldPlace C.P 31 0 = some (0, 1) ∧ tFld C.P 31 1 = some (1, 23) ∧ fldPlace C.P 31 1 = some (1, 1) ∧ bldOk C.P 31 = true := ⟨by kernel_rfl, by kernel_rfl, by kernel_rfl, by kernel_rfl, by kernel_rfl, by kernel_rfl, by kernel_rfl, by kernel_rfl, by kernel_rfl, by kernel_rfl⟩
theorem ty32 : tSz C.P 32 = some 2 ∧ tBytes C.P 32 = some 48 ∧ tAgg C.P 32 = some true ∧ tZ C.P 32 = some [.z, .z] ∧ tK C.P 32 = .other ∧ tFld C.P 32 0 = some (0, 30) ∧ fldPlace C.P 32 0 = some (0, 1) ∧ tFld C.P 32 1 = some (1, 23) ∧ fldPlace C.P 32 1 = some (1, 1) ∧ bldOk C.P 32 = true := ⟨by kernel_rfl, by kernel_rfl, by kernel_rfl, by kernel_rfl, by kernel_rfl, by kernel_rfl, by kernel_rfl, by kernel_rfl, by kernel_rfl, by kernel_rfl⟩
theorem ty33 : tSz C.P 33 = some 1 ∧ tBytes C.P 33 = some 8 ∧ tAgg C.P 33 = some false ∧ tZ C.P 33 = some [.s .nilFunc] ∧ tK C.P 33 = .func := ⟨by kernel_rfl, by kernel_rfl, by kernel_rfl, by kernel_rfl, by kernel_rfl⟩
theorem ty34 : tSz C.P 34 = some 1 ∧ tBytes C.P 34 = some 8 ∧ tAgg C.P 34 = some false ∧ tZ C.P 34 = some [.s .nilFunc] ∧ tK C.P 34 = .func := ⟨by kernel_rfl, by kernel_rfl, by kernel_rfl, by kernel_rfl, by kernel_rfl⟩
theorem ty35 : tSz C.P 35 = some 1 ∧ tBytes C.P 35 = some 8 ∧ tAgg C.P 35 = some false ∧ tZ C.P 35 = some [.s .nilFunc] ∧ tK C.P 35 = .func := ⟨by kernel_rfl, by kernel_rfl, by kernel_rfl, by kernel_rfl, by kernel_rfl⟩
theorem ty36 : tSz C.P 36 = some 1 ∧ tBytes C.P 36 = some 8 ∧ tAgg C.P 36 = some false ∧ tZ C.P 36 = some [.s .nilFunc] ∧ tK C.P 36 = .func := ⟨by kernel_rfl, by kernel_rfl, by kernel_rfl, by kernel_rfl, by kernel_rfl⟩
theorem ty37 : tSz C.P 37 = some 1 ∧ tBytes C.P 37 = some 24 ∧ tAgg C.P 37 = some false ∧ tZ C.P 37 = some [.z] ∧ tK C.P 37 = .slice 23 ∧ tElem C.P 37 = some 23 := ⟨by kernel_rfl, by kernel_rfl, by kernel_rfl, by kernel_rfl, by kernel_rfl, by kernel_rfl⟩
theorem ty39 : tSz C.P 39 = some 1 ∧ tBytes C.P 39 = some 8 ∧ tAgg C.P 39 = some false ∧ tZ C.P 39 = some [.s .nilFunc] ∧ tK C.P 39 = .func := ⟨by kernel_rfl, by kernel_rfl, by kernel_rfl, by kernel_rfl, by kernel_rfl⟩
theorem ty40 : tSz C.P 40 = some 1 ∧ tBytes C.P 40 = some 8 ∧ tAgg C.P 40 = some false ∧ tZ C.P 40 = some [.s .nilFunc] ∧ tK C.P 40 = .func := ⟨by kernel_rfl, by kernel_rfl, by kernel_rfl, by kernel_rfl, by kernel_rfl⟩
theorem ty41 : tSz C.P 41 = some 1 ∧ tBytes C.P 41 = some 8 ∧ tAgg C.P 41 = some false ∧ tZ C.P 41 = some [.s .nilFunc] ∧ tK C.P 41 = .func := ⟨by kernel_rfl, by kernel_rfl, by kernel_rfl, by kernel_rfl, by kernel_rfl⟩
theorem ty42 : tSz C.P 42 = some 1 ∧ tBytes C.P 42 = some 8 ∧ tAgg C.P 42 = some false ∧ tZ C.P 42 = some [.s .nilFunc] ∧ tK C.P 42 = .func := ⟨by kernel_rfl, by kernel_rfl, by kernel_rfl, by kernel_rfl, by kernel_rfl⟩
theorem ty43 : tSz C.P 43 = some 1 ∧ tBytes C.P 43 = some 8 ∧ tAgg C.P 43 = some false ∧ tZ C.P 43 = some [.s .nilFunc] ∧ tK C.P 43 = .func := ⟨by kernel_rfl, by kernel_rfl, by kernel_rfl, by kernel_rfl, by kernel_rfl⟩
theorem ty44 : tSz C.P 44 = some 1 ∧ tBytes C.P 44 = some 8 ∧ tAgg C.P 44 = some false ∧ tZ C.P 44 = some [.s .nilFunc] ∧ tK C.P 44 = .func := ⟨by kernel_rfl, by kernel_rfl, by kernel_rfl, by kernel_rfl, by kernel_rfl⟩
theorem ty45 : tSz C.P 45 = some 1 ∧ tBytes C.P 45 = some 8 ∧ tAgg C.P 45 = some false ∧ tZ C.P 45 = some [.s .nilFunc] ∧ tK C.P 45 = .func := ⟨by kernel_rfl, by kernel_rfl, by kernel_rfl, by kernel_rfl, by kernel_rfl⟩
theorem ty46 : tSz C.P 46 = some 1 ∧ tBytes C.P 46 = some 8 ∧ tAgg C.P 46 = some false ∧ tZ C.P 46 = some [.s .nilFunc] ∧ tK C.P 46 = .func := ⟨by kernel_rfl, by kernel_rfl, by kernel_rfl, by kernel_rfl, by kernel_rfl⟩
theorem ty47 : tSz C.P 47 = some 1 ∧ tBytes C.P 47 = some 24 ∧ tAgg C.P 47 = some false ∧ tZ C.P 47 = some [.z] ∧ tK C.P 47 = .slice 83 ∧ tElem C.P 47 = some 83 := ⟨by kernel_rfl, by kernel_rfl, by kernel_rfl, by kernel_rfl, by kernel_rfl, by kernel_rfl⟩
theorem ty48 : tSz C.P 48 = some 6 ∧ tBytes C.P 48 = some 96 ∧ tAgg C.P 48 = some true ∧ tZ C.P 48 = some [.s (.string ⟨#[]⟩), .s (.string ⟨#[]⟩), .z, .s (.int .i64 0), .s (.int .i64 0), .z] ∧ tK C.P 48 = .other ∧ tFld C.P 48 0 = some (0, 9) ∧ fldPlace C.P 48 0 = some (0, 1) ∧ tFld C.P 48 1 = some (1, 9) ∧ fldPlace C.P 48 1 = some (1, 1) ∧ tFld C.P 48 2 = some (2, 23) ∧ fldPlace C.P 48 2 = some (2, 1) ∧ tFld C.P 48 3 = some (3, 3) ∧ fldPlace C.P 48 3 = some (3, 1) ∧ tFld C.P 48 4 = some (4, 3) ∧ fldPlace C.P 48 4 = some (4, 1) ∧ tFld C.P 48 5 = some (5, 47) ∧ fldPlace C.P 48 5 = some (5, 1) ∧ bldOk C.P 48 = true := ⟨by kernel_rfl, by kernel_rfl, by kernel_rfl, by kernel_rfl, by kernel_rfl, by kernel_rfl, by kernel_rfl, by kernel_rfl, by kernel_rfl, by kernel_rfl, by kernel_rfl, by kernel_rfl, by kernel_rfl, by kernel_rfl, by kernel_rfl, by kernel_rfl, by kernel_rfl, by kernel_rfl⟩
theorem ty49 : tSz C.P 49 = some 6 ∧ tBytes C.P 49 = some 96 ∧ tAgg C.P 49 = some true ∧ tZ C.P 49 = some [.s (.string ⟨#[]⟩), .s (.string ⟨#[]⟩), .z, .s (.int .i64 0), .s (.int .i64 0), .z] ∧ tK C.P 49 = .other ∧ tFld C.P 49 0 = some (0, 9) ∧ fldPlace C.P 49 0 = some (0, 1) ∧ tFld C.P 49 1 = some (1, 9) ∧ fldPlace C.P 49 1 = some (1, 1) ∧ tFld C.P 49 2 = some (2, 23) ∧ fldPlace C.P 49 2 = some (2, 1) ∧ tFld C.P 49 3 = some (3, 3) ∧ fldPlace C.P 49 3 = some (3, 1) ∧ tFld C.P 49 4 = some (4, 3) ∧ fldPlace C.P 49 4 = some (4, 1) ∧ tFld C.P 49 5 = some (5, 47) ∧ fldPlace C.P 49 5 = some (5, 1) ∧ bldOk C.P 49 = true := ⟨by kernel_rfl, by kernel_rfl, by kernel_rfl, by kernel_rfl, by kernel_rfl, by kernel_rfl, by kernel_rfl, by kernel_rfl, by kernel_rfl, by kernel_rfl, by kernel_rfl, by kernel_rfl, by kernel_rfl, by kernel_rfl, by kernel_rfl, by kernel_rfl, by kernel_rfl, by kernel_rfl⟩
theorem ty50 : tSz C.P 50 = some 1 ∧ tBytes C.P 50 = some 8 ∧ tAgg C.P 50 = some false ∧ tZ C.P 50 = some [.s (.pointer none)] ∧ tK C.P 50 = .ptr := ⟨by kernel_rfl, by kernel_rfl, by kernel_rfl, by kernel_rfl, by kernel_rfl⟩
theorem ty52 : tSz C.P 52 = some 1 ∧ tBytes C.P 52 = some 8 ∧ tAgg C.P 52 = some false ∧ tZ C.P 52 = some [.s .nilFunc] ∧ tK C.P 52 = .func := ⟨by kernel_rfl, by kernel_rfl, by kernel_rfl, by kernel_rfl, by kernel_rfl⟩
theorem ty53 : tSz C.P 53 = some 1 ∧ tBytes C.P 53 = some 24 ∧ tAgg C.P 53 = some false ∧ tZ C.P 53 = some [.z] ∧ tK C.P 53 = .slice 64 ∧ tElem C.P 53 = some 64 := ⟨by kernel_rfl, by kernel_rfl, by kernel_rfl, by kernel_rfl, by kernel_rfl, by kernel_rfl⟩
theorem ty54 : tSz C.P 54 = some 10 ∧ tBytes C.P 54 = some 176 ∧ tAgg C.P 54 = some true ∧ tZ C.P 54 = some [.z, .z, .s (.string ⟨#[]⟩), .s (.string ⟨#[]⟩), .z, .s (.int .i64 0), .s (.int .i64 0), .z, .z, .s (.int .i64 0)] ∧ tK C.P 54 = .other ∧ tFld C.P 54 0 = some (0, 32) ∧ fldPlace C.P 54 0 = some (0, 2) ∧ tFld C.P 54 1 = some (2, 49) ∧ fldPlace C.P 54 1 = some (2, 6) ∧ tFld C.P 54 2 = some (8, 53) ∧ fldPlace C.P 54 2 = some (8, 1) ∧ tFld C.P 54 3 = some (9, 3) ∧ fldPlace C.P 54 3 = some (9, 1) ∧ bldOk C.P 54 = true := ⟨by kernel_rfl, by kernel_rfl, by kernel_rfl, by kernel_rfl, by kernel_rfl, by kernel_rfl, by kernel_rfl, by kernel_rfl, by kernel_rfl, by kernel_rfl, by kernel_rfl, by kernel_rfl, by kernel_rfl, by kernel_rfl⟩
theorem ty55 : tSz C.P 55 = some 10 ∧ tBytes C.P 55 = some 176 ∧ tAgg C.P 55 = some true ∧ tZ C.P 55 = some [.z, .z, .s (.string ⟨#[]⟩), .s (.string ⟨#[]⟩), .z, .s (.int .i64 0), .s (.int .i64 0), .z, .z, .s (.int .i64 0)] ∧ tK C.P 55 = .other ∧ tFld C.P 55 0 = some (0, 32) ∧ fldPlace C.P 55 0 = some (0, 2) ∧ tFld C.P 55 1 = some (2, 49) ∧ fldPlace C.P 55 1 = some (2, 6) ∧ tFld C.P 55 2 = some (8, 53) ∧ fldPlace C.P 55 2 = some (8, 1) ∧ tFld C.P 55 3 = some (9, 3) ∧ fldPlace C.P 55 3 = some (9, 1) ∧ bldOk C.P 55 = true := ⟨by kernel_rfl, by kernel_rfl, by kernel_rfl, by kernel_rfl, by kernel_rfl, by kernel_rfl, by kernel_rfl, by kernel_rfl, by kernel_rfl, by kernel_rfl, by kernel_rfl, by kernel_rfl, by kernel_rfl, by kernel_rfl⟩
theorem ty56 : tSz C.P 56 = some 1 ∧ tBytes C.P 56 = some 8 ∧ tAgg C.P 56 = some false ∧ tZ C.P 56 = some [.s .nilFunc] ∧ tK C.P 56 = .func := ⟨by kernel_rfl, by kernel_rfl, by kernel_rfl, by kernel_rfl, by kernel_rfl⟩
theorem ty57 : tSz C.P 57 = some 1 ∧ tBytes C.P 57 = some 8 ∧ tAgg C.P 57 = some false ∧ tZ C.P 57 = some [.s .nilFunc] ∧ tK C.P 57 = .func := ⟨by kernel_rfl, by kernel_rfl, by kernel_rfl, by kernel_rfl, by kernel_rfl⟩
theorem ty58 : tSz C.P 58 = some 1 ∧ tBytes C.P 58 = some 24 ∧ tAgg C.P 58 = some false ∧ tZ C.P 58 = some [.z] ∧ tK C.P 58 = .slice 66 ∧ tElem C.P 58 = some 66 := ⟨by kernel_rfl, by kernel_rfl, by kernel_rfl, by kernel_rfl, by kernel_rfl, by kernel_rfl⟩
theorem ty60 : tSz C.P 60 = some 1 ∧ tBytes C.P 60 = some 8 ∧ tAgg C.P 60 = some false ∧ tZ C.P 60 = some [.s .nilFunc] ∧ tK C.P 60 = .func := ⟨by kernel_rfl, by kernel_rfl, by kernel_rfl, by kernel_rfl, by kernel_rfl⟩
theorem ty61 : tSz C.P 61 = some 1 ∧ tBytes C.P 61 = some 8 ∧ tAgg C.P 61 = some false ∧ tZ C.P 61 = some [.s .nilFunc] ∧ tK C.P 61 = .func := ⟨by kernel_rfl, by kernel_rfl, by kernel_rfl, by kernel_rfl, by kernel_rfl⟩
theorem ty62 : tSz C.P 62 = some 1 ∧ tBytes C.P 62 = some 8 ∧ tAgg C.P 62 = some false ∧ tZ C.P 62 = some [.s .nilFunc] ∧ tK C.P 62 = .func := ⟨by kernel_rfl, by kernel_rfl, by kernel_rfl, by kernel_rfl, by kernel_rfl⟩
theorem ty63 : tSz C.P 63 = some 3 ∧ tBytes C.P 63 = some 56 ∧ tAgg C.P 63 = some true ∧ tZ C.P 63 = some [.s (.bool false), .z, .z] ∧ tK C.P 63 = .other ∧ tFld C.P 63 0 = some (0, 4) ∧ fldPlace C.P 63 0 = some (0, 1) ∧ tFld C.P 63 1 = some (1, 23) ∧ fldPlace C.P 63 1 = some (1, 1) ∧ tFld C.P 63 2 = some (2, 23) ∧ fldPlace C.P 63 2 = some (2, 1) ∧ bldOk C.P 63 = true := ⟨by kernel_rfl, by kernel_rfl, by kernel_rfl, by kernel_rfl, by kernel_rfl, by kernel_rfl, by kernel_rfl, by kernel_rfl, by kernel_rfl, by kernel_rfl, by kernel_rfl, by kernel_rfl⟩
theorem ty64 : tSz C.P 64 = some 3 ∧ tBytes C.P 64 = some 56 ∧ tAgg C.P 64 = some true ∧ tZ C.P 64 = some [.s (.bool false), .z, .z] ∧ tK C.P 64 = .other ∧ tFld C.P 64 0 = some (0, 4) ∧ fldPlace C.P 64 0 = some (0, 1) ∧ tFld C.P 64 1 = some (1, 23) ∧ fldPlace C.P 64 1 = some (1, 1) ∧ tFld C.P 64 2 = some (2, 23) ∧ fldPlace C.P 64 2 = some (2, 1) ∧ bldOk C.P 64 = true := ⟨by kernel_rfl, by kernel_rfl, by kernel_rfl, by kernel_rfl, by kernel_rfl, by kernel_rfl, by kernel_rfl, by kernel_rfl, by kernel_rfl, by kernel_rfl, by kernel_rfl, by kernel_rfl⟩
theorem ty65 : tSz C.P 65 = some 1 ∧ tBytes C.P 65 = some 8 ∧ tAgg C.P 65 = some false ∧ tZ C.P 65 = some [.s .nilFunc] ∧ tK C.P 65 = .func := ⟨by kernel_rfl, by kernel_rfl, by kernel_rfl, by kernel_rfl, by kernel_rfl⟩
theorem ty66 : tSz C.P 66 = some 1 ∧ tBytes C.P 66 = some 8 ∧ tAgg C.P 66 = some false ∧ tZ C.P 66 = some [.s (.pointer none)] ∧ tK C.P 66 = .ptr := ⟨by kernel_rfl, by kernel_rfl, by kernel_rfl, by kernel_rfl, by kernel_rfl⟩
theorem ty67 : tSz C.P 67 = some 2 ∧ tBytes C.P 67 = some 48 ∧ tAgg C.P 67 = some true ∧ tZ C.P 67 = some [.z, .z] ∧ tK C.P 67 = .other ∧ tFld C.P 67 0 = some (0, 23) ∧ fldPlace C.P 67 0 = some (0, 1) ∧ tFld C.P 67 1 = some (1, 23) ∧ fldPlace C.P 67 1 = some (1, 1) ∧ bldOk C.P 67 = true := ⟨by kernel_rfl, by kernel_rfl, by kernel_rfl, by kernel_rfl, by kernel_rfl, by kernel_rfl, by kernel_rfl, by kernel_rfl, by kernel_rfl, by kernel_rfl⟩
theorem ty68 : tSz C.P 68 = some 2 ∧ tBytes C.P 68 = some 48 ∧ tAgg C.P 68 = some true ∧ tZ C.P 68 = some [.z, .z] ∧ tK C.P 68 = .other ∧ tFld C.P 68 0 = some (0, 23) ∧ fldPlace C.P 68 0 = some (0, 1) ∧ tFld C.P 68 1 = some (1, 23) ∧ fldPlace C.P 68 1 = some (1, 1) ∧ bldOk C.P 68 = true := ⟨by kernel_rfl, by kernel_rfl, by kernel_rfl, by kernel_rfl, by kernel_rfl, by kernel_rfl, by kernel_rfl, by kernel_rfl, by kernel_rfl, by kernel_rfl⟩
theorem ty69 : tSz C.P 69 = some 1 ∧ tBytes C.P 69 = some 8 ∧ tAgg C.P 69 = some false ∧ tZ C.P 69 = some [.s .nilFunc] ∧ tK C.P 69 = .func := ⟨by kernel_rfl, by kernel_rfl, by kernel_rfl, by kernel_rfl, by kernel_rfl⟩
theorem ty70 : tSz C.P 70 = some 1 ∧ tBytes C.P 70 = some 8 ∧ tAgg C.P 70 = some false ∧ tZ C.P 70 = some [.s .nilFunc] ∧ tK C.P 70 = .func := ⟨by kernel_rfl, by kernel_rfl, by kernel_rfl, by kernel_rfl, by kernel_rfl⟩
theorem ty71 : tSz C.P 71 = some 1 ∧ tBytes C.P 71 = some 24 ∧ tAgg C.P 71 = some false ∧ tZ C.P 71 = some [.z] ∧ tK C.P 71 = .slice 118 ∧ tElem C.P 71 = some 118 := ⟨by kernel_rfl, by kernel_rfl, by kernel_rfl, by kernel_rfl, by kernel_rfl, by kernel_rfl⟩
theorem ty72 : tSz C.P 72 = some 6 ∧ tBytes C.P 72 = some 96 ∧ tAgg C.P 72 = some true ∧ tZ C.P 72 = some [.s (.string ⟨#[]⟩), .s (.string ⟨#[]⟩), .z, .s (.int .i64 0), .s (.int .i64 0), .z] ∧ tK C.P 72 = .other ∧ tFld C.P 72 0 = some (0, 9) ∧ fldPlace C.P 72 0 = some (0, 1) ∧ tFld C.P 72 1 = some (1, 9) ∧ fldPlace C.P 72 1 = some (1, 1) ∧ tFld C.P 72 2 = some (2, 23) ∧ fldPlace C.P 72 2 = some (2, 1) ∧ tFld C.P 72 3 = some (3, 3) ∧ fldPlace C.P 72 3 = some (3, 1) ∧ tFld C.P 72 4 = some (4, 3) ∧ fldPlace C.P 72 4 = some (4, 1) ∧ tFld C.P 72 5 = some (5, 71) ∧ fldPlace C.P 72 5 = some (5, 1) ∧ bldOk C.P 72 = true := ⟨by kernel_rfl, by kernel_rfl, by kernel_rfl, by kernel_rfl, by kernel_rfl, by kernel_rfl, by kernel_rfl, by kernel_rfl, by kernel_rfl, by kernel_rfl, by kernel_rfl, by kernel_rfl, by kernel_rfl, by kernel_rfl, by kernel_rfl, by kernel_rfl, by kernel_rfl, by kernel_rfl⟩
theorem ty73 : tSz C.P 73 = some 6 ∧ tBytes C.P 73 = some 96 ∧ tAgg C.P 73 = some true ∧ tZ C.P 73 = some [.s (.string ⟨#[]⟩), .s (.string ⟨#[]⟩), .z, .s (.int .i64 0), .s (.int .i64 0), .z] ∧ tK C.P 73 = .other ∧ tFld C.P 73 0 = some (0, 9) ∧ fldPlace C.P 73 0 = some (0, 1) ∧ tFld C.P 73 1 = some (1, 9) ∧ fldPlace C.P 73 1 = some (1, 1) ∧ tFld C.P 73 2 = some (2, 23) ∧ fldPlace C.P 73 2 = some (2, 1) ∧ tFld C.P 73 3 = some (3, 3) ∧ fldPlace C.P 73 3 = some (3, 1) ∧ tFld C.P 73 4 = some (4, 3) ∧ fldPlace C.P 73 4 = some (4, 1) ∧ tFld C.P 73 5 = some (5, 71) ∧ fldPlace C.P 73 5 = some (5, 1) ∧ bldOk C.P 73 = true := ⟨by kernel_rfl, by kernel_rfl, by kernel_rfl, by kernel_rfl, by kernel_rfl, by kernel_rfl, by kernel_rfl, by kernel_rfl, by kernel_rfl, by kernel_rfl, by kernel_rfl, by kernel_rfl, by kernel_rfl, by kernel_rfl, by kernel_rfl, by kernel_rfl, by kernel_rfl, by kernel_rfl⟩
theorem ty74 : tSz C.P 74 = some 1 ∧ tBytes C.P 74 = some 8 ∧ tAgg C.P 74 = some false ∧ tZ C.P 74 = some [.s .nilFunc] ∧ tK C.P 74 = .func := ⟨by kernel_rfl, by kernel_rfl, by kernel_rfl, by kernel_rfl, by kernel_rfl⟩
theorem ty75 : tSz C.P 75 = some 1 ∧ tBytes C.P 75 = some 8 ∧ tAgg C.P 75 = some false ∧ tZ C.P 75 = some [.s .nilFunc] ∧ tK C.P 75 = .func := ⟨by kernel_rfl, by kernel_rfl, by kernel_rfl, by kernel_rfl, by kernel_rfl⟩
theorem ty76 : tSz C.P 76 = some 6 ∧ tBytes C.P 76 = some 88 ∧ tAgg C.P 76 = some true ∧ tZ C.P 76 = some [.s (.string ⟨#[]⟩), .s (.bool false), .z, .s (.int .i64 0), .s (.int .i64 0), .z] ∧ tK C.P 76 = .other ∧ tFld C.P 76 0 = some (0, 9) ∧ fldPlace C.P 76 0 = some (0, 1) ∧ tFld C.P 76 1 = some (1, 4) ∧ fldPlace C.P 76 1 = some (1, 1) ∧ tFld C.P 76 2 = some (2, 23) ∧ fldPlace C.P 76 2 = some (2, 1) ∧ tFld C.P 76 3 = some (3, 3) ∧ fldPlace C.P 76 3 = some (3, 1) ∧ tFld C.P 76 4 = some (4, 3) ∧ fldPlace C.P 76 4 = some (4, 1) ∧ tFld C.P 76 5 = some (5, 47) ∧ fldPlace C.P 76 5 = some (5, 1) ∧ bldOk C.P 76 = true := ⟨by kernel_rfl, by kernel_rfl, by kernel_rfl, by kernel_rfl, by kernel_rfl, by kernel_rfl, by kernel_rfl, by kernel_rfl, by kernel_rfl, by kernel_rfl, by kernel_rfl, by kernel_rfl, by kernel_rfl, by kernel_rfl, by kernel_rfl, by kernel_rfl, by kernel_rfl, by kernel_rfl⟩
theorem ty77 : tSz C.P 77 = some 6 ∧ tBytes C.P 77 = some 88 ∧ tAgg C.P 77 = some true ∧ tZ C.P 77 = some [.s (.string ⟨#[]⟩), .s (.bool false), .z, .s (.int .i64 0), .s (.int .i64 0), .z] ∧ tK C.P 77 = .other ∧ tFld C.P 77 0 = some (0, 9) ∧ fldPlace C.P 77 0 = some (0, 1) ∧ tFld C.P 77 1 = some (1, 4) ∧ fldPlace C.P 77 1 = some (1, 1) ∧ tFld C.P 77 2 = some (2, 23) ∧ fldPlace C.P 77 2 = some (2, 1) ∧ tFld C.P 77 3 = some (3, 3) ∧ fldPlace C.P 77 3 = some (3, 1) ∧ tFld C.P 77 4 = some (4, 3) ∧ fldPlace C.P 77 4 = some (4, 1) ∧ tFld C.P 77 5 = some (5, 47) ∧ fldPlace C.P 77 5 = some (5, 1) ∧ bldOk C.P 77 = true := ⟨by kernel_rfl, by kernel_rfl, by kernel_rfl, by kernel_rfl, by kernel_rfl, by kernel_rfl, by kernel_rfl, by kernel_rfl, by kernel_rfl, by kernel_rfl, by kernel_rfl, by kernel_rfl, by kernel_rfl, by kernel_rfl, by kernel_rfl, by kernel_rfl, by kernel_rfl, by kernel_rfl⟩
theorem ty78 : tSz C.P 78 = some 1 ∧ tBytes C.P 78 = some 8 ∧ tAgg C.P 78 = some false ∧ tZ C.P 78 = some [.s .nilFunc] ∧ tK C.P 78 = .func := ⟨by kernel_rfl, by kernel_rfl, by kernel_rfl, by kernel_rfl, by kernel_rfl⟩
theorem ty79 : tSz C.P 79 = some 1 ∧ tBytes C.P 79 = some 8 ∧ tAgg C.P 79 = some false ∧ tZ C.P 79 = some [.s .nilFunc] ∧ tK C.P 79 = .func := ⟨by kernel_rfl, by kernel_rfl, by kernel_rfl, by kernel_rfl, by kernel_rfl⟩
theorem ty80 : tSz C.P 80 = some 1 ∧ tBytes C.P 80 = some 8 ∧ tAgg C.P 80 = some false ∧ tZ C.P 80 = some [.s .nilFunc] ∧ tK C.P 80 = .func := ⟨by kernel_rfl, by kernel_rfl, by kernel_rfl, by kernel_rfl, by kernel_rfl⟩
theorem ty81 : tSz C.P 81 = some 1 ∧ tBytes C.P 81 = some 8 ∧ tAgg C.P 81 = some false ∧ tZ C.P 81 = some [.s .nilFunc] ∧ tK C.P 81 = .func := ⟨by kernel_rfl, by kernel_rfl, by kernel_rfl, by kernel_rfl, by kernel_rfl⟩
theorem ty82 : tSz C.P 82 = some 2 ∧ tBytes C.P 82 = some 16 ∧ tAgg C.P 82 = some true ∧ tZ C.P 82 = some [.s (.int .i64 0), .s (.int .i64 0)] ∧ tK C.P 82 = .other ∧ tFld C.P 82 0 = some (0, 3) ∧ fldPlace C.P 82 0 = some (0, 1) ∧ tFld C.P 82 1 = some (1, 3) ∧ fldPlace C.P 82 1 = some (1, 1) ∧ bldOk C.P 82 = true := ⟨by kernel_rfl, by kernel_rfl, by kernel_rfl, by kernel_rfl, by kernel_rfl, by kernel_rfl, by kernel_rfl, by kernel_rfl, by kernel_rfl, by kernel_rfl⟩
theorem ty83 : tSz C.P 83 = some 2 ∧ tBytes C.P 83 = some 16 ∧ tAgg C.P 83 = some true ∧ tZ C.P 83 = some [.s (.int .i64 0), .s (.int .i64 0)] ∧ tK C.P 83 = .other ∧ tFld C.P 83 0 = some (0, 3) ∧ fldPlace C.P 83 0 = some (0, 1) ∧ tFld C.P 83 1 = some (1, 3) ∧ fldPlace C.P 83 1 = some (1, 1) ∧ bldOk C.P 83 = true := ⟨by kernel_rfl, by kernel_rfl, by kernel_rfl, by kernel_rfl, by kernel_rfl, by kernel_rfl, by kernel_rfl, by kernel_rfl, by kernel_rfl, by kernel_rfl⟩
theorem ty84 : tSz C.P 84 = some 1 ∧ tBytes C.P 84 = some 8 ∧ tAgg C.P 84 = some false ∧ tZ C.P 84 = some [.s .nilFunc] ∧ tK C.P 84 = .func := ⟨by kernel_rfl, by kernel_rfl, by kernel_rfl, by kernel_rfl, by kernel_rfl⟩
theorem ty85 : tSz C.P 85 = some 1 ∧ tBytes C.P 85 = some 8 ∧ tAgg C.P 85 = some false ∧ tZ C.P 85 = some [.s .nilFunc] ∧ tK C.P 85 = .func := ⟨by kernel_rfl, by kernel_rfl, by kernel_rfl, by kernel_rfl, by kernel_rfl⟩
theorem ty86 : tSz C.P 86 = some 1 ∧ tBytes C.P 86 = some 8 ∧ tAgg C.P 86 = some false ∧ tZ C.P 86 = some [.s .nilFunc] ∧ tK C.P 86 = .func := ⟨by kernel_rfl, by kernel_rfl, by kernel_rfl, by kernel_rfl, by kernel_rfl⟩
theorem ty87 : tSz C.P 87 = some 1 ∧ tBytes C.P 87 = some 8 ∧ tAgg C.P 87 = some false ∧ tZ C.P 87 = some [.s (.pointer none)] ∧ tK C.P 87 = .ptr := ⟨by kernel_rfl, by kernel_rfl, by kernel_rfl, by kernel_rfl, by kernel_rfl⟩
theorem ty88 : tSz C.P 88 = some 5 ∧ tBytes C.P 88 = some 88 ∧ tAgg C.P 88 = some true ∧ tZ C.P 88 = some [.z, .z, .s (.int .i64 0), .s (.int .i64 0), .z] ∧ tK C.P 88 = .other ∧ tFld C.P 88 0 = some (0, 32) ∧ fldPlace C.P 88 0 = some (0, 2) ∧ tFld C.P 88 1 = some (2, 3) ∧ fldPlace C.P 88 1 = some (2, 1) ∧ tFld C.P 88 2 = some (3, 3) ∧ fldPlace C.P 88 2 = some (3, 1) ∧ tFld C.P 88 3 = some (4, 58) ∧ fldPlace C.P 88 3 = some (4, 1) ∧ bldOk C.P 88 = true := ⟨by kernel_rfl, by kernel_rfl, by kernel_rfl, by kernel_rfl, by kernel_rfl, by kernel_rfl, by kernel_rfl, by kernel_rfl, by kernel_rfl, by kernel_rfl, by kernel_rfl, by kernel_rfl, by kernel_rfl, by kernel_rfl⟩
theorem ty89 : tSz C.P 89 = some 5 ∧ tBytes C.P 89 = some 88 ∧ tAgg C.P 89 = some true ∧ tZ C.P 89 = some [.z, .z, .s (.int .i64 0), .s (.int .i64 0), .z] ∧ tK C.P 89 = .other ∧ tFld C.P 89 0 = some (0, 32) ∧ fldPlace C.P 89 0 = some (0, 2) ∧ tFld C.P 89 1 = some (2, 3) ∧ fldPlace C.P 89 1 = some (2, 1) ∧ tFld C.P 89 2 = some (3, 3) ∧ fldPlace C.P 89 2 = some (3, 1) ∧ tFld C.P 89 3 = some (4, 58) ∧ fldPlace C.P 89 3 = some (4, 1) ∧ bldOk C.P 89 = true := ⟨by kernel_rfl, by kernel_rfl, by kernel_rfl, by kernel_rfl, by kernel_rfl, by kernel_rfl, by kernel_rfl, by kernel_rfl, by kernel_rfl, by kernel_rfl, by kernel_rfl, by kernel_rfl, by kernel_rfl, by kernel_rfl⟩
theorem ty91 : tSz C.P 91 = some 1 ∧ tBytes C.P 91 = some 8 ∧ tAgg C.P 91 = some false ∧ tZ C.P 91 = some [.s .nilFunc] ∧ tK C.P 91 = .func := ⟨by kernel_rfl, by kernel_rfl, by kernel_rfl, by kernel_rfl, by kernel_rfl⟩
theorem ty92 : tSz C.P 92 = some 1 ∧ tBytes C.P 92 = some 8 ∧ tAgg C.P 92 = some false ∧ tZ C.P 92 = some [.s .nilFunc] ∧ tK C.P 92 = .func := ⟨by kernel_rfl, by kernel_rfl, by kernel_rfl, by kernel_rfl, by kernel_rfl⟩
theorem ty93 : tSz C.P 93 = some 1 ∧ tBytes C.P 93 = some 8 ∧ tAgg C.P 93 = some false ∧ tZ C.P 93 = some [.s .nilFunc] ∧ tK C.P 93 = .func := ⟨by kernel_rfl, by kernel_rfl, by kernel_rfl, by kernel_rfl, by kernel_rfl⟩
theorem ty94 : tSz C.P 94 = some 1 ∧ tBytes C.P 94 = some 8 ∧ tAgg C.P 94 = some false ∧ tZ C.P 94 = some [.s .nilFunc] ∧ tK C.P 94 = .func := ⟨by kernel_rfl, by kernel_rfl, by kernel_rfl, by kernel_rfl, by kernel_rfl⟩
theorem ty95 : tSz C.P 95 = some 1 ∧ tBytes C.P 95 = some 8 ∧ tAgg C.P 95 = some false ∧ tZ C.P 95 = some [.s .nilFunc] ∧ tK C.P 95 = .func := ⟨by kernel_rfl, by kernel_rfl, by kernel_rfl, by kernel_rfl, by kernel_rfl⟩
theorem ty96 : tSz C.P 96 = some 1 ∧ tBytes C.P 96 = some 8 ∧ tAgg C.P 96 = some false ∧ tZ C.P 96 = some [.s .nilFunc] ∧ tK C.P 96 = .func := ⟨by kernel_rfl, by kernel_rfl, by kernel_rfl, by kernel_rfl, by kernel_rfl⟩
theorem ty97 : tSz C.P 97 = some 1 ∧ tBytes C.P 97 = some 8 ∧ tAgg C.P 97 = some false ∧ tZ C.P 97 = some [.s .nilFunc] ∧ tK C.P 97 = .func := ⟨by kernel_rfl, by kernel_rfl, by kernel_rfl, by kernel_rfl, by kernel_rfl⟩
theorem ty98 : tSz C.P 98 = some 1 ∧ tBytes C.P 98 = some 8 ∧ tAgg C.P 98 = some false ∧ tZ C.P 98 = some [.s .nilFunc] ∧ tK C.P 98 = .func := ⟨by kernel_rfl, by kernel_rfl, by kernel_rfl, by kernel_rfl, by kernel_rfl⟩
theorem ty99 : tSz C.P 99 = some 1 ∧ tBytes C.P 99 = some 8 ∧ tAgg C.P 99 = some false ∧ tZ C.P 99 = some [.s .nilFunc] ∧ tK C.P 99 = .func := ⟨by kernel_rfl, by kernel_rfl, by kernel_rfl, by kernel_rfl, by kernel_rfl⟩
theorem ty100 : tSz C.P 100 = some 1 ∧ tBytes C.P 100 = some 8 ∧ tAgg C.P 100 = some false ∧ tZ C.P 100 = some [.s .nilFunc] ∧ tK C.P 100 = .func := ⟨by kernel_rfl, by kernel_rfl, by kernel_rfl, by kernel_rfl, by kernel_rfl⟩
theorem ty101 : tSz C.P 101 = some 1 ∧ tBytes C.P 101 = some 8 ∧ tAgg C.P 101 = some false ∧ tZ C.P 101 = some [.s .nilFunc] ∧ tK C.P 101 = .func := ⟨by kernel_rfl, by kernel_rfl, by kernel_rfl, by kernel_rfl, by kernel_rfl⟩
theorem ty102 : tSz C.P 102 = some 1 ∧ tBytes C.P 102 = some 8 ∧ tAgg C.P 102 = some false ∧ tZ C.P 102 = some [.s .nilFunc] ∧ tK C.P 102 = .func := ⟨by kernel_rfl, by kernel_rfl, by kernel_rfl, by kernel_rfl, by kernel_rfl⟩
theorem ty103 : tSz C.P 103 = some 1 ∧ tBytes C.P 103 = some 8 ∧ tAgg C.P 103 = some false ∧ tZ C.P 103 = some [.s .nilFunc] ∧ tK C.P 103 = .func := ⟨by kernel_rfl, by kernel_rfl, by kernel_rfl, by kernel_rfl, by kernel_rfl⟩
theorem ty104 : tSz C.P 104 = some 1 ∧ tBytes C.P 104 = some 8 ∧ tAgg C.P 104 = some false ∧ tZ C.P 104 = some [.s .nilFunc] ∧ tK C.P 104 = .func := ⟨by kernel_rfl, by kernel_rfl, by kernel_rfl, by kernel_rfl, by kernel_rfl⟩
theorem ty105 : tSz C.P 105 = some 1 ∧ tBytes C.P 105 = some 8 ∧ tAgg C.P 105 = some false ∧ tZ C.P 105 = some [.s .nilFunc] ∧ tK C.P 105 = .func := ⟨by kernel_rfl, by kernel_rfl, by kernel_rfl, by kernel_rfl, by kernel_rfl⟩
theorem ty106 : tSz C.P 106 = some 1 ∧ tBytes C.P 106 = some 8 ∧ tAgg C.P 106 = some false ∧ tZ C.P 106 = some [.s .nilFunc] ∧ tK C.P 106 = .func := ⟨by kernel_rfl, by kernel_rfl, by kernel_rfl, by kernel_rfl, by kernel_rfl⟩
theorem ty107 : tSz C.P 107 = some 1 ∧ tBytes C.P 107 = some 8 ∧ tAgg C.P 107 = some false ∧ tZ C.P 107 = some [.s .nilFunc] ∧ tK C.P 107 = .func := ⟨by kernel_rfl, by kernel_rfl, by kernel_rfl, by kernel_rfl, by kernel_rfl⟩
theorem ty108 : tSz C.P 108 = some 1 ∧ tBytes C.P 108 = some 8 ∧ tAgg C.P 108 = some false ∧ tZ C.P 108 = some [.s .nilFunc] ∧ tK C.P 108 = .func := ⟨by kernel_rfl, by kernel_rfl, by kernel_rfl, by kernel_rfl, by kernel_rfl⟩
theorem ty109 : tSz C.P 109 = some 1 ∧ tBytes C.P 109 = some 8 ∧ tAgg C.P 109 = some false ∧ tZ C.P 109 = some [.s .nilFunc] ∧ tK C.P 109 = .func := ⟨by kernel_rfl, by kernel_rfl, by kernel_rfl, by kernel_rfl, by kernel_rfl⟩
theorem ty110 : tSz C.P 110 = some 1 ∧ tBytes C.P 110 = some 24 ∧ tAgg C.P 110 = some false ∧ tZ C.P 110 = some [.z] ∧ tK C.P 110 = .slice 5 ∧ tElem C.P 110 = some 5 := ⟨by kernel_rfl, by kernel_rfl, by kernel_rfl, by kernel_rfl, by kernel_rfl, by kernel_rfl⟩
theorem ty111 : tSz C.P 111 = some 1 ∧ tBytes C.P 111 = some 24 ∧ tAgg C.P 111 = some false ∧ tZ C.P 111 = some [.z] ∧ tK C.P 111 = .slice 9 ∧ tElem C.P 111 = some 9 := ⟨by kernel_rfl, by kernel_rfl, by kernel_rfl, by kernel_rfl, by kernel_rfl, by kernel_rfl⟩
theorem ty113 : tSz C.P 113 = some 1 ∧ tBytes C.P 113 = some 8 ∧ tAgg C.P 113 = some false ∧ tZ C.P 113 = some [.s .nilFunc] ∧ tK C.P 113 = .func := ⟨by kernel_rfl, by kernel_rfl, by kernel_rfl, by kernel_rfl, by kernel_rfl⟩
theorem ty114 : tSz C.P 114 = some 1 ∧ tBytes C.P 114 = some 8 ∧ tAgg C.P 114 = some false ∧ tZ C.P 114 = some [.s .nilFunc] ∧ tK C.P 114 = .func := ⟨by kernel_rfl, by kernel_rfl, by kernel_rfl, by kernel_rfl, by kernel_rfl⟩
theorem ty115 : tSz C.P 115 = some 1 ∧ tBytes C.P 115 = some 8 ∧ tAgg C.P 115 = some false ∧ tZ C.P 115 = some [.s .nilFunc] ∧ tK C.P 115 = .func := ⟨by kernel_rfl, by kernel_rfl, by kernel_rfl, by kernel_rfl, by kernel_rfl⟩
theorem ty116 : tSz C.P 116 = some 1 ∧ tBytes C.P 116 = some 8 ∧ tAgg C.P 116 = some false ∧ tZ C.P 116 = some [.s .nilFunc] ∧ tK C.P 116 = .func := ⟨by kernel_rfl, by kernel_rfl, by kernel_rfl, by kernel_rfl, by kernel_rfl⟩
theorem ty117 : tSz C.P 117 = some 1 ∧ tBytes C.P 117 = some 8 ∧ tAgg C.P 117 = some false ∧ tZ C.P 117 = some [.s .nilFunc] ∧ tK C.P 117 = .func := ⟨by kernel_rfl, by kernel_rfl, by kernel_rfl, by kernel_rfl, by kernel_rfl⟩
theorem ty118 : tSz C.P 118 = some 2 ∧ tBytes C.P 118 = some 16 ∧ tAgg C.P 118 = some true ∧ tZ C.P 118 = some [.s (.int .i64 0), .s (.int .i64 0)] ∧ tK C.P 118 = .other ∧ tFld C.P 118 0 = some (0, 3) ∧ fldPlace C.P 118 0 = some (0, 1) ∧ tFld C.P 118 1 = some (1, 3) ∧ fldPlace C.P 118 1 = some (1, 1) ∧ bldOk C.P 118 = true := ⟨by kernel_rfl, by kernel_rfl, by kernel_rfl, by kernel_rfl, by kernel_rfl, by kernel_rfl, by kernel_rfl, by kernel_rfl, by kernel_rfl, by kernel_rfl⟩
theorem ty119 : tSz C.P 119 = some 1 ∧ tBytes C.P 119 = some 8 ∧ tAgg C.P 119 = some false ∧ tZ C.P 119 = some [.s .nilFunc] ∧ tK C.P 119 = .func := ⟨by kernel_rfl, by kernel_rfl, by kernel_rfl, by kernel_rfl, by kernel_rfl⟩
theorem ty120 : tSz C.P 120 = some 1 ∧ tBytes C.P 120 = some 8 ∧ tAgg C.P 120 = some false ∧ tZ C.P 120 = some [.s .nilFunc] ∧ tK C.P 120 = .func := ⟨by kernel_rfl, by kernel_rfl, by kernel_rfl, by kernel_rfl, by kernel_rfl⟩
theorem ty121 : tSz C.P 121 = some 1 ∧ tBytes C.P 121 = some 8 ∧ tAgg C.P 121 = some false ∧ tZ C.P 121 = some [.s .nilFunc] ∧ tK C.P 121 = .func := ⟨by kernel_rfl, by kernel_rfl, by kernel_rfl, by kernel_rfl, by kernel_rfl⟩
theorem ty122 : tSz C.P 122 = some 1 ∧ tBytes C.P 122 = some 8 ∧ tAgg C.P 122 = some false ∧ tZ C.P 122 = some [.s .nilFunc] ∧ tK C.P 122 = .func := ⟨by kernel_rfl, by kernel_rfl, by kernel_rfl, by kernel_rfl, by kernel_rfl⟩
theorem ty123 : tSz C.P 123 = some 14 ∧ tBytes C.P 123 = some 224 ∧ tAgg C.P 123 = some true ∧ tZ C.P 123 = some [.s (.string ⟨#[]⟩), .s (.string ⟨#[]⟩), .s (.string ⟨#[]⟩), .s (.string ⟨#[]⟩), .s (.string ⟨#[]⟩), .s (.string ⟨#[]⟩), .s (.string ⟨#[]⟩), .s (.string ⟨#[]⟩), .s (.string ⟨#[]⟩), .s (.string ⟨#[]⟩), .s (.string ⟨#[]⟩), .s (.string ⟨#[]⟩), .s (.string ⟨#[]⟩), .s (.string ⟨#[]⟩)] ∧ tK C.P 123 = .arr 14 9 ∧ tArr C.P 123 = some (14, 9) := ⟨by kernel_rfl, by kernel_rfl, by kernel_rfl, by kernel_rfl, by kernel_rfl, by kernel_rfl⟩
theorem ty124 : tSz C.P 124 = some 1 ∧ tBytes C.P 124 = some 8 ∧ tAgg C.P 124 = some false ∧ tZ C.P 124 = some [.s .nilFunc] ∧ tK C.P 124 = .func := ⟨by kernel_rfl, by kernel_rfl, by kernel_rfl, by kernel_rfl, by kernel_rfl⟩
theorem ty125 : tSz C.P 125 = some 1 ∧ tBytes C.P 125 = some 8 ∧ tAgg C.P 125 = some false ∧ tZ C.P 125 = some [.s .nilFunc] ∧ tK C.P 125 = .func := ⟨by kernel_rfl, by kernel_rfl, by kernel_rfl, by kernel_rfl, by kernel_rfl⟩
theorem ty126 : tSz C.P 126 = some 1 ∧ tBytes C.P 126 = some 8 ∧ tAgg C.P 126 = some false ∧ tZ C.P 126 = some [.s .nilFunc] ∧ tK C.P 126 = .func := ⟨by kernel_rfl, by kernel_rfl, by kernel_rfl, by kernel_rfl, by kernel_rfl⟩
theorem ty127 : tSz C.P 127 = some 1 ∧ tBytes C.P 127 = some 8 ∧ tAgg C.P 127 = some false ∧ tZ C.P 127 = some [.s .nilFunc] ∧ tK C.P 127 = .func := ⟨by kernel_rfl, by kernel_rfl, by kernel_rfl, by kernel_rfl, by kernel_rfl⟩
theorem ty128 : tSz C.P 128 = some 1 ∧ tBytes C.P 128 = some 8 ∧ tAgg C.P 128 = some false ∧ tZ C.P 128 = some [.s .nilFunc] ∧ tK C.P 128 = .func := ⟨by kernel_rfl, by kernel_rfl, by kernel_rfl, by kernel_rfl, by kernel_rfl⟩
theorem ty129 : tSz C.P 129 = some 1 ∧ tBytes C.P 129 = some 8 ∧ tAgg C.P 129 = some false ∧ tZ C.P 129 = some [.s .nilFunc] ∧ tK C.P 129 = .func := ⟨by kernel_rfl, by kernel_rfl, by kernel_rfl, by kernel_rfl, by kernel_rfl⟩
theorem ty130 : tSz C.P 130 = some 1 ∧ tBytes C.P 130 = some 8 ∧ tAgg C.P 130 = some false ∧ tZ C.P 130 = some [.s .nilFunc] ∧ tK C.P 130 = .func := ⟨by kernel_rfl, by kernel_rfl, by kernel_rfl, by kernel_rfl, by kernel_rfl⟩
theorem ty131 : tSz C.P 131 = some 1 ∧ tBytes C.P 131 = some 8 ∧ tAgg C.P 131 = some false ∧ tZ C.P 131 = some [.s .nilFunc] ∧ tK C.P 131 = .func := ⟨by kernel_rfl, by kernel_rfl, by kernel_rfl, by kernel_rfl, by kernel_rfl⟩
theorem ty132 : tSz C.P 132 = some 1 ∧ tBytes C.P 132 = some 8 ∧ tAgg C.P 132 = some false ∧ tZ C.P 132 = some [.s .nilFunc] ∧ tK C.P 132 = .func := ⟨by kernel_rfl, by kernel_rfl, by kernel_rfl, by kernel_rfl, by kernel_rfl⟩
theorem ty133 : tSz C.P 133 = some 1 ∧ tBytes C.P 133 = some 8 ∧ tAgg C.P 133 = some false ∧ tZ C.P 133 = some [.s (.int .u64 0)] ∧ tK C.P 133 = .int .u64 := ⟨by kernel_rfl, by kernel_rfl, by kernel_rfl, by kernel_rfl, by kernel_rfl⟩
theorem ty135 : tSz C.P 135 = some 1 ∧ tBytes C.P 135 = some 8 ∧ tAgg C.P 135 = some false ∧ tZ C.P 135 = some [.s .nilFunc] ∧ tK C.P 135 = .func := ⟨by kernel_rfl, by kernel_rfl, by kernel_rfl, by kernel_rfl, by kernel_rfl⟩
theorem ty136 : tSz C.P 136 = some 1 ∧ tBytes C.P 136 = some 4 ∧ tAgg C.P 136 = some false ∧ tZ C.P 136 = some [.s (.int .u32 0)] ∧ tK C.P 136 = .int .u32 := ⟨by kernel_rfl, by kernel_rfl, by kernel_rfl, by kernel_rfl, by kernel_rfl⟩
theorem ty138 : tSz C.P 138 = some 1 ∧ tBytes C.P 138 = some 8 ∧ tAgg C.P 138 = some false ∧ tZ C.P 138 = some [.s .nilFunc] ∧ tK C.P 138 = .func := ⟨by kernel_rfl, by kernel_rfl, by kernel_rfl, by kernel_rfl, by kernel_rfl⟩
theorem ty139 : tSz C.P 139 = some 1 ∧ tBytes C.P 139 = some 8 ∧ tAgg C.P 139 = some false ∧ tZ C.P 139 = some [.s (.int .u64 0)] ∧ tK C.P 139 = .int .u64 := ⟨by kernel_rfl, by kernel_rfl, by kernel_rfl, by kernel_rfl, by kernel_rfl⟩
theorem ty141 : tSz C.P 141 = some 1 ∧ tBytes C.P 141 = some 8 ∧ tAgg C.P 141 = some false ∧ tZ C.P 141 = some [.s .nilFunc] ∧ tK C.P 141 = .func := ⟨by kernel_rfl, by kernel_rfl, by kernel_rfl, by kernel_rfl, by kernel_rfl⟩
theorem ty142 : tSz C.P 142 = some 1 ∧ tBytes C.P 142 = some 8 ∧ tAgg C.P 142 = some false ∧ tZ C.P 142 = some [.s .nilFunc] ∧ tK C.P 142 = .func := ⟨by kernel_rfl, by kernel_rfl, by kernel_rfl, by kernel_rfl, by kernel_rfl⟩
theorem ty143 : tSz C.P 143 = some 4 ∧ tBytes C.P 143 = some 40 ∧ tAgg C.P 143 = some true ∧ tZ C.P 143 = some [.s (.pointer none), .s (.pointer none), .s (.pointer none), .s (.string ⟨#[]⟩)] ∧ tK C.P 143 = .other ∧ tFld C.P 143 0 = some (0, 17) ∧ fldPlace C.P 143 0 = some (0, 1) ∧ tFld C.P 143 1 = some (1, 17) ∧ fldPlace C.P 143 1 = some (1, 1) ∧ tFld C.P 143 2 = some (2, 17) ∧ fldPlace C.P 143 2 = some (2, 1) ∧ tFld C.P 143 3 = some (3, 9) ∧ fldPlace C.P 143 3 = some (3, 1) ∧ bldOk C.P 143 = true := ⟨by kernel_rfl, by kernel_rfl, by kernel_rfl, by kernel_rfl, by kernel_rfl, by kernel_rfl, by kernel_rfl, by kernel_rfl, by kernel_rfl, by kernel_rfl, by kernel_rfl, by kernel_rfl, by kernel_rfl, by kernel_rfl⟩
theorem ty144 : tSz C.P 144 = some 4 ∧ tBytes C.P 144 = some 40 ∧ tAgg C.P 144 = some true ∧ tZ C.P 144 = some [.s (.pointer none), .s (.pointer none), .s (.pointer none), .s (.string ⟨#[]⟩)] ∧ tK C.P 144 = .other ∧ tFld C.P 144 0 = some (0, 17) ∧ fldPlace C.P 144 0 = some (0, 1) ∧ tFld C.P 144 1 = some (1, 17) ∧ fldPlace C.P 144 1 = some (1, 1) ∧ tFld C.P 144 2 = some (2, 17) ∧ fldPlace C.P 144 2 = some (2, 1) ∧ tFld C.P 144 3 = some (3, 9) ∧ fldPlace C.P 144 3 = some (3, 1) ∧ bldOk C.P 144 = true := ⟨by kernel_rfl, by kernel_rfl, by kernel_rfl, by kernel_rfl, by kernel_rfl, by kernel_rfl, by kernel_rfl, by kernel_rfl, by kernel_rfl, by kernel_rfl, by kernel_rfl, by kernel_rfl, by kernel_rfl, by kernel_rfl⟩
theorem ty145 : tSz C.P 145 = some 0 ∧ tBytes C.P 145 = some 0 ∧ tAgg C.P 145 = some true ∧ tZ C.P 145 = some [] ∧ tK C.P 145 = .arr 0 16 ∧ tArr C.P 145 = some (0, 16) := ⟨by kernel_rfl, by kernel_rfl, by kernel_rfl, by kernel_rfl, by kernel_rfl, by kernel_rfl⟩
theorem ty146 : tSz C.P 146 = some 0 ∧ tBytes C.P 146 = some 0 ∧ tAgg C.P 146 = some true ∧ tZ C.P 146 = some [] ∧ tK C.P 146 = .other ∧ tFld C.P 146 0 = some (0, 145) ∧ fldPlace C.P 146 0 = some (0, 0) ∧ bldOk C.P 146 = true := ⟨by kernel_rfl, by kernel_rfl, by kernel_rfl, by kernel_rfl, by kernel_rfl, by kernel_rfl, by kernel_rfl, by kernel_rfl⟩
theorem ty147 : tSz C.P 147 = some 0 ∧ tBytes C.P 147 = some 0 ∧ tAgg C.P 147 = some true ∧ tZ C.P 147 = some [] ∧ tK C.P 147 = .other ∧ tFld C.P 147 0 = some (0, 145) ∧ fldPlace C.P 147 0 = some (0, 0) ∧ bldOk C.P 147 = true := ⟨by kernel_rfl, by kernel_rfl, by kernel_rfl, by kernel_rfl, by kernel_rfl, by kernel_rfl, by kernel_rfl, by kernel_rfl⟩
theorem ty148 : tSz C.P 148 = some 1 ∧ tBytes C.P 148 = some 8 ∧ tAgg C.P 148 = some false ∧ tZ C.P 148 = some [.s .nilFunc] ∧ tK C.P 148 = .func := ⟨by kernel_rfl, by kernel_rfl, by kernel_rfl, by kernel_rfl, by kernel_rfl⟩
theorem ty149 : tSz C.P 149 = some 1 ∧ tBytes C.P 149 = some 1 ∧ tAgg C.P 149 = some false ∧ tZ C.P 149 = some [.s (.int .u8 0)] ∧ tK C.P 149 = .int .u8 := ⟨by kernel_rfl, by kernel_rfl, by kernel_rfl, by kernel_rfl, by kernel_rfl⟩
theorem ty150 : tSz C.P 150 = some 1 ∧ tBytes C.P 150 = some 1 ∧ tAgg C.P 150 = some false ∧ tZ C.P 150 = some [.s (.int .u8 0)] ∧ tK C.P 150 = .int .u8 := ⟨by kernel_rfl, by kernel_rfl, by kernel_rfl, by kernel_rfl, by kernel_rfl⟩
theorem ty151 : tSz C.P 151 = some 1 ∧ tBytes C.P 151 = some 8 ∧ tAgg C.P 151 = some false ∧ tZ C.P 151 = some [.s .nilFunc] ∧ tK C.P 151 = .func := ⟨by kernel_rfl, by kernel_rfl, by kernel_rfl, by kernel_rfl, by kernel_rfl⟩
theorem ty152 : tSz C.P 152 = some 1 ∧ tBytes C.P 152 = some 8 ∧ tAgg C.P 152 = some false ∧ tZ C.P 152 = some [.s (.pointer none)] ∧ tK C.P 152 = .ptr := ⟨by kernel_rfl, by kernel_rfl, by kernel_rfl, by kernel_rfl, by kernel_rfl⟩
theorem ty153 : tSz C.P 153 = some 1 ∧ tBytes C.P 153 = some 4 ∧ tAgg C.P 153 = some false ∧ tZ C.P 153 = some [.s (.int .i32 0)] ∧ tK C.P 153 = .int .i32 := ⟨by kernel_rfl, by kernel_rfl, by kernel_rfl, by kernel_rfl, by kernel_rfl⟩
theorem ty154 : tSz C.P 154 = some 1 ∧ tBytes C.P 154 = some 4 ∧ tAgg C.P 154 = some false ∧ tZ C.P 154 = some [.s (.int .i32 0)] ∧ tK C.P 154 = .int .i32 := ⟨by kernel_rfl, by kernel_rfl, by kernel_rfl, by kernel_rfl, by kernel_rfl⟩
theorem ty155 : tSz C.P 155 = some 11 ∧ tBytes C.P 155 = some 48 ∧ tAgg C.P 155 = some true ∧ tZ C.P 155 = some [.s (.int .u64 0), .s (.int .u64 0), .s (.int .u32 0), .s (.int .u8 0), .s (.int .u8 0), .s (.int .u8 0), .s (.int .u8 0), .s .nilFunc, .s (.pointer none), .s (.int .i32 0), .s (.int .i32 0)] ∧ tK C.P 155 = .other ∧ tFld C.P 155 0 = some (0, 12) ∧ fldPlace C.P 155 0 = some (0, 1) ∧ tFld C.P 155 1 = some (1, 12) ∧ fldPlace C.P 155 1 = some (1, 1) ∧ tFld C.P 155 2 = some (2, 136) ∧ fldPlace C.P 155 2 = some (2, 1) ∧ tFld C.P 155 3 = some (3, 149) ∧ fldPlace C.P 155 3 = some (3, 1) ∧ tFld C.P 155 4 = some (4, 5) ∧ fldPlace C.P 155 4 = some (4, 1) ∧ tFld C.P 155 5 = some (5, 5) ∧ fldPlace C.P 155 5 = some (5, 1) ∧ tFld C.P 155 6 = some (6, 150) ∧ fldPlace C.P 155 6 = some (6, 1) ∧ tFld C.P 155 7 = some (7, 151) ∧ fldPlace C.P 155 7 = some (7, 1) ∧ tFld C.P 155 8 = some (8, 152) ∧ fldPlace C.P 155 8 = some (8, 1) ∧ tFld C.P 155 9 = some (9, 153) ∧ fldPlace C.P 155 9 = some (9, 1) ∧ tFld C.P 155 10 = some (10, 154) ∧ fldPlace C.P 155 10 = some (10, 1) ∧ bldOk C.P 155 = true := ⟨by kernel_rfl, by kernel_rfl, by kernel_rfl, by kernel_rfl, by kernel_rfl, by kernel_rfl, by kernel_rfl, by kernel_rfl, by kernel_rfl, by kernel_rfl, by kernel_rfl, by kernel_rfl, by kernel_rfl, by kernel_rfl, by kernel_rfl, by kernel_rfl, by kernel_rfl, by kernel_rfl, by kernel_rfl, by kernel_rfl, by kernel_rfl, by kernel_rfl, by kernel_rfl, by kernel_rfl, by kernel_rfl, by kernel_rfl, by kernel_rfl, by kernel_rfl⟩
theorem ty156 : tSz C.P 156 = some 11 ∧ tBytes C.P 156 = some 48 ∧ tAgg C.P 156 = some true ∧ tZ C.P 156 = some [.s (.int .u64 0), .s (.int .u64 0), .s (.int .u32 0), .s (.int .u8 0), .s (.int .u8 0), .s (.int .u8 0), .s (.int .u8 0), .s .nilFunc, .s (.pointer none), .s (.int .i32 0), .s (.int .i32 0)] ∧ tK C.P 156 = .other ∧ tFld C.P 156 0 = some (0, 12) ∧ fldPlace C.P 156 0 = some (0, 1) ∧ tFld C.P 156 1 = some (1, 12) ∧ fldPlace C.P 156 1 = some (1, 1) ∧ tFld C.P 156 2 = some (2, 136) ∧ fldPlace C.P 156 2 = some (2, 1) ∧ tFld C.P 156 3 = some (3, 149) ∧ fldPlace C.P 156 3 = some (3, 1) ∧ tFld C.P 156 4 = some (4, 5) ∧ fldPlace C.P 156 4 = some (4, 1) ∧ tFld C.P 156 5 = some (5, 5) ∧ fldPlace C.P 156 5 = some (5, 1) ∧ tFld C.P 156 6 = some (6, 150) ∧ fldPlace C.P 156 6 = some (6, 1) ∧ tFld C.P 156 7 = some (7, 151) ∧ fldPlace C.P 156 7 = some (7, 1) ∧ tFld C.P 156 8 = some (8, 152) ∧ fldPlace C.P 156 8 = some (8, 1) ∧ tFld C.P 156 9 = some (9, 153) ∧ fldPlace C.P 156 9 = some (9, 1) ∧ tFld C.P 156 10 = some (10, 154) ∧ fldPlace C.P 156 10 = some (10, 1) ∧ bldOk C.P 156 = true := ⟨by kernel_rfl, by kernel_rfl, by kernel_rfl, by kernel_rfl, by kernel_rfl, by kernel_rfl, by kernel_rfl, by kernel_rfl, by kernel_rfl, by kernel_rfl, by kernel_rfl, by kernel_rfl, by kernel_rfl, by kernel_rfl, by kernel_rfl, by kernel_rfl, by kernel_rfl, by kernel_rfl, by kernel_rfl, by kernel_rfl, by kernel_rfl, by kernel_rfl, by kernel_rfl, by kernel_rfl, by kernel_rfl, by kernel_rfl, by kernel_rfl, by kernel_rfl⟩
theorem res0 : Tryd.f0.results.toList = [] := by kernel_rfl
theorem res1 : Tryd.f1.results.toList = [] := by kernel_rfl
theorem res2 : Tryd.f2.results.toList = [] := by kernel_rfl
theorem res3 : Tryd.f3.results.toList = [.tmp 2] := by kernel_rfl
theorem res4 : Tryd.f4.results.toList = [.tmp 4] := by kernel_rfl
theorem res5 : Tryd.f5.results.toList = [.tmp 4] := by kernel_rfl
theorem res6 : Tryd.f6.results.toList = [.cell 2 28] := by kernel_rfl
theorem res7 : Tryd.f7.results.toList = [.cell 2 32] := by kernel_rfl
theorem res8 : Tryd.f8.results.toList = [.cell 2 28] := by kernel_rfl
theorem res9 : Tryd.f9.results.toList = [.tmp 4] := by kernel_rfl
theorem res10 : Tryd.f10.results.toList = [.tmp 4] := by kernel_rfl
theorem res11 : Tryd.f11.results.toList = [.tmp 4, .tmp 5] := by kernel_rfl
theorem res12 : Tryd.f12.results.toList = [.tmp 4, .tmp 5] := by kernel_rfl
theorem res13 : Tryd.f13.results.toList = [.tmp 4] := by kernel_rfl
theorem res14 : Tryd.f14.results.toList = [.tmp 4] := by kernel_rfl
theorem res15 : Tryd.f15.results.toList = [.tmp 4] := by kernel_rfl
theorem res16 : Tryd.f16.results.toList = [.tmp 4] := by kernel_rfl
theorem res17 : Tryd.f17.results.toList = [.tmp 4] := by kernel_rfl
theorem res18 : Tryd.f18.results.toList = [.tmp 4] := by kernel_rfl
theorem res19 : Tryd.f19.results.toList = [.tmp 2] := by kernel_rfl
theorem res20 : Tryd.f20.results.toList = [.tmp 4, .tmp 5] := by kernel_rfl
theorem res21 : Tryd.f21.results.toList = [.tmp 2] := by kernel_rfl
theorem res22 : Tryd.f22.results.toList = [.tmp 2] := by kernel_rfl
theorem res23 : Tryd.f23.results.toList = [.tmp 2] := by kernel_rfl
theorem res24 : Tryd.f24.results.toList = [.cell 4 58, .cell 5 28] := by kernel_rfl
theorem res25 : Tryd.f25.results.toList = [.tmp 4] := by kernel_rfl
theorem res26 : Tryd.f26.results.toList = [.tmp 4] := by kernel_rfl
theorem res27 : Tryd.f27.results.toList = [.tmp 4] := by kernel_rfl
theorem res28 : Tryd.f28.results.toList = [.tmp 4] := by kernel_rfl
theorem res29 : Tryd.f29.results.toList = [.tmp 4] := by kernel_rfl
theorem res30 : Tryd.f30.results.toList = [.tmp 4] := by kernel_rfl
theorem res31 : Tryd.f31.results.toList = [.tmp 4] := by kernel_rfl
theorem res32 : Tryd.f32.results.toList = [.tmp 2] := by kernel_rfl
theorem res33 : Tryd.f33.results.toList = [.tmp 2] := by kernel_rfl
theorem res34 : Tryd.f34.results.toList = [] := by kernel_rfl
theorem res35 : Tryd.f35.results.toList = [] := by kernel_rfl
theorem res36 : Tryd.f36.results.toList = [.cell 2 49] := by kernel_rfl
theorem res37 : Tryd.f37.results.toList = [.tmp 2] := by kernel_rfl
theorem res38 : Tryd.f38.results.toList = [.tmp 8] := by kernel_rfl
theorem res39 : Tryd.f39.results.toList = [.tmp 4] := by kernel_rfl
theorem res40 : Tryd.f40.results.toList = [.tmp 2] := by kernel_rfl
theorem res41 : Tryd.f41.results.toList = [.tmp 2] := by kernel_rfl
theorem res42 : Tryd.f42.results.toList = [.tmp 4] := by kernel_rfl
theorem res43 : Tryd.f43.results.toList = [.tmp 3] := by kernel_rfl
theorem res44 : Tryd.f44.results.toList = [] := by kernel_rfl
theorem res45 : Tryd.f45.results.toList = [] := by kernel_rfl
theorem res46 : Tryd.f46.results.toList = [.tmp 4] := by kernel_rfl
theorem res47 : Tryd.f47.results.toList = [.tmp 6] := by kernel_rfl
theorem res48 : Tryd.f48.results.toList = [.tmp 2] := by kernel_rfl
theorem res49 : Tryd.f49.results.toList = [.tmp 4] := by kernel_rfl
theorem res50 : Tryd.f50.results.toList = [.tmp 4] := by kernel_rfl
theorem res51 : Tryd.f51.results.toList = [.tmp 2] := by kernel_rfl
theorem res52 : Tryd.f52.results.toList = [.tmp 2] := by kernel_rfl
theorem res53 : Tryd.f53.results.toList = [.tmp 2] := by kernel_rfl
theorem res54 : Tryd.f54.results.toList = [.tmp 2] := by kernel_rfl
theorem res55 : Tryd.f55.results.toList = [.cell 2 64] := by kernel_rfl
theorem res56 : Tryd.f56.results.toList = [.tmp 6] := by kernel_rfl
theorem res57 : Tryd.f57.results.toList = [] := by kernel_rfl
theorem res58 : Tryd.f58.results.toList = [] := by kernel_rfl
theorem res59 : Tryd.f59.results.toList = [.cell 6 64] := by kernel_rfl
theorem res60 : Tryd.f60.results.toList = [.cell 6 64] := by kernel_rfl
theorem res61 : Tryd.f61.results.toList = [.cell 6 64] := by kernel_rfl
theorem res62 : Tryd.f62.results.toList = [.cell 6 64] := by kernel_rfl
theorem res63 : Tryd.f63.results.toList = [.tmp 2] := by kernel_rfl
theorem res64 : Tryd.f64.results.toList = [.tmp 2] := by kernel_rfl
theorem res65 : Tryd.f65.results.toList = [.tmp 2] := by kernel_rfl
theorem res66 : Tryd.f66.results.toList = [.tmp 2] := by kernel_rfl
theorem res67 : Tryd.f67.results.toList = [.tmp 4] := by kernel_rfl
theorem res68 : Tryd.f68.results.toList = [.tmp 2] := by kernel_rfl
theorem res69 : Tryd.f69.results.toList = [.tmp 4] := by kernel_rfl
theorem res70 : Tryd.f70.results.toList = [] := by kernel_rfl
theorem res71 : Tryd.f71.results.toList = [.tmp 2] := by kernel_rfl
theorem res72 : Tryd.f72.results.toList = [] := by kernel_rfl
theorem res73 : Tryd.f73.results.toList = [.tmp 2] := by kernel_rfl
theorem res74 : Tryd.f74.results.toList = [.tmp 4] := by kernel_rfl
theorem res75 : Tryd.f75.results.toList = [.cell 6 64] := by kernel_rfl
theorem res76 : Tryd.f76.results.toList = [.tmp 2, .tmp 3] := by kernel_rfl
theorem res77 : Tryd.f77.results.toList = [.tmp 0] := by kernel_rfl
theorem res78 : Tryd.f78.results.toList = [.cell 6 64] := by kernel_rfl
theorem res79 : Tryd.f79.results.toList = [.tmp 2] := by kernel_rfl
theorem res80 : Tryd.f80.results.toList = [.cell 2 83] := by kernel_rfl
theorem res81 : Tryd.f81.results.toList = [.tmp 4] := by kernel_rfl
theorem res82 : Tryd.f82.results.toList = [.tmp 2] := by kernel_rfl
theorem res83 : Tryd.f83.results.toList = [.tmp 4] := by kernel_rfl
theorem res84 : Tryd.f84.results.toList = [.tmp 6] := by kernel_rfl
theorem res85 : Tryd.f85.results.toList = [.tmp 6] := by kernel_rfl
theorem res86 : Tryd.f86.results.toList = [.tmp 2, .tmp 3] := by kernel_rfl
theorem res87 : Tryd.f87.results.toList = [] := by kernel_rfl
theorem res88 : Tryd.f88.results.toList = [.tmp 4] := by kernel_rfl
theorem res89 : Tryd.f89.results.toList = [] := by kernel_rfl
theorem res90 : Tryd.f90.results.toList = [] := by kernel_rfl
theorem res91 : Tryd.f91.results.toList = [.tmp 2] := by kernel_rfl
theorem res92 : Tryd.f92.results.toList = [.tmp 4] := by kernel_rfl
theorem res93 : Tryd.f93.results.toList = [.tmp 2] := by kernel_rfl
theorem res94 : Tryd.f94.results.toList = [.tmp 4] := by kernel_rfl
theorem res95 : Tryd.f95.results.toList = [.tmp 2] := by kernel_rfl
theorem res96 : Tryd.f96.results.toList = [.tmp 4, .tmp 5] := by kernel_rfl
theorem res97 : Tryd.f97.results.toList = [.tmp 4] := by kernel_rfl
theorem res98 : Tryd.f98.results.toList = [] := by kernel_rfl
theorem res99 : Tryd.f99.results.toList = [.tmp 4, .tmp 5] := by kernel_rfl
theorem res100 : Tryd.f100.results.toList = [.tmp 4, .tmp 5] := by kernel_rfl
theorem res101 : Tryd.f101.results.toList = [] := by kernel_rfl
theorem res102 : Tryd.f102.results.toList = [] := by kernel_rfl
theorem res103 : Tryd.f103.results.toList = [] := by kernel_rfl
theorem res104 : Tryd.f104.results.toList = [] := by kernel_rfl
theorem res105 : Tryd.f105.results.toList = [] := by kernel_rfl
theorem res106 : Tryd.f106.results.toList = [] := by kernel_rfl
theorem res107 : Tryd.f107.results.toList = [] := by kernel_rfl
theorem res108 : Tryd.f108.results.toList = [] := by kernel_rfl
theorem res109 : Tryd.f109.results.toList = [] := by kernel_rfl
theorem res110 : Tryd.f110.results.toList = [] := by kernel_rfl
theorem res111 : Tryd.f111.results.toList = [] := by kernel_rfl
theorem res112 : Tryd.f112.results.toList = [] := by kernel_rfl
theorem res113 : Tryd.f113.results.toList = [] := by kernel_rfl
theorem res114 : Tryd.f114.results.toList = [] := by kernel_rfl
theorem res115 : Tryd.f115.results.toList = [] := by kernel_rfl
theorem res116 : Tryd.f116.results.toList = [] := by kernel_rfl
theorem res117 : Tryd.f117.results.toList = [] := by kernel_rfl
theorem res118 : Tryd.f118.results.toList = [] := by kernel_rfl
theorem res119 : Tryd.f119.results.toList = [] := by kernel_rfl
theorem res120 : Tryd.f120.results.toList = [] := by kernel_rfl
theorem res121 : Tryd.f121.results.toList = [] := by kernel_rfl
set_option linter.all false in
noncomputable def WA := And.intro (And.intro (And.intro (And.intro WB1 WB2) (And.intro (And.intro WB3 WB5) WB4)) (And.intro WB6 (And.intro WB8 (And.intro WB9 WB11)))) (And.intro (And.intro (And.intro (And.intro (And.intro (And.intro (And.intro (And.intro (cg0) (ty1)) (And.intro (ty2) (ty3))) (And.intro (And.intro (ty4) (ty5)) (And.intro (ty6) (ty7)))) (And.intro (And.intro (And.intro (ty8) (ty9)) (And.intro (ty10) (ty11))) (And.intro (And.intro (ty12) (ty13)) (And.intro (ty14) (ty15))))) (And.intro (And.intro (And.intro (And.intro (ty16) (ty17)) (And.intro (ty18) (ty19))) (And.intro (And.intro (ty20) (ty21)) (And.intro (ty22) (ty23)))) (And.intro (And.intro (And.intro (ty24) (ty25)) (And.intro (ty26) (ty27))) (And.intro (And.intro (ty28) (ty29)) (And.intro (ty30) (And.intro (ty31) (ty32))))))) (And.intro (And.intro (And.intro (And.intro (And.intro (ty33) (ty34)) (And.intro (ty35) (ty36))) (And.intro (And.intro (ty37) (ty39)) (And.intro (ty40) (ty41)))) (And.intro (And.intro (And.intro (ty42) (ty43)) (And.intro (ty44) (ty45))) (And.intro (And.intro (ty46) (ty47)) (And.intro (ty48) (And.intro (ty49) (ty50)))))) (And.intro (And.intro (And.intro (And.intro (ty52) (ty53)) (And.intro (ty54) (ty55))) (And.intro (And.intro (ty56) (ty57)) (And.intro (ty58) (ty60)))) (And.intro (And.intro (And.intro (ty61) (ty62)) (And.intro (ty63) (ty64))) (And.intro (And.intro (ty65) (ty66)) (And.intro (ty67) (And.intro (ty68) (ty69)))))))) (And.intro (And.intro (And.intro (And.intro (And.intro (And.intro (ty70) (ty71)) (And.intro (ty72) (ty73))) (And.intro (And.intro (ty74) (ty75)) (And.intro (ty76) (ty77)))) (And.intro (And.intro (And.intro (ty78) (ty79)) (And.intro (ty80) (ty81))) (And.intro (And.intro (ty82) (ty83)) (And.intro (ty84) (And.intro (ty85) (ty86)))))) (And.intro (And.intro (And.intro (And.intro (ty87) (ty88)) (And.intro (ty89) (ty91))) (And.intro (And.intro (ty92) (ty93)) (And.intro (ty94) (ty95)))) (And.intro (And.intro (And.intro (ty96) (ty97)) (And.intro (ty98) (ty99))) (And.intro (And.intro (ty100) (ty101)) (And.intro (ty102) (And.intro (ty103) (ty104))))))) (And.intro (And.intro (And.intro (And.intro (And.intro (ty105) (ty106)) (And.intro (ty107) (ty108))) (And.intro (And.intro (ty109) (ty110)) (And.intro (ty111) (ty113)))) (And.intro (And.intro (And.intro (ty114) (ty115)) (And.intro (ty116) (ty117))) (And.intro (And.intro (ty118) (ty119)) (And.intro (ty120) (And.intro (ty121) (ty122)))))) (And.intro (And.intro (And.intro (And.intro (ty123) (ty124)) (And.intro (ty125) (ty126))) (And.intro (And.intro (ty127) (ty128)) (And.intro (ty129) (ty130)))) (And.intro (And.intro (And.intro (ty131) (ty132)) (And.intro (ty133) (ty135))) (And.intro (And.intro (ty136) (ty138)) (And.intro (ty139) (And.intro (ty141) (ty142))))))))) (And.intro (And.intro (And.intro (And.intro (And.intro (And.intro (And.intro (ty143) (ty144)) (And.intro (ty145) (ty146))) (And.intro (And.intro (ty147) (ty148)) (And.intro (ty149) (ty150)))) (And.intro (And.intro (And.intro (ty151) (ty152)) (And.intro (ty153) (ty154))) (And.intro (And.intro (ty155) (ty156)) (And.intro (res0) (And.intro (res1) (res2)))))) (And.intro (And.intro (And.intro (And.intro (res3) (res4)) (And.intro (res5) (res6))) (And.intro (And.intro (res7) (res8)) (And.intro (res9) (res10)))) (And.intro (And.intro (And.intro (res11) (res12)) (And.intro (res13) (res14))) (And.intro (And.intro (res15) (res16)) (And.intro (res17) (And.intro (res18) (res19))))))) (And.intro (And.intro (And.intro (And.intro (And.intro (res20) (res21)) (And.intro (res22) (res23))) (And.intro (And.intro (res24) (res25)) (And.intro (res26) (res27)))) (And.intro (And.intro (And.intro (res28) (res29)) (And.intro (res30) (res31))) (And.intro (And.intro (res32) (res33)) (And.intro (res34) (And.intro (res35) (res36)))))) (And.intro (And.intro (And.intro (And.intro (res37) (res38)) (And.intro (res39) (res40))) (And.intro (And.intro (res41) (res42)) (And.intro (res43) (res44)))) (And.intro (And.intro (And.intro (res45) (res46)) (And.intro (res47) (res48))) (And.intro (And.intro (res49) (res50)) (And.intro (res51) (And.intro (res52) (res53)))))))) (And.intro (And.intro (And.intro (And.intro (And.intro (And.intro (res54) (res55)) (And.intro (res56) (res57))) (And.intro (And.intro (res58) (res59)) (And.intro (res60) (res61)))) (And.intro (And.intro (And.intro (res62) (res63)) (And.intro (res64) (res65))) (And.intro (And.intro (res66) (res67)) (And.intro (res68) (And.intro (res69) (res70)))))) (And.intro (And.intro (And.intro (And.intro (res71) (res72)) (And.intro (res73) (res74))) (And.intro (And.intro (res75) (res76)) (And.intro (res77) (res78)))) (And.intro (And.intro (And.intro (res79) (res80)) (And.intro (res81) (res82))) (And.intro (And.intro (res83) (res84)) (And.intro (res85) (And.intro (res86) (res87))))))) (And.intro (And.intro (And.intro (And.intro (And.intro (res88) (res89)) (And.intro (res90) (res91))) (And.intro (And.intro (res92) (res93)) (And.intro (res94) (res95)))) (And.intro (And.intro (And.intro (res96) (res97)) (And.intro (res98) (res99))) (And.intro (And.intro (res100) (res101)) (And.intro (res102) (And.intro (res103) (res104)))))) (And.intro (And.intro (And.intro (And.intro (res105) (res106)) (And.intro (res107) (res108))) (And.intro (And.intro (res109) (res110)) (And.intro (res111) (res112)))) (And.intro (And.intro (And.intro (res113) (res114)) (And.intro (res115) (res116))) (And.intro (And.intro (res117) (res118)) (And.intro (res119) (And.intro (res120) (res121))))))))))
end Go.Proofs.YtijefmjfdhfjmaaDoor
/- part S0 -/
/- What the verifier finds in a function of an image: the stacks and slots ahead of its instructions, or a fault. -/
namespace Go.Proofs.YtijefmjfdhfjmaaDoor
open Go Go.W

structure Ins where
  op : Int
  a : Int
structure IFun where
  mod : ByteArray
  name : ByteArray
  args : List Int
  typ : Int
  slots : Int
  code : List Ins
structure Img where
  funs : List IFun
  mains : List Int

def iV (n : Int) : List V := [.s (.int .i64 n)]
def insV (x : Ins) : List V := [.s (.int .i64 x.op), .s (.int .i64 x.a)]
def fnV (f : IFun) : List V := [.s (.string f.mod), .s (.string f.name), .f 1 (f.args.map iV), .s (.int .i64 f.typ), .s (.int .i64 f.slots), .f 2 (f.code.map insV)]
def imgV (m : Img) : List V := [.f 6 (m.funs.map fnV), .f 1 (m.mains.map iV)]

/-! ### The verifier -/
structure At where
  stack : List Int
  slots : List Int
  deriving DecidableEq
/-- A stack's last value is taken, of a kind, if one is wanted. -/
def popE (st : List Int) (k : Int) : Except Int (List Int) :=
  if st.length = 0 then .error 4 else if k ≠ 0 ∧ st.getLast? ≠ some k then .error 5 else .ok st.dropLast
/-- The kinds in the order in which they are taken. -/
def popsE (st : List Int) : List Int → Except Int (List Int)
  | [] => .ok st
  | k :: ks => match popE st k with
    | .ok st' => popsE st' ks
    | .error e => .error e
def pushE (st : List Int) (k : Int) : Except Int (List Int) := if 100 ≤ st.length then .error 4 else .ok (st ++ [k])
def joinS : List Int → List Int → List Int
  | a :: p, b :: q => (if a = b then a else 0) :: joinS p q
  | p, _ => p
abbrev Ats := List (Option At)
def reachE (ats : Ats) (to : Nat) (now : At) : Except Int Ats :=
  match ats[to]? with
  | none => .error 7
  | some none => .ok (ats.set to (some now))
  | some (some t) => if t.stack = now.stack then .ok (ats.set to (some ⟨t.stack, joinS t.slots now.slots⟩)) else .error 6
/-- What a primitive takes, and what it gives. -/
def primT : Nat → List Int × Int
  | 0 => ([1, 1], 1) | 1 => ([1, 1], 1) | 2 => ([1, 1], 1) | 3 => ([1, 1], 1) | 4 => ([1, 1], 1)
  | 5 => ([1, 1], 2) | 6 => ([1, 1], 2) | 7 => ([1, 1], 2)
  | 8 => ([2], 2) | 9 => ([3, 1], 1) | 10 => ([3], 1) | 11 => ([3, 1, 1], 3) | 12 => ([3, 3], 3) | _ => ([1], 1)
def formB (nf : Nat) (slots : Int) (at_ : Nat) (x : Ins) : Bool :=
  if x.op = 3 ∨ x.op = 4 then decide (x.a < slots)
  else if x.op = 5 then decide (1 ≤ x.a ∧ x.a ≤ 14)
  else if x.op = 6 ∨ x.op = 7 then decide ((at_ : Int) < x.a)
  else if x.op = 8 then decide (x.a < nf)
  else if x.op = 10 then decide (x.a ≤ 16)
  else true
/-- The stack and the slots behind an instruction that goes on. -/
def turnE (fs : List IFun) (x : Ins) (now : At) : Except Int At :=
  let put (st : Except Int (List Int)) (k : Int) : Except Int At := match st with
    | .ok st => match pushE st k with
      | .ok st' => .ok ⟨st', now.slots⟩
      | .error e => .error e
    | .error e => .error e
  if x.op = 1 then put (.ok now.stack) 1
  else if x.op = 2 then put (.ok now.stack) 2
  else if x.op = 3 then (if now.slots[x.a.toNat]?.getD 0 = 0 then .error 5 else put (.ok now.stack) (now.slots[x.a.toNat]?.getD 0))
  else if x.op = 4 then (match popE now.stack 0 with
    | .ok st => .ok ⟨st, now.slots.set x.a.toNat (now.stack.getLast?.getD 0)⟩
    | .error e => .error e)
  else if x.op = 5 then put (popsE now.stack (primT (x.a - 1).toNat).1.reverse) (primT (x.a - 1).toNat).2
  else if x.op = 7 then (match popE now.stack 2 with
    | .ok st => .ok ⟨st, now.slots⟩
    | .error e => .error e)
  else if x.op = 8 then put (popsE now.stack ((fs[x.a.toNat]?.map (·.args)).getD []).reverse) ((fs[x.a.toNat]?.map (·.typ)).getD 0)
  else if x.op = 10 then put (popsE now.stack (List.replicate x.a.toNat 1)) 3
  else .ok now
def backE (st : List Int) (typ : Int) : Except Int Unit := if st.length ≠ 1 then .error 4 else if st.getLast? ≠ some typ then .error 5 else .ok ()
def lookE (fs : List IFun) (f : IFun) (at_ : Nat) (x : Ins) (ats : Ats) (now : At) : Except Int Ats :=
  if formB fs.length f.slots at_ x = false then .error 3
  else if x.op = 9 then (match backE now.stack f.typ with | .ok _ => .ok ats | .error e => .error e)
  else match turnE fs x now with
    | .error e => .error e
    | .ok now' =>
      if x.op = 6 then reachE ats x.a.toNat now'
      else if x.op = 7 then (match reachE ats x.a.toNat now' with
        | .ok ats' => reachE ats' (at_ + 1) now'
        | .error e => .error e)
      else reachE ats (at_ + 1) now'
/-- From an instruction on: a fault and where it is, or what is known ahead of all. -/
def allE (fs : List IFun) (f : IFun) : List Ins → Nat → Ats → Except (Int × Nat) Ats
  | [], _, ats => .ok ats
  | x :: r, i, ats => match ats[i]? with
    | some (some now) => match lookE fs f i x ats now with
      | .ok ats' => allE fs f r (i + 1) ats'
      | .error e => .error (e, i)
    | _ => .error (7, i)
def sureE (fs : List IFun) (f : IFun) : Except (Int × Nat) Ats :=
  if f.slots < f.args.length then .error (3, 0)
  else if f.code = [] then .error (7, 0)
  else allE fs f f.code 0 (some ⟨[], f.args ++ List.replicate (f.slots - f.args.length).toNat 0⟩ :: List.replicate (f.code.length - 1) none)
/-- The fault of an image whose form is right. -/
def firstE (fs : List IFun) : List IFun → Nat → Int × Int × Int
  | [], _ => (0, 0, 0)
  | f :: r, i => match sureE fs f with
    | .ok _ => firstE fs r (i + 1)
    | .error (e, k) => (e, i, k)
def mainE (fs : List IFun) : List Int → Option Int
  | [] => none
  | n :: r => if 0 < ((fs[n.toNat]?.map (·.args)).getD []).length then some n else mainE fs r
def faultE (m : Img) : Int × Int × Int := match mainE m.funs m.mains with
  | some n => (2, n, 0)
  | none => firstE m.funs m.funs 0
/-! ### Which images have a text -/
def sV (b : ByteArray) : List V := [.s (.string b)]
def kept : List ByteArray := [⟨#[117, 115, 101]⟩, ⟨#[102, 117, 110]⟩, ⟨#[112, 117, 98]⟩, ⟨#[109, 97, 105, 110]⟩, ⟨#[105, 110, 116]⟩, ⟨#[98, 111, 111, 108]⟩, ⟨#[114, 111, 119]⟩, ⟨#[105, 102]⟩, ⟨#[108, 101, 116]⟩, ⟨#[116, 114, 117, 101]⟩, ⟨#[102, 97, 108, 115, 101]⟩, ⟨#[97, 110, 100]⟩, ⟨#[111, 114]⟩, ⟨#[110, 111, 116]⟩, ⟨#[97, 116]⟩, ⟨#[108, 101, 110]⟩, ⟨#[112, 117, 116]⟩, ⟨#[106, 111, 105, 110]⟩, ⟨#[112, 114, 105, 110, 116]⟩]
def mainS : ByteArray := ⟨#[109, 97, 105, 110]⟩
def low (c : UInt8) : Bool := decide (97 ≤ (c.toNat : Int)) && decide ((c.toNat : Int) ≤ 122)
def nameB (s : ByteArray) : Bool := s.data.toList.all low && (decide (1 ≤ s.size) && decide (s.size ≤ 8)) && !kept.any (fun w => decide (w = s))
def rangeB (n lo hi : Int) : Bool := decide (lo ≤ n) && decide (n ≤ hi)
def insB (x : Ins) : Bool :=
  if x.op = 1 then rangeB x.a (-99999999999999999) 99999999999999999
  else if x.op = 2 then rangeB x.a 0 1
  else if x.op = 9 then decide (x.a = 0)
  else rangeB x.op 1 10 && rangeB x.a 0 1000
def typB (t : Int) : Bool := rangeB t 1 3
def headB (name : ByteArray) (args : List Int) (typ slots : Int) : Bool := (nameB name || decide (name = mainS)) && (decide (args.length ≤ 4) && args.all typB) && typB typ && rangeB slots 0 1000
def funB (f : IFun) : Bool := nameB f.mod && headB f.name f.args f.typ f.slots && decide (f.code.length ≤ 460) && f.code.all insB
def sizeN : List IFun → Nat
  | [] => 0
  | f :: r => f.code.length + sizeN r
def imgB (m : Img) : Bool := m.funs.all funB && (decide (m.funs.length ≤ 72) && decide (m.mains.length ≤ 8) && decide (sizeN m.funs ≤ 3680)) && m.mains.all fun n => rangeB n 0 ((m.funs.length : Int) - 1)
def sureF (m : Img) : Int × Int × Int := if imgB m = true then faultE m else (1, 0, 0)

/-! ### What holds of them -/
def AtsOk (n : Nat) (ats : Ats) : Prop := ∀ a : At, some a ∈ ats → a.slots.length = n ∧ a.stack.length ≤ 100
theorem joinS_length : ∀ (a b : List Int), (joinS a b).length = a.length
  | [], _ => by simp [joinS]
  | a :: p, [] => by simp [joinS]
  | a :: p, b :: q => by simp [joinS, joinS_length p q]
theorem reachE_len {ats ats' : Ats} {to : Nat} {now : At} (h : reachE ats to now = .ok ats') : ats'.length = ats.length := by
  unfold reachE at h
  split at h
  · cases h
  · cases h; simp
  · split at h
    · cases h; simp
    · cases h
theorem reachE_ok {n : Nat} {ats ats' : Ats} {to : Nat} {now : At} (ha : AtsOk n ats) (hn : now.slots.length = n ∧ now.stack.length ≤ 100) (h : reachE ats to now = .ok ats') : AtsOk n ats' := by
  unfold reachE at h
  split at h
  · cases h
  · cases h
    intro a hm
    rcases List.mem_or_eq_of_mem_set hm with q | q
    · exact ha a q
    · cases q; exact hn
  · rename_i t ht
    have h0 := ha t (List.mem_of_getElem? ht)
    split at h
    · cases h
      intro a hm
      rcases List.mem_or_eq_of_mem_set hm with q | q
      · exact ha a q
      · cases q; exact ⟨by simpa [joinS_length] using h0.1, h0.2⟩
    · cases h
theorem popE_len {st st' : List Int} {k : Int} (h : popE st k = .ok st') : st'.length = st.length - 1 := by
  unfold popE at h
  split at h
  · cases h
  · split at h
    · cases h
    · cases h; simp
theorem popsE_len : ∀ {ks st st' : List Int}, popsE st ks = .ok st' → st'.length ≤ st.length
  | [], st, st', h => by simp only [popsE] at h; cases h; exact Nat.le_refl _
  | k :: ks, st, st', h => by
    simp only [popsE] at h
    split at h
    · rename_i s1 h1
      have := popE_len h1
      have := popsE_len h
      omega
    · cases h
theorem pushE_len {st st' : List Int} {k : Int} (h : pushE st k = .ok st') : st'.length ≤ 100 := by
  unfold pushE at h
  split at h
  · cases h
  · cases h; simp; omega
theorem turnE_ok {fs : List IFun} {x : Ins} {now now' : At} {n : Nat} (hn : now.slots.length = n ∧ now.stack.length ≤ 100) (h : turnE fs x now = .ok now') : now'.slots.length = n ∧ now'.stack.length ≤ 100 := by
  have put : ∀ {st : Except Int (List Int)} {k : Int}, (match st with
    | .ok st => match pushE st k with
      | .ok st' => (.ok ⟨st', now.slots⟩ : Except Int At)
      | .error e => .error e
    | .error e => .error e) = .ok now' → now'.slots.length = n ∧ now'.stack.length ≤ 100 := by
    intro st k h
    split at h
    · split at h
      · rename_i h1; cases h; exact ⟨hn.1, pushE_len h1⟩
      · cases h
    · cases h
  unfold turnE at h
  simp only at h
  split at h
  · exact put (st := .ok now.stack) h
  split at h
  · exact put (st := .ok now.stack) h
  split at h
  · split at h
    · cases h
    · exact put (st := .ok now.stack) h
  split at h
  · split at h
    · rename_i h1; have := popE_len h1; cases h; exact ⟨by simpa using hn.1, by simp only; omega⟩
    · cases h
  split at h
  · exact put h
  split at h
  · split at h
    · rename_i h1; have := popE_len h1; cases h; exact ⟨hn.1, by simp only; omega⟩
    · cases h
  split at h
  · exact put h
  split at h
  · exact put h
  · cases h; exact hn
theorem lookE_ok {fs : List IFun} {f : IFun} {i : Nat} {x : Ins} {ats ats' : Ats} {now : At} {n : Nat} (ha : AtsOk n ats) (hn : now.slots.length = n ∧ now.stack.length ≤ 100) (h : lookE fs f i x ats now = .ok ats') : AtsOk n ats' ∧ ats'.length = ats.length := by
  unfold lookE at h
  split at h
  · cases h
  split at h
  · split at h
    · cases h; exact ⟨ha, rfl⟩
    · cases h
  split at h
  · cases h
  · rename_i now' ht
    have hn' := turnE_ok hn ht
    split at h
    · exact ⟨reachE_ok ha hn' h, reachE_len h⟩
    split at h
    · split at h
      · rename_i h1
        exact ⟨reachE_ok (reachE_ok ha hn' h1) hn' h, (reachE_len h).trans (reachE_len h1)⟩
      · cases h
    · exact ⟨reachE_ok ha hn' h, reachE_len h⟩
end Go.Proofs.YtijefmjfdhfjmaaDoor
/- part S1 -/
set_option linter.unusedVariables false
set_option linter.unusedSimpArgs false
set_option maxRecDepth 100000
namespace Go.Proofs.YtijefmjfdhfjmaaDoor
open Go Go.W Go.RowKit
theorem walk47 (n lo hi : Int) : PureV C 47 [.s (.int .i64 n), .s (.int .i64 lo), .s (.int .i64 hi)] (.s (.bool (rangeB n lo hi))) := by
  refine pure_of_run Tryd.func47 rfl (by kernel_rfl) (by kernel_rfl) (by simp) (fun _ => rfl) (fun _ => rfl) 6 1000 ?_
  by_cases c1 : lo ≤ n <;> by_cases c2 : n ≤ hi <;> simp +contextual (maxSteps := 2000000) (disch := ((try unfold LIM at *); omega)) only [↓bcase_true, ↓bcase_false, WA, simprocAttr, wrap_i64, rangeB, c1, c2]
theorem walk66 (t : Int) : PureV C 66 [.s (.int .i64 t)] (.s (.bool (typB t))) := by
  refine pure_of_run Tryd.func66 rfl (by kernel_rfl) (by kernel_rfl) (by simp) (fun _ => rfl) (fun _ => rfl) 6 1000 ?_
  simp +contextual (maxSteps := 2000000) (disch := ((try unfold LIM at *); omega)) only [↓bcase_true, ↓bcase_false, WA, simprocAttr, wrap_i64]
  refine CallThen.pure (walk47 t 1 3) 1000 ?_
  simp +contextual (maxSteps := 2000000) (disch := ((try unfold LIM at *); omega)) only [↓bcase_true, ↓bcase_false, WA, simprocAttr, wrap_i64, typB]
theorem walk68 (t : Int) : PureV C 68 [.s (.int .i64 t)] (.s (.bool (rangeB t (-99999999999999999) 99999999999999999))) := by
  refine pure_of_run Tryd.func68 rfl (by kernel_rfl) (by kernel_rfl) (by simp) (fun _ => rfl) (fun _ => rfl) 6 1000 ?_
  simp +contextual (maxSteps := 2000000) (disch := ((try unfold LIM at *); omega)) only [↓bcase_true, ↓bcase_false, WA, simprocAttr, wrap_i64]
  refine CallThen.pure (walk47 t _ _) 1000 ?_
  simp +contextual (maxSteps := 2000000) (disch := ((try unfold LIM at *); omega)) only [↓bcase_true, ↓bcase_false, WA, simprocAttr, wrap_i64]
theorem walk27 (n : Int) (k : Nat) (hk : k ≤ 1048576) : PureV C 27 [.s (.int .i64 n), .s (.int .i64 k)] (.s (.bool (rangeB n 0 ((k : Int) - 1)))) := by
  refine pure_of_run Tryd.func27 rfl (by kernel_rfl) (by kernel_rfl) (by simp) (fun _ => rfl) (fun _ => rfl) 6 1000 ?_
  simp +contextual (maxSteps := 2000000) (disch := ((try unfold LIM at *); omega)) only [↓bcase_true, ↓bcase_false, WA, simprocAttr, wrap_i64]
  refine CallThen.pure (walk47 n 0 _) 1000 ?_
  simp +contextual (maxSteps := 2000000) (disch := ((try unfold LIM at *); omega)) only [↓bcase_true, ↓bcase_false, WA, simprocAttr, wrap_i64]
theorem walk82 (t : Int) : PureV C 82 [.s (.int .i64 t)] (.s (.bool (!typB t))) := by
  refine pure_of_run Tryd.func82 rfl (by kernel_rfl) (by kernel_rfl) (by simp) (fun _ => rfl) (fun _ => rfl) 6 1000 ?_
  simp +contextual (maxSteps := 2000000) (disch := ((try unfold LIM at *); omega)) only [↓bcase_true, ↓bcase_false, WA, simprocAttr, wrap_i64]
  refine CallThen.pure (walk66 t) 1000 ?_
  simp +contextual (maxSteps := 2000000) (disch := ((try unfold LIM at *); omega)) only [↓bcase_true, ↓bcase_false, WA, simprocAttr, wrap_i64]
theorem walk41 (x : Ins) : PureV C 41 [.agg (insV x)] (.s (.bool (insB x))) := by
  refine pure_of_run Tryd.func41 rfl (by kernel_rfl) (by kernel_rfl) (by simp) (fun _ => rfl) (fun _ => rfl) 6 1000 ?_
  by_cases c1 : x.op = 1
  · simp +contextual (maxSteps := 2000000) (disch := ((try unfold LIM at *); omega)) only [↓bcase_true, ↓bcase_false, WA, simprocAttr, wrap_i64, insV, c1]
    refine CallThen.pure (walk68 x.a) 1000 ?_
    simp +contextual (maxSteps := 2000000) (disch := ((try unfold LIM at *); omega)) only [↓bcase_true, ↓bcase_false, WA, simprocAttr, wrap_i64, insB, c1]
  by_cases c2 : x.op = 2
  · simp +contextual (maxSteps := 2000000) (disch := ((try unfold LIM at *); omega)) only [↓bcase_true, ↓bcase_false, WA, simprocAttr, wrap_i64, insV, c2]
    refine CallThen.pure (walk47 x.a 0 1) 1000 ?_
    simp +contextual (maxSteps := 2000000) (disch := ((try unfold LIM at *); omega)) only [↓bcase_true, ↓bcase_false, WA, simprocAttr, wrap_i64, insB, c2]
  by_cases c3 : x.op = 9
  · simp +contextual (maxSteps := 2000000) (disch := ((try unfold LIM at *); omega)) only [↓bcase_true, ↓bcase_false, WA, simprocAttr, wrap_i64, insV, c3, insB]
  simp +contextual (maxSteps := 2000000) (disch := ((try unfold LIM at *); omega)) only [↓bcase_true, ↓bcase_false, WA, simprocAttr, wrap_i64, insV, c1, c2, c3]
  refine CallThen.pure (walk47 x.op 1 10) 1000 ?_
  cases h1 : rangeB x.op 1 10
  · simp +contextual (maxSteps := 2000000) (disch := ((try unfold LIM at *); omega)) only [↓bcase_true, ↓bcase_false, WA, simprocAttr, wrap_i64, h1, insB, c1, c2, c3]
  · simp +contextual (maxSteps := 2000000) (disch := ((try unfold LIM at *); omega)) only [↓bcase_true, ↓bcase_false, WA, simprocAttr, wrap_i64]
    refine CallThen.pure (walk47 x.a 0 1000) 1000 ?_
    simp +contextual (maxSteps := 2000000) (disch := ((try unfold LIM at *); omega)) only [↓bcase_true, ↓bcase_false, WA, simprocAttr, wrap_i64, h1, insB, c1, c2, c3]
theorem walk40 (x : Ins) : PureV C 40 [.agg (insV x)] (.s (.bool (!insB x))) := by
  refine pure_of_run Tryd.func40 rfl (by kernel_rfl) (by kernel_rfl) (by simp) (fun _ => rfl) (fun _ => rfl) 6 1000 ?_
  simp +contextual (maxSteps := 2000000) (disch := ((try unfold LIM at *); omega)) only [↓bcase_true, ↓bcase_false, WA, simprocAttr, wrap_i64, insV]
  refine CallThen.pure (walk41 x) 1000 ?_
  simp +contextual (maxSteps := 2000000) (disch := ((try unfold LIM at *); omega)) only [↓bcase_true, ↓bcase_false, WA, simprocAttr, wrap_i64]
def idxL {α : Type} (p : α → Bool) : List α → Int → Int
  | [], _ => -1
  | a :: r, i => if p a = true then i else idxL p r (i + 1)
theorem idxL_any {α : Type} (p : α → Bool) : ∀ (l : List α) (i : Int), 0 ≤ i → decide (0 ≤ idxL p l i) = l.any p
  | [], i, h => by simp [idxL]
  | a :: r, i, h => by
    simp only [idxL, List.any_cons]
    by_cases hp : p a = true
    · simp [hp, h]
    · have e := idxL_any p r (i + 1) (by omega)
      simp only [Bool.not_eq_true] at hp
      simp [hp, e]
theorem walk94 (l : List ByteArray) (s : ByteArray) : PureV C 94 [.f 1 (l.map sV), .s (.string s)] (.s (.int .i64 (idxL (fun w => decide (w = s)) l 0))) := by
  refine pure_of_run Tryd.func94 rfl (by kernel_rfl) (by kernel_rfl) (by simp) (fun _ => rfl) (fun _ => rfl) 6 1000 ?_
  simp +contextual (maxSteps := 2000000) (disch := ((try unfold LIM at *); omega)) only [↓bcase_true, ↓bcase_false, WA, simprocAttr, wrap_i64, List.length_map]
  intro hl
  refine LoopThen.pure (ι := Nat) (fun i => i ≤ l.length ∧ idxL (fun w => decide (w = s)) (l.drop i) i = idxL (fun w => decide (w = s)) l 0) (fun i => keepL [(0, .f 1 (l.map sV)), (1, .s (.string s)), (7, .s (.int .i64 l.length)), (8, .s (.int .i64 i))]) (fun i => l.length - i)
    6 [0, 1, 7, 8] 1000 1000 ⟨0, ⟨by omega, rfl⟩, by simp +contextual (maxSteps := 2000000) (disch := ((try unfold LIM at *); omega)) only [↓bcase_true, ↓bcase_false, WA, simprocAttr, wrap_i64]⟩ ?_
  rintro i ⟨p1, p4⟩
  by_cases c2 : (i : Int) < l.length
  · obtain ⟨f, hf⟩ := get_lt c2
    have pi : (0 : Int) ≤ i := by omega
    rw [drop_cons hf] at p4
    simp only [idxL] at p4
    by_cases c3 : f = s
    · rw [if_pos (by simp [c3])] at p4
      simp +contextual (maxSteps := 2000000) (disch := ((try unfold LIM at *); omega)) only [↓bcase_true, ↓bcase_false, WA, simprocAttr, wrap_i64, List.length_map, hl, c2, hf, pi, sV, c3, ← p4]
    · rw [if_neg (by simp [c3])] at p4
      have c3' : ¬ s = f := fun e => c3 e.symm
      simp +contextual (maxSteps := 2000000) (disch := ((try unfold LIM at *); omega)) only [↓bcase_true, ↓bcase_false, WA, simprocAttr, wrap_i64, List.length_map, hl, c2, hf, pi, sV, c3', cast_succ]
      refine ⟨i + 1, ⟨⟨by omega, ?_⟩, by omega⟩, rfl⟩
      rw [← p4]; rfl
  · have e : i = l.length := by omega
    subst e
    simp only [List.drop_length, idxL] at p4
    simp +contextual (maxSteps := 2000000) (disch := ((try unfold LIM at *); omega)) only [↓bcase_true, ↓bcase_false, WA, simprocAttr, wrap_i64, List.length_map, hl, c2, ← p4]
theorem walk81 (l : List ByteArray) (s : ByteArray) : PureV C 81 [.f 1 (l.map sV), .s (.string s)] (.s (.bool (l.any fun w => decide (w = s)))) := by
  refine pure_of_run Tryd.func81 rfl (by kernel_rfl) (by kernel_rfl) (by simp) (fun _ => rfl) (fun _ => rfl) 6 1000 ?_
  simp +contextual (maxSteps := 2000000) (disch := ((try unfold LIM at *); omega)) only [↓bcase_true, ↓bcase_false, WA, simprocAttr, wrap_i64]
  refine CallThen.pure (walk94 l s) 1000 ?_
  simp +contextual (maxSteps := 2000000) (disch := ((try unfold LIM at *); omega)) only [↓bcase_true, ↓bcase_false, WA, simprocAttr, wrap_i64, idxL_any _ l 0 (Int.le_refl 0)]
theorem walk69 (l : List Int) (g : Nat) (caps : List V) (p : Int → Bool) (hc : ∀ ρ, caps.map (rnP ρ) = caps) (hz : ∀ d h, caps.map (frz 0 d h) = caps) (hp : ∀ x ∈ l, PureV C g (.s (.int .i64 x) :: caps) (.s (.bool (p x)))) : PureV C 69 [.f 1 (l.map iV), .fn g caps] (.s (.int .i64 (idxL p l 0))) := by
  refine pure_of_run Tryd.func69 rfl (by kernel_rfl) (by kernel_rfl) (by simp) (fun ρ => by show [V.f 1 _, V.fn g (caps.map (rnP ρ))] = _; rw [hc]) (fun _ => rfl) 6 1000 ?_
  simp +contextual (maxSteps := 2000000) (disch := ((try unfold LIM at *); omega)) only [↓bcase_true, ↓bcase_false, WA, simprocAttr, wrap_i64, List.length_map]
  intro hl
  refine LoopThen.pure (ι := Nat) (fun i => i ≤ l.length ∧ idxL p (l.drop i) i = idxL p l 0) (fun i => keepL [(0, .f 1 (l.map iV)), (1, .fn g caps), (7, .s (.int .i64 l.length)), (8, .s (.int .i64 i))]) (fun i => l.length - i)
    6 [0, 1, 7, 8] 1000 1000 ⟨0, ⟨by omega, rfl⟩, by simp +contextual (maxSteps := 2000000) (disch := ((try unfold LIM at *); omega)) only [↓bcase_true, ↓bcase_false, WA, simprocAttr, wrap_i64, hz]⟩ ?_
  rintro i ⟨p1, p4⟩
  by_cases c2 : (i : Int) < l.length
  · obtain ⟨f, hf⟩ := get_lt c2
    have pi : (0 : Int) ≤ i := by omega
    rw [drop_cons hf] at p4
    simp only [idxL] at p4
    simp +contextual (maxSteps := 2000000) (disch := ((try unfold LIM at *); omega)) only [↓bcase_true, ↓bcase_false, WA, simprocAttr, wrap_i64, List.length_map, hl, c2, hf, pi, iV, cast_succ]
    refine CallThen.pure (hp f (List.mem_of_getElem? hf)) 1000 ?_
    cases c3 : p f
    · rw [c3, if_neg (by simp)] at p4
      simp +contextual (maxSteps := 2000000) (disch := ((try unfold LIM at *); omega)) only [↓bcase_true, ↓bcase_false, WA, simprocAttr, wrap_i64, cast_succ, hz]
      refine ⟨i + 1, ⟨⟨by omega, ?_⟩, by omega⟩, rfl⟩
      rw [← p4]; rfl
    · rw [c3, if_pos rfl] at p4
      simp +contextual (maxSteps := 2000000) (disch := ((try unfold LIM at *); omega)) only [↓bcase_true, ↓bcase_false, WA, simprocAttr, wrap_i64, ← p4]
  · have e : i = l.length := by omega
    subst e
    simp only [List.drop_length, idxL] at p4
    simp +contextual (maxSteps := 2000000) (disch := ((try unfold LIM at *); omega)) only [↓bcase_true, ↓bcase_false, WA, simprocAttr, wrap_i64, List.length_map, hl, c2, ← p4]
theorem walk42 (l : List Int) (g : Nat) (caps : List V) (p : Int → Bool) (hc : ∀ ρ, caps.map (rnP ρ) = caps) (hz : ∀ d h, caps.map (frz 0 d h) = caps) (hp : ∀ x ∈ l, PureV C g (.s (.int .i64 x) :: caps) (.s (.bool (p x)))) : PureV C 42 [.f 1 (l.map iV), .fn g caps] (.s (.bool (l.any p))) := by
  refine pure_of_run Tryd.func42 rfl (by kernel_rfl) (by kernel_rfl) (by simp) (fun ρ => by show [V.f 1 _, V.fn g (caps.map (rnP ρ))] = _; rw [hc]) (fun _ => rfl) 6 1000 ?_
  simp +contextual (maxSteps := 2000000) (disch := ((try unfold LIM at *); omega)) only [↓bcase_true, ↓bcase_false, WA, simprocAttr, wrap_i64]
  refine CallThen.pure (walk69 l g caps p hc hz hp) 1000 ?_
  simp +contextual (maxSteps := 2000000) (disch := ((try unfold LIM at *); omega)) only [↓bcase_true, ↓bcase_false, WA, simprocAttr, wrap_i64, idxL_any _ l 0 (Int.le_refl 0)]
theorem walk67 (l : List Ins) (g : Nat) (p : Ins → Bool) (hp : ∀ x ∈ l, PureV C g [.agg (insV x)] (.s (.bool (p x)))) : PureV C 67 [.f 2 (l.map insV), .fn g []] (.s (.int .i64 (idxL p l 0))) := by
  refine pure_of_run Tryd.func67 rfl (by kernel_rfl) (by kernel_rfl) (by simp) (fun _ => rfl) (fun _ => rfl) 6 1000 ?_
  simp +contextual (maxSteps := 2000000) (disch := ((try unfold LIM at *); omega)) only [↓bcase_true, ↓bcase_false, WA, simprocAttr, wrap_i64, List.length_map]
  intro hl
  refine LoopThen.pure (ι := Nat) (fun i => i ≤ l.length ∧ idxL p (l.drop i) i = idxL p l 0) (fun i => keepL [(0, .f 2 (l.map insV)), (1, .fn g []), (7, .s (.int .i64 l.length)), (8, .s (.int .i64 i))]) (fun i => l.length - i)
    6 [0, 1, 7, 8] 1000 1000 ⟨0, ⟨by omega, rfl⟩, by simp +contextual (maxSteps := 2000000) (disch := ((try unfold LIM at *); omega)) only [↓bcase_true, ↓bcase_false, WA, simprocAttr, wrap_i64]⟩ ?_
  rintro i ⟨p1, p4⟩
  by_cases c2 : (i : Int) < l.length
  · obtain ⟨f, hf⟩ := get_lt c2
    have pi : (0 : Int) ≤ i := by omega
    rw [drop_cons hf] at p4
    simp only [idxL] at p4
    have hpf := hp f (List.mem_of_getElem? hf)
    simp only [insV] at hpf
    simp +contextual (maxSteps := 2000000) (disch := ((try unfold LIM at *); omega)) only [↓bcase_true, ↓bcase_false, WA, simprocAttr, wrap_i64, List.length_map, hl, c2, hf, pi, insV, cast_succ]
    refine CallThen.pure hpf 1000 ?_
    cases c3 : p f
    · rw [c3, if_neg (by simp)] at p4
      simp +contextual (maxSteps := 2000000) (disch := ((try unfold LIM at *); omega)) only [↓bcase_true, ↓bcase_false, WA, simprocAttr, wrap_i64, cast_succ]
      refine ⟨i + 1, ⟨⟨by omega, ?_⟩, by omega⟩, rfl⟩
      rw [← p4]; rfl
    · rw [c3, if_pos rfl] at p4
      simp +contextual (maxSteps := 2000000) (disch := ((try unfold LIM at *); omega)) only [↓bcase_true, ↓bcase_false, WA, simprocAttr, wrap_i64, ← p4]
  · have e : i = l.length := by omega
    subst e
    simp only [List.drop_length, idxL] at p4
    simp +contextual (maxSteps := 2000000) (disch := ((try unfold LIM at *); omega)) only [↓bcase_true, ↓bcase_false, WA, simprocAttr, wrap_i64, List.length_map, hl, c2, ← p4]
theorem walk39 (l : List Ins) (g : Nat) (p : Ins → Bool) (hp : ∀ x ∈ l, PureV C g [.agg (insV x)] (.s (.bool (p x)))) : PureV C 39 [.f 2 (l.map insV), .fn g []] (.s (.bool (l.any p))) := by
  refine pure_of_run Tryd.func39 rfl (by kernel_rfl) (by kernel_rfl) (by simp) (fun _ => rfl) (fun _ => rfl) 6 1000 ?_
  simp +contextual (maxSteps := 2000000) (disch := ((try unfold LIM at *); omega)) only [↓bcase_true, ↓bcase_false, WA, simprocAttr, wrap_i64]
  refine CallThen.pure (walk67 l g p hp) 1000 ?_
  simp +contextual (maxSteps := 2000000) (disch := ((try unfold LIM at *); omega)) only [↓bcase_true, ↓bcase_false, WA, simprocAttr, wrap_i64, idxL_any _ l 0 (Int.le_refl 0)]
theorem any_not {α : Type} (p : α → Bool) : ∀ (l : List α), (!l.any fun x => !p x) = l.all p
  | [] => rfl
  | a :: r => by simp only [List.any_cons, List.all_cons, Bool.not_or, Bool.not_not, any_not p r]
theorem walk65 (l : List Int) : PureV C 65 [.f 1 (l.map iV)] (.s (.bool (decide (l.length ≤ 4) && l.all typB))) := by
  refine pure_of_run Tryd.func65 rfl (by kernel_rfl) (by kernel_rfl) (by simp) (fun _ => rfl) (fun _ => rfl) 6 1000 ?_
  have w42 := walk42 l 82 [] (fun t => !typB t) (fun _ => rfl) (fun _ _ => rfl) (fun x _ => walk82 x)
  have ha := any_not typB l
  by_cases c1 : (l.length : Int) ≤ 4
  · have c1' : l.length ≤ 4 := by omega
    simp +contextual (maxSteps := 2000000) (disch := ((try unfold LIM at *); omega)) only [↓bcase_true, ↓bcase_false, WA, simprocAttr, wrap_i64, List.length_map, c1]
    intro hl
    refine CallThen.pure w42 1000 ?_
    simp +contextual (maxSteps := 2000000) (disch := ((try unfold LIM at *); omega)) only [↓bcase_true, ↓bcase_false, WA, simprocAttr, wrap_i64, ha, c1']
  · have c1' : ¬ l.length ≤ 4 := by omega
    simp +contextual (maxSteps := 2000000) (disch := ((try unfold LIM at *); omega)) only [↓bcase_true, ↓bcase_false, WA, simprocAttr, wrap_i64, List.length_map, c1, c1']
def keptV : List (List V) := kept.map sV
theorem walk64 (s : ByteArray) : PureV C 64 [.s (.string s)] (.s (.bool (kept.any fun w => decide (w = s)))) := by
  refine pure_of_run Tryd.func64 rfl (by kernel_rfl) (by kernel_rfl) (by simp) (fun _ => rfl) (fun _ => rfl) 6 1000 ?_
  simp +contextual (maxSteps := 2000000) (disch := ((try unfold LIM at *); omega)) only [↓bcase_true, ↓bcase_false, WA, simprocAttr, wrap_i64, List.replicate]
  refine CallThen.borrow (walk81 kept s) (flat_s _) 6 ?_ 1000 ?_
  · simp +contextual (maxSteps := 2000000) (disch := ((try unfold LIM at *); omega)) only [↓bcase_true, ↓bcase_false, WA, simprocAttr, wrap_i64, kept, sV]
  · simp +contextual (maxSteps := 2000000) (disch := ((try unfold LIM at *); omega)) only [↓bcase_true, ↓bcase_false, WA, simprocAttr, wrap_i64]
def lowV (c : UInt8) : V := .s (.int .u8 c.toNat)
theorem low_true {c : UInt8} (h : low c = true) : ¬ (c.toNat : Int) < 97 ∧ ¬ (122 : Int) < c.toNat := by
  simp only [low, Bool.and_eq_true, decide_eq_true_eq] at h; omega
theorem walk37 (s : ByteArray) : PureV C 37 [.s (.string s)] (.s (.bool (nameB s))) := by
  refine pure_of_run Tryd.func37 rfl (by kernel_rfl) (by kernel_rfl) (by simp) (fun _ => rfl) (fun _ => rfl) 6 1000 ?_
  simp +contextual (maxSteps := 2000000) (disch := ((try unfold LIM at *); omega)) only [↓bcase_true, ↓bcase_false, WA, simprocAttr, wrap_i64]
  intro hl
  refine LoopThen.pure (ι := Nat) (fun i => i ≤ s.size ∧ (s.data.toList.drop i).all low = s.data.toList.all low) (fun i => keepL [(0, .s (.string s)), (5, .s (.int .i64 s.size)), (6, .s (.int .i64 i))]) (fun i => s.size - i)
    6 [0, 5, 6] 1000 1000 ⟨0, ⟨by omega, rfl⟩, by simp +contextual (maxSteps := 2000000) (disch := ((try unfold LIM at *); omega)) only [↓bcase_true, ↓bcase_false, WA, simprocAttr, wrap_i64]⟩ ?_
  rintro i ⟨p1, p4⟩
  by_cases c2 : (i : Int) < s.size
  · have hlt : i < s.size := by omega
    have hb : s[i]? = some s[i] := getElem?_pos s i hlt
    have hb' : s.data.toList[i]? = some s[i] := by
      simp only [ByteArray.size] at hlt
      rw [Array.getElem?_toList, Array.getElem?_eq_getElem hlt]; rfl
    have pi : (0 : Int) ≤ i := by omega
    rw [drop_cons hb'] at p4
    simp only [List.all_cons] at p4
    generalize s[i] = c at *
    cases c3 : low c
    · rw [c3, Bool.false_and] at p4
      have e : nameB s = false := by simp only [nameB, ← p4, Bool.false_and]
      simp only [low, Bool.and_eq_false_iff, decide_eq_false_iff_not] at c3
      by_cases c4 : (c.toNat : Int) < 97
      · simp +contextual (maxSteps := 2000000) (disch := ((try unfold LIM at *); omega)) only [↓bcase_true, ↓bcase_false, WA, simprocAttr, wrap_i64, c2, hb, pi, c4, e]
      · have c5 : (122 : Int) < c.toNat := by omega
        simp +contextual (maxSteps := 2000000) (disch := ((try unfold LIM at *); omega)) only [↓bcase_true, ↓bcase_false, WA, simprocAttr, wrap_i64, c2, hb, pi, c4, c5, e]
    · rw [c3, Bool.true_and] at p4
      obtain ⟨c4, c5⟩ := low_true c3
      simp +contextual (maxSteps := 2000000) (disch := ((try unfold LIM at *); omega)) only [↓bcase_true, ↓bcase_false, WA, simprocAttr, wrap_i64, c2, hb, pi, c4, c5, cast_succ]
      exact ⟨i + 1, ⟨⟨by omega, p4⟩, by omega⟩, rfl⟩
  · have e : i = s.size := by omega
    subst e
    have : s.data.toList.drop s.size = [] := List.drop_eq_nil_of_le (show s.data.toList.length ≤ s.size from Nat.le_of_eq Array.length_toList)
    rw [this] at p4
    simp only [List.all_nil] at p4
    simp +contextual (maxSteps := 2000000) (disch := ((try unfold LIM at *); omega)) only [↓bcase_true, ↓bcase_false, WA, simprocAttr, wrap_i64, c2]
    intro hl2
    refine CallThen.pure (walk47 s.size 1 8) 1000 ?_
    have er : rangeB (s.size : Int) 1 8 = (decide (1 ≤ s.size) && decide (s.size ≤ 8)) := by
      unfold rangeB
      congr 1 <;> exact decide_eq_decide.2 (by omega)
    rw [er]
    cases c3 : (decide (1 ≤ s.size) && decide (s.size ≤ 8))
    · simp +contextual (maxSteps := 2000000) (disch := ((try unfold LIM at *); omega)) only [↓bcase_true, ↓bcase_false, WA, simprocAttr, wrap_i64, nameB, ← p4, c3]
    · simp +contextual (maxSteps := 2000000) (disch := ((try unfold LIM at *); omega)) only [↓bcase_true, ↓bcase_false, WA, simprocAttr, wrap_i64]
      refine CallThen.pure (walk64 s) 1000 ?_
      simp +contextual (maxSteps := 2000000) (disch := ((try unfold LIM at *); omega)) only [↓bcase_true, ↓bcase_false, WA, simprocAttr, wrap_i64, nameB, ← p4, c3]
theorem walk38 (n : ByteArray) (l : List Int) (t sl : Int) : PureV C 38 [.s (.string n), .f 1 (l.map iV), .s (.int .i64 t), .s (.int .i64 sl)] (.s (.bool (headB n l t sl))) := by
  refine pure_of_run Tryd.func38 rfl (by kernel_rfl) (by kernel_rfl) (by simp) (fun _ => rfl) (fun _ => rfl) 6 1000 ?_
  simp +contextual (maxSteps := 2000000) (disch := ((try unfold LIM at *); omega)) only [↓bcase_true, ↓bcase_false, WA, simprocAttr, wrap_i64]
  refine CallThen.pure (walk37 n) 1000 ?_
  have rest : ∀ b : Bool, (nameB n || decide (n = mainS)) = b → headB n l t sl = (b && (decide (l.length ≤ 4) && l.all typB) && typB t && rangeB sl 0 1000) := fun b e => by simp only [headB, e]
  cases c1 : nameB n
  · by_cases c2 : n = ⟨#[109, 97, 105, 110]⟩
    · have e1 := rest true (by simp [c2, mainS])
      simp +contextual (maxSteps := 2000000) (disch := ((try unfold LIM at *); omega)) only [↓bcase_true, ↓bcase_false, WA, simprocAttr, wrap_i64, c2]
      refine CallThen.pure (walk65 l) 1000 ?_
      cases c3 : (decide (l.length ≤ 4) && l.all typB)
      · subst c2; simp +contextual (maxSteps := 2000000) (disch := ((try unfold LIM at *); omega)) only [↓bcase_true, ↓bcase_false, WA, simprocAttr, wrap_i64, e1, c3]
      simp +contextual (maxSteps := 2000000) (disch := ((try unfold LIM at *); omega)) only [↓bcase_true, ↓bcase_false, WA, simprocAttr, wrap_i64]
      refine CallThen.pure (walk66 t) 1000 ?_
      cases c4 : typB t
      · subst c2; simp +contextual (maxSteps := 2000000) (disch := ((try unfold LIM at *); omega)) only [↓bcase_true, ↓bcase_false, WA, simprocAttr, wrap_i64, e1, c3, c4]
      simp +contextual (maxSteps := 2000000) (disch := ((try unfold LIM at *); omega)) only [↓bcase_true, ↓bcase_false, WA, simprocAttr, wrap_i64]
      refine CallThen.pure (walk47 sl 0 1000) 1000 ?_
      subst c2; simp +contextual (maxSteps := 2000000) (disch := ((try unfold LIM at *); omega)) only [↓bcase_true, ↓bcase_false, WA, simprocAttr, wrap_i64, e1, c3, c4]
    · have e1 := rest false (by simp [c1, c2, mainS])
      simp +contextual (maxSteps := 2000000) (disch := ((try unfold LIM at *); omega)) only [↓bcase_true, ↓bcase_false, WA, simprocAttr, wrap_i64, c2, e1]
  · have e1 := rest true (by simp [c1])
    simp +contextual (maxSteps := 2000000) (disch := ((try unfold LIM at *); omega)) only [↓bcase_true, ↓bcase_false, WA, simprocAttr, wrap_i64]
    refine CallThen.pure (walk65 l) 1000 ?_
    cases c3 : (decide (l.length ≤ 4) && l.all typB)
    · simp +contextual (maxSteps := 2000000) (disch := ((try unfold LIM at *); omega)) only [↓bcase_true, ↓bcase_false, WA, simprocAttr, wrap_i64, e1, c3]
    simp +contextual (maxSteps := 2000000) (disch := ((try unfold LIM at *); omega)) only [↓bcase_true, ↓bcase_false, WA, simprocAttr, wrap_i64]
    refine CallThen.pure (walk66 t) 1000 ?_
    cases c4 : typB t
    · simp +contextual (maxSteps := 2000000) (disch := ((try unfold LIM at *); omega)) only [↓bcase_true, ↓bcase_false, WA, simprocAttr, wrap_i64, e1, c3, c4]
    simp +contextual (maxSteps := 2000000) (disch := ((try unfold LIM at *); omega)) only [↓bcase_true, ↓bcase_false, WA, simprocAttr, wrap_i64]
    refine CallThen.pure (walk47 sl 0 1000) 1000 ?_
    simp +contextual (maxSteps := 2000000) (disch := ((try unfold LIM at *); omega)) only [↓bcase_true, ↓bcase_false, WA, simprocAttr, wrap_i64, e1, c3, c4]
end Go.Proofs.YtijefmjfdhfjmaaDoor
/- part S2 -/
set_option linter.unusedVariables false
set_option linter.unusedSimpArgs false
set_option maxRecDepth 100000
namespace Go.Proofs.YtijefmjfdhfjmaaDoor
open Go Go.W Go.RowKit
theorem walk43 (cs : List V) (fs : List IFun) (n : Int) (hk : fs.length ≤ 1048576) : PureV C 43 [.s (.int .i64 n), .pd (.f 6 (fs.map fnV) :: cs)] (.s (.bool (!rangeB n 0 ((fs.length : Int) - 1)))) := by
  refine pure_of_run Tryd.func43 rfl (by kernel_rfl) (by kernel_rfl) (by simp) (fun _ => rfl) (fun _ => rfl) 6 1000 ?_
  simp +contextual (maxSteps := 2000000) (disch := ((try unfold LIM at *); omega)) only [↓bcase_true, ↓bcase_false, WA, simprocAttr, wrap_i64, List.length_map]
  intro hl
  refine CallThen.pure (walk27 n fs.length hk) 1000 ?_
  simp +contextual (maxSteps := 2000000) (disch := ((try unfold LIM at *); omega)) only [↓bcase_true, ↓bcase_false, WA, simprocAttr, wrap_i64]
def okF (f : IFun) : Bool := nameB f.mod && headB f.name f.args f.typ f.slots && decide (f.code.length ≤ 460) && f.code.all insB
theorem sizeN_drop : ∀ {fs : List IFun} {i : Nat} {f : IFun}, fs[i]? = some f → sizeN (fs.drop i) = f.code.length + sizeN (fs.drop (i + 1)) := fun h => by rw [drop_cons h]; rfl
/-- What the loop has left to tell. -/
def tailB (m : Img) : Bool := decide (m.funs.length ≤ 72) && decide (m.mains.length ≤ 8) && decide (sizeN m.funs ≤ 3680) && m.mains.all fun n => rangeB n 0 ((m.funs.length : Int) - 1)
theorem imgB_eq (m : Img) : imgB m = (m.funs.all okF && tailB m) := by
  unfold imgB tailB
  rw [Bool.and_assoc]; rfl
theorem walk23 (m : Img) (hk : m.funs.length ≤ 1048576) (hm : m.mains.length ≤ 1048576) (hs : sizeN m.funs ≤ 1048576) : PureV C 23 [.agg (imgV m)] (.s (.bool (imgB m))) := by
  refine pure_of_run Tryd.func23 rfl (by kernel_rfl) (by kernel_rfl) (by simp) (fun _ => rfl) (fun _ => rfl) 6 1000 ?_
  simp +contextual (maxSteps := 2000000) (disch := ((try unfold LIM at *); omega)) only [↓bcase_true, ↓bcase_false, WA, simprocAttr, wrap_i64, imgV, List.length_map]
  intro hl
  refine LoopThen.own (ι := Nat × Nat) (fun p => p.1 ≤ m.funs.length ∧ p.2 + sizeN (m.funs.drop p.1) = sizeN m.funs ∧ (m.funs.drop p.1).all okF = m.funs.all okF)
    (fun p => [(1, .ptr 0 0 0), (3, .s (.int .i64 p.2)), (7, .f 6 (m.funs.map fnV)), (8, .s (.int .i64 m.funs.length)), (9, .s (.int .i64 p.1))])
    (fun _ => [⟨[[.f 6 (m.funs.map fnV), .f 1 (m.mains.map iV)]], 2, 1, true⟩]) (fun p => m.funs.length - p.1) 1000 1000
    ⟨(0, 0), ⟨Nat.zero_le _, by simp, rfl⟩, [0], by simp, by simp +contextual (maxSteps := 2000000) (disch := ((try unfold LIM at *); omega)) only [↓bcase_true, ↓bcase_false, WA, simprocAttr, wrap_i64], by simp +contextual (maxSteps := 2000000) (disch := ((try unfold LIM at *); omega)) only [↓bcase_true, ↓bcase_false, WA, simprocAttr, wrap_i64, nm_at]⟩ ?_
  rintro ⟨i, a⟩ ⟨p1, p2, p3⟩
  by_cases c2 : (i : Int) < m.funs.length
  · obtain ⟨f, hf⟩ := get_lt c2
    have pi : (0 : Int) ≤ i := by omega
    rw [drop_cons hf] at p3
    simp only [List.all_cons] at p3
    rw [sizeN_drop hf] at p2
    have b1 : (a : Int) + f.code.length ≤ 1048576 := by omega
    simp +contextual (maxSteps := 2000000) (disch := ((try unfold LIM at *); omega)) only [↓bcase_true, ↓bcase_false, WA, simprocAttr, wrap_i64, List.length_map, hl, c2, hf, pi, fnV]
    intro hcl
    refine CallThen.pure (walk37 f.mod) 1000 ?_
    cases c3 : nameB f.mod
    · have e : imgB m = false := by
        rw [imgB_eq, ← p3]; simp only [okF, c3, Bool.false_and]
      simp +contextual (maxSteps := 2000000) (disch := ((try unfold LIM at *); omega)) only [↓bcase_true, ↓bcase_false, WA, simprocAttr, wrap_i64, c3, e]
    simp +contextual (maxSteps := 2000000) (disch := ((try unfold LIM at *); omega)) only [↓bcase_true, ↓bcase_false, WA, simprocAttr, wrap_i64]
    refine CallThen.pure (walk38 f.name f.args f.typ f.slots) 1000 ?_
    cases c4 : headB f.name f.args f.typ f.slots
    · have e : imgB m = false := by
        rw [imgB_eq, ← p3]; simp only [okF, c4, Bool.false_and, Bool.and_false]
      simp +contextual (maxSteps := 2000000) (disch := ((try unfold LIM at *); omega)) only [↓bcase_true, ↓bcase_false, WA, simprocAttr, wrap_i64, c4, e]
    by_cases c5 : (460 : Int) < f.code.length
    · have e : imgB m = false := by
        have : ¬ f.code.length ≤ 460 := by omega
        rw [imgB_eq, ← p3]; simp only [okF, this, decide_false, Bool.false_and, Bool.and_false]
      simp +contextual (maxSteps := 2000000) (disch := ((try unfold LIM at *); omega)) only [↓bcase_true, ↓bcase_false, WA, simprocAttr, wrap_i64, List.length_map, c5, e]
    have c5' : f.code.length ≤ 460 := by omega
    simp +contextual (maxSteps := 2000000) (disch := ((try unfold LIM at *); omega)) only [↓bcase_true, ↓bcase_false, WA, simprocAttr, wrap_i64, List.length_map, c5]
    intro hcl2
    refine CallThen.pure (walk39 f.code 40 (fun x => !insB x) (fun x _ => walk40 x)) 1000 ?_
    have ha := any_not insB f.code
    cases c6 : f.code.any fun x => !insB x
    · rw [c6] at ha
      have eo : okF f = true := by simp only [okF, c3, c4, c5', ← ha, decide_true, Bool.and_self, Bool.not_false]
      rw [eo, Bool.true_and] at p3
      simp +contextual (maxSteps := 2000000) (disch := ((try unfold LIM at *); omega)) only [↓bcase_true, ↓bcase_false, WA, simprocAttr, wrap_i64, List.length_map, cast_succ]
      exact ⟨(i + 1, a + f.code.length), ⟨⟨by simp only; omega, by simp only; omega, p3⟩, by simp only; omega⟩, [0], by simp, ⟨.inl ⟨rfl, rfl⟩, trivial⟩, by simp +contextual (maxSteps := 2000000) (disch := ((try unfold LIM at *); omega)) only [↓bcase_true, ↓bcase_false, WA, simprocAttr, wrap_i64, nm_at, Int.natCast_add]⟩
    · rw [c6] at ha
      have e : imgB m = false := by
        rw [imgB_eq, ← p3]; simp only [okF, ← ha, Bool.not_true, Bool.and_false, Bool.false_and]
      simp +contextual (maxSteps := 2000000) (disch := ((try unfold LIM at *); omega)) only [↓bcase_true, ↓bcase_false, WA, simprocAttr, wrap_i64, e]
  · have e : i = m.funs.length := by omega
    subst e
    simp only [List.drop_length, sizeN, List.all_nil] at p2 p3
    have e0 := imgB_eq m
    rw [← p3, Bool.true_and] at e0
    by_cases c3 : (m.funs.length : Int) ≤ 72
    · have c3' : m.funs.length ≤ 72 := by omega
      by_cases c4 : (m.mains.length : Int) ≤ 8
      · have c4' : m.mains.length ≤ 8 := by omega
        by_cases c5 : (a : Int) ≤ 3680
        · have c5' : sizeN m.funs ≤ 3680 := by omega
          have h42 := walk42 m.mains 43 [.pd [.f 6 (m.funs.map fnV), .f 1 (m.mains.map iV)]] (fun n => !rangeB n 0 ((m.funs.length : Int) - 1)) (fun _ => rfl) (fun _ _ => by simp only [List.map_cons, List.map_nil, frzs_pd]) (fun x _ => walk43 _ _ x hk)
          have ha := any_not (fun n => rangeB n 0 ((m.funs.length : Int) - 1)) m.mains
          simp +contextual (maxSteps := 2000000) (disch := ((try unfold LIM at *); omega)) only [↓bcase_true, ↓bcase_false, WA, simprocAttr, wrap_i64, List.length_map, c2, c3, c4, c5]
          intro hl2 hl3
          refine CallThen.borrow h42 (flat_s _) 6 ?_ 1000 ?_
          · simp +contextual (maxSteps := 2000000) (disch := ((try unfold LIM at *); omega)) only [↓bcase_true, ↓bcase_false, WA, simprocAttr, wrap_i64]
          · simp +contextual (maxSteps := 2000000) (disch := ((try unfold LIM at *); omega)) only [↓bcase_true, ↓bcase_false, WA, simprocAttr, wrap_i64, e0, tailB, c3', c4', c5', ← ha]
        · have c5' : ¬ sizeN m.funs ≤ 3680 := by omega
          simp +contextual (maxSteps := 2000000) (disch := ((try unfold LIM at *); omega)) only [↓bcase_true, ↓bcase_false, WA, simprocAttr, wrap_i64, List.length_map, c2, c3, c4, c5, e0, tailB, c3', c4', c5']
      · have c4' : ¬ m.mains.length ≤ 8 := by omega
        simp +contextual (maxSteps := 2000000) (disch := ((try unfold LIM at *); omega)) only [↓bcase_true, ↓bcase_false, WA, simprocAttr, wrap_i64, List.length_map, c2, c3, c4, e0, tailB, c3', c4']
    · have c3' : ¬ m.funs.length ≤ 72 := by omega
      simp +contextual (maxSteps := 2000000) (disch := ((try unfold LIM at *); omega)) only [↓bcase_true, ↓bcase_false, WA, simprocAttr, wrap_i64, List.length_map, c2, c3, e0, tailB, c3']
end Go.Proofs.YtijefmjfdhfjmaaDoor
/- part S3 -/
set_option linter.unusedVariables false
set_option linter.unusedSimpArgs false
set_option maxRecDepth 100000
namespace Go.Proofs.YtijefmjfdhfjmaaDoor
open Go Go.W Go.RowKit
theorem iV_nr (n : Int) : (iV n).all nr = true := rfl
theorem iV_ok (n : Int) : (iV n).all cellOk = true := rfl
theorem iV_plain (n : Int) : (iV n).all plain = true := rfl
theorem iV_fz (n : Int) : (iV n).all fzOk = true := rfl
def surB (m : Img) (fn at_ : Int) (x : V) : Blk := ⟨[[.f 6 (m.funs.map fnV), .f 1 (m.mains.map iV), .s (.int .i64 fn), .s (.int .i64 at_), x]], 5, 1, true⟩
def atC : Option At → List V
  | none => [.s (.pointer none)]
  | some a => [.lp [.l 1 (a.stack.map iV), .l 1 (a.slots.map iV)]]
theorem atC_nr (a : Option At) : (atC a).all nr = true := by cases a <;> rfl
def atsB (ats : Ats) : Blk := ⟨ats.map atC, 1, ats.length, true⟩
def nowB (a : At) : Blk := ⟨[[.l 1 (a.stack.map iV), .l 1 (a.slots.map iV)]], 2, 1, true⟩
theorem ats_nr (ats : Ats) : nrs (atsB ats).els = true := nrs_map atC_nr ats
theorem now_nr (a : At) : nrs (nowB a).els = true := rfl
theorem rnB_ats (ρ : Nat → Nat) (ats : Ats) : rnB ρ (atsB ats) = atsB ats := nrs_rn _ (ats_nr ats)
theorem rnB_now (ρ : Nat → Nat) (a : At) : rnB ρ (nowB a) = nowB a := nrs_rn _ (now_nr a)
theorem rnB_sur (ρ : Nat → Nat) (m : Img) (fn at_ : Int) (b o l c : Nat) : rnB ρ (surB m fn at_ (.sl b o l c)) = surB m fn at_ (.sl (ρ b) o l c) := rfl
def faultV (c f a : Int) : V := .s (.iface 28 (.agg #[.int .i64 c, .int .i64 f, .int .i64 a]))
theorem conc28 : C.P.concrete 28 = true := by kernel_rfl
theorem panQ {D : Cx} {n0 : Nat} {fn : Func} {R : Res → H → Prop} {v : V} {τ : Tau} {h : H} (hr : R (.pan v) h) : bodyQ D n0 fn R (.pan v) τ h := Up.refl (r := .pan v) hr
/-- It panics with a fault. -/
theorem walk70 (m : Img) (fn at_ c : Int) (x : V) (rest : H) : CallsV C 70 [.ptr 0 0 0, .s (.int .i64 c)] (surB m fn at_ x :: rest) fun res _ => res = .pan (faultV c fn at_) := by
  refine calls_of_run Tryd.func70 rfl (by kernel_rfl) (by kernel_rfl) (by simp) 1000 ?_
  simp +contextual (maxSteps := 2000000) (disch := ((try unfold LIM at *); omega)) only [↓bcase_true, ↓bcase_false, WA, simprocAttr, wrap_i64, surB]
  refine DrawThen.of 1000 [] (.old 0 (.old 1 (.old 2 (.old 3 (.old 4 (.old 5 (.old 6 (.old 7 (.old 8 (.old 9 (.old 10 (.go 11 .done)))))))))))) (panFree_body _ _) (by kernel_rfl) (by kernel_rfl) (by kernel_rfl) ?_
  have e0 : decide (0 < rest.length + 1) = true := by simp
  simp +contextual (maxSteps := 2000000) (disch := ((try unfold LIM at *); omega)) only [↓bcase_true, ↓bcase_false, WA, simprocAttr, wrap_i64, surB, faultV, conc28, e0]
  repeat' apply And.intro
  all_goals (refine Up.refl (r := .pan _) ?_; rfl)
section
variable {D : Cx} {N n0 : Nat} {Q : QT} {k : List It} {τ : Tau} {h : H} {d : Option Nat}
/-- f answers, and leaves the blocks that it is handed as is told, or it panics with a fault. -/
def EditS (D : Cx) (f : Nat) (args : List V) (hs : H) (e : Except Int (V × H)) (fn at_ : Int) : Prop :=
  CallsV D f args hs fun res h' => match e with
    | .ok p => res = .ret p.1 ∧ h' = p.2
    | .error c => res = .pan (faultV c fn at_)
theorem CallThen.editS {f : Nat} {args args' : List V} {hs : H} {e : Except Int (V × H)} {fn at_ : Int} (p : EditS D f args hs e fn at_) (sh : List (Nat × Nat)) (fl : List (Nat × Nat × Nat)) (bs : List Nat) (hF : H) (eF : folds (shrinks h sh) fl = hF) (hn : bs.Nodup)
    (hg : gcL (emb bs hF.length) hF bs hs) (ha : args' = args.map (rnV (emb bs hF.length))) (m : Nat)
    (hr : ∀ q, e = .ok q → Run D N n0 m Q k (upo d (rnV (emb bs hF.length) q.1) τ) (setAll hF bs (q.2.map (rnB (emb bs hF.length)))))
    (hp : ∀ c, e = .error c → ∀ h1 : H, bs.length ≤ h1.length → Q (.pan (faultV c fn at_)) τ (setAll hF bs h1)) : CallThen D N n0 Q f args' d k τ h := by
  subst eF
  refine CallThen.of m (CallsV.fold sh fl (CallsV.frameL p bs _ hn hg ha)) fun res h' ⟨r, h1, q1, q2, q3, q4⟩ => ?_
  subst q3; subst q4
  cases e with
  | ok q => obtain ⟨rfl, rfl⟩ := q1; exact hr q rfl
  | error c =>
    simp only at q1; subst q1
    exact hp c rfl _ (by rw [List.length_map, (gcL_spec hg).1]; exact q2)
theorem DCall.editS {h0 : H} {exc : List Nat} {ops : Array Oper} {fuel : Nat} {listed : Array Bool} {nw : List Nat} {f : Nat} {args args' : List V} {hs : H} {e : Except Int (V × H)} {fn at_ : Int} (p : EditS D f args hs e fn at_) (fl : List (Nat × Nat × Nat)) (bs : List Nat) (hF : H) (eF : folds (hide h0 exc h) fl = hF) (hn : bs.Nodup)
    (hg : gcL (emb bs hF.length) hF bs hs) (ha : args' = args.map (rnV (emb bs hF.length))) (m : Nat) (td : TD) (hd : drawOk ops [] listed td = true)
    (hr : ∀ q, e = .ok q → RunD D N n0 m Q k h0 exc ops fuel listed td (addN d nw) (upo d (rnV (emb bs hF.length) q.1) τ) (show_ h0 exc h (setAll hF bs (q.2.map (rnB (emb bs hF.length))))))
    (hp : ∀ c, e = .error c → ∀ h1 : H, bs.length ≤ h1.length → Q (.pan (faultV c fn at_)) τ (show_ h0 exc h (setAll hF bs h1))) : DCall D N n0 Q h0 exc ops fuel listed k f args' d nw τ h := by
  subst eF
  refine DCall.of m td hd (CallsV.fold [] fl (CallsV.frameL p bs _ hn hg ha)) fun res h' ⟨r, h1, q1, q2, q3, q4⟩ => ?_
  subst q3; subst q4
  cases e with
  | ok q => obtain ⟨rfl, rfl⟩ := q1; exact hr q rfl
  | error c =>
    simp only at q1; subst q1
    exact hp c rfl _ (by rw [List.length_map, (gcL_spec hg).1]; exact q2)
theorem CallThen.refuse {args' : List V} {m0 : Img} {fn at_ c : Int} {x : V} {rest : H} (bs : List Nat) (hn : bs.Nodup) (hg : gcL (emb bs h.length) h bs (surB m0 fn at_ x :: rest)) (ha : args' = [V.ptr 0 0 0, .s (.int .i64 c)].map (rnV (emb bs h.length)))
    (hp : ∀ h1 : H, bs.length ≤ h1.length → Q (.pan (faultV c fn at_)) τ (setAll h bs h1)) : CallThen C N n0 Q 70 args' d k τ h :=
  CallThen.editS (e := .error c) (hs := surB m0 fn at_ x :: rest) (walk70 m0 fn at_ c x rest) [] [] bs h rfl hn hg ha 0 (fun q e => by cases e) (fun c' e h1 hl => by cases e; exact hp h1 hl)
theorem CallThen.refuseF {args' : List V} {m0 : Img} {fn at_ c : Int} {x : V} {rest : H} (fl : List (Nat × Nat × Nat)) (hF : H) (eF : folds h fl = hF) (bs : List Nat) (hn : bs.Nodup) (hg : gcL (emb bs hF.length) hF bs (surB m0 fn at_ x :: rest)) (ha : args' = [V.ptr 0 0 0, .s (.int .i64 c)].map (rnV (emb bs hF.length)))
    (hp : ∀ h1 : H, bs.length ≤ h1.length → Q (.pan (faultV c fn at_)) τ (setAll hF bs h1)) : CallThen C N n0 Q 70 args' d k τ h :=
  CallThen.editS (e := .error c) (hs := surB m0 fn at_ x :: rest) (walk70 m0 fn at_ c x rest) [] fl bs hF eF hn hg ha 0 (fun q e => by cases e) (fun c' e h1 hl => by cases e; exact hp h1 hl)
end
def hs3 (m : Img) (fn at_ : Int) (ats : Ats) (a : At) : H := [surB m fn at_ (.sl 1 0 ats.length ats.length), atsB ats, nowB a]
theorem fold_st {A B : Blk} {els els' : List (List V)} {y : V} {len cap : Nat} (he : els.take len = els') (hl : els'.length = len) (hn : nrs els' = true) :
    folds (shrinks [A, B, ⟨[[.sl 3 0 len cap, y]], 2, 1, true⟩, ⟨els, 1, cap, true⟩] [(3, len)]) [(2, 0, 0)] = [A, B, ⟨[[.l 1 els', y]], 2, 1, true⟩, Blk.dead] := by
  simp [shrinks, shr1, folds, foldC, foldK, rdC, rdB, refB, ownOf, elsB, wrH, wrB, wrE, wrL, he, hl, hn]
theorem fold_ap {A B D E : Blk} {els : List (List V)} {y : V} {len cap : Nat} (hl : els.length = len) (hn : nrs els = true) :
    folds [A, B, ⟨[[.sl 5 0 len cap, y]], 2, 1, true⟩, D, E, ⟨els, 1, cap, true⟩] [(2, 0, 0)] = [A, B, ⟨[[.l 1 els, y]], 2, 1, true⟩, D, E, Blk.dead] := by
  simp [folds, foldC, foldK, rdC, rdB, refB, ownOf, elsB, wrH, wrB, wrE, wrL, hl, hn]
def popR (m : Img) (fn at_ : Int) (ats : Ats) (a : At) (k : Int) : Except Int (V × H) := match popE a.stack k with
  | .ok st => .ok (.s (.int .i64 (a.stack.getLast?.getD 0)), hs3 m fn at_ ats ⟨st, a.slots⟩)
  | .error c => .error c
theorem edit85 (m : Img) (fn at_ : Int) (ats : Ats) (a : At) (k : Int) (hl : a.stack.length ≤ 100) : EditS C 85 [.ptr 0 0 0, .ptr 2 0 0, .s (.int .i64 k)] (hs3 m fn at_ ats a) (popR m fn at_ ats a k) fn at_ := by
  refine calls_of_run Tryd.func85 rfl (by kernel_rfl) (by kernel_rfl) (by simp) 1000 ?_
  obtain ⟨st, sl⟩ := a
  rcases List.eq_nil_or_concat st with rfl | ⟨l, v, rfl⟩
  · have e : popR m fn at_ ats ⟨[], sl⟩ k = .error 4 := rfl
    rw [e]
    simp +contextual (maxSteps := 2000000) (disch := ((try unfold LIM at *); omega)) only [↓bcase_true, ↓bcase_false, WA, simprocAttr, wrap_i64, hs3, nowB, List.length_map]
    intro cap hc
    refine CallThen.refuse (m0 := m) (fn := fn) (at_ := at_) (c := 4) (x := .sl 1 0 ats.length ats.length) (rest := [atsB ats]) [0, 1] (by simp) ⟨.inr rfl, .inl ⟨ats_nr ats, rfl⟩, trivial⟩ rfl fun h1 _ => panQ rfl
  · simp only [List.concat_eq_append] at hl ⊢
    have hl1 : l.length + 1 ≤ 100 := by simpa using hl
    have hg1 : ((l ++ [v]).map iV)[l.length]? = some (iV v) := by simp
    have hlast : (l ++ [v]).getLast?.getD 0 = v := by simp
    have b1 : ¬ (l.length : Int) < 0 := by omega
    have b2 : (l.length : Int) < ((l.length + 1 : Nat) : Int) := by omega
    have b0 : (0 : Int) ≤ l.length := by omega
    have b3 : ((l.length + 1 : Nat) : Int) - 1 = l.length := by omega
    have b4 : (-9223372036854775808 : Int) ≤ l.length := by omega
    have b5 : (l.length : Int) ≤ 9223372036854775807 := by omega
    have fin : ∀ cap, Up 3 (fun res h' => res = .ret (.s (.int .i64 v)) ∧ h' = hs3 m fn at_ ats ⟨l, sl⟩) (.ret (.s (.int .i64 v))) [surB m fn at_ (.sl 1 0 ats.length ats.length), atsB ats, ⟨[[.sl 3 0 l.length cap, .l 1 (sl.map iV)]], 2, 1, true⟩, ⟨(l ++ [v]).map iV, 1, cap, true⟩] := fun cap => by
      have eF := fold_st (A := surB m fn at_ (.sl 1 0 ats.length ats.length)) (B := atsB ats) (els := (l ++ [v]).map iV) (els' := l.map iV) (y := .l 1 (sl.map iV)) (len := l.length) (cap := cap) (by simp) (by simp) (nrs_map iV_nr l)
      refine Up.gcF (.s (.int .i64 v)) [(3, l.length)] [(2, 0, 0)] [0, 1, 2] (hs3 m fn at_ ats ⟨l, sl⟩) (by simp) rfl ?_ rfl ⟨rfl, rfl⟩
      rw [eF]
      exact ⟨.inr rfl, .inl ⟨ats_nr ats, rfl⟩, .inl ⟨now_nr _, rfl⟩, trivial⟩
    have ok : (k ≠ 0 → v = k) → popR m fn at_ ats ⟨l ++ [v], sl⟩ k = .ok (.s (.int .i64 v), hs3 m fn at_ ats ⟨l, sl⟩) := fun hk => by
      by_cases q : k = 0
      · simp [popR, popE, q]
      · simp [popR, popE, hk q]
    simp only [hs3, nowB] at fin
    by_cases k1 : k = 0
    · rw [ok fun q => absurd k1 q]
      simp +contextual (maxSteps := 2000000) (disch := ((try unfold LIM at *); omega)) only [↓bcase_true, ↓bcase_false, WA, simprocAttr, wrap_i64, hs3, nowB, List.length_map, List.length_append, hg1, iV, b1, b2, b0, k1, b3, b4, b5]
      exact fun cap hc => ⟨by omega, fin cap⟩
    by_cases k2 : v = k
    · rw [ok fun q => k2]
      subst k2
      simp +contextual (maxSteps := 2000000) (disch := ((try unfold LIM at *); omega)) only [↓bcase_true, ↓bcase_false, WA, simprocAttr, wrap_i64, hs3, nowB, List.length_map, List.length_append, hg1, iV, b1, b2, b0, k1, b3, b4, b5]
      exact fun cap hc => ⟨by omega, fin cap⟩
    · have e : popR m fn at_ ats ⟨l ++ [v], sl⟩ k = .error 5 := by
        simp [popR, popE, k1, k2]
      rw [e]
      simp +contextual (maxSteps := 2000000) (disch := ((try unfold LIM at *); omega)) only [↓bcase_true, ↓bcase_false, WA, simprocAttr, wrap_i64, hs3, nowB, List.length_map, List.length_append, hg1, iV, b1, b2, b0, k1, k2, b3, b4, b5]
      intro cap hc
      exact CallThen.refuse (m0 := m) (fn := fn) (at_ := at_) (c := 5) (x := .sl 1 0 ats.length ats.length) (rest := [atsB ats]) [0, 1] (by simp) ⟨.inr rfl, .inl ⟨ats_nr ats, rfl⟩, trivial⟩ rfl fun h1 _ => panQ rfl
def pushR (m : Img) (fn at_ : Int) (ats : Ats) (a : At) (k : Int) : Except Int (V × H) := match pushE a.stack k with
  | .ok st => .ok (.tup [], hs3 m fn at_ ats ⟨st, a.slots⟩)
  | .error c => .error c
theorem edit89 (m : Img) (fn at_ : Int) (ats : Ats) (a : At) (k : Int) (hl : a.stack.length ≤ 100) : EditS C 89 [.ptr 0 0 0, .ptr 2 0 0, .s (.int .i64 k)] (hs3 m fn at_ ats a) (pushR m fn at_ ats a k) fn at_ := by
  refine calls_of_run Tryd.func89 rfl (by kernel_rfl) (by kernel_rfl) (by simp) 1000 ?_
  obtain ⟨st, sl⟩ := a
  by_cases c1 : (100 : Int) ≤ st.length
  · have e : pushR m fn at_ ats ⟨st, sl⟩ k = .error 4 := by
      have : 100 ≤ st.length := by omega
      simp [pushR, pushE, this]
    rw [e]
    simp +contextual (maxSteps := 2000000) (disch := ((try unfold LIM at *); omega)) only [↓bcase_true, ↓bcase_false, WA, simprocAttr, wrap_i64, hs3, nowB, List.length_map, c1]
    intro cap hc
    exact CallThen.refuse (m0 := m) (fn := fn) (at_ := at_) (c := 4) (x := .sl 1 0 ats.length ats.length) (rest := [atsB ats]) [0, 1] (by simp) ⟨.inr rfl, .inl ⟨ats_nr ats, rfl⟩, trivial⟩ rfl fun h1 _ => panQ rfl
  · have e : pushR m fn at_ ats ⟨st, sl⟩ k = .ok (.tup [], hs3 m fn at_ ats ⟨st ++ [k], sl⟩) := by
      have : ¬ 100 ≤ st.length := by omega
      simp [pushR, pushE, this]
    rw [e]
    simp +contextual (maxSteps := 2000000) (disch := ((try unfold LIM at *); omega)) only [↓bcase_true, ↓bcase_false, WA, simprocAttr, wrap_i64, hs3, nowB, List.length_map, c1]
    intro cap hc
    refine ⟨⟨by simp only at hl; omega, by simp only at hl; unfold LIM; omega⟩, fun cap' h1 _ => ?_⟩
    refine Up.gcF (.tup []) [] [(2, 0, 0)] [0, 1, 2] (hs3 m fn at_ ats ⟨st ++ [k], sl⟩) (by simp) rfl ?_ rfl ⟨rfl, rfl⟩
    have hn : nrs (st.map iV ++ [[V.s (.int .i64 k)]]) = true := by
      have := nrs_map iV_nr (st ++ [k]); simpa [iV] using this
    have eF := fold_ap (A := surB m fn at_ (.sl 1 0 ats.length ats.length)) (B := atsB ats) (D := Blk.dead) (E := ⟨[[.s (.int .i64 k)]], 1, 1, true⟩) (els := st.map iV ++ [[V.s (.int .i64 k)]]) (y := .l 1 (sl.map iV)) (len := st.length + 1) (cap := cap') (by simp) hn
    simp only [shrinks_nil]
    rw [eF]
    exact ⟨.inr rfl, .inl ⟨ats_nr ats, rfl⟩, .inl ⟨rfl, by simp [nowB, iV]⟩, trivial⟩
theorem pure95 (els : List (List V)) : PureV C 95 [.f 1 els] (.fn 98 [.pd [.f 1 els]]) := by
  refine pure_of_run Tryd.func95 rfl (by kernel_rfl) (by kernel_rfl) (by simp) (fun _ => rfl) (fun _ => rfl) 6 1000 ?_
  simp +contextual (maxSteps := 2000000) (disch := ((try unfold LIM at *); omega)) only [↓bcase_true, ↓bcase_false, WA, simprocAttr, wrap_i64]
theorem back98 : BackV C 98 1 false := by
  refine BackV.of (pre := [_, _, _, _, _, _]) 1000 Tryd.func98 rfl rfl rfl rfl rfl rfl rfl (by decide) (by kernel_rfl) ?_ ?_ ?_ ?_ ?_ ?_ ?_
  · intro l els hl
    simp +contextual (maxSteps := 2000000) (disch := ((try unfold LIM at *); omega)) only [↓bcase_true, ↓bcase_false, WA, simprocAttr, wrap_i64, is3]
  · intro l els
    simp +contextual (maxSteps := 2000000) (disch := ((try unfold LIM at *); omega)) only [↓bcase_true, ↓bcase_false, WA, simprocAttr, wrap_i64, T3]
  · intro l els k
    have pi : (0 : Int) ≤ k := by omega
    simp +contextual (maxSteps := 2000000) (disch := ((try unfold LIM at *); omega)) only [↓bcase_true, ↓bcase_false, WA, simprocAttr, wrap_i64, T3, is3, pi]
  · intro l els k x hx hlx hfx hk hl
    match x, hlx, hfx with
    | [a], _, hfx =>
      simp only [List.all_cons, List.all_nil, Bool.and_true] at hfx
      have pi : (0 : Int) ≤ k := by omega
      simp +contextual (maxSteps := 2000000) (disch := ((try unfold LIM at *); omega)) only [↓bcase_true, ↓bcase_false, WA, simprocAttr, wrap_i64, T3, is3, hx, pi, fz_cell hfx, rowW, List.headD_cons]
  · intro l els k
    simp +contextual (maxSteps := 2000000) (disch := ((try unfold LIM at *); omega)) only [↓bcase_true, ↓bcase_false, WA, simprocAttr, wrap_i64, T3, is3]
  · simp +contextual (maxSteps := 2000000) (disch := ((try unfold LIM at *); omega)) only [↓bcase_true, ↓bcase_false, WA, simprocAttr, wrap_i64]
  · intro l els k hk
    simp +contextual (maxSteps := 2000000) (disch := ((try unfold LIM at *); omega)) only [↓bcase_true, ↓bcase_false, WA, simprocAttr, wrap_i64, T3, is3]
def popsR (m : Img) (fn at_ : Int) (ats : Ats) (a : At) (ks : List Int) : Except Int (V × H) := match popsE a.stack ks.reverse with
  | .ok st => .ok (.tup [], hs3 m fn at_ ats ⟨st, a.slots⟩)
  | .error c => .error c
theorem popsE_append : ∀ (l1 l2 st : List Int), popsE st (l1 ++ l2) = match popsE st l1 with
    | .ok st' => popsE st' l2
    | .error e => .error e
  | [], l2, st => rfl
  | k :: l1, l2, st => by
    simp only [List.cons_append, popsE]
    cases popE st k with
    | ok st' => exact popsE_append l1 l2 st'
    | error e => rfl
theorem drop_rev {ks : List Int} {j : Nat} {x : Int} (h : ks[j]? = some x) : (ks.drop j).reverse = (ks.drop (j + 1)).reverse ++ [x] := by
  rw [drop_cons h, List.reverse_cons]
theorem rev_split (ks : List Int) (j : Nat) : ks.reverse = (ks.drop j).reverse ++ (ks.take j).reverse := by
  rw [← List.reverse_append, List.take_append_drop]
theorem edit87 (m : Img) (fn at_ : Int) (ats : Ats) (a : At) (ks : List Int) (hl : a.stack.length ≤ 100) : EditS C 87 [.ptr 0 0 0, .ptr 2 0 0, .f 1 (ks.map iV)] (hs3 m fn at_ ats a) (popsR m fn at_ ats a ks) fn at_ := by
  refine calls_of_run Tryd.func87 rfl (by kernel_rfl) (by kernel_rfl) (by simp) 1000 ?_
  simp +contextual (maxSteps := 2000000) (disch := ((try unfold LIM at *); omega)) only [↓bcase_true, ↓bcase_false, WA, simprocAttr, wrap_i64, hs3]
  refine CallThen.pure (pure95 _) 1000 ?_
  simp +contextual (maxSteps := 2000000) (disch := ((try unfold LIM at *); omega)) only [↓bcase_true, ↓bcase_false, WA, simprocAttr, wrap_i64]
  refine RangeThen.back (gf := 98) (n := 1) (ag := false) (els := ks.map iV) (pi := 10) (pv := 11) 1000 1000
    (fun k h' => ∃ st, popsE a.stack (ks.drop k).reverse = .ok st ∧ st.length ≤ 100 ∧ h' = [surB m fn at_ (.sl 1 0 ats.length ats.length), atsB ats, nowB ⟨st, a.slots⟩, ⟨[[.ptr 0 0 0]], 1, 1, true⟩, ⟨[[.ptr 2 0 0]], 1, 1, true⟩])
    back98 (by kernel_rfl) (by simp +contextual (maxSteps := 2000000) (disch := ((try unfold LIM at *); omega)) only [↓bcase_true, ↓bcase_false, WA, simprocAttr, wrap_i64]) (fz_map iV_fz ks) rfl ⟨a.stack, by simp [popsE], hl, rfl⟩ ?_ ?_
  · rintro rd k el h' hel ⟨st, q1, q2, rfl⟩
    rw [List.getElem?_map, Option.map_eq_some_iff] at hel
    obtain ⟨x, hx, rfl⟩ := hel
    have hk : popsE a.stack (ks.drop k).reverse = popE st x := by
      rw [drop_rev hx, popsE_append, q1]
      simp only [popsE]
      cases popE st x <;> rfl
    simp +contextual (maxSteps := 2000000) (disch := ((try unfold LIM at *); omega)) only [↓bcase_true, ↓bcase_false, WA, simprocAttr, wrap_i64, rowW, iV, WB9, List.headD_cons]
    refine CallThen.editS (edit85 m fn at_ ats ⟨st, a.slots⟩ x q2) [] [] [0, 1, 2] _ rfl (by simp) ⟨.inr rfl, .inl ⟨ats_nr ats, rfl⟩, .inl ⟨now_nr _, rfl⟩, trivial⟩ rfl 1000 ?_ ?_
    · intro q hq
      unfold popR at hq
      split at hq
      · rename_i st' hst
        cases hq
        have hlen := popE_len hst
        simp +contextual (maxSteps := 2000000) (disch := ((try unfold LIM at *); omega)) only [↓bcase_true, ↓bcase_false, WA, simprocAttr, wrap_i64, WB9, hs3, rnB_ats, rnB_now, rnB_sur]
        exact Goes.refl ⟨st', hk.trans hst, by simp only at hlen; omega, rfl⟩
      · cases hq
    · intro c hc h1 hl1
      unfold popR at hc
      split at hc
      · cases hc
      · rename_i c' hst
        cases hc
        have e : popsR m fn at_ ats a ks = .error c := by
          unfold popsR
          rw [rev_split ks k, popsE_append, hk, hst]
        simp +contextual (maxSteps := 2000000) (disch := ((try unfold LIM at *); omega)) only [↓bcase_true, ↓bcase_false, WA, simprocAttr, wrap_i64, WB9, e]
        exact Up.refl (r := .pan _) rfl
  · rintro h' ⟨st, q1, q2, rfl⟩
    have e : popsR m fn at_ ats a ks = .ok (.tup [], hs3 m fn at_ ats ⟨st, a.slots⟩) := by
      unfold popsR
      rw [List.drop_zero] at q1
      rw [q1]
    rw [e]
    simp +contextual (maxSteps := 2000000) (disch := ((try unfold LIM at *); omega)) only [↓bcase_true, ↓bcase_false, WA, simprocAttr, wrap_i64]
    exact Up.gcF (.tup []) [] [] [0, 1, 2] (hs3 m fn at_ ats ⟨st, a.slots⟩) (by simp) rfl ⟨.inr rfl, .inl ⟨ats_nr ats, rfl⟩, .inl ⟨now_nr _, rfl⟩, trivial⟩ rfl ⟨rfl, rfl⟩
end Go.Proofs.YtijefmjfdhfjmaaDoor
/- part S4 -/
set_option linter.unusedVariables false
set_option linter.unusedSimpArgs false
set_option maxRecDepth 100000
namespace Go.Proofs.YtijefmjfdhfjmaaDoor
open Go Go.W Go.RowKit
def primW : Nat → ByteArray
  | 0 => ⟨#[43]⟩ | 1 => ⟨#[45]⟩ | 2 => ⟨#[42]⟩ | 3 => ⟨#[47]⟩ | 4 => ⟨#[37]⟩ | 5 => ⟨#[60]⟩ | 6 => ⟨#[60, 61]⟩ | 7 => ⟨#[61]⟩
  | 8 => ⟨#[110, 111, 116]⟩ | 9 => ⟨#[97, 116]⟩ | 10 => ⟨#[108, 101, 110]⟩ | 11 => ⟨#[112, 117, 116]⟩ | 12 => ⟨#[106, 111, 105, 110]⟩ | _ => ⟨#[112, 114, 105, 110, 116]⟩
def primRes (i : Nat) : V := .tup [.f 1 ((primT i).1.map iV), .s (.int .i64 (primT i).2)]
theorem ne_0_1 : ¬ ((⟨#[43]⟩ : ByteArray) = ⟨#[45]⟩) := by decide
theorem ne_0_2 : ¬ ((⟨#[43]⟩ : ByteArray) = ⟨#[42]⟩) := by decide
theorem ne_0_3 : ¬ ((⟨#[43]⟩ : ByteArray) = ⟨#[47]⟩) := by decide
theorem ne_0_4 : ¬ ((⟨#[43]⟩ : ByteArray) = ⟨#[37]⟩) := by decide
theorem ne_0_5 : ¬ ((⟨#[43]⟩ : ByteArray) = ⟨#[60]⟩) := by decide
theorem ne_0_6 : ¬ ((⟨#[43]⟩ : ByteArray) = ⟨#[60, 61]⟩) := by decide
theorem ne_0_7 : ¬ ((⟨#[43]⟩ : ByteArray) = ⟨#[61]⟩) := by decide
theorem ne_0_8 : ¬ ((⟨#[43]⟩ : ByteArray) = ⟨#[110, 111, 116]⟩) := by decide
theorem ne_0_9 : ¬ ((⟨#[43]⟩ : ByteArray) = ⟨#[97, 116]⟩) := by decide
theorem ne_0_10 : ¬ ((⟨#[43]⟩ : ByteArray) = ⟨#[108, 101, 110]⟩) := by decide
theorem ne_0_11 : ¬ ((⟨#[43]⟩ : ByteArray) = ⟨#[112, 117, 116]⟩) := by decide
theorem ne_0_12 : ¬ ((⟨#[43]⟩ : ByteArray) = ⟨#[106, 111, 105, 110]⟩) := by decide
theorem ne_0_13 : ¬ ((⟨#[43]⟩ : ByteArray) = ⟨#[112, 114, 105, 110, 116]⟩) := by decide
theorem ne_0_14 : ¬ ((⟨#[43]⟩ : ByteArray) = ⟨#[97, 110, 100]⟩) := by decide
theorem ne_0_15 : ¬ ((⟨#[43]⟩ : ByteArray) = ⟨#[111, 114]⟩) := by decide
theorem ne_1_0 : ¬ ((⟨#[45]⟩ : ByteArray) = ⟨#[43]⟩) := by decide
theorem ne_1_2 : ¬ ((⟨#[45]⟩ : ByteArray) = ⟨#[42]⟩) := by decide
theorem ne_1_3 : ¬ ((⟨#[45]⟩ : ByteArray) = ⟨#[47]⟩) := by decide
theorem ne_1_4 : ¬ ((⟨#[45]⟩ : ByteArray) = ⟨#[37]⟩) := by decide
theorem ne_1_5 : ¬ ((⟨#[45]⟩ : ByteArray) = ⟨#[60]⟩) := by decide
theorem ne_1_6 : ¬ ((⟨#[45]⟩ : ByteArray) = ⟨#[60, 61]⟩) := by decide
theorem ne_1_7 : ¬ ((⟨#[45]⟩ : ByteArray) = ⟨#[61]⟩) := by decide
theorem ne_1_8 : ¬ ((⟨#[45]⟩ : ByteArray) = ⟨#[110, 111, 116]⟩) := by decide
theorem ne_1_9 : ¬ ((⟨#[45]⟩ : ByteArray) = ⟨#[97, 116]⟩) := by decide
theorem ne_1_10 : ¬ ((⟨#[45]⟩ : ByteArray) = ⟨#[108, 101, 110]⟩) := by decide
theorem ne_1_11 : ¬ ((⟨#[45]⟩ : ByteArray) = ⟨#[112, 117, 116]⟩) := by decide
theorem ne_1_12 : ¬ ((⟨#[45]⟩ : ByteArray) = ⟨#[106, 111, 105, 110]⟩) := by decide
theorem ne_1_13 : ¬ ((⟨#[45]⟩ : ByteArray) = ⟨#[112, 114, 105, 110, 116]⟩) := by decide
theorem ne_1_14 : ¬ ((⟨#[45]⟩ : ByteArray) = ⟨#[97, 110, 100]⟩) := by decide
theorem ne_1_15 : ¬ ((⟨#[45]⟩ : ByteArray) = ⟨#[111, 114]⟩) := by decide
theorem ne_2_0 : ¬ ((⟨#[42]⟩ : ByteArray) = ⟨#[43]⟩) := by decide
theorem ne_2_1 : ¬ ((⟨#[42]⟩ : ByteArray) = ⟨#[45]⟩) := by decide
theorem ne_2_3 : ¬ ((⟨#[42]⟩ : ByteArray) = ⟨#[47]⟩) := by decide
theorem ne_2_4 : ¬ ((⟨#[42]⟩ : ByteArray) = ⟨#[37]⟩) := by decide
theorem ne_2_5 : ¬ ((⟨#[42]⟩ : ByteArray) = ⟨#[60]⟩) := by decide
theorem ne_2_6 : ¬ ((⟨#[42]⟩ : ByteArray) = ⟨#[60, 61]⟩) := by decide
theorem ne_2_7 : ¬ ((⟨#[42]⟩ : ByteArray) = ⟨#[61]⟩) := by decide
theorem ne_2_8 : ¬ ((⟨#[42]⟩ : ByteArray) = ⟨#[110, 111, 116]⟩) := by decide
theorem ne_2_9 : ¬ ((⟨#[42]⟩ : ByteArray) = ⟨#[97, 116]⟩) := by decide
theorem ne_2_10 : ¬ ((⟨#[42]⟩ : ByteArray) = ⟨#[108, 101, 110]⟩) := by decide
theorem ne_2_11 : ¬ ((⟨#[42]⟩ : ByteArray) = ⟨#[112, 117, 116]⟩) := by decide
theorem ne_2_12 : ¬ ((⟨#[42]⟩ : ByteArray) = ⟨#[106, 111, 105, 110]⟩) := by decide
theorem ne_2_13 : ¬ ((⟨#[42]⟩ : ByteArray) = ⟨#[112, 114, 105, 110, 116]⟩) := by decide
theorem ne_2_14 : ¬ ((⟨#[42]⟩ : ByteArray) = ⟨#[97, 110, 100]⟩) := by decide
theorem ne_2_15 : ¬ ((⟨#[42]⟩ : ByteArray) = ⟨#[111, 114]⟩) := by decide
theorem ne_3_0 : ¬ ((⟨#[47]⟩ : ByteArray) = ⟨#[43]⟩) := by decide
theorem ne_3_1 : ¬ ((⟨#[47]⟩ : ByteArray) = ⟨#[45]⟩) := by decide
theorem ne_3_2 : ¬ ((⟨#[47]⟩ : ByteArray) = ⟨#[42]⟩) := by decide
theorem ne_3_4 : ¬ ((⟨#[47]⟩ : ByteArray) = ⟨#[37]⟩) := by decide
theorem ne_3_5 : ¬ ((⟨#[47]⟩ : ByteArray) = ⟨#[60]⟩) := by decide
theorem ne_3_6 : ¬ ((⟨#[47]⟩ : ByteArray) = ⟨#[60, 61]⟩) := by decide
theorem ne_3_7 : ¬ ((⟨#[47]⟩ : ByteArray) = ⟨#[61]⟩) := by decide
theorem ne_3_8 : ¬ ((⟨#[47]⟩ : ByteArray) = ⟨#[110, 111, 116]⟩) := by decide
theorem ne_3_9 : ¬ ((⟨#[47]⟩ : ByteArray) = ⟨#[97, 116]⟩) := by decide
theorem ne_3_10 : ¬ ((⟨#[47]⟩ : ByteArray) = ⟨#[108, 101, 110]⟩) := by decide
theorem ne_3_11 : ¬ ((⟨#[47]⟩ : ByteArray) = ⟨#[112, 117, 116]⟩) := by decide
theorem ne_3_12 : ¬ ((⟨#[47]⟩ : ByteArray) = ⟨#[106, 111, 105, 110]⟩) := by decide
theorem ne_3_13 : ¬ ((⟨#[47]⟩ : ByteArray) = ⟨#[112, 114, 105, 110, 116]⟩) := by decide
theorem ne_3_14 : ¬ ((⟨#[47]⟩ : ByteArray) = ⟨#[97, 110, 100]⟩) := by decide
theorem ne_3_15 : ¬ ((⟨#[47]⟩ : ByteArray) = ⟨#[111, 114]⟩) := by decide
theorem ne_4_0 : ¬ ((⟨#[37]⟩ : ByteArray) = ⟨#[43]⟩) := by decide
theorem ne_4_1 : ¬ ((⟨#[37]⟩ : ByteArray) = ⟨#[45]⟩) := by decide
theorem ne_4_2 : ¬ ((⟨#[37]⟩ : ByteArray) = ⟨#[42]⟩) := by decide
theorem ne_4_3 : ¬ ((⟨#[37]⟩ : ByteArray) = ⟨#[47]⟩) := by decide
theorem ne_4_5 : ¬ ((⟨#[37]⟩ : ByteArray) = ⟨#[60]⟩) := by decide
theorem ne_4_6 : ¬ ((⟨#[37]⟩ : ByteArray) = ⟨#[60, 61]⟩) := by decide
theorem ne_4_7 : ¬ ((⟨#[37]⟩ : ByteArray) = ⟨#[61]⟩) := by decide
theorem ne_4_8 : ¬ ((⟨#[37]⟩ : ByteArray) = ⟨#[110, 111, 116]⟩) := by decide
theorem ne_4_9 : ¬ ((⟨#[37]⟩ : ByteArray) = ⟨#[97, 116]⟩) := by decide
theorem ne_4_10 : ¬ ((⟨#[37]⟩ : ByteArray) = ⟨#[108, 101, 110]⟩) := by decide
theorem ne_4_11 : ¬ ((⟨#[37]⟩ : ByteArray) = ⟨#[112, 117, 116]⟩) := by decide
theorem ne_4_12 : ¬ ((⟨#[37]⟩ : ByteArray) = ⟨#[106, 111, 105, 110]⟩) := by decide
theorem ne_4_13 : ¬ ((⟨#[37]⟩ : ByteArray) = ⟨#[112, 114, 105, 110, 116]⟩) := by decide
theorem ne_4_14 : ¬ ((⟨#[37]⟩ : ByteArray) = ⟨#[97, 110, 100]⟩) := by decide
theorem ne_4_15 : ¬ ((⟨#[37]⟩ : ByteArray) = ⟨#[111, 114]⟩) := by decide
theorem ne_5_0 : ¬ ((⟨#[60]⟩ : ByteArray) = ⟨#[43]⟩) := by decide
theorem ne_5_1 : ¬ ((⟨#[60]⟩ : ByteArray) = ⟨#[45]⟩) := by decide
theorem ne_5_2 : ¬ ((⟨#[60]⟩ : ByteArray) = ⟨#[42]⟩) := by decide
theorem ne_5_3 : ¬ ((⟨#[60]⟩ : ByteArray) = ⟨#[47]⟩) := by decide
theorem ne_5_4 : ¬ ((⟨#[60]⟩ : ByteArray) = ⟨#[37]⟩) := by decide
theorem ne_5_6 : ¬ ((⟨#[60]⟩ : ByteArray) = ⟨#[60, 61]⟩) := by decide
theorem ne_5_7 : ¬ ((⟨#[60]⟩ : ByteArray) = ⟨#[61]⟩) := by decide
theorem ne_5_8 : ¬ ((⟨#[60]⟩ : ByteArray) = ⟨#[110, 111, 116]⟩) := by decide
theorem ne_5_9 : ¬ ((⟨#[60]⟩ : ByteArray) = ⟨#[97, 116]⟩) := by decide
theorem ne_5_10 : ¬ ((⟨#[60]⟩ : ByteArray) = ⟨#[108, 101, 110]⟩) := by decide
theorem ne_5_11 : ¬ ((⟨#[60]⟩ : ByteArray) = ⟨#[112, 117, 116]⟩) := by decide
theorem ne_5_12 : ¬ ((⟨#[60]⟩ : ByteArray) = ⟨#[106, 111, 105, 110]⟩) := by decide
theorem ne_5_13 : ¬ ((⟨#[60]⟩ : ByteArray) = ⟨#[112, 114, 105, 110, 116]⟩) := by decide
theorem ne_5_14 : ¬ ((⟨#[60]⟩ : ByteArray) = ⟨#[97, 110, 100]⟩) := by decide
theorem ne_5_15 : ¬ ((⟨#[60]⟩ : ByteArray) = ⟨#[111, 114]⟩) := by decide
theorem ne_6_0 : ¬ ((⟨#[60, 61]⟩ : ByteArray) = ⟨#[43]⟩) := by decide
theorem ne_6_1 : ¬ ((⟨#[60, 61]⟩ : ByteArray) = ⟨#[45]⟩) := by decide
theorem ne_6_2 : ¬ ((⟨#[60, 61]⟩ : ByteArray) = ⟨#[42]⟩) := by decide
theorem ne_6_3 : ¬ ((⟨#[60, 61]⟩ : ByteArray) = ⟨#[47]⟩) := by decide
theorem ne_6_4 : ¬ ((⟨#[60, 61]⟩ : ByteArray) = ⟨#[37]⟩) := by decide
theorem ne_6_5 : ¬ ((⟨#[60, 61]⟩ : ByteArray) = ⟨#[60]⟩) := by decide
theorem ne_6_7 : ¬ ((⟨#[60, 61]⟩ : ByteArray) = ⟨#[61]⟩) := by decide
theorem ne_6_8 : ¬ ((⟨#[60, 61]⟩ : ByteArray) = ⟨#[110, 111, 116]⟩) := by decide
theorem ne_6_9 : ¬ ((⟨#[60, 61]⟩ : ByteArray) = ⟨#[97, 116]⟩) := by decide
theorem ne_6_10 : ¬ ((⟨#[60, 61]⟩ : ByteArray) = ⟨#[108, 101, 110]⟩) := by decide
theorem ne_6_11 : ¬ ((⟨#[60, 61]⟩ : ByteArray) = ⟨#[112, 117, 116]⟩) := by decide
theorem ne_6_12 : ¬ ((⟨#[60, 61]⟩ : ByteArray) = ⟨#[106, 111, 105, 110]⟩) := by decide
theorem ne_6_13 : ¬ ((⟨#[60, 61]⟩ : ByteArray) = ⟨#[112, 114, 105, 110, 116]⟩) := by decide
theorem ne_6_14 : ¬ ((⟨#[60, 61]⟩ : ByteArray) = ⟨#[97, 110, 100]⟩) := by decide
theorem ne_6_15 : ¬ ((⟨#[60, 61]⟩ : ByteArray) = ⟨#[111, 114]⟩) := by decide
theorem ne_7_0 : ¬ ((⟨#[61]⟩ : ByteArray) = ⟨#[43]⟩) := by decide
theorem ne_7_1 : ¬ ((⟨#[61]⟩ : ByteArray) = ⟨#[45]⟩) := by decide
theorem ne_7_2 : ¬ ((⟨#[61]⟩ : ByteArray) = ⟨#[42]⟩) := by decide
theorem ne_7_3 : ¬ ((⟨#[61]⟩ : ByteArray) = ⟨#[47]⟩) := by decide
theorem ne_7_4 : ¬ ((⟨#[61]⟩ : ByteArray) = ⟨#[37]⟩) := by decide
theorem ne_7_5 : ¬ ((⟨#[61]⟩ : ByteArray) = ⟨#[60]⟩) := by decide
theorem ne_7_6 : ¬ ((⟨#[61]⟩ : ByteArray) = ⟨#[60, 61]⟩) := by decide
theorem ne_7_8 : ¬ ((⟨#[61]⟩ : ByteArray) = ⟨#[110, 111, 116]⟩) := by decide
theorem ne_7_9 : ¬ ((⟨#[61]⟩ : ByteArray) = ⟨#[97, 116]⟩) := by decide
theorem ne_7_10 : ¬ ((⟨#[61]⟩ : ByteArray) = ⟨#[108, 101, 110]⟩) := by decide
theorem ne_7_11 : ¬ ((⟨#[61]⟩ : ByteArray) = ⟨#[112, 117, 116]⟩) := by decide
theorem ne_7_12 : ¬ ((⟨#[61]⟩ : ByteArray) = ⟨#[106, 111, 105, 110]⟩) := by decide
theorem ne_7_13 : ¬ ((⟨#[61]⟩ : ByteArray) = ⟨#[112, 114, 105, 110, 116]⟩) := by decide
theorem ne_7_14 : ¬ ((⟨#[61]⟩ : ByteArray) = ⟨#[97, 110, 100]⟩) := by decide
theorem ne_7_15 : ¬ ((⟨#[61]⟩ : ByteArray) = ⟨#[111, 114]⟩) := by decide
theorem ne_8_0 : ¬ ((⟨#[110, 111, 116]⟩ : ByteArray) = ⟨#[43]⟩) := by decide
theorem ne_8_1 : ¬ ((⟨#[110, 111, 116]⟩ : ByteArray) = ⟨#[45]⟩) := by decide
theorem ne_8_2 : ¬ ((⟨#[110, 111, 116]⟩ : ByteArray) = ⟨#[42]⟩) := by decide
theorem ne_8_3 : ¬ ((⟨#[110, 111, 116]⟩ : ByteArray) = ⟨#[47]⟩) := by decide
theorem ne_8_4 : ¬ ((⟨#[110, 111, 116]⟩ : ByteArray) = ⟨#[37]⟩) := by decide
theorem ne_8_5 : ¬ ((⟨#[110, 111, 116]⟩ : ByteArray) = ⟨#[60]⟩) := by decide
theorem ne_8_6 : ¬ ((⟨#[110, 111, 116]⟩ : ByteArray) = ⟨#[60, 61]⟩) := by decide
theorem ne_8_7 : ¬ ((⟨#[110, 111, 116]⟩ : ByteArray) = ⟨#[61]⟩) := by decide
theorem ne_8_9 : ¬ ((⟨#[110, 111, 116]⟩ : ByteArray) = ⟨#[97, 116]⟩) := by decide
theorem ne_8_10 : ¬ ((⟨#[110, 111, 116]⟩ : ByteArray) = ⟨#[108, 101, 110]⟩) := by decide
theorem ne_8_11 : ¬ ((⟨#[110, 111, 116]⟩ : ByteArray) = ⟨#[112, 117, 116]⟩) := by decide
theorem ne_8_12 : ¬ ((⟨#[110, 111, 116]⟩ : ByteArray) = ⟨#[106, 111, 105, 110]⟩) := by decide
theorem ne_8_13 : ¬ ((⟨#[110, 111, 116]⟩ : ByteArray) = ⟨#[112, 114, 105, 110, 116]⟩) := by decide
theorem ne_8_14 : ¬ ((⟨#[110, 111, 116]⟩ : ByteArray) = ⟨#[97, 110, 100]⟩) := by decide
theorem ne_8_15 : ¬ ((⟨#[110, 111, 116]⟩ : ByteArray) = ⟨#[111, 114]⟩) := by decide
theorem ne_9_0 : ¬ ((⟨#[97, 116]⟩ : ByteArray) = ⟨#[43]⟩) := by decide
theorem ne_9_1 : ¬ ((⟨#[97, 116]⟩ : ByteArray) = ⟨#[45]⟩) := by decide
theorem ne_9_2 : ¬ ((⟨#[97, 116]⟩ : ByteArray) = ⟨#[42]⟩) := by decide
theorem ne_9_3 : ¬ ((⟨#[97, 116]⟩ : ByteArray) = ⟨#[47]⟩) := by decide
theorem ne_9_4 : ¬ ((⟨#[97, 116]⟩ : ByteArray) = ⟨#[37]⟩) := by decide
theorem ne_9_5 : ¬ ((⟨#[97, 116]⟩ : ByteArray) = ⟨#[60]⟩) := by decide
theorem ne_9_6 : ¬ ((⟨#[97, 116]⟩ : ByteArray) = ⟨#[60, 61]⟩) := by decide
theorem ne_9_7 : ¬ ((⟨#[97, 116]⟩ : ByteArray) = ⟨#[61]⟩) := by decide
theorem ne_9_8 : ¬ ((⟨#[97, 116]⟩ : ByteArray) = ⟨#[110, 111, 116]⟩) := by decide
theorem ne_9_10 : ¬ ((⟨#[97, 116]⟩ : ByteArray) = ⟨#[108, 101, 110]⟩) := by decide
theorem ne_9_11 : ¬ ((⟨#[97, 116]⟩ : ByteArray) = ⟨#[112, 117, 116]⟩) := by decide
theorem ne_9_12 : ¬ ((⟨#[97, 116]⟩ : ByteArray) = ⟨#[106, 111, 105, 110]⟩) := by decide
theorem ne_9_13 : ¬ ((⟨#[97, 116]⟩ : ByteArray) = ⟨#[112, 114, 105, 110, 116]⟩) := by decide
theorem ne_9_14 : ¬ ((⟨#[97, 116]⟩ : ByteArray) = ⟨#[97, 110, 100]⟩) := by decide
theorem ne_9_15 : ¬ ((⟨#[97, 116]⟩ : ByteArray) = ⟨#[111, 114]⟩) := by decide
theorem ne_10_0 : ¬ ((⟨#[108, 101, 110]⟩ : ByteArray) = ⟨#[43]⟩) := by decide
theorem ne_10_1 : ¬ ((⟨#[108, 101, 110]⟩ : ByteArray) = ⟨#[45]⟩) := by decide
theorem ne_10_2 : ¬ ((⟨#[108, 101, 110]⟩ : ByteArray) = ⟨#[42]⟩) := by decide
theorem ne_10_3 : ¬ ((⟨#[108, 101, 110]⟩ : ByteArray) = ⟨#[47]⟩) := by decide
theorem ne_10_4 : ¬ ((⟨#[108, 101, 110]⟩ : ByteArray) = ⟨#[37]⟩) := by decide
theorem ne_10_5 : ¬ ((⟨#[108, 101, 110]⟩ : ByteArray) = ⟨#[60]⟩) := by decide
theorem ne_10_6 : ¬ ((⟨#[108, 101, 110]⟩ : ByteArray) = ⟨#[60, 61]⟩) := by decide
theorem ne_10_7 : ¬ ((⟨#[108, 101, 110]⟩ : ByteArray) = ⟨#[61]⟩) := by decide
theorem ne_10_8 : ¬ ((⟨#[108, 101, 110]⟩ : ByteArray) = ⟨#[110, 111, 116]⟩) := by decide
theorem ne_10_9 : ¬ ((⟨#[108, 101, 110]⟩ : ByteArray) = ⟨#[97, 116]⟩) := by decide
theorem ne_10_11 : ¬ ((⟨#[108, 101, 110]⟩ : ByteArray) = ⟨#[112, 117, 116]⟩) := by decide
theorem ne_10_12 : ¬ ((⟨#[108, 101, 110]⟩ : ByteArray) = ⟨#[106, 111, 105, 110]⟩) := by decide
theorem ne_10_13 : ¬ ((⟨#[108, 101, 110]⟩ : ByteArray) = ⟨#[112, 114, 105, 110, 116]⟩) := by decide
theorem ne_10_14 : ¬ ((⟨#[108, 101, 110]⟩ : ByteArray) = ⟨#[97, 110, 100]⟩) := by decide
theorem ne_10_15 : ¬ ((⟨#[108, 101, 110]⟩ : ByteArray) = ⟨#[111, 114]⟩) := by decide
theorem ne_11_0 : ¬ ((⟨#[112, 117, 116]⟩ : ByteArray) = ⟨#[43]⟩) := by decide
theorem ne_11_1 : ¬ ((⟨#[112, 117, 116]⟩ : ByteArray) = ⟨#[45]⟩) := by decide
theorem ne_11_2 : ¬ ((⟨#[112, 117, 116]⟩ : ByteArray) = ⟨#[42]⟩) := by decide
theorem ne_11_3 : ¬ ((⟨#[112, 117, 116]⟩ : ByteArray) = ⟨#[47]⟩) := by decide
theorem ne_11_4 : ¬ ((⟨#[112, 117, 116]⟩ : ByteArray) = ⟨#[37]⟩) := by decide
theorem ne_11_5 : ¬ ((⟨#[112, 117, 116]⟩ : ByteArray) = ⟨#[60]⟩) := by decide
theorem ne_11_6 : ¬ ((⟨#[112, 117, 116]⟩ : ByteArray) = ⟨#[60, 61]⟩) := by decide
theorem ne_11_7 : ¬ ((⟨#[112, 117, 116]⟩ : ByteArray) = ⟨#[61]⟩) := by decide
theorem ne_11_8 : ¬ ((⟨#[112, 117, 116]⟩ : ByteArray) = ⟨#[110, 111, 116]⟩) := by decide
theorem ne_11_9 : ¬ ((⟨#[112, 117, 116]⟩ : ByteArray) = ⟨#[97, 116]⟩) := by decide
theorem ne_11_10 : ¬ ((⟨#[112, 117, 116]⟩ : ByteArray) = ⟨#[108, 101, 110]⟩) := by decide
theorem ne_11_12 : ¬ ((⟨#[112, 117, 116]⟩ : ByteArray) = ⟨#[106, 111, 105, 110]⟩) := by decide
theorem ne_11_13 : ¬ ((⟨#[112, 117, 116]⟩ : ByteArray) = ⟨#[112, 114, 105, 110, 116]⟩) := by decide
theorem ne_11_14 : ¬ ((⟨#[112, 117, 116]⟩ : ByteArray) = ⟨#[97, 110, 100]⟩) := by decide
theorem ne_11_15 : ¬ ((⟨#[112, 117, 116]⟩ : ByteArray) = ⟨#[111, 114]⟩) := by decide
theorem ne_12_0 : ¬ ((⟨#[106, 111, 105, 110]⟩ : ByteArray) = ⟨#[43]⟩) := by decide
theorem ne_12_1 : ¬ ((⟨#[106, 111, 105, 110]⟩ : ByteArray) = ⟨#[45]⟩) := by decide
theorem ne_12_2 : ¬ ((⟨#[106, 111, 105, 110]⟩ : ByteArray) = ⟨#[42]⟩) := by decide
theorem ne_12_3 : ¬ ((⟨#[106, 111, 105, 110]⟩ : ByteArray) = ⟨#[47]⟩) := by decide
theorem ne_12_4 : ¬ ((⟨#[106, 111, 105, 110]⟩ : ByteArray) = ⟨#[37]⟩) := by decide
theorem ne_12_5 : ¬ ((⟨#[106, 111, 105, 110]⟩ : ByteArray) = ⟨#[60]⟩) := by decide
theorem ne_12_6 : ¬ ((⟨#[106, 111, 105, 110]⟩ : ByteArray) = ⟨#[60, 61]⟩) := by decide
theorem ne_12_7 : ¬ ((⟨#[106, 111, 105, 110]⟩ : ByteArray) = ⟨#[61]⟩) := by decide
theorem ne_12_8 : ¬ ((⟨#[106, 111, 105, 110]⟩ : ByteArray) = ⟨#[110, 111, 116]⟩) := by decide
theorem ne_12_9 : ¬ ((⟨#[106, 111, 105, 110]⟩ : ByteArray) = ⟨#[97, 116]⟩) := by decide
theorem ne_12_10 : ¬ ((⟨#[106, 111, 105, 110]⟩ : ByteArray) = ⟨#[108, 101, 110]⟩) := by decide
theorem ne_12_11 : ¬ ((⟨#[106, 111, 105, 110]⟩ : ByteArray) = ⟨#[112, 117, 116]⟩) := by decide
theorem ne_12_13 : ¬ ((⟨#[106, 111, 105, 110]⟩ : ByteArray) = ⟨#[112, 114, 105, 110, 116]⟩) := by decide
theorem ne_12_14 : ¬ ((⟨#[106, 111, 105, 110]⟩ : ByteArray) = ⟨#[97, 110, 100]⟩) := by decide
theorem ne_12_15 : ¬ ((⟨#[106, 111, 105, 110]⟩ : ByteArray) = ⟨#[111, 114]⟩) := by decide
theorem ne_13_0 : ¬ ((⟨#[112, 114, 105, 110, 116]⟩ : ByteArray) = ⟨#[43]⟩) := by decide
theorem ne_13_1 : ¬ ((⟨#[112, 114, 105, 110, 116]⟩ : ByteArray) = ⟨#[45]⟩) := by decide
theorem ne_13_2 : ¬ ((⟨#[112, 114, 105, 110, 116]⟩ : ByteArray) = ⟨#[42]⟩) := by decide
theorem ne_13_3 : ¬ ((⟨#[112, 114, 105, 110, 116]⟩ : ByteArray) = ⟨#[47]⟩) := by decide
theorem ne_13_4 : ¬ ((⟨#[112, 114, 105, 110, 116]⟩ : ByteArray) = ⟨#[37]⟩) := by decide
theorem ne_13_5 : ¬ ((⟨#[112, 114, 105, 110, 116]⟩ : ByteArray) = ⟨#[60]⟩) := by decide
theorem ne_13_6 : ¬ ((⟨#[112, 114, 105, 110, 116]⟩ : ByteArray) = ⟨#[60, 61]⟩) := by decide
theorem ne_13_7 : ¬ ((⟨#[112, 114, 105, 110, 116]⟩ : ByteArray) = ⟨#[61]⟩) := by decide
theorem ne_13_8 : ¬ ((⟨#[112, 114, 105, 110, 116]⟩ : ByteArray) = ⟨#[110, 111, 116]⟩) := by decide
theorem ne_13_9 : ¬ ((⟨#[112, 114, 105, 110, 116]⟩ : ByteArray) = ⟨#[97, 116]⟩) := by decide
theorem ne_13_10 : ¬ ((⟨#[112, 114, 105, 110, 116]⟩ : ByteArray) = ⟨#[108, 101, 110]⟩) := by decide
theorem ne_13_11 : ¬ ((⟨#[112, 114, 105, 110, 116]⟩ : ByteArray) = ⟨#[112, 117, 116]⟩) := by decide
theorem ne_13_12 : ¬ ((⟨#[112, 114, 105, 110, 116]⟩ : ByteArray) = ⟨#[106, 111, 105, 110]⟩) := by decide
theorem ne_13_14 : ¬ ((⟨#[112, 114, 105, 110, 116]⟩ : ByteArray) = ⟨#[97, 110, 100]⟩) := by decide
theorem ne_13_15 : ¬ ((⟨#[112, 114, 105, 110, 116]⟩ : ByteArray) = ⟨#[111, 114]⟩) := by decide
theorem w86_0 : PureV C 86 [.s (.string (primW 0))] (primRes 0) := by
  refine pure_of_run Tryd.func86 rfl (by kernel_rfl) (by kernel_rfl) (by simp) (fun _ => rfl) (fun _ => rfl) 6 1000 ?_
  simp +contextual (maxSteps := 2000000) (disch := ((try unfold LIM at *); omega)) only [↓bcase_true, ↓bcase_false, WA, simprocAttr, wrap_i64, primW, primRes, primT, iV, List.replicate, ne_0_1, ne_0_2, ne_0_3, ne_0_4, ne_0_5, ne_0_6, ne_0_7, ne_0_8, ne_0_9, ne_0_10, ne_0_11, ne_0_12, ne_0_13, ne_0_14, ne_0_15]
theorem w86_1 : PureV C 86 [.s (.string (primW 1))] (primRes 1) := by
  refine pure_of_run Tryd.func86 rfl (by kernel_rfl) (by kernel_rfl) (by simp) (fun _ => rfl) (fun _ => rfl) 6 1000 ?_
  simp +contextual (maxSteps := 2000000) (disch := ((try unfold LIM at *); omega)) only [↓bcase_true, ↓bcase_false, WA, simprocAttr, wrap_i64, primW, primRes, primT, iV, List.replicate, ne_1_0, ne_1_2, ne_1_3, ne_1_4, ne_1_5, ne_1_6, ne_1_7, ne_1_8, ne_1_9, ne_1_10, ne_1_11, ne_1_12, ne_1_13, ne_1_14, ne_1_15]
theorem w86_2 : PureV C 86 [.s (.string (primW 2))] (primRes 2) := by
  refine pure_of_run Tryd.func86 rfl (by kernel_rfl) (by kernel_rfl) (by simp) (fun _ => rfl) (fun _ => rfl) 6 1000 ?_
  simp +contextual (maxSteps := 2000000) (disch := ((try unfold LIM at *); omega)) only [↓bcase_true, ↓bcase_false, WA, simprocAttr, wrap_i64, primW, primRes, primT, iV, List.replicate, ne_2_0, ne_2_1, ne_2_3, ne_2_4, ne_2_5, ne_2_6, ne_2_7, ne_2_8, ne_2_9, ne_2_10, ne_2_11, ne_2_12, ne_2_13, ne_2_14, ne_2_15]
theorem w86_3 : PureV C 86 [.s (.string (primW 3))] (primRes 3) := by
  refine pure_of_run Tryd.func86 rfl (by kernel_rfl) (by kernel_rfl) (by simp) (fun _ => rfl) (fun _ => rfl) 6 1000 ?_
  simp +contextual (maxSteps := 2000000) (disch := ((try unfold LIM at *); omega)) only [↓bcase_true, ↓bcase_false, WA, simprocAttr, wrap_i64, primW, primRes, primT, iV, List.replicate, ne_3_0, ne_3_1, ne_3_2, ne_3_4, ne_3_5, ne_3_6, ne_3_7, ne_3_8, ne_3_9, ne_3_10, ne_3_11, ne_3_12, ne_3_13, ne_3_14, ne_3_15]
theorem w86_4 : PureV C 86 [.s (.string (primW 4))] (primRes 4) := by
  refine pure_of_run Tryd.func86 rfl (by kernel_rfl) (by kernel_rfl) (by simp) (fun _ => rfl) (fun _ => rfl) 6 1000 ?_
  simp +contextual (maxSteps := 2000000) (disch := ((try unfold LIM at *); omega)) only [↓bcase_true, ↓bcase_false, WA, simprocAttr, wrap_i64, primW, primRes, primT, iV, List.replicate, ne_4_0, ne_4_1, ne_4_2, ne_4_3, ne_4_5, ne_4_6, ne_4_7, ne_4_8, ne_4_9, ne_4_10, ne_4_11, ne_4_12, ne_4_13, ne_4_14, ne_4_15]
theorem w86_5 : PureV C 86 [.s (.string (primW 5))] (primRes 5) := by
  refine pure_of_run Tryd.func86 rfl (by kernel_rfl) (by kernel_rfl) (by simp) (fun _ => rfl) (fun _ => rfl) 6 1000 ?_
  simp +contextual (maxSteps := 2000000) (disch := ((try unfold LIM at *); omega)) only [↓bcase_true, ↓bcase_false, WA, simprocAttr, wrap_i64, primW, primRes, primT, iV, List.replicate, ne_5_0, ne_5_1, ne_5_2, ne_5_3, ne_5_4, ne_5_6, ne_5_7, ne_5_8, ne_5_9, ne_5_10, ne_5_11, ne_5_12, ne_5_13, ne_5_14, ne_5_15]
theorem w86_6 : PureV C 86 [.s (.string (primW 6))] (primRes 6) := by
  refine pure_of_run Tryd.func86 rfl (by kernel_rfl) (by kernel_rfl) (by simp) (fun _ => rfl) (fun _ => rfl) 6 1000 ?_
  simp +contextual (maxSteps := 2000000) (disch := ((try unfold LIM at *); omega)) only [↓bcase_true, ↓bcase_false, WA, simprocAttr, wrap_i64, primW, primRes, primT, iV, List.replicate, ne_6_0, ne_6_1, ne_6_2, ne_6_3, ne_6_4, ne_6_5, ne_6_7, ne_6_8, ne_6_9, ne_6_10, ne_6_11, ne_6_12, ne_6_13, ne_6_14, ne_6_15]
theorem w86_7 : PureV C 86 [.s (.string (primW 7))] (primRes 7) := by
  refine pure_of_run Tryd.func86 rfl (by kernel_rfl) (by kernel_rfl) (by simp) (fun _ => rfl) (fun _ => rfl) 6 1000 ?_
  simp +contextual (maxSteps := 2000000) (disch := ((try unfold LIM at *); omega)) only [↓bcase_true, ↓bcase_false, WA, simprocAttr, wrap_i64, primW, primRes, primT, iV, List.replicate, ne_7_0, ne_7_1, ne_7_2, ne_7_3, ne_7_4, ne_7_5, ne_7_6, ne_7_8, ne_7_9, ne_7_10, ne_7_11, ne_7_12, ne_7_13, ne_7_14, ne_7_15]
theorem w86_8 : PureV C 86 [.s (.string (primW 8))] (primRes 8) := by
  refine pure_of_run Tryd.func86 rfl (by kernel_rfl) (by kernel_rfl) (by simp) (fun _ => rfl) (fun _ => rfl) 6 1000 ?_
  simp +contextual (maxSteps := 2000000) (disch := ((try unfold LIM at *); omega)) only [↓bcase_true, ↓bcase_false, WA, simprocAttr, wrap_i64, primW, primRes, primT, iV, List.replicate, ne_8_0, ne_8_1, ne_8_2, ne_8_3, ne_8_4, ne_8_5, ne_8_6, ne_8_7, ne_8_9, ne_8_10, ne_8_11, ne_8_12, ne_8_13, ne_8_14, ne_8_15]
theorem w86_9 : PureV C 86 [.s (.string (primW 9))] (primRes 9) := by
  refine pure_of_run Tryd.func86 rfl (by kernel_rfl) (by kernel_rfl) (by simp) (fun _ => rfl) (fun _ => rfl) 6 1000 ?_
  simp +contextual (maxSteps := 2000000) (disch := ((try unfold LIM at *); omega)) only [↓bcase_true, ↓bcase_false, WA, simprocAttr, wrap_i64, primW, primRes, primT, iV, List.replicate, ne_9_0, ne_9_1, ne_9_2, ne_9_3, ne_9_4, ne_9_5, ne_9_6, ne_9_7, ne_9_8, ne_9_10, ne_9_11, ne_9_12, ne_9_13, ne_9_14, ne_9_15]
theorem w86_10 : PureV C 86 [.s (.string (primW 10))] (primRes 10) := by
  refine pure_of_run Tryd.func86 rfl (by kernel_rfl) (by kernel_rfl) (by simp) (fun _ => rfl) (fun _ => rfl) 6 1000 ?_
  simp +contextual (maxSteps := 2000000) (disch := ((try unfold LIM at *); omega)) only [↓bcase_true, ↓bcase_false, WA, simprocAttr, wrap_i64, primW, primRes, primT, iV, List.replicate, ne_10_0, ne_10_1, ne_10_2, ne_10_3, ne_10_4, ne_10_5, ne_10_6, ne_10_7, ne_10_8, ne_10_9, ne_10_11, ne_10_12, ne_10_13, ne_10_14, ne_10_15]
theorem w86_11 : PureV C 86 [.s (.string (primW 11))] (primRes 11) := by
  refine pure_of_run Tryd.func86 rfl (by kernel_rfl) (by kernel_rfl) (by simp) (fun _ => rfl) (fun _ => rfl) 6 1000 ?_
  simp +contextual (maxSteps := 2000000) (disch := ((try unfold LIM at *); omega)) only [↓bcase_true, ↓bcase_false, WA, simprocAttr, wrap_i64, primW, primRes, primT, iV, List.replicate, ne_11_0, ne_11_1, ne_11_2, ne_11_3, ne_11_4, ne_11_5, ne_11_6, ne_11_7, ne_11_8, ne_11_9, ne_11_10, ne_11_12, ne_11_13, ne_11_14, ne_11_15]
theorem w86_12 : PureV C 86 [.s (.string (primW 12))] (primRes 12) := by
  refine pure_of_run Tryd.func86 rfl (by kernel_rfl) (by kernel_rfl) (by simp) (fun _ => rfl) (fun _ => rfl) 6 1000 ?_
  simp +contextual (maxSteps := 2000000) (disch := ((try unfold LIM at *); omega)) only [↓bcase_true, ↓bcase_false, WA, simprocAttr, wrap_i64, primW, primRes, primT, iV, List.replicate, ne_12_0, ne_12_1, ne_12_2, ne_12_3, ne_12_4, ne_12_5, ne_12_6, ne_12_7, ne_12_8, ne_12_9, ne_12_10, ne_12_11, ne_12_13, ne_12_14, ne_12_15]
theorem w86_13 : PureV C 86 [.s (.string (primW 13))] (primRes 13) := by
  refine pure_of_run Tryd.func86 rfl (by kernel_rfl) (by kernel_rfl) (by simp) (fun _ => rfl) (fun _ => rfl) 6 1000 ?_
  simp +contextual (maxSteps := 2000000) (disch := ((try unfold LIM at *); omega)) only [↓bcase_true, ↓bcase_false, WA, simprocAttr, wrap_i64, primW, primRes, primT, iV, List.replicate, ne_13_0, ne_13_1, ne_13_2, ne_13_3, ne_13_4, ne_13_5, ne_13_6, ne_13_7, ne_13_8, ne_13_9, ne_13_10, ne_13_11, ne_13_12, ne_13_14, ne_13_15]
theorem walk86 : ∀ (i : Nat), i < 14 → PureV C 86 [.s (.string (primW i))] (primRes i)
  | 0, _ => w86_0
  | 1, _ => w86_1
  | 2, _ => w86_2
  | 3, _ => w86_3
  | 4, _ => w86_4
  | 5, _ => w86_5
  | 6, _ => w86_6
  | 7, _ => w86_7
  | 8, _ => w86_8
  | 9, _ => w86_9
  | 10, _ => w86_10
  | 11, _ => w86_11
  | 12, _ => w86_12
  | 13, _ => w86_13
  | n + 14, h => absurd h (by omega)
theorem new91 (l : List Int) (hl : l.length ≤ 1048576) : NewV C 91 [.f 1 (l.map iV)] 1 (l.map iV) := by
  refine calls_of_run Tryd.func91 rfl (by kernel_rfl) (by kernel_rfl) (by simp) 1000 ?_
  have q1 : l.length * 8 ≤ 140737488355328 ∧ l.length ≤ LIM := by unfold LIM; omega
  simp +contextual (maxSteps := 2000000) (disch := ((try unfold LIM at *); omega)) only [↓bcase_true, ↓bcase_false, WA, simprocAttr, wrap_i64, leafs_map iV_ok, List.length_map, q1, takeTo, List.take_length, take_map_len]
  intro r hr
  cases r with
  | true =>
    simp +contextual (maxSteps := 2000000) (disch := ((try unfold LIM at *); omega)) only [↓bcase_true, ↓bcase_false, WA, simprocAttr, wrap_i64]
    have e : l = [] := by
      cases l with
      | nil => rfl
      | cons a b => exact absurd (hr (by simp)) (by simp)
    subst e
    exact Up.nil 1 ⟨0, by simp, rfl, rfl⟩
  | false =>
    simp +contextual (maxSteps := 2000000) (disch := ((try unfold LIM at *); omega)) only [↓bcase_true, ↓bcase_false, WA, simprocAttr, wrap_i64, leafs_map iV_ok, List.length_map, q1, takeTo, List.take_length, take_map_len]
    intro cap' hc _
    exact Up.fresh (b := 1) rfl (nrs_map iV_nr _) ⟨cap', hc, rfl, rfl⟩
def eqL : List Int → List Int → Bool
  | a :: p, b :: q => decide (a = b) && eqL p q
  | _, _ => true
theorem eqL_eq : ∀ {l r : List Int}, l.length = r.length → eqL l r = decide (l = r)
  | [], [], _ => by simp [eqL]
  | a :: p, b :: q, h => by
    have := eqL_eq (l := p) (r := q) (by simpa using h)
    simp only [eqL, this, List.cons.injEq]
    by_cases e : a = b <;> by_cases e2 : p = q <;> simp [e, e2]
  | [], _ :: _, h => by simp at h
  | _ :: _, [], h => by simp at h
theorem walk97 (l r : List Int) : PureV C 97 [.f 1 (l.map iV), .f 1 (r.map iV)] (.s (.bool (decide (l = r)))) := by
  refine pure_of_run Tryd.func97 rfl (by kernel_rfl) (by kernel_rfl) (by simp) (fun _ => rfl) (fun _ => rfl) 6 1000 ?_
  by_cases c1 : l.length = r.length
  · have c1' : (l.length : Int) = r.length := by omega
    simp +contextual (maxSteps := 2000000) (disch := ((try unfold LIM at *); omega)) only [↓bcase_true, ↓bcase_false, WA, simprocAttr, wrap_i64, List.length_map, c1']
    intro hl hr
    refine LoopThen.pure (ι := Nat) (fun i => i ≤ l.length ∧ eqL (l.drop i) (r.drop i) = decide (l = r)) (fun i => keepL [(0, .f 1 (l.map iV)), (1, .f 1 (r.map iV)), (12, .s (.int .i64 r.length)), (13, .s (.int .i64 i))]) (fun i => l.length - i)
      6 [0, 1, 12, 13] 1000 1000 ⟨0, ⟨by omega, eqL_eq c1⟩, by simp +contextual (maxSteps := 2000000) (disch := ((try unfold LIM at *); omega)) only [↓bcase_true, ↓bcase_false, WA, simprocAttr, wrap_i64]⟩ ?_
    rintro i ⟨p1, p4⟩
    by_cases c2 : (i : Int) < r.length
    · obtain ⟨g, hg⟩ := get_lt c2
      obtain ⟨f, hf⟩ := get_lt (l := l) (i := i) (by omega)
      have pi : (0 : Int) ≤ i := by omega
      rw [drop_cons hf, drop_cons hg] at p4
      simp only [eqL] at p4
      by_cases c3 : f = g
      · rw [decide_eq_true c3, Bool.true_and] at p4
        simp +contextual (maxSteps := 2000000) (disch := ((try unfold LIM at *); omega)) only [↓bcase_true, ↓bcase_false, WA, simprocAttr, wrap_i64, List.length_map, hl, c2, pi]
        refine DrawThen.of 1000 [] (.old 0 (.old 1 (.old 2 (.old 3 (.old 4 (.old 5 (.old 6 (.old 7 (.old 8 .done))))))))) (panFree_loopP (panFree_pure _ _ _)) (by kernel_rfl) (by kernel_rfl) (by kernel_rfl) ?_
        simp +contextual (maxSteps := 2000000) (disch := ((try unfold LIM at *); omega)) only [↓bcase_true, ↓bcase_false, WA, simprocAttr, wrap_i64, c2, hf, hg, pi, iV, c3, cast_succ]
        exact ⟨i + 1, ⟨⟨by omega, p4⟩, by omega⟩, rfl⟩
      · rw [decide_eq_false c3, Bool.false_and] at p4
        simp +contextual (maxSteps := 2000000) (disch := ((try unfold LIM at *); omega)) only [↓bcase_true, ↓bcase_false, WA, simprocAttr, wrap_i64, List.length_map, hl, c2, pi]
        refine DrawThen.of 1000 [] (.old 0 (.old 1 (.old 2 (.old 3 (.old 4 (.old 5 (.old 6 (.old 7 (.old 8 .done))))))))) (panFree_loopP (panFree_pure _ _ _)) (by kernel_rfl) (by kernel_rfl) (by kernel_rfl) ?_
        simp +contextual (maxSteps := 2000000) (disch := ((try unfold LIM at *); omega)) only [↓bcase_true, ↓bcase_false, WA, simprocAttr, wrap_i64, c2, hf, hg, pi, iV, c3, ← p4]
    · have e : i = l.length := by omega
      subst e
      have e1 : r.drop l.length = [] := by rw [c1, List.drop_length]
      rw [List.drop_length, e1] at p4
      simp only [eqL] at p4
      simp +contextual (maxSteps := 2000000) (disch := ((try unfold LIM at *); omega)) only [↓bcase_true, ↓bcase_false, WA, simprocAttr, wrap_i64, List.length_map, hl, c2, ← p4, c1', Int.lt_irrefl]
  · have c1' : ¬ (l.length : Int) = r.length := by omega
    have e : decide (l = r) = false := decide_eq_false fun e => c1 (by rw [e])
    simp +contextual (maxSteps := 2000000) (disch := ((try unfold LIM at *); omega)) only [↓bcase_true, ↓bcase_false, WA, simprocAttr, wrap_i64, List.length_map, c1', e]
end Go.Proofs.YtijefmjfdhfjmaaDoor
/- part S5 -/
set_option linter.unusedVariables false
set_option linter.unusedSimpArgs false
set_option maxRecDepth 100000
namespace Go.Proofs.YtijefmjfdhfjmaaDoor
open Go Go.W Go.RowKit
theorem iV_frz (n0 d : Nat) (h : H) (l : List Int) : ((l.map iV).map fun el => el.map (frz n0 d h)) = l.map iV := frz_els (nrs_map iV_nr l) (leafs_map iV_ok l)
/-- A copy behind a pointer. -/
def CloneV (D : Cx) (a : At) : Prop := CallsV D 73 [.ptr 0 0 0] [nowB a] fun res h' => res = .ret (.ptr 1 0 0) ∧ h' = [nowB a, nowB a]
theorem clone73 (a : At) (h1 : a.stack.length ≤ 100) (h2 : a.slots.length ≤ 1000) : CloneV C a := by
  refine calls_of_run Tryd.func73 rfl (by kernel_rfl) (by kernel_rfl) (by simp) 1000 ?_
  simp +contextual (maxSteps := 2000000) (disch := ((try unfold LIM at *); omega)) only [↓bcase_true, ↓bcase_false, WA, simprocAttr, wrap_i64, nowB]
  refine DrawThen.of 1000 [0] (.old 0 (.old 1 (.old 2 (.old 5 (.old 6 (.old 7 (.or 3 (.or 4 (.go 8 (.go 9 (.new 10 (.go 11 (.new 12 .done))))) (.go 8 (.go 4 (.go 9 (.new 10 (.go 11 (.new 12 .done))))))) (.go 8 (.go 3 (.go 4 (.go 9 (.new 10 (.go 11 (.new 12 .done)))))))))))))) (panFree_body _ _) (by kernel_rfl) (by kernel_rfl) (by kernel_rfl) ?_
  simp +contextual (maxSteps := 2000000) (disch := ((try unfold LIM at *); omega)) only [↓bcase_true, ↓bcase_false, WA, simprocAttr, wrap_i64, nowB, List.length_map]
  refine ⟨?_, ?_⟩
  · intro cp1 hc1
    try simp +contextual (maxSteps := 2000000) (disch := ((try unfold LIM at *); omega)) only [↓bcase_true, ↓bcase_false, WA, simprocAttr, wrap_i64, nowB, List.length_map]
    refine ⟨?_, ?_⟩
    · refine DCall.newB (new91 a.stack (by omega)) (plains_map iV_plain _) 6 ?_ 1000 (.go 8 (.go 9 (.new 10 (.go 11 (.new 12 .done))))) (by kernel_rfl) fun cp3 hc3 => ?_
      · simp +contextual (maxSteps := 2000000) (disch := ((try unfold LIM at *); omega)) only [↓bcase_true, ↓bcase_false, WA, simprocAttr, wrap_i64, List.length_map, iV_frz]
      try simp +contextual (maxSteps := 2000000) (disch := ((try unfold LIM at *); omega)) only [↓bcase_true, ↓bcase_false, WA, simprocAttr, wrap_i64, nowB, List.length_map]
      intro cp2 hc2
      try simp +contextual (maxSteps := 2000000) (disch := ((try unfold LIM at *); omega)) only [↓bcase_true, ↓bcase_false, WA, simprocAttr, wrap_i64, nowB, List.length_map]
      refine DCall.newB (new91 a.slots (by omega)) (plains_map iV_plain _) 6 ?_ 1000 (.new 10 (.go 11 (.new 12 .done))) (by kernel_rfl) fun cp4 hc4 => ?_
      · simp +contextual (maxSteps := 2000000) (disch := ((try unfold LIM at *); omega)) only [↓bcase_true, ↓bcase_false, WA, simprocAttr, wrap_i64, List.length_map, iV_frz]
      try simp +contextual (maxSteps := 2000000) (disch := ((try unfold LIM at *); omega)) only [↓bcase_true, ↓bcase_false, WA, simprocAttr, wrap_i64, nowB, List.length_map]
      repeat' apply And.intro
      all_goals
        refine Up.gcF (.ptr 1 0 0) [] [(0, 0, 0), (0, 0, 1), (5, 0, 0), (5, 0, 1)] [0, 5] [nowB a, nowB a] (by simp) rfl ?_ (by simp [folds_length, shrinks_length, rnV, rnQ, rnC, rnP, nm]) ⟨rfl, rfl⟩
        have n1 := nrs_map iV_nr a.stack
        have n2 := nrs_map iV_nr a.slots
        simp [folds, foldC, foldK, rdC, rdB, refB, ownOf, elsB, wrH, wrB, wrE, wrL, shrinks, shr1, gcL, n1, n2, now_nr]
        exact .inl rfl
    · intro cp2 hc2
      try simp +contextual (maxSteps := 2000000) (disch := ((try unfold LIM at *); omega)) only [↓bcase_true, ↓bcase_false, WA, simprocAttr, wrap_i64, nowB, List.length_map]
      refine DCall.newB (new91 a.stack (by omega)) (plains_map iV_plain _) 6 ?_ 1000 (.go 9 (.new 10 (.go 11 (.new 12 .done)))) (by kernel_rfl) fun cp3 hc3 => ?_
      · simp +contextual (maxSteps := 2000000) (disch := ((try unfold LIM at *); omega)) only [↓bcase_true, ↓bcase_false, WA, simprocAttr, wrap_i64, List.length_map, iV_frz]
      try simp +contextual (maxSteps := 2000000) (disch := ((try unfold LIM at *); omega)) only [↓bcase_true, ↓bcase_false, WA, simprocAttr, wrap_i64, nowB, List.length_map]
      refine DCall.newB (new91 a.slots (by omega)) (plains_map iV_plain _) 6 ?_ 1000 (.new 10 (.go 11 (.new 12 .done))) (by kernel_rfl) fun cp4 hc4 => ?_
      · simp +contextual (maxSteps := 2000000) (disch := ((try unfold LIM at *); omega)) only [↓bcase_true, ↓bcase_false, WA, simprocAttr, wrap_i64, List.length_map, iV_frz]
      try simp +contextual (maxSteps := 2000000) (disch := ((try unfold LIM at *); omega)) only [↓bcase_true, ↓bcase_false, WA, simprocAttr, wrap_i64, nowB, List.length_map]
      repeat' apply And.intro
      all_goals
        refine Up.gcF (.ptr 1 0 0) [] [(0, 0, 0), (0, 0, 1), (5, 0, 0), (5, 0, 1)] [0, 5] [nowB a, nowB a] (by simp) rfl ?_ (by simp [folds_length, shrinks_length, rnV, rnQ, rnC, rnP, nm]) ⟨rfl, rfl⟩
        have n1 := nrs_map iV_nr a.stack
        have n2 := nrs_map iV_nr a.slots
        simp [folds, foldC, foldK, rdC, rdB, refB, ownOf, elsB, wrH, wrB, wrE, wrL, shrinks, shr1, gcL, n1, n2, now_nr]
        exact .inl rfl
  · intro cp2 hc2
    try simp +contextual (maxSteps := 2000000) (disch := ((try unfold LIM at *); omega)) only [↓bcase_true, ↓bcase_false, WA, simprocAttr, wrap_i64, nowB, List.length_map]
    intro cp1 hc1
    try simp +contextual (maxSteps := 2000000) (disch := ((try unfold LIM at *); omega)) only [↓bcase_true, ↓bcase_false, WA, simprocAttr, wrap_i64, nowB, List.length_map]
    refine DCall.newB (new91 a.stack (by omega)) (plains_map iV_plain _) 6 ?_ 1000 (.go 9 (.new 10 (.go 11 (.new 12 .done)))) (by kernel_rfl) fun cp3 hc3 => ?_
    · simp +contextual (maxSteps := 2000000) (disch := ((try unfold LIM at *); omega)) only [↓bcase_true, ↓bcase_false, WA, simprocAttr, wrap_i64, List.length_map, iV_frz]
    try simp +contextual (maxSteps := 2000000) (disch := ((try unfold LIM at *); omega)) only [↓bcase_true, ↓bcase_false, WA, simprocAttr, wrap_i64, nowB, List.length_map]
    refine DCall.newB (new91 a.slots (by omega)) (plains_map iV_plain _) 6 ?_ 1000 (.new 10 (.go 11 (.new 12 .done))) (by kernel_rfl) fun cp4 hc4 => ?_
    · simp +contextual (maxSteps := 2000000) (disch := ((try unfold LIM at *); omega)) only [↓bcase_true, ↓bcase_false, WA, simprocAttr, wrap_i64, List.length_map, iV_frz]
    try simp +contextual (maxSteps := 2000000) (disch := ((try unfold LIM at *); omega)) only [↓bcase_true, ↓bcase_false, WA, simprocAttr, wrap_i64, nowB, List.length_map]
    repeat' apply And.intro
    all_goals
      refine Up.gcF (.ptr 1 0 0) [] [(0, 0, 0), (0, 0, 1), (5, 0, 0), (5, 0, 1)] [0, 5] [nowB a, nowB a] (by simp) rfl ?_ (by simp [folds_length, shrinks_length, rnV, rnQ, rnC, rnP, nm]) ⟨rfl, rfl⟩
      have n1 := nrs_map iV_nr a.stack
      have n2 := nrs_map iV_nr a.slots
      simp [folds, foldC, foldK, rdC, rdB, refB, ownOf, elsB, wrH, wrB, wrE, wrL, shrinks, shr1, gcL, n1, n2, now_nr]
      exact .inl rfl
end Go.Proofs.YtijefmjfdhfjmaaDoor
/- part S6 -/
set_option linter.unusedVariables false
set_option linter.unusedSimpArgs false
set_option maxRecDepth 100000
namespace Go.Proofs.YtijefmjfdhfjmaaDoor
open Go Go.W Go.RowKit
def reachR (m : Img) (fn at_ : Int) (ats : Ats) (to : Nat) (a : At) : Except Int (V × H) := match reachE ats to a with
  | .ok ats' => .ok (.tup [], hs3 m fn at_ ats' a)
  | .error c => .error c
theorem foldC_ptr {h : H} {b b1 i o n cap n1 : Nat} {els : List (List V)} {el el1 : List V} (hb : h[b]? = some ⟨els, n, cap, true⟩) (he : els[i]? = some el) (ho : el[o]? = some (.ptr b1 0 0)) (h1 : h[b1]? = some ⟨[el1], n1, 1, true⟩)
    (hn : nrs [el1] = true) (hne : b1 ≠ b) : foldC h b i o = (h.set b ⟨els.set i (el.set o (.lp el1)), n, cap, true⟩).set b1 Blk.dead := by
  unfold foldC foldK
  simp [hb, rdB, rdC, he, ho, refB, h1, ownOf, elsB, hn, hne, wrH, wrB, wrE, wrL]
theorem set_atC (ats : Ats) (to : Nat) (a : At) : (ats.map atC).set to [.lp [.l 1 (a.stack.map iV), .l 1 (a.slots.map iV)]] = (ats.set to (some a)).map atC := by
  rw [List.map_set]; rfl
/-- The first i slots have been joined. -/
def joinN (i : Nat) (a b : List Int) : List Int := joinS (a.take i) (b.take i) ++ a.drop i
theorem joinS_take_all : ∀ {p q : List Int}, p.length = q.length → joinN p.length p q = joinS p q := by
  intro p q h
  unfold joinN
  rw [List.take_length, h, List.take_length, ← h, List.drop_length, List.append_nil]
theorem joinS_snoc : ∀ (p q : List Int) (x y : Int), p.length = q.length → joinS (p ++ [x]) (q ++ [y]) = joinS p q ++ [if x = y then x else 0]
  | [], [], x, y, _ => by simp [joinS]
  | a :: p, b :: q, x, y, h => by simp only [List.cons_append, joinS, joinS_snoc p q x y (by simpa using h)]
  | [], _ :: _, _, _, h => by simp at h
  | _ :: _, [], _, _, h => by simp at h
theorem joinN_len {i : Nat} {p q : List Int} : (joinN i p q).length = p.length := by
  unfold joinN; rw [List.length_append, joinS_length, ← List.length_append, List.take_append_drop]
theorem joinN_get {i : Nat} {p q : List Int} (h : i < p.length) : (joinN i p q)[i]? = p[i]? := by
  unfold joinN
  have hl : (joinS (p.take i) (q.take i)).length = i := by rw [joinS_length]; simp; omega
  rw [List.getElem?_append_right (by omega), hl, Nat.sub_self, List.getElem?_drop]; rfl
theorem joinN_succ {i : Nat} {p q : List Int} {x y : Int} (hx : p[i]? = some x) (hy : q[i]? = some y) : joinN (i + 1) p q = (joinN i p q).set i (if x = y then x else 0) := by
  have h1 := (List.getElem?_eq_some_iff.1 hx).1
  have h2 := (List.getElem?_eq_some_iff.1 hy).1
  have hl : (joinS (p.take i) (q.take i)).length = i := by rw [joinS_length]; simp; omega
  unfold joinN
  rw [List.take_add_one, List.take_add_one, hx, hy, Option.toList_some, Option.toList_some, joinS_snoc _ _ _ _ (by simp; omega), drop_cons hx, List.set_append_right _ _ (by omega), hl, Nat.sub_self, List.set_cons_zero, List.append_assoc]; rfl
theorem rn_atsP (ρ : Nat → Nat) (ats : Ats) (to b c : Nat) : rnB ρ ⟨(ats.map atC).set to [.ptr b 0 0], 1, c, true⟩ = ⟨(ats.map atC).set to [.ptr (ρ b) 0 0], 1, c, true⟩ := by
  have h0 := rnB_ats ρ ats
  have e : (ats.map atC).map (fun el => el.map (rnC ρ)) = ats.map atC := congrArg Blk.els h0
  show Blk.mk (((ats.map atC).set to [V.ptr b 0 0]).map fun el => el.map (rnC ρ)) 1 c true = _
  rw [List.map_set, e]; rfl
theorem edit90 (m : Img) (fn at_ : Int) (ats : Ats) (to : Nat) (a : At) (n : Nat) (ha : AtsOk n ats) (hn : a.slots.length = n ∧ a.stack.length ≤ 100) (hn2 : n ≤ 1000) : EditS C 90 [.ptr 0 0 0, .s (.int .i64 to), .ptr 2 0 0] (hs3 m fn at_ ats a) (reachR m fn at_ ats to a) fn at_ := by
  refine calls_of_run Tryd.func90 rfl (by kernel_rfl) (by kernel_rfl) (by simp) 1000 ?_
  by_cases c1 : (ats.length : Int) ≤ to
  · have e : reachR m fn at_ ats to a = .error 7 := by
      unfold reachR reachE
      rw [List.getElem?_eq_none (by omega)]
    rw [e]
    simp +contextual (maxSteps := 2000000) (disch := ((try unfold LIM at *); omega)) only [↓bcase_true, ↓bcase_false, WA, simprocAttr, wrap_i64, hs3, surB, c1]
    exact CallThen.refuse (m0 := m) (fn := fn) (at_ := at_) (c := 7) (x := .sl 1 0 ats.length ats.length) (rest := [atsB ats]) [0, 1] (by simp) ⟨.inr rfl, .inl ⟨ats_nr ats, rfl⟩, trivial⟩ rfl fun h1 _ => panQ rfl
  have c2 : (to : Int) < ats.length := by omega
  obtain ⟨o, ho⟩ := get_lt c2
  have pi : (0 : Int) ≤ to := by omega
  have hl1 : (ats.map atC).length = ats.length := by simp
  have hlt : to < ats.length := by omega
  cases o with
  | none =>
    have e : reachR m fn at_ ats to a = .ok (.tup [], hs3 m fn at_ (ats.set to (some a)) a) := by
      unfold reachR reachE
      rw [ho]
    rw [e]
    simp +contextual (maxSteps := 2000000) (disch := ((try unfold LIM at *); omega)) only [↓bcase_true, ↓bcase_false, WA, simprocAttr, wrap_i64, hs3, surB, atsB, c1, c2, ho, pi, atC]
    refine DrawThen.of 1000 [1, 2] (.old 0 (.old 1 (.old 2 (.old 3 (.old 4 (.old 5 (.go 6 (.old 7 (.go 8 .done))))))))) (panFree_body _ _) (by kernel_rfl) (by kernel_rfl) (by kernel_rfl) ?_
    simp +contextual (maxSteps := 2000000) (disch := ((try unfold LIM at *); omega)) only [↓bcase_true, ↓bcase_false, WA, simprocAttr, wrap_i64, c2, pi]
    refine DCall.of 1000 (.old 7 (.go 8 .done)) (by kernel_rfl) (CallsV.frameL (clone73 a hn.2 (by omega)) [2] _ (by simp) ⟨.inl ⟨now_nr a, rfl⟩, trivial⟩ rfl) fun res h' ⟨r, h1, ⟨q1, q2⟩, q3, q4, q5⟩ => ?_
    subst q1; subst q2; subst q4; subst q5
    simp +contextual (maxSteps := 2000000) (disch := ((try unfold LIM at *); omega)) only [↓bcase_true, ↓bcase_false, WA, simprocAttr, wrap_i64, c2, pi, rnRes, rnB_now, hl1, List.length_map, ho, atC, true_and]
    have eF : folds [surB m fn at_ (.sl 1 0 ats.length ats.length), ⟨(ats.map atC).set to [.ptr 3 0 0], 1, ats.length, true⟩, nowB a, nowB a] [(1, to, 0)] = [surB m fn at_ (.sl 1 0 ats.length ats.length), atsB (ats.set to (some a)), nowB a, Blk.dead] := by
      rw [folds_cons, folds_nil, foldC_ptr (b := 1) (i := to) (o := 0) (b1 := 3) (n := 1) (n1 := 2) (el := [.ptr 3 0 0]) (el1 := [.l 1 (a.stack.map iV), .l 1 (a.slots.map iV)]) (els := (ats.map atC).set to [.ptr 3 0 0]) (cap := ats.length) rfl (by simp [hlt]) rfl rfl rfl (by decide)]
      simp only [List.set_set, List.set_cons_zero, List.set_cons_succ, set_atC, atsB, List.length_set]
    refine Up.gcF (.tup []) [] [(1, to, 0)] [0, 1, 2] (hs3 m fn at_ (ats.set to (some a)) a) (by simp) rfl ?_ rfl ⟨rfl, rfl⟩
    rw [shrinks_nil]
    show gcL (nm [0, 1, 2] (folds [surB m fn at_ (.sl 1 0 ats.length ats.length), ⟨(ats.map atC).set to [.ptr 3 0 0], 1, ats.length, true⟩, nowB a, nowB a] [(1, to, 0)]).length) (folds [surB m fn at_ (.sl 1 0 ats.length ats.length), ⟨(ats.map atC).set to [.ptr 3 0 0], 1, ats.length, true⟩, nowB a, nowB a] [(1, to, 0)]) _ _
    rw [eF, hs3, List.length_set]
    exact ⟨.inr rfl, .inl ⟨ats_nr _, rfl⟩, .inl ⟨now_nr _, rfl⟩, trivial⟩
  | some t =>
    have ht := ha t (List.mem_of_getElem? ho)
    simp +contextual (maxSteps := 2000000) (disch := ((try unfold LIM at *); omega)) only [↓bcase_true, ↓bcase_false, WA, simprocAttr, wrap_i64, hs3, surB, atsB, nowB, c1, c2, ho, pi, atC]
    refine DrawThen.of 1000 [2, 3] (.old 0 (.old 1 (.old 2 (.old 4 (.old 5 (.old 6 (.or 3 (.go 7 (.go 8 (.new 9 .done))) (.go 7 (.go 3 (.go 8 (.new 9 .done))))))))))) (panFree_body _ _) (by kernel_rfl) (by kernel_rfl) (by kernel_rfl) ?_
    simp +contextual (maxSteps := 2000000) (disch := ((try unfold LIM at *); omega)) only [↓bcase_true, ↓bcase_false, WA, simprocAttr, wrap_i64, List.length_map]
    refine ⟨?_, ?_⟩
    · intro cp1 hc1
      try simp +contextual (maxSteps := 2000000) (disch := ((try unfold LIM at *); omega)) only [↓bcase_true, ↓bcase_false, WA, simprocAttr, wrap_i64, List.length_map]
      intro cp2 hc2
      try simp +contextual (maxSteps := 2000000) (disch := ((try unfold LIM at *); omega)) only [↓bcase_true, ↓bcase_false, WA, simprocAttr, wrap_i64, List.length_map]
      refine DCall.borrow (walk97 t.stack a.stack) (flat_s _) 6 ?_ 1000 (.new 9 .done) (by kernel_rfl) ?_
      · simp +contextual (maxSteps := 2000000) (disch := ((try unfold LIM at *); omega)) only [↓bcase_true, ↓bcase_false, WA, simprocAttr, wrap_i64, List.length_map, iV_frz]
      try simp +contextual (maxSteps := 2000000) (disch := ((try unfold LIM at *); omega)) only [↓bcase_true, ↓bcase_false, WA, simprocAttr, wrap_i64, List.length_map]
      refine ⟨fun c3 => ?_, fun c3 cap hcap => ?_⟩
      · have e : reachR m fn at_ ats to a = .error 6 := by
          unfold reachR reachE; rw [ho]; simp only; rw [if_neg c3]
        rw [e]
        have n1 := nrs_map iV_nr t.stack
        have n2 := nrs_map iV_nr a.stack
        have hset : (ats.map atC).set to [.lp [.l 1 (t.stack.map iV), .l 1 (t.slots.map iV)]] = ats.map atC := set_same (by rw [List.getElem?_map, ho]; rfl)
        refine CallThen.refuseF (m0 := m) (fn := fn) (at_ := at_) (c := 6) (x := .sl 1 0 ats.length ats.length) (rest := [atsB ats]) [(3, 0, 0), (2, 0, 0), (1, to, 0)] [surB m fn at_ (.sl 1 0 ats.length ats.length), atsB ats, nowB a, Blk.dead, Blk.dead, Blk.dead] ?_ [0, 1] (by simp) ⟨.inr rfl, .inl ⟨ats_nr ats, rfl⟩, trivial⟩ rfl fun h1 _ => panQ rfl
        have n3 : nrs [[V.l 1 (t.stack.map iV), V.l 1 (t.slots.map iV)]] = true := rfl
        simp [folds, foldC, foldK, rdC, rdB, refB, ownOf, elsB, wrH, wrB, wrE, wrL, shrinks, shr1, gcL, n1, n2, n3, hlt, hset, surB, atsB, nowB]
      · have ej := joinS_take_all (p := t.slots) (q := a.slots) (by omega)
        have e : reachR m fn at_ ats to a = .ok (.tup [], hs3 m fn at_ (ats.set to (some ⟨t.stack, joinN t.slots.length t.slots a.slots⟩)) a) := by
          unfold reachR reachE; rw [ho]; simp only; rw [if_pos c3, ej]
        rw [e]
        have n1 := nrs_map iV_nr t.stack
        have n2 := nrs_map iV_nr a.stack
        have n4 := nrs_map iV_nr a.slots
        refine LoopThen.ownF 3 (ι := Nat) (fun i => i ≤ n) (fun i => [(6, .ptr 3 0 0), (50, .sl 4 0 a.slots.length cap), (51, .s (.int .i64 a.slots.length)), (52, .s (.int .i64 i))])
          (fun i => [surB m fn at_ (.sl 1 0 ats.length ats.length), ⟨(ats.map atC).set to [.ptr 3 0 0], 1, ats.length, true⟩, ⟨[[.l 1 (a.stack.map iV), .sl 4 0 a.slots.length cap]], 2, 1, true⟩, ⟨[[.l 1 (t.stack.map iV), .l 1 ((joinN i t.slots a.slots).map iV)]], 2, 1, true⟩, ⟨a.slots.map iV, 1, cap, true⟩]) (fun i => n - i) 1000 1000
          ⟨0, Nat.zero_le _, [(3, 0, 0), (2, 0, 0)], [0, 1, 2, 3, 6], ⟨by simp, rfl⟩, ?_, by simp +contextual (maxSteps := 2000000) (disch := ((try unfold LIM at *); omega)) only [↓bcase_true, ↓bcase_false, WA, simprocAttr, wrap_i64, folds_length]⟩ ?_
        · have j0 : joinN 0 t.slots a.slots = t.slots := by simp [joinN, joinS]
          simp [folds, foldC, foldK, rdC, rdB, refB, ownOf, elsB, wrH, wrB, wrE, wrL, shrinks, shr1, gcL, n1, n2, j0]
          refine ⟨.inr rfl, .inr (by rw [rn_atsP]; rfl), ?_, ?_, ?_⟩
          all_goals first | rfl | exact .inr rfl | (rw [c3]; first | rfl | exact .inr rfl) | exact .inr (by rw [nrs_rn _ n4])
        · intro i p1
          by_cases c4 : (i : Int) < a.slots.length
          · obtain ⟨y, hy⟩ := get_lt c4
            obtain ⟨x, hx⟩ := get_lt (l := t.slots) (i := i) (by omega)
            have pi2 : (0 : Int) ≤ i := by omega
            have hjl := joinN_len (i := i) (p := t.slots) (q := a.slots)
            have c5 : (i : Int) < (joinN i t.slots a.slots).length := by omega
            have g1 : (a.slots.map iV)[i]? = some (iV y) := by rw [List.getElem?_map, hy]; rfl
            have g2 : ((joinN i t.slots a.slots).map iV)[i]? = some (iV x) := by rw [List.getElem?_map, joinN_get (by omega), hx]; rfl
            have g3 := joinN_succ hx hy
            by_cases c6 : x = y
            · subst c6
              rw [if_pos rfl, set_same (by rw [joinN_get (by omega), hx])] at g3
              simp +contextual (maxSteps := 2000000) (disch := ((try unfold LIM at *); omega)) only [↓bcase_true, ↓bcase_false, WA, simprocAttr, wrap_i64, List.length_map, c4, pi2, g1, g2, c5, iV, cast_succ]
              intro cp3 hc3
              have n5 := nrs_map iV_nr (joinN i t.slots a.slots)
              refine ⟨i + 1, ⟨by omega, by omega⟩, [(3, 0, 1)], [0, 1, 2, 3, 4], ⟨by simp, rfl⟩, ?_, by simp +contextual (maxSteps := 2000000) (disch := ((try unfold LIM at *); omega)) only [↓bcase_true, ↓bcase_false, WA, simprocAttr, wrap_i64, folds_length, nm_at]⟩
              simp [folds, foldC, foldK, rdC, rdB, refB, ownOf, elsB, wrH, wrB, wrE, wrL, shrinks, shr1, gcL, n5, g3]
              refine ⟨.inr rfl, .inr (by rw [rn_atsP]; rfl), ?_, ?_, ?_⟩
              all_goals first | rfl | exact .inr rfl | exact .inr (by rw [nrs_rn _ n4])
            · rw [if_neg c6] at g3
              simp +contextual (maxSteps := 2000000) (disch := ((try unfold LIM at *); omega)) only [↓bcase_true, ↓bcase_false, WA, simprocAttr, wrap_i64, List.length_map, c4, pi2, g1, g2, c5, iV, c6, cast_succ]
              intro cp3 hc3
              have e6 : ((joinN i t.slots a.slots).map iV).set i [V.s (.int .i64 0)] = (joinN (i + 1) t.slots a.slots).map iV := by rw [g3, List.map_set]; rfl
              have n5 := nrs_map iV_nr (joinN (i + 1) t.slots a.slots)
              have l5 : (joinN (i + 1) t.slots a.slots).length = (joinN i t.slots a.slots).length := by rw [joinN_len, joinN_len]
              refine ⟨i + 1, ⟨by omega, by omega⟩, [(3, 0, 1)], [0, 1, 2, 3, 4], ⟨by simp, rfl⟩, ?_, by simp +contextual (maxSteps := 2000000) (disch := ((try unfold LIM at *); omega)) only [↓bcase_true, ↓bcase_false, WA, simprocAttr, wrap_i64, folds_length, nm_at]⟩
              rw [e6]
              simp [folds, foldC, foldK, rdC, rdB, refB, ownOf, elsB, wrH, wrB, wrE, wrL, shrinks, shr1, gcL, n5, l5]
              refine ⟨.inr rfl, .inr (by rw [rn_atsP]; rfl), ?_, ?_, ?_⟩
              all_goals first | rfl | exact .inr rfl | exact .inr (by rw [nrs_rn _ n4])
          · have e5 : i = t.slots.length := by omega
            subst e5
            have n7 : nrs [[V.l 1 (t.stack.map iV), V.l 1 ((joinN t.slots.length t.slots a.slots).map iV)]] = true := rfl
            have e8 := set_atC ats to ⟨t.stack, joinN t.slots.length t.slots a.slots⟩
            simp +contextual (maxSteps := 2000000) (disch := ((try unfold LIM at *); omega)) only [↓bcase_true, ↓bcase_false, WA, simprocAttr, wrap_i64, c4]
            refine Up.gcF (.tup []) [] [(2, 0, 1), (1, to, 0)] [0, 1, 2] (hs3 m fn at_ (ats.set to (some ⟨t.stack, joinN t.slots.length t.slots a.slots⟩)) a) (by simp) rfl ?_ rfl ⟨rfl, rfl⟩
            simp [folds, foldC, foldK, rdC, rdB, refB, ownOf, elsB, wrH, wrB, wrE, wrL, shrinks, shr1, gcL, n4, n7, hlt, hs3]
            simp only at e8
            exact ⟨.inr rfl, .inl ⟨ats_nr _, by rw [e8, atsB, List.length_set]⟩, .inl ⟨now_nr a, rfl⟩⟩
    · intro cp2 hc2
      try simp +contextual (maxSteps := 2000000) (disch := ((try unfold LIM at *); omega)) only [↓bcase_true, ↓bcase_false, WA, simprocAttr, wrap_i64, List.length_map]
      intro cp1 hc1
      try simp +contextual (maxSteps := 2000000) (disch := ((try unfold LIM at *); omega)) only [↓bcase_true, ↓bcase_false, WA, simprocAttr, wrap_i64, List.length_map]
      refine DCall.borrow (walk97 t.stack a.stack) (flat_s _) 6 ?_ 1000 (.new 9 .done) (by kernel_rfl) ?_
      · simp +contextual (maxSteps := 2000000) (disch := ((try unfold LIM at *); omega)) only [↓bcase_true, ↓bcase_false, WA, simprocAttr, wrap_i64, List.length_map, iV_frz]
      try simp +contextual (maxSteps := 2000000) (disch := ((try unfold LIM at *); omega)) only [↓bcase_true, ↓bcase_false, WA, simprocAttr, wrap_i64, List.length_map]
      refine ⟨fun c3 => ?_, fun c3 cap hcap => ?_⟩
      · have e : reachR m fn at_ ats to a = .error 6 := by
          unfold reachR reachE; rw [ho]; simp only; rw [if_neg c3]
        rw [e]
        have n1 := nrs_map iV_nr t.stack
        have n2 := nrs_map iV_nr a.stack
        have hset : (ats.map atC).set to [.lp [.l 1 (t.stack.map iV), .l 1 (t.slots.map iV)]] = ats.map atC := set_same (by rw [List.getElem?_map, ho]; rfl)
        refine CallThen.refuseF (m0 := m) (fn := fn) (at_ := at_) (c := 6) (x := .sl 1 0 ats.length ats.length) (rest := [atsB ats]) [(3, 0, 0), (2, 0, 0), (1, to, 0)] [surB m fn at_ (.sl 1 0 ats.length ats.length), atsB ats, nowB a, Blk.dead, Blk.dead, Blk.dead] ?_ [0, 1] (by simp) ⟨.inr rfl, .inl ⟨ats_nr ats, rfl⟩, trivial⟩ rfl fun h1 _ => panQ rfl
        have n3 : nrs [[V.l 1 (t.stack.map iV), V.l 1 (t.slots.map iV)]] = true := rfl
        simp [folds, foldC, foldK, rdC, rdB, refB, ownOf, elsB, wrH, wrB, wrE, wrL, shrinks, shr1, gcL, n1, n2, n3, hlt, hset, surB, atsB, nowB]
      · have ej := joinS_take_all (p := t.slots) (q := a.slots) (by omega)
        have e : reachR m fn at_ ats to a = .ok (.tup [], hs3 m fn at_ (ats.set to (some ⟨t.stack, joinN t.slots.length t.slots a.slots⟩)) a) := by
          unfold reachR reachE; rw [ho]; simp only; rw [if_pos c3, ej]
        rw [e]
        have n1 := nrs_map iV_nr t.stack
        have n2 := nrs_map iV_nr a.stack
        have n4 := nrs_map iV_nr a.slots
        refine LoopThen.ownF 3 (ι := Nat) (fun i => i ≤ n) (fun i => [(6, .ptr 3 0 0), (50, .sl 4 0 a.slots.length cap), (51, .s (.int .i64 a.slots.length)), (52, .s (.int .i64 i))])
          (fun i => [surB m fn at_ (.sl 1 0 ats.length ats.length), ⟨(ats.map atC).set to [.ptr 3 0 0], 1, ats.length, true⟩, ⟨[[.l 1 (a.stack.map iV), .sl 4 0 a.slots.length cap]], 2, 1, true⟩, ⟨[[.l 1 (t.stack.map iV), .l 1 ((joinN i t.slots a.slots).map iV)]], 2, 1, true⟩, ⟨a.slots.map iV, 1, cap, true⟩]) (fun i => n - i) 1000 1000
          ⟨0, Nat.zero_le _, [(3, 0, 0), (2, 0, 0)], [0, 1, 2, 3, 6], ⟨by simp, rfl⟩, ?_, by simp +contextual (maxSteps := 2000000) (disch := ((try unfold LIM at *); omega)) only [↓bcase_true, ↓bcase_false, WA, simprocAttr, wrap_i64, folds_length]⟩ ?_
        · have j0 : joinN 0 t.slots a.slots = t.slots := by simp [joinN, joinS]
          simp [folds, foldC, foldK, rdC, rdB, refB, ownOf, elsB, wrH, wrB, wrE, wrL, shrinks, shr1, gcL, n1, n2, j0]
          refine ⟨.inr rfl, .inr (by rw [rn_atsP]; rfl), ?_, ?_, ?_⟩
          all_goals first | rfl | exact .inr rfl | (rw [c3]; first | rfl | exact .inr rfl) | exact .inr (by rw [nrs_rn _ n4])
        · intro i p1
          by_cases c4 : (i : Int) < a.slots.length
          · obtain ⟨y, hy⟩ := get_lt c4
            obtain ⟨x, hx⟩ := get_lt (l := t.slots) (i := i) (by omega)
            have pi2 : (0 : Int) ≤ i := by omega
            have hjl := joinN_len (i := i) (p := t.slots) (q := a.slots)
            have c5 : (i : Int) < (joinN i t.slots a.slots).length := by omega
            have g1 : (a.slots.map iV)[i]? = some (iV y) := by rw [List.getElem?_map, hy]; rfl
            have g2 : ((joinN i t.slots a.slots).map iV)[i]? = some (iV x) := by rw [List.getElem?_map, joinN_get (by omega), hx]; rfl
            have g3 := joinN_succ hx hy
            by_cases c6 : x = y
            · subst c6
              rw [if_pos rfl, set_same (by rw [joinN_get (by omega), hx])] at g3
              simp +contextual (maxSteps := 2000000) (disch := ((try unfold LIM at *); omega)) only [↓bcase_true, ↓bcase_false, WA, simprocAttr, wrap_i64, List.length_map, c4, pi2, g1, g2, c5, iV, cast_succ]
              intro cp3 hc3
              have n5 := nrs_map iV_nr (joinN i t.slots a.slots)
              refine ⟨i + 1, ⟨by omega, by omega⟩, [(3, 0, 1)], [0, 1, 2, 3, 4], ⟨by simp, rfl⟩, ?_, by simp +contextual (maxSteps := 2000000) (disch := ((try unfold LIM at *); omega)) only [↓bcase_true, ↓bcase_false, WA, simprocAttr, wrap_i64, folds_length, nm_at]⟩
              simp [folds, foldC, foldK, rdC, rdB, refB, ownOf, elsB, wrH, wrB, wrE, wrL, shrinks, shr1, gcL, n5, g3]
              refine ⟨.inr rfl, .inr (by rw [rn_atsP]; rfl), ?_, ?_, ?_⟩
              all_goals first | rfl | exact .inr rfl | exact .inr (by rw [nrs_rn _ n4])
            · rw [if_neg c6] at g3
              simp +contextual (maxSteps := 2000000) (disch := ((try unfold LIM at *); omega)) only [↓bcase_true, ↓bcase_false, WA, simprocAttr, wrap_i64, List.length_map, c4, pi2, g1, g2, c5, iV, c6, cast_succ]
              intro cp3 hc3
              have e6 : ((joinN i t.slots a.slots).map iV).set i [V.s (.int .i64 0)] = (joinN (i + 1) t.slots a.slots).map iV := by rw [g3, List.map_set]; rfl
              have n5 := nrs_map iV_nr (joinN (i + 1) t.slots a.slots)
              have l5 : (joinN (i + 1) t.slots a.slots).length = (joinN i t.slots a.slots).length := by rw [joinN_len, joinN_len]
              refine ⟨i + 1, ⟨by omega, by omega⟩, [(3, 0, 1)], [0, 1, 2, 3, 4], ⟨by simp, rfl⟩, ?_, by simp +contextual (maxSteps := 2000000) (disch := ((try unfold LIM at *); omega)) only [↓bcase_true, ↓bcase_false, WA, simprocAttr, wrap_i64, folds_length, nm_at]⟩
              rw [e6]
              simp [folds, foldC, foldK, rdC, rdB, refB, ownOf, elsB, wrH, wrB, wrE, wrL, shrinks, shr1, gcL, n5, l5]
              refine ⟨.inr rfl, .inr (by rw [rn_atsP]; rfl), ?_, ?_, ?_⟩
              all_goals first | rfl | exact .inr rfl | exact .inr (by rw [nrs_rn _ n4])
          · have e5 : i = t.slots.length := by omega
            subst e5
            have n7 : nrs [[V.l 1 (t.stack.map iV), V.l 1 ((joinN t.slots.length t.slots a.slots).map iV)]] = true := rfl
            have e8 := set_atC ats to ⟨t.stack, joinN t.slots.length t.slots a.slots⟩
            simp +contextual (maxSteps := 2000000) (disch := ((try unfold LIM at *); omega)) only [↓bcase_true, ↓bcase_false, WA, simprocAttr, wrap_i64, c4]
            refine Up.gcF (.tup []) [] [(2, 0, 1), (1, to, 0)] [0, 1, 2] (hs3 m fn at_ (ats.set to (some ⟨t.stack, joinN t.slots.length t.slots a.slots⟩)) a) (by simp) rfl ?_ rfl ⟨rfl, rfl⟩
            simp [folds, foldC, foldK, rdC, rdB, refB, ownOf, elsB, wrH, wrB, wrE, wrL, shrinks, shr1, gcL, n4, n7, hlt, hs3]
            simp only at e8
            exact ⟨.inr rfl, .inl ⟨ats_nr _, by rw [e8, atsB, List.length_set]⟩, .inl ⟨now_nr a, rfl⟩⟩
def hs2 (m : Img) (fn at_ : Int) (ats : Ats) : H := [surB m fn at_ (.sl 1 0 ats.length ats.length), atsB ats]
/-- Whether an operand is right. -/
theorem edit84 (m : Img) (fn : Int) (at_ : Nat) (ats : Ats) (i : Ins) (sl : Int) : EditS C 84 [.ptr 0 0 0, .agg (insV i), .s (.int .i64 sl)] (hs2 m fn at_ ats) (.ok (.s (.bool (formB m.funs.length sl at_ i)), hs2 m fn at_ ats)) fn at_ := by
  refine calls_of_run Tryd.func84 rfl (by kernel_rfl) (by kernel_rfl) (by simp) 1000 ?_
  have fin : ∀ b c, b = c → ∀ B : Blk, Up 2 (fun res h' => res = .ret (.s (.bool c)) ∧ h' = hs2 m fn at_ ats) (.ret (.s (.bool b))) [surB m fn at_ (.sl 1 0 ats.length ats.length), atsB ats, B] := fun b c e B => by
    subst e
    exact Up.gcF (.s (.bool b)) [] [] [0, 1] (hs2 m fn at_ ats) (by simp) rfl ⟨.inr rfl, .inl ⟨ats_nr ats, rfl⟩, trivial⟩ rfl ⟨rfl, rfl⟩
  simp only [hs2, surB] at fin
  by_cases o3 : i.op = 3
  · simp +contextual (maxSteps := 2000000) (disch := ((try unfold LIM at *); omega)) only [↓bcase_true, ↓bcase_false, WA, simprocAttr, wrap_i64, hs2, surB, insV, o3]
    exact fin _ _ (by simp [formB, o3]) _
  by_cases o4 : i.op = 4
  · simp +contextual (maxSteps := 2000000) (disch := ((try unfold LIM at *); omega)) only [↓bcase_true, ↓bcase_false, WA, simprocAttr, wrap_i64, hs2, surB, insV, o4]
    exact fin _ _ (by simp [formB, o4]) _
  by_cases o5 : i.op = 5
  · simp +contextual (maxSteps := 2000000) (disch := ((try unfold LIM at *); omega)) only [↓bcase_true, ↓bcase_false, WA, simprocAttr, wrap_i64, hs2, surB, insV, o5]
    refine CallThen.pure (walk47 i.a 1 14) 1000 ?_
    simp +contextual (maxSteps := 2000000) (disch := ((try unfold LIM at *); omega)) only [↓bcase_true, ↓bcase_false, WA, simprocAttr, wrap_i64]
    exact fin _ _ (by simp [formB, o5, rangeB]) _
  by_cases o6 : i.op = 6
  · simp +contextual (maxSteps := 2000000) (disch := ((try unfold LIM at *); omega)) only [↓bcase_true, ↓bcase_false, WA, simprocAttr, wrap_i64, hs2, surB, insV, o6]
    refine DrawThen.of 1000 [] (.old 0 (.old 1 (.old 2 (.old 3 (.old 4 (.old 5 (.old 6 (.old 7 .done)))))))) (panFree_body _ _) (by kernel_rfl) (by kernel_rfl) (by kernel_rfl) ?_
    simp +contextual (maxSteps := 2000000) (disch := ((try unfold LIM at *); omega)) only [↓bcase_true, ↓bcase_false, WA, simprocAttr, wrap_i64, surB]
    exact fin _ _ (by simp [formB, o6]) _
  by_cases o7 : i.op = 7
  · simp +contextual (maxSteps := 2000000) (disch := ((try unfold LIM at *); omega)) only [↓bcase_true, ↓bcase_false, WA, simprocAttr, wrap_i64, hs2, surB, insV, o7]
    refine DrawThen.of 1000 [] (.old 0 (.old 1 (.old 2 (.old 3 (.old 4 (.old 5 (.old 6 (.old 7 .done)))))))) (panFree_body _ _) (by kernel_rfl) (by kernel_rfl) (by kernel_rfl) ?_
    simp +contextual (maxSteps := 2000000) (disch := ((try unfold LIM at *); omega)) only [↓bcase_true, ↓bcase_false, WA, simprocAttr, wrap_i64, surB]
    exact fin _ _ (by simp [formB, o7]) _
  by_cases o8 : i.op = 8
  · simp +contextual (maxSteps := 2000000) (disch := ((try unfold LIM at *); omega)) only [↓bcase_true, ↓bcase_false, WA, simprocAttr, wrap_i64, hs2, surB, insV, o8]
    refine DrawThen.of 1000 [] (.old 0 (.old 1 (.old 2 (.old 3 (.old 4 (.old 5 (.old 6 (.old 7 (.old 8 (.old 9 .done)))))))))) (panFree_body _ _) (by kernel_rfl) (by kernel_rfl) (by kernel_rfl) ?_
    simp +contextual (maxSteps := 2000000) (disch := ((try unfold LIM at *); omega)) only [↓bcase_true, ↓bcase_false, WA, simprocAttr, wrap_i64, surB, List.length_map]
    intro hl
    exact fin _ _ (by simp [formB, o8]) _
  by_cases o10 : i.op = 10
  · simp +contextual (maxSteps := 2000000) (disch := ((try unfold LIM at *); omega)) only [↓bcase_true, ↓bcase_false, WA, simprocAttr, wrap_i64, hs2, surB, insV, o10]
    exact fin _ _ (by simp [formB, o10]) _
  · simp +contextual (maxSteps := 2000000) (disch := ((try unfold LIM at *); omega)) only [↓bcase_true, ↓bcase_false, WA, simprocAttr, wrap_i64, hs2, surB, insV, o3, o4, o5, o6, o7, o8, o10]
    exact fin _ _ (by simp [formB, o3, o4, o5, o6, o7, o8, o10]) _
end Go.Proofs.YtijefmjfdhfjmaaDoor
/- part W50 -/
set_option linter.unusedVariables false
set_option linter.unusedSimpArgs false
namespace Go.W
open Go Go.RowKit

/-! ### The newest blocks are frozen ahead of a call -/
section
variable {C : Cx} {h : H} {N n0 m : Nat} {Q : QT} {k : List It} {τ : Tau}
theorem Arr.top {idx : Nat} (hn : n0 ≤ idx) (hi : idx ≤ h.length) (d : Nat) : Arr n0 h (killFrom idx h) fun x x' => x' = x ∨ x' = Go.W.frz idx d h x := by
  intro S w0 φ w R _
  obtain ⟨φ', R', E', hl, m'⟩ := Arr.frz (n0 := idx) d S w0 φ w R hi
  exact ⟨φ', R', E'.mono hn, by omega, m'⟩
theorem CallThen.top {f : Nat} {args args' : List V} {d : Option Nat} (idx : Nat) (hn : n0 ≤ idx) (hi : idx ≤ h.length) (dd : Nat) (ha : All2 (fun x x' => x' = x ∨ x' = Go.W.frz idx dd h x) args args')
    (hc : CallThen C N n0 Q f args' d k τ (killFrom idx h)) : CallThen C N n0 Q f args d k τ h :=
  CallThen.arr (Arr.top hn hi dd) ha (fun t => .inl rfl) hc
end
theorem killFrom_eq (n0 : Nat) (h : H) : killFrom n0 h = h.take n0 ++ (h.drop n0).map fun _ => Blk.dead := rfl
end Go.W
namespace Go.W
open Go Go.RowKit
/-- A nil slice that is handed over is given a block of its own. -/
theorem CallsV.nilArg {C : Cx} {h : H} {f n : Nat} {args args' : List V} {R : Res → H → Prop} (c : CallsV C f args' (h ++ [⟨[], n, 0, true⟩]) R) (ha : All2 (fun x x' => x' = x ∨ (x = .z ∧ x' = .sl h.length 0 0 0)) args args') : CallsV C f args h R := by
  intro S w0 φ vs w G Rl hv
  obtain ⟨φ', R', e', -, m'⟩ := Arr.nil (n0 := h.length) n S w0 φ w Rl (Nat.le_refl _)
  have hl : (h ++ [(⟨[], n, 0, true⟩ : Blk)]).length = h.length + 1 := by simp
  have hv' : All2 (RelV φ') args' vs.toList := by
    have key : ∀ {xs ys : List V} {us : List Value}, All2 (fun x x' => x' = x ∨ (x = .z ∧ x' = .sl h.length 0 0 0)) xs ys → All2 (RelV φ) xs us → All2 (RelV φ') ys us := by
      intro xs
      induction xs with
      | nil => intro ys us h1 h2; cases ys <;> cases us <;> first | trivial | exact h1.elim | exact h2.elim
      | cons x xs ih =>
        intro ys us h1 h2
        cases ys with
        | nil => exact h1.elim
        | cons y ys =>
          cases us with
          | nil => exact h2.elim
          | cons u us => exact ⟨m' _ _ _ h1.1 h2.1, ih h1.2 h2.2⟩
    exact key ha hv
  refine (c S w0 φ' vs w (G.mono e'.z) R' hv').mono fun e w' ⟨r, φ'', h'', p1, p2, p3, p4, p5⟩ => ⟨r, φ'', h'', p1, p2, e'.trans (p3.mono (by omega)), by omega, p5⟩
end Go.W
/- part S7 -/
set_option linter.unusedVariables false
set_option linter.unusedSimpArgs false
set_option maxRecDepth 100000
namespace Go.Proofs.YtijefmjfdhfjmaaDoor
open Go Go.W Go.RowKit
theorem w100_0 : PureV C 100 [.s (.int .u64 1), .s (.int .u64 0)] (.tup [.s (.int .u64 0), .s (.int .u64 0)]) := by
  refine pure_of_run Tryd.func100 rfl (by kernel_rfl) (by kernel_rfl) (by simp) (fun _ => rfl) (fun _ => rfl) 6 1000 ?_
  simp +contextual (maxSteps := 2000000) (disch := ((try unfold LIM at *); omega)) only [↓bcase_true, ↓bcase_false, WA, simprocAttr, wrap_i64]
  exact ⟨by decide, by decide, by decide, by decide, by decide, by kernel_rfl⟩
theorem w100_1 : PureV C 100 [.s (.int .u64 1), .s (.int .u64 1)] (.tup [.s (.int .u64 0), .s (.int .u64 1)]) := by
  refine pure_of_run Tryd.func100 rfl (by kernel_rfl) (by kernel_rfl) (by simp) (fun _ => rfl) (fun _ => rfl) 6 1000 ?_
  simp +contextual (maxSteps := 2000000) (disch := ((try unfold LIM at *); omega)) only [↓bcase_true, ↓bcase_false, WA, simprocAttr, wrap_i64]
  exact ⟨by decide, by decide, by decide, by decide, by decide, by kernel_rfl⟩
theorem w100_2 : PureV C 100 [.s (.int .u64 1), .s (.int .u64 2)] (.tup [.s (.int .u64 0), .s (.int .u64 2)]) := by
  refine pure_of_run Tryd.func100 rfl (by kernel_rfl) (by kernel_rfl) (by simp) (fun _ => rfl) (fun _ => rfl) 6 1000 ?_
  simp +contextual (maxSteps := 2000000) (disch := ((try unfold LIM at *); omega)) only [↓bcase_true, ↓bcase_false, WA, simprocAttr, wrap_i64]
  exact ⟨by decide, by decide, by decide, by decide, by decide, by kernel_rfl⟩
theorem w100_3 : PureV C 100 [.s (.int .u64 1), .s (.int .u64 3)] (.tup [.s (.int .u64 0), .s (.int .u64 3)]) := by
  refine pure_of_run Tryd.func100 rfl (by kernel_rfl) (by kernel_rfl) (by simp) (fun _ => rfl) (fun _ => rfl) 6 1000 ?_
  simp +contextual (maxSteps := 2000000) (disch := ((try unfold LIM at *); omega)) only [↓bcase_true, ↓bcase_false, WA, simprocAttr, wrap_i64]
  exact ⟨by decide, by decide, by decide, by decide, by decide, by kernel_rfl⟩
theorem w100_4 : PureV C 100 [.s (.int .u64 1), .s (.int .u64 4)] (.tup [.s (.int .u64 0), .s (.int .u64 4)]) := by
  refine pure_of_run Tryd.func100 rfl (by kernel_rfl) (by kernel_rfl) (by simp) (fun _ => rfl) (fun _ => rfl) 6 1000 ?_
  simp +contextual (maxSteps := 2000000) (disch := ((try unfold LIM at *); omega)) only [↓bcase_true, ↓bcase_false, WA, simprocAttr, wrap_i64]
  exact ⟨by decide, by decide, by decide, by decide, by decide, by kernel_rfl⟩
theorem w100_5 : PureV C 100 [.s (.int .u64 1), .s (.int .u64 5)] (.tup [.s (.int .u64 0), .s (.int .u64 5)]) := by
  refine pure_of_run Tryd.func100 rfl (by kernel_rfl) (by kernel_rfl) (by simp) (fun _ => rfl) (fun _ => rfl) 6 1000 ?_
  simp +contextual (maxSteps := 2000000) (disch := ((try unfold LIM at *); omega)) only [↓bcase_true, ↓bcase_false, WA, simprocAttr, wrap_i64]
  exact ⟨by decide, by decide, by decide, by decide, by decide, by kernel_rfl⟩
theorem w100_6 : PureV C 100 [.s (.int .u64 1), .s (.int .u64 6)] (.tup [.s (.int .u64 0), .s (.int .u64 6)]) := by
  refine pure_of_run Tryd.func100 rfl (by kernel_rfl) (by kernel_rfl) (by simp) (fun _ => rfl) (fun _ => rfl) 6 1000 ?_
  simp +contextual (maxSteps := 2000000) (disch := ((try unfold LIM at *); omega)) only [↓bcase_true, ↓bcase_false, WA, simprocAttr, wrap_i64]
  exact ⟨by decide, by decide, by decide, by decide, by decide, by kernel_rfl⟩
theorem w100_7 : PureV C 100 [.s (.int .u64 1), .s (.int .u64 7)] (.tup [.s (.int .u64 0), .s (.int .u64 7)]) := by
  refine pure_of_run Tryd.func100 rfl (by kernel_rfl) (by kernel_rfl) (by simp) (fun _ => rfl) (fun _ => rfl) 6 1000 ?_
  simp +contextual (maxSteps := 2000000) (disch := ((try unfold LIM at *); omega)) only [↓bcase_true, ↓bcase_false, WA, simprocAttr, wrap_i64]
  exact ⟨by decide, by decide, by decide, by decide, by decide, by kernel_rfl⟩
theorem w100_8 : PureV C 100 [.s (.int .u64 1), .s (.int .u64 8)] (.tup [.s (.int .u64 0), .s (.int .u64 8)]) := by
  refine pure_of_run Tryd.func100 rfl (by kernel_rfl) (by kernel_rfl) (by simp) (fun _ => rfl) (fun _ => rfl) 6 1000 ?_
  simp +contextual (maxSteps := 2000000) (disch := ((try unfold LIM at *); omega)) only [↓bcase_true, ↓bcase_false, WA, simprocAttr, wrap_i64]
  exact ⟨by decide, by decide, by decide, by decide, by decide, by kernel_rfl⟩
theorem w100_9 : PureV C 100 [.s (.int .u64 1), .s (.int .u64 9)] (.tup [.s (.int .u64 0), .s (.int .u64 9)]) := by
  refine pure_of_run Tryd.func100 rfl (by kernel_rfl) (by kernel_rfl) (by simp) (fun _ => rfl) (fun _ => rfl) 6 1000 ?_
  simp +contextual (maxSteps := 2000000) (disch := ((try unfold LIM at *); omega)) only [↓bcase_true, ↓bcase_false, WA, simprocAttr, wrap_i64]
  exact ⟨by decide, by decide, by decide, by decide, by decide, by kernel_rfl⟩
theorem w100_10 : PureV C 100 [.s (.int .u64 1), .s (.int .u64 10)] (.tup [.s (.int .u64 0), .s (.int .u64 10)]) := by
  refine pure_of_run Tryd.func100 rfl (by kernel_rfl) (by kernel_rfl) (by simp) (fun _ => rfl) (fun _ => rfl) 6 1000 ?_
  simp +contextual (maxSteps := 2000000) (disch := ((try unfold LIM at *); omega)) only [↓bcase_true, ↓bcase_false, WA, simprocAttr, wrap_i64]
  exact ⟨by decide, by decide, by decide, by decide, by decide, by kernel_rfl⟩
theorem w100_11 : PureV C 100 [.s (.int .u64 1), .s (.int .u64 11)] (.tup [.s (.int .u64 0), .s (.int .u64 11)]) := by
  refine pure_of_run Tryd.func100 rfl (by kernel_rfl) (by kernel_rfl) (by simp) (fun _ => rfl) (fun _ => rfl) 6 1000 ?_
  simp +contextual (maxSteps := 2000000) (disch := ((try unfold LIM at *); omega)) only [↓bcase_true, ↓bcase_false, WA, simprocAttr, wrap_i64]
  exact ⟨by decide, by decide, by decide, by decide, by decide, by kernel_rfl⟩
theorem w100_12 : PureV C 100 [.s (.int .u64 1), .s (.int .u64 12)] (.tup [.s (.int .u64 0), .s (.int .u64 12)]) := by
  refine pure_of_run Tryd.func100 rfl (by kernel_rfl) (by kernel_rfl) (by simp) (fun _ => rfl) (fun _ => rfl) 6 1000 ?_
  simp +contextual (maxSteps := 2000000) (disch := ((try unfold LIM at *); omega)) only [↓bcase_true, ↓bcase_false, WA, simprocAttr, wrap_i64]
  exact ⟨by decide, by decide, by decide, by decide, by decide, by kernel_rfl⟩
theorem w100_13 : PureV C 100 [.s (.int .u64 1), .s (.int .u64 13)] (.tup [.s (.int .u64 0), .s (.int .u64 13)]) := by
  refine pure_of_run Tryd.func100 rfl (by kernel_rfl) (by kernel_rfl) (by simp) (fun _ => rfl) (fun _ => rfl) 6 1000 ?_
  simp +contextual (maxSteps := 2000000) (disch := ((try unfold LIM at *); omega)) only [↓bcase_true, ↓bcase_false, WA, simprocAttr, wrap_i64]
  exact ⟨by decide, by decide, by decide, by decide, by decide, by kernel_rfl⟩
theorem w100_14 : PureV C 100 [.s (.int .u64 1), .s (.int .u64 14)] (.tup [.s (.int .u64 0), .s (.int .u64 14)]) := by
  refine pure_of_run Tryd.func100 rfl (by kernel_rfl) (by kernel_rfl) (by simp) (fun _ => rfl) (fun _ => rfl) 6 1000 ?_
  simp +contextual (maxSteps := 2000000) (disch := ((try unfold LIM at *); omega)) only [↓bcase_true, ↓bcase_false, WA, simprocAttr, wrap_i64]
  exact ⟨by decide, by decide, by decide, by decide, by decide, by kernel_rfl⟩
theorem w100_15 : PureV C 100 [.s (.int .u64 1), .s (.int .u64 15)] (.tup [.s (.int .u64 0), .s (.int .u64 15)]) := by
  refine pure_of_run Tryd.func100 rfl (by kernel_rfl) (by kernel_rfl) (by simp) (fun _ => rfl) (fun _ => rfl) 6 1000 ?_
  simp +contextual (maxSteps := 2000000) (disch := ((try unfold LIM at *); omega)) only [↓bcase_true, ↓bcase_false, WA, simprocAttr, wrap_i64]
  exact ⟨by decide, by decide, by decide, by decide, by decide, by kernel_rfl⟩
theorem w100_16 : PureV C 100 [.s (.int .u64 1), .s (.int .u64 16)] (.tup [.s (.int .u64 0), .s (.int .u64 16)]) := by
  refine pure_of_run Tryd.func100 rfl (by kernel_rfl) (by kernel_rfl) (by simp) (fun _ => rfl) (fun _ => rfl) 6 1000 ?_
  simp +contextual (maxSteps := 2000000) (disch := ((try unfold LIM at *); omega)) only [↓bcase_true, ↓bcase_false, WA, simprocAttr, wrap_i64]
  exact ⟨by decide, by decide, by decide, by decide, by decide, by kernel_rfl⟩
theorem walk100 : ∀ (n : Nat), n < 17 → PureV C 100 [.s (.int .u64 1), .s (.int .u64 n)] (.tup [.s (.int .u64 0), .s (.int .u64 n)])
  | 0, _ => w100_0
  | 1, _ => w100_1
  | 2, _ => w100_2
  | 3, _ => w100_3
  | 4, _ => w100_4
  | 5, _ => w100_5
  | 6, _ => w100_6
  | 7, _ => w100_7
  | 8, _ => w100_8
  | 9, _ => w100_9
  | 10, _ => w100_10
  | 11, _ => w100_11
  | 12, _ => w100_12
  | 13, _ => w100_13
  | 14, _ => w100_14
  | 15, _ => w100_15
  | 16, _ => w100_16
  | n + 17, h => absurd h (by omega)
theorem walk96 (n : Nat) (h : n < 17) : PureV C 96 [.s (.int .u64 1), .s (.int .u64 n)] (.tup [.s (.int .u64 0), .s (.int .u64 n)]) := by
  refine pure_of_run Tryd.func96 rfl (by kernel_rfl) (by kernel_rfl) (by simp) (fun _ => rfl) (fun _ => rfl) 6 1000 ?_
  simp +contextual (maxSteps := 2000000) (disch := ((try unfold LIM at *); omega)) only [↓bcase_true, ↓bcase_false, WA, simprocAttr, wrap_i64]
  refine CallThen.pure (walk100 n h) 1000 ?_
  simp +contextual (maxSteps := 2000000) (disch := ((try unfold LIM at *); omega)) only [↓bcase_true, ↓bcase_false, WA, simprocAttr, wrap_i64]
theorem wrap_u64 {a : Int} (h1 : 0 ≤ a) (h2 : a ≤ 9223372036854775807) : IntKind.u64.wrap a = a := by
  unfold IntKind.wrap
  exact Int.emod_eq_of_lt (by omega) (by simp [IntKind.bits]; omega)
def rep01 (n i : Nat) : List (List V) := List.replicate i [V.s (.int .i64 1)] ++ List.replicate (n - i) [V.s (.int .i64 0)]
theorem rep01_len {n i : Nat} (h : i ≤ n) : (rep01 n i).length = n := by simp [rep01]; omega
theorem rep_leafs (k : Nat) (v : Int) : leafs (List.replicate k [V.s (.int .i64 v)]) = true := List.all_eq_true.2 fun el h => by rw [List.eq_of_mem_replicate h]; rfl
theorem rep_nrs (k : Nat) (v : Int) : nrs (List.replicate k [V.s (.int .i64 v)]) = true := List.all_eq_true.2 fun el h => by rw [List.eq_of_mem_replicate h]; rfl
theorem rep01_leafs (n i : Nat) : leafs (rep01 n i) = true := by
  have h1 := rep_leafs i 1
  have h2 := rep_leafs (n - i) 0
  unfold leafs at h1 h2 ⊢
  rw [rep01, List.all_append, h1, h2]; rfl
theorem rep1_leafs (k : Nat) : leafs (List.replicate k [V.s (.int .i64 1)]) = true := rep_leafs k 1
theorem rep01_nrs (n i : Nat) : nrs (rep01 n i) = true := by
  have h1 := rep_nrs i 1
  have h2 := rep_nrs (n - i) 0
  unfold nrs at h1 h2 ⊢
  rw [rep01, List.all_append, h1, h2]; rfl
theorem rep01_take {n i k : Nat} (h : k ≤ i) : (rep01 n i).take k = List.replicate k [V.s (.int .i64 1)] := by
  unfold rep01
  rw [List.take_append_of_le_length (by simp; omega), List.take_replicate, Nat.min_eq_left h]
theorem rep01_put {n i k : Nat} (h : i + k ≤ n) : putAt (rep01 n i) i (List.replicate k [V.s (.int .i64 1)]) = rep01 n (i + k) := by
  unfold putAt
  rw [rep01_take (Nat.le_refl i), List.length_replicate]
  unfold rep01
  rw [List.drop_append, List.drop_eq_nil_of_le (by simp), List.nil_append, List.length_replicate, Nat.add_sub_cancel_left, List.drop_replicate, List.replicate_append_replicate, Nat.sub_sub]
theorem rep01_zero (n : Nat) : rep01 n 0 = List.replicate n [V.s (.int .i64 0)] := by simp [rep01]
theorem rep01_all (n : Nat) : rep01 n n = List.replicate n [V.s (.int .i64 1)] := by simp [rep01]
/-- So many times one number. -/
theorem pure88 (n : Nat) (hn : n < 17) : PureV C 88 [.f 1 [iV 1], .s (.int .i64 n)] (.f 1 (List.replicate n [V.s (.int .i64 1)])) := by
  refine pure_of_run Tryd.func88 rfl (by kernel_rfl) (by kernel_rfl) (by simp) (fun _ => rfl) (fun _ => rfl) 6 1000 ?_
  have c1 : ¬ (n : Int) < 0 := by omega
  have e1 : IntKind.u64.wrap (n : Int) = n := wrap_u64 (by omega) (by omega)
  have e0 : IntKind.u64.wrap 1 = 1 := rfl
  simp +contextual (maxSteps := 2000000) (disch := ((try unfold LIM at *); omega)) only [↓bcase_true, ↓bcase_false, WA, simprocAttr, wrap_i64, c1, e1, e0, iV]
  intro _
  refine CallThen.pure (walk96 n hn) 1000 ?_
  have c2 : ¬ (9223372036854775807 : Int) < n := by omega
  have hm : Nat.min 1 n ≤ n := Nat.min_le_right 1 n
  have b1 : (0 : Int) ≤ n := by omega
  have b2 : (8 : Int) * n ≤ 140737488355328 := by omega
  have b3 : (n : Int) ≤ 4611686018427387904 := by omega
  simp +contextual (maxSteps := 2000000) (disch := ((try unfold LIM at *); omega)) only [↓bcase_true, ↓bcase_false, WA, simprocAttr, wrap_i64, c2, b1, b2, b3, Int.le_refl]
  rw [← rep01_zero]
  refine CopyThen.of 1000 (CopyV.own (b := 0) (e := 3) (n := 1) (cap := n) (m := 1) (k := Nat.min 1 n) (els := rep01 n 0) (news := [[V.s (.int .i64 1)]].take (Nat.min 1 n)) (by simp only [ty23]) (by simp only [ty3]) ?_ (Src.f ?_ rfl) rfl ?_ ?_ (rep01_leafs _ _) ?_ ?_ ?_ ?_) ?_
  · rfl
  · exact Nat.min_le_left 1 n
  · rw [List.length_take]; exact Nat.min_eq_left (Nat.min_le_left 1 n)
  · intro el he
    have := List.mem_of_mem_take he
    simp at this; subst this; rfl
  · exact leafs_take rfl _
  · omega
  · omega
  · unfold LIM; omega
  rintro v h' ⟨rfl, rfl⟩
  have e3 : [[V.s (.int .i64 1)]].take (Nat.min 1 n) = List.replicate (Nat.min 1 n) [V.s (.int .i64 1)] := by
    have : [[V.s (.int .i64 1)]] = List.replicate 1 [V.s (.int .i64 1)] := rfl
    rw [this, List.take_replicate, Nat.min_eq_left (Nat.min_le_left 1 n)]
  rw [e3, rep01_put (by omega), Nat.zero_add]
  simp +contextual (maxSteps := 2000000) (disch := ((try unfold LIM at *); omega)) only [↓bcase_true, ↓bcase_false, WA, simprocAttr, wrap_i64]
  refine LoopThen.own (ι := Nat) (fun i => i ≤ n ∧ (0 < n → 0 < i)) (fun i => [(7, .sl 0 0 n n), (8, .s (.int .i64 i))]) (fun i => [⟨rep01 n i, 1, n, true⟩]) (fun i => n - i) 1000 1000
    ⟨Nat.min 1 n, ⟨Nat.min_le_right 1 n, fun h => Nat.lt_min.2 ⟨Nat.one_pos, h⟩⟩, [0], by simp, ⟨.inl ⟨rep01_nrs _ _, rfl⟩, trivial⟩, by simp +contextual (maxSteps := 2000000) (disch := ((try unfold LIM at *); omega)) only [↓bcase_true, ↓bcase_false, WA, simprocAttr, wrap_i64, nm_at]⟩ ?_
  rintro i ⟨p1, p2⟩
  by_cases c4 : (i : Int) < n
  · have hi : 0 < i := p2 (by omega)
    simp +contextual (maxSteps := 2000000) (disch := ((try unfold LIM at *); omega)) only [↓bcase_true, ↓bcase_false, WA, simprocAttr, wrap_i64, c4]
    refine DrawThen.of 1000 [0] (.old 0 (.old 1 (.old 2 (.old 3 (.old 4 (.old 5 (.old 6 (.go 7 (.new 8 (.new 9 .done)))))))))) (panFree_loopO (panFree_pure _ _ _)) (by kernel_rfl) (by kernel_rfl) (by kernel_rfl) ?_
    have s1 : (0 : Int) ≤ i ∧ (i : Int) ≤ n ∧ (0 : Int) ≤ 0 := by omega
    simp +contextual (maxSteps := 2000000) (disch := ((try unfold LIM at *); omega)) only [↓bcase_true, ↓bcase_false, WA, simprocAttr, wrap_i64, s1, c4, Nat.zero_add]
    have hk1 : Nat.min i (n - i) ≤ i := Nat.min_le_left i (n - i)
    have hk2 : Nat.min i (n - i) ≤ n - i := Nat.min_le_right i (n - i)
    have hk3 : 0 < Nat.min i (n - i) := Nat.lt_min.2 ⟨hi, by omega⟩
    have hlen := rep01_len (n := n) (i := i) p1
    generalize hkk : Nat.min i (n - i) = k at hk1 hk2 hk3
    refine DCopy.of 1000 (.new 8 (.new 9 .done)) (by kernel_rfl) (CopyV.own (b := 0) (e := 3) (n := 1) (cap := n) (m := i) (k := k) (els := rep01 n i) (news := List.replicate k [V.s (.int .i64 1)]) (by simp only [ty23]) (by simp only [ty3]) rfl (Src.own hk1 rfl ?_ (rep1_leafs k)) hkk.symm (by simp) ?_ (rep01_leafs _ _) (rep1_leafs k) ?_ ?_ ?_) ?_
    · show (if 0 + k ≤ (rep01 n i).length then some (((rep01 n i).drop 0).take k) else none) = _
      rw [if_pos (by omega), List.drop_zero, rep01_take hk1]
    · intro el he
      rw [List.eq_of_mem_replicate he]; rfl
    · omega
    · omega
    · unfold LIM; omega
    rintro v h' ⟨rfl, rfl⟩
    have b4 : (-9223372036854775808 : Int) ≤ (i : Int) + k := by omega
    have b5 : (i : Int) + k ≤ 9223372036854775807 := by omega
    simp +contextual (maxSteps := 2000000) (disch := ((try unfold LIM at *); omega)) only [↓bcase_true, ↓bcase_false, WA, simprocAttr, wrap_i64, b4, b5, rep01_put (show i + k ≤ n by omega)]
    exact ⟨i + k, ⟨⟨by omega, fun _ => by omega⟩, by omega⟩, [0], by simp, ⟨.inl ⟨rep01_nrs _ _, rfl⟩, trivial⟩, rfl, by simp +contextual (maxSteps := 2000000) (disch := ((try unfold LIM at *); omega)) only [↓bcase_true, ↓bcase_false, WA, simprocAttr, wrap_i64, Int.natCast_add]⟩
  · have e5 : i = n := by omega
    subst e5
    simp +contextual (maxSteps := 2000000) (disch := ((try unfold LIM at *); omega)) only [↓bcase_true, ↓bcase_false, WA, simprocAttr, wrap_i64, c4, rep01_all, List.length_replicate, Nat.le_refl, List.take_replicate, Nat.min_self, ite_true, List.map_replicate]
end Go.Proofs.YtijefmjfdhfjmaaDoor
/- part S8 -/
set_option linter.unusedVariables false
set_option linter.unusedSimpArgs false
set_option maxRecDepth 100000
namespace Go.Proofs.YtijefmjfdhfjmaaDoor
open Go Go.W Go.RowKit
theorem own83 (k : Nat) (hk : k ≤ 2000) (h0 : 0 < k) : CallsV C 83 [.sl 0 0 0 0, .s (.int .i64 k)] [⟨[], 1, 0, true⟩] fun res h' => ∃ cap, res = .ret (.sl 1 0 0 cap) ∧ h' = [⟨[], 1, 0, true⟩, ⟨[], 1, cap, true⟩] := by
  refine calls_of_run Tryd.func83 rfl (by kernel_rfl) (by kernel_rfl) (by simp) 1000 ?_
  have c1 : ¬ (k : Int) < 0 := by omega
  have c2 : (0 : Int) < k := by omega
  have b1 : (0 : Int) ≤ k := by omega
  have b2 : (k : Int) ≤ 4611686018427387904 ∧ 0 < k ∧ k * 8 ≤ 140737488355328 ∧ k ≤ LIM := by unfold LIM; omega
  simp +contextual (maxSteps := 2000000) (disch := ((try unfold LIM at *); omega)) only [↓bcase_true, ↓bcase_false, WA, simprocAttr, wrap_i64, c1, c2, b1, b2, rep_leafs, List.length_replicate, Int.sub_zero, Nat.zero_add, takeTo]
  intro cap hcap
  exact ⟨by omega, Up.gcF (.sl 1 0 0 cap) [(1, 0)] [] [0, 1] [⟨[], 1, 0, true⟩, ⟨[], 1, cap, true⟩] (by simp) rfl ⟨.inl ⟨rfl, rfl⟩, .inl ⟨rfl, rfl⟩, trivial⟩ rfl ⟨cap, rfl, rfl⟩⟩
theorem new83 (k : Nat) (hk : k ≤ 2000) : NewV C 83 [.z, .s (.int .i64 k)] 1 [] := by
  by_cases h0 : 0 < k
  · exact ((own83 k hk h0).nilArg (h := []) (args := [.z, .s (.int .i64 k)]) ⟨.inr ⟨rfl, rfl⟩, .inl rfl, trivial⟩).up fun r h' ⟨cap, e1, e2⟩ => by
      subst e1; subst e2
      exact Up.gc (.sl 0 0 0 cap) [1] [⟨[], 1, cap, true⟩] (by simp) ⟨.inl ⟨rfl, rfl⟩, trivial⟩ rfl ⟨cap, Nat.zero_le _, rfl, rfl⟩
  · have c3 : k = 0 := by omega
    subst c3
    refine calls_of_run Tryd.func83 rfl (by kernel_rfl) (by kernel_rfl) (by simp) 1000 ?_
    simp +contextual (maxSteps := 2000000) (disch := ((try unfold LIM at *); omega)) only [↓bcase_true, ↓bcase_false, WA, simprocAttr, wrap_i64]
    exact Up.nil 1 ⟨0, by simp, rfl, rfl⟩
def szs (p q : List Int) : Nat → Nat
  | 0 => 0
  | 1 => p.length
  | _ => p.length + q.length
def prt (p q : List Int) : Nat → List Int
  | 0 => []
  | 1 => p
  | _ => p ++ q
theorem prt0 (p q : List Int) : prt p q 0 = [] := rfl
theorem prt1 (p q : List Int) : prt p q 1 = p := rfl
theorem prt2 (p q : List Int) : prt p q 2 = p ++ q := rfl
/-- Two lists one behind the other. -/
theorem new71 (p q : List Int) (hp : p.length ≤ 1000) (hq : q.length ≤ 1000) : NewV C 71 [.f 1 [[.f 1 (p.map iV)], [.f 1 (q.map iV)]]] 1 ((p ++ q).map iV) := by
  refine calls_of_run Tryd.func71 rfl (by kernel_rfl) (by kernel_rfl) (by simp) 1000 ?_
  simp +contextual (maxSteps := 2000000) (disch := ((try unfold LIM at *); omega)) only [↓bcase_true, ↓bcase_false, WA, simprocAttr, wrap_i64]
  intro _
  refine LoopThen.own (ι := Nat) (fun i => i ≤ 2) (fun i => [(0, .f 1 [[.f 1 (p.map iV)], [.f 1 (q.map iV)]]), (9, .f 1 [[.f 1 (p.map iV)], [.f 1 (q.map iV)]]), (10, .s (.int .i64 2)), (11, .s (.int .i64 i)), (3, .s (.int .i64 (szs p q i)))]) (fun _ => []) (fun i => 2 - i) 1000 1000
    ⟨0, by omega, [], by simp, trivial, by simp +contextual (maxSteps := 2000000) (disch := ((try unfold LIM at *); omega)) only [↓bcase_true, ↓bcase_false, WA, simprocAttr, wrap_i64, szs]⟩ ?_
  have a1 : ¬ ((p.length : Int)) < 0 := by omega
  have a2 : ¬ ((p.length : Int) + q.length) < 0 := by omega
  have a3 : (-9223372036854775808 : Int) ≤ (p.length : Int) + q.length := by omega
  have a4 : (p.length : Int) + q.length ≤ 9223372036854775807 := by omega
  intro i hi
  match i, hi with
  | 0, _ =>
    simp +contextual (maxSteps := 2000000) (disch := ((try unfold LIM at *); omega)) only [↓bcase_true, ↓bcase_false, WA, simprocAttr, wrap_i64, szs, List.length_map, a1, Int.zero_add]
    intros
    exact ⟨1, ⟨by omega, by omega⟩, [], by simp, trivial, by simp +contextual (maxSteps := 2000000) (disch := ((try unfold LIM at *); omega)) only [↓bcase_true, ↓bcase_false, WA, simprocAttr, wrap_i64, szs]⟩
  | 1, _ =>
    simp +contextual (maxSteps := 2000000) (disch := ((try unfold LIM at *); omega)) only [↓bcase_true, ↓bcase_false, WA, simprocAttr, wrap_i64, szs, List.length_map, a2, a3, a4]
    intros
    exact ⟨2, ⟨by omega, by omega⟩, [], by simp, trivial, by simp +contextual (maxSteps := 2000000) (disch := ((try unfold LIM at *); omega)) only [↓bcase_true, ↓bcase_false, WA, simprocAttr, wrap_i64, szs, Int.natCast_add]⟩
  | 2, _ =>
    simp +contextual (maxSteps := 2000000) (disch := ((try unfold LIM at *); omega)) only [↓bcase_true, ↓bcase_false, WA, simprocAttr, wrap_i64, szs]
    refine CallThen.new (new83 (p.length + q.length) (by omega)) rfl (fun _ => rfl) 1000 fun cp hcp => ?_
    simp +contextual (maxSteps := 2000000) (disch := ((try unfold LIM at *); omega)) only [↓bcase_true, ↓bcase_false, WA, simprocAttr, wrap_i64]
    intro _
    refine LoopThen.own (ι := Nat × Nat) (fun i => i.1 ≤ 2 ∧ (prt p q i.1).length ≤ i.2) (fun i => [(25, .f 1 [[.f 1 (p.map iV)], [.f 1 (q.map iV)]]), (26, .s (.int .i64 2)), (27, .s (.int .i64 i.1)), (6, .sl 0 0 (prt p q i.1).length i.2)]) (fun i => [⟨(prt p q i.1).map iV, 1, i.2, true⟩]) (fun i => 2 - i.1) 1000 1000
      ⟨(0, cp), ⟨by simp, by simp [prt]⟩, [0], by simp, ⟨.inl ⟨nrs_map iV_nr _, rfl⟩, trivial⟩, by simp +contextual (maxSteps := 2000000) (disch := ((try unfold LIM at *); omega)) only [↓bcase_true, ↓bcase_false, WA, simprocAttr, wrap_i64, prt0, nm_at]⟩ ?_
    rintro ⟨i, cp2⟩ ⟨hi, hcp2⟩
    match i, hi, hcp2 with
    | 0, _, _ =>
      have b2 : p.length * 8 ≤ 140737488355328 ∧ p.length ≤ LIM := by unfold LIM; omega
      simp +contextual (maxSteps := 2000000) (disch := ((try unfold LIM at *); omega)) only [↓bcase_true, ↓bcase_false, WA, simprocAttr, wrap_i64, prt0, List.length_map, leafs_map iV_ok, takeTo, List.take_length, take_map_len, b2, Nat.zero_add]
      intro cap' h1 _
      exact ⟨(1, cap'), ⟨⟨by simp, h1⟩, by simp⟩, [1], by simp, ⟨.inl ⟨nrs_map iV_nr _, rfl⟩, trivial⟩, by simp +contextual (maxSteps := 2000000) (disch := ((try unfold LIM at *); omega)) only [↓bcase_true, ↓bcase_false, WA, simprocAttr, wrap_i64, prt1, nm_at]⟩
    | 1, _, _ =>
      have b2 : (p.length + q.length) * 8 ≤ 140737488355328 ∧ p.length + q.length ≤ LIM := by unfold LIM; omega
      simp +contextual (maxSteps := 2000000) (disch := ((try unfold LIM at *); omega)) only [↓bcase_true, ↓bcase_false, WA, simprocAttr, wrap_i64, prt1, List.length_map, leafs_map iV_ok, takeTo, List.take_length, take_map_len, b2, ite_true, ← List.map_append]
      intro cap' h1 _
      exact ⟨(2, cap'), ⟨⟨by simp, by simpa [prt2] using h1⟩, by simp⟩, [1], by simp, ⟨.inl ⟨nrs_map iV_nr _, rfl⟩, trivial⟩, by simp +contextual (maxSteps := 2000000) (disch := ((try unfold LIM at *); omega)) only [↓bcase_true, ↓bcase_false, WA, simprocAttr, wrap_i64, prt2, nm_at, List.length_append]⟩
    | 2, _, hcp2 =>
      simp +contextual (maxSteps := 2000000) (disch := ((try unfold LIM at *); omega)) only [↓bcase_true, ↓bcase_false, WA, simprocAttr, wrap_i64, prt2]
      exact Up.gcF (.sl 0 0 (p ++ q).length cp2) [] [] [0] [⟨(p ++ q).map iV, 1, cp2, true⟩] (by simp) rfl ⟨.inl ⟨nrs_map iV_nr _, rfl⟩, trivial⟩ rfl ⟨cp2, by simpa [prt2] using hcp2, by rw [List.length_map], rfl⟩
end Go.Proofs.YtijefmjfdhfjmaaDoor
