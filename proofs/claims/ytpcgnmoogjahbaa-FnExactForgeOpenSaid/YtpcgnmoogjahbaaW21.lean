/- A layer for walking through code on abstract values, told apart by who owns the memory: its definitions and their soundness; no condition. -/
import Derived.Test.YtpcgnmoogjahbaaW20
import Derived.Still
import Derived.OrdersHeld
set_option linter.unusedVariables false
set_option linter.unusedSimpArgs false
namespace Go.W
open Go Go.RowKit

/-! ### Regions that draw their order -/
/-- The ways on which a panic's post does not look at the temporaries. -/
def PanFree (Q : QT) : Prop := ∀ v τ τ' h, Q (.pan v) τ h → Q (.pan v) τ' h
theorem panFree_semK {C : Cx} {N n0 : Nat} {Q : QT} (hQ : PanFree Q) : ∀ k : List It, PanFree (SemK C N n0 Q k)
  | [] => hQ
  | .code c :: k => fun v τ τ' h q => panFree_semK hQ k v τ τ' h q
  | .ops _ _ :: k => fun v τ τ' h q => panFree_semK hQ k v τ τ' h q
  | .blk _ :: k => fun v τ τ' h q => panFree_semK hQ k v τ τ' h q
theorem panFree_body {C : Cx} {n0 : Nat} (fn : Func) (R : Res → H → Prop) : PanFree (bodyQ C n0 fn R) := fun v τ τ' h q => q
theorem panFree_loop {C : Cx} {N n0 m : Nat} {Q : QT} {k : List It} {I : Tau → H → Prop} (hQ : PanFree Q) : PanFree (loopQ C N n0 m Q k I) := fun v τ τ' h q => hQ v τ τ' h q

/-- The temporaries of the region's beginning: nw are those that came by what was carried out in its turn. -/
def restr (nw : List Nat) (τ : Tau) : Tau := fun t => if nw.contains t = true then .any else τ t
theorem restr_nil (τ : Tau) : restr [] τ = τ := rfl
theorem restr_ev {C : Cx} {nw : List Nat} {τ : Tau} (x : Operand) : ev C (restr nw τ) x = match x with | .tmp t => if nw.contains t = true then .any else τ t | x => ev C τ x := by cases x <;> rfl
def addN : Option Nat → List Nat → List Nat
  | some d, nw => d :: nw
  | none, nw => nw

/-- What stays as it was at the region's beginning: what stands fast, and the blocks of h0 other than those of exc. -/
structure SW (ws : World) (φs : Phi) (h0 : H) (exc : List Nat) (w : World) : Prop where
  z : ∀ k o v, φs.z k o = some v → w.cell? ⟨k, o, none⟩ = some v
  m : ∀ b k n, hid h0.length exc b = true → φs.m b = some (some k, n) → (∃ B, h0[b]? = some B ∧ B.live = true) → w.heap[k]? = ws.heap[k]?
def Stay (h0 : H) (exc : List Nat) (h : H) : Prop := h0.length ≤ h.length ∧ ∀ b, hid h0.length exc b = true → h[b]? = h0[b]?

section
variable {C : Cx} {N n0 : Nat} {Q : QT} {τ : Tau} {h : H} {k : List It} {o : Oper}

def flCk (C : Cx) (K : V → H → Prop) (h0 : H) (exc : List Nat) (b : Nat) : Option V → Prop
  | some v => (hid h0.length exc b = true ∧ cellOk v = true) ∧ K v h0
  | none => False
def flA (C : Cx) (K : V → H → Prop) (h0 : H) (exc : List Nat) (b : Nat) : Option (List V) → Prop
  | some cs => (hid h0.length exc b = true ∧ cs.all cellOk = true) ∧ K (.agg cs) h0
  | none => False
def flT (C : Cx) (K : V → H → Prop) (h0 : H) (exc : List Nat) (b i o : Nat) : Option Bool → Option Nat → Prop
  | some true, some n => flA C K h0 exc b (rdN (rdB (h0[b]?) i) o n)
  | some false, _ => flCk C K h0 exc b (rdC (rdB (h0[b]?) i) o)
  | _, _ => False
/-- A load that's taken first. -/
def flK (C : Cx) (K : V → H → Prop) (h0 : H) (exc : List Nat) (t : TypeId) : V → Prop
  | .ptr b i o => flT C K h0 exc b i o (tAgg C.P t) (tSz C.P t)
  | .pd cs => ldF K h0 cs (tAgg C.P t) (tSz C.P t)
  | _ => False
def pureB (C : Cx) (K : V → H → Prop) (h : H) (xs : List V) (ts : List TypeId) : Builtin → Prop
  | b => builtinW C K h b xs ts
/-- An operation that's taken first, and that sees the region's beginning only. -/
def oldW (C : Cx) (K : V → H → Prop) (h0 : H) (exc : List Nat) (σ : Tau) : Op → Prop
  | .load t x => flK C K h0 exc t (ev C σ x)
  | .call ⟨.builtin b, args, ts⟩ => builtinW C K h0 b (evs C σ args.toList) ts.toList
  | op => isA op = true ∧ opW C σ h0 op K
/-- An operation that's taken first. -/
def newW (C : Cx) (K : V → H → Prop) (τ : Tau) (h : H) : Op → Prop
  | .call ⟨.builtin b, args, ts⟩ => builtinW C K h b (evs C τ args.toList) ts.toList
  | op => isA op = true ∧ opW C τ h op K

theorem Dc.plain {w : World} {φ : Phi} {x : V} {v : Value} {f : Fp} (d : Dc φ w x v f) (hx : cellOk x = true) : RelC φ x v :=
  (d.rel (fun n e q => by subst q; cases hx) (fun cs q => by subst q; cases hx)).1

theorem sw_cell {ws w : World} {φs : Phi} {h0 : H} {exc : List Nat} (hS : SW ws φs h0 exc w) {b k n off : Nat} {v : Value} (hh : hid h0.length exc b = true) (hp : φs.m b = some (some k, n)) (hl : ∃ B, h0[b]? = some B ∧ B.live = true)
    (hc : ws.cell? ⟨k, off, none⟩ = some v) : w.cell? ⟨k, off, none⟩ = some v := by
  have := hS.m b k n hh hp hl
  simp only [World.cell?] at hc ⊢
  rw [this]; exact hc
theorem rdB_live {b i : Nat} {el : List V} {h0 : H} (h : rdB (h0[b]?) i = some el) : ∃ B, h0[b]? = some B ∧ B.live = true := by
  obtain ⟨B, h1, h2, _⟩ := rdB_some h; exact ⟨B, h1, h2⟩

theorem oldW_sound {a : Act} {S : Nat → Prop} {w0 : World} {φs : Phi} {h0 : H} {exc : List Nat} {ws : World} {σ : Tau} {K : V → H → Prop} (hok : opOk N o = true) (G : RelG C φs.z) (Rs : Rel S w0 φs h0 ws)
    (T : RelT φs σ a) (hw : oldW C K h0 exc σ o.op) : ∃ x v, K x h0 ∧ (∀ w, SW ws φs h0 exc w → (execOp a.eval o).run C.P w = .ok (.value v) w) ∧ RelV φs x v := by
  have hop := hok
  simp only [opOk, Bool.and_eq_true] at hop
  have hop2 : o.op.operands.all opdOk = true := by have := hop.2; rw [← Array.all_toList] at this ⊢; exact this
  unfold oldW at hw
  split at hw
  · rename_i t x ho
    rw [ho] at hop2
    have ex := ev_rel G T x (by simpa [Op.operands] using hop2)
    obtain ⟨F, RF⟩ := Rs
    unfold flK at hw
    split at hw
    · rename_i b i ob e
      rw [e] at ex
      obtain ⟨kk, n, hp, hv⟩ := ptr_rel ex
      unfold flT at hw
      split at hw
      · rename_i m ha hm
        unfold flA at hw
        split at hw
        · rename_i cs hcs
          obtain ⟨⟨hh, hok'⟩, hk⟩ := hw
          obtain ⟨h1, l, h2, h3, h4⟩ := RF.agg hp hcs hok'
          have hlive : ∃ B, h0[b]? = some B ∧ B.live = true := by
            cases he : rdB (h0[b]?) i with
            | none => rw [he] at hcs; simp [rdN] at hcs
            | some el => exact rdB_live he
          refine ⟨.agg cs, .agg l.toArray, hk, fun w hS => ?_, ⟨l.toArray, rfl, by simpa using h3⟩⟩
          have hl := run_loadCells_list (P := C.P) w ⟨kk, i * n + ob, none⟩ l (fun j v e => by rw [addr_add]; exact sw_cell hS hh hp hlive (h4 j v e))
          simp [execOp, ho, Instr.loadAt, hv, Instr.sureAddr, loadVar, run_agg ha, run_sz hm, ← h2, hl]
        · exact hw.elim
      · rename_i ha
        unfold flCk at hw
        split at hw
        · rename_i v hr
          obtain ⟨⟨hh, hok'⟩, hk⟩ := hw
          obtain ⟨c, f, q2, q3⟩ := RF.cell hp hr
          have hlive : ∃ B, h0[b]? = some B ∧ B.live = true := by
            obtain ⟨el, he, _⟩ := rdC_some hr; exact rdB_live he
          refine ⟨v, c, hk, fun w hS => ?_, relV_of_relC (q3.plain hok')⟩
          have := sw_cell hS hh hp hlive q2
          simp [execOp, ho, Instr.loadAt, hv, Instr.sureAddr, loadVar, run_agg ha, this]
        · exact hw.elim
      · exact hw.elim
    · rename_i cs e
      rw [e] at ex
      obtain ⟨kk, off, hv, hz⟩ := pd_rel ex
      unfold ldF at hw
      split at hw
      · rename_i m ha hm
        unfold ldA at hw
        split at hw
        · rename_i ds hds
          obtain ⟨hok', hk⟩ := hw
          simp only [rdN] at hds
          split at hds
          · rename_i hle
            obtain rfl := Option.some.inj hds
            simp only [List.drop_zero] at hk hok' ⊢
            have hz' := hz.take m
            have key : ∀ {xs : List V} {off : Nat}, RZs φs.z kk off xs → ∃ l : List Value, l.length = xs.length ∧ All2 (RelC φs) xs l ∧ ∀ (j : Nat) v, l[j]? = some v → φs.z kk (off + j) = some v := by
              intro xs
              induction xs with
              | nil => intro off _; exact ⟨[], rfl, trivial, fun j v e => by simp at e⟩
              | cons x xs ih =>
                intro off r
                simp only [RZs] at r
                obtain ⟨⟨c, c1, c2⟩, r2⟩ := r
                obtain ⟨l, l1, l2, l3⟩ := ih r2
                refine ⟨c :: l, by simp [l1], ⟨relC_of_rz c2, l2⟩, fun j v e => ?_⟩
                cases j with
                | zero => simp at e; subst e; exact c1
                | succ j => simp at e; have := l3 j v e; rw [show off + (j + 1) = off + 1 + j by omega]; exact this
            obtain ⟨l, l1, l2, l3⟩ := key hz'
            have l1' : l.length = m := by rw [l1, List.length_take]; omega
            refine ⟨.agg (cs.take m), .agg l.toArray, hk, fun w hS => ?_, ⟨l.toArray, rfl, by simpa using l2⟩⟩
            have hl := run_loadCells_list (P := C.P) w ⟨kk, off, none⟩ l (fun j v e => by rw [addr_add]; exact hS.z _ _ _ (l3 j v e))
            simp [execOp, ho, Instr.loadAt, hv, Instr.sureAddr, loadVar, run_agg ha, run_sz hm, ← l1', hl]
          · cases hds
        · exact hw.elim
      · rename_i ha
        unfold ldC at hw
        split at hw
        · rename_i v hr
          obtain ⟨c, c1, c2⟩ := hz.nth hr
          refine ⟨v, c, hw, fun w hS => ?_, relV_of_rz c2⟩
          have := hS.z _ _ _ c1
          rw [Nat.add_zero] at this
          simp [execOp, ho, Instr.loadAt, hv, Instr.sureAddr, loadVar, run_agg ha, this]
        · exact hw.elim
      · exact hw.elim
    · exact hw.elim
  · rename_i b args ts ho
    obtain ⟨x, v, h1, h2, h3⟩ := builtinW_sound (c := ⟨.builtin b, args, ts⟩) ho rfl (call_args ho rfl hok) G T hw
    exact ⟨x, v, h1, fun w _ => h2 w, h3⟩
  · obtain ⟨hA, hw⟩ := hw
    obtain ⟨x, v, h1, h2, h3⟩ := opW_any hA hop2 Rs G T hw
    exact ⟨x, v, h1, fun w _ => h2 w, h3⟩

theorem newW_sound {a : Act} {S : Nat → Prop} {w0 : World} {φ : Phi} {w : World} {K : V → H → Prop} (hok : opOk N o = true) (G : RelG C φ.z) (R : Rel S w0 φ h w)
    (T : RelT φ τ a) (hw : newW C K τ h o.op) : ∃ x v, K x h ∧ (∀ w, (execOp a.eval o).run C.P w = .ok (.value v) w) ∧ RelV φ x v := by
  have hop := hok
  simp only [opOk, Bool.and_eq_true] at hop
  have hop2 : o.op.operands.all opdOk = true := by have := hop.2; rw [← Array.all_toList] at this ⊢; exact this
  unfold newW at hw
  split at hw
  · rename_i b args ts ho
    exact builtinW_sound (c := ⟨.builtin b, args, ts⟩) ho rfl (call_args ho rfl hok) G T hw
  · exact opW_any hw.1 hop2 R G T hw.2

/-- The order in which a region is walked. old, new: the operation is taken first; go: it alone can come up; or: it can come up, then t, or what r tells. -/
inductive TD where
  | done
  | old (i : Nat) (t : TD)
  | new (i : Nat) (t : TD)
  | go (i : Nat) (t : TD)
  | or (i : Nat) (t r : TD)
def freeOk (ops : Array Oper) (listed : Array Bool) (i : Nat) : Bool := Region.free .any ops listed i && (Region.ready .any ops listed).contains i
def drawOk (ops : Array Oper) : List Nat → Array Bool → TD → Bool
  | pre, listed, .done => pre.isEmpty && (Region.ready .any ops listed).isEmpty
  | pre, listed, .old i t => (pre.isEmpty && freeOk ops listed i) && drawOk ops [] (listed.setIfInBounds i true) t
  | pre, listed, .new i t => (pre.isEmpty && freeOk ops listed i) && drawOk ops [] (listed.setIfInBounds i true) t
  | pre, listed, .go i t => (Region.ready .any ops listed == pre ++ [i]) && drawOk ops [] (listed.setIfInBounds i true) t
  | pre, listed, .or i t r => drawOk ops [] (listed.setIfInBounds i true) t && drawOk ops (pre ++ [i]) listed r

/-- What stands of a region behind the operations that are listed. -/
def WD (C : Cx) (N n0 : Nat) (Q : QT) (h0 : H) (exc : List Nat) (ops : Array Oper) (fuel : Nat) (listed : Array Bool) (nw : List Nat) (τ : Tau) (h : H) : Prop :=
  ∀ S w0 φs ws φ a w, RelG C φs.z → Rel S w0 φs h0 ws → ExtN S w0 h0.length φs φ → Rel S w0 φ h w → Stay h0 exc h → n0 ≤ h0.length → RelT φ τ a → RelT φs (restr nw τ) a → a.tmps.size = N → SW ws φs h0 exc w →
    wpAnyH C.P .any ops (Post N n0 S w0 φs a.defers Q) (SW ws φs h0 exc) fuel listed a w

abbrev hide (h0 : H) (exc : List Nat) (h : H) : H := mask h0.length exc 0 h
abbrev show_ (h0 : H) (exc : List Nat) (h h' : H) : H := unmask h0.length exc 0 h h'

def dres (Q : QT) (K : V → H → Prop) (τ : Tau) (G : H → H) : Res → H → Prop
  | .ret v, h' => K v (G h')
  | .pan v, h' => Q (.pan v) τ (G h')
/-- A call within a region that draws, and what comes behind it. -/
def DCall (C : Cx) (N n0 : Nat) (Q : QT) (h0 : H) (exc : List Nat) (ops : Array Oper) (fuel : Nat) (listed : Array Bool) (k : List It) (f : Nat) (args : List V) (d : Option Nat) (nw : List Nat) (τ : Tau) (h : H) : Prop :=
  PanFree Q → k.all (itOk N) = true → ops.all (opOk N) = true → Region.noSelect ops = true →
    CallsV C f args (hide h0 exc h) (dres Q (fun v h' => WD C N n0 (SemK C N n0 Q k) h0 exc ops fuel listed (addN d nw) (upo d v τ) h') τ (show_ h0 exc h))
def DCopy (C : Cx) (N n0 : Nat) (Q : QT) (h0 : H) (exc : List Nat) (ops : Array Oper) (fuel : Nat) (listed : Array Bool) (k : List It) (s x : V) (t u : TypeId) (d : Option Nat) (nw : List Nat) (τ : Tau) (h : H) : Prop :=
  PanFree Q → k.all (itOk N) = true → ops.all (opOk N) = true → Region.noSelect ops = true →
    CopyV C (hide h0 exc h) s x t u (fun v h' => WD C N n0 (SemK C N n0 Q k) h0 exc ops fuel listed (addN d nw) (upo d v τ) (show_ h0 exc h h'))

section
variable (C : Cx) (N n0 m : Nat) (Q : QT) (k : List It) (h0 : H) (exc : List Nat) (ops : Array Oper)
def dcallR (fuel : Nat) (listed : Array Bool) (args : List V) (d : Option Nat) (nw : List Nat) (τ : Tau) (h : H) : V → Prop
  | .fn f caps => DCall C N n0 Q h0 exc ops fuel listed k f (args ++ caps) d nw τ h
  | _ => False
def dcopyR (fuel : Nat) (listed : Array Bool) (d : Option Nat) (nw : List Nat) (τ : Tau) (h : H) : List V → List TypeId → Prop
  | [s, x], [t, u] => DCopy C N n0 Q h0 exc ops fuel listed k s x t u d nw τ h
  | _, _ => False
def effN (R : List Nat → Tau → H → Prop) (d : Option Nat) (nw : List Nat) (τ : Tau) (h : H) : V → H → Prop := fun v h' => R (addN d nw) (upo d v τ) (show_ h0 exc h h')
def oldN (R : List Nat → Tau → H → Prop) (d : Option Nat) (nw : List Nat) (τ : Tau) (h : H) : V → H → Prop := fun v _ => R nw (upo d v τ) h
def newN (R : List Nat → Tau → H → Prop) (d : Option Nat) (nw : List Nat) (τ : Tau) (h : H) : V → H → Prop := fun v _ => R (addN d nw) (upo d v τ) h
/-- An operation that is carried out in its turn. -/
def effW (fuel : Nat) (listed : Array Bool) (R : List Nat → Tau → H → Prop) (d : Option Nat) (nw : List Nat) (τ : Tau) (h : H) : Op → Prop
  | .call ⟨.value f, args, _⟩ => dcallR C N n0 Q k h0 exc ops fuel listed (evs C τ args.toList) d nw τ h (ev C τ f)
  | .call ⟨.builtin .append, args, ts⟩ => appR C (effN h0 exc R d nw τ h) (hide h0 exc h) (evs C τ args.toList) ts.toList
  | .call ⟨.builtin .copy, args, ts⟩ => dcopyR C N n0 Q k h0 exc ops fuel listed d nw τ h (evs C τ args.toList) ts.toList
  | .call ⟨.builtin b, args, ts⟩ => builtinW C (newN R d nw τ h) h b (evs C τ args.toList) ts.toList
  | .call ⟨.invoke _ _, _, _⟩ => False
  | op => opW C τ (hide h0 exc h) op (effN h0 exc R d nw τ h)
def guardD (yes no : Prop) : Bool → Option Bool → Prop
  | true, some b => bcase b yes no
  | false, some b => bcase b no yes
  | _, none => False
/-- How an operation is met. -/
inductive Md where
  | old | new | eff
def actW (fuel : Nat) (listed : Array Bool) (R : List Nat → Tau → H → Prop) (d : Option Nat) (nw : List Nat) (τ : Tau) (h : H) (op : Op) : Md → Prop
  | .old => oldW C (oldN R d nw τ h) h0 exc (restr nw τ) op
  | .new => newW C (newN R d nw τ h) τ h op
  | .eff => effW C N n0 Q k h0 exc ops fuel listed R d nw τ h op
def nodeW (fuel : Nat) (listed : Array Bool) (R : List Nat → Tau → H → Prop) (nw : List Nat) (τ : Tau) (h : H) (md : Md) : Option Oper → Prop
  | none => False
  | some ⟨d, op, _, _, _, none⟩ => actW C N n0 Q k h0 exc ops fuel listed R d nw τ h op md
  | some ⟨d, op, _, _, _, some (j, want)⟩ => guardD (actW C N n0 Q k h0 exc ops fuel listed R d nw (gSet ops.toList j want τ) h op md) (R (addN d nw) (upo d .any (gSet ops.toList j (!want) τ)) h) want (gV ops.toList τ j)
/-- The walk of a region that draws. -/
def RunD : Nat → Array Bool → TD → List Nat → Tau → H → Prop
  | _, _, .done, _, τ, h => Run C N n0 m Q k τ h
  | fuel + 1, listed, .old i td, nw, τ, h => nodeW C N n0 Q k h0 exc ops fuel (listed.setIfInBounds i true) (RunD fuel (listed.setIfInBounds i true) td) nw τ h .old (ops.toList[i]?)
  | fuel + 1, listed, .new i td, nw, τ, h => nodeW C N n0 Q k h0 exc ops fuel (listed.setIfInBounds i true) (RunD fuel (listed.setIfInBounds i true) td) nw τ h .new (ops.toList[i]?)
  | fuel + 1, listed, .go i td, nw, τ, h => nodeW C N n0 Q k h0 exc ops fuel (listed.setIfInBounds i true) (RunD fuel (listed.setIfInBounds i true) td) nw τ h .eff (ops.toList[i]?)
  | fuel + 1, listed, .or i td r, nw, τ, h => nodeW C N n0 Q k h0 exc ops fuel (listed.setIfInBounds i true) (RunD fuel (listed.setIfInBounds i true) td) nw τ h .eff (ops.toList[i]?) ∧ RunD (fuel + 1) listed r nw τ h
  | _, _, _, _, _, _ => False
end
end
end Go.W
