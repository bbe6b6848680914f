/- A layer for walking through code on abstract values and an abstract heap: its definitions and their soundness; no condition. -/
import Derived.Test.YtpcgnmoogjahbaaVQ
import Derived.OrdersHeld
set_option linter.unusedVariables false
set_option linter.unusedSimpArgs false
namespace Go.VL
open Go Go.RowKit

/-- The ways on which a panic's post does not look at the temporaries. -/
def PanFree (Q : QT) : Prop := ∀ v τ τ' h, Q (.pan v) τ h → Q (.pan v) τ' h

theorem panFree_semK {P : Program} {N : Nat} {Q : QT} (hQ : PanFree Q) : ∀ k : List It, PanFree (SemK P N Q k)
  | [] => hQ
  | .code c :: k => fun v τ τ' h q => panFree_semK hQ k v τ τ' h q
  | .ops _ _ :: k => fun v τ τ' h q => panFree_semK hQ k v τ τ' h q
  | .blk _ :: k => fun v τ τ' h q => panFree_semK hQ k v τ τ' h q

section
variable {P : Program} {N : Nat} {Q : QT} {τ : Tau} {h : H} {k : List It}

theorem panFree_body (fn : Func) (R : Res → H → Prop) : PanFree (bodyQ P fn R) := fun v τ τ' h q => q
theorem panFree_loop {m : Nat} {I : Tau → H → Prop} {μ : Tau → H → Nat} {μ0 : Nat} (hQ : PanFree Q) : PanFree (loopQ P N m Q k I μ μ0) := fun v τ τ' h q => hQ v τ τ' h q

/-- What the region may not have turned: the blocks that were there when it began, but for those of exc. -/
def Stay (h0 : H) (exc : List Nat) (h : H) : Prop := ∀ b, b < h0.n → b ∉ exc → h.get b = h0.get b

/-- The cells of those blocks, in the world. -/
def SW (φ : Phi) (h0 : H) (exc : List Nat) (w : World) : Prop :=
  ∀ b off x a c, b < h0.n → b ∉ exc → h0.rd b off = some x → place φ b off = some a → conc φ x = some c → w.cell? a = some c

theorem sw_of {B : Nat} {w0 : World} {φ φ' : Phi} {h0 h' : H} {exc : List Nat} {w : World} (R : Rel B w0 φ' h' w) (E : Ext φ φ') (hn : h0.n ≤ h'.n) (hs : Stay h0 exc h') : SW φ h0 exc w := by
  intro b off x a c hb hx hr hp hc
  have hr' : h'.rd b off = some x := by unfold H.rd at hr ⊢; rw [hs b hb hx]; exact hr
  obtain ⟨blk, base, q1, c', q2, q3⟩ := rd_cell R (by omega) hr'
  have hp' := place_ext E hp
  unfold place at hp'
  rw [q1] at hp'
  obtain rfl := Option.some.inj hp'
  rw [q2]
  have hc' := conc_ext E hc
  cases x with
  | any => cases hc
  | agg cs => cases hc
  | tup cs => cases hc
  | s u => simp only [RelC] at q3; rw [q3] at hc'; exact hc'
  | sl b o l c => simp only [RelC] at q3; rw [q3] at hc'; exact hc'
  | ptr b o => simp only [RelC] at q3; rw [q3] at hc'; exact hc'
  | fn f c => simp only [RelC] at q3; rw [q3] at hc'; exact hc'

/-- An operation that may be taken first. -/
def floatW (P : Program) (h0 : H) (exc : List Nat) (τ : Tau) (h : H) (o : Oper) (K : V → H → Prop) : Prop :=
  match o.op with
  | .call c => match c.callee with
    | .builtin b => builtinW P τ h b c.args.toList c.argTypes.toList K
    | _ => False
  | .load t x => match ev τ x with
    | .ptr b off => match tAgg P t with
      | some true => match tSz P t with
        | some n => match h0.rdN b off n with
          | some cs => (b < h0.n ∧ b ∉ exc ∧ cs.all cellOk = true) ∧ K (.agg cs) h
          | none => False
        | none => False
      | some false => match h0.rd b off with
        | some v => (b < h0.n ∧ b ∉ exc ∧ cellOk v = true) ∧ K v h
        | none => False
      | none => False
    | _ => False
  | op => if isA op = true then opW P τ h op K else False

theorem conc_of {φ : Phi} {x : V} {c : Value} (hx : cellOk x = true) (r : RelC φ x c) : conc φ x = some c := by
  cases x with
  | any => cases hx
  | agg cs => cases hx
  | tup cs => cases hx
  | _ => exact r

theorem floatW_sound {o : Oper} {a : Act} {B : Nat} {w0 : World} {φs φ : Phi} {h0 : H} {exc : List Nat} {ws : World} {K : V → H → Prop} (hok : opOk N o = true) (Rs : Rel B w0 φs h0 ws) (E : Ext φs φ)
    (T : RelT φ τ a) (hw : floatW P h0 exc τ h o K) : ∃ x v, K x h ∧ (∀ w, SW φs h0 exc w → (execOp a.eval o).run P w = .ok (.value v) w) ∧ RelV φ x v := by
  have hop := hok
  simp only [opOk, Bool.and_eq_true] at hop
  have hop2 : o.op.operands.all opdOk = true := by have := hop.2; rw [← Array.all_toList] at this ⊢; exact this
  unfold floatW at hw
  split at hw
  · rename_i c ho
    split at hw
    · rename_i b hc
      obtain ⟨x, v, h1, h2, h3⟩ := builtinW_sound ho hc (call_args ho hc hok) T hw
      exact ⟨x, v, h1, fun w _ => h2 w, h3⟩
    · exact hw.elim
  · rename_i t x ho
    rw [ho] at hop2
    have ex := ev_rel T x (by simpa [Op.operands] using hop2)
    split at hw
    · rename_i b off e
      rw [e] at ex
      obtain ⟨blk, base, hp, hv⟩ := ptr_rel ex
      split at hw
      · rename_i ha
        split at hw
        · rename_i n hn
          split at hw
          · rename_i cs hcs
            obtain ⟨⟨hb, hx, hok'⟩, hk⟩ := hw
            obtain ⟨h1, l, h2, h3, h4⟩ := rdN_cells Rs hb hcs
            -- the block's place, by the elder names
            have hps : φs b = some (blk, base) := by
              cases hps : φs b with
              | none =>
                exfalso
                have hb' := Rs.blk b hb
                unfold H.rdN at hcs
                split at hcs
                · cases hcs
                · rename_i hd
                  cases hs : (h0.get b).st with
                  | dead => exact hd hs
                  | ro => simp only [BlkRel, hs] at hb'; obtain ⟨_, _, q, _⟩ := hb'; rw [hps] at q; cases q
                  | own => simp only [BlkRel, hs] at hb'; obtain ⟨_, _, q, _⟩ := hb'; rw [hps] at q; cases q
              | some p => have := E b p hps; rw [hp] at this; rw [Option.some.inj this]
            refine ⟨.agg cs, .agg l.toArray, hk, fun w hS => ?_, ⟨l.toArray, rfl, by simpa using h3.mono fun _ _ => RelC.ext E⟩⟩
            have hl := run_loadCells_list (P := P) w ⟨blk, base + off, none⟩ l (fun j v e => by
              rw [addr_add]
              have hj : j < cs.length := by
                have := (List.getElem?_eq_some_iff.1 e).1; rw [h2] at this; rw [h1]; exact this
              have hcj : cs[j]? = some cs[j] := List.getElem?_eq_getElem hj
              obtain ⟨v', e1, e2⟩ := h3.get j _ hcj
              rw [e] at e1; obtain rfl := Option.some.inj e1
              have hrd : h0.rd b (off + j) = some cs[j] := by
                unfold H.rdN at hcs
                unfold H.rd
                split at hcs
                · cases hcs
                · rename_i hd
                  rw [if_neg hd]
                  split at hcs
                  · obtain rfl := Option.some.inj hcs
                    rw [List.getElem?_take] at hcj
                    split at hcj
                    · rw [List.getElem?_drop] at hcj; exact hcj
                    · cases hcj
                  · cases hcs
              have hokj : cellOk cs[j] = true := List.all_eq_true.1 hok' _ (List.getElem_mem hj)
              have := hS b (off + j) cs[j] ⟨blk, base + (off + j), none⟩ v hb hx hrd (by unfold place; rw [hps]; rfl) (conc_of hokj e2)
              rw [← Nat.add_assoc] at this; exact this)
            simp [execOp, ho, Instr.loadAt, hv, Instr.sureAddr, loadVar, run_agg ha, run_sz hn, ← h2, hl]
          · exact hw.elim
        · exact hw.elim
      · rename_i ha
        split at hw
        · rename_i v hr
          obtain ⟨⟨hb, hx, hok'⟩, hk⟩ := hw
          obtain ⟨blk', base', q1, c, q2, q3⟩ := rd_cell Rs hb hr
          have := E _ _ q1
          rw [hp] at this; obtain ⟨rfl, rfl⟩ := Prod.mk.inj (Option.some.inj this)
          refine ⟨v, c, hk, fun w hS => ?_, relV_of_relC (q3.ext E)⟩
          have := hS b off v ⟨blk, base + off, none⟩ c hb hx hr (by unfold place; rw [q1]; rfl) (conc_of hok' q3)
          simp [execOp, ho, Instr.loadAt, hv, Instr.sureAddr, loadVar, run_agg ha, this]
        · exact hw.elim
      · exact hw.elim
    · exact hw.elim
  · split at hw
    · rename_i hA
      obtain ⟨x, v, h1, h2, h3⟩ := opW_any hA hop2 T hw
      exact ⟨x, v, h1, fun w _ => h2 w, h3⟩
    · exact hw.elim

def isFloat (o : Oper) : Bool := match o.op with
  | .call c => match c.callee with
    | .builtin .len => true
    | .builtin .cap => true
    | .builtin .min => true
    | .builtin .max => true
    | _ => false
  | .load .. => true
  | op => isA op

/-- A conversion of bytes to a string, taken first: it reads what stays. -/
def FConvV (P : Program) (h0 : H) (exc : List Nat) (src dst : TypeId) (x : V) (R : V → Prop) : Prop :=
  ∀ B w0 φs φ ws xv, Rel B w0 φs h0 ws → Ext φs φ → RelV φ x xv → ∃ r v, R r ∧ (∀ w, SW φs h0 exc w → (convert src dst xv).run P w = .ok v w) ∧ RelV φ r v

def floatC (P : Program) (h0 : H) (exc : List Nat) (τ : Tau) (h : H) (o : Oper) (K : V → H → Prop) : Prop :=
  match o.op with
  | .convert src dst x => if isConv P src dst then FConvV P h0 exc src dst (ev τ x) fun v => K v h else floatW P h0 exc τ h o K
  | _ => floatW P h0 exc τ h o K

theorem floatC_sound {o : Oper} {a : Act} {B : Nat} {w0 : World} {φs φ : Phi} {h0 : H} {exc : List Nat} {ws : World} {K : V → H → Prop} (hok : opOk N o = true) (Rs : Rel B w0 φs h0 ws) (E : Ext φs φ)
    (T : RelT φ τ a) (hw : floatC P h0 exc τ h o K) : ∃ x v, K x h ∧ (∀ w, SW φs h0 exc w → (execOp a.eval o).run P w = .ok (.value v) w) ∧ RelV φ x v := by
  unfold floatC at hw
  split at hw
  · rename_i src dst x ho
    split at hw
    · have hop := hok
      simp only [opOk, Bool.and_eq_true] at hop
      have hop2 : o.op.operands.all opdOk = true := by have := hop.2; rw [← Array.all_toList] at this ⊢; exact this
      have hx : opdOk x = true := by have := hop2; rw [ho] at this; simpa [Op.operands] using this
      obtain ⟨r, v, h1, h2, h3⟩ := hw B w0 φs φ ws _ Rs E (ev_rel T x hx)
      exact ⟨r, v, h1, fun w hS => by simp only [execOp, ho, Sem.run_bind]; rw [h2 w hS]; rfl, h3⟩
    · exact floatW_sound hok Rs E T hw
  · exact floatW_sound hok Rs E T hw

/-- The order in which the region is walked: 'go true i': i is taken first; 'go false i': i alone can come up; 'or i t r': i can come up, then t, or what r tells. -/
inductive TD where
  | done
  | go (fl : Bool) (i : Nat) (t : TD)
  | or (i : Nat) (t r : TD)

def drawOk (ops : Array Oper) : List Nat → Array Bool → TD → Bool
  | pre, listed, .done => pre.isEmpty && (Region.ready .any ops listed).isEmpty
  | pre, listed, .go fl i t => (if fl then pre.isEmpty && (Region.free .any ops listed i && (Region.ready .any ops listed).contains i) else Region.ready .any ops listed == pre ++ [i]) && drawOk ops [] (listed.setIfInBounds i true) t
  | pre, listed, .or i t r => drawOk ops [] (listed.setIfInBounds i true) t && drawOk ops (pre ++ [i]) listed r

/-- What stands of a region behind the operations that are listed. -/
def WD (P : Program) (N : Nat) (Q : QT) (h0 : H) (exc : List Nat) (ops : Array Oper) (fuel : Nat) (listed : Array Bool) (τ : Tau) (h : H) : Prop :=
  ∀ B w0 φs ws φ a w, Rel B w0 φs h0 ws → Ext φs φ → Rel B w0 φ h w → RelT φ τ a → a.tmps.size = N → SW φs h0 exc w →
    wpAnyH P .any ops (Post N B w0 φ a.defers Q) (SW φs h0 exc) fuel listed a w

/-- A call within a region that draws, and what comes behind it. -/
def DCall (P : Program) (N : Nat) (Q : QT) (h0 : H) (exc : List Nat) (ops : Array Oper) (fuel : Nat) (listed : Array Bool) (k : List It) (f : Nat) (args : List V) (d : Option Nat) (τ : Tau) (h : H) : Prop :=
  PanFree Q → k.all (itOk N) = true → ops.all (opOk N) = true → Region.noSelect ops = true → CallsV P f args h fun r h' => match r with
    | .ret v => Stay h0 exc h' ∧ h0.n ≤ h'.n ∧ WD P N (SemK P N Q k) h0 exc ops fuel listed (upo d v τ) h'
    | .pan v => Q (.pan v) τ h'
def DApp (P : Program) (N : Nat) (Q : QT) (h0 : H) (exc : List Nat) (ops : Array Oper) (fuel : Nat) (listed : Array Bool) (k : List It) (s x : V) (t u : TypeId) (d : Option Nat) (τ : Tau) (h : H) : Prop :=
  PanFree Q → k.all (itOk N) = true → ops.all (opOk N) = true → Region.noSelect ops = true → AppV P h s x t u fun v h' => Stay h0 exc h' ∧ h0.n ≤ h'.n ∧ WD P N (SemK P N Q k) h0 exc ops fuel listed (upo d v τ) h'
def DCopy (P : Program) (N : Nat) (Q : QT) (h0 : H) (exc : List Nat) (ops : Array Oper) (fuel : Nat) (listed : Array Bool) (k : List It) (s x : V) (t u : TypeId) (d : Option Nat) (τ : Tau) (h : H) : Prop :=
  PanFree Q → k.all (itOk N) = true → ops.all (opOk N) = true → Region.noSelect ops = true → CopyV P h s x t u fun v h' => Stay h0 exc h' ∧ h0.n ≤ h'.n ∧ WD P N (SemK P N Q k) h0 exc ops fuel listed (upo d v τ) h'
def DConv (P : Program) (N : Nat) (Q : QT) (h0 : H) (exc : List Nat) (ops : Array Oper) (fuel : Nat) (listed : Array Bool) (k : List It) (src dst : TypeId) (x : V) (d : Option Nat) (τ : Tau) (h : H) : Prop :=
  PanFree Q → k.all (itOk N) = true → ops.all (opOk N) = true → Region.noSelect ops = true → ConvV P h src dst x fun v h' => Stay h0 exc h' ∧ h0.n ≤ h'.n ∧ WD P N (SemK P N Q k) h0 exc ops fuel listed (upo d v τ) h'
def DEq (P : Program) (N : Nat) (Q : QT) (h0 : H) (exc : List Nat) (ops : Array Oper) (fuel : Nat) (listed : Array Bool) (k : List It) (op : BinOp) (t : TypeId) (x y : V) (d : Option Nat) (τ : Tau) (h : H) : Prop :=
  PanFree Q → k.all (itOk N) = true → ops.all (opOk N) = true → Region.noSelect ops = true → EqV P h op t x y fun v h' => Stay h0 exc h' ∧ h0.n ≤ h'.n ∧ WD P N (SemK P N Q k) h0 exc ops fuel listed (upo d v τ) h'

/-- The walk of a region that draws. -/
def RunD (P : Program) (N m : Nat) (Q : QT) (k : List It) (h0 : H) (exc : List Nat) (ops : Array Oper) : Nat → Array Bool → TD → Tau → H → Prop
  | _, _, .done, τ, h => Run P N m Q k τ h
  | 0, _, .go _ _ _, _, _ => False
  | 0, _, .or _ _ _, _, _ => False
  | fuel + 1, listed, .go fl i td, τ, h => match ops.toList[i]? with
    | none => False
    | some o => match o.guard with
      | none => if fl then floatC P h0 exc τ h o fun v _ => RunD P N m Q k h0 exc ops fuel (listed.setIfInBounds i true) td (upo o.dst v τ) h
        else effW P N m Q k h0 exc ops fuel (listed.setIfInBounds i true) o τ h fun τ' h' => RunD P N m Q k h0 exc ops fuel (listed.setIfInBounds i true) td τ' h'
      | some (j, want) => match gV ops.toList τ j with
        | some b => (b = want → if fl then floatC P h0 exc (gSet ops.toList j want τ) h o fun v _ => RunD P N m Q k h0 exc ops fuel (listed.setIfInBounds i true) td (upo o.dst v (gSet ops.toList j want τ)) h
              else effW P N m Q k h0 exc ops fuel (listed.setIfInBounds i true) o (gSet ops.toList j want τ) h fun τ' h' => RunD P N m Q k h0 exc ops fuel (listed.setIfInBounds i true) td τ' h') ∧
            (¬ b = want → RunD P N m Q k h0 exc ops fuel (listed.setIfInBounds i true) td (upo o.dst .any (gSet ops.toList j (!want) τ)) h)
        | none => False
  | fuel + 1, listed, .or i td r, τ, h => (match ops.toList[i]? with
    | none => False
    | some o => match o.guard with
      | none => effW P N m Q k h0 exc ops fuel (listed.setIfInBounds i true) o τ h fun τ' h' => RunD P N m Q k h0 exc ops fuel (listed.setIfInBounds i true) td τ' h'
      | some (j, want) => match gV ops.toList τ j with
        | some b => (b = want → effW P N m Q k h0 exc ops fuel (listed.setIfInBounds i true) o (gSet ops.toList j want τ) h fun τ' h' => RunD P N m Q k h0 exc ops fuel (listed.setIfInBounds i true) td τ' h') ∧
            (¬ b = want → RunD P N m Q k h0 exc ops fuel (listed.setIfInBounds i true) td (upo o.dst .any (gSet ops.toList j (!want) τ)) h)
        | none => False) ∧ RunD P N m Q k h0 exc ops (fuel + 1) listed r τ h
where
  /-- An operation that is carried out in its turn. -/
  effW (P : Program) (N m : Nat) (Q : QT) (k : List It) (h0 : H) (exc : List Nat) (ops : Array Oper) (fuel : Nat) (listed : Array Bool) (o : Oper) (τ : Tau) (h : H) (K : Tau → H → Prop) : Prop :=
    match o.op with
    | .call c => match c.callee with
      | .value f => match ev τ f with
        | .fn f caps => DCall P N Q h0 exc ops fuel listed k f (c.args.toList.map (ev τ) ++ caps.map fun p => .ptr p.1 p.2) o.dst τ h
        | _ => False
      | .builtin b => match b with
        | .append => match c.args.toList, c.argTypes.toList with
          | [s, x], [t, u] => DApp P N Q h0 exc ops fuel listed k (ev τ s) (ev τ x) t u o.dst τ h
          | _, _ => False
        | .copy => match c.args.toList, c.argTypes.toList with
          | [s, x], [t, u] => DCopy P N Q h0 exc ops fuel listed k (ev τ s) (ev τ x) t u o.dst τ h
          | _, _ => False
        | b => builtinW P τ h b c.args.toList c.argTypes.toList fun v h' => K (upo o.dst v τ) h'
      | _ => False
    | .convert src dst x => if isConv P src dst then DConv P N Q h0 exc ops fuel listed k src dst (ev τ x) o.dst τ h
      else opW P τ h (.convert src dst x) fun v h' => K (upo o.dst v τ) h'
    | .binOp op t x y u => if tAgg P t = some true then DEq P N Q h0 exc ops fuel listed k op t (ev τ x) (ev τ y) o.dst τ h
      else opW P τ h (.binOp op t x y u) fun v h' => K (upo o.dst v τ) h'
    | op => opW P τ h op fun v h' => (Stay h0 exc h' ∧ h0.n ≤ h'.n) ∧ K (upo o.dst v τ) h'

end
end Go.VL
