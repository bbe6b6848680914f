/- A layer for walking through code on abstract values, told apart by who owns the memory: its definitions and their soundness; no condition. -/
import Derived.Test.YtpcgnmoogjahbaaW25
import Derived.ChangeSlices
import Derived.OpenShut
set_option linter.unusedVariables false
set_option linter.unusedSimpArgs false
namespace Go.W
open Go Go.RowKit Go.ChangeShapes Go.WideShapes

/-! ### From a statement's arguments to values -/
/-- All that the world holds stands fast. -/
def zOf (W : World) : Zm := fun k o => W.cell? ⟨k, o, none⟩
def phi0 (W : World) : Phi := ⟨fun _ => none, zOf W⟩
theorem rel0 (W : World) : Rel (fun _ => False) W (phi0 W) [] W :=
  ⟨fun _ => [], Kept.refl _ _, fun _ _ => rfl, fun _ _ _ h => h, fun _ _ _ h => by simp at h, fun _ _ h => by simp at h, fun _ => List.nodup_nil, fun _ _ _ h => by simp at h, fun _ _ => rfl, fun b B h => by simp at h⟩

section
variable {H' : Type} {enc : TypeId × Value → H'} {P : Program} {W : World}

/-- What the cells of a datum of type t are like. -/
def Opn (enc : TypeId × Value → H') (P : Program) (W : World) (t : TypeId) (G : List V → Prop) : Prop :=
  ∀ fuel cs x, DataW.trod enc P W 0 (fun _ => true) true fuel t cs = some x → ∃ xs, All2 (RZ (zOf W)) xs cs ∧ G xs
theorem Opn.mono {t : TypeId} {G G' : List V → Prop} (o : Opn enc P W t G) (h : ∀ xs, G xs → G' xs) : Opn enc P W t G' := fun f cs x q => by
  obtain ⟨xs, h1, h2⟩ := o f cs x q; exact ⟨xs, h1, h _ h2⟩

theorem opn_bool {t : TypeId} (ht : P.underlying t = some .bool) : Opn enc P W t fun xs => ∃ b, xs = [.s (.bool b)] := by
  intro fuel cs x h
  obtain ⟨b, rfl, _⟩ := DataW.trod_bool ht h
  exact ⟨[.s (.bool b)], ⟨by simp [RZ, one], trivial⟩, b, rfl⟩
theorem opn_int {t : TypeId} {k : IntKind} (ht : P.underlying t = some (.int k)) : Opn enc P W t fun xs => ∃ n, xs = [.s (.int k n)] ∧ (Lit.int k n).wf = true := by
  intro fuel cs x h
  obtain ⟨n, rfl, _, hw⟩ := DataW.trod_int ht h
  exact ⟨[.s (.int k n)], ⟨by simp [RZ, one], trivial⟩, n, rfl, hw⟩
theorem opn_str {t : TypeId} (ht : P.underlying t = some .string) : Opn enc P W t fun xs => ∃ s, xs = [.s (.string s)] := by
  intro fuel cs x h
  obtain ⟨s, rfl, _, hs⟩ := DataW.trod_string ht h
  exact ⟨[.s (.string s)], ⟨by simp only [RZ, one, decide_eq_true_eq, true_and]; simp only [maxLen, LIM] at *; omega, trivial⟩, s, rfl⟩
theorem rzs_of {k : Nat} {z : Zm} : ∀ {xs : List V} {cs : List Value} {off : Nat}, All2 (RZ z) xs cs → (∀ (i : Nat) v, cs[i]? = some v → z k (off + i) = some v) → RZs z k off xs
  | [], [], _, _, _ => by simp [RZs]
  | x :: xs, c :: cs, off, r, h => by
    simp only [RZs]
    refine ⟨⟨c, by simpa using h 0 c rfl, r.1⟩, rzs_of r.2 fun i v e => ?_⟩
    rw [show off + 1 + i = off + (i + 1) by omega]; exact h (i + 1) v (by simpa using e)
  | [], _ :: _, _, r, _ => r.elim
  | _ :: _, [], _, r, _ => r.elim
theorem opn_slice {t e : TypeId} {n : Nat} {G : List V → Prop} (ht : P.underlying t = some (.slice e)) (hc : P.cellsOf e = n + 1) (he : Opn enc P W e G) :
    Opn enc P W t fun xs => ∃ els, xs = [.f (n + 1) els] ∧ ∀ el ∈ els, G el := by
  intro fuel cs x h
  rcases DataW.trod_slice ht h with ⟨rfl, _⟩ | ⟨a, len, cap, elems, rest, m, _, rfl, rfl, hb, hl, hm, hlen, hel, hsp, _⟩
  · exact ⟨[.f (n + 1) []], ⟨by simp only [RZ]; exact .inl ⟨trivial, _, rfl⟩, trivial⟩, [], rfl, by simp⟩
  by_cases h0 : cap = 0
  · subst h0
    obtain rfl : len = 0 := by omega
    exact ⟨[.f (n + 1) []], ⟨by simp only [RZ]; exact .inl ⟨trivial, _, rfl⟩, trivial⟩, [], rfl, by simp⟩
  obtain ⟨hrl, hr⟩ := hsp rfl
  -- each element
  have each : ∀ i, i < len → ∃ cs', W.cells? 0 (a.add (i * (n + 1))) (n + 1) = some cs' ∧ ∃ el, All2 (RZ (zOf W)) el cs' ∧ G el := fun i hi => by
    have := hel i hi
    rw [List.getElem?_eq_getElem (by omega), hc] at this
    obtain ⟨cs', h1, h2⟩ := Option.bind_eq_some_iff.1 this
    exact ⟨cs', h1, he _ _ _ h2⟩
  have spot : a.spot = none := by
    have key : ∃ cs', W.cells? 0 (a.add 0) (n + 1) = some cs' := by
      by_cases q : 0 < len
      · obtain ⟨cs', h1, _⟩ := each 0 q
        rw [Nat.zero_mul] at h1; exact ⟨cs', h1⟩
      · have := hr 0 (by omega)
        obtain rfl : len = 0 := by omega
        rw [List.getElem?_eq_getElem (by omega), hc] at this
        obtain ⟨cs', h1, _⟩ := Option.bind_eq_some_iff.1 this
        simp only [Nat.zero_mul, Nat.add_zero] at h1
        exact ⟨cs', h1⟩
    obtain ⟨cs', h1⟩ := key
    have h2 := World.cells?_some h1
    have h3 := h2.2.2 0 (by omega)
    have hcs : cs'[0]? = some (cs'[0]'(by omega)) := List.getElem?_eq_getElem (by omega)
    rw [hcs] at h3
    simp only [Addr.add, if_true] at h3
    unfold World.cell? at h3
    split at h3
    · split at h3
      · cases h3
      · rename_i q; simpa using q
    · cases h3
  obtain ⟨k, off, sp⟩ := a
  simp only at spot; subst spot
  have addr : ∀ (off j : Nat), (⟨k, off, none⟩ : Addr).add j = ⟨k, off + j, none⟩ := fun off j => by unfold Addr.add; split <;> simp_all
  have all : ∀ (c : Nat) (i : Nat), i + c = len → ∃ els, els.length = c ∧ (∀ el ∈ els, G el) ∧ RZss (zOf W) k (n + 1) (off + i * (n + 1)) els := by
    intro c
    induction c with
    | zero => intro i _; exact ⟨[], rfl, by simp, by simp [RZss]⟩
    | succ c ih =>
      intro i hi
      obtain ⟨cs', h1, el, h2, h3⟩ := each i (by omega)
      obtain ⟨els, g1, g2, g3⟩ := ih (i + 1) (by omega)
      have hcs := World.cells?_some h1
      have hlen' := h2.length
      refine ⟨el :: els, by simp [g1], fun x hx => by simp at hx; rcases hx with rfl | hx; exact h3; exact g2 x hx, ?_⟩
      simp only [RZss]
      refine ⟨by rw [hlen']; exact hcs.2.1, rzs_of h2 fun j v e => ?_, by rw [show off + i * (n + 1) + (n + 1) = off + (i + 1) * (n + 1) by rw [Nat.succ_mul]; omega]; exact g3⟩
      have hj : j < n + 1 := by have := (List.getElem?_eq_some_iff.1 e).1; rw [hcs.2.1] at this; exact this
      have := hcs.2.2 j hj
      rw [addr, addr, e] at this
      exact this
  obtain ⟨els, g1, g2, g3⟩ := all len 0 (by omega)
  refine ⟨[.f (n + 1) els], ⟨?_, trivial⟩, els, rfl, g2⟩
  simp only [RZ]
  refine .inr ⟨k, off, cap, by rw [g1], by omega, by simp only [maxLen, LIM] at *; omega, by simpa using g3⟩

/-- The fields of a struct, one behind the other. -/
def GL : List (List V → Prop) → List V → Prop
  | [], xs => xs = []
  | g :: gs, xs => ∃ a b, xs = a ++ b ∧ g a ∧ GL gs b
def OpnL (enc : TypeId × Value → H') (P : Program) (W : World) : Nat → List Field → List (List V → Prop) → Prop
  | off, [], gs => gs = []
  | off, f :: fs, g :: gs => f.offset = off ∧ Opn enc P W f.type g ∧ OpnL enc P W (off + P.cellsOf f.type) fs gs
  | _, _ :: _, [] => False
def sumL (P : Program) : List Field → Nat
  | [] => 0
  | f :: fs => P.cellsOf f.type + sumL P fs
theorem all2_split {R : V → Value → Prop} : ∀ {xs ys : List V} {cs : List Value}, All2 R xs cs → ∀ ds, All2 R ys ds → All2 R (xs ++ ys) (cs ++ ds) := fun h ds h' => h.append h'
theorem opn_fields {n : Nat} : ∀ {fs : List Field} {gs : List (List V → Prop)} {off : Nat} {cs : List Value} {ys : List (DataW H' × List MemPlace)}, OpnL enc P W off fs gs → cs.length = off + sumL P fs → ys.length = fs.length →
    (∀ (i : Nat) (f : Field), fs[i]? = some f → DataW.trod enc P W 0 (fun _ => true) true n f.type ((cs.drop f.offset).take (P.cellsOf f.type)) = ys[i]?) →
    ∃ xs, All2 (RZ (zOf W)) xs (cs.drop off) ∧ GL gs xs
  | [], gs, off, cs, ys, h, hl, _, _ => by
    simp only [OpnL] at h; subst h
    refine ⟨[], ?_, rfl⟩
    rw [List.drop_eq_nil_of_le (by simp [sumL] at hl; omega)]; trivial
  | f :: fs, [], _, _, _, h, _, _, _ => h.elim
  | f :: fs, g :: gs, off, cs, [], h, hl, hy, _ => by simp at hy
  | f :: fs, g :: gs, off, cs, y :: ys, h, hl, hy, hf => by
    simp only [OpnL] at h
    obtain ⟨rfl, h1, h2⟩ := h
    simp only [sumL] at hl
    obtain ⟨xs, r1, r2⟩ := opn_fields (n := n) (cs := cs) (ys := ys) h2 (by omega) (by simpa using hy) fun i f' e => by
      have := hf (i + 1) f' (by simpa using e); simpa using this
    obtain ⟨zs, q1, q2⟩ := h1 _ _ y (by simpa using hf 0 f rfl)
    refine ⟨zs ++ xs, ?_, zs, xs, rfl, q2, r2⟩
    have : cs.drop f.offset = (cs.drop f.offset).take (P.cellsOf f.type) ++ cs.drop (f.offset + P.cellsOf f.type) := by
      rw [← List.drop_drop, List.take_append_drop]
    rw [this]
    exact q1.append r1
theorem opn_struct {t : TypeId} {fs : Array Field} {gs : List (List V → Prop)} (ht : P.underlying t = some (.struct fs)) (hc : P.cellsOf t = sumL P fs.toList) (h : OpnL enc P W 0 fs.toList gs) : Opn enc P W t (GL gs) := by
  intro fuel cs x hx
  obtain ⟨ys, n, _, _, hl, hlen, hf⟩ := DataW.trod_struct ht hx
  have := opn_fields (n := n) (cs := cs) (ys := ys) h (by rw [hl, hc]; simp) (by simpa using hlen) fun i f e => hf i f (by simpa using e)
  simpa using this

/-- A value of one cell. -/
theorem opn_one {t : TypeId} {v : Value} {d : DataW H'} {p : List MemPlace} {G : V → Prop} (o : Opn enc P W t fun xs => ∃ x, xs = [x] ∧ G x) (hv : v.cells.toList = [v]) (hd : DataW.Trod enc P W 0 (fun _ => true) true t v d p) :
    ∃ x, RelV (phi0 W) x v ∧ G x := by
  obtain ⟨fuel, hf⟩ := hd
  obtain ⟨xs, h1, x, rfl, h2⟩ := o _ _ _ hf
  rw [hv] at h1
  exact ⟨x, relV_of_rz h1.1, h2⟩
theorem opn_agg {t : TypeId} {cs : Array Value} {d : DataW H'} {p : List MemPlace} {G : List V → Prop} (o : Opn enc P W t G) (hd : DataW.Trod enc P W 0 (fun _ => true) true t (.agg cs) d p) :
    ∃ xs, RelV (phi0 W) (.agg xs) (.agg cs) ∧ G xs := by
  obtain ⟨fuel, hf⟩ := hd
  obtain ⟨xs, h1, h2⟩ := o _ _ _ hf
  exact ⟨xs, ⟨cs, rfl, h1.mono fun _ _ => relC_of_rz⟩, h2⟩
theorem okWide_agg {t : TypeId} {v : Value} {r : Reach} {base : Nat} {fs : Array Field} (ht : P.underlying t = some (.struct fs)) (h : Value.okWide P W r base t v) : ∃ cs, v = .agg cs := by
  unfold Value.okWide at h
  rw [ht] at h
  obtain ⟨cs, h, _⟩ := h; exact ⟨cs, h⟩
theorem okWide_cell {t : TypeId} {v : Value} {r : Reach} {base : Nat} (ht : tAgg P t = some false) (h : Value.okWide P W r base t v) : v.cells.toList = [v] := by
  have h : Cell.okWide P W r base t v := by
    unfold Value.okWide at h
    unfold tAgg at ht
    split at h
    · rename_i e; rw [e] at ht; cases ht
    · rename_i e; rw [e] at ht; cases ht
    · exact h
  cases v with
  | agg cs => unfold Cell.okWide at h; split at h <;> simp_all [Cell.ok]
  | tuple cs => unfold Cell.okWide at h; split at h <;> simp_all [Cell.ok]
  | _ => rfl
/-- Elements of one kind, as a list. -/
theorem map_of {α : Type} {f : α → List V} : ∀ {els : List (List V)}, (∀ el ∈ els, ∃ a, el = f a) → ∃ l : List α, els = l.map f
  | [], _ => ⟨[], rfl⟩
  | el :: els, h => by
    obtain ⟨a, e⟩ := h el (by simp)
    obtain ⟨l, e'⟩ := map_of (els := els) fun x hx => h x (by simp [hx])
    exact ⟨a :: l, by simp [e, e']⟩
end

/-- What a law's own walk is for the statement. -/
theorem pure_true {C : Cx} {f : Nat} {args : List V} {W : World} {vs : Array Value} (hn : enters C.P f = true) (hg : ∀ g, C.g g = .any) (c : PureV C f args (.s (.bool true))) (ha : All2 (RelV (phi0 W)) args vs.toList) :
    Calls C.P f vs W fun e W' => e = .returned (.bool true) ∧ Below W.heap.size W W' := by
  have G : RelG C (phi0 W).z := fun g => by rw [hg]; simp [RZ]
  rcases c.calls (fun _ => False) W (phi0 W) vs W G (rel0 W) ha with ⟨_, h⟩ | ⟨v, w', hv, _⟩
  · refine h.mono fun e W' ⟨r, φ', h', p1, p2, p3, p4, p5, p6⟩ => ?_
    subst p5
    obtain ⟨v, rfl, q⟩ := p1
    obtain ⟨rfl, -⟩ := s_rel q
    obtain ⟨F, R⟩ := p2
    exact ⟨rfl, R.kept.below⟩
  · exfalso
    unfold enters at hn
    cases hfn : C.P.funcs[f]? with
    | none => rw [hfn] at hn; cases hn
    | some fn =>
      rw [hfn] at hn
      simp only [Bool.and_eq_true, bne_iff_ne, ne_eq] at hn
      have h1 : ¬ fn.name = "runtime.NumGoroutine" := hn.1
      have h2 : fn.body.isNone = false := by
        cases hb : fn.body with
        | none => rw [hb] at hn; exact absurd hn.2 (by simp)
        | some _ => rfl
      simp only [callFunc, run_program, Sem.run_bind, Result.andThen_ok, hfn] at hv
      simp [h1, h2] at hv
end Go.W
