/- What functions of the program answer, walked on the abstract layer, and closed facts of the program; the conditions stand in each theorem. -/
import Derived.Test.YtpcgnmoogjahbaaG3
import Derived.Test.YtpcgnmoogjahbaaRows
import Derived.WalkKit
import Derived.ProofKit
import Derived.OpenShut
import Derived.ShutString
import Derived.ChangeOld
import Derived.Below
import Derived.SizedLaws
/- part W30 -/
set_option linter.unusedVariables false
set_option linter.unusedSimpArgs false
namespace Go.W
open Go Go.RowKit

/-! ### A function that only reads may be handed what is one's own -/
/-- What it is does not hang on any memory. -/
def Flat (r : V) : Prop := ∀ φ φ' v, RelV φ r v → RelV φ' r v
theorem flat_s (a : Value) : Flat (.s a) := fun φ φ' v h => by obtain ⟨rfl, h1⟩ := s_rel h; exact mk_s h1
theorem all2_in {α β : Type} {R R' : α → β → Prop} : ∀ {xs : List α} {ys : List β}, (∀ x ∈ xs, ∀ y, R x y → R' x y) → All2 R xs ys → All2 R' xs ys
  | [], [], _, _ => trivial
  | x :: xs, y :: ys, h, a => ⟨h x (by simp) y a.1, all2_in (fun x' hx => h x' (by simp [hx])) a.2⟩
  | [], _ :: _, _, a => a.elim
  | _ :: _, [], _, a => a.elim
theorem flat_two (a b : Value) : Flat (.tup [.s a, .s b]) := fun φ φ' v h => by
  obtain ⟨l, rfl, r⟩ := h
  refine ⟨l, rfl, all2_in (fun x hx y q => ?_) r⟩
  simp only [List.mem_cons, List.not_mem_nil, or_false] at hx
  rcases hx with rfl | rfl
  · exact flat_s _ φ φ' y q
  · exact flat_s _ φ φ' y q
section
variable {C : Cx}
theorem PureV.borrow {f : Nat} {args args' : List V} {r : V} (p : PureV C f args r) (hr : Flat r) (d : Nat) (H : H) (ha : args = args'.map (Go.W.frz 0 d H)) : CallsV C f args' H fun res h' => res = .ret r ∧ h' = H := by
  intro S w0 φ vs w G R hargs
  obtain ⟨φ', R', E', _, m'⟩ := Arr.frz (n0 := 0) d S w0 φ w R (Nat.zero_le _)
  have R0 : Rel (fun _ => False) w ⟨fun _ => none, φ'.z⟩ [] w := by
    obtain ⟨F', R'⟩ := R'
    exact ⟨fun _ => [], Kept.refl _ _, fun _ _ => rfl, R'.zok, fun _ _ _ h => by simp at h, fun _ _ h => by simp at h, fun _ => List.nodup_nil, fun _ _ _ h => by simp at h, fun _ _ => rfl, fun b B h => by simp at h⟩
  have hargs' : All2 (RelV ⟨fun _ => none, φ'.z⟩) args vs.toList := by
    subst ha
    refine all2_map.2 (hargs.mono fun x v rv => ?_)
    have := m' x (Go.W.frz 0 d H x) v (.inr rfl) rv
    -- what is frozen refers to no block
    have hc := (frz_closed (fun b => H.length + b) 0 H d x).2.2.2
    rw [← hc] at this
    have hrn : Rn (fun b => H.length + b) φ' ⟨fun _ => none, φ'.z⟩ := ⟨fun b q e => by
      obtain ⟨F', R'⟩ := R'
      have hd := R'.dom (H.length + b) (by simp [killFrom])
      rw [hd] at e; exact absurd e (by simp), FLe.refl _⟩
    exact hrn.v this
  refine (p.calls (fun _ => False) w ⟨fun _ => none, φ'.z⟩ vs w (G.mono E'.z) R0 hargs').mono fun e w1 ⟨res, φ1, h1, q1, q2, q3, q4, q5, q6⟩ => ?_
  subst q5; subst q6
  obtain ⟨v, rfl, rv⟩ := q1
  obtain ⟨F1, R1⟩ := q2
  have gr : w.grownBy w1 none := ⟨R1.kept.os, R1.kept.tape, R1.kept.output, R1.kept.size, fun k hk _ => R1.kept.block k hk id⟩
  exact ⟨.ret r, φ, H, ⟨v, rfl, hr _ _ _ rv⟩, R.grow gr, ExtN.refl .., Nat.le_refl _, rfl, rfl⟩

variable {N n0 m : Nat} {Q : QT} {k : List It} {τ : Tau} {h : H}
theorem CallThen.borrow {f : Nat} {args args' : List V} {r : V} {d : Option Nat} (p : PureV C f args r) (hr : Flat r) (dd : Nat) (ha : args = args'.map (Go.W.frz 0 dd h)) (m : Nat) (hrun : Run C N n0 m Q k (upo d r τ) h) : CallThen C N n0 Q f args' d k τ h :=
  CallThen.of m (p.borrow hr dd h ha) fun res h' ⟨e1, e2⟩ => by subst e1; subst e2; exact hrun
theorem DCall.borrow {h0 : H} {exc : List Nat} {ops : Array Oper} {fuel : Nat} {listed : Array Bool} {f : Nat} {args args' : List V} {r : V} {d : Option Nat} {nw : List Nat} (p : PureV C f args r) (hr : Flat r) (dd : Nat) (ha : args = args'.map (Go.W.frz 0 dd (hide h0 exc h))) (m : Nat) (td : TD) (hd : drawOk ops [] listed td = true)
    (hrun : RunD C N n0 m Q k h0 exc ops fuel listed td (addN d nw) (upo d r τ) h) : DCall C N n0 Q h0 exc ops fuel listed k f args' d nw τ h :=
  DCall.of m td hd (p.borrow hr dd _ ha) fun res h' ⟨e1, e2⟩ => by
    subst e1; subst e2
    show RunD C N n0 m Q k h0 exc ops fuel listed td (addN d nw) (upo d r τ) (unmask h0.length exc 0 h (mask h0.length exc 0 h))
    rw [show_hide]; exact hrun

/-- A function on two texts that leaves the world alone. -/
theorem PureV.of_strings {f : Nat} {a b : ByteArray} {v : Value} (hv : one v = true) (he : enters C.P f = true) (hc : ∀ w, Calls C.P f #[.string a, .string b] w fun e w' => e = .returned v ∧ w' = w) : PureV C f [.s (.string a), .s (.string b)] (.s v) := by
  refine ⟨fun _ => rfl, fun _ => rfl, fun S w0 φ vs w G R ha => .inl ⟨he, ?_⟩⟩
  obtain ⟨l⟩ := vs
  match l, ha with
  | [x, y], ha =>
    obtain ⟨r1, r2, _⟩ := ha
    obtain ⟨rfl, -⟩ := s_rel r1
    obtain ⟨rfl, -⟩ := s_rel r2
    refine (hc w).mono fun e w' ⟨p1, p2⟩ => ?_
    subst p1 p2
    exact ⟨.ret (.s v), φ, [], ⟨v, rfl, mk_s hv⟩, R, ExtN.refl .., Nat.le_refl _, rfl, rfl⟩
end
end Go.W
/- part W31 -/
set_option linter.unusedVariables false
set_option linter.unusedSimpArgs false
namespace Go.W
open Go Go.RowKit

/-! ### Functions that take a slice of one's own and answer one -/
section
variable {C : Cx} {h : H} {n0 : Nat}
/-- A block under a new name. -/
theorem Arr.rename {b : Nat} {B : Blk} (hb : h[b]? = some B) (hl : B.live = true) : Arr n0 h (h.set b Blk.dead ++ [B]) fun x x' => x' = x ∨ ∃ i l c, x = .sl b i l c ∧ x' = .sl h.length i l c := by
  intro S w0 φ w ⟨F, R⟩ hn
  have hblt : b < h.length := (List.getElem?_eq_some_iff.1 hb).1
  have hB := R.blk b B hb
  have hB' := hB
  unfold BlkRel at hB
  rw [if_pos hl] at hB
  obtain ⟨p, k1, k2, k3, k4⟩ := hB
  have he : Ext φ (phiPush φ h.length (p, B.n)) := phiPush_ext (R.dom _ (Nat.le_refl _))
  refine ⟨phiPush φ h.length (p, B.n), ⟨_, R.step (w' := w) (bo := b) (b0 := h.length) (B0 := B) (fp0 := F b) he rfl R.kept (Nat.le_refl _) (by simp) (by simp) ?_ (fun _ _ _ => rfl) (.inr (Nat.le_refl _)) (by simp) ?_ ?_ (fun k hk => .inl hk) (fun k hk => (R.mine b k hk).2) (R.nodup b) ?_⟩,
    phiPush_extN (Nat.le_trans hn (Nat.le_refl _)), by simp; omega, fun x x' v hm r => ?_⟩
  · intro j hj
    simp at hj
    rw [phiPush_old (by omega)]; exact R.dom j (by omega)
  · intro _ D hD
    rw [List.getElem?_append_left (by simpa using hblt)] at hD
    simp [hblt] at hD; subst hD; rfl
  · intro j h1 h2
    by_cases q : j < h.length
    · rw [List.getElem?_append_left (by simpa using q), List.getElem?_set_ne (Ne.symm h2)]
    · rw [List.getElem?_eq_none (by simp; omega), List.getElem?_eq_none (by omega)]
  · unfold BlkRel; rw [if_pos hl]
    refine ⟨p, phiPush_new, k2, k3, ?_⟩
    cases p with
    | none => exact k4
    | some k =>
      obtain ⟨c, ty, fq, q1, q2, q3, q4, q5⟩ := k4
      exact ⟨c, ty, fq, q1, q2, q3, q4.mono fun x v f _ d => d.mono he fun _ _ => rfl, q5⟩
  · rcases hm with rfl | ⟨i, l, c, rfl, rfl⟩
    · exact r.ext he
    · obtain ⟨p', n', q1, q2⟩ : ∃ p' n', φ.m b = some (p', n') ∧ _ := r
      rw [k1] at q1; obtain ⟨rfl, rfl⟩ := Prod.mk.inj (Option.some.inj q1)
      exact ⟨p, B.n, phiPush_new, q2⟩

/-- What a block holds behind a place is forgotten. -/
theorem Arr.shrink {b n cap j : Nat} {els : List (List V)} (hb : h[b]? = some ⟨els, n, cap, true⟩) : Arr n0 h (h.set b ⟨els.take j, n, cap, true⟩) fun x x' => x' = x := by
  intro S w0 φ w ⟨F, R⟩ hn
  have hblt : b < h.length := (List.getElem?_eq_some_iff.1 hb).1
  obtain ⟨p, k1, k2, k3, k4⟩ := R.place hb rfl
  simp only at k1 k2 k3
  have key : ∃ fp0, (∀ k ∈ fp0, k ∈ F b) ∧ fp0.Nodup ∧ BlkRel φ w b ⟨els.take j, n, cap, true⟩ fp0 := by
    cases p with
    | none =>
      obtain ⟨e1, e2, e3⟩ := k4
      simp only at e1 e2
      refine ⟨[], by simp, List.nodup_nil, ?_⟩
      unfold BlkRel; rw [if_pos rfl]
      exact ⟨none, k1, by simp [e1], by simp [e1], by simp [e1], e2, rfl⟩
    | some k =>
      obtain ⟨c, ty, fq, q1, q2, q3, q4, q5⟩ := k4
      simp only at q2 q3 q4
      obtain ⟨f1, f2, e, ht⟩ := q4.take j
      have hnd := R.nodup b
      rw [q5, e] at hnd
      refine ⟨k :: f1, fun x hx => by rw [q5, e]; simp at hx ⊢; rcases hx with q | q <;> simp [q], ?_, ?_⟩
      · simp only [List.nodup_cons, List.nodup_append, List.mem_append] at hnd ⊢
        exact ⟨fun q => hnd.1 (.inl q), hnd.2.1⟩
      · unfold BlkRel; rw [if_pos rfl]
        exact ⟨some k, k1, fun el he => k2 el (List.mem_of_mem_take he), by simp only [List.length_take]; omega, c, ty, f1, q1, q2, by simp only [List.length_take]; omega, ht, rfl⟩
  obtain ⟨fp0, g1, g2, g3⟩ := key
  refine ⟨φ, ⟨_, R.step (w' := w) (bo := b) (b0 := b) (fp0 := fp0) (Ext.refl φ) rfl R.kept (Nat.le_refl _) (by simpa using hblt) (by simp) (fun i hi => R.dom i (by simpa using hi)) (fun _ _ _ => rfl) (.inl rfl) (by simp [hblt])
    (fun q => absurd rfl q) (fun i h1 h2 => by rw [List.getElem?_set_ne (Ne.symm h1)]) (fun k hk => .inl (g1 k hk)) (fun k hk => (R.mine b k (g1 k hk)).2) g2 g3⟩, ExtN.refl .., by simpa using hn, fun x x' v hm r => by subst hm; exact r⟩

theorem Up.own {R : Res → H → Prop} {b len cap n : Nat} {els : List (List V)} (hb : h[b]? = some ⟨els, n, cap, true⟩) (hn : nrs els = true) (hr : R (.ret (.sl 1 0 len cap)) [Blk.dead, ⟨els, n, cap, true⟩]) : Up 1 R (.ret (.sl b 0 len cap)) h := by
  have hlt : b < h.length := (List.getElem?_eq_some_iff.1 hb).1
  have hlen : (h.set b Blk.dead ++ [(⟨els, n, cap, true⟩ : Blk)]).length = h.length + 1 := by simp
  have hg : gcOk [0, h.length] (h.set b Blk.dead ++ [⟨els, n, cap, true⟩]) [Blk.dead, ⟨els, n, cap, true⟩] 1 := by
    have g4 : ∀ i : Nat, i < 1 → ([0, h.length] : List Nat)[i]? = some i := by
      intro i hi
      obtain rfl : i = 0 := by omega
      rfl
    refine ⟨rfl, ?_, by simp, g4, fun i B' e hl => ?_⟩
    · simp; omega
    · match i, e with
      | 0, e => simp at e; subst e; cases hl
      | 1, e =>
        simp at e; subst e
        refine ⟨⟨els, n, cap, true⟩, ?_, (nrs_rn _ hn).symm⟩
        rw [show nm [0, h.length] (h.set b Blk.dead ++ [(⟨els, n, cap, true⟩ : Blk)]).length 1 = h.length from rfl, List.getElem?_append_right (by simp)]; simp
      | i + 2, e => simp at e
  refine ⟨.sl 1 0 len cap, _, _, (Arr.rename (n0 := 1) hb rfl).trans (Arr.gc hg), ⟨.sl h.length 0 len cap, .inr ⟨0, len, cap, rfl, rfl⟩, .inr rfl⟩, hr⟩

theorem Up.ownTake {R : Res → H → Prop} {b len cap n j : Nat} {els post : List (List V)} (hb : h[b]? = some ⟨els, n, cap, true⟩) (he : els.take j = post) (hn : nrs post = true) (hr : R (.ret (.sl 1 0 len cap)) [Blk.dead, ⟨post, n, cap, true⟩]) : Up 1 R (.ret (.sl b 0 len cap)) h := by
  have hlt : b < h.length := (List.getElem?_eq_some_iff.1 hb).1
  subst he
  obtain ⟨v', h', M, ar, hm, hR⟩ := Up.own (h := h.set b ⟨els.take j, n, cap, true⟩) (b := b) (by simp [hlt]) hn hr
  exact ⟨v', h', _, (Arr.shrink (n0 := 1) (j := j) hb).trans ar, ⟨_, rfl, hm⟩, hR⟩

/-- Two blocks were handed over: the first is given up, the second stays. -/
theorem Up.own2 {R : Res → H → Prop} {b len cap n j : Nat} {els post : List (List V)} {B1 : Blk} (hb : h[b]? = some ⟨els, n, cap, true⟩) (hb1 : b ≠ 1) (h1 : h[1]? = some B1) (hn1 : nrs B1.els = true) (he : els.take j = post) (hn : nrs post = true)
    (hr : R (.ret (.sl 2 0 len cap)) [Blk.dead, B1, ⟨post, n, cap, true⟩]) : Up 2 R (.ret (.sl b 0 len cap)) h := by
  have hlt : b < h.length := (List.getElem?_eq_some_iff.1 hb).1
  have hlt1 : 1 < h.length := (List.getElem?_eq_some_iff.1 h1).1
  subst he
  have e1 : (h.set b ⟨els.take j, n, cap, true⟩)[b]? = some ⟨els.take j, n, cap, true⟩ := by simp [hlt]
  have hg : gcOk [0, 1, h.length] ((h.set b ⟨els.take j, n, cap, true⟩).set b Blk.dead ++ [⟨els.take j, n, cap, true⟩]) [Blk.dead, B1, ⟨els.take j, n, cap, true⟩] 2 := by
    have g4 : ∀ i : Nat, i < 2 → ([0, 1, h.length] : List Nat)[i]? = some i := by
      intro i hi
      match i, hi with
      | 0, _ => rfl
      | 1, _ => rfl
    refine ⟨rfl, ?_, by simp, g4, fun i B' e hl => ?_⟩
    · simp; omega
    · match i, e with
      | 0, e => simp at e; subst e; cases hl
      | 1, e =>
        simp at e; subst e
        refine ⟨B1, ?_, (nrs_rn _ hn1).symm⟩
        show ((h.set b ⟨els.take j, n, cap, true⟩).set b Blk.dead ++ [_])[1]? = _
        rw [List.getElem?_append_left (by simpa using hlt1), List.getElem?_set_ne hb1, List.getElem?_set_ne hb1]; exact h1
      | 2, e =>
        simp at e; subst e
        refine ⟨⟨els.take j, n, cap, true⟩, ?_, (nrs_rn _ hn).symm⟩
        show ((h.set b ⟨els.take j, n, cap, true⟩).set b Blk.dead ++ [_])[h.length]? = _
        rw [List.getElem?_append_right (by simp)]; simp
      | i + 3, e => simp at e
  have hl : (h.set b ⟨els.take j, n, cap, true⟩).length = h.length := by simp
  refine ⟨.sl 2 0 len cap, _, _, ((Arr.shrink (n0 := 2) (j := j) hb).trans (Arr.rename (n0 := 2) e1 rfl)).trans (Arr.gc hg), ⟨.sl h.length 0 len cap, ⟨.sl b 0 len cap, rfl, .inr ⟨0, len, cap, rfl, by rw [hl]⟩⟩, .inr rfl⟩, hr⟩

/-- f takes a slice of one's own, and what it answers is one. -/
structure OwnV (C : Cx) (f : Nat) (n : Nat) (els : List (List V)) (rest : List V) (post : List (List V)) : Prop where
  ne : nrs els = true
  np : nrs post = true
  cr : ∀ ρ, rest.map (rnV ρ) = rest
  calls : ∀ cap, els.length ≤ cap → CallsV C f (.sl 0 0 els.length cap :: rest) [⟨els, n, cap, true⟩] fun res h' => ∃ cap', post.length ≤ cap' ∧ res = .ret (.sl 1 0 post.length cap') ∧ h' = [Blk.dead, ⟨post, n, cap', true⟩]

theorem OwnV.at_ {f n b cap : Nat} {els post : List (List V)} {rest : List V} (p : OwnV C f n els rest post) (H : H) (hb : H[b]? = some ⟨els, n, cap, true⟩) (hc : els.length ≤ cap) :
    CallsV C f (.sl b 0 els.length cap :: rest) H fun res h' => ∃ cap', post.length ≤ cap' ∧ res = .ret (.sl H.length 0 post.length cap') ∧ h' = H.set b Blk.dead ++ [⟨post, n, cap', true⟩] := by
  have hlt : b < H.length := (List.getElem?_eq_some_iff.1 hb).1
  have := CallsV.frame (p.calls cap hc) [b] H rfl (by simp) (fun i B e => by
    match i, e with
    | 0, e => simp at e; subst e; exact ⟨b, rfl, by rw [nrs_rn _ p.ne]; exact hb⟩
    | i + 1, e => simp at e)
  have e0 : emb [b] H.length 0 = b := rfl
  have e1 : emb [b] H.length 1 = H.length := by simp [emb]
  have ea : (V.sl 0 0 els.length cap :: rest).map (rnV (emb [b] H.length)) = .sl b 0 els.length cap :: rest := by
    rw [List.map_cons, p.cr]; simp only [rnV, rnQ, rnC, rnP, e0]
  rw [ea] at this
  refine this.mono fun res h' ⟨r, h1, ⟨cap', q1, q2, q3⟩, q4, q5⟩ => ⟨cap', q1, ?_, ?_⟩
  · subst q2; rw [q4]; simp only [rnRes, rnV, rnQ, rnC, rnP, e1]
  · subst q3
    rw [q5]
    simp only [List.map_cons, List.map_nil, setAll]
    rw [nrs_rn _ (B := ⟨post, n, cap', true⟩) p.np]
    rfl

variable {N m : Nat} {Q : QT} {k : List It} {τ : Tau}
theorem CallThen.own {f n b cap : Nat} {els post : List (List V)} {rest : List V} {d : Option Nat} (p : OwnV C f n els rest post) (hb : h[b]? = some ⟨els, n, cap, true⟩) (hc : els.length ≤ cap) (m : Nat)
    (hr : ∀ cap', post.length ≤ cap' → Run C N n0 m Q k (upo d (.sl h.length 0 post.length cap') τ) (h.set b Blk.dead ++ [⟨post, n, cap', true⟩])) : CallThen C N n0 Q f (.sl b 0 els.length cap :: rest) d k τ h :=
  CallThen.of m (p.at_ h hb hc) fun res h' ⟨cap', e1, e2, e3⟩ => by subst e2; subst e3; exact hr cap' e1
theorem DCall.own {h0 : H} {exc : List Nat} {ops : Array Oper} {fuel : Nat} {listed : Array Bool} {f n b cap : Nat} {els post : List (List V)} {rest : List V} {d : Option Nat} {nw : List Nat} (p : OwnV C f n els rest post) (hb : (hide h0 exc h)[b]? = some ⟨els, n, cap, true⟩) (hc : els.length ≤ cap) (m : Nat) (td : TD) (hd : drawOk ops [] listed td = true)
    (hr : ∀ cap', post.length ≤ cap' → RunD C N n0 m Q k h0 exc ops fuel listed td (addN d nw) (upo d (.sl (hide h0 exc h).length 0 post.length cap') τ) (show_ h0 exc h ((hide h0 exc h).set b Blk.dead ++ [⟨post, n, cap', true⟩]))) : DCall C N n0 Q h0 exc ops fuel listed k f (.sl b 0 els.length cap :: rest) d nw τ h :=
  DCall.of m td hd (p.at_ _ hb hc) fun res h' ⟨cap', e1, e2, e3⟩ => by subst e2; subst e3; exact hr cap' e1
end
end Go.W
/- part W32 -/
set_option linter.unusedVariables false
set_option linter.unusedSimpArgs false
namespace Go.W
open Go Go.RowKit

/-! ### An empty slice is a block of one's own; a new slice is answered -/
section
variable {C : Cx} {h : H} {n0 : Nat}
theorem Arr.nil (n : Nat) : Arr n0 h (h ++ [⟨[], n, 0, true⟩]) fun x x' => x' = x ∨ (x = .z ∧ x' = .sl h.length 0 0 0) := by
  intro S w0 φ w ⟨F, R⟩ hn
  have he : Ext φ (phiPush φ h.length (none, n)) := phiPush_ext (R.dom _ (Nat.le_refl _))
  refine ⟨phiPush φ h.length (none, n), ⟨_, R.step (w' := w) (bo := h.length) (b0 := h.length) (B0 := ⟨[], n, 0, true⟩) (fp0 := []) he rfl R.kept (Nat.le_refl _) (by simp) (by simp) ?_ (fun _ _ _ => rfl) (.inl rfl) (by simp) (fun q => absurd rfl q) ?_ (fun k hk => by simp at hk) (fun k hk => by simp at hk) List.nodup_nil ?_⟩,
    phiPush_extN (Nat.le_trans hn (Nat.le_refl _)), by simp; omega, fun x x' v hm r => ?_⟩
  · intro j hj
    simp at hj
    rw [phiPush_old (by omega)]; exact R.dom j (by omega)
  · intro j h1 h2
    by_cases q : j < h.length
    · rw [List.getElem?_append_left q]
    · rw [List.getElem?_eq_none (by simp; omega), List.getElem?_eq_none (by omega)]
  · unfold BlkRel; rw [if_pos rfl]
    exact ⟨none, phiPush_new, by simp, by simp, rfl, rfl, rfl⟩
  · rcases hm with rfl | ⟨rfl, rfl⟩
    · exact r.ext he
    · refine ⟨none, n, phiPush_new, Nat.le_refl _, ?_, rfl, rfl, rfl⟩
      exact r
theorem Up.nil {R : Res → H → Prop} (n : Nat) (hr : R (.ret (.sl 0 0 0 0)) [⟨[], n, 0, true⟩]) : Up 0 R (.ret .z) h := by
  have hg : gcOk [h.length] (h ++ [⟨[], n, 0, true⟩]) [⟨[], n, 0, true⟩] 0 := by
    refine ⟨rfl, by simp, by simp, fun i hi => by omega, fun i B' e hl => ?_⟩
    match i, e with
    | 0, e => simp at e; subst e; exact ⟨⟨[], n, 0, true⟩, by show (h ++ [_])[h.length]? = _; simp, rfl⟩
    | i + 1, e => simp at e
  exact ⟨.sl 0 0 0 0, _, _, (Arr.nil (n0 := 0) n).trans (Arr.gc hg), ⟨.sl h.length 0 0 0, .inr ⟨rfl, rfl⟩, .inr rfl⟩, hr⟩
theorem Up.fresh {R : Res → H → Prop} {b len cap n : Nat} {els : List (List V)} (hb : h[b]? = some ⟨els, n, cap, true⟩) (hn : nrs els = true) (hr : R (.ret (.sl 0 0 len cap)) [⟨els, n, cap, true⟩]) : Up 0 R (.ret (.sl b 0 len cap)) h := by
  have hlt : b < h.length := (List.getElem?_eq_some_iff.1 hb).1
  have hg : gcOk [b] h [⟨els, n, cap, true⟩] 0 := by
    refine ⟨rfl, by simp, by simp, fun i hi => by omega, fun i B' e hl => ?_⟩
    match i, e with
    | 0, e => simp at e; subst e; exact ⟨⟨els, n, cap, true⟩, hb, (nrs_rn _ hn).symm⟩
    | i + 1, e => simp at e
  exact ⟨.sl 0 0 len cap, _, _, Arr.gc hg, .inr rfl, hr⟩

/-- f takes frozen things and answers a slice of one's own. -/
def NewV (C : Cx) (f : Nat) (args : List V) (n : Nat) (post : List (List V)) : Prop :=
  CallsV C f args [] fun res h' => ∃ cap, post.length ≤ cap ∧ res = .ret (.sl 0 0 post.length cap) ∧ h' = [⟨post, n, cap, true⟩]
theorem NewV.at_ {f n : Nat} {args : List V} {post : List (List V)} (p : NewV C f args n post) (hp : nrs post = true) (hc : ∀ ρ, args.map (rnV ρ) = args) (H : H) :
    CallsV C f args H fun res h' => ∃ cap, post.length ≤ cap ∧ res = .ret (.sl H.length 0 post.length cap) ∧ h' = H ++ [⟨post, n, cap, true⟩] := by
  have := CallsV.frame p [] H rfl (by simp) (fun i B e => by simp at e)
  have e1 : emb [] H.length 0 = H.length := by simp [emb]
  rw [hc] at this
  refine this.mono fun res h' ⟨r, h1, ⟨cap', q1, q2, q3⟩, q4, q5⟩ => ⟨cap', q1, ?_, ?_⟩
  · subst q2; rw [q4]; simp only [rnRes, rnV, rnQ, rnC, rnP, e1]
  · subst q3
    rw [q5]
    simp only [List.map_cons, List.map_nil, setAll]
    rw [nrs_rn _ (B := ⟨post, n, cap', true⟩) hp]
variable {N m : Nat} {Q : QT} {k : List It} {τ : Tau}
theorem CallThen.new {f n : Nat} {args : List V} {post : List (List V)} {d : Option Nat} (p : NewV C f args n post) (hp : nrs post = true) (hc : ∀ ρ, args.map (rnV ρ) = args) (m : Nat)
    (hr : ∀ cap, post.length ≤ cap → Run C N n0 m Q k (upo d (.sl h.length 0 post.length cap) τ) (h ++ [⟨post, n, cap, true⟩])) : CallThen C N n0 Q f args d k τ h :=
  CallThen.of m (p.at_ hp hc h) fun res h' ⟨cap', e1, e2, e3⟩ => by subst e2; subst e3; exact hr cap' e1
theorem DCall.new {h0 : H} {exc : List Nat} {ops : Array Oper} {fuel : Nat} {listed : Array Bool} {f n : Nat} {args : List V} {post : List (List V)} {d : Option Nat} {nw : List Nat} (p : NewV C f args n post) (hp : nrs post = true) (hc : ∀ ρ, args.map (rnV ρ) = args) (m : Nat) (td : TD) (hd : drawOk ops [] listed td = true)
    (hr : ∀ cap, post.length ≤ cap → RunD C N n0 m Q k h0 exc ops fuel listed td (addN d nw) (upo d (.sl (hide h0 exc h).length 0 post.length cap) τ) (show_ h0 exc h ((hide h0 exc h) ++ [⟨post, n, cap, true⟩]))) : DCall C N n0 Q h0 exc ops fuel listed k f args d nw τ h :=
  DCall.of m td hd (p.at_ hp hc _) fun res h' ⟨cap', e1, e2, e3⟩ => by subst e2; subst e3; exact hr cap' e1
end
end Go.W
/- part W33 -/
set_option linter.unusedVariables false
set_option linter.unusedSimpArgs false
namespace Go.W
open Go Go.RowKit

/-! ### A function that only reads and answers a new slice of plain values may be handed what is one's own -/
def plain : V → Bool
  | .s _ => true
  | _ => false
def plains (els : List (List V)) : Bool := els.all fun el => el.all plain
theorem ls_plain {φ φ' : Phi} {w w' : World} : ∀ {el : List V} {vs : List Value} {fp : Fp}, el.all plain = true → Ls (Dc φ w) el vs fp → Ls (Dc φ' w') el vs []
  | [], vs, fp, _, h => by simp only [Ls]
  | x :: xs, vs, fp, hp, h => by
    simp only [Ls] at *
    obtain ⟨v, r, f1, f2, e1, e2, h1, h2⟩ := h
    simp only [List.all_cons, Bool.and_eq_true] at hp
    refine ⟨v, r, [], [], e1, rfl, ?_, ls_plain hp.2 h2⟩
    cases x with
    | s a =>
      refine .inl ⟨?_, rfl⟩
      rcases h1 with ⟨q, _⟩ | q
      · simp only [RelC, RelP, RZ] at q ⊢; exact q
      · simp only [T, RZ] at q; exact q.1
    | _ => simp [plain] at hp
theorem lss_plain {φ φ' : Phi} {w w' : World} {n : Nat} : ∀ {els : List (List V)} {vs : List Value} {fp : Fp}, plains els = true → Lss (Dc φ w) n els vs fp → Lss (Dc φ' w') n els vs []
  | [], vs, fp, _, h => by simp only [Lss]
  | el :: els, vs, fp, hp, h => by
    simp only [Lss] at *
    obtain ⟨h0, f1, f2, e, h1, h2⟩ := h
    simp only [plains, List.all_cons, Bool.and_eq_true] at hp
    exact ⟨h0, [], [], rfl, ls_plain hp.1 h1, lss_plain (by simpa [plains] using hp.2) h2⟩
section
variable {C : Cx}
theorem NewV.borrow {f n : Nat} {args args' : List V} {post : List (List V)} (p : NewV C f args n post) (hr : plains post = true) (d : Nat) (H : H) (ha : args = args'.map (Go.W.frz 0 d H)) :
    CallsV C f args' H fun res h' => ∃ cap, post.length ≤ cap ∧ res = .ret (.sl H.length 0 post.length cap) ∧ h' = H ++ [⟨post, n, cap, true⟩] := by
  intro S w0 φ vs w G R hargs
  obtain ⟨φ', R', E', _, m'⟩ := Arr.frz (n0 := 0) d S w0 φ w R (Nat.zero_le _)
  have R0 : Rel (fun _ => False) w ⟨fun _ => none, φ'.z⟩ [] w := by
    obtain ⟨F', R'⟩ := R'
    exact ⟨fun _ => [], Kept.refl _ _, fun _ _ => rfl, R'.zok, fun _ _ _ h => by simp at h, fun _ _ h => by simp at h, fun _ => List.nodup_nil, fun _ _ _ h => by simp at h, fun _ _ => rfl, fun b B h => by simp at h⟩
  have hargs' : All2 (RelV ⟨fun _ => none, φ'.z⟩) args vs.toList := by
    subst ha
    refine all2_map.2 (hargs.mono fun x v rv => ?_)
    have := m' x (Go.W.frz 0 d H x) v (.inr rfl) rv
    have hc := (frz_closed (fun b => H.length + b) 0 H d x).2.2.2
    rw [← hc] at this
    have hrn : Rn (fun b => H.length + b) φ' ⟨fun _ => none, φ'.z⟩ := ⟨fun b q e => by
      obtain ⟨F', R'⟩ := R'
      have hd := R'.dom (H.length + b) (by simp [killFrom])
      rw [hd] at e; exact absurd e (by simp), FLe.refl _⟩
    exact hrn.v this
  refine (p (fun _ => False) w ⟨fun _ => none, φ'.z⟩ vs w (G.mono E'.z) R0 hargs').mono fun e w1 ⟨res, φ1, h1, q1, q2, q3, q4, cap, q5, q6, q7⟩ => ?_
  subst q6; subst q7
  obtain ⟨v, rfl, rv⟩ := q1
  obtain ⟨F1, R1⟩ := q2
  obtain ⟨F, R⟩ := R
  have gr : w.grownBy w1 none := ⟨R1.kept.os, R1.kept.tape, R1.kept.output, R1.kept.size, fun k hk _ => R1.kept.block k hk id⟩
  obtain ⟨p1, n1, k1, k3⟩ := sl_rel rv
  have kle := sl_le rv
  obtain ⟨p2, g1, g2, g3, g4⟩ := R1.place (b := 0) (B := ⟨post, n, cap, true⟩) rfl rfl
  simp only at g1 g2 g3
  rw [k1] at g1; obtain ⟨rfl, rfl⟩ := Prod.mk.inj (Option.some.inj g1)
  cases p1 with
  | none =>
    obtain ⟨e1, e2, e3⟩ := g4
    simp only at e1 e2
    subst e1; subst e2
    refine ⟨.ret (.sl H.length 0 0 0), phiPush φ H.length (none, n1), H ++ [⟨[], n1, 0, true⟩], ⟨v, rfl, none, n1, phiPush_new, Nat.le_refl _, ?_⟩, (R.grow gr).allocNil n1, phiPush_extN (Nat.le_refl _), by simp, 0, Nat.le_refl _, rfl, rfl⟩
    exact k3
  | some k =>
    obtain ⟨c, ty, fq, r1, r2, r3, r4, r5⟩ := g4
    simp only at r2 r3 r4
    have hk : w.heap.size ≤ k := by
      rcases (R1.mine 0 k (by rw [r5]; simp)).1 with q | q
      · exact q.elim
      · exact q
    exact ⟨.ret (.sl H.length 0 post.length cap), phiPush φ H.length (some k, n1), H ++ [⟨post, n1, cap, true⟩], ⟨v, rfl, some k, n1, phiPush_new, kle, k3⟩, R.alloc gr hk r1 r2 r3 g3 g2 (lss_plain hr r4), phiPush_extN (Nat.le_refl _), by simp, cap, q5, rfl, rfl⟩
variable {N n0 m : Nat} {Q : QT} {k : List It} {τ : Tau} {h : H}
theorem CallThen.newB {f n : Nat} {args args' : List V} {post : List (List V)} {d : Option Nat} (p : NewV C f args n post) (hr : plains post = true) (dd : Nat) (ha : args = args'.map (Go.W.frz 0 dd h)) (m : Nat)
    (hrun : ∀ cap, post.length ≤ cap → Run C N n0 m Q k (upo d (.sl h.length 0 post.length cap) τ) (h ++ [⟨post, n, cap, true⟩])) : CallThen C N n0 Q f args' d k τ h :=
  CallThen.of m (p.borrow hr dd h ha) fun res h' ⟨cap', e1, e2, e3⟩ => by subst e2; subst e3; exact hrun cap' e1
theorem DCall.newB {h0 : H} {exc : List Nat} {ops : Array Oper} {fuel : Nat} {listed : Array Bool} {f n : Nat} {args args' : List V} {post : List (List V)} {d : Option Nat} {nw : List Nat} (p : NewV C f args n post) (hr : plains post = true) (dd : Nat) (ha : args = args'.map (Go.W.frz 0 dd (hide h0 exc h))) (m : Nat) (td : TD) (hd : drawOk ops [] listed td = true)
    (hrun : ∀ cap, post.length ≤ cap → RunD C N n0 m Q k h0 exc ops fuel listed td (addN d nw) (upo d (.sl (hide h0 exc h).length 0 post.length cap) τ) (show_ h0 exc h ((hide h0 exc h) ++ [⟨post, n, cap, true⟩]))) : DCall C N n0 Q h0 exc ops fuel listed k f args' d nw τ h :=
  DCall.of m td hd (p.borrow hr dd _ ha) fun res h' ⟨cap', e1, e2, e3⟩ => by subst e2; subst e3; exact hrun cap' e1
theorem plains_map {α : Type} {f : α → List V} (hf : ∀ a, (f a).all plain = true) (l : List α) : plains (l.map f) = true := by
  simp only [plains, List.all_map, List.all_eq_true]; exact fun a _ => hf a
/-! ### An answer may be told with less -/
def WkC (r r' : V) : Prop := ∀ φ v, RelC φ r v → RelC φ r' v
def WkQ (r r' : V) : Prop := ∀ φ v, RelQ φ r v → RelQ φ r' v
def WkV (r r' : V) : Prop := ∀ φ v, RelV φ r v → RelV φ r' v
theorem wkC_refl (r : V) : WkC r r := fun _ _ h => h
theorem wkQ_refl (r : V) : WkQ r r := fun _ _ h => h
theorem wkC_z (n : Nat) : WkC .z (.f n []) := fun φ v h => by
  simp only [RelC, RelP, RZ] at h ⊢
  exact .inl ⟨trivial, h⟩
theorem wkQ_z (n : Nat) : WkQ .z (.f n []) := fun φ v h => wkC_z n φ v h
theorem wkV_z (n : Nat) : WkV .z (.f n []) := fun φ v h => wkC_z n φ v h
theorem all2_wk {R R' : V → Value → Prop} : ∀ {xs xs' : List V} {ys : List Value}, All2 (fun x x' => ∀ y, R x y → R' x' y) xs xs' → All2 R xs ys → All2 R' xs' ys
  | [], [], [], _, _ => trivial
  | x :: xs, x' :: xs', y :: ys, h, a => ⟨h.1 y a.1, all2_wk h.2 a.2⟩
  | [], _ :: _, _, h, _ => h.elim
  | _ :: _, [], _, h, _ => h.elim
  | [], [], _ :: _, _, a => a.elim
  | _ :: _, _ :: _, [], _, a => a.elim
theorem all2_sub {α β : Type} {R R' : α → β → Prop} : ∀ {xs : List α} {ys : List β}, (∀ x y, R x y → R' x y) → All2 R xs ys → All2 R' xs ys
  | [], [], _, _ => trivial
  | x :: xs, y :: ys, h, a => ⟨h _ _ a.1, all2_sub h a.2⟩
  | [], _ :: _, _, a => a.elim
  | _ :: _, [], _, a => a.elim
theorem wkQ_agg {xs ys : List V} (h : All2 WkC xs ys) : WkQ (.agg xs) (.agg ys) := fun φ v ⟨l, e, a⟩ => ⟨l, e, all2_wk (all2_sub (fun x y q => q φ) h) a⟩
theorem wkV_agg {xs ys : List V} (h : All2 WkC xs ys) : WkV (.agg xs) (.agg ys) := fun φ v r => wkQ_agg h φ v r
theorem wkV_tup {xs ys : List V} (h : All2 WkQ xs ys) : WkV (.tup xs) (.tup ys) := fun φ v ⟨l, e, a⟩ => ⟨l, e, all2_wk (all2_sub (fun x y q => q φ) h) a⟩
theorem PureV.weak {f : Nat} {args : List V} {r r' : V} (p : PureV C f args r) (h : WkV r r') (hc : ∀ ρ, rnV ρ r' = r') : PureV C f args r' :=
  ⟨hc, p.ca, fun S w0 φ vs w r0 r1 r2 => (p.calls S w0 φ vs w r0 r1 r2).mono fun e w' ⟨r1, φ', h', p1, p2, p3, p4, p5, p6⟩ => by
    subst p5
    obtain ⟨v, rfl, rv⟩ := p1
    exact ⟨.ret r', φ', h', ⟨v, rfl, h _ _ rv⟩, p2, p3, p4, rfl, p6⟩⟩
end
end Go.W
/- part W34 -/
set_option linter.unusedVariables false
set_option linter.unusedSimpArgs false
namespace Go.W
open Go Go.RowKit

/-! ### Loops of a function that is handed blocks of its caller's: the first n0 of them keep their names -/
theorem gcOk_ofN {n0 : Nat} {l : List Nat} {h h' : H} (hn : l.Nodup) (ht : l.take n0 = List.range n0) (hg : gcL (nm l h.length) h l h') : gcOk l h h' n0 := by
  obtain ⟨h1, h2⟩ := gcL_spec hg
  have hl : n0 ≤ l.length := by
    have := congrArg List.length ht
    simp at this; omega
  refine ⟨h1, hn, by omega, fun i hi => ?_, fun i B' e _ => ?_⟩
  · have := congrArg (fun x : List Nat => x[i]?) ht
    simp only [List.getElem?_take_of_lt hi] at this
    rw [this]; simp [hi]
  · obtain ⟨b, e1, e2⟩ := h2 i B' e
    exact ⟨_, by rw [show nm l h.length i = b by unfold nm; rw [e1]; rfl]; exact e2, rfl⟩
section
variable {C : Cx} {N m n0 : Nat} {Q : QT} {k : List It} {τ : Tau} {h : H}
theorem Goes.ownN {K : Tau → H → Prop} (l : List Nat) (T : List (Nat × V)) (h' : H) (hn : l.Nodup) (hr : l.take n0 = List.range n0) (hg : gcL (nm l h.length) h l h') (ht : keepT τ (nm l h.length) T) (hk : K (keepL T) h') : Goes n0 K τ h :=
  ⟨_, h', _, Arr.gc (gcOk_ofN hn hr hg), fun t => keepT_spec ht t, hk⟩
def loopN (C : Cx) (N n0 m : Nat) (Q : QT) (k : List It) (I : Tau → H → Prop) : QT
  | .normal, τ, h => I τ h
  | .exit id, τ, h => exitK (Run C N n0 m Q) Q id τ h (popTo id k)
  | .ret, τ, h => Q .ret τ h
  | .pan v, τ, h => Q (.pan v) τ h
theorem panFree_loopN {I : Tau → H → Prop} (hQ : PanFree Q) : PanFree (loopN C N n0 m Q k I) := fun v τ τ' h q => hQ v τ τ' h q
theorem loopN_normal (I : Tau → H → Prop) : loopN C N n0 m Q k I .normal τ h = I τ h := rfl
theorem loopN_exit (I : Tau → H → Prop) (id : Nat) : loopN C N n0 m Q k I (.exit id) τ h = exitK (Run C N n0 m Q) Q id τ h (popTo id k) := rfl
theorem loopN_ret (I : Tau → H → Prop) : loopN C N n0 m Q k I .ret τ h = Q .ret τ h := rfl
theorem loopN_pan (I : Tau → H → Prop) (v : V) : loopN C N n0 m Q k I (.pan v) τ h = Q (.pan v) τ h := rfl
/-- l: the blocks that are kept (all of them, in the order of Hp). -/
theorem LoopThen.ownN (n0 : Nat) {ι : Type} {body : Code} (P : ι → Prop) (T : ι → List (Nat × V)) (Hp : ι → H) (μ : ι → Nat) (m n : Nat)
    (h0 : ∃ i, P i ∧ ∃ l : List Nat, (l.Nodup ∧ l.take n0 = List.range n0) ∧ gcL (nm l h.length) h l (Hp i) ∧ keepT τ (nm l h.length) (T i))
    (hr : ∀ i, P i → Run C N n0 n (loopN C N n0 m Q k fun τ' h' => ∃ j, (P j ∧ μ j < μ i) ∧ ∃ l : List Nat, (l.Nodup ∧ l.take n0 = List.range n0) ∧ gcL (nm l h'.length) h' l (Hp j) ∧ keepT τ' (nm l h'.length) (T j)) [.code body] (keepL (T i)) (Hp i)) : LoopThen C N n0 Q body k τ h := by
  classical
  intro hb hk
  let I : Tau → H → Prop := fun τ h => ∃ i, P i ∧ τ = keepL (T i) ∧ h = Hp i
  have nat_min : ∀ (p : Nat → Prop) (n : Nat), p n → ∃ n, p n ∧ ∀ m, p m → n ≤ m := by
    intro p n hn
    induction n using Nat.strongRecOn with
    | _ n ih =>
      by_cases q : ∃ m, m < n ∧ p m
      · obtain ⟨m, h1, h2⟩ := q; exact ih m h1 h2
      · exact ⟨n, hn, fun m hm => Nat.le_of_not_lt fun h => q ⟨m, h, hm⟩⟩
  let R : Tau → H → Nat → Prop := fun τ h n => ∃ i, P i ∧ τ = keepL (T i) ∧ h = Hp i ∧ μ i = n
  let M : Tau → H → Nat := fun τ h => if q : ∃ n, R τ h n then Classical.choose (nat_min (R τ h) _ (Classical.choose_spec q)) else 0
  have hM : ∀ τ h, I τ h → ∃ i, P i ∧ τ = keepL (T i) ∧ h = Hp i ∧ μ i = M τ h ∧ ∀ j, P j → τ = keepL (T j) → h = Hp j → M τ h ≤ μ j := by
    intro τ h ⟨i, h1, h2, h3⟩
    have q : ∃ n, R τ h n := ⟨μ i, i, h1, h2, h3, rfl⟩
    have e : M τ h = Classical.choose (nat_min (R τ h) _ (Classical.choose_spec q)) := dif_pos q
    have sp := Classical.choose_spec (nat_min (R τ h) _ (Classical.choose_spec q))
    rw [← e] at sp
    obtain ⟨⟨j, j1, j2, j3, j4⟩, j5⟩ := sp
    exact ⟨j, j1, j2, j3, j4, fun i' q1 q2 q3 => j5 (μ i') ⟨i', q1, q2, q3, rfl⟩⟩
  refine WC.loop I M ?_ fun τ h hI => ?_
  · obtain ⟨i, h1, l, ⟨h2, h2'⟩, h3, h4⟩ := h0
    exact Goes.ownN l (T i) (Hp i) h2 h2' h3 h4 ⟨i, h1, rfl, rfl⟩
  · obtain ⟨i, p1, e1, e2, e3, _⟩ := hM τ h hI
    subst e1; subst e2
    have := Run_sound n _ [.code body] (keepL (T i)) (Hp i) (by simp [itOk, hb]) (hr i p1)
    refine WC.mono this fun x τ' h' q => ?_
    cases x with
    | normal =>
      obtain ⟨j, ⟨q1, q2⟩, l, ⟨q3, q3'⟩, q4, q5⟩ := q
      refine Goes.ownN l (T j) (Hp j) q3 q3' q4 q5 ⟨⟨j, q1, rfl, rfl⟩, ?_⟩
      obtain ⟨j', _, _, _, _, r4⟩ := hM (keepL (T j)) (Hp j) ⟨j, q1, rfl, rfl⟩
      have := r4 j q1 rfl rfl
      omega
    | exit id =>
      refine semK_exit ?_
      simp only [SemK, loopN] at q
      cases hp : popTo id k with
      | none => rw [hp] at q; exact q
      | some k' => rw [hp] at q; exact Run_sound m Q k' τ' h' (popTo_ok hp hk) q
    | ret => exact semK_ret q
    | pan v => exact semK_pan q
end
theorem mid_get {α : Type} {a b : List α} {y : α} {i : Nat} (h : a.length = i) : (a ++ y :: b)[i]? = some y := by
  subst h; simp
theorem mid_set {α : Type} {a b : List α} {x y : α} {i : Nat} (h : a.length = i) : (a ++ y :: b).set i x = a ++ x :: b := by
  subst h; simp
set_option linter.all false in
noncomputable def WB7 := And.intro (And.intro @loopN_normal @loopN_exit) (And.intro @loopN_ret @loopN_pan)
end Go.W
/- part W35 -/
set_option linter.unusedVariables false
set_option linter.unusedSimpArgs false
namespace Go.W
open Go Go.RowKit

/-! ### Functions that write into blocks of their caller's -/
section
variable {C : Cx} {h : H} {n0 : Nat}
theorem Up.keep {R : Res → H → Prop} {r : V} (hs : H) (hcr : ∀ ρ, rnV ρ r = r) (hl : hs.length = n0) (hg : gcL (nm (List.range n0) h.length) h (List.range n0) hs) (hr : R (.ret r) hs) : Up n0 R (.ret r) h :=
  ⟨r, hs, _, Arr.gc (gcOk_ofN List.nodup_range (by rw [List.take_of_length_le (by simp)]) hg), .inr (hcr _).symm, hr⟩

/-- f is handed the blocks hs, answers r, and leaves the blocks as hs'. -/
structure EditV (C : Cx) (f : Nat) (args : List V) (hs : H) (r : V) (hs' : H) : Prop where
  cr : ∀ ρ, rnV ρ r = r
  nr : hs'.all (fun B => nrs B.els) = true
  calls : CallsV C f args hs fun res h' => res = .ret r ∧ h' = hs'
theorem EditV.at_ {f : Nat} {args args' : List V} {hs hs' : H} {r : V} (p : EditV C f args hs r hs') (bs : List Nat) (H : H) (hn : bs.Nodup) (hg : gcL (emb bs H.length) H bs hs) (ha : args' = args.map (rnV (emb bs H.length))) :
    CallsV C f args' H fun res h' => res = .ret r ∧ h' = setAll H bs hs' := by
  obtain ⟨g1, g2⟩ := gcL_spec hg
  have := CallsV.frame p.calls bs H g1 hn g2
  rw [← ha] at this
  refine this.mono fun res h' ⟨x, h1, ⟨q1, q2⟩, q3, q4⟩ => ?_
  subst q1; subst q2
  refine ⟨by rw [q3]; simp only [rnRes, p.cr], ?_⟩
  rw [q4, map_same fun B hB => nrs_rn _ (List.all_eq_true.1 p.nr B hB)]
theorem setAll_nil (H h : Go.W.H) : setAll H [] h = H ++ h := by cases h <;> rfl
theorem setAll_cons (H : Go.W.H) (i : Nat) (l : List Nat) (B : Blk) (h : Go.W.H) : setAll H (i :: l) (B :: h) = setAll (H.set i B) l h := rfl
variable {N m : Nat} {Q : QT} {k : List It} {τ : Tau}
theorem CallThen.edit {f : Nat} {args args' : List V} {hs hs' : H} {r : V} {d : Option Nat} (p : EditV C f args hs r hs') (bs : List Nat) (hn : bs.Nodup) (hg : gcL (emb bs h.length) h bs hs) (ha : args' = args.map (rnV (emb bs h.length))) (m : Nat)
    (hr : Run C N n0 m Q k (upo d r τ) (setAll h bs hs')) : CallThen C N n0 Q f args' d k τ h :=
  CallThen.of m (p.at_ bs h hn hg ha) fun res h' ⟨e1, e2⟩ => by subst e1; subst e2; exact hr
theorem DCall.edit {h0 : H} {exc : List Nat} {ops : Array Oper} {fuel : Nat} {listed : Array Bool} {f : Nat} {args args' : List V} {hs hs' : H} {r : V} {d : Option Nat} {nw : List Nat} (p : EditV C f args hs r hs') (bs : List Nat) (hn : bs.Nodup) (hg : gcL (emb bs (hide h0 exc h).length) (hide h0 exc h) bs hs) (ha : args' = args.map (rnV (emb bs (hide h0 exc h).length))) (m : Nat) (td : TD) (hd : drawOk ops [] listed td = true)
    (hr : RunD C N n0 m Q k h0 exc ops fuel listed td (addN d nw) (upo d r τ) (show_ h0 exc h (setAll (hide h0 exc h) bs hs'))) : DCall C N n0 Q h0 exc ops fuel listed k f args' d nw τ h :=
  DCall.of m td hd (p.at_ bs _ hn hg ha) fun res h' ⟨e1, e2⟩ => by subst e1; subst e2; exact hr
end
set_option linter.all false in
noncomputable def WB8 := And.intro (And.intro @loopN_normal @loopN_exit) (And.intro (And.intro @loopN_ret @loopN_pan) (And.intro (And.intro @setAll_nil @setAll_cons) (And.intro @gcL_nil @gcL_cons)))
end Go.W
/- part W36 -/
set_option linter.unusedVariables false
set_option linter.unusedSimpArgs false
namespace Go.W
open Go Go.RowKit

/-! ### Answers that hold several slices of one's own -/
section
variable {C : Cx} {h : H} {n0 : Nat}
theorem Up.gc {R : Res → H → Prop} {r : V} (r' : V) (l : List Nat) (hs : H) (hn : l.Nodup) (hg : gcL (nm l h.length) h l hs) (he : r = rnV (nm l h.length) r') (hr : R (.ret r') hs) : Up 0 R (.ret r) h :=
  ⟨r', hs, _, Arr.gc (gcOk_of hn hg), .inr he, hr⟩
theorem Up.gcN {R : Res → H → Prop} {r : V} (r' : V) (l : List Nat) (hs : H) (hn : l.Nodup) (ht : l.take n0 = List.range n0) (hg : gcL (nm l h.length) h l hs) (he : r = rnV (nm l h.length) r') (hr : R (.ret r') hs) : Up n0 R (.ret r) h :=
  ⟨r', hs, _, Arr.gc (gcOk_ofN hn ht hg), .inr he, hr⟩
theorem Up.arr {R : Res → H → Prop} {h' : H} {M : V → V → Prop} {r r' : V} (a : Arr n0 h h' M) (hm : M r r') (u : Up n0 R (.ret r') h') : Up n0 R (.ret r) h := by
  obtain ⟨v, h2, M2, a2, m2, hr⟩ := u
  exact ⟨v, h2, _, a.trans a2, ⟨r', hm, m2⟩, hr⟩
/-- One component that is nil is given a block. -/
def nilC1 (b : Nat) (x x' : V) : Prop := x' = x ∨ (x = .z ∧ x' = .sl b 0 0 0)
def nilQ1 (b : Nat) (x x' : V) : Prop := x' = x ∨ ∃ cs cs', x = .agg cs ∧ x' = .agg cs' ∧ All2 (nilC1 b) cs cs'
def nilV1 (b : Nat) (x x' : V) : Prop := nilQ1 b x x' ∨ ∃ cs cs', x = .tup cs ∧ x' = .tup cs' ∧ All2 (nilQ1 b) cs cs'
theorem all2_map2 {α β γ : Type} {P : α → β → Prop} {R : α → γ → Prop} {R' : β → γ → Prop} (f : ∀ x x' y, P x x' → R x y → R' x' y) : ∀ {xs : List α} {xs' : List β} {ys : List γ}, All2 P xs xs' → All2 R xs ys → All2 R' xs' ys
  | [], [], [], _, _ => trivial
  | x :: xs, x' :: xs', y :: ys, h, a => ⟨f _ _ _ h.1 a.1, all2_map2 f h.2 a.2⟩
  | [], _ :: _, _, h, _ => h.elim
  | _ :: _, [], _, h, _ => h.elim
  | [], [], _ :: _, _, a => a.elim
  | _ :: _, _ :: _, [], _, a => a.elim
theorem Arr.nilV (n : Nat) : Arr n0 h (h ++ [⟨[], n, 0, true⟩]) (nilV1 h.length) := by
  intro S w0 φ w ⟨F, R⟩ hn
  have he : Ext φ (phiPush φ h.length (none, n)) := phiPush_ext (R.dom _ (Nat.le_refl _))
  refine ⟨phiPush φ h.length (none, n), R.allocNil n, phiPush_extN (Nat.le_trans hn (Nat.le_refl _)), by simp; omega, fun x x' v hm r => ?_⟩
  have kc : ∀ x x' v, nilC1 h.length x x' → RelC φ x v → RelC (phiPush φ h.length (none, n)) x' v := by
    intro x x' v hm r
    rcases hm with rfl | ⟨rfl, rfl⟩
    · exact r.ext he
    · exact ⟨none, n, phiPush_new, Nat.le_refl _, r, rfl, rfl, rfl⟩
  have kq : ∀ x x' v, nilQ1 h.length x x' → RelQ φ x v → RelQ (phiPush φ h.length (none, n)) x' v := by
    intro x x' v hm r
    rcases hm with rfl | ⟨cs, cs', rfl, rfl, a⟩
    · exact r.ext he
    · obtain ⟨l, e, b⟩ := r
      exact ⟨l, e, all2_map2 kc a b⟩
  rcases hm with hm | ⟨cs, cs', rfl, rfl, a⟩
  · rcases hm with rfl | ⟨cs, cs', rfl, rfl, a⟩
    · exact r.ext he
    · exact kq (.agg cs) (.agg cs') v (.inr ⟨cs, cs', rfl, rfl, a⟩) r
  · obtain ⟨l, e, b⟩ := r
    exact ⟨l, e, all2_map2 kq a b⟩
end
end Go.W
/- part W37 -/
set_option linter.unusedVariables false
set_option linter.unusedSimpArgs false
namespace Go.W
open Go Go.RowKit

/-! ### A function that only reads, and answers something new of plain values, may be handed what is one's own -/
def zfC : V → Bool
  | .s _ => true
  | .sl _ _ _ _ => true
  | .ptr _ _ _ => true
  | .z => true
  | .any => true
  | _ => false
def zfQ : V → Bool
  | .agg cs => cs.all zfC
  | x => zfC x
def zfV : V → Bool
  | .tup qs => qs.all zfQ
  | x => zfQ x
def zfR : Res → Bool
  | .ret v => zfV v
  | .pan _ => false
section
variable {φ φ' : Phi} {r : Nat → Nat}
theorem zfC_rel (hm : ∀ b q, φ.m b = some q → φ'.m (r b) = some q) {x : V} {v : Value} (hx : zfC x = true) (h : RelC φ x v) : RelC φ' (rnC r x) v := by
  cases x with
  | s a => simp only [rnC, rnP, RelC, RelP, RZ] at h ⊢; exact h
  | sl b off len cap =>
    obtain ⟨p, n, h1, h2, h3⟩ := h
    exact ⟨p, n, hm _ _ h1, h2, h3⟩
  | ptr b i o =>
    obtain ⟨k, n, h1, h2⟩ := h
    exact ⟨k, n, hm _ _ h1, h2⟩
  | z => simp only [rnC, rnP, RelC, RelP, RZ] at h ⊢; exact h
  | any => simp only [rnC, rnP, RelC, RelP, RZ] at h ⊢
  | _ => simp [zfC] at hx
theorem zf_all {R R' : V → Value → Prop} {p : V → Bool} {g : V → V} (hr : ∀ x v, p x = true → R x v → R' (g x) v) : ∀ {xs : List V} {ys : List Value}, xs.all p = true → All2 R xs ys → All2 R' (xs.map g) ys
  | [], [], _, _ => trivial
  | x :: xs, y :: ys, h, a => by
    simp only [List.all_cons, Bool.and_eq_true] at h
    exact ⟨hr _ _ h.1 a.1, zf_all hr h.2 a.2⟩
  | [], _ :: _, _, a => a.elim
  | _ :: _, [], _, a => a.elim
theorem zfQ_rel (hm : ∀ b q, φ.m b = some q → φ'.m (r b) = some q) {x : V} {v : Value} (hx : zfQ x = true) (h : RelQ φ x v) : RelQ φ' (rnQ r x) v := by
  cases x with
  | agg cs =>
    obtain ⟨l, e, a⟩ := h
    exact ⟨l, e, zf_all (fun x v hx h => zfC_rel hm hx h) hx a⟩
  | s a => exact zfC_rel (x := .s a) hm hx h
  | f a b => exact zfC_rel (x := .f a b) hm hx h
  | l a b => exact zfC_rel (x := .l a b) (v := v) hm hx h
  | lp a => exact zfC_rel (x := .lp a) (v := v) hm hx h
  | z  => exact zfC_rel (x := .z ) hm hx h
  | sl a b c d => exact zfC_rel (x := .sl a b c d) hm hx h
  | ptr a b c => exact zfC_rel (x := .ptr a b c) hm hx h
  | pd a => exact zfC_rel (x := .pd a) hm hx h
  | fn a b => exact zfC_rel (x := .fn a b) hm hx h
  | any  => exact zfC_rel (x := .any) (v := v) hm hx h
  | tup a => exact zfC_rel (x := .tup a) (v := v) hm hx h
theorem zfV_rel (hm : ∀ b q, φ.m b = some q → φ'.m (r b) = some q) {x : V} {v : Value} (hx : zfV x = true) (h : RelV φ x v) : RelV φ' (rnV r x) v := by
  cases x with
  | tup cs =>
    obtain ⟨l, e, a⟩ := h
    exact ⟨l, e, zf_all (fun x v hx h => zfQ_rel hm hx h) hx a⟩
  | s a => exact zfQ_rel (x := .s a) hm hx h
  | f a b => exact zfQ_rel (x := .f a b) hm hx h
  | l a b => exact zfQ_rel (x := .l a b) (v := v) hm hx h
  | lp a => exact zfQ_rel (x := .lp a) (v := v) hm hx h
  | z  => exact zfQ_rel (x := .z ) hm hx h
  | sl a b c d => exact zfQ_rel (x := .sl a b c d) hm hx h
  | ptr a b c => exact zfQ_rel (x := .ptr a b c) hm hx h
  | pd a => exact zfQ_rel (x := .pd a) hm hx h
  | fn a b => exact zfQ_rel (x := .fn a b) hm hx h
  | any  => exact zfQ_rel (x := .any) (v := v) hm hx h
  | agg a => exact zfQ_rel (x := .agg a) hm hx h
end
theorem ls_plain_nil {φ : Phi} {w : World} : ∀ {el : List V} {vs : List Value} {fp : Fp}, el.all plain = true → Ls (Dc φ w) el vs fp → fp = []
  | [], vs, fp, _, h => by simpa only [Ls] using h
  | x :: xs, vs, fp, hp, h => by
    simp only [Ls] at h
    obtain ⟨v, r, f1, f2, e1, e2, h1, h2⟩ := h
    simp only [List.all_cons, Bool.and_eq_true] at hp
    have := ls_plain_nil hp.2 h2
    subst this; subst e2
    cases x with
    | s a =>
      rcases h1 with ⟨_, q⟩ | q
      · simp [q]
      · simp only [T] at q; simp [q.2]
    | _ => simp [plain] at hp
theorem lss_plain_nil {φ : Phi} {w : World} {n : Nat} : ∀ {els : List (List V)} {vs : List Value} {fp : Fp}, plains els = true → Lss (Dc φ w) n els vs fp → fp = []
  | [], vs, fp, _, h => by simpa only [Lss] using h
  | el :: els, vs, fp, hp, h => by
    simp only [Lss] at h
    obtain ⟨h0, f1, f2, e, h1, h2⟩ := h
    simp only [plains, List.all_cons, Bool.and_eq_true] at hp
    rw [e, ls_plain_nil hp.1 h1, lss_plain_nil (by simpa [plains] using hp.2) h2]; rfl
section
variable {C : Cx}
theorem CallsV.lend {f : Nat} {args args' : List V} {R0 : Res → H → Prop} (p : CallsV C f args [] R0) (hz : ∀ r h', R0 r h' → zfR r = true ∧ h'.all (fun B => plains B.els) = true) (d : Nat) (H : H) (ha : args = args'.map (Go.W.frz 0 d H)) :
    CallsV C f args' H fun res h' => ∃ r h1, R0 r h1 ∧ res = rnRes (fun b => H.length + b) r ∧ h' = H ++ h1 := by
  intro S w0 φ vs w G R hargs
  obtain ⟨φ', R', E', _, m'⟩ := Arr.frz (n0 := 0) d S w0 φ w R (Nat.zero_le _)
  have R0' : Rel (fun _ => False) w ⟨fun _ => none, φ'.z⟩ [] w := by
    obtain ⟨F', R'⟩ := R'
    exact ⟨fun _ => [], Kept.refl _ _, fun _ _ => rfl, R'.zok, fun _ _ _ h => by simp at h, fun _ _ h => by simp at h, fun _ => List.nodup_nil, fun _ _ _ h => by simp at h, fun _ _ => rfl, fun b B h => by simp at h⟩
  have hargs' : All2 (RelV ⟨fun _ => none, φ'.z⟩) args vs.toList := by
    subst ha
    refine all2_map.2 (hargs.mono fun x v rv => ?_)
    have := m' x (Go.W.frz 0 d H x) v (.inr rfl) rv
    have hc := (frz_closed (fun b => H.length + b) 0 H d x).2.2.2
    rw [← hc] at this
    have hrn : Rn (fun b => H.length + b) φ' ⟨fun _ => none, φ'.z⟩ := ⟨fun b q e => by
      obtain ⟨F', R'⟩ := R'
      have hd := R'.dom (H.length + b) (by simp [killFrom])
      rw [hd] at e; exact absurd e (by simp), FLe.refl _⟩
    exact hrn.v this
  refine (p (fun _ => False) w ⟨fun _ => none, φ'.z⟩ vs w (G.mono E'.z) R0' hargs').mono fun e w1 ⟨res, φ1, h1, q1, q2, q3, q4, q5⟩ => ?_
  obtain ⟨F1, R1⟩ := q2
  obtain ⟨F, R⟩ := R
  obtain ⟨z1, z2⟩ := hz _ _ q5
  have gr : w.grownBy w1 none := ⟨R1.kept.os, R1.kept.tape, R1.kept.output, R1.kept.size, fun k hk _ => R1.kept.block k hk id⟩
  have new : ∀ b k, k ∈ F1 b → w.heap.size ≤ k := fun b k hk => by
    rcases (R1.mine b k hk).1 with q | q
    · exact q.elim
    · exact q
  have old : ∀ b k, k ∈ F b → k < w.heap.size := fun b k hk => (R.mine b k hk).2
  let φ2 : Phi := ⟨fun b => if b < H.length then φ.m b else φ1.m (b - H.length), φ.z⟩
  have m1 : ∀ b, b < H.length → φ2.m b = φ.m b := fun b hb => by show (if b < H.length then _ else _) = _; rw [if_pos hb]
  have m2 : ∀ b, φ2.m (H.length + b) = φ1.m b := fun b => by show (if H.length + b < H.length then _ else _) = _; rw [if_neg (by omega), show H.length + b - H.length = b by omega]
  have he : Ext φ φ2 := ⟨fun b p hb => by
    by_cases q : b < H.length
    · rw [m1 b q]; exact hb
    · have := R.dom b (by omega)
      rw [this] at hb; exact absurd hb (by simp), FLe.refl _⟩
  have Rg := R.grow gr
  refine ⟨rnRes (fun b => H.length + b) res, φ2, H ++ h1, ?_, ⟨fun b => if b < H.length then F b else F1 (b - H.length), Rg.kept, ?_, Rg.zok, ?_, ?_, ?_, ?_, ?_, ?_⟩, ⟨fun b hb => m1 b hb, FLe.refl _, fun _ _ _ e => .inl e⟩, by simp, res, h1, q5, rfl, rfl⟩
  · cases res with
    | ret v =>
      obtain ⟨cv, e1, rv⟩ := q1
      exact ⟨cv, e1, zfV_rel (fun b q hb => by rw [m2]; exact hb) z1 rv⟩
    | pan v => simp [zfR] at z1
  · intro b hb
    simp only [List.length_append] at hb
    have : b = H.length + (b - H.length) := by omega
    rw [this, m2]; exact R1.dom _ (by omega)
  · intro b k o hk
    by_cases q : b < H.length
    · simp only [q, if_true] at hk; exact R.znot b k o hk
    · simp only [q, if_false] at hk
      have h2 := new _ _ hk
      cases e : φ2.z k o with
      | none => rfl
      | some v =>
        have := World.block_lt_of_cell? _ _ (R.zok k o v e)
        simp only at this; omega
  · intro b k hk
    by_cases q : b < H.length
    · simp only [q, if_true] at hk; exact Rg.mine b k hk
    · simp only [q, if_false] at hk
      exact ⟨.inr (Nat.le_trans R.kept.size (new _ _ hk)), (R1.mine _ k hk).2⟩
  · intro b
    by_cases q : b < H.length
    · simp only [q, if_true]; exact R.nodup b
    · simp only [q, if_false]; exact R1.nodup _
  · intro b b' k hk hk'
    by_cases q : b < H.length <;> by_cases q' : b' < H.length <;> simp only [q, q', if_true, if_false] at hk hk'
    · exact R.disj b b' k hk hk'
    · have := old _ _ hk; have := new _ _ hk'; omega
    · have := old _ _ hk'; have := new _ _ hk; omega
    · have := R1.disj _ _ k hk hk'; omega
  · intro b hb
    simp only [List.length_append] at hb
    simp only [show ¬ b < H.length by omega, if_false]
    exact R1.out _ (by omega)
  · intro b B hB
    by_cases q : b < H.length
    · simp only [q, if_true]
      rw [List.getElem?_append_left q] at hB
      exact (Rg.blk b B hB).keep he fun _ _ => rfl
    · simp only [q, if_false]
      rw [List.getElem?_append_right (by omega)] at hB
      have hr := R1.blk _ B hB
      have hp : plains B.els = true := List.all_eq_true.1 z2 B (List.mem_of_getElem? hB)
      unfold BlkRel at hr ⊢
      split
      · rename_i hl
        rw [if_pos hl] at hr
        obtain ⟨p, k1, k2, k3, k4⟩ := hr
        refine ⟨p, by rw [← m2, show H.length + (b - H.length) = b by omega] at k1; exact k1, k2, k3, ?_⟩
        cases p with
        | none => exact k4
        | some k =>
          obtain ⟨c, ty, fq, r1, r2, r3, r4, r5⟩ := k4
          have := lss_plain_nil hp r4
          subst this
          exact ⟨c, ty, [], r1, r2, r3, lss_plain hp r4, r5⟩
      · rename_i hl
        rw [if_neg hl] at hr; exact hr
end
end Go.W
/- part W38 -/
set_option linter.unusedVariables false
set_option linter.unusedSimpArgs false
namespace Go.W
open Go Go.RowKit

/-! ### Ways that come together again: what follows is walked once -/
section
variable {C : Cx} {N m n0 : Nat} {Q Q' : QT} {k : List It} {τ : Tau} {h : H}
theorem WC.join {c : Code} (hc : WC C N n0 c Q τ h) (hn : ∀ τ h, Q .normal τ h → Goes n0 (fun τ' h' => Q' .normal τ' h') τ h) (ho : ∀ x τ h, x ≠ .normal → Q x τ h → Q' x τ h) : WC C N n0 c Q' τ h := by
  intro S w0 φ a w r0 r1 r2 r3 r4
  refine wpV_mono (hc S w0 φ a w r0 r1 r2 r3 r4) fun e a' w' p => ?_
  obtain ⟨x, τ', h', φ', p1, p2, p3, p4, p5, p6, p7, p8⟩ := p
  cases x with
  | normal =>
    obtain ⟨τ'', h'', M, ar, ht, hI⟩ := hn _ _ p8
    obtain ⟨φ'', R'', e'', hn'', m''⟩ := ar S w0 φ' w' p2 p4
    exact ⟨.normal, τ'', h'', φ'', p1, R'', p3.trans e'', hn'', fun t => m'' _ _ _ (ht t) (p5 t), p6, p7, hI⟩
  | exit id => exact ⟨.exit id, τ', h', φ', p1, p2, p3, p4, p5, p6, p7, ho _ _ _ (by simp) p8⟩
  | ret => exact ⟨.ret, τ', h', φ', p1, p2, p3, p4, p5, p6, p7, ho _ _ _ (by simp) p8⟩
  | pan v => exact ⟨.pan v, τ', h', φ', p1, p2, p3, p4, p5, p6, p7, ho _ _ _ (by simp) p8⟩
/-- What is kept where ways come together. -/
def Joint (n0 : Nat) {ι : Type} (P : ι → Prop) (T : ι → List (Nat × V)) (Hp : ι → H) (τ : Tau) (h : H) : Prop :=
  ∃ i, P i ∧ ∃ l : List Nat, (l.Nodup ∧ l.take n0 = List.range n0) ∧ gcL (nm l h.length) h l (Hp i) ∧ keepT τ (nm l h.length) (T i)
theorem Joint.goes {ι : Type} {P : ι → Prop} {T : ι → List (Nat × V)} {Hp : ι → H} (j : Joint n0 P T Hp τ h) : Goes n0 (fun τ' h' => ∃ i, P i ∧ τ' = keepL (T i) ∧ h' = Hp i) τ h := by
  obtain ⟨i, p, l, ⟨q1, q2⟩, q3, q4⟩ := j
  exact Goes.ownN l (T i) (Hp i) q1 q2 q3 q4 ⟨i, p, rfl, rfl⟩
theorem cut_join {c : Code} {ι : Type} {P : ι → Prop} {T : ι → List (Nat × V)} {Hp : ι → H} (hk : k.all (itOk N) = true) (h1 : WC C N n0 c (loopN C N n0 m Q k (Joint n0 P T Hp)) τ h)
    (h2 : ∀ i, P i → Run C N n0 m Q k (keepL (T i)) (Hp i)) : WC C N n0 c (SemK C N n0 Q k) τ h := by
  refine WC.join h1 (fun τ h q => ?_) fun x τ' h' hx q => ?_
  · obtain ⟨τ', h', M, a, ht, i, p, rfl, rfl⟩ := Joint.goes q
    exact ⟨_, _, M, a, ht, Run_sound m Q k _ _ hk (h2 i p)⟩
  · cases x with
    | normal => exact absurd rfl hx
    | exit id =>
      refine semK_exit ?_
      simp only [loopN] at q
      cases hp : popTo id k with
      | none => rw [hp] at q; exact q
      | some k' => rw [hp] at q; exact Run_sound m Q k' τ' h' (popTo_ok hp hk) q
    | ret => exact semK_ret q
    | pan v => exact semK_pan q
theorem DrawThen.cut {id : Nat} {ops : Array Oper} {ι : Type} (P : ι → Prop) (T : ι → List (Nat × V)) (Hp : ι → H) (m : Nat) (h1 : DrawThen C N n0 (loopN C N n0 m Q k (Joint n0 P T Hp)) id ops [] τ h)
    (h2 : ∀ i, P i → Run C N n0 m Q k (keepL (T i)) (Hp i)) : DrawThen C N n0 Q id ops k τ h :=
  fun hops hk => cut_join hk (h1 hops rfl) h2
/-- The code c is walked first, by itself. -/
theorem Run.cut {c : Code} {ι : Type} (P : ι → Prop) (T : ι → List (Nat × V)) (Hp : ι → H) (m n : Nat) (hc : itOk N (.code c) = true) (hk : k.all (itOk N) = true) (h1 : Run C N n0 n (loopN C N n0 m Q k (Joint n0 P T Hp)) [.code c] τ h)
    (h2 : ∀ i, P i → Run C N n0 m Q k (keepL (T i)) (Hp i)) : SemK C N n0 Q (.code c :: k) .normal τ h := by
  refine cut_join hk ?_ h2
  exact Run_sound n _ [.code c] τ h (by simp [hc]) h1
theorem joint_of {ι : Type} {P : ι → Prop} {T : ι → List (Nat × V)} {Hp : ι → H} (i : ι) (l : List Nat) (p : P i) (hn : l.Nodup) (ht : l.take n0 = List.range n0) (hg : gcL (nm l h.length) h l (Hp i)) (hk : keepT τ (nm l h.length) (T i)) : Joint n0 P T Hp τ h :=
  ⟨i, p, l, ⟨hn, ht⟩, hg, hk⟩
end
end Go.W
/- part W39 -/
set_option linter.unusedVariables false
set_option linter.unusedSimpArgs false
namespace Go.W
open Go Go.RowKit

/-! ### Bits of small numbers -/
theorem ofInt_small {a : Int} (ha : 0 ≤ a) (hb : a < 4611686018427387904) : (BitVec.ofInt IntKind.i64.bits a).toNat = a.toNat := by
  have e : IntKind.i64.bits = 64 := rfl
  rw [e, BitVec.toNat_ofInt]
  rw [Int.emod_eq_of_lt ha (by omega)]
theorem bitXor_small {a b : Int} (ha : 0 ≤ a) (hb : 0 ≤ b) (ha2 : a < 4611686018427387904) (hb2 : b < 4611686018427387904) : bitXor .i64 a b = ((a.toNat ^^^ b.toNat : Nat) : Int) := by
  unfold bitXor
  rw [BitVec.toNat_xor, ofInt_small ha ha2, ofInt_small hb hb2]
  have h : a.toNat ^^^ b.toNat < 2 ^ 62 := Nat.xor_lt_two_pow (by omega) (by omega)
  exact wrap_i64 (by omega) (by omega)
theorem bitXor_nn {a b : Int} (ha : 0 ≤ a) (hb : 0 ≤ b) (ha2 : a < 4611686018427387904) (hb2 : b < 4611686018427387904) : 0 ≤ bitXor .i64 a b := by
  rw [bitXor_small ha hb ha2 hb2]; omega
end Go.W
/- part W40 -/
set_option linter.unusedVariables false
set_option linter.unusedSimpArgs false
namespace Go.W
open Go Go.RowKit

/-! ### A nil slice that lies in a block is given a block of its own; what is answered is frozen -/
section
variable {C : Cx} {h : H} {n0 : Nat}
theorem ls_nil {φ : Phi} {w : World} {b m : Nat} (hb : φ.m b = some (none, m)) : ∀ {el el' : List V} {vs : List Value} {fp : Fp}, All2 (nilC1 b) el el' → Ls (Dc φ w) el vs fp → Ls (Dc φ w) el' vs fp
  | [], [], vs, fp, _, h => h
  | x :: xs, x' :: xs', vs, fp, a, h => by
    simp only [Ls] at *
    obtain ⟨v, r, f1, f2, e1, e2, h1, h2⟩ := h
    refine ⟨v, r, f1, f2, e1, e2, ?_, ls_nil hb a.2 h2⟩
    rcases a.1 with e | ⟨ez, es⟩
    · rw [e]; exact h1
    · subst ez; subst es
      have key : ∀ v, RZ φ.z .z v → RelC φ (.sl b 0 0 0) v := fun v q => ⟨none, m, hb, Nat.le_refl _, by simp only [RZ] at q; exact q, rfl, rfl, rfl⟩
      rcases h1 with ⟨q, e⟩ | q
      · exact .inl ⟨key _ q, e⟩
      · simp only [T] at q
        exact .inl ⟨key _ q.1, q.2⟩
  | [], _ :: _, _, _, a, _ => a.elim
  | _ :: _, [], _, _, a, _ => a.elim
theorem lss_nil {φ : Phi} {w : World} {b m n : Nat} (hb : φ.m b = some (none, m)) : ∀ {els els' : List (List V)} {vs : List Value} {fp : Fp}, All2 (All2 (nilC1 b)) els els' → Lss (Dc φ w) n els vs fp → Lss (Dc φ w) n els' vs fp
  | [], [], vs, fp, _, h => h
  | x :: xs, x' :: xs', vs, fp, a, h => by
    simp only [Lss] at *
    obtain ⟨h0, f1, f2, e2, h1, h2⟩ := h
    have hlen : ∀ {xs xs' : List V}, All2 (nilC1 b) xs xs' → xs.length = xs'.length := fun {xs xs'} a => by
      induction xs generalizing xs' with
      | nil => cases xs' with | nil => rfl | cons _ _ => exact a.elim
      | cons y ys ih => cases xs' with | nil => exact a.elim | cons _ _ => simp [ih a.2]
    exact ⟨by rw [← hlen a.1]; exact h0, f1, f2, e2, ls_nil hb a.1 h1, lss_nil hb a.2 h2⟩
  | [], _ :: _, _, _, a, _ => a.elim
  | _ :: _, [], _, _, a, _ => a.elim
theorem all2_length {α β : Type} {R : α → β → Prop} : ∀ {xs : List α} {ys : List β}, All2 R xs ys → xs.length = ys.length
  | [], [], _ => rfl
  | x :: xs, y :: ys, h => by simp [all2_length h.2]
  | [], _ :: _, h => h.elim
  | _ :: _, [], h => h.elim
theorem all2_memR {α β : Type} {R : α → β → Prop} : ∀ {xs : List α} {ys : List β}, All2 R xs ys → ∀ y ∈ ys, ∃ x ∈ xs, R x y
  | [], [], _, y, hy => by simp at hy
  | x :: xs, z :: zs, h, y, hy => by
    rcases List.mem_cons.1 hy with rfl | hy
    · exact ⟨x, by simp, h.1⟩
    · obtain ⟨x', h1, h2⟩ := all2_memR h.2 y hy; exact ⟨x', by simp [h1], h2⟩
  | [], _ :: _, h, _, _ => h.elim
  | _ :: _, [], h, _, _ => h.elim
theorem Arr.nilCell {b n cap m : Nat} {els els' : List (List V)} (hb : h[b]? = some ⟨els, n, cap, true⟩) (ha : All2 (All2 (nilC1 h.length)) els els') : Arr n0 h (h.set b ⟨els', n, cap, true⟩ ++ [⟨[], m, 0, true⟩]) fun x x' => x' = x := by
  intro S w0 φ w ⟨F, R⟩ hn
  have hblt : b < h.length := (List.getElem?_eq_some_iff.1 hb).1
  have he : Ext φ (phiPush φ h.length (none, m)) := phiPush_ext (R.dom _ (Nat.le_refl _))
  obtain ⟨F1, R1⟩ := R.allocNil m
  have hb1 : (h ++ [(⟨[], m, 0, true⟩ : Blk)])[b]? = some ⟨els, n, cap, true⟩ := by rw [List.getElem?_append_left hblt]; exact hb
  obtain ⟨p, k1, k2, k3, k4⟩ := R1.place hb1 rfl
  simp only at k1 k2 k3
  have hlen := all2_length ha
  have e : h.set b ⟨els', n, cap, true⟩ ++ [(⟨[], m, 0, true⟩ : Blk)] = (h ++ [(⟨[], m, 0, true⟩ : Blk)]).set b ⟨els', n, cap, true⟩ := by rw [List.set_append_left _ _ hblt]
  rw [e]
  have hB : BlkRel (phiPush φ h.length (none, m)) w b ⟨els', n, cap, true⟩ (F1 b) := by
    unfold BlkRel; rw [if_pos rfl]
    refine ⟨p, k1, fun el hel => ?_, by simp only; omega, ?_⟩
    · obtain ⟨x, hx, a⟩ := all2_memR ha el hel
      rw [← all2_length a]; exact k2 x hx
    cases p with
    | none =>
      obtain ⟨e1, e2, e3⟩ := k4
      simp only at e1 e2
      refine ⟨?_, e2, e3⟩
      cases els' with
      | nil => rfl
      | cons _ _ => rw [e1] at hlen; simp at hlen
    | some k =>
      obtain ⟨c, ty, fq, q1, q2, q3, q4, q5⟩ := k4
      simp only at q2 q3 q4
      exact ⟨c, ty, fq, q1, q2, by simp only; omega, lss_nil phiPush_new ha q4, q5⟩
  refine ⟨phiPush φ h.length (none, m), ⟨_, R1.step (w' := w) (bo := b) (b0 := b) (B0 := ⟨els', n, cap, true⟩) (fp0 := F1 b) (Ext.refl _) rfl R1.kept (Nat.le_refl _) (by simp; omega) (by simp) (fun i hi => R1.dom i (by simpa using hi)) (fun _ _ _ => rfl) (.inl rfl) ?_
    (fun q => absurd rfl q) (fun i h1 h2 => by rw [List.getElem?_set_ne (Ne.symm h1)]) (fun k hk => .inl hk) (fun k hk => (R1.mine b k hk).2) (R1.nodup b) hB⟩, phiPush_extN (Nat.le_trans hn (Nat.le_refl _)), by simp; omega, fun x x' v hm r => by subst hm; exact r.ext he⟩
  rw [List.getElem?_set_self (by simp; omega)]
theorem Up.frzN {R : Res → H → Prop} {v : V} (d : Nat) (hs : H) (hl : hs.length = n0) (hg : gcL (nm (List.range n0) (killFrom n0 h).length) (killFrom n0 h) (List.range n0) hs) (hr : R (.ret (frz n0 d h v)) hs) : Up n0 R (.ret v) h :=
  ⟨frz n0 d h v, hs, _, (Arr.frz d).trans (Arr.gc (gcOk_ofN List.nodup_range (by rw [List.take_of_length_le (by simp)]) hg)), ⟨frz n0 d h v, .inr rfl, .inr (frz_closed _ n0 h d v).2.2.2.symm⟩, hr⟩
end
end Go.W
/- part W41 -/
set_option linter.unusedVariables false
set_option linter.unusedSimpArgs false
namespace Go.W
open Go Go.RowKit

/-! ### What is answered may be frozen, or told with less, behind a contract -/
section
variable {C : Cx}
theorem CallsV.up {f : Nat} {args : List V} {h : H} {R R' : Res → H → Prop} (p : CallsV C f args h R) (u : ∀ r h', R r h' → Up h.length R' r h') : CallsV C f args h R' := by
  intro S w0 φ vs w r0 r1 r2
  refine (p S w0 φ vs w r0 r1 r2).mono fun e w' ⟨r, φ', h', p1, p2, p3, p4, p5⟩ => ?_
  have := u r h' p5
  cases r with
  | ret v =>
    obtain ⟨v', h2, M, ar, hm, hR⟩ := this
    obtain ⟨φ'', R'', e'', hn'', m''⟩ := ar S w0 φ' w' p2 p4
    obtain ⟨cv, e1, rv⟩ := p1
    exact ⟨.ret v', φ'', h2, ⟨cv, e1, m'' _ _ _ hm rv⟩, R'', p3.trans e'', hn'', hR⟩
  | pan v =>
    obtain ⟨v', h2, M, ar, hm, hR⟩ := this
    obtain ⟨φ'', R'', e'', hn'', m''⟩ := ar S w0 φ' w' p2 p4
    obtain ⟨cv, e1, rv⟩ := p1
    exact ⟨.pan v', φ'', h2, ⟨cv, e1, m'' _ _ _ hm rv⟩, R'', p3.trans e'', hn'', hR⟩
theorem PureV.of_new {f : Nat} {args : List V} {r : V} {R : Res → H → Prop} (ha : ∀ ρ, args.map (rnV ρ) = args) (hr : ∀ ρ, rnV ρ r = r) (d : Nat) (p : CallsV C f args [] R) (h : ∀ res h', R res h' → ∃ v, res = .ret v ∧ frz 0 d h' v = r) : PureV C f args r :=
  ⟨hr, ha, p.up fun res h' q => by
    obtain ⟨v, rfl, e⟩ := h res h' q
    exact Up.pure (C := C) d ⟨by rw [e], rfl⟩⟩
end
end Go.W
/- part W42 -/
set_option linter.unusedVariables false
set_option linter.unusedSimpArgs false
namespace Go.W
open Go Go.RowKit

/-! ### A loop over a function: the rounds, the statement -/
/-- What a round's end must come to. -/
def roundQ (P : Program) (l : Nat) (R : Ending → World → Prop) : Exit → Act → World → Prop
  | .normal, _, w => ∃ v w', (Instr.endRound l none).run P w = .ok v w' ∧ R (.returned v) w'
  | .ret, _, w => ∃ v w', (Instr.endRound l (some .ret)).run P w = .ok v w' ∧ R (.returned v) w'
  | .exit id, _, w => ∃ v w', (Instr.endRound l (some (.exit id))).run P w = .ok v w' ∧ R (.returned v) w'
  | .panic chain, a, w => ∀ fn, LeavesInM Fence.wide 0 P fn a.tmps R a.defers (.panicking chain) w
  | _, _, _ => False

section
variable {C : Cx}
/-- One round, its panics let out. -/
theorem round_of_wpV {n l f : Nat} {tmps : Array Value} {assign body : Code} {w : World} {R : Ending → World → Prop} (hv : (C.P.funcs[f]?).isSome = true) (hrd : C.rd = some l)
    (h : C.wpV assign (Exit.then (fun a₁ w₁ => ∃ w₂, (Instr.beginRound l).run C.P w₁ = .ok () w₂ ∧ C.wpV body (roundQ C.P l R) a₁ w₂) (fun _ _ _ => False)) { tmps := tmps, defers := [] } w) :
    RoundIn Fence.wide n C.P l f tmps assign body w R := by
  refine ⟨trivial, fun c cs hr => ?_⟩
  have hfe : Machine.fenced C.P C.fc = Machine.fenced C.P Fence.wide := rfl
  let b : Frame := { (default : Frame) with fn := f, kind := .normal, roundOf := some l }
  have hb0 : Frame.round l f tmps assign body .normal = b.atR { tmps := tmps, defers := [] } [.code assign, .beginRound, .code body] := by
    simp [Frame.round, Frame.atR, b]
  have fw : ∀ m : Machine, m.fenced C.P Fence.wide := fenced_wide C.P
  obtain ⟨e, a₁, w₁, hq, harr⟩ := h b [.beginRound, .code body] (c :: cs) hrd.symm rfl hv
  rw [← hb0, hfe] at harr
  cases e with
  | normal =>
    obtain ⟨w₂, hbr, hbody⟩ := hq
    have s1 : StepsIn (Machine.fenced C.P Fence.wide) C.P (lone (b.atR a₁ [.beginRound, .code body]) (c :: cs) w₁) (lone (b.atR a₁ [.code body]) (c :: cs) w₂) := .one (fw _) (stepR_beginRound rfl hbr)
    obtain ⟨e₂, a₂, w₃, hq₂, harr₂⟩ := hbody b [] (c :: cs) hrd.symm rfl hv
    rw [hfe] at harr₂
    have s2 := StepsIn.trans harr s1
    cases e₂ with
    | normal =>
      obtain ⟨v, w₄, hend, hR⟩ := hq₂
      exact ⟨.returned v, w₄, hR, s2.trans (StepsIn.trans harr₂ (.one (fw _) (stepR_round_end rfl rfl hend)))⟩
    | ret =>
      obtain ⟨v, w₄, hend, hR⟩ := hq₂
      obtain ⟨k₁, hs⟩ := harr₂.2 rfl
      exact ⟨.returned v, w₄, hR, s2.trans (StepsIn.trans hs (.one (fw _) (stepR_round_ret rfl rfl hend)))⟩
    | exit id =>
      obtain ⟨v, w₄, hend, hR⟩ := hq₂
      obtain ⟨k₁, hk, hs⟩ := harr₂.2 rfl rfl
      exact ⟨.returned v, w₄, hR, s2.trans (StepsIn.trans hs (.one (fw _) (stepR_round_exit rfl rfl hk hend)))⟩
    | panic chain =>
      obtain ⟨todo, hs⟩ := harr₂
      obtain ⟨fn, hf⟩ := Option.isSome_iff_exists.1 hv
      obtain ⟨e', w'', fr', hR, hs', hfn, hl⟩ := leaves_stepsInM a₂.defers (.panicking chain) w₃ { b.atR a₂ todo with mode := .panicking chain } (c :: cs) rfl rfl rfl hf rfl trivial (fun d hd => by cases hd) (hq₂ fn)
      cases e' with
      | returned v => exact ⟨.returned v, w'', hR, (s2.trans hs).trans (StepsIn.trans hs' (.one (fw _) (step_leave_returned hl)))⟩
      | panicked ch => exact ⟨.panicked ch, w'', hR, (s2.trans hs).trans (StepsIn.trans hs' (.one (fw _) (step_leave_panicked hl)))⟩
      | outgrown => exact ⟨.outgrown, w'', hR, Outgrown.of_steps (s2.trans hs).steps hs'⟩
    | goto t => exact hq₂.elim
    | outgrown => exact hq₂.elim
  | exit id => exact hq.elim
  | goto t => exact hq.elim
  | ret => exact hq.elim
  | panic chain => exact hq.elim
  | outgrown => exact hq.elim

/-- What the function that is ranged over must come to. -/
def rangeQ (C : Cx) (l : Nat) (Q : Exit → Act → World → Prop) (a' : Act) : Ending → World → Prop
  | .returned _, w₃ => ∃ jump w₄, (Instr.endLoop l).run C.P w₃ = .ok jump w₄ ∧ (match jump with | none => Q .normal a' w₄ | some c => C.wpV c Q a' w₄)
  | .panicked chain, w₃ => Q (.panic chain) a' w₃
  | .outgrown, _ => LetsOut Q
/-- The statement, at an outermost loop. -/
theorem wpV_rangeFunc {g : Operand} {ps : Array Tmp} {assign body : Code} {Q : Exit → Act → World → Prop} {a : Act} {w : World} (hrd : C.rd = none)
    (h : ∀ fn, (C.P.funcs[fn]?).isSome = true → ∃ (l : Nat) (mark : List Deferred) (w₁ : World) (d : Deferred) (w₁' : World) (f : FuncId) (args : Array Value) (w₂ : World),
      (Instr.enterLoop fn a.tmps ps assign body none).run C.P w = .ok (l, mark) w₁ ∧ (resolve a.eval (rangeCall g l) 0).run C.P w₁ = .ok d w₁' ∧
      (invoke d.target d.args).run C.P w₁' = .ok (.enter f args) w₂ ∧ Calls C.P f args w₂ (rangeQ C l Q { a with defers := mark ++ a.defers })) :
    C.wpV (.rangeFunc g ps assign body) Q a w := by
  intro b k cs hro hkd hv
  obtain ⟨l, mark, w₁, d, w₁', f, args, w₂, he, hres, hinv, hcall⟩ := h b.fn hv
  rw [← hrd, ← hro] at he
  have henter := stepR_rangeFunc (P := C.P) (b := b) (a := a) (k := k) (cs := cs) (w := w) he hres hinv
  obtain ⟨e, w₃, fr, hR, hsteps, hfn, hleave⟩ := (callsIn_wide (n := 0).2 hcall).2 (b.atR { a with defers := mark ++ a.defers } (.inRangeFunc l :: k) :: cs) (fun d hd => by cases hd)
  have fw : ∀ m : Machine, m.fenced C.P Fence.wide := fenced_wide C.P
  show ∃ e a' w', Q e a' w' ∧ ArrivesIn (Machine.fenced C.P Fence.wide) C.P _ b k cs e a' w'
  cases e with
  | outgrown =>
    obtain ⟨a₀, w₀, hq⟩ := hR
    exact ⟨.outgrown, a₀, w₀, hq, .inr (Outgrown.of_steps (.one henter) hsteps)⟩
  | returned v =>
    obtain ⟨jump, w₄, hend, hj⟩ := hR
    have sback : StepsIn (Machine.fenced C.P Fence.wide) C.P (lone (b.atR a (.code (.rangeFunc g ps assign body) :: k)) cs w) (lone (b.atR { a with defers := mark ++ a.defers } ((jump.map Item.code).toList ++ k)) cs w₄) := by
      refine .head (fw _) henter (StepsIn.trans hsteps (.head (fw _) ?_ (.one (fw _) (stepR_endRangeFunc hend))))
      rw [← finish_atR_inRangeFunc l v]; exact step_leave_returned hleave
    cases jump with
    | none => exact ⟨.normal, _, w₄, hj, sback⟩
    | some c =>
      obtain ⟨e', a'', w₅, hq, harr⟩ := hj b k cs hro hkd hv
      exact ⟨e', a'', w₅, hq, .of_steps sback harr⟩
  | panicked chain =>
    refine ⟨.panic chain, _, w₃, hR, .inRangeFunc l :: k, .head (fw _) henter (StepsIn.trans hsteps (.one (fw _) ?_))⟩
    rw [← Frame.raise_atR]; exact step_leave_panicked hleave
end
end Go.W
/- part W43 -/
set_option linter.unusedVariables false
set_option linter.unusedSimpArgs false
namespace Go.W
open Go Go.RowKit

abbrev NoS : Nat → Prop := fun _ => False
def zOk (z : Zm) (W : World) : Prop := ∀ b o v, z b o = some v → W.cell? ⟨b, o, none⟩ = some v
/-- From W on: nothing that lay has turned; what stands fast may have grown. -/
def Later (z : Zm) (W : World) (z' : Zm) (W' : World) : Prop := Kept NoS W W' ∧ FLe z z' ∧ (∀ b o v, z' b o = some v → z b o = some v ∨ W.heap.size ≤ b) ∧ zOk z' W'
def phz (z : Zm) : Phi := ⟨fun _ => none, z⟩
theorem rel_phz {z : Zm} {W : World} (hz : zOk z W) : Rel NoS W (phz z) [] W :=
  ⟨fun _ => [], Kept.refl _ _, fun _ _ => rfl, hz, fun b k o hk => by simp at hk, fun b k hk => by simp at hk, fun _ => List.nodup_nil, fun b b' k hk => by simp at hk, fun _ _ => rfl, fun b B hB => by simp at hB⟩
/-- The context in which a library function's own code is walked. -/
abbrev Cx.own (C : Cx) : Cx := { P := C.P, g := fun _ => .any, rd := none, ml := false }
theorem relG_own {C : Cx} {z : Zm} : RelG C.own z := fun g => by simp only [RZ]

section
variable {C : Cx} {N : Nat} {Q : QT} {τ : Tau} {z : Zm} {a : Act} {W : World} {ds : List Deferred}
/-- What is known behind a piece of such code. -/
def Aft (N : Nat) (z : Zm) (W : World) (ds : List Deferred) (Q : QT) : Exit → Act → World → Prop := fun e a' W' =>
  ∃ x τ' φ' h', XRel φ' x e ∧ Rel NoS W φ' h' W' ∧ Later z W φ'.z W' ∧ RelT φ' τ' a' ∧ a'.tmps.size = N ∧ a'.defers = ds ∧ Q x τ' h'
theorem post_aft {e : Exit} {a' : Act} {W' : World} {φ : Phi} (hφ : φ.z = z) (p : Post N 0 NoS W φ (false, ds) Q e a' W') : Aft N z W ds Q e a' W' := by
  subst hφ
  obtain ⟨x, τ', h', φ', p1, p2, p3, p4, p5, p6, ⟨ms, q1, -, q2⟩, p8⟩ := p
  refine ⟨x, τ', φ', h', p1, p2, ⟨p2.kept, p3.z, fun b o v e => ?_, ?_⟩, p5, p6, ?_, p8⟩
  · rcases p3.new b o v e with q | q
    · exact .inl q
    · rcases q with q | q
      · exact q.elim
      · exact .inr q
  · obtain ⟨F, R⟩ := p2; exact R.zok
  · rw [q1, q2 rfl]; rfl
theorem wc_aft {c : Code} (hc : WC C.own N 0 c Q τ []) (hz : zOk z W) (hT : RelT (phz z) τ a) (hN : a.tmps.size = N) : C.own.wpV c (Aft N z W a.defers Q) a W :=
  wpV_mono (hc NoS W (phz z) a W relG_own (rel_phz hz) (Nat.le_refl _) hT hN) fun e a' W' p => post_aft rfl p
end

theorem upon_mono2 {F : Fence} {n : Nat} {P : Program} {o : Oper} {a : Act} {K K' : Act → World → Prop} {Q Q' : Exit → Act → World → Prop} (hk : ∀ a w, K a w → K' a w) (hp : ∀ ch a w, Q (.panic ch) a w → Q' (.panic ch) a w) (ho : LetsOut Q → LetsOut Q') {r : Result Next}
    (hu : o.uponIn F n P a K Q r) : o.uponIn F n P a K' Q' r := by
  have he : ∀ (e : Ending) (w'' : World), (match e, w'' with | .returned v, w'' => K (a.put o.dst v) w'' | .panicked chain, w'' => Q (.panic chain) a w'' | .outgrown, _ => LetsOut Q) →
      (match e, w'' with | .returned v, w'' => K' (a.put o.dst v) w'' | .panicked chain, w'' => Q' (.panic chain) a w'' | .outgrown, _ => LetsOut Q') := by
    intro e w'' he
    cases e with
    | returned u => exact hk _ _ he
    | panicked c => exact hp _ _ _ he
    | outgrown => exact ho he
  cases r with
  | ok n w' =>
    cases n <;> simp only [Oper.uponIn] at hu ⊢
    case value u => exact hk _ _ hu
    case skip => exact hk _ _ hu
    case defer d => exact hk _ _ hu
    case enter f args => exact ⟨hu.1, ⟨hu.2.1, fun cs hr => let ⟨e, w', fr, r, s⟩ := hu.2.2 cs hr; ⟨e, w', fr, he e w' r, s⟩⟩⟩
    case row row args => exact ⟨hu.1, RowsIn.mono hu.2 fun u w'' he => hk _ _ he⟩
    case round l f tmps assign body => exact ⟨hu.1, RoundIn.mono hu.2 he⟩
  | halt x w' =>
    cases x <;> simp only [Oper.uponIn] at hu ⊢
    case panic u => exact hp _ _ _ hu
theorem wpListIn_append {F : Fence} {n : Nat} {P : Program} {ops : Array Oper} {Q : Exit → Act → World → Prop} : ∀ {l1 l2 : List Oper} {a : Act} {w : World}, wpListIn F n P ops (Exit.then (wpListIn F n P ops Q l2) Q) l1 a w → wpListIn F n P ops Q (l1 ++ l2) a w
  | [], l2, a, w, h => h
  | o :: l1, l2, a, w, h => by
    unfold wpListIn at h
    show wpListIn F n P ops Q (o :: (l1 ++ l2)) a w
    unfold wpListIn
    split
    · rename_i hw
      rw [if_pos hw] at h
      exact ⟨h.1, upon_mono2 (fun a w h => wpListIn_append h) (fun ch a w h => h) (fun ⟨a, w, h⟩ => ⟨a, w, h⟩) h.2⟩
    · rename_i hw
      rw [if_neg hw] at h
      exact ⟨h.1, wpListIn_append h.2⟩
theorem wpV_loop {C : Cx} {c : Code} {Q : Exit → Act → World → Prop} {a : Act} {w : World} {n : Nat} (I : Nat → Act → World → Prop) (h0 : I n a w)
    (round : ∀ j a w, I j a w → C.wpV c (Exit.then (fun a' w' => ∃ j', j' < j ∧ I j' a' w') Q) a w) : C.wpV (.loop c) Q a w := by
  intro b k cs hro hb hvl
  have key : ∀ j a w, I j a w → ∃ e a' w', Q e a' w' ∧ ArrivesIn (Machine.fenced C.P C.fc) C.P (lone (b.atR a (.code c :: .inLoop c :: k)) cs w) b k cs e a' w' := by
    intro j
    induction j using Nat.strongRecOn with
    | _ j ih =>
      intro a w hI
      obtain ⟨e, a₁, w₁, hq, harr⟩ := round j a w hI b (.inLoop c :: k) cs hro hb hvl
      cases e with
      | normal =>
        obtain ⟨j', hlt, hI'⟩ := hq
        obtain ⟨e₂, a₂, w₂, hq₂, harr₂⟩ := ih j' hlt a₁ w₁ hI'
        exact ⟨e₂, a₂, w₂, hq₂, .of_steps (StepsIn.trans harr (.one (C.fenced _) stepR_inLoop)) harr₂⟩
      | exit id => exact ⟨_, a₁, w₁, hq, .pass (x := .inLoop c) rfl (fun _ _ => .inl (by simp)) harr⟩
      | goto l => exact ⟨_, a₁, w₁, hq, .pass (x := .inLoop c) rfl (fun _ _ => .inl (by simp)) harr⟩
      | ret => exact ⟨_, a₁, w₁, hq, .pass (x := .inLoop c) rfl (fun _ _ => .inl (by simp)) harr⟩
      | panic ch => exact ⟨_, a₁, w₁, hq, .pass (x := .inLoop c) rfl (fun _ _ => .inl (by simp)) harr⟩
      | outgrown => exact ⟨_, a₁, w₁, hq, .pass (x := .inLoop c) rfl (fun _ _ => .inl (by simp)) harr⟩
  obtain ⟨e, a', w', hq, harr⟩ := key _ a w h0
  exact ⟨e, a', w', hq, .of_steps (.one (C.fenced _) stepR_loop) harr⟩

/-! ### The contract of a function that hands a slice's elements to yield, the last one first -/
def rowW (ag : Bool) (x : List V) : V := if ag = true then .agg x else x.headD .any
def fzOk : V → Bool
  | .s _ => true
  | .f _ _ => true
  | .z => true
  | .pd _ => true
  | _ => false
theorem fz_cell {x : V} (h : fzOk x = true) : cellOk x = true := by cases x <;> first | rfl | cases h
theorem fz_rel {φ : Phi} {x : V} {v : Value} (h : fzOk x = true) (r : RelC φ x v) : RelC (phz φ.z) x v := by cases x <;> first | exact r | cases h
theorem fz_row {φ : Phi} {ag : Bool} {x : List V} {v : Value} (h : x.all fzOk = true) (r : RelV φ (rowW ag x) v) : RelV (phz φ.z) (rowW ag x) v := by
  unfold rowW at r ⊢
  split
  · rename_i e
    rw [if_pos e] at r
    obtain ⟨l, h1, h2⟩ := r
    refine ⟨l, h1, ?_⟩
    clear h1 e
    generalize l.toList = cs at h2
    induction x generalizing cs with
    | nil => cases cs <;> exact h2
    | cons y ys ih =>
      simp only [List.all_cons, Bool.and_eq_true] at h
      cases cs with
      | nil => exact h2
      | cons c cs => exact ⟨fz_rel h.1 h2.1, ih h.2 _ h2.2⟩
  · rename_i e
    rw [if_neg e] at r
    cases x with
    | nil => exact relV_any
    | cons y ys =>
      simp only [List.all_cons, Bool.and_eq_true] at h
      have h1 := h.1
      simp only [List.headD_cons] at r ⊢
      cases y <;> first | exact r | cases h1
def BackV (C : Cx) (gf n : Nat) (ag : Bool) : Prop :=
  ∀ (l : Nat) (els : List (List V)) (z0 : Zm) (p : Value) (J : Nat → Zm → World → Prop) (R : Ending → World → Prop), els.all (fun x => x.all fzOk) = true → RZ z0 (.pd [.f n els]) p →
    (∀ k z W, J k z W → zOk z W) → (∀ k z W z' W', J k z W → Later z W z' W' → J k z' W') → (∀ e W W', R e W → Kept NoS W W' → R e W') →
    (∀ k x z W v, els[k]? = some x → J (k + 1) z W → RelV (phz z) (rowW ag x) v → YieldAt Fence.wide 0 C.P l #[.int .i64 k, v] W fun e W' =>
      (e = .returned (.bool true) ∧ J k z W') ∨ (e = .returned (.bool false) ∧ ∀ v, R (.returned v) W') ∨ ∃ ch, e = .panicked ch ∧ R (.panicked ch) W') →
    (∀ z W v, J 0 z W → R (.returned v) W) → ∀ W, J els.length z0 W → Calls C.P gf #[.func (.yield l) #[] #[], p] W R

abbrev yl (l : Nat) : V := .s (.func (.yield l) #[] #[])
def T3 (l n : Nat) (els : List (List V)) (i : Int) : Tau := up 3 (.s (.int .i64 i)) (up 1 (.pd [.f n els]) (up 0 (yl l) fun _ => .any))
def is3 (l n : Nat) (els : List (List V)) (i : Int) (τ : Tau) : Prop := τ 0 = yl l ∧ τ 1 = .pd [.f n els] ∧ τ 3 = .s (.int .i64 i)
theorem relT3 {φ : Phi} {z : Zm} {l n : Nat} {els : List (List V)} {i : Int} {τ : Tau} {a : Act} (hz : φ.z = z) (h : RelT φ τ a) (h3 : is3 l n els i τ) : RelT (phz z) (T3 l n els i) a := by
  subst hz
  obtain ⟨h0, h1, h3⟩ := h3
  intro t
  have := h t
  unfold T3 up
  split
  · subst_vars; rw [h3] at this; exact this
  · split
    · subst_vars; rw [h1] at this; exact this
    · split
      · subst_vars; rw [h0] at this; exact this
      · exact relV_any

theorem BackV.of {C : Cx} {gf n : Nat} {ag : Bool} {fn : Func} {A B Cn D : Code} {i0 i1 r : Nat} {ops : Array Oper} {pre post : List Oper} {o : Oper} {c : Call} {fo : Operand} {d : Nat} (m : Nat)
    (hf : C.P.funcs[gf]? = some fn) (hb : fn.body = some (.seq A (.block i0 (.loop (.seq B (.seq (.block i1 (.seq (.region r ops false) Cn)) D))))))
    (hops : ops.toList = pre ++ o :: post) (ho : o.op = .call c) (hcl : c.callee = .value fo) (hg : o.guard = none) (hd : o.dst = some d) (hres : fn.results = #[]) (h4 : 4 ≤ fn.ntmps)
    (hok : codeOk fn.ntmps (.seq A (.block i0 (.loop (.seq B (.seq (.block i1 (.seq (.region r ops false) Cn)) D))))) = true)
    (hA : ∀ l els, els.length ≤ LIM → Run C.own fn.ntmps 0 m (fun x τ h => x = .normal ∧ is3 l n els ((els.length : Int) - 1) τ) [.code A] (argsT [yl l, .pd [.f n els]]) [])
    (hB0 : ∀ l els, Run C.own fn.ntmps 0 m (fun x τ h => x = .exit i0) [.code B] (T3 l n els (-1)) [])
    (hB1 : ∀ l els (k : Nat), Run C.own fn.ntmps 0 m (fun x τ h => x = .normal ∧ is3 l n els k τ) [.code B] (T3 l n els k) [])
    (hpre : ∀ l els (k : Nat) x, els[k]? = some x → x.length = n → x.all fzOk = true → k < els.length → els.length ≤ LIM → Run C.own fn.ntmps 0 m (fun y τ h => y = .normal ∧ is3 l n els k τ ∧ ev C.own τ fo = yl l ∧ evs C.own τ c.args.toList = [.s (.int .i64 k), rowW ag x]) [.ops ops.toList pre] (T3 l n els k) [])
    (hpost1 : ∀ l els (k : Nat), Run C.own fn.ntmps 0 m (fun x τ h => x = .normal ∧ is3 l n els k τ) [.ops ops.toList post, .code Cn] (up d (.s (.bool true)) (T3 l n els k)) [])
    (hpost0 : Run C.own fn.ntmps 0 m (fun x τ h => x = .ret) [.ops ops.toList post, .code Cn] (up d (.s (.bool false)) fun _ => .any) [])
    (hD : ∀ l els (k : Nat), k < LIM → Run C.own fn.ntmps 0 m (fun x τ h => x = .normal ∧ is3 l n els ((k : Int) - 1) τ) [.code D] (T3 l n els k) []) : BackV C gf n ag := by
  intro l els z0 p J R hleaf hp hJz hJl hRk hy hend W hJ
  simp only [codeOk, Bool.and_eq_true] at hok
  obtain ⟨okA, okB, ⟨okr, okC⟩, okD⟩ := hok
  have okl : ops.toList.all (opOk fn.ntmps) = true := by rw [Array.all_toList]; exact okr
  have okl2 := okl
  rw [hops, List.all_append, List.all_cons, Bool.and_eq_true, Bool.and_eq_true] at okl2
  obtain ⟨okpre, oko, okpost⟩ := okl2
  have hta : ops.toList.toArray = ops := Array.toArray_toList
  -- the slice's elements
  have hsl : els.length ≤ LIM ∧ ∀ (k : Nat) (x : List V), els[k]? = some x → x.length = n := by
    simp only [RZ] at hp
    obtain ⟨b, off, -, hzs⟩ := hp
    simp only [RZs] at hzs
    obtain ⟨⟨cv, -, hcv⟩, -⟩ := hzs
    simp only [RZ] at hcv
    rcases hcv with ⟨rfl, -⟩ | ⟨b2, off2, cap, -, -, h3, h4⟩
    · exact ⟨by simp [LIM], fun k x h => by simp at h⟩
    · exact ⟨h3, fun k x h => (RZss.nth h4 h).1⟩
  obtain ⟨hlim, hlenx⟩ := hsl
  have fin : ∀ (a' : Act) (W' : World), a'.defers = [] → (∀ v, R (.returned v) W') → LeavesInM Fence.wide 0 C.P fn a'.tmps R a'.defers .returning W' := fun a' W' hds hR => by
    rw [hds]
    exact ⟨_, by simp [results, hres, Sem.run_bind]; rfl, hR _⟩
  have sz : ∀ {k : Nat}, k < fn.ntmps → True := fun _ => trivial
  refine calls_of_wpV (C := C.own) hf hb rfl ?_
  have start : RelT (phz z0) (argsT [yl l, .pd [.f n els]]) { tmps := #[.func (.yield l) #[] #[], p] ++ Array.replicate (fn.ntmps - (#[.func (.yield l) #[] #[], p] : Array Value).size) undef, defers := [] } :=
    argsT_rel ⟨mk_s rfl, relV_of_rz hp, trivial⟩
  refine wpV_seq (wpV_mono (wc_aft (z := z0) (Run_sound m _ [.code A] _ [] (by simp [itOk, okA]) (hA l els hlim)) (hJz _ _ _ hJ) start (by simp; omega)) ?_)
  rintro e a1 W1 ⟨x, τ1, φ1, h1, p1, p2, p3, p4, p5, p6, rfl, p8⟩
  simp only [XRel] at p1; subst p1
  have J1 := hJl _ _ _ _ _ hJ p3
  refine wpV_block (wpV_loop (n := els.length) (fun j a W => j ≤ els.length ∧ ∃ z, J j z W ∧ RelT (phz z) (T3 l n els ((j : Int) - 1)) a ∧ a.tmps.size = fn.ntmps ∧ a.defers = []) ⟨Nat.le_refl _, φ1.z, J1, relT3 rfl p4 p8, p5, p6⟩ ?_)
  clear p2 p3 p4 p5 p6 p8 J1 hJ start
  rintro j a W ⟨hj, z, hJ, hT, hN, hds⟩
  cases j with
  | zero =>
    have hT : RelT (phz z) (T3 l n els (-1)) a := hT
    refine wpV_seq (wpV_mono (wc_aft (z := z) (Run_sound m _ [.code B] _ [] (by simp [itOk, okB]) (hB0 l els)) (hJz _ _ _ hJ) hT hN) ?_)
    rintro e a1 W1 ⟨x, τ1, φ1, h1, p1, p2, p3, p4, p5, p6, rfl⟩
    simp only [XRel] at p1; subst p1
    simp only [Exit.then, Exit.inBlock, if_true]
    exact fin _ _ (p6.trans hds) fun v => hRk _ _ _ (hend _ _ v hJ) p3.1
  | succ k =>
    have hT : RelT (phz z) (T3 l n els k) a := by
      have e : ((k + 1 : Nat) : Int) - 1 = k := by omega
      rw [e] at hT; exact hT
    refine wpV_seq (wpV_mono (wc_aft (z := z) (Run_sound m _ [.code B] _ [] (by simp [itOk, okB]) (hB1 l els k)) (hJz _ _ _ hJ) hT hN) ?_)
    rintro e a2 W2 ⟨x, τ2, φ2, h2, p1, p2, p3, p4, p5, p6, rfl, p8⟩
    simp only [XRel] at p1; subst p1
    have J2 := hJl _ _ _ _ _ hJ p3
    have T2 := relT3 rfl p4 p8
    have N2 := p5
    have D2 := p6.trans hds
    generalize φ2.z = z2 at J2 T2
    clear p2 p3 p4 p5 p6 p8 hJ hT hN hds
    have hx : els[k]? = some els[k] := List.getElem?_eq_getElem (by omega)
    generalize els[k] = x at hx
    have hlx := hlenx k x hx
    have hfx : x.all fzOk = true := by
      have := List.all_eq_true.1 hleaf x (List.mem_of_getElem? hx)
      exact this
    show C.own.wpV _ _ a2 W2
    refine wpV_seq (wpV_block (wpV_seq (wpV_of (wpIn_region_list ?_))))
    rw [hops]
    refine wpListIn_append ?_
    have hWO : WO C.own fn.ntmps 0 ops.toList pre (SemK C.own fn.ntmps 0 _ []) (T3 l n els k) [] := Run_sound m _ [.ops ops.toList pre] _ [] (by simp only [List.all_cons, List.all_nil, itOk, okl, okpre, Bool.and_self]) (hpre l els k x hx hlx hfx (by omega) hlim)
    have hWO := hWO NoS W2 (phz z2) a2 W2 relG_own (rel_phz (hJz _ _ _ J2)) (Nat.le_refl _) T2 N2
    rw [hta] at hWO
    refine wpList_mono (fun e a3 W3 q => ?_) hWO
    obtain ⟨y, τ3, φ3, h3, p1, p2, p3, p4, p5, p6, rfl, p8, hev, hevs⟩ := post_aft rfl q
    simp only [XRel] at p1; subst p1
    have J3 := hJl _ _ _ _ _ J2 p3
    have D3 := p6.trans D2
    show wpListIn _ _ _ _ _ (o :: post) a3 W3
    have oko' := oko
    simp only [opOk, Bool.and_eq_true] at oko'
    obtain ⟨hdst, hop⟩ := oko'
    rw [ho] at hop
    simp only [Op.operands, Call.operands, hcl] at hop
    rw [← Array.all_toList] at hop
    simp only [Array.toList_append, List.all_append, Bool.and_eq_true] at hop
    have ef := ev_rel (relG_own (C := C)) p4 fo (by have := hop.1; simpa using this)
    rw [hev] at ef
    have ef := (s_rel ef).1
    have ea := evs_rel (relG_own (C := C)) p4 (xs := c.args.toList) hop.2
    rw [hevs] at ea
    have ea2 : ∃ v, c.args.map a3.eval = #[.int .i64 k, v] ∧ RelV φ3 (rowW ag x) v := by
      have e1 : (c.args.map a3.eval).toList = c.args.toList.map a3.eval := by simp
      generalize hcs : c.args.toList.map a3.eval = cs at ea e1
      match cs, ea with
      | [u, v], ⟨q1, q2, _⟩ =>
        have := (s_rel q1).1
        subst this
        exact ⟨v, by apply Array.ext'; rw [e1], q2⟩
    obtain ⟨v, hargs, hv⟩ := ea2
    obtain ⟨f, tmps, assign, body, hyr, hround⟩ := hy k x φ3.z W3 v hx J3 (fz_row hfx hv)
    have hrun : (execOp a3.eval o).run C.P W3 = .ok (.round l f tmps assign body) W3 := by
      simp only [execOp, ho, resolve, hcl, ef, Deferred.ofValue, Sem.run_bind, Sem.run_pure, Result.andThen_ok, invoke, hargs]
      exact hyr
    refine wpListIn_plain hg fun K hK => ⟨fun _ _ => trivial, ?_⟩
    show Oper.uponIn _ _ _ _ _ _ _ ((o.semAt C.own.fc.round a3.eval).run C.P W3)
    rw [run_semAt hrun (by simp)]
    refine ⟨fun h => (by cases h), ?_⟩
    have okit : [It.ops ops.toList post, .code Cn].all (itOk fn.ntmps) = true := by simp only [List.all_cons, List.all_nil, itOk, okl, okpost, okC, Bool.and_self]
    have hput : ∀ {z' : Zm} {τ' : Tau} {b : Bool}, RelT (phz z') τ' a3 → RelT (phz z') (up d (.s (.bool b)) τ') (a3.put o.dst (.bool b)) ∧ (a3.put o.dst (.bool b)).tmps.size = fn.ntmps ∧ (a3.put o.dst (.bool b)).defers = [] := fun {z' τ' b} hT => by
      have := put_rel (o := o) hT p5 hdst (.inl (mk_s (u := .bool b) rfl))
      rw [hd] at this ⊢
      exact ⟨this.1, this.2.1, this.2.2.trans D3⟩
    refine RoundIn.mono hround fun e W4 hq => ?_
    rcases hq with ⟨rfl, J4⟩ | ⟨rfl, hR4⟩ | ⟨ch, rfl, hR4⟩
    · -- the round goes on
      refine hK _ _ ?_
      obtain ⟨T4, N4, D4⟩ := hput (b := true) (relT3 rfl p4 p8)
      have hWO : WO C.own fn.ntmps 0 ops.toList post (SemK C.own fn.ntmps 0 _ [.code Cn]) _ [] := Run_sound m _ [.ops ops.toList post, .code Cn] _ [] okit (hpost1 l els k)
      have hWO := hWO NoS W4 (phz φ3.z) _ W4 relG_own (rel_phz (hJz _ _ _ J4)) (Nat.le_refl _) T4 N4
      rw [hta] at hWO
      refine wpList_mono (fun e a5 W5 q => ?_) hWO
      obtain ⟨x5, τ5, h5, φ5, q1, q2, q3, -, q5, q6, ⟨ms, q7, -, q7'⟩, q8⟩ := q
      rw [q7' rfl] at q7
      cases x5 with
      | normal =>
        simp only [XRel] at q1; subst q1
        have q8 : WC C.own fn.ntmps 0 Cn (SemK C.own fn.ntmps 0 _ []) τ5 h5 := q8
        have hw := q8 NoS W4 φ5 a5 W5 relG_own q2 (Nat.zero_le _) q5 q6
        show C.own.wpV Cn _ a5 W5
        refine wpV_mono hw fun e a6 W6 q => ?_
        obtain ⟨x6, τ6, φ6, h6, r1, r2, r3, r4, r5, r6, rfl, r8⟩ := post_aft (φ := phz φ3.z) rfl (q.mono q3 fun _ _ _ q => q)
        simp only [XRel] at r1; subst r1
        have J6 := hJl _ _ _ _ _ J4 r3
        have D6 := r6.trans (q7.trans D4)
        show C.own.wpV D _ a6 W6
        refine wpV_mono (wc_aft (z := φ6.z) (Run_sound m _ [.code D] _ [] (by simp [itOk, okD]) (hD l els k (by omega))) (hJz _ _ _ J6) (relT3 rfl r4 r8) r5) ?_
        rintro e a7 W7 ⟨x7, τ7, φ7, h7, t1, t2, t3, t4, t5, t6, rfl, t8⟩
        simp only [XRel] at t1; subst t1
        exact ⟨k, Nat.lt_succ_self k, by omega, φ7.z, hJl _ _ _ _ _ J6 t3, relT3 rfl t4 t8, t5, t6.trans D6⟩
      | exit id => exact absurd (q8 : XV.exit id = .normal ∧ _).1 (by simp)
      | ret => exact absurd (q8 : XV.ret = .normal ∧ _).1 (by simp)
      | pan v => exact absurd (q8 : XV.pan v = .normal ∧ _).1 (by simp)
    · -- no more
      refine hK _ _ ?_
      obtain ⟨T4, N4, D4⟩ := hput (z' := fun _ _ => none) (τ' := fun _ => .any) (b := false) (fun _ => relV_any)
      have hWO : WO C.own fn.ntmps 0 ops.toList post (SemK C.own fn.ntmps 0 _ [.code Cn]) _ [] := Run_sound m _ [.ops ops.toList post, .code Cn] _ [] okit hpost0
      have hWO := hWO NoS W4 (phz fun _ _ => none) _ W4 relG_own (rel_phz (fun _ _ _ e => by cases e)) (Nat.le_refl _) T4 N4
      rw [hta] at hWO
      refine wpList_mono (fun e a5 W5 q => ?_) hWO
      obtain ⟨x5, τ5, h5, φ5, q1, q2, q3, -, q5, q6, ⟨ms, q7, -, q7'⟩, q8⟩ := q
      rw [q7' rfl] at q7
      cases x5 with
      | normal =>
        simp only [XRel] at q1; subst q1
        have q8 : WC C.own fn.ntmps 0 Cn (SemK C.own fn.ntmps 0 _ []) τ5 h5 := q8
        have hw := q8 NoS W4 φ5 a5 W5 relG_own q2 (Nat.zero_le _) q5 q6
        show C.own.wpV Cn _ a5 W5
        refine wpV_mono hw fun e a6 W6 q => ?_
        obtain ⟨x6, τ6, φ6, h6, r1, r2, r3, r4, r5, r6, rfl⟩ := post_aft (φ := phz fun _ _ => none) rfl (q.mono q3 fun _ _ _ q => q)
        simp only [XRel] at r1; subst r1
        exact fin _ _ (r6.trans (q7.trans D4)) fun v => hRk _ _ _ (hR4 v) r3.1
      | exit id => exact absurd (q8 : XV.exit id = .ret) (by intro h; cases h)
      | ret =>
        simp only [XRel] at q1; subst q1
        exact fin _ _ (q7.trans D4) fun v => hRk _ _ _ (hR4 v) q2.kept
      | pan v => exact absurd (q8 : XV.pan v = .ret) (by intro h; cases h)
    · -- a panic
      show LeavesInM Fence.wide 0 C.P fn a3.tmps R a3.defers (.panicking ch) W4
      rw [D3]
      exact hR4
end Go.W
/- part W44 -/
set_option linter.unusedVariables false
set_option linter.unusedSimpArgs false
namespace Go.W
open Go Go.RowKit

theorem Kept.grownBy {W W' : World} (h : Kept NoS W W') : W.grownBy W' none := ⟨h.os, h.tape, h.output, h.size, fun k hk _ => h.block k hk id⟩
section
variable {S : Nat → Prop} {w0 W W' : World} {φ : Phi} {h : H} {z z' : Zm}
theorem Rel.zok (R : Rel S w0 φ h W) : zOk φ.z W := by obtain ⟨F, R⟩ := R; exact R.zok
/-- What stands fast from later on may be named too. -/
theorem Rel.later (R : Rel S w0 φ h W) (hz : FLe z φ.z) (L : Later z W z' W') : ∃ φ2, φ2.m = φ.m ∧ FLe z' φ2.z ∧ Rel S w0 φ2 h W' ∧ ∀ n, ExtN S w0 n φ φ2 := by
  classical
  obtain ⟨k1, k2, k3, k4⟩ := L
  have R1 : Rel S w0 φ h W' := R.grow k1.grownBy
  have hsz := R.kept.size
  let z2 : Zm := fun k o => match φ.z k o with | some v => some v | none => z' k o
  have e1 : FLe φ.z z2 := fun k o v e => by simp only [z2, e]
  have e2 : FLe z' z2 := fun k o v e => by
    simp only [z2]
    cases hq : φ.z k o with
    | none => exact e
    | some v' =>
      have := R1.zok k o v' hq
      have := k4 k o v e
      simp_all
  have e3 : ∀ k o v, z2 k o = some v → φ.z k o = some v ∨ W.heap.size ≤ k := fun k o v e => by
    simp only [z2] at e
    cases hq : φ.z k o with
    | some v' => rw [hq] at e; exact .inl e
    | none =>
      rw [hq] at e
      rcases k3 k o v e with q | q
      · rw [hz _ _ _ q] at hq; cases hq
      · exact .inr q
  refine ⟨⟨φ.m, z2⟩, rfl, e2, ?_, fun n => ⟨fun _ _ => rfl, e1, fun k o v e => (e3 k o v e).imp id fun q => .inr (by omega)⟩⟩
  obtain ⟨F, R⟩ := R
  obtain ⟨F1, RF1⟩ := R1
  have hx : Ext φ ⟨φ.m, z2⟩ := ⟨fun _ _ e => e, e1⟩
  have key : ∀ b k, k ∈ F b → W'.heap[k]? = W.heap[k]? := fun b k hk => k1.block k (R.mine b k hk).2 id
  refine ⟨F, R.kept.grown k1.grownBy (fun k e => by cases e), R.dom, fun k o v e => ?_, fun b k o hk => ?_, fun b k hk => ⟨(R.mine b k hk).1, Nat.lt_of_lt_of_le (R.mine b k hk).2 k1.size⟩, R.nodup, R.disj, R.out, fun b B hB => (R.blk b B hB).keep hx (key b)⟩
  · simp only [z2] at e
    cases hq : φ.z k o with
    | some v' => rw [hq] at e; cases e; exact RF1.zok k o v hq
    | none => rw [hq] at e; exact k4 k o v e
  · cases hq : z2 k o with
    | none => exact hq
    | some v =>
      rcases e3 k o v hq with q | q
      · rw [R.znot b k o hk] at q; cases q
      · have := (R.mine b k hk).2; omega
end

/-- The context of a round. -/
abbrev Cx.inRd (C : Cx) (l : Nat) : Cx := { P := C.P, g := C.g, rd := some l, ml := false }
/-- What a round must come to. n1: the blocks that there were when the loop was come to. -/
def rndQ (C : Cx) (N n0 n1 m : Nat) (Q : QT) (k : List It) (τ : Tau) (I : H → Prop) : QT
  | .normal, τ', h' => Goes n1 (fun _ h2 => I h2) τ' h'
  | .ret, _, h' => Q .ret τ h'
  | .exit id, _, h' => exitK (Run C N n0 m Q) Q id τ h' (popTo id k)
  | .pan v, _, h' => Q (.pan v) τ h'

section
variable {C : Cx} {N n0 m : Nat} {Q : QT} {k : List It} {τ : Tau} {h : H}
/-- A loop over the elements of a slice that stands fast, the last one first. I j: what the heap is while j elements are still to come. -/
theorem RangeThen.back {g : Operand} {ps : Array Tmp} {x y : Code} {gf n : Nat} {ag : Bool} {els : List (List V)} {pi pv : Nat} (m m1 : Nat) (I : Nat → H → Prop) (hb : BackV C gf n ag) (hgv : enters C.P gf = true) (hg : ev C τ g = .fn gf [.pd [.f n els]])
    (hleaf : els.all (fun x => x.all fzOk) = true) (hps : ps = #[pi, pv]) (h0 : I els.length h)
    (hround : ∀ l j el h', els[j]? = some el → I (j + 1) h' → Run (C.inRd l) N h.length m1 (fun e τ' h'' => e = .normal ∧ Run (C.inRd l) N h.length m1 (rndQ C N n0 h.length m Q k τ (I j)) [.code y] τ' h'') [.code x] (up pv (rowW ag el) (up pi (.s (.int .i64 j)) τ)) h')
    (hend : ∀ h', I 0 h' → Run C N n0 m Q k τ h') (hrd : C.rd = none := by rfl) (hml : C.ml = true := by rfl) : RangeThen C N n0 Q g ps x y k τ h := by
  intro hok hk S w0 φ a w G R hn T hN
  simp only [Bool.and_eq_true] at hok
  obtain ⟨⟨okg, okp⟩, okx, oky⟩ := hok
  have lp : pi < N ∧ pv < N := by subst hps; simpa using okp
  refine wpV_rangeFunc hrd fun fn hfn => ?_
  have ef := ev_rel G T g okg
  rw [hg] at ef
  obtain ⟨cl, ef, hp⟩ := fn_rel ef
  obtain ⟨p, rfl, hpz⟩ : ∃ p, cl = [p] ∧ RZ φ.z (.pd [.f n els]) p := by
    match cl, hp with
    | [p], ⟨q, _⟩ => exact ⟨p, rfl, q⟩
  let rec' : LoopState → Option Code → Loop := fun st pe => { state := st, pending := pe, fn, tmps := a.tmps, params := ps, assign := x, body := y, defers := w.heap.size }
  let l := w.heap.size + 1
  let W1 := (w.alloc (.deferred (some []))).alloc (.loop (rec' .ready none))
  have hL1 : W1.heap[l]? = some (.loop (rec' .ready none)) := by
    have := World.alloc_heap_new (w.alloc (.deferred (some []))) (.loop (rec' .ready none)); rwa [World.size_alloc] at this
  have hD1 : W1.heap[w.heap.size]? = some (.deferred (some [])) := (Below.heap_alloc _ _ _ (by simp)).trans (World.alloc_heap_new w _)
  have R1 : Rel S w0 φ h W1 := (R.grow (grown_alloc w _)).grow (grown_alloc _ _)
  have hsz := R.kept.size
  let Base : Phi → H → World → Prop := fun φ1 h1 W => Rel S w0 φ1 h1 W ∧ ExtN S w0 h.length φ φ1 ∧ h.length ≤ h1.length ∧ W.heap[w.heap.size]? = some (.deferred (some []))
  let J : Nat → Zm → World → Prop := fun j z W => ∃ φ1 h1, FLe z φ1.z ∧ Base φ1 h1 W ∧ I j h1 ∧ W.heap[l]? = some (.loop (rec' .ready none))
  let Rr : Ending → World → Prop := fun e W => match e with
    | .returned _ => ∃ φ1 h1, Base φ1 h1 W ∧ ((I 0 h1 ∧ W.heap[l]? = some (.loop (rec' .ready none))) ∨ (W.heap[l]? = some (.loop (rec' .done (some .ret))) ∧ Q .ret τ h1) ∨
        ∃ id, W.heap[l]? = some (.loop (rec' .done (some (.exit id)))) ∧ exitK (Run C N n0 m Q) Q id τ h1 (popTo id k))
    | .panicked ch => ∃ φ1 h1 v u, ch = [{ v := u, recovered := false }] ∧ RelV φ1 v u ∧ Base φ1 h1 W ∧ Q (.pan v) τ h1
    | .outgrown => False
  have lt : ∀ {W : World} {r : Nat} {o : Obj}, W.heap[r]? = some o → r < W.heap.size := fun h => (Array.getElem?_eq_some_iff.1 h).1
  have keep : ∀ {W W' : World} {r : Nat} {o : Obj}, Kept NoS W W' → W.heap[r]? = some o → W'.heap[r]? = some o := fun k h => by rw [k.block _ (lt h) id]; exact h
  have baseK : ∀ {φ1 h1 W W'}, Base φ1 h1 W → Kept NoS W W' → Base φ1 h1 W' := fun b k => ⟨b.1.grow k.grownBy, b.2.1, b.2.2.1, keep k b.2.2.2⟩
  have basePut : ∀ {φ1 h1 W} {r1 : Loop} (o : Obj), Base φ1 h1 W → W.heap[l]? = some (.loop r1) → Base φ1 h1 (W.putObj l o) := fun {φ1 h1 W r1} o b hl =>
    ⟨b.1.other (grownBy_putObj' W l o) (by show w0.heap.size ≤ w.heap.size + 1; omega) (fun ⟨c, ty, q, hc⟩ => by rw [hl] at hc; cases hc), b.2.1, b.2.2.1, (World.putObj_heap_other (by show w.heap.size ≠ w.heap.size + 1; omega)).trans b.2.2.2⟩
  have putSame : ∀ {W : World} {r1 : Loop} (o : Obj), W.heap[l]? = some (.loop r1) → (W.putObj l o).heap[l]? = some o := fun o hl => World.putObj_heap_same (lt hl)
  have hlw : w0.heap.size ≤ l := by show w0.heap.size ≤ w.heap.size + 1; omega
  have hcall : ∀ (f : Nat) (args : Array Value) (w : World), enters C.P f = true → (callFunc f args).run C.P w = .ok (.enter f args) w := fun f args w he => by
    unfold enters at he
    cases hfn : C.P.funcs[f]? with
    | none => rw [hfn] at he; cases he
    | some fn =>
      rw [hfn] at he
      simp only [Bool.and_eq_true, bne_iff_ne, ne_eq] at he
      have h1 : ¬ fn.name = "runtime.NumGoroutine" := he.1
      have h2 : fn.body.isNone = false := by
        cases hb : fn.body with
        | none => rw [hb] at he; exact absurd he.2 (by simp)
        | some _ => rfl
      simp only [callFunc, run_program, Sem.run_bind, Result.andThen_ok, hfn]
      simp [h1, h2]
  have b0 : Base φ h W1 := ⟨R1, ExtN.refl .., Nat.le_refl _, hD1⟩
  refine ⟨l, [{ target := .collected w.heap.size, args := #[] }], W1, { target := .fn (.func gf) #[p], args := #[.func (.yield l) #[] #[]] }, W1, gf, #[.func (.yield l) #[] #[]] ++ #[p], W1, run_enterLoop_outer fn a.tmps ps x y, ?_, ?_, ?_⟩
  · simp only [resolve, rangeCall, ef]
    simp [go_sem]
  · simp [invoke, go_sem, hcall _ _ _ hgv]
  refine Calls.mono (hb l els φ.z p J Rr hleaf hpz ?_ ?_ ?_ ?_ ?_ W1 ⟨φ, h, FLe.refl _, b0, h0, hL1⟩) ?_
  · rintro j z W ⟨φ1, h1, hz, hB, -, -⟩ b o v e
    exact hB.1.zok b o v (hz _ _ _ e)
  · rintro j z W z' W' ⟨φ1, h1, hz, ⟨B1, B2, B3, B4⟩, hI, hL⟩ L
    obtain ⟨φ2, q1, q2, q3, q4⟩ := B1.later hz L
    exact ⟨φ2, h1, q2, ⟨q3, B2.trans (q4 _), B3, keep L.1 B4⟩, hI, keep L.1 hL⟩
  · intro e W W' hR hk
    cases e with
    | returned v =>
      obtain ⟨φ1, h1, hB, hR⟩ := hR
      refine ⟨φ1, h1, baseK hB hk, ?_⟩
      rcases hR with ⟨q1, q2⟩ | ⟨q1, q2⟩ | ⟨id, q1, q2⟩
      · exact .inl ⟨q1, keep hk q2⟩
      · exact .inr (.inl ⟨keep hk q1, q2⟩)
      · exact .inr (.inr ⟨id, keep hk q1, q2⟩)
    | panicked ch =>
      obtain ⟨φ1, h1, v, u, q1, q2, q3, q4⟩ := hR
      exact ⟨φ1, h1, v, u, q1, q2, baseK q3 hk, q4⟩
    | outgrown => exact hR
  · -- a round
    rintro j el z W v hel ⟨φ1, h1, hz, ⟨B1, B2, B3, B4⟩, hI, hL⟩ hv
    have hv1 : RelV φ1 (rowW ag el) v := hv.ext ⟨fun _ _ e => (by cases e), hz⟩
    obtain ⟨ta, hta, T1, N1⟩ : ∃ ta, (Instr.yield l #[.int .i64 j, v]).run C.P W = .ok (.round l fn ta x y) W ∧ RelT φ1 (up pv (rowW ag el) (up pi (.s (.int .i64 j)) τ)) { tmps := ta, defers := [] } ∧ ta.size = N := by
      have e0 : RelT φ1 τ { tmps := a.tmps, defers := [] } := fun t => ((T t).ext (R.ext B2))
      have e1 := RelT.put e0 (d := pi) (x := .s (.int .i64 j)) (v := .int .i64 j) (by show pi < a.tmps.size; omega) (mk_s rfl)
      have e2 := RelT.put e1 (d := pv) (by simp [Act.put]; omega) hv1
      refine ⟨(a.tmps.setIfInBounds pi (.int .i64 j)).setIfInBounds pv v, ?_, e2, by simp [hN]⟩
      have := run_yield (P := C.P) (args := #[.int .i64 j, v]) hL (by show _ = ps.size; rw [hps]; rfl)
      rw [this]
      have : (rec' .ready none).params = #[pi, pv] := hps
      rw [this]
      simp [rec']
    refine ⟨fn, ta, x, y, hta, round_of_wpV (C := C.inRd l) hfn rfl ?_⟩
    obtain ⟨S1, hS1, Rb, c1, c2⟩ := B1.base
    have hx : WC (C.inRd l) N h.length x (SemK (C.inRd l) N h.length _ []) _ h1 := Run_sound m1 _ [.code x] _ h1 (by simp [itOk, okx]) (hround l j el h1 hel hI)
    refine wpV_mono (hx S1 W φ1 _ W (G.mono B2.z) Rb B3 T1 N1) ?_
    rintro e a1 W2 ⟨x2, τ2, h2, φ2, p1, p2, p3, p4, p5, p6, ⟨ms, q1, -, q2⟩, rfl, p8⟩
    simp only [XRel] at p1; subst p1
    have D2 : a1.defers = [] := by rw [q1, q2 rfl]; rfl
    have hcel : ∀ {r : Nat} {o : Obj}, W.heap[r]? = some o → (∀ c ty q, o ≠ .cells c ty q) → W2.heap[r]? = some o := fun {r o} hr hn => by
      rw [p2.kept.block _ (lt hr) fun hs => ?_]
      · exact hr
      · obtain ⟨⟨c, ty, q, hc⟩, -⟩ := hS1 _ hs
        rw [hr] at hc; cases hc; exact hn _ _ _ rfl
    have hL2 := hcel hL (by intro c ty q e; cases e)
    have bs2 : Base φ2 h2 W2 := ⟨c1 _ _ _ p2, B2.trans (c2 _ _ _ p3), p4, hcel B4 (by intro c ty q e; cases e)⟩
    refine ⟨_, run_beginRound hL2 rfl, ?_⟩
    have bs3 := basePut (.loop { rec' .ready none with state := .busy }) bs2 hL2
    have hL3 := putSame (.loop { rec' .ready none with state := .busy }) hL2
    generalize W2.putObj l (.loop { rec' .ready none with state := .busy }) = W3 at bs3 hL3
    obtain ⟨S3, hS3, Rb3, d1, d2⟩ := bs3.1.base
    have hy : WC (C.inRd l) N h.length y (SemK (C.inRd l) N h.length _ []) τ2 h2 := Run_sound m1 _ [.code y] _ h2 (by simp [itOk, oky]) p8
    refine wpV_mono (hy S3 W3 φ2 a1 W3 (G.mono bs3.2.1.z) Rb3 p4 p5 p6) ?_
    rintro e a4 W4 ⟨x4, τ4, h4, φ4, r1, r2, r3, r4, r5, r6, ⟨ms4, r7, -, r7'⟩, r8⟩
    have D4 : a4.defers = [] := by rw [r7, r7' rfl]; exact D2
    have hcel4 : ∀ {r : Nat} {o : Obj}, W3.heap[r]? = some o → (∀ c ty q, o ≠ .cells c ty q) → W4.heap[r]? = some o := fun {r o} hr hn => by
      rw [r2.kept.block _ (lt hr) fun hs => ?_]
      · exact hr
      · obtain ⟨⟨c, ty, q, hc⟩, -⟩ := hS3 _ hs
        rw [hr] at hc; cases hc; exact hn _ _ _ rfl
    have hL4 := hcel4 hL3 (by intro c ty q e; cases e)
    have bs4 : Base φ4 h4 W4 := ⟨d1 _ _ _ r2, bs3.2.1.trans (d2 _ _ _ r3), r4, hcel4 bs3.2.2.2 (by intro c ty q e; cases e)⟩
    have zl : FLe z φ4.z := (hz.trans (c2 _ _ _ p3).z).trans (d2 _ _ _ r3).z
    cases x4 with
    | normal =>
      simp only [XRel] at r1; subst r1
      obtain ⟨τ5, h5, M, ar, ht, hI5⟩ := r8
      obtain ⟨φ5, R5, E5, len5, -⟩ := ar S w0 φ4 W4 bs4.1 r4
      have bs5 : Base φ5 h5 W4 := ⟨R5, bs4.2.1.trans E5, len5, bs4.2.2.2⟩
      exact ⟨_, _, run_endRound (P := C.P) none hL4, .inl ⟨rfl, φ5, h5, zl.trans E5.z, basePut _ bs5 hL4, hI5, putSame _ hL4⟩⟩
    | ret =>
      simp only [XRel] at r1; subst r1
      exact ⟨_, _, run_endRound (P := C.P) (some .ret) hL4, .inr (.inl ⟨rfl, fun v => ⟨φ4, h4, basePut _ bs4 hL4, .inr (.inl ⟨putSame _ hL4, r8⟩)⟩⟩)⟩
    | exit id =>
      simp only [XRel] at r1; subst r1
      exact ⟨_, _, run_endRound (P := C.P) (some (.exit id)) hL4, .inr (.inl ⟨rfl, fun v => ⟨φ4, h4, basePut _ bs4 hL4, .inr (.inr ⟨id, putSame _ hL4, r8⟩)⟩⟩)⟩
    | pan v =>
      obtain ⟨u, rfl, ru⟩ := r1
      intro fn'
      rw [D4]
      exact .inr (.inr ⟨_, rfl, φ4, h4, v, u, rfl, ru, bs4, r8⟩)
  · rintro z W v ⟨φ1, h1, hz, hB, hI, hL⟩
    exact ⟨φ1, h1, hB, .inl ⟨hI, hL⟩⟩
  · -- behind the loop
    have dfs : ∀ {W : World}, W.heap[w.heap.size]? = some (.deferred (some [])) → Dfs w0 (C.ml, a.defers) { a with defers := { target := .collected w.heap.size, args := #[] } :: a.defers } W := fun hD =>
      ⟨[{ target := .collected w.heap.size, args := #[] }], rfl, ⟨by simp, fun d hd => by
        simp only [List.mem_singleton] at hd
        exact ⟨w.heap.size, hd, hsz, hD⟩⟩, fun e => by rw [hml] at e; cases e⟩
    have post : ∀ {W : World} {φ1 h1} (X : XV) (e : Exit), Base φ1 h1 W → XRel φ1 X e → SemK C N n0 Q k X τ h1 → Post N n0 S w0 φ (C.ml, a.defers) (SemK C N n0 Q k) e { a with defers := { target := .collected w.heap.size, args := #[] } :: a.defers } W :=
      fun X e hB hX hq => ⟨X, τ, _, _, hX, hB.1, hB.2.1.mono hn, Nat.le_trans hn hB.2.2.1, fun t => (T t).ext (R.ext hB.2.1), hN, dfs hB.2.2.2, hq⟩
    intro e W hR
    cases e with
    | returned v =>
      obtain ⟨φ1, h1, hB, hR⟩ := hR
      rcases hR with ⟨q1, q2⟩ | ⟨q1, q2⟩ | ⟨id, q1, q2⟩
      · exact ⟨none, _, run_endLoop (P := C.P) q2 (by simp [rec']), post .normal .normal (basePut _ hB q2) rfl (Run_sound m Q k τ h1 hk (hend h1 q1))⟩
      · exact ⟨some .ret, _, run_endLoop (P := C.P) q1 (by simp [rec']), wpV_of (wpIn_ret (post .ret .ret (basePut _ hB q1) rfl (semK_ret q2)))⟩
      · refine ⟨some (.exit id), _, run_endLoop (P := C.P) q1 (by simp [rec']), wpV_of (wpIn_exit (post (.exit id) (.exit id) (basePut _ hB q1) rfl (semK_exit ?_)))⟩
        cases hp : popTo id k with
        | none => rw [hp] at q2; exact q2
        | some k' => rw [hp] at q2; exact Run_sound m Q k' τ h1 (popTo_ok hp hk) q2
    | panicked ch =>
      obtain ⟨φ1, h1, v, u, rfl, q2, hB, q4⟩ := hR
      exact post (.pan v) _ hB ⟨u, rfl, q2⟩ (semK_pan q4)
    | outgrown => exact hR.elim
end
end Go.W
/- part K1 -/
set_option linter.unusedVariables false
set_option linter.unusedSimpArgs false
set_option maxRecDepth 100000
namespace Go.Proofs.Ytpcgnmoogjahbaa
open Go Go.W Go.RowKit
structure Rec where
  name : ByteArray
  src : ByteArray
  faces : List ByteArray
  face : ByteArray
  obj : ByteArray
deriving DecidableEq
def sV (b : ByteArray) : List V := [.s (.string b)]
def rV (r : Rec) : List V := [.s (.string r.name), .s (.string r.src), .f 1 (r.faces.map sV), .s (.string r.face), .s (.string r.obj)]
def rL (r : Rec) : List V := [.s (.string r.name), .s (.string r.src), .l 1 (r.faces.map sV), .s (.string r.face), .s (.string r.obj)]
def szB (b : ByteArray) (left : Int) : Int := if left - b.size < 0 then -1 else left - b.size
theorem szB_range (b : ByteArray) (left : Int) (h0 : 0 ≤ left) (h1 : left ≤ 1048576) : -1 ≤ szB b left ∧ szB b left ≤ left := by
  unfold szB; split <;> omega
def kbud {α : Type} (sz : α → Int → Int) : List α → Int → Int
  | [], left => left
  | a :: r, left => if sz a left < 0 then -1 else kbud sz r (sz a left)
def kszS {α : Type} (sz : α → Int → Int) (l : List α) (left : Int) : Int := if left - l.length < 0 then -1 else kbud sz l (left - l.length)
theorem kbud_range {α : Type} {sz : α → Int → Int} (hr : ∀ f left, 0 ≤ left → left ≤ 1048576 → -1 ≤ sz f left ∧ sz f left ≤ left) : ∀ (l : List α) (left : Int), 0 ≤ left → left ≤ 1048576 → -1 ≤ kbud sz l left ∧ kbud sz l left ≤ left
  | [], left, h0, h1 => by rw [kbud]; omega
  | a :: r, left, h0, h1 => by
    have := hr a left h0 h1
    rw [kbud]; split
    · omega
    · have := kbud_range hr r (sz a left) (by omega) (by omega); omega
theorem kszS_range {α : Type} {sz : α → Int → Int} (hr : ∀ f left, 0 ≤ left → left ≤ 1048576 → -1 ≤ sz f left ∧ sz f left ≤ left) (l : List α) (left : Int) (h0 : 0 ≤ left) (h1 : left ≤ 1048576) : -1 ≤ kszS sz l left ∧ kszS sz l left ≤ left := by
  unfold kszS; split
  · omega
  · have := kbud_range hr l (left - l.length) (by omega) (by omega); omega
def szFs (l : List ByteArray) (left : Int) : Int := kszS szB l left
theorem szFs_range (l : List ByteArray) (left : Int) (h0 : 0 ≤ left) (h1 : left ≤ 1048576) : -1 ≤ szFs l left ∧ szFs l left ≤ left := kszS_range szB_range l left h0 h1
def szR (r : Rec) (left : Int) : Int :=
  if left - r.name.size < 0 then -1 else if left - r.name.size - r.src.size < 0 then -1 else
  if szFs r.faces (left - r.name.size - r.src.size) < 0 then -1 else
  if szFs r.faces (left - r.name.size - r.src.size) - r.face.size < 0 then -1 else
  if szFs r.faces (left - r.name.size - r.src.size) - r.face.size - r.obj.size < 0 then -1 else szFs r.faces (left - r.name.size - r.src.size) - r.face.size - r.obj.size
theorem szR_range (r : Rec) (left : Int) (h0 : 0 ≤ left) (h1 : left ≤ 1048576) : -1 ≤ szR r left ∧ szR r left ≤ left := by
  unfold szR; split
  · omega
  · split
    · omega
    · have := szFs_range r.faces (left - r.name.size - r.src.size) (by omega) (by omega)
      split
      · omega
      · split
        · omega
        · split <;> omega
theorem walk18 (l : List ByteArray) (left : Int) (h0 : 0 ≤ left) (h1 : left ≤ 1048576) : PureV C 18 [.f 1 (l.map sV), .s (.int .i64 left)] (.s (.int .i64 (szFs l left))) := by
  refine pure_of_run Try.func18 rfl (by kernel_rfl) (by kernel_rfl) (by simp) (fun _ => rfl) (fun _ => rfl) 6 1000 ?_
  simp +contextual (maxSteps := 2000000) (disch := ((try unfold LIM at *); omega)) only [↓bcase_true, ↓bcase_false, WA, simprocAttr, wrap_i64, szFs, kszS, List.length_map]
  intro hl hc
  refine LoopThen.pure (ι := Nat × Int) (fun p => p.1 ≤ l.length ∧ 0 ≤ p.2 ∧ p.2 ≤ 1048576 ∧ kbud szB (l.drop p.1) p.2 = kbud szB l (left - l.length)) (fun p => keepL [(0, .f 1 (l.map sV)), (1, .s (.int .i64 p.2)), (5, .s (.int .i64 p.1))]) (fun p => l.length - p.1)
    6 [0, 1, 5] 1000 1000 ⟨(0, left - l.length), ⟨by omega, by omega, by omega, rfl⟩, by simp +contextual (maxSteps := 2000000) (disch := ((try unfold LIM at *); omega)) only [↓bcase_true, ↓bcase_false, WA, simprocAttr, wrap_i64]⟩ ?_
  rintro ⟨i, a⟩ ⟨p1, p2, p3, p4⟩
  by_cases c2 : (i : Int) < l.length
  · obtain ⟨f, hf⟩ := get_lt c2
    have pi : (0 : Int) ≤ i := by omega
    have key : kbud szB l (left - l.length) = if szB f a < 0 then -1 else kbud szB (l.drop (i + 1)) (szB f a) := by rw [← p4]; simp only [drop_cons hf, kbud]
    by_cases c3 : a - (f.size : Int) < 0
    · have e3 : szB f a = -1 := by unfold szB; rw [if_pos c3]
      rw [e3] at key
      simp +contextual (maxSteps := 2000000) (disch := ((try unfold LIM at *); omega)) only [↓bcase_true, ↓bcase_false, WA, simprocAttr, wrap_i64, List.length_map, hl, c2, hf, pi, sV, c3, key]
      try (intros; omega)
    · have e3 : szB f a = a - f.size := by unfold szB; rw [if_neg c3]
      rw [e3, if_neg c3] at key
      simp +contextual (maxSteps := 2000000) (disch := ((try unfold LIM at *); omega)) only [↓bcase_true, ↓bcase_false, WA, simprocAttr, wrap_i64, List.length_map, hl, c2, hf, pi, sV, c3, cast_succ]
      intro hfs
      refine ⟨(i + 1, a - f.size), ⟨⟨by omega, by omega, by omega, ?_⟩, by omega⟩, rfl⟩
      simp only [key]
  · have e : i = l.length := by simp at p1; omega
    subst e
    simp +contextual (maxSteps := 2000000) (disch := ((try unfold LIM at *); omega)) only [↓bcase_true, ↓bcase_false, WA, simprocAttr, wrap_i64, List.length_map, hl, c2, ← p4, List.drop_length, kbud]
theorem walk59 (r : Rec) (left : Int) (h0 : 0 ≤ left) (h1 : left ≤ 1048576) : PureV C 59 [.agg (rV r), .s (.int .i64 left)] (.s (.int .i64 (szR r left))) := by
  refine pure_of_run Try.func59 rfl (by kernel_rfl) (by kernel_rfl) (by simp) (fun _ => rfl) (fun _ => rfl) 6 1000 ?_
  by_cases c1 : left - (r.name.size : Int) < 0
  · simp +contextual (maxSteps := 2000000) (disch := ((try unfold LIM at *); omega)) only [↓bcase_true, ↓bcase_false, WA, simprocAttr, wrap_i64, rV, szR, c1]
    try (intros; omega)
  by_cases c2 : left - (r.name.size : Int) - r.src.size < 0
  · simp +contextual (maxSteps := 2000000) (disch := ((try unfold LIM at *); omega)) only [↓bcase_true, ↓bcase_false, WA, simprocAttr, wrap_i64, rV, szR, c1, c2]
    try (intros; omega)
  simp +contextual (maxSteps := 2000000) (disch := ((try unfold LIM at *); omega)) only [↓bcase_true, ↓bcase_false, WA, simprocAttr, wrap_i64, rV, szR, c1, c2]
  intro q1 q2
  refine CallThen.pure (walk18 r.faces _ (by omega) (by omega)) 1000 ?_
  have hr := szFs_range r.faces (left - r.name.size - r.src.size) (by omega) (by omega)
  generalize szFs r.faces (left - r.name.size - r.src.size) = e at *
  by_cases c3 : e < 0
  · simp +contextual (maxSteps := 2000000) (disch := ((try unfold LIM at *); omega)) only [↓bcase_true, ↓bcase_false, WA, simprocAttr, wrap_i64, c3]
  by_cases c4 : e - (r.face.size : Int) < 0
  · simp +contextual (maxSteps := 2000000) (disch := ((try unfold LIM at *); omega)) only [↓bcase_true, ↓bcase_false, WA, simprocAttr, wrap_i64, c3, c4]
    try (intros; omega)
  by_cases c5 : e - (r.face.size : Int) - r.obj.size < 0
  · simp +contextual (maxSteps := 2000000) (disch := ((try unfold LIM at *); omega)) only [↓bcase_true, ↓bcase_false, WA, simprocAttr, wrap_i64, c3, c4, c5]
    try (intros; omega)
  simp +contextual (maxSteps := 2000000) (disch := ((try unfold LIM at *); omega)) only [↓bcase_true, ↓bcase_false, WA, simprocAttr, wrap_i64, c3, c4, c5]
  try (intros; omega)
theorem walk17 (l : List Rec) (left : Int) (h0 : 0 ≤ left) (h1 : left ≤ 1048576) : PureV C 17 [.f 5 (l.map rV), .s (.int .i64 left)] (.s (.int .i64 (kszS szR l left))) := by
  refine pure_of_run Try.func17 rfl (by kernel_rfl) (by kernel_rfl) (by simp) (fun _ => rfl) (fun _ => rfl) 6 1000 ?_
  simp +contextual (maxSteps := 2000000) (disch := ((try unfold LIM at *); omega)) only [↓bcase_true, ↓bcase_false, WA, simprocAttr, wrap_i64, kszS, List.length_map]
  intro hl hc
  refine LoopThen.pure (ι := Nat × Int) (fun p => p.1 ≤ l.length ∧ 0 ≤ p.2 ∧ p.2 ≤ 1048576 ∧ kbud szR (l.drop p.1) p.2 = kbud szR l (left - l.length)) (fun p => keepL [(0, .f 5 (l.map rV)), (1, .s (.int .i64 p.2)), (5, .s (.int .i64 p.1))]) (fun p => l.length - p.1)
    6 [0, 1, 5] 1000 1000 ⟨(0, left - l.length), ⟨by omega, by omega, by omega, rfl⟩, by simp +contextual (maxSteps := 2000000) (disch := ((try unfold LIM at *); omega)) only [↓bcase_true, ↓bcase_false, WA, simprocAttr, wrap_i64]⟩ ?_
  rintro ⟨i, a⟩ ⟨p1, p2, p3, p4⟩
  by_cases c2 : (i : Int) < l.length
  · obtain ⟨f, hf⟩ := get_lt c2
    have pi : (0 : Int) ≤ i := by omega
    simp +contextual (maxSteps := 2000000) (disch := ((try unfold LIM at *); omega)) only [↓bcase_true, ↓bcase_false, WA, simprocAttr, wrap_i64, List.length_map, hl, c2, hf, pi, rV]
    refine CallThen.pure (walk59 f a p2 p3) 1000 ?_
    have hr := szR_range f a p2 p3
    have key : kbud szR l (left - l.length) = if szR f a < 0 then -1 else kbud szR (l.drop (i + 1)) (szR f a) := by rw [← p4]; simp only [drop_cons hf, kbud]
    by_cases c3 : szR f a < 0
    · simp +contextual (maxSteps := 2000000) (disch := ((try unfold LIM at *); omega)) only [↓bcase_true, ↓bcase_false, WA, simprocAttr, wrap_i64, List.length_map, c3, key]
    · simp +contextual (maxSteps := 2000000) (disch := ((try unfold LIM at *); omega)) only [↓bcase_true, ↓bcase_false, WA, simprocAttr, wrap_i64, List.length_map, c3, cast_succ]
      refine ⟨(i + 1, szR f a), ⟨⟨by omega, by omega, by omega, ?_⟩, by omega⟩, rfl⟩
      simp only [key, c3, if_false]
  · have e : i = l.length := by simp at p1; omega
    subst e
    simp +contextual (maxSteps := 2000000) (disch := ((try unfold LIM at *); omega)) only [↓bcase_true, ↓bcase_false, WA, simprocAttr, wrap_i64, List.length_map, hl, c2, ← p4, List.drop_length, kbud]
theorem sV_nr (f : ByteArray) : (sV f).all nr = true := rfl
theorem sV_ok (f : ByteArray) : (sV f).all cellOk = true := rfl
theorem sV_plain (f : ByteArray) : (sV f).all plain = true := rfl
theorem sV_frz (n0 d : Nat) (h : H) (l : List ByteArray) : ((l.map sV).map fun el => el.map (frz n0 d h)) = l.map sV := frz_els (nrs_map sV_nr l) (leafs_map sV_ok l)
theorem new21 (l : List ByteArray) (hl : l.length ≤ 1048576) : NewV C 21 [.f 1 (l.map sV)] 1 (l.map sV) := by
  refine calls_of_run Try.func21 rfl (by kernel_rfl) (by kernel_rfl) (by simp) 1000 ?_
  have z1 := fun n => nrs_replicate (el := [V.s (.string ⟨#[]⟩)]) rfl n
  have b0 : (0 : Int) ≤ l.length := by omega
  have b1 : (16 : Int) * l.length ≤ 140737488355328 := by omega
  have b2 : (l.length : Int) ≤ 4611686018427387904 := by omega
  simp +contextual (maxSteps := 2000000) (disch := ((try unfold LIM at *); omega)) only [↓bcase_true, ↓bcase_false, WA, simprocAttr, wrap_i64, List.length_map, b0, b1, b2, Int.le_refl]
  intro hl'
  refine LoopThen.own (ι := Nat) (fun i => i ≤ l.length) (fun i => [(0, .f 1 (l.map sV)), (3, .sl 0 0 l.length l.length), (4, .s (.int .i64 i))]) (fun i => [⟨(l.take i).map sV ++ List.replicate (l.length - i) [V.s (.string ⟨#[]⟩)], 1, l.length, true⟩]) (fun i => l.length - i)
    1000 1000 ⟨0, Nat.zero_le _, [0], by simp, by simp +contextual (maxSteps := 2000000) (disch := ((try unfold LIM at *); omega)) only [↓bcase_true, ↓bcase_false, WA, simprocAttr, wrap_i64, z1, Nat.sub_zero, true_or], by simp +contextual (maxSteps := 2000000) (disch := ((try unfold LIM at *); omega)) only [↓bcase_true, ↓bcase_false, WA, simprocAttr, wrap_i64]⟩ ?_
  intro i p1
  by_cases c2 : (i : Int) < l.length
  · obtain ⟨f, hf⟩ := get_lt c2
    have pi : (0 : Int) ≤ i := by omega
    obtain ⟨k, hk⟩ : ∃ k, l.length - i = k + 1 := ⟨l.length - i - 1, by omega⟩
    have hl1 : ((l.take i).map sV).length = i := by simp; omega
    have g1 : ((l.take i).map sV ++ List.replicate (l.length - i) [V.s (.string ⟨#[]⟩)])[i]? = some [V.s (.string ⟨#[]⟩)] := by rw [fill_get _ _ hl1, hk]; rfl
    have g2 : ((l.take i).map sV ++ List.replicate (l.length - i) [V.s (.string ⟨#[]⟩)]).set i [V.s (.string f)] = (l.take (i + 1)).map sV ++ List.replicate (l.length - (i + 1)) [V.s (.string ⟨#[]⟩)] := by
      rw [hk, fill_set _ _ _ _ _ hl1, List.take_add_one, hf, show l.length - (i + 1) = k by omega]; simp [sV]
    simp +contextual (maxSteps := 2000000) (disch := ((try unfold LIM at *); omega)) only [↓bcase_true, ↓bcase_false, WA, simprocAttr, wrap_i64, List.length_map, hl', c2, hf, pi, sV, g1, g2, cast_succ]

    refine ⟨i + 1, ⟨by omega, by omega⟩, [0], by simp, by simp +contextual (maxSteps := 2000000) (disch := ((try unfold LIM at *); omega)) only [↓bcase_true, ↓bcase_false, WA, simprocAttr, wrap_i64, nrs_append, z1, nrs_map sV_nr, true_or, g2, sV], by simp +contextual (maxSteps := 2000000) (disch := ((try unfold LIM at *); omega)) only [↓bcase_true, ↓bcase_false, WA, simprocAttr, wrap_i64]⟩
  · have e : i = l.length := by omega
    subst e
    have g4 : (l.take l.length).map sV ++ List.replicate (l.length - l.length) [V.s (.string ⟨#[]⟩)] = l.map sV := by simp
    simp +contextual (maxSteps := 2000000) (disch := ((try unfold LIM at *); omega)) only [↓bcase_true, ↓bcase_false, WA, simprocAttr, wrap_i64, List.length_map, hl', c2, g4]
    exact Up.fresh (b := 0) rfl (nrs_map sV_nr _) ⟨l.length, Nat.le_refl _, rfl, rfl⟩
end Go.Proofs.Ytpcgnmoogjahbaa
/- part W45 -/
set_option linter.unusedVariables false
set_option linter.unusedSimpArgs false
namespace Go.W
open Go Go.RowKit

/-! ### Loops whose blocks own further blocks: what a cell refers to is folded into it at a round's end -/
section
variable {C : Cx} {N m n0 : Nat} {Q : QT} {k : List It} {τ : Tau} {h : H}
theorem Goes.foldN {K : Tau → H → Prop} (fl : List (Nat × Nat × Nat)) (l : List Nat) (T : List (Nat × V)) (h' : H) (hn : l.Nodup) (hr : l.take n0 = List.range n0) (hg : gcL (nm l (folds h fl).length) (folds h fl) l h') (ht : keepT τ (nm l (folds h fl).length) T)
    (hk : K (keepL T) h') : Goes n0 K τ h :=
  ⟨_, h', _, (Arr.folds n0 fl h).trans (Arr.gc (gcOk_ofN hn hr hg)), fun t => ⟨_, rfl, keepT_spec ht t⟩, hk⟩
/-- fl: the cells that own what they refer to; l: the blocks that are kept. -/
def Fold (n0 : Nat) {ι : Type} (P : ι → Prop) (T : ι → List (Nat × V)) (Hp : ι → H) (τ : Tau) (h : H) : Prop :=
  ∃ i, P i ∧ ∃ (fl : List (Nat × Nat × Nat)) (l : List Nat), (l.Nodup ∧ l.take n0 = List.range n0) ∧ gcL (nm l (folds h fl).length) (folds h fl) l (Hp i) ∧ keepT τ (nm l (folds h fl).length) (T i)
theorem LoopThen.ownF (n0 : Nat) {ι : Type} {body : Code} (P : ι → Prop) (T : ι → List (Nat × V)) (Hp : ι → H) (μ : ι → Nat) (m n : Nat) (h0 : Fold n0 P T Hp τ h)
    (hr : ∀ i, P i → Run C N n0 n (loopN C N n0 m Q k (Fold n0 (fun j => P j ∧ μ j < μ i) T Hp)) [.code body] (keepL (T i)) (Hp i)) : LoopThen C N n0 Q body k τ h := by
  classical
  intro hb hk
  let I : Tau → H → Prop := fun τ h => ∃ i, P i ∧ τ = keepL (T i) ∧ h = Hp i
  have nat_min : ∀ (p : Nat → Prop) (n : Nat), p n → ∃ n, p n ∧ ∀ m, p m → n ≤ m := by
    intro p n hn
    induction n using Nat.strongRecOn with
    | _ n ih =>
      by_cases q : ∃ m, m < n ∧ p m
      · obtain ⟨m, h1, h2⟩ := q; exact ih m h1 h2
      · exact ⟨n, hn, fun m hm => Nat.le_of_not_lt fun h => q ⟨m, h, hm⟩⟩
  let R : Tau → H → Nat → Prop := fun τ h n => ∃ i, P i ∧ τ = keepL (T i) ∧ h = Hp i ∧ μ i = n
  let M : Tau → H → Nat := fun τ h => if q : ∃ n, R τ h n then Classical.choose (nat_min (R τ h) _ (Classical.choose_spec q)) else 0
  have hM : ∀ τ h, I τ h → ∃ i, P i ∧ τ = keepL (T i) ∧ h = Hp i ∧ μ i = M τ h ∧ ∀ j, P j → τ = keepL (T j) → h = Hp j → M τ h ≤ μ j := by
    intro τ h ⟨i, h1, h2, h3⟩
    have q : ∃ n, R τ h n := ⟨μ i, i, h1, h2, h3, rfl⟩
    have e : M τ h = Classical.choose (nat_min (R τ h) _ (Classical.choose_spec q)) := dif_pos q
    have sp := Classical.choose_spec (nat_min (R τ h) _ (Classical.choose_spec q))
    rw [← e] at sp
    obtain ⟨⟨j, j1, j2, j3, j4⟩, j5⟩ := sp
    exact ⟨j, j1, j2, j3, j4, fun i' q1 q2 q3 => j5 (μ i') ⟨i', q1, q2, q3, rfl⟩⟩
  refine WC.loop I M ?_ fun τ h hI => ?_
  · obtain ⟨i, h1, fl, l, ⟨h2, h2'⟩, h3, h4⟩ := h0
    exact Goes.foldN fl l (T i) (Hp i) h2 h2' h3 h4 ⟨i, h1, rfl, rfl⟩
  · obtain ⟨i, p1, e1, e2, e3, _⟩ := hM τ h hI
    subst e1; subst e2
    have := Run_sound n _ [.code body] (keepL (T i)) (Hp i) (by simp [itOk, hb]) (hr i p1)
    refine WC.mono this fun x τ' h' q => ?_
    cases x with
    | normal =>
      obtain ⟨j, ⟨q1, q2⟩, fl, l, ⟨q3, q3'⟩, q4, q5⟩ := q
      refine Goes.foldN fl l (T j) (Hp j) q3 q3' q4 q5 ⟨⟨j, q1, rfl, rfl⟩, ?_⟩
      obtain ⟨j', _, _, _, _, r4⟩ := hM (keepL (T j)) (Hp j) ⟨j, q1, rfl, rfl⟩
      have := r4 j q1 rfl rfl
      omega
    | exit id =>
      refine semK_exit ?_
      simp only [SemK, loopN] at q
      cases hp : popTo id k with
      | none => rw [hp] at q; exact q
      | some k' => rw [hp] at q; exact Run_sound m Q k' τ' h' (popTo_ok hp hk) q
    | ret => exact semK_ret q
    | pan v => exact semK_pan q
theorem foldC_sl {b b1 i o n cap n1 cap1 len : Nat} {els els1 : List (List V)} {el : List V} (hb : h[b]? = some ⟨els, n, cap, true⟩) (he : els[i]? = some el) (ho : el[o]? = some (.sl b1 0 len cap1)) (h1 : h[b1]? = some ⟨els1, n1, cap1, true⟩)
    (hl : els1.length = len) (hn : nrs els1 = true) (hne : b1 ≠ b) : foldC h b i o = (h.set b ⟨els.set i (el.set o (.l n1 els1)), n, cap, true⟩).set b1 Blk.dead := by
  subst hl
  unfold foldC foldK
  simp [hb, rdB, rdC, he, ho, refB, h1, ownOf, elsB, hn, hne, wrH, wrB, wrE, wrL]
theorem folds_nil (h : H) : folds h [] = h := rfl
theorem folds_one (h : H) (b i o : Nat) : folds h [(b, i, o)] = foldC h b i o := rfl
end
end Go.W
namespace Go.W
open Go Go.RowKit
section
variable {C : Cx} {N n0 n1 m : Nat} {Q : QT} {k : List It} {τ τ' : Tau} {I : H → Prop} {h' : H}
theorem rndQ_normal : rndQ C N n0 n1 m Q k τ I .normal τ' h' = Goes n1 (fun _ h2 => I h2) τ' h' := rfl
theorem rndQ_ret : rndQ C N n0 n1 m Q k τ I .ret τ' h' = Q .ret τ h' := rfl
theorem rndQ_exit (id : Nat) : rndQ C N n0 n1 m Q k τ I (.exit id) τ' h' = exitK (Run C N n0 m Q) Q id τ h' (popTo id k) := rfl
theorem rndQ_pan (v : V) : rndQ C N n0 n1 m Q k τ I (.pan v) τ' h' = Q (.pan v) τ h' := rfl
theorem rnd_eq (p : Prop) : (XV.normal = XV.normal ∧ p) = p := by simp
theorem fz_map {α : Type} {f : α → List V} (hf : ∀ a, (f a).all fzOk = true) (l : List α) : (l.map f).all (fun x => x.all fzOk) = true := by
  rw [List.all_map]; exact List.all_eq_true.2 fun a _ => hf a
end
set_option linter.all false in
noncomputable def WB9 := And.intro (And.intro @rndQ_normal @rndQ_ret) (And.intro (And.intro @rndQ_exit @rndQ_pan) rnd_eq)
end Go.W
/- part K2 -/
set_option linter.unusedVariables false
set_option linter.unusedSimpArgs false
set_option maxRecDepth 100000
namespace Go.Proofs.Ytpcgnmoogjahbaa
open Go Go.W Go.RowKit
theorem rV_ok (r : Rec) : (rV r).all cellOk = true := rfl
theorem rV_nr (r : Rec) : (rV r).all nr = true := rfl
theorem rL_nr (r : Rec) : (rL r).all nr = true := rfl
theorem fzss_sV (l : List ByteArray) : fzss (l.map sV) = l.map sV := by
  rw [fzss_map, List.map_map]; exact List.map_congr_left fun b _ => rfl
theorem rL_frz (n0 d : Nat) (h : H) (r : Rec) : (rL r).map (frz n0 d h) = rV r := by
  unfold rL rV
  simp only [List.map_cons, List.map_nil]
  cases d <;> simp only [frz, fzss_sV]
theorem rL_frzs (n0 d : Nat) (h : H) (l : List Rec) : ((l.map rL).map fun el => el.map (frz n0 d h)) = l.map rV := by
  rw [List.map_map]; exact List.map_congr_left fun r _ => rL_frz n0 d h r
theorem rV_frzs (n0 d : Nat) (h : H) (l : List Rec) : ((l.map rV).map fun el => el.map (frz n0 d h)) = l.map rV := frz_els (nrs_map rV_nr l) (leafs_map rV_ok l)
/-- A record whose list is one's own. -/
def rO (r : Rec) (b c : Nat) : List V := [.s (.string r.name), .s (.string r.src), .sl b 0 r.faces.length c, .s (.string r.face), .s (.string r.obj)]
def NewR (f : Nat) (args : List V) (r : Rec) : Prop :=
  CallsV C f args [] fun res h' => ∃ c, r.faces.length ≤ c ∧ res = .ret (.agg (rO r 0 c)) ∧ h' = [⟨r.faces.map sV, 1, c, true⟩]
theorem NewR.at_ {f : Nat} {args args' : List V} {r : Rec} (p : NewR f args r) (d : Nat) (H : H) (ha : args = args'.map (frz 0 d H)) :
    CallsV C f args' H fun res h' => ∃ c, r.faces.length ≤ c ∧ res = .ret (.agg (rO r H.length c)) ∧ h' = H ++ [⟨r.faces.map sV, 1, c, true⟩] := by
  refine (CallsV.lend p ?_ d H ha).mono fun res h' ⟨r', h1, ⟨c, q1, q3, q4⟩, q5, q6⟩ => ⟨c, q1, ?_, by rw [q6, q4]⟩
  · rintro r' h' ⟨c, q1, rfl, rfl⟩
    exact ⟨rfl, by simp [plains_map sV_plain]⟩
  · rw [q5, q3]; rfl
theorem CallThen.newR {N n0 : Nat} {Q : QT} {k : List It} {τ : Tau} {h : H} {f : Nat} {args args' : List V} {r : Rec} {d : Option Nat} (p : NewR f args r) (dd : Nat) (ha : args = args'.map (frz 0 dd h)) (m : Nat)
    (hr : ∀ c, r.faces.length ≤ c → Run C N n0 m Q k (upo d (.agg (rO r h.length c)) τ) (h ++ [⟨r.faces.map sV, 1, c, true⟩])) : CallThen C N n0 Q f args' d k τ h :=
  CallThen.of m (p.at_ dd h ha) fun res h' ⟨c, e1, e3, e4⟩ => by subst e3; subst e4; exact hr c e1
theorem new62 (r : Rec) (hl : r.faces.length ≤ 1048576) : NewR 62 [.agg (rV r)] r := by
  refine calls_of_run Try.func62 rfl (by kernel_rfl) (by kernel_rfl) (by simp) 1000 ?_
  simp +contextual (maxSteps := 2000000) (disch := ((try unfold LIM at *); omega)) only [↓bcase_true, ↓bcase_false, WA, simprocAttr, wrap_i64, rV]
  refine CallThen.new (new21 r.faces hl) (nrs_map sV_nr _) (fun _ => rfl) 1000 fun c1 hc1 => ?_
  rw [List.length_map] at hc1
  simp +contextual (maxSteps := 2000000) (disch := ((try unfold LIM at *); omega)) only [↓bcase_true, ↓bcase_false, WA, simprocAttr, wrap_i64, rV, List.length_map]
  refine Up.gc (.agg (rO r 0 c1)) [3] [⟨r.faces.map sV, 1, c1, true⟩] (by simp) ?_ ?_ ⟨c1, hc1, rfl, rfl⟩
  · exact ⟨.inl ⟨nrs_map sV_nr _, rfl⟩, trivial⟩
  · rfl
def zR : List V := [.s (.string ⟨#[]⟩), .s (.string ⟨#[]⟩), .z, .s (.string ⟨#[]⟩), .s (.string ⟨#[]⟩)]
theorem new20 (l : List Rec) (hl : l.length ≤ 1048576) (hf : ∀ r ∈ l, r.faces.length ≤ 1048576) : NewV C 20 [.f 5 (l.map rV)] 5 (l.map rL) := by
  refine calls_of_run Try.func20 rfl (by kernel_rfl) (by kernel_rfl) (by simp) 1000 ?_
  have z1 := fun n => nrs_replicate (el := [V.s (.string ⟨#[]⟩), .s (.string ⟨#[]⟩), .z, .s (.string ⟨#[]⟩), .s (.string ⟨#[]⟩)]) rfl n
  have b0 : (0 : Int) ≤ l.length := by omega
  have b1 : (88 : Int) * l.length ≤ 140737488355328 := by omega
  have b2 : (l.length : Int) ≤ 4611686018427387904 := by omega
  simp +contextual (maxSteps := 2000000) (disch := ((try unfold LIM at *); omega)) only [↓bcase_true, ↓bcase_false, WA, simprocAttr, wrap_i64, List.length_map, b0, b1, b2, Int.le_refl]
  intro hl'
  refine LoopThen.ownF 0 (ι := Nat) (fun i => i ≤ l.length) (fun i => [(0, .f 5 (l.map rV)), (3, .sl 0 0 l.length l.length), (4, .s (.int .i64 i))]) (fun i => [⟨(l.take i).map rL ++ List.replicate (l.length - i) [V.s (.string ⟨#[]⟩), .s (.string ⟨#[]⟩), .z, .s (.string ⟨#[]⟩), .s (.string ⟨#[]⟩)], 5, l.length, true⟩]) (fun i => l.length - i)
    1000 1000 ⟨0, Nat.zero_le _, [], [0], by simp, by simp +contextual (maxSteps := 2000000) (disch := ((try unfold LIM at *); omega)) only [↓bcase_true, ↓bcase_false, WA, simprocAttr, wrap_i64, folds_nil, z1, Nat.sub_zero, true_or], by simp +contextual (maxSteps := 2000000) (disch := ((try unfold LIM at *); omega)) only [↓bcase_true, ↓bcase_false, WA, simprocAttr, wrap_i64, folds_nil]⟩ ?_
  intro i p1
  by_cases c2 : (i : Int) < l.length
  · obtain ⟨f, hf1⟩ := get_lt c2
    have hff := hf f (List.mem_of_getElem? hf1)
    have pi : (0 : Int) ≤ i := by omega
    obtain ⟨k, hk⟩ : ∃ k, l.length - i = k + 1 := ⟨l.length - i - 1, by omega⟩
    have hl1 : ((l.take i).map rL).length = i := by simp; omega
    have g1 : ((l.take i).map rL ++ List.replicate (l.length - i) [V.s (.string ⟨#[]⟩), .s (.string ⟨#[]⟩), .z, .s (.string ⟨#[]⟩), .s (.string ⟨#[]⟩)])[i]? = some [V.s (.string ⟨#[]⟩), .s (.string ⟨#[]⟩), .z, .s (.string ⟨#[]⟩), .s (.string ⟨#[]⟩)] := by rw [fill_get _ _ hl1, hk]; rfl
    have g2 : ∀ x, ((l.take i).map rL ++ List.replicate (l.length - i) [V.s (.string ⟨#[]⟩), .s (.string ⟨#[]⟩), .z, .s (.string ⟨#[]⟩), .s (.string ⟨#[]⟩)]).set i x = (l.take i).map rL ++ x :: List.replicate k [V.s (.string ⟨#[]⟩), .s (.string ⟨#[]⟩), .z, .s (.string ⟨#[]⟩), .s (.string ⟨#[]⟩)] := by
      intro x; rw [hk, fill_set _ _ _ _ _ hl1]; simp
    simp +contextual (maxSteps := 2000000) (disch := ((try unfold LIM at *); omega)) only [↓bcase_true, ↓bcase_false, WA, simprocAttr, wrap_i64, List.length_map, hl', c2, hf1, pi, rV]
    refine CallThen.newR (new62 f hff) 1 rfl 1000 fun c1 hc1 => ?_
    simp +contextual (maxSteps := 2000000) (disch := ((try unfold LIM at *); omega)) only [↓bcase_true, ↓bcase_false, WA, simprocAttr, wrap_i64, List.length_map, c2, pi, rO, g1, g2, cast_succ, WB7, WB8]
    refine ⟨i + 1, ⟨by omega, by omega⟩, [(0, i, 2)], [0], by simp, ?_, by simp +contextual (maxSteps := 2000000) (disch := ((try unfold LIM at *); omega)) only [↓bcase_true, ↓bcase_false, WA, simprocAttr, wrap_i64]⟩
    rw [folds_one, foldC_sl (b1 := 1) rfl (mid_get hl1) rfl rfl (by rw [List.length_map]) (nrs_map sV_nr _) (by simp)]
    have g3 : (l.take (i + 1)).map rL = (l.take i).map rL ++ [rL f] := by rw [List.take_add_one, hf1]; simp
    have g5 : ∀ x y, ((l.take i).map rL ++ x :: List.replicate k y).set i (rL f) = (l.take (i + 1)).map rL ++ List.replicate (l.length - (i + 1)) y := by
      intro x y; rw [mid_set hl1, g3, show l.length - (i + 1) = k by omega]; simp
    refine ⟨.inl ⟨?_, ?_⟩, trivial⟩
    · simp only [nrs_append, nrs_map rL_nr, z1, Bool.and_self]
    · show some _ = some _
      exact congrArg some (congrArg (fun e => (⟨e, 5, l.length, true⟩ : Blk)) (g5 _ _))
  · have e : i = l.length := by omega
    subst e
    have g4 : (l.take l.length).map rL ++ List.replicate (l.length - l.length) [V.s (.string ⟨#[]⟩), .s (.string ⟨#[]⟩), .z, .s (.string ⟨#[]⟩), .s (.string ⟨#[]⟩)] = l.map rL := by simp
    simp +contextual (maxSteps := 2000000) (disch := ((try unfold LIM at *); omega)) only [↓bcase_true, ↓bcase_false, WA, simprocAttr, wrap_i64, List.length_map, hl', c2, g4, WB7, WB8]
    exact Up.fresh (b := 0) rfl (nrs_map rL_nr _) ⟨l.length, Nat.le_refl _, rfl, rfl⟩
end Go.Proofs.Ytpcgnmoogjahbaa
/- part K3 -/
set_option linter.unusedVariables false
set_option linter.unusedSimpArgs false
set_option maxRecDepth 100000
namespace Go.Proofs.Ytpcgnmoogjahbaa
open Go Go.W Go.RowKit
theorem walk25 (l m : List ByteArray) : PureV C 25 [.f 1 (l.map sV), .f 1 (m.map sV)] (.s (.bool (decide (l = m)))) := by
  refine pure_of_run Try.func25 rfl (by kernel_rfl) (by kernel_rfl) (by simp) (fun _ => rfl) (fun _ => rfl) 6 1000 ?_
  by_cases lm : l.length = m.length
  · have ml : (m.length : Int) = l.length := by omega
    simp +contextual (maxSteps := 2000000) (disch := ((try unfold LIM at *); omega)) only [↓bcase_true, ↓bcase_false, WA, simprocAttr, wrap_i64, List.length_map, ml]
    intro hm hl
    refine LoopThen.pure (ι := Nat) (fun i => i ≤ l.length ∧ l.take i = m.take i) (fun i => keepL [(0, .f 1 (l.map sV)), (1, .f 1 (m.map sV)), (5, .s (.int .i64 i))]) (fun i => l.length - i) 6 [0, 1, 5] 1000 1000 ⟨0, ⟨Nat.zero_le _, rfl⟩, by simp +contextual (maxSteps := 2000000) (disch := ((try unfold LIM at *); omega)) only [↓bcase_true, ↓bcase_false, WA, simprocAttr, wrap_i64]⟩ ?_
    rintro i ⟨p1, p2⟩
    by_cases c2 : (i : Int) < l.length
    · obtain ⟨f, hf⟩ := get_lt c2
      obtain ⟨g, hg⟩ := get_lt (show (i : Int) < m.length by omega)
      have pi : (0 : Int) ≤ i := by omega
      simp +contextual (maxSteps := 2000000) (disch := ((try unfold LIM at *); omega)) only [↓bcase_true, ↓bcase_false, WA, simprocAttr, wrap_i64, List.length_map, hl, hm, c2, hf, hg, pi]
      refine DrawThen.of 1000 [] (.old 0 (.old 1 (.old 2 (.old 3 (.old 4 (.old 5 (.old 6 (.old 7 (.old 8 .done))))))))) (panFree_loopP (panFree_pure _ _ _)) (by kernel_rfl) (by kernel_rfl) (by kernel_rfl) ?_
      by_cases c3 : f = g
      · simp +contextual (maxSteps := 2000000) (disch := ((try unfold LIM at *); omega)) only [↓bcase_true, ↓bcase_false, WA, simprocAttr, wrap_i64, hl, hm, c2, hf, hg, pi, List.length_map, sV, c3, bne_self_eq_false, cast_succ]
        try intros
        exact ⟨i + 1, ⟨⟨by omega, by rw [List.take_add_one, List.take_add_one, p2, hf, hg, c3]⟩, by omega⟩, rfl⟩
      · have ne : ¬ l = m := fun e => c3 (by rw [e, hg] at hf; exact (Option.some.inj hf).symm)
        simp +contextual (maxSteps := 2000000) (disch := ((try unfold LIM at *); omega)) only [↓bcase_true, ↓bcase_false, WA, simprocAttr, wrap_i64, hl, hm, c2, hf, hg, pi, List.length_map, sV, c3, ne]
    · have e : i = l.length := by omega
      subst e
      have eq : l = m := by rw [List.take_length, lm, List.take_length] at p2; exact p2
      subst eq
      simp +contextual (maxSteps := 2000000) (disch := ((try unfold LIM at *); omega)) only [↓bcase_true, ↓bcase_false, WA, simprocAttr, wrap_i64, List.length_map, hl, hm, c2]
  · have ne : ¬ l = m := fun e => lm (by rw [e])
    have ml : ¬ (l.length : Int) = m.length := by omega
    simp +contextual (maxSteps := 2000000) (disch := ((try unfold LIM at *); omega)) only [↓bcase_true, ↓bcase_false, WA, simprocAttr, wrap_i64, List.length_map, ml, ne]
theorem walk60 (l m : List ByteArray) : PureV C 60 [.f 1 (l.map sV), .f 1 (m.map sV)] (.s (.bool (decide (l = m)))) := by
  refine pure_of_run Try.func60 rfl (by kernel_rfl) (by kernel_rfl) (by simp) (fun _ => rfl) (fun _ => rfl) 6 1000 ?_
  by_cases lm : l.length = m.length
  · have ml : (m.length : Int) = l.length := by omega
    simp +contextual (maxSteps := 2000000) (disch := ((try unfold LIM at *); omega)) only [↓bcase_true, ↓bcase_false, WA, simprocAttr, wrap_i64, List.length_map, ml]
    intro hm hl
    refine LoopThen.pure (ι := Nat) (fun i => i ≤ l.length ∧ l.take i = m.take i) (fun i => keepL [(0, .f 1 (l.map sV)), (1, .f 1 (m.map sV)), (5, .s (.int .i64 i))]) (fun i => l.length - i) 6 [0, 1, 5] 1000 1000 ⟨0, ⟨Nat.zero_le _, rfl⟩, by simp +contextual (maxSteps := 2000000) (disch := ((try unfold LIM at *); omega)) only [↓bcase_true, ↓bcase_false, WA, simprocAttr, wrap_i64]⟩ ?_
    rintro i ⟨p1, p2⟩
    by_cases c2 : (i : Int) < l.length
    · obtain ⟨f, hf⟩ := get_lt c2
      obtain ⟨g, hg⟩ := get_lt (show (i : Int) < m.length by omega)
      have pi : (0 : Int) ≤ i := by omega
      simp +contextual (maxSteps := 2000000) (disch := ((try unfold LIM at *); omega)) only [↓bcase_true, ↓bcase_false, WA, simprocAttr, wrap_i64, List.length_map, hl, hm, c2, hf, hg, pi]
      refine DrawThen.of 1000 [] (.old 0 (.old 1 (.old 2 (.old 3 (.old 4 (.old 5 (.old 6 (.old 7 (.old 8 .done))))))))) (panFree_loopP (panFree_pure _ _ _)) (by kernel_rfl) (by kernel_rfl) (by kernel_rfl) ?_
      by_cases c3 : f = g
      · simp +contextual (maxSteps := 2000000) (disch := ((try unfold LIM at *); omega)) only [↓bcase_true, ↓bcase_false, WA, simprocAttr, wrap_i64, hl, hm, c2, hf, hg, pi, List.length_map, sV, c3, bne_self_eq_false, cast_succ]
        try intros
        exact ⟨i + 1, ⟨⟨by omega, by rw [List.take_add_one, List.take_add_one, p2, hf, hg, c3]⟩, by omega⟩, rfl⟩
      · have ne : ¬ l = m := fun e => c3 (by rw [e, hg] at hf; exact (Option.some.inj hf).symm)
        simp +contextual (maxSteps := 2000000) (disch := ((try unfold LIM at *); omega)) only [↓bcase_true, ↓bcase_false, WA, simprocAttr, wrap_i64, hl, hm, c2, hf, hg, pi, List.length_map, sV, c3, ne]
    · have e : i = l.length := by omega
      subst e
      have eq : l = m := by rw [List.take_length, lm, List.take_length] at p2; exact p2
      subst eq
      simp +contextual (maxSteps := 2000000) (disch := ((try unfold LIM at *); omega)) only [↓bcase_true, ↓bcase_false, WA, simprocAttr, wrap_i64, List.length_map, hl, hm, c2]
  · have ne : ¬ l = m := fun e => lm (by rw [e])
    have ml : ¬ (l.length : Int) = m.length := by omega
    simp +contextual (maxSteps := 2000000) (disch := ((try unfold LIM at *); omega)) only [↓bcase_true, ↓bcase_false, WA, simprocAttr, wrap_i64, List.length_map, ml, ne]
theorem walk64 (l m : List ByteArray) : PureV C 64 [.f 1 (l.map sV), .f 1 (m.map sV)] (.s (.bool (decide (l = m)))) := by
  refine pure_of_run Try.func64 rfl (by kernel_rfl) (by kernel_rfl) (by simp) (fun _ => rfl) (fun _ => rfl) 6 1000 ?_
  by_cases lm : l.length = m.length
  · have ml : (m.length : Int) = l.length := by omega
    simp +contextual (maxSteps := 2000000) (disch := ((try unfold LIM at *); omega)) only [↓bcase_true, ↓bcase_false, WA, simprocAttr, wrap_i64, List.length_map, ml]
    intro hm hl
    refine LoopThen.pure (ι := Nat) (fun i => i ≤ l.length ∧ l.take i = m.take i) (fun i => keepL [(0, .f 1 (l.map sV)), (1, .f 1 (m.map sV)), (12, .s (.int .i64 l.length)), (13, .s (.int .i64 i))]) (fun i => l.length - i) 6 [0, 1, 12, 13] 1000 1000 ⟨0, ⟨Nat.zero_le _, rfl⟩, by simp +contextual (maxSteps := 2000000) (disch := ((try unfold LIM at *); omega)) only [↓bcase_true, ↓bcase_false, WA, simprocAttr, wrap_i64]⟩ ?_
    rintro i ⟨p1, p2⟩
    by_cases c2 : (i : Int) < l.length
    · obtain ⟨f, hf⟩ := get_lt c2
      obtain ⟨g, hg⟩ := get_lt (show (i : Int) < m.length by omega)
      have pi : (0 : Int) ≤ i := by omega
      simp +contextual (maxSteps := 2000000) (disch := ((try unfold LIM at *); omega)) only [↓bcase_true, ↓bcase_false, WA, simprocAttr, wrap_i64, List.length_map, hl, hm, c2, hf, hg, pi]
      refine DrawThen.of 1000 [] (.old 0 (.old 1 (.old 2 (.old 3 (.old 4 (.old 5 (.old 6 (.old 7 (.old 8 .done))))))))) (panFree_loopP (panFree_pure _ _ _)) (by kernel_rfl) (by kernel_rfl) (by kernel_rfl) ?_
      by_cases c3 : f = g
      · simp +contextual (maxSteps := 2000000) (disch := ((try unfold LIM at *); omega)) only [↓bcase_true, ↓bcase_false, WA, simprocAttr, wrap_i64, hl, hm, c2, hf, hg, pi, List.length_map, sV, c3, bne_self_eq_false, cast_succ]
        try intros
        exact ⟨i + 1, ⟨⟨by omega, by rw [List.take_add_one, List.take_add_one, p2, hf, hg, c3]⟩, by omega⟩, rfl⟩
      · have ne : ¬ l = m := fun e => c3 (by rw [e, hg] at hf; exact (Option.some.inj hf).symm)
        simp +contextual (maxSteps := 2000000) (disch := ((try unfold LIM at *); omega)) only [↓bcase_true, ↓bcase_false, WA, simprocAttr, wrap_i64, hl, hm, c2, hf, hg, pi, List.length_map, sV, c3, ne]
    · have e : i = l.length := by omega
      subst e
      have eq : l = m := by rw [List.take_length, lm, List.take_length] at p2; exact p2
      subst eq
      simp +contextual (maxSteps := 2000000) (disch := ((try unfold LIM at *); omega)) only [↓bcase_true, ↓bcase_false, WA, simprocAttr, wrap_i64, List.length_map, hl, hm, c2]
  · have ne : ¬ l = m := fun e => lm (by rw [e])
    have ml : ¬ (l.length : Int) = m.length := by omega
    simp +contextual (maxSteps := 2000000) (disch := ((try unfold LIM at *); omega)) only [↓bcase_true, ↓bcase_false, WA, simprocAttr, wrap_i64, List.length_map, ml, ne]
theorem walk23 (r q : Rec) : PureV C 23 [.agg (rV r), .agg (rV q)] (.s (.bool (decide (r = q)))) := by
  refine pure_of_run Try.func23 rfl (by kernel_rfl) (by kernel_rfl) (by simp) (fun _ => rfl) (fun _ => rfl) 6 1000 ?_
  obtain ⟨n, s, f, a, o⟩ := r
  obtain ⟨n', s', f', a', o'⟩ := q
  by_cases c1 : n = n'
  · by_cases c2 : s = s'
    · simp +contextual (maxSteps := 2000000) (disch := ((try unfold LIM at *); omega)) only [↓bcase_true, ↓bcase_false, WA, simprocAttr, wrap_i64, rV, Rec.mk.injEq, c1, c2, bne_self_eq_false]
      refine CallThen.pure (walk25 f f') 1000 ?_
      by_cases c3 : f = f'
      · simp +contextual (maxSteps := 2000000) (disch := ((try unfold LIM at *); omega)) only [↓bcase_true, ↓bcase_false, WA, simprocAttr, wrap_i64, rV, Rec.mk.injEq, c1, c2, c3]
      · simp +contextual (maxSteps := 2000000) (disch := ((try unfold LIM at *); omega)) only [↓bcase_true, ↓bcase_false, WA, simprocAttr, wrap_i64, rV, Rec.mk.injEq, c1, c2, c3]
    · simp +contextual (maxSteps := 2000000) (disch := ((try unfold LIM at *); omega)) only [↓bcase_true, ↓bcase_false, WA, simprocAttr, wrap_i64, rV, Rec.mk.injEq, c1, c2, bne_self_eq_false]
  · simp +contextual (maxSteps := 2000000) (disch := ((try unfold LIM at *); omega)) only [↓bcase_true, ↓bcase_false, WA, simprocAttr, wrap_i64, rV, Rec.mk.injEq, c1]
theorem walk24 (l m : List Rec) : PureV C 24 [.f 5 (l.map rV), .f 5 (m.map rV)] (.s (.bool (decide (l = m)))) := by
  refine pure_of_run Try.func24 rfl (by kernel_rfl) (by kernel_rfl) (by simp) (fun _ => rfl) (fun _ => rfl) 6 1000 ?_
  by_cases lm : l.length = m.length
  · have ml : (m.length : Int) = l.length := by omega
    simp +contextual (maxSteps := 2000000) (disch := ((try unfold LIM at *); omega)) only [↓bcase_true, ↓bcase_false, WA, simprocAttr, wrap_i64, List.length_map, ml]
    intro hm hl
    refine LoopThen.pure (ι := Nat) (fun i => i ≤ l.length ∧ l.take i = m.take i) (fun i => keepL [(0, .f 5 (l.map rV)), (1, .f 5 (m.map rV)), (5, .s (.int .i64 i))]) (fun i => l.length - i) 6 [0, 1, 5] 1000 1000 ⟨0, ⟨Nat.zero_le _, rfl⟩, by simp +contextual (maxSteps := 2000000) (disch := ((try unfold LIM at *); omega)) only [↓bcase_true, ↓bcase_false, WA, simprocAttr, wrap_i64]⟩ ?_
    rintro i ⟨p1, p2⟩
    by_cases c2 : (i : Int) < l.length
    · obtain ⟨f, hf⟩ := get_lt c2
      obtain ⟨g, hg⟩ := get_lt (show (i : Int) < m.length by omega)
      have pi : (0 : Int) ≤ i := by omega
      simp +contextual (maxSteps := 2000000) (disch := ((try unfold LIM at *); omega)) only [↓bcase_true, ↓bcase_false, WA, simprocAttr, wrap_i64, List.length_map, hl, hm, c2, hf, hg, pi]
      refine DrawThen.of 1000 [] (.old 0 (.old 1 (.old 2 (.old 3 (.old 4 (.old 5 (.old 6 (.old 7 (.go 8 (.new 9 .done)))))))))) (panFree_loopP (panFree_pure _ _ _)) (by kernel_rfl) (by kernel_rfl) (by kernel_rfl) ?_
      simp +contextual (maxSteps := 2000000) (disch := ((try unfold LIM at *); omega)) only [↓bcase_true, ↓bcase_false, WA, simprocAttr, wrap_i64, hl, hm, c2, hf, hg, pi, List.length_map, rV]
      refine DCall.pure (walk23 f g) 1000 (.new 9 .done) (by kernel_rfl) ?_
      by_cases c3 : f = g
      · simp +contextual (maxSteps := 2000000) (disch := ((try unfold LIM at *); omega)) only [↓bcase_true, ↓bcase_false, WA, simprocAttr, wrap_i64, c3, cast_succ]
        exact ⟨i + 1, ⟨⟨by omega, by rw [List.take_add_one, List.take_add_one, p2, hf, hg, c3]⟩, by omega⟩, rfl⟩
      · have ne : ¬ l = m := fun e => c3 (by rw [e, hg] at hf; exact (Option.some.inj hf).symm)
        simp +contextual (maxSteps := 2000000) (disch := ((try unfold LIM at *); omega)) only [↓bcase_true, ↓bcase_false, WA, simprocAttr, wrap_i64, c3, ne]
    · have e : i = l.length := by omega
      subst e
      have eq : l = m := by rw [List.take_length, lm, List.take_length] at p2; exact p2
      subst eq
      simp +contextual (maxSteps := 2000000) (disch := ((try unfold LIM at *); omega)) only [↓bcase_true, ↓bcase_false, WA, simprocAttr, wrap_i64, List.length_map, hl, hm, c2]
  · have ml : ¬ (l.length : Int) = m.length := by omega
    have ne : ¬ l = m := fun e => lm (by rw [e])
    simp +contextual (maxSteps := 2000000) (disch := ((try unfold LIM at *); omega)) only [↓bcase_true, ↓bcase_false, WA, simprocAttr, wrap_i64, List.length_map, ml, ne]
end Go.Proofs.Ytpcgnmoogjahbaa
/- part K4 -/
set_option linter.unusedVariables false
set_option linter.unusedSimpArgs false
set_option maxRecDepth 100000
namespace Go.Proofs.Ytpcgnmoogjahbaa
open Go Go.W Go.RowKit
theorem walk103 (l : List ByteArray) (hl : l.length ≤ 1048576) : NewV C 103 [.f 1 (l.map sV)] 1 (l.map sV) := by
  refine calls_of_run Try.func103 rfl (by kernel_rfl) (by kernel_rfl) (by simp) 1000 ?_
  have q1 : l.length * 16 ≤ 140737488355328 ∧ l.length ≤ LIM := by unfold LIM; omega
  simp +contextual (maxSteps := 2000000) (disch := ((try unfold LIM at *); omega)) only [↓bcase_true, ↓bcase_false, WA, simprocAttr, wrap_i64, leafs_map sV_ok, List.length_map, q1, takeTo, List.take_length, take_map_len]
  intro r hr
  cases r with
  | true =>
    simp +contextual (maxSteps := 2000000) (disch := ((try unfold LIM at *); omega)) only [↓bcase_true, ↓bcase_false, WA, simprocAttr, wrap_i64]
    have e : l = [] := by
      cases l with
      | nil => rfl
      | cons a b => exact absurd (hr (by simp)) (by simp)
    subst e
    exact Up.nil 1 ⟨0, by simp, rfl, rfl⟩
  | false =>
    simp +contextual (maxSteps := 2000000) (disch := ((try unfold LIM at *); omega)) only [↓bcase_true, ↓bcase_false, WA, simprocAttr, wrap_i64, leafs_map sV_ok, List.length_map, q1, takeTo, List.take_length, take_map_len]
    intro cap' hc _
    exact Up.fresh (b := 1) rfl (nrs_map sV_nr _) ⟨cap', hc, rfl, rfl⟩
theorem new65 (r : Rec) (hl : r.faces.length ≤ 1048576) : NewR 65 [.agg (rV r)] r := by
  refine calls_of_run Try.func65 rfl (by kernel_rfl) (by kernel_rfl) (by simp) 1000 ?_
  simp +contextual (maxSteps := 2000000) (disch := ((try unfold LIM at *); omega)) only [↓bcase_true, ↓bcase_false, WA, simprocAttr, wrap_i64, rV]
  refine CallThen.new (walk103 r.faces hl) (nrs_map sV_nr _) (fun _ => rfl) 1000 fun c1 hc1 => ?_
  rw [List.length_map] at hc1
  simp +contextual (maxSteps := 2000000) (disch := ((try unfold LIM at *); omega)) only [↓bcase_true, ↓bcase_false, WA, simprocAttr, wrap_i64, rV, List.length_map]
  refine Up.gc (.agg (rO r 0 c1)) [2] [⟨r.faces.map sV, 1, c1, true⟩] (by simp) ?_ ?_ ⟨c1, hc1, rfl, rfl⟩
  · exact ⟨.inl ⟨nrs_map sV_nr _, rfl⟩, trivial⟩
  · rfl
theorem walk61 (r : Rec) (hl : r.faces.length ≤ 1048576) : PureV C 61 [.agg (rV r)] (.agg (rV r)) := by
  refine pure_of_run Try.func61 rfl (by kernel_rfl) (by kernel_rfl) (by simp) (fun _ => rfl) (fun _ => rfl) 6 1000 ?_
  have q1 : r.faces.length * 16 ≤ 140737488355328 ∧ r.faces.length ≤ LIM := by unfold LIM; omega
  simp +contextual (maxSteps := 2000000) (disch := ((try unfold LIM at *); omega)) only [↓bcase_true, ↓bcase_false, WA, simprocAttr, wrap_i64, rV, leafs_map sV_ok, List.length_map, q1, takeTo, List.take_length, take_map_len]
  intro cap' _ _
  rw [sV_frz]
theorem pure102 (els : List (List V)) : PureV C 102 [.f 5 els] (.fn 125 [.pd [.f 5 els]]) := by
  refine pure_of_run Try.func102 rfl (by kernel_rfl) (by kernel_rfl) (by simp) (fun _ => rfl) (fun _ => rfl) 6 1000 ?_
  simp +contextual (maxSteps := 2000000) (disch := ((try unfold LIM at *); omega)) only [↓bcase_true, ↓bcase_false, WA, simprocAttr, wrap_i64]
theorem back125 : BackV C 125 5 true := by
  refine BackV.of (pre := [_, _, _, _, _, _]) 1000 Try.func125 rfl rfl rfl rfl rfl rfl rfl (by decide) (by kernel_rfl) ?_ ?_ ?_ ?_ ?_ ?_ ?_
  · intro l els hl
    simp +contextual (maxSteps := 2000000) (disch := ((try unfold LIM at *); omega)) only [↓bcase_true, ↓bcase_false, WA, simprocAttr, wrap_i64, is3]
  · intro l els
    simp +contextual (maxSteps := 2000000) (disch := ((try unfold LIM at *); omega)) only [↓bcase_true, ↓bcase_false, WA, simprocAttr, wrap_i64, T3]
  · intro l els k
    have pi : (0 : Int) ≤ k := by omega
    simp +contextual (maxSteps := 2000000) (disch := ((try unfold LIM at *); omega)) only [↓bcase_true, ↓bcase_false, WA, simprocAttr, wrap_i64, T3, is3, pi]
  · intro l els k x hx hlx hfx hk hl
    match x, hlx, hfx with
    | [a, b, c, d, e], _, hfx =>
      simp only [List.all_cons, List.all_nil, Bool.and_true, Bool.and_eq_true] at hfx
      obtain ⟨f1, f2, f3, f4, f5⟩ := hfx
      have pi : (0 : Int) ≤ k := by omega
      simp +contextual (maxSteps := 2000000) (disch := ((try unfold LIM at *); omega)) only [↓bcase_true, ↓bcase_false, WA, simprocAttr, wrap_i64, T3, is3, hx, pi, fz_cell f1, fz_cell f2, fz_cell f3, fz_cell f4, fz_cell f5, rowW]
  · intro l els k
    simp +contextual (maxSteps := 2000000) (disch := ((try unfold LIM at *); omega)) only [↓bcase_true, ↓bcase_false, WA, simprocAttr, wrap_i64, T3, is3]
  · simp +contextual (maxSteps := 2000000) (disch := ((try unfold LIM at *); omega)) only [↓bcase_true, ↓bcase_false, WA, simprocAttr, wrap_i64]
  · intro l els k hk
    simp +contextual (maxSteps := 2000000) (disch := ((try unfold LIM at *); omega)) only [↓bcase_true, ↓bcase_false, WA, simprocAttr, wrap_i64, T3, is3]
def zRec : Rec := ⟨⟨#[]⟩, ⟨#[]⟩, [], ⟨#[]⟩, ⟨#[]⟩⟩
def lastR : List Rec → ByteArray → Rec × Bool
  | [], _ => (zRec, false)
  | r :: l, n => if (lastR l n).2 = true then lastR l n else if r.name = n then (r, true) else (zRec, false)
theorem lastR_none : ∀ {l : List Rec} {n : ByteArray}, (∀ r ∈ l, r.name ≠ n) → lastR l n = (zRec, false)
  | [], _, _ => rfl
  | r :: l, n, h => by
    have := lastR_none (l := l) (n := n) fun x hx => h x (by simp [hx])
    simp [lastR, this, h r (by simp)]
theorem lastR_some : ∀ {l : List Rec} {n : ByteArray} {k : Nat} {r : Rec}, l[k]? = some r → r.name = n → (∀ j x, k < j → l[j]? = some x → x.name ≠ n) → lastR l n = (r, true)
  | [], _, k, _, h, _, _ => by simp at h
  | x :: l, n, 0, r, h, e, hl => by
    simp at h; subst h
    have : lastR l n = (zRec, false) := lastR_none fun y hy => by
      obtain ⟨j, hj⟩ := List.mem_iff_getElem?.1 hy
      exact hl (j + 1) y (by omega) (by simpa using hj)
    simp [lastR, this, e]
  | x :: l, n, k + 1, r, h, e, hl => by
    have : lastR l n = (r, true) := lastR_some (k := k) (by simpa using h) e fun j y hj hy => hl (j + 1) y (by omega) (by simpa using hy)
    simp [lastR, this]
theorem rV_fz (r : Rec) : (rV r).all fzOk = true := rfl
theorem lastR_cases (l : List Rec) (n : ByteArray) : lastR l n = (zRec, false) ∨ (lastR l n).2 = true := by
  induction l with
  | nil => exact .inl rfl
  | cons r l ih =>
    rcases ih with e | e
    · by_cases c : r.name = n <;> simp [lastR, e, c]
    · simp [lastR, e]
def lastV (l : List Rec) (n : ByteArray) : List V := if (lastR l n).2 = true then rV (lastR l n).1 else [.s (.string ⟨#[]⟩), .s (.string ⟨#[]⟩), .z, .s (.string ⟨#[]⟩), .s (.string ⟨#[]⟩)]
theorem walk63z (l : List Rec) (n : ByteArray) : PureV C 63 [.f 5 (l.map rV), .s (.string n)] (.tup [.agg (lastV l n), .s (.bool (lastR l n).2)]) := by
  refine pure_of_run Try.func63 rfl (by kernel_rfl) (by kernel_rfl) (by simp) (fun _ => rfl) (fun _ => by unfold lastV; split <;> rfl) 6 1000 ?_
  simp +contextual (maxSteps := 2000000) (disch := ((try unfold LIM at *); omega)) only [↓bcase_true, ↓bcase_false, WA, simprocAttr, wrap_i64]
  refine CallThen.pure (pure102 _) 1000 ?_
  simp +contextual (maxSteps := 2000000) (disch := ((try unfold LIM at *); omega)) only [↓bcase_true, ↓bcase_false, WA, simprocAttr, wrap_i64]
  refine RangeThen.back (gf := 125) (n := 5) (ag := true) (els := l.map rV) (pi := 10) (pv := 11) 1000 1000 (fun k h' => h' = [⟨[[.s (.string n)]], 1, 1, true⟩, ⟨[[.s (.string ⟨#[]⟩), .s (.string ⟨#[]⟩), .z, .s (.string ⟨#[]⟩), .s (.string ⟨#[]⟩)]], 5, 1, true⟩, ⟨[[.s (.bool false)]], 1, 1, true⟩] ∧ ∀ j x, k ≤ j → l[j]? = some x → x.name ≠ n)
    back125 (by kernel_rfl) (by simp +contextual (maxSteps := 2000000) (disch := ((try unfold LIM at *); omega)) only [↓bcase_true, ↓bcase_false, WA, simprocAttr, wrap_i64]) (fz_map rV_fz l) rfl ⟨rfl, fun j x hj hx => absurd (List.getElem?_eq_some_iff.1 hx).1 (by rw [List.length_map] at hj; omega)⟩ ?_ ?_
  · rintro rd k el h' hel ⟨rfl, hno⟩
    rw [List.getElem?_map, Option.map_eq_some_iff] at hel
    obtain ⟨r, hr, rfl⟩ := hel
    by_cases c : r.name = n
    · have e := lastR_some hr c fun j x hj hx => hno j x (by omega) hx
      simp +contextual (maxSteps := 2000000) (disch := ((try unfold LIM at *); omega)) only [↓bcase_true, ↓bcase_false, WA, simprocAttr, wrap_i64, rowW, rV, WB9, c, lastV, e]
    · simp +contextual (maxSteps := 2000000) (disch := ((try unfold LIM at *); omega)) only [↓bcase_true, ↓bcase_false, WA, simprocAttr, wrap_i64, rowW, rV, WB9, c]
      exact Goes.ownN [0, 1, 2] [] [⟨[[.s (.string n)]], 1, 1, true⟩, ⟨[[.s (.string ⟨#[]⟩), .s (.string ⟨#[]⟩), .z, .s (.string ⟨#[]⟩), .s (.string ⟨#[]⟩)]], 5, 1, true⟩, ⟨[[.s (.bool false)]], 1, 1, true⟩] (by simp) rfl ⟨.inl ⟨rfl, rfl⟩, .inl ⟨rfl, rfl⟩, .inl ⟨rfl, rfl⟩, trivial⟩ trivial ⟨rfl, fun j x hj hx => by
        by_cases e : j = k
        · subst e; rw [hr] at hx; cases hx; exact c
        · exact hno j x (by omega) hx⟩
  · rintro h' ⟨rfl, hno⟩
    have e : lastR l n = (zRec, false) := lastR_none fun r hr => by
      obtain ⟨j, hj⟩ := List.mem_iff_getElem?.1 hr
      exact hno j r (Nat.zero_le _) hj
    simp +contextual (maxSteps := 2000000) (disch := ((try unfold LIM at *); omega)) only [↓bcase_true, ↓bcase_false, WA, simprocAttr, wrap_i64, lastV, e]
theorem walk63 (l : List Rec) (n : ByteArray) : PureV C 63 [.f 5 (l.map rV), .s (.string n)] (.tup [.agg (rV (lastR l n).1), .s (.bool (lastR l n).2)]) := by
  refine (walk63z l n).weak ?_ (fun _ => rfl)
  rcases lastR_cases l n with e | e
  · simp only [lastV, e]
    exact wkV_tup ⟨wkQ_agg ⟨wkC_refl _, wkC_refl _, wkC_z 1, wkC_refl _, wkC_refl _, trivial⟩, wkQ_refl _, trivial⟩
  · simp only [lastV, e]
    exact wkV_tup ⟨wkQ_refl _, wkQ_refl _, trivial⟩
end Go.Proofs.Ytpcgnmoogjahbaa
/- part K5 -/
set_option linter.unusedVariables false
set_option linter.unusedSimpArgs false
set_option maxRecDepth 100000
namespace Go.Proofs.Ytpcgnmoogjahbaa
open Go Go.W Go.RowKit
def hitR (l : List Rec) (n t : ByteArray) (fs : List ByteArray) : Rec × Bool :=
  if (lastR l n).2 = true ∧ (lastR l n).1.src = t ∧ (lastR l n).1.faces = fs then ((lastR l n).1, true) else (zRec, false)
def hitV (l : List Rec) (n t : ByteArray) (fs : List ByteArray) : List V := if (hitR l n t fs).2 = true then rV (hitR l n t fs).1 else [.s (.string ⟨#[]⟩), .s (.string ⟨#[]⟩), .z, .s (.string ⟨#[]⟩), .s (.string ⟨#[]⟩)]
theorem hit_cases (l : List Rec) (n t : ByteArray) (fs : List ByteArray) : hitR l n t fs = (zRec, false) ∨ (hitR l n t fs).2 = true := by
  unfold hitR; split
  · exact .inr rfl
  · exact .inl rfl
theorem walk19z (l : List Rec) (n t : ByteArray) (fs : List ByteArray) (hl : l.length ≤ 1048576) (hf : ∀ r ∈ l, r.faces.length ≤ 1048576) :
    PureV C 19 [.f 5 (l.map rV), .s (.string n), .s (.string t), .f 1 (fs.map sV)] (.tup [.agg (hitV l n t fs), .s (.bool (hitR l n t fs).2)]) := by
  refine pure_of_run Try.func19 rfl (by kernel_rfl) (by kernel_rfl) (by simp) (fun _ => rfl) (fun _ => by unfold hitV; split <;> rfl) 6 1000 ?_
  simp +contextual (maxSteps := 2000000) (disch := ((try unfold LIM at *); omega)) only [↓bcase_true, ↓bcase_false, WA, simprocAttr, wrap_i64, List.length_map]
  intro hll
  refine LoopThen.own (ι := Nat) (fun k => k ≤ l.length ∧ ∀ j x, k ≤ j → l[j]? = some x → x.name ≠ n) (fun k => [(0, .f 5 (l.map rV)), (1, .s (.string n)), (2, .s (.string t)), (3, .f 1 (fs.map sV)), (8, .ptr 0 0 0), (10, .s (.int .i64 ((k : Int) - 1)))])
    (fun _ => [⟨[[.s (.string ⟨#[]⟩), .s (.string ⟨#[]⟩), .z, .s (.string ⟨#[]⟩), .s (.string ⟨#[]⟩)]], 5, 1, true⟩]) (fun k => k) 1000 1000
    ⟨l.length, ⟨Nat.le_refl _, fun j x hj hx => absurd (List.getElem?_eq_some_iff.1 hx).1 (by omega)⟩, [0], by simp, by simp +contextual (maxSteps := 2000000) (disch := ((try unfold LIM at *); omega)) only [↓bcase_true, ↓bcase_false, WA, simprocAttr, wrap_i64], by simp +contextual (maxSteps := 2000000) (disch := ((try unfold LIM at *); omega)) only [↓bcase_true, ↓bcase_false, WA, simprocAttr, wrap_i64]⟩ ?_
  rintro k ⟨p1, hno⟩
  cases k with
  | zero =>
    have e : lastR l n = (zRec, false) := lastR_none fun r hr => by
      obtain ⟨j, hj⟩ := List.mem_iff_getElem?.1 hr
      exact hno j r (Nat.zero_le _) hj
    have e2 : hitR l n t fs = (zRec, false) := by simp [hitR, e]
    have pi : ¬ (0 : Int) ≤ ((0 : Nat) : Int) - 1 := by omega
    simp +contextual (maxSteps := 2000000) (disch := ((try unfold LIM at *); omega)) only [↓bcase_true, ↓bcase_false, WA, simprocAttr, wrap_i64, pi, hitV, e2]
  | succ i =>
    have c2 : (i : Int) < l.length := by omega
    obtain ⟨f, hf1⟩ := get_lt c2
    have hff := hf f (List.mem_of_getElem? hf1)
    have ei : ((i + 1 : Nat) : Int) - 1 = i := by omega
    have pi : (0 : Int) ≤ i := by omega
    by_cases c3 : f.name = n
    · have e := lastR_some hf1 c3 fun j x hj hx => hno j x (by omega) hx
      by_cases c4 : f.src = t
      · simp +contextual (maxSteps := 2000000) (disch := ((try unfold LIM at *); omega)) only [↓bcase_true, ↓bcase_false, WA, simprocAttr, wrap_i64, ei, List.length_map, pi, c2, hf1, rV, c3, c4]
        refine CallThen.pure (walk60 f.faces fs) 1000 ?_
        by_cases c5 : f.faces = fs
        · have e2 : hitR l n t fs = (f, true) := by simp [hitR, e, c4, c5]
          simp +contextual (maxSteps := 2000000) (disch := ((try unfold LIM at *); omega)) only [↓bcase_true, ↓bcase_false, WA, simprocAttr, wrap_i64, ei, List.length_map, pi, c2, hf1, rV, c3, c4, c5]
          have h61 := walk61 f hff
          simp only [rV, c3, c4, c5] at h61
          refine CallThen.pure h61 1000 ?_
          simp +contextual (maxSteps := 2000000) (disch := ((try unfold LIM at *); omega)) only [↓bcase_true, ↓bcase_false, WA, simprocAttr, wrap_i64, hitV, e2, rV, c3, c4, c5]
        · have e2 : hitR l n t fs = (zRec, false) := by simp [hitR, e, c4, c5]
          simp +contextual (maxSteps := 2000000) (disch := ((try unfold LIM at *); omega)) only [↓bcase_true, ↓bcase_false, WA, simprocAttr, wrap_i64, ei, List.length_map, pi, c2, hf1, rV, c3, c4, c5, hitV, e2]
      · have e2 : hitR l n t fs = (zRec, false) := by simp [hitR, e, c4]
        simp +contextual (maxSteps := 2000000) (disch := ((try unfold LIM at *); omega)) only [↓bcase_true, ↓bcase_false, WA, simprocAttr, wrap_i64, ei, List.length_map, pi, c2, hf1, rV, c3, c4, hitV, e2]
    · simp +contextual (maxSteps := 2000000) (disch := ((try unfold LIM at *); omega)) only [↓bcase_true, ↓bcase_false, WA, simprocAttr, wrap_i64, ei, List.length_map, pi, c2, hf1, rV, c3]
      exact ⟨i, ⟨⟨by omega, fun j x hj hx => by
        by_cases e : j = i
        · subst e; rw [hf1] at hx; cases hx; exact c3
        · exact hno j x (by omega) hx⟩, by omega⟩, [0], by simp, ⟨.inl ⟨rfl, rfl⟩, trivial⟩, rfl, rfl⟩
theorem walk19 (l : List Rec) (n t : ByteArray) (fs : List ByteArray) (hl : l.length ≤ 1048576) (hf : ∀ r ∈ l, r.faces.length ≤ 1048576) :
    PureV C 19 [.f 5 (l.map rV), .s (.string n), .s (.string t), .f 1 (fs.map sV)] (.tup [.agg (rV (hitR l n t fs).1), .s (.bool (hitR l n t fs).2)]) := by
  refine (walk19z l n t fs hl hf).weak ?_ (fun _ => rfl)
  rcases hit_cases l n t fs with e | e
  · simp only [hitV, e]
    exact wkV_tup ⟨wkQ_agg ⟨wkC_refl _, wkC_refl _, wkC_z 1, wkC_refl _, wkC_refl _, trivial⟩, wkQ_refl _, trivial⟩
  · simp only [hitV, e]
    exact wkV_tup ⟨wkQ_refl _, wkQ_refl _, trivial⟩
/-- A record whose list is one's own, and an answer. -/
def NewRB (f : Nat) (args : List V) (r : Rec) (b : Bool) : Prop :=
  CallsV C f args [] fun res h' => ∃ c, r.faces.length ≤ c ∧ res = .ret (.tup [.agg (rO r 0 c), .s (.bool b)]) ∧ h' = [⟨r.faces.map sV, 1, c, true⟩]
theorem NewRB.at_ {f : Nat} {args args' : List V} {r : Rec} {b : Bool} (p : NewRB f args r b) (d : Nat) (H : H) (ha : args = args'.map (frz 0 d H)) :
    CallsV C f args' H fun res h' => ∃ c, r.faces.length ≤ c ∧ res = .ret (.tup [.agg (rO r H.length c), .s (.bool b)]) ∧ h' = H ++ [⟨r.faces.map sV, 1, c, true⟩] := by
  refine (CallsV.lend p ?_ d H ha).mono fun res h' ⟨r', h1, ⟨c, q1, q3, q4⟩, q5, q6⟩ => ⟨c, q1, ?_, by rw [q6, q4]⟩
  · rintro r' h' ⟨c, q1, rfl, rfl⟩
    exact ⟨rfl, by simp [plains_map sV_plain]⟩
  · rw [q5, q3]; rfl
theorem CallThen.newRB {N n0 : Nat} {Q : QT} {k : List It} {τ : Tau} {h : H} {f : Nat} {args args' : List V} {r : Rec} {b : Bool} {d : Option Nat} (p : NewRB f args r b) (dd : Nat) (ha : args = args'.map (frz 0 dd h)) (m : Nat)
    (hr : ∀ c, r.faces.length ≤ c → Run C N n0 m Q k (upo d (.tup [.agg (rO r h.length c), .s (.bool b)]) τ) (h ++ [⟨r.faces.map sV, 1, c, true⟩])) : CallThen C N n0 Q f args' d k τ h :=
  CallThen.of m (p.at_ dd h ha) fun res h' ⟨c, e1, e3, e4⟩ => by subst e3; subst e4; exact hr c e1
theorem lastR_mem : ∀ {l : List Rec} {n : ByteArray}, (lastR l n).2 = true → (lastR l n).1 ∈ l
  | [], _, h => by simp [lastR] at h
  | r :: l, n, h => by
    unfold lastR at h ⊢
    split
    · rename_i e; exact List.mem_cons_of_mem _ (lastR_mem e)
    · rename_i e
      split
      · simp
      · rename_i e2; simp [e, e2] at h
theorem new22 (l : List Rec) (n t : ByteArray) (fs : List ByteArray) (hf : ∀ r ∈ l, r.faces.length ≤ 1048576) :
    NewRB 22 [.f 5 (l.map rV), .s (.string n), .s (.string t), .f 1 (fs.map sV)] (hitR l n t fs).1 (hitR l n t fs).2 := by
  refine calls_of_run Try.func22 rfl (by kernel_rfl) (by kernel_rfl) (by simp) 1000 ?_
  have no : hitR l n t fs = (zRec, false) → ∀ {H : Go.W.H}, Up 0 (fun res h' => ∃ c, (hitR l n t fs).1.faces.length ≤ c ∧ res = .ret (.tup [.agg (rO (hitR l n t fs).1 0 c), .s (.bool (hitR l n t fs).2)]) ∧ h' = [⟨(hitR l n t fs).1.faces.map sV, 1, c, true⟩])
      (.ret (.tup [.agg [.s (.string ⟨#[]⟩), .s (.string ⟨#[]⟩), .z, .s (.string ⟨#[]⟩), .s (.string ⟨#[]⟩)], .s (.bool false)])) H := by
    intro e H
    rw [e]
    refine Up.arr (Arr.nilV 1) (.inr ⟨_, [.agg [.s (.string ⟨#[]⟩), .s (.string ⟨#[]⟩), .sl H.length 0 0 0, .s (.string ⟨#[]⟩), .s (.string ⟨#[]⟩)], .s (.bool false)], rfl, rfl, .inr ⟨_, _, rfl, rfl, .inl rfl, .inl rfl, .inr ⟨rfl, rfl⟩, .inl rfl, .inl rfl, trivial⟩, .inl rfl, trivial⟩) ?_
    refine Up.gc (.tup [.agg (rO zRec 0 0), .s (.bool false)]) [H.length] [⟨[], 1, 0, true⟩] (by simp) ⟨.inl ⟨rfl, by simp⟩, trivial⟩ ?_ ⟨0, by simp [zRec], rfl, rfl⟩
    simp [rO, zRec, rnV, rnQ, rnC, rnP, nm]
  simp +contextual (maxSteps := 2000000) (disch := ((try unfold LIM at *); omega)) only [↓bcase_true, ↓bcase_false, WA, simprocAttr, wrap_i64]
  refine CallThen.pure (walk63 l n) 1000 ?_
  rcases lastR_cases l n with e | e
  · have e2 : hitR l n t fs = (zRec, false) := by simp [hitR, e]
    simp +contextual (maxSteps := 2000000) (disch := ((try unfold LIM at *); omega)) only [↓bcase_true, ↓bcase_false, WA, simprocAttr, wrap_i64, e, rV, zRec, List.map_nil]
    exact no e2
  · have hm := hf _ (lastR_mem e)
    have ed : lastR l n = ((lastR l n).1, true) := by rw [← e]
    generalize (lastR l n).1 = r at ed hm
    rw [ed]
    by_cases c4 : r.src = t
    · simp +contextual (maxSteps := 2000000) (disch := ((try unfold LIM at *); omega)) only [↓bcase_true, ↓bcase_false, WA, simprocAttr, wrap_i64, rV, c4, bne_self_eq_false]
      refine CallThen.pure (walk64 r.faces fs) 1000 ?_
      by_cases c5 : r.faces = fs
      · have e2 : hitR l n t fs = (r, true) := by simp [hitR, ed, c4, c5]
        simp +contextual (maxSteps := 2000000) (disch := ((try unfold LIM at *); omega)) only [↓bcase_true, ↓bcase_false, WA, simprocAttr, wrap_i64, c5, rV]
        rw [e2]
        have h65 := new65 r hm
        simp only [rV, c4, c5] at h65
        refine CallThen.newR h65 1 rfl 1000 fun c hc => ?_
        simp +contextual (maxSteps := 2000000) (disch := ((try unfold LIM at *); omega)) only [↓bcase_true, ↓bcase_false, WA, simprocAttr, wrap_i64, rO]
        refine Up.gc (.tup [.agg (rO r 0 c), .s (.bool true)]) [2] [⟨r.faces.map sV, 1, c, true⟩] (by simp) ⟨.inl ⟨nrs_map sV_nr _, rfl⟩, trivial⟩ ?_ ⟨c, hc, rfl, rfl⟩
        simp [rO, rnV, rnQ, rnC, rnP, nm]
      · have e2 : hitR l n t fs = (zRec, false) := by simp [hitR, ed, c4, c5]
        simp +contextual (maxSteps := 2000000) (disch := ((try unfold LIM at *); omega)) only [↓bcase_true, ↓bcase_false, WA, simprocAttr, wrap_i64, c5]
        exact no e2
    · have e2 : hitR l n t fs = (zRec, false) := by simp [hitR, ed, c4]
      simp +contextual (maxSteps := 2000000) (disch := ((try unfold LIM at *); omega)) only [↓bcase_true, ↓bcase_false, WA, simprocAttr, wrap_i64, rV, c4]
      exact no e2
end Go.Proofs.Ytpcgnmoogjahbaa
/- part D22 -/
set_option linter.unusedVariables false
set_option linter.unusedSimpArgs false
set_option maxRecDepth 100000
namespace Go.Proofs.Ytpcgnmoogjahbaa
open Go Go.W Go.RowKit
def digT (n : Nat) (acc : ByteArray) : ByteArray := if n = 0 then acc else digT (n / 10) (⟨#[UInt8.ofNat (48 + n % 10)]⟩ ++ acc)
termination_by n
decreasing_by omega
def markT (k : Int) : ByteArray := if k ≤ 0 then ⟨#[109, 48]⟩ else ⟨#[109]⟩ ++ digT k.toNat ⟨#[]⟩
theorem walk66 (k : Int) (hk : k ≤ 9223372036854775807) : PureV C 66 [.s (.int .i64 k)] (.s (.string (markT k))) := by
  refine pure_of_run Try.func66 rfl (by kernel_rfl) (by kernel_rfl) (by simp) (fun _ => rfl) (fun _ => rfl) 6 1000 ?_
  by_cases c : k ≤ 0
  · simp +contextual (maxSteps := 2000000) (disch := ((try unfold LIM at *); omega)) only [↓bcase_true, ↓bcase_false, WA, simprocAttr, wrap_i64, c, markT]
  simp +contextual (maxSteps := 2000000) (disch := ((try unfold LIM at *); omega)) only [↓bcase_true, ↓bcase_false, WA, simprocAttr, wrap_i64, c, markT]
  refine LoopThen.pure (ι := Nat × ByteArray) (fun p => digT p.1 p.2 = digT k.toNat ⟨#[]⟩ ∧ p.1 * 10 ^ p.2.size ≤ k.toNat ∧ p.2.size ≤ 19) (fun p => keepL [(0, .s (.int .i64 p.1)), (3, .s (.string p.2))]) (fun p => p.1) 6 [0, 3] 1000 1000
    ⟨(k.toNat, ⟨#[]⟩), ⟨rfl, by show k.toNat * 10 ^ 0 ≤ _; simp, Nat.zero_le _⟩, by have e : (k.toNat : Int) = k := Int.toNat_of_nonneg (by omega); simp +contextual (maxSteps := 2000000) (disch := ((try unfold LIM at *); omega)) only [↓bcase_true, ↓bcase_false, WA, simprocAttr, wrap_i64, e]⟩ ?_
  rintro ⟨n, acc⟩ ⟨p1, p2, p3⟩
  simp only at p1 p2 p3
  by_cases d : (0 : Int) < n
  · have hsz : acc.size < 19 := by
      have h2 : 1 * 10 ^ acc.size ≤ n * 10 ^ acc.size := Nat.mul_le_mul_right _ (by omega)
      have h3 : 10 ^ acc.size < 10 ^ 19 := by omega
      exact (Nat.pow_lt_pow_iff_right (by omega)).1 h3
    have hn : n * 1 ≤ n * 10 ^ acc.size := Nat.mul_le_mul_left _ (Nat.pos_of_ne_zero (by simp))
    have e1 : (n : Int).tmod 10 = ((n % 10 : Nat) : Int) := by rw [Int.tmod_eq_emod_of_nonneg (by omega)]; omega
    have e2 : (n : Int).tdiv 10 = ((n / 10 : Nat) : Int) := by rw [Int.tdiv_eq_ediv_of_nonneg (by omega)]; omega
    have e3 : IntKind.i64.wrap (48 + ((n % 10 : Nat) : Int)) = ((48 + n % 10 : Nat) : Int) := by rw [wrap_i64 (by omega) (by omega)]; omega
    have e4 : IntKind.u8.wrap ((48 + n % 10 : Nat) : Int) = ((48 + n % 10 : Nat) : Int) := by
      unfold IntKind.wrap
      exact Int.emod_eq_of_lt (by omega) (by simp [IntKind.bits]; omega)
    have e5 : IntKind.i64.wrap ((n / 10 : Nat) : Int) = ((n / 10 : Nat) : Int) := wrap_i64 (by omega) (by omega)
    have hz : (⟨#[UInt8.ofNat (48 + n % 10)]⟩ : ByteArray).size = 1 := rfl
    have e6 : (⟨#[UInt8.ofNat (48 + n % 10)]⟩ : ByteArray).size + acc.size ≤ LIM := by rw [hz]; unfold LIM; omega
    have e7 : (0 : Int) ≤ ((48 + n % 10 : Nat) : Int) ∧ ((48 + n % 10 : Nat) : Int) < 256 := by omega
    simp +contextual (maxSteps := 2000000) (disch := ((try unfold LIM at *); omega)) only [↓bcase_true, ↓bcase_false, WA, simprocAttr, wrap_i64, d, e1, e2, e3, e4, e5, Int.toNat_natCast, e6, e7]
    refine ⟨(n / 10, ⟨#[UInt8.ofNat (48 + n % 10)]⟩ ++ acc), ⟨⟨?_, ?_, ?_⟩, by simp only; omega⟩, rfl⟩
    · rw [← p1]; conv => rhs; rw [digT]
      rw [if_neg (by omega)]
    · rw [ByteArray.size_append, hz, Nat.pow_add]
      calc n / 10 * (10 ^ 1 * 10 ^ acc.size) = (n / 10 * 10) * 10 ^ acc.size := by rw [Nat.pow_one, Nat.mul_assoc]
        _ ≤ n * 10 ^ acc.size := Nat.mul_le_mul_right _ (by omega)
        _ ≤ k.toNat := p2
    · rw [ByteArray.size_append, hz]; omega
  · have e : n = 0 := by omega
    subst e
    have e6 : (⟨#[109]⟩ : ByteArray).size + acc.size ≤ LIM := by
      have hz : (⟨#[109]⟩ : ByteArray).size = 1 := rfl
      rw [hz]; unfold LIM; omega
    have e8 : digT k.toNat ⟨#[]⟩ = acc := by rw [← p1, digT]; rfl
    simp +contextual (maxSteps := 2000000) (disch := ((try unfold LIM at *); omega)) only [↓bcase_true, ↓bcase_false, WA, simprocAttr, wrap_i64, d, e6, e8]
end Go.Proofs.Ytpcgnmoogjahbaa
/- part K6 -/
set_option linter.unusedVariables false
set_option linter.unusedSimpArgs false
set_option maxRecDepth 100000
namespace Go.Proofs.Ytpcgnmoogjahbaa
open Go Go.W Go.RowKit
def markS (k : Int) (i : Nat) : List ByteArray := (List.range i).map fun (j : Nat) => markT (k + (j : Int))
theorem markS_len (k : Int) (i : Nat) : (markS k i).length = i := by simp [markS]
theorem markS_zero (k : Int) : markS k 0 = [] := rfl
theorem markS_succ (k : Int) (i : Nat) : markS k (i + 1) = markS k i ++ [markT (k + (i : Int))] := by simp [markS, List.range_succ]
theorem markS_get {k : Int} {n i : Nat} (h : (i : Int) < n) : (markS k n)[i]? = some (markT (k + (i : Int))) := by
  have : i < n := by omega
  simp [markS, List.getElem?_range, this]
theorem walk27 (l : List ByteArray) (k : Int) (cap : Nat) (hl : l.length ≤ 1048576) (hc : l.length ≤ cap) (h0 : 0 ≤ k) (h1 : k ≤ 1000000000) :
    EditV C 27 [.sl 0 0 l.length cap, .s (.int .i64 k)] [⟨l.map sV, 1, cap, true⟩] (.s (.int .i64 (k + l.length))) [⟨(markS k l.length).map sV, 1, cap, true⟩] := by
  refine ⟨fun _ => rfl, by simp [nrs_map sV_nr], ?_⟩
  refine calls_of_run Try.func27 rfl (by kernel_rfl) (by kernel_rfl) (by simp) 1000 ?_
  simp +contextual (maxSteps := 2000000) (disch := ((try unfold LIM at *); omega)) only [↓bcase_true, ↓bcase_false, WA, simprocAttr, wrap_i64]
  refine LoopThen.ownN 1 (ι := Nat) (fun i => i ≤ l.length) (fun i => [(0, .sl 0 0 l.length cap), (1, .s (.int .i64 (k + i))), (5, .s (.int .i64 i))]) (fun i => [⟨(markS k i).map sV ++ (l.drop i).map sV, 1, cap, true⟩]) (fun i => l.length - i) 1000 1000
    ⟨0, Nat.zero_le _, [0], by simp, by simp +contextual (maxSteps := 2000000) (disch := ((try unfold LIM at *); omega)) only [↓bcase_true, ↓bcase_false, WA, simprocAttr, wrap_i64, markS_zero, nrs_map sV_nr, true_or, List.map_nil, List.nil_append, List.drop_zero, WB8], by simp +contextual (maxSteps := 2000000) (disch := ((try unfold LIM at *); omega)) only [↓bcase_true, ↓bcase_false, WA, simprocAttr, wrap_i64, Int.add_zero, Int.natCast_zero]⟩ ?_
  rintro i p1
  by_cases d : (i : Int) < l.length
  · obtain ⟨f, hf⟩ := get_lt d
    have pi : (0 : Int) ≤ i := by omega
    have la : ((markS k i).map sV).length = i := by rw [List.length_map, markS_len]
    have g1 : ∀ y (X : List (List V)), ((markS k i).map sV ++ y :: X)[i]? = some y := fun y X => mid_get la
    have g2 : ∀ x y (X : List (List V)), ((markS k i).map sV ++ y :: X).set i x = (markS k i).map sV ++ x :: X := fun x y X => mid_set la
    have ez : k + (i : Int) + 1 = k + ((i + 1 : Nat) : Int) := by omega
    rw [drop_cons hf, List.map_cons]
    simp +contextual (maxSteps := 2000000) (disch := ((try unfold LIM at *); omega)) only [↓bcase_true, ↓bcase_false, WA, simprocAttr, wrap_i64, WB8, d, pi, g1, g2, sV, List.set_cons_zero, List.set_cons_succ, cast_succ, ez]
    refine CallThen.pure (walk66 _ (by omega)) 1000 ?_
    simp +contextual (maxSteps := 2000000) (disch := ((try unfold LIM at *); omega)) only [↓bcase_true, ↓bcase_false, WA, simprocAttr, wrap_i64, WB8, d, pi, g1, g2, sV, List.set_cons_zero, List.set_cons_succ, cast_succ, ez]
    exact ⟨i + 1, ⟨by omega, by omega⟩, [0], ⟨by simp, rfl⟩, ⟨.inl ⟨by simp only [nrs_append, nrs_map sV_nr, Bool.and_self], by rw [markS_succ]; simp [sV]⟩, trivial⟩, rfl, rfl, rfl⟩
  · have e : i = l.length := by omega
    subst e
    simp +contextual (maxSteps := 2000000) (disch := ((try unfold LIM at *); omega)) only [↓bcase_true, ↓bcase_false, WA, simprocAttr, wrap_i64, WB8, d]
    exact Up.keep [⟨(markS k l.length).map sV, 1, cap, true⟩] (fun _ => rfl) rfl (by show gcL _ _ [0] _; exact ⟨.inl ⟨nrs_map sV_nr _, by simp⟩, trivial⟩) ⟨rfl, rfl⟩
theorem walk67 (k : Int) (n : Nat) (hl : n ≤ 1048576) (h0 : 0 ≤ k) (h1 : k ≤ 1000000000) : PureV C 67 [.f 1 ((markS k n).map sV), .s (.int .i64 k)] (.s (.int .i64 (k + n))) := by
  refine pure_of_run Try.func67 rfl (by kernel_rfl) (by kernel_rfl) (by simp) (fun _ => rfl) (fun _ => rfl) 6 1000 ?_
  simp +contextual (maxSteps := 2000000) (disch := ((try unfold LIM at *); omega)) only [↓bcase_true, ↓bcase_false, WA, simprocAttr, wrap_i64]
  refine LoopThen.pure (ι := Nat) (fun i => i ≤ n) (fun i => keepL [(0, .f 1 ((markS k n).map sV)), (1, .s (.int .i64 (k + i))), (5, .s (.int .i64 i))]) (fun i => n - i) 6 [0, 1, 5] 1000 1000 ⟨0, Nat.zero_le _, by simp +contextual (maxSteps := 2000000) (disch := ((try unfold LIM at *); omega)) only [↓bcase_true, ↓bcase_false, WA, simprocAttr, wrap_i64, Int.add_zero, Int.natCast_zero]⟩ ?_
  rintro i p1
  by_cases d : (i : Int) < n
  · have pi : (0 : Int) ≤ i := by omega
    have hm := markS_get (k := k) d
    have ez : k + (i : Int) + 1 = k + ((i + 1 : Nat) : Int) := by omega
    simp +contextual (maxSteps := 2000000) (disch := ((try unfold LIM at *); omega)) only [↓bcase_true, ↓bcase_false, WA, simprocAttr, wrap_i64, List.length_map, markS_len, d, pi, hm, sV, bne_self_eq_false, cast_succ, ez]
    try intro _
    refine DrawThen.of 1000 [] (.old 0 (.old 1 (.old 2 (.old 3 (.old 4 (.go 5 (.new 6 .done))))))) (panFree_loopP (panFree_pure _ _ _)) (by kernel_rfl) (by kernel_rfl) (by kernel_rfl) ?_
    simp +contextual (maxSteps := 2000000) (disch := ((try unfold LIM at *); omega)) only [↓bcase_true, ↓bcase_false, WA, simprocAttr, wrap_i64, List.length_map, markS_len, d, pi, hm, sV, bne_self_eq_false, cast_succ, ez]
    refine DCall.pure (walk66 _ (by omega)) 1000 (.new 6 .done) (by kernel_rfl) ?_
    simp +contextual (maxSteps := 2000000) (disch := ((try unfold LIM at *); omega)) only [↓bcase_true, ↓bcase_false, WA, simprocAttr, wrap_i64, List.length_map, markS_len, d, pi, hm, sV, bne_self_eq_false, cast_succ, ez]
    exact ⟨i + 1, ⟨by omega, by omega⟩, rfl⟩
  · have e : i = n := by omega
    subst e
    simp +contextual (maxSteps := 2000000) (disch := ((try unfold LIM at *); omega)) only [↓bcase_true, ↓bcase_false, WA, simprocAttr, wrap_i64, List.length_map, markS_len, d]
theorem walk28 (r : Rec) (k : Int) (cap : Nat) (hl : r.faces.length ≤ 1048576) (hc : r.faces.length ≤ cap) (h0 : 0 ≤ k) (h1 : k ≤ 1000000000) :
    EditV C 28 [.agg (rO r 0 cap), .s (.int .i64 k)] [⟨r.faces.map sV, 1, cap, true⟩] (.s (.int .i64 (k + r.faces.length))) [⟨(markS k r.faces.length).map sV, 1, cap, true⟩] := by
  refine ⟨fun _ => rfl, by simp [nrs_map sV_nr], ?_⟩
  refine calls_of_run Try.func28 rfl (by kernel_rfl) (by kernel_rfl) (by simp) 1000 ?_
  simp +contextual (maxSteps := 2000000) (disch := ((try unfold LIM at *); omega)) only [↓bcase_true, ↓bcase_false, WA, simprocAttr, wrap_i64, rO]
  refine CallThen.edit (walk27 r.faces k cap hl hc h0 h1) [0] (by simp) ⟨.inl ⟨nrs_map sV_nr _, rfl⟩, trivial⟩ rfl 1000 ?_
  simp +contextual (maxSteps := 2000000) (disch := ((try unfold LIM at *); omega)) only [↓bcase_true, ↓bcase_false, WA, simprocAttr, wrap_i64, WB8]
  exact Up.keep [⟨(markS k r.faces.length).map sV, 1, cap, true⟩] (fun _ => rfl) rfl (by show gcL _ _ [0] _; exact ⟨.inl ⟨nrs_map sV_nr _, rfl⟩, trivial⟩) ⟨rfl, rfl⟩
theorem walk29 (r : Rec) (k : Int) (n : Nat) (hl : n ≤ 1048576) (h0 : 0 ≤ k) (h1 : k ≤ 1000000000) : PureV C 29 [.agg (rV { r with faces := markS k n }), .s (.int .i64 k)] (.s (.int .i64 (k + n))) := by
  refine pure_of_run Try.func29 rfl (by kernel_rfl) (by kernel_rfl) (by simp) (fun _ => rfl) (fun _ => rfl) 6 1000 ?_
  simp +contextual (maxSteps := 2000000) (disch := ((try unfold LIM at *); omega)) only [↓bcase_true, ↓bcase_false, WA, simprocAttr, wrap_i64, rV]
  refine CallThen.pure (walk67 k n hl h0 h1) 1000 ?_
  have p1 : ¬ (k + (n : Int) < 0) := by omega
  simp +contextual (maxSteps := 2000000) (disch := ((try unfold LIM at *); omega)) only [↓bcase_true, ↓bcase_false, WA, simprocAttr, wrap_i64, p1]
end Go.Proofs.Ytpcgnmoogjahbaa
/- part K7 -/
set_option linter.unusedVariables false
set_option linter.unusedSimpArgs false
set_option maxRecDepth 100000
namespace Go.Proofs.Ytpcgnmoogjahbaa
open Go Go.W Go.RowKit
def totR : List Rec → Nat
  | [] => 0
  | r :: l => 4 + r.faces.length + totR l
theorem totR_append : ∀ (a b : List Rec), totR (a ++ b) = totR a + totR b
  | [], b => by simp [totR]
  | r :: a, b => by simp only [List.cons_append, totR, totR_append a b]; omega
theorem totR_take {l : List Rec} {i : Nat} {f : Rec} (h : l[i]? = some f) : totR (l.take (i + 1)) = totR (l.take i) + 4 + f.faces.length := by
  rw [List.take_add_one, h, totR_append]; simp [totR]; omega
theorem totR_le (l : List Rec) (i : Nat) : totR (l.take i) ≤ totR l := by
  conv => rhs; rw [← List.take_append_drop i l, totR_append]
  omega
theorem totR_mem : ∀ {l : List Rec} {f : Rec}, f ∈ l → f.faces.length ≤ totR l
  | r :: l, f, h => by
    rcases List.mem_cons.1 h with rfl | h
    · simp only [totR]; omega
    · have := totR_mem h; simp only [totR]; omega
theorem walk26 (l : List Rec) (k : Int) (cap : Nat) (hl : l.length ≤ 1048576) (hf : ∀ r ∈ l, r.faces.length ≤ 1048576) (hc : l.length ≤ cap) (h0 : 0 ≤ k) (h1 : k + totR l ≤ 1000000000) :
    CallsV C 26 [.sl 0 0 l.length cap, .s (.int .i64 k)] [⟨l.map rL, 5, cap, true⟩] fun res h' => res = .ret (.s (.int .i64 (k + totR l))) ∧ ∃ els, nrs els = true ∧ h' = [⟨els, 5, cap, true⟩] := by
  refine calls_of_run Try.func26 rfl (by kernel_rfl) (by kernel_rfl) (by simp) 1000 ?_
  simp +contextual (maxSteps := 2000000) (disch := ((try unfold LIM at *); omega)) only [↓bcase_true, ↓bcase_false, WA, simprocAttr, wrap_i64]
  refine LoopThen.ownF 1 (ι := Nat × List Rec) (fun p => p.1 ≤ l.length ∧ p.2.length = p.1) (fun p => [(0, .sl 0 0 l.length cap), (1, .s (.int .i64 (k + totR (l.take p.1)))), (5, .s (.int .i64 p.1))]) (fun p => [⟨p.2.map rL ++ (l.drop p.1).map rL, 5, cap, true⟩]) (fun p => l.length - p.1) 1000 1000
    ⟨(0, []), ⟨Nat.zero_le _, rfl⟩, [], [0], by simp, by simp +contextual (maxSteps := 2000000) (disch := ((try unfold LIM at *); omega)) only [↓bcase_true, ↓bcase_false, WA, simprocAttr, wrap_i64, folds_nil, nrs_map rL_nr, true_or, List.map_nil, List.nil_append, List.drop_zero, WB8], by simp +contextual (maxSteps := 2000000) (disch := ((try unfold LIM at *); omega)) only [↓bcase_true, ↓bcase_false, WA, simprocAttr, wrap_i64, folds_nil, List.take_zero, totR, Int.add_zero, Int.natCast_zero]⟩ ?_
  rintro ⟨i, dn⟩ ⟨p1, p2⟩
  by_cases d : (i : Int) < l.length
  · obtain ⟨f, hf1⟩ := get_lt d
    have hff := hf f (List.mem_of_getElem? hf1)
    have pi : (0 : Int) ≤ i := by omega
    have la : (dn.map rL).length = i := by rw [List.length_map, p2]
    have g1 : ∀ y (X : List (List V)), (dn.map rL ++ y :: X)[i]? = some y := fun y X => mid_get la
    have g2 : ∀ x y (X : List (List V)), (dn.map rL ++ y :: X).set i x = dn.map rL ++ x :: X := fun x y X => mid_set la
    have ht := totR_take hf1
    have hle := totR_le l i
    have hle2 := totR_le l (i + 1)
    rw [drop_cons hf1, List.map_cons]
    generalize ha : totR (l.take i) = a at *
    simp +contextual (maxSteps := 2000000) (disch := ((try unfold LIM at *); omega)) only [↓bcase_true, ↓bcase_false, WA, simprocAttr, wrap_i64, WB7, WB8, d, pi, g1, g2, rL, List.set_cons_zero, List.set_cons_succ, cast_succ]
    refine CallThen.pure (walk66 _ (by omega)) 1000 ?_
    simp +contextual (maxSteps := 2000000) (disch := ((try unfold LIM at *); omega)) only [↓bcase_true, ↓bcase_false, WA, simprocAttr, wrap_i64, WB7, WB8, d, pi, g1, g2, List.set_cons_zero, List.set_cons_succ, cast_succ]
    refine CallThen.pure (walk66 _ (by omega)) 1000 ?_
    simp +contextual (maxSteps := 2000000) (disch := ((try unfold LIM at *); omega)) only [↓bcase_true, ↓bcase_false, WA, simprocAttr, wrap_i64, WB7, WB8, d, pi, g1, g2, List.set_cons_zero, List.set_cons_succ, cast_succ]
    intro c1 hc1
    simp only [List.length_map] at hc1 ⊢
    refine CallThen.edit (walk27 f.faces (k + a + 1 + 1) c1 hff hc1 (by omega) (by omega)) [1] (by simp) ⟨.inl ⟨nrs_map sV_nr _, rfl⟩, trivial⟩ rfl 1000 ?_
    simp +contextual (maxSteps := 2000000) (disch := ((try unfold LIM at *); omega)) only [↓bcase_true, ↓bcase_false, WA, simprocAttr, wrap_i64, WB7, WB8, d, pi, g1, g2, List.set_cons_zero, List.set_cons_succ, cast_succ]
    refine CallThen.pure (walk66 _ (by omega)) 1000 ?_
    simp +contextual (maxSteps := 2000000) (disch := ((try unfold LIM at *); omega)) only [↓bcase_true, ↓bcase_false, WA, simprocAttr, wrap_i64, WB7, WB8, d, pi, g1, g2, List.set_cons_zero, List.set_cons_succ, cast_succ]
    refine CallThen.pure (walk66 _ (by omega)) 1000 ?_
    simp +contextual (maxSteps := 2000000) (disch := ((try unfold LIM at *); omega)) only [↓bcase_true, ↓bcase_false, WA, simprocAttr, wrap_i64, WB7, WB8, d, pi, g1, g2, List.set_cons_zero, List.set_cons_succ, cast_succ]
    refine ⟨(i + 1, dn ++ [⟨markT (k + a), markT (k + a + 1), markS (k + a + 1 + 1) f.faces.length, markT (k + a + 1 + 1 + f.faces.length), markT (k + a + 1 + 1 + f.faces.length + 1)⟩]), ⟨⟨by simp only; omega, by simp only [List.length_append, List.length_cons, List.length_nil]; simp only at p2; omega⟩, by simp only; omega⟩, [(0, i, 2)], [0], ⟨by simp, rfl⟩, ?_, rfl, ?_, rfl, trivial⟩
    · rw [folds_one, foldC_sl (b1 := 1) rfl (mid_get la) rfl rfl (by rw [List.length_map, markS_len]) (nrs_map sV_nr _) (by simp)]
      refine ⟨.inl ⟨by simp only [nrs_append, nrs_map rL_nr, Bool.and_self], ?_⟩, trivial⟩
      show some _ = some _
      refine congrArg some (congrArg (fun e => (⟨e, 5, cap, true⟩ : Blk)) ?_)
      rw [mid_set la]
      simp [rL]
    · show V.s _ = V.s _
      simp only [ht]
      congr 2
      omega
  · have e : i = l.length := by omega
    subst e
    simp +contextual (maxSteps := 2000000) (disch := ((try unfold LIM at *); omega)) only [↓bcase_true, ↓bcase_false, WA, simprocAttr, wrap_i64, WB7, WB8, d]
    rw [List.take_length]
    exact Up.keep [⟨dn.map rL ++ (l.drop l.length).map rL, 5, cap, true⟩] (fun _ => rfl) rfl (by show gcL _ _ [0] _; exact ⟨.inl ⟨by simp only [nrs_append, nrs_map rL_nr, Bool.and_self], by simp⟩, trivial⟩) ⟨rfl, _, by simp only [nrs_append, nrs_map rL_nr, Bool.and_self], rfl⟩
end Go.Proofs.Ytpcgnmoogjahbaa
/- part K8 -/
set_option linter.unusedVariables false
set_option linter.unusedSimpArgs false
set_option maxRecDepth 100000
namespace Go.Proofs.Ytpcgnmoogjahbaa
open Go Go.W Go.RowKit
theorem kbud_len {sz : ByteArray → Int → Int} (l : List ByteArray) (left : Int) (h : ¬ kszS sz l left < 0) (hr : ∀ f left, 0 ≤ left → left ≤ 1048576 → -1 ≤ sz f left ∧ sz f left ≤ left) (h0 : 0 ≤ left) (h1 : left ≤ 1048576) : kszS sz l left + l.length ≤ left := by
  unfold kszS at h ⊢
  split at h
  · omega
  · rename_i c
    rw [if_neg c]
    have := kbud_range hr l (left - l.length) (by omega) (by omega); omega
theorem szFs_fit (l : List ByteArray) (left : Int) (h0 : 0 ≤ left) (h1 : left ≤ 1048576) (h : ¬ szFs l left < 0) : szFs l left + l.length ≤ left := kbud_len l left h szB_range h0 h1
theorem szR_fit (r : Rec) (left : Int) (h0 : 0 ≤ left) (h1 : left ≤ 1048576) (h : ¬ szR r left < 0) : szR r left + r.faces.length ≤ left := by
  unfold szR at h ⊢
  split at h
  · omega
  · rename_i c1
    rw [if_neg c1]
    split at h
    · omega
    · rename_i c2
      rw [if_neg c2]
      split at h
      · omega
      · rename_i c3
        rw [if_neg c3]
        have := szFs_fit r.faces _ (by omega) (by omega) c3
        split at h
        · omega
        · rename_i c4
          rw [if_neg c4]
          split at h
          · omega
          · rename_i c5
            rw [if_neg c5]; omega
theorem kbudR_fit : ∀ (l : List Rec) (left : Int), 0 ≤ left → left ≤ 1048576 → ¬ kbud szR l left < 0 → kbud szR l left + totR l ≤ left + 4 * l.length
  | [], left, _, _, _ => by simp [kbud, totR]
  | r :: l, left, h0, h1, h => by
    unfold kbud at h ⊢
    split at h
    · omega
    · rename_i c
      rw [if_neg c]
      have a := szR_range r left h0 h1
      have b := szR_fit r left h0 h1 c
      have := kbudR_fit l (szR r left) (by omega) (by omega) h
      simp only [totR, List.length_cons]; omega
structure Fit (l : List Rec) (fs : List ByteArray) : Prop where
  nl : l.length ≤ 1048576
  nt : totR l ≤ 5242880
  nf : ∀ r ∈ l, r.faces.length ≤ 1048576
  ns : fs.length ≤ 1048576
theorem fit_of {l : List Rec} {fs : List ByteArray} (h : ¬ kszS szR l 1048576 < 0) (h2 : ¬ szFs fs (kszS szR l 1048576) < 0) : Fit l fs := by
  have r := kszS_range szR_range l 1048576 (by omega) (by omega)
  have a := szFs_fit fs _ (by omega) (by omega) h2
  have ns : fs.length ≤ 1048576 := by omega
  unfold kszS at h r a
  split at h
  · omega
  · rename_i c
    rw [if_neg c] at r a
    have b := kbudR_fit l (1048576 - l.length) (by omega) (by omega) h
    have tl : totR l ≤ 5242880 := by omega
    refine ⟨by omega, tl, fun r hr => ?_, ns⟩
    have k : ∀ (l : List Rec) (r : Rec), r ∈ l → 4 * l.length + r.faces.length ≤ totR l := by
      intro l
      induction l with
      | nil => intro r h; simp at h
      | cons x l ih =>
        intro r h
        have g : ∀ (l : List Rec), 4 * l.length ≤ totR l := by
          intro l; induction l with
          | nil => simp [totR]
          | cons y l ih => simp only [totR, List.length_cons]; omega
        rcases List.mem_cons.1 h with rfl | h
        · have := g l; simp only [totR, List.length_cons]; omega
        · have := ih r h; simp only [totR, List.length_cons]; omega
    have := k l r hr
    omega
theorem own_sl {l : List ByteArray} {cap : Nat} : elsOf 0 l.length (some ⟨l.map sV, 1, cap, true⟩) = some (l.map sV) := by simp [elsOf, List.take_of_length_le]
theorem own_rl {l : List Rec} {cap : Nat} : elsOf 0 l.length (some ⟨l.map rL, 5, cap, true⟩) = some (l.map rL) := by simp [elsOf, List.take_of_length_le]
theorem pure21 (l : List ByteArray) (hl : l.length ≤ 1048576) : PureV C 21 [.f 1 (l.map sV)] (.f 1 (l.map sV)) :=
  PureV.of_new (fun _ => rfl) (fun _ => rfl) 6 (new21 l hl) fun res h' ⟨cap, q1, q2, q3⟩ => ⟨_, q2, by
    subst q3
    simp +contextual (maxSteps := 2000000) (disch := ((try unfold LIM at *); omega)) only [↓bcase_true, ↓bcase_false, WA, simprocAttr, wrap_i64, List.length_map, own_sl, sV_frz, Nat.not_lt_zero]⟩
theorem pure20 (l : List Rec) (hl : l.length ≤ 1048576) (hf : ∀ r ∈ l, r.faces.length ≤ 1048576) : PureV C 20 [.f 5 (l.map rV)] (.f 5 (l.map rV)) :=
  PureV.of_new (fun _ => rfl) (fun _ => rfl) 6 (new20 l hl hf) fun res h' ⟨cap, q1, q2, q3⟩ => ⟨_, q2, by
    subst q3
    simp +contextual (maxSteps := 2000000) (disch := ((try unfold LIM at *); omega)) only [↓bcase_true, ↓bcase_false, WA, simprocAttr, wrap_i64, List.length_map, own_rl, rL_frzs, Nat.not_lt_zero]⟩
theorem CallThen.markR {N n0 : Nat} {Q : QT} {k : List It} {τ : Tau} {h : H} {d : Option Nat} {l : List Rec} {x : Int} {cap b : Nat} (hb : h[b]? = some ⟨l.map rL, 5, cap, true⟩) (hl : l.length ≤ 1048576) (hf : ∀ r ∈ l, r.faces.length ≤ 1048576) (hc : l.length ≤ cap) (h0 : 0 ≤ x) (h1 : x + totR l ≤ 1000000000) (m : Nat)
    (hr : ∀ els, nrs els = true → Run C N n0 m Q k (upo d (.s (.int .i64 (x + totR l))) τ) (h.set b ⟨els, 5, cap, true⟩)) : CallThen C N n0 Q 26 [.sl b 0 l.length cap, .s (.int .i64 x)] d k τ h := by
  have p := CallsV.frame (walk26 l x cap hl hf hc h0 h1) [b] h rfl (by simp) (fun i B e => by
    match i, e with
    | 0, e => simp at e; subst e; exact ⟨b, rfl, by rw [nrs_rn _ (nrs_map rL_nr l)]; exact hb⟩
    | i + 1, e => simp at e)
  have e0 : emb [b] h.length 0 = b := rfl
  have ea : ([.sl 0 0 l.length cap, .s (.int .i64 x)] : List V).map (rnV (emb [b] h.length)) = [.sl b 0 l.length cap, .s (.int .i64 x)] := by
    simp only [List.map_cons, List.map_nil, rnV, rnQ, rnC, rnP, e0]
  rw [ea] at p
  refine CallThen.of m p ?_
  rintro res h' ⟨r, h2, ⟨rfl, els, hn, rfl⟩, rfl, rfl⟩
  simp only [List.map_cons, List.map_nil, setAll, rnRes]
  rw [nrs_rn _ (B := ⟨els, 5, cap, true⟩) hn]
  rw [List.append_nil]
  exact hr els hn
theorem hit_len {l : List Rec} {n t : ByteArray} {fs : List ByteArray} (hf : ∀ r ∈ l, r.faces.length ≤ 1048576) : (hitR l n t fs).1.faces.length ≤ 1048576 := by
  unfold hitR; split
  · rename_i c; exact hf _ (lastR_mem c.1)
  · simp [zRec]
theorem walk5 (l : List Rec) (n t : ByteArray) (fs : List ByteArray) : PureV C 5 [.f 5 (l.map rV), .s (.string n), .s (.string t), .f 1 (fs.map sV)] (.s (.bool true)) := by
  refine pure_of_run Try.func5 rfl (by kernel_rfl) (by kernel_rfl) (by simp) (fun _ => rfl) (fun _ => rfl) 6 1000 ?_
  by_cases c1 : (1048576 : Int) < n.size
  · simp +contextual (maxSteps := 2000000) (disch := ((try unfold LIM at *); omega)) only [↓bcase_true, ↓bcase_false, WA, simprocAttr, wrap_i64, c1]
    done
  by_cases c2 : (1048576 : Int) < t.size
  · simp +contextual (maxSteps := 2000000) (disch := ((try unfold LIM at *); omega)) only [↓bcase_true, ↓bcase_false, WA, simprocAttr, wrap_i64, c1, c2]
    done
  simp +contextual (maxSteps := 2000000) (disch := ((try unfold LIM at *); omega)) only [↓bcase_true, ↓bcase_false, WA, simprocAttr, wrap_i64, c1, c2]
  intro q1 q2
  refine CallThen.pure (walk17 l 1048576 (by omega) (by omega)) 1000 ?_
  have r1 := kszS_range szR_range l 1048576 (by omega) (by omega)
  by_cases c3 : kszS szR l 1048576 < 0
  · simp +contextual (maxSteps := 2000000) (disch := ((try unfold LIM at *); omega)) only [↓bcase_true, ↓bcase_false, WA, simprocAttr, wrap_i64, c3]
  simp +contextual (maxSteps := 2000000) (disch := ((try unfold LIM at *); omega)) only [↓bcase_true, ↓bcase_false, WA, simprocAttr, wrap_i64, c3]
  refine CallThen.pure (walk18 fs _ (by omega) (by omega)) 1000 ?_
  by_cases c4 : szFs fs (kszS szR l 1048576) < 0
  · simp +contextual (maxSteps := 2000000) (disch := ((try unfold LIM at *); omega)) only [↓bcase_true, ↓bcase_false, WA, simprocAttr, wrap_i64, c4]
  have F := fit_of c3 c4
  simp +contextual (maxSteps := 2000000) (disch := ((try unfold LIM at *); omega)) only [↓bcase_true, ↓bcase_false, WA, simprocAttr, wrap_i64, c4]
  refine CallThen.pure (pure20 l F.nl F.nf) 1000 ?_
  simp +contextual (maxSteps := 2000000) (disch := ((try unfold LIM at *); omega)) only [↓bcase_true, ↓bcase_false, WA, simprocAttr, wrap_i64]
  refine CallThen.pure (pure21 fs F.ns) 1000 ?_
  simp +contextual (maxSteps := 2000000) (disch := ((try unfold LIM at *); omega)) only [↓bcase_true, ↓bcase_false, WA, simprocAttr, wrap_i64]
  refine CallThen.pure (walk19 l n t fs F.nl F.nf) 1000 ?_
  have hlen := hit_len (n := n) (t := t) (fs := fs) F.nf
  have n22 := new22 l n t fs F.nf
  generalize hitR l n t fs = hr at *
  obtain ⟨r, b⟩ := hr
  simp +contextual (maxSteps := 2000000) (disch := ((try unfold LIM at *); omega)) only [↓bcase_true, ↓bcase_false, WA, simprocAttr, wrap_i64, rV]
  refine CallThen.new (new20 l F.nl F.nf) (nrs_map rL_nr _) (fun _ => rfl) 1000 fun cx hcx => ?_
  rw [List.length_map] at hcx
  simp +contextual (maxSteps := 2000000) (disch := ((try unfold LIM at *); omega)) only [↓bcase_true, ↓bcase_false, WA, simprocAttr, wrap_i64, List.length_map]
  refine CallThen.new (new21 fs F.ns) (nrs_map sV_nr _) (fun _ => rfl) 1000 fun cf hcf => ?_
  rw [List.length_map] at hcf
  simp +contextual (maxSteps := 2000000) (disch := ((try unfold LIM at *); omega)) only [↓bcase_true, ↓bcase_false, WA, simprocAttr, wrap_i64, List.length_map]
  refine CallThen.newRB n22 6 ?_ 1000 fun cg hcg => ?_
  · simp +contextual (maxSteps := 2000000) (disch := ((try unfold LIM at *); omega)) only [↓bcase_true, ↓bcase_false, WA, simprocAttr, wrap_i64, List.length_map, own_rl, own_sl, rL_frzs, sV_frz, Nat.not_lt_zero]
  simp only at hlen hcg
  simp +contextual (maxSteps := 2000000) (disch := ((try unfold LIM at *); omega)) only [↓bcase_true, ↓bcase_false, WA, simprocAttr, wrap_i64, rO, List.length_map]
  refine CallThen.borrow (walk23 r r) (flat_s _) 6 ?_ 1000 ?_
  · simp +contextual (maxSteps := 2000000) (disch := ((try unfold LIM at *); omega)) only [↓bcase_true, ↓bcase_false, WA, simprocAttr, wrap_i64, rV, List.length_map, own_sl, sV_frz, Nat.not_lt_zero]
  simp +contextual (maxSteps := 2000000) (disch := ((try unfold LIM at *); omega)) only [↓bcase_true, ↓bcase_false, WA, simprocAttr, wrap_i64, bne_self_eq_false]
  refine CallThen.pure (pure20 l F.nl F.nf) 1000 ?_
  simp +contextual (maxSteps := 2000000) (disch := ((try unfold LIM at *); omega)) only [↓bcase_true, ↓bcase_false, WA, simprocAttr, wrap_i64]
  refine CallThen.borrow (walk24 l l) (flat_s _) 6 ?_ 1000 ?_
  · simp +contextual (maxSteps := 2000000) (disch := ((try unfold LIM at *); omega)) only [↓bcase_true, ↓bcase_false, WA, simprocAttr, wrap_i64, List.length_map, own_rl, rL_frzs, Nat.not_lt_zero]
  simp +contextual (maxSteps := 2000000) (disch := ((try unfold LIM at *); omega)) only [↓bcase_true, ↓bcase_false, WA, simprocAttr, wrap_i64]
  refine CallThen.pure (pure21 fs F.ns) 1000 ?_
  simp +contextual (maxSteps := 2000000) (disch := ((try unfold LIM at *); omega)) only [↓bcase_true, ↓bcase_false, WA, simprocAttr, wrap_i64]
  refine CallThen.borrow (walk25 fs fs) (flat_s _) 6 ?_ 1000 ?_
  · simp +contextual (maxSteps := 2000000) (disch := ((try unfold LIM at *); omega)) only [↓bcase_true, ↓bcase_false, WA, simprocAttr, wrap_i64, List.length_map, own_sl, sV_frz, Nat.not_lt_zero]
  simp +contextual (maxSteps := 2000000) (disch := ((try unfold LIM at *); omega)) only [↓bcase_true, ↓bcase_false, WA, simprocAttr, wrap_i64]
  have ht := F.nt
  have hs := F.ns
  refine CallThen.markR (b := 1) rfl F.nl F.nf hcx (by omega) (by omega) 1000 fun els hels => ?_
  simp +contextual (maxSteps := 2000000) (disch := ((try unfold LIM at *); omega)) only [↓bcase_true, ↓bcase_false, WA, simprocAttr, wrap_i64]
  refine CallThen.edit (walk27 fs (1 + totR l) cf F.ns hcf (by omega) (by omega)) [2] (by simp) ⟨.inl ⟨nrs_map sV_nr _, rfl⟩, trivial⟩ rfl 1000 ?_
  have p1 : ¬ (1 + (totR l : Int) + fs.length < 0) := by omega
  simp +contextual (maxSteps := 2000000) (disch := ((try unfold LIM at *); omega)) only [↓bcase_true, ↓bcase_false, WA, simprocAttr, wrap_i64, WB8, p1]
  refine CallThen.borrow (walk23 r r) (flat_s _) 6 ?_ 1000 ?_
  · simp +contextual (maxSteps := 2000000) (disch := ((try unfold LIM at *); omega)) only [↓bcase_true, ↓bcase_false, WA, simprocAttr, wrap_i64, rV, List.length_map, own_sl, sV_frz, Nat.not_lt_zero]
  simp +contextual (maxSteps := 2000000) (disch := ((try unfold LIM at *); omega)) only [↓bcase_true, ↓bcase_false, WA, simprocAttr, wrap_i64, bne_self_eq_false, WB8]
  refine CallThen.edit (walk28 r 1 cg hlen hcg (by omega) (by omega)) [3] (by simp) ⟨.inl ⟨nrs_map sV_nr _, rfl⟩, trivial⟩ rfl 1000 ?_
  simp +contextual (maxSteps := 2000000) (disch := ((try unfold LIM at *); omega)) only [↓bcase_true, ↓bcase_false, WA, simprocAttr, wrap_i64, WB8]
  have ho : ∀ cap, elsOf 0 r.faces.length (some ⟨(markS 1 r.faces.length).map sV, 1, cap, true⟩) = some ((markS 1 r.faces.length).map sV) := fun cap => by simp [elsOf, List.take_of_length_le, markS_len]
  refine CallThen.borrow (walk29 r 1 r.faces.length hlen (by omega) (by omega)) (flat_s _) 6 ?_ 1000 ?_
  · simp +contextual (maxSteps := 2000000) (disch := ((try unfold LIM at *); omega)) only [↓bcase_true, ↓bcase_false, WA, simprocAttr, wrap_i64, rV, ho, sV_frz, Nat.not_lt_zero]
  have p2 : ¬ (1 + (r.faces.length : Int) < 0) := by omega
  simp +contextual (maxSteps := 2000000) (disch := ((try unfold LIM at *); omega)) only [↓bcase_true, ↓bcase_false, WA, simprocAttr, wrap_i64, WB8, p2, bne_self_eq_false]
  refine CallThen.pure (pure20 l F.nl F.nf) 1000 ?_
  simp +contextual (maxSteps := 2000000) (disch := ((try unfold LIM at *); omega)) only [↓bcase_true, ↓bcase_false, WA, simprocAttr, wrap_i64, WB8]
  refine CallThen.pure (pure21 fs F.ns) 1000 ?_
  simp +contextual (maxSteps := 2000000) (disch := ((try unfold LIM at *); omega)) only [↓bcase_true, ↓bcase_false, WA, simprocAttr, wrap_i64, WB8]
  refine CallThen.newRB n22 6 ?_ 1000 fun ch hch => ?_
  · simp +contextual (maxSteps := 2000000) (disch := ((try unfold LIM at *); omega)) only [↓bcase_true, ↓bcase_false, WA, simprocAttr, wrap_i64]
  simp only at hch
  simp +contextual (maxSteps := 2000000) (disch := ((try unfold LIM at *); omega)) only [↓bcase_true, ↓bcase_false, WA, simprocAttr, wrap_i64, rO, WB8]
  refine CallThen.borrow (walk23 r r) (flat_s _) 6 ?_ 1000 ?_
  · simp +contextual (maxSteps := 2000000) (disch := ((try unfold LIM at *); omega)) only [↓bcase_true, ↓bcase_false, WA, simprocAttr, wrap_i64, rV, List.length_map, own_sl, sV_frz, Nat.not_lt_zero]
  simp +contextual (maxSteps := 2000000) (disch := ((try unfold LIM at *); omega)) only [↓bcase_true, ↓bcase_false, WA, simprocAttr, wrap_i64, WB8, bne_self_eq_false]
  refine CallThen.borrow (walk29 r 1 r.faces.length hlen (by omega) (by omega)) (flat_s _) 6 ?_ 1000 ?_
  · simp +contextual (maxSteps := 2000000) (disch := ((try unfold LIM at *); omega)) only [↓bcase_true, ↓bcase_false, WA, simprocAttr, wrap_i64, rV, ho, sV_frz, Nat.not_lt_zero]
  simp +contextual (maxSteps := 2000000) (disch := ((try unfold LIM at *); omega)) only [↓bcase_true, ↓bcase_false, WA, simprocAttr, wrap_i64, WB8, p2, bne_self_eq_false]
end Go.Proofs.Ytpcgnmoogjahbaa
/- part BK -/
set_option linter.unusedVariables false
set_option maxRecDepth 100000
namespace Go.Proofs.Ytpcgnmoogjahbaa
open Go Go.W Go.RowKit
theorem own0 : ownKnob Try.prog.godebug = none := by kernel_rfl
theorem laidOut0 : laidOutB Try.prog = true := by kernel_rfl
section
variable {H' : Type} {enc : TypeId × Value → H'} {W : World}
theorem c9 : Try.prog.cellsOf 9 = 1 := by kernel_rfl
theorem c27 : Try.prog.cellsOf 27 = 1 := by kernel_rfl
theorem opn_strs : Go.W.Opn enc Try.prog W 27 fun xs => ∃ l : List ByteArray, xs = [.f 1 (l.map sV)] := by
  have e1 : Go.W.Opn enc Try.prog W 27 fun xs => ∃ els, xs = [.f 1 els] ∧ ∀ el ∈ els, ∃ b : ByteArray, el = sV b := opn_slice (n := 0) Try.underlying27 (by kernel_rfl) (opn_str Try.underlying9)
  refine e1.mono fun xs ⟨els, e, h⟩ => ?_
  obtain ⟨l, rfl⟩ := map_of h
  exact ⟨l, e⟩
theorem opn_rec : Go.W.Opn enc Try.prog W 91 fun xs => ∃ r : Rec, xs = rV r := by
  refine (opn_struct (gs := [_, _, _, _, _]) Try.underlying91 (by kernel_rfl) ⟨rfl, opn_str Try.underlying9, by simp only [c9], opn_str Try.underlying9, by simp only [c9], opn_strs, by simp only [c9, c27], opn_str Try.underlying9, by simp only [c9, c27], opn_str Try.underlying9, rfl⟩).mono fun xs g => ?_
  obtain ⟨_, _, rfl, ⟨n, rfl⟩, _, _, rfl, ⟨s, rfl⟩, _, _, rfl, ⟨l, rfl⟩, _, _, rfl, ⟨a, rfl⟩, _, _, rfl, ⟨o, rfl⟩, rfl⟩ := g
  exact ⟨⟨n, s, l, a, o⟩, rfl⟩
theorem opn_recs : Go.W.Opn enc Try.prog W 26 fun xs => ∃ l : List Rec, xs = [.f 5 (l.map rV)] := by
  have e1 : Go.W.Opn enc Try.prog W 26 fun xs => ∃ els, xs = [.f 5 els] ∧ ∀ el ∈ els, ∃ r : Rec, el = rV r := opn_slice (n := 4) Try.underlying26 (by kernel_rfl) opn_rec
  refine e1.mono fun xs ⟨els, e, h⟩ => ?_
  obtain ⟨l, rfl⟩ := map_of h
  exact ⟨l, e⟩
end
end Go.Proofs.Ytpcgnmoogjahbaa
