/- A layer for walking through code on abstract values, told apart by who owns the memory: its definitions and their soundness; no condition. -/
import Derived.Test.YtpcgnmoogjahbaaW10
set_option linter.unusedVariables false
set_option linter.unusedSimpArgs false
namespace Go.W
open Go Go.RowKit

section
variable {C : Cx} {o : Oper} {a : Act} {w : World} {S : Nat → Prop} {w0 : World} {φ : Phi} {K : V → H → Prop} {h : H} {τ : Tau} {F : Nat → Fp}

/-! ### Slices -/
theorem sb0 {P : Program} {b : Bool} (len cap : Nat) (w : World) : (Instr.sliceBounds b len cap none none none).run P w = .ok (0, len, cap) w := by simp [Instr.sliceBounds]
theorem sb1 {P : Program} {b : Bool} {k : IntKind} {l : Int} {len cap : Nat} (h0 : 0 ≤ l) (h1 : l ≤ len) (w : World) : (Instr.sliceBounds b len cap (some (.int k l)) none none).run P w = .ok (l.toNat, len, cap) w := by
  simp [Instr.sliceBounds, Instr.sliceBound, asIntOf, h0, h1]
theorem sb2 {P : Program} {b : Bool} {k : IntKind} {r : Int} {len cap : Nat} (h0 : 0 ≤ r) (h1 : r ≤ cap) (w : World) : (Instr.sliceBounds b len cap none (some (.int k r)) none).run P w = .ok (0, r.toNat, cap) w := by
  simp [Instr.sliceBounds, Instr.sliceBound, asIntOf, h0, h1]
theorem sb3 {P : Program} {b : Bool} {k k' : IntKind} {l r : Int} {len cap : Nat} (h0 : 0 ≤ l) (h1 : l ≤ r) (h2 : r ≤ cap) (w : World) : (Instr.sliceBounds b len cap (some (.int k l)) (some (.int k' r)) none).run P w = .ok (l.toNat, r.toNat, cap) w := by
  have h3 : 0 ≤ r := by omega
  have h4 : l ≤ (r.toNat : Int) := by omega
  have h5 : max r 0 = r := by omega
  simp [Instr.sliceBounds, Instr.sliceBound, asIntOf, h0, h1, h2, h3, h4, h5]
theorem sb4 {P : Program} {b : Bool} {k k' : IntKind} {r m : Int} {len cap : Nat} (h0 : 0 ≤ r) (h1 : r ≤ m) (h2 : m ≤ cap) (w : World) : (Instr.sliceBounds b len cap none (some (.int k r)) (some (.int k' m))).run P w = .ok (0, r.toNat, m.toNat) w := by
  have h3 : 0 ≤ m := by omega
  have h4 : r ≤ (m.toNat : Int) := by omega
  have h5 : max m 0 = m := by omega
  simp [Instr.sliceBounds, Instr.sliceBound, asIntOf, h0, h1, h2, h3, h4, h5]

theorem run_slice {P : Program} {t e : TypeId} {n : Nat} (hu : P.underlying t = some (.slice e)) (hn : tSz P e = some n) {p : Option Addr} {len cap : Nat} {lo hi mx : Option Value} {l r m : Nat} {w : World}
    (hb : (Instr.sliceBounds true len cap lo hi mx).run P w = .ok (l, r, m) w) :
    (Instr.slice t (.slice p len cap) lo hi mx).run P w = .ok (.slice (if m = l then p else p.map (·.add (l * n))) (r - l) (m - l)) w := by
  simp only [Instr.slice, Sem.run_bind, run_underlying hu, Result.andThen_ok, hb, run_sz hn, Sem.run_pure]
theorem run_sliceS {P : Program} {t : TypeId} (hu : P.underlying t = some .string) {s : ByteArray} {lo hi : Option Value} {l r m : Nat} {w : World}
    (hb : (Instr.sliceBounds false s.size s.size lo hi none).run P w = .ok (l, r, m) w) : (Instr.slice t (.string s) lo hi none).run P w = .ok (.string (s.extract l r)) w := by
  simp [Instr.slice, run_underlying hu, hb]

theorem opt_int {x : Option Operand} {k : IntKind} {l : Int} (G : RelG C φ.z) (T : RelT φ τ a) (hx : ∀ y, x = some y → opdOk y = true) (hv : x.map (ev C τ) = some (.s (.int k l))) : x.map a.eval = some (.int k l) := by
  cases x with
  | none => cases hv
  | some y =>
    simp only [Option.map_some, Option.some.injEq] at hv
    have ey := ev_rel G T y (hx y rfl)
    rw [hv] at ey
    simp [(s_rel ey).1]
theorem opt_none {x : Option Operand} (hv : x.map (ev C τ) = none) : x.map a.eval = none := by
  cases x with
  | none => rfl
  | some y => cases hv

theorem exec_slice {P : Program} {t : TypeId} {x : Operand} {lo hi mx : Option Operand} (ho : o.op = .slice t x lo hi mx) {xv v : Value} (hx : a.eval x = xv) (hs : ∀ p, xv ≠ .pointer p) {w : World}
    (hr : (Instr.slice t xv (lo.map a.eval) (hi.map a.eval) (mx.map a.eval)).run P w = .ok v w) (hu : (∃ e, P.underlying t = some (.slice e)) ∨ P.underlying t = some .string) : (execOp a.eval o).run P w = .ok (.value v) w := by
  rcases hu with ⟨e, hu⟩ | hu <;> simp [execOp, ho, hx, Instr.sliceAt, run_underlying hu, hr]

theorem rz_cut {z : Zm} {n : Nat} {els : List (List V)} {k off cap l r : Nat} (hle : els.length ≤ cap) (hlim : els.length ≤ LIM) (hz : RZss z k n off els) (hl : l ≤ r) (hr : r ≤ els.length) :
    RZ z (.f n ((els.drop l).take (r - l))) (.slice (if cap = l then some ⟨k, off, none⟩ else (some (⟨k, off, none⟩ : Addr)).map (·.add (l * n))) (r - l) (cap - l)) := by
  simp only [RZ]
  have hlen : ((els.drop l).take (r - l)).length = r - l := by simp; omega
  by_cases e : cap = l
  · rw [if_pos e]
    have : (els.drop l).take (r - l) = [] := List.eq_nil_of_length_eq_zero (by rw [hlen]; omega)
    refine .inr ⟨k, off, cap - l, by rw [hlen], by rw [hlen]; omega, by rw [hlen]; omega, ?_⟩
    rw [this]; simp [RZss]
  · rw [if_neg e]
    refine .inr ⟨k, off + l * n, cap - l, by rw [hlen]; simp [addr_add], by rw [hlen]; omega, by rw [hlen]; omega, (hz.drop l).take _⟩

theorem sem_slice {t : TypeId} {x : Operand} {lo hi mx : Option Operand} (ho : o.op = .slice t x lo hi mx) (R : Rel S w0 φ h w) (G : RelG C φ.z) (T : RelT φ τ a) (hx : opdOk x = true)
    (hlo : ∀ y, lo = some y → opdOk y = true) (hhi : ∀ y, hi = some y → opdOk y = true) (hmx : ∀ y, mx = some y → opdOk y = true)
    (hw : slK C K h (tK C.P t) (lo.map (ev C τ)) (hi.map (ev C τ)) (mx.map (ev C τ)) (ev C τ x)) : DidA C.P o a φ (fun x => K x h) := by
  have ex := ev_rel G T x hx
  obtain ⟨F, R⟩ := R
  -- the places where it is cut, in the world
  have cuts : ∀ (b : Bool) (len cap : Nat), 
      (lo.map (ev C τ) = none → hi.map (ev C τ) = none → mx.map (ev C τ) = none → ∀ w, (Instr.sliceBounds b len cap (lo.map a.eval) (hi.map a.eval) (mx.map a.eval)).run C.P w = .ok (0, len, cap) w) ∧
      (∀ k l, lo.map (ev C τ) = some (.s (.int k l)) → hi.map (ev C τ) = none → mx.map (ev C τ) = none → 0 ≤ l → l ≤ len → ∀ w, (Instr.sliceBounds b len cap (lo.map a.eval) (hi.map a.eval) (mx.map a.eval)).run C.P w = .ok (l.toNat, len, cap) w) ∧
      (∀ k r, lo.map (ev C τ) = none → hi.map (ev C τ) = some (.s (.int k r)) → mx.map (ev C τ) = none → 0 ≤ r → r ≤ cap → ∀ w, (Instr.sliceBounds b len cap (lo.map a.eval) (hi.map a.eval) (mx.map a.eval)).run C.P w = .ok (0, r.toNat, cap) w) ∧
      (∀ k l k' r, lo.map (ev C τ) = some (.s (.int k l)) → hi.map (ev C τ) = some (.s (.int k' r)) → mx.map (ev C τ) = none → 0 ≤ l → l ≤ r → r ≤ cap → ∀ w, (Instr.sliceBounds b len cap (lo.map a.eval) (hi.map a.eval) (mx.map a.eval)).run C.P w = .ok (l.toNat, r.toNat, cap) w) ∧
      (∀ k r k' m, lo.map (ev C τ) = none → hi.map (ev C τ) = some (.s (.int k r)) → mx.map (ev C τ) = some (.s (.int k' m)) → 0 ≤ r → r ≤ m → m ≤ cap → ∀ w, (Instr.sliceBounds b len cap (lo.map a.eval) (hi.map a.eval) (mx.map a.eval)).run C.P w = .ok (0, r.toNat, m.toNat) w) := by
    intro b len cap
    refine ⟨fun e1 e2 e3 w => ?_, fun k l e1 e2 e3 h0 h1 w => ?_, fun k r e1 e2 e3 h0 h1 w => ?_, fun k l k' r e1 e2 e3 h0 h1 h2 w => ?_, fun k r k' m e1 e2 e3 h0 h1 h2 w => ?_⟩
    · rw [opt_none (a := a) e1, opt_none (a := a) e2, opt_none (a := a) e3]; exact sb0 ..
    · rw [opt_int G T hlo e1, opt_none (a := a) e2, opt_none (a := a) e3]; exact sb1 h0 h1 w
    · rw [opt_none (a := a) e1, opt_int G T hhi e2, opt_none (a := a) e3]; exact sb2 h0 h1 w
    · rw [opt_int G T hlo e1, opt_int G T hhi e2, opt_none (a := a) e3]; exact sb3 h0 h1 h2 w
    · rw [opt_none (a := a) e1, opt_int G T hhi e2, opt_int G T hmx e3]; exact sb4 h0 h1 h2 w
  unfold slK at hw
  split at hw
  · -- a text
    rename_i s e1
    rw [e1] at ex
    obtain ⟨ex, hone⟩ := s_rel ex
    obtain ⟨c0, c1, c2, c3, -⟩ := cuts false s.size s.size
    have fin : ∀ {l r m : Nat}, C.P.underlying t = some .string → mx.map (ev C τ) = none → K (.s (.string (s.extract l r))) h → (∀ w, (Instr.sliceBounds false s.size s.size (lo.map a.eval) (hi.map a.eval) (mx.map a.eval)).run C.P w = .ok (l, r, m) w) → DidA C.P o a φ (fun x => K x h) := by
      intro l r m hu hm hk hb
      have hm' := opt_none (a := a) hm
      rw [hm'] at hb
      refine did_any hk (v := .string (s.extract l r)) (fun w => ?_) (mk_s ?_)
      · exact exec_slice ho ex (fun p q => by cases q) (by rw [hm']; exact run_sliceS hu (hb w)) (.inr hu)
      · simp only [one, decide_eq_true_eq] at hone ⊢
        have : (s.extract l r).size ≤ s.size := by simp; omega
        omega
    split at hw
    · rename_i e2 e3 e4 e5
      have hu := tK_string e2
      refine fin (l := 0) (r := s.size) (m := s.size) hu e5 ?_ (fun w => c0 e3 e4 e5 w)
      have : s.extract 0 s.size = s := by simp
      rw [this]; exact hw
    · rename_i k l e2 e3 e4 e5
      obtain ⟨⟨h0, h1, -⟩, hk⟩ := hw
      exact fin (tK_string e2) e5 hk (fun w => c1 k l e3 e4 e5 h0 h1 w)
    · rename_i k r e2 e3 e4 e5
      obtain ⟨⟨-, h1, h2⟩, hk⟩ := hw
      exact fin (tK_string e2) e5 hk (fun w => c2 k r e3 e4 e5 h1 h2 w)
    · rename_i k l k' r e2 e3 e4 e5
      obtain ⟨⟨h0, h1, h2⟩, hk⟩ := hw
      exact fin (tK_string e2) e5 hk (fun w => c3 k l k' r e3 e4 e5 h0 h1 h2 w)
    · exact hw.elim
  · -- memory that stays
    rename_i n els e1
    rw [e1] at ex
    have fin : ∀ {e : TypeId} {l r : Nat}, tK C.P t = .slice e → tSz C.P e = some n → l ≤ r → r ≤ els.length → K (.f n ((els.drop l).take (r - l))) h →
        (∀ p cap, a.eval x = .slice p els.length cap → els.length ≤ cap → ∀ w, (Instr.sliceBounds true els.length cap (lo.map a.eval) (hi.map a.eval) (mx.map a.eval)).run C.P w = .ok (l, r, cap) w) → DidA C.P o a φ (fun x => K x h) := by
      intro e l r ht hn hlr hr hk hb
      have hu := tK_slice ht
      rcases f_rel ex with ⟨rfl, q, hv⟩ | ⟨k, off, cap, hv, h1, h2, h3⟩
      · have hr0 : r = 0 := by simpa using hr
        have hl0 : l = 0 := by omega
        subst hr0; subst hl0
        refine did_any hk (v := .slice q 0 0) (fun w => ?_) (relV_of_rz (by simp [RZ]))
        refine exec_slice ho hv (fun p q => by cases q) ?_ (.inl ⟨e, hu⟩)
        have := run_slice (p := q) hu hn (hb q 0 hv (by simp) w)
        simpa using this
      · refine did_any hk (v := _) (fun w => exec_slice ho hv (fun p q => by cases q) (run_slice hu hn (hb _ cap hv h1 w)) (.inl ⟨e, hu⟩)) (relV_of_rz (rz_cut h1 h2 h3 hlr hr))
    split at hw
    · rename_i e e2 e3 e4 e5
      obtain ⟨hn, hk⟩ := hw
      refine fin (l := 0) (r := els.length) e2 hn (Nat.zero_le _) (Nat.le_refl _) (by simpa using hk) (fun p cap _ _ w => (cuts true els.length cap).1 e3 e4 e5 w)
    · rename_i e k l e2 e3 e4 e5
      obtain ⟨hn, ⟨h0, h1, -⟩, hk⟩ := hw
      refine fin (l := l.toNat) (r := els.length) e2 hn (by omega) (Nat.le_refl _) (by simpa using hk) (fun p cap _ _ w => (cuts true els.length cap).2.1 k l e3 e4 e5 h0 h1 w)
    · rename_i e k r e2 e3 e4 e5
      obtain ⟨hn, ⟨-, h1, h2⟩, hk⟩ := hw
      refine fin (l := 0) (r := r.toNat) e2 hn (by omega) (by omega) (by simpa using hk) (fun p cap _ hc w => (cuts true els.length cap).2.2.1 k r e3 e4 e5 h1 (by omega) w)
    · rename_i e k l k' r e2 e3 e4 e5
      obtain ⟨hn, ⟨h0, h1, h2⟩, hk⟩ := hw
      refine fin (l := l.toNat) (r := r.toNat) e2 hn (by omega) (by omega) hk (fun p cap _ hc w => (cuts true els.length cap).2.2.2.1 k l k' r e3 e4 e5 h0 h1 (by omega) w)
    · rename_i e k r k' m e2 e3 e4 e5
      obtain ⟨⟨hn, rfl, rfl⟩, hk⟩ := hw
      have hu := tK_slice e2
      have go : ∀ {p : Option Addr} {cap : Nat}, a.eval x = .slice p els.length cap → DidA C.P o a φ (fun x => K x h) := by
        intro p cap hv
        refine did_any hk (v := .slice p 0 0) (fun w => exec_slice ho hv (fun p q => by cases q) ?_ (.inl ⟨e, hu⟩)) mk_z
        have := run_slice (p := p) hu hn ((cuts true els.length cap).2.2.2.2 k 0 k' 0 e3 e4 e5 (by omega) (by omega) (by omega) w)
        simpa using this
      rcases f_rel ex with ⟨rfl, q, hv⟩ | ⟨k, off, cap, hv, h1, h2, h3⟩
      · exact go hv
      · exact go hv
    · exact hw.elim
  · -- no room
    rename_i e1
    rw [e1] at ex
    obtain ⟨p, hv⟩ := z_rel ex
    obtain ⟨c0, c1, c2, c3, c4⟩ := cuts true 0 0
    have fin : ∀ {e : TypeId}, tK C.P t = .slice e → isN (tSz C.P e) → K .z h → (∀ w, (Instr.sliceBounds true 0 0 (lo.map a.eval) (hi.map a.eval) (mx.map a.eval)).run C.P w = .ok (0, 0, 0) w) → DidA C.P o a φ (fun x => K x h) := by
      intro e ht hn hk hb
      have hu := tK_slice ht
      cases hs : tSz C.P e with
      | none => rw [hs] at hn; exact hn.elim
      | some n =>
        refine did_any hk (v := .slice p 0 0) (fun w => exec_slice ho hv (fun p q => by cases q) ?_ (.inl ⟨e, hu⟩)) mk_z
        have := run_slice (p := p) hu hs (hb w)
        simpa using this
    split at hw
    · rename_i e e2 e3 e4 e5; exact fin e2 hw.1 hw.2 (fun w => c0 e3 e4 e5 w)
    · rename_i e k l e2 e3 e4 e5; obtain ⟨⟨hn, rfl⟩, hk⟩ := hw; exact fin e2 hn hk (fun w => c1 k 0 e3 e4 e5 (by omega) (by omega) w)
    · rename_i e k r e2 e3 e4 e5; obtain ⟨⟨hn, rfl⟩, hk⟩ := hw; exact fin e2 hn hk (fun w => c2 k 0 e3 e4 e5 (by omega) (by omega) w)
    · rename_i e k l k' r e2 e3 e4 e5; obtain ⟨⟨hn, rfl, rfl⟩, hk⟩ := hw; exact fin e2 hn hk (fun w => c3 k 0 k' 0 e3 e4 e5 (by omega) (by omega) (by omega) w)
    · rename_i e k r k' m e2 e3 e4 e5; obtain ⟨⟨hn, rfl, rfl⟩, hk⟩ := hw; exact fin e2 hn hk (fun w => c4 k 0 k' 0 e3 e4 e5 (by omega) (by omega) (by omega) w)
    · exact hw.elim
  · -- a block
    rename_i b off len cap e1
    rw [e1] at ex
    obtain ⟨p, n, hp, hv⟩ := sl_rel ex
    obtain ⟨c0, c1, c2, c3, c4⟩ := cuts true len cap
    have size : ∀ {e : TypeId}, sameN (strideB (h[b]?)) (tSz C.P e) → tSz C.P e = some n := by
      intro e hst
      unfold sameN at hst
      split at hst
      · rename_i a' b' hs1 hs2
        subst hst
        unfold strideB at hs1
        split at hs1
        · rename_i els n' cap' hb
          obtain ⟨pp, g1, _⟩ := R.place hb rfl
          rw [hp] at g1; cases g1
          cases hs1; exact hs2
        · cases hs1
      · exact hst.elim
    -- what comes out, by where the block lies
    have out : ∀ {e : TypeId} {l r : Nat}, tK C.P t = .slice e → tSz C.P e = some n → (∀ w, (Instr.sliceBounds true len cap (lo.map a.eval) (hi.map a.eval) (mx.map a.eval)).run C.P w = .ok (l, r, cap) w) →
        ∃ q, a.eval x = .slice q len cap ∧ ∀ w, (execOp a.eval o).run C.P w = .ok (.value (.slice (if cap = l then q else q.map (·.add (l * n))) (r - l) (cap - l))) w := by
      intro e l r ht hn hb
      have hu := tK_slice ht
      have hq : ∃ q, a.eval x = .slice q len cap := by
        cases p with
        | none => obtain ⟨⟨q, hv⟩, rfl, rfl, _⟩ := hv; exact ⟨q, hv⟩
        | some k => exact ⟨_, hv⟩
      obtain ⟨q, hq⟩ := hq
      exact ⟨q, hq, fun w => exec_slice ho hq (fun p q => by cases q) (run_slice hu hn (hb w)) (.inl ⟨e, hu⟩)⟩
    have same : ∀ {r : Nat}, r ≤ cap → (p = none → r = 0) → ∀ {q : Option Addr}, a.eval x = .slice q len cap → RelV φ (.sl b off r cap) (.slice (if cap = 0 then q else q.map (·.add (0 * n))) (r - 0) (cap - 0)) := by
      intro r hrc hr q hq
      cases p with
      | none =>
        obtain ⟨⟨q', hv⟩, rfl, rfl, rfl⟩ := hv
        rw [hr rfl]
        exact mk_nil hp
      | some k =>
        simp only at hv
        rw [hv] at hq; cases hq
        have : (if cap = 0 then (some (⟨k, off * n, none⟩ : Addr)) else (some (⟨k, off * n, none⟩ : Addr)).map (·.add (0 * n))) = some ⟨k, off * n, none⟩ := by
          split
          · rfl
          · simp [addr_add]
        rw [this]
        exact mk_sl hp hrc
    have cut : ∀ {l r : Nat}, l ≤ r → r ≤ cap → cutO K h b off cap (some n) l r (decide (l < r)) → ∀ {q : Option Addr}, a.eval x = .slice q len cap →
        ∃ x', K x' h ∧ RelV φ x' (.slice (if cap = l then q else q.map (·.add (l * n))) (r - l) (cap - l)) := by
      intro l r hlr hrc hk q hq
      by_cases hlt : l < r
      · rw [decide_eq_true hlt] at hk
        refine ⟨_, hk, ?_⟩
        rw [if_neg (by omega)]
        cases p with
        | none => obtain ⟨_, rfl, rfl, _⟩ := hv; omega
        | some k =>
          simp only at hv
          rw [hv] at hq; cases hq
          simp only [Option.map_some, addr_add, ← Nat.add_mul]
          exact mk_sl hp (by omega)
      · rw [decide_eq_false hlt] at hk
        refine ⟨_, hk, ?_⟩
        have : r - l = 0 := by omega
        rw [this]
        cases p with
        | none =>
          obtain ⟨_, rfl, rfl, _⟩ := hv
          have : l = 0 := by omega
          subst this
          exact mk_f0
        | some k =>
          simp only at hv
          rw [hv] at hq; cases hq
          split
          · exact mk_fe
          · simp only [Option.map_some, addr_add]; exact mk_fe
    split at hw
    · rename_i e e2 e3 e4 e5
      obtain ⟨hst, hk⟩ := hw
      obtain ⟨q, hq, hr⟩ := out e2 (size hst) (fun w => c0 e3 e4 e5 w)
      refine ⟨_, _, hk, hr, same (sl_le ex) (fun hn => ?_) hq⟩
      subst hn; exact hv.2.1
    · rename_i e k l e2 e3 e4 e5
      obtain ⟨⟨hst, h0, h1, h2⟩, hk⟩ := hw
      have hn := size hst
      rw [hn] at hk
      obtain ⟨q, hq, hr⟩ := out e2 hn (fun w => c1 k l e3 e4 e5 h0 h1 w)
      have hd : decide (l < (len : Int)) = decide (l.toNat < len) := by
        by_cases q : l < (len : Int)
        · rw [decide_eq_true q, decide_eq_true (by omega)]
        · rw [decide_eq_false q, decide_eq_false (by omega)]
      rw [hd] at hk
      obtain ⟨x', k1, k2⟩ := cut (by omega) h2 hk hq
      exact ⟨x', _, k1, hr, k2⟩
    · rename_i e k r e2 e3 e4 e5
      obtain ⟨hst, ⟨h0, h1⟩, hk⟩ := hw
      obtain ⟨q, hq, hr⟩ := out e2 (size hst) (fun w => c2 k r e3 e4 e5 h0 h1 w)
      refine ⟨_, _, hk, hr, same (by omega) (fun hn => ?_) hq⟩
      subst hn; obtain ⟨_, _, rfl, _⟩ := hv; omega
    · rename_i e k l k' r e2 e3 e4 e5
      obtain ⟨⟨hst, h0, h1, h2⟩, hk⟩ := hw
      have hn := size hst
      rw [hn] at hk
      obtain ⟨q, hq, hr⟩ := out e2 hn (fun w => c3 k l k' r e3 e4 e5 h0 h1 h2 w)
      have hd : decide (l < r) = decide (l.toNat < r.toNat) := by
        by_cases q : l < r
        · rw [decide_eq_true q, decide_eq_true (by omega)]
        · rw [decide_eq_false q, decide_eq_false (by omega)]
      rw [hd] at hk
      obtain ⟨x', k1, k2⟩ := cut (by omega) (by omega) hk hq
      exact ⟨x', _, k1, hr, k2⟩
    · rename_i e k r k' m e2 e3 e4 e5
      obtain ⟨⟨hst, rfl, rfl⟩, hk⟩ := hw
      have hu := tK_slice e2
      have hq : ∃ q, a.eval x = .slice q len cap := by
        cases p with
        | none => obtain ⟨⟨q, hv⟩, rfl, rfl, _⟩ := hv; exact ⟨q, hv⟩
        | some k => exact ⟨_, hv⟩
      obtain ⟨q, hq⟩ := hq
      refine did_any hk (v := .slice q 0 0) (fun w => exec_slice ho hq (fun p q => by cases q) ?_ (.inl ⟨e, hu⟩)) mk_z
      have := run_slice (p := q) hu (size hst) (c4 k 0 k' 0 e3 e4 e5 (by omega) (by omega) (by omega) w)
      simpa using this
    · exact hw.elim
  · exact hw.elim
end
end Go.W
