/- A layer for walking through code on abstract values, told apart by who owns the memory: its definitions and their soundness; no condition. -/
import Derived.Test.YtpcgnmoogjahbaaW7
import Derived.Laws.StructEq
set_option linter.unusedVariables false
set_option linter.unusedSimpArgs false
namespace Go.W
open Go Go.RowKit

section
variable {C : Cx} {o : Oper} {a : Act} {w : World} {S : Nat → Prop} {w0 : World} {φ : Phi} {K : V → H → Prop} {h : H} {τ : Tau} {F : Nat → Fp}

/-! ### Stores -/
theorem wrL_len {α : Type} : ∀ (cs : List α) (off : Nat) (xs : List α), (wrL cs off xs).length = cs.length
  | _, _, [] => rfl
  | cs, off, x :: xs => by simp only [wrL]; rw [wrL_len]; simp
theorem wrL_eq {α : Type} : ∀ (xs : List α) (cs : List α) (off : Nat), off + xs.length ≤ cs.length → wrL cs off xs = cs.take off ++ xs ++ cs.drop (off + xs.length)
  | [], cs, off, h => by simp [wrL]
  | x :: xs, cs, off, h => by
    simp only [wrL]
    simp at h
    rw [wrL_eq xs (cs.set off x) (off + 1) (by simp; omega)]
    have h1 : (cs.set off x).take (off + 1) = cs.take off ++ [x] := by
      rw [List.take_set, List.take_succ_eq_append_getElem (by omega : off < cs.length), List.set_append_right _ _ (by simp; omega)]
      simp [Nat.min_eq_left (by omega : off ≤ cs.length)]
    have h2 : (cs.set off x).drop (off + 1 + xs.length) = cs.drop (off + (x :: xs).length) := by
      rw [List.drop_set_of_lt (by omega)]; congr 1; simp; omega
    rw [h1, h2]; simp

theorem Lss.wr {R : V → Value → Fp → Prop} {Q : V → Value → Prop} (hq : ∀ x v, Q x v → R x v []) {n i : Nat} : ∀ {xs : List V} {us : List Value} {els : List (List V)} {el : List V} {vs : List Value} {fp : Fp} {o : Nat},
    All2 Q xs us → Lss R n els vs fp → els[i]? = some el → o + xs.length ≤ el.length →
    ∃ fp', fp'.Sublist fp ∧ Lss R n (els.set i (wrL el o xs)) (wrL vs (i * n + o) us) fp'
  | [], [], els, el, vs, fp, o, _, h, he, _ => ⟨fp, List.Sublist.refl _, by unfold wrL; rw [set_same he]; exact h⟩
  | x :: xs, u :: us, els, el, vs, fp, o, hx, h, he, hl => by
    simp at hl
    obtain ⟨f1, f, f2, x0, v0, rfl, e3, e4, e5, e6⟩ := h.set he (o := o) (by omega)
    have h1 := e6 R (fun _ _ _ _ q => q) x u [] (hq _ _ hx.1)
    have hi : i < els.length := (List.getElem?_eq_some_iff.1 he).1
    obtain ⟨fp', q1, q2⟩ := Lss.wr hq (o := o + 1) hx.2 h1 (el := el.set o x) (by rw [List.getElem?_set_self hi]) (by rw [List.length_set]; omega)
    refine ⟨fp', q1.trans ?_, ?_⟩
    · simp only [List.append_nil, List.append_assoc]
      exact List.Sublist.append (List.Sublist.refl _) (List.sublist_append_right f f2)
    · simp only [wrL]; rw [List.set_set] at q2; exact q2
  | [], _ :: _, _, _, _, _, _, hx, _, _, _ => hx.elim
  | _ :: _, [], _, _, _, _, _, hx, _, _, _ => hx.elim

/-- Cells of a block of one's own are written. -/
theorem wr_sound {P : Program} (R : RelF S w0 φ h w F) {b i ob k n : Nat} {xs : List V} {vs : List Value} (hp : φ.m b = some (some k, n)) (hl : fitsB (rdB (h[b]?) i) ob xs.length)
    (hx : All2 (RelC φ) xs vs) (hok : xs.all cellOk = true) : ∃ w', (storeCells ⟨k, i * n + ob, none⟩ vs 0).run P w = .ok () w' ∧ Rel S w0 φ (wrH h b i ob xs) w' := by
  cases he : rdB (h[b]?) i with
  | none => rw [he] at hl; exact hl.elim
  | some el =>
    rw [he] at hl
    simp only [fitsB] at hl
    obtain ⟨B, c, ty, fq, f, hb, hlive, hel, rfl, hc, hlen, hF, hlss, _⟩ := R.elem hp he
    obtain ⟨pp, g1, g2, g3, g4⟩ := R.place hb hlive
    rw [hp] at g1; obtain ⟨rfl, -⟩ := Prod.mk.inj (Option.some.inj g1)
    obtain ⟨c', ty', fq', y1, y2, y3, y4, y5⟩ := g4
    rw [hc] at y1; cases y1
    have hvl := hx.length
    have hlb := hlss.len
    simp at hlb
    have hilt : i < B.els.length := (List.getElem?_eq_some_iff.1 hel).1
    have hfit : i * B.n + ob + vs.length ≤ c.size := by
      have : (i + 1) * B.n ≤ B.els.length * B.n := Nat.mul_le_mul_right _ hilt
      rw [Nat.succ_mul] at this; omega
    have hst := run_storeCells_at P k (i * B.n + ob) ty vs 0 c w hc (by simpa using hfit) (all2_oneCell hok hx)
    obtain ⟨fq2, q1, q2⟩ := hlss.wr (Q := RelC φ) (fun x v q => Dc.leaf q) hx hel hl
    rw [wrL_eq vs c.toList _ (by simpa using hfit)] at q2
    refine ⟨_, hst, ?_⟩
    unfold wrH
    rw [wrB_at hb hel]
    simp only [Nat.add_zero]
    refine R.write (k := k) (ty := ty) (fq := fq) (fq' := fq2) (c' := (c.toList.take (i * B.n + ob) ++ vs ++ c.toList.drop (i * B.n + ob + vs.length)).toArray) hb hlive hp hF
      ⟨rfl, rfl, rfl, by simp, fun j _ hj => setRow_other w k j _ (fun e => hj (by rw [e]))⟩ hlive rfl (setRow_heap w k c _ ty (0, 0) hc) ?_ (by simpa using y3) (by simpa using g3) ?_ q1 (by simpa using q2)
    · simp; rw [← y2]; omega
    · intro e' he'
      rcases List.mem_or_eq_of_mem_set he' with q | q
      · exact g2 e' q
      · subst q; rw [wrL_len]; exact hlen

theorem sem_store {t : TypeId} {p x : Operand} (ho : o.op = .store t p x) (R : Rel S w0 φ h w) (G : RelG C φ.z) (T : RelT φ τ a) (hp : opdOk p = true) (hx : opdOk x = true)
    (hw : stK C K h t (ev C τ x) (ev C τ p)) : Did C.P o a w S w0 φ h.length K := by
  have ep := ev_rel G T p hp
  have ex := ev_rel G T x hx
  obtain ⟨F, R⟩ := R
  unfold stK at hw
  split at hw
  · rename_i b i ob e1
    rw [e1] at ep
    obtain ⟨k, n, hpb, hv⟩ := ptr_rel ep
    unfold stA at hw
    split at hw
    · rename_i cs hcs
      obtain ⟨⟨hsz, hl⟩, hk⟩ := hw
      obtain ⟨q1, q2⟩ := cellsOf_rel hcs ex
      obtain ⟨w', hst, R'⟩ := wr_sound (P := C.P) R hpb hl q1 q2
      refine ⟨φ, .any, _, w', ExtN.refl .., by simp [wrH], R', hk, .inr ⟨?_, rfl⟩⟩
      have hlen : (a.eval x).cells.size = cs.length := by have := q1.length; simp at this; omega
      simp [execOp, ho, Instr.storeAt, hv, Instr.sureAddr, storeVar, run_sz hsz, hlen, hst]
    · exact hw.elim
  · exact hw.elim

/-! ### Operations that do not look at the world -/
theorem sem_nilCheck {x : Operand} (ho : o.op = .nilCheck x) (G : RelG C φ.z) (T : RelT φ τ a) (hx : opdOk x = true) (hw : nilK K h (ev C τ x)) : DidA C.P o a φ (fun x => K x h) := by
  have ex := ev_rel G T x hx
  unfold nilK at hw
  split at hw
  · rename_i b i ob e
    rw [e] at ex
    obtain ⟨k, n, hp, hv⟩ := ptr_rel ex
    exact did_any hw (v := a.eval x) (fun w => by simp [execOp, ho, hv]) ex
  · rename_i cs e
    rw [e] at ex
    obtain ⟨k, off, hv, hz⟩ := pd_rel ex
    exact did_any hw (v := a.eval x) (fun w => by simp [execOp, ho, hv]) ex
  · rename_i f cs e
    rw [e] at ex
    obtain ⟨l, hv, _⟩ := fn_rel ex
    exact did_any hw (v := a.eval x) (fun w => by simp [execOp, ho, hv]) ex
  · rename_i b off len cap e
    rw [e] at ex
    obtain ⟨p, n, hp, hv⟩ := sl_rel ex
    cases p with
    | none => obtain ⟨⟨q, hv⟩, _⟩ := hv; exact did_any hw (v := a.eval x) (fun w => by simp [execOp, ho, hv]) ex
    | some k => simp only at hv; exact did_any hw (v := a.eval x) (fun w => by simp [execOp, ho, hv]) ex
  · exact hw.elim

theorem beq_toList (a b : ByteArray) : (a.toList == b.toList) = decide (a = b) := by
  rw [Bool.eq_iff_iff]
  simp only [beq_iff_eq, decide_eq_true_eq]
  constructor
  · intro h
    rw [ByteArray.toList_eq, ByteArray.toList_eq] at h
    exact ByteArray.ext (Array.toList_inj.1 h)
  · rintro rfl; rfl

theorem run_equal_slice_nil {P : Program} {t e : TypeId} (hu : P.underlying t = some (.slice e)) (p : Option Addr) (n c n' c' : Nat) (w : World) :
    (Op.equal t (.slice p n c) (.slice none n' c')).run P w = .ok p.isNone w := by
  unfold Op.equal; rw [show Op.maxDepth = 9999 + 1 from rfl]; unfold Op.equalIn
  cases p <;> simp only [Sem.run_bind, run_underlying hu, Result.andThen_ok, Sem.run_pure] <;> rfl

theorem exec_bin {P : Program} {op : BinOp} {t u : TypeId} {x y : Operand} (ho : o.op = .binOp op t x y u) : execOp a.eval o = (do pure (.value (← (do eqGuard op t x y (a.eval x) (a.eval y); binOp op t (a.eval x) (a.eval y) : Sem Value))) : Sem Next) := by
  unfold execOp; rw [ho]
theorem did_bin {P : Program} {op : BinOp} {t u : TypeId} {x y : Operand} (ho : o.op = .binOp op t x y u) {v : Value} {y' : V} (hk : K y' h) (r : RelV φ y' v)
    (hr : ∀ w, (do eqGuard op t x y (a.eval x) (a.eval y); binOp op t (a.eval x) (a.eval y) : Sem Value).run P w = .ok v w) : DidA P o a φ fun x => K x h :=
  did_any hk (v := v) (fun w => by rw [exec_bin (P := P) ho, Sem.run_bind, hr]; rfl) r

theorem mk_b {b : Bool} : RelV φ (.s (.bool b)) (.bool b) := mk_s rfl
theorem mk_i {k : IntKind} {n : Int} : RelV φ (.s (.int k n)) (.int k n) := mk_s rfl

theorem int_eq (p q : Int) : decide (p = q) = (p == q) := by by_cases h : p = q <;> simp [h]
theorem scalar_agg {P : Program} {t : TypeId} (h : scalarK (tK P t) = true) : tAgg P t = some false := by
  unfold tK at h
  unfold tAgg
  split at h <;> first | (simp [scalarK] at h; done) | (rename_i hu; rw [hu])
theorem run_part {P : Program} {t : TypeId} {xs : Array Value} {i : Nat} {v : Value} (h : tAgg P t = some false) (hv : xs[i]? = some v) (w : World) : (part t xs i).run P w = .ok v w := by
  simp [part, run_agg h, hv]
theorem run_eqFields {P : Program} {d : Nat} {xs ys : Array Value} {w : World} : ∀ (fs : List Field) (i : Nat) (cs ds : List V) (r : Bool), flatFields P i fs = true → kindsOk (fs.map fun f => tK P f.type) cs = true → kindsOk (fs.map fun f => tK P f.type) ds = true →
    All2 (RelC φ) cs (xs.toList.drop i) → All2 (RelC φ) ds (ys.toList.drop i) → eqCells cs ds = some r → (Op.eqFields (d + 1) xs ys fs).run P w = .ok r w
  | [], i, cs, ds, r, _, hk, hk', hx, hy, he => by
    cases cs with
    | cons c cs => simp [kindsOk] at hk
    | nil =>
      cases ds with
      | cons c cs => simp [kindsOk] at hk'
      | nil => simp [eqCells] at he; subst he; simp [Op.eqFields]
  | f :: fs, i, cs, ds, r, hf, hk, hk', hx, hy, he => by
    simp only [flatFields, Bool.and_eq_true, bne_iff_ne, ne_eq, beq_iff_eq] at hf
    obtain ⟨⟨⟨hname, rfl⟩, hsc⟩, hrest⟩ := hf
    have hag := scalar_agg hsc
    simp only [List.map_cons] at hk hk'
    cases cs with
    | nil => unfold kindsOk at hk; split at hk <;> simp_all
    | cons c cs =>
    cases ds with
    | nil => unfold kindsOk at hk'; split at hk' <;> simp_all
    | cons e ds =>
    cases hxd : xs.toList.drop f.offset with
    | nil => rw [hxd] at hx; exact hx.elim
    | cons u us =>
    cases hyd : ys.toList.drop f.offset with
    | nil => rw [hyd] at hy; exact hy.elim
    | cons v vs =>
    rw [hxd] at hx; rw [hyd] at hy
    have hxi : xs[f.offset]? = some u := by
      have := congrArg (fun l => l[0]?) hxd
      simpa using this
    have hyi : ys[f.offset]? = some v := by
      have := congrArg (fun l => l[0]?) hyd
      simpa using this
    have hxs : xs.toList.drop (f.offset + 1) = us := by rw [← List.drop_drop, hxd]; rfl
    have hys : ys.toList.drop (f.offset + 1) = vs := by rw [← List.drop_drop, hyd]; rfl
    have go : ∀ (rest : Bool), kindsOk (fs.map fun f => tK P f.type) cs = true → kindsOk (fs.map fun f => tK P f.type) ds = true → eqCells cs ds = some rest → (Op.eqFields (d + 1) xs ys fs).run P w = .ok rest w :=
      fun rest h1 h2 h3 => run_eqFields fs (f.offset + 1) cs ds rest hrest h1 h2 (by rw [hxs]; exact hx.2) (by rw [hys]; exact hy.2) h3
    have fin : ∀ (b rest : Bool), (Op.equalIn (d + 1) f.type u v).run P w = .ok b w → (Op.eqFields (d + 1) xs ys fs).run P w = .ok rest w → (Op.eqFields (d + 1) xs ys (f :: fs)).run P w = .ok (b && rest) w := by
      intro b rest h1 h2
      simp only [Op.eqFields, hname, ne_eq, not_false_eq_true, if_true, Sem.run_bind, run_part hag hxi, run_part hag hyi, Result.andThen_ok, h1]
      cases b <;> simp [h2]
    unfold eqCells at he
    split at he
    · rename_i e1 _; cases e1
    · rename_i k p xs' k' q ys' e1 e2
      cases e1; cases e2
      obtain ⟨rfl, -⟩ : u = .int k p ∧ _ := by simpa [RelC, RelP, RZ] using hx.1
      obtain ⟨rfl, -⟩ : v = .int k' q ∧ _ := by simpa [RelC, RelP, RZ] using hy.1
      split at he
      · rename_i rest hr
        split at he
        · rename_i hkk
          subst hkk
          obtain rfl := Option.some.inj he
          cases htk : tK P f.type with
          | int k0 =>
            rw [htk] at hk hk'
            simp only [kindsOk, Bool.and_eq_true, decide_eq_true_eq] at hk hk'
            rw [int_eq]
            exact fin _ _ (run_equalIn_int w d f.type k k0 p q (tK_int htk)) (go rest hk.2 hk'.2 hr)
          | _ => rw [htk] at hk; simp [kindsOk] at hk
        · cases he
      · cases he
    · rename_i p xs' q ys' e1 e2
      cases e1; cases e2
      obtain ⟨rfl, -⟩ : u = .string p ∧ _ := by simpa [RelC, RelP, RZ] using hx.1
      obtain ⟨rfl, -⟩ : v = .string q ∧ _ := by simpa [RelC, RelP, RZ] using hy.1
      split at he
      · rename_i rest hr
        obtain rfl := Option.some.inj he
        cases htk : tK P f.type with
        | string =>
          rw [htk] at hk hk'
          simp only [kindsOk] at hk hk'
          rw [← beq_toList]
          exact fin _ _ (run_equalIn_string w d f.type p q (tK_string htk)) (go rest hk hk' hr)
        | _ => rw [htk] at hk; simp [kindsOk] at hk
      · cases he
    · rename_i p xs' q ys' e1 e2
      cases e1; cases e2
      obtain ⟨rfl, -⟩ : u = .bool p ∧ _ := by simpa [RelC, RelP, RZ] using hx.1
      obtain ⟨rfl, -⟩ : v = .bool q ∧ _ := by simpa [RelC, RelP, RZ] using hy.1
      split at he
      · rename_i rest hr
        obtain rfl := Option.some.inj he
        cases htk : tK P f.type with
        | bool =>
          rw [htk] at hk hk'
          simp only [kindsOk] at hk hk'
          exact fin _ _ (run_equalIn_bool w d f.type p q (tK_bool htk)) (go rest hk hk' hr)
        | _ => rw [htk] at hk; simp [kindsOk] at hk
      · cases he
    · cases he

theorem sem_binK {op : BinOp} {t u : TypeId} {x y : Operand} (ho : o.op = .binOp op t x y u) (G : RelG C φ.z) (T : RelT φ τ a) (hx : opdOk x = true) (hy : opdOk y = true)
    (hw : binK C K h t op (ev C τ x) (ev C τ y)) : DidA C.P o a φ (fun x => K x h) := by
  have ex := ev_rel G T x hx
  have ey := ev_rel G T y hy
  unfold binK at hw
  split at hw
  · -- integers
    rename_i k p k' q e1 e2
    rw [e1] at ex; rw [e2] at ey
    obtain ⟨ex, -⟩ := s_rel ex
    obtain ⟨ey, -⟩ := s_rel ey
    simp only [intB, int_eq] at hw
    split at hw <;> first
      | exact hw.elim
      | (obtain ⟨rfl, hk⟩ := hw
         refine did_bin (P := C.P) ho hk (mk_s rfl) fun w => ?_
         rw [ex, ey]
         simp [go_sem, binOp, Op.intArith, Op.intCmp, bne]; done)
      | (obtain ⟨⟨rfl, hc⟩, hk⟩ := hw
         refine did_bin (P := C.P) ho hk (mk_s rfl) fun w => ?_
         rw [ex, ey]
         simp [go_sem, binOp, Op.intDiv, hc]; done)
      | (obtain ⟨⟨hc1, hc2⟩, hk⟩ := hw
         refine did_bin (P := C.P) ho hk (mk_s rfl) fun w => ?_
         rw [ex, ey]
         simp only [eqGuard_at_int, binOp_shr, shift_shr _ _ _ _ hc1 hc2, Sem.run_bind, Sem.run_pure, Result.andThen_ok])
  · -- texts
    rename_i p q e1 e2
    rw [e1] at ex; rw [e2] at ey
    obtain ⟨ex, -⟩ := s_rel ex
    obtain ⟨ey, -⟩ := s_rel ey
    unfold strB at hw
    split at hw <;> first
      | exact hw.elim
      | (refine did_bin (P := C.P) ho hw (mk_s rfl) fun w => ?_
         rw [ex, ey]
         simp [go_sem, eqGuard_at_string, binOp, Op.stringOp, beq_toList]; done)
      | (obtain ⟨hc, hk⟩ := hw
         refine did_bin (P := C.P) ho hk (mk_s (by simpa [one, ByteArray.size_append] using hc)) fun w => ?_
         rw [ex, ey]
         have : ((p.size : Int) + (q.size : Int)) ≤ 9223372036854775807 := by unfold LIM at hc; omega
         simp [go_sem, eqGuard_at_string, binOp, Op.stringOp, this])
  · -- truths
    rename_i p q e1 e2
    rw [e1] at ex; rw [e2] at ey
    obtain ⟨ex, -⟩ := s_rel ex
    obtain ⟨ey, -⟩ := s_rel ey
    obtain ⟨ht, hw⟩ := hw
    have hu := tK_bool (isT_bool ht)
    have he : ∀ w, (Op.equal t (.bool p) (.bool q)).run C.P w = .ok (p == q) w := fun w => by
      unfold Op.equal; rw [show Op.maxDepth = 9999 + 1 from rfl]; unfold Op.equalIn; simp only [Sem.run_bind, run_underlying hu, Result.andThen_ok, Sem.run_pure]
    unfold boolB at hw
    split at hw <;> first
      | exact hw.elim
      | (refine did_bin (P := C.P) ho hw (mk_s rfl) fun w => ?_
         rw [ex, ey]
         simp [eqGuard_at_bool, binOp, he, bne]; done)
  · rename_i b i ob e1 e2
    rw [e1] at ex; rw [e2] at ey
    obtain ⟨ht, hw⟩ := hw
    obtain ⟨e, hu⟩ := tK_ptr (isT_ptr ht)
    obtain ⟨ey, -⟩ := s_rel ey
    obtain ⟨k, n, _, ex⟩ := ptr_rel ex
    have he : ∀ ad w, (Op.equal t (.pointer (some ad)) (.pointer none)).run C.P w = .ok false w := fun ad w => by
      unfold Op.equal; rw [show Op.maxDepth = 9999 + 1 from rfl]; unfold Op.equalIn; simp only [Sem.run_bind, run_underlying hu, Result.andThen_ok, Sem.run_pure]
    unfold eqB at hw
    split at hw <;> first
      | exact hw.elim
      | (refine did_bin (P := C.P) ho hw (mk_s rfl) fun w => ?_
         rw [ex, ey]
         simp [eqGuard, binOp, he]; done)
  · rename_i cs e1 e2
    rw [e1] at ex; rw [e2] at ey
    obtain ⟨ht, hw⟩ := hw
    obtain ⟨e, hu⟩ := tK_ptr (isT_ptr ht)
    obtain ⟨ey, -⟩ := s_rel ey
    obtain ⟨k, off, ex, _⟩ := pd_rel ex
    have he : ∀ ad w, (Op.equal t (.pointer (some ad)) (.pointer none)).run C.P w = .ok false w := fun ad w => by
      unfold Op.equal; rw [show Op.maxDepth = 9999 + 1 from rfl]; unfold Op.equalIn; simp only [Sem.run_bind, run_underlying hu, Result.andThen_ok, Sem.run_pure]
    unfold eqB at hw
    split at hw <;> first
      | exact hw.elim
      | (refine did_bin (P := C.P) ho hw (mk_s rfl) fun w => ?_
         rw [ex, ey]
         simp [eqGuard, binOp, he]; done)
  · rename_i e1 e2
    rw [e1] at ex; rw [e2] at ey
    obtain ⟨ht, hw⟩ := hw
    obtain ⟨e, hu⟩ := tK_ptr (isT_ptr ht)
    obtain ⟨ey, -⟩ := s_rel ey
    obtain ⟨ex, -⟩ := s_rel ex
    have he : ∀ w, (Op.equal t (.pointer none) (.pointer none)).run C.P w = .ok true w := fun w => by
      unfold Op.equal; rw [show Op.maxDepth = 9999 + 1 from rfl]; unfold Op.equalIn; simp only [Sem.run_bind, run_underlying hu, Result.andThen_ok, Sem.run_pure]; rfl
    unfold eqB at hw
    split at hw <;> first
      | exact hw.elim
      | (refine did_bin (P := C.P) ho hw (mk_s rfl) fun w => ?_
         rw [ex, ey]
         simp [eqGuard, binOp, he]; done)
  · rename_i xs ys e1 e2
    rw [e1] at ex; rw [e2] at ey
    obtain ⟨⟨hs, hk1, hk2⟩, hw⟩ := hw
    obtain ⟨xl, ex, rx⟩ := ex
    obtain ⟨yl, ey, ry⟩ := ey
    unfold eqStruct at hs
    split at hs
    · rename_i fs hu
      simp only [Bool.and_eq_true, Bool.not_eq_true'] at hs
      obtain ⟨⟨h1, h2⟩, h3⟩ := hs
      have hfo : C.P.fieldsOf t = fs := by unfold Program.fieldsOf; rw [hu]
      have hu' : C.P.underlying t = some (.struct (C.P.fieldsOf t)) := by rw [hfo]; exact hu
      have hft : fieldTK C.P t = fs.toList.map fun f => tK C.P f.type := by unfold fieldTK; rw [hu]
      rw [hft] at hk1 hk2
      unfold eqA at hw
      split at hw
      · rename_i r hr
        have he : ∀ w, (Op.equalIn 10000 t (.agg xl) (.agg yl)).run C.P w = .ok r w := fun w => by
          rw [show (10000 : Nat) = 9998 + 1 + 1 from rfl, run_equalIn_struct w _ t xl yl hu' h1, hfo]
          exact run_eqFields fs.toList 0 xs ys r h3 hk1 hk2 (by simpa using rx) (by simpa using ry) hr
        unfold eqB at hw
        split at hw
        · refine did_bin (P := C.P) ho hw (mk_s rfl) fun w => ?_
          rw [ex, ey]
          simp only [Sem.run_bind, run_eqGuard_agg _ _ _ _ _ _ _ h2, Result.andThen_ok, run_eql_struct, he]
        · refine did_bin (P := C.P) ho hw (mk_s rfl) fun w => ?_
          rw [ex, ey]
          simp only [Sem.run_bind, run_eqGuard_agg _ _ _ _ _ _ _ h2, Result.andThen_ok, run_neq_struct, he]
        · exact hw.elim
      · exact hw.elim
    · cases hs
  · exact hw.elim

theorem sem_binOp {op : BinOp} {t u : TypeId} {x y : Operand} (ho : o.op = .binOp op t x y u) (G : RelG C φ.z) (T : RelT φ τ a) (hx : opdOk x = true) (hy : opdOk y = true)
    (hw : binR C K h t op (ev C τ x) (ev C τ y) (isNil y)) : DidA C.P o a φ (fun x => K x h) := by
  have ex := ev_rel G T x hx
  unfold binR at hw
  split at hw
  · exact sem_binK ho G T hx hy hw
  · -- nil slice
    rename_i hn
    have ey : ∃ n c, a.eval y = .slice none n c ∧ y = .const (.slice none n c) := by
      unfold isNil at hn
      split at hn <;> first | (cases hn; done) | exact ⟨_, _, rfl, rfl⟩
    obtain ⟨n', c', ey, rfl⟩ := ey
    have nilD : ∀ {len : Nat} {p : Option Addr} {n c : Nat} {e : TypeId}, C.P.underlying t = some (.slice e) → a.eval x = .slice p n c → (0 < len → p.isNone = false) → nilB K h len op → DidA C.P o a φ (fun x => K x h) := by
      intro len p n c e hu ex hp hw
      unfold nilB at hw
      split at hw
      · refine did_bin (P := C.P) ho (hw _ hp) (mk_s rfl) fun w => ?_
        rw [ex, ey]
        simp [eqGuard_at_slice, binOp, run_equal_slice_nil hu]
      · refine did_bin (P := C.P) ho (hw (!p.isNone) (fun q => by simp [hp q])) (mk_s rfl) fun w => ?_
        rw [ex, ey]
        simp [eqGuard_at_slice, binOp, run_equal_slice_nil hu]
      · exact hw.elim
    unfold nilC at hw
    split at hw
    · rename_i b off len cap e1
      rw [e1] at ex
      obtain ⟨ht, hw⟩ := hw
      obtain ⟨e, ht⟩ := isT_slice ht
      obtain ⟨p, n, _, hv⟩ := sl_rel ex
      cases p with
      | none => obtain ⟨⟨q, hv⟩, rfl, _⟩ := hv; exact nilD (tK_slice ht) hv (fun q => absurd q (by omega)) hw
      | some k => exact nilD (tK_slice ht) hv (fun _ => rfl) hw
    · rename_i n els e1
      rw [e1] at ex
      obtain ⟨ht, hw⟩ := hw
      obtain ⟨e, ht⟩ := isT_slice ht
      rcases f_rel ex with ⟨rfl, q, hv⟩ | ⟨k, off, cap, hv, _⟩
      · exact nilD (tK_slice ht) hv (fun q => by simp at q) hw
      · exact nilD (tK_slice ht) hv (fun _ => rfl) hw
    · rename_i e1
      rw [e1] at ex
      obtain ⟨ht, hw⟩ := hw
      obtain ⟨e, ht⟩ := isT_slice ht
      obtain ⟨p, hv⟩ := z_rel ex
      exact nilD (tK_slice ht) hv (fun q => absurd q (by omega)) hw
    · exact hw.elim
  · -- nil interface
    rename_i hn
    have ey : a.eval y = .nilIface ∧ y = .const .nilIface := by
      unfold isNil at hn
      split at hn <;> first | (cases hn; done) | exact ⟨rfl, rfl⟩
    obtain ⟨ey, rfl⟩ := ey
    have hu : isT (tK C.P t) .iface → ∃ ms, C.P.underlying t = some (.interface ms) := fun ht => by
      have : tK C.P t = .iface := by revert ht; cases tK C.P t <;> first | (intro _; rfl) | exact fun ht => ht.elim
      unfold tK at this
      split at this <;> first | (cases this; done) | (rename_i hu; exact ⟨_, hu⟩)
    unfold nilI at hw
    split at hw
    · rename_i e1
      rw [e1] at ex
      obtain ⟨ex, -⟩ := s_rel ex
      obtain ⟨ht, hw⟩ := hw
      obtain ⟨ms, hu⟩ := hu ht
      have he : ∀ w, (Op.equal t .nilIface .nilIface).run C.P w = .ok true w := fun w => by
        unfold Op.equal; rw [show Op.maxDepth = 9999 + 1 from rfl]; unfold Op.equalIn; simp only [Sem.run_bind, run_underlying hu, Result.andThen_ok, Sem.run_pure]
      unfold eqB at hw
      split at hw <;> first
        | exact hw.elim
        | (refine did_bin (P := C.P) ho hw (mk_s rfl) fun w => ?_
           rw [ex, ey]
           simp [eqGuard, binOp, he]; done)
    · rename_i t' v' e1
      rw [e1] at ex
      obtain ⟨ex, -⟩ := s_rel ex
      obtain ⟨ht, hw⟩ := hw
      obtain ⟨ms, hu⟩ := hu ht
      have he : ∀ w, (Op.equal t (.iface t' v') .nilIface).run C.P w = .ok false w := fun w => by
        unfold Op.equal; rw [show Op.maxDepth = 9999 + 1 from rfl]; unfold Op.equalIn; simp only [Sem.run_bind, run_underlying hu, Result.andThen_ok, Sem.run_pure]
      unfold eqB at hw
      split at hw <;> first
        | exact hw.elim
        | (refine did_bin (P := C.P) ho hw (mk_s rfl) fun w => ?_
           rw [ex, ey]
           simp [eqGuard, binOp, he]; done)
    · exact hw.elim

end
end Go.W
