/- A layer for walking through code on abstract values, told apart by who owns the memory: its definitions and their soundness; no condition. -/
import Derived.Test.YtpcgnmoogjahbaaW12
set_option linter.unusedVariables false
set_option linter.unusedSimpArgs false
namespace Go.W
open Go Go.RowKit

/-! ### append -/
section
variable {P : Program}
theorem run_app_room {w w' : World} {t ty e : TypeId} {i : TypeInfo} (ht : P.underlying t = some (.slice e)) (hi : P.info? e = some i) {p : Option Addr} {len cap m : Nat} {xv : Value} {news : List Value}
    (hlen : ∀ w, (Builtin.lenOf xv).run P w = .ok m w) (hf : (Builtin.firstCells i.size m xv).run P w = .ok news.toArray w) (hroom : len + m ≤ cap)
    (hst : match p with | some a => (storeCells (a.add (len * i.size)) news).run P w = .ok () w' | none => w' = w) :
    (Builtin.append_ #[t, t] ty #[.slice p len cap, xv]).run P w = .ok (.slice p (len + m) cap) w' := by
  cases p with
  | none => simp only at hst; subst hst; simp [Builtin.append_, run_underlying ht, sizeOf, typeInfo, hi, hlen, hroom, hf]
  | some a => simp only at hst; simp [Builtin.append_, run_underlying ht, sizeOf, typeInfo, hi, hlen, hroom, hf, hst]
theorem run_app_grow {w : World} {t ty e : TypeId} {i : TypeInfo} {z : Value} (ht : P.underlying t = some (.slice e)) (hi : P.info? e = some i) (hz : i.zero = some z) {p : Option Addr} {len cap m : Nat} {xv : Value} {olds news : List Value}
    (hlen : ∀ w, (Builtin.lenOf xv).run P w = .ok m w) (hf : (Builtin.firstCells i.size m xv).run P w.drew = .ok news.toArray w.drew)
    (ho : (Builtin.firstCells i.size len (.slice p len cap)).run P w.drew = .ok olds.toArray w.drew) (hg : cap < len + m) (h63 : len + m ≤ LIM) (hfit : (len + m) * i.bytes ≤ 140737488355328) :
    (Builtin.append_ #[t, t] ty #[.slice p len cap, xv]).run P w =
      .ok (.slice (some ⟨w.heap.size, 0, none⟩) (len + m) (grownCap w (len + m) cap e))
        (w.drew.alloc (.cells (olds.toArray ++ news.toArray ++ Builtin.zeroCells z.cells (grownCap w (len + m) cap e - (len + m))) e)) := by
  have hn : ¬ (len + m ≤ cap) := by omega
  have h63' : ¬ (9223372036854775807 < ((len : Int) + (m : Int))) := by unfold LIM at h63; omega
  have hfit' := growslice_fits hg hfit
  have h48' : ¬ (281474976710656 < Builtin.nextslicecap (len + m) cap * i.bytes) := by omega
  simp [Builtin.append_, run_underlying ht, sizeOf, typeInfo, zeroValue, hi, hz, hlen, hn, h63', h48', Question.forced, hf, ho, newRow, grownCap]
  congr 2; apply Array.ext'; simp
end

section
variable (K : V → H → Prop) (h : H)
/-- What is appended. -/
def newsOf (n : Nat) : V → Option (List (List V))
  | .f n' els => if n' = n then some els else none
  | .z => some []
  | .sl b off len _ => if strideB (h[b]?) = some n then elsOf off len (h[b]?) else none
  | _ => none
def blkIs (n cap len : Nat) : Option Blk → Prop
  | some ⟨els, n', cap', true⟩ => n' = n ∧ cap' = cap ∧ len ≤ els.length
  | _ => False
def takeTo (len : Nat) (els : List (List V)) : List (List V) := if len = els.length then els else els.take len
def keptB (len : Nat) : Option Blk → List (List V)
  | some ⟨els, _, _, _⟩ => takeTo len els
  | none => []
def appN (n by_ : Nat) (s : V) : Option (List (List V)) → Prop
  | some news => leafs news = true ∧ match s with
    | .sl b 0 len cap => (blkIs n cap len (h[b]?) ∧ (len + news.length) * by_ ≤ 140737488355328 ∧ len + news.length ≤ LIM) ∧
        ∀ cap', len + news.length ≤ cap' → K (.sl h.length 0 (len + news.length) cap') (h.set b Blk.dead ++ [⟨keptB len (h[b]?) ++ news, n, cap', true⟩])
    | .z => (news.length * by_ ≤ 140737488355328 ∧ news.length ≤ LIM) ∧ ∀ cap', news.length ≤ cap' → K (.sl h.length 0 news.length cap') (h ++ [⟨news, n, cap', true⟩])
    | _ => False
  | none => False
def appT (s x : V) : Option Nat → Option Nat → Option (List V) → Prop
  | some n, some by_, some z => z.length = n ∧ appN K h n by_ s (newsOf h n x)
  | _, _, _ => False
def appW (C : Cx) (t u : TypeId) (s x : V) : Prop := match tElem C.P t with
  | some e => t = u ∧ appT K h s x (tSz C.P e) (tBytes C.P e) (tZ C.P e)
  | none => False
end

section
variable {C : Cx} {o : Oper} {a : Act} {w : World} {S : Nat → Prop} {w0 : World} {φ : Phi} {K : V → H → Prop} {h : H} {τ : Tau} {F : Nat → Fp}

theorem leafs_flat : ∀ {els : List (List V)}, leafs els = true → els.flatten.all cellOk = true
  | [], _ => rfl
  | el :: els, h => by
    simp only [leafs, List.all_cons, Bool.and_eq_true] at h
    simp only [List.flatten_cons, List.all_append, Bool.and_eq_true]
    exact ⟨h.1, leafs_flat (by simpa [leafs] using h.2)⟩
theorem rz_flat {z : Zm} {k n : Nat} : ∀ {els : List (List V)} {off : Nat}, RZss z k n off els → (∀ el ∈ els, el.length = n) ∧ ∃ vs : List Value, All2 (RZ z) els.flatten vs ∧ ∀ j v, vs[j]? = some v → z k (off + j) = some v
  | [], off, _ => ⟨by simp, [], trivial, fun j v h => by simp at h⟩
  | el :: els, off, r => by
    simp only [RZss] at r
    obtain ⟨h1, h2, h3⟩ := r
    obtain ⟨q1, vs, q2, q3⟩ := rz_flat h3
    have one : ∀ {xs : List V} {off : Nat}, RZs z k off xs → ∃ us : List Value, All2 (RZ z) xs us ∧ ∀ j v, us[j]? = some v → z k (off + j) = some v := by
      intro xs
      induction xs with
      | nil => exact fun _ => ⟨[], trivial, fun j v h => by simp at h⟩
      | cons y ys ih =>
        intro off r
        simp only [RZs] at r
        obtain ⟨⟨c, e1, e2⟩, e3⟩ := r
        obtain ⟨us, g1, g2⟩ := ih e3
        refine ⟨c :: us, ⟨e2, g1⟩, fun j v h => ?_⟩
        cases j with
        | zero => simp at h; subst h; exact e1
        | succ j => rw [show off + (j + 1) = off + 1 + j by omega]; exact g2 j v (by simpa using h)
    obtain ⟨us, g1, g2⟩ := one h2
    have hl : us.length = n := by rw [← g1.length]; exact h1
    refine ⟨fun x hx => by rcases List.mem_cons.1 hx with rfl | hx; exact h1; exact q1 x hx, us ++ vs, by simpa using g1.append q2, fun j v h => ?_⟩
    by_cases hj : j < n
    · rw [List.getElem?_append_left (by omega)] at h; exact g2 j v h
    · rw [List.getElem?_append_right (by omega), hl] at h
      have := q3 _ v h
      rw [← this]; congr 1; omega

theorem flat_len {n : Nat} : ∀ {els : List (List V)}, (∀ el ∈ els, el.length = n) → els.flatten.length = els.length * n
  | [], _ => by simp
  | e :: es, h => by
    simp only [List.flatten_cons, List.length_append, List.length_cons, Nat.succ_mul]
    rw [flat_len (fun x hx => h x (by simp [hx])), h e (by simp)]; omega

theorem Lss.dropN {R : V → Value → Fp → Prop} {n : Nat} : ∀ {els : List (List V)} {vs : List Value} {f : Fp} (j : Nat), Lss R n els vs f → ∃ g, Lss R n (els.drop j) (vs.drop (j * n)) g
  | els, vs, f, 0, r => ⟨f, by simpa using r⟩
  | [], vs, f, j + 1, r => ⟨[], by simp [Lss]⟩
  | x :: xs, vs, f, j + 1, r => by
    simp only [Lss] at r
    obtain ⟨h0, f1, f2, rfl, h3, h4⟩ := r
    obtain ⟨g, hg⟩ := Lss.dropN j h4
    refine ⟨g, ?_⟩
    rw [List.drop_succ_cons, show (j + 1) * n = n + j * n by rw [Nat.succ_mul]; omega, ← List.drop_drop]
    exact hg
theorem lss_cells {n : Nat} : ∀ {els : List (List V)} {vs : List Value} {f : Fp}, Lss (Dc φ w) n els vs f → els.flatten.all cellOk = true → All2 (RelC φ) els.flatten (vs.take (els.length * n))
  | [], vs, f, _, _ => by simp [All2]
  | el :: els, vs, f, hl, hok => by
    simp only [Lss] at hl
    obtain ⟨h0, f1, f2, _, h3, h4⟩ := hl
    simp only [List.flatten_cons, List.all_append, Bool.and_eq_true] at hok ⊢
    have r1 := ls_all2 h3 hok.1
    have r2 := lss_cells h4 hok.2
    have e : vs.take ((el :: els).length * n) = vs.take el.length ++ (vs.drop n).take (els.length * n) := by
      rw [List.length_cons, Nat.succ_mul, Nat.add_comm, List.take_add, h0]
    rw [e]; exact r1.append r2

/-- What is appended, in the world. -/
theorem news_cells {P : Program} {x : V} {xv : Value} {n : Nat} {news : List (List V)} (R : RelF S w0 φ h w F) (r : RelV φ x xv) (hx : newsOf h n x = some news) (hok : leafs news = true) :
    (∀ el ∈ news, el.length = n) ∧ (∀ w, (Builtin.lenOf xv).run P w = .ok news.length w) ∧ ∃ vals : List Value, All2 (RelC φ) news.flatten vals ∧ vals.length = news.length * n ∧
      ∀ w', (∀ a, w'.cell? a = w.cell? a) → (Builtin.firstCells n news.length xv).run P w' = .ok vals.toArray w' := by
  unfold newsOf at hx
  split at hx
  · rename_i n' els
    split at hx
    · rename_i hn
      subst hn
      obtain rfl := Option.some.inj hx
      rcases f_rel r with ⟨rfl, q, hv⟩ | ⟨k, off, cap, hv, h1, h2, h3⟩
      · subst hv
        refine ⟨by simp, fun w => by simp [Builtin.lenOf], [], trivial, by simp, fun w' _ => ?_⟩
        cases q with
        | none => simp [Builtin.firstCells]
        | some ad => exact run_firstCells_some (P := P) w' n' 0 ad 0 0 [] (by simp) (fun j v e => by simp at e)
      · subst hv
        obtain ⟨q1, vs, q2, q3⟩ := rz_flat h3
        have hl : vs.length = els.length * n' := by rw [← q2.length, flat_len q1]
        refine ⟨q1, fun w => by simp [Builtin.lenOf], vs, q2.mono fun _ _ => relC_of_rz, hl, fun w' hw => ?_⟩
        exact run_firstCells_some (P := P) w' n' els.length _ els.length cap vs hl (fun j v e => by rw [hw, addr_add]; exact R.zok _ _ _ (q3 j v e))
    · cases hx
  · obtain rfl := Option.some.inj hx
    obtain ⟨q, rfl⟩ := z_rel r
    refine ⟨by simp, fun w => by simp [Builtin.lenOf], [], trivial, by simp, fun w' _ => ?_⟩
    cases q with
    | none => simp [Builtin.firstCells]
    | some ad => exact run_firstCells_some (P := P) w' n 0 ad 0 0 [] (by simp) (fun j v e => by simp at e)
  · rename_i b off len cap
    split at hx
    · rename_i hst
      unfold elsOf at hx
      split at hx
      · rename_i bels bn bcap hb
        rw [hb] at hst
        simp only [strideB, Option.some.injEq] at hst
        subst hst
        split at hx
        · rename_i hle
          obtain rfl := Option.some.inj hx
          obtain ⟨p, n', hp, hv⟩ := sl_rel r
          obtain ⟨pp, g1, g2, g3, g4⟩ := R.place hb rfl
          simp only at g2 g3
          rw [hp] at g1; obtain ⟨rfl, rfl⟩ := Prod.mk.inj (Option.some.inj g1)
          have hlen : ((bels.drop off).take len).length = len := by simp; omega
          have hel : ∀ el ∈ (bels.drop off).take len, el.length = n' := fun el he => g2 el (List.mem_of_mem_drop (List.mem_of_mem_take he))
          rw [hlen]
          cases p with
          | none =>
            obtain ⟨⟨q, rfl⟩, rfl, rfl, rfl⟩ := hv
            refine ⟨hel, fun w => by simp [Builtin.lenOf], [], by simp [All2], by simp, fun w' _ => ?_⟩
            cases q with
            | none => simp [Builtin.firstCells]
            | some ad => exact run_firstCells_some (P := P) w' n' 0 ad 0 0 [] (by simp) (fun j v e => by simp at e)
          | some k =>
            simp only at hv
            subst hv
            obtain ⟨c, ty, fq, y1, y2, y3, y4, y5⟩ := g4
            simp only at y2 y3 y4
            have hfl : ((bels.drop off).take len).flatten.length = len * n' := by rw [flat_len hel, hlen]
            obtain ⟨f1, hdrop⟩ := y4.dropN off
            obtain ⟨f2, f3, _, htake⟩ := hdrop.take len
            have hall := lss_cells htake (leafs_flat hok)
            rw [hlen] at hall
            have hvl : ((c.toList.drop (off * n')).take (len * n')).length = len * n' := by rw [← hall.length, hfl]
            refine ⟨hel, fun w => by simp [Builtin.lenOf], _, hall, hvl, fun w' hw => ?_⟩
            refine run_firstCells_some (P := P) w' n' len _ len cap _ hvl (fun j v e => ?_)
            rw [List.getElem?_take] at e
            split at e
            · rw [List.getElem?_drop] at e
              rw [hw, addr_add]
              simp only [World.cell?, y1]
              rw [← Array.getElem?_toList]; exact e
            · cases e
        · cases hx
      · cases hx
    · cases hx
  · cases hx

theorem RelF.kill (R : RelF S w0 φ h w F) {b : Nat} {B : Blk} (hb : h[b]? = some B) : Rel S w0 φ (h.set b Blk.dead) w := by
  have hblt : b < h.length := (List.getElem?_eq_some_iff.1 hb).1
  refine ⟨_, R.step (w' := w) (bo := b) (b0 := b) (B0 := Blk.dead) (fp0 := []) (Ext.refl φ) rfl R.kept (Nat.le_refl _) (by simpa using hblt) (by simp) ?_ (fun _ _ _ => rfl) (.inl rfl) (by simp [hblt])
    (fun q => absurd rfl q) ?_ (by simp) (by simp) (by simp) (by unfold BlkRel; rw [if_neg (by simp [Blk.dead])])⟩
  · intro j hj; exact R.dom j (by simpa using hj)
  · intro j hj _; rw [List.getElem?_set_ne (Ne.symm hj)]

theorem drew_cell (w : World) (a : Addr) : w.drew.cell? a = w.cell? a := rfl

/-- A row that is new behind an append. -/
theorem app_new {els news : List (List V)} {n cap : Nat} {olds vals : List Value} {z : Array Value} {e : TypeId} {h' : H} (R : Rel S w0 φ h' w) (h1 : Lss (Dc φ w) n els olds []) (hl1 : els.length * n = olds.length) (hn1 : ∀ el ∈ els, el.length = n)
    (h2 : All2 (RelC φ) news.flatten vals) (hn2 : ∀ el ∈ news, el.length = n) (hl2 : vals.length = news.length * n) (hz : z.size = n) (hcap : els.length + news.length ≤ cap) (hlim : els.length + news.length ≤ LIM) :
    Rel S w0 (phiPush φ h'.length (some w.heap.size, n)) (h' ++ [⟨els ++ news, n, cap, true⟩]) (w.drew.alloc (.cells (olds.toArray ++ vals.toArray ++ Builtin.zeroCells z (cap - (els.length + news.length))) e)) := by
  obtain ⟨F', R⟩ := R
  have g : w.grownBy (w.drew.alloc (.cells (olds.toArray ++ vals.toArray ++ Builtin.zeroCells z (cap - (els.length + news.length))) e)) none := ⟨rfl, rfl, rfl, by simp, fun k hk _ => heap_alloc_old w.drew _ hk⟩
  refine R.alloc g (Nat.le_refl _) (heap_alloc_new w.drew _) ?_ (by simpa using hcap) (by simpa using hlim) (fun el he => by
    rcases List.mem_append.1 he with q | q
    · exact hn1 el q
    · exact hn2 el q) ?_
  · simp only [Array.size_append, List.size_toArray, size_zeroCells, hz, hl2, ← hl1, ← Nat.add_mul]
    congr 1; omega
  · have := h1.append hl1 (lss_all2 (φ := φ) (w := w) hn2 h2)
    simp only [List.append_nil] at this
    refine Lss.pre (fun j hj => ?_) this
    have hj' : j < (olds ++ vals).length := by
      simp only [List.length_append, hl2, ← hl1, ← Nat.add_mul] at hj ⊢; exact hj
    simp only [Array.toList_append]
    rw [List.getElem?_append_left (by simpa using hj')]

theorem sem_append {c : Call} {s x : Operand} {t u : TypeId} (ho : o.op = .call c) (hc : c.callee = .builtin .append) (hargs : c.args.toList = [s, x]) (hts : c.argTypes.toList = [t, u]) (hok : c.args.toList.all opdOk = true)
    (R : Rel S w0 φ h w) (G : RelG C φ.z) (T : RelT φ τ a) (hw : appW K h C t u (ev C τ s) (ev C τ x)) : Did C.P o a w S w0 φ h.length K := by
  rw [hargs] at hok
  simp only [List.all_cons, List.all_nil, Bool.and_true, Bool.and_eq_true] at hok
  have es := ev_rel G T s hok.1
  have ex := ev_rel G T x hok.2
  obtain ⟨F, R⟩ := R
  have ha := arr2 hargs
  have hta := arr2 hts
  obtain ⟨cs, hcs⟩ := exec_builtin (P := C.P) (a := a) ho hc
  unfold appW at hw
  split at hw
  · rename_i e he
    obtain ⟨rfl, hw⟩ := hw
    have ht := underlying_of_tElem he
    unfold appT at hw
    split at hw
    · rename_i n by_ z hn hby hz
      obtain ⟨hzl, hw⟩ := hw
      obtain ⟨zv, hzv, rfl, hz1, hiz⟩ := run_zero hz
      unfold tSz at hn; unfold tBytes at hby
      cases hi : C.P.info? e with
      | none => rw [hi] at hn; cases hn
      | some i =>
      rw [hi] at hn hby hiz
      simp at hn hby hiz
      subst hn hby
      have hzs : zv.cells.size = i.size := by simpa using hzl
      unfold appN at hw
      split at hw
      · rename_i news hnews
        obtain ⟨hleaf, hw⟩ := hw
        obtain ⟨hel, hlen, vals, hv1, hv2, hv3⟩ := news_cells (P := C.P) R ex hnews hleaf
        have run : ∀ {v w'}, (Builtin.append_ #[t, t] o.type #[a.eval s, a.eval x]).run C.P w = .ok v w' → (execOp a.eval o).run C.P w = .ok (.value v) w' := by
          intro v w' hr
          rw [hcs, ha, hta]
          simp only [builtin, Sem.run_bind, List.map_toArray, List.map_cons, List.map_nil]
          rw [hr]; rfl
        split at hw
        · -- a block of one's own
          rename_i b len cap e1
          obtain ⟨⟨hblk, hbytes, hlim⟩, hk⟩ := hw
          rw [e1] at es
          unfold blkIs at hblk
          split at hblk
          · rename_i els n' cap' hb
            obtain ⟨rfl, rfl, hle⟩ := hblk
            obtain ⟨p, n', hp, hv⟩ := sl_rel es
            obtain ⟨pp, g1, g2, g3, g4⟩ := R.place hb rfl
            simp only at g2 g3
            rw [hp] at g1; obtain ⟨rfl, rfl⟩ := Prod.mk.inj (Option.some.inj g1)
            have hkept : keptB len (h[b]?) = els.take len := by
              rw [hb]; simp only [keptB, takeTo]; split
              · rename_i q; rw [q, List.take_length]
              · rfl
            rw [hkept] at hk
            have hkl : (els.take len).length = len := by simp; omega
            have hkel : ∀ el ∈ els.take len ++ news, el.length = i.size := fun el he => by
              rcases List.mem_append.1 he with q | q
              · exact g2 el (List.mem_of_mem_take q)
              · exact hel el q
            cases p with
            | none =>
              obtain ⟨⟨q, hv⟩, rfl, rfl, -⟩ := hv
              obtain ⟨hB, -, hF⟩ := g4
              simp only at hB; subst hB
              have R1 := R.kill hb
              have hset : (h.set b Blk.dead).length = h.length := by simp
              by_cases h0 : news.length = 0
              · have hn0 : news = [] := List.eq_nil_of_length_eq_zero h0
                have hr := run_app_room (P := C.P) (w := w) (w' := w) (ty := o.type) ht hi (p := q) (len := 0) (cap := 0) hlen (hv3 w fun _ => rfl) (by omega) (by
                  have hv0 : vals = [] := List.eq_nil_of_length_eq_zero (by rw [hv2, h0]; simp)
                  cases q with
                  | none => rfl
                  | some ad => rw [hv0]; simp [storeCells])
                rw [← hv] at hr
                subst hn0
                obtain ⟨F1, R1⟩ := R1
                have R2 := R1.allocNil i.size
                rw [hset] at R2
                refine ⟨_, _, _, w, phiPush_extN (Nat.le_refl _), by simp, R2, by simpa using hk 0 (by simp), .inl ⟨_, run hr, mk_nil phiPush_new⟩⟩
              · have hr := run_app_grow (P := C.P) (w := w) (ty := o.type) ht hi hiz (p := q) (len := 0) (cap := 0) (olds := []) hlen (hv3 w.drew fun _ => rfl) (by
                  cases q with
                  | none => simp [Builtin.firstCells]
                  | some ad => exact run_firstCells_some (P := C.P) w.drew i.size 0 ad 0 0 [] (by simp) (fun j v e => by simp at e)) (by omega) (by simpa using hlim) (by simpa using hbytes)
                rw [← hv] at hr
                have R2 := app_new (els := []) (news := news) (cap := grownCap w (0 + news.length) 0 e) (olds := []) (e := e) R1 (by simp [Lss]) (by simp) (by simp) hv1 hel hv2 hzs (by simpa using grownCap_ge w (0 + news.length) 0 e) (by simpa using hlim)
                rw [hset] at R2
                refine ⟨_, _, _, _, phiPush_extN (Nat.le_refl _), by simp, R2, by simpa using hk _ (by simpa using grownCap_ge w (0 + news.length) 0 e), .inl ⟨_, run (by simpa using hr), ?_⟩⟩
                simpa using sl_new (by simpa using grownCap_ge w (0 + news.length) 0 e) _ phiPush_new
            | some k =>
              simp only [Nat.zero_mul] at hv
              obtain ⟨c0, ty, fq, y1, y2, y3, y4, y5⟩ := g4
              simp only at y2 y3 y4
              obtain ⟨fa, fb, hfq, hold⟩ := y4.take len
              have hlsz : len * i.size ≤ c0.size := by rw [y2]; exact Nat.mul_le_mul_right _ (by omega)
              have hnd := R.nodup b
              rw [y5] at hnd
              by_cases hroom : len + news.length ≤ cap'
              · -- in its place
                have hfit : len * i.size + vals.length ≤ c0.size := by rw [hv2, y2, ← Nat.add_mul]; exact Nat.mul_le_mul_right _ hroom
                have hst := run_storeCells_at C.P k (len * i.size) ty vals 0 c0 w y1 (by simpa using hfit) (all2_oneCell (leafs_flat hleaf) hv1)
                simp only [Nat.add_zero] at hst
                have hr := run_app_room (P := C.P) (w := w) (ty := o.type) ht hi (p := some ⟨k, 0, none⟩) (len := len) (cap := cap') hlen (hv3 w fun _ => rfl) hroom (by simp only; rw [addr_add, Nat.zero_add]; exact hst)
                rw [← hv] at hr
                have hh := setRow_heap w k c0 (c0.toList.take (len * i.size) ++ vals ++ c0.toList.drop (len * i.size + vals.length)).toArray ty (0, 0) y1
                have hkm : Mine S w0 k := (R.mine b k (by rw [y5]; simp)).1
                have gr : w.grownBy (w.setRow k (c0.toList.take (len * i.size) ++ vals ++ c0.toList.drop (len * i.size + vals.length)).toArray) (some k) :=
                  ⟨rfl, rfl, rfl, by simp, fun j _ hj => setRow_other w k j _ (fun e => hj (by rw [e]))⟩
                have hfa : ∀ j ∈ fa, j ∈ fq := fun j hj => by rw [hfq]; simp [hj]
                have R2 := R.move (w' := w.setRow k (c0.toList.take (len * i.size) ++ vals ++ c0.toList.drop (len * i.size + vals.length)).toArray) (k := k) (fq' := fa)
                  (B' := ⟨els.take len ++ news, i.size, cap', true⟩) hb (fun j hj hne => gr.block j hj (fun e => hne (by cases e; rw [y5]; simp))) (R.kept.grown gr fun j e => by cases e; exact hkm) gr.size rfl hh
                  (by simp; rw [← y2]; omega) (by simp [hkl]; omega) (by simp [hkl]; omega) hkel (.inl (by rw [y5]; simp)) (fun j hj => by rw [y5]; simp [hfa j hj])
                  (List.nodup_cons.2 ⟨fun q => (List.nodup_cons.1 hnd).1 (hfa k q), by
                    have := (List.nodup_cons.1 hnd).2
                    rw [hfq] at this; exact (List.nodup_append.1 this).1⟩) (by
                    have h3 := (Lss.pre (vs' := c0.toList.take (len * i.size)) (fun j hj => by rw [hkl] at hj; rw [List.getElem?_take, if_pos hj]) hold).append (by rw [hkl]; simp; omega) (lss_all2 (φ := φ) (w := w) hel hv1)
                    simp only [List.append_nil] at h3
                    have h4 := Lss.pre (vs' := (c0.toList.take (len * i.size) ++ vals ++ c0.toList.drop (len * i.size + vals.length))) (fun j hj => by
                      rw [List.getElem?_append_left (by
                        simp only [List.length_append, hkl, Nat.add_mul] at hj
                        simp only [List.length_append, List.length_take, hv2, Array.length_toList]; omega)]) h3
                    simp only
                    refine h4.mono fun x v f hf d => d.mono (Ext.refl φ) fun j hj => ?_
                    refine setRow_other w k j _ (fun e => ?_)
                    subst e; exact (List.nodup_cons.1 hnd).1 (hfa _ (hf _ hj)))
                exact ⟨_, _, _, _, phiPush_extN (Nat.le_refl _), by simp, R2, hk cap' hroom, .inl ⟨_, run hr, sl_new hroom _ phiPush_new⟩⟩
              · -- in a new row
                have hr := run_app_grow (P := C.P) (w := w) (ty := o.type) ht hi hiz (p := some ⟨k, 0, none⟩) (len := len) (cap := cap') (olds := c0.toList.take (len * i.size)) hlen (hv3 w.drew fun _ => rfl)
                  (run_firstCells_some (P := C.P) w.drew i.size len _ len cap' _ (by simp; omega) (fun j v e => by
                    rw [List.getElem?_take] at e
                    split at e
                    · rw [addr_add]
                      show w.cell? _ = _
                      simp only [World.cell?, y1, Nat.zero_add]
                      rw [← Array.getElem?_toList]; exact e
                    · cases e)) (by omega) hlim hbytes
                rw [← hv] at hr
                have hge := grownCap_ge w (len + news.length) cap' e
                have gr : w.grownBy (w.drew.alloc (.cells ((c0.toList.take (len * i.size)).toArray ++ vals.toArray ++ Builtin.zeroCells zv.cells (grownCap w (len + news.length) cap' e - (len + news.length))) e)) none :=
                  ⟨rfl, rfl, rfl, by simp, fun k hk _ => heap_alloc_old w.drew _ hk⟩
                have hfa : ∀ j ∈ fa, j ∈ fq := fun j hj => by rw [hfq]; simp [hj]
                have hfaF : ∀ j ∈ fa, j ∈ F b := fun j hj => by rw [y5]; simp [hfa j hj]
                have R2 := R.move (w' := (w.drew.alloc (.cells ((c0.toList.take (len * i.size)).toArray ++ vals.toArray ++ Builtin.zeroCells zv.cells (grownCap w (len + news.length) cap' e - (len + news.length))) e))) (k := w.heap.size) (fq' := fa)
                  (B' := ⟨els.take len ++ news, i.size, grownCap w (len + news.length) cap' e, true⟩) hb (fun j hj hne => gr.block j hj (by simp)) (R.kept.grown gr fun j e => by cases e) gr.size rfl (heap_alloc_new w.drew _)
                  (by
                    have : ((c0.toList.take (len * i.size)).toArray).size = len * i.size := by simp; omega
                    simp only [Array.size_append, this, List.size_toArray, size_zeroCells, hzs, hv2, ← Nat.add_mul]
                    congr 1; omega) (by simp [hkl]; omega) (by simp [hkl]; omega) hkel (.inr (Nat.le_refl _)) hfaF
                  (List.nodup_cons.2 ⟨fun q => by have := (R.mine b _ (hfaF _ q)).2; omega, by
                    have := (List.nodup_cons.1 hnd).2
                    rw [hfq] at this; exact (List.nodup_append.1 this).1⟩) (by
                    have h3 := (Lss.pre (vs' := c0.toList.take (len * i.size)) (fun j hj => by rw [hkl] at hj; rw [List.getElem?_take, if_pos hj]) hold).append (by rw [hkl]; simp; omega) (lss_all2 (φ := φ) (w := w) hel hv1)
                    simp only [List.append_nil] at h3
                    have h4 := Lss.pre (vs' := ((c0.toList.take (len * i.size)).toArray ++ vals.toArray ++ Builtin.zeroCells zv.cells (grownCap w (len + news.length) cap' e - (len + news.length))).toList) (fun j hj => by
                      simp only [Array.toList_append]
                      rw [List.getElem?_append_left (by
                        simp only [List.length_append, hkl, Nat.add_mul] at hj
                        simp only [List.length_append, List.length_take, hv2, Array.length_toList]; omega)]) h3
                    simp only
                    refine h4.mono fun x v f hf d => d.mono (Ext.refl φ) fun j hj => ?_
                    exact gr.block j (R.mine b j (hfaF j (hf j hj))).2 (by simp))
                exact ⟨_, _, _, _, phiPush_extN (Nat.le_refl _), by simp, R2, hk _ hge, .inl ⟨_, run hr, sl_new hge _ phiPush_new⟩⟩
          · exact hblk.elim
        · rename_i e1
          obtain ⟨⟨hbytes, hlim⟩, hk⟩ := hw
          rw [e1] at es
          obtain ⟨q, hv⟩ := z_rel es
          by_cases h0 : news.length = 0
          · have hn0 : news = [] := List.eq_nil_of_length_eq_zero h0
            have hr := run_app_room (P := C.P) (w := w) (w' := w) (ty := o.type) ht hi (p := q) (len := 0) (cap := 0) hlen (hv3 w fun _ => rfl) (by omega) (by
              have hv0 : vals = [] := List.eq_nil_of_length_eq_zero (by rw [hv2, h0]; simp)
              cases q with
              | none => rfl
              | some ad => rw [hv0]; simp [storeCells])
            rw [← hv] at hr
            subst hn0
            have R2 := R.allocNil i.size
            refine ⟨_, _, _, w, phiPush_extN (Nat.le_refl _), by simp, R2, by simpa using hk 0 (by simp), .inl ⟨_, run hr, mk_nil phiPush_new⟩⟩
          · have hr := run_app_grow (P := C.P) (w := w) (ty := o.type) ht hi hiz (p := q) (len := 0) (cap := 0) (olds := []) hlen (hv3 w.drew fun _ => rfl) (by
              cases q with
              | none => simp [Builtin.firstCells]
              | some ad => exact run_firstCells_some (P := C.P) w.drew i.size 0 ad 0 0 [] (by simp) (fun j v e => by simp at e)) (by omega) (by simpa using hlim) (by simpa using hbytes)
            rw [← hv] at hr
            have R2 := app_new (els := []) (news := news) (cap := grownCap w (0 + news.length) 0 e) (olds := []) (e := e) ⟨F, R⟩ (by simp [Lss]) (by simp) (by simp) hv1 hel hv2 hzs (by simpa using grownCap_ge w (0 + news.length) 0 e) (by simpa using hlim)
            refine ⟨_, _, _, _, phiPush_extN (Nat.le_refl _), by simp, R2, by simpa using hk _ (by simpa using grownCap_ge w (0 + news.length) 0 e), .inl ⟨_, run (by simpa using hr), ?_⟩⟩
            simpa using sl_new (by simpa using grownCap_ge w (0 + news.length) 0 e) _ phiPush_new
        · exact hw.elim
      · exact hw.elim
    · exact hw.elim
  · exact hw.elim
end
end Go.W
