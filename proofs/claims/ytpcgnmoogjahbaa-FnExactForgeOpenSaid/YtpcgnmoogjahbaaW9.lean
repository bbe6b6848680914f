/- A layer for walking through code on abstract values, told apart by who owns the memory: its definitions and their soundness; no condition. -/
import Derived.Test.YtpcgnmoogjahbaaW8
import Derived.Laws.BytesArg
import Derived.Laws.IdiomStrings
set_option linter.unusedVariables false
set_option linter.unusedSimpArgs false
namespace Go.W
open Go Go.RowKit

section
variable {C : Cx} {o : Oper} {a : Act} {w : World} {S : Nat → Prop} {w0 : World} {φ : Phi} {K : V → H → Prop} {h : H} {τ : Tau} {F : Nat → Fp}

theorem sem_unOp {op : UnOp} {t : TypeId} {x : Operand} (ho : o.op = .unOp op t x) (G : RelG C φ.z) (T : RelT φ τ a) (hx : opdOk x = true)
    (hw : unK K h op (ev C τ x)) : DidA C.P o a φ (fun x => K x h) := by
  have ex := ev_rel G T x hx
  unfold unK at hw
  split at hw
  · rename_i b e
    rw [e] at ex
    obtain ⟨ex, -⟩ := s_rel ex
    exact did_any hw (v := .bool (!b)) (fun w => by simp [execOp, ho, ex, Op.unary]) (mk_s rfl)
  · rename_i k n e
    rw [e] at ex
    obtain ⟨ex, -⟩ := s_rel ex
    exact did_any hw (v := .int k (k.wrap (0 - n))) (fun w => by simp [execOp, ho, ex, Op.unary, Op.intArith]) (mk_s rfl)
  · exact hw.elim

theorem byteOf_rel {el : List V} {b : UInt8} (h : byteOf el = some b) : ∃ n, el = [.s (.int .u8 n)] ∧ b = UInt8.ofNat n.toNat := by
  unfold byteOf at h
  split at h
  · rename_i n; exact ⟨n, rfl, (Option.some.inj h).symm⟩
  · cases h
theorem bytesOf_nth : ∀ {els : List (List V)} {l : List UInt8}, bytesOf els = some l → els.length = l.length ∧ ∀ (j : Nat) (hj : j < l.length), ∃ n, els[j]? = some [.s (.int .u8 n)] ∧ l[j] = UInt8.ofNat n.toNat
  | [], l, h => by simp only [bytesOf, Option.some.injEq] at h; subst h; exact ⟨rfl, fun j hj => by simp at hj⟩
  | el :: els, l, h => by
    simp only [bytesOf] at h
    split at h
    · rename_i b l' h1 h2
      obtain rfl := Option.some.inj h
      obtain ⟨n, rfl, rfl⟩ := byteOf_rel h1
      obtain ⟨q1, q2⟩ := bytesOf_nth h2
      refine ⟨by simp [q1], fun j hj => ?_⟩
      cases j with
      | zero => exact ⟨n, rfl, rfl⟩
      | succ j => obtain ⟨n', e1, e2⟩ := q2 j (by simpa using hj); exact ⟨n', by simpa using e1, by simpa using e2⟩
    · cases h

theorem bytesIn_nth : ∀ {els : List (List V)} {j : Nat} {n : Int}, bytesIn els → els[j]? = some [.s (.int .u8 n)] → 0 ≤ n ∧ n < 256
  | [], j, n, _, h => by simp at h
  | el :: els, j, n, hb, h => by
    unfold bytesIn at hb
    split at hb
    · rename_i e; cases e
    · rename_i m r e
      cases e
      cases j with
      | zero => simp at h; subst h; exact hb.1
      | succ j => exact bytesIn_nth hb.2 (by simpa using h)
    · exact hb.elim

theorem bytes_run {P : Program} {w : World} {src dst e : TypeId} {k off cap : Nat} {els : List (List V)} {l : List UInt8} (hs : P.underlying src = some (.slice e)) (he : P.underlying e = some (.int .u8)) (hd : P.underlying dst = some .string)
    (hb : bytesOf els = some l) (hu : bytesIn els) (hc : ∀ j n, els[j]? = some [.s (.int .u8 n)] → w.cell? ⟨k, off + j, none⟩ = some (.int .u8 n)) :
    (convert src dst (.slice (some ⟨k, off, none⟩) els.length cap)).run P w = .ok (.string ⟨l.toArray⟩) w := by
  obtain ⟨q1, q2⟩ := bytesOf_nth hb
  rw [q1]
  refine run_convert_bytes_back w src dst e _ cap l hs he hd fun j hj => ?_
  obtain ⟨n, e1, e2⟩ := q2 j hj
  rw [addr_add, hc j n e1, e2]
  obtain ⟨h0, h1⟩ := bytesIn_nth hu e1
  congr 2
  rw [UInt8.toNat_ofNat']; omega
theorem str_one (l : List UInt8) (h : l.length ≤ LIM) : one (.string ⟨l.toArray⟩) = true := by simp [one, ByteArray.size, h]

theorem sem_convert {src dst : TypeId} {x : Operand} (ho : o.op = .convert src dst x) (R : Rel S w0 φ h w) (G : RelG C φ.z) (T : RelT φ τ a) (hx : opdOk x = true)
    (hw : cvK C K h (tK C.P src) (tK C.P dst) (ev C τ x)) : ∃ x' v, K x' h ∧ (execOp a.eval o).run C.P w = .ok (.value v) w ∧ RelV φ x' v := by
  have ex := ev_rel G T x hx
  obtain ⟨F, R⟩ := R
  unfold cvK at hw
  split at hw
  · rename_i k' k k'' n e1 e2 e3
    rw [e3] at ex
    obtain ⟨ex, -⟩ := s_rel ex
    refine ⟨_, .int k (k.wrap n), hw, ?_, mk_s rfl⟩
    simp [execOp, ho, ex, convert, run_underlying (tK_int e1), run_underlying (tK_int e2), Conv.intToInt]
  · rename_i s e1 e2 e3
    rw [e3] at ex
    obtain ⟨ex, h1⟩ := s_rel ex
    refine ⟨_, .string s, hw, ?_, mk_s h1⟩
    simp [execOp, ho, ex, convert, run_underlying (tK_string e1), run_underlying (tK_string e2)]
  · rename_i k1 k2 v1 e e1 e2
    have hs := tK_slice e1
    have hd := tK_string e2
    have fin : ∀ {k off cap : Nat} {els : List (List V)}, tK C.P e = .int .u8 → a.eval x = .slice (some ⟨k, off, none⟩) els.length cap → els.length ≤ LIM → bytesIn els → (∀ j n, els[j]? = some [.s (.int .u8 n)] → w.cell? ⟨k, off + j, none⟩ = some (.int .u8 n)) → cvBytes K h (bytesOf els) →
        ∃ x' v, K x' h ∧ (execOp a.eval o).run C.P w = .ok (.value v) w ∧ RelV φ x' v := by
      intro k off cap els he hv hlim hu hc hk
      unfold cvBytes at hk
      split at hk
      · rename_i l hl
        have := bytes_run (P := C.P) (w := w) (cap := cap) hs (tK_int he) hd hl hu hc
        exact ⟨_, .string ⟨l.toArray⟩, hk, by simp only [execOp, ho, hv, Sem.run_bind, this, Result.andThen_ok, Sem.run_pure], mk_s (str_one l (by rw [← (bytesOf_nth hl).1]; exact hlim))⟩
      · exact hk.elim
    have nil : ∀ {n c : Nat}, tK C.P e = .int .u8 → a.eval x = .slice none n c → K (.s (.string ByteArray.empty)) h → ∃ x' v, K x' h ∧ (execOp a.eval o).run C.P w = .ok (.value v) w ∧ RelV φ x' v := by
      intro n c he hv hk
      have := run_convert_bytes_nil (P := C.P) w src e hs (tK_int he) n c dst hd
      exact ⟨_, .string .empty, hk, by simp only [execOp, ho, hv, Sem.run_bind, this, Result.andThen_ok, Sem.run_pure], mk_s rfl⟩
    have emp : (⟨([] : List UInt8).toArray⟩ : ByteArray) = ByteArray.empty := rfl
    have nilq : ∀ {q : Option Addr}, tK C.P e = .int .u8 → a.eval x = .slice q 0 0 → K (.s (.string ByteArray.empty)) h → ∃ x' v, K x' h ∧ (execOp a.eval o).run C.P w = .ok (.value v) w ∧ RelV φ x' v := by
      intro q he hv hk
      cases q with
      | none => exact nil he hv hk
      | some ad =>
        have := run_convert_bytes_back (P := C.P) w src dst e ad 0 [] hs (tK_int he) hd (fun j hj => by simp at hj)
        exact ⟨_, .string .empty, hk, by
          have this' : (convert src dst (.slice (some ad) 0 0)).run C.P w = .ok (.string .empty) w := this
          simp only [execOp, ho, hv, Sem.run_bind, this', Result.andThen_ok, Sem.run_pure], mk_s rfl⟩
    unfold cvSl at hw
    split at hw
    · rename_i n els e3
      rw [e3] at ex
      obtain ⟨⟨he, rfl, hu⟩, hk⟩ := hw
      rcases f_rel ex with ⟨rfl, q, hv⟩ | ⟨k, off, cap, hv, h1, h2, h3⟩
      · exact nilq he hv (by simpa [cvBytes, bytesOf, emp] using hk)
      · refine fin he hv h2 hu (fun j n hj => ?_) hk
        obtain ⟨_, q⟩ := h3.nth hj
        obtain ⟨c, q1, q2⟩ := q.nth (j := 0) rfl
        simp only [RZ] at q2
        have := R.zok _ _ _ q1
        rw [q2.1] at this
        simpa using this
    · rename_i e3
      rw [e3] at ex
      obtain ⟨p, hv⟩ := z_rel ex
      obtain ⟨he, hk⟩ := hw
      exact nilq he hv hk
    · rename_i b off len cap e3
      rw [e3] at ex
      obtain ⟨⟨he, hst⟩, hk⟩ := hw
      unfold cvBytes1 at hk
      split at hk
      · rename_i els hels
        obtain ⟨hu, hk⟩ := hk
        unfold elsOf at hels
        split at hels
        · rename_i bels bn bcap hb
          split at hels
          · rename_i hle
            obtain rfl := Option.some.inj hels
            rw [hb] at hst
            simp only [strideB, Option.some.injEq] at hst
            subst hst
            obtain ⟨p, n, hp, hv⟩ := sl_rel ex
            obtain ⟨pp, g1, g2, g3, g4⟩ := R.place hb rfl
            rw [hp] at g1; obtain ⟨rfl, rfl⟩ := Prod.mk.inj (Option.some.inj g1)
            have hlen : ((bels.drop off).take len).length = len := by simp; omega
            cases p with
            | none =>
              obtain ⟨⟨q, hv⟩, rfl, rfl, rfl⟩ := hv
              obtain ⟨hB, -⟩ := g4
              simp only at hB; subst hB
              have hk' : K (.s (.string ByteArray.empty)) h := by simpa [cvBytes, bytesOf, emp] using hk
              exact nilq he hv hk'
            | some k =>
              simp only [Nat.mul_one] at hv
              obtain ⟨c, ty, fq, y1, y2, y3, y4, y5⟩ := g4
              refine fin (k := k) (off := off) (cap := cap) he (by rw [hlen]; exact hv) (by simp only at g3; rw [hlen]; omega) hu (fun j n hj => ?_) hk
              rw [List.getElem?_take] at hj
              split at hj
              · rw [List.getElem?_drop] at hj
                obtain ⟨v, f, r1, r2, _⟩ := y4.cell hj (o := 0) rfl
                have r3 := (r2.rel (fun _ _ q => by cases q) (fun _ q => by cases q)).1
                simp only [RelC, RelP, RZ] at r3
                rw [r3.1] at r1
                simp only [World.cell?, y1]
                rw [← Array.getElem?_toList]; simpa using r1
              · cases hj
          · cases hels
        · cases hels
      · exact hk.elim
    · exact hw.elim
  · exact hw.elim

theorem rep_list (z : Array Value) : ∀ len, (List.range (len * z.size)).map (fun x => z[x % z.size]!) = (List.replicate len z.toList).flatten
  | 0 => by simp
  | len + 1 => by
    have e1 : (List.range z.size).map (fun x => z[x % z.size]!) = z.toList := by
      apply List.ext_getElem?
      intro i
      by_cases hi : i < z.size
      · rw [List.getElem?_map, List.getElem?_range hi, Option.map_some, Nat.mod_eq_of_lt hi, Array.getElem?_toList, getElem!_pos z i hi, Array.getElem?_eq_getElem hi]
      · rw [List.getElem?_eq_none (by simp; omega), List.getElem?_eq_none (by simp; omega)]
    have e2 : (List.range (len * z.size)).map ((fun x => z[x % z.size]!) ∘ (z.size + ·)) = (List.range (len * z.size)).map (fun x => z[x % z.size]!) :=
      List.map_congr_left fun x _ => by show z[(z.size + x) % z.size]! = z[x % z.size]!; rw [Nat.add_mod_left]
    rw [Nat.succ_mul, Nat.add_comm, List.range_add, List.map_append, List.map_map, e1, e2, rep_list z len, List.replicate_succ, List.flatten_cons]

theorem rep_cells (z : Array Value) (n len : Nat) (hz : z.size = n) : (Array.range (len * n)).map (fun x => z[x % z.size]!) = ((List.replicate len z.toList).flatten).toArray := by
  subst hz
  apply Array.ext'
  rw [← rep_list]
  simp

theorem rep_flat (z : List Value) (len : Nat) : (List.replicate len (z.map ofV1)).flatten = ((List.replicate len z).flatten).map ofV1 := by
  induction len with
  | zero => rfl
  | succ n ih => rw [List.replicate_succ, List.flatten_cons, List.replicate_succ, List.flatten_cons, List.map_append, ih]
theorem all_rep {z : List Value} (h : z.all one = true) : ∀ len, ((List.replicate len z).flatten).all one = true
  | 0 => rfl
  | n + 1 => by simp only [List.replicate_succ, List.flatten_cons, List.all_append, h, all_rep h n, Bool.and_self]

theorem sem_makeSlice {t : TypeId} {l c : Operand} (ho : o.op = .makeSlice t l c) (R : Rel S w0 φ h w) (G : RelG C φ.z) (T : RelT φ τ a) (hl : opdOk l = true) (hc : opdOk c = true)
    (hw : mkK C K h (tElem C.P t) (ev C τ l) (ev C τ c)) : Did C.P o a w S w0 φ h.length K := by
  have el := ev_rel G T l hl
  have ec := ev_rel G T c hc
  unfold mkK at hw
  split at hw
  · rename_i kl l' kc c' e2 e3
    rw [e2] at el; rw [e3] at ec
    obtain ⟨el, -⟩ := s_rel el
    obtain ⟨ec, -⟩ := s_rel ec
    split at hw
    · rename_i e he
      unfold mkK2 at hw
      split at hw
      · rename_i n z by_ hn hz hby
        obtain ⟨⟨h0, h1, h2, h3, h4⟩, hk⟩ := hw
        obtain ⟨zv, hzv, rfl, h5, hiz⟩ := run_zero hz
        unfold tSz at hn; unfold tBytes at hby
        cases hi : C.P.info? e with
        | none => rw [hi] at hn; cases hn
        | some i =>
          rw [hi] at hn hby hiz
          simp at hn hby hiz
          subst hn hby
          have hzs : zv.cells.size = i.size := by simpa using h4
          have hm : madeCells zv.cells (c'.toNat * i.size) = ((List.replicate c'.toNat zv.cells.toList).flatten).toArray := by
            unfold madeCells; exact rep_cells zv.cells i.size c'.toNat hzs
          have hr := run_make (P := C.P) w t e i zv (underlying_of_tElem he) hi hiz kl kc l' c' h0 h1 (by omega) (by omega)
          refine did_new R (els := List.replicate c'.toNat (zv.cells.toList.map ofV1)) (n := i.size) (cap := c'.toNat) (c := madeCells zv.cells (c'.toNat * i.size)) (e := e) (by simp [hzs]) ?_ (by rw [size_madeCells])
            (by simp) (by simp [LIM]; omega) (x := .sl h.length 0 l'.toNat c'.toNat) (v := .slice (some ⟨w.heap.size, 0, none⟩) l'.toNat c'.toNat) hk ?_ (sl_new (by omega))
          · rw [hm, rep_flat]
            have hlen : ((List.replicate c'.toNat zv.cells.toList).flatten).length = c'.toNat * i.size := by simp [hzs]
            rw [take_all (by simp [hzs])]
            simpa using all2_ofV1 (φ := φ) (all_rep h5 c'.toNat)
          · simp only [execOp, ho, el, ec, Sem.run_bind, hr, Result.andThen_ok, Sem.run_pure]
      · exact hw.elim
    · exact hw.elim
  · exact hw.elim
end
end Go.W
