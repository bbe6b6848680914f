/- A layer for walking through code on abstract values and an abstract heap: its definitions and their soundness; no condition. -/
import Derived.Test.YtpcgnmoogjahbaaVS
import Derived.Laws.AppendOwn
import Derived.Laws.CopyRow
set_option linter.unusedVariables false
set_option linter.unusedSimpArgs false
namespace Go.VL
open Go Go.RowKit

section
variable {P : Program} {h : H}

theorem H.set_set (h : H) (b : Nat) (k k' : Blk) : (h.set b k).set b k' = h.set b k' := by
  simp only [H.set, H.mk.injEq, true_and]; funext j; by_cases e : j = b <;> simp [e]
theorem H.set_push (h : H) (b : Nat) (k k' : Blk) (hb : b < h.n) : (h.push k).set b k' = (h.set b k').push k := by
  simp only [H.set, H.push, H.mk.injEq, true_and]; funext j
  have hne : b ≠ h.n := by omega
  by_cases e : j = b
  · subst e; simp [hne]
  · by_cases e' : j = h.n
    · subst e'; simp [e]
    · simp [e, e']

theorem phiPush_new (φ : Phi) (n : Nat) (p : Nat × Nat) : phiPush φ n p n = some p := by unfold phiPush; rw [if_pos rfl]

theorem info_of {e : TypeId} {n by_ : Nat} {z : List Value} (hn : tSz P e = some n) (hby : tBytes P e = some by_) (hz : tZero P e = some z) :
    ∃ i zv, P.info? e = some i ∧ i.zero = some zv ∧ i.size = n ∧ i.bytes = by_ ∧ zv.cells.toList = z := by
  unfold tSz at hn; unfold tZero at hz; unfold tBytes at hby
  cases hi : P.info? e with
  | none => rw [hi] at hn; cases hn
  | some i =>
    rw [hi] at hn hz hby
    cases hiz : i.zero with
    | none => simp [hiz] at hz
    | some zv =>
      simp [hiz] at hz; simp at hn hby
      exact ⟨i, zv, rfl, hiz, hn, hby, hz⟩

/-- What is appended: nothing, or what a slice holds. -/
def newsOf (h : H) (n : Nat) : V → Option (Nat × List V)
  | .sl b off m _ => if b < h.n then (h.rdN b off (m * n)).map fun l => (m, l) else none
  | .s (.slice none 0 0) => some (0, [])
  | _ => none

theorem news_cells {B : Nat} {w0 : World} {φ : Phi} {w : World} {x : V} {xv : Value} {n m : Nat} {news : List V} (R : Rel B w0 φ h w) (r : RelV φ x xv) (hx : newsOf h n x = some (m, news)) :
    (∃ a c l, xv = .slice (some a) m c ∧ l.length = m * n ∧ All2 (RelC φ) news l ∧ ∀ j v, l[j]? = some v → w.cell? (a.add j) = some v) ∨ (xv = .slice none 0 0 ∧ m = 0 ∧ news = []) := by
  cases x with
  | sl b off m' cap =>
    simp only [newsOf] at hx
    split at hx
    · rename_i hb
      cases hr : h.rdN b off (m' * n) with
      | none => rw [hr] at hx; cases hx
      | some l =>
        rw [hr] at hx
        obtain ⟨rfl, rfl⟩ := Prod.mk.inj (Option.some.inj hx)
        obtain ⟨blk, base, hp, rfl⟩ := sl_rel r
        obtain ⟨h1, l', h2, h3, h4⟩ := rdN_cells R hb hr
        exact .inl ⟨_, _, l', rfl, h2, h3, fun j v e => by rw [addr_add]; exact h4 blk base hp j v e⟩
    · cases hx
  | s u =>
    obtain ⟨rfl, -⟩ := s_rel r
    cases xv with
    | slice a len cap =>
      cases a with
      | none =>
        cases len with
        | zero =>
          cases cap with
          | zero => simp only [newsOf, Option.some.injEq, Prod.mk.injEq] at hx; exact .inr ⟨rfl, hx.1.symm, hx.2.symm⟩
          | succ c => simp [newsOf] at hx
        | succ l => simp [newsOf] at hx
      | some a => simp [newsOf] at hx
    | _ => simp [newsOf] at hx
  | _ => simp [newsOf] at hx

theorem rel_new {B : Nat} {w0 : World} {φ : Phi} {w : World} {cells : List V} {vals : List Value} {c : Array Value} {e : TypeId} (R : Rel B w0 φ h w) (hx : All2 (RelC φ) cells vals) (hc : ∃ rest, c.toList = vals ++ rest) :
    ∃ φ', Rel B w0 φ' (h.push ⟨cells, c.size, e, .own⟩) (w.drew.alloc (.cells c e)) ∧ Ext φ φ' ∧ φ' h.n = some (w.heap.size, 0) := by
  have g : w.grownBy (w.drew.alloc (.cells c e)) none := ⟨rfl, rfl, rfl, by simp, fun k hk _ => heap_alloc_old w.drew _ hk⟩
  obtain ⟨R', E⟩ := R.alloc (cells := cells) g (Nat.le_refl _) (heap_alloc_new w.drew _) (fun i x hi => by
    obtain ⟨rest, hc⟩ := hc
    obtain ⟨v, h1, h2⟩ := hx.get i x hi
    refine ⟨v, ?_, h2⟩
    rw [← Array.getElem?_toList, hc, List.getElem?_append_left (by
      have := (List.getElem?_eq_some_iff.1 h1).1; exact this)]
    exact h1)
  exact ⟨_, R', E, by unfold phiPush; rw [if_pos rfl]⟩

/-- append onto a row of one's own: the elder name is given up. -/
theorem AppV.own {b len cap n by_ m : Nat} {x : V} {t e : TypeId} {z : List Value} {cells news : List V} {R : V → H → Prop} (helem : tElem P t = some e) (hn : tSz P e = some n) (hby : tBytes P e = some by_)
    (hz : tZero P e = some z) (hzl : z.length = n) (hn0 : 0 < n) (hb : b < h.n) (hst : h.get b = ⟨cells, cap * n, e, .own⟩) (hlen : cells.length = len * n) (hx : newsOf h n x = some (m, news)) (hok : news.all cellOk = true)
    (hbound : (len + m) * by_ ≤ 140737488355328 ∧ len + m ≤ 9223372036854775807)
    (hR : ∀ c, len + m ≤ c → R (.sl h.n 0 (len + m) c) ((h.set b Blk.none).push ⟨cells ++ news, c * n, e, .own⟩)) : AppV P h (.sl b 0 len cap) x t t R := by
  intro B w0 φ w sv xv ty Rl rs rx
  obtain ⟨i, zv, hi, hiz, hsz, hbytes, rfl⟩ := info_of hn hby hz
  subst hsz hbytes
  have ht := underlying_of_tElem helem
  have ho : (h.get b).st = .own := by rw [hst]
  obtain ⟨k, c, p1, p2, p3, p4, p6⟩ := own_place Rl ho hb
  obtain ⟨blk, base, hp, rfl⟩ := sl_rel rs
  rw [p1] at hp; obtain ⟨rfl, rfl⟩ := Prod.mk.inj (Option.some.inj hp)
  have hty : (h.get b).ty = e := by rw [hst]
  have htot : (h.get b).total = cap * i.size := by rw [hst]
  have hcl : (h.get b).cells = cells := by rw [hst]
  rw [hty] at p3; rw [htot] at p4
  rw [hcl] at p6
  simp only [Nat.add_zero, Nat.zero_add] at *
  -- what the row holds
  have hcsz : cells.length ≤ c.size := by
    rcases Nat.lt_or_ge c.size cells.length with hlt | hge
    · obtain ⟨v, e', _⟩ := p6 c.size _ (List.getElem?_eq_getElem hlt); simp at e'
    · exact hge
  have hold : All2 (RelC φ) cells (c.toList.take (len * i.size)) := by
    refine All2.of_get (by simp; omega) fun j y v e1 e2 => ?_
    obtain ⟨v', q1, q2⟩ := p6 j y e1
    rw [List.getElem?_take] at e2
    split at e2
    · rw [Array.getElem?_toList] at e2; rw [e2] at q1; obtain rfl := Option.some.inj q1; exact q2
    · cases e2
  have holds : ∀ j v, (c.toList.take (len * i.size))[j]? = some v → w.cell? ((⟨k, 0, none⟩ : Addr).add j) = some v := by
    intro j v e1
    rw [List.getElem?_take] at e1
    split at e1
    · rw [addr_add]; simp only [World.cell?, p3, Nat.zero_add]; simpa using e1
    · cases e1
  rcases news_cells Rl rx hx with ⟨a, c2, l, rfl, hl1, hl2, hl3⟩ | ⟨rfl, rfl, rfl⟩
  · have hone := all2_oneCell hok hl2
    have hnl : news.length = m * i.size := by rw [hl2.length, hl1]
    by_cases hroom : len + m ≤ cap
    · have hfit : len * i.size + l.length ≤ c.size := by rw [hl1, p4, ← Nat.add_mul]; exact Nat.mul_le_mul_right _ hroom
      have hrun := run_append_room (P := P) w t ty e i ht hi k len cap c p3 a m c2 l hl1 hl3 hone hroom hfit
      have hh := setRow_heap w k c (c.toList.take (len * i.size) ++ l ++ c.toList.drop (len * i.size + l.length)).toArray e (0, 0) p3
      have R1 := Rl.write (w' := w.setRow k (c.toList.take (len * i.size) ++ l ++ c.toList.drop (len * i.size + l.length)).toArray) hb ho p1
        ⟨rfl, rfl, rfl, by simp, fun j _ hj => setRow_other w k j _ (fun e => hj (by rw [e]))⟩ hh (cells := cells ++ news) (fun j y hy => by
          obtain ⟨v, q1, q2⟩ := (hold.append hl2).get j y hy
          refine ⟨v, ?_, q2⟩
          rw [List.getElem?_toArray, List.getElem?_append_left (by have := (List.getElem?_eq_some_iff.1 q1).1; exact this)]
          exact q1)
      have hsz : (c.toList.take (len * i.size) ++ l ++ c.toList.drop (len * i.size + l.length)).toArray.size = cap * i.size := by
        rw [← p4]; simp; omega
      rw [hsz] at R1
      have hget : ((h.set b ⟨cells ++ news, cap * i.size, e, .own⟩).get b) = ⟨cells ++ news, cap * i.size, e, .own⟩ := H.get_set_same ..
      obtain ⟨R2, E2⟩ := R1.rename (b := b) (k := k) hb (by rw [hget]) p1
      rw [hget, H.set_set] at R2
      exact ⟨_, _, _, _, _, hrun, R2, E2, sl_new (n := h.n) (blk := k) (phiPush φ h.n (k, 0)) (phiPush_new φ h.n (k, 0)), hR cap hroom⟩
    · have hrun := run_append_grow (P := P) w t ty e i zv ht hi hiz ⟨k, 0, none⟩ len cap (c.toList.take (len * i.size)) (by simp; omega) holds a m c2 l hl1 hl3 (by omega)
        (by omega) (growslice_fits (by omega) hbound.1)
      have hge := grownCap_ge w (len + m) cap e
      obtain ⟨φ', R1, E1, hn1⟩ := rel_new (e := e) (c := (c.toList.take (len * i.size)).toArray ++ l.toArray ++ Builtin.zeroCells zv.cells (grownCap w (len + m) cap e - (len + m))) Rl (hold.append hl2)
        ⟨(Builtin.zeroCells zv.cells (grownCap w (len + m) cap e - (len + m))).toList, by simp⟩
      have hsz : ((c.toList.take (len * i.size)).toArray ++ l.toArray ++ Builtin.zeroCells zv.cells (grownCap w (len + m) cap e - (len + m))).size = grownCap w (len + m) cap e * i.size := by
        have h1 : (c.toList.take (len * i.size)).length = len * i.size := by simp; omega
        have h2 : zv.cells.size = i.size := by simpa using hzl
        simp only [Array.size_append, List.size_toArray, size_zeroCells, h1, hl1, h2, ← Nat.add_mul]
        congr 1; omega
      rw [hsz] at R1
      have R2 := R1.kill b
      rw [H.set_push _ _ _ _ hb] at R2
      exact ⟨_, _, φ', _, _, hrun, R2, E1, sl_new _ hn1, hR _ hge⟩
  · -- nothing is appended: the row keeps its place and takes a new name
    obtain ⟨R2, E2⟩ := Rl.rename hb ho p1
    by_cases hroom : len ≤ cap
    · refine ⟨.slice (some ⟨k, 0, none⟩) len cap, w, _, _, _, ?_, R2, E2, sl_new (n := h.n) (blk := k) (phiPush φ h.n (k, 0)) (phiPush_new φ h.n (k, 0)), ?_⟩
      · simp [Builtin.append_, run_underlying ht, sizeOf, typeInfo, hi, Builtin.lenOf, Builtin.firstCells, hroom, storeCells]
      · have := hR cap (by omega)
        simp only [List.append_nil, Nat.add_zero] at this
        rw [hst]; exact this
    · -- a length beyond the capacity: there is no such slice; the row's own bounds say so
      exfalso
      have h1 : len * i.size ≤ cap * i.size := by rw [← hlen, ← p4]; exact hcsz
      exact hroom (Nat.le_of_mul_le_mul_right h1 hn0)

/-- append onto nil, or onto what has no room at all: a new row; the elder one stays. -/
theorem AppV.fresh {n by_ m : Nat} {s x : V} {t e : TypeId} {z : List Value} {news : List V} {R : V → H → Prop} (helem : tElem P t = some e) (hn : tSz P e = some n) (hby : tBytes P e = some by_)
    (hz : tZero P e = some z) (hzl : z.length = n) (hs : s = .s (.slice none 0 0) ∨ ∃ b off, s = .sl b off 0 0) (hx : newsOf h n x = some (m, news))
    (hbound : m * by_ ≤ 140737488355328 ∧ m ≤ 9223372036854775807)
    (hR0 : m = 0 → R s h) (hR : 0 < m → ∀ c, m ≤ c → R (.sl h.n 0 m c) (h.push ⟨news, c * n, e, .own⟩)) : AppV P h s x t t R := by
  intro B w0 φ w sv xv ty Rl rs rx
  obtain ⟨i, zv, hi, hiz, hsz, hbytes, rfl⟩ := info_of hn hby hz
  subst hsz hbytes
  have ht := underlying_of_tElem helem
  have hzs : zv.cells.size = i.size := by simpa using hzl
  have hsv : ∃ p, sv = .slice p 0 0 := by
    rcases hs with rfl | ⟨b, off, rfl⟩
    · exact ⟨none, (s_rel rs).1⟩
    · obtain ⟨blk, base, hp, rfl⟩ := sl_rel rs; exact ⟨_, rfl⟩
  obtain ⟨p, rfl⟩ := hsv
  have nothing : (Builtin.append_ #[t, t] ty #[.slice p 0 0, xv]).run P w = .ok (.slice p 0 0) w → R s h → ∃ v w' φ' r h', (Builtin.append_ #[t, t] ty #[.slice p 0 0, xv]).run P w = .ok v w' ∧ Rel B w0 φ' h' w' ∧ Ext φ φ' ∧ RelV φ' r v ∧ R r h' :=
    fun hrun hr => ⟨_, _, φ, s, h, hrun, Rl, Ext.refl φ, rs, hr⟩
  rcases news_cells Rl rx hx with ⟨a, c2, l, rfl, hl1, hl2, hl3⟩ | ⟨rfl, rfl, rfl⟩
  · rcases Nat.eq_zero_or_pos m with h0 | h0
    · subst h0
      refine nothing ?_ (hR0 rfl)
      cases p <;> simp [Builtin.append_, run_underlying ht, sizeOf, typeInfo, hi, Builtin.lenOf, Builtin.firstCells, loadCells, loadCellsFrom, storeCells]
    · have hge := grownCap_ge w m 0 e
      obtain ⟨φ', R1, E1, hn1⟩ := rel_new (e := e) (c := l.toArray ++ Builtin.zeroCells zv.cells (grownCap w m 0 e - m)) Rl hl2 ⟨(Builtin.zeroCells zv.cells (grownCap w m 0 e - m)).toList, by simp⟩
      have hsz : (l.toArray ++ Builtin.zeroCells zv.cells (grownCap w m 0 e - m)).size = grownCap w m 0 e * i.size := by
        simp only [Array.size_append, List.size_toArray, size_zeroCells, hl1, hzs, ← Nat.add_mul]
        congr 1; omega
      rw [hsz] at R1
      cases p with
      | none =>
        have hrun := run_append_nil (P := P) w t ty e i zv ht hi hiz a m c2 l hl1 hl3 h0 (by omega) (by omega)
        exact ⟨_, _, φ', _, _, hrun, R1, E1, sl_new _ hn1, hR h0 _ hge⟩
      | some b =>
        have hrun := run_append_grow (P := P) w t ty e i zv ht hi hiz b 0 0 [] (by simp) (fun j v e => by simp at e) a m c2 l hl1 hl3 (by omega) (by omega) (by
          have := growslice_fits (need := m) (old := 0) (bytes := i.bytes) h0 hbound.1
          simpa using this)
        simp only [Nat.zero_add] at hrun
        have e0 : ([] : List Value).toArray ++ l.toArray ++ Builtin.zeroCells zv.cells (grownCap w m 0 e - m) = l.toArray ++ Builtin.zeroCells zv.cells (grownCap w m 0 e - m) := by simp
        rw [e0] at hrun
        exact ⟨_, _, φ', _, _, hrun, R1, E1, sl_new _ hn1, hR h0 _ hge⟩
  · refine nothing ?_ (hR0 rfl)
    cases p <;> simp [Builtin.append_, run_underlying ht, sizeOf, typeInfo, hi, Builtin.lenOf, Builtin.firstCells, loadCells, loadCellsFrom, storeCells]

end
end Go.VL
