/- A layer for walking through code on abstract values and an abstract heap: its definitions and their soundness; no condition. -/
import Derived.Test.YtpcgnmoogjahbaaVZ
import Derived.ChangeSlices
import Derived.OpenShut
set_option linter.unusedVariables false
set_option linter.unusedSimpArgs false
namespace Go.VL
open Go Go.RowKit Go.ChangeShapes Go.WideShapes

/-! From a statement's arguments to the abstract heap. -/
def H.nil : H := ⟨0, fun _ => Blk.none⟩
theorem Rel.init (W : World) : Rel W.heap.size W (fun _ => none) H.nil W :=
  ⟨Below.refl _ _, Nat.le_refl _, fun _ _ => rfl, fun b hb => absurd hb (Nat.not_lt_zero b), fun b _ _ _ _ _ hb => absurd hb (Nat.not_lt_zero b)⟩

theorem Rel.addRo {B : Nat} {w0 w : World} {φ : Phi} {h : H} (R : Rel B w0 φ h w) {blk base : Nat} {cells : List V} (hlt : blk < B)
    (hc : ∀ (i : Nat) (x : V), cells[i]? = some x → ∃ c, w.cell? ⟨blk, base + i, none⟩ = some c ∧ RelC φ x c) :
    Rel B w0 (phiPush φ h.n (blk, base)) (h.push ⟨cells, 0, 0, .ro⟩) w ∧ Ext φ (phiPush φ h.n (blk, base)) ∧ phiPush φ h.n (blk, base) h.n = some (blk, base) := by
  have hn : φ h.n = none := R.dom h.n (Nat.le_refl _)
  have E := phiPush_ext (p := (blk, base)) hn
  have old : ∀ b, b ≠ h.n → phiPush φ h.n (blk, base) b = φ b := fun b hb => by unfold phiPush; rw [if_neg hb]
  refine ⟨⟨R.below, R.base, fun b hb => ?_, fun b hb => ?_, fun b b' k i k' i' hb hb' hne hst hse e1 e2 => ?_⟩, E, phiPush_new _ _ _⟩
  · have : h.n + 1 ≤ b := hb
    rw [old b (by omega)]; exact R.dom b (by omega)
  · have hb' : b < h.n + 1 := hb
    by_cases e : b = h.n
    · subst e
      rw [H.get_push_new]
      exact ⟨blk, base, phiPush_new _ _ _, fun i x hi => by
        obtain ⟨c, q1, q2⟩ := hc i x hi
        exact ⟨c, q1, q2.ext E⟩⟩
    · rw [H.get_push_old _ _ _ (by omega)]
      exact (R.blk b (by omega)).keep E (fun _ _ _ _ => rfl)
  · have hb1 : b < h.n + 1 := hb
    have hb2 : b' < h.n + 1 := hb'
    by_cases e : b = h.n
    · subst e; rw [H.get_push_new] at hst; cases hst
    · rw [H.get_push_old _ _ _ (by omega)] at hst
      rw [old b e] at e1
      have hbl := R.blk b (by omega)
      have hB : B ≤ k := by
        simp only [BlkRel, hst] at hbl
        obtain ⟨blk', c, q1, q2, _⟩ := hbl
        rw [q1] at e1
        obtain ⟨rfl, -⟩ := Prod.mk.inj (Option.some.inj e1)
        exact q2
      by_cases e' : b' = h.n
      · subst e'
        rw [phiPush_new] at e2
        obtain ⟨rfl, -⟩ := Prod.mk.inj (Option.some.inj e2)
        omega
      · rw [H.get_push_old _ _ _ (by omega)] at hse
        rw [old b' e'] at e2
        exact R.sep b b' k i k' i' (by omega) (by omega) hne hst hse e1 e2

theorem callsV_true {P : Program} {f : Nat} {args : List V} {h : H} {φ : Phi} {W : World} {vs : Array Value} (c : CallsV P f args h fun r _ => r = .ret (.s (.bool true))) (R : Rel W.heap.size W φ h W)
    (ha : All2 (RelV φ) args vs.toList) : Calls P f vs W fun e W' => e = .returned (.bool true) ∧ Below W.heap.size W W' :=
  (c.2 _ _ φ vs W R ha).mono fun e W' ⟨r, φ', h', p1, p2, p3, p4⟩ => by
    subst p4
    obtain ⟨v, rfl, q⟩ := p1
    obtain ⟨rfl, -⟩ := s_rel q
    exact ⟨rfl, p2.below⟩

theorem okWide_spot {P : Program} {W : World} {r : Reach} {base : Nat} {t e : TypeId} {a : Addr} {len cap : Nat} (ht : P.underlying t = some (.slice e)) (h : Value.okWide P W r base t (.slice (some a) len cap)) : a.spot = none := by
  unfold Value.okWide at h
  rw [ht] at h
  simp only at h
  unfold Cell.okWide at h
  rw [ht] at h
  simp only at h
  unfold Cell.ok at h
  rw [ht] at h
  exact h.2.2.2.1

theorem cell_lt {w : World} {a : Addr} {v : Value} (h : w.cell? a = some v) : a.block < w.heap.size := by
  unfold World.cell? at h
  split at h
  · rename_i e; exact (Array.getElem?_eq_some_iff.1 e).1
  · cases h

theorem u8_byte {n : Int} (h : (Lit.int .u8 n).wf = true) : (UInt8.ofNat n.toNat).toNat = n := by
  have : 0 ≤ n ∧ n ≤ 255 := by
    simp [Lit.wf, IntKind.min, IntKind.max, IntKind.signed, IntKind.bits] at h
    omega
  rw [UInt8.toNat_ofNat']; omega

section
variable {H' : Type} {enc : TypeId × Value → H'} {P : Program} {W : World}

/-- An argument of bytes. -/
theorem open_bytes {t e : TypeId} {v : Value} {d : DataW H'} {p : List MemPlace} {base : Nat} (ht : P.underlying t = some (.slice e)) (he : P.underlying e = some (.int .u8)) (hc : P.cellsOf e = 1)
    (hval : Value.okWide P W .any base t v) (hd : DataW.Trod enc P W 0 (fun _ => true) true t v d p) {φ : Phi} {h : H} (R : Rel W.heap.size W φ h W) :
    ∃ (x : V) (l : List UInt8) (h' : H) (φ' : Phi), Row h' x l.length (l.map byteV) ∧ Rel W.heap.size W φ' h' W ∧ Ext φ φ' ∧ RelV φ' x v ∧ HExt h h' := by
  obtain ⟨a, len, cap, rfl⟩ := okWide_slice ht hval
  obtain ⟨fuel, hf⟩ := hd
  rcases open_ints ht he hc hf with ⟨hcs, _⟩ | ⟨x, l, c, zs, hcs, _, hl, hm, hz, _, hcell, hwz⟩
  · simp [Value.cells] at hcs
    obtain ⟨rfl, rfl, rfl⟩ := hcs
    exact ⟨.s (.slice none 0 0), [], h, φ, .inl ⟨rfl, rfl, rfl⟩, R, Ext.refl φ, by simp [RelV, RelQ, RelC, conc, one], HExt.refl h⟩
  · simp [Value.cells] at hcs
    obtain ⟨rfl, rfl, rfl⟩ := hcs
    have hsp := okWide_spot ht hval
    have hz' : zs.length = cap := by simpa using hz
    obtain ⟨blk, off, sp⟩ := x
    simp only at hsp
    subst hsp
    let bs : List UInt8 := (zs.take len).map fun n => UInt8.ofNat n.toNat
    have hbl : bs.length = len := by simp [bs, hz']; omega
    have hcells : ∀ (i : Nat) (y : V), (bs.map byteV)[i]? = some y → ∃ c, W.cell? ⟨blk, off + i, none⟩ = some c ∧ RelC φ y c := by
      intro i y hi
      have hil : i < len := by
        have := (List.getElem?_eq_some_iff.1 hi).1
        simpa [hbl] using this
      have := hcell i (by omega)
      have ea : (⟨blk, off, none⟩ : Addr).add i = ⟨blk, off + i, none⟩ := by unfold Addr.add; split <;> simp_all
      rw [ea] at this
      refine ⟨_, this, ?_⟩
      have hzi : zs[i]? = some (zs.getD i 0) := by
        rw [List.getD_eq_getElem?_getD, List.getElem?_eq_getElem (by omega)]; rfl
      have : y = byteV (UInt8.ofNat (zs.getD i 0).toNat) := by
        simp only [bs, List.map_map, List.getElem?_map, List.getElem?_take, hil, if_true, hzi, Option.map_some, Function.comp] at hi
        exact (Option.some.inj hi).symm
      rw [this]
      have hm : zs.getD i 0 ∈ zs := List.mem_of_getElem? hzi
      simp only [byteV, RelC, conc, one, if_true]
      rw [u8_byte (hwz _ hm)]
    by_cases h0 : len = 0
    · -- no cell: a block of its own name, nothing in it
      have hb0 : bs = [] := List.eq_nil_of_length_eq_zero (by omega)
      by_cases hlt : blk < W.heap.size
      · obtain ⟨R', E, hp⟩ := R.addRo (blk := blk) (base := off) (cells := bs.map byteV) hlt hcells
        refine ⟨.sl h.n 0 len cap, bs, _, _, .inr ⟨h.n, 0, cap, by rw [hbl], Nat.lt_succ_self _, ?_⟩, R', E, ?_, HExt.push _ _⟩
        · unfold H.rdN; rw [H.get_push_new, if_neg (by simp), if_pos (by simp), List.drop_zero, List.take_of_length_le (by simp)]
        · simp only [RelV, RelQ, RelC, conc, place, hp, Option.map_some, Nat.add_zero]
      · -- out of the heap: cannot be, by the type's own rule
        exfalso
        unfold Value.okWide at hval
        rw [ht] at hval
        simp only at hval
        unfold Cell.okWide at hval
        rw [ht] at hval
        simp only at hval
        unfold Cell.ok at hval
        rw [ht] at hval
        obtain ⟨row, cells, hs, _⟩ := hval.2.2.2.2
        unfold World.shape? at hs
        rw [Array.getElem?_eq_none (show W.heap.size ≤ blk by omega)] at hs
        cases hs
    · have hlt : blk < W.heap.size := cell_lt (hcell 0 (by omega)) |> fun h => by simpa [Addr.add] using h
      obtain ⟨R', E, hp⟩ := R.addRo (blk := blk) (base := off) (cells := bs.map byteV) hlt hcells
      refine ⟨.sl h.n 0 len cap, bs, _, _, .inr ⟨h.n, 0, cap, by rw [hbl], Nat.lt_succ_self _, ?_⟩, R', E, ?_, HExt.push _ _⟩
      · unfold H.rdN; rw [H.get_push_new, if_neg (by simp), if_pos (by simp), List.drop_zero, List.take_of_length_le (by simp)]
      · simp only [RelV, RelQ, RelC, conc, place, hp, Option.map_some, Nat.add_zero]
end
end Go.VL
