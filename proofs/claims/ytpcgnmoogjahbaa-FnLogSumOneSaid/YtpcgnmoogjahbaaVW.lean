/- A layer for walking through code on abstract values and an abstract heap: its definitions and their soundness; no condition. -/
import Derived.Test.YtpcgnmoogjahbaaVU
import Derived.Laws.BytesArg
import Derived.Laws.IdiomStrings
set_option linter.unusedVariables false
set_option linter.unusedSimpArgs false
namespace Go.VL
open Go Go.RowKit

section
variable {P : Program} {h : H}

def byteV (c : UInt8) : V := .s (.int .u8 c.toNat)

theorem und_slice {t e : TypeId} (h : tK P t = .slice e) : P.underlying t = some (.slice e) := by
  unfold tK at h
  split at h <;> simp_all
theorem und_int {t : TypeId} {k : IntKind} (h : tK P t = .int k) : P.underlying t = some (.int k) := by
  unfold tK at h
  split at h <;> simp_all
theorem und_string {t : TypeId} (h : tK P t = .string) : P.underlying t = some .string := by
  unfold tK at h
  split at h <;> simp_all

/-- string(b) of bytes. -/
theorem ConvV.bytes {src dst e : TypeId} {b off cap : Nat} {l : List UInt8} {R : V → H → Prop} (hs : tK P src = .slice e) (he : tK P e = .int .u8) (hd : tK P dst = .string) (hb : b < h.n)
    (hl : h.rdN b off l.length = some (l.map byteV)) (hR : R (.s (.string ⟨l.toArray⟩)) h) : ConvV P h src dst (.sl b off l.length cap) R := by
  intro B w0 φ w xv Rl rx
  obtain ⟨blk, base, hp, rfl⟩ := sl_rel rx
  obtain ⟨h1, cs, h2, h3, h4⟩ := rdN_cells Rl hb hl
  refine ⟨_, w, φ, _, h, run_convert_bytes_back w src dst e _ cap l (und_slice hs) (und_int he) (und_string hd) fun j hj => ?_, Rl, Ext.refl φ, ?_, hR⟩
  · rw [addr_add]
    refine h4 blk base hp j _ ?_
    obtain ⟨v, q1, q2⟩ := h3.get j (byteV l[j]) (by simp [List.getElem?_eq_getElem hj])
    rw [q1]
    simp only [byteV, RelC, conc, one, if_true, Option.some.injEq] at q2
    rw [← q2]
  · simp [RelV, RelQ, RelC, conc, one]
theorem ConvV.bytes_nil {src dst e : TypeId} {R : V → H → Prop} (hs : tK P src = .slice e) (he : tK P e = .int .u8) (hd : tK P dst = .string)
    (hR : R (.s (.string ByteArray.empty)) h) : ConvV P h src dst (.s (.slice none 0 0)) R := by
  intro B w0 φ w xv Rl rx
  obtain ⟨rfl, -⟩ := s_rel rx
  exact ⟨_, w, φ, _, h, run_convert_bytes_nil w src e (und_slice hs) (und_int he) 0 0 dst (und_string hd), Rl, Ext.refl φ, by simp [RelV, RelQ, RelC, conc, one], hR⟩

/-- string(b) of bytes that stay, taken first in a region that draws. -/
theorem FConvV.bytes {h0 : H} {exc : List Nat} {src dst e : TypeId} {b off cap : Nat} {l : List UInt8} {R : V → Prop} (hs : tK P src = .slice e) (he : tK P e = .int .u8) (hd : tK P dst = .string) (hb : b < h0.n) (hx : b ∉ exc)
    (hl : h0.rdN b off l.length = some (l.map byteV)) (hR : R (.s (.string ⟨l.toArray⟩))) : FConvV P h0 exc src dst (.sl b off l.length cap) R := by
  intro B w0 φs φ ws xv Rs E rx
  obtain ⟨blk, base, hp, rfl⟩ := sl_rel rx
  have hps : φs b = some (blk, base) := by
    cases hps : φs b with
    | none =>
      exfalso
      have hb' := Rs.blk b hb
      unfold H.rdN at hl
      split at hl
      · cases hl
      · rename_i hd'
        cases hs' : (h0.get b).st with
        | dead => exact hd' hs'
        | ro => simp only [BlkRel, hs'] at hb'; obtain ⟨_, _, q, _⟩ := hb'; rw [hps] at q; cases q
        | own => simp only [BlkRel, hs'] at hb'; obtain ⟨_, _, q, _⟩ := hb'; rw [hps] at q; cases q
    | some p => have := E b p hps; rw [hp] at this; rw [Option.some.inj this]
  refine ⟨_, _, hR, fun w hS => run_convert_bytes_back w src dst e _ cap l (und_slice hs) (und_int he) (und_string hd) fun j hj => ?_, by simp [RelV, RelQ, RelC, conc, one]⟩
  rw [addr_add]
  have hrd : h0.rd b (off + j) = some (byteV l[j]) := H.rdN_nth hl (by simp [List.getElem?_eq_getElem hj])
  have := hS b (off + j) (byteV l[j]) ⟨blk, base + (off + j), none⟩ (.int .u8 l[j].toNat) hb hx hrd (by unfold place; rw [hps]; rfl) rfl
  rw [← Nat.add_assoc] at this
  exact this
theorem FConvV.bytes_nil {h0 : H} {exc : List Nat} {src dst e : TypeId} {R : V → Prop} (hs : tK P src = .slice e) (he : tK P e = .int .u8) (hd : tK P dst = .string)
    (hR : R (.s (.string ByteArray.empty))) : FConvV P h0 exc src dst (.s (.slice none 0 0)) R := by
  intro B w0 φs φ ws xv Rs E rx
  obtain ⟨rfl, -⟩ := s_rel rx
  exact ⟨_, _, hR, fun w hS => run_convert_bytes_nil w src e (und_slice hs) (und_int he) 0 0 dst (und_string hd), by simp [RelV, RelQ, RelC, conc, one]⟩
end
end Go.VL
