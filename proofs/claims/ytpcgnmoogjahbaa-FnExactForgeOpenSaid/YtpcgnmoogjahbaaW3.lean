/- A layer for walking through code on abstract values, told apart by who owns the memory: its definitions and their soundness; no condition. -/
import Derived.Test.YtpcgnmoogjahbaaW2
set_option linter.unusedVariables false
set_option linter.unusedSimpArgs false
namespace Go.W
open Go Go.RowKit

/-! ### The abstract heap -/
/-- A block: its elements, each of n cells; room for cap of them. -/
structure Blk where
  els : List (List V)
  n : Nat
  cap : Nat
  live : Bool
  deriving Inhabited
def Blk.dead : Blk := ⟨[], 0, 0, false⟩
abbrev H := List Blk

/-- A cell of a block. -/
def Dc (φ : Phi) (w : World) (x : V) (v : Value) (fp : Fp) : Prop := (RelC φ x v ∧ fp = []) ∨ T φ.z w x v fp

def BlkRel (φ : Phi) (w : World) (b : Nat) (B : Blk) (fp : Fp) : Prop :=
  if B.live = true then ∃ p, φ.m b = some (p, B.n) ∧ (∀ el ∈ B.els, el.length = B.n) ∧ B.els.length ≤ LIM ∧ match p with
    | none => B.els = [] ∧ B.cap = 0 ∧ fp = []
    | some k => ∃ c ty fq, w.heap[k]? = some (.cells c ty (0, 0)) ∧ c.size = B.cap * B.n ∧ B.els.length ≤ B.cap ∧ Lss (Dc φ w) B.n B.els c.toList fq ∧ fp = k :: fq
  else fp = []

/-- Outside S the world is as it was. -/
structure Kept (S : Nat → Prop) (w w' : World) : Prop where
  os : w'.os = w.os
  tape : w'.tape = w.tape
  output : w'.output = w.output
  size : w.heap.size ≤ w'.heap.size
  block : ∀ k, k < w.heap.size → ¬ S k → w'.heap[k]? = w.heap[k]?

theorem Kept.refl (S : Nat → Prop) (w : World) : Kept S w w := ⟨rfl, rfl, rfl, Nat.le_refl _, fun _ _ _ => rfl⟩
theorem Kept.trans {S : Nat → Prop} {a b c : World} (h : Kept S a b) (k : Kept S b c) : Kept S a c :=
  ⟨k.os.trans h.os, k.tape.trans h.tape, k.output.trans h.output, Nat.le_trans h.size k.size, fun j hj hs => (k.block j (Nat.lt_of_lt_of_le hj h.size) hs).trans (h.block j hj hs)⟩
def Mine (S : Nat → Prop) (w0 : World) (k : Nat) : Prop := S k ∨ w0.heap.size ≤ k
theorem Kept.grown {S : Nat → Prop} {w0 w w' : World} {row : Option Nat} (h : Kept S w0 w) (g : w.grownBy w' row) (hr : ∀ k, row = some k → Mine S w0 k) : Kept S w0 w' :=
  ⟨g.os.trans h.os, g.tape.trans h.tape, g.output.trans h.output, Nat.le_trans h.size g.size, fun j hj hs =>
    (g.block j (Nat.lt_of_lt_of_le hj h.size) (fun e => by rcases hr j e.symm with q | q; exact hs q; omega)).trans (h.block j hj hs)⟩
theorem Kept.below {w w' : World} (h : Kept (fun _ => False) w w') : Below w.heap.size w w' := ⟨h.os, h.tape, h.output, h.size, fun k hk => h.block k hk id⟩

structure RelF (S : Nat → Prop) (w0 : World) (φ : Phi) (h : H) (w : World) (F : Nat → Fp) : Prop where
  kept : Kept S w0 w
  dom : ∀ b, h.length ≤ b → φ.m b = none
  zok : ∀ k o v, φ.z k o = some v → w.cell? ⟨k, o, none⟩ = some v
  znot : ∀ b k o, k ∈ F b → φ.z k o = none
  mine : ∀ b k, k ∈ F b → Mine S w0 k ∧ k < w.heap.size
  nodup : ∀ b, (F b).Nodup
  disj : ∀ b b' k, k ∈ F b → k ∈ F b' → b = b'
  out : ∀ b, h.length ≤ b → F b = []
  blk : ∀ b B, h[b]? = some B → BlkRel φ w b B (F b)
def Rel (S : Nat → Prop) (w0 : World) (φ : Phi) (h : H) (w : World) : Prop := ∃ F, RelF S w0 φ h w F

/-- What was named below n is named so still; what stood fast does. -/
structure ExtN (S : Nat → Prop) (w0 : World) (n : Nat) (φ φ' : Phi) : Prop where
  m : ∀ b, b < n → φ'.m b = φ.m b
  z : FLe φ.z φ'.z
  new : ∀ k o v, φ'.z k o = some v → φ.z k o = some v ∨ Mine S w0 k
theorem ExtN.refl (S : Nat → Prop) (w0 : World) (n : Nat) (φ : Phi) : ExtN S w0 n φ φ := ⟨fun _ _ => rfl, FLe.refl _, fun _ _ _ h => .inl h⟩
theorem ExtN.trans {S : Nat → Prop} {w0 : World} {n : Nat} {a b c : Phi} (h : ExtN S w0 n a b) (h' : ExtN S w0 n b c) : ExtN S w0 n a c :=
  ⟨fun j hj => (h'.m j hj).trans (h.m j hj), h.z.trans h'.z, fun k o v e => by
    rcases h'.new k o v e with e | e
    · exact h.new k o v e
    · exact .inr e⟩
theorem ExtN.mono {S : Nat → Prop} {w0 : World} {n n' : Nat} {a b : Phi} (hn : n' ≤ n) (h : ExtN S w0 n a b) : ExtN S w0 n' a b := ⟨fun j hj => h.m j (by omega), h.z, h.new⟩
theorem RelF.ext {S : Nat → Prop} {w0 w : World} {φ φ' : Phi} {h : H} {F : Nat → Fp} (R : RelF S w0 φ h w F) (e : ExtN S w0 h.length φ φ') : Ext φ φ' :=
  ⟨fun b p hb => (by
    rcases Nat.lt_or_ge b h.length with hlt | hge
    · rw [e.m b hlt]; exact hb
    · have := R.dom b hge
      rw [this] at hb; cases hb), e.z⟩
theorem Rel.ext {S : Nat → Prop} {w0 w : World} {φ φ' : Phi} {h : H} (R : Rel S w0 φ h w) (e : ExtN S w0 h.length φ φ') : Ext φ φ' := R.elim fun _ R => R.ext e

section
variable {S : Nat → Prop} {w0 w w' : World} {φ φ' : Phi} {h : H} {F : Nat → Fp}

theorem Dc.mono {x : V} {v : Value} {fp : Fp} (he : Ext φ φ') (hw : ∀ k ∈ fp, w'.heap[k]? = w.heap[k]?) (d : Dc φ w x v fp) : Dc φ' w' x v fp := by
  rcases d with ⟨d, rfl⟩ | d
  · exact .inl ⟨d.ext he, rfl⟩
  · exact .inr (T.mono he.z x v fp hw d)
theorem Dc.leaf {x : V} {v : Value} (r : RelC φ x v) : Dc φ w x v [] := .inl ⟨r, rfl⟩

theorem BlkRel.keep {b : Nat} {B : Blk} {fp : Fp} (r : BlkRel φ w b B fp) (he : Ext φ φ') (hw : ∀ k ∈ fp, w'.heap[k]? = w.heap[k]?) : BlkRel φ' w' b B fp := by
  unfold BlkRel at *
  split
  · rename_i hl
    rw [if_pos hl] at r
    obtain ⟨p, h1, h2, h3, h4⟩ := r
    refine ⟨p, he.m _ _ h1, h2, h3, ?_⟩
    cases p with
    | none => exact h4
    | some k =>
      obtain ⟨c, ty, fq, q1, q2, q3, q4, rfl⟩ := h4
      exact ⟨c, ty, fq, by rw [hw k (by simp)]; exact q1, q2, q3, q4.mono fun x v f hf d => d.mono he fun j hj => hw j (by simp [hf j hj]), rfl⟩
  · rename_i hl
    rw [if_neg hl] at r; exact r

theorem RelF.grow (R : RelF S w0 φ h w F) (g : w.grownBy w' none) : RelF S w0 φ h w' F :=
  ⟨R.kept.grown g (fun k e => by cases e), R.dom, fun k o v e => by
    have := R.zok k o v e
    rw [World.cell?_of_block (g.block k (World.block_lt_of_cell? _ _ this) (by simp))]; exact this,
   R.znot, fun b k hk => ⟨(R.mine b k hk).1, Nat.lt_of_lt_of_le (R.mine b k hk).2 g.size⟩, R.nodup, R.disj, R.out,
   fun b B hb => (R.blk b B hb).keep (Ext.refl φ) fun k hk => g.block k (R.mine b k hk).2 (by simp)⟩
theorem Rel.grow (R : Rel S w0 φ h w) (g : w.grownBy w' none) : Rel S w0 φ h w' := R.elim fun F R => ⟨F, R.grow g⟩

/-- The block bo is given up, and the block b0 stands for what it held. -/
theorem RelF.step {h' : H} {bo b0 : Nat} {B0 : Blk} {fp0 : Fp} (R : RelF S w0 φ h w F) (he : Ext φ φ') (hz : φ'.z = φ.z) (hk : Kept S w0 w') (hsz : w.heap.size ≤ w'.heap.size)
    (hlen : b0 < h'.length) (hlen2 : h.length ≤ h'.length)
    (hdom : ∀ b, h'.length ≤ b → φ'.m b = none) (hsame : ∀ k, k < w.heap.size → k ∉ F bo → w'.heap[k]? = w.heap[k]?)
    (hbo : b0 = bo ∨ h.length ≤ b0) (hget0 : h'[b0]? = some B0) (hgeto : bo ≠ b0 → ∀ B, h'[bo]? = some B → B.live = false) (hget : ∀ b, b ≠ b0 → b ≠ bo → h'[b]? = h[b]?)
    (hfp : ∀ k ∈ fp0, k ∈ F bo ∨ w.heap.size ≤ k) (hlt : ∀ k ∈ fp0, k < w'.heap.size) (hnd : fp0.Nodup) (hB : BlkRel φ' w' b0 B0 fp0) :
    RelF S w0 φ' h' w' (fun b => if b = b0 then fp0 else if b = bo then [] else F b) := by
  have hmine : ∀ k ∈ fp0, Mine S w0 k := fun k hk' => by
    rcases hfp k hk' with q | q
    · exact (R.mine bo k q).1
    · exact .inr (Nat.le_trans R.kept.size q)
  have hzlt : ∀ k o v, φ.z k o = some v → k < w.heap.size := fun k o v e => World.block_lt_of_cell? _ _ (R.zok k o v e)
  have key : ∀ b k, b ≠ b0 → b ≠ bo → k ∈ F b → k ∉ fp0 ∧ k ∉ F bo ∧ k < w.heap.size := fun b k h1 h2 hkb => by
    have hl := (R.mine b k hkb).2
    have hno : k ∉ F bo := fun q => h2 (R.disj b bo k hkb q)
    exact ⟨fun q => by rcases hfp k q with q | q; exact hno q; omega, hno, hl⟩
  refine ⟨hk, hdom, fun k o v e => ?_, fun b k o hkb => ?_, fun b k hkb => ?_, fun b => ?_, fun b b' k h1 h2 => ?_, fun b hb => ?_, fun b B hb => ?_⟩
  · rw [hz] at e
    have := R.zok k o v e
    rw [World.cell?_of_block (hsame k (hzlt k o v e) (fun q => by rw [R.znot bo k o q] at e; cases e))]; exact this
  · rw [hz]
    by_cases e : b = b0
    · simp only [e, if_true] at hkb
      rcases hfp k hkb with q | q
      · exact R.znot bo k o q
      · cases hzk : φ.z k o with
        | none => rfl
        | some v => have := hzlt k o v hzk; omega
    · by_cases e2 : b = bo
      · simp only [e2] at hkb e; simp [e] at hkb
      · simp only [e, e2, if_false] at hkb; exact R.znot b k o hkb
  · by_cases e : b = b0
    · simp only [e, if_true] at hkb; exact ⟨hmine k hkb, hlt k hkb⟩
    · by_cases e2 : b = bo
      · simp only [e2] at hkb e; simp [e] at hkb
      · simp only [e, e2, if_false] at hkb; exact ⟨(R.mine b k hkb).1, Nat.lt_of_lt_of_le (R.mine b k hkb).2 hsz⟩
  · by_cases e : b = b0
    · simp only [e, if_true]; exact hnd
    · by_cases e2 : b = bo
      · simp only [e2] at e; simp [e, e2]
      · simp only [e, e2, if_false]; exact R.nodup b
  · by_cases e : b = b0
    · simp only [e, if_true] at h1
      by_cases e' : b' = b0
      · rw [e, e']
      · by_cases e2 : b' = bo
        · simp only [e2] at e' h2; simp [e'] at h2
        · simp only [e', e2, if_false] at h2; exact absurd h1 (key b' k e' e2 h2).1
    · by_cases e2 : b = bo
      · simp only [e2] at e h1; simp [e] at h1
      · simp only [e, e2, if_false] at h1
        by_cases e' : b' = b0
        · simp only [e', if_true] at h2; exact absurd h2 (key b k e e2 h1).1
        · by_cases e3 : b' = bo
          · simp only [e3] at e' h2; simp [e'] at h2
          · simp only [e', e3, if_false] at h2; exact R.disj b b' k h1 h2
  · have h1 : b ≠ b0 := by omega
    simp only [h1, if_false]
    split
    · rfl
    · exact R.out b (by omega)
  · by_cases e : b = b0
    · subst e
      rw [hget0] at hb; obtain rfl := Option.some.inj hb
      simp only [if_true]; exact hB
    · by_cases e2 : b = bo
      · subst e2
        have hd := hgeto e B hb
        simp only [e, if_false, if_true]
        unfold BlkRel; rw [if_neg (by simp [hd])]
      · rw [hget b e e2] at hb
        simp only [e, e2, if_false]
        exact (R.blk b B hb).keep he fun k hkb => hsame k (key b k e e2 hkb).2.2 (key b k e e2 hkb).2.1

def phiPush (φ : Phi) (n : Nat) (p : Option Nat × Nat) : Phi := ⟨fun b => if b = n then some p else φ.m b, φ.z⟩
theorem phiPush_ext {n : Nat} {p : Option Nat × Nat} (hn : φ.m n = none) : Ext φ (phiPush φ n p) :=
  ⟨fun b q hq => by
    unfold phiPush
    by_cases e : b = n
    · subst e; rw [hn] at hq; cases hq
    · simp only [e, if_false]; exact hq, FLe.refl _⟩
theorem phiPush_new {n : Nat} {p : Option Nat × Nat} : (phiPush φ n p).m n = some p := by simp [phiPush]
theorem phiPush_old {n b : Nat} {p : Option Nat × Nat} (hb : b ≠ n) : (phiPush φ n p).m b = φ.m b := by simp [phiPush, hb]
theorem phiPush_extN {n m : Nat} {p : Option Nat × Nat} (hm : m ≤ n) : ExtN S w0 m φ (phiPush φ n p) :=
  ⟨fun b hb => phiPush_old (by omega), FLe.refl _, fun _ _ _ e => .inl e⟩

/-- A new block. -/
theorem RelF.alloc (R : RelF S w0 φ h w F) (g : w.grownBy w' none) {j : Nat} (hj : w.heap.size ≤ j) {c : Array Value} {ty : TypeId} {els : List (List V)} {n cap : Nat}
    (hc : w'.heap[j]? = some (.cells c ty (0, 0))) (hcap : c.size = cap * n) (hle : els.length ≤ cap) (hlim : els.length ≤ LIM) (hn : ∀ el ∈ els, el.length = n) (hx : Lss (Dc φ w) n els c.toList []) :
    Rel S w0 (phiPush φ h.length (some j, n)) (h ++ [⟨els, n, cap, true⟩]) w' := by
  have he : Ext φ (phiPush φ h.length (some j, n)) := phiPush_ext (R.dom _ (Nat.le_refl _))
  refine ⟨_, R.step (bo := h.length) (b0 := h.length) (B0 := ⟨els, n, cap, true⟩) (fp0 := [j]) he rfl (R.kept.grown g fun k e => by cases e) g.size (by simp) (by simp) ?_ ?_ (.inl rfl) (by simp)
    (fun q => absurd rfl q) ?_ ?_ ?_ (by simp) ?_⟩
  · intro b hb
    simp at hb
    rw [phiPush_old (by omega)]; exact R.dom b (by omega)
  · exact fun k hk _ => g.block k hk (by simp)
  · intro b hb _
    rcases Nat.lt_or_ge b h.length with q | q
    · rw [List.getElem?_append_left q]
    · rw [List.getElem?_eq_none (by simp; omega), List.getElem?_eq_none (by omega)]
  · intro k hk; simp at hk; subst hk; exact .inr hj
  · intro k hk; simp at hk; subst hk; exact (Array.getElem?_eq_some_iff.1 hc).1
  · unfold BlkRel
    rw [if_pos rfl]
    exact ⟨some j, phiPush_new, hn, hlim, c, ty, [], hc, hcap, hle, hx.mono fun x v f hf d => d.mono he fun k hk => by simpa using hf k hk, rfl⟩

/-- A block that is nil. -/
theorem RelF.allocNil (R : RelF S w0 φ h w F) (n : Nat) : Rel S w0 (phiPush φ h.length (none, n)) (h ++ [⟨[], n, 0, true⟩]) w := by
  have he : Ext φ (phiPush φ h.length (none, n)) := phiPush_ext (R.dom _ (Nat.le_refl _))
  refine ⟨_, R.step (w' := w) (bo := h.length) (b0 := h.length) (B0 := ⟨[], n, 0, true⟩) (fp0 := []) he rfl R.kept (Nat.le_refl _) (by simp) (by simp) ?_ (fun _ _ _ => rfl) (.inl rfl) (by simp)
    (fun q => absurd rfl q) ?_ (by simp) (by simp) (by simp) ?_⟩
  · intro b hb
    simp at hb
    rw [phiPush_old (by omega)]; exact R.dom b (by omega)
  · intro b hb _
    rcases Nat.lt_or_ge b h.length with q | q
    · rw [List.getElem?_append_left q]
    · rw [List.getElem?_eq_none (by simp; omega), List.getElem?_eq_none (by omega)]
  · unfold BlkRel
    rw [if_pos rfl]
    exact ⟨none, phiPush_new, by simp, by simp, rfl, rfl, rfl⟩

theorem RelF.place (R : RelF S w0 φ h w F) {b : Nat} {B : Blk} (hb : h[b]? = some B) (hl : B.live = true) : ∃ p, φ.m b = some (p, B.n) ∧ (∀ el ∈ B.els, el.length = B.n) ∧ B.els.length ≤ LIM ∧ match p with
    | none => B.els = [] ∧ B.cap = 0 ∧ F b = []
    | some k => ∃ c ty fq, w.heap[k]? = some (.cells c ty (0, 0)) ∧ c.size = B.cap * B.n ∧ B.els.length ≤ B.cap ∧ Lss (Dc φ w) B.n B.els c.toList fq ∧ F b = k :: fq := by
  have := R.blk b B hb
  unfold BlkRel at this
  rw [if_pos hl] at this; exact this

/-- A block of one's own is written, in its place. -/
theorem RelF.write (R : RelF S w0 φ h w F) {b k : Nat} {B B' : Blk} {c' : Array Value} {ty : TypeId} {fq fq' : Fp} (hb : h[b]? = some B) (hl : B.live = true) (hk : φ.m b = some (some k, B.n))
    (hF : F b = k :: fq) (g : w.grownBy w' (some k)) (hl' : B'.live = true) (hn' : B'.n = B.n) (hc : w'.heap[k]? = some (.cells c' ty (0, 0))) (hcap : c'.size = B'.cap * B'.n) (hle : B'.els.length ≤ B'.cap) (hlim : B'.els.length ≤ LIM)
    (hn : ∀ el ∈ B'.els, el.length = B'.n) (hsub : fq'.Sublist fq) (hx : Lss (Dc φ w) B'.n B'.els c'.toList fq') : Rel S w0 φ (h.set b B') w' := by
  have hblt : b < h.length := (List.getElem?_eq_some_iff.1 hb).1
  have hnd := R.nodup b
  rw [hF] at hnd
  have hknot : k ∉ fq := (List.nodup_cons.1 hnd).1
  have hm : Mine S w0 k := (R.mine b k (by rw [hF]; simp)).1
  refine ⟨_, R.step (bo := b) (b0 := b) (B0 := B') (fp0 := k :: fq') (Ext.refl φ) rfl (R.kept.grown g fun j e => by cases e; exact hm) g.size (by simpa using hblt) (by simp) ?_ ?_ (.inl rfl) (by simp [hblt])
    (fun q => absurd rfl q) ?_ ?_ ?_ ?_ ?_⟩
  · intro j hj; exact R.dom j (by simpa using hj)
  · intro j hj hne
    exact g.block j hj (fun e => hne (by cases e; rw [hF]; simp))
  · intro j hj _
    rw [List.getElem?_set_ne (Ne.symm hj)]
  · intro j hj
    refine .inl ?_
    rw [hF]
    rcases List.mem_cons.1 hj with rfl | hj
    · simp
    · exact List.mem_cons_of_mem _ (hsub.subset hj)
  · intro j hj
    have : j ∈ F b := by
      rw [hF]
      rcases List.mem_cons.1 hj with rfl | hj
      · simp
      · exact List.mem_cons_of_mem _ (hsub.subset hj)
    exact Nat.lt_of_lt_of_le (R.mine b j this).2 g.size
  · exact List.nodup_cons.2 ⟨fun q => hknot (hsub.subset q), (List.nodup_cons.1 hnd).2.sublist hsub⟩
  · unfold BlkRel
    rw [if_pos hl']
    refine ⟨some k, by rw [hn']; exact hk, hn, hlim, c', ty, fq', hc, hcap, hle, hx.mono fun x v f hf d => d.mono (Ext.refl φ) fun j hj => ?_, rfl⟩
    have hj' : j ∈ fq := hsub.subset (hf j hj)
    have : j ∈ F b := by rw [hF]; exact List.mem_cons_of_mem _ hj'
    exact g.block j (R.mine b j this).2 (fun e => hknot (by cases e; exact hj'))

/-- A block is given up, and a new one stands for what it held. -/
theorem RelF.move (R : RelF S w0 φ h w F) {b k : Nat} {B B' : Blk} {c' : Array Value} {ty : TypeId} {fq' : Fp} (hb : h[b]? = some B)
    (hsame : ∀ j, j < w.heap.size → j ∉ F b → w'.heap[j]? = w.heap[j]?) (hkept : Kept S w0 w') (hsz : w.heap.size ≤ w'.heap.size)
    (hl' : B'.live = true) (hc : w'.heap[k]? = some (.cells c' ty (0, 0))) (hcap : c'.size = B'.cap * B'.n) (hle : B'.els.length ≤ B'.cap) (hlim : B'.els.length ≤ LIM)
    (hn : ∀ el ∈ B'.els, el.length = B'.n) (hk : k ∈ F b ∨ w.heap.size ≤ k) (hsub : ∀ j ∈ fq', j ∈ F b) (hnd : (k :: fq').Nodup) (hx : Lss (Dc φ w') B'.n B'.els c'.toList fq') :
    Rel S w0 (phiPush φ h.length (some k, B'.n)) (h.set b Blk.dead ++ [B']) w' := by
  have hblt : b < h.length := (List.getElem?_eq_some_iff.1 hb).1
  have he : Ext φ (phiPush φ h.length (some k, B'.n)) := phiPush_ext (R.dom _ (Nat.le_refl _))
  refine ⟨_, R.step (bo := b) (b0 := h.length) (B0 := B') (fp0 := k :: fq') he rfl hkept hsz (by simp) (by simp) ?_ hsame (.inr (Nat.le_refl _)) (by simp) ?_ ?_ ?_ ?_ hnd ?_⟩
  · intro j hj
    simp at hj
    rw [phiPush_old (by omega)]; exact R.dom j (by omega)
  · intro _ C hC
    rw [List.getElem?_append_left (by simpa using hblt)] at hC
    simp [hblt] at hC; subst hC; rfl
  · intro j h1 h2
    rcases Nat.lt_or_ge j h.length with q | q
    · rw [List.getElem?_append_left (by simpa using q), List.getElem?_set_ne (Ne.symm h2)]
    · rw [List.getElem?_eq_none (by simp; omega), List.getElem?_eq_none (by omega)]
  · intro j hj
    rcases List.mem_cons.1 hj with rfl | hj
    · exact hk
    · exact .inl (hsub j hj)
  · intro j hj
    rcases List.mem_cons.1 hj with rfl | hj
    · exact (Array.getElem?_eq_some_iff.1 hc).1
    · exact Nat.lt_of_lt_of_le (R.mine b j (hsub j hj)).2 hsz
  · unfold BlkRel
    rw [if_pos hl']
    exact ⟨some k, phiPush_new, hn, hlim, c', ty, fq', hc, hcap, hle, hx.mono fun x v f hf d => d.mono he fun _ _ => rfl, rfl⟩

end
end Go.W
