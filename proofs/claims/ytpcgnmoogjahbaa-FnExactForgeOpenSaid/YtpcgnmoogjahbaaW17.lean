/- A layer for walking through code on abstract values, told apart by who owns the memory: its definitions and their soundness; no condition. -/
import Derived.Test.YtpcgnmoogjahbaaW16
set_option linter.unusedVariables false
set_option linter.unusedSimpArgs false
namespace Go.W
open Go Go.RowKit

/-! ### 2. What is owned comes to stay -/
mutual
/-- A tree of cells as memory that stays. -/
def fz : V → V
  | .l n els => .f n (fzss els)
  | .lp cs => .pd (fzs cs)
  | .s v => .s v
  | .f n els => .f n els
  | .z => .z
  | .sl b o l c => .sl b o l c
  | .ptr b i o => .ptr b i o
  | .pd cs => .pd cs
  | .fn f c => .fn f c
  | .agg c => .agg c
  | .tup c => .tup c
  | .any => .any
def fzs : List V → List V
  | [] => []
  | x :: xs => fz x :: fzs xs
def fzss : List (List V) → List (List V)
  | [] => []
  | x :: xs => fzs x :: fzss xs
end
theorem fzs_map : ∀ xs, fzs xs = xs.map fz
  | [] => rfl
  | x :: xs => by simp only [fzs, List.map_cons, fzs_map xs]
theorem fzss_map : ∀ xs, fzss xs = xs.map fun el => el.map fz
  | [] => rfl
  | x :: xs => by simp only [fzss, List.map_cons, fzs_map, fzss_map xs]

theorem fzs_len : ∀ xs, (fzs xs).length = xs.length := fun xs => by rw [fzs_map]; simp
theorem fzss_len : ∀ xs, (fzss xs).length = xs.length := fun xs => by rw [fzss_map]; simp

section
variable {z z' : Zm} {w : World}
mutual
theorem T.rz (h : FLe z z') : ∀ (x : V) (v : Value) (fp : Fp), (∀ k ∈ fp, ∀ o u, w.cell? ⟨k, o, none⟩ = some u → z' k o = some u) → T z w x v fp → RZ z' (fz x) v
  | .l n els, v, fp, hw, r => by
    simp only [T] at r
    simp only [fz, RZ, fzss_len]
    rcases r with ⟨rfl, q, rfl⟩ | ⟨k, c, ty, cap, fq, rfl, h2, h3, h4, h5, rfl, h7⟩
    · exact .inl ⟨by simp [fzss], q⟩
    · refine .inr ⟨k, 0, cap, rfl, h4, h5, Tss.rz h n els c.toList fq k 0 (fun j hj => hw j (by simp [hj])) (fun i u hu => hw k (by simp) _ _ ?_) h7⟩
      simp only [World.cell?, h2, Nat.zero_add]; simpa using hu
  | .lp cs, v, fp, hw, r => by
    simp only [T] at r
    simp only [fz, RZ]
    obtain ⟨k, c, ty, fq, rfl, h2, h3, rfl, h5⟩ := r
    refine ⟨k, 0, rfl, Ts.rz h cs c.toList fq k 0 (fun j hj => hw j (by simp [hj])) (fun i u hu => hw k (by simp) _ _ ?_) h5⟩
    simp only [World.cell?, h2, Nat.zero_add]; simpa using hu
  | .s a, v, fp, hw, r => by simp only [T, fz] at *; exact RZ.mono h _ _ r.1
  | .any, v, fp, hw, r => by simp only [fz, RZ]
  | .z, v, fp, hw, r => by simp only [T, fz] at *; exact RZ.mono h _ _ r.1
  | .f n els, v, fp, hw, r => by simp only [T, fz] at *; exact RZ.mono h _ _ r.1
  | .pd cs, v, fp, hw, r => by simp only [T, fz] at *; exact RZ.mono h _ _ r.1
  | .fn f caps, v, fp, hw, r => by simp only [T, fz] at *; exact RZ.mono h _ _ r.1
  | .sl _ _ _ _, v, fp, hw, r => by simp [T] at r
  | .ptr _ _ _, v, fp, hw, r => by simp [T] at r
  | .agg _, v, fp, hw, r => by simp [T] at r
  | .tup _, v, fp, hw, r => by simp [T] at r
theorem Ts.rz (h : FLe z z') : ∀ (xs : List V) (vs : List Value) (fp : Fp) (k off : Nat), (∀ k ∈ fp, ∀ o u, w.cell? ⟨k, o, none⟩ = some u → z' k o = some u) → (∀ (i : Nat) u, vs[i]? = some u → z' k (off + i) = some u) →
    Ts z w xs vs fp → RZs z' k off (fzs xs)
  | [], vs, fp, k, off, hw, hv, r => by simp only [fzs, RZs]
  | x :: xs, vs, fp, k, off, hw, hv, r => by
    simp only [Ts] at r
    obtain ⟨v, t, f1, f2, rfl, rfl, h3, h4⟩ := r
    simp only [fzs, RZs]
    exact ⟨⟨v, by simpa using hv 0 v rfl, T.rz h x v f1 (fun j hj => hw j (by simp [hj])) h3⟩,
      Ts.rz h xs t f2 k (off + 1) (fun j hj => hw j (by simp [hj])) (fun i u hu => by have := hv (i + 1) u (by simpa using hu); rw [← this]; congr 1; omega) h4⟩
theorem Tss.rz (h : FLe z z') (n : Nat) : ∀ (els : List (List V)) (vs : List Value) (fp : Fp) (k off : Nat), (∀ k ∈ fp, ∀ o u, w.cell? ⟨k, o, none⟩ = some u → z' k o = some u) → (∀ (i : Nat) u, vs[i]? = some u → z' k (off + i) = some u) →
    Tss z w n els vs fp → RZss z' k n off (fzss els)
  | [], vs, fp, k, off, hw, hv, r => by simp only [fzss, RZss]
  | el :: els, vs, fp, k, off, hw, hv, r => by
    simp only [Tss] at r
    obtain ⟨h0, f1, f2, rfl, h3, h4⟩ := r
    simp only [fzss, RZss]
    exact ⟨by rw [fzs_len]; exact h0, Ts.rz h el vs f1 k off (fun j hj => hw j (by simp [hj])) hv h3,
      Tss.rz h n els (vs.drop n) f2 k (off + n) (fun j hj => hw j (by simp [hj])) (fun i u hu => by rw [List.getElem?_drop] at hu; have := hv (n + i) u hu; rw [← this]; congr 1; omega) h4⟩
end
end

/-- A value as memory that stays: what it refers to is read. -/
def frz (n0 : Nat) : Nat → H → V → V
  | _, _, .s v => .s v
  | _, _, .f n els => .f n els
  | _, _, .z => .z
  | _, _, .pd cs => .pd cs
  | _, _, .l n els => .f n (fzss els)
  | _, _, .lp cs => .pd (fzs cs)
  | k + 1, h, .sl b off len _ => if b < n0 then .any else match strideB (h[b]?), elsOf off len (h[b]?) with
    | some n, some els => .f n (els.map fun el => el.map (frz n0 k h))
    | _, _ => .any
  | k + 1, h, .ptr b i o => if b < n0 then .any else match rdB (h[b]?) i with
    | some el => .pd ((el.drop o).map (frz n0 k h))
    | none => .any
  | k + 1, h, .fn f caps => .fn f (caps.map (frz n0 k h))
  | k + 1, h, .agg cs => .agg (cs.map (frz n0 k h))
  | k + 1, h, .tup vs => .tup (vs.map (frz n0 k h))
  | _, _, _ => .any

section
variable {S : Nat → Prop} {w0 w : World} {φ : Phi} {h : H} {F : Nat → Fp}

/-- All memory of one's own, added to what stays. -/
structure AllZ (n0 : Nat) (F : Nat → Fp) (w : World) (z z' : Zm) : Prop where
  le : FLe z z'
  own : ∀ b k, n0 ≤ b → k ∈ F b → ∀ o u, w.cell? ⟨k, o, none⟩ = some u → z' k o = some u

theorem frz_cell {n0 : Nat} (R : RelF S w0 φ h w F) {z' : Zm} (hz : AllZ n0 F w φ.z z') : ∀ (d : Nat) (x : V) (v : Value), RelC φ x v → RZ z' (frz n0 d h x) v := by
  intro d
  induction d with
  | zero =>
    intro x v r
    cases x <;> simp only [frz] <;> first
      | exact RZ.mono hz.le _ _ r
      | (simp [RelC, RelP, RZ] at r; done)
      | simp only [RZ]
  | succ d ih =>
    intro x v r
    have cell : ∀ {x : V} {v : Value} {b : Nat} {f : Fp}, n0 ≤ b → Dc φ w x v f → (∀ k ∈ f, k ∈ F b) → RZ z' (frz n0 d h x) v := by
      intro x v b f hb0 hd hf
      rcases hd with ⟨hd, -⟩ | hd
      · exact ih x v hd
      · cases x with
        | l n els => have := T.rz hz.le (.l n els) v f (fun k hk => hz.own b k hb0 (hf k hk)) hd; cases d <;> simpa only [frz, fz] using this
        | lp cs => have := T.rz hz.le (.lp cs) v f (fun k hk => hz.own b k hb0 (hf k hk)) hd; cases d <;> simpa only [frz, fz] using this
        | any => cases d <;> simp only [frz, RZ]
        | sl => simp [T] at hd
        | ptr => simp [T] at hd
        | agg => simp [T] at hd
        | tup => simp [T] at hd
        | _ => simp only [T] at hd; exact ih _ v (relC_of_rz hd.1)
    cases x with
    | s a => simp only [frz]; exact RZ.mono hz.le _ _ r
    | f n els => simp only [frz]; exact RZ.mono hz.le _ _ r
    | z => simp only [frz]; exact RZ.mono hz.le _ _ r
    | pd cs => simp only [frz]; exact RZ.mono hz.le _ _ r
    | l n els => simp [RelC, RelP, RZ] at r
    | lp cs => simp [RelC, RelP, RZ] at r
    | agg cs => simp [RelC, RelP, RZ] at r
    | tup cs => simp [RelC, RelP, RZ] at r
    | any => simp only [frz, RZ]
    | fn f caps =>
      obtain ⟨l, rfl, r⟩ := r
      simp only [frz, RZ]
      refine ⟨l, rfl, rz_of_l (all2_map.2 (r.mono fun x v q => ih x v ?_))⟩
      cases x with
      | fn f c => exact relC_of_rz q
      | _ => exact q
    | ptr b i o =>
      simp only [frz]
      split
      · simp only [RZ]
      rename_i hb0
      have hb0 : n0 ≤ b := by omega
      split
      · rename_i el he
        obtain ⟨k, n, hp, rfl⟩ := r
        obtain ⟨B, c, ty, fq, f, hb, hl, hel, rfl, hc, hlen, hF, hlss, hls0⟩ := R.elem hp he
        obtain ⟨_, f', hls, hf'⟩ := hlss.nth hel
        have key : ∀ {xs : List V} {vs : List Value} {f : Fp} {off : Nat}, Ls (Dc φ w) xs vs f → (∀ k ∈ f, k ∈ F b) → (∀ (j : Nat) u, vs[j]? = some u → z' k (off + j) = some u) → RZs z' k off (xs.map (frz n0 d h)) := by
          intro xs
          induction xs with
          | nil => intro vs f off _ _ _; simp only [List.map_nil, RZs]
          | cons x xs ihx =>
            intro vs f off hls hf hv
            simp only [Ls] at hls
            obtain ⟨v, t, f1, f2, rfl, rfl, h3, h4⟩ := hls
            simp only [List.map_cons, RZs]
            exact ⟨⟨v, by simpa using hv 0 v rfl, cell hb0 h3 fun k hk => hf k (by simp [hk])⟩, ihx h4 (fun k hk => hf k (by simp [hk])) fun j u hu => by
              have := hv (j + 1) u (by simpa using hu); rw [← this]; congr 1; omega⟩
        have hall : RZs z' k (i * B.n) (el.map (frz n0 d h)) := key hls (fun k hk => by rw [hF]; exact List.mem_cons_of_mem _ (hf' k hk)) (fun j u hu => by
          rw [List.getElem?_drop] at hu
          refine hz.own b k hb0 (by rw [hF]; simp) _ _ ?_
          simp only [World.cell?, hc]; rw [← Array.getElem?_toList]; exact hu)
        simp only [RZ]
        refine ⟨k, i * B.n + o, rfl, ?_⟩
        have := hall.drop o
        rwa [List.map_drop]
      · simp only [RZ]
    | sl b off len cap =>
      simp only [frz]
      split
      · simp only [RZ]
      rename_i hb0
      have hb0 : n0 ≤ b := by omega
      split
      · rename_i n els hst hels
        obtain ⟨p, n', hp, hcl, hv⟩ := r
        unfold elsOf at hels
        split at hels
        · rename_i bels bn bcap hb
          rw [hb] at hst
          simp only [strideB, Option.some.injEq] at hst
          subst hst
          split at hels
          · rename_i hle
            obtain rfl := Option.some.inj hels
            obtain ⟨pp, g1, g2, g3, g4⟩ := R.place hb rfl
            simp only at g2 g3
            rw [hp] at g1; obtain ⟨rfl, rfl⟩ := Prod.mk.inj (Option.some.inj g1)
            have hlen : ((bels.drop off).take len).length = len := by simp; omega
            cases p with
            | none =>
              obtain ⟨⟨q, rfl⟩, rfl, rfl, rfl⟩ := hv
              simp only [RZ]
              exact .inl ⟨by simp, q, rfl⟩
            | some k =>
              simp only at hv
              subst hv
              obtain ⟨c, ty, fq, y1, y2, y3, y4, y5⟩ := g4
              simp only at y2 y3 y4
              simp only [RZ, List.length_map, hlen]
              have key : ∀ {els : List (List V)} {vs : List Value} {f : Fp} {off : Nat}, Lss (Dc φ w) n' els vs f → (∀ k ∈ f, k ∈ F b) → (∀ (j : Nat) u, vs[j]? = some u → z' k (off + j) = some u) →
                  RZss z' k n' off (els.map fun el => el.map (frz n0 d h)) := by
                intro els
                induction els with
                | nil => intro vs f off _ _ _; simp only [List.map_nil, RZss]
                | cons el els ihe =>
                  intro vs f off hl hf hv
                  simp only [Lss] at hl
                  obtain ⟨h0, f1, f2, rfl, h3, h4⟩ := hl
                  simp only [List.map_cons, RZss]
                  refine ⟨by simpa using h0, ?_, ihe h4 (fun k hk => hf k (by simp [hk])) fun j u hu => by
                    rw [List.getElem?_drop] at hu; have := hv (n' + j) u hu; rw [← this]; congr 1; omega⟩
                  have one : ∀ {xs : List V} {vs : List Value} {f : Fp} {off : Nat}, Ls (Dc φ w) xs vs f → (∀ k ∈ f, k ∈ F b) → (∀ (j : Nat) u, vs[j]? = some u → z' k (off + j) = some u) → RZs z' k off (xs.map (frz n0 d h)) := by
                    intro xs
                    induction xs with
                    | nil => intro vs f off _ _ _; simp only [List.map_nil, RZs]
                    | cons x xs ihx =>
                      intro vs f off hls hf hv
                      simp only [Ls] at hls
                      obtain ⟨v, t, f1, f2, rfl, rfl, h3, h4⟩ := hls
                      simp only [List.map_cons, RZs]
                      exact ⟨⟨v, by simpa using hv 0 v rfl, cell hb0 h3 fun k hk => hf k (by simp [hk])⟩, ihx h4 (fun k hk => hf k (by simp [hk])) fun j u hu => by
                        have := hv (j + 1) u (by simpa using hu); rw [← this]; congr 1; omega⟩
                  exact one h3 (fun k hk => hf k (by simp [hk])) hv
              have hall : RZss z' k n' 0 (bels.map fun el => el.map (frz n0 d h)) := key y4 (fun k hk => by rw [y5]; exact List.mem_cons_of_mem _ hk) (fun j u hu => by
                refine hz.own b k hb0 (by rw [y5]; simp) _ _ ?_
                simp only [World.cell?, y1, Nat.zero_add]; rw [← Array.getElem?_toList]; exact hu)
              -- what the slice may hold at all
              refine .inr ⟨k, off * n', cap, rfl, hcl, by omega, ?_⟩
              have := (hall.drop off).take len
              rw [Nat.zero_add, ← List.map_drop, ← List.map_take] at this
              exact this
          · cases hels
        · cases hels
      · simp only [RZ]

theorem frz_q {n0 : Nat} (R : RelF S w0 φ h w F) {φ' : Phi} (hz : AllZ n0 F w φ.z φ'.z) (d : Nat) {x : V} {v : Value} (r : RelQ φ x v) : RelV φ' (frz n0 d h x) v ∧ RelQ φ' (frz n0 d h x) v := by
  by_cases hx : ∃ cs, x = .agg cs
  · obtain ⟨cs, rfl⟩ := hx
    obtain ⟨l, rfl, r⟩ := r
    cases d with
    | zero => simp only [frz]; exact ⟨relV_any, by simp [RelQ, RelC, RelP, RZ]⟩
    | succ d =>
      have : All2 (RelC φ') (cs.map (frz n0 d h)) l.toList := all2_map.2 (r.mono fun x v q => relC_of_rz (frz_cell R hz d x v q))
      simp only [frz]
      exact ⟨⟨l, rfl, this⟩, ⟨l, rfl, this⟩⟩
  · have r' : RelC φ x v := by cases x <;> first | exact r | exact absurd ⟨_, rfl⟩ hx
    have := frz_cell R hz d x v r'
    have hc := relC_of_rz this
    refine ⟨relV_of_rz this, ?_⟩
    generalize frz n0 d h x = y at hc
    cases y with
    | agg c => simp [RelC, RelP, RZ] at hc
    | _ => exact hc

theorem frz_v {n0 : Nat} (R : RelF S w0 φ h w F) {φ' : Phi} (hz : AllZ n0 F w φ.z φ'.z) (d : Nat) {x : V} {v : Value} (r : RelV φ x v) : RelV φ' (frz n0 d h x) v := by
  by_cases hx : ∃ cs, x = .tup cs
  · obtain ⟨cs, rfl⟩ := hx
    obtain ⟨l, rfl, r⟩ := r
    cases d with
    | zero => simp only [frz]; exact relV_any
    | succ d =>
      simp only [frz]
      exact ⟨l, rfl, all2_map.2 (r.mono fun x v q => (frz_q R hz d q).2)⟩
  · have r' : RelQ φ x v := by cases x <;> first | exact r | exact absurd ⟨_, rfl⟩ hx
    exact (frz_q R hz d r').1

/-- All blocks from n0 on are given up, and what refers to them is memory that stays. -/
def killFrom (n0 : Nat) (h : H) : H := h.take n0 ++ (h.drop n0).map fun _ => Blk.dead
theorem Arr.frz {n0 : Nat} (d : Nat) : Arr n0 h (killFrom n0 h) fun x x' => x' = x ∨ x' = frz n0 d h x := by
  intro S w0 φ w ⟨F, R⟩ hn
  have hlen : (killFrom n0 h).length = h.length := by simp [killFrom]; omega
  have dec : ∀ k : Nat, Decidable (∃ b, n0 ≤ b ∧ k ∈ F b) := fun k => Classical.propDecidable _
  obtain ⟨z', hz1, hz2⟩ : ∃ z' : Zm, (∀ k, (∃ b, n0 ≤ b ∧ k ∈ F b) → ∀ o, z' k o = w.cell? ⟨k, o, none⟩) ∧ (∀ k, ¬ (∃ b, n0 ≤ b ∧ k ∈ F b) → ∀ o, z' k o = φ.z k o) :=
    ⟨fun k o => @ite _ _ (dec k) (w.cell? ⟨k, o, none⟩) (φ.z k o), fun k q o => by simp [q], fun k q o => by simp [q]⟩
  have hle : FLe φ.z z' := fun k o v e => by
    by_cases q : ∃ b, n0 ≤ b ∧ k ∈ F b
    · obtain ⟨b, _, hk⟩ := q; rw [R.znot b k o hk] at e; cases e
    · rw [hz2 k q]; exact e
  have hall : AllZ n0 F w φ.z z' := ⟨hle, fun b k hb hk o u hu => by rw [hz1 k ⟨b, hb, hk⟩]; exact hu⟩
  have hext : Ext φ ⟨φ.m, z'⟩ := ⟨fun _ _ h => h, hle⟩
  refine ⟨⟨φ.m, z'⟩, ⟨fun b => if b < n0 then F b else [], R.kept, fun b hb => R.dom b (by omega), fun k o v e => ?_, fun b k o hk => ?_, fun b k hk => ?_, fun b => ?_, fun b b' k hk hk' => ?_, fun b hb => ?_, fun b B hb => ?_⟩,
    ⟨fun _ _ => rfl, hle, fun k o v e => ?_⟩, by omega, fun x x' v hm r => ?_⟩
  · by_cases q : ∃ b, n0 ≤ b ∧ k ∈ F b
    · rw [← hz1 k q]; exact e
    · have e : z' k o = some v := e
      rw [hz2 k q] at e; exact R.zok k o v e
  · have hk : k ∈ (if b < n0 then F b else []) := hk
    split at hk
    · rename_i hb
      show z' k o = none
      rw [hz2 k fun ⟨b', h1, h2⟩ => by have := R.disj b b' k hk h2; omega]
      exact R.znot b k o hk
    · simp at hk
  · have hk : k ∈ (if b < n0 then F b else []) := hk
    split at hk
    · exact R.mine b k hk
    · simp at hk
  · show (if b < n0 then F b else []).Nodup
    split
    · exact R.nodup b
    · exact List.nodup_nil
  · have hk : k ∈ (if b < n0 then F b else []) := hk
    have hk' : k ∈ (if b' < n0 then F b' else []) := hk'
    split at hk
    · split at hk'
      · exact R.disj b b' k hk hk'
      · simp at hk'
    · simp at hk
  · show (if b < n0 then F b else []) = []
    split
    · omega
    · rfl
  · show BlkRel _ w b B (if b < n0 then F b else [])
    by_cases q : b < n0
    · rw [if_pos q]
      have : h[b]? = some B := by
        unfold killFrom at hb
        rw [List.getElem?_append_left (by simp; omega), List.getElem?_take, if_pos q] at hb; exact hb
      exact (R.blk b B this).keep hext fun _ _ => rfl
    · rw [if_neg q]
      unfold killFrom at hb
      rw [List.getElem?_append_right (by simp; omega)] at hb
      obtain ⟨_, _, rfl⟩ := List.mem_map.1 (List.mem_of_getElem? hb)
      unfold BlkRel; rw [if_neg (by simp [Blk.dead])]
  · by_cases q : ∃ b, n0 ≤ b ∧ k ∈ F b
    · obtain ⟨b, _, hk⟩ := q; exact .inr (R.mine b k hk).1
    · have e : z' k o = some v := e
      rw [hz2 k q] at e; exact .inl e
  · rcases hm with rfl | rfl
    · exact r.ext hext
    · exact frz_v R hall d r
end
end Go.W
