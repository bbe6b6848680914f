/- A layer for walking through code on abstract values and an abstract heap: its definitions and their soundness; no condition. -/
import Derived.Test.YtpcgnmoogjahbaaVY
set_option linter.unusedVariables false
set_option linter.unusedSimpArgs false
namespace Go.VL
open Go Go.RowKit

theorem bcase_eqI {a b : Int} {x y : Prop} (h1 : a = b → x) (h2 : a ≠ b → y) : bcase (a == b) x y := ⟨fun h => h1 (by simpa using h), fun h => h2 (by simpa using h)⟩
theorem bcase_neI {a b : Int} {x y : Prop} (h1 : a ≠ b → x) (h2 : a = b → y) : bcase (a != b) x y := ⟨fun h => h1 (by simpa using h), fun h => h2 (by simpa using h)⟩
theorem bcase_or {a b : Bool} {x y : Prop} (h : bcase a x (bcase b x y)) : bcase (a || b) x y := by cases a <;> cases b <;> simp_all [bcase]
theorem bcase_and {a b : Bool} {x y : Prop} (h : bcase a (bcase b x y) y) : bcase (a && b) x y := by cases a <;> cases b <;> simp_all [bcase]
theorem bcase_not {a : Bool} {x y : Prop} (h : bcase a y x) : bcase (!a) x y := by cases a <;> simp_all [bcase]

section
variable {P : Program} {N n m : Nat} {Q : QT} {k : List It} {τ : Tau} {h : H}

theorem AppThen.own (mm : Nat) {b len cap n by_ m : Nat} {x : V} {t e : TypeId} {z : List Value} {cells news : List V} {d : Option Nat} (helem : tElem P t = some e) (hn : tSz P e = some n) (hby : tBytes P e = some by_)
    (hz : tZero P e = some z) (hzl : z.length = n) (hn0 : 0 < n) (hb : b < h.n) (hst : h.get b = ⟨cells, cap * n, e, .own⟩) (hlen : cells.length = len * n) (hx : newsOf h n x = some (m, news)) (hok : news.all cellOk = true)
    (hbound : (len + m) * by_ ≤ 140737488355328 ∧ len + m ≤ 9223372036854775807)
    (hR : ∀ c, len + m ≤ c → Run P N mm Q k (upo d (.sl h.n 0 (len + m) c) τ) ((h.set b Blk.none).push ⟨cells ++ news, c * n, e, .own⟩)) : AppThen P N Q (.sl b 0 len cap) x t t d k τ h :=
  AppThen.of mm (R := fun v h' => Run P N mm Q k (upo d v τ) h') (AppV.own helem hn hby hz hzl hn0 hb hst hlen hx hok hbound hR) fun _ _ q => q
theorem ConvThen.bytes (mm : Nat) {src dst e : TypeId} {b off cap : Nat} {l : List UInt8} {d : Option Nat} (hs : tK P src = .slice e) (he : tK P e = .int .u8) (hd : tK P dst = .string) (hb : b < h.n)
    (hl : h.rdN b off l.length = some (l.map byteV)) (hR : Run P N mm Q k (upo d (.s (.string ⟨l.toArray⟩)) τ) h) : ConvThen P N Q src dst (.sl b off l.length cap) d k τ h :=
  ConvThen.of mm (R := fun v h' => Run P N mm Q k (upo d v τ) h') (ConvV.bytes hs he hd hb hl hR) fun _ _ q => q
theorem FConvK.bytes {h0 : H} {exc : List Nat} {src dst e : TypeId} {b off n cap : Nat} (l : List UInt8) {h : H} {K : V → H → Prop} (hn : l.length = n) (hs : tK P src = .slice e) (he : tK P e = .int .u8) (hd : tK P dst = .string) (hb : b < h0.n) (hx : b ∉ exc)
    (hl : h0.rdN b off n = some (l.map byteV)) (hR : K (.s (.string ⟨l.toArray⟩)) h) : FConvK P h0 exc src dst (.sl b off n cap) h K := by subst hn; exact FConvV.bytes hs he hd hb hx hl hR
/-- A call whose contract says what it answers and that the heap is as it was. -/
theorem CallThen.same {f : Nat} {args : List V} {d : Option Nat} (mm : Nat) {v : V} (hc : CallsV P f args h fun r h' => h' = h ∧ r = .ret v) (hr : Run P N mm Q k (upo d v τ) h) : CallThen P N Q f args d k τ h :=
  CallThen.of mm hc fun r h' q => by obtain ⟨rfl, rfl⟩ := q; exact hr
theorem DCall.same {h0 : H} {exc : List Nat} {ops : Array Oper} {fuel : Nat} {listed : Array Bool} {f : Nat} {args : List V} {d : Option Nat} {v : V} (mm : Nat) (td : TD) (hd : drawOk ops [] listed td = true)
    (hc : CallsV P f args h fun r h' => h' = h ∧ r = .ret v) (hst : Stay h0 exc h) (hn : h0.n ≤ h.n) (hr : RunD P N mm Q k h0 exc ops fuel listed td (upo d v τ) h) : DCall P N Q h0 exc ops fuel listed k f args d τ h :=
  DCall.of mm td hd hc fun r h' q => by obtain ⟨rfl, rfl⟩ := q; exact ⟨⟨hst, hn⟩, hr⟩
theorem Stay.wr (h : H) (b off : Nat) (xs : List V) : Stay h [b] (h.wr b off xs) := fun b' _ hx => by
  unfold H.wr; exact H.get_set_other _ _ _ _ (by simpa using hx)
theorem Stay.refl (h : H) (exc : List Nat) : Stay h exc h := fun _ _ _ => rfl
end
end Go.VL
