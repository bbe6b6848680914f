/- A layer for walking through code on abstract values, told apart by who owns the memory: its definitions and their soundness; no condition. -/
import Derived.Test.YtpcgnmoogjahbaaWB
set_option linter.all false
namespace Go.W
open Go Go.RowKit
theorem ite_t {α : Type} (a b : α) : (if True then a else b) = a := by simp
theorem ite_f {α : Type} (a b : α) : (if False then a else b) = b := by simp
theorem ite_bt {α : Type} (a b : α) : (if true = true then a else b) = a := by simp
theorem ite_bf {α : Type} (a b : α) : (if false = true then a else b) = b := by simp
theorem list_len_one {α : Type} (a : α) : [a].length = 1 := rfl
noncomputable def WB1 := And.intro (And.intro (And.intro wb1 wb2) (And.intro wb3 wb4)) (And.intro (And.intro (And.intro wb5 wb6) (And.intro wb7 wb8)) (And.intro wb9 (And.intro wb10 wb11)))
noncomputable def WB2 := And.intro (And.intro (And.intro (And.intro @List.cons_append.{0} @List.nil_append.{0}) (And.intro @List.append_nil.{0} @List.length_cons.{0})) (And.intro (And.intro @List.length_nil.{0} @List.getElem?_cons_zero.{0}) (And.intro @List.getElem?_cons_succ.{0} @List.set_cons_zero.{0})))
 (And.intro (And.intro (And.intro (And.intro @List.set_cons_succ.{0} @List.drop_zero.{0}) (And.intro @List.drop_succ_cons.{0} @List.take_succ_cons.{0})) (And.intro (And.intro @List.take_zero.{0} @List.take_nil.{0}) (And.intro @List.drop_nil.{0} @List.map_cons.{0,0})))
 (And.intro (And.intro (And.intro (And.intro @List.map_nil.{0,0} @List.all_cons.{0}) (And.intro @List.all_nil.{0} @List.replicate_zero.{0})) (And.intro (And.intro @List.replicate_succ.{0} @List.flatten_nil.{0}) (And.intro @List.flatten_cons.{0} @List.getElem?_nil.{0})))
 (And.intro (And.intro (And.intro (And.intro @Option.map_some.{0,0} @Option.map_none.{0,0}) (And.intro @Option.getD_some.{0} @Option.getD_none.{0})) (And.intro (And.intro @ite_t @ite_f) (And.intro @ite_bt @ite_bf)))
 (And.intro (And.intro (And.intro (And.intro Nat.zero_mul Nat.zero_add) (And.intro Nat.add_zero Nat.mul_one)) (And.intro (And.intro Int.toNat_zero Int.toNat_natCast) (And.intro @forall_const.{1} true_and)))
 (And.intro (And.intro (And.intro (And.intro and_true false_and) (And.intro and_false not_true_eq_false)) (And.intro (And.intro not_false_eq_true true_implies) (And.intro @implies_true.{1} Bool.not_true)))
 (And.intro (And.intro (And.intro (And.intro Bool.not_false Bool.and_self) (And.intro Bool.and_true Bool.true_and)) (And.intro (And.intro Bool.true_or Bool.or_true) (And.intro Bool.false_or Bool.or_false)))
 (And.intro (And.intro (And.intro Bool.false_and Bool.and_false) (And.intro @ne_eq.{1} @bcase_true)) (And.intro @List.toList_toArray.{0} (And.intro @List.size_toArray.{0} @bcase_false)))))))))
end Go.W
