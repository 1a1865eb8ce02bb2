/- Contracts of inner functions of the program, and what they compute: parts of a proof. -/
import Derived.Test.YtcjdbmcklemkkaaDoorRU
import Derived.Test.YtcjdbmcklemkkaaDoorRX
namespace Go.Proofs.YtcjdbmcklemkkaaDoor
open Go Go.Proofs Go.Vc Go.RowKit
set_option maxRecDepth 100000
set_option linter.unusedSimpArgs false
set_option linter.unusedVariables false


def kt1 : List UInt8 := [99, 108, 97, 115, 115, 32, 118, 111, 119, 101, 108, 32, 97, 101, 105, 111, 117, 10, 10, 32, 32, 112, 97, 114, 116, 32, 116, 104, 101, 32, 50, 51, 52, 54, 32, 33, 108, 101, 116, 116, 101, 114, 32, 42, 32, 35, 32, 97, 32, 119, 111, 114, 100, 10, 115, 105, 103, 110, 32, 92, 48, 48, 48, 48, 50, 48, 32, 48]
def kt2 : List UInt8 := [35, 32, 97, 108, 108, 10, 115, 105, 103, 110, 32, 92, 48, 48, 48, 48, 54, 49, 32, 49, 10]
def kto : List UInt8 := [99, 108, 97, 115, 115, 32, 118, 111, 119, 101, 108, 32, 97, 101, 105, 111, 117, 10, 112, 97, 114, 116, 32, 116, 104, 101, 32, 50, 51, 52, 54, 32, 33, 108, 101, 116, 116, 101, 114, 32, 42, 10, 115, 105, 103, 110, 32, 92, 48, 48, 48, 48, 50, 48, 32, 48, 10]
def kl1 : List RuleV := [⟨1, [118, 111, 119, 101, 108], [97, 101, 105, 111, 117], [], [], []⟩, ⟨3, [], [116, 104, 101], [46], [33, 108, 101, 116, 116, 101, 114], []⟩, ⟨2, [], [32], [0], [], []⟩]
theorem known_r1 : readOf kt1 = (kl1, 0, 0) := by decide +kernel
theorem known_r2 : readOf kt2 = ([], 2, 5) := by decide +kernel
theorem known_w : writeOf kl1 = (kto, 0) := by decide +kernel
theorem rowAt_at {w : World} {a : Addr} {cs : List Value} (h : Vc.rowAt w a cs) {i : Nat} {v : Value} (hv : cs[i]? = some v) : Vc.rowAt w (a.add i) [v] := by
  intro j u hu
  cases j with
  | zero => simp only [List.getElem?_cons_zero, Option.some.injEq] at hu; subst hu; rw [Addr.add_add, Nat.add_zero]; exact h i v hv
  | succ j => simp at hu

theorem known_small : ∀ r ∈ kl1, Small r := by
  intro r hr
  simp only [kl1, List.mem_cons, List.not_mem_nil, or_false] at hr
  rcases hr with rfl | rfl | rfl <;> exact ⟨by decide, by decide, by decide, by decide⟩

theorem known_spec (w : World) : Calls Tryd.prog 6 #[] w fun x w' => x = .returned (.bool true) ∧ Kept w w' := by
  refine calls_of_at (e := ⟨Tryd.prog, 6, 73, Tryd.f6, [.tmp 0], none, []⟩) Tryd.func6 rfl (by simp) rfl ?_; refine vc_sound rfl Tryd.func6 400 (.code _) _ _ ?_
  simp only [purCs, ↓vss, ↓vsk, vsk, ↓vss2, vcs3, vcs4, vals, blds, vcs5, vcs6, pures, ints, tys0, tys1, tys2, tys3, tys4, tys5, ↓reduceIte, if_true, if_false, Nat.reduceLT, Nat.reduceLeDiff, Nat.reduceEqDiff, Nat.reduceAdd, Nat.reduceMul, Nat.reduceSub, conds, readsF, readsOk, zero_ne_one_, one_ne_zero_, true_and, and_true, and_self, false_and, and_false, eq_self, reduceCtorEq, Bool.true_and, Bool.and_true, Bool.false_and, Bool.and_false, Bool.false_eq_true, Bool.true_eq_false, forall_const, true_imp_, false_imp_, imp_self, implies_true, Bool.not_true, Bool.not_false, Bool.false_or, Bool.true_or, Bool.or_false, Bool.or_true, beq_true_, beq_false_, Nat.zero_add, Nat.add_zero, fr0_cons_zero, fr0_cons_succ, fr0_0, fr0_1, fr0_2, fr0_3, fr0_4, List.map_cons, List.map_nil, List.map_toArray, Option.map_some, Option.map_none, List.append_toArray, List.nil_append, List.cons_append, List.append_nil, List.all_cons, List.all_nil, List.set_cons_zero, List.set_cons_succ, Array.getD_lit, Array.size_lit, List.reverse_cons, List.reverse_nil, Op.operands, Call.operands, List.toList_toArray, Addr.add_lit, Option.some.injEq, exists_eq_left', Value.pointer.injEq, exists_eq_left, Int.toNat_natCast, Int.reduceToNat, Nat.mul_one, List.length_cons, List.length_nil, Nat.reducePow, str_toList, lit_str, str_size, str_byteAt, str_append, str_extract]
  have r1 := read_spec kt1 w
  rw [known_r1] at r1
  refine Calls.mono r1 ?_
  rintro _ w1 ⟨t1, rfl, h1, k1⟩
  refine kC.in_ (by kernel_rfl) ?_
  simp only [purCs, ↓vss, ↓vsk, vsk, ↓vss2, vcs3, vcs4, vals, blds, vcs5, vcs6, pures, ints, tys0, tys1, tys2, tys3, tys4, tys5, ↓reduceIte, if_true, if_false, Nat.reduceLT, Nat.reduceLeDiff, Nat.reduceEqDiff, Nat.reduceAdd, Nat.reduceMul, Nat.reduceSub, conds, readsF, readsOk, zero_ne_one_, one_ne_zero_, true_and, and_true, and_self, false_and, and_false, eq_self, reduceCtorEq, Bool.true_and, Bool.and_true, Bool.false_and, Bool.and_false, Bool.false_eq_true, Bool.true_eq_false, forall_const, true_imp_, false_imp_, imp_self, implies_true, Bool.not_true, Bool.not_false, Bool.false_or, Bool.true_or, Bool.or_false, Bool.or_true, beq_true_, beq_false_, Nat.zero_add, Nat.add_zero, fr0_cons_zero, fr0_cons_succ, fr0_0, fr0_1, fr0_2, fr0_3, fr0_4, List.map_cons, List.map_nil, List.map_toArray, Option.map_some, Option.map_none, List.append_toArray, List.nil_append, List.cons_append, List.append_nil, List.all_cons, List.all_nil, List.set_cons_zero, List.set_cons_succ, Array.getD_lit, Array.size_lit, List.reverse_cons, List.reverse_nil, Op.operands, Call.operands, List.toList_toArray, Addr.add_lit, Option.some.injEq, exists_eq_left', Value.pointer.injEq, exists_eq_left, Int.toNat_natCast, Int.reduceToNat, Nat.mul_one, List.length_cons, List.length_nil, Nat.reducePow, str_toList, lit_str, str_size, str_byteAt, str_append, str_extract]
  have r2 := read_spec kt2 w1
  rw [known_r2] at r2
  refine Calls.mono r2 ?_
  rintro _ w2 ⟨t2, rfl, h2, k2⟩
  refine kC.in_ (by kernel_rfl) ?_
  have hl1 := h1.len
  have hl1' : t1.len = 3 := hl1
  simp only [purCs, ↓vss, ↓vsk, vsk, ↓vss2, vcs3, vcs4, vals, blds, vcs5, vcs6, pures, ints, tys0, tys1, tys2, tys3, tys4, tys5, ↓reduceIte, if_true, if_false, Nat.reduceLT, Nat.reduceLeDiff, Nat.reduceEqDiff, Nat.reduceAdd, Nat.reduceMul, Nat.reduceSub, conds, readsF, readsOk, zero_ne_one_, one_ne_zero_, true_and, and_true, and_self, false_and, and_false, eq_self, reduceCtorEq, Bool.true_and, Bool.and_true, Bool.false_and, Bool.and_false, Bool.false_eq_true, Bool.true_eq_false, forall_const, true_imp_, false_imp_, imp_self, implies_true, Bool.not_true, Bool.not_false, Bool.false_or, Bool.true_or, Bool.or_false, Bool.or_true, beq_true_, beq_false_, Nat.zero_add, Nat.add_zero, fr0_cons_zero, fr0_cons_succ, fr0_0, fr0_1, fr0_2, fr0_3, fr0_4, List.map_cons, List.map_nil, List.map_toArray, Option.map_some, Option.map_none, List.append_toArray, List.nil_append, List.cons_append, List.append_nil, List.all_cons, List.all_nil, List.set_cons_zero, List.set_cons_succ, Array.getD_lit, Array.size_lit, List.reverse_cons, List.reverse_nil, Op.operands, Call.operands, List.toList_toArray, Addr.add_lit, Option.some.injEq, exists_eq_left', Value.pointer.injEq, exists_eq_left, Int.toNat_natCast, Int.reduceToNat, Nat.mul_one, List.length_cons, List.length_nil, Nat.reducePow, str_toList, lit_str, str_size, str_byteAt, str_append, str_extract, hl1', Int.cast_ofNat_Int, Int.reduceBNe, Int.reduceBEq, Int.reduceLT, Int.reduceLE, decide_true, decide_false, Int.reduceAdd, Int.reduceMul, Int.reduceSub, bne_self_eq_false, beq_self_eq_true]
  have i1 := h1.is
  refine (write_spec t1 kl1 w2 (i1.keep k2) known_small (by decide)).mono ?_
  rintro _ w3 ⟨rfl, k3⟩
  rw [known_w]
  refine kC.in_ (by kernel_rfl) ?_
  have k13 := k2.trans k3
  obtain ⟨a, ha, hb⟩ := i1.at_ (by rw [hl1']; decide)
  obtain ⟨cs1, hr1, ta1, ca1, rfl, ht1, _⟩ := (i1.keep k13).row 1 (by decide)
  obtain ⟨cs2, hr2, ta2, ca2, rfl, ht2, _⟩ := (i1.keep k13).row 2 (by decide)
  have hz : elRule.z = 6 := rfl
  rw [hz, ha, adr, Option.getD_some] at hr1 hr2
  have q1 := Loads.one (P := Tryd.prog) (t := 9) (by kernel_rfl) (by kernel_rfl) (rowAt_at hr1 (i := 4) rfl)
  have q2 := Loads.one (P := Tryd.prog) (t := 34) (by kernel_rfl) (by kernel_rfl) (rowAt_at hr1 (i := 2) rfl)
  have q3 := Loads.one (P := Tryd.prog) (t := 34) (by kernel_rfl) (by kernel_rfl) (rowAt_at hr2 (i := 2) rfl)
  have ht2' : Is (elInt .i32) w3 ta2 [32] := ht2
  have q4 : ∀ K, Loads Tryd.prog 21 (.pointer (some ((ta2.a.getD ⟨0, 0, none⟩).add 0))) w3 K = K (.int .i32 32) := fun K => Loads.one (P := Tryd.prog) (t := 21) (by kernel_rfl) (by kernel_rfl) (ht2'.int (i := 0) (by decide)).1 K
  have l1 : ta1.len = 3 := ht1.len
  have l2 : ta2.len = 1 := ht2.len
  have sm : ta2.a.isSome = true := ht2'.some_ (i := 0) (by decide)
  have e1 : (kto == [99, 108, 97, 115, 115, 32, 118, 111, 119, 101, 108, 32, 97, 101, 105, 111, 117, 10, 112, 97, 114, 116, 32, 116, 104, 101, 32, 50, 51, 52, 54, 32, 33, 108, 101, 116, 116, 101, 114, 32, 42, 10, 115, 105, 103, 110, 32, 92, 48, 48, 48, 48, 50, 48, 32, 48, 10]) = true := by decide +kernel
  have e2 : (([33, 108, 101, 116, 116, 101, 114] : List UInt8) == [33, 108, 101, 116, 116, 101, 114]) = true := by decide
  have q3' : (([32] : List Int)[0]'(by decide)) = 32 := rfl
  have ka2 : (kl1[1]'(by decide)).left = [33, 108, 101, 116, 116, 101, 114] := rfl
  rw [ka2] at q1
  simp only [Nat.reduceMul] at q1 q2 q3
  simp only [purCs, ↓vss, ↓vsk, vsk, ↓vss2, vcs3, vcs4, vals, blds, vcs5, vcs6, pures, ints, tys0, tys1, tys2, tys3, tys4, tys5, ↓reduceIte, if_true, if_false, Nat.reduceLT, Nat.reduceLeDiff, Nat.reduceEqDiff, Nat.reduceAdd, Nat.reduceMul, Nat.reduceSub, conds, readsF, readsOk, zero_ne_one_, one_ne_zero_, true_and, and_true, and_self, false_and, and_false, eq_self, reduceCtorEq, Bool.true_and, Bool.and_true, Bool.false_and, Bool.and_false, Bool.false_eq_true, Bool.true_eq_false, forall_const, true_imp_, false_imp_, imp_self, implies_true, Bool.not_true, Bool.not_false, Bool.false_or, Bool.true_or, Bool.or_false, Bool.or_true, beq_true_, beq_false_, Nat.zero_add, Nat.add_zero, fr0_cons_zero, fr0_cons_succ, fr0_0, fr0_1, fr0_2, fr0_3, fr0_4, List.map_cons, List.map_nil, List.map_toArray, Option.map_some, Option.map_none, List.append_toArray, List.nil_append, List.cons_append, List.append_nil, List.all_cons, List.all_nil, List.set_cons_zero, List.set_cons_succ, Array.getD_lit, Array.size_lit, List.reverse_cons, List.reverse_nil, Op.operands, Call.operands, List.toList_toArray, Addr.add_lit, Option.some.injEq, exists_eq_left', Value.pointer.injEq, exists_eq_left, Int.toNat_natCast, Int.reduceToNat, Nat.mul_one, List.length_cons, List.length_nil, Nat.reducePow, str_toList, lit_str, str_size, str_byteAt, str_append, str_extract, hl1', ha, Int.cast_ofNat_Int, Int.reduceBNe, Int.reduceBEq, Int.reduceLT, Int.reduceLE, decide_true, decide_false, Int.reduceAdd, Int.reduceMul, Int.reduceSub, bne_self_eq_false, beq_self_eq_true, q1, e1, e2, adr, Option.getD_some, Option.isSome_some, q2, q3, q4, l1, l2, sm]
  exact (k1.trans k2).trans k3
end Go.Proofs.YtcjdbmcklemkkaaDoor
