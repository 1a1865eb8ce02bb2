/- Contracts of inner functions of the program, and what they compute: parts of a proof. -/
import Derived.Test.YtcjdbmcklemkkaaDoorRM
namespace Go.Proofs.YtcjdbmcklemkkaaDoor
open Go Go.Proofs Go.Vc Go.RowKit
set_option maxRecDepth 100000
set_option linter.unusedSimpArgs false
set_option linter.unusedVariables false


/-- What is asked of a rule that is told. -/
structure Fair (r : RuleV) : Prop where
  text : r.text.length ≤ 200
  runes : r.text.any (fun x => !isRuneB x) = false
  cells : r.cells.length ≤ 1000000
  name : r.name.length ≤ 1000000
  left : r.left.length ≤ 1000000
  right : r.right.length ≤ 1000000
theorem Fair.ok {r : RuleV} (h : Fair r) : ∀ x ∈ r.text, okRune x := fun x hx => by
  have := List.any_eq_false.1 h.runes x hx
  exact isRuneB_ok (by simpa using this)
theorem textDots_len' (l : List UInt8) : (textDots l).length ≤ 10 * l.length := by have := textDots_len l l.length (Nat.le_refl _); rwa [List.take_length] at this
theorem starOf_len (s : List UInt8) : (starOf s).length ≤ s.length + 1 := by unfold starOf; split <;> simp

def tellSpec (k : FuncId) (g : RuleV → List (List UInt8)) : Prop := ∀ (r : RuleV) (t c : Sl) (w : World), Fair r → Is (elInt .i32) w t r.text → Is elU8 w c r.cells →
    Calls Tryd.prog k #[.agg (ruleCells r t c).toArray] w fun x w' => ∃ s : Sl, x = .returned s.v ∧ New elStr w w' s (g r) ∧ Kept w w'

theorem tf1_spec : tellSpec 49 (fun r => [textDots r.cells]) := by
  intro r t c w hF ht hc
  refine calls_of_at (e := ⟨Tryd.prog, 49, 7, Tryd.f49, [.tmp 2], none, []⟩) Tryd.func49 rfl (by simp) rfl ?_; refine vc_sound rfl Tryd.func49 400 (.code _) _ _ ?_
  have k1 : Kept w (w.alloc (.cells (ruleCells r t c).toArray 36)) := (Kept.refl w).alloc _
  have ra := Row.new w 36 (ruleCells r t c)
  simp only [purCs, ↓vss, ↓vsk, vsk, ↓vss2, vcs3, vcs4, vals, blds, vcs5, vcs6, pures, ints, tys0, tys1, tys2, tys3, tys4, tys5, ↓reduceIte, if_true, if_false, Nat.reduceLT, Nat.reduceLeDiff, Nat.reduceEqDiff, Nat.reduceAdd, Nat.reduceMul, Nat.reduceSub, conds, readsF, readsOk, zero_ne_one_, one_ne_zero_, true_and, and_true, and_self, false_and, and_false, eq_self, reduceCtorEq, Bool.true_and, Bool.and_true, Bool.false_and, Bool.and_false, Bool.false_eq_true, Bool.true_eq_false, forall_const, true_imp_, false_imp_, imp_self, implies_true, Bool.not_true, Bool.not_false, Bool.false_or, Bool.true_or, Bool.or_false, Bool.or_true, beq_true_, beq_false_, Nat.zero_add, Nat.add_zero, fr0_cons_zero, fr0_cons_succ, fr0_0, fr0_1, fr0_2, fr0_3, fr0_4, List.map_cons, List.map_nil, List.map_toArray, Option.map_some, Option.map_none, List.append_toArray, List.nil_append, List.cons_append, List.append_nil, List.all_cons, List.all_nil, List.set_cons_zero, List.set_cons_succ, Array.getD_lit, Array.size_lit, List.reverse_cons, List.reverse_nil, Op.operands, Call.operands, List.toList_toArray, Addr.add_lit, Option.some.injEq, exists_eq_left', Value.pointer.injEq, exists_eq_left, Int.toNat_natCast, Int.reduceToNat, Nat.mul_one, List.length_cons, List.length_nil, Nat.reducePow]
  generalize w.alloc (.cells (ruleCells r t c).toArray 36) = w1 at *
  have a3 := ra.ld (P := Tryd.prog) (t := 31) 3 rfl (by kernel_rfl) (by kernel_rfl)
  simp only [purCs, ↓vss, ↓vsk, vsk, ↓vss2, vcs3, vcs4, vals, blds, vcs5, vcs6, pures, ints, tys0, tys1, tys2, tys3, tys4, tys5, ↓reduceIte, if_true, if_false, Nat.reduceLT, Nat.reduceLeDiff, Nat.reduceEqDiff, Nat.reduceAdd, Nat.reduceMul, Nat.reduceSub, conds, readsF, readsOk, zero_ne_one_, one_ne_zero_, true_and, and_true, and_self, false_and, and_false, eq_self, reduceCtorEq, Bool.true_and, Bool.and_true, Bool.false_and, Bool.and_false, Bool.false_eq_true, Bool.true_eq_false, forall_const, true_imp_, false_imp_, imp_self, implies_true, Bool.not_true, Bool.not_false, Bool.false_or, Bool.true_or, Bool.or_false, Bool.or_true, beq_true_, beq_false_, Nat.zero_add, Nat.add_zero, fr0_cons_zero, fr0_cons_succ, fr0_0, fr0_1, fr0_2, fr0_3, fr0_4, List.map_cons, List.map_nil, List.map_toArray, Option.map_some, Option.map_none, List.append_toArray, List.nil_append, List.cons_append, List.append_nil, List.all_cons, List.all_nil, List.set_cons_zero, List.set_cons_succ, Array.getD_lit, Array.size_lit, List.reverse_cons, List.reverse_nil, Op.operands, Call.operands, List.toList_toArray, Addr.add_lit, Option.some.injEq, exists_eq_left', Value.pointer.injEq, exists_eq_left, Int.toNat_natCast, Int.reduceToNat, Nat.mul_one, List.length_cons, List.length_nil, Nat.reducePow, a3]
  refine (text_spec c w1 r.cells (hc.keep k1) hF.cells).mono ?_
  rintro _ w2 ⟨rfl, hk2⟩
  refine kC.in_ (by kernel_rfl) ?_
  simp only [purCs, ↓vss, ↓vsk, vsk, ↓vss2, vcs3, vcs4, vals, blds, vcs5, vcs6, pures, ints, tys0, tys1, tys2, tys3, tys4, tys5, ↓reduceIte, if_true, if_false, Nat.reduceLT, Nat.reduceLeDiff, Nat.reduceEqDiff, Nat.reduceAdd, Nat.reduceMul, Nat.reduceSub, conds, readsF, readsOk, zero_ne_one_, one_ne_zero_, true_and, and_true, and_self, false_and, and_false, eq_self, reduceCtorEq, Bool.true_and, Bool.and_true, Bool.false_and, Bool.and_false, Bool.false_eq_true, Bool.true_eq_false, forall_const, true_imp_, false_imp_, imp_self, implies_true, Bool.not_true, Bool.not_false, Bool.false_or, Bool.true_or, Bool.or_false, Bool.or_true, beq_true_, beq_false_, Nat.zero_add, Nat.add_zero, fr0_cons_zero, fr0_cons_succ, fr0_0, fr0_1, fr0_2, fr0_3, fr0_4, List.map_cons, List.map_nil, List.map_toArray, Option.map_some, Option.map_none, List.append_toArray, List.nil_append, List.cons_append, List.append_nil, List.all_cons, List.all_nil, List.set_cons_zero, List.set_cons_succ, Array.getD_lit, Array.size_lit, List.reverse_cons, List.reverse_nil, Op.operands, Call.operands, List.toList_toArray, Addr.add_lit, Option.some.injEq, exists_eq_left', Value.pointer.injEq, exists_eq_left, Int.toNat_natCast, Int.reduceToNat, Nat.mul_one, List.length_cons, List.length_nil, Nat.reducePow]
  have hl := textDots_len' r.cells
  have hcl := hF.cells
  refine ⟨_, rfl, New.b1 (E := elStr) (k1.trans hk2).size _ ⟨rfl, by unfold Vc.big; omega⟩, (k1.trans hk2).alloc _⟩

theorem tf2_spec : tellSpec 53 (fun r => [r.name, toldL r.text]) := by
  intro r t c w hF ht hc
  refine calls_of_at (e := ⟨Tryd.prog, 53, 9, Tryd.f53, [.tmp 2], none, []⟩) Tryd.func53 rfl (by simp) rfl ?_; refine vc_sound rfl Tryd.func53 400 (.code _) _ _ ?_
  have k1 : Kept w (w.alloc (.cells (ruleCells r t c).toArray 36)) := (Kept.refl w).alloc _
  have ra := Row.new w 36 (ruleCells r t c)
  simp only [purCs, ↓vss, ↓vsk, vsk, ↓vss2, vcs3, vcs4, vals, blds, vcs5, vcs6, pures, ints, tys0, tys1, tys2, tys3, tys4, tys5, ↓reduceIte, if_true, if_false, Nat.reduceLT, Nat.reduceLeDiff, Nat.reduceEqDiff, Nat.reduceAdd, Nat.reduceMul, Nat.reduceSub, conds, readsF, readsOk, zero_ne_one_, one_ne_zero_, true_and, and_true, and_self, false_and, and_false, eq_self, reduceCtorEq, Bool.true_and, Bool.and_true, Bool.false_and, Bool.and_false, Bool.false_eq_true, Bool.true_eq_false, forall_const, true_imp_, false_imp_, imp_self, implies_true, Bool.not_true, Bool.not_false, Bool.false_or, Bool.true_or, Bool.or_false, Bool.or_true, beq_true_, beq_false_, Nat.zero_add, Nat.add_zero, fr0_cons_zero, fr0_cons_succ, fr0_0, fr0_1, fr0_2, fr0_3, fr0_4, List.map_cons, List.map_nil, List.map_toArray, Option.map_some, Option.map_none, List.append_toArray, List.nil_append, List.cons_append, List.append_nil, List.all_cons, List.all_nil, List.set_cons_zero, List.set_cons_succ, Array.getD_lit, Array.size_lit, List.reverse_cons, List.reverse_nil, Op.operands, Call.operands, List.toList_toArray, Addr.add_lit, Option.some.injEq, exists_eq_left', Value.pointer.injEq, exists_eq_left, Int.toNat_natCast, Int.reduceToNat, Nat.mul_one, List.length_cons, List.length_nil, Nat.reducePow]
  generalize w.alloc (.cells (ruleCells r t c).toArray 36) = w1 at *
  refine At.drawn rfl Tryd.func53 (by kernel_rfl) (fun v => Kept w1 v) [0, 1, 2, 3, 4, 5, 6] (by kernel_rfl) ?_ 400 ?_
  · exact (Kept.refl _).drew
  have a1 := ra.ldE (P := Tryd.prog) (t := 9) 1 rfl (by kernel_rfl) (by kernel_rfl)
  have a2 := ra.ldE (P := Tryd.prog) (t := 34) 2 rfl (by kernel_rfl) (by kernel_rfl)
  have a3 := ra.ldE (P := Tryd.prog) (t := 31) 3 rfl (by kernel_rfl) (by kernel_rfl)
  have a4 := ra.ldE (P := Tryd.prog) (t := 9) 4 rfl (by kernel_rfl) (by kernel_rfl)
  have a5 := ra.ldE (P := Tryd.prog) (t := 9) 5 rfl (by kernel_rfl) (by kernel_rfl)
  have hd := textDots_len' r.cells
  have hcl := hF.cells
  have htl := toldL_len r.text
  have htx := hF.text
  have hnm := hF.name
  have hlf := hF.left
  have hrt := hF.right
  have hsl := starOf_len r.left
  have hsr := starOf_len r.right
  simp only [vsz, ↓vsd, vsd, ↓vsdk, vsdk, ↓vst, vst, ↓vstk, vstk, vcds2, noYs, isLoad, purCs, ↓vss, ↓vsk, vsk, ↓vss2, vcs3, vcs4, vals, blds, vcs5, vcs6, pures, ints, tys0, tys1, tys2, tys3, tys4, tys5, ↓reduceIte, if_true, if_false, Nat.reduceLT, Nat.reduceLeDiff, Nat.reduceEqDiff, Nat.reduceAdd, Nat.reduceMul, Nat.reduceSub, conds, readsF, readsOk, zero_ne_one_, one_ne_zero_, true_and, and_true, and_self, false_and, and_false, eq_self, reduceCtorEq, Bool.true_and, Bool.and_true, Bool.false_and, Bool.and_false, Bool.false_eq_true, Bool.true_eq_false, forall_const, true_imp_, false_imp_, imp_self, implies_true, Bool.not_true, Bool.not_false, Bool.false_or, Bool.true_or, Bool.or_false, Bool.or_true, beq_true_, beq_false_, Nat.zero_add, Nat.add_zero, fr0_cons_zero, fr0_cons_succ, fr0_0, fr0_1, fr0_2, fr0_3, fr0_4, List.map_cons, List.map_nil, List.map_toArray, Option.map_some, Option.map_none, List.append_toArray, List.nil_append, List.cons_append, List.append_nil, List.all_cons, List.all_nil, List.set_cons_zero, List.set_cons_succ, Array.getD_lit, Array.size_lit, List.reverse_cons, List.reverse_nil, Op.operands, Call.operands, List.toList_toArray, Addr.add_lit, Option.some.injEq, exists_eq_left', Value.pointer.injEq, exists_eq_left, Int.toNat_natCast, Int.reduceToNat, Nat.mul_one, List.length_cons, List.length_nil, Nat.reducePow, a1, a2, a3, a4, a5]
  have j0 : Kept w1 w1.drew := (Kept.refl _).drew
  refine (told_spec t w1.drew r.text ((ht.keep k1).keep j0) hF.ok (by omega)).mono ?_
  rintro _ v1 ⟨rfl, i1⟩
  have j1 := j0.trans i1
  refine kC.in_ (by kernel_rfl) ⟨j1, ?_⟩
  simp only [vsz, ↓vsd, vsd, ↓vsdk, vsdk, ↓vst, vst, ↓vstk, vstk, vcds2, noYs, isLoad, purCs, ↓vss, ↓vsk, vsk, ↓vss2, vcs3, vcs4, vals, blds, vcs5, vcs6, pures, ints, tys0, tys1, tys2, tys3, tys4, tys5, ↓reduceIte, if_true, if_false, Nat.reduceLT, Nat.reduceLeDiff, Nat.reduceEqDiff, Nat.reduceAdd, Nat.reduceMul, Nat.reduceSub, conds, readsF, readsOk, zero_ne_one_, one_ne_zero_, true_and, and_true, and_self, false_and, and_false, eq_self, reduceCtorEq, Bool.true_and, Bool.and_true, Bool.false_and, Bool.and_false, Bool.false_eq_true, Bool.true_eq_false, forall_const, true_imp_, false_imp_, imp_self, implies_true, Bool.not_true, Bool.not_false, Bool.false_or, Bool.true_or, Bool.or_false, Bool.or_true, beq_true_, beq_false_, Nat.zero_add, Nat.add_zero, fr0_cons_zero, fr0_cons_succ, fr0_0, fr0_1, fr0_2, fr0_3, fr0_4, List.map_cons, List.map_nil, List.map_toArray, Option.map_some, Option.map_none, List.append_toArray, List.nil_append, List.cons_append, List.append_nil, List.all_cons, List.all_nil, List.set_cons_zero, List.set_cons_succ, Array.getD_lit, Array.size_lit, List.reverse_cons, List.reverse_nil, Op.operands, Call.operands, List.toList_toArray, Addr.add_lit, Option.some.injEq, exists_eq_left', Value.pointer.injEq, exists_eq_left, Int.toNat_natCast, Int.reduceToNat, Nat.mul_one, List.length_cons, List.length_nil, Nat.reducePow, a1, a2, a3, a4, a5]
  exact ⟨j1.alloc _, _, rfl, New.b2 (E := elStr) (k1.trans j1).size _ ⟨rfl, by unfold Vc.big; omega⟩ ⟨rfl, by unfold Vc.big; omega⟩, (k1.trans j1).alloc _⟩
theorem tf3_spec : tellSpec 56 (fun r => [toldL r.text, textDots r.cells]) := by
  intro r t c w hF ht hc
  refine calls_of_at (e := ⟨Tryd.prog, 56, 10, Tryd.f56, [.tmp 2], none, []⟩) Tryd.func56 rfl (by simp) rfl ?_; refine vc_sound rfl Tryd.func56 400 (.code _) _ _ ?_
  have k1 : Kept w (w.alloc (.cells (ruleCells r t c).toArray 36)) := (Kept.refl w).alloc _
  have ra := Row.new w 36 (ruleCells r t c)
  simp only [purCs, ↓vss, ↓vsk, vsk, ↓vss2, vcs3, vcs4, vals, blds, vcs5, vcs6, pures, ints, tys0, tys1, tys2, tys3, tys4, tys5, ↓reduceIte, if_true, if_false, Nat.reduceLT, Nat.reduceLeDiff, Nat.reduceEqDiff, Nat.reduceAdd, Nat.reduceMul, Nat.reduceSub, conds, readsF, readsOk, zero_ne_one_, one_ne_zero_, true_and, and_true, and_self, false_and, and_false, eq_self, reduceCtorEq, Bool.true_and, Bool.and_true, Bool.false_and, Bool.and_false, Bool.false_eq_true, Bool.true_eq_false, forall_const, true_imp_, false_imp_, imp_self, implies_true, Bool.not_true, Bool.not_false, Bool.false_or, Bool.true_or, Bool.or_false, Bool.or_true, beq_true_, beq_false_, Nat.zero_add, Nat.add_zero, fr0_cons_zero, fr0_cons_succ, fr0_0, fr0_1, fr0_2, fr0_3, fr0_4, List.map_cons, List.map_nil, List.map_toArray, Option.map_some, Option.map_none, List.append_toArray, List.nil_append, List.cons_append, List.append_nil, List.all_cons, List.all_nil, List.set_cons_zero, List.set_cons_succ, Array.getD_lit, Array.size_lit, List.reverse_cons, List.reverse_nil, Op.operands, Call.operands, List.toList_toArray, Addr.add_lit, Option.some.injEq, exists_eq_left', Value.pointer.injEq, exists_eq_left, Int.toNat_natCast, Int.reduceToNat, Nat.mul_one, List.length_cons, List.length_nil, Nat.reducePow]
  generalize w.alloc (.cells (ruleCells r t c).toArray 36) = w1 at *
  refine At.drawn rfl Tryd.func56 (by kernel_rfl) (fun v => Kept w1 v) [0, 1, 3, 4, 2, 5, 6, 7] (by kernel_rfl) ?_ 400 ?_
  · exact (Kept.refl _).drew
  have a1 := ra.ldE (P := Tryd.prog) (t := 9) 1 rfl (by kernel_rfl) (by kernel_rfl)
  have a2 := ra.ldE (P := Tryd.prog) (t := 34) 2 rfl (by kernel_rfl) (by kernel_rfl)
  have a3 := ra.ldE (P := Tryd.prog) (t := 31) 3 rfl (by kernel_rfl) (by kernel_rfl)
  have a4 := ra.ldE (P := Tryd.prog) (t := 9) 4 rfl (by kernel_rfl) (by kernel_rfl)
  have a5 := ra.ldE (P := Tryd.prog) (t := 9) 5 rfl (by kernel_rfl) (by kernel_rfl)
  have hd := textDots_len' r.cells
  have hcl := hF.cells
  have htl := toldL_len r.text
  have htx := hF.text
  have hnm := hF.name
  have hlf := hF.left
  have hrt := hF.right
  have hsl := starOf_len r.left
  have hsr := starOf_len r.right
  simp only [vsz, ↓vsd, vsd, ↓vsdk, vsdk, ↓vst, vst, ↓vstk, vstk, vcds2, noYs, isLoad, purCs, ↓vss, ↓vsk, vsk, ↓vss2, vcs3, vcs4, vals, blds, vcs5, vcs6, pures, ints, tys0, tys1, tys2, tys3, tys4, tys5, ↓reduceIte, if_true, if_false, Nat.reduceLT, Nat.reduceLeDiff, Nat.reduceEqDiff, Nat.reduceAdd, Nat.reduceMul, Nat.reduceSub, conds, readsF, readsOk, zero_ne_one_, one_ne_zero_, true_and, and_true, and_self, false_and, and_false, eq_self, reduceCtorEq, Bool.true_and, Bool.and_true, Bool.false_and, Bool.and_false, Bool.false_eq_true, Bool.true_eq_false, forall_const, true_imp_, false_imp_, imp_self, implies_true, Bool.not_true, Bool.not_false, Bool.false_or, Bool.true_or, Bool.or_false, Bool.or_true, beq_true_, beq_false_, Nat.zero_add, Nat.add_zero, fr0_cons_zero, fr0_cons_succ, fr0_0, fr0_1, fr0_2, fr0_3, fr0_4, List.map_cons, List.map_nil, List.map_toArray, Option.map_some, Option.map_none, List.append_toArray, List.nil_append, List.cons_append, List.append_nil, List.all_cons, List.all_nil, List.set_cons_zero, List.set_cons_succ, Array.getD_lit, Array.size_lit, List.reverse_cons, List.reverse_nil, Op.operands, Call.operands, List.toList_toArray, Addr.add_lit, Option.some.injEq, exists_eq_left', Value.pointer.injEq, exists_eq_left, Int.toNat_natCast, Int.reduceToNat, Nat.mul_one, List.length_cons, List.length_nil, Nat.reducePow, a1, a2, a3, a4, a5]
  have j0 : Kept w1 w1.drew := (Kept.refl _).drew
  refine (told_spec t w1.drew r.text ((ht.keep k1).keep j0) hF.ok (by omega)).mono ?_
  rintro _ v1 ⟨rfl, i1⟩
  have j1 := j0.trans i1
  refine kC.in_ (by kernel_rfl) ⟨j1, ?_⟩
  simp only [vsz, ↓vsd, vsd, ↓vsdk, vsdk, ↓vst, vst, ↓vstk, vstk, vcds2, noYs, isLoad, purCs, ↓vss, ↓vsk, vsk, ↓vss2, vcs3, vcs4, vals, blds, vcs5, vcs6, pures, ints, tys0, tys1, tys2, tys3, tys4, tys5, ↓reduceIte, if_true, if_false, Nat.reduceLT, Nat.reduceLeDiff, Nat.reduceEqDiff, Nat.reduceAdd, Nat.reduceMul, Nat.reduceSub, conds, readsF, readsOk, zero_ne_one_, one_ne_zero_, true_and, and_true, and_self, false_and, and_false, eq_self, reduceCtorEq, Bool.true_and, Bool.and_true, Bool.false_and, Bool.and_false, Bool.false_eq_true, Bool.true_eq_false, forall_const, true_imp_, false_imp_, imp_self, implies_true, Bool.not_true, Bool.not_false, Bool.false_or, Bool.true_or, Bool.or_false, Bool.or_true, beq_true_, beq_false_, Nat.zero_add, Nat.add_zero, fr0_cons_zero, fr0_cons_succ, fr0_0, fr0_1, fr0_2, fr0_3, fr0_4, List.map_cons, List.map_nil, List.map_toArray, Option.map_some, Option.map_none, List.append_toArray, List.nil_append, List.cons_append, List.append_nil, List.all_cons, List.all_nil, List.set_cons_zero, List.set_cons_succ, Array.getD_lit, Array.size_lit, List.reverse_cons, List.reverse_nil, Op.operands, Call.operands, List.toList_toArray, Addr.add_lit, Option.some.injEq, exists_eq_left', Value.pointer.injEq, exists_eq_left, Int.toNat_natCast, Int.reduceToNat, Nat.mul_one, List.length_cons, List.length_nil, Nat.reducePow, a1, a2, a3, a4, a5]
  refine (text_spec c v1 r.cells ((hc.keep k1).keep j1) hF.cells).mono ?_
  rintro _ v2 ⟨rfl, i2⟩
  have j2 := j1.trans i2
  refine kC.in_ (by kernel_rfl) ⟨j2, ?_⟩
  simp only [vsz, ↓vsd, vsd, ↓vsdk, vsdk, ↓vst, vst, ↓vstk, vstk, vcds2, noYs, isLoad, purCs, ↓vss, ↓vsk, vsk, ↓vss2, vcs3, vcs4, vals, blds, vcs5, vcs6, pures, ints, tys0, tys1, tys2, tys3, tys4, tys5, ↓reduceIte, if_true, if_false, Nat.reduceLT, Nat.reduceLeDiff, Nat.reduceEqDiff, Nat.reduceAdd, Nat.reduceMul, Nat.reduceSub, conds, readsF, readsOk, zero_ne_one_, one_ne_zero_, true_and, and_true, and_self, false_and, and_false, eq_self, reduceCtorEq, Bool.true_and, Bool.and_true, Bool.false_and, Bool.and_false, Bool.false_eq_true, Bool.true_eq_false, forall_const, true_imp_, false_imp_, imp_self, implies_true, Bool.not_true, Bool.not_false, Bool.false_or, Bool.true_or, Bool.or_false, Bool.or_true, beq_true_, beq_false_, Nat.zero_add, Nat.add_zero, fr0_cons_zero, fr0_cons_succ, fr0_0, fr0_1, fr0_2, fr0_3, fr0_4, List.map_cons, List.map_nil, List.map_toArray, Option.map_some, Option.map_none, List.append_toArray, List.nil_append, List.cons_append, List.append_nil, List.all_cons, List.all_nil, List.set_cons_zero, List.set_cons_succ, Array.getD_lit, Array.size_lit, List.reverse_cons, List.reverse_nil, Op.operands, Call.operands, List.toList_toArray, Addr.add_lit, Option.some.injEq, exists_eq_left', Value.pointer.injEq, exists_eq_left, Int.toNat_natCast, Int.reduceToNat, Nat.mul_one, List.length_cons, List.length_nil, Nat.reducePow, a1, a2, a3, a4, a5]
  exact ⟨j2.alloc _, _, rfl, New.b2 (E := elStr) (k1.trans j2).size _ ⟨rfl, by unfold Vc.big; omega⟩ ⟨rfl, by unfold Vc.big; omega⟩, (k1.trans j2).alloc _⟩
theorem tf4_spec : tellSpec 59 (fun r => [toldL r.text, textDots r.cells, starOf r.left, starOf r.right]) := by
  intro r t c w hF ht hc
  refine calls_of_at (e := ⟨Tryd.prog, 59, 16, Tryd.f59, [.tmp 2], none, []⟩) Tryd.func59 rfl (by simp) rfl ?_; refine vc_sound rfl Tryd.func59 400 (.code _) _ _ ?_
  have k1 : Kept w (w.alloc (.cells (ruleCells r t c).toArray 36)) := (Kept.refl w).alloc _
  have ra := Row.new w 36 (ruleCells r t c)
  simp only [purCs, ↓vss, ↓vsk, vsk, ↓vss2, vcs3, vcs4, vals, blds, vcs5, vcs6, pures, ints, tys0, tys1, tys2, tys3, tys4, tys5, ↓reduceIte, if_true, if_false, Nat.reduceLT, Nat.reduceLeDiff, Nat.reduceEqDiff, Nat.reduceAdd, Nat.reduceMul, Nat.reduceSub, conds, readsF, readsOk, zero_ne_one_, one_ne_zero_, true_and, and_true, and_self, false_and, and_false, eq_self, reduceCtorEq, Bool.true_and, Bool.and_true, Bool.false_and, Bool.and_false, Bool.false_eq_true, Bool.true_eq_false, forall_const, true_imp_, false_imp_, imp_self, implies_true, Bool.not_true, Bool.not_false, Bool.false_or, Bool.true_or, Bool.or_false, Bool.or_true, beq_true_, beq_false_, Nat.zero_add, Nat.add_zero, fr0_cons_zero, fr0_cons_succ, fr0_0, fr0_1, fr0_2, fr0_3, fr0_4, List.map_cons, List.map_nil, List.map_toArray, Option.map_some, Option.map_none, List.append_toArray, List.nil_append, List.cons_append, List.append_nil, List.all_cons, List.all_nil, List.set_cons_zero, List.set_cons_succ, Array.getD_lit, Array.size_lit, List.reverse_cons, List.reverse_nil, Op.operands, Call.operands, List.toList_toArray, Addr.add_lit, Option.some.injEq, exists_eq_left', Value.pointer.injEq, exists_eq_left, Int.toNat_natCast, Int.reduceToNat, Nat.mul_one, List.length_cons, List.length_nil, Nat.reducePow]
  generalize w.alloc (.cells (ruleCells r t c).toArray 36) = w1 at *
  refine At.drawn rfl Tryd.func59 (by kernel_rfl) (fun v => Kept w1 v) [0, 1, 3, 4, 6, 7, 9, 10, 2, 5, 8, 11, 12, 13] (by kernel_rfl) ?_ 400 ?_
  · exact (Kept.refl _).drew
  have a1 := ra.ldE (P := Tryd.prog) (t := 9) 1 rfl (by kernel_rfl) (by kernel_rfl)
  have a2 := ra.ldE (P := Tryd.prog) (t := 34) 2 rfl (by kernel_rfl) (by kernel_rfl)
  have a3 := ra.ldE (P := Tryd.prog) (t := 31) 3 rfl (by kernel_rfl) (by kernel_rfl)
  have a4 := ra.ldE (P := Tryd.prog) (t := 9) 4 rfl (by kernel_rfl) (by kernel_rfl)
  have a5 := ra.ldE (P := Tryd.prog) (t := 9) 5 rfl (by kernel_rfl) (by kernel_rfl)
  have hd := textDots_len' r.cells
  have hcl := hF.cells
  have htl := toldL_len r.text
  have htx := hF.text
  have hnm := hF.name
  have hlf := hF.left
  have hrt := hF.right
  have hsl := starOf_len r.left
  have hsr := starOf_len r.right
  simp only [vsz, ↓vsd, vsd, ↓vsdk, vsdk, ↓vst, vst, ↓vstk, vstk, vcds2, noYs, isLoad, purCs, ↓vss, ↓vsk, vsk, ↓vss2, vcs3, vcs4, vals, blds, vcs5, vcs6, pures, ints, tys0, tys1, tys2, tys3, tys4, tys5, ↓reduceIte, if_true, if_false, Nat.reduceLT, Nat.reduceLeDiff, Nat.reduceEqDiff, Nat.reduceAdd, Nat.reduceMul, Nat.reduceSub, conds, readsF, readsOk, zero_ne_one_, one_ne_zero_, true_and, and_true, and_self, false_and, and_false, eq_self, reduceCtorEq, Bool.true_and, Bool.and_true, Bool.false_and, Bool.and_false, Bool.false_eq_true, Bool.true_eq_false, forall_const, true_imp_, false_imp_, imp_self, implies_true, Bool.not_true, Bool.not_false, Bool.false_or, Bool.true_or, Bool.or_false, Bool.or_true, beq_true_, beq_false_, Nat.zero_add, Nat.add_zero, fr0_cons_zero, fr0_cons_succ, fr0_0, fr0_1, fr0_2, fr0_3, fr0_4, List.map_cons, List.map_nil, List.map_toArray, Option.map_some, Option.map_none, List.append_toArray, List.nil_append, List.cons_append, List.append_nil, List.all_cons, List.all_nil, List.set_cons_zero, List.set_cons_succ, Array.getD_lit, Array.size_lit, List.reverse_cons, List.reverse_nil, Op.operands, Call.operands, List.toList_toArray, Addr.add_lit, Option.some.injEq, exists_eq_left', Value.pointer.injEq, exists_eq_left, Int.toNat_natCast, Int.reduceToNat, Nat.mul_one, List.length_cons, List.length_nil, Nat.reducePow, a1, a2, a3, a4, a5]
  have j0 : Kept w1 w1.drew := (Kept.refl _).drew
  refine (told_spec t w1.drew r.text ((ht.keep k1).keep j0) hF.ok (by omega)).mono ?_
  rintro _ v1 ⟨rfl, i1⟩
  have j1 := j0.trans i1
  refine kC.in_ (by kernel_rfl) ⟨j1, ?_⟩
  simp only [vsz, ↓vsd, vsd, ↓vsdk, vsdk, ↓vst, vst, ↓vstk, vstk, vcds2, noYs, isLoad, purCs, ↓vss, ↓vsk, vsk, ↓vss2, vcs3, vcs4, vals, blds, vcs5, vcs6, pures, ints, tys0, tys1, tys2, tys3, tys4, tys5, ↓reduceIte, if_true, if_false, Nat.reduceLT, Nat.reduceLeDiff, Nat.reduceEqDiff, Nat.reduceAdd, Nat.reduceMul, Nat.reduceSub, conds, readsF, readsOk, zero_ne_one_, one_ne_zero_, true_and, and_true, and_self, false_and, and_false, eq_self, reduceCtorEq, Bool.true_and, Bool.and_true, Bool.false_and, Bool.and_false, Bool.false_eq_true, Bool.true_eq_false, forall_const, true_imp_, false_imp_, imp_self, implies_true, Bool.not_true, Bool.not_false, Bool.false_or, Bool.true_or, Bool.or_false, Bool.or_true, beq_true_, beq_false_, Nat.zero_add, Nat.add_zero, fr0_cons_zero, fr0_cons_succ, fr0_0, fr0_1, fr0_2, fr0_3, fr0_4, List.map_cons, List.map_nil, List.map_toArray, Option.map_some, Option.map_none, List.append_toArray, List.nil_append, List.cons_append, List.append_nil, List.all_cons, List.all_nil, List.set_cons_zero, List.set_cons_succ, Array.getD_lit, Array.size_lit, List.reverse_cons, List.reverse_nil, Op.operands, Call.operands, List.toList_toArray, Addr.add_lit, Option.some.injEq, exists_eq_left', Value.pointer.injEq, exists_eq_left, Int.toNat_natCast, Int.reduceToNat, Nat.mul_one, List.length_cons, List.length_nil, Nat.reducePow, a1, a2, a3, a4, a5]
  refine (text_spec c v1 r.cells ((hc.keep k1).keep j1) hF.cells).mono ?_
  rintro _ v2 ⟨rfl, i2⟩
  have j2 := j1.trans i2
  refine kC.in_ (by kernel_rfl) ⟨j2, ?_⟩
  simp only [vsz, ↓vsd, vsd, ↓vsdk, vsdk, ↓vst, vst, ↓vstk, vstk, vcds2, noYs, isLoad, purCs, ↓vss, ↓vsk, vsk, ↓vss2, vcs3, vcs4, vals, blds, vcs5, vcs6, pures, ints, tys0, tys1, tys2, tys3, tys4, tys5, ↓reduceIte, if_true, if_false, Nat.reduceLT, Nat.reduceLeDiff, Nat.reduceEqDiff, Nat.reduceAdd, Nat.reduceMul, Nat.reduceSub, conds, readsF, readsOk, zero_ne_one_, one_ne_zero_, true_and, and_true, and_self, false_and, and_false, eq_self, reduceCtorEq, Bool.true_and, Bool.and_true, Bool.false_and, Bool.and_false, Bool.false_eq_true, Bool.true_eq_false, forall_const, true_imp_, false_imp_, imp_self, implies_true, Bool.not_true, Bool.not_false, Bool.false_or, Bool.true_or, Bool.or_false, Bool.or_true, beq_true_, beq_false_, Nat.zero_add, Nat.add_zero, fr0_cons_zero, fr0_cons_succ, fr0_0, fr0_1, fr0_2, fr0_3, fr0_4, List.map_cons, List.map_nil, List.map_toArray, Option.map_some, Option.map_none, List.append_toArray, List.nil_append, List.cons_append, List.append_nil, List.all_cons, List.all_nil, List.set_cons_zero, List.set_cons_succ, Array.getD_lit, Array.size_lit, List.reverse_cons, List.reverse_nil, Op.operands, Call.operands, List.toList_toArray, Addr.add_lit, Option.some.injEq, exists_eq_left', Value.pointer.injEq, exists_eq_left, Int.toNat_natCast, Int.reduceToNat, Nat.mul_one, List.length_cons, List.length_nil, Nat.reducePow, a1, a2, a3, a4, a5]
  refine ((star_spec r.left v2).mono (R' := fun x w' => x = .returned (.string (str (starOf r.left))) ∧ Kept v2 w') (fun _ _ h => ⟨h.1, by rw [h.2]; exact Kept.refl _⟩)).mono ?_
  rintro _ v3 ⟨rfl, i3⟩
  have j3 := j2.trans i3
  refine kC.in_ (by kernel_rfl) ⟨j3, ?_⟩
  simp only [vsz, ↓vsd, vsd, ↓vsdk, vsdk, ↓vst, vst, ↓vstk, vstk, vcds2, noYs, isLoad, purCs, ↓vss, ↓vsk, vsk, ↓vss2, vcs3, vcs4, vals, blds, vcs5, vcs6, pures, ints, tys0, tys1, tys2, tys3, tys4, tys5, ↓reduceIte, if_true, if_false, Nat.reduceLT, Nat.reduceLeDiff, Nat.reduceEqDiff, Nat.reduceAdd, Nat.reduceMul, Nat.reduceSub, conds, readsF, readsOk, zero_ne_one_, one_ne_zero_, true_and, and_true, and_self, false_and, and_false, eq_self, reduceCtorEq, Bool.true_and, Bool.and_true, Bool.false_and, Bool.and_false, Bool.false_eq_true, Bool.true_eq_false, forall_const, true_imp_, false_imp_, imp_self, implies_true, Bool.not_true, Bool.not_false, Bool.false_or, Bool.true_or, Bool.or_false, Bool.or_true, beq_true_, beq_false_, Nat.zero_add, Nat.add_zero, fr0_cons_zero, fr0_cons_succ, fr0_0, fr0_1, fr0_2, fr0_3, fr0_4, List.map_cons, List.map_nil, List.map_toArray, Option.map_some, Option.map_none, List.append_toArray, List.nil_append, List.cons_append, List.append_nil, List.all_cons, List.all_nil, List.set_cons_zero, List.set_cons_succ, Array.getD_lit, Array.size_lit, List.reverse_cons, List.reverse_nil, Op.operands, Call.operands, List.toList_toArray, Addr.add_lit, Option.some.injEq, exists_eq_left', Value.pointer.injEq, exists_eq_left, Int.toNat_natCast, Int.reduceToNat, Nat.mul_one, List.length_cons, List.length_nil, Nat.reducePow, a1, a2, a3, a4, a5]
  refine ((star_spec r.right v3).mono (R' := fun x w' => x = .returned (.string (str (starOf r.right))) ∧ Kept v3 w') (fun _ _ h => ⟨h.1, by rw [h.2]; exact Kept.refl _⟩)).mono ?_
  rintro _ v4 ⟨rfl, i4⟩
  have j4 := j3.trans i4
  refine kC.in_ (by kernel_rfl) ⟨j4, ?_⟩
  simp only [vsz, ↓vsd, vsd, ↓vsdk, vsdk, ↓vst, vst, ↓vstk, vstk, vcds2, noYs, isLoad, purCs, ↓vss, ↓vsk, vsk, ↓vss2, vcs3, vcs4, vals, blds, vcs5, vcs6, pures, ints, tys0, tys1, tys2, tys3, tys4, tys5, ↓reduceIte, if_true, if_false, Nat.reduceLT, Nat.reduceLeDiff, Nat.reduceEqDiff, Nat.reduceAdd, Nat.reduceMul, Nat.reduceSub, conds, readsF, readsOk, zero_ne_one_, one_ne_zero_, true_and, and_true, and_self, false_and, and_false, eq_self, reduceCtorEq, Bool.true_and, Bool.and_true, Bool.false_and, Bool.and_false, Bool.false_eq_true, Bool.true_eq_false, forall_const, true_imp_, false_imp_, imp_self, implies_true, Bool.not_true, Bool.not_false, Bool.false_or, Bool.true_or, Bool.or_false, Bool.or_true, beq_true_, beq_false_, Nat.zero_add, Nat.add_zero, fr0_cons_zero, fr0_cons_succ, fr0_0, fr0_1, fr0_2, fr0_3, fr0_4, List.map_cons, List.map_nil, List.map_toArray, Option.map_some, Option.map_none, List.append_toArray, List.nil_append, List.cons_append, List.append_nil, List.all_cons, List.all_nil, List.set_cons_zero, List.set_cons_succ, Array.getD_lit, Array.size_lit, List.reverse_cons, List.reverse_nil, Op.operands, Call.operands, List.toList_toArray, Addr.add_lit, Option.some.injEq, exists_eq_left', Value.pointer.injEq, exists_eq_left, Int.toNat_natCast, Int.reduceToNat, Nat.mul_one, List.length_cons, List.length_nil, Nat.reducePow, a1, a2, a3, a4, a5]
  exact ⟨j4.alloc _, _, rfl, New.b4 (E := elStr) (k1.trans j4).size _ ⟨rfl, by unfold Vc.big; omega⟩ ⟨rfl, by unfold Vc.big; omega⟩ ⟨rfl, by unfold Vc.big; omega⟩ ⟨rfl, by unfold Vc.big; omega⟩, (k1.trans j4).alloc _⟩

theorem tellFn_spec (f : FormV) (hf : f.tell = 1 ∨ f.tell = 2 ∨ f.tell = 3 ∨ f.tell = 4) : tellSpec (tellFn f.tell) (tellWords f) := by
  rcases hf with h | h | h | h
  · rw [h, show tellWords f = fun r => [textDots r.cells] by funext r; simp [tellWords, h]]; exact tf1_spec
  · rw [h, show tellWords f = fun r => [r.name, toldL r.text] by funext r; simp [tellWords, h]]; exact tf2_spec
  · rw [h, show tellWords f = fun r => [toldL r.text, textDots r.cells] by funext r; simp [tellWords, h]]; exact tf3_spec
  · rw [h, show tellWords f = fun r => [toldL r.text, textDots r.cells, starOf r.left, starOf r.right] by funext r; simp [tellWords, h]]; exact tf4_spec
end Go.Proofs.YtcjdbmcklemkkaaDoor
