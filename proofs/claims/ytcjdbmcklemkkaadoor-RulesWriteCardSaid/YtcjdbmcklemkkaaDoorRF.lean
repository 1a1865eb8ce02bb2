/- Contracts of inner functions of the program, and what they compute: parts of a proof. -/
import Derived.Test.YtcjdbmcklemkkaaDoorRE
namespace Go.Proofs.YtcjdbmcklemkkaaDoor
open Go Go.Proofs Go.Vc Go.RowKit
set_option maxRecDepth 100000
set_option linter.unusedSimpArgs false
set_option linter.unusedVariables false


abbrev rp (b : Nat) : Value := .pointer (some ⟨b, 0, none⟩)

theorem name_spec (b : Nat) (r : RuleV) (s : List UInt8) (w : World) (h : RuleAt b 36 w r) (hs : s.length ≤ 1000000) :
    Calls Tryd.prog 51 #[rp b, .string (str s)] w fun x w' => x = .returned (.bool (rdRun s r .name).2) ∧ RuleAt b 36 w' (rdRun s r .name).1 ∧ KeptBut b w w' := by
  obtain ⟨t, c, h1, h2, h3, h4⟩ := h
  refine calls_of_at (e := ⟨Tryd.prog, 51, 11, Tryd.f51, [.tmp 4], none, []⟩) Tryd.func51 rfl (by simp) rfl ?_; refine vc_sound rfl Tryd.func51 400 (.code _) _ _ ?_
  simp only [↓vcs, ↓vcs2, vcs3, vcs4, vals, blds, vcs5, vcs6, pures, ints, tys0, tys1, tys2, tys3, tys4, tys5, ↓reduceIte, if_true, if_false, Nat.reduceLT, Nat.reduceLeDiff, Nat.reduceEqDiff, Nat.reduceAdd, Nat.reduceMul, Nat.reduceSub, conds, readsF, readsOk, zero_ne_one_, one_ne_zero_, true_and, and_true, and_self, false_and, and_false, eq_self, reduceCtorEq, Bool.true_and, Bool.and_true, Bool.false_and, Bool.and_false, Bool.false_eq_true, Bool.true_eq_false, forall_const, true_imp_, false_imp_, imp_self, implies_true, Bool.not_true, Bool.not_false, Bool.false_or, Bool.true_or, Bool.or_false, Bool.or_true, beq_true_, beq_false_, Nat.zero_add, Nat.add_zero, fr0_cons_zero, fr0_cons_succ, fr0_0, fr0_1, fr0_2, fr0_3, fr0_4, List.map_cons, List.map_nil, List.map_toArray, Option.map_some, Option.map_none, List.append_toArray, List.nil_append, List.cons_append, List.append_nil, List.all_cons, List.all_nil, List.set_cons_zero, List.set_cons_succ, Array.getD_lit, Array.size_lit, List.reverse_cons, List.reverse_nil, Op.operands, Call.operands, List.toList_toArray, Addr.add_lit, Option.some.injEq, exists_eq_left', Value.pointer.injEq, exists_eq_left, Int.toNat_natCast, Int.reduceToNat, Nat.mul_one, loads, List.length_cons, List.length_nil, Nat.reducePow]
  refine ⟨_, run_store1 (by kernel_rfl) h1 (by simp [ruleCells]) rfl, (isName_spec _ _).mono ?_⟩
  rintro _ w' ⟨rfl, hk⟩
  have hb := (setRow_but w b ((ruleCells r t c).set 1 (.string (str s))).toArray).trans (hk.but b)
  exact ⟨_, rfl, rfl, ⟨t, c, (h1.set _).keep hk, h2.keep hb, h3.keep hb, hs, h4.2⟩, hb⟩

theorem sideOf_len (s : List UInt8) : (sideOf s).1.length ≤ s.length := by unfold sideOf; split <;> simp

theorem left_spec (b : Nat) (r : RuleV) (s : List UInt8) (w : World) (h : RuleAt b 36 w r) (hs : s.length ≤ 1000000) :
    Calls Tryd.prog 57 #[rp b, .string (str s)] w fun x w' => x = .returned (.bool (rdRun s r .left).2) ∧ RuleAt b 36 w' (rdRun s r .left).1 ∧ KeptBut b w w' := by
  obtain ⟨t, c, h1, h2, h3, h4⟩ := h
  refine calls_of_at (e := ⟨Tryd.prog, 57, 14, Tryd.f57, [.tmp 4], none, []⟩) Tryd.func57 rfl (by simp) rfl ?_; refine vc_sound rfl Tryd.func57 400 (.code _) _ _ ?_
  simp only [↓vcs, ↓vcs2, vcs3, vcs4, vals, blds, vcs5, vcs6, pures, ints, tys0, tys1, tys2, tys3, tys4, tys5, ↓reduceIte, if_true, if_false, Nat.reduceLT, Nat.reduceLeDiff, Nat.reduceEqDiff, Nat.reduceAdd, Nat.reduceMul, Nat.reduceSub, conds, readsF, readsOk, zero_ne_one_, one_ne_zero_, true_and, and_true, and_self, false_and, and_false, eq_self, reduceCtorEq, Bool.true_and, Bool.and_true, Bool.false_and, Bool.and_false, Bool.false_eq_true, Bool.true_eq_false, forall_const, true_imp_, false_imp_, imp_self, implies_true, Bool.not_true, Bool.not_false, Bool.false_or, Bool.true_or, Bool.or_false, Bool.or_true, beq_true_, beq_false_, Nat.zero_add, Nat.add_zero, fr0_cons_zero, fr0_cons_succ, fr0_0, fr0_1, fr0_2, fr0_3, fr0_4, List.map_cons, List.map_nil, List.map_toArray, Option.map_some, Option.map_none, List.append_toArray, List.nil_append, List.cons_append, List.append_nil, List.all_cons, List.all_nil, List.set_cons_zero, List.set_cons_succ, Array.getD_lit, Array.size_lit, List.reverse_cons, List.reverse_nil, Op.operands, Call.operands, List.toList_toArray, Addr.add_lit, Option.some.injEq, exists_eq_left', Value.pointer.injEq, exists_eq_left, Int.toNat_natCast, Int.reduceToNat, Nat.mul_one, loads, List.length_cons, List.length_nil, Nat.reducePow]
  refine (side_spec _ _).mono ?_
  rintro _ w' ⟨rfl, hk⟩
  have hb := (hk.but b).trans (setRow_but w' b ((ruleCells r t c).set 4 (.string (str (sideOf s).1))).toArray)
  refine ⟨_, _, rfl, _, run_store1 (by kernel_rfl) (h1.keep hk) (by simp [ruleCells]) rfl, rfl, ⟨t, c, (h1.keep hk).set _, h2.keep hb, h3.keep hb, h4.1, ?_, h4.2.2⟩, hb⟩
  exact Nat.le_trans (sideOf_len s) hs

theorem right_spec (b : Nat) (r : RuleV) (s : List UInt8) (w : World) (h : RuleAt b 36 w r) (hs : s.length ≤ 1000000) :
    Calls Tryd.prog 58 #[rp b, .string (str s)] w fun x w' => x = .returned (.bool (rdRun s r .right).2) ∧ RuleAt b 36 w' (rdRun s r .right).1 ∧ KeptBut b w w' := by
  obtain ⟨t, c, h1, h2, h3, h4⟩ := h
  refine calls_of_at (e := ⟨Tryd.prog, 58, 14, Tryd.f58, [.tmp 4], none, []⟩) Tryd.func58 rfl (by simp) rfl ?_; refine vc_sound rfl Tryd.func58 400 (.code _) _ _ ?_
  simp only [↓vcs, ↓vcs2, vcs3, vcs4, vals, blds, vcs5, vcs6, pures, ints, tys0, tys1, tys2, tys3, tys4, tys5, ↓reduceIte, if_true, if_false, Nat.reduceLT, Nat.reduceLeDiff, Nat.reduceEqDiff, Nat.reduceAdd, Nat.reduceMul, Nat.reduceSub, conds, readsF, readsOk, zero_ne_one_, one_ne_zero_, true_and, and_true, and_self, false_and, and_false, eq_self, reduceCtorEq, Bool.true_and, Bool.and_true, Bool.false_and, Bool.and_false, Bool.false_eq_true, Bool.true_eq_false, forall_const, true_imp_, false_imp_, imp_self, implies_true, Bool.not_true, Bool.not_false, Bool.false_or, Bool.true_or, Bool.or_false, Bool.or_true, beq_true_, beq_false_, Nat.zero_add, Nat.add_zero, fr0_cons_zero, fr0_cons_succ, fr0_0, fr0_1, fr0_2, fr0_3, fr0_4, List.map_cons, List.map_nil, List.map_toArray, Option.map_some, Option.map_none, List.append_toArray, List.nil_append, List.cons_append, List.append_nil, List.all_cons, List.all_nil, List.set_cons_zero, List.set_cons_succ, Array.getD_lit, Array.size_lit, List.reverse_cons, List.reverse_nil, Op.operands, Call.operands, List.toList_toArray, Addr.add_lit, Option.some.injEq, exists_eq_left', Value.pointer.injEq, exists_eq_left, Int.toNat_natCast, Int.reduceToNat, Nat.mul_one, loads, List.length_cons, List.length_nil, Nat.reducePow]
  refine (side_spec _ _).mono ?_
  rintro _ w' ⟨rfl, hk⟩
  have hb := (hk.but b).trans (setRow_but w' b ((ruleCells r t c).set 5 (.string (str (sideOf s).1))).toArray)
  refine ⟨_, _, rfl, _, run_store1 (by kernel_rfl) (h1.keep hk) (by simp [ruleCells]) rfl, rfl, ⟨t, c, (h1.keep hk).set _, h2.keep hb, h3.keep hb, h4.1, h4.2.1, ?_⟩, hb⟩
  exact Nat.le_trans (sideOf_len s) hs

/-- A reader, as a function value; what it holds is in G. -/
def elRd : El Rd where
  z := 1
  rel G w cs rd := match rd with
    | .name => cs = [.func (.func 51) #[] #[]]
    | .left => cs = [.func (.func 57) #[] #[]]
    | .right => cs = [.func (.func 58) #[] #[]]
    | .text a b => ∃ p q, cs = [.func (.func 72) #[] #[rp p, rp q]] ∧ G p ∧ G q ∧ Row w p 3 [.int .i64 b] ∧ Row w q 3 [.int .i64 a]
    | .cells a b => ∃ p q, cs = [.func (.func 75) #[] #[rp p, rp q]] ∧ G p ∧ G q ∧ Row w p 3 [.int .i64 a] ∧ Row w q 3 [.int .i64 b]
  len := fun {G w cs x} h => by
    cases x <;> simp only at h
    · rw [h]; rfl
    · obtain ⟨p, q, h, _⟩ := h; rw [h]; rfl
    · obtain ⟨p, q, h, _⟩ := h; rw [h]; rfl
    · rw [h]; rfl
    · rw [h]; rfl
  frame := fun {G w w' cs x} hf h => by
    cases x <;> simp only at h ⊢
    · exact h
    · obtain ⟨p, q, h, h1, h2, h3, h4⟩ := h; exact ⟨p, q, h, h1, h2, (hf p h1).trans h3, (hf q h2).trans h4⟩
    · obtain ⟨p, q, h, h1, h2, h3, h4⟩ := h; exact ⟨p, q, h, h1, h2, (hf p h1).trans h3, (hf q h2).trans h4⟩
    · exact h
    · exact h
  mono := fun {G G' w cs x} hf h => by
    cases x <;> simp only at h ⊢
    · exact h
    · obtain ⟨p, q, h, h1, h2, h3⟩ := h; exact ⟨p, q, h, hf p h1, hf q h2, h3⟩
    · obtain ⟨p, q, h, h1, h2, h3⟩ := h; exact ⟨p, q, h, hf p h1, hf q h2, h3⟩
    · exact h
    · exact h

theorem textmk_spec (a b : Nat) (w : World) :
    Calls Tryd.prog 52 #[.int .i64 a, .int .i64 b] w fun x w' => ∃ v, x = .returned v ∧ v.cells = #[v] ∧ elRd.rel (fun k => w.heap.size ≤ k ∧ k < w'.heap.size) w' [v] (.text a b) ∧ Kept w w' := by
  refine calls_of_at (e := ⟨Tryd.prog, 52, 6, Tryd.f52, [.tmp 4], none, []⟩) Tryd.func52 rfl (by simp) rfl ?_; refine vc_sound rfl Tryd.func52 400 (.code _) _ _ ?_
  simp only [↓vcs, ↓vcs2, vcs3, vcs4, vals, blds, vcs5, vcs6, pures, ints, tys0, tys1, tys2, tys3, tys4, tys5, ↓reduceIte, if_true, if_false, Nat.reduceLT, Nat.reduceLeDiff, Nat.reduceEqDiff, Nat.reduceAdd, Nat.reduceMul, Nat.reduceSub, conds, readsF, readsOk, zero_ne_one_, one_ne_zero_, true_and, and_true, and_self, false_and, and_false, eq_self, reduceCtorEq, Bool.true_and, Bool.and_true, Bool.false_and, Bool.and_false, Bool.false_eq_true, Bool.true_eq_false, forall_const, true_imp_, false_imp_, imp_self, implies_true, Bool.not_true, Bool.not_false, Bool.false_or, Bool.true_or, Bool.or_false, Bool.or_true, beq_true_, beq_false_, Nat.zero_add, Nat.add_zero, fr0_cons_zero, fr0_cons_succ, fr0_0, fr0_1, fr0_2, fr0_3, fr0_4, List.map_cons, List.map_nil, List.map_toArray, Option.map_some, Option.map_none, List.append_toArray, List.nil_append, List.cons_append, List.append_nil, List.all_cons, List.all_nil, List.set_cons_zero, List.set_cons_succ, Array.getD_lit, Array.size_lit, List.reverse_cons, List.reverse_nil, Op.operands, Call.operands, List.toList_toArray, Addr.add_lit, Option.some.injEq, exists_eq_left', Value.pointer.injEq, exists_eq_left, Int.toNat_natCast, Int.reduceToNat, Nat.mul_one, loads, List.length_cons, List.length_nil, Nat.reducePow]
  have hk1 : Kept (w.alloc (.cells #[.int .i64 a] 3)) ((w.alloc (.cells #[.int .i64 a] 3)).alloc (.cells #[.int .i64 b] 3)) := (Kept.refl _).alloc _
  refine ⟨_, rfl, rfl, ⟨_, _, rfl, ⟨?_, ?_⟩, ⟨?_, ?_⟩, Row.new _ _ _, (Row.new w 3 [.int .i64 a]).keep hk1⟩, ((Kept.refl w).alloc _).alloc _⟩ <;> (try simp only [World.alloc, Array.size_push]) <;> omega

theorem cellsmk_spec (a b : Nat) (w : World) :
    Calls Tryd.prog 55 #[.int .i64 a, .int .i64 b] w fun x w' => ∃ v, x = .returned v ∧ v.cells = #[v] ∧ elRd.rel (fun k => w.heap.size ≤ k ∧ k < w'.heap.size) w' [v] (.cells a b) ∧ Kept w w' := by
  refine calls_of_at (e := ⟨Tryd.prog, 55, 6, Tryd.f55, [.tmp 4], none, []⟩) Tryd.func55 rfl (by simp) rfl ?_; refine vc_sound rfl Tryd.func55 400 (.code _) _ _ ?_
  simp only [↓vcs, ↓vcs2, vcs3, vcs4, vals, blds, vcs5, vcs6, pures, ints, tys0, tys1, tys2, tys3, tys4, tys5, ↓reduceIte, if_true, if_false, Nat.reduceLT, Nat.reduceLeDiff, Nat.reduceEqDiff, Nat.reduceAdd, Nat.reduceMul, Nat.reduceSub, conds, readsF, readsOk, zero_ne_one_, one_ne_zero_, true_and, and_true, and_self, false_and, and_false, eq_self, reduceCtorEq, Bool.true_and, Bool.and_true, Bool.false_and, Bool.and_false, Bool.false_eq_true, Bool.true_eq_false, forall_const, true_imp_, false_imp_, imp_self, implies_true, Bool.not_true, Bool.not_false, Bool.false_or, Bool.true_or, Bool.or_false, Bool.or_true, beq_true_, beq_false_, Nat.zero_add, Nat.add_zero, fr0_cons_zero, fr0_cons_succ, fr0_0, fr0_1, fr0_2, fr0_3, fr0_4, List.map_cons, List.map_nil, List.map_toArray, Option.map_some, Option.map_none, List.append_toArray, List.nil_append, List.cons_append, List.append_nil, List.all_cons, List.all_nil, List.set_cons_zero, List.set_cons_succ, Array.getD_lit, Array.size_lit, List.reverse_cons, List.reverse_nil, Op.operands, Call.operands, List.toList_toArray, Addr.add_lit, Option.some.injEq, exists_eq_left', Value.pointer.injEq, exists_eq_left, Int.toNat_natCast, Int.reduceToNat, Nat.mul_one, loads, List.length_cons, List.length_nil, Nat.reducePow]
  have hk1 : Kept (w.alloc (.cells #[.int .i64 a] 3)) ((w.alloc (.cells #[.int .i64 a] 3)).alloc (.cells #[.int .i64 b] 3)) := (Kept.refl _).alloc _
  refine ⟨_, rfl, rfl, ⟨_, _, rfl, ⟨?_, ?_⟩, ⟨?_, ?_⟩, (Row.new w 3 [.int .i64 a]).keep hk1, Row.new _ _ _⟩, ((Kept.refl w).alloc _).alloc _⟩ <;> (try simp only [World.alloc, Array.size_push]) <;> omega

theorem text1_spec (b p q : Nat) (lo hi : Nat) (r : RuleV) (s : List UInt8) (w : World) (h : RuleAt b 36 w r) (hs : s.length ≤ 1000000) (hp : b < p) (hq : b < q) (hrp : Row w p 3 [.int .i64 hi]) (hrq : Row w q 3 [.int .i64 lo]) :
    Calls Tryd.prog 72 #[rp b, .string (str s), rp p, rp q] w fun x w' => x = .returned (.bool (rdRun s r (.text lo hi)).2) ∧ RuleAt b 36 w' (rdRun s r (.text lo hi)).1 ∧ KeptBut b w w' := by
  obtain ⟨t, c, h1, h2, h3, h4⟩ := h
  refine calls_of_at (e := ⟨Tryd.prog, 72, 26, Tryd.f72, [.tmp 6], none, []⟩) Tryd.func72 rfl (by simp) rfl ?_; refine vc_sound rfl Tryd.func72 400 (.code _) _ _ ?_
  simp only [↓vcs, ↓vcs2, vcs3, vcs4, vals, blds, vcs5, vcs6, pures, ints, tys0, tys1, tys2, tys3, tys4, tys5, ↓reduceIte, if_true, if_false, Nat.reduceLT, Nat.reduceLeDiff, Nat.reduceEqDiff, Nat.reduceAdd, Nat.reduceMul, Nat.reduceSub, conds, readsF, readsOk, zero_ne_one_, one_ne_zero_, true_and, and_true, and_self, false_and, and_false, eq_self, reduceCtorEq, Bool.true_and, Bool.and_true, Bool.false_and, Bool.and_false, Bool.false_eq_true, Bool.true_eq_false, forall_const, true_imp_, false_imp_, imp_self, implies_true, Bool.not_true, Bool.not_false, Bool.false_or, Bool.true_or, Bool.or_false, Bool.or_true, beq_true_, beq_false_, Nat.zero_add, Nat.add_zero, fr0_cons_zero, fr0_cons_succ, fr0_0, fr0_1, fr0_2, fr0_3, fr0_4, List.map_cons, List.map_nil, List.map_toArray, Option.map_some, Option.map_none, List.append_toArray, List.nil_append, List.cons_append, List.append_nil, List.all_cons, List.all_nil, List.set_cons_zero, List.set_cons_succ, Array.getD_lit, Array.size_lit, List.reverse_cons, List.reverse_nil, Op.operands, Call.operands, List.toList_toArray, Addr.add_lit, Option.some.injEq, exists_eq_left', Value.pointer.injEq, exists_eq_left, Int.toNat_natCast, Int.reduceToNat, Nat.mul_one, loads, List.length_cons, List.length_nil, Nat.reducePow]
  refine ⟨_, hrp.at_ rfl, (runes_spec _ _ _ hs).mono ?_⟩
  rintro _ w1 ⟨t', rfl, hn, hk⟩
  refine ⟨_, _, rfl, _, run_store1 (by kernel_rfl) (h1.keep hk) (by simp [ruleCells]) rfl, ?_⟩
  have hb := (hk.but b).trans (setRow_but w1 b ((ruleCells r t c).set 2 t'.v).toArray)
  have hrow := (h1.keep hk).set ((ruleCells r t c).set 2 t'.v)
  have hq1 : Row (w1.setRow b ((ruleCells r t c).set 2 t'.v).toArray) q 3 [.int .i64 lo] := (setRow_other _ _ _ _ (by omega)).trans (hrq.keep hk)
  have hn2 := (hn.above h1.lt).keep (setRow_but w1 b ((ruleCells r t c).set 2 t'.v).toArray)
  generalize w1.setRow b ((ruleCells r t c).set 2 t'.v).toArray = w2 at hb hrow hq1 hn2
  refine At.drawn rfl Tryd.func72 (by kernel_rfl) (fun v => Kept w2 v) [0, 1, 2, 3, 4, 5, 6, 7, 8, 9, 10] (by kernel_rfl) ?_ 400 ?_
  · exact (Kept.refl _).drew
  have hkd : Kept w2 w2.drew := (Kept.refl _).drew
  have hl := hn.len
  have hR : ∀ w3, Kept w2 w3 → RuleAt b 36 w3 (rdRun s r (.text lo hi)).1 := fun w3 hk3 =>
    ⟨t', c, hrow.keep hk3, hn2.keep (hk3.but b), h3.keep (hb.trans (hk3.but b)), h4⟩
  cases hok : (runesR s hi).2
  · simp only [↓vcds, vcds2, ↓vcds3, noYs, ↓vcs, ↓vcs2, vcs3, vcs4, vals, blds, vcs5, vcs6, pures, ints, tys0, tys1, tys2, tys3, tys4, tys5, ↓reduceIte, if_true, if_false, Nat.reduceLT, Nat.reduceLeDiff, Nat.reduceEqDiff, Nat.reduceAdd, Nat.reduceMul, Nat.reduceSub, conds, readsF, readsOk, zero_ne_one_, one_ne_zero_, true_and, and_true, and_self, false_and, and_false, eq_self, reduceCtorEq, Bool.true_and, Bool.and_true, Bool.false_and, Bool.and_false, Bool.false_eq_true, Bool.true_eq_false, forall_const, true_imp_, false_imp_, imp_self, implies_true, Bool.not_true, Bool.not_false, Bool.false_or, Bool.true_or, Bool.or_false, Bool.or_true, beq_true_, beq_false_, Nat.zero_add, Nat.add_zero, fr0_cons_zero, fr0_cons_succ, fr0_0, fr0_1, fr0_2, fr0_3, fr0_4, List.map_cons, List.map_nil, List.map_toArray, Option.map_some, Option.map_none, List.append_toArray, List.nil_append, List.cons_append, List.append_nil, List.all_cons, List.all_nil, List.set_cons_zero, List.set_cons_succ, Array.getD_lit, Array.size_lit, List.reverse_cons, List.reverse_nil, Op.operands, Call.operands, List.toList_toArray, Addr.add_lit, Option.some.injEq, exists_eq_left', Value.pointer.injEq, exists_eq_left, Int.toNat_natCast, Int.reduceToNat, Nat.mul_one, loads, List.length_cons, List.length_nil, Nat.reducePow, isLoad, hok]
    exact ⟨⟨none, 0, 0⟩, 0, by simp [rdRun, hok], hR _ hkd, hb.drew⟩
  · simp only [↓vcds, vcds2, ↓vcds3, noYs, ↓vcs, ↓vcs2, vcs3, vcs4, vals, blds, vcs5, vcs6, pures, ints, tys0, tys1, tys2, tys3, tys4, tys5, ↓reduceIte, if_true, if_false, Nat.reduceLT, Nat.reduceLeDiff, Nat.reduceEqDiff, Nat.reduceAdd, Nat.reduceMul, Nat.reduceSub, conds, readsF, readsOk, zero_ne_one_, one_ne_zero_, true_and, and_true, and_self, false_and, and_false, eq_self, reduceCtorEq, Bool.true_and, Bool.and_true, Bool.false_and, Bool.and_false, Bool.false_eq_true, Bool.true_eq_false, forall_const, true_imp_, false_imp_, imp_self, implies_true, Bool.not_true, Bool.not_false, Bool.false_or, Bool.true_or, Bool.or_false, Bool.or_true, beq_true_, beq_false_, Nat.zero_add, Nat.add_zero, fr0_cons_zero, fr0_cons_succ, fr0_0, fr0_1, fr0_2, fr0_3, fr0_4, List.map_cons, List.map_nil, List.map_toArray, Option.map_some, Option.map_none, List.append_toArray, List.nil_append, List.cons_append, List.append_nil, List.all_cons, List.all_nil, List.set_cons_zero, List.set_cons_succ, Array.getD_lit, Array.size_lit, List.reverse_cons, List.reverse_nil, Op.operands, Call.operands, List.toList_toArray, Addr.add_lit, Option.some.injEq, exists_eq_left', Value.pointer.injEq, exists_eq_left, Int.toNat_natCast, Int.reduceToNat, Nat.mul_one, loads, List.length_cons, List.length_nil, Nat.reducePow, isLoad, hok]
    refine ⟨t', fun w' hk' => (hrow.keep hk').at_ rfl, lo, fun w' hk' => (hq1.keep hk').at_ rfl, ?_⟩
    exact ⟨by simp [rdRun, hok, hl], hR _ hkd, hb.drew⟩
theorem cells1_spec (b p q : Nat) (lo hi : Nat) (r : RuleV) (s : List UInt8) (w : World) (h : RuleAt b 36 w r) (hs : s.length ≤ 1000000) (hp : b < p) (hq : b < q) (hrp : Row w p 3 [.int .i64 lo]) (hrq : Row w q 3 [.int .i64 hi]) :
    Calls Tryd.prog 75 #[rp b, .string (str s), rp p, rp q] w fun x w' => x = .returned (.bool (rdRun s r (.cells lo hi)).2) ∧ RuleAt b 36 w' (rdRun s r (.cells lo hi)).1 ∧ KeptBut b w w' := by
  obtain ⟨t, c, h1, h2, h3, h4⟩ := h
  refine calls_of_at (e := ⟨Tryd.prog, 75, 32, Tryd.f75, [.tmp 6], none, []⟩) Tryd.func75 rfl (by simp) rfl ?_; refine vc_sound rfl Tryd.func75 400 (.code _) _ _ ?_
  simp only [↓vcs, ↓vcs2, vcs3, vcs4, vals, blds, vcs5, vcs6, pures, ints, tys0, tys1, tys2, tys3, tys4, tys5, ↓reduceIte, if_true, if_false, Nat.reduceLT, Nat.reduceLeDiff, Nat.reduceEqDiff, Nat.reduceAdd, Nat.reduceMul, Nat.reduceSub, conds, readsF, readsOk, zero_ne_one_, one_ne_zero_, true_and, and_true, and_self, false_and, and_false, eq_self, reduceCtorEq, Bool.true_and, Bool.and_true, Bool.false_and, Bool.and_false, Bool.false_eq_true, Bool.true_eq_false, forall_const, true_imp_, false_imp_, imp_self, implies_true, Bool.not_true, Bool.not_false, Bool.false_or, Bool.true_or, Bool.or_false, Bool.or_true, beq_true_, beq_false_, Nat.zero_add, Nat.add_zero, fr0_cons_zero, fr0_cons_succ, fr0_0, fr0_1, fr0_2, fr0_3, fr0_4, List.map_cons, List.map_nil, List.map_toArray, Option.map_some, Option.map_none, List.append_toArray, List.nil_append, List.cons_append, List.append_nil, List.all_cons, List.all_nil, List.set_cons_zero, List.set_cons_succ, Array.getD_lit, Array.size_lit, List.reverse_cons, List.reverse_nil, Op.operands, Call.operands, List.toList_toArray, Addr.add_lit, Option.some.injEq, exists_eq_left', Value.pointer.injEq, exists_eq_left, Int.toNat_natCast, Int.reduceToNat, Nat.mul_one, loads, List.length_cons, List.length_nil, Nat.reducePow]
  refine (parse_spec _ _ hs).mono ?_
  rintro _ w1 ⟨t', rfl, hn, hk⟩
  refine ⟨_, _, rfl, _, run_store1 (by kernel_rfl) (h1.keep hk) (by simp [ruleCells]) rfl, ?_⟩
  have hb := (hk.but b).trans (setRow_but w1 b ((ruleCells r t c).set 3 t'.v).toArray)
  have hrow := (h1.keep hk).set ((ruleCells r t c).set 3 t'.v)
  have hp1 : Row (w1.setRow b ((ruleCells r t c).set 3 t'.v).toArray) p 3 [.int .i64 lo] := (setRow_other _ _ _ _ (by omega)).trans (hrp.keep hk)
  have hq1 : Row (w1.setRow b ((ruleCells r t c).set 3 t'.v).toArray) q 3 [.int .i64 hi] := (setRow_other _ _ _ _ (by omega)).trans (hrq.keep hk)
  have hn2 := (hn.above h1.lt).keep (setRow_but w1 b ((ruleCells r t c).set 3 t'.v).toArray)
  generalize w1.setRow b ((ruleCells r t c).set 3 t'.v).toArray = w2 at hb hrow hq1 hp1 hn2
  have hl := hn.len
  have hR : RuleAt b 36 w2 (rdRun s r (.cells lo hi)).1 := ⟨t, t', hrow, h2.keep hb, hn2, h4⟩
  cases hok : ((parseDots s).2 == 0)
  · simp only [↓vcs, ↓vcs2, vcs3, vcs4, vals, blds, vcs5, vcs6, pures, ints, tys0, tys1, tys2, tys3, tys4, tys5, ↓reduceIte, if_true, if_false, Nat.reduceLT, Nat.reduceLeDiff, Nat.reduceEqDiff, Nat.reduceAdd, Nat.reduceMul, Nat.reduceSub, conds, readsF, readsOk, zero_ne_one_, one_ne_zero_, true_and, and_true, and_self, false_and, and_false, eq_self, reduceCtorEq, Bool.true_and, Bool.and_true, Bool.false_and, Bool.and_false, Bool.false_eq_true, Bool.true_eq_false, forall_const, true_imp_, false_imp_, imp_self, implies_true, Bool.not_true, Bool.not_false, Bool.false_or, Bool.true_or, Bool.or_false, Bool.or_true, beq_true_, beq_false_, Nat.zero_add, Nat.add_zero, fr0_cons_zero, fr0_cons_succ, fr0_0, fr0_1, fr0_2, fr0_3, fr0_4, List.map_cons, List.map_nil, List.map_toArray, Option.map_some, Option.map_none, List.append_toArray, List.nil_append, List.cons_append, List.append_nil, List.all_cons, List.all_nil, List.set_cons_zero, List.set_cons_succ, Array.getD_lit, Array.size_lit, List.reverse_cons, List.reverse_nil, Op.operands, Call.operands, List.toList_toArray, Addr.add_lit, Option.some.injEq, exists_eq_left', Value.pointer.injEq, exists_eq_left, Int.toNat_natCast, Int.reduceToNat, Nat.mul_one, loads, List.length_cons, List.length_nil, Nat.reducePow]
    exact ⟨by simp [rdRun, hok], hR, hb⟩
  · simp only [↓vcs, ↓vcs2, vcs3, vcs4, vals, blds, vcs5, vcs6, pures, ints, tys0, tys1, tys2, tys3, tys4, tys5, ↓reduceIte, if_true, if_false, Nat.reduceLT, Nat.reduceLeDiff, Nat.reduceEqDiff, Nat.reduceAdd, Nat.reduceMul, Nat.reduceSub, conds, readsF, readsOk, zero_ne_one_, one_ne_zero_, true_and, and_true, and_self, false_and, and_false, eq_self, reduceCtorEq, Bool.true_and, Bool.and_true, Bool.false_and, Bool.and_false, Bool.false_eq_true, Bool.true_eq_false, forall_const, true_imp_, false_imp_, imp_self, implies_true, Bool.not_true, Bool.not_false, Bool.false_or, Bool.true_or, Bool.or_false, Bool.or_true, beq_true_, beq_false_, Nat.zero_add, Nat.add_zero, fr0_cons_zero, fr0_cons_succ, fr0_0, fr0_1, fr0_2, fr0_3, fr0_4, List.map_cons, List.map_nil, List.map_toArray, Option.map_some, Option.map_none, List.append_toArray, List.nil_append, List.cons_append, List.append_nil, List.all_cons, List.all_nil, List.set_cons_zero, List.set_cons_succ, Array.getD_lit, Array.size_lit, List.reverse_cons, List.reverse_nil, Op.operands, Call.operands, List.toList_toArray, Addr.add_lit, Option.some.injEq, exists_eq_left', Value.pointer.injEq, exists_eq_left, Int.toNat_natCast, Int.reduceToNat, Nat.mul_one, loads, List.length_cons, List.length_nil, Nat.reducePow]
    refine ⟨lo, hp1.at_ rfl, ?_⟩
    cases hlo : decide ((lo : Int) ≤ t'.len)
    · simp only [↓vcs, ↓vcs2, vcs3, vcs4, vals, blds, vcs5, vcs6, pures, ints, tys0, tys1, tys2, tys3, tys4, tys5, ↓reduceIte, if_true, if_false, Nat.reduceLT, Nat.reduceLeDiff, Nat.reduceEqDiff, Nat.reduceAdd, Nat.reduceMul, Nat.reduceSub, conds, readsF, readsOk, zero_ne_one_, one_ne_zero_, true_and, and_true, and_self, false_and, and_false, eq_self, reduceCtorEq, Bool.true_and, Bool.and_true, Bool.false_and, Bool.and_false, Bool.false_eq_true, Bool.true_eq_false, forall_const, true_imp_, false_imp_, imp_self, implies_true, Bool.not_true, Bool.not_false, Bool.false_or, Bool.true_or, Bool.or_false, Bool.or_true, beq_true_, beq_false_, Nat.zero_add, Nat.add_zero, fr0_cons_zero, fr0_cons_succ, fr0_0, fr0_1, fr0_2, fr0_3, fr0_4, List.map_cons, List.map_nil, List.map_toArray, Option.map_some, Option.map_none, List.append_toArray, List.nil_append, List.cons_append, List.append_nil, List.all_cons, List.all_nil, List.set_cons_zero, List.set_cons_succ, Array.getD_lit, Array.size_lit, List.reverse_cons, List.reverse_nil, Op.operands, Call.operands, List.toList_toArray, Addr.add_lit, Option.some.injEq, exists_eq_left', Value.pointer.injEq, exists_eq_left, Int.toNat_natCast, Int.reduceToNat, Nat.mul_one, loads, List.length_cons, List.length_nil, Nat.reducePow]
      rw [hl] at hlo
      exact ⟨by simp only [rdRun, hlo, Bool.and_false, Bool.false_and], hR, hb⟩
    · simp only [↓vcs, ↓vcs2, vcs3, vcs4, vals, blds, vcs5, vcs6, pures, ints, tys0, tys1, tys2, tys3, tys4, tys5, ↓reduceIte, if_true, if_false, Nat.reduceLT, Nat.reduceLeDiff, Nat.reduceEqDiff, Nat.reduceAdd, Nat.reduceMul, Nat.reduceSub, conds, readsF, readsOk, zero_ne_one_, one_ne_zero_, true_and, and_true, and_self, false_and, and_false, eq_self, reduceCtorEq, Bool.true_and, Bool.and_true, Bool.false_and, Bool.and_false, Bool.false_eq_true, Bool.true_eq_false, forall_const, true_imp_, false_imp_, imp_self, implies_true, Bool.not_true, Bool.not_false, Bool.false_or, Bool.true_or, Bool.or_false, Bool.or_true, beq_true_, beq_false_, Nat.zero_add, Nat.add_zero, fr0_cons_zero, fr0_cons_succ, fr0_0, fr0_1, fr0_2, fr0_3, fr0_4, List.map_cons, List.map_nil, List.map_toArray, Option.map_some, Option.map_none, List.append_toArray, List.nil_append, List.cons_append, List.append_nil, List.all_cons, List.all_nil, List.set_cons_zero, List.set_cons_succ, Array.getD_lit, Array.size_lit, List.reverse_cons, List.reverse_nil, Op.operands, Call.operands, List.toList_toArray, Addr.add_lit, Option.some.injEq, exists_eq_left', Value.pointer.injEq, exists_eq_left, Int.toNat_natCast, Int.reduceToNat, Nat.mul_one, loads, List.length_cons, List.length_nil, Nat.reducePow]
      refine ⟨hi, hq1.at_ rfl, ?_⟩
      rw [hl] at hlo
      exact ⟨by simp only [rdRun, hlo, hok, hl, Bool.true_and], hR, hb⟩

/-- A reader's call, whichever it is. -/
theorem rd_spec (b : Nat) (v : Value) (rd : Rd) (r : RuleV) (s : List UInt8) (w : World) (hv : elRd.rel (fun k => b < k ∧ k < w.heap.size) w [v] rd) (h : RuleAt b 36 w r) (hs : s.length ≤ 1000000) :
    callE Tryd.prog v #[rp b, .string (str s)] w fun x w' => x = .returned (.bool (rdRun s r rd).2) ∧ RuleAt b 36 w' (rdRun s r rd).1 ∧ KeptBut b w w' := by
  cases rd with
  | name => obtain rfl : v = .func (.func 51) #[] #[] := by simpa [elRd] using hv
            exact ⟨by kernel_rfl, name_spec b r s w h hs⟩
  | left => obtain rfl : v = .func (.func 57) #[] #[] := by simpa [elRd] using hv
            exact ⟨by kernel_rfl, left_spec b r s w h hs⟩
  | right => obtain rfl : v = .func (.func 58) #[] #[] := by simpa [elRd] using hv
             exact ⟨by kernel_rfl, right_spec b r s w h hs⟩
  | text lo hi =>
    obtain ⟨p, q, hv, h1, h2, h3, h4⟩ := hv
    simp only [List.cons.injEq, and_true] at hv
    subst hv
    exact ⟨by kernel_rfl, text1_spec b p q lo hi r s w h hs h1.1 h2.1 h3 h4⟩
  | cells lo hi =>
    obtain ⟨p, q, hv, h1, h2, h3, h4⟩ := hv
    simp only [List.cons.injEq, and_true] at hv
    subst hv
    exact ⟨by kernel_rfl, cells1_spec b p q lo hi r s w h hs h1.1 h2.1 h3 h4⟩

def tellFn : Nat → Nat
  | 1 => 49
  | 2 => 53
  | 3 => 56
  | _ => 59
/-- A form in memory. -/
def elForm : El FormV where
  z := 4
  rel G w cs x := ∃ s : Sl, cs = [.string (str x.word), .int .u8 x.kind.toNat, s.v, .func (.func (tellFn x.tell)) #[] #[]] ∧ SlIs elRd G w s x.rds
  len := fun ⟨_, h, _⟩ => by rw [h]; rfl
  frame := fun hf ⟨s, h1, h2⟩ => ⟨s, h1, h2.frame hf⟩
  mono := fun hf ⟨s, h1, h2⟩ => ⟨s, h1, h2.mono hf⟩

end Go.Proofs.YtcjdbmcklemkkaaDoor
