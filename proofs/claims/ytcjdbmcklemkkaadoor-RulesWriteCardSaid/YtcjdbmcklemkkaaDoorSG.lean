/- Contracts of inner functions of the program, and what they compute: parts of a proof. -/
import Derived.Test.YtcjdbmcklemkkaaDoorSF
import Derived.Test.YtcjdbmcklemkkaaDoorVcArr
namespace Go.Proofs.YtcjdbmcklemkkaaDoor
open Go Go.Proofs Go.Vc Go.RowKit
set_option maxRecDepth 100000
set_option linter.unusedSimpArgs false
set_option linter.unusedVariables false


theorem cells_i32 {G : Nat → Prop} {w : World} {s : Sl} {l : List Int} (h : SlIs (elInt .i32) G w s l) : Vc.rowAt w (adr s.a) (l.flatMap fI32) := by
  intro i v hv
  have e : l.flatMap fI32 = l.map fun n => Value.int .i32 n := by
    clear h hv; induction l with
    | nil => rfl
    | cons n l ih => simp [List.flatMap_cons, ih, fI32]
  rw [e, List.getElem?_map] at hv
  obtain ⟨c, hc, rfl⟩ := Option.map_eq_some_iff.1 hv
  obtain ⟨hi, rfl⟩ := List.getElem?_eq_some_iff.1 hc
  have := (h.int hi).1 0 _ rfl
  rwa [Addr.add_zero'] at this
theorem cells_u8' {G : Nat → Prop} {w : World} {s : Sl} {l : List UInt8} (h : SlIs elU8 G w s l) : Vc.rowAt w (adr s.a) (l.flatMap fU8) := by
  rw [flatMap_fU8]; exact h.cells_u8
theorem one_i32 (l : List Int) : ∀ u ∈ l.flatMap fI32, u.oneCell' = true := by
  intro u hu; obtain ⟨x, _, hx⟩ := List.mem_flatMap.1 hu; exact fI32_one x u hx
theorem one_u8 (l : List UInt8) : ∀ u ∈ l.flatMap fU8, u.oneCell' = true := by
  intro u hu; obtain ⟨x, _, hx⟩ := List.mem_flatMap.1 hu; exact fU8_one x u hx

theorem New.but {α : Type} {E : El α} {W w w' : World} {s : Sl} {l : List α} (h : New E W w s l) {b : Nat} (hk : KeptBut b w w') (hb : b < W.heap.size) : New E W w' s l :=
  (SlIs.frame h (fun k hk2 => hk.block k hk2.2 (by omega))).mono (fun k hk2 => ⟨hk2.1, Nat.lt_of_lt_of_le hk2.2 hk.size⟩)

set_option maxHeartbeats 2000000 in
theorem copy_spec (r : RuleV) (t c : Sl) (w : World) (ht : Is (elInt .i32) w t r.text) (hc : Is elU8 w c r.cells) (hl : r.text.length ≤ 1000000) (hcl : r.cells.length ≤ 1000000) :
    Calls Tryd.prog 11 #[.agg (ruleCells r t c).toArray] w fun x w' => ∃ t' c' : Sl, x = .returned (.agg (ruleCells r t' c').toArray) ∧ New (elInt .i32) w w' t' r.text ∧ New elU8 w w' c' r.cells ∧ Kept w w' := by
  refine calls_of_at (e := ⟨Tryd.prog, 11, 14, Tryd.f11, [.cell 2 36], none, []⟩) Tryd.func11 rfl (by simp) rfl ?_; refine vc_sound rfl Tryd.func11 400 (.code _) _ _ ?_
  have k1 : Kept w (w.alloc (.cells (ruleCells r t c).toArray 36)) := (Kept.refl w).alloc _
  have hsz : (w.alloc (.cells (ruleCells r t c).toArray 36)).heap.size = w.heap.size + 1 := by simp only [World.alloc, Array.size_push]
  have k2 : Kept (w.alloc (.cells (ruleCells r t c).toArray 36)) ((w.alloc (.cells (ruleCells r t c).toArray 36)).alloc (.cells [.int .u8 0, .string ⟨#[]⟩, Sl.v ⟨none, 0, 0⟩, Sl.v ⟨none, 0, 0⟩, .string ⟨#[]⟩, .string ⟨#[]⟩].toArray 36)) := (Kept.refl _).alloc _
  have ra := (Row.new w 36 (ruleCells r t c)).keep k2
  have rb := Row.new (w.alloc (.cells (ruleCells r t c).toArray 36)) 36 [.int .u8 0, .string ⟨#[]⟩, Sl.v ⟨none, 0, 0⟩, Sl.v ⟨none, 0, 0⟩, .string ⟨#[]⟩, .string ⟨#[]⟩]
  have z2 : ((w.alloc (.cells (ruleCells r t c).toArray 36)).alloc (.cells [.int .u8 0, .string ⟨#[]⟩, Sl.v ⟨none, 0, 0⟩, Sl.v ⟨none, 0, 0⟩, .string ⟨#[]⟩, .string ⟨#[]⟩].toArray 36)).heap.size = w.heap.size + 2 := by simp only [World.alloc, Array.size_push]
  simp only [purCs, ↓vss, ↓vsk, vsk, ↓vss2, vcs3, vcs4, vals, blds, vcs5, vcs6, pures, ints, tys0, tys1, tys2, tys3, tys4, tys5, ↓reduceIte, if_true, if_false, Nat.reduceLT, Nat.reduceLeDiff, Nat.reduceEqDiff, Nat.reduceAdd, Nat.reduceMul, Nat.reduceSub, conds, readsF, readsOk, zero_ne_one_, one_ne_zero_, true_and, and_true, and_self, false_and, and_false, eq_self, reduceCtorEq, Bool.true_and, Bool.and_true, Bool.false_and, Bool.and_false, Bool.false_eq_true, Bool.true_eq_false, forall_const, true_imp_, false_imp_, imp_self, implies_true, Bool.not_true, Bool.not_false, Bool.false_or, Bool.true_or, Bool.or_false, Bool.or_true, beq_true_, beq_false_, Nat.zero_add, Nat.add_zero, fr0_cons_zero, fr0_cons_succ, fr0_0, fr0_1, fr0_2, fr0_3, fr0_4, List.map_cons, List.map_nil, List.map_toArray, Option.map_some, Option.map_none, List.append_toArray, List.nil_append, List.cons_append, List.append_nil, List.all_cons, List.all_nil, List.set_cons_zero, List.set_cons_succ, Array.getD_lit, Array.size_lit, List.reverse_cons, List.reverse_nil, Op.operands, Call.operands, List.toList_toArray, Addr.add_lit, Option.some.injEq, exists_eq_left', Value.pointer.injEq, exists_eq_left, Int.toNat_natCast, Int.reduceToNat, Nat.mul_one, List.length_cons, List.length_nil, Nat.reducePow, hsz, z2]
  rw [hsz] at rb
  have hk := k1.trans k2
  clear k1 k2 hsz
  generalize (w.alloc (.cells (ruleCells r t c).toArray 36)).alloc (.cells [.int .u8 0, .string ⟨#[]⟩, Sl.v ⟨none, 0, 0⟩, Sl.v ⟨none, 0, 0⟩, .string ⟨#[]⟩, .string ⟨#[]⟩].toArray 36) = w2 at *
  have hs2 : w.heap.size + 2 = w2.heap.size := z2.symm
  have ht2 := ht.keep hk
  have hc2 := hc.keep hk
  have ka : Kept w2 (w2.alloc (.cells ([] : List Value).toArray 21)) := (Kept.refl _).alloc _
  have l2 := (ra.keep ka).ld (P := Tryd.prog) (t := 34) 2 rfl (by kernel_rfl) (by kernel_rfl)
  simp only [purCs, ↓vss, ↓vsk, vsk, ↓vss2, vcs3, vcs4, vals, blds, vcs5, vcs6, pures, ints, tys0, tys1, tys2, tys3, tys4, tys5, ↓reduceIte, if_true, if_false, Nat.reduceLT, Nat.reduceLeDiff, Nat.reduceEqDiff, Nat.reduceAdd, Nat.reduceMul, Nat.reduceSub, conds, readsF, readsOk, zero_ne_one_, one_ne_zero_, true_and, and_true, and_self, false_and, and_false, eq_self, reduceCtorEq, Bool.true_and, Bool.and_true, Bool.false_and, Bool.and_false, Bool.false_eq_true, Bool.true_eq_false, forall_const, true_imp_, false_imp_, imp_self, implies_true, Bool.not_true, Bool.not_false, Bool.false_or, Bool.true_or, Bool.or_false, Bool.or_true, beq_true_, beq_false_, Nat.zero_add, Nat.add_zero, fr0_cons_zero, fr0_cons_succ, fr0_0, fr0_1, fr0_2, fr0_3, fr0_4, List.map_cons, List.map_nil, List.map_toArray, Option.map_some, Option.map_none, List.append_toArray, List.nil_append, List.cons_append, List.append_nil, List.all_cons, List.all_nil, List.set_cons_zero, List.set_cons_succ, Array.getD_lit, Array.size_lit, List.reverse_cons, List.reverse_nil, Op.operands, Call.operands, List.toList_toArray, Addr.add_lit, Option.some.injEq, exists_eq_left', Value.pointer.injEq, exists_eq_left, Int.toNat_natCast, Int.reduceToNat, Nat.mul_one, List.length_cons, List.length_nil, Nat.reducePow, l2]
  obtain ⟨t', w3, a1, a2, a3, k3⟩ := append_copy (E := elInt .i32) (ty := 34) app34 (W := w) (f := fI32) hk.size ht2 (cells_i32 ht2) fI32_len (one_i32 _) hl
  rw [← hs2] at a1
  refine exR.of rfl a1 ?_
  have hwr : ∀ x ∈ r.text, IntKind.i32.wrap x = x := by
    intro x hx; obtain ⟨i, hi, rfl⟩ := List.mem_iff_getElem.1 hx; exact (ht.int hi).2
  have n3 : New (elInt .i32) w2 w3 t' r.text := Mine.newI32 ⟨a2, k3⟩ (by omega) hwr
  simp only [purCs, ↓vss, ↓vsk, vsk, ↓vss2, vcs3, vcs4, vals, blds, vcs5, vcs6, pures, ints, tys0, tys1, tys2, tys3, tys4, tys5, ↓reduceIte, if_true, if_false, Nat.reduceLT, Nat.reduceLeDiff, Nat.reduceEqDiff, Nat.reduceAdd, Nat.reduceMul, Nat.reduceSub, conds, readsF, readsOk, zero_ne_one_, one_ne_zero_, true_and, and_true, and_self, false_and, and_false, eq_self, reduceCtorEq, Bool.true_and, Bool.and_true, Bool.false_and, Bool.and_false, Bool.false_eq_true, Bool.true_eq_false, forall_const, true_imp_, false_imp_, imp_self, implies_true, Bool.not_true, Bool.not_false, Bool.false_or, Bool.true_or, Bool.or_false, Bool.or_true, beq_true_, beq_false_, Nat.zero_add, Nat.add_zero, fr0_cons_zero, fr0_cons_succ, fr0_0, fr0_1, fr0_2, fr0_3, fr0_4, List.map_cons, List.map_nil, List.map_toArray, Option.map_some, Option.map_none, List.append_toArray, List.nil_append, List.cons_append, List.append_nil, List.all_cons, List.all_nil, List.set_cons_zero, List.set_cons_succ, Array.getD_lit, Array.size_lit, List.reverse_cons, List.reverse_nil, Op.operands, Call.operands, List.toList_toArray, Addr.add_lit, Option.some.injEq, exists_eq_left', Value.pointer.injEq, exists_eq_left, Int.toNat_natCast, Int.reduceToNat, Nat.mul_one, List.length_cons, List.length_nil, Nat.reducePow]
  refine store_row (by kernel_rfl) (ra.keep k3) (by simp [ruleCells]) rfl ?_
  intro w4 ra4 b4
  have rb4 := (rb.keep k3).but b4 (by omega)
  have n4 := New.but n3 b4 (by omega)
  have hc4 : Is elU8 w4 c r.cells := by
    have h3 := hc.keep (hk.trans k3)
    refine ((hc.frame fun k hk2 => ?_).mono fun k hk2 => ?_)
    · exact (b4.block k (by have := (hk.trans k3).size; omega) (by omega)).trans ((hk.trans k3).block k hk2)
    · have := (hk.trans k3).size; have := b4.size; omega
  have hk4 : Kept w w4 := KeptBut.kept (hk.trans k3) b4 (Nat.le_refl _)
  have z4 : w.heap.size + 2 ≤ w4.heap.size := by have := k3.size; have := b4.size; omega
  simp only [purCs, ↓vss, ↓vsk, vsk, ↓vss2, vcs3, vcs4, vals, blds, vcs5, vcs6, pures, ints, tys0, tys1, tys2, tys3, tys4, tys5, ↓reduceIte, if_true, if_false, Nat.reduceLT, Nat.reduceLeDiff, Nat.reduceEqDiff, Nat.reduceAdd, Nat.reduceMul, Nat.reduceSub, conds, readsF, readsOk, zero_ne_one_, one_ne_zero_, true_and, and_true, and_self, false_and, and_false, eq_self, reduceCtorEq, Bool.true_and, Bool.and_true, Bool.false_and, Bool.and_false, Bool.false_eq_true, Bool.true_eq_false, forall_const, true_imp_, false_imp_, imp_self, implies_true, Bool.not_true, Bool.not_false, Bool.false_or, Bool.true_or, Bool.or_false, Bool.or_true, beq_true_, beq_false_, Nat.zero_add, Nat.add_zero, fr0_cons_zero, fr0_cons_succ, fr0_0, fr0_1, fr0_2, fr0_3, fr0_4, List.map_cons, List.map_nil, List.map_toArray, Option.map_some, Option.map_none, List.append_toArray, List.nil_append, List.cons_append, List.append_nil, List.all_cons, List.all_nil, List.set_cons_zero, List.set_cons_succ, Array.getD_lit, Array.size_lit, List.reverse_cons, List.reverse_nil, Op.operands, Call.operands, List.toList_toArray, Addr.add_lit, Option.some.injEq, exists_eq_left', Value.pointer.injEq, exists_eq_left, Int.toNat_natCast, Int.reduceToNat, Nat.mul_one, List.length_cons, List.length_nil, Nat.reducePow]
  have kb : Kept w4 (w4.alloc (.cells ([] : List Value).toArray 5)) := (Kept.refl _).alloc _
  have l3 := (ra4.keep kb).ld (P := Tryd.prog) (t := 31) 3 rfl (by kernel_rfl) (by kernel_rfl)
  simp only [purCs, ↓vss, ↓vsk, vsk, ↓vss2, vcs3, vcs4, vals, blds, vcs5, vcs6, pures, ints, tys0, tys1, tys2, tys3, tys4, tys5, ↓reduceIte, if_true, if_false, Nat.reduceLT, Nat.reduceLeDiff, Nat.reduceEqDiff, Nat.reduceAdd, Nat.reduceMul, Nat.reduceSub, conds, readsF, readsOk, zero_ne_one_, one_ne_zero_, true_and, and_true, and_self, false_and, and_false, eq_self, reduceCtorEq, Bool.true_and, Bool.and_true, Bool.false_and, Bool.and_false, Bool.false_eq_true, Bool.true_eq_false, forall_const, true_imp_, false_imp_, imp_self, implies_true, Bool.not_true, Bool.not_false, Bool.false_or, Bool.true_or, Bool.or_false, Bool.or_true, beq_true_, beq_false_, Nat.zero_add, Nat.add_zero, fr0_cons_zero, fr0_cons_succ, fr0_0, fr0_1, fr0_2, fr0_3, fr0_4, List.map_cons, List.map_nil, List.map_toArray, Option.map_some, Option.map_none, List.append_toArray, List.nil_append, List.cons_append, List.append_nil, List.all_cons, List.all_nil, List.set_cons_zero, List.set_cons_succ, Array.getD_lit, Array.size_lit, List.reverse_cons, List.reverse_nil, Op.operands, Call.operands, List.toList_toArray, Addr.add_lit, Option.some.injEq, exists_eq_left', Value.pointer.injEq, exists_eq_left, Int.toNat_natCast, Int.reduceToNat, Nat.mul_one, List.length_cons, List.length_nil, Nat.reducePow, l3]
  obtain ⟨c', w5, c1, c2, c3, k5⟩ := append_copy (E := elU8) (ty := 31) app31 (W := w) (f := fU8) hk4.size hc4 (cells_u8' hc4) fU8_len (one_u8 _) hcl
  refine exR.of rfl c1 ?_
  have n5 : New elU8 w4 w5 c' r.cells := Mine.newU8 ⟨c2, k5⟩ (by omega)
  simp only [purCs, ↓vss, ↓vsk, vsk, ↓vss2, vcs3, vcs4, vals, blds, vcs5, vcs6, pures, ints, tys0, tys1, tys2, tys3, tys4, tys5, ↓reduceIte, if_true, if_false, Nat.reduceLT, Nat.reduceLeDiff, Nat.reduceEqDiff, Nat.reduceAdd, Nat.reduceMul, Nat.reduceSub, conds, readsF, readsOk, zero_ne_one_, one_ne_zero_, true_and, and_true, and_self, false_and, and_false, eq_self, reduceCtorEq, Bool.true_and, Bool.and_true, Bool.false_and, Bool.and_false, Bool.false_eq_true, Bool.true_eq_false, forall_const, true_imp_, false_imp_, imp_self, implies_true, Bool.not_true, Bool.not_false, Bool.false_or, Bool.true_or, Bool.or_false, Bool.or_true, beq_true_, beq_false_, Nat.zero_add, Nat.add_zero, fr0_cons_zero, fr0_cons_succ, fr0_0, fr0_1, fr0_2, fr0_3, fr0_4, List.map_cons, List.map_nil, List.map_toArray, Option.map_some, Option.map_none, List.append_toArray, List.nil_append, List.cons_append, List.append_nil, List.all_cons, List.all_nil, List.set_cons_zero, List.set_cons_succ, Array.getD_lit, Array.size_lit, List.reverse_cons, List.reverse_nil, Op.operands, Call.operands, List.toList_toArray, Addr.add_lit, Option.some.injEq, exists_eq_left', Value.pointer.injEq, exists_eq_left, Int.toNat_natCast, Int.reduceToNat, Nat.mul_one, List.length_cons, List.length_nil, Nat.reducePow]
  refine store_row (by kernel_rfl) (ra4.keep k5) (by simp [ruleCells]) rfl ?_
  intro w6 ra6 b6
  have rb6 := (rb4.keep k5).but b6 (by omega)
  have n6 := New.but n5 b6 (by omega)
  have m6 := New.but (n4.keep k5) b6 (by omega)
  have hcells : ((ruleCells r t c).set 2 t'.v).set 3 c'.v = ruleCells r t' c' := rfl
  rw [hcells] at ra6
  have lA := ra6.ldAll (P := Tryd.prog) (t := 36) (by kernel_rfl)
  simp only [purCs, ↓vss, ↓vsk, vsk, ↓vss2, vcs3, vcs4, vals, blds, vcs5, vcs6, pures, ints, tys0, tys1, tys2, tys3, tys4, tys5, ↓reduceIte, if_true, if_false, Nat.reduceLT, Nat.reduceLeDiff, Nat.reduceEqDiff, Nat.reduceAdd, Nat.reduceMul, Nat.reduceSub, conds, readsF, readsOk, zero_ne_one_, one_ne_zero_, true_and, and_true, and_self, false_and, and_false, eq_self, reduceCtorEq, Bool.true_and, Bool.and_true, Bool.false_and, Bool.and_false, Bool.false_eq_true, Bool.true_eq_false, forall_const, true_imp_, false_imp_, imp_self, implies_true, Bool.not_true, Bool.not_false, Bool.false_or, Bool.true_or, Bool.or_false, Bool.or_true, beq_true_, beq_false_, Nat.zero_add, Nat.add_zero, fr0_cons_zero, fr0_cons_succ, fr0_0, fr0_1, fr0_2, fr0_3, fr0_4, List.map_cons, List.map_nil, List.map_toArray, Option.map_some, Option.map_none, List.append_toArray, List.nil_append, List.cons_append, List.append_nil, List.all_cons, List.all_nil, List.set_cons_zero, List.set_cons_succ, Array.getD_lit, Array.size_lit, List.reverse_cons, List.reverse_nil, Op.operands, Call.operands, List.toList_toArray, Addr.add_lit, Option.some.injEq, exists_eq_left', Value.pointer.injEq, exists_eq_left, Int.toNat_natCast, Int.reduceToNat, Nat.mul_one, List.length_cons, List.length_nil, Nat.reducePow, lA]
  refine store_all (new := ruleCells r t' c') (by kernel_rfl) rb6 rfl (by simp [ruleCells, Value.oneCell', Sl.v]) ?_
  intro w7 rb7 b7
  have lB := rb7.ldAll (P := Tryd.prog) (t := 36) (by kernel_rfl)
  simp only [purCs, ↓vss, ↓vsk, vsk, ↓vss2, vcs3, vcs4, vals, blds, vcs5, vcs6, pures, ints, tys0, tys1, tys2, tys3, tys4, tys5, ↓reduceIte, if_true, if_false, Nat.reduceLT, Nat.reduceLeDiff, Nat.reduceEqDiff, Nat.reduceAdd, Nat.reduceMul, Nat.reduceSub, conds, readsF, readsOk, zero_ne_one_, one_ne_zero_, true_and, and_true, and_self, false_and, and_false, eq_self, reduceCtorEq, Bool.true_and, Bool.and_true, Bool.false_and, Bool.and_false, Bool.false_eq_true, Bool.true_eq_false, forall_const, true_imp_, false_imp_, imp_self, implies_true, Bool.not_true, Bool.not_false, Bool.false_or, Bool.true_or, Bool.or_false, Bool.or_true, beq_true_, beq_false_, Nat.zero_add, Nat.add_zero, fr0_cons_zero, fr0_cons_succ, fr0_0, fr0_1, fr0_2, fr0_3, fr0_4, List.map_cons, List.map_nil, List.map_toArray, Option.map_some, Option.map_none, List.append_toArray, List.nil_append, List.cons_append, List.append_nil, List.all_cons, List.all_nil, List.set_cons_zero, List.set_cons_succ, Array.getD_lit, Array.size_lit, List.reverse_cons, List.reverse_nil, Op.operands, Call.operands, List.toList_toArray, Addr.add_lit, Option.some.injEq, exists_eq_left', Value.pointer.injEq, exists_eq_left, Int.toNat_natCast, Int.reduceToNat, Nat.mul_one, List.length_cons, List.length_nil, Nat.reducePow, lB]
  exact ⟨t', c', rfl, (New.but m6 b7 (by omega)).old (by omega), (New.but n6 b7 (by omega)).old (by omega), KeptBut.kept (KeptBut.kept (hk4.trans k5) b6 (Nat.le_refl _)) b7 (by omega)⟩
end Go.Proofs.YtcjdbmcklemkkaaDoor
