/- Contracts of inner functions of the program, and what they compute: parts of a proof. -/
import Derived.Test.YtcjdbmcklemkkaaDoorRN
namespace Go.Proofs.YtcjdbmcklemkkaaDoor
open Go Go.Proofs Go.Vc Go.RowKit
set_option maxRecDepth 100000
set_option linter.unusedSimpArgs false
set_option linter.unusedVariables false


theorem toldL_len200 {r : RuleV} (h : r.text.length ≤ 200) : (toldL r.text).length ≤ 1400 := by have := toldL_len r.text; omega
/-- Sizes. -/
structure Small (r : RuleV) : Prop where
  cells : r.cells.length ≤ 90000
  name : r.name.length ≤ 90000
  left : r.left.length ≤ 90000
  right : r.right.length ≤ 90000
theorem tellWords_len {r : RuleV} (h : Small r) (ht : r.text.length ≤ 200) (f : FormV) : ∀ x ∈ tellWords f r, x.length ≤ 1000000 := by
  have h1 := toldL_len200 ht
  have h2 := textDots_len' r.cells
  have h3 := starOf_len r.left
  have h4 := starOf_len r.right
  obtain ⟨c1, c2, c3, c4⟩ := h
  unfold tellWords
  intro x hx
  split at hx <;> simp only [List.mem_cons, List.not_mem_nil, or_false] at hx
  · subst hx; omega
  · rcases hx with rfl | rfl <;> omega
  · rcases hx with rfl | rfl <;> omega
  · rcases hx with rfl | rfl | rfl | rfl <;> omega
theorem tellWords_num (f : FormV) (r : RuleV) : (tellWords f r).length ≤ 4 := by unfold tellWords; split <;> simp
theorem formsL_ok : ∀ f ∈ formsL, (f.tell = 1 ∨ f.tell = 2 ∨ f.tell = 3 ∨ f.tell = 4) ∧ f.word.length ≤ 10 := by decide

theorem flatMap_fStr (l : List (List UInt8)) : l.flatMap fStr = l.map fun x => Value.string (str x) := by induction l with | nil => rfl | cons x l ih => simp [List.flatMap_cons, ih, fStr]
theorem rowStr {G : Nat → Prop} {w : World} {s : Sl} {l : List (List UInt8)} (h : SlIs elStr G w s l) : Vc.rowAt w (adr s.a) (l.flatMap fStr) := by
  intro i v hv
  rw [flatMap_fStr, List.getElem?_map] at hv
  obtain ⟨c, hc, rfl⟩ := Option.map_eq_some_iff.1 hv
  obtain ⟨hi, rfl⟩ := List.getElem?_eq_some_iff.1 hc
  have := (h.str hi).1 0 _ rfl
  rwa [Addr.add_zero'] at this
theorem flatMap_fStr_one (l : List (List UInt8)) : ∀ u ∈ l.flatMap fStr, u.oneCell' = true := by
  intro u hu; rw [flatMap_fStr] at hu; obtain ⟨x, _, rfl⟩ := List.mem_map.1 hu; rfl

set_option maxHeartbeats 4000000 in
theorem tell_spec (r : RuleV) (t c : Sl) (w : World) (hS : Small r) (ht : Is (elInt .i32) w t r.text) (hc : Is elU8 w c r.cells) :
    Calls Tryd.prog 19 #[.agg (ruleCells r t c).toArray] w fun x w' => ∃ s : Sl, x = .returned s.v ∧ (match tellOf r with | none => s = ⟨none, 0, 0⟩ | some l => (∃ b, s.a = some ⟨b, 0, none⟩) ∧ New elStr w w' s l) ∧ Kept w w' := by
  refine calls_of_at (e := ⟨Tryd.prog, 19, 51, Tryd.f19, [.tmp 2], none, []⟩) Tryd.func19 rfl (by simp) rfl ?_; refine vc_sound rfl Tryd.func19 400 (.code _) _ _ ?_
  have k1 : Kept w (w.alloc (.cells (ruleCells r t c).toArray 36)) := (Kept.refl w).alloc _
  have ra := Row.new w 36 (ruleCells r t c)
  simp only [purCs, ↓vss, ↓vsk, vsk, ↓vss2, vcs3, vcs4, vals, blds, vcs5, vcs6, pures, ints, tys0, tys1, tys2, tys3, tys4, tys5, ↓reduceIte, if_true, if_false, Nat.reduceLT, Nat.reduceLeDiff, Nat.reduceEqDiff, Nat.reduceAdd, Nat.reduceMul, Nat.reduceSub, conds, readsF, readsOk, zero_ne_one_, one_ne_zero_, true_and, and_true, and_self, false_and, and_false, eq_self, reduceCtorEq, Bool.true_and, Bool.and_true, Bool.false_and, Bool.and_false, Bool.false_eq_true, Bool.true_eq_false, forall_const, true_imp_, false_imp_, imp_self, implies_true, Bool.not_true, Bool.not_false, Bool.false_or, Bool.true_or, Bool.or_false, Bool.or_true, beq_true_, beq_false_, Nat.zero_add, Nat.add_zero, fr0_cons_zero, fr0_cons_succ, fr0_0, fr0_1, fr0_2, fr0_3, fr0_4, List.map_cons, List.map_nil, List.map_toArray, Option.map_some, Option.map_none, List.append_toArray, List.nil_append, List.cons_append, List.append_nil, List.all_cons, List.all_nil, List.set_cons_zero, List.set_cons_succ, Array.getD_lit, Array.size_lit, List.reverse_cons, List.reverse_nil, Op.operands, Call.operands, List.toList_toArray, Addr.add_lit, Option.some.injEq, exists_eq_left', Value.pointer.injEq, exists_eq_left, Int.toNat_natCast, Int.reduceToNat, Nat.mul_one, List.length_cons, List.length_nil, Nat.reducePow]
  generalize w.alloc (.cells (ruleCells r t c).toArray 36) = w1 at *
  refine (forms_spec _).mono ?_
  rintro _ w2 ⟨fs, rfl, hfs, k2⟩
  refine kC.in_ (by kernel_rfl) ?_
  simp only [purCs, ↓vss, ↓vsk, vsk, ↓vss2, vcs3, vcs4, vals, blds, vcs5, vcs6, pures, ints, tys0, tys1, tys2, tys3, tys4, tys5, ↓reduceIte, if_true, if_false, Nat.reduceLT, Nat.reduceLeDiff, Nat.reduceEqDiff, Nat.reduceAdd, Nat.reduceMul, Nat.reduceSub, conds, readsF, readsOk, zero_ne_one_, one_ne_zero_, true_and, and_true, and_self, false_and, and_false, eq_self, reduceCtorEq, Bool.true_and, Bool.and_true, Bool.false_and, Bool.and_false, Bool.false_eq_true, Bool.true_eq_false, forall_const, true_imp_, false_imp_, imp_self, implies_true, Bool.not_true, Bool.not_false, Bool.false_or, Bool.true_or, Bool.or_false, Bool.or_true, beq_true_, beq_false_, Nat.zero_add, Nat.add_zero, fr0_cons_zero, fr0_cons_succ, fr0_0, fr0_1, fr0_2, fr0_3, fr0_4, List.map_cons, List.map_nil, List.map_toArray, Option.map_some, Option.map_none, List.append_toArray, List.nil_append, List.cons_append, List.append_nil, List.all_cons, List.all_nil, List.set_cons_zero, List.set_cons_succ, Array.getD_lit, Array.size_lit, List.reverse_cons, List.reverse_nil, Op.operands, Call.operands, List.toList_toArray, Addr.add_lit, Option.some.injEq, exists_eq_left', Value.pointer.injEq, exists_eq_left, Int.toNat_natCast, Int.reduceToNat, Nat.mul_one, List.length_cons, List.length_nil, Nat.reducePow]
  have hfl : fs.len = 6 := hfs.len
  refine At.ind (fun m (i : Nat) f w' => f 1 = rp w.heap.size ∧ f 8 = fs.v ∧ f 9 = .int .i64 6 ∧ f 10 = .int .i64 i ∧ m = 6 - i ∧ i ≤ 6 ∧ Kept w2 w' ∧ ((formsL.take i).find? (fun f => f.kind == r.kind) = none ∨ (tellOf r = none ∧ ∀ f ∈ formsL.drop i, (f.kind == r.kind) = false))) (m := 6) (x := 0) ?_ ?_
  · simp only [purCs, ↓vss, ↓vsk, vsk, ↓vss2, vcs3, vcs4, vals, blds, vcs5, vcs6, pures, ints, tys0, tys1, tys2, tys3, tys4, tys5, ↓reduceIte, if_true, if_false, Nat.reduceLT, Nat.reduceLeDiff, Nat.reduceEqDiff, Nat.reduceAdd, Nat.reduceMul, Nat.reduceSub, conds, readsF, readsOk, zero_ne_one_, one_ne_zero_, true_and, and_true, and_self, false_and, and_false, eq_self, reduceCtorEq, Bool.true_and, Bool.and_true, Bool.false_and, Bool.and_false, Bool.false_eq_true, Bool.true_eq_false, forall_const, true_imp_, false_imp_, imp_self, implies_true, Bool.not_true, Bool.not_false, Bool.false_or, Bool.true_or, Bool.or_false, Bool.or_true, beq_true_, beq_false_, Nat.zero_add, Nat.add_zero, fr0_cons_zero, fr0_cons_succ, fr0_0, fr0_1, fr0_2, fr0_3, fr0_4, List.map_cons, List.map_nil, List.map_toArray, Option.map_some, Option.map_none, List.append_toArray, List.nil_append, List.cons_append, List.append_nil, List.all_cons, List.all_nil, List.set_cons_zero, List.set_cons_succ, Array.getD_lit, Array.size_lit, List.reverse_cons, List.reverse_nil, Op.operands, Call.operands, List.toList_toArray, Addr.add_lit, Option.some.injEq, exists_eq_left', Value.pointer.injEq, exists_eq_left, Int.toNat_natCast, Int.reduceToNat, Nat.mul_one, List.length_cons, List.length_nil, Nat.reducePow, hfl]
    exact ⟨rfl, rfl, Kept.refl _, .inl rfl⟩
  have ra2 := ra.keep k2
  have hk2 := k1.trans k2
  have ht2 := ht.keep hk2
  have hc2 := hc.keep hk2
  rintro m ih i f w3 ⟨h1, h8, h9, h10, hm, hi, hk3, hinv⟩
  refine vc_sound rfl Tryd.func19 400 (.code _) _ _ ?_
  have hlen : formsL.length = 6 := rfl
  by_cases hlt : i < formsL.length
  · have hd : decide ((i : Int) < 6) = true := by simp; omega
    have hfa := (hfs.is).keep hk3
    obtain ⟨cs, hrA, rs, rfl, hrs⟩ := hfa.row i hlt
    have ld := Loads.eq (P := Tryd.prog) (t := 67) (w := w3) (cs := fcl formsL[i] rs) (by kernel_rfl) hrA
    have hz : elForm.z = 4 := rfl
    rw [hz] at ld
    simp only [purCs, ↓vss, ↓vsk, vsk, ↓vss2, vcs3, vcs4, vals, blds, vcs5, vcs6, pures, ints, tys0, tys1, tys2, tys3, tys4, tys5, ↓reduceIte, if_true, if_false, Nat.reduceLT, Nat.reduceLeDiff, Nat.reduceEqDiff, Nat.reduceAdd, Nat.reduceMul, Nat.reduceSub, conds, readsF, readsOk, zero_ne_one_, one_ne_zero_, true_and, and_true, and_self, false_and, and_false, eq_self, reduceCtorEq, Bool.true_and, Bool.and_true, Bool.false_and, Bool.and_false, Bool.false_eq_true, Bool.true_eq_false, forall_const, true_imp_, false_imp_, imp_self, implies_true, Bool.not_true, Bool.not_false, Bool.false_or, Bool.true_or, Bool.or_false, Bool.or_true, beq_true_, beq_false_, Nat.zero_add, Nat.add_zero, fr0_cons_zero, fr0_cons_succ, fr0_0, fr0_1, fr0_2, fr0_3, fr0_4, List.map_cons, List.map_nil, List.map_toArray, Option.map_some, Option.map_none, List.append_toArray, List.nil_append, List.cons_append, List.append_nil, List.all_cons, List.all_nil, List.set_cons_zero, List.set_cons_succ, Array.getD_lit, Array.size_lit, List.reverse_cons, List.reverse_nil, Op.operands, Call.operands, List.toList_toArray, Addr.add_lit, Option.some.injEq, exists_eq_left', Value.pointer.injEq, exists_eq_left, Int.toNat_natCast, Int.reduceToNat, Nat.mul_one, List.length_cons, List.length_nil, Nat.reducePow, h1, h8, h9, h10, hd, ld]
    refine ⟨⟨hfa.some_ hlt, by omega, by omega⟩, ?_⟩
    have hka : Kept w3 (w3.alloc (.cells [.string ⟨#[]⟩, .int .u8 0, Sl.v ⟨none, 0, 0⟩, .nilFunc].toArray 67)) := (Kept.refl _).alloc _
    have hrf := Row.new w3 67 [.string ⟨#[]⟩, .int .u8 0, Sl.v ⟨none, 0, 0⟩, .nilFunc]
    refine exU.of (run_storeAll (new := fcl formsL[i] rs) (by kernel_rfl) hrf rfl rfl (by simp [fcl, Value.oneCell', Sl.v])) ?_
    have hkb : Kept w3 _ := KeptBut.kept hka (setRow_but _ w3.heap.size (fcl formsL[i] rs).toArray) (Nat.le_refl _)
    have hrf2 := hrf.set (fcl formsL[i] rs)
    generalize ((w3.alloc (.cells [.string ⟨#[]⟩, .int .u8 0, Sl.v ⟨none, 0, 0⟩, .nilFunc].toArray 67)).setRow w3.heap.size (fcl formsL[i] rs).toArray) = w4 at hkb hrf2
    have hk4 := hk3.trans hkb
    have ra4 := ra2.keep hk4
    have f1 := hrf2.ld (P := Tryd.prog) (t := 5) 1 rfl (by kernel_rfl) (by kernel_rfl)
    have a0 := ra4.ld (P := Tryd.prog) (t := 5) 0 rfl (by kernel_rfl) (by kernel_rfl)
    have a2 := ra4.ld (P := Tryd.prog) (t := 34) 2 rfl (by kernel_rfl) (by kernel_rfl)
    have hne : ((formsL[i].kind.toNat : Int) != (r.kind.toNat : Int)) = !(formsL[i].kind == r.kind) := by
      rw [Bool.eq_iff_iff]; simp [← UInt8.toNat_inj]; omega
    have hiw : IntKind.i64.wrap ((i : Int) + 1) = (i : Int) + 1 := wrap_i64 (by omega) (by omega)
    have htk : formsL.take (i + 1) = formsL.take i ++ [formsL[i]] := take_snoc' _ _ hlt
    have htl := ht.len
    have htb := ht.big
    simp only [purCs, ↓vss, ↓vsk, vsk, ↓vss2, vcs3, vcs4, vals, blds, vcs5, vcs6, pures, ints, tys0, tys1, tys2, tys3, tys4, tys5, ↓reduceIte, if_true, if_false, Nat.reduceLT, Nat.reduceLeDiff, Nat.reduceEqDiff, Nat.reduceAdd, Nat.reduceMul, Nat.reduceSub, conds, readsF, readsOk, zero_ne_one_, one_ne_zero_, true_and, and_true, and_self, false_and, and_false, eq_self, reduceCtorEq, Bool.true_and, Bool.and_true, Bool.false_and, Bool.and_false, Bool.false_eq_true, Bool.true_eq_false, forall_const, true_imp_, false_imp_, imp_self, implies_true, Bool.not_true, Bool.not_false, Bool.false_or, Bool.true_or, Bool.or_false, Bool.or_true, beq_true_, beq_false_, Nat.zero_add, Nat.add_zero, fr0_cons_zero, fr0_cons_succ, fr0_0, fr0_1, fr0_2, fr0_3, fr0_4, List.map_cons, List.map_nil, List.map_toArray, Option.map_some, Option.map_none, List.append_toArray, List.nil_append, List.cons_append, List.append_nil, List.all_cons, List.all_nil, List.set_cons_zero, List.set_cons_succ, Array.getD_lit, Array.size_lit, List.reverse_cons, List.reverse_nil, Op.operands, Call.operands, List.toList_toArray, Addr.add_lit, Option.some.injEq, exists_eq_left', Value.pointer.injEq, exists_eq_left, Int.toNat_natCast, Int.reduceToNat, Nat.mul_one, List.length_cons, List.length_nil, Nat.reducePow, h1, f1, a0, hne]
    cases hkind : (formsL[i].kind == r.kind) <;> simp only [purCs, ↓vss, ↓vsk, vsk, ↓vss2, vcs3, vcs4, vals, blds, vcs5, vcs6, pures, ints, tys0, tys1, tys2, tys3, tys4, tys5, ↓reduceIte, if_true, if_false, Nat.reduceLT, Nat.reduceLeDiff, Nat.reduceEqDiff, Nat.reduceAdd, Nat.reduceMul, Nat.reduceSub, conds, readsF, readsOk, zero_ne_one_, one_ne_zero_, true_and, and_true, and_self, false_and, and_false, eq_self, reduceCtorEq, Bool.true_and, Bool.and_true, Bool.false_and, Bool.and_false, Bool.false_eq_true, Bool.true_eq_false, forall_const, true_imp_, false_imp_, imp_self, implies_true, Bool.not_true, Bool.not_false, Bool.false_or, Bool.true_or, Bool.or_false, Bool.or_true, beq_true_, beq_false_, Nat.zero_add, Nat.add_zero, fr0_cons_zero, fr0_cons_succ, fr0_0, fr0_1, fr0_2, fr0_3, fr0_4, List.map_cons, List.map_nil, List.map_toArray, Option.map_some, Option.map_none, List.append_toArray, List.nil_append, List.cons_append, List.append_nil, List.all_cons, List.all_nil, List.set_cons_zero, List.set_cons_succ, Array.getD_lit, Array.size_lit, List.reverse_cons, List.reverse_nil, Op.operands, Call.operands, List.toList_toArray, Addr.add_lit, Option.some.injEq, exists_eq_left', Value.pointer.injEq, exists_eq_left, Int.toNat_natCast, Int.reduceToNat, Nat.mul_one, List.length_cons, List.length_nil, Nat.reducePow, h1, h10, hiw, a2, htl]
    · refine ih (6 - (i + 1)) (i + 1) _ _ (by omega) ?_
      simp only [purCs, ↓vss, ↓vsk, vsk, ↓vss2, vcs3, vcs4, vals, blds, vcs5, vcs6, pures, ints, tys0, tys1, tys2, tys3, tys4, tys5, ↓reduceIte, if_true, if_false, Nat.reduceLT, Nat.reduceLeDiff, Nat.reduceEqDiff, Nat.reduceAdd, Nat.reduceMul, Nat.reduceSub, conds, readsF, readsOk, zero_ne_one_, one_ne_zero_, true_and, and_true, and_self, false_and, and_false, eq_self, reduceCtorEq, Bool.true_and, Bool.and_true, Bool.false_and, Bool.and_false, Bool.false_eq_true, Bool.true_eq_false, forall_const, true_imp_, false_imp_, imp_self, implies_true, Bool.not_true, Bool.not_false, Bool.false_or, Bool.true_or, Bool.or_false, Bool.or_true, beq_true_, beq_false_, Nat.zero_add, Nat.add_zero, fr0_cons_zero, fr0_cons_succ, fr0_0, fr0_1, fr0_2, fr0_3, fr0_4, List.map_cons, List.map_nil, List.map_toArray, Option.map_some, Option.map_none, List.append_toArray, List.nil_append, List.cons_append, List.append_nil, List.all_cons, List.all_nil, List.set_cons_zero, List.set_cons_succ, Array.getD_lit, Array.size_lit, List.reverse_cons, List.reverse_nil, Op.operands, Call.operands, List.toList_toArray, Addr.add_lit, Option.some.injEq, exists_eq_left', Value.pointer.injEq, exists_eq_left, Int.toNat_natCast, Int.reduceToNat, Nat.mul_one, List.length_cons, List.length_nil, Nat.reducePow, h1, h8, h9, Int.natCast_add, Int.natCast_one]
      refine ⟨by omega, hk4, ?_⟩
      rcases hinv with hnone | ⟨h1, h2⟩
      · left; rw [htk, List.find?_append, hnone]; simp [hkind]
      · exact .inr ⟨h1, fun f hf => h2 f (List.mem_of_mem_drop (i := 1) (by rw [List.drop_drop]; exact hf))⟩
    have hnone : (formsL.take i).find? (fun f => f.kind == r.kind) = none := by
      rcases hinv with hnone | ⟨_, h2⟩
      · exact hnone
      · have := h2 formsL[i] (by rw [List.drop_eq_getElem_cons hlt]; exact List.mem_cons_self)
        rw [hkind] at this; cases this
    have hnext : ∀ f ∈ formsL.drop (i + 1), (f.kind == r.kind) = false := by
      have hd : ∀ j : Fin 6, ∀ f ∈ formsL.drop (j + 1), (f.kind == (formsL[j]'(j.2)).kind) = false := by decide
      have := hd ⟨i, hlt⟩
      have hk2 : formsL[i].kind = r.kind := by simpa using hkind
      rw [← hk2]; exact this
    have hfound : formsL.find? (fun f => f.kind == r.kind) = some formsL[i] := by
      have e : formsL.find? (fun f => f.kind == r.kind) = (formsL.take i ++ formsL.drop i).find? (fun f => f.kind == r.kind) := by rw [List.take_append_drop]
      rw [e, List.find?_append, hnone, List.drop_eq_getElem_cons hlt, Option.none_or, List.find?_cons, hkind]
    cases h200 : decide ((200 : Int) < (r.text.length : Int))
    all_goals simp only [purCs, ↓vss, ↓vsk, vsk, ↓vss2, vcs3, vcs4, vals, blds, vcs5, vcs6, pures, ints, tys0, tys1, tys2, tys3, tys4, tys5, ↓reduceIte, if_true, if_false, Nat.reduceLT, Nat.reduceLeDiff, Nat.reduceEqDiff, Nat.reduceAdd, Nat.reduceMul, Nat.reduceSub, conds, readsF, readsOk, zero_ne_one_, one_ne_zero_, true_and, and_true, and_self, false_and, and_false, eq_self, reduceCtorEq, Bool.true_and, Bool.and_true, Bool.false_and, Bool.and_false, Bool.false_eq_true, Bool.true_eq_false, forall_const, true_imp_, false_imp_, imp_self, implies_true, Bool.not_true, Bool.not_false, Bool.false_or, Bool.true_or, Bool.or_false, Bool.or_true, beq_true_, beq_false_, Nat.zero_add, Nat.add_zero, fr0_cons_zero, fr0_cons_succ, fr0_0, fr0_1, fr0_2, fr0_3, fr0_4, List.map_cons, List.map_nil, List.map_toArray, Option.map_some, Option.map_none, List.append_toArray, List.nil_append, List.cons_append, List.append_nil, List.all_cons, List.all_nil, List.set_cons_zero, List.set_cons_succ, Array.getD_lit, Array.size_lit, List.reverse_cons, List.reverse_nil, Op.operands, Call.operands, List.toList_toArray, Addr.add_lit, Option.some.injEq, exists_eq_left', Value.pointer.injEq, exists_eq_left, Int.toNat_natCast, Int.reduceToNat, Nat.mul_one, List.length_cons, List.length_nil, Nat.reducePow, h1, a2]
    · refine (contains32_spec 32 (fun x => !isRuneB x) (by kernel_rfl) tell1_spec t r.text w4 (ht2.keep hk4)).mono ?_
      rintro _ w5 ⟨rfl, k5⟩
      refine kC.in_ (by kernel_rfl) ?_
      have hk5 := hk4.trans k5
      cases hrun : r.text.any (fun x => !isRuneB x) <;> simp only [purCs, ↓vss, ↓vsk, vsk, ↓vss2, vcs3, vcs4, vals, blds, vcs5, vcs6, pures, ints, tys0, tys1, tys2, tys3, tys4, tys5, ↓reduceIte, if_true, if_false, Nat.reduceLT, Nat.reduceLeDiff, Nat.reduceEqDiff, Nat.reduceAdd, Nat.reduceMul, Nat.reduceSub, conds, readsF, readsOk, zero_ne_one_, one_ne_zero_, true_and, and_true, and_self, false_and, and_false, eq_self, reduceCtorEq, Bool.true_and, Bool.and_true, Bool.false_and, Bool.and_false, Bool.false_eq_true, Bool.true_eq_false, forall_const, true_imp_, false_imp_, imp_self, implies_true, Bool.not_true, Bool.not_false, Bool.false_or, Bool.true_or, Bool.or_false, Bool.or_true, beq_true_, beq_false_, Nat.zero_add, Nat.add_zero, fr0_cons_zero, fr0_cons_succ, fr0_0, fr0_1, fr0_2, fr0_3, fr0_4, List.map_cons, List.map_nil, List.map_toArray, Option.map_some, Option.map_none, List.append_toArray, List.nil_append, List.cons_append, List.append_nil, List.all_cons, List.all_nil, List.set_cons_zero, List.set_cons_succ, Array.getD_lit, Array.size_lit, List.reverse_cons, List.reverse_nil, Op.operands, Call.operands, List.toList_toArray, Addr.add_lit, Option.some.injEq, exists_eq_left', Value.pointer.injEq, exists_eq_left, Int.toNat_natCast, Int.reduceToNat, Nat.mul_one, List.length_cons, List.length_nil, Nat.reducePow]
      · have hF : Fair r := ⟨by simp at h200; omega, hrun, by have := hS.cells; omega, by have := hS.name; omega, by have := hS.left; omega, by have := hS.right; omega⟩
        have hrf5 := hrf2.keep k5
        have ra5 := ra4.keep k5
        refine At.join (fun f w6 => ∃ s5 : Sl, f 1 = rp w.heap.size ∧ f 5 = s5.v ∧ f 8 = fs.v ∧ f 9 = .int .i64 6 ∧ f 10 = .int .i64 i ∧ New elStr w w6 s5 (formsL[i].word :: tellWords formsL[i] r) ∧ (∃ b, s5.a = some ⟨b, 0, none⟩) ∧ Kept w5 w6) ?_ fun rest => ?_
        · rintro f w6 ⟨s5, h1, h5, h8, h9, h10, hs5, hn5, hk6⟩
          refine vc_sound rfl Tryd.func19 400 (.code _) _ _ ?_
          simp only [purCs, ↓vss, ↓vsk, vsk, ↓vss2, vcs3, vcs4, vals, blds, vcs5, vcs6, pures, ints, tys0, tys1, tys2, tys3, tys4, tys5, ↓reduceIte, if_true, if_false, Nat.reduceLT, Nat.reduceLeDiff, Nat.reduceEqDiff, Nat.reduceAdd, Nat.reduceMul, Nat.reduceSub, conds, readsF, readsOk, zero_ne_one_, one_ne_zero_, true_and, and_true, and_self, false_and, and_false, eq_self, reduceCtorEq, Bool.true_and, Bool.and_true, Bool.false_and, Bool.and_false, Bool.false_eq_true, Bool.true_eq_false, forall_const, true_imp_, false_imp_, imp_self, implies_true, Bool.not_true, Bool.not_false, Bool.false_or, Bool.true_or, Bool.or_false, Bool.or_true, beq_true_, beq_false_, Nat.zero_add, Nat.add_zero, fr0_cons_zero, fr0_cons_succ, fr0_0, fr0_1, fr0_2, fr0_3, fr0_4, List.map_cons, List.map_nil, List.map_toArray, Option.map_some, Option.map_none, List.append_toArray, List.nil_append, List.cons_append, List.append_nil, List.all_cons, List.all_nil, List.set_cons_zero, List.set_cons_succ, Array.getD_lit, Array.size_lit, List.reverse_cons, List.reverse_nil, Op.operands, Call.operands, List.toList_toArray, Addr.add_lit, Option.some.injEq, exists_eq_left', Value.pointer.injEq, exists_eq_left, Int.toNat_natCast, Int.reduceToNat, Nat.mul_one, List.length_cons, List.length_nil, Nat.reducePow, h5]
          have hsi5 := hs5.is
          refine (containsStr_spec 35 (fun x => x.contains 32) (by kernel_rfl) tell2_spec s5 _ w6 hsi5).mono ?_
          rintro _ w7 ⟨rfl, k7⟩
          refine kC.in_ (by kernel_rfl) ?_
          have hrun' : r.text.any (fun x => !isRuneB x) = false := hrun
          have h200' : decide (r.text.length > 200) = false := by simp at h200 ⊢; omega
          cases h32 : (formsL[i].word :: tellWords formsL[i] r).any (fun x => x.contains 32)
          all_goals simp only [purCs, ↓vss, ↓vsk, vsk, ↓vss2, vcs3, vcs4, vals, blds, vcs5, vcs6, pures, ints, tys0, tys1, tys2, tys3, tys4, tys5, ↓reduceIte, if_true, if_false, Nat.reduceLT, Nat.reduceLeDiff, Nat.reduceEqDiff, Nat.reduceAdd, Nat.reduceMul, Nat.reduceSub, conds, readsF, readsOk, zero_ne_one_, one_ne_zero_, true_and, and_true, and_self, false_and, and_false, eq_self, reduceCtorEq, Bool.true_and, Bool.and_true, Bool.false_and, Bool.and_false, Bool.false_eq_true, Bool.true_eq_false, forall_const, true_imp_, false_imp_, imp_self, implies_true, Bool.not_true, Bool.not_false, Bool.false_or, Bool.true_or, Bool.or_false, Bool.or_true, beq_true_, beq_false_, Nat.zero_add, Nat.add_zero, fr0_cons_zero, fr0_cons_succ, fr0_0, fr0_1, fr0_2, fr0_3, fr0_4, List.map_cons, List.map_nil, List.map_toArray, Option.map_some, Option.map_none, List.append_toArray, List.nil_append, List.cons_append, List.append_nil, List.all_cons, List.all_nil, List.set_cons_zero, List.set_cons_succ, Array.getD_lit, Array.size_lit, List.reverse_cons, List.reverse_nil, Op.operands, Call.operands, List.toList_toArray, Addr.add_lit, Option.some.injEq, exists_eq_left', Value.pointer.injEq, exists_eq_left, Int.toNat_natCast, Int.reduceToNat, Nat.mul_one, List.length_cons, List.length_nil, Nat.reducePow, h5]
          · have hok := formsL_ok _ (List.getElem_mem hlt)
            refine (rule_spec s5 _ w7 (hsi5.keep k7) (by simp) (by
              intro x hx
              rcases List.mem_cons.1 hx with rfl | hx
              · have := hok.2; omega
              · exact tellWords_len hS hF.text _ x hx)).mono ?_
            rintro _ w8 ⟨t8, c8, rfl, hr8, k8⟩
            refine kC.in_ (by kernel_rfl) ?_
            simp only [purCs, ↓vss, ↓vsk, vsk, ↓vss2, vcs3, vcs4, vals, blds, vcs5, vcs6, pures, ints, tys0, tys1, tys2, tys3, tys4, tys5, ↓reduceIte, if_true, if_false, Nat.reduceLT, Nat.reduceLeDiff, Nat.reduceEqDiff, Nat.reduceAdd, Nat.reduceMul, Nat.reduceSub, conds, readsF, readsOk, zero_ne_one_, one_ne_zero_, true_and, and_true, and_self, false_and, and_false, eq_self, reduceCtorEq, Bool.true_and, Bool.and_true, Bool.false_and, Bool.and_false, Bool.false_eq_true, Bool.true_eq_false, forall_const, true_imp_, false_imp_, imp_self, implies_true, Bool.not_true, Bool.not_false, Bool.false_or, Bool.true_or, Bool.or_false, Bool.or_true, beq_true_, beq_false_, Nat.zero_add, Nat.add_zero, fr0_cons_zero, fr0_cons_succ, fr0_0, fr0_1, fr0_2, fr0_3, fr0_4, List.map_cons, List.map_nil, List.map_toArray, Option.map_some, Option.map_none, List.append_toArray, List.nil_append, List.cons_append, List.append_nil, List.all_cons, List.all_nil, List.set_cons_zero, List.set_cons_succ, Array.getD_lit, Array.size_lit, List.reverse_cons, List.reverse_nil, Op.operands, Call.operands, List.toList_toArray, Addr.add_lit, Option.some.injEq, exists_eq_left', Value.pointer.injEq, exists_eq_left, Int.toNat_natCast, Int.reduceToNat, Nat.mul_one, List.length_cons, List.length_nil, Nat.reducePow, h1, h5]
            generalize hro : ruleOf (formsL[i].word :: tellWords formsL[i] r) = ro at *
            obtain ⟨R, ok⟩ := ro
            simp only at hr8 ⊢
            have hrow8 := Row.new w8 36 [.int .u8 0, .string ⟨#[]⟩, Sl.v ⟨none, 0, 0⟩, Sl.v ⟨none, 0, 0⟩, .string ⟨#[]⟩, .string ⟨#[]⟩]
            refine exU.of (run_storeAll (new := ruleCells R t8 c8) (by kernel_rfl) hrow8 rfl rfl (by simp [ruleCells, Value.oneCell', Sl.v])) ?_
            have hkb8 : Kept w8 _ := KeptBut.kept ((Kept.refl w8).alloc (.cells [.int .u8 0, .string ⟨#[]⟩, Sl.v ⟨none, 0, 0⟩, Sl.v ⟨none, 0, 0⟩, .string ⟨#[]⟩, .string ⟨#[]⟩].toArray 36)) (setRow_but _ w8.heap.size (ruleCells R t8 c8).toArray) (Nat.le_refl _)
            have hrow9 := hrow8.set (ruleCells R t8 c8)
            generalize ((w8.alloc (.cells [.int .u8 0, .string ⟨#[]⟩, Sl.v ⟨none, 0, 0⟩, Sl.v ⟨none, 0, 0⟩, .string ⟨#[]⟩, .string ⟨#[]⟩].toArray 36)).setRow w8.heap.size (ruleCells R t8 c8).toArray) = w9 at hkb8 hrow9
            have k69 : Kept w5 w9 := hk6.trans (k7.trans (k8.trans hkb8))
            have gA := hrow9.ldAll (P := Tryd.prog) (t := 36) (by kernel_rfl)
            have gB := ((ra4.keep k5).keep k69).ldAll (P := Tryd.prog) (t := 36) (by kernel_rfl)
            have hcont : tellOf r = none → ((formsL.take (i + 1)).find? (fun f => f.kind == r.kind) = none ∨ (tellOf r = none ∧ ∀ f ∈ formsL.drop (i + 1), (f.kind == r.kind) = false)) := fun h => .inr ⟨h, hnext⟩
            have hto : tellOf r = if ok = true ∧ R = r then some (formsL[i].word :: tellWords formsL[i] r) else none := by
              rw [tellOf, hfound]
              simp only [h32, hro]
              rw [hrun', h200']; simp only [Bool.or_false, Bool.false_eq_true, if_false]
            cases ok <;> simp only [purCs, ↓vss, ↓vsk, vsk, ↓vss2, vcs3, vcs4, vals, blds, vcs5, vcs6, pures, ints, tys0, tys1, tys2, tys3, tys4, tys5, ↓reduceIte, if_true, if_false, Nat.reduceLT, Nat.reduceLeDiff, Nat.reduceEqDiff, Nat.reduceAdd, Nat.reduceMul, Nat.reduceSub, conds, readsF, readsOk, zero_ne_one_, one_ne_zero_, true_and, and_true, and_self, false_and, and_false, eq_self, reduceCtorEq, Bool.true_and, Bool.and_true, Bool.false_and, Bool.and_false, Bool.false_eq_true, Bool.true_eq_false, forall_const, true_imp_, false_imp_, imp_self, implies_true, Bool.not_true, Bool.not_false, Bool.false_or, Bool.true_or, Bool.or_false, Bool.or_true, beq_true_, beq_false_, Nat.zero_add, Nat.add_zero, fr0_cons_zero, fr0_cons_succ, fr0_0, fr0_1, fr0_2, fr0_3, fr0_4, List.map_cons, List.map_nil, List.map_toArray, Option.map_some, Option.map_none, List.append_toArray, List.nil_append, List.cons_append, List.append_nil, List.all_cons, List.all_nil, List.set_cons_zero, List.set_cons_succ, Array.getD_lit, Array.size_lit, List.reverse_cons, List.reverse_nil, Op.operands, Call.operands, List.toList_toArray, Addr.add_lit, Option.some.injEq, exists_eq_left', Value.pointer.injEq, exists_eq_left, Int.toNat_natCast, Int.reduceToNat, Nat.mul_one, List.length_cons, List.length_nil, Nat.reducePow, h1, h5, h10, hiw, gA, gB]
            · refine ih (6 - (i + 1)) (i + 1) _ _ (by omega) ?_
              simp only [purCs, ↓vss, ↓vsk, vsk, ↓vss2, vcs3, vcs4, vals, blds, vcs5, vcs6, pures, ints, tys0, tys1, tys2, tys3, tys4, tys5, ↓reduceIte, if_true, if_false, Nat.reduceLT, Nat.reduceLeDiff, Nat.reduceEqDiff, Nat.reduceAdd, Nat.reduceMul, Nat.reduceSub, conds, readsF, readsOk, zero_ne_one_, one_ne_zero_, true_and, and_true, and_self, false_and, and_false, eq_self, reduceCtorEq, Bool.true_and, Bool.and_true, Bool.false_and, Bool.and_false, Bool.false_eq_true, Bool.true_eq_false, forall_const, true_imp_, false_imp_, imp_self, implies_true, Bool.not_true, Bool.not_false, Bool.false_or, Bool.true_or, Bool.or_false, Bool.or_true, beq_true_, beq_false_, Nat.zero_add, Nat.add_zero, fr0_cons_zero, fr0_cons_succ, fr0_0, fr0_1, fr0_2, fr0_3, fr0_4, List.map_cons, List.map_nil, List.map_toArray, Option.map_some, Option.map_none, List.append_toArray, List.nil_append, List.cons_append, List.append_nil, List.all_cons, List.all_nil, List.set_cons_zero, List.set_cons_succ, Array.getD_lit, Array.size_lit, List.reverse_cons, List.reverse_nil, Op.operands, Call.operands, List.toList_toArray, Addr.add_lit, Option.some.injEq, exists_eq_left', Value.pointer.injEq, exists_eq_left, Int.toNat_natCast, Int.reduceToNat, Nat.mul_one, List.length_cons, List.length_nil, Nat.reducePow, h1, h8, h9, Int.natCast_add, Int.natCast_one]
              exact ⟨by omega, hk5.trans k69, hcont (by rw [hto]; simp)⟩
            · have hT : Is (elInt .i32) w9 t r.text := ht2.keep (hk5.trans k69)
              have hC : Is elU8 w9 c r.cells := hc2.keep (hk5.trans k69)
              obtain ⟨t8', c8', hcs, hT8, hC8, _⟩ := hr8
              simp only [ruleCells, List.cons.injEq, Sl.v_inj, true_and, and_true] at hcs
              obtain ⟨rfl, rfl⟩ := hcs
              refine (same_spec R r t8 c8 t c w9 (Is.keep (hT8.mono (fun _ h => h.2)) hkb8) (Is.keep (hC8.mono (fun _ h => h.2)) hkb8) hT hC).mono ?_
              rintro _ w10 ⟨rfl, k10⟩
              refine kC.in_ (by kernel_rfl) ?_
              by_cases hRr : R = r
              · simp only [purCs, ↓vss, ↓vsk, vsk, ↓vss2, vcs3, vcs4, vals, blds, vcs5, vcs6, pures, ints, tys0, tys1, tys2, tys3, tys4, tys5, ↓reduceIte, if_true, if_false, Nat.reduceLT, Nat.reduceLeDiff, Nat.reduceEqDiff, Nat.reduceAdd, Nat.reduceMul, Nat.reduceSub, conds, readsF, readsOk, zero_ne_one_, one_ne_zero_, true_and, and_true, and_self, false_and, and_false, eq_self, reduceCtorEq, Bool.true_and, Bool.and_true, Bool.false_and, Bool.and_false, Bool.false_eq_true, Bool.true_eq_false, forall_const, true_imp_, false_imp_, imp_self, implies_true, Bool.not_true, Bool.not_false, Bool.false_or, Bool.true_or, Bool.or_false, Bool.or_true, beq_true_, beq_false_, Nat.zero_add, Nat.add_zero, fr0_cons_zero, fr0_cons_succ, fr0_0, fr0_1, fr0_2, fr0_3, fr0_4, List.map_cons, List.map_nil, List.map_toArray, Option.map_some, Option.map_none, List.append_toArray, List.nil_append, List.cons_append, List.append_nil, List.all_cons, List.all_nil, List.set_cons_zero, List.set_cons_succ, Array.getD_lit, Array.size_lit, List.reverse_cons, List.reverse_nil, Op.operands, Call.operands, List.toList_toArray, Addr.add_lit, Option.some.injEq, exists_eq_left', Value.pointer.injEq, exists_eq_left, Int.toNat_natCast, Int.reduceToNat, Nat.mul_one, List.length_cons, List.length_nil, Nat.reducePow, h1, h5, h10, hiw, hRr, decide_true]
                refine ⟨s5, rfl, ?_, (hk2.trans hk5).trans (k69.trans k10)⟩
                rw [hto]; simp only [hRr, and_self, if_true]
                exact ⟨hn5, hs5.keep (k7.trans (k8.trans (hkb8.trans k10)))⟩
              · simp only [purCs, ↓vss, ↓vsk, vsk, ↓vss2, vcs3, vcs4, vals, blds, vcs5, vcs6, pures, ints, tys0, tys1, tys2, tys3, tys4, tys5, ↓reduceIte, if_true, if_false, Nat.reduceLT, Nat.reduceLeDiff, Nat.reduceEqDiff, Nat.reduceAdd, Nat.reduceMul, Nat.reduceSub, conds, readsF, readsOk, zero_ne_one_, one_ne_zero_, true_and, and_true, and_self, false_and, and_false, eq_self, reduceCtorEq, Bool.true_and, Bool.and_true, Bool.false_and, Bool.and_false, Bool.false_eq_true, Bool.true_eq_false, forall_const, true_imp_, false_imp_, imp_self, implies_true, Bool.not_true, Bool.not_false, Bool.false_or, Bool.true_or, Bool.or_false, Bool.or_true, beq_true_, beq_false_, Nat.zero_add, Nat.add_zero, fr0_cons_zero, fr0_cons_succ, fr0_0, fr0_1, fr0_2, fr0_3, fr0_4, List.map_cons, List.map_nil, List.map_toArray, Option.map_some, Option.map_none, List.append_toArray, List.nil_append, List.cons_append, List.append_nil, List.all_cons, List.all_nil, List.set_cons_zero, List.set_cons_succ, Array.getD_lit, Array.size_lit, List.reverse_cons, List.reverse_nil, Op.operands, Call.operands, List.toList_toArray, Addr.add_lit, Option.some.injEq, exists_eq_left', Value.pointer.injEq, exists_eq_left, Int.toNat_natCast, Int.reduceToNat, Nat.mul_one, List.length_cons, List.length_nil, Nat.reducePow, h1, h5, h10, hiw, hRr, decide_false]
                refine ih (6 - (i + 1)) (i + 1) _ _ (by omega) ?_
                simp only [purCs, ↓vss, ↓vsk, vsk, ↓vss2, vcs3, vcs4, vals, blds, vcs5, vcs6, pures, ints, tys0, tys1, tys2, tys3, tys4, tys5, ↓reduceIte, if_true, if_false, Nat.reduceLT, Nat.reduceLeDiff, Nat.reduceEqDiff, Nat.reduceAdd, Nat.reduceMul, Nat.reduceSub, conds, readsF, readsOk, zero_ne_one_, one_ne_zero_, true_and, and_true, and_self, false_and, and_false, eq_self, reduceCtorEq, Bool.true_and, Bool.and_true, Bool.false_and, Bool.and_false, Bool.false_eq_true, Bool.true_eq_false, forall_const, true_imp_, false_imp_, imp_self, implies_true, Bool.not_true, Bool.not_false, Bool.false_or, Bool.true_or, Bool.or_false, Bool.or_true, beq_true_, beq_false_, Nat.zero_add, Nat.add_zero, fr0_cons_zero, fr0_cons_succ, fr0_0, fr0_1, fr0_2, fr0_3, fr0_4, List.map_cons, List.map_nil, List.map_toArray, Option.map_some, Option.map_none, List.append_toArray, List.nil_append, List.cons_append, List.append_nil, List.all_cons, List.all_nil, List.set_cons_zero, List.set_cons_succ, Array.getD_lit, Array.size_lit, List.reverse_cons, List.reverse_nil, Op.operands, Call.operands, List.toList_toArray, Addr.add_lit, Option.some.injEq, exists_eq_left', Value.pointer.injEq, exists_eq_left, Int.toNat_natCast, Int.reduceToNat, Nat.mul_one, List.length_cons, List.length_nil, Nat.reducePow, h1, h8, h9, Int.natCast_add, Int.natCast_one]
                exact ⟨by omega, (hk5.trans k69).trans k10, hcont (by rw [hto]; simp [hRr])⟩
          · refine ⟨_, rfl, ?_, (hk2.trans hk5).trans (hk6.trans k7)⟩
            rw [tellOf, hfound]
            simp only [h32, if_true]
            rw [hrun', h200']; simp only [Bool.or_false, Bool.false_eq_true, if_false]
        · refine At.drawnT rfl Tryd.func19 (by kernel_rfl) (fun v => Kept w5 v) (.step 0 (.step 1 (.step 3 (.step 4 (.step 5 (.alt 2 (.step 6 (.step 7 (.step 8 (.done)))) (.alt 6 (.step 2 (.step 7 (.step 8 (.done)))) (.none)))))))) (by kernel_rfl) ?_ 0 ?_
          · exact (Kept.refl _).drew
          have j0 : Kept w5 w5.drew := (Kept.refl _).drew
          have g0 := hrf5.ldE (P := Tryd.prog) (t := 9) 0 rfl (by kernel_rfl) (by kernel_rfl)
          have g3 := hrf5.ldE (P := Tryd.prog) (t := 51) 3 rfl (by kernel_rfl) (by kernel_rfl)
          have gA := ra5.ldAllE (P := Tryd.prog) (t := 36) (by kernel_rfl)
          simp only [vsz, ↓vsd, vsd, ↓vsdk, vsdk, ↓vst, vst, ↓vstk, vstk, vcds2, noYs, isLoad, purCs, ↓vss, ↓vsk, vsk, ↓vss2, vcs3, vcs4, vals, blds, vcs5, vcs6, pures, ints, tys0, tys1, tys2, tys3, tys4, tys5, ↓reduceIte, if_true, if_false, Nat.reduceLT, Nat.reduceLeDiff, Nat.reduceEqDiff, Nat.reduceAdd, Nat.reduceMul, Nat.reduceSub, conds, readsF, readsOk, zero_ne_one_, one_ne_zero_, true_and, and_true, and_self, false_and, and_false, eq_self, reduceCtorEq, Bool.true_and, Bool.and_true, Bool.false_and, Bool.and_false, Bool.false_eq_true, Bool.true_eq_false, forall_const, true_imp_, false_imp_, imp_self, implies_true, Bool.not_true, Bool.not_false, Bool.false_or, Bool.true_or, Bool.or_false, Bool.or_true, beq_true_, beq_false_, Nat.zero_add, Nat.add_zero, fr0_cons_zero, fr0_cons_succ, fr0_0, fr0_1, fr0_2, fr0_3, fr0_4, List.map_cons, List.map_nil, List.map_toArray, Option.map_some, Option.map_none, List.append_toArray, List.nil_append, List.cons_append, List.append_nil, List.all_cons, List.all_nil, List.set_cons_zero, List.set_cons_succ, Array.getD_lit, Array.size_lit, List.reverse_cons, List.reverse_nil, Op.operands, Call.operands, List.toList_toArray, Addr.add_lit, Option.some.injEq, exists_eq_left', Value.pointer.injEq, exists_eq_left, Int.toNat_natCast, Int.reduceToNat, Nat.mul_one, List.length_cons, List.length_nil, Nat.reducePow, h1, g0, g3, gA]
          have hok := formsL_ok _ (List.getElem_mem hlt)
          have hb : hasBody Tryd.prog (tellFn formsL[i].tell) = true := by rcases hok.1 with h | h | h | h <;> rw [h] <;> kernel_rfl
          have hnum := tellWords_num formsL[i] r
          have hwl := tellWords_len hS hF.text formsL[i]
          have fin : ∀ (w6 w7 : World) (s6 : Sl), Vc.Own w6 w.heap.size 9 1 s6 ((formsL[i].word :: tellWords formsL[i] r).flatMap fStr) → Kept w w6 → New elStr w w6 s6 (formsL[i].word :: tellWords formsL[i] r) := fun w6 w7 s6 ho hk => Mine.newStr ⟨ho, hk⟩ (by simp; omega) (by
            intro x hx
            rcases List.mem_cons.1 hx with rfl | hx
            · have := hok.2; unfold Vc.big; omega
            · have := hwl x hx; unfold Vc.big; omega)
          have htw0 : 1 ≤ (tellWords formsL[i] r).length := by unfold tellWords; split <;> simp
          have hx0 : ∀ (w6 : World) (sx : Sl), New elStr w5.drew w6 sx (tellWords formsL[i] r) → ∃ a, sx.a = some a := fun w6 sx h => by
            obtain ⟨a, h1, _⟩ := h.at_ (by have := h.len; omega)
            exact ⟨a, h1⟩
          constructor
          · have own1 := Vc.Own.built w5.drew 9 (z := 1) (n := 1) (cs := [Value.string (str formsL[i].word)]) rfl (by decide)
            have kA : Kept w5.drew (w5.drew.alloc (.cells [Value.string (str formsL[i].word)].toArray 9)) := (Kept.refl _).alloc _
            refine ⟨j0.trans kA, hb, (tellFn_spec formsL[i] hok.1 r t c _ hF (ht2.keep (hk5.trans (j0.trans kA))) (hc2.keep (hk5.trans (j0.trans kA)))).mono ?_⟩
            rintro _ w6 ⟨sx, rfl, hsx, k6⟩
            refine kC.in_ (by kernel_rfl) ⟨(j0.trans kA).trans k6, ?_⟩
            simp only [vsz, ↓vsd, vsd, ↓vsdk, vsdk, ↓vst, vst, ↓vstk, vstk, vcds2, noYs, isLoad, purCs, ↓vss, ↓vsk, vsk, ↓vss2, vcs3, vcs4, vals, blds, vcs5, vcs6, pures, ints, tys0, tys1, tys2, tys3, tys4, tys5, ↓reduceIte, if_true, if_false, Nat.reduceLT, Nat.reduceLeDiff, Nat.reduceEqDiff, Nat.reduceAdd, Nat.reduceMul, Nat.reduceSub, conds, readsF, readsOk, zero_ne_one_, one_ne_zero_, true_and, and_true, and_self, false_and, and_false, eq_self, reduceCtorEq, Bool.true_and, Bool.and_true, Bool.false_and, Bool.and_false, Bool.false_eq_true, Bool.true_eq_false, forall_const, true_imp_, false_imp_, imp_self, implies_true, Bool.not_true, Bool.not_false, Bool.false_or, Bool.true_or, Bool.or_false, Bool.or_true, beq_true_, beq_false_, Nat.zero_add, Nat.add_zero, fr0_cons_zero, fr0_cons_succ, fr0_0, fr0_1, fr0_2, fr0_3, fr0_4, List.map_cons, List.map_nil, List.map_toArray, Option.map_some, Option.map_none, List.append_toArray, List.nil_append, List.cons_append, List.append_nil, List.all_cons, List.all_nil, List.set_cons_zero, List.set_cons_succ, Array.getD_lit, Array.size_lit, List.reverse_cons, List.reverse_nil, Op.operands, Call.operands, List.toList_toArray, Addr.add_lit, Option.some.injEq, exists_eq_left', Value.pointer.injEq, exists_eq_left, Int.toNat_natCast, Int.reduceToNat, Nat.mul_one, List.length_cons, List.length_nil, Nat.reducePow]
            have own6 := own1.below (n := w5.drew.heap.size + 1) (w' := w6) (Below.mono k6 (by simp [World.alloc])) (by simp [World.alloc])
            obtain ⟨s', w7, e1, e2, e3, e4, e5⟩ := append_own (P := Tryd.prog) (t := 43) (ty := 43) (e := 9) (z := 1) (x := sx) (news := (tellWords formsL[i] r).flatMap fStr) app43.slc app43.elem app43.esz app43.zok app43.pos app43.bytes app43.zl own6
              (by obtain ⟨a, h1, _⟩ := hsx.at_ (by have := hsx.len; omega); exact ⟨a, h1⟩) (by rw [flatMap_len fStr_len, hsx.len]) (rowStr hsx) (flatMap_fStr_one _) (by have := hsx.len; simp; omega) (by have := k6.size; have := kA.size; omega)
            refine exR.of rfl e1 ?_
            have hkw : Kept w5 w7 := ((j0.trans kA).trans k6).own (own6.down (Nat.le_refl _)) e4
            refine ⟨hkw, ?_⟩
            simp only [vsz, ↓vsd, vsd, ↓vsdk, vsdk, ↓vst, vst, ↓vstk, vstk, vcds2, noYs, isLoad, purCs, ↓vss, ↓vsk, vsk, ↓vss2, vcs3, vcs4, vals, blds, vcs5, vcs6, pures, ints, tys0, tys1, tys2, tys3, tys4, tys5, ↓reduceIte, if_true, if_false, Nat.reduceLT, Nat.reduceLeDiff, Nat.reduceEqDiff, Nat.reduceAdd, Nat.reduceMul, Nat.reduceSub, conds, readsF, readsOk, zero_ne_one_, one_ne_zero_, true_and, and_true, and_self, false_and, and_false, eq_self, reduceCtorEq, Bool.true_and, Bool.and_true, Bool.false_and, Bool.and_false, Bool.false_eq_true, Bool.true_eq_false, forall_const, true_imp_, false_imp_, imp_self, implies_true, Bool.not_true, Bool.not_false, Bool.false_or, Bool.true_or, Bool.or_false, Bool.or_true, beq_true_, beq_false_, Nat.zero_add, Nat.add_zero, fr0_cons_zero, fr0_cons_succ, fr0_0, fr0_1, fr0_2, fr0_3, fr0_4, List.map_cons, List.map_nil, List.map_toArray, Option.map_some, Option.map_none, List.append_toArray, List.nil_append, List.cons_append, List.append_nil, List.all_cons, List.all_nil, List.set_cons_zero, List.set_cons_succ, Array.getD_lit, Array.size_lit, List.reverse_cons, List.reverse_nil, Op.operands, Call.operands, List.toList_toArray, Addr.add_lit, Option.some.injEq, exists_eq_left', Value.pointer.injEq, exists_eq_left, Int.toNat_natCast, Int.reduceToNat, Nat.mul_one, List.length_cons, List.length_nil, Nat.reducePow]
            refine rest _ _ ⟨s', ?_⟩
            simp only [vsz, ↓vsd, vsd, ↓vsdk, vsdk, ↓vst, vst, ↓vstk, vstk, vcds2, noYs, isLoad, purCs, ↓vss, ↓vsk, vsk, ↓vss2, vcs3, vcs4, vals, blds, vcs5, vcs6, pures, ints, tys0, tys1, tys2, tys3, tys4, tys5, ↓reduceIte, if_true, if_false, Nat.reduceLT, Nat.reduceLeDiff, Nat.reduceEqDiff, Nat.reduceAdd, Nat.reduceMul, Nat.reduceSub, conds, readsF, readsOk, zero_ne_one_, one_ne_zero_, true_and, and_true, and_self, false_and, and_false, eq_self, reduceCtorEq, Bool.true_and, Bool.and_true, Bool.false_and, Bool.and_false, Bool.false_eq_true, Bool.true_eq_false, forall_const, true_imp_, false_imp_, imp_self, implies_true, Bool.not_true, Bool.not_false, Bool.false_or, Bool.true_or, Bool.or_false, Bool.or_true, beq_true_, beq_false_, Nat.zero_add, Nat.add_zero, fr0_cons_zero, fr0_cons_succ, fr0_0, fr0_1, fr0_2, fr0_3, fr0_4, List.map_cons, List.map_nil, List.map_toArray, Option.map_some, Option.map_none, List.append_toArray, List.nil_append, List.cons_append, List.append_nil, List.all_cons, List.all_nil, List.set_cons_zero, List.set_cons_succ, Array.getD_lit, Array.size_lit, List.reverse_cons, List.reverse_nil, Op.operands, Call.operands, List.toList_toArray, Addr.add_lit, Option.some.injEq, exists_eq_left', Value.pointer.injEq, exists_eq_left, Int.toNat_natCast, Int.reduceToNat, Nat.mul_one, List.length_cons, List.length_nil, Nat.reducePow, h1, h8, h9, h10]
            refine ⟨fin w7 w7 s' ?_ ((hk2.trans hk5).trans hkw), ?_, hkw⟩
            · exact e2.down (by have := (hk2.trans hk5).size; exact this)
            · exact Vc.Own.at0 e2 (by rw [e3]; simp)
          · refine ⟨hb, (tellFn_spec formsL[i] hok.1 r t c _ hF (ht2.keep (hk5.trans j0)) (hc2.keep (hk5.trans j0))).mono ?_⟩
            rintro _ w6 ⟨sx, rfl, hsx, k6⟩
            refine kC.in_ (by kernel_rfl) ⟨j0.trans k6, ?_⟩
            simp only [vsz, ↓vsd, vsd, ↓vsdk, vsdk, ↓vst, vst, ↓vstk, vstk, vcds2, noYs, isLoad, purCs, ↓vss, ↓vsk, vsk, ↓vss2, vcs3, vcs4, vals, blds, vcs5, vcs6, pures, ints, tys0, tys1, tys2, tys3, tys4, tys5, ↓reduceIte, if_true, if_false, Nat.reduceLT, Nat.reduceLeDiff, Nat.reduceEqDiff, Nat.reduceAdd, Nat.reduceMul, Nat.reduceSub, conds, readsF, readsOk, zero_ne_one_, one_ne_zero_, true_and, and_true, and_self, false_and, and_false, eq_self, reduceCtorEq, Bool.true_and, Bool.and_true, Bool.false_and, Bool.and_false, Bool.false_eq_true, Bool.true_eq_false, forall_const, true_imp_, false_imp_, imp_self, implies_true, Bool.not_true, Bool.not_false, Bool.false_or, Bool.true_or, Bool.or_false, Bool.or_true, beq_true_, beq_false_, Nat.zero_add, Nat.add_zero, fr0_cons_zero, fr0_cons_succ, fr0_0, fr0_1, fr0_2, fr0_3, fr0_4, List.map_cons, List.map_nil, List.map_toArray, Option.map_some, Option.map_none, List.append_toArray, List.nil_append, List.cons_append, List.append_nil, List.all_cons, List.all_nil, List.set_cons_zero, List.set_cons_succ, Array.getD_lit, Array.size_lit, List.reverse_cons, List.reverse_nil, Op.operands, Call.operands, List.toList_toArray, Addr.add_lit, Option.some.injEq, exists_eq_left', Value.pointer.injEq, exists_eq_left, Int.toNat_natCast, Int.reduceToNat, Nat.mul_one, List.length_cons, List.length_nil, Nat.reducePow]
            have own1 := Vc.Own.built w6 9 (z := 1) (n := 1) (cs := [Value.string (str formsL[i].word)]) rfl (by decide)
            have kA : Kept w6 (w6.alloc (.cells [Value.string (str formsL[i].word)].toArray 9)) := (Kept.refl _).alloc _
            refine ⟨(j0.trans k6).trans kA, ?_⟩
            obtain ⟨s', w7, e1, e2, e3, e4, e5⟩ := append_own (P := Tryd.prog) (t := 43) (ty := 43) (e := 9) (z := 1) (x := sx) (news := (tellWords formsL[i] r).flatMap fStr) app43.slc app43.elem app43.esz app43.zok app43.pos app43.bytes app43.zl own1
              (by obtain ⟨a, h1, _⟩ := hsx.at_ (by have := hsx.len; omega); exact ⟨a, h1⟩) (by rw [flatMap_len fStr_len, hsx.len]) (rowStr (hsx.keep kA)) (flatMap_fStr_one _) (by have := hsx.len; simp; omega) (by have := kA.size; omega)
            refine exR.of rfl e1 ?_
            have hkw : Kept w5 w7 := ((j0.trans k6).trans kA).own (own1.down (by have := (j0.trans k6).size; exact this)) e4
            refine ⟨hkw, ?_⟩
            simp only [vsz, ↓vsd, vsd, ↓vsdk, vsdk, ↓vst, vst, ↓vstk, vstk, vcds2, noYs, isLoad, purCs, ↓vss, ↓vsk, vsk, ↓vss2, vcs3, vcs4, vals, blds, vcs5, vcs6, pures, ints, tys0, tys1, tys2, tys3, tys4, tys5, ↓reduceIte, if_true, if_false, Nat.reduceLT, Nat.reduceLeDiff, Nat.reduceEqDiff, Nat.reduceAdd, Nat.reduceMul, Nat.reduceSub, conds, readsF, readsOk, zero_ne_one_, one_ne_zero_, true_and, and_true, and_self, false_and, and_false, eq_self, reduceCtorEq, Bool.true_and, Bool.and_true, Bool.false_and, Bool.and_false, Bool.false_eq_true, Bool.true_eq_false, forall_const, true_imp_, false_imp_, imp_self, implies_true, Bool.not_true, Bool.not_false, Bool.false_or, Bool.true_or, Bool.or_false, Bool.or_true, beq_true_, beq_false_, Nat.zero_add, Nat.add_zero, fr0_cons_zero, fr0_cons_succ, fr0_0, fr0_1, fr0_2, fr0_3, fr0_4, List.map_cons, List.map_nil, List.map_toArray, Option.map_some, Option.map_none, List.append_toArray, List.nil_append, List.cons_append, List.append_nil, List.all_cons, List.all_nil, List.set_cons_zero, List.set_cons_succ, Array.getD_lit, Array.size_lit, List.reverse_cons, List.reverse_nil, Op.operands, Call.operands, List.toList_toArray, Addr.add_lit, Option.some.injEq, exists_eq_left', Value.pointer.injEq, exists_eq_left, Int.toNat_natCast, Int.reduceToNat, Nat.mul_one, List.length_cons, List.length_nil, Nat.reducePow]
            refine rest _ _ ⟨s', ?_⟩
            simp only [vsz, ↓vsd, vsd, ↓vsdk, vsdk, ↓vst, vst, ↓vstk, vstk, vcds2, noYs, isLoad, purCs, ↓vss, ↓vsk, vsk, ↓vss2, vcs3, vcs4, vals, blds, vcs5, vcs6, pures, ints, tys0, tys1, tys2, tys3, tys4, tys5, ↓reduceIte, if_true, if_false, Nat.reduceLT, Nat.reduceLeDiff, Nat.reduceEqDiff, Nat.reduceAdd, Nat.reduceMul, Nat.reduceSub, conds, readsF, readsOk, zero_ne_one_, one_ne_zero_, true_and, and_true, and_self, false_and, and_false, eq_self, reduceCtorEq, Bool.true_and, Bool.and_true, Bool.false_and, Bool.and_false, Bool.false_eq_true, Bool.true_eq_false, forall_const, true_imp_, false_imp_, imp_self, implies_true, Bool.not_true, Bool.not_false, Bool.false_or, Bool.true_or, Bool.or_false, Bool.or_true, beq_true_, beq_false_, Nat.zero_add, Nat.add_zero, fr0_cons_zero, fr0_cons_succ, fr0_0, fr0_1, fr0_2, fr0_3, fr0_4, List.map_cons, List.map_nil, List.map_toArray, Option.map_some, Option.map_none, List.append_toArray, List.nil_append, List.cons_append, List.append_nil, List.all_cons, List.all_nil, List.set_cons_zero, List.set_cons_succ, Array.getD_lit, Array.size_lit, List.reverse_cons, List.reverse_nil, Op.operands, Call.operands, List.toList_toArray, Addr.add_lit, Option.some.injEq, exists_eq_left', Value.pointer.injEq, exists_eq_left, Int.toNat_natCast, Int.reduceToNat, Nat.mul_one, List.length_cons, List.length_nil, Nat.reducePow, h1, h8, h9, h10]
            refine ⟨fin w7 w7 s' ?_ ((hk2.trans hk5).trans hkw), ?_, hkw⟩
            · exact e2.down (by have := ((hk2.trans hk5).trans (j0.trans k6)).size; exact this)
            · exact Vc.Own.at0 e2 (by rw [e3]; simp)
      · refine ⟨_, rfl, ?_, hk2.trans hk5⟩
        rw [tellOf, hfound]; simp [hrun]
    · refine ⟨_, rfl, ?_, hk2.trans hk4⟩
      rw [tellOf, hfound]
      have : decide (r.text.length > 200) = true := by simp at h200 ⊢; omega
      simp [this]
  · have hd : decide ((i : Int) < 6) = false := by simp; omega
    simp only [purCs, ↓vss, ↓vsk, vsk, ↓vss2, vcs3, vcs4, vals, blds, vcs5, vcs6, pures, ints, tys0, tys1, tys2, tys3, tys4, tys5, ↓reduceIte, if_true, if_false, Nat.reduceLT, Nat.reduceLeDiff, Nat.reduceEqDiff, Nat.reduceAdd, Nat.reduceMul, Nat.reduceSub, conds, readsF, readsOk, zero_ne_one_, one_ne_zero_, true_and, and_true, and_self, false_and, and_false, eq_self, reduceCtorEq, Bool.true_and, Bool.and_true, Bool.false_and, Bool.and_false, Bool.false_eq_true, Bool.true_eq_false, forall_const, true_imp_, false_imp_, imp_self, implies_true, Bool.not_true, Bool.not_false, Bool.false_or, Bool.true_or, Bool.or_false, Bool.or_true, beq_true_, beq_false_, Nat.zero_add, Nat.add_zero, fr0_cons_zero, fr0_cons_succ, fr0_0, fr0_1, fr0_2, fr0_3, fr0_4, List.map_cons, List.map_nil, List.map_toArray, Option.map_some, Option.map_none, List.append_toArray, List.nil_append, List.cons_append, List.append_nil, List.all_cons, List.all_nil, List.set_cons_zero, List.set_cons_succ, Array.getD_lit, Array.size_lit, List.reverse_cons, List.reverse_nil, Op.operands, Call.operands, List.toList_toArray, Addr.add_lit, Option.some.injEq, exists_eq_left', Value.pointer.injEq, exists_eq_left, Int.toNat_natCast, Int.reduceToNat, Nat.mul_one, List.length_cons, List.length_nil, Nat.reducePow, h1, h8, h9, h10, hd]
    have : i = formsL.length := by omega
    have hto : tellOf r = none := by
      rcases hinv with hnone | ⟨h1, _⟩
      · rw [this, List.take_length] at hnone
        rw [tellOf, hnone]
      · exact h1
    refine ⟨_, rfl, ?_, hk2.trans hk3⟩
    rw [hto]
end Go.Proofs.YtcjdbmcklemkkaaDoor
