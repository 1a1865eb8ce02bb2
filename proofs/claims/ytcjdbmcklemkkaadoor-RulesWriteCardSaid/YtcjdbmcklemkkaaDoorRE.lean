/- Contracts of inner functions of the program, and what they compute: parts of a proof. -/
import Derived.Test.YtcjdbmcklemkkaaDoorRD
namespace Go.Proofs.YtcjdbmcklemkkaaDoor
open Go Go.Proofs Go.Vc Go.RowKit
set_option maxRecDepth 100000
set_option linter.unusedSimpArgs false
set_option linter.unusedVariables false


theorem pstep_big (x : PSt) (r : Int) (h : 128 ≤ r) : pstep x r = none := by
  rw [pstep, if_neg (by omega), if_neg (by omega), if_neg (by omega), if_neg (by omega)]
theorem one_shl (k : Nat) (h : k < 8) : ((1 : UInt8) <<< UInt8.ofNat k).toNat = 2 ^ k := by
  revert k; decide

set_option maxHeartbeats 1000000 in
theorem parse_spec (s : List UInt8) (w : World) (hs : s.length ≤ 1000000) :
    Calls Tryd.prog 76 #[.string (str s)] w fun x w' => ∃ t : Sl, x = .returned (.tuple #[t.v, .int .i64 (parseDots s).2]) ∧ New elU8 w w' t (parseDots s).1 ∧ Kept w w' := by
  refine calls_of_at (e := ⟨Tryd.prog, 76, 63, Tryd.f76, [.tmp 2, .tmp 3], none, []⟩) Tryd.func76 rfl (by simp) rfl ?_; refine vc_sound rfl Tryd.func76 400 (.code _) _ _ ?_
  by_cases hs0 : s = []
  · subst hs0
    simp only [↓vcs, ↓vcs2, vcs3, vcs4, vals, blds, vcs5, vcs6, pures, ints, tys0, tys1, tys2, tys3, tys4, tys5, ↓reduceIte, if_true, if_false, Nat.reduceLT, Nat.reduceLeDiff, Nat.reduceEqDiff, Nat.reduceAdd, Nat.reduceMul, Nat.reduceSub, conds, readsF, readsOk, zero_ne_one_, one_ne_zero_, true_and, and_true, and_self, false_and, and_false, eq_self, reduceCtorEq, Bool.true_and, Bool.and_true, Bool.false_and, Bool.and_false, Bool.false_eq_true, Bool.true_eq_false, forall_const, true_imp_, false_imp_, imp_self, implies_true, Bool.not_true, Bool.not_false, Bool.false_or, Bool.true_or, Bool.or_false, Bool.or_true, beq_true_, beq_false_, Nat.zero_add, Nat.add_zero, fr0_cons_zero, fr0_cons_succ, fr0_0, fr0_1, fr0_2, fr0_3, fr0_4, List.map_cons, List.map_nil, List.map_toArray, Option.map_some, Option.map_none, List.append_toArray, List.nil_append, List.cons_append, List.append_nil, List.all_cons, List.all_nil, List.set_cons_zero, List.set_cons_succ, Array.getD_lit, Array.size_lit, List.reverse_cons, List.reverse_nil, Op.operands, Call.operands, List.toList_toArray, Addr.add_lit, Option.some.injEq, exists_eq_left', Value.pointer.injEq, exists_eq_left, Int.toNat_natCast, Int.reduceToNat, Nat.mul_one, loads, List.length_cons, List.length_nil, Nat.reducePow, str_toList, lit_str, str_size, str_byteAt, str_append, str_extract, show (([] : List UInt8) == []) = true from rfl]
    exact ⟨⟨none, 0, 0⟩, rfl, New.nil _ _ _ _ _, Kept.refl _⟩
  have hs1 : (s == []) = false := by simpa using hs0
  simp only [↓vcs, ↓vcs2, vcs3, vcs4, vals, blds, vcs5, vcs6, pures, ints, tys0, tys1, tys2, tys3, tys4, tys5, ↓reduceIte, if_true, if_false, Nat.reduceLT, Nat.reduceLeDiff, Nat.reduceEqDiff, Nat.reduceAdd, Nat.reduceMul, Nat.reduceSub, conds, readsF, readsOk, zero_ne_one_, one_ne_zero_, true_and, and_true, and_self, false_and, and_false, eq_self, reduceCtorEq, Bool.true_and, Bool.and_true, Bool.false_and, Bool.and_false, Bool.false_eq_true, Bool.true_eq_false, forall_const, true_imp_, false_imp_, imp_self, implies_true, Bool.not_true, Bool.not_false, Bool.false_or, Bool.true_or, Bool.or_false, Bool.or_true, beq_true_, beq_false_, Nat.zero_add, Nat.add_zero, fr0_cons_zero, fr0_cons_succ, fr0_0, fr0_1, fr0_2, fr0_3, fr0_4, List.map_cons, List.map_nil, List.map_toArray, Option.map_some, Option.map_none, List.append_toArray, List.nil_append, List.cons_append, List.append_nil, List.all_cons, List.all_nil, List.set_cons_zero, List.set_cons_succ, Array.getD_lit, Array.size_lit, List.reverse_cons, List.reverse_nil, Op.operands, Call.operands, List.toList_toArray, Addr.add_lit, Option.some.injEq, exists_eq_left', Value.pointer.injEq, exists_eq_left, Int.toNat_natCast, Int.reduceToNat, Nat.mul_one, loads, List.length_cons, List.length_nil, Nat.reducePow, str_toList, lit_str, str_size, str_byteAt, str_append, str_extract, hs1]
  refine ⟨by omega, _, _, run_range_string w _ _ (by kernel_rfl), ?_⟩
  generalize hS : s ++ [45] = S
  have hSl : S.length = s.length + 1 := by rw [← hS]; simp
  refine At.ind (fun m (x : Nat × Sl × PSt) f w' => f 4 = x.2.1.v ∧ f 5 = .int .u8 x.2.2.c.toNat ∧ f 6 = .int .i32 x.2.2.last ∧ f 7 = .bool x.2.2.none_ ∧ f 14 = .pointer (some ⟨w.heap.size, 0, none⟩) ∧ w'.heap[w.heap.size]? = some (.stringIter (str S) x.1) ∧ m = S.length - x.1 ∧ x.1 ≤ S.length ∧ x.2.2.l.length ≤ x.1 ∧ 48 ≤ x.2.2.last ∧ parseGo S ⟨[], 0, 48, true⟩ = parseGo (S.drop x.1) x.2.2 ∧ Mine w w' 5 1 fU8 x.2.1 x.2.2.l) (m := S.length) (x := (0, ⟨none, 0, 0⟩, ⟨[], 0, 48, true⟩)) ?_ ?_
  · simp only [↓vcs, ↓vcs2, vcs3, vcs4, vals, blds, vcs5, vcs6, pures, ints, tys0, tys1, tys2, tys3, tys4, tys5, ↓reduceIte, if_true, if_false, Nat.reduceLT, Nat.reduceLeDiff, Nat.reduceEqDiff, Nat.reduceAdd, Nat.reduceMul, Nat.reduceSub, conds, readsF, readsOk, zero_ne_one_, one_ne_zero_, true_and, and_true, and_self, false_and, and_false, eq_self, reduceCtorEq, Bool.true_and, Bool.and_true, Bool.false_and, Bool.and_false, Bool.false_eq_true, Bool.true_eq_false, forall_const, true_imp_, false_imp_, imp_self, implies_true, Bool.not_true, Bool.not_false, Bool.false_or, Bool.true_or, Bool.or_false, Bool.or_true, beq_true_, beq_false_, Nat.zero_add, Nat.add_zero, fr0_cons_zero, fr0_cons_succ, fr0_0, fr0_1, fr0_2, fr0_3, fr0_4, List.map_cons, List.map_nil, List.map_toArray, Option.map_some, Option.map_none, List.append_toArray, List.nil_append, List.cons_append, List.append_nil, List.all_cons, List.all_nil, List.set_cons_zero, List.set_cons_succ, Array.getD_lit, Array.size_lit, List.reverse_cons, List.reverse_nil, Op.operands, Call.operands, List.toList_toArray, Addr.add_lit, Option.some.injEq, exists_eq_left', Value.pointer.injEq, exists_eq_left, Int.toNat_natCast, Int.reduceToNat, Nat.mul_one, loads, List.length_cons, List.length_nil, Nat.reducePow]
    exact ⟨rfl, World.iter_heap _ _ _, by omega, Nat.zero_le _, by omega, by simp, Mine.nil ((Kept.refl w).alloc _) _ _ _⟩
  rintro m ih ⟨pos, out, st⟩ f w' ⟨h4, h5, h6, h7, h14, hit, hm, hpos, hll, hlast, hpg, hown⟩
  refine vc_sound rfl Tryd.func76 400 (.code _) _ _ ?_
  simp only at h4 h5 h6 h7 h14 hit hm hpos hll hlast hpg hown
  by_cases hlt : pos < S.length
  · have hstr : pos < (str S).size := by rw [str_size]; exact hlt
    simp only [↓vcs, ↓vcs2, vcs3, vcs4, vals, blds, vcs5, vcs6, pures, ints, tys0, tys1, tys2, tys3, tys4, tys5, ↓reduceIte, if_true, if_false, Nat.reduceLT, Nat.reduceLeDiff, Nat.reduceEqDiff, Nat.reduceAdd, Nat.reduceMul, Nat.reduceSub, conds, readsF, readsOk, zero_ne_one_, one_ne_zero_, true_and, and_true, and_self, false_and, and_false, eq_self, reduceCtorEq, Bool.true_and, Bool.and_true, Bool.false_and, Bool.and_false, Bool.false_eq_true, Bool.true_eq_false, forall_const, true_imp_, false_imp_, imp_self, implies_true, Bool.not_true, Bool.not_false, Bool.false_or, Bool.true_or, Bool.or_false, Bool.or_true, beq_true_, beq_false_, Nat.zero_add, Nat.add_zero, fr0_cons_zero, fr0_cons_succ, fr0_0, fr0_1, fr0_2, fr0_3, fr0_4, List.map_cons, List.map_nil, List.map_toArray, Option.map_some, Option.map_none, List.append_toArray, List.nil_append, List.cons_append, List.append_nil, List.all_cons, List.all_nil, List.set_cons_zero, List.set_cons_succ, Array.getD_lit, Array.size_lit, List.reverse_cons, List.reverse_nil, Op.operands, Call.operands, List.toList_toArray, Addr.add_lit, Option.some.injEq, exists_eq_left', Value.pointer.injEq, exists_eq_left, Int.toNat_natCast, Int.reduceToNat, Nat.mul_one, loads, List.length_cons, List.length_nil, Nat.reducePow, h4, h5, h6, h7, h14]
    refine ⟨_, _, Lib.run_next_any_at w' _ _ _ _ hit hstr, ?_⟩
    simp only [↓vcs, ↓vcs2, vcs3, vcs4, vals, blds, vcs5, vcs6, pures, ints, tys0, tys1, tys2, tys3, tys4, tys5, ↓reduceIte, if_true, if_false, Nat.reduceLT, Nat.reduceLeDiff, Nat.reduceEqDiff, Nat.reduceAdd, Nat.reduceMul, Nat.reduceSub, conds, readsF, readsOk, zero_ne_one_, one_ne_zero_, true_and, and_true, and_self, false_and, and_false, eq_self, reduceCtorEq, Bool.true_and, Bool.and_true, Bool.false_and, Bool.and_false, Bool.false_eq_true, Bool.true_eq_false, forall_const, true_imp_, false_imp_, imp_self, implies_true, Bool.not_true, Bool.not_false, Bool.false_or, Bool.true_or, Bool.or_false, Bool.or_true, beq_true_, beq_false_, Nat.zero_add, Nat.add_zero, fr0_cons_zero, fr0_cons_succ, fr0_0, fr0_1, fr0_2, fr0_3, fr0_4, List.map_cons, List.map_nil, List.map_toArray, Option.map_some, Option.map_none, List.append_toArray, List.nil_append, List.cons_append, List.append_nil, List.all_cons, List.all_nil, List.set_cons_zero, List.set_cons_succ, Array.getD_lit, Array.size_lit, List.reverse_cons, List.reverse_nil, Op.operands, Call.operands, List.toList_toArray, Addr.add_lit, Option.some.injEq, exists_eq_left', Value.pointer.injEq, exists_eq_left, Int.toNat_natCast, Int.reduceToNat, Nat.mul_one, loads, List.length_cons, List.length_nil, Nat.reducePow, h4, h5, h6, h7, h14]
    generalize hr : (Utf8.decode (str S) pos).1 = r
    generalize hwd : (Utf8.decode (str S) pos).2 = wd
    have hbs : byteAt (str S) pos = S[pos] := by rw [str_byteAt, List.getD_eq_getElem?_getD, List.getElem?_eq_getElem hlt]; rfl
    have hdrop : S.drop pos = S[pos] :: S.drop (pos + 1) := List.drop_eq_getElem_cons hlt
    have hdec : pstep st (r : Int) = pstep st S[pos].toNat ∧ ((r : Int) < 128 → wd = 1) := by
      by_cases hb : S[pos].toNat < 128
      · have := decode_small (str S) pos hstr (by rw [hbs]; exact hb)
        rw [hbs] at this
        rw [this] at hr hwd
        simp only at hr hwd
        subst hr; subst hwd
        exact ⟨rfl, fun _ => rfl⟩
      · have := decode_big (str S) pos hstr (by rw [hbs]; omega)
        rw [hr] at this
        refine ⟨?_, fun h => by omega⟩
        rw [pstep_big _ _ (by omega), pstep_big _ _ (by omega)]
    have hpg2 : parseGo S ⟨[], 0, 48, true⟩ = match pstep st (r : Int) with | some y => parseGo (S.drop (pos + 1)) y | none => none := by
      rw [hpg, hdrop, hdec.1]; rfl
    have hbad : pstep st (r : Int) = none → parseDots s = ([], 5) := by
      intro h; rw [h] at hpg2; simp only at hpg2
      simp only [parseDots, if_neg hs0, hS, hpg2]
    have hit2 : (w'.iterAt w.heap.size (str S) (pos + wd)).heap[w.heap.size]? = some (.stringIter (str S) (pos + wd)) := Lib.iterAt_heap _ _ _ _ _ hit
    have hown2 := hown.iterAt hit (Nat.le_refl _) (pos + wd)
    generalize w'.iterAt w.heap.size (str S) (pos + wd) = w2 at hit2 hown2
    split
    · rename_i h1
      simp only [Bool.and_eq_true, beq_iff_eq] at h1
      have := hbad (by rw [pstep, if_pos ⟨h1.1.1, h1.1.2, h1.2⟩])
      rw [this]
      exact ⟨⟨none, 0, 0⟩, rfl, New.nil _ _ _ _ _, hown2.kept⟩
    rename_i h1
    have h1' : ¬ ((r : Int) = 45 ∧ st.last = 48 ∧ st.none_ = true) := by simpa [and_assoc] using h1
    split
    · rename_i h2
      have h2' : (r : Int) = 45 := by simpa using h2
      have hp : pstep st (r : Int) = some ⟨st.l ++ [st.c], 0, 48, true⟩ := by rw [pstep, if_neg h1', if_pos h2']
      have hw1 := hdec.2 (by omega)
      subst hw1
      rw [hp] at hpg2
      obtain ⟨s', w3, a1, a2, a3⟩ := hown2.appG (ty := 31) app31 st.c fU8_len (fU8_one _) (by omega)
      refine ⟨s', w3, a1, ih (S.length - (pos + 1)) (pos + 1, s', ⟨st.l ++ [st.c], 0, 48, true⟩) _ _ (by omega) ?_⟩
      have hit3 := hown2.other (w' := w3) a3 hit2 (by intro c t fz h; cases h)
      simp only [↓vcs, ↓vcs2, vcs3, vcs4, vals, blds, vcs5, vcs6, pures, ints, tys0, tys1, tys2, tys3, tys4, tys5, ↓reduceIte, if_true, if_false, Nat.reduceLT, Nat.reduceLeDiff, Nat.reduceEqDiff, Nat.reduceAdd, Nat.reduceMul, Nat.reduceSub, conds, readsF, readsOk, zero_ne_one_, one_ne_zero_, true_and, and_true, and_self, false_and, and_false, eq_self, reduceCtorEq, Bool.true_and, Bool.and_true, Bool.false_and, Bool.and_false, Bool.false_eq_true, Bool.true_eq_false, forall_const, true_imp_, false_imp_, imp_self, implies_true, Bool.not_true, Bool.not_false, Bool.false_or, Bool.true_or, Bool.or_false, Bool.or_true, beq_true_, beq_false_, Nat.zero_add, Nat.add_zero, fr0_cons_zero, fr0_cons_succ, fr0_0, fr0_1, fr0_2, fr0_3, fr0_4, List.map_cons, List.map_nil, List.map_toArray, Option.map_some, Option.map_none, List.append_toArray, List.nil_append, List.cons_append, List.append_nil, List.all_cons, List.all_nil, List.set_cons_zero, List.set_cons_succ, Array.getD_lit, Array.size_lit, List.reverse_cons, List.reverse_nil, Op.operands, Call.operands, List.toList_toArray, Addr.add_lit, Option.some.injEq, exists_eq_left', Value.pointer.injEq, exists_eq_left, Int.toNat_natCast, Int.reduceToNat, Nat.mul_one, loads, List.length_cons, List.length_nil, Nat.reducePow, h14, hit3]
      exact ⟨rfl, by omega, by simp; omega, by omega, hpg2, a2⟩
    rename_i h2
    have h2' : ¬ (r : Int) = 45 := by simpa using h2
    split
    · rename_i h3
      have h3' : (r : Int) = 48 ∧ st.none_ = true := by simpa using h3
      have hp : pstep st (r : Int) = some ⟨st.l, st.c, 56, false⟩ := by rw [pstep, if_neg h1', if_neg h2', if_pos h3']
      have hw1 := hdec.2 (by omega)
      subst hw1
      rw [hp] at hpg2
      refine ih (S.length - (pos + 1)) (pos + 1, out, ⟨st.l, st.c, 56, false⟩) _ _ (by omega) ?_
      simp only [↓vcs, ↓vcs2, vcs3, vcs4, vals, blds, vcs5, vcs6, pures, ints, tys0, tys1, tys2, tys3, tys4, tys5, ↓reduceIte, if_true, if_false, Nat.reduceLT, Nat.reduceLeDiff, Nat.reduceEqDiff, Nat.reduceAdd, Nat.reduceMul, Nat.reduceSub, conds, readsF, readsOk, zero_ne_one_, one_ne_zero_, true_and, and_true, and_self, false_and, and_false, eq_self, reduceCtorEq, Bool.true_and, Bool.and_true, Bool.false_and, Bool.and_false, Bool.false_eq_true, Bool.true_eq_false, forall_const, true_imp_, false_imp_, imp_self, implies_true, Bool.not_true, Bool.not_false, Bool.false_or, Bool.true_or, Bool.or_false, Bool.or_true, beq_true_, beq_false_, Nat.zero_add, Nat.add_zero, fr0_cons_zero, fr0_cons_succ, fr0_0, fr0_1, fr0_2, fr0_3, fr0_4, List.map_cons, List.map_nil, List.map_toArray, Option.map_some, Option.map_none, List.append_toArray, List.nil_append, List.cons_append, List.append_nil, List.all_cons, List.all_nil, List.set_cons_zero, List.set_cons_succ, Array.getD_lit, Array.size_lit, List.reverse_cons, List.reverse_nil, Op.operands, Call.operands, List.toList_toArray, Addr.add_lit, Option.some.injEq, exists_eq_left', Value.pointer.injEq, exists_eq_left, Int.toNat_natCast, Int.reduceToNat, Nat.mul_one, loads, List.length_cons, List.length_nil, Nat.reducePow, h4, h5, h14, hit2]
      exact ⟨by omega, by omega, by omega, hpg2, hown2⟩
    rename_i h3
    have h3' : ¬ ((r : Int) = 48 ∧ st.none_ = true) := by simpa using h3
    refine ⟨?_, ?_⟩
    · intro h4 h5
      rw [h4, h5]; rfl
    split
    · rename_i h4x
      have h4' : (r : Int) > st.last ∧ (r : Int) ≤ 56 ∧ (st.none_ = true ∨ st.last ≠ 56) := by simpa [and_assoc] using h4x
      have hp : pstep st (r : Int) = some ⟨st.l, st.c ||| (1 <<< UInt8.ofNat ((r : Int) - 49).toNat), r, false⟩ := by rw [pstep, if_neg h1', if_neg h2', if_neg h3', if_pos h4']
      have hw1 := hdec.2 (by omega)
      subst hw1
      rw [hp] at hpg2
      have hwr : IntKind.i32.wrap ((r : Int) - 49) = (r : Int) - 49 := wrap_i32 (by omega) (by omega)
      refine ⟨by rw [hwr]; omega, ?_⟩
      refine ih (S.length - (pos + 1)) (pos + 1, out, ⟨st.l, st.c ||| (1 <<< UInt8.ofNat ((r : Int) - 49).toNat), r, false⟩) _ _ (by omega) ?_
      simp only [↓vcs, ↓vcs2, vcs3, vcs4, vals, blds, vcs5, vcs6, pures, ints, tys0, tys1, tys2, tys3, tys4, tys5, ↓reduceIte, if_true, if_false, Nat.reduceLT, Nat.reduceLeDiff, Nat.reduceEqDiff, Nat.reduceAdd, Nat.reduceMul, Nat.reduceSub, conds, readsF, readsOk, zero_ne_one_, one_ne_zero_, true_and, and_true, and_self, false_and, and_false, eq_self, reduceCtorEq, Bool.true_and, Bool.and_true, Bool.false_and, Bool.and_false, Bool.false_eq_true, Bool.true_eq_false, forall_const, true_imp_, false_imp_, imp_self, implies_true, Bool.not_true, Bool.not_false, Bool.false_or, Bool.true_or, Bool.or_false, Bool.or_true, beq_true_, beq_false_, Nat.zero_add, Nat.add_zero, fr0_cons_zero, fr0_cons_succ, fr0_0, fr0_1, fr0_2, fr0_3, fr0_4, List.map_cons, List.map_nil, List.map_toArray, Option.map_some, Option.map_none, List.append_toArray, List.nil_append, List.cons_append, List.append_nil, List.all_cons, List.all_nil, List.set_cons_zero, List.set_cons_succ, Array.getD_lit, Array.size_lit, List.reverse_cons, List.reverse_nil, Op.operands, Call.operands, List.toList_toArray, Addr.add_lit, Option.some.injEq, exists_eq_left', Value.pointer.injEq, exists_eq_left, Int.toNat_natCast, Int.reduceToNat, Nat.mul_one, loads, List.length_cons, List.length_nil, Nat.reducePow, h4, h5, h14, hit2, hwr]
      refine ⟨congrArg _ ?_, by omega, by omega, by omega, hpg2, hown2⟩
      obtain ⟨k, hk, hk8⟩ : ∃ k : Nat, (r : Int) - 49 = k ∧ k < 8 := ⟨r - 49, by omega, by omega⟩
      rw [hk, Int.toNat_natCast, show min k IntKind.u8.bits = k by simp only [IntKind.bits]; omega]
      have h2k : 2 ^ k < 256 := Nat.pow_lt_pow_right (a := 2) (by decide) (show k < 8 from hk8)
      rw [show (1 : Int) * 2 ^ k = ((2 ^ k : Nat) : Int) by simp, wrap_u8 (Int.natCast_nonneg _) (by exact_mod_cast h2k), u8_or_nat _ _ st.c.toNat_lt h2k, UInt8.toNat_or, one_shl k hk8]
    · rename_i h4x
      have h4' : ¬ ((r : Int) > st.last ∧ (r : Int) ≤ 56 ∧ (st.none_ = true ∨ st.last ≠ 56)) := by simpa [and_assoc] using h4x
      rw [hbad (by rw [pstep, if_neg h1', if_neg h2', if_neg h3', if_neg h4'])]
      exact ⟨⟨none, 0, 0⟩, rfl, New.nil _ _ _ _ _, hown2.kept⟩
  · have hstr : ¬ pos < (str S).size := by rw [str_size]; exact hlt
    simp only [↓vcs, ↓vcs2, vcs3, vcs4, vals, blds, vcs5, vcs6, pures, ints, tys0, tys1, tys2, tys3, tys4, tys5, ↓reduceIte, if_true, if_false, Nat.reduceLT, Nat.reduceLeDiff, Nat.reduceEqDiff, Nat.reduceAdd, Nat.reduceMul, Nat.reduceSub, conds, readsF, readsOk, zero_ne_one_, one_ne_zero_, true_and, and_true, and_self, false_and, and_false, eq_self, reduceCtorEq, Bool.true_and, Bool.and_true, Bool.false_and, Bool.and_false, Bool.false_eq_true, Bool.true_eq_false, forall_const, true_imp_, false_imp_, imp_self, implies_true, Bool.not_true, Bool.not_false, Bool.false_or, Bool.true_or, Bool.or_false, Bool.or_true, beq_true_, beq_false_, Nat.zero_add, Nat.add_zero, fr0_cons_zero, fr0_cons_succ, fr0_0, fr0_1, fr0_2, fr0_3, fr0_4, List.map_cons, List.map_nil, List.map_toArray, Option.map_some, Option.map_none, List.append_toArray, List.nil_append, List.cons_append, List.append_nil, List.all_cons, List.all_nil, List.set_cons_zero, List.set_cons_succ, Array.getD_lit, Array.size_lit, List.reverse_cons, List.reverse_nil, Op.operands, Call.operands, List.toList_toArray, Addr.add_lit, Option.some.injEq, exists_eq_left', Value.pointer.injEq, exists_eq_left, Int.toNat_natCast, Int.reduceToNat, Nat.mul_one, loads, List.length_cons, List.length_nil, Nat.reducePow, h4, h5, h6, h7, h14]
    refine ⟨_, _, Lib.run_next_end_at w' _ _ _ _ hit hstr, ?_⟩
    simp only [↓vcs, ↓vcs2, vcs3, vcs4, vals, blds, vcs5, vcs6, pures, ints, tys0, tys1, tys2, tys3, tys4, tys5, ↓reduceIte, if_true, if_false, Nat.reduceLT, Nat.reduceLeDiff, Nat.reduceEqDiff, Nat.reduceAdd, Nat.reduceMul, Nat.reduceSub, conds, readsF, readsOk, zero_ne_one_, one_ne_zero_, true_and, and_true, and_self, false_and, and_false, eq_self, reduceCtorEq, Bool.true_and, Bool.and_true, Bool.false_and, Bool.and_false, Bool.false_eq_true, Bool.true_eq_false, forall_const, true_imp_, false_imp_, imp_self, implies_true, Bool.not_true, Bool.not_false, Bool.false_or, Bool.true_or, Bool.or_false, Bool.or_true, beq_true_, beq_false_, Nat.zero_add, Nat.add_zero, fr0_cons_zero, fr0_cons_succ, fr0_0, fr0_1, fr0_2, fr0_3, fr0_4, List.map_cons, List.map_nil, List.map_toArray, Option.map_some, Option.map_none, List.append_toArray, List.nil_append, List.cons_append, List.append_nil, List.all_cons, List.all_nil, List.set_cons_zero, List.set_cons_succ, Array.getD_lit, Array.size_lit, List.reverse_cons, List.reverse_nil, Op.operands, Call.operands, List.toList_toArray, Addr.add_lit, Option.some.injEq, exists_eq_left', Value.pointer.injEq, exists_eq_left, Int.toNat_natCast, Int.reduceToNat, Nat.mul_one, loads, List.length_cons, List.length_nil, Nat.reducePow, h4, h5, h6, h7, h14]
    have : S.drop pos = [] := List.drop_of_length_le (by omega)
    rw [this] at hpg
    have hpd : parseDots s = (st.l, 0) := by simp only [parseDots, if_neg hs0, hS, hpg, parseGo]
    rw [hpd]
    have hSl : S.length = s.length + 1 := by rw [← hS]; simp
    exact ⟨out, rfl, hown.newU8 (by omega), hown.kept⟩
end Go.Proofs.YtcjdbmcklemkkaaDoor
