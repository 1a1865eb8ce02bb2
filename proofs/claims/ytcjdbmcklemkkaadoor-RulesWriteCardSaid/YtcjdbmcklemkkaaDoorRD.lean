/- Contracts of inner functions of the program, and what they compute: parts of a proof. -/
import Derived.Test.YtcjdbmcklemkkaaDoorRC
namespace Go.Proofs.YtcjdbmcklemkkaaDoor
open Go Go.Proofs Go.Vc Go.RowKit
set_option maxRecDepth 100000
set_option linter.unusedSimpArgs false
set_option linter.unusedVariables false


theorem textDots_snoc (l : List UInt8) (i : Nat) (h : i < l.length) : textDots (l.take (i + 1)) = textDots (l.take i) ++ (if i = 0 then [] else [45]) ++ cellOf l[i] := by
  rw [take_snoc' _ _ h]
  cases l with
  | nil => simp at h
  | cons a l =>
    cases i with
    | zero => simp [textDots]
    | succ i =>
      rw [← take_snoc' (a :: l) (i + 1) h]
      simp only [textDots, List.take_succ_cons, List.getElem_cons_succ]
      rw [take_snoc' l i (by simpa using h), List.flatMap_append]; simp
theorem dotsOf_len (c : UInt8) : (dotsOf c).length ≤ 8 := by
  have := List.length_filter_le (fun d => c.toNat / 2 ^ d % 2 == 1) (List.range 8)
  simp only [dotsOf, List.length_map]
  simpa using this
theorem cellOf_len (c : UInt8) : (cellOf c).length ≤ 9 := by
  have := dotsOf_len c
  simp only [cellOf, List.length_append]; split <;> simp <;> omega
theorem textDots_len (l : List UInt8) : ∀ i, i ≤ l.length → (textDots (l.take i)).length ≤ 10 * i
  | 0, _ => by simp [textDots]
  | i + 1, h => by
    have := textDots_len l i (by omega)
    have h2 := cellOf_len l[i]
    rw [textDots_snoc _ _ (by omega)]
    simp only [List.length_append]; split <;> simp <;> omega
theorem u8_ne {c : UInt8} (h : c ≠ 0) : ((c.toNat : Int) == 0) = false := by
  simp only [beq_eq_false_iff_ne, ne_eq]; intro h2; exact h (UInt8.toNat_inj.1 (by show c.toNat = 0; omega))
def dotsTo (c : UInt8) (k : Nat) : List UInt8 := ((List.range k).filter fun d => c.toNat / 2 ^ d % 2 == 1).map fun d => UInt8.ofNat (49 + d)
theorem dotsTo_succ (c : UInt8) (k : Nat) : dotsTo c (k + 1) = dotsTo c k ++ (if (c.toNat / 2 ^ k % 2 == 1) = true then [UInt8.ofNat (49 + k)] else []) := by
  simp only [dotsTo, List.range_succ, List.filter_append, List.map_append]
  congr 1
  by_cases h : (c.toNat / 2 ^ k % 2 == 1) = true <;> simp only [List.filter_cons, List.filter_nil, h, if_true, if_false] <;> rfl
theorem dotsTo_len (c : UInt8) (k : Nat) (hk : k ≤ 8) : (dotsTo c k).length ≤ 8 := by
  have := List.length_filter_le (fun d => c.toNat / 2 ^ d % 2 == 1) (List.range k)
  simp only [dotsTo, List.length_map]
  simp only [List.length_range] at this
  omega

theorem bit_u8 (c : UInt8) (k : Nat) (hk : k < 8) : (bits .and .u8 ((c.toNat : Int).fdiv (2 ^ min k IntKind.u8.bits)) 1 == 1) = (c.toNat / 2 ^ k % 2 == 1) := by
  have e : min k IntKind.u8.bits = k := by simp only [IntKind.bits]; omega
  have hc := c.toNat_lt
  have h3 : c.toNat / 2 ^ k ≤ c.toNat := Nat.div_le_self _ _
  rw [e, Int.fdiv_eq_ediv_of_nonneg _ (by exact_mod_cast Nat.zero_le (2 ^ k))]
  have h4 : ((c.toNat : Int)) / (2 ^ k) = ((c.toNat / 2 ^ k : Nat) : Int) := by simp
  rw [h4]
  generalize c.toNat / 2 ^ k = q at h3
  have h5 : bits .and .u8 (q : Int) 1 = q % 2 := bits_mask .u8 8 (by decide) wraps_u8 1 (by decide) (q : Int) (by omega) (by omega)
  rw [h5, Bool.eq_iff_iff]; simp; omega

set_option maxHeartbeats 1000000 in
theorem text_spec (s : Sl) (w : World) (l : List UInt8) (hs : Is elU8 w s l) (hl : l.length ≤ 1000000) :
    Calls Tryd.prog 50 #[s.v] w fun x w' => x = .returned (.string (str (textDots l))) ∧ Kept w w' := by
  have hb := hs.len
  refine calls_of_at (e := ⟨Tryd.prog, 50, 41, Tryd.f50, [.tmp 2], none, []⟩) Tryd.func50 rfl (by simp) rfl ?_; refine vc_sound rfl Tryd.func50 400 (.code _) _ _ ?_
  simp only [↓vcs, ↓vcs2, vcs3, vcs4, vals, blds, vcs5, vcs6, pures, ints, tys0, tys1, tys2, tys3, tys4, tys5, ↓reduceIte, if_true, if_false, Nat.reduceLT, Nat.reduceLeDiff, Nat.reduceEqDiff, Nat.reduceAdd, Nat.reduceMul, Nat.reduceSub, conds, readsF, readsOk, zero_ne_one_, one_ne_zero_, true_and, and_true, and_self, false_and, and_false, eq_self, reduceCtorEq, Bool.true_and, Bool.and_true, Bool.false_and, Bool.and_false, Bool.false_eq_true, Bool.true_eq_false, forall_const, true_imp_, false_imp_, imp_self, implies_true, Bool.not_true, Bool.not_false, Bool.false_or, Bool.true_or, Bool.or_false, Bool.or_true, beq_true_, beq_false_, Nat.zero_add, Nat.add_zero, fr0_cons_zero, fr0_cons_succ, fr0_0, fr0_1, fr0_2, fr0_3, fr0_4, List.map_cons, List.map_nil, List.map_toArray, Option.map_some, Option.map_none, List.append_toArray, List.nil_append, List.cons_append, List.append_nil, List.all_cons, List.all_nil, List.set_cons_zero, List.set_cons_succ, Array.getD_lit, Array.size_lit, List.reverse_cons, List.reverse_nil, Op.operands, Call.operands, List.toList_toArray, Addr.add_lit, Option.some.injEq, exists_eq_left', Value.pointer.injEq, exists_eq_left, Int.toNat_natCast, Int.reduceToNat, Nat.mul_one, loads, List.length_cons, List.length_nil, Nat.reducePow]
  refine At.ind (fun m (x : Nat × Sl) f w' => f 7 = s.v ∧ f 8 = .int .i64 l.length ∧ f 9 = .int .i64 x.1 ∧ f 3 = x.2.v ∧ m = l.length - x.1 ∧ x.1 ≤ l.length ∧ Mine w w' 5 1 fU8 x.2 (textDots (l.take x.1))) (m := l.length) (x := (0, ⟨none, 0, 0⟩)) ?_ ?_
  · simp only [↓vcs, ↓vcs2, vcs3, vcs4, vals, blds, vcs5, vcs6, pures, ints, tys0, tys1, tys2, tys3, tys4, tys5, ↓reduceIte, if_true, if_false, Nat.reduceLT, Nat.reduceLeDiff, Nat.reduceEqDiff, Nat.reduceAdd, Nat.reduceMul, Nat.reduceSub, conds, readsF, readsOk, zero_ne_one_, one_ne_zero_, true_and, and_true, and_self, false_and, and_false, eq_self, reduceCtorEq, Bool.true_and, Bool.and_true, Bool.false_and, Bool.and_false, Bool.false_eq_true, Bool.true_eq_false, forall_const, true_imp_, false_imp_, imp_self, implies_true, Bool.not_true, Bool.not_false, Bool.false_or, Bool.true_or, Bool.or_false, Bool.or_true, beq_true_, beq_false_, Nat.zero_add, Nat.add_zero, fr0_cons_zero, fr0_cons_succ, fr0_0, fr0_1, fr0_2, fr0_3, fr0_4, List.map_cons, List.map_nil, List.map_toArray, Option.map_some, Option.map_none, List.append_toArray, List.nil_append, List.cons_append, List.append_nil, List.all_cons, List.all_nil, List.set_cons_zero, List.set_cons_succ, Array.getD_lit, Array.size_lit, List.reverse_cons, List.reverse_nil, Op.operands, Call.operands, List.toList_toArray, Addr.add_lit, Option.some.injEq, exists_eq_left', Value.pointer.injEq, exists_eq_left, Int.toNat_natCast, Int.reduceToNat, Nat.mul_one, loads, List.length_cons, List.length_nil, Nat.reducePow]
    exact ⟨by rw [hb], rfl, by simp, by omega, Mine.nil (Kept.refl _) _ _ _⟩
  rintro m ih ⟨i, out⟩ f w' ⟨h7, h8, h9, h3, hm, hi, hown⟩
  refine vc_sound rfl Tryd.func50 400 (.code _) _ _ ?_
  simp only at h7 h8 h9 h3 hm hi hown
  by_cases hlt : i < l.length
  · have hd : decide ((i : Int) < (l.length : Int)) = true := by simp; omega
    have hlen := textDots_len l i hi
    simp only [↓vcs, ↓vcs2, vcs3, vcs4, vals, blds, vcs5, vcs6, pures, ints, tys0, tys1, tys2, tys3, tys4, tys5, ↓reduceIte, if_true, if_false, Nat.reduceLT, Nat.reduceLeDiff, Nat.reduceEqDiff, Nat.reduceAdd, Nat.reduceMul, Nat.reduceSub, conds, readsF, readsOk, zero_ne_one_, one_ne_zero_, true_and, and_true, and_self, false_and, and_false, eq_self, reduceCtorEq, Bool.true_and, Bool.and_true, Bool.false_and, Bool.and_false, Bool.false_eq_true, Bool.true_eq_false, forall_const, true_imp_, false_imp_, imp_self, implies_true, Bool.not_true, Bool.not_false, Bool.false_or, Bool.true_or, Bool.or_false, Bool.or_true, beq_true_, beq_false_, Nat.zero_add, Nat.add_zero, fr0_cons_zero, fr0_cons_succ, fr0_0, fr0_1, fr0_2, fr0_3, fr0_4, List.map_cons, List.map_nil, List.map_toArray, Option.map_some, Option.map_none, List.append_toArray, List.nil_append, List.cons_append, List.append_nil, List.all_cons, List.all_nil, List.set_cons_zero, List.set_cons_succ, Array.getD_lit, Array.size_lit, List.reverse_cons, List.reverse_nil, Op.operands, Call.operands, List.toList_toArray, Addr.add_lit, Option.some.injEq, exists_eq_left', Value.pointer.injEq, exists_eq_left, Int.toNat_natCast, Int.reduceToNat, Nat.mul_one, loads, List.length_cons, List.length_nil, Nat.reducePow, h7, h8, h9, h3, hd]
    refine ⟨⟨hs.some_ hlt, by omega, by omega⟩, (l[i].toNat : Int), (hs.keep hown.kept).u8 hlt, ?_⟩
    apply joinP (fun (f : F) (w' : World) => f 7 = s.v ∧ f 8 = .int .i64 l.length ∧ f 9 = .int .i64 i ∧ f 5 = .int .u8 l[i].toNat ∧ f 24 = .int .u8 0 ∧ ∃ out2, f 3 = Sl.v out2 ∧ Mine w w' 5 1 fU8 out2 (textDots (l.take i) ++ (if i = 0 then [] else [45]) ++ (if l[i] = 0 then [48] else [])))
    case second =>
      intro hj
      by_cases hi0 : i = 0
      · have z1 : decide ((0 : Int) < i) = false := by simp; omega
        by_cases hc0 : l[i] = 0
        · have z2 : ((l[i].toNat : Int) == 0) = true := by simp [hc0]
          simp only [z1, z2, if_true, Bool.false_eq_true, if_false]
          obtain ⟨s', w2, a1, a2⟩ := hown.appU8i (ty := 31) app31 48 (by omega) (by omega) (by omega)
          refine ⟨s', w2, a1, hj _ _ ?_⟩
          simp only [↓vcs, ↓vcs2, vcs3, vcs4, vals, blds, vcs5, vcs6, pures, ints, tys0, tys1, tys2, tys3, tys4, tys5, ↓reduceIte, if_true, if_false, Nat.reduceLT, Nat.reduceLeDiff, Nat.reduceEqDiff, Nat.reduceAdd, Nat.reduceMul, Nat.reduceSub, conds, readsF, readsOk, zero_ne_one_, one_ne_zero_, true_and, and_true, and_self, false_and, and_false, eq_self, reduceCtorEq, Bool.true_and, Bool.and_true, Bool.false_and, Bool.and_false, Bool.false_eq_true, Bool.true_eq_false, forall_const, true_imp_, false_imp_, imp_self, implies_true, Bool.not_true, Bool.not_false, Bool.false_or, Bool.true_or, Bool.or_false, Bool.or_true, beq_true_, beq_false_, Nat.zero_add, Nat.add_zero, fr0_cons_zero, fr0_cons_succ, fr0_0, fr0_1, fr0_2, fr0_3, fr0_4, List.map_cons, List.map_nil, List.map_toArray, Option.map_some, Option.map_none, List.append_toArray, List.nil_append, List.cons_append, List.append_nil, List.all_cons, List.all_nil, List.set_cons_zero, List.set_cons_succ, Array.getD_lit, Array.size_lit, List.reverse_cons, List.reverse_nil, Op.operands, Call.operands, List.toList_toArray, Addr.add_lit, Option.some.injEq, exists_eq_left', Value.pointer.injEq, exists_eq_left, Int.toNat_natCast, Int.reduceToNat, Nat.mul_one, loads, List.length_cons, List.length_nil, Nat.reducePow, h7, h8, h9]
          exact ⟨s', rfl, by rw [if_pos hi0, if_pos hc0]; simpa using a2⟩
        · have z2 : ((l[i].toNat : Int) == 0) = false := u8_ne hc0
          simp only [z1, z2, if_true, Bool.false_eq_true, if_false]
          refine hj _ _ ?_
          simp only [↓vcs, ↓vcs2, vcs3, vcs4, vals, blds, vcs5, vcs6, pures, ints, tys0, tys1, tys2, tys3, tys4, tys5, ↓reduceIte, if_true, if_false, Nat.reduceLT, Nat.reduceLeDiff, Nat.reduceEqDiff, Nat.reduceAdd, Nat.reduceMul, Nat.reduceSub, conds, readsF, readsOk, zero_ne_one_, one_ne_zero_, true_and, and_true, and_self, false_and, and_false, eq_self, reduceCtorEq, Bool.true_and, Bool.and_true, Bool.false_and, Bool.and_false, Bool.false_eq_true, Bool.true_eq_false, forall_const, true_imp_, false_imp_, imp_self, implies_true, Bool.not_true, Bool.not_false, Bool.false_or, Bool.true_or, Bool.or_false, Bool.or_true, beq_true_, beq_false_, Nat.zero_add, Nat.add_zero, fr0_cons_zero, fr0_cons_succ, fr0_0, fr0_1, fr0_2, fr0_3, fr0_4, List.map_cons, List.map_nil, List.map_toArray, Option.map_some, Option.map_none, List.append_toArray, List.nil_append, List.cons_append, List.append_nil, List.all_cons, List.all_nil, List.set_cons_zero, List.set_cons_succ, Array.getD_lit, Array.size_lit, List.reverse_cons, List.reverse_nil, Op.operands, Call.operands, List.toList_toArray, Addr.add_lit, Option.some.injEq, exists_eq_left', Value.pointer.injEq, exists_eq_left, Int.toNat_natCast, Int.reduceToNat, Nat.mul_one, loads, List.length_cons, List.length_nil, Nat.reducePow, h7, h8, h9, h3]
          exact ⟨out, rfl, by rw [if_pos hi0, if_neg hc0]; simpa using hown⟩
      · have z1 : decide ((0 : Int) < i) = true := by simp; omega
        simp only [z1, if_true]
        obtain ⟨s', w2, a1, a2⟩ := hown.appU8i (ty := 31) app31 45 (by omega) (by omega) (by omega)
        refine ⟨s', w2, a1, ?_⟩
        by_cases hc0 : l[i] = 0
        · have z2 : ((l[i].toNat : Int) == 0) = true := by simp [hc0]
          simp only [z2, if_true]
          obtain ⟨s3, w3, b1, b2⟩ := a2.appU8i (ty := 31) app31 48 (by omega) (by omega) (by simp; omega)
          refine ⟨s3, w3, b1, hj _ _ ?_⟩
          simp only [↓vcs, ↓vcs2, vcs3, vcs4, vals, blds, vcs5, vcs6, pures, ints, tys0, tys1, tys2, tys3, tys4, tys5, ↓reduceIte, if_true, if_false, Nat.reduceLT, Nat.reduceLeDiff, Nat.reduceEqDiff, Nat.reduceAdd, Nat.reduceMul, Nat.reduceSub, conds, readsF, readsOk, zero_ne_one_, one_ne_zero_, true_and, and_true, and_self, false_and, and_false, eq_self, reduceCtorEq, Bool.true_and, Bool.and_true, Bool.false_and, Bool.and_false, Bool.false_eq_true, Bool.true_eq_false, forall_const, true_imp_, false_imp_, imp_self, implies_true, Bool.not_true, Bool.not_false, Bool.false_or, Bool.true_or, Bool.or_false, Bool.or_true, beq_true_, beq_false_, Nat.zero_add, Nat.add_zero, fr0_cons_zero, fr0_cons_succ, fr0_0, fr0_1, fr0_2, fr0_3, fr0_4, List.map_cons, List.map_nil, List.map_toArray, Option.map_some, Option.map_none, List.append_toArray, List.nil_append, List.cons_append, List.append_nil, List.all_cons, List.all_nil, List.set_cons_zero, List.set_cons_succ, Array.getD_lit, Array.size_lit, List.reverse_cons, List.reverse_nil, Op.operands, Call.operands, List.toList_toArray, Addr.add_lit, Option.some.injEq, exists_eq_left', Value.pointer.injEq, exists_eq_left, Int.toNat_natCast, Int.reduceToNat, Nat.mul_one, loads, List.length_cons, List.length_nil, Nat.reducePow, h7, h8, h9]
          exact ⟨s3, rfl, by rw [if_neg hi0, if_pos hc0]; exact b2⟩
        · have z2 : ((l[i].toNat : Int) == 0) = false := u8_ne hc0
          simp only [z2, if_true, Bool.false_eq_true, if_false]
          refine hj _ _ ?_
          simp only [↓vcs, ↓vcs2, vcs3, vcs4, vals, blds, vcs5, vcs6, pures, ints, tys0, tys1, tys2, tys3, tys4, tys5, ↓reduceIte, if_true, if_false, Nat.reduceLT, Nat.reduceLeDiff, Nat.reduceEqDiff, Nat.reduceAdd, Nat.reduceMul, Nat.reduceSub, conds, readsF, readsOk, zero_ne_one_, one_ne_zero_, true_and, and_true, and_self, false_and, and_false, eq_self, reduceCtorEq, Bool.true_and, Bool.and_true, Bool.false_and, Bool.and_false, Bool.false_eq_true, Bool.true_eq_false, forall_const, true_imp_, false_imp_, imp_self, implies_true, Bool.not_true, Bool.not_false, Bool.false_or, Bool.true_or, Bool.or_false, Bool.or_true, beq_true_, beq_false_, Nat.zero_add, Nat.add_zero, fr0_cons_zero, fr0_cons_succ, fr0_0, fr0_1, fr0_2, fr0_3, fr0_4, List.map_cons, List.map_nil, List.map_toArray, Option.map_some, Option.map_none, List.append_toArray, List.nil_append, List.cons_append, List.append_nil, List.all_cons, List.all_nil, List.set_cons_zero, List.set_cons_succ, Array.getD_lit, Array.size_lit, List.reverse_cons, List.reverse_nil, Op.operands, Call.operands, List.toList_toArray, Addr.add_lit, Option.some.injEq, exists_eq_left', Value.pointer.injEq, exists_eq_left, Int.toNat_natCast, Int.reduceToNat, Nat.mul_one, loads, List.length_cons, List.length_nil, Nat.reducePow, h7, h8, h9]
          exact ⟨s', rfl, by rw [if_neg hi0, if_neg hc0]; simpa using a2⟩
    case first =>
      rintro f w' ⟨h7, h8, h9, h5, h24, out2, h3, hown⟩
      generalize hbase : textDots (l.take i) ++ (if i = 0 then [] else [45]) ++ (if l[i] = 0 then [48] else []) = base at hown
      have hbl : base.length ≤ 10 * i + 2 := by rw [← hbase]; simp only [List.length_append]; split <;> split <;> simp <;> omega
      refine At.ind (fun m (x : Nat × Sl) f w' => f 7 = s.v ∧ f 8 = .int .i64 l.length ∧ f 9 = .int .i64 i ∧ f 5 = .int .u8 l[i].toNat ∧ f 24 = .int .u8 x.1 ∧ f 3 = x.2.v ∧ m = 8 - x.1 ∧ x.1 ≤ 8 ∧ Mine w w' 5 1 fU8 x.2 (base ++ dotsTo l[i] x.1)) (m := 8) (x := (0, out2)) ?_ ?_
      · exact ⟨h7, h8, h9, h5, h24, h3, rfl, by omega, by simpa [dotsTo] using hown⟩
      clear h7 h8 h9 h5 h24 h3 hown out2 f w'
      rintro m2 ih2 ⟨k, out⟩ f w' ⟨h7, h8, h9, h5, h24, h3, hm2, hk, hown⟩
      refine vc_sound rfl Tryd.func50 400 (.code _) _ _ ?_
      simp only at h24 h3 hm2 hk hown
      by_cases hk8 : k < 8
      · have hd : decide ((k : Int) < 8) = true := by simp; omega
        have hkw : IntKind.u8.wrap ((k : Int) + 1) = (k : Int) + 1 := wrap_u8 (by omega) (by omega)
        simp only [↓vcs, ↓vcs2, vcs3, vcs4, vals, blds, vcs5, vcs6, pures, ints, tys0, tys1, tys2, tys3, tys4, tys5, ↓reduceIte, if_true, if_false, Nat.reduceLT, Nat.reduceLeDiff, Nat.reduceEqDiff, Nat.reduceAdd, Nat.reduceMul, Nat.reduceSub, conds, readsF, readsOk, zero_ne_one_, one_ne_zero_, true_and, and_true, and_self, false_and, and_false, eq_self, reduceCtorEq, Bool.true_and, Bool.and_true, Bool.false_and, Bool.and_false, Bool.false_eq_true, Bool.true_eq_false, forall_const, true_imp_, false_imp_, imp_self, implies_true, Bool.not_true, Bool.not_false, Bool.false_or, Bool.true_or, Bool.or_false, Bool.or_true, beq_true_, beq_false_, Nat.zero_add, Nat.add_zero, fr0_cons_zero, fr0_cons_succ, fr0_0, fr0_1, fr0_2, fr0_3, fr0_4, List.map_cons, List.map_nil, List.map_toArray, Option.map_some, Option.map_none, List.append_toArray, List.nil_append, List.cons_append, List.append_nil, List.all_cons, List.all_nil, List.set_cons_zero, List.set_cons_succ, Array.getD_lit, Array.size_lit, List.reverse_cons, List.reverse_nil, Op.operands, Call.operands, List.toList_toArray, Addr.add_lit, Option.some.injEq, exists_eq_left', Value.pointer.injEq, exists_eq_left, Int.toNat_natCast, Int.reduceToNat, Nat.mul_one, loads, List.length_cons, List.length_nil, Nat.reducePow, h7, h8, h9, h5, h24, h3, hd]
        rw [bit_u8 _ _ hk8]
        refine ⟨by omega, ?_⟩
        have hdl := dotsTo_len l[i] k hk
        by_cases hbit : (l[i].toNat / 2 ^ k % 2 == 1) = true
        · rw [if_pos hbit, wrap_u8 (by omega) (by omega)]
          obtain ⟨s', w2, a1, a2⟩ := hown.appU8i (ty := 31) app31 (49 + (k : Int)) (by omega) (by omega) (by simp; omega)
          refine ⟨s', w2, a1, ih2 (8 - (k + 1)) (k + 1, s') _ _ (by omega) ?_⟩
          simp only [↓vcs, ↓vcs2, vcs3, vcs4, vals, blds, vcs5, vcs6, pures, ints, tys0, tys1, tys2, tys3, tys4, tys5, ↓reduceIte, if_true, if_false, Nat.reduceLT, Nat.reduceLeDiff, Nat.reduceEqDiff, Nat.reduceAdd, Nat.reduceMul, Nat.reduceSub, conds, readsF, readsOk, zero_ne_one_, one_ne_zero_, true_and, and_true, and_self, false_and, and_false, eq_self, reduceCtorEq, Bool.true_and, Bool.and_true, Bool.false_and, Bool.and_false, Bool.false_eq_true, Bool.true_eq_false, forall_const, true_imp_, false_imp_, imp_self, implies_true, Bool.not_true, Bool.not_false, Bool.false_or, Bool.true_or, Bool.or_false, Bool.or_true, beq_true_, beq_false_, Nat.zero_add, Nat.add_zero, fr0_cons_zero, fr0_cons_succ, fr0_0, fr0_1, fr0_2, fr0_3, fr0_4, List.map_cons, List.map_nil, List.map_toArray, Option.map_some, Option.map_none, List.append_toArray, List.nil_append, List.cons_append, List.append_nil, List.all_cons, List.all_nil, List.set_cons_zero, List.set_cons_succ, Array.getD_lit, Array.size_lit, List.reverse_cons, List.reverse_nil, Op.operands, Call.operands, List.toList_toArray, Addr.add_lit, Option.some.injEq, exists_eq_left', Value.pointer.injEq, exists_eq_left, Int.toNat_natCast, Int.reduceToNat, Nat.mul_one, loads, List.length_cons, List.length_nil, Nat.reducePow, h7, h8, h9, h5, h24, h3, hkw, Int.natCast_add, Int.natCast_one]
          refine ⟨by omega, ?_⟩
          rw [dotsTo_succ, if_pos hbit, ← List.append_assoc]
          simpa [show (49 + (k : Int)).toNat = 49 + k by omega] using a2
        · rw [if_neg hbit]
          refine ih2 (8 - (k + 1)) (k + 1, out) _ _ (by omega) ?_
          simp only [↓vcs, ↓vcs2, vcs3, vcs4, vals, blds, vcs5, vcs6, pures, ints, tys0, tys1, tys2, tys3, tys4, tys5, ↓reduceIte, if_true, if_false, Nat.reduceLT, Nat.reduceLeDiff, Nat.reduceEqDiff, Nat.reduceAdd, Nat.reduceMul, Nat.reduceSub, conds, readsF, readsOk, zero_ne_one_, one_ne_zero_, true_and, and_true, and_self, false_and, and_false, eq_self, reduceCtorEq, Bool.true_and, Bool.and_true, Bool.false_and, Bool.and_false, Bool.false_eq_true, Bool.true_eq_false, forall_const, true_imp_, false_imp_, imp_self, implies_true, Bool.not_true, Bool.not_false, Bool.false_or, Bool.true_or, Bool.or_false, Bool.or_true, beq_true_, beq_false_, Nat.zero_add, Nat.add_zero, fr0_cons_zero, fr0_cons_succ, fr0_0, fr0_1, fr0_2, fr0_3, fr0_4, List.map_cons, List.map_nil, List.map_toArray, Option.map_some, Option.map_none, List.append_toArray, List.nil_append, List.cons_append, List.append_nil, List.all_cons, List.all_nil, List.set_cons_zero, List.set_cons_succ, Array.getD_lit, Array.size_lit, List.reverse_cons, List.reverse_nil, Op.operands, Call.operands, List.toList_toArray, Addr.add_lit, Option.some.injEq, exists_eq_left', Value.pointer.injEq, exists_eq_left, Int.toNat_natCast, Int.reduceToNat, Nat.mul_one, loads, List.length_cons, List.length_nil, Nat.reducePow, h7, h8, h9, h5, h24, h3, hkw, Int.natCast_add, Int.natCast_one]
          refine ⟨by omega, ?_⟩
          rw [dotsTo_succ, if_neg hbit, List.append_nil]; exact hown
      · have hd : decide ((k : Int) < 8) = false := by simp; omega
        have hiw : IntKind.i64.wrap ((i : Int) + 1) = (i : Int) + 1 := wrap_i64 (by omega) (by omega)
        simp only [↓vcs, ↓vcs2, vcs3, vcs4, vals, blds, vcs5, vcs6, pures, ints, tys0, tys1, tys2, tys3, tys4, tys5, ↓reduceIte, if_true, if_false, Nat.reduceLT, Nat.reduceLeDiff, Nat.reduceEqDiff, Nat.reduceAdd, Nat.reduceMul, Nat.reduceSub, conds, readsF, readsOk, zero_ne_one_, one_ne_zero_, true_and, and_true, and_self, false_and, and_false, eq_self, reduceCtorEq, Bool.true_and, Bool.and_true, Bool.false_and, Bool.and_false, Bool.false_eq_true, Bool.true_eq_false, forall_const, true_imp_, false_imp_, imp_self, implies_true, Bool.not_true, Bool.not_false, Bool.false_or, Bool.true_or, Bool.or_false, Bool.or_true, beq_true_, beq_false_, Nat.zero_add, Nat.add_zero, fr0_cons_zero, fr0_cons_succ, fr0_0, fr0_1, fr0_2, fr0_3, fr0_4, List.map_cons, List.map_nil, List.map_toArray, Option.map_some, Option.map_none, List.append_toArray, List.nil_append, List.cons_append, List.append_nil, List.all_cons, List.all_nil, List.set_cons_zero, List.set_cons_succ, Array.getD_lit, Array.size_lit, List.reverse_cons, List.reverse_nil, Op.operands, Call.operands, List.toList_toArray, Addr.add_lit, Option.some.injEq, exists_eq_left', Value.pointer.injEq, exists_eq_left, Int.toNat_natCast, Int.reduceToNat, Nat.mul_one, loads, List.length_cons, List.length_nil, Nat.reducePow, h7, h8, h9, h5, h24, h3, hd]
        obtain rfl : k = 8 := by omega
        refine ih (l.length - (i + 1)) (i + 1, out) _ _ (by omega) ?_
        simp only [↓vcs, ↓vcs2, vcs3, vcs4, vals, blds, vcs5, vcs6, pures, ints, tys0, tys1, tys2, tys3, tys4, tys5, ↓reduceIte, if_true, if_false, Nat.reduceLT, Nat.reduceLeDiff, Nat.reduceEqDiff, Nat.reduceAdd, Nat.reduceMul, Nat.reduceSub, conds, readsF, readsOk, zero_ne_one_, one_ne_zero_, true_and, and_true, and_self, false_and, and_false, eq_self, reduceCtorEq, Bool.true_and, Bool.and_true, Bool.false_and, Bool.and_false, Bool.false_eq_true, Bool.true_eq_false, forall_const, true_imp_, false_imp_, imp_self, implies_true, Bool.not_true, Bool.not_false, Bool.false_or, Bool.true_or, Bool.or_false, Bool.or_true, beq_true_, beq_false_, Nat.zero_add, Nat.add_zero, fr0_cons_zero, fr0_cons_succ, fr0_0, fr0_1, fr0_2, fr0_3, fr0_4, List.map_cons, List.map_nil, List.map_toArray, Option.map_some, Option.map_none, List.append_toArray, List.nil_append, List.cons_append, List.append_nil, List.all_cons, List.all_nil, List.set_cons_zero, List.set_cons_succ, Array.getD_lit, Array.size_lit, List.reverse_cons, List.reverse_nil, Op.operands, Call.operands, List.toList_toArray, Addr.add_lit, Option.some.injEq, exists_eq_left', Value.pointer.injEq, exists_eq_left, Int.toNat_natCast, Int.reduceToNat, Nat.mul_one, loads, List.length_cons, List.length_nil, Nat.reducePow, h7, h8, h3, h9, hiw, Int.natCast_add, Int.natCast_one]
        refine ⟨by omega, ?_⟩
        rw [textDots_snoc _ _ hlt, cellOf, ← List.append_assoc, hbase]; exact hown
  · have hd : decide ((i : Int) < (l.length : Int)) = false := by simp; omega
    simp only [↓vcs, ↓vcs2, vcs3, vcs4, vals, blds, vcs5, vcs6, pures, ints, tys0, tys1, tys2, tys3, tys4, tys5, ↓reduceIte, if_true, if_false, Nat.reduceLT, Nat.reduceLeDiff, Nat.reduceEqDiff, Nat.reduceAdd, Nat.reduceMul, Nat.reduceSub, conds, readsF, readsOk, zero_ne_one_, one_ne_zero_, true_and, and_true, and_self, false_and, and_false, eq_self, reduceCtorEq, Bool.true_and, Bool.and_true, Bool.false_and, Bool.and_false, Bool.false_eq_true, Bool.true_eq_false, forall_const, true_imp_, false_imp_, imp_self, implies_true, Bool.not_true, Bool.not_false, Bool.false_or, Bool.true_or, Bool.or_false, Bool.or_true, beq_true_, beq_false_, Nat.zero_add, Nat.add_zero, fr0_cons_zero, fr0_cons_succ, fr0_0, fr0_1, fr0_2, fr0_3, fr0_4, List.map_cons, List.map_nil, List.map_toArray, Option.map_some, Option.map_none, List.append_toArray, List.nil_append, List.cons_append, List.append_nil, List.all_cons, List.all_nil, List.set_cons_zero, List.set_cons_succ, Array.getD_lit, Array.size_lit, List.reverse_cons, List.reverse_nil, Op.operands, Call.operands, List.toList_toArray, Addr.add_lit, Option.some.injEq, exists_eq_left', Value.pointer.injEq, exists_eq_left, Int.toNat_natCast, Int.reduceToNat, Nat.mul_one, loads, List.length_cons, List.length_nil, Nat.reducePow, h7, h8, h9, h3, hd]
    have : i = l.length := by omega
    subst this
    rw [List.take_length] at hown
    exact ⟨_, _, hown.conv (by kernel_rfl) (by kernel_rfl) (by kernel_rfl), rfl, hown.kept⟩
end Go.Proofs.YtcjdbmcklemkkaaDoor
