/- Contracts of inner functions of the program, and what they compute: parts of a proof. -/
import Derived.Test.YtcjdbmcklemkkaaDoorTys
import Derived.Test.YtcjdbmcklemkkaaDoorShelf
import Derived.Test.YtcjdbmcklemkkaaDoorRP
namespace Go.Proofs.YtcjdbmcklemkkaaDoor
open Go Go.Proofs Go.Vc Go.RowKit
set_option maxRecDepth 100000
set_option linter.unusedSimpArgs false
set_option linter.unusedVariables false


theorem plain_spec (n : Int) (w : World) : Calls Tryd.prog 74 #[.int .i32 n] w fun x w' => x = .returned (.bool (plainB n)) ∧ w' = w := by
  refine calls_of_at (e := ⟨Tryd.prog, 74, 17, Tryd.f74, [.tmp 2], none, []⟩) Tryd.func74 rfl (by simp) rfl ?_; refine vc_sound rfl Tryd.func74 400 (.code _) _ _ ?_
  simp only [↓vcs, ↓vcs2, vcs3, vcs4, vals, blds, vcs5, vcs6, pures, ints, tys0, tys1, tys2, tys3, tys4, tys5, ↓reduceIte, if_true, if_false, Nat.reduceLT, Nat.reduceLeDiff, Nat.reduceEqDiff, Nat.reduceAdd, Nat.reduceMul, Nat.reduceSub, conds, readsF, readsOk, zero_ne_one_, one_ne_zero_, true_and, and_true, and_self, false_and, and_false, eq_self, reduceCtorEq, Bool.true_and, Bool.and_true, Bool.false_and, Bool.and_false, Bool.false_eq_true, Bool.true_eq_false, forall_const, true_imp_, false_imp_, imp_self, implies_true, Bool.not_true, Bool.not_false, Bool.false_or, Bool.true_or, Bool.or_false, Bool.or_true, beq_true_, beq_false_, Nat.zero_add, Nat.add_zero, fr0_cons_zero, fr0_cons_succ, fr0_0, fr0_1, fr0_2, fr0_3, fr0_4, List.map_cons, List.map_nil, List.map_toArray, Option.map_some, Option.map_none, List.append_toArray, List.nil_append, List.cons_append, List.append_nil, List.all_cons, List.all_nil, List.set_cons_zero, List.set_cons_succ, Array.getD_lit, Array.size_lit, List.reverse_cons, List.reverse_nil, Op.operands, Call.operands, List.toList_toArray, Addr.add_lit, Option.some.injEq, exists_eq_left', Value.pointer.injEq, exists_eq_left, Int.toNat_natCast, Int.reduceToNat, Nat.mul_one, loads, List.length_cons, List.length_nil, Nat.reducePow]
  simp [plainB, Bool.and_assoc]

theorem isRune_spec (n : Int) (w : World) : Calls Tryd.prog 33 #[.int .i32 n] w fun x w' => x = .returned (.bool (isRuneB n)) ∧ w' = w := by
  refine calls_of_at (e := ⟨Tryd.prog, 33, 17, Tryd.f33, [.tmp 2], none, []⟩) Tryd.func33 rfl (by simp) rfl ?_; refine vc_sound rfl Tryd.func33 400 (.code _) _ _ ?_
  simp only [↓vcs, ↓vcs2, vcs3, vcs4, vals, blds, vcs5, vcs6, pures, ints, tys0, tys1, tys2, tys3, tys4, tys5, ↓reduceIte, if_true, if_false, Nat.reduceLT, Nat.reduceLeDiff, Nat.reduceEqDiff, Nat.reduceAdd, Nat.reduceMul, Nat.reduceSub, conds, readsF, readsOk, zero_ne_one_, one_ne_zero_, true_and, and_true, and_self, false_and, and_false, eq_self, reduceCtorEq, Bool.true_and, Bool.and_true, Bool.false_and, Bool.and_false, Bool.false_eq_true, Bool.true_eq_false, forall_const, true_imp_, false_imp_, imp_self, implies_true, Bool.not_true, Bool.not_false, Bool.false_or, Bool.true_or, Bool.or_false, Bool.or_true, beq_true_, beq_false_, Nat.zero_add, Nat.add_zero, fr0_cons_zero, fr0_cons_succ, fr0_0, fr0_1, fr0_2, fr0_3, fr0_4, List.map_cons, List.map_nil, List.map_toArray, Option.map_some, Option.map_none, List.append_toArray, List.nil_append, List.cons_append, List.append_nil, List.all_cons, List.all_nil, List.set_cons_zero, List.set_cons_succ, Array.getD_lit, Array.size_lit, List.reverse_cons, List.reverse_nil, Op.operands, Call.operands, List.toList_toArray, Addr.add_lit, Option.some.injEq, exists_eq_left', Value.pointer.injEq, exists_eq_left, Int.toNat_natCast, Int.reduceToNat, Nat.mul_one, loads, List.length_cons, List.length_nil, Nat.reducePow]
  refine ⟨fun h1 h2 => ?_, ?_⟩
  · simp at *; omega
  · simp [isRuneB, Bool.and_assoc]

theorem star_spec (s : List UInt8) (w : World) : Calls Tryd.prog 60 #[.string (str s)] w fun x w' => x = .returned (.string (str (starOf s))) ∧ w' = w := by
  refine calls_of_at (e := ⟨Tryd.prog, 60, 6, Tryd.f60, [.tmp 2], none, []⟩) Tryd.func60 rfl (by simp) rfl ?_; refine vc_sound rfl Tryd.func60 400 (.code _) _ _ ?_
  simp only [↓vcs, ↓vcs2, vcs3, vcs4, vals, blds, vcs5, vcs6, pures, ints, tys0, tys1, tys2, tys3, tys4, tys5, ↓reduceIte, if_true, if_false, Nat.reduceLT, Nat.reduceLeDiff, Nat.reduceEqDiff, Nat.reduceAdd, Nat.reduceMul, Nat.reduceSub, conds, readsF, readsOk, zero_ne_one_, one_ne_zero_, true_and, and_true, and_self, false_and, and_false, eq_self, reduceCtorEq, Bool.true_and, Bool.and_true, Bool.false_and, Bool.and_false, Bool.false_eq_true, Bool.true_eq_false, forall_const, true_imp_, false_imp_, imp_self, implies_true, Bool.not_true, Bool.not_false, Bool.false_or, Bool.true_or, Bool.or_false, Bool.or_true, beq_true_, beq_false_, Nat.zero_add, Nat.add_zero, fr0_cons_zero, fr0_cons_succ, fr0_0, fr0_1, fr0_2, fr0_3, fr0_4, List.map_cons, List.map_nil, List.map_toArray, Option.map_some, Option.map_none, List.append_toArray, List.nil_append, List.cons_append, List.append_nil, List.all_cons, List.all_nil, List.set_cons_zero, List.set_cons_succ, Array.getD_lit, Array.size_lit, List.reverse_cons, List.reverse_nil, Op.operands, Call.operands, List.toList_toArray, Addr.add_lit, Option.some.injEq, exists_eq_left', Value.pointer.injEq, exists_eq_left, Int.toNat_natCast, Int.reduceToNat, Nat.mul_one, loads, List.length_cons, List.length_nil, Nat.reducePow, str_toList, lit_str, str_size, str_byteAt, str_append, str_extract]
  unfold starOf
  split <;> simp_all [str]

theorem dropWhile_nil {α : Type} (p : α → Bool) : ∀ (l : List α), l.dropWhile p = [] ↔ ∀ x ∈ l, p x = true
  | [] => by simp
  | a :: l => by
    have := dropWhile_nil p l
    cases h : p a <;> simp [List.dropWhile_cons, h, this]
theorem az_mem (c : UInt8) : [(97 : UInt8), 98, 99, 100, 101, 102, 103, 104, 105, 106, 107, 108, 109, 110, 111, 112, 113, 114, 115, 116, 117, 118, 119, 120, 121, 122].contains c = (97 ≤ c.toNat && c.toNat ≤ 122) := by
  have : ∀ n, n < 256 → [(97 : UInt8), 98, 99, 100, 101, 102, 103, 104, 105, 106, 107, 108, 109, 110, 111, 112, 113, 114, 115, 116, 117, 118, 119, 120, 121, 122].contains (UInt8.ofNat n) = (decide (97 ≤ n) && decide (n ≤ 122)) := by decide
  have := this c.toNat c.toNat_lt
  rwa [UInt8.ofNat_toNat] at this
theorem trim_empty (s cs : List UInt8) : (Lib.trimS s cs).isEmpty = s.all (cs.contains ·) := by
  rw [Bool.eq_iff_iff, List.isEmpty_iff, List.all_eq_true]
  unfold Lib.trimS Lib.trimLeftS Lib.trimRightS
  rw [dropWhile_nil]
  have h2 : (∀ x ∈ ((s.reverse.dropWhile (cs.contains ·)).reverse), cs.contains x = true) ↔ s.reverse.dropWhile (cs.contains ·) = [] := by
    constructor
    · intro h
      cases h3 : s.reverse.dropWhile (cs.contains ·) with
      | nil => rfl
      | cons a l =>
        have h4 := List.head_dropWhile_not (cs.contains ·) (l := s.reverse) (by rw [h3]; simp)
        simp only [h3, List.head_cons] at h4
        have := h a (by rw [h3]; simp)
        rw [this] at h4; cases h4
    · intro h; rw [h]; simp
  rw [h2, dropWhile_nil]
  simp
theorem trim_name (s : List UInt8) : (Lib.trimS s [97, 98, 99, 100, 101, 102, 103, 104, 105, 106, 107, 108, 109, 110, 111, 112, 113, 114, 115, 116, 117, 118, 119, 120, 121, 122]).isEmpty = s.all (fun c => 97 ≤ c.toNat && c.toNat ≤ 122) := by
  rw [trim_empty]; congr 1; funext c; exact az_mem c

theorem az_ascii : ∀ (j : Nat) (b : UInt8), (ByteArray.mk #[97, 98, 99, 100, 101, 102, 103, 104, 105, 106, 107, 108, 109, 110, 111, 112, 113, 114, 115, 116, 117, 118, 119, 120, 121, 122]).data.toList[j]? = some b → b.toNat < 128 := by
  intro j b h
  have h2 := List.mem_of_getElem? h
  revert h2; clear h
  have : ∀ b ∈ [(97 : UInt8), 98, 99, 100, 101, 102, 103, 104, 105, 106, 107, 108, 109, 110, 111, 112, 113, 114, 115, 116, 117, 118, 119, 120, 121, 122], b.toNat < 128 := by decide
  exact this b

theorem isName_spec (s : List UInt8) (w : World) : Calls Tryd.prog 71 #[.string (str s)] w fun x w' => x = .returned (.bool (isNameB s)) ∧ Kept w w' := by
  refine calls_of_at (e := ⟨Tryd.prog, 71, 16, Tryd.f71, [.tmp 2], none, []⟩) Tryd.func71 rfl (by simp) rfl ?_; refine vc_sound rfl Tryd.func71 400 (.code _) _ _ ?_
  cases hc : (decide (1 ≤ (s.length : Int)) && decide ((s.length : Int) ≤ 16)) <;> simp only [↓vcs, ↓vcs2, vcs3, vcs4, vals, blds, vcs5, vcs6, pures, ints, tys0, tys1, tys2, tys3, tys4, tys5, ↓reduceIte, if_true, if_false, Nat.reduceLT, Nat.reduceLeDiff, Nat.reduceEqDiff, Nat.reduceAdd, Nat.reduceMul, Nat.reduceSub, conds, readsF, readsOk, zero_ne_one_, one_ne_zero_, true_and, and_true, and_self, false_and, and_false, eq_self, reduceCtorEq, Bool.true_and, Bool.and_true, Bool.false_and, Bool.and_false, Bool.false_eq_true, Bool.true_eq_false, forall_const, true_imp_, false_imp_, imp_self, implies_true, Bool.not_true, Bool.not_false, Bool.false_or, Bool.true_or, Bool.or_false, Bool.or_true, beq_true_, beq_false_, Nat.zero_add, Nat.add_zero, fr0_cons_zero, fr0_cons_succ, fr0_0, fr0_1, fr0_2, fr0_3, fr0_4, List.map_cons, List.map_nil, List.map_toArray, Option.map_some, Option.map_none, List.append_toArray, List.nil_append, List.cons_append, List.append_nil, List.all_cons, List.all_nil, List.set_cons_zero, List.set_cons_succ, Array.getD_lit, Array.size_lit, List.reverse_cons, List.reverse_nil, Op.operands, Call.operands, List.toList_toArray, Addr.add_lit, Option.some.injEq, exists_eq_left', Value.pointer.injEq, exists_eq_left, Int.toNat_natCast, Int.reduceToNat, Nat.mul_one, loads, List.length_cons, List.length_nil, Nat.reducePow, str_toList, lit_str, str_size, str_byteAt, str_append, str_extract, hc]
  · exact ⟨by simp [isNameB, hc], Kept.refl _⟩
  · refine (Tryd.strings_Trim _ _ w ?_ (by decide) az_ascii).mono ?_
    · rw [str_size]; simp at hc; omega
    rintro _ w' ⟨rfl, hk⟩
    refine ⟨_, rfl, ?_, hk⟩
    rw [isNameB, hc, ← trim_name]
    simp [str, lit_toList]

theorem side_spec (s : List UInt8) (w : World) : Calls Tryd.prog 77 #[.string (str s)] w fun x w' => x = .returned (.tuple #[.string (str (sideOf s).1), .bool (sideOf s).2]) ∧ Kept w w' := by
  refine calls_of_at (e := ⟨Tryd.prog, 77, 10, Tryd.f77, [.tmp 2, .tmp 3], none, []⟩) Tryd.func77 rfl (by simp) rfl ?_; refine vc_sound rfl Tryd.func77 400 (.code _) _ _ ?_
  cases hc : (s == [42]) <;> simp only [↓vcs, ↓vcs2, vcs3, vcs4, vals, blds, vcs5, vcs6, pures, ints, tys0, tys1, tys2, tys3, tys4, tys5, ↓reduceIte, if_true, if_false, Nat.reduceLT, Nat.reduceLeDiff, Nat.reduceEqDiff, Nat.reduceAdd, Nat.reduceMul, Nat.reduceSub, conds, readsF, readsOk, zero_ne_one_, one_ne_zero_, true_and, and_true, and_self, false_and, and_false, eq_self, reduceCtorEq, Bool.true_and, Bool.and_true, Bool.false_and, Bool.and_false, Bool.false_eq_true, Bool.true_eq_false, forall_const, true_imp_, false_imp_, imp_self, implies_true, Bool.not_true, Bool.not_false, Bool.false_or, Bool.true_or, Bool.or_false, Bool.or_true, beq_true_, beq_false_, Nat.zero_add, Nat.add_zero, fr0_cons_zero, fr0_cons_succ, fr0_0, fr0_1, fr0_2, fr0_3, fr0_4, List.map_cons, List.map_nil, List.map_toArray, Option.map_some, Option.map_none, List.append_toArray, List.nil_append, List.cons_append, List.append_nil, List.all_cons, List.all_nil, List.set_cons_zero, List.set_cons_succ, Array.getD_lit, Array.size_lit, List.reverse_cons, List.reverse_nil, Op.operands, Call.operands, List.toList_toArray, Addr.add_lit, Option.some.injEq, exists_eq_left', Value.pointer.injEq, exists_eq_left, Int.toNat_natCast, Int.reduceToNat, Nat.mul_one, loads, List.length_cons, List.length_nil, Nat.reducePow, str_toList, lit_str, str_size, str_byteAt, str_append, str_extract, hc]
  · refine (Tryd.strings_TrimPrefix _ _ w).mono ?_
    rintro _ _ ⟨rfl, rfl⟩
    refine ⟨_, rfl, (isName_spec _ _).mono ?_⟩
    rintro _ w' ⟨rfl, hk⟩
    refine ⟨_, rfl, ?_, hk⟩
    have : s ≠ [42] := by simpa using hc
    simp only [sideOf, if_neg this]; rfl
  · have : s = [42] := by simpa using hc
    subst this
    exact ⟨rfl, Kept.refl _⟩

theorem equal_i32 (s t : Sl) (w : World) (a b : List Int) (hs : Is (elInt .i32) w s a) (ht : Is (elInt .i32) w t b) :
    Calls Tryd.prog 63 #[s.v, t.v] w fun x w' => x = .returned (.bool (a == b)) ∧ Kept w w' := by
  have h1 := hs.len
  have h2 := ht.len
  have h3 := hs.big
  refine calls_of_at (e := ⟨Tryd.prog, 63, 26, Tryd.f63, [.tmp 4], none, []⟩) Tryd.func63 rfl (by simp) rfl ?_; refine vc_sound rfl Tryd.func63 400 (.code _) _ _ ?_
  by_cases hl : a.length = b.length
  · have hd : ((a.length : Int) != (b.length : Int)) = false := by simp [hl]
    simp only [↓vcs, ↓vcs2, vcs3, vcs4, vals, blds, vcs5, vcs6, pures, ints, tys0, tys1, tys2, tys3, tys4, tys5, ↓reduceIte, if_true, if_false, Nat.reduceLT, Nat.reduceLeDiff, Nat.reduceEqDiff, Nat.reduceAdd, Nat.reduceMul, Nat.reduceSub, conds, readsF, readsOk, zero_ne_one_, one_ne_zero_, true_and, and_true, and_self, false_and, and_false, eq_self, reduceCtorEq, Bool.true_and, Bool.and_true, Bool.false_and, Bool.and_false, Bool.false_eq_true, Bool.true_eq_false, forall_const, true_imp_, false_imp_, imp_self, implies_true, Bool.not_true, Bool.not_false, Bool.false_or, Bool.true_or, Bool.or_false, Bool.or_true, beq_true_, beq_false_, Nat.zero_add, Nat.add_zero, fr0_cons_zero, fr0_cons_succ, fr0_0, fr0_1, fr0_2, fr0_3, fr0_4, List.map_cons, List.map_nil, List.map_toArray, Option.map_some, Option.map_none, List.append_toArray, List.nil_append, List.cons_append, List.append_nil, List.all_cons, List.all_nil, List.set_cons_zero, List.set_cons_succ, Array.getD_lit, Array.size_lit, List.reverse_cons, List.reverse_nil, Op.operands, Call.operands, List.toList_toArray, Addr.add_lit, Option.some.injEq, exists_eq_left', Value.pointer.injEq, exists_eq_left, Int.toNat_natCast, Int.reduceToNat, Nat.mul_one, loads, List.length_cons, List.length_nil, Nat.reducePow, h1, h2, hd]
    refine At.ind (fun m (i : Nat) f w' => f 0 = s.v ∧ f 1 = t.v ∧ f 12 = .int .i64 a.length ∧ f 13 = .int .i64 i ∧ m = a.length - i ∧ i ≤ a.length ∧ a.take i = b.take i ∧ Kept w w') (m := a.length) (x := 0) ?_ ?_
    · simp only [↓vcs, ↓vcs2, vcs3, vcs4, vals, blds, vcs5, vcs6, pures, ints, tys0, tys1, tys2, tys3, tys4, tys5, ↓reduceIte, if_true, if_false, Nat.reduceLT, Nat.reduceLeDiff, Nat.reduceEqDiff, Nat.reduceAdd, Nat.reduceMul, Nat.reduceSub, conds, readsF, readsOk, zero_ne_one_, one_ne_zero_, true_and, and_true, and_self, false_and, and_false, eq_self, reduceCtorEq, Bool.true_and, Bool.and_true, Bool.false_and, Bool.and_false, Bool.false_eq_true, Bool.true_eq_false, forall_const, true_imp_, false_imp_, imp_self, implies_true, Bool.not_true, Bool.not_false, Bool.false_or, Bool.true_or, Bool.or_false, Bool.or_true, beq_true_, beq_false_, Nat.zero_add, Nat.add_zero, fr0_cons_zero, fr0_cons_succ, fr0_0, fr0_1, fr0_2, fr0_3, fr0_4, List.map_cons, List.map_nil, List.map_toArray, Option.map_some, Option.map_none, List.append_toArray, List.nil_append, List.cons_append, List.append_nil, List.all_cons, List.all_nil, List.set_cons_zero, List.set_cons_succ, Array.getD_lit, Array.size_lit, List.reverse_cons, List.reverse_nil, Op.operands, Call.operands, List.toList_toArray, Addr.add_lit, Option.some.injEq, exists_eq_left', Value.pointer.injEq, exists_eq_left, Int.toNat_natCast, Int.reduceToNat, Nat.mul_one, loads, List.length_cons, List.length_nil, Nat.reducePow]; refine ⟨by simp, by simp, by simp, by simp, Kept.refl _⟩
    rintro m again i f w' ⟨h0, hf1, hf12, hf13, rfl, hi, htk, hk⟩
    refine vc_sound rfl Tryd.func63 400 (.code _) _ _ ?_
    by_cases hlt : i < a.length
    · have hd2 : decide ((i : Int) < a.length) = true := by simp; omega
      simp only [↓vcs, ↓vcs2, vcs3, vcs4, vals, blds, vcs5, vcs6, pures, ints, tys0, tys1, tys2, tys3, tys4, tys5, ↓reduceIte, if_true, if_false, Nat.reduceLT, Nat.reduceLeDiff, Nat.reduceEqDiff, Nat.reduceAdd, Nat.reduceMul, Nat.reduceSub, conds, readsF, readsOk, zero_ne_one_, one_ne_zero_, true_and, and_true, and_self, false_and, and_false, eq_self, reduceCtorEq, Bool.true_and, Bool.and_true, Bool.false_and, Bool.and_false, Bool.false_eq_true, Bool.true_eq_false, forall_const, true_imp_, false_imp_, imp_self, implies_true, Bool.not_true, Bool.not_false, Bool.false_or, Bool.true_or, Bool.or_false, Bool.or_true, beq_true_, beq_false_, Nat.zero_add, Nat.add_zero, fr0_cons_zero, fr0_cons_succ, fr0_0, fr0_1, fr0_2, fr0_3, fr0_4, List.map_cons, List.map_nil, List.map_toArray, Option.map_some, Option.map_none, List.append_toArray, List.nil_append, List.cons_append, List.append_nil, List.all_cons, List.all_nil, List.set_cons_zero, List.set_cons_succ, Array.getD_lit, Array.size_lit, List.reverse_cons, List.reverse_nil, Op.operands, Call.operands, List.toList_toArray, Addr.add_lit, Option.some.injEq, exists_eq_left', Value.pointer.injEq, exists_eq_left, Int.toNat_natCast, Int.reduceToNat, Nat.mul_one, loads, List.length_cons, List.length_nil, Nat.reducePow, h0, hf1, hf12, hf13, hd2]
      have hr1 := hs.int hlt
      have hr2 := ht.int (i := i) (by omega)
      refine At.drawn rfl Tryd.func63 (by kernel_rfl) (fun v => Kept w v) [0, 1, 2, 3, 4, 5, 6, 7, 8] (by kernel_rfl) ?_ 400 ?_
      · exact hk.drew
      have hs1 : s.a.isSome = true := hs.some_ hlt
      have hs2 : t.a.isSome = true := ht.some_ (i := i) (by omega)
      have hw1 := wrap_i64 (n := (i:Int) + 1) (by omega) (by omega)
      cases hc : (a[i] != b[i])
      all_goals
        simp only [↓vcds, vcds2, ↓vcds3, noYs, ↓vcs, ↓vcs2, vcs3, vcs4, vals, blds, vcs5, vcs6, pures, ints, tys0, tys1, tys2, tys3, tys4, tys5, ↓reduceIte, if_true, if_false, Nat.reduceLT, Nat.reduceLeDiff, Nat.reduceEqDiff, Nat.reduceAdd, Nat.reduceMul, Nat.reduceSub, conds, readsF, readsOk, zero_ne_one_, one_ne_zero_, true_and, and_true, and_self, false_and, and_false, eq_self, reduceCtorEq, Bool.true_and, Bool.and_true, Bool.false_and, Bool.and_false, Bool.false_eq_true, Bool.true_eq_false, forall_const, true_imp_, false_imp_, imp_self, implies_true, Bool.not_true, Bool.not_false, Bool.false_or, Bool.true_or, Bool.or_false, Bool.or_true, beq_true_, beq_false_, Nat.zero_add, Nat.add_zero, fr0_cons_zero, fr0_cons_succ, fr0_0, fr0_1, fr0_2, fr0_3, fr0_4, List.map_cons, List.map_nil, List.map_toArray, Option.map_some, Option.map_none, List.append_toArray, List.nil_append, List.cons_append, List.append_nil, List.all_cons, List.all_nil, List.set_cons_zero, List.set_cons_succ, Array.getD_lit, Array.size_lit, List.reverse_cons, List.reverse_nil, Op.operands, Call.operands, List.toList_toArray, Addr.add_lit, Option.some.injEq, exists_eq_left', Value.pointer.injEq, exists_eq_left, Int.toNat_natCast, Int.reduceToNat, Nat.mul_one, loads, List.length_cons, List.length_nil, Nat.reducePow, isLoad, h0, hf1, hf12, hf13, h1, h2, hs1, hs2]
        refine ⟨⟨by omega, by omega⟩, a[i], fun w' hk => ((hs.keep hk).int hlt).1, ⟨by omega, by omega⟩, b[i], fun w' hk => ((ht.keep hk).int (by omega)).1, ?_⟩
        simp only [↓vcs, ↓vcs2, vcs3, vcs4, vals, blds, vcs5, vcs6, pures, ints, tys0, tys1, tys2, tys3, tys4, tys5, ↓reduceIte, if_true, if_false, Nat.reduceLT, Nat.reduceLeDiff, Nat.reduceEqDiff, Nat.reduceAdd, Nat.reduceMul, Nat.reduceSub, conds, readsF, readsOk, zero_ne_one_, one_ne_zero_, true_and, and_true, and_self, false_and, and_false, eq_self, reduceCtorEq, Bool.true_and, Bool.and_true, Bool.false_and, Bool.and_false, Bool.false_eq_true, Bool.true_eq_false, forall_const, true_imp_, false_imp_, imp_self, implies_true, Bool.not_true, Bool.not_false, Bool.false_or, Bool.true_or, Bool.or_false, Bool.or_true, beq_true_, beq_false_, Nat.zero_add, Nat.add_zero, fr0_cons_zero, fr0_cons_succ, fr0_0, fr0_1, fr0_2, fr0_3, fr0_4, List.map_cons, List.map_nil, List.map_toArray, Option.map_some, Option.map_none, List.append_toArray, List.nil_append, List.cons_append, List.append_nil, List.all_cons, List.all_nil, List.set_cons_zero, List.set_cons_succ, Array.getD_lit, Array.size_lit, List.reverse_cons, List.reverse_nil, Op.operands, Call.operands, List.toList_toArray, Addr.add_lit, Option.some.injEq, exists_eq_left', Value.pointer.injEq, exists_eq_left, Int.toNat_natCast, Int.reduceToNat, Nat.mul_one, loads, List.length_cons, List.length_nil, Nat.reducePow, hc, hf12, hf13, hw1]
      · refine again (a.length - (i + 1)) (i + 1) _ _ (by omega) ?_
        have hnt : a.take (i + 1) = b.take (i + 1) := by
          rw [take_snoc' a i hlt, take_snoc' b i (by omega), htk, show a[i] = b[i] by simpa using hc]
        simp only [↓vcs, ↓vcs2, vcs3, vcs4, vals, blds, vcs5, vcs6, pures, ints, tys0, tys1, tys2, tys3, tys4, tys5, ↓reduceIte, if_true, if_false, Nat.reduceLT, Nat.reduceLeDiff, Nat.reduceEqDiff, Nat.reduceAdd, Nat.reduceMul, Nat.reduceSub, conds, readsF, readsOk, zero_ne_one_, one_ne_zero_, true_and, and_true, and_self, false_and, and_false, eq_self, reduceCtorEq, Bool.true_and, Bool.and_true, Bool.false_and, Bool.and_false, Bool.false_eq_true, Bool.true_eq_false, forall_const, true_imp_, false_imp_, imp_self, implies_true, Bool.not_true, Bool.not_false, Bool.false_or, Bool.true_or, Bool.or_false, Bool.or_true, beq_true_, beq_false_, Nat.zero_add, Nat.add_zero, fr0_cons_zero, fr0_cons_succ, fr0_0, fr0_1, fr0_2, fr0_3, fr0_4, List.map_cons, List.map_nil, List.map_toArray, Option.map_some, Option.map_none, List.append_toArray, List.nil_append, List.cons_append, List.append_nil, List.all_cons, List.all_nil, List.set_cons_zero, List.set_cons_succ, Array.getD_lit, Array.size_lit, List.reverse_cons, List.reverse_nil, Op.operands, Call.operands, List.toList_toArray, Addr.add_lit, Option.some.injEq, exists_eq_left', Value.pointer.injEq, exists_eq_left, Int.toNat_natCast, Int.reduceToNat, Nat.mul_one, loads, List.length_cons, List.length_nil, Nat.reducePow, h0, hf1, hf12, hnt, Int.natCast_add, Int.natCast_one]
        exact ⟨by omega, hk.drew⟩
      · refine ⟨?_, hk.drew⟩
        have : (a == b) = false := by
          rw [beq_eq_false_iff_ne]; rintro rfl; simp at hc
        rw [this]
    · have hd2 : decide ((i : Int) < a.length) = false := by simp; omega
      simp only [↓vcs, ↓vcs2, vcs3, vcs4, vals, blds, vcs5, vcs6, pures, ints, tys0, tys1, tys2, tys3, tys4, tys5, ↓reduceIte, if_true, if_false, Nat.reduceLT, Nat.reduceLeDiff, Nat.reduceEqDiff, Nat.reduceAdd, Nat.reduceMul, Nat.reduceSub, conds, readsF, readsOk, zero_ne_one_, one_ne_zero_, true_and, and_true, and_self, false_and, and_false, eq_self, reduceCtorEq, Bool.true_and, Bool.and_true, Bool.false_and, Bool.and_false, Bool.false_eq_true, Bool.true_eq_false, forall_const, true_imp_, false_imp_, imp_self, implies_true, Bool.not_true, Bool.not_false, Bool.false_or, Bool.true_or, Bool.or_false, Bool.or_true, beq_true_, beq_false_, Nat.zero_add, Nat.add_zero, fr0_cons_zero, fr0_cons_succ, fr0_0, fr0_1, fr0_2, fr0_3, fr0_4, List.map_cons, List.map_nil, List.map_toArray, Option.map_some, Option.map_none, List.append_toArray, List.nil_append, List.cons_append, List.append_nil, List.all_cons, List.all_nil, List.set_cons_zero, List.set_cons_succ, Array.getD_lit, Array.size_lit, List.reverse_cons, List.reverse_nil, Op.operands, Call.operands, List.toList_toArray, Addr.add_lit, Option.some.injEq, exists_eq_left', Value.pointer.injEq, exists_eq_left, Int.toNat_natCast, Int.reduceToNat, Nat.mul_one, loads, List.length_cons, List.length_nil, Nat.reducePow, h0, hf1, hf12, hf13, hd2]
      refine ⟨?_, hk⟩
      have : i = a.length := by omega
      subst this
      rw [List.take_length, hl, List.take_length] at htk
      simp [htk]
  · have hd : ((a.length : Int) != (b.length : Int)) = true := by simp [hl]; omega
    simp only [↓vcs, ↓vcs2, vcs3, vcs4, vals, blds, vcs5, vcs6, pures, ints, tys0, tys1, tys2, tys3, tys4, tys5, ↓reduceIte, if_true, if_false, Nat.reduceLT, Nat.reduceLeDiff, Nat.reduceEqDiff, Nat.reduceAdd, Nat.reduceMul, Nat.reduceSub, conds, readsF, readsOk, zero_ne_one_, one_ne_zero_, true_and, and_true, and_self, false_and, and_false, eq_self, reduceCtorEq, Bool.true_and, Bool.and_true, Bool.false_and, Bool.and_false, Bool.false_eq_true, Bool.true_eq_false, forall_const, true_imp_, false_imp_, imp_self, implies_true, Bool.not_true, Bool.not_false, Bool.false_or, Bool.true_or, Bool.or_false, Bool.or_true, beq_true_, beq_false_, Nat.zero_add, Nat.add_zero, fr0_cons_zero, fr0_cons_succ, fr0_0, fr0_1, fr0_2, fr0_3, fr0_4, List.map_cons, List.map_nil, List.map_toArray, Option.map_some, Option.map_none, List.append_toArray, List.nil_append, List.cons_append, List.append_nil, List.all_cons, List.all_nil, List.set_cons_zero, List.set_cons_succ, Array.getD_lit, Array.size_lit, List.reverse_cons, List.reverse_nil, Op.operands, Call.operands, List.toList_toArray, Addr.add_lit, Option.some.injEq, exists_eq_left', Value.pointer.injEq, exists_eq_left, Int.toNat_natCast, Int.reduceToNat, Nat.mul_one, loads, List.length_cons, List.length_nil, Nat.reducePow, h1, h2, hd]
    refine ⟨?_, Kept.refl _⟩
    have : (a == b) = false := by rw [beq_eq_false_iff_ne]; rintro rfl; exact hl rfl
    rw [this]

theorem u8_inj {a b : UInt8} (h : (a.toNat : Int) = b.toNat) : a = b := UInt8.toNat_inj.1 (by omega)
theorem equal_u8 (s t : Sl) (w : World) (a b : List UInt8) (hs : Is elU8 w s a) (ht : Is elU8 w t b) :
    Calls Tryd.prog 64 #[s.v, t.v] w fun x w' => x = .returned (.bool (a == b)) ∧ Kept w w' := by
  have h1 := hs.len
  have h2 := ht.len
  have h3 := hs.big
  refine calls_of_at (e := ⟨Tryd.prog, 64, 26, Tryd.f64, [.tmp 4], none, []⟩) Tryd.func64 rfl (by simp) rfl ?_; refine vc_sound rfl Tryd.func64 400 (.code _) _ _ ?_
  by_cases hl : a.length = b.length
  · have hd : ((a.length : Int) != (b.length : Int)) = false := by simp [hl]
    simp only [↓vcs, ↓vcs2, vcs3, vcs4, vals, blds, vcs5, vcs6, pures, ints, tys0, tys1, tys2, tys3, tys4, tys5, ↓reduceIte, if_true, if_false, Nat.reduceLT, Nat.reduceLeDiff, Nat.reduceEqDiff, Nat.reduceAdd, Nat.reduceMul, Nat.reduceSub, conds, readsF, readsOk, zero_ne_one_, one_ne_zero_, true_and, and_true, and_self, false_and, and_false, eq_self, reduceCtorEq, Bool.true_and, Bool.and_true, Bool.false_and, Bool.and_false, Bool.false_eq_true, Bool.true_eq_false, forall_const, true_imp_, false_imp_, imp_self, implies_true, Bool.not_true, Bool.not_false, Bool.false_or, Bool.true_or, Bool.or_false, Bool.or_true, beq_true_, beq_false_, Nat.zero_add, Nat.add_zero, fr0_cons_zero, fr0_cons_succ, fr0_0, fr0_1, fr0_2, fr0_3, fr0_4, List.map_cons, List.map_nil, List.map_toArray, Option.map_some, Option.map_none, List.append_toArray, List.nil_append, List.cons_append, List.append_nil, List.all_cons, List.all_nil, List.set_cons_zero, List.set_cons_succ, Array.getD_lit, Array.size_lit, List.reverse_cons, List.reverse_nil, Op.operands, Call.operands, List.toList_toArray, Addr.add_lit, Option.some.injEq, exists_eq_left', Value.pointer.injEq, exists_eq_left, Int.toNat_natCast, Int.reduceToNat, Nat.mul_one, loads, List.length_cons, List.length_nil, Nat.reducePow, h1, h2, hd]
    refine At.ind (fun m (i : Nat) f w' => f 0 = s.v ∧ f 1 = t.v ∧ f 12 = .int .i64 a.length ∧ f 13 = .int .i64 i ∧ m = a.length - i ∧ i ≤ a.length ∧ a.take i = b.take i ∧ Kept w w') (m := a.length) (x := 0) ?_ ?_
    · simp only [↓vcs, ↓vcs2, vcs3, vcs4, vals, blds, vcs5, vcs6, pures, ints, tys0, tys1, tys2, tys3, tys4, tys5, ↓reduceIte, if_true, if_false, Nat.reduceLT, Nat.reduceLeDiff, Nat.reduceEqDiff, Nat.reduceAdd, Nat.reduceMul, Nat.reduceSub, conds, readsF, readsOk, zero_ne_one_, one_ne_zero_, true_and, and_true, and_self, false_and, and_false, eq_self, reduceCtorEq, Bool.true_and, Bool.and_true, Bool.false_and, Bool.and_false, Bool.false_eq_true, Bool.true_eq_false, forall_const, true_imp_, false_imp_, imp_self, implies_true, Bool.not_true, Bool.not_false, Bool.false_or, Bool.true_or, Bool.or_false, Bool.or_true, beq_true_, beq_false_, Nat.zero_add, Nat.add_zero, fr0_cons_zero, fr0_cons_succ, fr0_0, fr0_1, fr0_2, fr0_3, fr0_4, List.map_cons, List.map_nil, List.map_toArray, Option.map_some, Option.map_none, List.append_toArray, List.nil_append, List.cons_append, List.append_nil, List.all_cons, List.all_nil, List.set_cons_zero, List.set_cons_succ, Array.getD_lit, Array.size_lit, List.reverse_cons, List.reverse_nil, Op.operands, Call.operands, List.toList_toArray, Addr.add_lit, Option.some.injEq, exists_eq_left', Value.pointer.injEq, exists_eq_left, Int.toNat_natCast, Int.reduceToNat, Nat.mul_one, loads, List.length_cons, List.length_nil, Nat.reducePow]; refine ⟨by simp, by simp, by simp, by simp, Kept.refl _⟩
    rintro m again i f w' ⟨h0, hf1, hf12, hf13, rfl, hi, htk, hk⟩
    refine vc_sound rfl Tryd.func64 400 (.code _) _ _ ?_
    by_cases hlt : i < a.length
    · have hd2 : decide ((i : Int) < a.length) = true := by simp; omega
      simp only [↓vcs, ↓vcs2, vcs3, vcs4, vals, blds, vcs5, vcs6, pures, ints, tys0, tys1, tys2, tys3, tys4, tys5, ↓reduceIte, if_true, if_false, Nat.reduceLT, Nat.reduceLeDiff, Nat.reduceEqDiff, Nat.reduceAdd, Nat.reduceMul, Nat.reduceSub, conds, readsF, readsOk, zero_ne_one_, one_ne_zero_, true_and, and_true, and_self, false_and, and_false, eq_self, reduceCtorEq, Bool.true_and, Bool.and_true, Bool.false_and, Bool.and_false, Bool.false_eq_true, Bool.true_eq_false, forall_const, true_imp_, false_imp_, imp_self, implies_true, Bool.not_true, Bool.not_false, Bool.false_or, Bool.true_or, Bool.or_false, Bool.or_true, beq_true_, beq_false_, Nat.zero_add, Nat.add_zero, fr0_cons_zero, fr0_cons_succ, fr0_0, fr0_1, fr0_2, fr0_3, fr0_4, List.map_cons, List.map_nil, List.map_toArray, Option.map_some, Option.map_none, List.append_toArray, List.nil_append, List.cons_append, List.append_nil, List.all_cons, List.all_nil, List.set_cons_zero, List.set_cons_succ, Array.getD_lit, Array.size_lit, List.reverse_cons, List.reverse_nil, Op.operands, Call.operands, List.toList_toArray, Addr.add_lit, Option.some.injEq, exists_eq_left', Value.pointer.injEq, exists_eq_left, Int.toNat_natCast, Int.reduceToNat, Nat.mul_one, loads, List.length_cons, List.length_nil, Nat.reducePow, h0, hf1, hf12, hf13, hd2]
      have hr1 := hs.u8 hlt
      have hr2 := ht.u8 (i := i) (by omega)
      refine At.drawn rfl Tryd.func64 (by kernel_rfl) (fun v => Kept w v) [0, 1, 2, 3, 4, 5, 6, 7, 8] (by kernel_rfl) ?_ 400 ?_
      · exact hk.drew
      have hs1 : s.a.isSome = true := hs.some_ hlt
      have hs2 : t.a.isSome = true := ht.some_ (i := i) (by omega)
      have hw1 := wrap_i64 (n := (i:Int) + 1) (by omega) (by omega)
      cases hc : ((a[i].toNat : Int) != (b[i].toNat : Int))
      all_goals
        simp only [↓vcds, vcds2, ↓vcds3, noYs, ↓vcs, ↓vcs2, vcs3, vcs4, vals, blds, vcs5, vcs6, pures, ints, tys0, tys1, tys2, tys3, tys4, tys5, ↓reduceIte, if_true, if_false, Nat.reduceLT, Nat.reduceLeDiff, Nat.reduceEqDiff, Nat.reduceAdd, Nat.reduceMul, Nat.reduceSub, conds, readsF, readsOk, zero_ne_one_, one_ne_zero_, true_and, and_true, and_self, false_and, and_false, eq_self, reduceCtorEq, Bool.true_and, Bool.and_true, Bool.false_and, Bool.and_false, Bool.false_eq_true, Bool.true_eq_false, forall_const, true_imp_, false_imp_, imp_self, implies_true, Bool.not_true, Bool.not_false, Bool.false_or, Bool.true_or, Bool.or_false, Bool.or_true, beq_true_, beq_false_, Nat.zero_add, Nat.add_zero, fr0_cons_zero, fr0_cons_succ, fr0_0, fr0_1, fr0_2, fr0_3, fr0_4, List.map_cons, List.map_nil, List.map_toArray, Option.map_some, Option.map_none, List.append_toArray, List.nil_append, List.cons_append, List.append_nil, List.all_cons, List.all_nil, List.set_cons_zero, List.set_cons_succ, Array.getD_lit, Array.size_lit, List.reverse_cons, List.reverse_nil, Op.operands, Call.operands, List.toList_toArray, Addr.add_lit, Option.some.injEq, exists_eq_left', Value.pointer.injEq, exists_eq_left, Int.toNat_natCast, Int.reduceToNat, Nat.mul_one, loads, List.length_cons, List.length_nil, Nat.reducePow, isLoad, h0, hf1, hf12, hf13, h1, h2, hs1, hs2]
        refine ⟨⟨by omega, by omega⟩, (a[i].toNat : Int), fun w' hk => (hs.keep hk).u8 hlt, ⟨by omega, by omega⟩, (b[i].toNat : Int), fun w' hk => (ht.keep hk).u8 (by omega), ?_⟩
        simp only [↓vcs, ↓vcs2, vcs3, vcs4, vals, blds, vcs5, vcs6, pures, ints, tys0, tys1, tys2, tys3, tys4, tys5, ↓reduceIte, if_true, if_false, Nat.reduceLT, Nat.reduceLeDiff, Nat.reduceEqDiff, Nat.reduceAdd, Nat.reduceMul, Nat.reduceSub, conds, readsF, readsOk, zero_ne_one_, one_ne_zero_, true_and, and_true, and_self, false_and, and_false, eq_self, reduceCtorEq, Bool.true_and, Bool.and_true, Bool.false_and, Bool.and_false, Bool.false_eq_true, Bool.true_eq_false, forall_const, true_imp_, false_imp_, imp_self, implies_true, Bool.not_true, Bool.not_false, Bool.false_or, Bool.true_or, Bool.or_false, Bool.or_true, beq_true_, beq_false_, Nat.zero_add, Nat.add_zero, fr0_cons_zero, fr0_cons_succ, fr0_0, fr0_1, fr0_2, fr0_3, fr0_4, List.map_cons, List.map_nil, List.map_toArray, Option.map_some, Option.map_none, List.append_toArray, List.nil_append, List.cons_append, List.append_nil, List.all_cons, List.all_nil, List.set_cons_zero, List.set_cons_succ, Array.getD_lit, Array.size_lit, List.reverse_cons, List.reverse_nil, Op.operands, Call.operands, List.toList_toArray, Addr.add_lit, Option.some.injEq, exists_eq_left', Value.pointer.injEq, exists_eq_left, Int.toNat_natCast, Int.reduceToNat, Nat.mul_one, loads, List.length_cons, List.length_nil, Nat.reducePow, hc, hf12, hf13, hw1]
      · refine again (a.length - (i + 1)) (i + 1) _ _ (by omega) ?_
        have hnt : a.take (i + 1) = b.take (i + 1) := by
          rw [take_snoc' a i hlt, take_snoc' b i (by omega), htk, show a[i] = b[i] from u8_inj (by simpa using hc)]
        simp only [↓vcs, ↓vcs2, vcs3, vcs4, vals, blds, vcs5, vcs6, pures, ints, tys0, tys1, tys2, tys3, tys4, tys5, ↓reduceIte, if_true, if_false, Nat.reduceLT, Nat.reduceLeDiff, Nat.reduceEqDiff, Nat.reduceAdd, Nat.reduceMul, Nat.reduceSub, conds, readsF, readsOk, zero_ne_one_, one_ne_zero_, true_and, and_true, and_self, false_and, and_false, eq_self, reduceCtorEq, Bool.true_and, Bool.and_true, Bool.false_and, Bool.and_false, Bool.false_eq_true, Bool.true_eq_false, forall_const, true_imp_, false_imp_, imp_self, implies_true, Bool.not_true, Bool.not_false, Bool.false_or, Bool.true_or, Bool.or_false, Bool.or_true, beq_true_, beq_false_, Nat.zero_add, Nat.add_zero, fr0_cons_zero, fr0_cons_succ, fr0_0, fr0_1, fr0_2, fr0_3, fr0_4, List.map_cons, List.map_nil, List.map_toArray, Option.map_some, Option.map_none, List.append_toArray, List.nil_append, List.cons_append, List.append_nil, List.all_cons, List.all_nil, List.set_cons_zero, List.set_cons_succ, Array.getD_lit, Array.size_lit, List.reverse_cons, List.reverse_nil, Op.operands, Call.operands, List.toList_toArray, Addr.add_lit, Option.some.injEq, exists_eq_left', Value.pointer.injEq, exists_eq_left, Int.toNat_natCast, Int.reduceToNat, Nat.mul_one, loads, List.length_cons, List.length_nil, Nat.reducePow, h0, hf1, hf12, hnt, Int.natCast_add, Int.natCast_one]
        exact ⟨by omega, hk.drew⟩
      · refine ⟨?_, hk.drew⟩
        have : (a == b) = false := by
          rw [beq_eq_false_iff_ne]; rintro rfl; simp at hc
        rw [this]
    · have hd2 : decide ((i : Int) < a.length) = false := by simp; omega
      simp only [↓vcs, ↓vcs2, vcs3, vcs4, vals, blds, vcs5, vcs6, pures, ints, tys0, tys1, tys2, tys3, tys4, tys5, ↓reduceIte, if_true, if_false, Nat.reduceLT, Nat.reduceLeDiff, Nat.reduceEqDiff, Nat.reduceAdd, Nat.reduceMul, Nat.reduceSub, conds, readsF, readsOk, zero_ne_one_, one_ne_zero_, true_and, and_true, and_self, false_and, and_false, eq_self, reduceCtorEq, Bool.true_and, Bool.and_true, Bool.false_and, Bool.and_false, Bool.false_eq_true, Bool.true_eq_false, forall_const, true_imp_, false_imp_, imp_self, implies_true, Bool.not_true, Bool.not_false, Bool.false_or, Bool.true_or, Bool.or_false, Bool.or_true, beq_true_, beq_false_, Nat.zero_add, Nat.add_zero, fr0_cons_zero, fr0_cons_succ, fr0_0, fr0_1, fr0_2, fr0_3, fr0_4, List.map_cons, List.map_nil, List.map_toArray, Option.map_some, Option.map_none, List.append_toArray, List.nil_append, List.cons_append, List.append_nil, List.all_cons, List.all_nil, List.set_cons_zero, List.set_cons_succ, Array.getD_lit, Array.size_lit, List.reverse_cons, List.reverse_nil, Op.operands, Call.operands, List.toList_toArray, Addr.add_lit, Option.some.injEq, exists_eq_left', Value.pointer.injEq, exists_eq_left, Int.toNat_natCast, Int.reduceToNat, Nat.mul_one, loads, List.length_cons, List.length_nil, Nat.reducePow, h0, hf1, hf12, hf13, hd2]
      refine ⟨?_, hk⟩
      have : i = a.length := by omega
      subst this
      rw [List.take_length, hl, List.take_length] at htk
      simp [htk]
  · have hd : ((a.length : Int) != (b.length : Int)) = true := by simp [hl]; omega
    simp only [↓vcs, ↓vcs2, vcs3, vcs4, vals, blds, vcs5, vcs6, pures, ints, tys0, tys1, tys2, tys3, tys4, tys5, ↓reduceIte, if_true, if_false, Nat.reduceLT, Nat.reduceLeDiff, Nat.reduceEqDiff, Nat.reduceAdd, Nat.reduceMul, Nat.reduceSub, conds, readsF, readsOk, zero_ne_one_, one_ne_zero_, true_and, and_true, and_self, false_and, and_false, eq_self, reduceCtorEq, Bool.true_and, Bool.and_true, Bool.false_and, Bool.and_false, Bool.false_eq_true, Bool.true_eq_false, forall_const, true_imp_, false_imp_, imp_self, implies_true, Bool.not_true, Bool.not_false, Bool.false_or, Bool.true_or, Bool.or_false, Bool.or_true, beq_true_, beq_false_, Nat.zero_add, Nat.add_zero, fr0_cons_zero, fr0_cons_succ, fr0_0, fr0_1, fr0_2, fr0_3, fr0_4, List.map_cons, List.map_nil, List.map_toArray, Option.map_some, Option.map_none, List.append_toArray, List.nil_append, List.cons_append, List.append_nil, List.all_cons, List.all_nil, List.set_cons_zero, List.set_cons_succ, Array.getD_lit, Array.size_lit, List.reverse_cons, List.reverse_nil, Op.operands, Call.operands, List.toList_toArray, Addr.add_lit, Option.some.injEq, exists_eq_left', Value.pointer.injEq, exists_eq_left, Int.toNat_natCast, Int.reduceToNat, Nat.mul_one, loads, List.length_cons, List.length_nil, Nat.reducePow, h1, h2, hd]
    refine ⟨?_, Kept.refl _⟩
    have : (a == b) = false := by rw [beq_eq_false_iff_ne]; rintro rfl; exact hl rfl
    rw [this]
end Go.Proofs.YtcjdbmcklemkkaaDoor
